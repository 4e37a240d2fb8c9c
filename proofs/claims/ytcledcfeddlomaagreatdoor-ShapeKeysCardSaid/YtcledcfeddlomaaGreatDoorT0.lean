import Derived.Test.YtcledcfeddlomaaGreatDoorEvZ2
set_option linter.all false
namespace Go.Proofs.YtcledcfeddlomaaGreatDoor.Ev
open Go Go.RowKit
def noB (w : List UInt8) : Prop := (32 : UInt8) ∉ w
def spl : List UInt8 -> List (List UInt8)
 | [] => [[]]
 | c :: l => if c = 32 then [] :: spl l else match spl l with | [] => [[c]] | w :: ws => (c :: w) :: ws
theorem joinS_len (sep : List UInt8) {B : Nat} : ∀ xs : List (List UInt8), (∀ w ∈ xs, w.length <= B) -> (joinS sep xs).length <= xs.length * (B + sep.length)
 | [], _ => by simp [joinS]
 | [a], h => by have := h a (by simp); simp [joinS]; omega
 | a :: b :: l, h => by
  have h1 := h a (by simp)
  have h2 := joinS_len sep (B := B) (b :: l) (fun w hw => h w (by simp at hw ⊢; exact .inr hw))
  rw [joinS, List.length_append, List.length_append]
  rw [List.length_cons (as := b :: l), Nat.succ_mul]
  omega
theorem dig_nat {u : Nat} (h : u < 10) : ((48 + u).toUInt8).toNat = 48 + u := by
 rw [Nat.toUInt8, UInt8.toNat_ofNat']; omega
theorem digsR_dig : ∀ (f u : Nat), ∀ c ∈ digsR f u, 48 <= c.toNat /\ c.toNat <= 57
 | 0, u, c, h => by cases h
 | f + 1, u, c, h => by
  rw [digsR] at h
  cases hb : Nat.blt u 10 with
  | true =>
   rw [hb, cond_true, List.mem_singleton] at h
   subst h
   rw [dig_nat (blt_lt.1 hb)]
   have := blt_lt.1 hb; omega
  | false =>
   rw [hb, cond_false, List.mem_cons] at h
   rcases h with rfl | h
   ·rw [dig_nat (Nat.mod_lt _ (by omega))]; omega
   ·exact digsR_dig f _ c h
theorem digsN_dig (u : Nat) : ∀ c ∈ digsN u, 48 <= c.toNat /\ c.toNat <= 57 := fun c h => digsR_dig 30 u c (by simpa [digsN] using h)
theorem digsN_len (u : Nat) : (digsN u).length <= 30 := by
 have : ∀ f u, (digsR f u).length <= f := by
  intro f
  induction f with
  | zero => intro u; exact Nat.le_refl _
  | succ f ih => intro u; rw [digsR]; cases Nat.blt u 10 <;> simp [ih]
 unfold digsN; rw [List.length_reverse]; exact this 30 u
theorem numT_len (n : Int) : (numT n).length <= 31 := by
 unfold numT
 cases decide (n < 0) with
 | true => rw [cond_true, List.length_cons]; have := digsN_len n.natAbs; omega
 | false => rw [cond_false]; have := digsN_len n.toNat; omega
theorem numT_noB (n : Int) : noB (numT n) := by
 have key : ∀ u, noB (digsN u) := fun u h => by have := digsN_dig u 32 h; exact absurd this.1 (by decide)
 unfold numT
 cases decide (n < 0) with
 | true =>
  rw [cond_true]; intro h
  rcases List.mem_cons.1 h with h | h
  ·exact absurd h (by decide)
  ·exact key _ h
 | false => exact key _
end Go.Proofs.YtcledcfeddlomaaGreatDoor.Ev
