import Derived.Test.YtcledcfeddlomaaGreatDoorEvZ2
set_option linter.all false
namespace Go.Proofs.YtcledcfeddlomaaGreatDoor.Ev
open Go Go.RowKit
/-! ### Words and texts -/
def noB (w : List UInt8) : Prop := (32 : UInt8) ∉ w
def spl : List UInt8 → List (List UInt8)
  | [] => [[]]
  | c :: l => if c = 32 then [] :: spl l else match spl l with | [] => [[c]] | w :: ws => (c :: w) :: ws
theorem spl_app (r : List UInt8) : ∀ w : List UInt8, noB w → spl (w ++ (32 :: r)) = w :: spl r
  | [], _ => by simp [spl]
  | c :: w, h => by
    have h1 : c ≠ 32 := fun e => h (by simp [e])
    have h2 : noB w := fun e => h (by simp [e])
    rw [List.cons_append, spl, if_neg h1, spl_app r w h2]
theorem spl_one : ∀ w : List UInt8, noB w → spl w = [w]
  | [], _ => rfl
  | c :: w, h => by
    have h1 : c ≠ 32 := fun e => h (by simp [e])
    have h2 : noB w := fun e => h (by simp [e])
    rw [spl, if_neg h1, spl_one w h2]
theorem spl_join : ∀ xs : List (List UInt8), xs ≠ [] → (∀ w ∈ xs, noB w) → spl (joinS [32] xs) = xs
  | [], h, _ => (h rfl).elim
  | [a], _, h => by rw [joinS, spl_one a (h a (by simp))]
  | a :: b :: l, _, h => by
    rw [joinS, List.singleton_append, spl_app _ a (h a (by simp)), spl_join (b :: l) (by simp) (fun w hw => h w (by simp at hw ⊢; exact .inr hw))]
theorem joinS_inj {xs ys : List (List UInt8)} (h1 : xs ≠ []) (h2 : ys ≠ []) (h3 : ∀ w ∈ xs, noB w) (h4 : ∀ w ∈ ys, noB w) (h : joinS [32] xs = joinS [32] ys) : xs = ys := by
  rw [← spl_join xs h1 h3, ← spl_join ys h2 h4, h]
theorem joinS_len (sep : List UInt8) {B : Nat} : ∀ xs : List (List UInt8), (∀ w ∈ xs, w.length ≤ B) → (joinS sep xs).length ≤ xs.length * (B + sep.length)
  | [], _ => by simp [joinS]
  | [a], h => by have := h a (by simp); simp [joinS]; omega
  | a :: b :: l, h => by
    have h1 := h a (by simp)
    have h2 := joinS_len sep (B := B) (b :: l) (fun w hw => h w (by simp at hw ⊢; exact .inr hw))
    rw [joinS, List.length_append, List.length_append]
    rw [List.length_cons (as := b :: l), Nat.succ_mul]
    omega
/-! ### Numbers as words -/
def valR : List UInt8 → Nat
  | [] => 0
  | c :: l => (c.toNat - 48) + 10 * valR l
theorem dig_nat {u : Nat} (h : u < 10) : ((48 + u).toUInt8).toNat = 48 + u := by
  rw [Nat.toUInt8, UInt8.toNat_ofNat']; omega
theorem digsR_val : ∀ (f u : Nat), u < 10 ^ (f + 1) → valR (digsR (f + 1) u) = u
  | 0, u, h => by
    have h' : u < 10 := by simpa using h
    rw [digsR, blt_lt.2 h', cond_true, valR, valR, dig_nat h']; omega
  | f + 1, u, h => by
    rw [digsR]
    cases hb : Nat.blt u 10 with
    | true =>
      have := blt_lt.1 hb
      rw [cond_true, valR, valR, dig_nat this]; omega
    | false =>
      have hn : ¬ u < 10 := fun h' => by rw [blt_lt.2 h'] at hb; cases hb
      rw [cond_false, valR, digsR_val f (u / 10) (by rw [Nat.pow_succ] at h; omega), dig_nat (Nat.mod_lt _ (by omega))]; omega
theorem digsR_dig : ∀ (f u : Nat), ∀ c ∈ digsR f u, 48 ≤ c.toNat ∧ c.toNat ≤ 57
  | 0, u, c, h => by cases h
  | f + 1, u, c, h => by
    rw [digsR] at h
    cases hb : Nat.blt u 10 with
    | true =>
      rw [hb, cond_true, List.mem_singleton] at h
      subst h
      rw [dig_nat (blt_lt.1 hb)]
      have := blt_lt.1 hb; omega
    | false =>
      rw [hb, cond_false, List.mem_cons] at h
      rcases h with rfl | h
      · rw [dig_nat (Nat.mod_lt _ (by omega))]; omega
      · exact digsR_dig f _ c h
theorem digsN_inj {u v : Nat} (hu : u < 10 ^ 30) (hv : v < 10 ^ 30) (h : digsN u = digsN v) : u = v := by
  have h1 : digsR 30 u = digsR 30 v := by
    have := congrArg List.reverse h
    simpa [digsN] using this
  rw [← digsR_val 29 u hu, ← digsR_val 29 v hv, h1]
theorem digsN_dig (u : Nat) : ∀ c ∈ digsN u, 48 ≤ c.toNat ∧ c.toNat ≤ 57 := fun c h => digsR_dig 30 u c (by simpa [digsN] using h)
theorem digsN_len (u : Nat) : (digsN u).length ≤ 30 := by
  have : ∀ f u, (digsR f u).length ≤ f := by
    intro f
    induction f with
    | zero => intro u; exact Nat.le_refl _
    | succ f ih => intro u; rw [digsR]; cases Nat.blt u 10 <;> simp [ih]
  unfold digsN; rw [List.length_reverse]; exact this 30 u
theorem numT_len (n : Int) : (numT n).length ≤ 31 := by
  unfold numT
  cases decide (n < 0) with
  | true => rw [cond_true, List.length_cons]; have := digsN_len n.natAbs; omega
  | false => rw [cond_false]; have := digsN_len n.toNat; omega
theorem numT_noB (n : Int) : noB (numT n) := by
  have key : ∀ u, noB (digsN u) := fun u h => by have := digsN_dig u 32 h; exact absurd this.1 (by decide)
  unfold numT
  cases decide (n < 0) with
  | true =>
    rw [cond_true]; intro h
    rcases List.mem_cons.1 h with h | h
    · exact absurd h (by decide)
    · exact key _ h
  | false => exact key _
theorem numT_inj {n m : Int} (h0 : -9223372036854775808 ≤ n) (h1 : n ≤ 9223372036854775807) (h2 : -9223372036854775808 ≤ m) (h3 : m ≤ 9223372036854775807) (h : numT n = numT m) : n = m := by
  have key : ∀ (u : Nat) (l : List UInt8), digsN u = 45 :: l → False := fun u l e => by
    have := digsN_dig u 45 (by rw [e]; simp)
    exact absurd this.1 (by decide)
  unfold numT at h
  by_cases a : n < 0
  · rw [decide_eq_true a, cond_true] at h
    by_cases b : m < 0
    · rw [decide_eq_true b, cond_true] at h
      have := digsN_inj (by omega) (by omega) (List.cons.inj h).2
      omega
    · rw [decide_eq_false b, cond_false] at h
      exact (key _ _ h.symm).elim
  · rw [decide_eq_false a, cond_false] at h
    by_cases b : m < 0
    · rw [decide_eq_true b, cond_true] at h
      exact (key _ _ h).elim
    · rw [decide_eq_false b, cond_false] at h
      have := digsN_inj (by omega) (by omega) h
      omega
end Go.Proofs.YtcledcfeddlomaaGreatDoor.Ev
