import Derived.Test.YtbcecenneganeaaEv17
import Derived.Lib.ConvBytes
import Derived.Laws.AppendOwn
set_option linter.all false
namespace Go.Proofs.Ytbcecenneganeaa.Ev
open Go.RowKit Go.Builtin

/-- One block more. -/
theorem WR.newBlock {β : Env} {B : Gd} {H : Tr AO} {hs : Nat} {W W' : World} (h : WR β B H hs W) (ho : W'.os = W.os) (ht : W'.tape = W.tape) (hu : W'.output = W.output) (hsz : W'.heap.size = W.heap.size + 1) (hold : ∀ j, j < W.heap.size → W'.heap[j]? = W.heap[j]?)
    (x : Obj) (hnew : W'.heap[W.heap.size]? = some x) (A : AO) (sz esz : Nat) (hA : ORel (β.add hs ⟨W.heap.size, 0, sz, esz⟩) B.pr A ⟨W.heap.size, 0, sz, esz⟩ (some x)) : WR (β.add hs ⟨W.heap.size, 0, sz, esz⟩) B (H.put .dead hs A) (hs + 1) W' := by
  have hle := Env.le_add (k := ⟨W.heap.size, 0, sz, esz⟩) (h.dom hs (Nat.le_refl _))
  refine ⟨h.below.trans ⟨ho, ht, hu, by omega, fun k hk => hold k (Nat.lt_of_lt_of_le (B.lt k hk) h.below.size)⟩, ?_, ?_, ?_, ?_, fun b i v hv => (by rw [hold _ (h.fz_lt hv)]; exact h.fz b i v hv), fun r x hx => (by rw [hold _ (heap_lt (h.fm r x hx))]; exact h.fm r x hx), ?_, h.gfz, h.gfm⟩
  · intro j hj; rw [Env.add_other _ _ (by omega)]; exact h.dom j (by omega)
  · intro j k hk
    rw [Tr.get_put]
    by_cases e : j = hs
    · subst e; rw [Env.add_self] at hk; cases hk; rw [if_pos rfl, hnew]; exact hA
    · rw [Env.add_other _ _ e] at hk; rw [if_neg e, hold _ (h.blk j k hk)]; exact (h.obj j k hk).mono hle
  · intro j k hk
    by_cases e : j = hs
    · subst e; rw [Env.add_self] at hk; cases hk; rw [hsz]; exact Nat.lt_succ_self _
    · rw [Env.add_other _ _ e] at hk; have := h.blk j k hk; omega
  · intro j j' k k' hne hk hk' ho hl
    rw [Tr.get_put] at ho hl
    by_cases e : j = hs
    · subst e; rw [Env.add_self] at hk; cases hk
      rw [Env.add_other _ _ (fun x => hne x.symm)] at hk'; have := h.blk j' k' hk'; simp only; omega
    · rw [Env.add_other _ _ e] at hk; rw [if_neg e] at ho
      by_cases e' : j' = hs
      · subst e'; rw [Env.add_self] at hk'; cases hk'; have := h.blk j k hk; simp only; omega
      · rw [Env.add_other _ _ e'] at hk'; rw [if_neg e'] at hl; exact h.inj j j' k k' hne hk hk' ho hl
  · intro j k hk ho
    rw [Tr.get_put] at ho
    by_cases e : j = hs
    · subst e; rw [Env.add_self] at hk; cases hk
      exact ⟨fun off _ => h.fz_new _ _ (Nat.le_refl _), h.fm_new _ (Nat.le_refl _)⟩
    · rw [Env.add_other _ _ e] at hk; rw [if_neg e] at ho
      rw [Tr.get_put, if_neg e]; exact h.apart j k hk ho

/-- The bytes of a string, in a row of their own. -/
theorem bytes_rel {β : Env} {B : Gd} {H : Tr AO} {hs : Nat} {W : World} (h : WR β B H hs W) (e : TypeId) (l : List UInt8) :
    ∃ β', β.le β' ∧ (∀ o, o < hs → β'.b o = β.b o) ∧ WR β' B (H.put .dead hs (.cells (l.map fun b => .lit (.int .u8 b.toNat)) false)) (hs + 1) (Lib.bytesWorld W e ⟨l.toArray⟩) ∧
      VR β' (.slc hs 0 l.length (.op 1)) (.slice (some ⟨W.heap.size, 0, none⟩) (ByteArray.size ⟨l.toArray⟩) (grownCap W (ByteArray.size ⟨l.toArray⟩) 0 e)) := by
  have hsz : ByteArray.size ⟨l.toArray⟩ = l.length := by simp [ByteArray.size]
  have hge := grownCap_ge W (ByteArray.size ⟨l.toArray⟩) 0 e
  have hbc : (Lib.bytesCells W e ⟨l.toArray⟩).size = grownCap W (ByteArray.size ⟨l.toArray⟩) 0 e := by
    simp only [Lib.bytesCells, Array.size_append, Array.size_map, Array.size_replicate]
    have : (l.toArray).size = ByteArray.size ⟨l.toArray⟩ := rfl
    omega
  have hd := h.dom hs (Nat.le_refl _)
  have hle := Env.le_add (k := ⟨W.heap.size, 0, (Lib.bytesCells W e ⟨l.toArray⟩).size, 1⟩) hd
  refine ⟨β.add hs ⟨W.heap.size, 0, (Lib.bytesCells W e ⟨l.toArray⟩).size, 1⟩, hle, fun o ho => Env.add_other _ _ (by omega), ?_, ?_⟩
  · refine h.newBlock (W' := Lib.bytesWorld W e ⟨l.toArray⟩) (by rfl) (by rfl) (by rfl) (Lib.bytesWorld_size W e _) (fun j hj => Lib.bytesWorld_at_old W e _ j hj) _ (Lib.bytesWorld_at_new W e _) _ _ _ ?_
    refine ⟨_, _, _, rfl, rfl, ?_, .inr (Nat.le_refl _), ⟨fun _ => h.new, fun x => by cases x⟩, fun i x hx => ?_⟩
    · simp only [List.length_map, Nat.zero_add]; rw [hbc]; omega
    · have hlt : i < l.length := by
        have := (List.getElem?_eq_some_iff.1 hx).1
        simpa using this
      rw [List.getElem?_map, List.getElem?_eq_getElem hlt] at hx
      simp only [Option.map_some, Option.some.injEq] at hx
      subst hx
      refine ⟨_, ?_, VR.lit _⟩
      simp only [Nat.zero_add, Lib.bytesCells]
      rw [Array.getElem?_append_left (by simpa using hlt)]
      simp [hlt]
  · have := VR.slcO (β := β.add hs ⟨W.heap.size, 0, (Lib.bytesCells W e ⟨l.toArray⟩).size, 1⟩) hs 0 l.length (grownCap W (ByteArray.size ⟨l.toArray⟩) 0 e) 1 _ (Env.add_self _ _ _) rfl (by
      simp only [Nat.zero_add, Nat.mul_one]; exact hbc.symm) (by omega)
    rw [hsz]
    rw [hsz] at this
    simpa using this

/-- The bytes of a string, as a list. -/
theorem bytesL_rel {β : Env} {B : Gd} {H : Tr AO} {hs : Nat} {W : World} (h : WR β B H hs W) (e : TypeId) (l : List UInt8) :
    ∃ β', β.le β' ∧ (∀ o, o < hs → β'.b o = β.b o) ∧ WR β' B (H.put .dead hs (.room 1)) (hs + 1) (Lib.bytesWorld W e ⟨l.toArray⟩) ∧
      VR β' (.lst (.room hs) (l.map fun b => .lit (.int .u8 b.toNat))) (.slice (some ⟨W.heap.size, 0, none⟩) (ByteArray.size ⟨l.toArray⟩) (grownCap W (ByteArray.size ⟨l.toArray⟩) 0 e)) := by
  have hsz : ByteArray.size ⟨l.toArray⟩ = l.length := by simp [ByteArray.size]
  have hge := grownCap_ge W (ByteArray.size ⟨l.toArray⟩) 0 e
  have hbc : (Lib.bytesCells W e ⟨l.toArray⟩).size = grownCap W (ByteArray.size ⟨l.toArray⟩) 0 e := by
    simp only [Lib.bytesCells, Array.size_append, Array.size_map, Array.size_replicate]
    have : (l.toArray).size = ByteArray.size ⟨l.toArray⟩ := rfl
    omega
  have hfl : (l.map fun b => AV.lit (.int .u8 b.toNat)).flatMap AV.cells = l.map fun b => AV.lit (.int .u8 b.toNat) := by
    clear hsz hge hbc
    induction l with
    | nil => rfl
    | cons b l ih => rw [List.map_cons, List.flatMap_cons, ih]; rfl
  have hr : VRs β ((l.map fun b => AV.lit (.int .u8 b.toNat)).flatMap AV.cells) (l.map fun b => Value.int .u8 b.toNat) := by
    rw [hfl]
    clear hsz hge hbc hfl
    induction l with
    | nil => exact .nil
    | cons b l ih => exact .cons _ _ _ _ (.lit _) ih
  exact h.grownL (W' := Lib.bytesWorld W e ⟨l.toArray⟩) (e := e) (arr := Lib.bytesCells W e ⟨l.toArray⟩) (size := 1) hr (fun x hx => by
    obtain ⟨b, _, rfl⟩ := List.mem_map.1 hx; rfl) (by omega) (fun i v hi => by
    have hlt : i < l.length := by
      have := (List.getElem?_eq_some_iff.1 hi).1
      simpa using this
    rw [List.getElem?_map, List.getElem?_eq_getElem hlt] at hi
    simp only [Option.map_some, Option.some.injEq] at hi
    subst hi
    simp only [Lib.bytesCells]
    rw [Array.getElem?_append_left (by simpa using hlt)]
    simp [hlt]) (by simp [hsz]) (by rw [hbc]; simp) (by omega)
    ⟨rfl, rfl, rfl, by rw [Lib.bytesWorld_size]; omega, fun j hj => Lib.bytesWorld_at_old W e _ j hj⟩ (Lib.bytesWorld_size W e _) _ (.inr (Nat.le_refl _)) (Lib.bytesWorld_at_new W e _)

end Go.Proofs.Ytbcecenneganeaa.Ev
