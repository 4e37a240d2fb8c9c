import Derived.Test.YtbcecenneganeaaEv9
set_option linter.all false
namespace Go.Proofs.Ytbcecenneganeaa.Ev
open Go.RowKit

theorem ble_le {a b : Nat} : Nat.ble a b = true ↔ a ≤ b := by rw [Nat.ble_eq]
theorem blt_lt {a b : Nat} : Nat.blt a b = true ↔ a < b := by rw [Nat.blt_eq]

theorem bnd_rel {β : Env} {s : AS} {a : Act} (hf : FR β s a) {x : Option Operand} {d n : Nat} (h : bnd s x d = some n) :
    (x = none ∧ n = d) ∨ ∃ y k z, x = some y ∧ a.eval y = .int k z ∧ 0 ≤ z ∧ n = z.toNat := by
  unfold bnd at h
  split at h
  · left; cases h; exact ⟨rfl, rfl⟩
  · rename_i y
    split at h
    · rename_i k z hz
      rw [Bool.cond_decide] at h
      split at h
      · rename_i h0
        cases h
        exact .inr ⟨y, k, z, rfl, (opd_rel hf hz).of_lit, h0, rfl⟩
      · cases h
    · cases h

theorem run_bound {P : Program} {W : World} {k : IntKind} {z : Int} {y : Nat} {code : BoundsCode} (h0 : 0 ≤ z) (h1 : z.toNat ≤ y) : (Instr.sliceBound (.int k z) y code).run P W = .ok z.toNat W := by
  have : 0 ≤ z ∧ z ≤ (y : Int) := ⟨h0, by omega⟩
  simp [Instr.sliceBound, asIntOf, this]

theorem run_bounds {P : Program} {W : World} {β : Env} {s : AS} {a : Act} (hf : FR β s a) {lo hi : Option Operand} {iss : Bool} {len cap x y : Nat} (h1 : bnd s lo 0 = some x) (h2 : bnd s hi len = some y) (hxy : x ≤ y) (hy : y ≤ cap) :
    (Instr.sliceBounds iss len cap (lo.map a.eval) (hi.map a.eval) none).run P W = .ok (x, y, cap) W := by
  unfold Instr.sliceBounds
  rcases bnd_rel hf h2 with ⟨rfl, rfl⟩ | ⟨q, k, z, rfl, eq, z0, rfl⟩
  · rcases bnd_rel hf h1 with ⟨rfl, rfl⟩ | ⟨q', k', z', rfl, eq', z0', rfl⟩
    · simp
    · simp [eq', run_bound z0' hxy]
  · rcases bnd_rel hf h1 with ⟨rfl, rfl⟩ | ⟨q', k', z', rfl, eq', z0', rfl⟩
    · simp [eq, run_bound z0 hy]
    · simp [eq, eq', run_bound z0 hy, run_bound z0' hxy]

theorem run_bounds3 {P : Program} {W : World} {β : Env} {s : AS} {a : Act} (hf : FR β s a) {lo hi mx : Option Operand} {iss : Bool} {len cap x y m : Nat} (h1 : bnd s lo 0 = some x) (h2 : bnd s hi len = some y) (h3 : mxb s hi mx = some (some m)) (hxy : x ≤ y) (hy : y ≤ m) (hm : m ≤ cap) :
    (Instr.sliceBounds iss len cap (lo.map a.eval) (hi.map a.eval) (mx.map a.eval)).run P W = .ok (x, y, m) W := by
  unfold mxb at h3
  split at h3
  · cases h3
  · rename_i mo ho
    split at h3
    · rename_i k hk
      cases h3
      rcases bnd_rel hf hk with ⟨e, _⟩ | ⟨qm, km, zm, em, eqm, zm0, rfl⟩
      · cases e
      cases em
      unfold Instr.sliceBounds
      rcases bnd_rel hf h2 with ⟨e, _⟩ | ⟨q, k, z, e, eq, z0, rfl⟩
      · cases e
      cases e
      rcases bnd_rel hf h1 with ⟨rfl, rfl⟩ | ⟨q', k', z', rfl, eq', z0', rfl⟩
      · simp [eq, eqm, run_bound z0 hy, run_bound zm0 hm]
      · simp [eq, eqm, eq', run_bound z0 hy, run_bound zm0 hm, run_bound z0' hxy]
    · cases h3
  · cases h3

section
variable {P : Program} {T : Tab} (hT : TOk P T) {β : Env} {s : AS} {a : Act} (hf : FR β s a)
include hT hf

/-- What a slice expression of a slice comes to. -/
theorem slcV_rel {o off len size x y : Nat} {cap : ACap} {m : Option Nat} {v : AV} {k : Bk} {c : Nat} (h : slcV o off len cap size x y m = some v) (hk : β.b o = some k) (hX : ∀ n, cap = .ex n → c = n)
    (hO : ∀ z, cap = .op z → k.esz = z ∧ k.sh + off + c * z = k.sz ∧ len ≤ c) :
    x ≤ y ∧ y ≤ (m.getD c) ∧ m.getD c ≤ c ∧ VR β v (.slice (some (if m.getD c = x then (⟨k.blk, k.sh + off, none⟩ : Addr) else ⟨k.blk, k.sh + off + x * size, none⟩)) (y - x) (m.getD c - x)) := by
  unfold slcV at h
  split at h
  · rename_i c'
    obtain rfl := hX _ rfl
    cases hb : (Nat.ble x y && Nat.ble y c) with
    | false => rw [hb] at h; cases h
    | true =>
      rw [hb, cond_true, beq_if] at h; cases h
      simp only [Bool.and_eq_true, ble_le] at hb
      refine ⟨hb.1, hb.2, Nat.le_refl _, ?_⟩
      simp only [Option.getD_none]
      split
      · exact VR.slcX _ _ _ _ k hk
      · rw [Nat.add_assoc]; exact VR.slcX _ _ _ _ k hk
  · rename_i c' m'
    obtain rfl := hX _ rfl
    cases hb : (Nat.ble x y && Nat.ble y m' && Nat.ble m' c) with
    | false => rw [hb] at h; cases h
    | true =>
      rw [hb, cond_true, beq_if] at h; cases h
      simp only [Bool.and_eq_true, ble_le] at hb
      refine ⟨hb.1.1, hb.1.2, hb.2, ?_⟩
      simp only [Option.getD_some]
      split
      · exact VR.slcX _ _ _ _ k hk
      · rw [Nat.add_assoc]; exact VR.slcX _ _ _ _ k hk
  · rename_i z
    obtain ⟨hz, hc, hlen⟩ := hO z rfl
    cases hb : (Nat.ble x y && Nat.ble y len && Nat.beq z size) with
    | false => rw [hb] at h; cases h
    | true =>
      rw [hb, cond_true] at h
      simp only [Bool.and_eq_true, ble_le] at hb
      have hsz : z = size := Nat.eq_of_beq_eq_true hb.2
      subst hsz
      refine ⟨hb.1.1, Nat.le_trans hb.1.2 hlen, Nat.le_refl _, ?_⟩
      simp only [Option.getD_none]
      cases hb2 : (Nat.blt x len || Nat.beq x 0) with
      | true =>
        rw [hb2, cond_true] at h; cases h
        have hb2' : x < len ∨ x = 0 := by
          simp only [Bool.or_eq_true, blt_lt] at hb2
          exact hb2.imp id Nat.eq_of_beq_eq_true
        have hx : x ≤ c := by omega
        have hcap : k.sh + (off + x * z) + (c - x) * z = k.sz := by
          have : c * z = x * z + (c - x) * z := by rw [← Nat.add_mul]; congr 1; omega
          omega
        split
        · rename_i e
          rcases hb2' with hb2 | hb2
          · omega
          · subst hb2
            simp only [Nat.zero_mul, Nat.add_zero] at hcap ⊢
            exact VR.slcO _ _ _ _ _ k hk hz (by simpa using hcap) (by omega)
        · rw [Nat.add_assoc]; exact VR.slcO _ _ _ _ _ k hk hz hcap (by omega)
      | false =>
        rw [hb2, cond_false] at h; cases h
        simp only [Bool.or_eq_false_iff] at hb2
        have hxl : len ≤ x := by
          refine Nat.le_of_not_lt fun hlt => ?_
          have := blt_lt.2 hlt; rw [this] at hb2; cases hb2.1
        have : y - x = 0 := by omega
        rw [this]
        exact VR.emp _ _
  · rename_i z m'
    obtain ⟨hz, hc, hlen⟩ := hO z rfl
    cases hb : (Nat.ble x y && Nat.ble y m' && Nat.ble m' len) with
    | false => rw [hb] at h; cases h
    | true =>
      rw [hb, cond_true, beq_if] at h; cases h
      simp only [Bool.and_eq_true, ble_le] at hb
      refine ⟨hb.1.1, hb.1.2, Nat.le_trans hb.2 hlen, ?_⟩
      simp only [Option.getD_some]
      split
      · exact VR.slcX _ _ _ _ k hk
      · rw [Nat.add_assoc]; exact VR.slcX _ _ _ _ k hk

omit hT hf in
/-- A part of a list. -/
theorem sub_rel {β : Env} {es : List AV} {vs : List Value} {sz b o size x y M : Nat} {tk : ATk} (g1 : VRs β (es.flatMap AV.cells) vs) (g2 : ∀ e ∈ es, e.cells.length = sz) (g3 : 0 < sz) (g4 : ∀ (i : Nat) v, vs[i]? = some v → β.fz b (o + i) = some v)
    (hs : es.all (sizeOk size) = true) (hxy : x ≤ y) (hy : y ≤ es.length) (hyM : y ≤ M) (ht : tk = .no ∨ (tk = .full ∧ M = y)) :
    VR β (.lst tk ((es.take y).drop x)) (.slice (some (if M = x then (⟨b, o, none⟩ : Addr) else ⟨b, o + x * size, none⟩)) (y - x) (M - x)) := by
  have hlen : ((es.take y).drop x).length = y - x := by simp; omega
  by_cases hlt : x < y
  · rw [if_neg (by omega)]
    have hx : x < es.length := by omega
    have hmem : es[x] ∈ es := List.getElem_mem hx
    have hsz : sz = size := by
      rw [← g2 _ hmem]; exact sizeOk_iff.1 (List.all_eq_true.1 hs _ hmem)
    subst hsz
    have g2' : ∀ e ∈ (es.take y), e.cells.length = sz := fun e he => g2 e (List.mem_of_mem_take he)
    have hr := (g1.take (y * sz)).drop (x * sz)
    rw [flat_take g2, flat_drop g2'] at hr
    rw [← hlen]
    refine VR.lst tk sz _ _ b _ _ hr (fun e he => g2 e (List.mem_of_mem_take (List.mem_of_mem_drop he))) g3 (fun i v hi => ?_) (by omega) ?_
    · rw [List.getElem?_drop, List.getElem?_take] at hi
      split at hi
      · rw [Nat.add_assoc]; exact g4 _ _ hi
      · cases hi
    · rcases ht with rfl | ⟨rfl, rfl⟩
      · trivial
      · show _ = _
        rw [hlen]
  · have hxy' : x = y := by omega
    subst hxy'
    have : (es.take x).drop x = [] := List.eq_nil_of_length_eq_zero (by omega)
    rw [this, Nat.sub_self]
    refine VR.lstE _ _ _ (fun e => ?_) (fun o e => ?_)
    · rcases ht with rfl | ⟨rfl, h⟩
      · cases e
      · omega
    · rcases ht with rfl | ⟨rfl, h⟩ <;> cases e

end
end Go.Proofs.Ytbcecenneganeaa.Ev
