import Derived.Test.YtbcecenneganeaaEvD3
set_option linter.all false
namespace Go.Proofs.Ytbcecenneganeaa.Ev
open Go.RowKit

theorem getD_set {listed : Array Bool} {i : Nat} (hi : i < listed.size) (w : Nat) : (listed.setIfInBounds i true).getD w false = if w = i then true else listed.getD w false := by
  simp only [Array.getD_eq_getD_getElem?, Array.getElem?_setIfInBounds]
  by_cases h : i = w
  · subst h; simp [hi]
  · rw [if_neg h, if_neg (fun e => h e.symm)]

theorem getD_fls {listed : Array Bool} {i : Nat} (hi : i < listed.size) (h : listed.getD i true = false) : listed.getD i false = false := by
  simp only [Array.getD_eq_getD_getElem?] at h ⊢
  simp [hi] at h ⊢
  exact h

theorem wanted_rel {β : Env} {s : AS} {a : Act} (hf : FR β s a) {ops : Array Oper} {o : Oper} {b : Bool} (h : wantd s ops o = some b) : Region.wanted o (yielded ops a.tmps) = b := by
  unfold wantd at h
  unfold Region.wanted
  split at h
  · rename_i hg; rw [hg]; simp only; cases h; rfl
  · rename_i j w hg
    rw [hg]
    simp only
    split at h
    · rename_i d hd
      cases hb : Nat.blt d s.nt with
      | false => rw [hb] at h; cases h
      | true =>
        rw [hb, cond_true] at h
        have hlt := blt_lt.1 hb
        have hr := hf.get d hlt
        have hsz : d < a.tmps.size := by rw [hf.size]; exact hlt
        have hget : a.tmps[d]? = some (a.tmps.getD d undef) := by simp [hsz]
        unfold yielded
        rw [hd]
        simp only [Option.bind_some, hget]
        split at h
        · rename_i b' he
          rw [he] at hr
          rw [hr.of_lit]
          cases h
          simp
        · rename_i he
          rw [he] at hr
          obtain ⟨x, e, _⟩ := hr.of_tup
          rw [e]
          cases h
          rfl
        · cases h
    · cases h

section
variable {P : Program} {T : Tab} (hT : TSnd P T) {rec : Rec} (hR : Snd P rec) {D : DI} {ls : List Lay} {fs : List EffR} {vals : Tr AV} {aid own : Tr Nat} (hD : DCert T rec D ls fs vals aid own)
include hT hR hD

/-- One more operation has been done. -/
theorem DInv.next {β0 β β' : Env} {B : Gd} {W W' : World} {listed : Array Bool} {a : Act} {j j' : Nat} {L L' : Lay} (hI : DInv D ls vals aid β0 B listed a W j L β) {i : Nat} {o : Oper} (ho : D.ops[i]? = some o)
    (hdeps : ∀ e ∈ o.after, Region.binds .any e = true → listed.getD e.on false = true) (hun : listed.getD i false = false) {v' : Value} (hv : VR β' (vals.get .any i) v') (hle : β.le β') (hon : Env.on β0 β' D.s0.hs (lN L')) (hL : ls[j']? = some L')
    (hw : WR β' B (lH L') (lN L') W') (hes : ∀ k e, D.es[k]? = some e → ((e = i ∨ listed.getD e false = true) ↔ k < j')) (hid : ∀ i2 o2 id, D.ops[i2]? = some o2 → i2 ≠ i → aid.get 0 i2 = id + 1 → listed.getD i2 false = false → β'.b id = none) :
    DInv D ls vals aid β0 B (listed.setIfInBounds i true) (a.put o.dst v') W' j' L' β' := by
  have hi : i < D.ops.size := (Array.getElem?_eq_some_iff.1 ho).1
  have hil : i < listed.size := by rw [hI.size]; exact hi
  refine ⟨hL, hon, hw, by simp [hI.size], ?_, ?_, ?_, ?_, ?_, ?_⟩
  · intro x ox hx hox e he hb
    rw [getD_set hil] at hx ⊢
    by_cases e1 : x = i
    · subst e1
      rw [ho] at hox; cases hox
      split
      · rfl
      · exact hdeps e he hb
    · rw [if_neg e1] at hx
      split
      · rfl
      · exact hI.cl x ox hx hox e he hb
  · intro k e hk
    rw [getD_set hil]
    rw [← hes k e hk]
    by_cases e1 : e = i
    · simp [e1]
    · simp [e1]
  · cases o.dst with
    | none => exact hI.tsz
    | some d => simp [Act.put, hI.tsz]
  · intro t ht
    have h0 := (hI.tm t ht).mono hle
    cases hdst : o.dst with
    | none =>
      have : tmL D.wt D.s0 vals (fun i_1 => (listed.setIfInBounds i true).getD i_1 false) t = tmL D.wt D.s0 vals (fun i => listed.getD i false) t := by
        unfold tmL
        split
        · rfl
        · rename_i w hwt
          have hwi : w ≠ i := by
            rintro rfl
            obtain ⟨o2, h1, h2⟩ := hD.w.of t w hwt
            rw [ho] at h1; cases h1; rw [hdst] at h2; cases h2
          simp only [getD_set hil, if_neg hwi]
      rw [this]
      exact h0
    | some d =>
      have hwd := hD.w.to i o d ho hdst
      have hdn := hD.dst i o d ho hdst
      rw [put_getD a d v' t (by rw [hI.tsz]; exact hdn)]
      by_cases e1 : t = d
      · subst e1
        rw [if_pos rfl]
        unfold tmL
        rw [hwd]
        simp only [getD_set hil, if_true]
        exact hv
      · rw [if_neg e1]
        have : tmL D.wt D.s0 vals (fun i_1 => (listed.setIfInBounds i true).getD i_1 false) t = tmL D.wt D.s0 vals (fun i => listed.getD i false) t := by
          unfold tmL
          split
          · rfl
          · rename_i w hwt
            have hwi : w ≠ i := by
              rintro rfl
              obtain ⟨o2, h1, h2⟩ := hD.w.of t w hwt
              rw [ho] at h1; cases h1; rw [hdst] at h2; cases h2; exact e1 rfl
            simp only [getD_set hil, if_neg hwi]
        rw [this]
        exact h0
  · have : (a.put o.dst v').defers = a.defers := by cases o.dst <;> rfl
    rw [this]
    exact hI.defs.mono hle
  · intro i2 o2 id ho2 h1 h2
    rw [getD_set hil] at h2
    by_cases e1 : i2 = i
    · rw [if_pos e1] at h2; cases h2
    · rw [if_neg e1] at h2; exact hid i2 o2 id ho2 e1 h1 h2

/-- An operation that doesn't write: how many that write have been done. -/
theorem window {β0 β : Env} {B : Gd} {W : World} {listed : Array Bool} {a : Act} {j : Nat} {L : Lay} (hI : DInv D ls vals aid β0 B listed a W j L β) {i : Nat} {o : Oper} (ho : D.ops[i]? = some o)
    (hdeps : ∀ e ∈ o.after, Region.binds .any e = true → listed.getD e.on false = true) (hun : listed.getD i false = false)
    (h1 : (Nat.beq (loOf D i) 0 || (match D.es[loOf D i - 1]? with | some e => (D.ms.get 0 i).testBit e | none => false)) = true) (h2 : (match D.es[hiOf D i]? with | some e => (D.ms.get 0 e).testBit i | none => Nat.beq (hiOf D i) D.es.length) = true) :
    within_ (loOf D i) (hiOf D i) j = true := by
  have hS : ∀ i, listed.getD i false = true → ∃ o, D.ops[i]? = some o := by
    intro i hi
    have : i < listed.size := by
      rcases Nat.lt_or_ge i listed.size with h | h
      · exact h
      · simp [Array.getElem?_eq_none h] at hi
    rw [hI.size] at this
    exact ⟨D.ops[i], by simp [this]⟩
  unfold within_
  rw [Bool.and_eq_true]
  constructor
  · rw [ble_le]
    rw [Bool.or_eq_true] at h1
    rcases h1 with h1 | h1
    · rw [Nat.eq_of_beq_eq_true h1]; exact Nat.zero_le _
    · split at h1
      · rename_i e he
        have hl := bef hD.m hI.cl hS i o ho hdeps e h1
        have := (hI.es _ _ he).1 hl
        omega
      · cases h1
  · rw [ble_le]
    split at h2
    · rename_i e he
      refine Nat.le_of_not_lt fun hlt => ?_
      have hl := (hI.es _ _ he).2 hlt
      obtain ⟨o', ho'⟩ := hS e hl
      have := bef hD.m hI.cl hS e o' ho' (fun x hx hb => hI.cl e o' hl ho' x hx hb) i h2
      rw [hun] at this; cases this
    · rw [Nat.eq_of_beq_eq_true h2]
      have h3 := (Runs.length hT hR hD).1
      have h4 := (List.getElem?_eq_some_iff.1 hI.lay).1
      omega

end
end Go.Proofs.Ytbcecenneganeaa.Ev
