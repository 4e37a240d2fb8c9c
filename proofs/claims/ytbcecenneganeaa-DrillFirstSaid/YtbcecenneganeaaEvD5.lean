import Derived.Test.YtbcecenneganeaaEvD4
set_option linter.all false
namespace Go.Proofs.Ytbcecenneganeaa.Ev
open Go.RowKit

/-- What was looked at of one operation that doesn't write. -/
def OpChk (T : Tab) (D : DI) (ls : List Lay) (vals : Tr AV) (aid own : Tr Nat) (i : Nat) (o : Oper) (rv : List (Nat × AV)) : Prop :=
  (wantd (stOf D rv .lf 0) D.ops o = some false ∧ vals.get .any i = udef ∧ aid.get 0 i = 0) ∨
  (wantd (stOf D rv .lf 0) D.ops o = some true ∧ ∃ id A, aid.get 0 i = id + 1 ∧ own.get 0 id = i + 1 ∧ newOp T (stOf D rv .lf 0) id o.op = some (A, vals.get .any i) ∧
    ∀ k L, ls[k]? = some L → (within_ (loOf D i) (hiOf D i) k = true → (lH L).get .dead id = A) ∧ (loOf D i ≤ k → id < lN L)) ∨
  (wantd (stOf D rv .lf 0) D.ops o = some true ∧ aid.get 0 i = 0 ∧ (pureOp T (stOf D rv .lf 0) o.op = some (vals.get .any i) ∨ newOp T (stOf D rv .lf 0) 0 o.op = some (.dead, vals.get .any i))) ∨
  (wantd (stOf D rv .lf 0) D.ops o = some true ∧ aid.get 0 i = 0 ∧ ∀ k L, ls[k]? = some L → within_ (loOf D i) (hiOf D i) k = true →
    (pureOp T (stOf D rv .lf 0) o.op = some (vals.get .any i) ∨ readOp T (stOf D rv .lf 0) (lH L) o.op = some (vals.get .any i)))

theorem prOp_cases {T : Tab} {s : AS} {H : Tr AO} {op : Op} {v : AV} (h : prOp T s H op = some v) : pureOp T s op = some v ∨ readOp T s H op = some v := by
  unfold prOp at h
  split at h
  · exact .inl h
  · exact .inr h
  · split at h
    · rename_i v' hv; cases h; exact .inl hv
    · exact .inr h
  · cases h

theorem chkOp_inv {T : Tab} {D : DI} {ls : List Lay} {vals : Tr AV} {aid own : Tr Nat} {i : Nat} {o : Oper} (h : chkOp T D ls vals aid own i o = true) :
    (Nat.beq (loOf D i) 0 || (match D.es[loOf D i - 1]? with | some e => (D.ms.get 0 i).testBit e | none => false)) = true ∧
    (match D.es[hiOf D i]? with | some e => (D.ms.get 0 e).testBit i | none => Nat.beq (hiOf D i) D.es.length) = true ∧
    ∃ rv, rvals D vals i (readsOf D.ops o) = some rv ∧ OpChk T D ls vals aid own i o rv := by
  unfold chkOp at h
  simp only [Bool.and_eq_true] at h
  obtain ⟨⟨h1, h2⟩, h3⟩ := h
  refine ⟨h1, h2, ?_⟩
  split at h3
  · cases h3
  · rename_i rv hrv
    refine ⟨rv, hrv, ?_⟩
    split at h3
    · cases h3
    · rename_i hw
      simp only [Bool.and_eq_true] at h3
      exact .inl ⟨hw, same_is h3.1, Nat.eq_of_beq_eq_true h3.2⟩
    · rename_i hw
      rw [beq_if] at h3
      split at h3
      · split at h3
        · rename_i h0
          split at h3
          · rename_i v hv
            rw [same_is h3] at hv
            exact .inr (.inr (.inl ⟨hw, h0, .inr hv⟩))
          · cases h3
        · rename_i id hid
          simp only [Bool.and_eq_true] at h3
          obtain ⟨ho, h3⟩ := h3
          split at h3
          · rename_i A v hnew
            simp only [Bool.and_eq_true] at h3
            rw [same_is h3.1] at hnew
            refine .inr (.inl ⟨hw, id, A, hid, Nat.eq_of_beq_eq_true ho, hnew, fun k L hk => ?_⟩)
            have := allLay_get h3.2 k L hk
            simp only [Nat.zero_add, Bool.and_eq_true, Bool.or_eq_true, Bool.not_eq_true'] at this
            refine ⟨fun hwi => ?_, fun hlo => ?_⟩
            · rcases this.1 with h | h
              · rw [hwi] at h; cases h
              · exact sameO_is h
            · rcases this.2 with h | h
              · rw [ble_le.2 hlo] at h; cases h
              · exact blt_lt.1 h
          · cases h3
      · simp only [Bool.and_eq_true] at h3
        have ha := Nat.eq_of_beq_eq_true h3.1
        have h3 := h3.2
        split at h3
        · split at h3
          · rename_i v hv
            rw [same_is h3] at hv
            exact .inr (.inr (.inl ⟨hw, ha, .inl hv⟩))
          · cases h3
        · refine .inr (.inr (.inr ⟨hw, ha, fun k L hk hwi => ?_⟩))
          have := allLay_get h3 k L hk
          simp only [Nat.zero_add, Bool.or_eq_true, Bool.not_eq_true'] at this
          rcases this with h | h
          · rw [hwi] at h; cases h
          · split at h
            · rename_i v hv
              rw [same_is h] at hv
              exact prOp_cases hv
            · cases h

section
variable {P : Program} {T : Tab} (hT : TSnd P T) {rec : Rec} (hR : Snd P rec) {D : DI} {ls : List Lay} {fs : List EffR} {vals : Tr AV} {aid own : Tr Nat} (hD : DCert T rec D ls fs vals aid own)
include hT hR hD

omit hT hR in
/-- A thing that an operation makes. -/
theorem aid_spec {i : Nat} {o : Oper} {id : Nat} (ho : D.ops[i]? = some o) (hid : aid.get 0 i = id + 1) :
    own.get 0 id = i + 1 ∧ chkIds ls 0 (loOf D i) id = true ∧ ∀ k L, ls[k]? = some L → loOf D i ≤ k → id < lN L := by
  have h := chkAll_get hD.all i o (by simpa using ho)
  simp only [Nat.zero_add] at h
  split at h
  · rename_i hc
    have hm : i ∈ D.es := by simpa using h
    obtain ⟨k, hk⟩ := List.getElem?_of_mem hm
    obtain ⟨f, o', _, _, _, h4, _⟩ := chkEff_get hD.eff k i hk
    rw [hid] at h4; cases h4
  · obtain ⟨h1, _, h3⟩ := h
    obtain ⟨_, _, rv, _, hc⟩ := chkOp_inv h1
    rcases hc with ⟨_, _, h0⟩ | ⟨_, id', A, h4, h5, _, h6⟩ | ⟨_, h0, _⟩ | ⟨_, h0, _⟩
    · rw [hid] at h0; cases h0
    · rw [hid] at h4; cases h4
      exact ⟨h5, h3 id hid, fun k L hk hlo => (h6 k L hk).2 hlo⟩
    · rw [hid] at h0; cases h0
    · rw [hid] at h0; cases h0

omit hT hR in
theorem es_inj {k k' e : Nat} (h : D.es[k]? = some e) (h' : D.es[k']? = some e) : k = k' := by
  have key : ∀ (d k e f : Nat), D.es[k]? = some e → D.es[k + d + 1]? = some f → e < f := by
    intro d
    induction d with
    | zero =>
      intro k e f h1 h2
      obtain ⟨_, o', _, _, _, _, ho, _⟩ := chkEff_get hD.eff _ _ h2
      exact bit_lt hD.m f ⟨o', ho⟩ e (chain_get hD.ch k e f h1 h2)
    | succ d ih =>
      intro k e f h1 h2
      have hlt := (List.getElem?_eq_some_iff.1 h2).1
      have h3 : D.es[k + 1]? = some (D.es[k + 1]'(by omega)) := by simp
      obtain ⟨_, o', _, _, _, _, ho, _⟩ := chkEff_get hD.eff _ _ h3
      have h4 := bit_lt hD.m _ ⟨o', ho⟩ e (chain_get hD.ch k e _ h1 h3)
      have h5 := ih (k + 1) _ f h3 (by rw [show k + 1 + d + 1 = k + (d + 1) + 1 from by omega]; exact h2)
      omega
  rcases Nat.lt_trichotomy k k' with hlt | heq | hgt
  · have := key (k' - k - 1) k e e h (by rw [show k + (k' - k - 1) + 1 = k' from by omega]; exact h'); omega
  · exact heq
  · have := key (k - k' - 1) k' e e h' (by rw [show k' + (k - k' - 1) + 1 = k from by omega]; exact h); omega

end
end Go.Proofs.Ytbcecenneganeaa.Ev
