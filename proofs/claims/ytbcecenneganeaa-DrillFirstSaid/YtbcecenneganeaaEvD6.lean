import Derived.Test.YtbcecenneganeaaEvD5
set_option linter.all false
namespace Go.Proofs.Ytbcecenneganeaa.Ev
open Go.RowKit

theorem runs_get {T : Tab} {rec : Rec} {D : DI} {es : List Nat} {ls : List Lay} {fs : List EffR} (h : Runs T rec D es ls fs) : ∀ (j e : Nat) (L : Lay) (f : EffR), es[j]? = some e → ls[j]? = some L → fs[j]? = some f →
    ∃ o L', ls[j + 1]? = some L' ∧ D.ops[e]? = some o ∧ ((wantd (stOf D f.rv (lH L) (lN L)) D.ops o = some false ∧ L'.h0 = lH L ∧ L'.n0 = lN L ∧ f.v = udef) ∨
      (wantd (stOf D f.rv (lH L) (lN L)) D.ops o = some true ∧ actOp T rec (stOf D f.rv (lH L) (lN L)) o.op = some (f.v, L'.h0, L'.n0))) := by
  induction h with
  | nil L => intro j e L f h; simp at h
  | skip e o rv es L L' ls fs ho hw h0 n0 t ih =>
    intro j e2 L2 f2 h1 h2 h3
    cases j with
    | zero =>
      simp at h1 h2 h3; subst h1; subst h2; subst h3
      exact ⟨o, L', by simp, ho, .inl ⟨hw, h0, n0, rfl⟩⟩
    | succ j =>
      obtain ⟨o2, L3, q⟩ := ih j e2 L2 f2 (by simpa using h1) (by simpa using h2) (by simpa using h3)
      exact ⟨o2, L3, by simpa using q.1, q.2⟩
  | act e o rv v es L L' ls fs ho hw ha t ih =>
    intro j e2 L2 f2 h1 h2 h3
    cases j with
    | zero =>
      simp at h1 h2 h3; subst h1; subst h2; subst h3
      exact ⟨o, L', by simp, ho, .inr ⟨hw, ha⟩⟩
    | succ j =>
      obtain ⟨o2, L3, q⟩ := ih j e2 L2 f2 (by simpa using h1) (by simpa using h2) (by simpa using h3)
      exact ⟨o2, L3, by simpa using q.1, q.2⟩

section
variable {P : Program} {T : Tab} (hT : TSnd P T) {rec : Rec} (hR : Snd P rec) {D : DI} {ls : List Lay} {fs : List EffR} {vals : Tr AV} {aid own : Tr Nat} (hD : DCert T rec D ls fs vals aid own)
include hT hR hD

theorem draw_step {β0 β : Env} {B : Gd} {W : World} {listed : Array Bool} {a : Act} {j : Nat} {L : Lay} (hI : DInv D ls vals aid β0 B listed a W j L β) {i : Nat} (hi : i ∈ Region.ready .any D.ops listed) (n : Nat) (r : Option Nat)
    (Q : Exit → Act → World → Prop) (K : Act → World → Prop) (hK : ∀ a' W' j' L' β', DInv D ls vals aid β0 B (listed.setIfInBounds i true) a' W' j' L' β' → K a' W') : wpOpIn (FW r) n P D.ops Q i K a W := by
  obtain ⟨hun', o, ho, hdeps'⟩ := mem_ready.1 hi
  have hid : i < D.ops.size := (Array.getElem?_eq_some_iff.1 ho).1
  have hil : i < listed.size := by rw [hI.size]; exact hid
  have hun := getD_fls hil hun'
  have hdeps : ∀ e ∈ o.after, Region.binds .any e = true → listed.getD e.on false = true := hdeps'
  have hS : ∀ i, listed.getD i false = true → ∃ o, D.ops[i]? = some o := by
    intro i hi
    have : i < listed.size := by
      rcases Nat.lt_or_ge i listed.size with h | h
      · exact h
      · simp [Array.getElem?_eq_none h] at hi
    rw [hI.size] at this
    exact ⟨D.ops[i], by simp [this]⟩
  have hidn := fun i2 o2 id h1 (h2 : i2 ≠ i) h3 h4 => hI.ids i2 o2 id h1 h3 h4
  have hall := chkAll_get hD.all i o (by simpa using ho)
  simp only [Nat.zero_add] at hall
  unfold wpOpIn
  rw [ho]
  simp only
  split at hall
  · -- it writes
    rename_i hc
    have hm : i ∈ D.es := by simpa using hall
    obtain ⟨k, hk⟩ := List.getElem?_of_mem hm
    have hkj : k = j := by
      have h1 : ¬ k < j := fun hlt => by
        have := (hI.es k i hk).2 hlt
        rw [hun] at this; cases this
      cases k with
      | zero => omega
      | succ k =>
        have hlt := (List.getElem?_eq_some_iff.1 hk).1
        have h3 : D.es[k]? = some (D.es[k]'(by omega)) := by simp
        have hb := chain_get hD.ch k _ i h3 hk
        have hl := bef hD.m hI.cl hS i o ho hdeps _ hb
        have := (hI.es _ _ h3).1 hl
        omega
    subst hkj
    obtain ⟨f, o', hf, hfe, hfv, hfa, ho', hrv⟩ := chkEff_get hD.eff k i hk
    rw [ho] at ho'; cases ho'
    obtain ⟨o', L', hL', ho', hcase⟩ := runs_get hD.runs k i L f hk hI.lay hf
    rw [ho] at ho'; cases ho'
    have hFR := reads_rel hT hR hD hI ho hdeps hun hrv (lH L) (lN L)
    have hes : ∀ k' e, D.es[k']? = some e → ((e = i ∨ listed.getD e false = true) ↔ k' < k + 1) := by
      intro k' e he
      constructor
      · rintro (rfl | h)
        · have := es_inj hD he hk; omega
        · have := (hI.es k' e he).1 h; omega
      · intro hlt
        rcases Nat.lt_or_ge k' k with h | h
        · exact .inr ((hI.es k' e he).2 h)
        · have : k' = k := by omega
          subst this
          rw [hk] at he; cases he; exact .inl rfl
    have hN : L'.n0 ≤ lN L' := pushes_le _ _ _
    rcases hcase with ⟨hw, h0, n0, hv⟩ | ⟨hw, ha⟩
    · rw [wanted_rel hFR hw]
      simp only [Bool.false_eq_true, if_false]
      refine ⟨fun _ _ => trivial, hK _ _ _ _ _ (DInv.next hT hR hD hI ho hdeps hun (v' := undef) (β' := β) ?_ (Env.le.refl _) (hI.on.trans ⟨Env.le.refl _, fun _ _ => rfl, by omega⟩) hL' ?_ hes hidn)⟩
      · rw [← hfv, hv]; exact udef_rel β
      · have := hI.w
        rw [← h0, ← n0] at this
        exact this.pushes
    · rw [wanted_rel hFR hw]
      simp only [if_true]
      refine actD hT hR (s := stOf D f.rv (lH L) (lN L)) ha hFR hI.w n r _ _ fun β' v' W' hon hw' hv' => ?_
      have hle : lN L ≤ L'.n0 := hon.hs
      refine hK _ _ _ _ _ (DInv.next hT hR hD hI ho hdeps hun (β' := β') ?_ hon.le (hI.on.trans ⟨hon.le, hon.old, by omega⟩) hL' hw'.pushes hes ?_)
      · rw [← hfv]; exact hv'
      · intro i2 o2 id h1 h2 h3 h4
        obtain ⟨_, h6, h7⟩ := aid_spec hD h1 h3
        rcases Nat.lt_or_ge k (loOf D i2) with hlt | hge
        · have := chkIds_get h6 (k + 1) L' hL' (by omega)
          exact hw'.dom id this
        · have := h7 k L hI.lay hge
          rw [hon.old id this]
          exact hidn i2 o2 id h1 h2 h3 h4
  · -- it doesn't
    obtain ⟨hc, hne, _⟩ := hall
    have hnm : ∀ (k e : Nat), D.es[k]? = some e → e ≠ i := by
      rintro k e hk rfl
      have : e ∈ D.es := List.mem_of_getElem? hk
      simp at hne; exact hne this
    have hes : ∀ k' e, D.es[k']? = some e → ((e = i ∨ listed.getD e false = true) ↔ k' < j) := by
      intro k' e he
      have := hnm k' e he
      simp only [this, false_or]
      exact hI.es k' e he
    obtain ⟨w1, w2, rv, hrv, hcase⟩ := chkOp_inv hc
    have hwin := window hT hR hD hI ho hdeps hun w1 w2
    have hFR := reads_rel hT hR hD hI ho hdeps hun hrv .lf 0
    rcases hcase with ⟨hw, hv, _⟩ | ⟨hw, id, A, h4, h5, hnew, h6⟩ | ⟨hw, _, hp⟩ | ⟨hw, _, hp⟩
    · rw [wanted_rel hFR hw]
      simp only [Bool.false_eq_true, if_false]
      refine ⟨fun _ _ => trivial, hK _ _ _ _ _ (DInv.next hT hR hD hI ho hdeps hun (v' := undef) ?_ (Env.le.refl _) hI.on hI.lay hI.w hes hidn)⟩
      rw [hv]; exact udef_rel β
    · rw [wanted_rel hFR hw]
      simp only [if_true]
      have hn := hI.ids i o id ho h4 hun
      obtain ⟨obj, sz, esz, v', hy, hobj, hv'⟩ := newOp_rel hT.toTOk hFR hn hI.w.new (fun off => hI.w.fz_new _ off (Nat.le_refl _)) hnew
      have hlo : loOf D i ≤ j := by
        unfold within_ at hwin
        rw [Bool.and_eq_true] at hwin
        exact ble_le.1 hwin.1
      have hlt := (h6 j L hI.lay).2 hlo
      have hA := (h6 j L hI.lay).1 hwin
      obtain ⟨hwp, hle2, hb2⟩ := hI.w.newN hn hA (hI.w.place hn hlt obj sz esz A hA hobj)
      refine ⟨fun _ _ => trivial, ?_⟩
      have hd : ∀ c, o.op ≠ .defer c := fun c e => by rw [e] at hnew; simp [newOp] at hnew
      rw [Oper.semAt_eq _ _ _ hd]
      have hrun : (execOp a.eval o).run P W = .ok (.value v') (W.alloc obj) := by
        obtain ⟨dst, op, ty, pos, after, guard⟩ := o
        exact hy dst ty pos after guard
      rw [hrun]
      refine hK _ _ _ _ _ (DInv.next hT hR hD hI ho hdeps hun hv' hle2 ⟨hI.on.le.trans hle2, fun x hx => ?_, hI.on.hs⟩ hI.lay hwp hes ?_)
      · obtain ⟨L0, q1, _, q3⟩ := hD.first
        have := chkIds_get (aid_spec hD ho h4).2.1 0 L0 q1 (Nat.zero_le _)
        rw [hb2, Env.add_other _ _ (by omega)]
        exact hI.on.old x hx
      · intro i2 o2 id2 h1 h2 h3 h7
        have hne2 : id2 ≠ id := by
          rintro rfl
          have := (aid_spec hD h1 h3).1
          rw [h5] at this
          exact h2 (by omega)
        rw [hb2, Env.add_other _ _ hne2]
        exact hidn i2 o2 id2 h1 h2 h3 h7
    · rw [wanted_rel hFR hw]
      simp only [if_true]
      have hod : OpDoes P o β B (lN L) (vals.get .any i) (lH L) (lN L) a W n r := by
        rcases hp with hp | hp
        · exact pureD hT hR hp hFR hI.w n r
        · exact deadD hT hR hp hFR hI.w n r
      refine hod _ _ fun β' v' W' hon hw' hv' => ?_
      exact hK _ _ _ _ _ (DInv.next hT hR hD hI ho hdeps hun hv' hon.le (hI.on.trans hon) hI.lay hw' hes fun i2 o2 id h1 h2 h3 h4 => by
        have h7 := hidn i2 o2 id h1 h2 h3 h4
        rcases Nat.lt_or_ge id (lN L) with h8 | h8
        · rw [hon.old id h8]; exact h7
        · exact hw'.dom id h8)
    · rw [wanted_rel hFR hw]
      simp only [if_true]
      have hod : OpDoes P o β B (lN L) (vals.get .any i) (lH L) (lN L) a W n r := by
        rcases hp j L hI.lay hwin with h | h
        · exact pureD hT hR h hFR hI.w n r
        · exact readD hT hR h hFR hI.w n r
      refine hod _ _ fun β' v' W' hon hw' hv' => ?_
      exact hK _ _ _ _ _ (DInv.next hT hR hD hI ho hdeps hun hv' hon.le (hI.on.trans hon) hI.lay hw' hes fun i2 o2 id h1 h2 h3 h4 => by
        have h7 := hidn i2 o2 id h1 h2 h3 h4
        rcases Nat.lt_or_ge id (lN L) with h8 | h8
        · rw [hon.old id h8]; exact h7
        · exact hw'.dom id h8)

end
end Go.Proofs.Ytbcecenneganeaa.Ev
