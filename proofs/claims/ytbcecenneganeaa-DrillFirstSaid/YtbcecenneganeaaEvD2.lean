import Derived.Test.YtbcecenneganeaaEvD1
set_option linter.all false
namespace Go.Proofs.Ytbcecenneganeaa.Ev
open Go.RowKit

/-! ### The layers -/

def lH (L : Lay) : Tr AO := (pushes L.as L.h0 L.n0).1
def lN (L : Lay) : Nat := (pushes L.as L.h0 L.n0).2

theorem pushes_le : ∀ (l : List AO) (H : Tr AO) (hs : Nat), hs ≤ (pushes l H hs).2
  | [], _, _ => Nat.le_refl _
  | A :: l, H, hs => by have := pushes_le l (H.put .dead hs A) (hs + 1); simp only [pushes]; omega

/-- A thing of which nobody knows where it lies. -/
theorem WR.push {β : Env} {B : Gd} {W : World} {H : Tr AO} {hs : Nat} (h : WR β B H hs W) (A : AO) : WR β B (H.put .dead hs A) (hs + 1) W := by
  have hd := h.dom hs (Nat.le_refl _)
  have ne : ∀ {o k}, β.b o = some k → o ≠ hs := fun hk e => by rw [e, hd] at hk; cases hk
  refine ⟨h.below, fun o ho => h.dom o (by omega), fun o k hk => ?_, h.blk, fun o o' k k' hne hk hk' ho hl => ?_, h.fz, h.fm, fun o k hk ho => (by rw [Tr.get_put, if_neg (ne hk)] at ho ⊢; exact h.apart o k hk ho), h.gfz, h.gfm⟩
  · rw [Tr.get_put, if_neg (ne hk)]; exact h.obj o k hk
  · rw [Tr.get_put, if_neg (ne hk)] at ho
    rw [Tr.get_put, if_neg (ne hk')] at hl
    exact h.inj o o' k k' hne hk hk' ho hl

theorem WR.pushes {β : Env} {B : Gd} {W : World} : ∀ {l : List AO} {H : Tr AO} {hs : Nat}, WR β B H hs W → WR β B (Ev.pushes l H hs).1 (Ev.pushes l H hs).2 W
  | [], _, _, h => h
  | A :: l, _, _, h => WR.pushes (l := l) (h.push A)

/-- Such a thing is laid now. -/
theorem WR.place {β : Env} {B : Gd} {W : World} {H : Tr AO} {hs : Nat} (h : WR β B H hs W) {o : Nat} (hn : β.b o = none) (hlt : o < hs) (x : Obj) (sz esz : Nat) (A : AO) (hA : H.get .dead o = A)
    (hO : ORel (β.add o ⟨W.heap.size, 0, sz, esz⟩) B.pr A ⟨W.heap.size, 0, sz, esz⟩ (some x)) : WR (β.add o ⟨W.heap.size, 0, sz, esz⟩) B H hs (W.alloc x) := by
  have hle := Env.le_add (k := ⟨W.heap.size, 0, sz, esz⟩) hn
  refine ⟨h.below.alloc x, ?_, ?_, ?_, ?_, fun b i v hv => (by rw [heap_alloc_old (h.fz_lt hv)]; exact h.fz b i v hv), fun r y hx => (by rw [heap_alloc_old (heap_lt (h.fm r y hx))]; exact h.fm r y hx), ?_, h.gfz, h.gfm⟩
  · intro j hj; rw [Env.add_other _ _ (by omega)]; exact h.dom j hj
  · intro j k hk
    by_cases e : j = o
    · subst e; rw [Env.add_self] at hk; cases hk; rw [hA, heap_alloc_new]; exact hO
    · rw [Env.add_other _ _ e] at hk; rw [heap_alloc_old (h.blk j k hk)]; exact (h.obj j k hk).mono hle
  · intro j k hk
    have : (W.alloc x).heap.size = W.heap.size + 1 := World.size_alloc W x
    by_cases e : j = o
    · subst e; rw [Env.add_self] at hk; cases hk; rw [this]; exact Nat.lt_succ_self _
    · rw [Env.add_other _ _ e] at hk; have := h.blk j k hk; omega
  · intro j j' k k' hne hk hk' ho hl
    by_cases e : j = o
    · subst e; rw [Env.add_self] at hk; cases hk
      rw [Env.add_other _ _ (fun x => hne x.symm)] at hk'; have := h.blk j' k' hk'; simp only; omega
    · rw [Env.add_other _ _ e] at hk
      by_cases e' : j' = o
      · subst e'; rw [Env.add_self] at hk'; cases hk'; have := h.blk j k hk; simp only; omega
      · rw [Env.add_other _ _ e'] at hk'; exact h.inj j j' k k' hne hk hk' ho hl
  · intro j k hk ho
    by_cases e : j = o
    · subst e; rw [Env.add_self] at hk; cases hk
      exact ⟨fun off _ => h.fz_new _ _ (Nat.le_refl _), h.fm_new _ (Nat.le_refl _)⟩
    · rw [Env.add_other _ _ e] at hk; exact h.apart j k hk ho

/-- What the layers tell. -/
inductive Runs (T : Tab) (rec : Rec) (D : DI) : List Nat → List Lay → List EffR → Prop where
  | nil (L : Lay) : Runs T rec D [] [L] []
  | skip (e : Nat) (o : Oper) (rv : List (Nat × AV)) (es : List Nat) (L L' : Lay) (ls : List Lay) (fs : List EffR) (ho : D.ops[e]? = some o) (hw : wantd (stOf D rv (lH L) (lN L)) D.ops o = some false)
      (h0 : L'.h0 = lH L) (n0 : L'.n0 = lN L) (t : Runs T rec D es (L' :: ls) fs) : Runs T rec D (e :: es) (L :: L' :: ls) (⟨e, rv, udef⟩ :: fs)
  | act (e : Nat) (o : Oper) (rv : List (Nat × AV)) (v : AV) (es : List Nat) (L L' : Lay) (ls : List Lay) (fs : List EffR) (ho : D.ops[e]? = some o) (hw : wantd (stOf D rv (lH L) (lN L)) D.ops o = some true)
      (ha : actOp T rec (stOf D rv (lH L) (lN L)) o.op = some (v, L'.h0, L'.n0)) (t : Runs T rec D es (L' :: ls) fs) : Runs T rec D (e :: es) (L :: L' :: ls) (⟨e, rv, v⟩ :: fs)

theorem drawGo_runs {T : Tab} {rec : Rec} {D : DI} : ∀ (es : List Nat) (k : Nat) (vals : Tr AV) (H : Tr AO) (hs : Nat) (aid : Tr Nat) (ls : List Lay) (fs : List EffR) (vs : Tr AV) (ad : Tr Nat),
    drawGo T rec D es k vals H hs aid = some (ls, fs, vs, ad) → Runs T rec D es ls fs ∧ ∃ L ls', ls = L :: ls' ∧ L.h0 = H ∧ L.n0 = hs := by
  intro es
  induction es with
  | nil =>
    intro k vals H hs aid ls fs vs ad h
    unfold drawGo at h
    split at h
    · cases h
    · rename_i r hr
      cases h
      exact ⟨.nil _, _, _, rfl, rfl, rfl⟩
  | cons e es ih =>
    intro k vals H hs aid ls fs vs ad h
    unfold drawGo at h
    split at h
    · cases h
    · rename_i r hr
      simp only at h
      split at h
      · cases h
      · rename_i o ho
        split at h
        · cases h
        · rename_i rv hrv
          split at h
          · cases h
          · rename_i hwd
            split at h
            · rename_i ls2 fs2 vs2 ad2 hgo
              cases h
              obtain ⟨h1, L', ls3, rfl, h2, h3⟩ := ih _ _ _ _ _ _ _ _ _ hgo
              exact ⟨.skip e o rv es ⟨H, hs, r.as⟩ L' ls3 fs2 ho hwd h2 h3 h1, _, _, rfl, rfl, rfl⟩
            · cases h
          · rename_i hwd
            split at h
            · cases h
            · rename_i v H' hs' hact
              split at h
              · rename_i ls2 fs2 vs2 ad2 hgo
                cases h
                obtain ⟨h1, L', ls3, rfl, h2, h3⟩ := ih _ _ _ _ _ _ _ _ _ hgo
                refine ⟨.act e o rv v es ⟨H, hs, r.as⟩ L' ls3 fs2 ho hwd ?_ h1, _, _, rfl, rfl, rfl⟩
                rw [h2, h3]; exact hact
              · cases h

theorem allLay_get {f : Nat → Tr AO → Nat → Bool} : ∀ {ls : List Lay} {k : Nat}, allLay f ls k = true → ∀ j L, ls[j]? = some L → f (k + j) (lH L) (lN L) = true
  | [], k, _, j, L, h => by simp at h
  | L0 :: ls, k, h, 0, L, hj => by
    simp at hj; subst hj
    simp only [allLay, Bool.and_eq_true] at h
    exact h.1
  | L0 :: ls, k, h, j + 1, L, hj => by
    simp only [allLay, Bool.and_eq_true] at h
    have := allLay_get h.2 j L (by simpa using hj)
    rw [show k + (j + 1) = k + 1 + j from by omega]; exact this

theorem chkIds_get : ∀ {ls : List Lay} {k lo id : Nat}, chkIds ls k lo id = true → ∀ j L, ls[j]? = some L → k + j ≤ lo → L.n0 ≤ id
  | [], k, lo, id, _, j, L, h, _ => by simp at h
  | L0 :: ls, k, lo, id, h, 0, L, hj, hle => by
    simp at hj; subst hj
    simp only [chkIds, Bool.and_eq_true, Bool.or_eq_true, Bool.not_eq_true'] at h
    rcases h.1 with h1 | h1
    · have : Nat.ble k lo = true := ble_le.2 (by omega)
      rw [this] at h1; cases h1
    · exact ble_le.1 h1
  | L0 :: ls, k, lo, id, h, j + 1, L, hj, hle => by
    simp only [chkIds, Bool.and_eq_true] at h
    exact chkIds_get h.2 j L (by simpa using hj) (by omega)

theorem chain_get {ms : Tr Nat} : ∀ {es : List Nat}, chain ms es = true → ∀ k e f, es[k]? = some e → es[k + 1]? = some f → (ms.get 0 f).testBit e = true
  | [], _, k, e, f, h, _ => by simp at h
  | [a], _, k, e, f, _, h => by simp at h
  | a :: b :: es, h, 0, e, f, he, hf => by
    simp at he hf; subst he; subst hf
    simp only [chain, Bool.and_eq_true] at h
    exact h.1
  | a :: b :: es, h, k + 1, e, f, he, hf => by
    simp only [chain, Bool.and_eq_true] at h
    exact chain_get h.2 k e f (by simpa using he) (by simpa using hf)

theorem chkEff_get {D : DI} {vals : Tr AV} {aid : Tr Nat} : ∀ {fs : List EffR} {es : List Nat}, chkEff D vals aid fs es = true → ∀ (k e : Nat), es[k]? = some e → ∃ (f : EffR) (o : Oper), fs[k]? = some f ∧ f.e = e ∧ f.v = vals.get .any e ∧ aid.get 0 e = 0 ∧ D.ops[e]? = some o ∧ rvals D vals e (readsOf D.ops o) = some f.rv
  | [], [], _, k, e, h => by simp at h
  | [], _ :: _, h, _, _, _ => by simp [chkEff] at h
  | _ :: _, [], h, _, _, _ => by simp [chkEff] at h
  | f :: fs, e0 :: es, h, k, e, he => by
    simp only [chkEff, Bool.and_eq_true] at h
    obtain ⟨⟨⟨⟨h1, h2⟩, h3⟩, h4⟩, h5⟩ := h
    cases k with
    | zero =>
      simp at he; subst he
      have e1 := Nat.eq_of_beq_eq_true h1
      split at h4
      · rename_i o ho
        split at h4
        · rename_i rv hrv
          exact ⟨f, o, rfl, e1, same_is h2, Nat.eq_of_beq_eq_true h3, ho, by rw [hrv, sameRV_is h4]⟩
        · cases h4
      · cases h4
    | succ k =>
      obtain ⟨f', o, h6⟩ := chkEff_get h5 k e (by simpa using he)
      exact ⟨f', o, by simpa using h6.1, h6.2⟩

theorem chkAll_get {T : Tab} {D : DI} {ls : List Lay} {vals : Tr AV} {aid own : Tr Nat} : ∀ {l : List Oper} {i : Nat}, chkAll T D ls vals aid own l i = true → ∀ k o, l[k]? = some o →
    (if cls o.op = 3 then D.es.contains (i + k) = true else chkOp T D ls vals aid own (i + k) o = true ∧ D.es.contains (i + k) = false ∧ (∀ id, aid.get 0 (i + k) = id + 1 → chkIds ls 0 (loOf D (i + k)) id = true))
  | [], i, _, k, o, h => by simp at h
  | o0 :: l, i, h, k, o, hk => by
    simp only [chkAll, Bool.and_eq_true] at h
    cases k with
    | zero =>
      simp at hk; subst hk
      have h1 := h.1
      rw [beq_if] at h1
      split
      · rename_i h3; rw [if_pos h3] at h1; simpa using h1
      · rename_i h3
        rw [if_neg h3] at h1
        simp only [Bool.and_eq_true, Bool.not_eq_true'] at h1
        refine ⟨by simpa using h1.1.1, by simpa using h1.1.2, fun id hid => ?_⟩
        have h2 := h1.2
        simp only [Nat.add_zero] at hid
        rw [hid] at h2
        simpa using h2
    | succ k =>
      have := chkAll_get h.2 k o (by simpa using hk)
      rw [show i + (k + 1) = i + 1 + k from by omega]
      exact this

end Go.Proofs.Ytbcecenneganeaa.Ev
