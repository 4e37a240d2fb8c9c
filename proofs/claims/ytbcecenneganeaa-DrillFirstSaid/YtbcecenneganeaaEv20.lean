import Derived.Test.YtbcecenneganeaaEvZ2
import Derived.RangeFuncNested
set_option linter.all false
namespace Go.Proofs.Ytbcecenneganeaa.Ev
open Go.RowKit Go.Builtin

theorem putL_get (l : List AV) : ∀ (t : Tr AV) (i j : Nat), (putL t i l).get .any j = if h : i ≤ j ∧ j < i + l.length then l[j - i]'(by omega) else t.get .any j := by
  induction l with
  | nil => intro t i j; have hh : ¬ (i ≤ j ∧ j < i + ([] : List AV).length) := (by rw [List.length_nil]; omega); rw [dif_neg hh]; rfl
  | cons a l ih =>
    intro t i j
    simp only [putL, ih, Tr.get_put, List.length_cons]
    by_cases h : j = i
    · subst h
      rw [dif_neg (by omega), if_pos rfl, dif_pos (by omega)]
      simp
    · by_cases h2 : i + 1 ≤ j ∧ j < i + 1 + l.length
      · rw [dif_pos h2, dif_pos (by omega)]
        have : j - i = (j - (i + 1)) + 1 := by omega
        simp only [this, List.getElem_cons_succ]
      · rw [dif_neg h2, if_neg h, dif_neg (by omega)]

/-- An activation at its beginning. -/
theorem enter_rel {β : Env} {args : List AV} {xs : List Value} (h : VRs β args xs) (n : Nat) (H : Tr AO) (hs : Nat) (lm : Bool) :
    FR β ⟨putL .lf 0 args, max args.length n, H, hs, [], lm⟩ { tmps := xs.toArray ++ Array.replicate (n - xs.toArray.size) undef, defers := [] } := by
  have hl := h.length
  refine ⟨by simp; omega, fun i hi => ?_⟩
  simp only at hi
  rw [putL_get]
  by_cases hlt : i < args.length
  · rw [dif_pos (by omega)]
    obtain ⟨v, hv, hr⟩ := h.get i args[i] (by simp [hlt])
    have : ({ tmps := xs.toArray ++ Array.replicate (n - xs.toArray.size) undef, defers := [] } : Act).tmps.getD i undef = v := by
      simp only [Array.getD_eq_getD_getElem?]
      rw [Array.getElem?_append_left (by simp; omega)]
      simp [hv]
    rw [this]
    simpa using hr
  · rw [dif_neg (by omega)]
    have : ({ tmps := xs.toArray ++ Array.replicate (n - xs.toArray.size) undef, defers := [] } : Act).tmps.getD i undef = undef := by
      simp only [Array.getD_eq_getD_getElem?]
      rw [Array.getElem?_append_right (by simp; omega)]
      simp [Array.getElem?_replicate]
      split <;> rfl
    rw [this]
    exact VR.any _

/-- The marks are come to, one after another. -/
theorem shut_rel {P : Program} {fn : Func} {tmps : Array Value} {R : Ending → World → Prop} {n : Nat} {B : Gd} {hs : Nat} {β : Env} : ∀ {l : List Nat} {ds : List Deferred} {H H' : Tr AO} {W : World}, DR β l ds → shut H l = some H' → WR β B H hs W →
    (∀ W', WR β B H' hs W' → ∃ v, (results fn tmps).run P W' = .ok v W' ∧ R (.returned v) W') → LeavesInM (FW none) n P fn tmps R ds .returning W
  | [], _, H, H', W, .nil, h, hw, k => by
    simp only [shut, Option.some.injEq] at h; subst h
    exact k W hw
  | o :: l, _, H, H', W, .cons _ kb _ ds hk t, h, hw, k => by
    simp only [shut] at h
    split at h
    · rename_i hg
      have ho := hw.obj o kb hk
      rw [hg] at ho
      obtain ⟨o1, o2⟩ := ho
      have hu := Upd.putObj W kb.blk (.deferred none)
      have hw2 : WR β B (H.put .dead o (.defd false)) hs (W.putObj kb.blk (.deferred none)) := by
        refine hw.write hk _ (by rw [hg]; rfl) (by rw [hg]; rfl) (hu.below o2) hu.size hu.oth ?_ (fun _ => by rw [hg]; rfl)
        rw [World.putObj_heap_same (hw.blk o kb hk)]
        exact ⟨rfl, o2⟩
      exact ⟨by simp, .inl ⟨kb.blk, _, rfl, run_takeDeferred (by simpa using o1), shut_rel t h hw2 k⟩⟩
    · cases h

section
variable {P : Program} {T : Tab} (hT : TSnd P T) {rec : Rec} (hR : Snd P rec)
include hT hR

theorem bodyF_rel {f : Nat} {fi : FI} (hfi : T.f f = some fi) {m : Bool} {args : List AV} {H H' : Tr AO} {hs hs' : Nat} {v : AV} (h : bodyF rec T fi m args H hs = some (v, H', hs')) {β : Env} {B : Gd} {W : World} (hw : WR β B H hs W) {xs : List Value} (hx : VRs β args xs) (n : Nat) :
    CallsIn (FW none) n P f xs.toArray W (EndR β B hs v H' hs') ∧ ∃ fn c, P.funcs[f]? = some fn ∧ fn.body = some c ∧ fn.name ≠ "runtime.NumGoroutine" := by
  unfold bodyF at h
  obtain ⟨fn, f1, f2, f3, f4, f5⟩ := hT.fn f fi hfi
  refine ⟨callsIn_of_wp_marks f1 f2 trivial ?_, fn, _, f1, f2, f5⟩
  generalize hlm : lmOf fi.lm m = lm at h
  have hsr : SR β B ⟨putL .lf 0 args, max args.length fi.ntmps, H, hs, [], lm⟩ { tmps := xs.toArray ++ Array.replicate (fn.ntmps - xs.toArray.size) undef, defers := [] } W := by
    rw [f3]
    exact ⟨hw, enter_rel hx fi.ntmps H hs lm, .nil⟩
  have fin : ∀ (s' : AS), (match shut s'.heap s'.defs with
    | some H' => match resOf T { s' with heap := H' } fi.results with
      | some l => some (one l, H', s'.hs)
      | none => none
    | none => none) = some (v, H', hs') → ∀ β' a' W', Env.on β β' hs s'.hs → SR β' B s' a' W' → LeavesInM (FW none) n P fn a'.tmps (EndR β B hs v H' hs') a'.defers .returning W' := by
    intro s' h β' a' W' hon hs'
    split at h
    · rename_i H2 hsh
      split at h
      · rename_i l hres
        cases h
        refine shut_rel hs'.d hsh hs'.w fun W2 hw2 => ?_
        obtain ⟨v', q1, q2⟩ := results_rel hT.toTOk (s := { s' with heap := H' }) (fn := fn) hw2 hs'.f.size hs'.f.get (by rw [f4]; exact hres)
        exact ⟨v', q1, β', hon, hw2, q2⟩
      · cases h
    · cases h
  split at h
  · rename_i s' hrec
    refine hR none _ _ _ _ hrec β B _ W n none trivial hsr _ fun β' a' W' hon hs2 _ => ?_
    exact fin s' h β' a' W' hon hs2
  · rename_i s' hrec
    refine hR none _ _ _ _ hrec β B _ W n none trivial hsr _ fun β' a' W' hon hs2 _ => ?_
    exact fin s' h β' a' W' hon hs2
  · cases h

omit hT hR in
/-- Nothing of memory is known but what never turns. -/
theorem WR.alone {β : Env} {B : Gd} {H : Tr AO} {hs : Nat} {W : World} (h : WR β B H hs W) : WR ⟨fun _ => none, β.q, β.fz, β.fm⟩ ⟨W, fun k => k < W.heap.size, fun _ h => h, β.fz, β.fm⟩ .lf 0 W :=
  ⟨Keep.refl _ _, fun _ _ => rfl, fun o k hk => (by cases hk), fun o k hk => (by cases hk), fun o o' k k' _ hk => (by cases hk), h.fz, h.fm, fun o k hk => (by cases hk), fun _ _ _ _ h => h, fun _ _ _ h => h⟩

omit hT hR in
/-- What was made meanwhile stands by itself; what never turns is known. -/
theorem WR.back {β β' : Env} {B : Gd} {H H' : Tr AO} {hs hs' : Nat} {W W' : World} (h : WR β B H hs W) (hw : WR β' ⟨W, fun k => k < W.heap.size, fun _ h => h, β.fz, β.fm⟩ H' hs' W') (hq : β'.q = β.q) (hfz : ∀ b o v, β.fz b o = some v → β'.fz b o = some v) (hfm : ∀ r x, β.fm r = some x → β'.fm r = some x) :
    WR ⟨β.b, β.q, β'.fz, β'.fm⟩ B H hs W' ∧ β.le ⟨β.b, β.q, β'.fz, β'.fm⟩ := by
  have hle : β.le ⟨β.b, β.q, β'.fz, β'.fm⟩ := ⟨fun _ _ x => x, rfl, hfz, hfm⟩
  have hold : ∀ k, k < W.heap.size → W'.heap[k]? = W.heap[k]? := fun k hk => hw.below.block k hk
  refine ⟨⟨⟨hw.below.os.trans h.below.os, hw.below.tape.trans h.below.tape, hw.below.output.trans h.below.output, Nat.le_trans h.below.size hw.below.size, fun k hk => ?_⟩, h.dom, fun o k hk => ?_, fun o k hk => ?_, h.inj, hw.fz, hw.fm, fun o k hk ho => ?_, fun b o v hb hv => ?_, fun b x hb hx => ?_⟩, hle⟩
  · rw [hold k (Nat.lt_of_lt_of_le (B.lt k hk) h.below.size)]; exact h.below.block k hk
  · rw [hold _ (h.blk o k hk)]; exact (h.obj o k hk).mono hle
  · exact Nat.lt_of_lt_of_le (h.blk o k hk) hw.below.size
  · obtain ⟨a1, a2⟩ := h.apart o k hk ho
    have hlt := h.blk o k hk
    refine ⟨fun off hoff => ?_, ?_⟩
    · show β'.fz k.blk off = none
      cases hx : β'.fz k.blk off with
      | none => rfl
      | some v =>
        have := hw.gfz k.blk off v hlt hx
        have h2 := a1 off hoff
        have this : β.fz k.blk off = some v := this
        rw [h2] at this; cases this
    · show β'.fm k.blk = none
      cases hx : β'.fm k.blk with
      | none => rfl
      | some v =>
        have this : β.fm k.blk = some v := hw.gfm k.blk v hlt hx
        rw [a2] at this; cases this
  · have hlt := Nat.lt_of_lt_of_le (B.lt b hb) h.below.size
    exact h.gfz b o v hb (hw.gfz b o v hlt hv)
  · have hlt := Nat.lt_of_lt_of_le (B.lt b hb) h.below.size
    exact h.gfm b x hb (hw.gfm b x hlt hx)

theorem isoF_rel {f : Nat} {fi : FI} (hfi : T.f f = some fi) {m : Bool} {args : List AV} {v : AV} (h : isoF rec T fi m (nrms args) = some v) (ha : bares args = true) {H : Tr AO} {hs : Nat} {β : Env} {B : Gd} {W : World} (hw : WR β B H hs W) {xs : List Value} (hx : VRs β args xs) (n : Nat) :
    CallsIn (FW none) n P f xs.toArray W (EndR β B hs v H hs) ∧ ∃ fn c, P.funcs[f]? = some fn ∧ fn.body = some c ∧ fn.name ≠ "runtime.NumGoroutine" := by
  unfold isoF at h
  split at h
  · rename_i v1 H1 hs1 hb
    split at h
    · rename_i u H2 hf
      cases hbu : bare u with
      | false => rw [hbu] at h; cases h
      | true =>
        rw [hbu, cond_true] at h; cases h
        have hx0 : VRs ⟨fun _ => none, β.q, β.fz, β.fm⟩ (nrms args) xs := VRs.nrm (β := β) (β' := ⟨fun _ => none, β.q, β.fz, β.fm⟩) ⟨rfl, fun _ _ _ h => h, fun _ _ h => h⟩ hx ha
        obtain ⟨g1, g2⟩ := bodyF_rel hT hR hfi hb hw.alone hx0 n
        refine ⟨CallsIn.mono g1 fun e W' he => ?_, g2⟩
        cases e with
        | panicked c => exact he
        | outgrown => exact he
        | returned v' =>
          obtain ⟨β1, h1, h2, h3⟩ := he
          have key : ∃ β2, β1.le β2 ∧ WR β2 ⟨W, fun k => k < W.heap.size, fun _ h => h, β.fz, β.fm⟩ H2 hs1 W' ∧ VR β2 u v' := by
            unfold frzR at hf
            cases hbv : bare v1 with
            | true =>
              rw [hbv, cond_true] at hf; cases hf
              exact ⟨β1, Env.le.refl _, h2, h3⟩
            | false =>
              rw [hbv, cond_false] at hf
              split at hf
              · obtain ⟨β2, a1, a2, a3, a4⟩ := frz_rel 30 _ _ _ _ _ hf β1 v' h2 h3
                exact ⟨β2, a1, a3, a4⟩
              · split at hf
                · split at hf
                  · rename_i us H3 hf3
                    cases hf
                    obtain ⟨y, rfl, hy⟩ := h3.of_tup
                    obtain ⟨β2, a1, a2, a3, a4⟩ := frzL_rel (frz_rel 30) _ _ _ _ _ hf3 β1 _ h2 hy
                    exact ⟨β2, a1, a3, .tup _ _ a4⟩
                  · cases hf
                · cases hf
          obtain ⟨β2, k1, k2, k3⟩ := key
          have hle := h1.le.trans k1
          obtain ⟨b1, b2⟩ := hw.back k2 hle.q (fun b o v hv => hle.fz b o v hv) (fun r x hx => hle.fm r x hx)
          exact ⟨_, ⟨b2, fun _ _ => rfl, Nat.le_refl _⟩, b1, VR.nrm (β' := ⟨β.b, β.q, β2.fz, β2.fm⟩) ⟨hle.q.symm, fun _ _ _ h => h, fun _ _ h => h⟩ k3 hbu⟩
    · cases h
  · cases h

theorem callF_rel {f : Nat} {m : Bool} {args : List AV} {H H' : Tr AO} {hs hs' : Nat} {v : AV} (h : callF T rec m f args H hs = some (v, H', hs')) {β : Env} {B : Gd} {W : World} (hw : WR β B H hs W) {xs : List Value} (hx : VRs β args xs) (n : Nat) :
    CallsIn (FW none) n P f xs.toArray W (EndR β B hs v H' hs') ∧ ∃ fn c, P.funcs[f]? = some fn ∧ fn.body = some c ∧ fn.name ≠ "runtime.NumGoroutine" := by
  unfold callF at h
  split at h
  · rename_i r hr
    cases h
    obtain ⟨h1, h2⟩ := hT.con _ _ _ _ _ _ _ hr
    exact ⟨h2 β B W hw xs hx n, h1⟩
  split at h
  · cases h
  · rename_i fi hfi
    cases hiso : fi.iso with
    | false =>
      rw [hiso, cond_false] at h
      exact bodyF_rel hT hR hfi h hw hx n
    | true =>
      rw [hiso, cond_true] at h
      split at h
      · rename_i as H1 has
        cases hb : bares as with
        | false => rw [hb] at h; cases h
        | true =>
          rw [hb, cond_true] at h
          split at h
          · rename_i v1 hv1
            cases h
            have key : ∃ β2, β.le β2 ∧ β2.b = β.b ∧ WR β2 B H' hs W ∧ VRs β2 as xs := by
              cases hba : bares args with
              | true =>
                rw [hba, cond_true] at has; cases has
                exact ⟨β, Env.le.refl _, rfl, hw, hx⟩
              | false =>
                rw [hba, cond_false] at has
                obtain ⟨β2, a1, a2, a3, a4⟩ := frzL_rel (frz_rel 30) _ _ _ _ _ has β _ hw hx
                exact ⟨β2, a1, a2, a3, a4⟩
            obtain ⟨β2, k1, k2, k3, k4⟩ := key
            obtain ⟨g1, g2⟩ := isoF_rel hT hR hfi hv1 hb k3 k4 n
            refine ⟨CallsIn.mono g1 fun e W' he => ?_, g2⟩
            cases e with
            | panicked c => exact he
            | outgrown => exact he
            | returned v' =>
              obtain ⟨β3, h1, h2, h3⟩ := he
              exact ⟨β3, ⟨k1.trans h1.le, fun o ho => by rw [h1.old o ho, k2], h1.hs⟩, h2, h3⟩
          · cases h
      · cases h

end
end Go.Proofs.Ytbcecenneganeaa.Ev
