import Derived.Test.YtnmlgekgbmlgjaaGreatEv19
import Derived.RangeFuncNested
set_option linter.all false
namespace Go.Proofs.YtnmlgekgbmlgjaaGreat.Ev
open Go.RowKit Go.Builtin

theorem putL_get (l : List AV) : ∀ (t : Tr AV) (i j : Nat), (putL t i l).get .any j = if h : i ≤ j ∧ j < i + l.length then l[j - i]'(by omega) else t.get .any j := by
  induction l with
  | nil => intro t i j; have hh : ¬ (i ≤ j ∧ j < i + ([] : List AV).length) := (by rw [List.length_nil]; omega); rw [dif_neg hh]; rfl
  | cons a l ih =>
    intro t i j
    simp only [putL, ih, Tr.get_put, List.length_cons]
    by_cases h : j = i
    · subst h
      rw [dif_neg (by omega), if_pos rfl, dif_pos (by omega)]
      simp
    · by_cases h2 : i + 1 ≤ j ∧ j < i + 1 + l.length
      · rw [dif_pos h2, dif_pos (by omega)]
        have : j - i = (j - (i + 1)) + 1 := by omega
        simp only [this, List.getElem_cons_succ]
      · rw [dif_neg h2, if_neg h, dif_neg (by omega)]

/-- An activation at its beginning. -/
theorem enter_rel {β : Env} {args : List AV} {xs : List Value} (h : VRs β args xs) (n : Nat) (H : Tr AO) (hs : Nat) :
    FR β ⟨putL .lf 0 args, max args.length n, H, hs, []⟩ { tmps := xs.toArray ++ Array.replicate (n - xs.toArray.size) undef, defers := [] } := by
  have hl := h.length
  refine ⟨by simp; omega, fun i hi => ?_⟩
  simp only at hi
  rw [putL_get]
  by_cases hlt : i < args.length
  · rw [dif_pos (by omega)]
    obtain ⟨v, hv, hr⟩ := h.get i args[i] (by simp [hlt])
    have : ({ tmps := xs.toArray ++ Array.replicate (n - xs.toArray.size) undef, defers := [] } : Act).tmps.getD i undef = v := by
      simp only [Array.getD_eq_getD_getElem?]
      rw [Array.getElem?_append_left (by simp; omega)]
      simp [hv]
    rw [this]
    simpa using hr
  · rw [dif_neg (by omega)]
    have : ({ tmps := xs.toArray ++ Array.replicate (n - xs.toArray.size) undef, defers := [] } : Act).tmps.getD i undef = undef := by
      simp only [Array.getD_eq_getD_getElem?]
      rw [Array.getElem?_append_right (by simp; omega)]
      simp [Array.getElem?_replicate]
      split <;> rfl
    rw [this]
    exact VR.any _

/-- The marks are come to, one after another. -/
theorem shut_rel {P : Program} {fn : Func} {tmps : Array Value} {R : Ending → World → Prop} {n : Nat} {B : World} {hs : Nat} {β : Env} : ∀ {l : List Nat} {ds : List Deferred} {H H' : Tr AO} {W : World}, DR β l ds → shut H l = some H' → WR β B H hs W →
    (∀ W', WR β B H' hs W' → ∃ v, (results fn tmps).run P W' = .ok v W' ∧ R (.returned v) W') → LeavesInM (FW none) n P fn tmps R ds .returning W
  | [], _, H, H', W, .nil, h, hw, k => by
    simp only [shut, Option.some.injEq] at h; subst h
    exact k W hw
  | o :: l, _, H, H', W, .cons _ kb _ ds hk t, h, hw, k => by
    simp only [shut] at h
    split at h
    · rename_i hg
      have ho := hw.obj o kb hk
      rw [hg] at ho
      obtain ⟨o1, o2⟩ := ho
      have hu := Upd.putObj W kb.blk (.deferred none)
      have hw2 : WR β B (H.put .dead o (.defd false)) hs (W.putObj kb.blk (.deferred none)) := by
        refine hw.write hk _ (by rw [hg]; rfl) (hu.below o2) hu.size hu.oth ?_ (fun _ => by rw [hg]; rfl)
        rw [World.putObj_heap_same (hw.blk o kb hk)]
        exact ⟨rfl, o2⟩
      exact ⟨by simp, .inl ⟨kb.blk, _, rfl, run_takeDeferred (by simpa using o1), shut_rel t h hw2 k⟩⟩
    · cases h

section
variable {P : Program} {T : Tab} (hT : TOk P T) {rec : Rec} (hR : Snd P rec)
include hT hR

theorem callF_rel {f : Nat} {args : List AV} {H H' : Tr AO} {hs hs' : Nat} {v : AV} (h : callF T rec f args H hs = some (v, H', hs')) {β : Env} {B W : World} (hw : WR β B H hs W) {xs : List Value} (hx : VRs β args xs) (n : Nat) :
    CallsIn (FW none) n P f xs.toArray W (EndR β B hs v H' hs') ∧ ∃ fn c, P.funcs[f]? = some fn ∧ fn.body = some c ∧ fn.name ≠ "runtime.NumGoroutine" := by
  unfold callF at h
  split at h
  · cases h
  · rename_i fi hfi
    obtain ⟨fn, f1, f2, f3, f4, f5⟩ := hT.fn f fi hfi
    refine ⟨callsIn_of_wp_marks f1 f2 trivial ?_, fn, _, f1, f2, f5⟩
    have hsr : SR β B ⟨putL .lf 0 args, max args.length fi.ntmps, H, hs, []⟩ { tmps := xs.toArray ++ Array.replicate (fn.ntmps - xs.toArray.size) undef, defers := [] } W := by
      rw [f3]
      exact ⟨hw, enter_rel hx fi.ntmps H hs, .nil⟩
    have fin : ∀ (s' : AS), (match shut s'.heap s'.defs with
      | some H' => match resOf T { s' with heap := H' } fi.results with
        | some l => some (one l, H', s'.hs)
        | none => none
      | none => none) = some (v, H', hs') → ∀ β' a' W', Env.on β β' hs s'.hs → SR β' B s' a' W' → LeavesInM (FW none) n P fn a'.tmps (EndR β B hs v H' hs') a'.defers .returning W' := by
      intro s' h β' a' W' hon hs'
      split at h
      · rename_i H2 hsh
        split at h
        · rename_i l hres
          cases h
          refine shut_rel hs'.d hsh hs'.w fun W2 hw2 => ?_
          obtain ⟨v', q1, q2⟩ := results_rel hT (s := { s' with heap := H' }) (fn := fn) hw2 hs'.f.size hs'.f.get (by rw [f4]; exact hres)
          exact ⟨v', q1, β', hon, hw2, q2⟩
        · cases h
      · cases h
    split at h
    · rename_i s' hrec
      refine hR none _ _ _ _ hrec β B _ W n none trivial hsr _ fun β' a' W' hon hs2 _ => ?_
      exact fin s' h β' a' W' hon hs2
    · rename_i s' hrec
      refine hR none _ _ _ _ hrec β B _ W n none trivial hsr _ fun β' a' W' hon hs2 _ => ?_
      exact fin s' h β' a' W' hon hs2
    · cases h

end
end Go.Proofs.YtnmlgekgbmlgjaaGreat.Ev
