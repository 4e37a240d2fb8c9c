import Derived.Test.YtcledcfeddlomaaGreatDoorEvG
import Derived.SizedLaws
import Derived.Lib.LaidTab
set_option linter.all false
namespace Go.Proofs.YtcledcfeddlomaaGreatDoor.Ev
open Go Go.RowKit Go.ChangeShapes Go.WideShapes Go.ChangeAt
section
variable {P : Program} {T : Tab}
def Szd (P : Program) (ts : List Nat) (as : List AV) : Prop := ∀ (j t e : Nat) (tk : ATk) (es : List AV), ts[j]? = some t -> P.underlying t = some (.slice e) -> as[j]? = some (.lst tk es) -> es.length * P.bytesOf e <= reachBytes
theorem szd_one {H : Type} {enc : TypeId × Value -> H} {W : World} {sp : Nat -> Bool} {held : Bool} {β : Env} : ∀ {ts : List Nat} {vs : List Value} {ds : List (DataW H)} {ps : List MemPlace} {as : List AV}, DataW.TrodAll enc P W 0 sp held ts vs ds ps -> VRs β as vs ->
  ∀ (j t e : Nat) (tk : ATk) (es : List AV), ts[j]? = some t -> P.underlying t = some (.slice e) -> as[j]? = some (.lst tk es) -> es = [] ∨ ∃ elems spare, ds[j]? = some (.slice elems spare) /\ elems.length = es.length
 | [], [], [], _, as, _, h2, j, t, e, tk, es, h3, _, _ => by simp at h3
 | t0 :: ts, v :: vs, d :: ds, ps, as, ⟨p, q', ⟨fuel, h⟩, h2, _⟩, hv, j, t, e, tk, es, h3, hu, h4 => by
  cases hv with
  | cons a _ l _ r1 r2 =>
   cases j with
   | zero =>
    simp only [List.getElem?_cons_zero, Option.some.injEq] at h3 h4
    subst h3 h4
    cases r1 with
    | lstN tk => exact .inl rfl
    | lstE tk a c _ _ => exact .inl rfl
    | lst tk sz es vs' b o c q1 q2 q3 q4 q5 q6 =>
     rcases DataW.trod_slice hu h with ⟨h5, _⟩ | ⟨a, len, cap, elems, rest, n, _, h5, h6, _, _, _, h7, _⟩
     ·have : (Value.slice (some ⟨b, o, none⟩) es.length c).cells.toList = [Value.slice (some ⟨b, o, none⟩) es.length c] := rfl
      rw [this] at h5; cases h5
     ·have : (Value.slice (some ⟨b, o, none⟩) es.length c).cells.toList = [Value.slice (some ⟨b, o, none⟩) es.length c] := rfl
      rw [this] at h5; cases h5
      cases h6
      exact .inr ⟨_, _, rfl, by rw [List.length_map]; exact h7⟩
   | succ j =>
    simp only [List.getElem?_cons_succ] at h3 h4 ⊢
    exact szd_one h2 r2 j t e tk es h3 hu h4
 | [], [], _ :: _, _, _, h, _, _, _, _, _, _, _, _, _ => h.elim
 | [], _ :: _, _, _, _, h, _, _, _, _, _, _, _, _, _ => h.elim
 | _ :: _, [], _, _, _, h, _, _, _, _, _, _, _, _, _ => h.elim
 | _ :: _, _ :: _, [], _, _, h, _, _, _, _, _, _, _, _, _ => h.elim
def WalkG (P : Program) (T : Tab) (gl : Tr (Option AV)) (f : Nat) (ts : List Nat) : Prop := ∀ (args : List AV), ArgsT T ts args -> Szd P ts args -> ∃ H hs, callF T (evw T) ⟨true, true, gl⟩ f args .lf 0 = some (.lit (.bool true), H, hs)
theorem law_walkG (hT : TSnd P T) (hC : ∀ t i, T.t t = some i -> chkS T t i = true) {gl : Tr (Option AV)} {f : Nat} {ts : List Nat} (hw : WalkG P T gl f ts) {H : Type} {enc : TypeId × Value -> H} {W : World} {args : Array Value} {base : Nat} {ds gs : List (DataW H)} {before : List MemPlace} {vars : List String} {ws : List Nat} {apart : Bool}
  (hok : ∀ (j : Nat) t v, ts[j]? = some t -> args[j]? = some v -> Value.okWide P W .any base t v) (hW : DataW.Whole enc P ts vars apart W args.toList ds gs before)
  (hz : (DataW.weightsEach P (ts ++ ws) (ds ++ gs)).all (· <= reachBytes) = true) (hgl : GlOk (env0 (fun _ => undef) W) gl) :
  Calls P f args W fun e W' => e = .returned (.bool true) /\ Below W.heap.size W W' := by
 obtain ⟨p, q, hA, _⟩ := hW
 obtain ⟨as, h1, h2⟩ := args_vr hT.toTOk hC (fun _ => undef) W hA (fun j t v h3 h4 => hok j t v h3 (by simpa using h4))
 have hs : Szd P ts as := fun j t e tk es g1 g2 g3 => by
  rcases szd_one hA h1 j t e tk es g1 g2 g3 with rfl | ⟨elems, spare, g4, g5⟩
  ·simp
  ·have hjt : j < ts.length := (List.getElem?_eq_some_iff.1 g1).1
   have hjd : j < ds.length := (List.getElem?_eq_some_iff.1 g4).1
   have := sized_slice hz (j := j) (t := t) (e := e) (elems := elems) (spare := spare) (by rw [List.getElem?_append_left hjt]; exact g1) (by rw [List.getElem?_append_left hjd]; exact g4) g2
   rw [<- g5]
   exact Nat.le_trans (Nat.mul_le_mul_right _ (Nat.le_add_right _ _)) this
 obtain ⟨H1, hs1, hr⟩ := hw as h2 hs
 obtain ⟨n, hn⟩ := callw_run hr
 have := run_sound hT hn _ W hgl h1
 rw [Array.toArray_toList] at this
 refine Calls.mono this fun e W' he => ?_
 cases e with
 | returned v' =>
  obtain ⟨β, _, hw, hv⟩ := he
  rw [hv.of_lit]
  exact ⟨rfl, ⟨hw.below.os, hw.below.tape, hw.below.output, hw.below.size, hw.below.block⟩⟩
 | panicked c => exact he.elim
 | outgrown => exact he.elim
theorem vr_glob {q : Nat -> Value} {W : World} {g : Nat} {arr : Array Value} {e : TypeId} {f : Nat × Nat} {cs : List AV} (hb : W.heap[g]? = some (.cells arr e f)) (hc : VRs (env0 q W).al cs arr.toList) :
  VR (env0 q W).al (.eptr cs) (.pointer (some ⟨g, 0, none⟩)) /\ ∃ arr e f, (env0 q W).fm g = some (.cells arr e f) /\ ∀ cs', AV.eptr cs = .eptr cs' -> arr.size = cs'.length := by
 refine ⟨.eptr cs arr.toList g 0 hc fun i v hi => ?_, arr, e, f, ?_, fun cs' h => ?_⟩
 ·show fzOf W g (0 + i) = some v
  unfold fzOf
  rw [hb, Nat.zero_add]
  simpa using hi
 ·show fmOf W g = _
  unfold fmOf
  rw [hb]
 ·cases h
  have := VRs.length hc
  simpa using this
theorem vrs_ints {β : Env} {k : IntKind} : ∀ zs : List Int, VRs β (zs.map fun z => AV.lit (.int k z)) (zs.map fun z => Value.int k z)
 | [] => .nil
 | z :: zs => .cons _ _ _ _ (.lit _) (vrs_ints zs)
theorem gl_tab {q : Nat -> Value} {W : World} {name : String} {k : IntKind} {zs : List Int} {g : Nat} (hn : P.globalNamed name = some g) (h : Go.Lib.TabIs P W name k zs) :
  VR (env0 q W).al (.eptr (zs.map fun z => AV.lit (.int k z))) (.pointer (some ⟨g, 0, none⟩)) /\ ∃ arr e f, (env0 q W).fm g = some (.cells arr e f) /\ ∀ cs', AV.eptr (zs.map fun z => AV.lit (.int k z)) = .eptr cs' -> arr.size = cs'.length := by
 unfold Go.Lib.TabIs World.var? at h
 rw [hn, Option.bind_some] at h
 split at h
 ·rename_i cs t f hb
  cases h
  exact vr_glob hb (by rw [List.toList_toArray]; exact vrs_ints zs)
 ·cases h
end
end Go.Proofs.YtcledcfeddlomaaGreatDoor.Ev
