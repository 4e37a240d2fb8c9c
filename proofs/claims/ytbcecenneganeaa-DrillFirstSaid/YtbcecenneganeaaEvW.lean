import Derived.Test.YtbcecenneganeaaEvL
set_option linter.all false
namespace Go.Proofs.Ytbcecenneganeaa.Ev
open Go.RowKit

/-! ### Runs without a bound on their depth -/

def RLe (a b : Rec) : Prop := ∀ ro c s r, a ro c s = some r → b ro c s = some r

open Classical in
/-- What code comes to, if it comes to anything at some depth. -/
noncomputable def evw (T : Tab) : Rec := fun ro c s => if h : ∃ n r, ev T n ro c s = some r then some (Classical.choose (Classical.choose_spec h)) else none

theorem evw_some {T : Tab} {ro : Option Nat} {c : Code} {s : AS} {r : AX × AS} (h : evw T ro c s = some r) : ∃ n, ev T n ro c s = some r := by
  unfold evw at h
  split at h
  · rename_i hh
    cases h
    exact ⟨_, Classical.choose_spec (Classical.choose_spec hh)⟩
  · cases h

def EvMono (T : Tab) : Prop := ∀ n m, n ≤ m → RLe (ev T n) (ev T m)

theorem evw_of {T : Tab} (hm : EvMono T) {ro : Option Nat} {c : Code} {s : AS} {r : AX × AS} {n : Nat} (h : ev T n ro c s = some r) : evw T ro c s = some r := by
  cases hx : evw T ro c s with
  | none =>
    unfold evw at hx
    rw [dif_pos ⟨n, r, h⟩] at hx
    cases hx
  | some r' =>
    obtain ⟨m, hm'⟩ := evw_some hx
    have h1 := hm n (max n m) (Nat.le_max_left _ _) _ _ _ _ h
    have h2 := hm m (max n m) (Nat.le_max_right _ _) _ _ _ _ hm'
    rw [h1] at h2; exact h2.symm

/-- It grows with what it is given, and asks for finite depth alone. -/
def Good (T : Tab) {α : Type} (F : Rec → Option α) : Prop :=
  (∀ a b r, RLe a b → F a = some r → F b = some r) ∧ (EvMono T → ∀ r, F (evw T) = some r → ∃ n, F (ev T n) = some r)

variable {T : Tab}

theorem Good.const {α : Type} (o : Option α) : Good T (fun _ => o) := ⟨fun _ _ _ _ h => h, fun _ r h => ⟨0, h⟩⟩
theorem Good.rc (ro : Option Nat) (c : Code) (s : AS) : Good T (fun rec => rec ro c s) := ⟨fun _ _ r h g => h _ _ _ _ g, fun _ r h => evw_some h⟩
theorem Good.bind {α β : Type} {F : Rec → Option α} {K : Option α → Rec → Option β} (hF : Good T F) (h0 : ∀ rec, K none rec = none) (hK : ∀ a, Good T (K (some a))) : Good T (fun rec => K (F rec) rec) := by
  refine ⟨fun a b r hab h => ?_, fun hm r h => ?_⟩
  · cases hx : F a with
    | none => simp only [hx, h0] at h; cases h
    | some x =>
      simp only [hx] at h
      simp only [hF.1 a b x hab hx]
      exact (hK x).1 a b r hab h
  · cases hx : F (evw T) with
    | none => simp only [hx, h0] at h; cases h
    | some x =>
      simp only [hx] at h
      obtain ⟨n, hn⟩ := hF.2 hm x hx
      obtain ⟨m, hk⟩ := (hK x).2 hm r h
      refine ⟨max n m, ?_⟩
      have h1 := hF.1 _ _ x (hm n (max n m) (Nat.le_max_left _ _)) hn
      have h2 := (hK x).1 _ _ r (hm m (max n m) (Nat.le_max_right _ _)) hk
      simp only [h1]; exact h2
theorem Good.map {α β : Type} {F : Rec → Option α} (K : Option α → Option β) (hF : Good T F) (h0 : K none = none) : Good T (fun rec => K (F rec)) :=
  Good.bind (K := fun o _ => K o) hF (fun _ => h0) (fun a => Good.const _)
theorem Good.congr {α : Type} {F G : Rec → Option α} (h : ∀ rec, F rec = G rec) (hG : Good T G) : Good T F := by
  have : F = G := funext h
  rw [this]; exact hG

theorem good_bodyF (fi : FI) (m : Bool) (args : List AV) (H : Tr AO) (hs : Nat) : Good T (fun rec => bodyF rec T fi m args H hs) := by
  unfold bodyF
  exact Good.map (fun o => match o with
    | some (.normal, s') => match shut s'.heap s'.defs with
      | some H' => match resOf T { s' with heap := H' } fi.results with
        | some l => some (one l, H', s'.hs)
        | none => none
      | none => none
    | some (.ret, s') => match shut s'.heap s'.defs with
      | some H' => match resOf T { s' with heap := H' } fi.results with
        | some l => some (one l, H', s'.hs)
        | none => none
      | none => none
    | _ => none) (Good.rc _ _ _) rfl

theorem good_isoF (fi : FI) (m : Bool) (args : List AV) : Good T (fun rec => isoF rec T fi m args) := by
  unfold isoF
  exact Good.map (fun o => match o with
    | some (v, H, _) => match frzR T fi.rts v H with
      | some (u, _) => bif bare u then some (nrm u) else none
      | none => none
    | none => none) (good_bodyF fi m args .lf 0) rfl

theorem good_callF (m : Bool) (f : Nat) (args : List AV) (H : Tr AO) (hs : Nat) : Good T (fun rec => callF T rec m f args H hs) := by
  unfold callF
  cases hc : T.con f args H hs with
  | some r => exact Good.const _
  | none =>
    cases hf : T.f f with
    | none => exact Good.const _
    | some fi =>
      simp only
      cases hi : fi.iso with
      | false => simp only [cond_false]; exact good_bodyF fi m args H hs
      | true =>
        simp only [cond_true]
        cases hz : (bif bares args then some (args, H) else frzL (frz T 30) fi.pts args H) with
        | none => exact Good.const _
        | some p =>
          obtain ⟨as, H1⟩ := p
          simp only
          cases hb : bares as with
          | false => simp only [cond_false]; exact Good.const _
          | true =>
            simp only [cond_true]
            exact Good.map (fun o => match o with | some v => some (v, H1, hs) | none => none) (good_isoF fi m (nrms as)) rfl

theorem good_roundF (o : Nat) (args : List AV) (H : Tr AO) (hs : Nat) : Good T (fun rec => roundF rec o args H hs) := by
  unfold roundF
  cases hg : H.get .dead o with
  | loop st pend tmps ps assign body d lm =>
    cases st with
    | ready =>
      simp only
      cases hb : decide (args.length = ps.size) with
      | false => simp only [cond_false]; exact Good.const _
      | true =>
        simp only [cond_true]
        refine Good.bind (β := AV × Tr AO × Nat) (K := fun o' rec => match o' with
          | some (.normal, s1) =>
            match s1.heap.get .dead o with
            | .loop .ready p1 t1 ps1 a1 b1 d1 lm1 =>
              match rec (some o) body { s1 with heap := s1.heap.put .dead o (.loop .busy p1 t1 ps1 a1 b1 d1 lm1) } with
              | some (x, s2) =>
                match s2.heap.get .dead o with
                | .loop _ _ t2 ps2 a2 b2 d2 lm2 =>
                  (match x with
                  | .normal => some (.lit (.bool true), s2.heap.put .dead o (.loop .ready none t2 ps2 a2 b2 d2 lm2), s2.hs)
                  | .ret => some (.lit (.bool false), s2.heap.put .dead o (.loop .done (some .ret) t2 ps2 a2 b2 d2 lm2), s2.hs)
                  | .exit i => some (.lit (.bool false), s2.heap.put .dead o (.loop .done (some (.exit i)) t2 ps2 a2 b2 d2 lm2), s2.hs)
                  | .goto i => some (.lit (.bool false), s2.heap.put .dead o (.loop .done (some (.goto i)) t2 ps2 a2 b2 d2 lm2), s2.hs))
                | _ => none
              | none => none
            | _ => none
          | _ => none) (Good.rc _ _ _) (fun _ => rfl) fun a => ?_
        obtain ⟨x, s1⟩ := a
        cases x with
        | normal =>
          simp only
          cases hg1 : s1.heap.get .dead o with
          | loop st1 p1 t1 ps1 a1 b1 d1 lm1 =>
            cases st1 with
            | ready =>
              simp only
              exact Good.map (β := AV × Tr AO × Nat) (fun o' => match o' with
                | some (x, s2) =>
                  match s2.heap.get .dead o with
                  | .loop _ _ t2 ps2 a2 b2 d2 lm2 =>
                    (match x with
                    | .normal => some (.lit (.bool true), s2.heap.put .dead o (.loop .ready none t2 ps2 a2 b2 d2 lm2), s2.hs)
                    | .ret => some (.lit (.bool false), s2.heap.put .dead o (.loop .done (some .ret) t2 ps2 a2 b2 d2 lm2), s2.hs)
                    | .exit i => some (.lit (.bool false), s2.heap.put .dead o (.loop .done (some (.exit i)) t2 ps2 a2 b2 d2 lm2), s2.hs)
                    | .goto i => some (.lit (.bool false), s2.heap.put .dead o (.loop .done (some (.goto i)) t2 ps2 a2 b2 d2 lm2), s2.hs))
                  | _ => none
                | none => none) (Good.rc _ _ _) rfl
            | _ => exact Good.const _
          | _ => exact Good.const _
        | _ => exact Good.const _
    | _ => exact Good.const _
  | _ => exact Good.const _

theorem good_callV (m : Bool) (f : AV) (args : List AV) (H : Tr AO) (hs : Nat) : Good T (fun rec => callV T rec m f args H hs) := by
  unfold callV
  cases f with
  | fn f a b =>
    cases f with
    | func g => exact good_callF m g _ H hs
    | _ => exact Good.const _
  | yld o => exact good_roundF o args H hs
  | _ => exact Good.const _

theorem good_actOp (s : AS) (o : Op) : Good T (fun rec => actOp T rec s o) := by
  unfold actOp
  cases o with
  | call c =>
    obtain ⟨callee, args, tys⟩ := c
    cases callee with
    | value f =>
      simp only
      cases opd s f with
      | none => exact Good.const _
      | some g =>
        cases opds s args.toList with
        | none => exact Good.const _
        | some as => exact good_callV s.lm g as s.heap s.hs
    | _ => exact Good.const _
  | _ => exact Good.const _

theorem good_evOp (o : Oper) (s : AS) : Good T (fun rec => evOp T rec o s) := by
  unfold evOp
  rcases hc : cls o.op with _ | _ | _ | _ | n
  · exact Good.const _
  · exact Good.const _
  · exact Good.const _
  · simp only
    exact Good.map (fun o' => match o' with | some (v, H, hs) => setT { s with heap := H, hs := hs } o.dst v | none => none) (good_actOp s o.op) rfl
  · exact Good.const _

theorem good_evOps (ops : Array Oper) : ∀ (l : List Oper) (s : AS), Good T (fun rec => evOps T rec ops l s)
  | [], s => Good.const _
  | o :: l, s => by
    simp only [evOps]
    cases hw : wantd s ops o with
    | none => exact Good.const _
    | some b =>
      cases b with
      | true =>
        simp only
        exact Good.bind (K := fun o' rec => match o' with | some s' => evOps T rec ops l s' | none => none) (good_evOp o s) (fun _ => rfl) fun s' => good_evOps ops l s'
      | false =>
        simp only
        cases setT s o.dst udef with
        | none => exact Good.const _
        | some s' => exact good_evOps ops l s'

theorem good_drawGo (D : DI) : ∀ (es : List Nat) (k : Nat) (vals : Tr AV) (H : Tr AO) (hs : Nat) (aid : Tr Nat), Good T (fun rec => drawGo T rec D es k vals H hs aid)
  | [], k, vals, H, hs, aid => by
    unfold drawGo
    cases layer T D k D.ops.toList 0 ⟨vals, H, hs, [], aid⟩ <;> exact Good.const _
  | e :: es, k, vals, H, hs, aid => by
    unfold drawGo
    cases layer T D k D.ops.toList 0 ⟨vals, H, hs, [], aid⟩ with
    | none => exact Good.const _
    | some r =>
      simp only
      cases D.ops[e]? with
      | none => exact Good.const _
      | some o =>
        simp only
        cases rvals D r.vals e (readsOf D.ops o) with
        | none => exact Good.const _
        | some rv =>
          simp only
          cases wantd (stOf D rv (Ev.pushes r.as H hs).1 (Ev.pushes r.as H hs).2) D.ops o with
          | none => exact Good.const _
          | some b =>
            cases b with
            | false =>
              simp only
              exact Good.map (fun o' => match o' with
                | some (ls, fs, vs, ad) => some (⟨H, hs, r.as⟩ :: ls, ⟨e, rv, udef⟩ :: fs, vs, ad)
                | none => none) (good_drawGo D es (k + 1) (r.vals.put .any e udef) _ _ r.aid) rfl
            | true =>
              simp only
              refine Good.bind (K := fun o' rec => match o' with
                | none => none
                | some (v, H', hs') => match drawGo T rec D es (k + 1) (r.vals.put .any e v) H' hs' r.aid with
                  | some (ls, fs, vs, ad) => some (⟨H, hs, r.as⟩ :: ls, ⟨e, rv, v⟩ :: fs, vs, ad)
                  | none => none) (good_actOp _ o.op) (fun _ => rfl) fun a => ?_
              obtain ⟨v, H', hs'⟩ := a
              exact Good.map (fun o' => match o' with
                | some (ls, fs, vs, ad) => some (⟨H, hs, r.as⟩ :: ls, ⟨e, rv, v⟩ :: fs, vs, ad)
                | none => none) (good_drawGo D es (k + 1) (r.vals.put .any e v) H' hs' r.aid) rfl

theorem good_evDraw (ops : Array Oper) (s : AS) : Good T (fun rec => evDraw T rec ops s) := by
  unfold evDraw
  cases masks ops.toList 0 .lf with
  | none => exact Good.const _
  | some ms =>
    cases writers ops.toList 0 .lf with
    | none => exact Good.const _
    | some wt =>
      simp only
      exact Good.map (β := AX × AS) (fun o' => match o' with
        | some (ls, fs, vals, aid) =>
          bif chain ms (effIdx ops.toList 0) && dstsOk s.nt ops.toList && chkEff ⟨ops, ms, wt, effIdx ops.toList 0, s⟩ vals aid fs (effIdx ops.toList 0) && chkAll T ⟨ops, ms, wt, effIdx ops.toList 0, s⟩ ls vals aid (ownOf ops.size 0 aid .lf) ops.toList 0 then
            match lastLay ls with
            | some L => some (.normal, { s with tmps := putsD vals ops.toList 0 s.tmps, heap := (Ev.pushes L.as L.h0 L.n0).1, hs := (Ev.pushes L.as L.h0 L.n0).2 })
            | none => none
          else none
        | none => none) (good_drawGo ⟨ops, ms, wt, effIdx ops.toList 0, s⟩ (effIdx ops.toList 0) 0 .lf s.heap s.hs .lf) rfl

theorem good_jstep (D : DI) (i : Nat) (o : Oper) (q : JS) : Good T (fun rec => jstep T rec D i o q) := by
  unfold jstep
  cases rvals D q.vals i (readsOf D.ops o) with
  | none => exact Good.const _
  | some rv =>
    simp only
    cases wantd (stOf D rv q.H q.hs) D.ops o with
    | none => exact Good.const _
    | some b =>
      cases b with
      | false => exact Good.const _
      | true =>
        simp only [jgo]
        cases hc : Nat.beq (cls o.op) 3 with
        | false => simp only [cond_false]; exact Good.const _
        | true =>
          simp only [cond_true]
          exact Good.map (jeff q i rv) (good_actOp _ o.op) rfl

theorem good_jrun (D : DI) : ∀ (l : List Oper) (i : Nat) (q : JS), Good T (fun rec => jrun T rec D l i q)
  | [], i, q => Good.const _
  | o :: l, i, q => by
    simp only [jrun]
    exact Good.bind (β := JS) (K := fun o' rec => match o' with | some q' => jrun T rec D l (i + 1) q' | none => none) (good_jstep D i o q) (fun _ => rfl) fun q' => good_jrun D l (i + 1) q'

theorem good_evDrawJ (ops : Array Oper) (s : AS) : Good T (fun rec => evDrawJ T rec ops s) := by
  unfold evDrawJ
  cases masks ops.toList 0 .lf with
  | none => exact Good.const _
  | some ms =>
    cases writers ops.toList 0 .lf with
    | none => exact Good.const _
    | some wt =>
      simp only
      exact Good.map (β := AX × AS) (fun o' => match o' with
        | some q =>
          bif chain ms (effIdx ops.toList 0) && dstsOk s.nt ops.toList && chkEff ⟨ops, ms, wt, effIdx ops.toList 0, s⟩ q.vals .lf q.fs (effIdx ops.toList 0) && chkAll T ⟨ops, ms, wt, effIdx ops.toList 0, s⟩ (lays q.hps) q.vals .lf .lf ops.toList 0 then
            some (.normal, { s with tmps := putsD q.vals ops.toList 0 s.tmps, heap := q.H, hs := q.hs })
          else none
        | none => none) (good_jrun ⟨ops, ms, wt, effIdx ops.toList 0, s⟩ ops.toList 0 ⟨.lf, s.heap, s.hs, [(s.heap, s.hs)], []⟩) rfl

theorem good_scopeGo (ro : Option Nat) (c : Code) : ∀ (m : Nat) (x : Code) (s : AS), Good T (fun rec => scopeGo rec ro c m x s)
  | 0, x, s => Good.const _
  | m + 1, x, s => by
    refine Good.congr (G := fun rec => match rec ro x s with
      | some (.goto l, s') => (match findLabel c l with
        | some rest => scopeGo rec ro c m rest s'
        | none => some (.goto l, s'))
      | r => r) (fun _ => rfl) ?_
    refine Good.bind (β := AX × AS) (K := fun (o' : Option (AX × AS)) rec => match o' with
      | some (.goto l, s') => (match findLabel c l with
        | some rest => scopeGo rec ro c m rest s'
        | none => some (.goto l, s'))
      | r => r) (Good.rc _ _ _) (fun _ => rfl) fun a => ?_
    obtain ⟨y, s'⟩ := a
    cases y with
    | goto l =>
      simp only
      cases findLabel c l with
      | none => exact Good.const _
      | some rest => exact good_scopeGo ro c m rest s'
    | _ => exact Good.const _

theorem good_step (ro : Option Nat) (c : Code) (s : AS) : Good T (fun rec => step T rec ro c s) := by
  cases c with
  | skip => exact Good.const _
  | label l => exact Good.const _
  | exit i => exact Good.const _
  | goto l => exact Good.const _
  | ret => exact Good.const _
  | seq x y =>
    show Good T (fun rec => match rec ro x s with | some (.normal, s') => rec ro y s' | r => r)
    refine Good.bind (β := AX × AS) (K := fun (o' : Option (AX × AS)) rec => match o' with
      | some (.normal, s') => rec ro y s'
      | r => r) (Good.rc _ _ _) (fun _ => rfl) fun a => ?_
    obtain ⟨e, s'⟩ := a
    cases e with
    | normal => exact Good.rc _ _ _
    | _ => exact Good.const _
  | cond c x y =>
    show Good T (fun rec => match opd s c with | some (.lit (.bool true)) => rec ro x s | some (.lit (.bool false)) => rec ro y s | _ => none)
    split
    · exact Good.rc _ _ _
    · exact Good.rc _ _ _
    · exact Good.const _
  | block i x =>
    exact Good.map (β := AX × AS) (fun (o' : Option (AX × AS)) => match o' with
      | some (.exit j, s') => some (bif Nat.beq j i then .normal else .exit j, s')
      | r => r) (Good.rc _ _ _) rfl
  | loop x =>
    refine Good.bind (β := AX × AS) (K := fun (o' : Option (AX × AS)) rec => match o' with
      | some (.normal, s') => rec ro (.loop x) s'
      | r => r) (Good.rc _ _ _) (fun _ => rfl) fun a => ?_
    obtain ⟨e, s'⟩ := a
    cases e with
    | normal => exact Good.rc _ _ _
    | _ => exact Good.const _
  | scope c => exact good_scopeGo ro c 1000000 c s
  | region i ops d =>
    cases d with
    | true =>
      show Good T (fun rec => evDr T rec ops s)
      unfold evDr
      cases useJ s.lm ops.toList with
      | true => exact good_evDrawJ ops s
      | false => exact good_evDraw ops s
    | false => exact good_evOps ops _ s
  | rangeFunc g ps assign body =>
    unfold step
    simp only
    cases hg : opd s g with
    | none => exact Good.const _
    | some gv =>
      cases gv with
      | fn f x y =>
        cases f with
        | func g =>
          simp only
          cases he : enterF ro s with
          | none => exact Good.const _
          | some p =>
            obtain ⟨d, H, hs, defs⟩ := p
            simp only
            refine Good.bind (β := AX × AS) (K := fun o' rec => match o' with
              | some (_, H', hs') =>
                match H'.get .dead hs with
                | .loop st pend t2 ps2 a2 b2 d2 lm2 =>
                  bif decide (st = LoopState.busy) then none else
                  (match pend with
                   | none => some (.normal, ({ s with heap := H'.put .dead hs (.loop .exhausted pend t2 ps2 a2 b2 d2 lm2), hs := hs', defs := defs } : AS))
                   | some c => rec ro c ({ s with heap := H'.put .dead hs (.loop .exhausted pend t2 ps2 a2 b2 d2 lm2), hs := hs', defs := defs } : AS))
                | _ => none
              | none => none) (good_callF s.lm g _ _ _) (fun _ => rfl) fun a => ?_
            obtain ⟨v, H', hs'⟩ := a
            simp only
            cases hl : H'.get .dead hs with
            | loop st pend t2 ps2 a2 b2 d2 lm2 =>
              simp only
              cases hb : decide (st = LoopState.busy) with
              | true => exact Good.const _
              | false =>
                simp only [cond_false]
                cases pend with
                | none => exact Good.const _
                | some c => exact Good.rc _ _ _
            | _ => exact Good.const _
        | _ => exact Good.const _
      | _ => exact Good.const _
  | _ => exact Good.const _

theorem ev_mono1 : ∀ n, RLe (ev T n) (ev T (n + 1))
  | 0 => fun _ _ _ _ h => by cases h
  | n + 1 => fun ro c s r h => (good_step ro c s).1 (ev T n) (ev T (n + 1)) r (ev_mono1 n) h

theorem ev_mono (T : Tab) : EvMono T := by
  intro n m h
  induction h with
  | refl => exact fun _ _ _ _ h => h
  | step _ ih => exact fun ro c s r h => ev_mono1 _ _ _ _ _ (ih _ _ _ _ h)

/-- Code comes to what its step comes to. -/
theorem evw_step (ro : Option Nat) (c : Code) (s : AS) : evw T ro c s = step T (evw T) ro c s := by
  cases h : step T (evw T) ro c s with
  | some r =>
    obtain ⟨n, hn⟩ := (good_step ro c s).2 (ev_mono T) r h
    exact evw_of (ev_mono T) (n := n + 1) hn
  | none =>
    cases hx : evw T ro c s with
    | none => rfl
    | some r =>
      obtain ⟨n, hn⟩ := evw_some hx
      cases n with
      | zero => cases hn
      | succ n =>
        have := (good_step ro c s).1 (ev T n) (evw T) r (fun ro c s r h => evw_of (ev_mono T) h) hn
        have this : step T (evw T) ro c s = some r := this
        rw [h] at this; cases this

theorem callw_run {f : Nat} {args : List AV} {v : AV} {H : Tr AO} {hs : Nat} (h : callF T (evw T) true f args .lf 0 = some (v, H, hs)) : ∃ n, run T n f args = some (v, H, hs) :=
  (good_callF true f args .lf 0).2 (ev_mono T) _ h

end Go.Proofs.Ytbcecenneganeaa.Ev
