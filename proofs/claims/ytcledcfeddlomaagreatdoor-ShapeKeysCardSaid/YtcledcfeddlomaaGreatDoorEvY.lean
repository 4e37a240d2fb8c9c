import Derived.Test.YtcledcfeddlomaaGreatDoorEvL
set_option linter.all false
namespace Go.Proofs.YtcledcfeddlomaaGreatDoor.Ev
open Go.RowKit
def RLe (a b : Rec) : Prop := ∀ ro c s r, a ro c s = some r -> b ro c s = some r
open Classical in
noncomputable def evw (T : Tab) : Rec := fun ro c s => if h : ∃ n r, ev T n ro c s = some r then some (Classical.choose (Classical.choose_spec h)) else none
theorem evw_some {T : Tab} {ro : Option Nat} {c : Code} {s : AS} {r : AX × AS} (h : evw T ro c s = some r) : ∃ n, ev T n ro c s = some r := by
 unfold evw at h
 split at h
 ·rename_i hh
  cases h
  exact ⟨_, Classical.choose_spec (Classical.choose_spec hh)⟩
 ·cases h
def EvMono (T : Tab) : Prop := ∀ n m, n <= m -> RLe (ev T n) (ev T m)
theorem evw_of {T : Tab} (hm : EvMono T) {ro : Option Nat} {c : Code} {s : AS} {r : AX × AS} {n : Nat} (h : ev T n ro c s = some r) : evw T ro c s = some r := by
 cases hx : evw T ro c s with
 | none =>
  unfold evw at hx
  rw [dif_pos ⟨n, r, h⟩] at hx
  cases hx
 | some r' =>
  obtain ⟨m, hm'⟩ := evw_some hx
  have h1 := hm n (max n m) (Nat.le_max_left _ _) _ _ _ _ h
  have h2 := hm m (max n m) (Nat.le_max_right _ _) _ _ _ _ hm'
  rw [h1] at h2; exact h2.symm
def Good (T : Tab) {α : Type} (F : Rec -> Option α) : Prop :=
 (∀ a b r, RLe a b -> F a = some r -> F b = some r) /\ (EvMono T -> ∀ r, F (evw T) = some r -> ∃ n, F (ev T n) = some r)
variable {T : Tab}
theorem Good.const {α : Type} (o : Option α) : Good T (fun _ => o) := ⟨fun _ _ _ _ h => h, fun _ r h => ⟨0, h⟩⟩
theorem Good.rc (ro : Option Nat) (c : Code) (s : AS) : Good T (fun rec => rec ro c s) := ⟨fun _ _ r h g => h _ _ _ _ g, fun _ r h => evw_some h⟩
theorem Good.bind {α β : Type} {F : Rec -> Option α} {K : Option α -> Rec -> Option β} (hF : Good T F) (h0 : ∀ rec, K none rec = none) (hK : ∀ a, Good T (K (some a))) : Good T (fun rec => K (F rec) rec) := by
 refine ⟨fun a b r hab h => ?_, fun hm r h => ?_⟩
 ·cases hx : F a with
  | none => simp only [hx, h0] at h; cases h
  | some x =>
   simp only [hx] at h
   simp only [hF.1 a b x hab hx]
   exact (hK x).1 a b r hab h
 ·cases hx : F (evw T) with
  | none => simp only [hx, h0] at h; cases h
  | some x =>
   simp only [hx] at h
   obtain ⟨n, hn⟩ := hF.2 hm x hx
   obtain ⟨m, hk⟩ := (hK x).2 hm r h
   refine ⟨max n m, ?_⟩
   have h1 := hF.1 _ _ x (hm n (max n m) (Nat.le_max_left _ _)) hn
   have h2 := (hK x).1 _ _ r (hm m (max n m) (Nat.le_max_right _ _)) hk
   simp only [h1]; exact h2
theorem Good.map {α β : Type} {F : Rec -> Option α} (K : Option α -> Option β) (hF : Good T F) (h0 : K none = none) : Good T (fun rec => K (F rec)) :=
 Good.bind (K := fun o _ => K o) hF (fun _ => h0) (fun a => Good.const _)
theorem Good.congr {α : Type} {F G : Rec -> Option α} (h : ∀ rec, F rec = G rec) (hG : Good T G) : Good T F := by
 have : F = G := funext h
 rw [this]; exact hG
theorem good_bodyF (fi : FI) (m : Md) (args : List AV) (H : Tr AO) (hs : Nat) : Good T (fun rec => bodyF rec T fi m args H hs) := by
 unfold bodyF
 exact Good.map (fun o => match o with
  | some (.normal, s') => match shut s'.heap s'.defs with
   | some H' => match resOf T { s' with heap := H' } fi.results with
    | some l => some (one l, H', s'.hs)
    | none => none
   | none => none
  | some (.ret, s') => match shut s'.heap s'.defs with
   | some H' => match resOf T { s' with heap := H' } fi.results with
    | some l => some (one l, H', s'.hs)
    | none => none
   | none => none
  | _ => none) (Good.rc _ _ _) rfl
theorem good_isoF (fi : FI) (m : Md) (args : List AV) : Good T (fun rec => isoF rec T fi m args) := by
 unfold isoF
 exact Good.map (fun o => match o with
  | some (v, H, _) => match frzR T fi.rts v H with
   | some (u, _) => bif bare u then some (nrm u) else none
   | none => none
  | none => none) (good_bodyF fi m args .lf 0) rfl
theorem good_isoX (fi : FI) (m : Md) (args : List AV) : Good T (fun rec => isoX rec T fi m args) := by
 unfold isoX
 cases fi.spl with
 | none => exact good_isoF fi m args
 | some i =>
  simp only
  split
  ·exact Good.bind (K := fun o rec => match o with
    | some u => (match isoF rec T fi m (args.set i .emp) with
     | some v => bif sameV u v then some u else none
     | none => none)
    | none => none) (good_isoF fi m (args.set i (.lit (.slice none 0 0)))) (fun _ => rfl) (fun u => Good.map (fun o => match o with | some v => bif sameV u v then some u else none | none => none) (good_isoF fi m (args.set i .emp)) rfl)
  ·exact good_isoF fi m args
theorem good_isoO (fi : FI) (m : Md) (args : List AV) : Good T (fun rec => isoO rec T fi m args) := by
 unfold isoO
 exact Good.map (fun o => match o with
  | some (v, H, _) => ownR T fi.rts v H
  | none => none) (good_bodyF fi m args .lf 0) rfl
theorem good_callF (m : Md) (f : Nat) (args : List AV) (H : Tr AO) (hs : Nat) : Good T (fun rec => callF T rec m f args H hs) := by
 unfold callF
 cases hc : T.con f args H hs with
 | some r => exact Good.const _
 | none =>
  cases hf : T.f f with
  | none => exact Good.const _
  | some fi =>
   simp only
   cases hi : fi.iso with
   | false =>
    simp only [cond_false]
    cases ho : fi.own with
    | false => simp only [cond_false]; exact good_bodyF fi m args H hs
    | true =>
     simp only [cond_true]
     cases hz : (bif bares args then some (args, H) else frzL (frz T 300) fi.pts args H) with
     | none => exact Good.const _
     | some p =>
      obtain ⟨as, H1⟩ := p
      simp only
      cases hb : bares as with
      | false => simp only [cond_false]; exact Good.const _
      | true =>
       simp only [cond_true]
       exact Good.map (fun o => match o with | some v => some (v, H, hs) | none => none) (good_isoO fi m (nrms as)) rfl
   | true =>
    simp only [cond_true]
    cases hz : (bif bares args then some (args, H) else bif fi.own then none else frzL (frz T 300) fi.pts args H) with
    | none => exact Good.const _
    | some p =>
     obtain ⟨as, H1⟩ := p
     simp only
     cases hb : bares as with
     | false => simp only [cond_false]; exact Good.const _
     | true =>
      simp only [cond_true]
      exact Good.map (fun o => match o with | some v => some (v, H1, hs) | none => none) (good_isoX fi m (nrms as)) rfl
theorem good_callN (m : Md) (f : Nat) (args : List AV) (H : Tr AO) (hs : Nat) : Good T (fun rec => callN T rec m f args H hs) := by
 unfold callN
 cases T.n f with
 | none => exact good_callF m f args H hs
 | some k => exact Good.const _
theorem good_roundF (m : Md) (o : Nat) (args : List AV) (H : Tr AO) (hs : Nat) : Good T (fun rec => roundF rec m o args H hs) := by
 unfold roundF
 cases hg : H.get .dead o with
 | loop st pend tmps ps assign body d lm =>
  cases st with
  | ready =>
   simp only
   cases hb : decide (args.length = ps.size) with
   | false => simp only [cond_false]; exact Good.const _
   | true =>
    simp only [cond_true]
    refine Good.bind (β := AV × Tr AO × Nat) (K := fun o' rec => match o' with
     | some (.normal, s1) =>
      match s1.heap.get .dead o with
      | .loop .ready p1 t1 ps1 a1 b1 d1 lm1 =>
       match rec (some o) body { s1 with heap := s1.heap.put .dead o (.loop .busy p1 t1 ps1 a1 b1 d1 lm1) } with
       | some (x, s2) =>
        match s2.heap.get .dead o with
        | .loop _ _ t2 ps2 a2 b2 d2 lm2 =>
         (match x with
         | .normal => some (.lit (.bool true), s2.heap.put .dead o (.loop .ready none t2 ps2 a2 b2 d2 lm2), s2.hs)
         | .ret => some (.lit (.bool false), s2.heap.put .dead o (.loop .done (some .ret) t2 ps2 a2 b2 d2 lm2), s2.hs)
         | .exit i => some (.lit (.bool false), s2.heap.put .dead o (.loop .done (some (.exit i)) t2 ps2 a2 b2 d2 lm2), s2.hs)
         | .goto i => some (.lit (.bool false), s2.heap.put .dead o (.loop .done (some (.goto i)) t2 ps2 a2 b2 d2 lm2), s2.hs))
        | _ => none
       | none => none
      | _ => none
     | _ => none) (Good.rc _ _ _) (fun _ => rfl) fun a => ?_
    obtain ⟨x, s1⟩ := a
    cases x with
    | normal =>
     simp only
     cases hg1 : s1.heap.get .dead o with
     | loop st1 p1 t1 ps1 a1 b1 d1 lm1 =>
      cases st1 with
      | ready =>
       simp only
       exact Good.map (β := AV × Tr AO × Nat) (fun o' => match o' with
        | some (x, s2) =>
         match s2.heap.get .dead o with
         | .loop _ _ t2 ps2 a2 b2 d2 lm2 =>
          (match x with
          | .normal => some (.lit (.bool true), s2.heap.put .dead o (.loop .ready none t2 ps2 a2 b2 d2 lm2), s2.hs)
          | .ret => some (.lit (.bool false), s2.heap.put .dead o (.loop .done (some .ret) t2 ps2 a2 b2 d2 lm2), s2.hs)
          | .exit i => some (.lit (.bool false), s2.heap.put .dead o (.loop .done (some (.exit i)) t2 ps2 a2 b2 d2 lm2), s2.hs)
          | .goto i => some (.lit (.bool false), s2.heap.put .dead o (.loop .done (some (.goto i)) t2 ps2 a2 b2 d2 lm2), s2.hs))
         | _ => none
        | none => none) (Good.rc _ _ _) rfl
      | _ => exact Good.const _
     | _ => exact Good.const _
    | _ => exact Good.const _
  | _ => exact Good.const _
 | _ => exact Good.const _
theorem good_callV (m : Md) (f : AV) (args : List AV) (H : Tr AO) (hs : Nat) : Good T (fun rec => callV T rec m f args H hs) := by
 unfold callV
 cases f with
 | fn f a b =>
  cases f with
  | func g => exact good_callN m g _ H hs
  | _ => exact Good.const _
 | yld o => exact good_roundF m o args H hs
 | _ => exact Good.const _
theorem good_actOp (s : AS) (o : Op) : Good T (fun rec => actOp T rec s o) := by
 unfold actOp
 cases o with
 | call c =>
  obtain ⟨callee, args, tys⟩ := c
  cases callee with
  | value f =>
   simp only
   cases opd s f with
   | none => exact Good.const _
   | some g =>
    cases opds s args.toList with
    | none => exact Good.const _
    | some as => exact good_callV s.md g as s.heap s.hs
  | _ => exact Good.const _
 | _ => exact Good.const _
theorem good_evOp (o : Oper) (s : AS) : Good T (fun rec => evOp T rec o s) := by
 unfold evOp
 rcases hc : cls o.op with _ | _ | _ | _ | n
 ·exact Good.const _
 ·exact Good.const _
 ·exact Good.const _
 ·simp only
  exact Good.map (fun o' => match o' with | some (v, H, hs) => setT { s with heap := H, hs := hs } o.dst v | none => none) (good_actOp s o.op) rfl
 ·exact Good.const _
theorem good_evOps (ops : Array Oper) : ∀ (l : List Oper) (s : AS), Good T (fun rec => evOps T rec ops l s)
 | [], s => Good.const _
 | o :: l, s => by
  simp only [evOps]
  cases hw : wantd s ops o with
  | none => exact Good.const _
  | some b =>
   cases b with
   | true =>
    simp only
    exact Good.bind (K := fun o' rec => match o' with | some s' => evOps T rec ops l s' | none => none) (good_evOp o s) (fun _ => rfl) fun s' => good_evOps ops l s'
   | false =>
    simp only
    cases setT s o.dst udef with
    | none => exact Good.const _
    | some s' => exact good_evOps ops l s'
theorem good_drawGo (D : DI) : ∀ (es : List Nat) (k : Nat) (vals : Tr AV) (H : Tr AO) (hs : Nat) (aid : Tr Nat), Good T (fun rec => drawGo T rec D es k vals H hs aid)
 | [], k, vals, H, hs, aid => by
  unfold drawGo
  cases layer T D k D.ops.toList 0 ⟨vals, H, hs, [], aid⟩ <;> exact Good.const _
 | e :: es, k, vals, H, hs, aid => by
  unfold drawGo
  cases layer T D k D.ops.toList 0 ⟨vals, H, hs, [], aid⟩ with
  | none => exact Good.const _
  | some r =>
   simp only
   cases D.ops[e]? with
   | none => exact Good.const _
   | some o =>
    simp only
    cases rvals D r.vals e (readsOf D.ops o) with
    | none => exact Good.const _
    | some rv =>
     simp only
     cases wantd (stOf D rv (Ev.pushes r.as H hs).1 (Ev.pushes r.as H hs).2) D.ops o with
     | none => exact Good.const _
     | some b =>
      cases b with
      | false =>
       simp only
       exact Good.map (fun o' => match o' with
        | some (ls, fs, vs, ad) => some (⟨H, hs, r.as⟩ :: ls, ⟨e, rv, udef⟩ :: fs, vs, ad)
        | none => none) (good_drawGo D es (k + 1) (r.vals.put .any e udef) _ _ r.aid) rfl
      | true =>
       simp only
       refine Good.bind (K := fun o' rec => match o' with
        | none => none
        | some (v, H', hs') => match drawGo T rec D es (k + 1) (r.vals.put .any e v) H' hs' r.aid with
         | some (ls, fs, vs, ad) => some (⟨H, hs, r.as⟩ :: ls, ⟨e, rv, v⟩ :: fs, vs, ad)
         | none => none) (good_actOp _ o.op) (fun _ => rfl) fun a => ?_
       obtain ⟨v, H', hs'⟩ := a
       exact Good.map (fun o' => match o' with
        | some (ls, fs, vs, ad) => some (⟨H, hs, r.as⟩ :: ls, ⟨e, rv, v⟩ :: fs, vs, ad)
        | none => none) (good_drawGo D es (k + 1) (r.vals.put .any e v) H' hs' r.aid) rfl
theorem good_evDraw (ops : Array Oper) (s : AS) : Good T (fun rec => evDraw T rec ops s) := by
 unfold evDraw
 cases masks ops.toList 0 .lf with
 | none => exact Good.const _
 | some ms =>
  cases writers ops.toList 0 .lf with
  | none => exact Good.const _
  | some wt =>
   simp only
   exact Good.map (β := AX × AS) (fun o' => match o' with
    | some (ls, fs, vals, aid) =>
     bif chain ms (effIdx ops.toList 0) && dstsOk s.nt ops.toList && chkEff ⟨ops, ms, wt, effIdx ops.toList 0, s⟩ vals aid fs (effIdx ops.toList 0) && chkAll T ⟨ops, ms, wt, effIdx ops.toList 0, s⟩ ls vals aid (ownOf ops.size 0 aid .lf) ops.toList 0 then
      match lastLay ls with
      | some L => some (.normal, { s with tmps := putsD vals ops.toList 0 s.tmps, heap := (Ev.pushes L.as L.h0 L.n0).1, hs := (Ev.pushes L.as L.h0 L.n0).2 })
      | none => none
     else none
    | none => none) (good_drawGo ⟨ops, ms, wt, effIdx ops.toList 0, s⟩ (effIdx ops.toList 0) 0 .lf s.heap s.hs .lf) rfl
theorem good_jstep (D : DI) (i : Nat) (o : Oper) (q : JS) : Good T (fun rec => jstep T rec D i o q) := by
 unfold jstep
 cases rvals D q.vals i (readsOf D.ops o) with
 | none => exact Good.const _
 | some rv =>
  simp only
  cases wantd (stOf D rv q.H q.hs) D.ops o with
  | none => exact Good.const _
  | some b =>
   cases b with
   | false => exact Good.const _
   | true =>
    simp only [jgo]
    cases hc : Nat.beq (cls o.op) 3 with
    | false => simp only [cond_false]; exact Good.const _
    | true =>
     simp only [cond_true]
     exact Good.map (jeff q i rv) (good_actOp _ o.op) rfl
theorem good_jrun (D : DI) : ∀ (l : List Oper) (i : Nat) (q : JS), Good T (fun rec => jrun T rec D l i q)
 | [], i, q => Good.const _
 | o :: l, i, q => by
  simp only [jrun]
  exact Good.bind (β := JS) (K := fun o' rec => match o' with | some q' => jrun T rec D l (i + 1) q' | none => none) (good_jstep D i o q) (fun _ => rfl) fun q' => good_jrun D l (i + 1) q'
theorem good_opT (q : Bool) (o : Oper) (s : AS) : Good T (fun rec => opT T rec q o s) := by
 unfold opT
 cases Nat.beq (cls o.op) 3 with
 | false =>
  simp only [cond_false]
  cases isAl o.op with
  | false => exact Good.const _
  | true => exact Good.const _
 | true =>
  simp only [cond_true]
  cases (!q || (quietC T s o.op || quietA T s o.op)) with
  | false => exact Good.const _
  | true =>
   simp only [cond_true]
   exact Good.map (fun r => match r with
    | some (v, H, hs) => setT { s with heap := H, hs := hs } o.dst v
    | none => none) (good_actOp s o.op) rfl
theorem good_evT (ops : Array Oper) : ∀ (l : List Oper) (q : List Bool) (s : AS), Good T (fun rec => evT T rec ops l q s)
 | [], q, s => Good.const _
 | o :: l, q, s => by
  unfold evT
  cases wantd s ops o with
  | none => exact Good.const _
  | some b =>
   cases b with
   | false =>
    simp only
    cases setT s o.dst udef with
    | none => exact Good.const _
    | some s' => exact good_evT ops l q.tail s'
   | true =>
    simp only
    exact Good.bind (K := fun r rec => match r with | some s' => evT T rec ops l q.tail s' | none => none) (good_opT (q.headD true) o s) (fun _ => rfl) (fun s' => good_evT ops l q.tail s')
theorem good_hoist : ∀ (l : List Oper) (s : AS), Good T (fun rec => hoist T rec l s)
 | [], s => Good.const _
 | o :: l, s => by
  simp only [hoist]
  cases isAl o.op with
  | false => simp only [cond_false]; exact good_hoist l s
  | true =>
   simp only [cond_true]
   exact Good.bind (K := fun r rec => match r with | some s' => hoist T rec l s' | none => none) (good_evOp o s) (fun _ => rfl) (fun s' => good_hoist l s')
theorem good_evDrawT (ops : Array Oper) (s : AS) : Good T (fun rec => evDrawT T rec ops s) := by
 unfold evDrawT
 cases drawI s.nt ops with
 | none => exact Good.const _
 | some q => exact Good.bind (K := fun r rec => match r with
   | some s1 => (match evT T rec ops ops.toList q s1 with | some s' => some (AX.normal, s') | none => none)
   | none => none) (good_hoist ops.toList s) (fun _ => rfl) (fun s1 => Good.map (fun (r : Option AS) => match r with | some s2 => some (AX.normal, s2) | none => none) (good_evT ops ops.toList q s1) rfl)
theorem good_opX (o : Oper) (s : AS) : Good T (fun rec => opX T rec o s) := by
 unfold opX
 cases isBx o.op with
 | true => exact Good.const _
 | false => exact good_opT false o s
theorem good_evX : ∀ (l : List Oper) (s : AS), Good T (fun rec => evX T rec l s)
 | [], s => Good.const _
 | o :: l, s => by
  unfold evX
  refine Good.bind (K := fun r rec => match r with
   | some s' => bif !Nat.beq (cls o.op) 3 || Nat.ble s.hs s'.hs then (match evX T rec l s' with
    | some (hl, sN) => some (bif Nat.beq (cls o.op) 3 then (s.heap, s.hs) :: hl else hl, sN)
    | none => none) else none
   | none => none) (good_opX o s) (fun _ => rfl) fun s' => ?_
  cases hb : (!Nat.beq (cls o.op) 3 || Nat.ble s.hs s'.hs) with
  | false => exact Good.congr (G := fun _ => none) (fun rec => by simp only [hb, cond_false]) (Good.const _)
  | true =>
   exact Good.congr (G := fun rec => match evX T rec l s' with
    | some (hl, sN) => some (bif Nat.beq (cls o.op) 3 then (s.heap, s.hs) :: hl else hl, sN)
    | none => none) (fun rec => by simp only [hb, cond_true]) (Good.map (fun (r : Option (List (Tr AO × Nat) × AS)) => match r with
    | some (hl, sN) => some (bif Nat.beq (cls o.op) 3 then (s.heap, s.hs) :: hl else hl, sN)
    | none => none) (good_evX l s') rfl)
theorem good_evDrawX (ops : Array Oper) (s : AS) (cs : List (Nat × Nat × Nat)) : Good T (fun rec => evDrawX T rec ops s cs) := by
 unfold evDrawX
 exact Good.map (fun (r : Option (List (Tr AO × Nat) × AS)) => match r with
  | some (hl, sN) => bif xChk T ops sN hl cs then some (AX.normal, sN) else none
  | none => none) (good_evX ops.toList s) rfl
theorem good_evDrawJ (ops : Array Oper) (s : AS) : Good T (fun rec => evDrawJ T rec ops s) := by
 unfold evDrawJ
 cases masks ops.toList 0 .lf with
 | none => exact Good.const _
 | some ms =>
  cases writers ops.toList 0 .lf with
  | none => exact Good.const _
  | some wt =>
   simp only
   exact Good.map (β := AX × AS) (fun o' => match o' with
    | some q =>
     bif chain ms (effIdx ops.toList 0) && dstsOk s.nt ops.toList && chkEff ⟨ops, ms, wt, effIdx ops.toList 0, s⟩ q.vals .lf q.fs (effIdx ops.toList 0) && chkAll T ⟨ops, ms, wt, effIdx ops.toList 0, s⟩ (lays q.hps) q.vals .lf .lf ops.toList 0 then
      some (.normal, { s with tmps := putsD q.vals ops.toList 0 s.tmps, heap := q.H, hs := q.hs })
     else none
    | none => none) (good_jrun ⟨ops, ms, wt, effIdx ops.toList 0, s⟩ ops.toList 0 ⟨.lf, s.heap, s.hs, [(s.heap, s.hs)], []⟩) rfl
theorem good_scopeGo (ro : Option Nat) (c : Code) : ∀ (m : Nat) (x : Code) (s : AS), Good T (fun rec => scopeGo rec ro c m x s)
 | 0, x, s => Good.const _
 | m + 1, x, s => by
  refine Good.congr (G := fun rec => match rec ro x s with
   | some (.goto l, s') => (match findLabel c l with
    | some rest => scopeGo rec ro c m rest s'
    | none => some (.goto l, s'))
   | r => r) (fun _ => rfl) ?_
  refine Good.bind (β := AX × AS) (K := fun (o' : Option (AX × AS)) rec => match o' with
   | some (.goto l, s') => (match findLabel c l with
    | some rest => scopeGo rec ro c m rest s'
    | none => some (.goto l, s'))
   | r => r) (Good.rc _ _ _) (fun _ => rfl) fun a => ?_
  obtain ⟨y, s'⟩ := a
  cases y with
  | goto l =>
   simp only
   cases findLabel c l with
   | none => exact Good.const _
   | some rest => exact good_scopeGo ro c m rest s'
  | _ => exact Good.const _
theorem good_step (ro : Option Nat) (c : Code) (s : AS) : Good T (fun rec => step T rec ro c s) := by
 cases c with
 | skip => exact Good.const _
 | label l => exact Good.const _
 | exit i => exact Good.const _
 | goto l => exact Good.const _
 | ret => exact Good.const _
 | seq x y =>
  show Good T (fun rec => match rec ro x s with | some (.normal, s') => rec ro y s' | r => r)
  refine Good.bind (β := AX × AS) (K := fun (o' : Option (AX × AS)) rec => match o' with
   | some (.normal, s') => rec ro y s'
   | r => r) (Good.rc _ _ _) (fun _ => rfl) fun a => ?_
  obtain ⟨e, s'⟩ := a
  cases e with
  | normal => exact Good.rc _ _ _
  | _ => exact Good.const _
 | cond c x y =>
  show Good T (fun rec => match opd s c with | some (.lit (.bool true)) => rec ro x s | some (.lit (.bool false)) => rec ro y s | _ => none)
  split
  ·exact Good.rc _ _ _
  ·exact Good.rc _ _ _
  ·exact Good.const _
 | block i x =>
  exact Good.map (β := AX × AS) (fun (o' : Option (AX × AS)) => match o' with
   | some (.exit j, s') => some (bif Nat.beq j i then .normal else .exit j, s')
   | r => r) (Good.rc _ _ _) rfl
 | loop x =>
  refine Good.bind (β := AX × AS) (K := fun (o' : Option (AX × AS)) rec => match o' with
   | some (.normal, s') => rec ro (.loop x) s'
   | r => r) (Good.rc _ _ _) (fun _ => rfl) fun a => ?_
  obtain ⟨e, s'⟩ := a
  cases e with
  | normal => exact Good.rc _ _ _
  | _ => exact Good.const _
 | scope c => exact good_scopeGo ro c 1000000 c s
 | region i ops d =>
  cases d with
  | true =>
   show Good T (fun rec => evDr T rec ops s)
   unfold evDr
   cases (s.md.tx && (drawI s.nt ops).isSome) with
   | true => exact good_evDrawT ops s
   | false =>
    simp only [cond_false]
    unfold evDrO
    cases drawX s.nt ops with
    | some cs => exact good_evDrawX ops s cs
    | none =>
    simp only
    cases useJ s.md.lm ops.toList with
    | true => exact good_evDrawJ ops s
    | false => exact good_evDraw ops s
  | false => exact good_evOps ops _ s
 | rangeFunc g ps assign body =>
  unfold step
  simp only
  cases hg : opd s g with
  | none => exact Good.const _
  | some gv =>
   cases gv with
   | fn f x y =>
    cases f with
    | func g =>
     simp only
     cases he : enterF ro s with
     | none => exact Good.const _
     | some p =>
      obtain ⟨d, H, hs, defs⟩ := p
      simp only
      refine Good.bind (β := AX × AS) (K := fun o' rec => match o' with
       | some (_, H', hs') =>
        match H'.get .dead hs with
        | .loop st pend t2 ps2 a2 b2 d2 lm2 =>
         bif decide (st = LoopState.busy) then none else
         (match pend with
          | none => some (.normal, ({ s with heap := H'.put .dead hs (.loop .exhausted pend t2 ps2 a2 b2 d2 lm2), hs := hs', defs := defs } : AS))
          | some c => rec ro c ({ s with heap := H'.put .dead hs (.loop .exhausted pend t2 ps2 a2 b2 d2 lm2), hs := hs', defs := defs } : AS))
        | _ => none
       | none => none) (good_callF s.md g _ _ _) (fun _ => rfl) fun a => ?_
      obtain ⟨v, H', hs'⟩ := a
      simp only
      cases hl : H'.get .dead hs with
      | loop st pend t2 ps2 a2 b2 d2 lm2 =>
       simp only
       cases hb : decide (st = LoopState.busy) with
       | true => exact Good.const _
       | false =>
        simp only [cond_false]
        cases pend with
        | none => exact Good.const _
        | some c => exact Good.rc _ _ _
      | _ => exact Good.const _
    | _ => exact Good.const _
   | _ => exact Good.const _
 | _ => exact Good.const _
theorem ev_mono1 : ∀ n, RLe (ev T n) (ev T (n + 1))
 | 0 => fun _ _ _ _ h => by cases h
 | n + 1 => fun ro c s r h => (good_step ro c s).1 (ev T n) (ev T (n + 1)) r (ev_mono1 n) h
theorem ev_mono (T : Tab) : EvMono T := by
 intro n m h
 induction h with
 | refl => exact fun _ _ _ _ h => h
 | step _ ih => exact fun ro c s r h => ev_mono1 _ _ _ _ _ (ih _ _ _ _ h)
theorem evw_step (ro : Option Nat) (c : Code) (s : AS) : evw T ro c s = step T (evw T) ro c s := by
 cases h : step T (evw T) ro c s with
 | some r =>
  obtain ⟨n, hn⟩ := (good_step ro c s).2 (ev_mono T) r h
  exact evw_of (ev_mono T) (n := n + 1) hn
 | none =>
  cases hx : evw T ro c s with
  | none => rfl
  | some r =>
   obtain ⟨n, hn⟩ := evw_some hx
   cases n with
   | zero => cases hn
   | succ n =>
    have := (good_step ro c s).1 (ev T n) (evw T) r (fun ro c s r h => evw_of (ev_mono T) h) hn
    have this : step T (evw T) ro c s = some r := this
    rw [h] at this; cases this
theorem callw_run {m : Md} {f : Nat} {args : List AV} {v : AV} {H : Tr AO} {hs : Nat} (h : callF T (evw T) m f args .lf 0 = some (v, H, hs)) : ∃ n, run T m n f args = some (v, H, hs) :=
 (good_callF m f args .lf 0).2 (ev_mono T) _ h
end Go.Proofs.YtcledcfeddlomaaGreatDoor.Ev
namespace Go.Proofs.YtcledcfeddlomaaGreatDoor.Ev
open Go.RowKit
inductive Fr where
 | sq (c : Code)
 | bk (i : Nat)
 | lp (c : Code)
section
variable {T : Tab} {α : Type}
noncomputable def kont (T : Tab) (ro : Option Nat) (F : AX -> AS -> Option α) : List Fr -> AX -> AS -> Option α
 | [], x, s => F x s
 | .sq c :: K, .normal, s => match evw T ro c s with
  | some (x, s') => kont T ro F K x s'
  | none => none
 | .sq _ :: K, x, s => kont T ro F K x s
 | .bk i :: K, .exit j, s => bif Nat.beq j i then kont T ro F K .normal s else kont T ro F K (.exit j) s
 | .bk _ :: K, x, s => kont T ro F K x s
 | .lp c :: K, .normal, s => match evw T ro (.loop c) s with
  | some (x, s') => kont T ro F K x s'
  | none => none
 | .lp _ :: K, x, s => kont T ro F K x s
noncomputable def W (T : Tab) (ro : Option Nat) (F : AX -> AS -> Option α) (c : Code) (K : List Fr) (s : AS) : Option α :=
 match evw T ro c s with
 | some (x, s') => kont T ro F K x s'
 | none => none
noncomputable def O (T : Tab) (ro : Option Nat) (F : AX -> AS -> Option α) (ops : Array Oper) (l : List Oper) (K : List Fr) (s : AS) : Option α :=
 match evOps T (evw T) ops l s with
 | some (x, s') => kont T ro F K x s'
 | none => none
noncomputable def O1 (T : Tab) (ro : Option Nat) (F : AX -> AS -> Option α) (ops : Array Oper) (l : List Oper) (K : List Fr) : Option AS -> Option α
 | some s => O T ro F ops l K s
 | none => none
noncomputable def C1 (T : Tab) (ro : Option Nat) (F : AX -> AS -> Option α) (a b : Code) (K : List Fr) (s : AS) : Option AV -> Option α
 | some (.lit (.bool true)) => W T ro F a K s
 | some (.lit (.bool false)) => W T ro F b K s
 | _ => none
noncomputable def D1 (T : Tab) (ro : Option Nat) (F : AX -> AS -> Option α) (K : List Fr) : Option (AX × AS) -> Option α
 | some (x, s) => kont T ro F K x s
 | none => none
variable {ro : Option Nat} {F : AX -> AS -> Option α} {K : List Fr} {s : AS} {ops : Array Oper} {l : List Oper}
theorem W_skip : W T ro F .skip K s = kont T ro F K .normal s := by unfold W; rw [evw_step]; rfl
theorem W_label {i : Nat} : W T ro F (.label i) K s = kont T ro F K .normal s := by unfold W; rw [evw_step]; rfl
theorem W_exit {i : Nat} : W T ro F (.exit i) K s = kont T ro F K (.exit i) s := by unfold W; rw [evw_step]; rfl
theorem W_goto {i : Nat} : W T ro F (.goto i) K s = kont T ro F K (.goto i) s := by unfold W; rw [evw_step]; rfl
theorem W_ret : W T ro F .ret K s = kont T ro F K .ret s := by unfold W; rw [evw_step]; rfl
theorem W_seq {a b : Code} : W T ro F (.seq a b) K s = W T ro F a (.sq b :: K) s := by
 unfold W; rw [evw_step]
 show (match (match evw T ro a s with | some (.normal, s') => evw T ro b s' | r => r) with | some (x, s') => kont T ro F K x s' | none => none) = _
 cases h : evw T ro a s with
 | none => rfl
 | some p => obtain ⟨x, s'⟩ := p; cases x <;> rfl
theorem W_block {i : Nat} {a : Code} : W T ro F (.block i a) K s = W T ro F a (.bk i :: K) s := by
 unfold W; rw [evw_step]
 show (match (match evw T ro a s with | some (.exit j, s') => some (bif Nat.beq j i then .normal else .exit j, s') | r => r) with | some (x, s') => kont T ro F K x s' | none => none) = _
 cases h : evw T ro a s with
 | none => rfl
 | some p =>
  obtain ⟨x, s'⟩ := p
  cases x with
  | exit j =>
   simp only [kont]
   cases Nat.beq j i <;> rfl
  | _ => rfl
theorem W_loop {a : Code} : W T ro F (.loop a) K s = W T ro F a (.lp a :: K) s := by
 unfold W; rw [evw_step]
 show (match (match evw T ro a s with | some (.normal, s') => evw T ro (.loop a) s' | r => r) with | some (x, s') => kont T ro F K x s' | none => none) = _
 cases h : evw T ro a s with
 | none => rfl
 | some p => obtain ⟨x, s'⟩ := p; cases x <;> rfl
theorem W_cond {c : Operand} {a b : Code} : W T ro F (.cond c a b) K s = C1 T ro F a b K s (opd s c) := by
 unfold W; rw [evw_step]
 show (match (match opd s c with | some (.lit (.bool true)) => evw T ro a s | some (.lit (.bool false)) => evw T ro b s | _ => none) with | some (x, s') => kont T ro F K x s' | none => none) = _
 unfold C1
 split <;> first | rfl | (rename_i h; split at h <;> first | (unfold W; rw [h]) | (simp_all [W]; done) | rfl) | skip
 all_goals (split <;> simp_all [W])
theorem W_region {i : Nat} : W T ro F (.region i ops false) K s = O T ro F ops ops.toList K s := by
 unfold W O; rw [evw_step]; rfl
theorem W_draw {i : Nat} : W T ro F (.region i ops true) K s = D1 T ro F K (evDr T (evw T) ops s) := by
 unfold W D1; rw [evw_step]; rfl
theorem D1_some {x : AX} : D1 T ro F K (some (x, s)) = kont T ro F K x s := rfl
theorem C1_true {a b : Code} : C1 T ro F a b K s (some (.lit (.bool true))) = W T ro F a K s := rfl
theorem C1_false {a b : Code} : C1 T ro F a b K s (some (.lit (.bool false))) = W T ro F b K s := rfl
theorem k_nil {x : AX} : kont T ro F [] x s = F x s := rfl
theorem k_sq {c : Code} : kont T ro F (.sq c :: K) .normal s = W T ro F c K s := rfl
theorem k_sq_exit {c : Code} {i : Nat} : kont T ro F (.sq c :: K) (.exit i) s = kont T ro F K (.exit i) s := rfl
theorem k_sq_ret {c : Code} : kont T ro F (.sq c :: K) .ret s = kont T ro F K .ret s := rfl
theorem k_sq_goto {c : Code} {i : Nat} : kont T ro F (.sq c :: K) (.goto i) s = kont T ro F K (.goto i) s := rfl
theorem k_bk {i : Nat} : kont T ro F (.bk i :: K) .normal s = kont T ro F K .normal s := rfl
theorem k_bk_ret {i : Nat} : kont T ro F (.bk i :: K) .ret s = kont T ro F K .ret s := rfl
theorem k_bk_goto {i j : Nat} : kont T ro F (.bk i :: K) (.goto j) s = kont T ro F K (.goto j) s := rfl
theorem k_bk_exit {i : Nat} : kont T ro F (.bk i :: K) (.exit i) s = kont T ro F K .normal s := by
 show (bif Nat.beq i i then _ else _) = _
 rw [Nat.beq_refl]; rfl
theorem k_bk_other {i j : Nat} (h : j ≠ i) : kont T ro F (.bk i :: K) (.exit j) s = kont T ro F K (.exit j) s := by
 show (bif Nat.beq j i then _ else _) = _
 rw [beq_if, if_neg h]
theorem k_lp {c : Code} : kont T ro F (.lp c :: K) .normal s = W T ro F (.loop c) K s := rfl
theorem k_lp_exit {c : Code} {i : Nat} : kont T ro F (.lp c :: K) (.exit i) s = kont T ro F K (.exit i) s := rfl
theorem k_lp_ret {c : Code} : kont T ro F (.lp c :: K) .ret s = kont T ro F K .ret s := rfl
theorem k_lp_goto {c : Code} {i : Nat} : kont T ro F (.lp c :: K) (.goto i) s = kont T ro F K (.goto i) s := rfl
theorem O_nil : O T ro F ops [] K s = kont T ro F K .normal s := rfl
theorem O1_some : O1 T ro F ops l K (some s) = O T ro F ops l K s := rfl
theorem O_cons {d : Option Tmp} {op : Op} {ty : TypeId} {pos : String} {after : Array Edge} :
  O T ro F ops (⟨d, op, ty, pos, after, none⟩ :: l) K s = O1 T ro F ops l K (evOp T (evw T) ⟨d, op, ty, pos, after, none⟩ s) := by
 unfold O
 show (match (match evOp T (evw T) ⟨d, op, ty, pos, after, none⟩ s with | some s' => evOps T (evw T) ops l s' | none => none) with | some (x, s') => kont T ro F K x s' | none => none) = _
 cases evOp T (evw T) ⟨d, op, ty, pos, after, none⟩ s <;> rfl
noncomputable def G1 (T : Tab) (ro : Option Nat) (F : AX -> AS -> Option α) (ops : Array Oper) (o : Oper) (l : List Oper) (K : List Fr) (s : AS) (w : Bool) : Option AV -> Option α
 | some (.lit (.bool b)) => if b = w then O1 T ro F ops l K (evOp T (evw T) o s) else O1 T ro F ops l K (setT s o.dst udef)
 | some (.tup []) => O1 T ro F ops l K (setT s o.dst udef)
 | _ => none
noncomputable def G0 (T : Tab) (ro : Option Nat) (F : AX -> AS -> Option α) (ops : Array Oper) (o : Oper) (l : List Oper) (K : List Fr) (s : AS) (w : Bool) : Option Tmp -> Option α
 | some g => G1 T ro F ops o l K s w (opd s (.tmp g))
 | none => none
theorem O_guard {o : Oper} {j : Nat} {w : Bool} (ho : o.guard = some (j, w)) : O T ro F ops (o :: l) K s = G0 T ro F ops o l K s w ((ops[j]?).bind (·.dst)) := by
 unfold O
 simp only [evOps, wantd, ho]
 cases hg : (ops[j]?).bind (·.dst) with
 | none => rfl
 | some g =>
  simp only [G0, opd]
  cases hb : Nat.blt g s.nt with
  | false => simp only [cond_false]; rfl
  | true =>
   simp only [cond_true]
   cases h : s.tmps.get .any g with
   | lit v =>
    cases v with
    | bool b =>
     simp only [G1]
     generalize evOp T (evw T) o s = e1
     generalize setT s o.dst udef = e2
     cases b <;> cases w <;> cases e1 <;> cases e2 <;> rfl
    | _ => rfl
   | tup vs =>
    cases vs with
    | nil => simp only [G1]; cases setT s o.dst udef <;> rfl
    | cons _ _ => rfl
   | _ => rfl
theorem G0_some {o : Oper} {w : Bool} {g : Nat} : G0 T ro F ops o l K s w (some g) = G1 T ro F ops o l K s w (opd s (.tmp g)) := rfl
theorem G1_yes {o : Oper} {w : Bool} : G1 T ro F ops o l K s w (some (.lit (.bool w))) = O1 T ro F ops l K (evOp T (evw T) o s) := by simp [G1]
theorem G1_tf {o : Oper} : G1 T ro F ops o l K s true (some (.lit (.bool false))) = O1 T ro F ops l K (setT s o.dst udef) := rfl
theorem G1_ft {o : Oper} : G1 T ro F ops o l K s false (some (.lit (.bool true))) = O1 T ro F ops l K (setT s o.dst udef) := rfl
theorem G1_undef {o : Oper} {w : Bool} : G1 T ro F ops o l K s w (some (.tup [])) = O1 T ro F ops l K (setT s o.dst udef) := rfl
end
section
variable {T : Tab} {rec : Rec} {t : Tr AV} {nt hs : Nat} {H : Tr AO} {ds : List Nat} {lm : Md} {s : AS}
theorem opd_t {i : Nat} (h : i < nt) : opd ⟨t, nt, H, hs, ds, lm⟩ (.tmp i) = some (t.get .any i) := by
 show (bif Nat.blt i nt then _ else _) = _
 rw [show Nat.blt i nt = true from blt_lt.2 h]; rfl
theorem opd_c {v : Value} : opd s (.const v) = some (ofConst v) := rfl
theorem opd_f {f : Nat} : opd s (.func f) = some (.fn (.func f) [] []) := rfl
theorem opds_n : opds s [] = some [] := rfl
theorem opds_c {x : Operand} {l : List Operand} : opds s (x :: l) = (match opd s x, opds s l with | some a, some as => some (a :: as) | _, _ => none) := rfl
theorem setT_s {i : Nat} {v : AV} (h : i < nt) : setT ⟨t, nt, H, hs, ds, lm⟩ (some i) v = some ⟨t.put .any i v, nt, H, hs, ds, lm⟩ := by
 show (bif Nat.blt i nt then _ else _) = _
 rw [show Nat.blt i nt = true from blt_lt.2 h]; rfl
theorem setT_n {v : AV} : setT s none v = some s := rfl
theorem get_same {α : Type} (d x : α) (t : Tr α) (n : Nat) : (t.put d n x).get d n = x := by rw [Tr.get_put, if_pos rfl]
theorem get_other {α : Type} (d x : α) (t : Tr α) (n m : Nat) (h : m ≠ n) : (t.put d n x).get d m = t.get d m := by rw [Tr.get_put, if_neg h]
def setO (s : AS) (d : Option Tmp) : Option AV -> Option AS
 | some v => setT s d v
 | none => none
def setN (s : AS) (d : Option Tmp) : Option (AO × AV) -> Option AS
 | some (.dead, v) => setT s d v
 | some (A, v) => setT { s with heap := s.heap.put .dead s.hs A, hs := s.hs + 1 } d v
 | none => none
def setE (s : AS) (d : Option Tmp) : Option (AV × Tr AO × Nat) -> Option AS
 | some (v, H, hs) => setT { s with heap := H, hs := hs } d v
 | none => none
variable {d : Option Tmp} {ty : TypeId} {pos : String} {after : Array Edge} {g : Option (Nat × Bool)}
theorem ev_pick {x y z : Operand} : evOp T rec ⟨d, .pick x y z, ty, pos, after, g⟩ s = setO s d (pureOp T s (.pick x y z)) := rfl
theorem ev_nilCheck {x : Operand} : evOp T rec ⟨d, .nilCheck x, ty, pos, after, g⟩ s = setO s d (pureOp T s (.nilCheck x)) := rfl
theorem ev_binOp {o : BinOp} {a b : TypeId} {x y : Operand} : evOp T rec ⟨d, .binOp o a x y b, ty, pos, after, g⟩ s = setO s d (pureOp T s (.binOp o a x y b)) := rfl
theorem ev_unOp {o : UnOp} {a : TypeId} {x : Operand} : evOp T rec ⟨d, .unOp o a x, ty, pos, after, g⟩ s = setO s d (pureOp T s (.unOp o a x)) := rfl
theorem ev_makeFunc {f : Fn} {x y : Array Operand} : evOp T rec ⟨d, .makeFunc f x y, ty, pos, after, g⟩ s = setO s d (pureOp T s (.makeFunc f x y)) := rfl
theorem ev_extract {x : Operand} {i : Nat} : evOp T rec ⟨d, .extract x i, ty, pos, after, g⟩ s = setO s d (pureOp T s (.extract x i)) := rfl
theorem ev_field {a : TypeId} {x : Operand} {i : Nat} : evOp T rec ⟨d, .field a x i, ty, pos, after, g⟩ s = setO s d (pureOp T s (.field a x i)) := rfl
theorem ev_fieldAddr {a : TypeId} {x : Operand} {i : Nat} : evOp T rec ⟨d, .fieldAddr a x i, ty, pos, after, g⟩ s = setO s d (pureOp T s (.fieldAddr a x i)) := rfl
theorem ev_indexAddr {a : TypeId} {x y : Operand} : evOp T rec ⟨d, .indexAddr a x y, ty, pos, after, g⟩ s = setO s d (pureOp T s (.indexAddr a x y)) := rfl
theorem ev_index {a : TypeId} {x y : Operand} : evOp T rec ⟨d, .index a x y, ty, pos, after, g⟩ s = setO s d (pureOp T s (.index a x y)) := rfl
theorem ev_build {a : TypeId} {ps : Array (Nat × Operand)} : evOp T rec ⟨d, .build a ps, ty, pos, after, g⟩ s = setO s d (pureOp T s (.build a ps)) := rfl
theorem ev_slice {a : TypeId} {x : Operand} {lo hi mx : Option Operand} : evOp T rec ⟨d, .slice a x lo hi mx, ty, pos, after, g⟩ s = setO s d (pureOp T s (.slice a x lo hi mx)) := rfl
theorem ev_load {a : TypeId} {x : Operand} : evOp T rec ⟨d, .load a x, ty, pos, after, g⟩ s = setO s d (readOp T s s.heap (.load a x)) := rfl
theorem ev_lookup {a : TypeId} {x y : Operand} {ok : Bool} : evOp T rec ⟨d, .lookup a x y ok, ty, pos, after, g⟩ s = setO s d (readOp T s s.heap (.lookup a x y ok)) := rfl
theorem ev_alloc {a : TypeId} : evOp T rec ⟨d, .alloc a, ty, pos, after, g⟩ s = setN s d (newOp T s s.hs (.alloc a)) := rfl
theorem ev_box {a : TypeId} {x : Operand} : evOp T rec ⟨d, .box a x, ty, pos, after, g⟩ s = setN s d (newOp T s s.hs (.box a x)) := rfl
theorem ev_buildSlice {a : TypeId} {n : Nat} {ps : Array (Nat × Operand)} : evOp T rec ⟨d, .buildSlice a n ps, ty, pos, after, g⟩ s = setN s d (newOp T s s.hs (.buildSlice a n ps)) := rfl
theorem ev_makeSlice {a : TypeId} {x y : Operand} : evOp T rec ⟨d, .makeSlice a x y, ty, pos, after, g⟩ s = setN s d (newOp T s s.hs (.makeSlice a x y)) := rfl
theorem ev_makeMap {a : TypeId} {x : Option Operand} : evOp T rec ⟨d, .makeMap a x, ty, pos, after, g⟩ s = setN s d (newOp T s s.hs (.makeMap a x)) := rfl
theorem ev_store {a : TypeId} {x y : Operand} : evOp T rec ⟨d, .store a x y, ty, pos, after, g⟩ s = setE s d (effOp T s (.store a x y)) := rfl
theorem ev_mapUpdate {a : TypeId} {x y z : Operand} : evOp T rec ⟨d, .mapUpdate a x y z, ty, pos, after, g⟩ s = setE s d (effOp T s (.mapUpdate a x y z)) := rfl
theorem ev_append {as : Array Operand} {ts : Array TypeId} : evOp T rec ⟨d, .call ⟨.builtin .append, as, ts⟩, ty, pos, after, g⟩ s = setE s d (effOp T s (.call ⟨.builtin .append, as, ts⟩)) := rfl
def callO (T : Tab) (rec : Rec) (s : AS) : Option AV -> Option (List AV) -> Option (AV × Tr AO × Nat)
 | some g, some as => callV T rec s.md g as s.heap s.hs
 | _, _ => none
theorem ev_call {f : Operand} {as : Array Operand} {ts : Array TypeId} : evOp T rec ⟨d, .call ⟨.value f, as, ts⟩, ty, pos, after, g⟩ s = setE s d (callO T rec s (opd s f) (opds s as.toList)) := by
 show (match (match opd s f, opds s as.toList with | some g, some as => callV T rec s.md g as s.heap s.hs | _, _ => none) with | some (v, H, hs) => setT { s with heap := H, hs := hs } d v | none => none) = _
 unfold callO setE
 cases opd s f <;> cases opds s as.toList <;> rfl
theorem callO_f {f : Nat} {a b as : List AV} (h : T.n f = none) : callO T rec s (some (.fn (.func f) a b)) (some as) = callF T rec s.md f (a ++ as ++ b) s.heap s.hs := by
 show callN T rec s.md f (a ++ as ++ b) s.heap s.hs = _
 unfold callN; rw [h]
def natO (gl : Tr (Option AV)) (H : Tr AO) (hs : Nat) (k : Nat) : Option (List AV) -> Option (AV × Tr AO × Nat)
 | some as => (match natW gl k as with | some v => some (v, H, hs) | none => none)
 | none => none
theorem callO_n {f k : Nat} {a b as : List AV} (h : T.n f = some k) : callO T rec s (some (.fn (.func f) a b)) (some as) = natO s.md.gl s.heap s.hs k (some (a ++ as ++ b)) := by
 show callN T rec s.md f (a ++ as ++ b) s.heap s.hs = _
 unfold callN; rw [h]; rfl
def mixO (T : Tab) (s : AS) (d : Option Tmp) (op : Op) : Option AV -> Option AV -> Option AS
 | some v, _ => setT s d v
 | none, some v => setT s d v
 | none, none => setE s d (effOp T s op)
theorem ev_len {as : Array Operand} {ts : Array TypeId} : evOp T rec ⟨d, .call ⟨.builtin .len, as, ts⟩, ty, pos, after, g⟩ s = mixO T s d (.call ⟨.builtin .len, as, ts⟩) (pureOp T s (.call ⟨.builtin .len, as, ts⟩)) (readOp T s s.heap (.call ⟨.builtin .len, as, ts⟩)) := by
 simp only [evOp, cls, mixO]
 cases pureOp T s (.call ⟨.builtin .len, as, ts⟩) <;> cases readOp T s s.heap (.call ⟨.builtin .len, as, ts⟩) <;> rfl
theorem ev_cap {as : Array Operand} {ts : Array TypeId} : evOp T rec ⟨d, .call ⟨.builtin .cap, as, ts⟩, ty, pos, after, g⟩ s = mixO T s d (.call ⟨.builtin .cap, as, ts⟩) (pureOp T s (.call ⟨.builtin .cap, as, ts⟩)) (readOp T s s.heap (.call ⟨.builtin .cap, as, ts⟩)) := by
 simp only [evOp, cls, mixO]
 cases pureOp T s (.call ⟨.builtin .cap, as, ts⟩) <;> cases readOp T s s.heap (.call ⟨.builtin .cap, as, ts⟩) <;> rfl
theorem ev_convert {a b : TypeId} {x : Operand} : evOp T rec ⟨d, .convert a b x, ty, pos, after, g⟩ s = mixO T s d (.convert a b x) (pureOp T s (.convert a b x)) (readOp T s s.heap (.convert a b x)) := by
 simp only [evOp, cls, mixO]
 cases pureOp T s (.convert a b x) <;> cases readOp T s s.heap (.convert a b x) <;> rfl
end
end Go.Proofs.YtcledcfeddlomaaGreatDoor.Ev
