import Derived.Test.YtcledcfeddlomaaGreatDoorEvDR
set_option linter.all false
namespace Go.Proofs.YtcledcfeddlomaaGreatDoor.Ev
open Go.RowKit
theorem tmpsIn_mem {t : Nat} : ∀ {l : List Operand}, Operand.tmp t ∈ l -> t ∈ tmpsIn l
 | x :: l, h => by
  rcases List.mem_cons.1 h with rfl | h
  ·simp [tmpsIn]
  ·have := tmpsIn_mem h
   cases x <;> simp [tmpsIn, this]
theorem reads_opd {ops : Array Oper} {o : Oper} {t : Nat} (h : Operand.tmp t ∈ o.op.operands.toList) : t ∈ readsOf ops o := by
 have := tmpsIn_mem h
 unfold readsOf
 split
 ·exact this
 ·split
  ·exact List.mem_cons_of_mem _ this
  ·exact this
theorem reads_guard {ops : Array Oper} {o : Oper} {j : Nat} {w : Bool} {d : Nat} (hg : o.guard = some (j, w)) (hd : (ops[j]?).bind (·.dst) = some d) : d ∈ readsOf ops o := by
 unfold readsOf
 rw [hg]
 simp only [hd]
 exact List.mem_cons_self ..
theorem putsT_map {f : Nat -> AV} : ∀ {l : List Nat} {t : Nat}, t ∈ l -> (putsT (l.map fun t => (t, f t))).get .any t = f t
 | u :: l, t, h => by
  simp only [List.map_cons, putsT, Tr.get_put]
  split
  ·rename_i e; rw [e]
  ·rename_i e
   rcases List.mem_cons.1 h with h | h
   ·exact absurd h e
   ·exact putsT_map h
theorem st_opd {D : DI} {s : AS} {o : Oper} (hnt : s.nt = D.s0.nt) (hmd : s.md = D.s0.md) (H : Tr AO) (hs : Nat) :
  ∀ x ∈ o.op.operands.toList, opd (stOf D ((readsOf D.ops o).map fun t => (t, s.tmps.get .any t)) H hs) x = opd s x := by
 intro x hx
 cases x with
 | tmp t =>
  simp only [opd, stOf]
  rw [putsT_map (reads_opd hx), hnt]
 | const v => rfl
 | func f => rfl
 | global g => simp only [opd, stOf, hmd]
theorem st_wantd {D : DI} {s : AS} {o : Oper} (hnt : s.nt = D.s0.nt) (H : Tr AO) (hs : Nat) : wantd (stOf D ((readsOf D.ops o).map fun t => (t, s.tmps.get .any t)) H hs) D.ops o = wantd s D.ops o := by
 unfold wantd
 split
 ·rfl
 ·rename_i j w hg
  split
  ·rename_i d hd
   simp only [stOf]
   rw [putsT_map (reads_guard hg hd), hnt]
  ·rfl
structure TS (D : DI) (k : Nat) (s : AS) (vals : Tr AV) : Prop where
 nt : s.nt = D.s0.nt
 md : s.md = D.s0.md
 df : s.defs = D.s0.defs
 tm : ∀ t, s.tmps.get .any t = match D.wt.get 0 t with | 0 => D.s0.tmps.get .any t | w + 1 => if w < k then vals.get .any w else D.s0.tmps.get .any t
theorem rvals_eq {D : DI} (hM : MOk D.ops D.ms) {k : Nat} {s : AS} {vals : Tr AV} (h : TS D k s vals) {o : Oper} (ho : D.ops[k]? = some o) : ∀ {l : List Nat}, l.all (fun t => Nat.blt t D.s0.nt && rdOk D.ms D.wt k t) = true ->
  rvals D vals k l = some (l.map fun t => (t, s.tmps.get .any t))
 | [], _ => rfl
 | t :: l, hl => by
  rw [List.all_cons, Bool.and_eq_true, Bool.and_eq_true] at hl
  have ih := rvals_eq hM h ho hl.2
  have e : opv D vals k t = some (s.tmps.get .any t) := by
   have h2 := hl.1.2
   rw [h.tm t]
   unfold rdOk at h2
   unfold opv
   cases hw : D.wt.get 0 t with
   | zero => rfl
   | succ w =>
    rw [hw] at h2
    simp only [Bool.or_eq_true, Bool.and_eq_true, blt_lt] at h2
    rcases h2 with ⟨h3, h4⟩ | ⟨h3, h4⟩
    ·simp only [h4, cond_true, if_pos h3]
    ·have h5 : (D.ms.get 0 k).testBit w = false := by
      cases hb : (D.ms.get 0 k).testBit w with
      | false => rfl
      | true => have := bit_lt hM k ⟨o, ho⟩ w hb; omega
     simp only [h5, h4, cond_true, cond_false, if_neg (show ¬ w < k by omega)]
  simp only [rvals, e, ih, hl.1.1, cond_true, List.map_cons]
theorem rvals_later {D : DI} (hM : MOk D.ops D.ms) {k : Nat} {vals vals' : Tr AV} {o : Oper} (ho : D.ops[k]? = some o) (hv : ∀ j, j < k -> vals'.get .any j = vals.get .any j) : ∀ (l : List Nat), rvals D vals' k l = rvals D vals k l
 | [] => rfl
 | t :: l => by
  have e : opv D vals' k t = opv D vals k t := by
   unfold opv
   split
   ·rfl
   ·rename_i w hw
    cases hb : (D.ms.get 0 k).testBit w with
    | false => rfl
    | true => simp only [cond_true]; rw [hv w (bit_lt hM k ⟨o, ho⟩ w hb)]
  simp only [rvals, e, rvals_later hM ho hv l]
theorem TS.next {D : DI} (hW : WOk D.ops D.wt) {k : Nat} {s s' : AS} {vals : Tr AV} (h : TS D k s vals) {o : Oper} (ho : D.ops[k]? = some o) {v : AV} {H : Tr AO} {hs : Nat} (hset : setT { s with heap := H, hs := hs } o.dst v = some s') : TS D (k + 1) s' (vals.put .any k v) /\ s'.heap = H /\ s'.hs = hs := by
 have key : ∀ t, (s'.tmps.get .any t = if o.dst = some t then v else s.tmps.get .any t) /\ s'.nt = s.nt /\ s'.md = s.md /\ s'.defs = s.defs /\ s'.heap = H /\ s'.hs = hs := by
  intro t
  cases hd : o.dst with
  | none =>
   rw [hd] at hset
   simp only [setT, Option.some.injEq] at hset
   subst hset
   exact ⟨by simp, rfl, rfl, rfl, rfl, rfl⟩
  | some i =>
   rw [hd] at hset
   simp only [setT] at hset
   cases hb : Nat.blt i s.nt with
   | false => rw [hb] at hset; cases hset
   | true =>
    rw [hb, cond_true] at hset; cases hset
    refine ⟨?_, rfl, rfl, rfl, rfl, rfl⟩
    simp only [Tr.get_put, Option.some.injEq]
    by_cases e : t = i
    ·rw [if_pos e, if_pos e.symm]
    ·rw [if_neg e, if_neg (fun x => e x.symm)]
 obtain ⟨_, k1, k2, k3, k4, k5⟩ := key 0
 refine ⟨⟨k1.trans h.nt, k2.trans h.md, k3.trans h.df, fun t => ?_⟩, k4, k5⟩
 rw [(key t).1]
 by_cases e : o.dst = some t
 ·rw [if_pos e, hW.to k o t ho e]
  simp only
  rw [if_pos (Nat.lt_succ_self k), Tr.get_put, if_pos rfl]
 ·rw [if_neg e, h.tm t]
  cases hw : D.wt.get 0 t with
  | zero => rfl
  | succ w =>
   simp only
   have hne : w ≠ k := by
    rintro rfl
    obtain ⟨o', ho', hd'⟩ := hW.of t w hw
    rw [ho] at ho'; cases ho'
    exact e hd'
   by_cases hlt : w < k
   ·rw [if_pos hlt, if_pos (by omega), Tr.get_put, if_neg hne]
   ·rw [if_neg hlt, if_neg (by omega)]
def cmO : AO -> Bool
 | .cells _ _ => true
 | .map _ _ => true
 | _ => false
def RdEq (H H' : Tr AO) : Prop := ∀ o, H.get .dead o = H'.get .dead o ∨ (cmO (H.get .dead o) = false /\ cmO (H'.get .dead o) = false)
theorem RdEq.refl (H : Tr AO) : RdEq H H := fun _ => .inl rfl
theorem RdEq.symm {H H' : Tr AO} (h : RdEq H H') : RdEq H' H := fun o => (h o).elim (fun e => .inl e.symm) fun e => .inr ⟨e.2, e.1⟩
theorem RdEq.trans {H H' K : Tr AO} (h : RdEq H H') (g : RdEq H' K) : RdEq H K := fun o => by
 rcases h o with e | ⟨e1, e2⟩
 ·rw [e]; exact g o
 ·rcases g o with e | ⟨e3, e4⟩
  ·exact .inr ⟨e1, by rw [<- e]; exact e2⟩
  ·exact .inr ⟨e1, e4⟩
theorem RdEq.rd {H H' : Tr AO} (h : RdEq H H') (o off n : Nat) : rd H o off n = rd H' o off n := by
 unfold Go.Proofs.YtcledcfeddlomaaGreatDoor.Ev.rd
 rcases h o with e | ⟨e1, e2⟩
 ·rw [e]
 ·revert e1 e2
  cases H.get .dead o <;> cases H'.get .dead o <;> intro e1 e2 <;> first | rfl | (exact absurd e1 (by decide)) | (exact absurd e2 (by decide)) | (cases e1; done) | (cases e2; done)
theorem RdEq.mp {H H' : Tr AO} (h : RdEq H H') (o : Nat) {α : Type} (f : List (AV × AV × Nat) -> α) (z : α) : (match H.get .dead o with | .map es _ => f es | _ => z) = (match H'.get .dead o with | .map es _ => f es | _ => z) := by
 rcases h o with e | ⟨e1, e2⟩
 ·rw [e]
 ·revert e1 e2
  cases H.get .dead o <;> cases H'.get .dead o <;> intro e1 e2 <;> first | rfl | (exact absurd e1 (by decide)) | (exact absurd e2 (by decide)) | (cases e1; done) | (cases e2; done)
theorem RdEq.ldv {T : Tab} {H H' : Tr AO} (h : RdEq H H') (t : Nat) (a : AV) : ldv T H t a = ldv T H' t a := by
 cases a <;> first | rfl | skip
 simp only [Go.Proofs.YtcledcfeddlomaaGreatDoor.Ev.ldv]
 cases T.t t with
 | none => rfl
 | some i => simp only [h.rd]
theorem RdEq.readOp {T : Tab} {s : AS} {H H' : Tr AO} (h : RdEq H H') (op : Op) : readOp T s H op = readOp T s H' op := by
 cases op with
 | load t x => simp only [Go.Proofs.YtcledcfeddlomaaGreatDoor.Ev.readOp, h.ldv]
 | convert a b x =>
  simp only [Go.Proofs.YtcledcfeddlomaaGreatDoor.Ev.readOp]
  simp only [h.rd]
 | lookup t x k ok =>
  have e : ∀ (m : AV) {α : Type} (f : List (AV × AV × Nat) -> Option α), (match (match m with | .lit (.map none) => some [] | .mp o => (match H.get AO.dead o with | .map es _ => some es | _ => none) | .fmp es => some es | _ => none) with | some es => f es | none => none) = (match (match m with | .lit (.map none) => some [] | .mp o => (match H'.get AO.dead o with | .map es _ => some es | _ => none) | .fmp es => some es | _ => none) with | some es => f es | none => none) := by
   intro m α f
   cases m with
   | mp o =>
    simp only
    rcases h o with e | ⟨e1, e2⟩
    ·simp only [e]
    ·revert e1 e2
     cases H.get .dead o <;> cases H'.get .dead o <;> intro e1 e2 <;> first | rfl | (cases e1; done) | (cases e2; done)
   | lit v => cases v <;> first | rfl | (rename_i p; cases p <;> rfl)
   | _ => rfl
  simp only [Go.Proofs.YtcledcfeddlomaaGreatDoor.Ev.readOp]
  cases opd s x with
  | none => rfl
  | some m =>
   cases opd s k with
   | none => rfl
   | some kv =>
    cases T.t t with
    | none => rfl
    | some ti =>
     simp only
     cases ti.desc <;> first | rfl | skip
     rename_i kt et
     simp only
     cases T.t kt with
     | none => rfl
     | some ki =>
      cases T.t et with
      | none => rfl
      | some ei =>
       simp only
       cases okKey ki.desc with
       | false => rfl
       | true => exact e m _
 | call c =>
  obtain ⟨callee, args, tys⟩ := c
  simp only [Go.Proofs.YtcledcfeddlomaaGreatDoor.Ev.readOp]
  cases callee with
  | builtin b =>
   cases b <;> first | rfl | skip
   rcases args.toList with _ | ⟨x, _ | ⟨y, l⟩⟩ <;> first | rfl | skip
   rcases tys.toList with _ | ⟨t, _ | ⟨u, l⟩⟩ <;> first | rfl | skip
   simp only
   cases opd s x with
   | none => rfl
   | some v =>
    cases v with
    | mp o =>
     cases T.t t with
     | none => rfl
     | some ti =>
      simp only
      rcases h o with e | ⟨e1, e2⟩
      ·simp only [e]
      ·revert e1 e2
       cases H.get .dead o <;> cases H'.get .dead o <;> intro e1 e2 <;> first | (cases e1; done) | (cases e2; done) | (cases ti.desc <;> rfl)
    | lit v => cases v <;> cases T.t t <;> first | rfl | (rename_i p _; cases p <;> rfl) | (rename_i p; cases p <;> rfl)
    | fmp es => cases T.t t <;> rfl
    | _ => cases T.t t <;> rfl
  | _ => rfl
 | _ => rfl
theorem RdEq.prOp {T : Tab} {s : AS} {H H' : Tr AO} (h : RdEq H H') (op : Op) : prOp T s H op = prOp T s H' op := by
 unfold Go.Proofs.YtcledcfeddlomaaGreatDoor.Ev.prOp
 simp only [h.readOp]
def QS (a b : Tr AO × Nat) : Prop := RdEq a.1 b.1 /\ a.2 <= b.2
theorem QS.refl (a : Tr AO × Nat) : QS a a := ⟨.refl _, Nat.le_refl _⟩
theorem QS.trans {a b c : Tr AO × Nat} (h : QS a b) (g : QS b c) : QS a c := ⟨h.1.trans g.1, Nat.le_trans h.2 g.2⟩
theorem RdEq.room {H : Tr AO} {hs z : Nat} (h : cmO (H.get .dead hs) = false) : RdEq H (H.put .dead hs (.room z)) := fun o => by
 rw [Tr.get_put]
 by_cases e : o = hs
 ·subst e; rw [if_pos rfl]; exact .inr ⟨h, rfl⟩
 ·rw [if_neg e]; exact .inl rfl
theorem RdEq.kill {H : Tr AO} {t z : Nat} (h : H.get .dead t = .room z) : RdEq H (H.put .dead t .dead) := fun o => by
 rw [Tr.get_put]
 by_cases e : o = t
 ·subst e; rw [if_pos rfl, h]; exact .inr ⟨rfl, rfl⟩
 ·rw [if_neg e]; exact .inl rfl
theorem appendL_rd {H : Tr AO} {hs size bytes : Nat} {tk : ATk} {es ys : List AV} {v : AV} {H' : Tr AO} {hs' : Nat} (h : appendL H hs size bytes tk es ys = some (v, H', hs')) (hd : isDd (H.get .dead hs) = true) : QS (H, hs) (H', hs') := by
 have hd0 : cmO (H.get .dead hs) = false := by cases hx : H.get .dead hs <;> rw [hx] at hd <;> first | rfl | cases hd
 unfold appendL at h
 split at h
 ·cases h; exact .refl _
 ·rename_i hys
  split at h
  rename_i c hc
  ·cases hb : (ys.all (fun e => sizeOk size e && flatOk e && e.cells.all oneCell) && Nat.ble ((4 * (es.length + ys.length) + 4000) * bytes) 281474976710656) with
   | false => rw [hb] at h; cases h
   | true => rw [hb] at h; cases h
  ·cases hb : (ys.all (fun e => sizeOk size e && flatOk e && e.cells.all oneCell) && Nat.ble ((4 * (es.length + ys.length) + 4000) * bytes) 281474976710656) with
   | false => rw [hb] at h; cases h
   | true =>
    rw [hb, cond_true] at h
    cases hb2 : es.all (sizeOk size) with
    | false => rw [hb2] at h; cases h
    | true => rw [hb2, cond_true] at h; cases h; exact ⟨.room hd0, Nat.le_succ _⟩
  ·rename_i t
   cases hb : (ys.all (fun e => sizeOk size e && flatOk e && e.cells.all oneCell) && Nat.ble ((4 * (es.length + ys.length) + 4000) * bytes) 281474976710656) with
   | false => rw [hb] at h; cases h
   | true =>
    rw [hb, cond_true] at h
    split at h
    ·rename_i z hz
     cases hb2 : Nat.beq z size with
     | false => rw [hb2] at h; cases h
     | true =>
      rw [hb2, cond_true] at h; cases h
      refine ⟨(RdEq.kill hz).trans (.room ?_), Nat.le_succ _⟩
      rw [Tr.get_put]
      split
      ·rfl
      ·exact hd0
    ·cases h
def appT (s : AS) (sz b : Nat) (agg : Bool) (tk : ATk) (es : List AV) (y : AV) : Option (AV × Tr AO × Nat) := match srcElems s.heap agg sz y with
 | some ys => appendL s.heap s.hs sz b tk es ys
 | none => none
theorem quietA_ok {T : Tab} {rec : Rec} {s : AS} {op : Op} (h : quietA T s op = true) {v : AV} {H : Tr AO} {hs : Nat} (ha : actOp T rec s op = some (v, H, hs)) : QS (s.heap, s.hs) (H, hs) := by
 unfold quietA at h
 split at h
 ·rename_i c
  obtain ⟨callee, args, tys⟩ := c
  split at h
  ·rename_i x y st yt e1 e2 e3
   simp only at e1 e2 e3
   subst e1
   unfold quietO at h
   cases hy : T.t yt with
   | none => rw [hy] at h; cases h
   | some yi =>
   cases hx : opd s x with
   | none => rw [hy, hx] at h; cases h
   | some u =>
    rw [hy, hx] at h
    simp only at h
    have ha : effOp T s (.call ⟨.builtin .append, args, tys⟩) = some (v, H, hs) := ha
    simp only [effOp, e2, e3, hx, hy] at ha
    cases hl : lstX s.md.lm u with
    | none => rw [hl] at h; revert h; cases yi.desc <;> intro h <;> cases h
    | some p =>
     obtain ⟨tk, es⟩ := p
     rw [hl] at h
     have hd : isDd (s.heap.get .dead s.hs) = true := by
      revert h
      cases yi.desc <;> intro h <;> simpa using h
     have hni : ∀ k, yi.desc ≠ .int k := by
      intro k hk
      rw [hk] at h; cases h
     cases hsi : T.t st with
     | none => cases hy0 : opd s y <;> simp [hsi, hy0] at ha
     | some si =>
      cases hsd : si.desc with
      | slice e =>
       have ha2 : ∃ (y0 : AV) (ei : TI), appT s ei.size ei.bytes (isAggD ei.desc) tk es y0 = some (v, H, hs) := by
        cases hy0 : opd s y with
        | none => rw [hy0] at ha; simp at ha
        | some y0 =>
         cases he : T.t e with
         | none => revert ha; cases hyd : yi.desc <;> (intro ha; first | exact absurd hyd (hni _) | (simp [hsi, hsd, hy0, he, hyd] at ha))
         | some ei =>
          refine ⟨y0, ei, ?_⟩
          unfold appT
          revert ha
          cases hyd : yi.desc <;> (intro ha; first | exact absurd hyd (hni _) | skip)
          all_goals (
           simp only [hsi, hsd, hy0, he, hyd, hl] at ha
           revert ha
           cases (Nat.blt 0 ei.bytes && Nat.blt 0 ei.size && decide (ei.zero.cells.length = ei.size) && flatOk ei.zero) <;> intro ha
           ·cases ha
           ·exact ha)
       obtain ⟨y0, ei, h5⟩ := ha2
       unfold appT at h5
       split at h5
       ·exact appendL_rd h5 hd
       ·cases h5
      | _ => cases hy0 : opd s y <;> simp [hsi, hy0, hsd] at ha
  ·cases h
 ·cases h
theorem quiet_ok {T : Tab} {rec : Rec} (hRd : RdS T rec) (hc0 : ∀ f args H hs, T.con f args H hs = none) {s : AS} {op : Op} (h : quietC T s op = true) {v : AV} {H : Tr AO} {hs : Nat} (ha : actOp T rec s op = some (v, H, hs)) : H = s.heap /\ hs = s.hs := by
 unfold quietC at h
 split at h
 ·rename_i c
  obtain ⟨callee, args, tys⟩ := c
  split at h
  ·rename_i f hc
   simp only at hc
   subst hc
   split at h
   ·rename_i g a b as h1 h2
    simp only at h2
    simp only [actOp, h1, h2, callV] at ha
    have ha0 := ha
    unfold quietG at h
    unfold callN at ha
    cases hn : T.n g with
    | some k =>
     rw [hn] at ha
     simp only at ha
     split at ha
     ·cases ha; exact ⟨rfl, rfl⟩
     ·cases ha
    | none =>
     rw [hn] at h ha
     simp only at h ha
     cases hcon : T.con g (a ++ as ++ b) s.heap s.hs with
     | some r => rw [hcon] at h; cases h
     | none =>
      rw [hcon] at h
      simp only at h
      unfold callF at ha
      rw [hcon] at ha
      simp only at ha
      cases hf : T.f g with
      | none => rw [hf] at h; cases h
      | some fi =>
       rw [hf] at h ha
       simp only at h ha
       cases hi : fi.iso with
       | true =>
        rw [hi] at h ha
        simp only [cond_true] at h ha
        rw [h] at ha
        simp only [cond_true] at ha
        cases hb : bares (a ++ as ++ b) with
        | false => rw [hb] at h; cases h
        | true =>
         rw [hb, cond_true] at ha
         split at ha
         ·cases ha; exact ⟨rfl, rfl⟩
         ·cases ha
       | false =>
        rw [hi] at h ha
        simp only [cond_false] at h ha
        cases hown : fi.own with
        | false => rw [hown, Bool.false_or] at h; exact rd_call hRd hc0 h rfl ha0
        | true =>
        rw [hown] at ha
        simp only [cond_true] at ha
        split at ha
        ·rename_i as2 H2 _
         cases hb : bares as2 with
         | false => rw [hb] at ha; cases ha
         | true =>
          rw [hb, cond_true] at ha
          split at ha
          ·cases ha; exact ⟨rfl, rfl⟩
          ·cases ha
        ·cases ha
   ·cases h
  ·cases h
 ·cases h
structure TRun (T : Tab) (rec : Rec) (D : DI) (l : List Oper) (k : Nat) (q : List Bool) (s sN : AS) (vals vals' : Tr AV) (hl : List (Tr AO × Nat)) (fl : List EffR) : Prop where
 old : ∀ j, j < k -> vals'.get .any j = vals.get .any j
 res : sN = { s with tmps := putsD vals' l k s.tmps, heap := sN.heap, hs := sN.hs }
 runs : Runs T rec D (effIdx l k) (lays hl) fl
 h0 : hl[0]? = some (s.heap, s.hs)
 hN : hl.getLast? = some (sN.heap, sN.hs)
 eff : ∀ (j e : Nat), (effIdx l k)[j]? = some e -> ∃ (f : EffR) (o : Oper), fl[j]? = some f /\ f.e = e /\ f.v = vals'.get .any e /\ D.ops[e]? = some o /\ rvals D vals' e (readsOf D.ops o) = some f.rv
 non : ∀ (i : Nat) (o : Oper), l[i]? = some o -> cls o.op ≠ 3 -> ∃ rv c h, rvals D vals' (k + i) (readsOf D.ops o) = some rv /\ hl[c]? = some h /\ c = ((effIdx l k).filter (fun e => decide (e < k + i))).length /\
  ((wantd (stOf D rv .lf 0) D.ops o = some false /\ vals'.get .any (k + i) = udef) ∨ (wantd (stOf D rv .lf 0) D.ops o = some true /\ nonEff T (stOf D rv .lf 0) h.1 o.op = some (vals'.get .any (k + i))) ∨
   (wantd (stOf D rv .lf 0) D.ops o = some true /\ isAl o.op = true /\ ∃ d, o.dst = some d /\ vals'.get .any (k + i) = D.s0.tmps.get .any d))
 qui : ∀ (i j : Nat) (o : Oper), l[i]? = some o -> cls o.op = 3 -> j = ((effIdx l k).filter (fun e => decide (e < k + i))).length -> q[i]? = some true -> ∃ a b, hl[j]? = some a /\ hl[j + 1]? = some b /\ QS a b
theorem effIdx_ge : ∀ {l : List Oper} {k e : Nat}, e ∈ effIdx l k -> k <= e
 | [], _, _, h => by cases h
 | o :: l, k, e, h => by
  simp only [effIdx, beq_if] at h
  split at h
  ·rcases List.mem_cons.1 h with rfl | h
   ·exact Nat.le_refl _
   ·have := effIdx_ge h; omega
  ·have := effIdx_ge h; omega
theorem filter_none {l : List Nat} {m : Nat} (h : ∀ e ∈ l, m <= e) : (l.filter fun e => decide (e < m)) = [] := by
 rw [List.filter_eq_nil_iff]
 intro e he
 have := h e he
 simp; omega
theorem evT_run {T : Tab} {rec : Rec} (hRd : RdS T rec) (hc0 : ∀ f args H hs, T.con f args H hs = none) {D : DI} (hM : MOk D.ops D.ms) (hW : WOk D.ops D.wt) : ∀ (l : List Oper) (k : Nat) (q : List Bool) (s sN : AS) (vals : Tr AV), evT T rec D.ops l q s = some sN -> (∀ i o, l[i]? = some o -> D.ops[k + i]? = some o) ->
  (∀ i o, l[i]? = some o -> (readsOf D.ops o).all (fun t => Nat.blt t D.s0.nt && rdOk D.ms D.wt (k + i) t) = true) -> q.length = l.length -> TS D k s vals -> ∃ vals' hl fl, TRun T rec D l k q s sN vals vals' hl fl
 | [], k, q, s, sN, vals, h, _, _, _, hS => by
  simp only [evT, Option.some.injEq] at h; subst h
  exact ⟨vals, [(s.heap, s.hs)], [], fun _ _ => rfl, rfl, .nil _, rfl, rfl, fun j e he => (by simp [effIdx] at he), fun i o ho => (by simp at ho), fun i j o ho => (by simp at ho)⟩
 | o :: l, k, [], s, sN, vals, h, _, _, hq, hS => by simp at hq
 | o :: l, k, b :: q, s, sN, vals, h, hat, hrd, hq, hS => by
  have ho : D.ops[k]? = some o := by simpa using hat 0 o rfl
  have hat' : ∀ i o', l[i]? = some o' -> D.ops[k + 1 + i]? = some o' := fun i o' hi => by
   have := hat (i + 1) o' (by simpa using hi)
   rw [show k + 1 + i = k + (i + 1) from by omega]; exact this
  have hrd' : ∀ i o', l[i]? = some o' -> (readsOf D.ops o').all (fun t => Nat.blt t D.s0.nt && rdOk D.ms D.wt (k + 1 + i) t) = true := fun i o' hi => by
   have := hrd (i + 1) o' (by simpa using hi)
   rw [show k + 1 + i = k + (i + 1) from by omega]; exact this
  have hrv := rvals_eq hM hS ho (by simpa using hrd 0 o rfl)
  have hso := st_opd (o := o) hS.nt hS.md
  have hwd := st_wantd (o := o) hS.nt
  generalize hrvd : ((readsOf D.ops o).map fun t => (t, s.tmps.get .any t)) = rv at hrv hso hwd
  have hlen : q.length = l.length := by simpa using hq
  have fin : ∀ (v : AV) (H : Tr AO) (hs : Nat) (s' : AS), setT { s with heap := H, hs := hs } o.dst v = some s' -> evT T rec D.ops l q s' = some sN ->
    (cls o.op = 3 -> (wantd s D.ops o = some false /\ v = udef /\ H = s.heap /\ hs = s.hs) ∨ (wantd s D.ops o = some true /\ actOp T rec s o.op = some (v, H, hs) /\ (b = true -> QS (s.heap, s.hs) (H, hs)))) ->
    (cls o.op ≠ 3 -> H = s.heap /\ hs = s.hs /\ ((wantd s D.ops o = some false /\ v = udef) ∨ (wantd s D.ops o = some true /\ nonEff T s s.heap o.op = some v) ∨ (wantd s D.ops o = some true /\ isAl o.op = true /\ ∃ d, o.dst = some d /\ v = s.tmps.get .any d))) ->
    ∃ vals' hl fl, TRun T rec D (o :: l) k (b :: q) s sN vals vals' hl fl := by
   intro v H hs s' hset hrest h3 hn3
   obtain ⟨hS', e1, e2⟩ := hS.next hW ho hset
   obtain ⟨vals', hl, fl, R⟩ := evT_run hRd hc0 hM hW l (k + 1) q s' sN (vals.put .any k v) hrest hat' hrd' hlen hS'
   have hvk : vals'.get .any k = v := by rw [R.old k (by omega), Tr.get_put, if_pos rfl]
   have hold : ∀ j, j < k -> vals'.get .any j = vals.get .any j := fun j hj => by rw [R.old j (by omega), Tr.get_put, if_neg (by omega)]
   have hrv' : rvals D vals' k (readsOf D.ops o) = some rv := by rw [rvals_later hM ho hold]; exact hrv
   have hres : sN = { s with tmps := putsD vals' (o :: l) k s.tmps, heap := sN.heap, hs := sN.hs } := by
    rw [R.res]
    cases hd : o.dst with
    | none =>
     rw [hd] at hset
     simp only [setT, Option.some.injEq] at hset
     subst hset
     simp only [putsD, hd]
    | some i =>
     rw [hd] at hset
     simp only [setT] at hset
     cases hb : Nat.blt i s.nt with
     | false => rw [hb] at hset; cases hset
     | true =>
      rw [hb, cond_true] at hset; cases hset
      simp only [putsD, hd, hvk]
   by_cases hc : cls o.op = 3
   ·have hei : effIdx (o :: l) k = k :: effIdx l (k + 1) := by simp only [effIdx, hc]; rfl
    have hcnt : ∀ i, ((effIdx (o :: l) k).filter (fun e => decide (e < k + (i + 1)))).length = ((effIdx l (k + 1)).filter (fun e => decide (e < k + 1 + i))).length + 1 := by
     intro i
     rw [hei, List.filter_cons, if_pos (by simp)]
     rw [List.length_cons, show k + (i + 1) = k + 1 + i from by omega]
    refine ⟨vals', (s.heap, s.hs) :: hl, ⟨k, rv, v⟩ :: fl, hold, hres, ?_, rfl, ?_, ?_, ?_, ?_⟩
    ·rw [hei]
     have hcons : ∃ ls, lays hl = ⟨H, hs, []⟩ :: ls := by
      have := R.h0
      cases hl with
      | nil => simp at this
      | cons h0 hl => simp at this; rw [this, e1, e2]; exact ⟨_, rfl⟩
     obtain ⟨ls, hls⟩ := hcons
     have hr := R.runs
     rw [hls] at hr
     show Runs T rec D (k :: effIdx l (k + 1)) (⟨s.heap, s.hs, []⟩ :: lays hl) _
     rw [hls]
     rcases h3 hc with ⟨w1, rfl, rfl, rfl⟩ | ⟨w1, w2, _⟩
     ·exact .skip k o rv _ ⟨s.heap, s.hs, []⟩ ⟨s.heap, s.hs, []⟩ ls fl ho (by rw [hwd]; exact w1) rfl rfl hr
     ·refine .act k o rv v _ ⟨s.heap, s.hs, []⟩ ⟨H, hs, []⟩ ls fl ho (by rw [hwd]; exact w1) ?_ hr
      show actOp T rec (stOf D rv s.heap s.hs) o.op = some (v, H, hs)
      rw [actOp_congr (s1 := stOf D rv s.heap s.hs) (s2 := s) (hso _ _) hS.md.symm rfl rfl]
      exact w2
    ·have := R.hN
     cases hl with
     | nil => simp at this
     | cons h0 hl => simpa using this
    ·intro j e he
     rw [hei] at he
     cases j with
     | zero => simp at he; subst he; exact ⟨_, o, rfl, rfl, hvk.symm, ho, hrv'⟩
     | succ j =>
      obtain ⟨f, o', f1, f2⟩ := R.eff j e (by simpa using he)
      exact ⟨f, o', by simpa using f1, f2⟩
    ·intro i o' hi hne
     cases i with
     | zero => simp at hi; subst hi; exact absurd hc hne
     | succ i =>
      obtain ⟨rv2, c, h2, r1, r2, r3, r4⟩ := R.non i o' (by simpa using hi) hne
      rw [show k + 1 + i = k + (i + 1) from by omega] at r1 r4
      exact ⟨rv2, c + 1, h2, r1, by simpa using r2, by rw [hcnt, r3], r4⟩
    ·intro i j o' hi h3' hj hq'
     cases i with
     | zero =>
      simp at hi; subst hi
      have hj0 : j = 0 := by
       rw [hj, filter_none]
       ·rfl
       ·intro e he; have := effIdx_ge he; omega
      subst hj0
      simp at hq'; subst hq'
      have : hl[0]? = some (H, hs) := by rw [R.h0, e1, e2]
      have hHs : QS (s.heap, s.hs) (H, hs) := by
       rcases h3 hc with ⟨_, _, w3, w4⟩ | ⟨_, _, w3⟩
       ·rw [w3, w4]; exact .refl _
       ·exact w3 rfl
      refine ⟨(s.heap, s.hs), (H, hs), by simp only [List.getElem?_cons_zero], by simp only [Nat.zero_add, List.getElem?_cons_succ, this], hHs⟩
     | succ i =>
      rw [hcnt] at hj
      subst hj
      obtain ⟨a, b, q1, q2, q3⟩ := R.qui i _ o' (by simpa using hi) h3' rfl (by simpa using hq')
      exact ⟨a, b, by simpa using q1, by simpa using q2, q3⟩
   ·have hei : effIdx (o :: l) k = effIdx l (k + 1) := by simp only [effIdx]; rw [beq_if, if_neg hc]
    obtain ⟨n1, n2, n3⟩ := hn3 hc
    have hcnt : ∀ i, ((effIdx (o :: l) k).filter (fun e => decide (e < k + (i + 1)))).length = ((effIdx l (k + 1)).filter (fun e => decide (e < k + 1 + i))).length := by
     intro i; rw [hei, show k + (i + 1) = k + 1 + i from by omega]
    refine ⟨vals', hl, fl, hold, hres, by rw [hei]; exact R.runs, by rw [R.h0, e1, e2, n1, n2], R.hN, by rw [hei]; exact R.eff, ?_, ?_⟩
    ·intro i o' hi hne
     cases i with
     | zero =>
      simp at hi; subst hi
      refine ⟨rv, 0, (s.heap, s.hs), hrv', by rw [R.h0, e1, e2, n1, n2], ?_, ?_⟩
      ·rw [filter_none]
       ·rfl
       ·intro e he; have := effIdx_ge he; omega
      ·rw [Nat.add_zero, hvk, hwd]
       rcases n3 with ⟨w1, w2⟩ | ⟨w1, w2⟩ | ⟨w1, w2, d, w3, w4⟩
       ·exact .inl ⟨w1, w2⟩
       ·refine .inr (.inl ⟨w1, ?_⟩)
        rw [nonEff_congr (s1 := stOf D rv .lf 0) (s2 := s) (hso _ _) hS.md.symm]
        exact w2
       ·refine .inr (.inr ⟨w1, w2, d, w3, ?_⟩)
        rw [w4, hS.tm d, hW.to k o d ho w3]
        simp only
        rw [if_neg (Nat.lt_irrefl k)]
     | succ i =>
      obtain ⟨rv2, c, h2, r1, r2, r3, r4⟩ := R.non i o' (by simpa using hi) hne
      rw [show k + 1 + i = k + (i + 1) from by omega] at r1 r4
      exact ⟨rv2, c, h2, r1, r2, by rw [hcnt, r3], r4⟩
    ·intro i j o' hi h3' hj hq'
     cases i with
     | zero => simp at hi; subst hi; exact absurd h3' hc
     | succ i =>
      rw [hcnt] at hj
      exact R.qui i j o' (by simpa using hi) h3' hj (by simpa using hq')
  simp only [evT] at h
  cases hw : wantd s D.ops o with
  | none => rw [hw] at h; cases h
  | some w =>
   rw [hw] at h
   cases w with
   | false =>
    simp only at h
    split at h
    ·rename_i s' hset
     exact fin udef s.heap s.hs s' hset h (fun _ => .inl ⟨hw, rfl, rfl, rfl⟩) (fun _ => ⟨rfl, rfl, .inl ⟨hw, rfl⟩⟩)
    ·cases h
   | true =>
    simp only [List.headD_cons, List.tail_cons] at h
    split at h
    ·rename_i s' hop
     unfold opT at hop
     rw [beq_if] at hop
     split at hop
     ·rename_i hc
      cases hqq : (!b || (quietC T s o.op || quietA T s o.op)) with
      | false => rw [hqq] at hop; cases hop
      | true =>
       rw [hqq, cond_true] at hop
       split at hop
       ·rename_i v H hs hact
        refine fin v H hs s' hop h (fun _ => .inr ⟨hw, hact, fun hb => ?_⟩) (fun hne => absurd hc hne)
        rw [hb, Bool.not_true, Bool.false_or, Bool.or_eq_true] at hqq
        rcases hqq with hqq | hqq
        ·obtain ⟨g1, g2⟩ := quiet_ok hRd hc0 hqq hact
         rw [g1, g2]; exact .refl _
        ·exact quietA_ok hqq hact
       ·cases hop
     ·rename_i hc
      cases hal : isAl o.op with
      | true =>
       rw [hal, cond_true] at hop
       cases hd : o.dst with
       | none => rw [hd] at hop; cases hop
       | some d =>
        rw [hd] at hop
        exact fin (s.tmps.get .any d) s.heap s.hs s' (by rw [hd]; exact hop) h (fun h3 => absurd h3 hc) (fun _ => ⟨rfl, rfl, .inr (.inr ⟨hw, hal, d, hd, rfl⟩)⟩)
      | false =>
      rw [hal, cond_false] at hop
      split at hop
      ·rename_i v hv
       exact fin v s.heap s.hs s' hop h (fun h3 => absurd h3 hc) (fun _ => ⟨rfl, rfl, .inr (.inl ⟨hw, hv⟩)⟩)
      ·cases hop
    ·cases h
theorem fold_count (p : Nat -> Bool) : ∀ (l : List Nat) (c : Nat), l.foldl (fun c e => bif p e then c + 1 else c) c = c + (l.filter p).length
 | [], c => by simp
 | e :: l, c => by
  rw [List.foldl_cons, fold_count p l, List.filter_cons]
  cases p e <;> simp
  omega
theorem loOf_eq (D : DI) (i : Nat) : loOf D i = (D.es.filter fun e => (D.ms.get 0 i).testBit e).length := by
 unfold loOf; rw [fold_count (fun e => (D.ms.get 0 i).testBit e)]; omega
theorem hiOf_eq (D : DI) (i : Nat) : hiOf D i = (D.es.filter fun e => !(D.ms.get 0 e).testBit i).length := by
 have : hiOf D i = D.es.foldl (fun c e => bif (!(D.ms.get 0 e).testBit i) then c + 1 else c) 0 := by
  unfold hiOf
  congr 1
  funext c e
  cases (D.ms.get 0 e).testBit i <;> rfl
 rw [this, fold_count (fun e => !(D.ms.get 0 e).testBit i)]; omega
theorem filter_le {p q : Nat -> Bool} : ∀ {l : List Nat}, (∀ e ∈ l, p e = true -> q e = true) -> (l.filter p).length <= (l.filter q).length
 | [], _ => Nat.le_refl _
 | e :: l, h => by
  have ih := filter_le (l := l) fun x hx => h x (by simp [hx])
  rw [List.filter_cons, List.filter_cons]
  split
  ·rename_i hp
   rw [if_pos (h e (by simp) hp)]
   simp only [List.length_cons]; omega
  ·split
   ·simp only [List.length_cons]; omega
   ·exact ih
theorem effIdx_mem : ∀ {l : List Oper} {k e : Nat}, e ∈ effIdx l k -> ∃ i o, e = k + i /\ l[i]? = some o /\ cls o.op = 3
 | [], k, e, h => by simp [effIdx] at h
 | o :: l, k, e, h => by
  simp only [effIdx, beq_if] at h
  split at h
  ·rename_i hc
   rcases List.mem_cons.1 h with rfl | h
   ·exact ⟨0, o, rfl, rfl, hc⟩
   ·obtain ⟨i, o', e1, e2, e3⟩ := effIdx_mem h
    exact ⟨i + 1, o', by omega, by simpa using e2, e3⟩
  ·obtain ⟨i, o', e1, e2, e3⟩ := effIdx_mem h
   exact ⟨i + 1, o', by omega, by simpa using e2, e3⟩
theorem stAll_get {D : DI} {nt : Nat} : ∀ {l : List Oper} {i : Nat}, stAll D nt l i = true -> ∀ k o, l[k]? = some o ->
  (readsOf D.ops o).all (fun t => Nat.blt t nt && rdOk D.ms D.wt (i + k) t) = true /\ (bif Nat.beq (cls o.op) 3 then D.es.contains (i + k) else plB D (i + k)) = true /\ ((readsOf D.ops o).all (alOk D (i + k)) && (!isAl o.op || (o.guard.isNone && Nat.beq (loOf D (i + k)) 0))) = true
 | [], i, h, k, o, hk => by simp at hk
 | o0 :: l, i, h, k, o, hk => by
  simp only [stAll, Bool.and_eq_true] at h
  cases k with
  | zero => simp at hk; subst hk; exact ⟨h.1.1.1, h.1.2, by rw [Nat.add_zero]; simpa only [Bool.and_eq_true] using h.1.1.2⟩
  | succ k =>
   have := stAll_get h.2 k o (by simpa using hk)
   rw [show i + (k + 1) = i + 1 + k from by omega]; exact this
theorem needJ_of {D : DI} : ∀ {l : List Oper} {i j : Nat}, ∀ k o, l[k]? = some o -> (isRd o.op || isAl o.op) = true -> loOf D (i + k) <= j -> j < hiOf D (i + k) -> needJ D l i j = true
 | [], i, j, k, o, hk, h1, h2, h3 => by simp at hk
 | o0 :: l, i, j, k, o, hk, h1, h2, h3 => by
  simp only [needJ, Bool.or_eq_true, Bool.and_eq_true]
  cases k with
  | zero => simp at hk; subst hk; exact .inl ⟨⟨by simpa only [Bool.or_eq_true] using h1, ble_le.2 h2⟩, blt_lt.2 h3⟩
  | succ k => exact .inr (needJ_of k o (by simpa using hk) h1 (by rw [show i + 1 + k = i + (k + 1) from by omega]; exact h2) (by rw [show i + 1 + k = i + (k + 1) from by omega]; exact h3))
theorem needL_len {D : DI} : ∀ {l : List Oper} {j : Nat}, (needL D l j).length = l.length
 | [], _ => rfl
 | o :: l, j => by
  simp only [needL]
  cases Nat.beq (cls o.op) 3 with
  | true => simp only [cond_true, List.length_cons, needL_len (l := l)]
  | false => simp only [cond_false, List.length_cons, needL_len (l := l)]
theorem needL_get {D : DI} : ∀ {l : List Oper} {j0 k i : Nat} {o : Oper}, l[i]? = some o -> cls o.op = 3 -> (needL D l j0)[i]? = some (needJ D D.ops.toList 0 (j0 + ((effIdx l k).filter (fun e => decide (e < k + i))).length) || (anyAl D && !isSt o.op))
 | [], j0, k, i, o, h, hc => by simp at h
 | o0 :: l, j0, k, 0, o, h, hc => by
  simp at h; subst h
  rw [filter_none (l := effIdx (o0 :: l) k) (m := k + 0) fun e he => effIdx_ge he]
  simp only [needL, hc]
  rfl
 | o0 :: l, j0, k, i + 1, o, h, hc => by
  have h' : l[i]? = some o := by simpa using h
  by_cases h0 : cls o0.op = 3
  ·have hei : effIdx (o0 :: l) k = k :: effIdx l (k + 1) := by simp only [effIdx, h0]; rfl
   have ih := needL_get (D := D) (j0 := j0 + 1) (k := k + 1) h' hc
   rw [hei, List.filter_cons, if_pos (by simp)]
   simp only [needL, h0]
   show (needL D l (j0 + 1))[i]? = _
   rw [ih, List.length_cons, show k + (i + 1) = k + 1 + i from by omega]
   congr 3; omega
  ·have hei : effIdx (o0 :: l) k = effIdx l (k + 1) := by simp only [effIdx]; rw [beq_if, if_neg h0]
   have ih := needL_get (D := D) (j0 := j0) (k := k + 1) h' hc
   rw [hei]
   simp only [needL]
   rw [show Nat.beq (cls o0.op) 3 = false from by cases hb : Nat.beq (cls o0.op) 3 with | false => rfl | true => exact absurd (Nat.eq_of_beq_eq_true hb) h0]
   show (needL D l j0)[i]? = _
   rw [ih, show k + (i + 1) = k + 1 + i from by omega]
theorem chain_step {hl : List (Tr AO × Nat)} {lo : Nat} : ∀ (d : Nat) {c : Tr AO × Nat}, hl[lo]? = some c -> (∀ j, lo <= j -> j < lo + d -> ∃ a b, hl[j]? = some a /\ hl[j + 1]? = some b /\ QS a b) -> ∃ c', hl[lo + d]? = some c' /\ QS c c'
 | 0, c, h, _ => ⟨c, h, .refl c⟩
 | d + 1, c, h, hs => by
  obtain ⟨c1, h1, h2⟩ := chain_step d h fun j h3 h4 => hs j h3 (by omega)
  obtain ⟨a, b, g1, g2, g3⟩ := hs (lo + d) (by omega) (by omega)
  rw [h1] at g1; cases g1
  exact ⟨b, g2, h2.trans g3⟩
theorem effIdx_get : ∀ {l : List Oper} {k j e : Nat}, (effIdx l k)[j]? = some e -> ((effIdx l k).filter (fun x => decide (x < e))).length = j
 | [], k, j, e, h => by simp [effIdx] at h
 | o :: l, k, j, e, h => by
  simp only [effIdx, beq_if] at h ⊢
  split at h
  ·rename_i hc
   rw [if_pos hc]
   cases j with
   | zero =>
    simp at h; subst h
    rw [filter_none]
    ·rfl
    ·intro x hx
     rcases List.mem_cons.1 hx with rfl | hx
     ·exact Nat.le_refl _
     ·have := effIdx_ge hx; omega
   | succ j =>
    have h' : (effIdx l (k + 1))[j]? = some e := by simpa using h
    have hge := effIdx_ge (List.mem_of_getElem? h')
    rw [List.filter_cons, if_pos (by simp; omega), List.length_cons, effIdx_get h']
  ·rename_i hc
   rw [if_neg hc]
   exact effIdx_get h
theorem al_new {T : Tab} {op : Op} (h : isAl op = true) {s : AS} {id : Nat} {A : AO} {v : AV} (hn : newOp T s id op = some (A, v)) : A ≠ .dead /\ v = .ptr id 0 /\ ∀ st id2, newOp T st id2 op = some (A, .ptr id2 0) := by
 cases op with
 | alloc t =>
  simp only [newOp] at hn ⊢
  split at hn
  ·rename_i ti ht
   cases hf : flatOk ti.zero with
   | false => rw [hf] at hn; cases hn
   | true =>
    rw [hf, cond_true] at hn
    cases hn
    refine ⟨fun h => (by cases h), rfl, fun _ _ => ?_⟩
    simp only [ht, hf, cond_true]
  ·cases hn
 | _ => cases h
theorem al_cm {T : Tab} {op : Op} (h : isAl op = true) {s : AS} {id : Nat} {A : AO} {v : AV} (hn : newOp T s id op = some (A, v)) : cmO A = true := by
 cases op with
 | alloc t =>
  simp only [newOp] at hn
  cases ht : T.t t with
  | none => rw [ht] at hn; cases hn
  | some ti =>
   rw [ht] at hn
   simp only at hn
   cases hf : flatOk ti.zero with
   | false => rw [hf] at hn; cases hn
   | true => rw [hf, cond_true] at hn; cases hn; rfl
 | _ => cases h
structure HSpec (T : Tab) (l : List Oper) (k : Nat) (s s1 : AS) (aid own aid' own' : Tr Nat) (as : List AO) : Prop where
 mem : (s1.heap, s1.hs) = pushes as s.heap s.hs
 nt : s1.nt = s.nt
 md : s1.md = s.md
 df : s1.defs = s.defs
 le : s.hs <= s1.hs
 tm : ∀ t, (∀ o ∈ l, isAl o.op = true -> o.dst ≠ some t) -> s1.tmps.get .any t = s.tmps.get .any t
 al : ∀ i o, l[i]? = some o -> isAl o.op = true -> ∃ id A, (∀ d, o.dst = some d -> s1.tmps.get .any d = .ptr id 0) /\ aid'.get 0 (k + i) = id + 1 /\ own'.get 0 id = k + i + 1 /\ s.hs <= id /\ id < s1.hs /\ s1.heap.get .dead id = A /\ ∀ st id2, newOp T st id2 o.op = some (A, .ptr id2 0)
 old : ∀ i, i < k -> aid'.get 0 i = aid.get 0 i
 no : ∀ i o, l[i]? = some o -> isAl o.op = false -> aid'.get 0 (k + i) = aid.get 0 (k + i)
 owo : ∀ id, id < s.hs -> own'.get 0 id = own.get 0 id
 heap : ∀ id, id < s.hs -> s1.heap.get .dead id = s.heap.get .dead id
theorem hoist_spec {T : Tab} {rec : Rec} : ∀ (l : List Oper) (k : Nat) (s s1 : AS) (aid own : Tr Nat), hoist T rec l s = some s1 -> (∀ (i j : Nat) (o o' : Oper) (d : Nat), l[i]? = some o -> l[j]? = some o' -> o.dst = some d -> o'.dst = some d -> i = j) ->
  ∃ aid' own' as, HSpec T l k s s1 aid own aid' own' as
 | [], k, s, s1, aid, own, h, _ => by
  simp only [hoist, Option.some.injEq] at h; subst h
  exact ⟨aid, own, [], rfl, rfl, rfl, rfl, Nat.le_refl _, fun _ _ => rfl, fun i o h => by simp at h, fun _ _ => rfl, fun i o h => by simp at h, fun _ _ => rfl, fun _ _ => rfl⟩
 | o :: l, k, s, s1, aid, own, h, hU => by
  have hU' : ∀ (i j : Nat) (o o' : Oper) (d : Nat), l[i]? = some o -> l[j]? = some o' -> o.dst = some d -> o'.dst = some d -> i = j := fun i j o o' d h1 h2 h3 h4 => by
   have := hU (i + 1) (j + 1) o o' d (by simpa using h1) (by simpa using h2) h3 h4; omega
  simp only [hoist] at h
  cases hal : isAl o.op with
  | false =>
   rw [hal, cond_false] at h
   obtain ⟨aid', own', as, R⟩ := hoist_spec l (k + 1) s s1 aid own h hU'
   refine ⟨aid', own', as, R.mem, R.nt, R.md, R.df, R.le, fun t ht => R.tm t fun o' ho' => ht o' (List.mem_cons_of_mem _ ho'), fun i o' hi ha => ?_, fun i hi => R.old i (by omega), fun i o' hi ha => ?_, R.owo, R.heap⟩
   ·cases i with
    | zero => simp at hi; subst hi; rw [hal] at ha; cases ha
    | succ i =>
     have := R.al i o' (by simpa using hi) ha
     rw [show k + 1 + i = k + (i + 1) from by omega] at this; exact this
   ·cases i with
    | zero => exact R.old k (by omega)
    | succ i =>
     have := R.no i o' (by simpa using hi) ha
     rw [show k + 1 + i = k + (i + 1) from by omega] at this; exact this
  | true =>
   rw [hal, cond_true] at h
   split at h
   ·rename_i s2 h2
    have hcl : cls o.op = 2 := by
     cases ho : o.op with
     | alloc t => rfl
     | _ => rw [ho] at hal; cases hal
    unfold evOp at h2
    rw [hcl] at h2
    simp only at h2
    obtain ⟨A, hn, hset⟩ : ∃ A, newOp T s s.hs o.op = some (A, .ptr s.hs 0) /\ setT { s with heap := s.heap.put .dead s.hs A, hs := s.hs + 1 } o.dst (.ptr s.hs 0) = some s2 := by
     split at h2
     ·rename_i v hv
      exact absurd rfl (al_new hal hv).1
     ·rename_i A v hne hv
      obtain ⟨a1, a2, a3⟩ := al_new hal hv
      subst a2
      exact ⟨A, hv, h2⟩
     ·cases h2
    obtain ⟨a1, _, a3⟩ := al_new hal hn
    have key : s2.heap = s.heap.put .dead s.hs A /\ s2.hs = s.hs + 1 /\ s2.nt = s.nt /\ s2.md = s.md /\ s2.defs = s.defs /\ (∀ t, s2.tmps.get .any t = if o.dst = some t then .ptr s.hs 0 else s.tmps.get .any t) := by
     cases hd : o.dst with
     | none =>
      rw [hd] at hset
      simp only [setT, Option.some.injEq] at hset
      subst hset
      exact ⟨rfl, rfl, rfl, rfl, rfl, fun t => by simp⟩
     | some d =>
      rw [hd] at hset
      simp only [setT] at hset
      cases hb : Nat.blt d s.nt with
      | false => rw [hb] at hset; cases hset
      | true =>
       rw [hb, cond_true] at hset; cases hset
       refine ⟨rfl, rfl, rfl, rfl, rfl, fun t => ?_⟩
       simp only [Tr.get_put, Option.some.injEq]
       by_cases e : t = d
       ·rw [if_pos e, if_pos e.symm]
       ·rw [if_neg e, if_neg (fun x => e x.symm)]
    obtain ⟨k1, k2, k3, k4, k5, k6⟩ := key
    obtain ⟨aid', own', as, R⟩ := hoist_spec l (k + 1) s2 s1 (aid.put 0 k (s.hs + 1)) (own.put 0 s.hs (k + 1)) h hU'
    have hle := R.le
    rw [k2] at hle
    refine ⟨aid', own', A :: as, ?_, R.nt.trans k3, R.md.trans k4, R.df.trans k5, by omega, fun t ht => ?_, fun i o' hi ha => ?_, fun i hi => ?_, fun i o' hi ha => ?_, fun id hid => ?_, fun id hid => ?_⟩
    ·rw [R.mem, k1, k2]; rfl
    ·rw [R.tm t fun o' ho' => ht o' (List.mem_cons_of_mem _ ho'), k6 t, if_neg (ht o (List.mem_cons_self) hal)]
    ·cases i with
     | zero =>
      simp at hi; subst hi
      refine ⟨s.hs, A, fun d hd => ?_, ?_, ?_, Nat.le_refl _, by omega, ?_, a3⟩
      ·rw [R.tm d, k6 d, if_pos hd]
       intro o' ho' _ hd'
       obtain ⟨j, hj⟩ := List.mem_iff_getElem?.1 ho'
       have := hU 0 (j + 1) o o' d rfl (by simpa using hj) hd hd'
       omega
      ·rw [Nat.add_zero, R.old k (by omega), Tr.get_put, if_pos rfl]
      ·rw [R.owo s.hs (by omega), Tr.get_put, if_pos rfl]
      ·rw [R.heap s.hs (by omega), k1, Tr.get_put, if_pos rfl]
     | succ i =>
      obtain ⟨id, A', b1, b2, b3, b4, b5, b6⟩ := R.al i o' (by simpa using hi) ha
      rw [show k + 1 + i = k + (i + 1) from by omega] at b2 b3
      exact ⟨id, A', b1, b2, b3, by omega, b5, b6⟩
    ·rw [R.old i (by omega), Tr.get_put, if_neg (by omega)]
    ·cases i with
     | zero => simp at hi; subst hi; rw [hal] at ha; cases ha
     | succ i =>
      have := R.no i o' (by simpa using hi) ha
      rw [show k + (i + 1) = k + 1 + i from by omega, this, Tr.get_put, if_neg (by omega)]
    ·rw [R.owo id (by omega), Tr.get_put, if_neg (by omega)]
    ·rw [R.heap id (by omega), k1, Tr.get_put, if_neg (by omega)]
   ·cases h
def laysA (as : List AO) (s : AS) : List (Tr AO × Nat) -> List Lay
 | [] => []
 | _ :: l => ⟨s.heap, s.hs, as⟩ :: lays l
theorem laysA_get {as : List AO} {s : AS} : ∀ {hl : List (Tr AO × Nat)} {k : Nat} {L : Lay}, hl[0]? = some (pushes as s.heap s.hs) -> (laysA as s hl)[k]? = some L -> ∃ h, hl[k]? = some h /\ lH L = h.1 /\ lN L = h.2 /\ (k = 0 -> L.n0 = s.hs)
 | [], k, L, h0, h => by simp at h0
 | a :: l, 0, L, h0, h => by
  simp [laysA] at h h0; subst h h0
  exact ⟨_, rfl, rfl, rfl, fun _ => rfl⟩
 | a :: l, k + 1, L, h0, h => by
  simp only [laysA, List.getElem?_cons_succ, lays, List.getElem?_map] at h
  cases hk : l[k]? with
  | none => rw [hk] at h; cases h
  | some h' =>
   rw [hk] at h; simp at h; subst h
   exact ⟨h', by simpa using hk, rfl, rfl, fun h => by cases h⟩
theorem laysA_last {as : List AO} {s : AS} : ∀ {hl : List (Tr AO × Nat)} {h : Tr AO × Nat}, hl[0]? = some (pushes as s.heap s.hs) -> hl.getLast? = some h -> ∃ L, lastLay (laysA as s hl) = some L /\ lH L = h.1 /\ lN L = h.2
 | [], h, h0, _ => by simp at h0
 | [a], h, h0, hl => by
  simp at h0 hl; subst hl h0
  exact ⟨_, rfl, rfl, rfl⟩
 | a :: b :: l, h, h0, hl => by
  have := lastLay_lays (l := b :: l) (h := h) (by simpa using hl)
  exact ⟨⟨h.1, h.2, []⟩, by simpa [laysA, lays, lastLay] using this, rfl, rfl⟩
theorem runsA {T : Tab} {rec : Rec} {D : DI} {es : List Nat} {as : List AO} {s : AS} {hl : List (Tr AO × Nat)} {fl : List EffR} (h0 : hl[0]? = some (pushes as s.heap s.hs)) (h : Runs T rec D es (lays hl) fl) : Runs T rec D es (laysA as s hl) fl := by
 cases hl with
 | nil => simp at h0
 | cons a l =>
  simp at h0; subst h0
  generalize hls : lays (pushes as s.heap s.hs :: l) = ls at h
  simp only [laysA]
  cases h with
  | nil L =>
   have : lays l = [] := by simp [lays] at hls ⊢; exact hls.2
   rw [this]; exact .nil _
  | skip e o rv es L L' ls fs ho hw h0 n0 t =>
   have e1 : L = ⟨(pushes as s.heap s.hs).1, (pushes as s.heap s.hs).2, []⟩ := by simp [lays] at hls; exact hls.1.symm
   have e2 : lays l = L' :: ls := by simp [lays] at hls ⊢; exact hls.2
   subst e1
   rw [e2]
   exact .skip e o rv es _ L' ls fs ho hw h0 n0 t
  | act e o rv v es L L' ls fs ho hw ha t =>
   have e1 : L = ⟨(pushes as s.heap s.hs).1, (pushes as s.heap s.hs).2, []⟩ := by simp [lays] at hls; exact hls.1.symm
   have e2 : lays l = L' :: ls := by simp [lays] at hls ⊢; exact hls.2
   subst e1
   rw [e2]
   exact .act e o rv v es _ L' ls fs ho hw ha t
theorem st_hs {T : Tab} {rec : Rec} {s : AS} {op : Op} (h : isSt op = true) {v : AV} {H : Tr AO} {hs : Nat} (ha : actOp T rec s op = some (v, H, hs)) : hs = s.hs := by
 cases op with
 | store t x y =>
  simp only [actOp, effOp, Bool.cond_eq_ite] at ha
  repeat' split at ha
  all_goals first | (cases ha; rfl) | cases ha
 | mapUpdate t x y z =>
  simp only [actOp, effOp, Bool.cond_eq_ite] at ha
  repeat' split at ha
  all_goals first | (cases ha; rfl) | cases ha
 | _ => cases h
theorem putsD_congr {vals : Tr AV} : ∀ {l : List Oper} {k : Nat} {a b : Tr AV}, (∀ t, a.get .any t = b.get .any t ∨ ∃ o ∈ l, o.dst = some t) -> ∀ t, (putsD vals l k a).get .any t = (putsD vals l k b).get .any t
 | [], k, a, b, h, t => by
  rcases h t with h | ⟨o, ho, _⟩
  ·exact h
  ·cases ho
 | o :: l, k, a, b, h, t => by
  simp only [putsD]
  cases hd : o.dst with
  | none =>
   refine putsD_congr (fun t => ?_) t
   rcases h t with h | ⟨o', ho, e⟩
   ·exact .inl h
   ·rcases List.mem_cons.1 ho with rfl | ho
    ·rw [hd] at e; cases e
    ·exact .inr ⟨o', ho, e⟩
  | some d =>
   refine putsD_congr (fun t => ?_) t
   simp only [Tr.get_put]
   by_cases e : t = d
   ·rw [if_pos e, if_pos e]; exact .inl rfl
   ·rw [if_neg e, if_neg e]
    rcases h t with h | ⟨o', ho, e2⟩
    ·exact .inl h
    ·rcases List.mem_cons.1 ho with rfl | ho
     ·rw [hd] at e2; cases e2; exact absurd rfl e
     ·exact .inr ⟨o', ho, e2⟩
section
variable {P : Program} {T : Tab} (hT : TSnd P T) {rec : Rec} (hR : Snd P rec)
include hT hR
theorem evDrawT_rel (hRd : RdS T rec) {ops : Array Oper} {s s' : AS} {x : AX} (h : evDrawT T rec ops s = some (x, s')) {β : Env} {B : Gd} {a : Act} {W : World} (hs : SR β B s a W) (id n : Nat) (r : Option Nat) (Q : Exit -> Act -> World -> Prop)
  (hQ : ∀ β' a' W', Env.on β β' s.hs s'.hs -> SR β' B s' a' W' -> s'.nt = s.nt -> Q (XR x) a' W') : (Code.region id ops true).wpIn (FW r) n P Q a W := by
 unfold evDrawT at h
 split at h
 ·rename_i q hq
  split at h
  ·rename_i s1 hho
   split at h
   ·rename_i sN hrun
    cases h
    unfold drawI at hq
    cases hbx : hasBx ops.toList with
    | true => rw [hbx] at hq; cases hq
    | false =>
    rw [hbx, cond_false] at hq
    unfold drawI0 at hq
    split at hq
    ·rename_i ms wt hms hwt
     generalize hst : (chain ms (effIdx ops.toList 0) && dstsOk s.nt ops.toList && stAll ⟨ops, ms, wt, effIdx ops.toList 0, ⟨.lf, 0, .lf, 0, [], ⟨true, true, .lf⟩⟩⟩ s.nt ops.toList 0) = b at hq
     cases b with
     | false => cases hq
     | true =>
      rw [cond_true] at hq
      cases hq
      simp only [Bool.and_eq_true] at hst
      obtain ⟨⟨hch, hdst⟩, hall⟩ := hst
      have hM : MOk ops ms := masks_ok hms
      have hW : WOk ops wt := writers_ok hwt
      generalize hD0 : (DI.mk ops ms wt (effIdx ops.toList 0) ⟨.lf, 0, .lf, 0, [], ⟨true, true, .lf⟩⟩) = D0 at hall hrun
      have hget := fun k o hk => stAll_get hall k o hk
      obtain ⟨aid, own, as, HS⟩ := hoist_spec ops.toList 0 s s1 .lf .lf hho (fun i j o o' d h1 h2 h3 h4 => by
       have e1 := hW.to i o d (by simpa using h1) h3
       have e2 := hW.to j o' d (by simpa using h2) h4
       omega)
      let D : DI := ⟨ops, ms, wt, effIdx ops.toList 0, s⟩
      let D1 : DI := ⟨ops, ms, wt, effIdx ops.toList 0, s1⟩
      have hlo : ∀ i, loOf D0 i = loOf D i := fun i => by subst hD0; rfl
      have hhi : ∀ i, hiOf D0 i = hiOf D i := fun i => by subst hD0; rfl
      have hops0 : D0.ops = ops := by subst hD0; rfl
      have hms0 : D0.ms = ms := by subst hD0; rfl
      have hwt0 : D0.wt = wt := by subst hD0; rfl
      have hes0 : D0.es = effIdx ops.toList 0 := by subst hD0; rfl
      have hal0 : ∀ i t, alOk D0 i t = alOk D i t := fun i t => by subst hD0; rfl
      have hany : anyAl D0 = anyAl D := by subst hD0; rfl
      simp only [hops0, hms0, hwt0, hes0, Nat.zero_add, hlo] at hget
      obtain ⟨vals, hl, fl, R⟩ := evT_run (T := T) (rec := rec) hRd hT.con0 (D := D1) hM hW ops.toList 0 _ s1 s' .lf hrun (fun i o hi => by rw [Nat.zero_add]; simpa using hi)
       (fun i o hi => by rw [Nat.zero_add]; rw [show D1.s0.nt = s.nt from HS.nt]; exact (hget i o hi).1) needL_len ⟨rfl, rfl, rfl, fun t => by
        split
        ·rfl
        ·rw [if_neg (by omega)]⟩
      have hl0 : hl[0]? = some (pushes as s.heap s.hs) := by rw [R.h0, HS.mem]
      have hrv : ∀ i o, ops.toList[i]? = some o -> ∀ l : List Nat, l.all (alOk D0 i) = true -> ∀ vs : Tr AV, rvals D1 vs i l = rvals D vs i l := by
       intro i o hi l hl vs
       induction l with
       | nil => rfl
       | cons t l ih =>
        rw [List.all_cons, Bool.and_eq_true] at hl
        have e : opv D1 vs i t = opv D vs i t := by
         have h1 := hl.1
         rw [hal0] at h1
         unfold alOk at h1
         unfold opv
         show (match wt.get 0 t with | 0 => some (s1.tmps.get AV.any t) | w + 1 => bif (ms.get 0 i).testBit w then some (vs.get AV.any w) else bif (ms.get 0 w).testBit i then some (s1.tmps.get AV.any t) else none) = (match wt.get 0 t with | 0 => some (s.tmps.get AV.any t) | w + 1 => bif (ms.get 0 i).testBit w then some (vs.get AV.any w) else bif (ms.get 0 w).testBit i then some (s.tmps.get AV.any t) else none)
         have h1 : (match wt.get 0 t with | 0 => true | w + 1 => (match ops[w]? with | some o => !isAl o.op || Nat.blt w i | none => true)) = true := h1
         cases hw : wt.get 0 t with
         | zero =>
          simp only
          congr 1
          refine HS.tm t fun o' ho' ha' hd' => ?_
          obtain ⟨j, hj⟩ := List.mem_iff_getElem?.1 ho'
          have := hW.to j o' t (by simpa using hj) hd'
          omega
         | succ w =>
          rw [hw] at h1
          obtain ⟨o', ho', hd'⟩ := hW.of t w hw
          simp only [ho'] at h1
          simp only
          cases hb : (ms.get 0 i).testBit w with
          | true => rfl
          | false =>
           simp only [cond_false]
           cases hb2 : (ms.get 0 w).testBit i with
           | false => rfl
           | true =>
            simp only [cond_true]
            have hlt := bit_lt hM w ⟨o', ho'⟩ i hb2
            have hna : isAl o'.op = false := by
             cases ha : isAl o'.op with
             | false => rfl
             | true =>
              rw [ha] at h1
              simp only [Bool.not_true, Bool.false_or, blt_lt] at h1
              omega
            congr 1
            refine HS.tm t fun o2 ho2 ha2 hd2 => ?_
            obtain ⟨j, hj⟩ := List.mem_iff_getElem?.1 ho2
            have e3 := hW.to j o2 t (by simpa using hj) hd2
            rw [hw] at e3
            have : w = j := by omega
            subst this
            rw [show ops[w]? = ops.toList[w]? by simp] at ho'
            rw [hj] at ho'; cases ho'
            rw [hna] at ha2; cases ha2
        have e2 : rvals D1 vs i l = rvals D vs i l := ih hl.2
        have hnt : D1.s0.nt = D.s0.nt := HS.nt
        simp only [rvals, e, e2, hnt]
      have hst : ∀ rv H hh, stOf D1 rv H hh = stOf D rv H hh := fun rv H hh => by
       show AS.mk (putsT rv) s1.nt H hh s1.defs s1.md = AS.mk (putsT rv) s.nt H hh s.defs s.md
       rw [HS.nt, HS.md, HS.df]
      have hrd : ∀ i o, ops.toList[i]? = some o -> ∀ vs : Tr AV, rvals D1 vs i (readsOf ops o) = rvals D vs i (readsOf ops o) := fun i o hi vs => by
       have := (hget i o hi).2.2
       simp only [Bool.and_eq_true] at this
       exact hrv i o hi _ this.1 vs
      have hqe : ∀ (j e : Nat) (o2 : Oper), (effIdx ops.toList 0)[j]? = some e -> ops.toList[e]? = some o2 -> (needJ D0 ops.toList 0 j || (anyAl D0 && !isSt o2.op)) = true -> ∃ a b, hl[j]? = some a /\ hl[j + 1]? = some b /\ QS a b := by
       intro j e o2 he e2 hne
       obtain ⟨i3, o3, e1, e4, e3⟩ := effIdx_mem (List.mem_of_getElem? he)
       rw [Nat.zero_add] at e1
       subst e1
       rw [e4] at e2; cases e2
       have hcnt := effIdx_get he
       refine R.qui e j o2 e4 e3 (by rw [Nat.zero_add]; exact hcnt.symm) ?_
       rw [needL_get (k := 0) e4 e3]
       simp only [Nat.zero_add]
       rw [hcnt, hops0, hne]
      have hquiet : ∀ (i : Nat) (o : Oper) (j : Nat), ops.toList[i]? = some o -> (isRd o.op || isAl o.op) = true -> loOf D i <= j -> j < hiOf D i -> ∃ a b, hl[j]? = some a /\ hl[j + 1]? = some b /\ QS a b := by
       intro i o j hi hrd h1 h2
       have hjl : j < (effIdx ops.toList 0).length := by
        have := hiOf_eq D i
        have h3 := List.length_filter_le (fun e => !(D.ms.get 0 e).testBit i) D.es
        show j < D.es.length
        omega
       have he : (effIdx ops.toList 0)[j]? = some ((effIdx ops.toList 0)[j]) := List.getElem?_eq_getElem hjl
       generalize (effIdx ops.toList 0)[j] = e at he
       obtain ⟨i2, o2, e1, e2, e3⟩ := effIdx_mem (List.mem_of_getElem? he)
       rw [Nat.zero_add] at e1
       subst e1
       refine hqe j e o2 he e2 ?_
       rw [needJ_of (i := 0) i o hi hrd (by rw [Nat.zero_add, hlo]; exact h1) (by rw [Nat.zero_add, hhi]; exact h2), Bool.true_or]
      have hev : ∀ (i : Nat) (o : Oper), ops.toList[i]? = some o -> (isRd o.op || isAl o.op) = true -> ∀ h0, hl[loOf D i]? = some h0 -> ∀ j, loOf D i <= j -> j <= hiOf D i -> ∃ h', hl[j]? = some h' /\ QS h0 h' := by
       intro i o hi hrd h0 hL j h1 h2
       have := chain_step (j - loOf D i) hL fun j' h3 h4 => hquiet i o j' hi hrd h3 (by omega)
       rw [show loOf D i + (j - loOf D i) = j from by omega] at this
       exact this
      have hmono : anyAl D0 = true -> ∀ (k : Nat) (h : Tr AO × Nat), hl[k]? = some h -> s1.hs <= h.2 := by
       intro hA
       have hrl : ∀ (es : List Nat) (ls : List Lay) (fl : List EffR), Runs T rec D1 es ls fl -> ∀ (j0 : Nat) (hl' : List (Tr AO × Nat)), ls = lays hl' -> (∀ (j e : Nat), es[j]? = some e -> (effIdx ops.toList 0)[j0 + j]? = some e) -> (∀ j : Nat, hl'[j]? = hl[j0 + j]?) -> (∀ h : Tr AO × Nat, hl'[0]? = some h -> s1.hs <= h.2) -> ∀ (k : Nat) (h : Tr AO × Nat), hl'[k]? = some h -> s1.hs <= h.2 := by
        intro es ls fl hr
        induction hr with
        | nil L =>
         intro j0 hl' hls _ _ h0 k h hk
         have hlen : hl'.length = 1 := by have := congrArg List.length hls; simpa [lays] using this.symm
         have : k = 0 := by have := (List.getElem?_eq_some_iff.1 hk).1; omega
         subst this; exact h0 h hk
        | skip e o rv es L L' ls fs ho hw h0' n0 t ih =>
         intro j0 hl' hls hes hhl h0 k h hk
         cases hl' with
         | nil => simp at hk
         | cons a hl' =>
          simp only [lays, List.map_cons, List.cons.injEq] at hls
          cases k with
          | zero => exact h0 h hk
          | succ k =>
           refine ih (j0 + 1) hl' hls.2 (fun j e' hj => by rw [show j0 + 1 + j = j0 + (j + 1) from by omega]; exact hes (j + 1) e' (by simpa using hj)) (fun j => by rw [show j0 + 1 + j = j0 + (j + 1) from by omega, <- hhl]; simp) (fun h' hh' => ?_) k h (by simpa using hk)
           have e1 := h0 a rfl
           cases hl' with
           | nil => simp at hh'
           | cons b hl' =>
            simp at hh'; subst hh'
            have e2 := hls.2
            simp only [List.map_cons, List.cons.injEq] at e2
            have e3 : L'.n0 = b.2 := by rw [e2.1]
            have e4 : lN L = a.2 := by rw [hls.1]; rfl
            omega
        | act e o rv v es L L' ls fs ho hw ha t ih =>
         intro j0 hl' hls hes hhl h0 k h hk
         cases hl' with
         | nil => simp at hk
         | cons a hl' =>
          simp only [lays, List.map_cons, List.cons.injEq] at hls
          cases k with
          | zero => exact h0 h hk
          | succ k =>
           refine ih (j0 + 1) hl' hls.2 (fun j e' hj => by rw [show j0 + 1 + j = j0 + (j + 1) from by omega]; exact hes (j + 1) e' (by simpa using hj)) (fun j => by rw [show j0 + 1 + j = j0 + (j + 1) from by omega, <- hhl]; simp) (fun h' hh' => ?_) k h (by simpa using hk)
           have e1 := h0 a rfl
           cases hl' with
           | nil => simp at hh'
           | cons b hl' =>
            simp at hh'; subst hh'
            have e2 := hls.2
            simp only [List.map_cons, List.cons.injEq] at e2
            have e3 : L'.n0 = b.2 := by rw [e2.1]
            have e4 : lN L = a.2 := by rw [hls.1]; rfl
            cases hst : isSt o.op with
            | true =>
             have := st_hs hst ha
             have e5 : (stOf D1 rv (lH L) (lN L)).hs = lN L := rfl
             omega
            | false =>
             have he := hes 0 e rfl
             obtain ⟨qa, qb, hq1, hq2, hq3⟩ := hqe (j0 + 0) e o he (by simpa using ho) (by rw [hA, hst]; simp)
             have q1 := hhl 0
             have q2 := hhl 1
             simp at q1 q2
             rw [Nat.add_zero, <- q1] at hq1
             rw [Nat.add_zero, <- q2] at hq2
             cases hq1; cases hq2
             exact Nat.le_trans e1 hq3.2
       exact hrl _ _ _ R.runs 0 hl rfl (fun j e hj => by rw [Nat.zero_add]; exact hj) (fun j => by rw [Nat.zero_add]) (fun h hh => by rw [R.h0] at hh; cases hh; exact Nat.le_refl _)
      have hcert : DCert T rec D (laysA as s hl) fl vals aid own := by
       have hruns : Runs T rec D (effIdx ops.toList 0) (laysA as s hl) fl := by
        have h1 : Runs T rec D1 (effIdx ops.toList 0) (laysA as s hl) fl := runsA hl0 R.runs
        have h2 : ∀ (es : List Nat) (ls : List Lay) (fl : List EffR), Runs T rec D1 es ls fl -> Runs T rec D es ls fl := by
         intro es ls fl hr
         induction hr with
         | nil L => exact .nil L
         | skip e o rv es L L' ls fs ho hw h0 n0 t ih => exact .skip e o rv es L L' ls fs ho (by rw [hst] at hw; exact hw) h0 n0 ih
         | act e o rv v es L L' ls fs ho hw ha t ih => exact .act e o rv v es L L' ls fs ho (by rw [hst] at hw; exact hw) (by rw [hst] at ha; exact ha) ih
        exact h2 _ _ _ h1
       refine ⟨hM, hW, hruns, hch, fun k e hk => ?_, fun i o ho => ?_, ?_, fun i o d ho hd => dstsOk_get hdst i o d (by simpa using ho) hd⟩
       ·obtain ⟨f, o, f1, f2, f3, f4, f5⟩ := R.eff k e hk
        have f4 : ops[e]? = some o := f4
        have hi : ops.toList[e]? = some o := by simpa using f4
        have f5 : rvals D1 vals e (readsOf ops o) = some f.rv := f5
        rw [hrd e o hi] at f5
        refine ⟨f, o, f1, f2, f3, ?_, f4, f5⟩
        obtain ⟨i2, o2, e1, e2, e3⟩ := effIdx_mem (List.mem_of_getElem? hk)
        rw [Nat.zero_add] at e1; subst e1
        rw [e2] at hi; cases hi
        have := HS.no e o e2 (by cases ho : o.op with
         | alloc t => rw [ho] at e3; cases e3
         | _ => rfl)
        rw [Nat.zero_add] at this
        rw [this]; rfl
       ·have hi : ops.toList[i]? = some o := by simpa using ho
        have hg := (hget i o hi).2.1
        have hg3 := (hget i o hi).2.2
        simp only [Bool.and_eq_true] at hg3
        rw [beq_if] at hg
        split
        ·rename_i hc; rw [if_pos hc] at hg; exact hg
        ·rename_i hc
         rw [if_neg hc] at hg
         have hg : plB D i = true := by subst hD0; exact hg
         unfold plB at hg
         simp only [Bool.and_eq_true, Bool.not_eq_true'] at hg
         obtain ⟨rv, c, hh, r1, r2, r3, r4⟩ := R.non i o hi hc
         rw [Nat.zero_add] at r1 r3 r4
         have r1 : rvals D1 vals i (readsOf ops o) = some rv := r1
         rw [hrd i o hi] at r1
         rw [hst] at r4
         cases hal : isAl o.op with
         | false =>
          have ha0 : aid.get 0 i = 0 := by
           have := HS.no i o hi hal
           rw [Nat.zero_add] at this
           rw [this]; rfl
          refine ⟨⟨hg.2.1, hg.2.2, rv, r1, ?_⟩, hg.1, fun id hid => by rw [ha0] at hid; cases hid⟩
          rcases r4 with ⟨w1, w2⟩ | ⟨w1, w2⟩ | ⟨_, w2, _⟩
          ·exact .inl ⟨w1, w2, ha0⟩
          ·have hpr : ∀ {H : Tr AO}, prOp T (stOf D rv .lf 0) H o.op = some (vals.get .any i) -> pureOp T (stOf D rv .lf 0) o.op = some (vals.get .any i) ∨ readOp T (stOf D rv .lf 0) H o.op = some (vals.get .any i) := fun h => prOp_cases h
           unfold nonEff at w2
           rw [beq_if] at w2
           split at w2
           ·split at w2
            ·rename_i v hv
             cases w2
             exact .inr (.inr (.inl ⟨w1, ha0, .inr hv⟩))
            ·cases w2
           ·rename_i hc2
            cases hrd2 : isRd o.op with
            | false =>
             refine .inr (.inr (.inl ⟨w1, ha0, .inl ?_⟩))
             unfold isRd at hrd2
             rw [Bool.or_eq_false_iff] at hrd2
             unfold prOp at w2
             split at w2
             ·exact w2
             ·rename_i h1; rw [h1] at hrd2; cases hrd2.1
             ·rename_i h1; rw [h1] at hrd2; cases hrd2.2
             ·cases w2
            | true =>
             refine .inr (.inr (.inr ⟨w1, ha0, fun k L hk hwin => ?_⟩))
             simp only [within_, Bool.and_eq_true, ble_le] at hwin
             have hcl : loOf D i <= c := by
              rw [loOf_eq, r3]
              exact filter_le fun e _ hb => by simpa using bit_lt hM i ⟨o, ho⟩ e hb
             have hch : c <= hiOf D i := by
              rw [hiOf_eq, r3]
              refine filter_le fun e he hb => ?_
              have hlt : e < i := by simpa using hb
              cases hb2 : (D.ms.get 0 e).testBit i with
              | false => rfl
              | true =>
               obtain ⟨i2, o2, e1, e2, e3⟩ := effIdx_mem he
               rw [Nat.zero_add] at e1; subst e1
               have := bit_lt hM e ⟨o2, by simpa using e2⟩ i hb2
               omega
             have hL : ∃ h0, hl[loOf D i]? = some h0 := by
              have := (List.getElem?_eq_some_iff.1 r2).1
              exact ⟨_, List.getElem?_eq_getElem (by omega)⟩
             obtain ⟨h0, hL⟩ := hL
             have hev := hev i o hi (by rw [hrd2]; rfl) h0 hL
             obtain ⟨hc0, hc1, hc2⟩ := hev c hcl hch
             rw [r2] at hc1
             cases hc1
             obtain ⟨hk0, hk1, hk2⟩ := hev k hwin.1 hwin.2
             obtain ⟨h', g1, g2, _⟩ := laysA_get hl0 hk
             rw [hk1] at g1; cases g1
             rw [g2]
             refine hpr ?_
             rw [<- (hc2.1.symm.trans hk2.1).prOp]
             exact w2
          ·rw [hal] at w2; cases w2
         | true =>
          rw [hal] at hg3
          have hg4 : o.guard = none /\ loOf D i = 0 := by
           have := hg3.2
           simp only [Bool.not_true, Bool.false_or, Bool.and_eq_true, Option.isNone_iff_eq_none] at this
           exact ⟨this.1, Nat.eq_of_beq_eq_true this.2⟩
          obtain ⟨nid, A, b1, b2, b3, b4, b5, b6, b7⟩ := HS.al i o hi hal
          rw [Nat.zero_add] at b2 b3
          have hw1 : wantd (stOf D rv .lf 0) ops o = some true := by unfold wantd; rw [hg4.1]
          have hv : vals.get .any i = .ptr nid 0 := by
           rcases r4 with ⟨w1, _⟩ | ⟨_, w2⟩ | ⟨_, _, d, w3, w4⟩
           ·have w1 : wantd (stOf D rv .lf 0) ops o = some false := w1
            rw [hw1] at w1; cases w1
           ·unfold nonEff at w2
            have hcl : cls o.op = 2 := by
             cases ho : o.op with
             | alloc t => rfl
             | _ => rw [ho] at hal; cases hal
            rw [hcl] at w2
            have w2 : (match newOp T (stOf D rv .lf 0) 0 o.op with | some (.dead, v) => some v | _ => none) = some (vals.get .any i) := w2
            rw [b7] at w2
            split at w2
            ·rename_i hx
             cases hx
             exact absurd rfl (al_new hal (b7 (stOf D rv .lf 0) 0)).1
            ·cases w2
           ·rw [w4]; exact b1 d w3
          have hAny : anyAl D0 = true := by
           rw [hany]
           unfold anyAl
           rw [List.any_eq_true]
           exact ⟨o, List.mem_of_getElem? hi, hal⟩
          refine ⟨⟨hg.2.1, hg.2.2, rv, r1, .inr (.inl ⟨hw1, nid, A, b2, b3, by rw [hv]; exact b7 _ _, fun k L hk => ?_⟩)⟩, hg.1, fun id2 hid => ?_⟩
          ·obtain ⟨h', g1, g2, g3, _⟩ := laysA_get hl0 hk
           refine ⟨fun hwin => ?_, fun _ => ?_⟩
           ·simp only [within_, Bool.and_eq_true, ble_le] at hwin
            obtain ⟨hk0, hk1, hk2⟩ := hev i o hi (by rw [hal, Bool.or_true]) (s1.heap, s1.hs) (by rw [hg4.2]; exact R.h0) k hwin.1 hwin.2
            rw [hk1] at g1; cases g1
            rw [g2]
            have hA2 := al_cm hal (b7 (stOf D rv .lf 0) 0)
            rcases hk2.1 nid with e | ⟨e, _⟩
            ·rw [<- e]; exact b6
            ·rw [show s1.heap.get .dead nid = A from b6] at e; rw [hA2] at e; cases e
           ·have := hmono hAny k h' g1
            rw [g3]; omega
          ·rw [b2] at hid
           have : nid = id2 := by omega
           subst this
           rw [hg4.2]
           cases hl with
           | nil => rfl
           | cons a hl =>
            simp only [laysA, chkIds]
            have h1 : Nat.ble s.hs nid = true := ble_le.2 b4
            rw [h1, Bool.or_true, Bool.true_and]
            have : ∀ (l : List Lay) (k : Nat), 0 < k -> chkIds l k 0 nid = true := by
             intro l
             induction l with
             | nil => intro k hk; rfl
             | cons L l ih =>
              intro k hk
              simp only [chkIds, ih (k + 1) (by omega), Bool.and_true]
              have : Nat.ble k 0 = false := by cases hb : Nat.ble k 0 with | false => rfl | true => have := ble_le.1 hb; omega
              rw [this]; rfl
            exact this _ _ (by omega)
       ·cases hl with
        | nil => simp at hl0
        | cons a hl => exact ⟨_, rfl, rfl, rfl⟩
      have hls : ∃ ls', laysA as s hl = ⟨s.heap, s.hs, as⟩ :: ls' := by
       cases hl with
       | nil => simp at hl0
       | cons a hl => exact ⟨_, rfl⟩
      obtain ⟨ls', hls⟩ := hls
      obtain ⟨LL, hLL, hL1, hL2⟩ := laysA_last hl0 R.hN
      refine cert_rel hT hR hcert (L := LL) (ops := ops) rfl rfl hLL hls rfl rfl hs id n r Q fun β' a' W' hon hsr => ?_
      have e : s' = { s1 with tmps := putsD vals ops.toList 0 s1.tmps, heap := s'.heap, hs := s'.hs } := R.res
      have hnt : s'.nt = s.nt := by rw [e]; exact HS.nt
      have hmd : s'.md = s.md := by rw [e]; exact HS.md
      have hdf : s'.defs = s.defs := by rw [e]; exact HS.df
      have htm : ∀ t, s'.tmps.get .any t = (putsD vals ops.toList 0 s.tmps).get .any t := by
       intro t
       rw [e]
       refine putsD_congr (fun t => ?_) t
       by_cases hx : ∃ o ∈ ops.toList, isAl o.op = true /\ o.dst = some t
       ·obtain ⟨o, h1, _, h2⟩ := hx; exact .inr ⟨o, h1, h2⟩
       ·exact .inl (HS.tm t fun o h1 h2 h3 => hx ⟨o, h1, h2, h3⟩)
      have hsr' : SR β' B s' a' W' := by
       refine ⟨?_, ⟨?_, fun i hi => ?_, ?_⟩, ?_⟩
       ·have := hsr.w; rw [hL1, hL2] at this; exact this
       ·rw [hnt]; exact hsr.f.size
       ·rw [htm]; exact hsr.f.get i (by rw [hnt] at hi; exact hi)
       ·rw [hmd]; exact hsr.f.gl
       ·rw [hdf]; exact hsr.d
      rw [hL2] at hon
      exact hQ β' a' W' hon hsr' hnt
    ·cases hq
   ·cases h
  ·cases h
 ·cases h
end
end Go.Proofs.YtcledcfeddlomaaGreatDoor.Ev
