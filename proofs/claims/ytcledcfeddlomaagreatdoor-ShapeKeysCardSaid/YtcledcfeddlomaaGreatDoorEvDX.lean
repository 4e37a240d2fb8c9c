import Derived.Test.YtcledcfeddlomaaGreatDoorEvD9
set_option linter.all false
namespace Go.Proofs.YtcledcfeddlomaaGreatDoor.Ev
open Go.RowKit
structure XRun (T : Tab) (rec : Rec) (D : DI) (l : List Oper) (k : Nat) (s sN : AS) (vals vals' : Tr AV) (hl : List (Tr AO × Nat)) (ls : List Lay) (fl : List EffR) (aid own aid' own' : Tr Nat) : Prop where
 old : ∀ j, j < k -> vals'.get .any j = vals.get .any j
 fin : TS D (k + l.length) sN vals'
 res : sN = { s with tmps := putsD vals' l k s.tmps, heap := sN.heap, hs := sN.hs }
 runs : Runs T rec D (effIdx l k) ls fl
 h0 : ∃ L ls', ls = L :: ls' /\ L.h0 = s.heap /\ L.n0 = s.hs
 hN : ∃ L, lastLay ls = some L /\ lH L = sN.heap /\ lN L = sN.hs
 hl : hl = ls.map fun L => (lH L, lN L)
 eff : ∀ (j e : Nat), (effIdx l k)[j]? = some e -> ∃ (f : EffR) (o : Oper), fl[j]? = some f /\ f.e = e /\ f.v = vals'.get .any e /\ D.ops[e]? = some o /\ rvals D vals' e (readsOf D.ops o) = some f.rv
 non : ∀ (i : Nat) (o : Oper), l[i]? = some o -> cls o.op ≠ 3 -> isBx o.op = false -> ∃ rv H, rvals D vals' (k + i) (readsOf D.ops o) = some rv /\ nonEff T (stOf D rv .lf 0) H o.op = some (vals'.get .any (k + i))
 bx : ∀ (i : Nat) (o : Oper), l[i]? = some o -> isBx o.op = true -> ∃ rv id A, rvals D vals' (k + i) (readsOf D.ops o) = some rv /\ newOp T (stOf D rv .lf 0) id o.op = some (A, vals'.get .any (k + i)) /\
  aid'.get 0 (k + i) = id + 1 /\ own'.get 0 id = k + i + 1 /\ id < sN.hs /\ sN.heap.get .dead id = A /\ s.hs <= id /\ ∀ L ∈ ls, L.n0 <= id
 ao : ∀ i, i < k -> aid'.get 0 i = aid.get 0 i
 an : ∀ i o, l[i]? = some o -> isBx o.op = false -> aid'.get 0 (k + i) = aid.get 0 (k + i)
 oo : ∀ id, id < s.hs -> own'.get 0 id = own.get 0 id
 st : effIdx l k = [] -> s.hs <= sN.hs /\ ∀ id, id < s.hs -> sN.heap.get .dead id = s.heap.get .dead id
theorem cls_bx {op : Op} (h : isBx op = true) : cls op = 2 /\ isRd op = false := by
 cases op with
 | box t x => exact ⟨rfl, rfl⟩
 | _ => cases h
theorem lastLay_cons {L : Lay} {ls : List Lay} (h : ls ≠ []) : lastLay (L :: ls) = lastLay ls := by
 cases ls with
 | nil => exact absurd rfl h
 | cons a l => rfl
theorem evX_run {T : Tab} {rec : Rec} {D : DI} (hM : MOk D.ops D.ms) (hW : WOk D.ops D.wt) : ∀ (l : List Oper) (k : Nat) (s sN : AS) (vals : Tr AV) (hl : List (Tr AO × Nat)) (aid own : Tr Nat), evX T rec l s = some (hl, sN) -> (∀ i o, l[i]? = some o -> D.ops[k + i]? = some o) ->
  (∀ i o, l[i]? = some o -> (readsOf D.ops o).all (fun t => Nat.blt t D.s0.nt && rdOk D.ms D.wt (k + i) t) = true) -> (∀ (i : Nat) (o : Oper), l[i]? = some o -> o.guard = none /\ isAl o.op = false) ->
  (∀ (i : Nat) (o : Oper), l[i]? = some o -> isBx o.op = true -> ∀ e ∈ effIdx l k, e < k + i) -> TS D k s vals -> ∃ vals' ls fl aid' own', XRun T rec D l k s sN vals vals' hl ls fl aid own aid' own'
 | [], k, s, sN, vals, hl, aid, own, h, _, _, _, _, hS => by
  simp only [evX, Option.some.injEq, Prod.mk.injEq] at h
  obtain ⟨rfl, rfl⟩ := h
  refine ⟨vals, [⟨s.heap, s.hs, []⟩], [], aid, own, fun _ _ => rfl, by simpa using hS, rfl, .nil _, ⟨_, [], rfl, rfl, rfl⟩, ⟨_, rfl, rfl, rfl⟩, rfl, fun j e he => (by simp [effIdx] at he), fun i o ho => (by simp at ho), fun i o ho => (by simp at ho), fun _ _ => rfl, fun i o ho => (by simp at ho), fun _ _ => rfl, fun _ => ⟨Nat.le_refl _, fun _ _ => rfl⟩⟩
 | o :: l, k, s, sN, vals, hl, aid, own, h, hat, hrd, hga, hbx, hS => by
  have ho : D.ops[k]? = some o := by simpa using hat 0 o rfl
  have hat' : ∀ i o', l[i]? = some o' -> D.ops[k + 1 + i]? = some o' := fun i o' hi => by
   have := hat (i + 1) o' (by simpa using hi)
   rw [show k + 1 + i = k + (i + 1) from by omega]; exact this
  have hrd' : ∀ i o', l[i]? = some o' -> (readsOf D.ops o').all (fun t => Nat.blt t D.s0.nt && rdOk D.ms D.wt (k + 1 + i) t) = true := fun i o' hi => by
   have := hrd (i + 1) o' (by simpa using hi)
   rw [show k + 1 + i = k + (i + 1) from by omega]; exact this
  have hga' : ∀ (i : Nat) (o' : Oper), l[i]? = some o' -> o'.guard = none /\ isAl o'.op = false := fun i o' hi => hga (i + 1) o' (by simpa using hi)
  have hsub : ∀ e ∈ effIdx l (k + 1), e ∈ effIdx (o :: l) k := fun e he => by
   simp only [effIdx]
   cases Nat.beq (cls o.op) 3 with
   | true => exact List.mem_cons_of_mem _ he
   | false => exact he
  have hbx' : ∀ (i : Nat) (o' : Oper), l[i]? = some o' -> isBx o'.op = true -> ∀ e ∈ effIdx l (k + 1), e < k + 1 + i := fun i o' hi hb e he => by
   have := hbx (i + 1) o' (by simpa using hi) hb e (hsub e he)
   omega
  have hrv := rvals_eq hM hS ho (by simpa using hrd 0 o rfl)
  have hso := st_opd (o := o) hS.nt hS.md
  have hwd := st_wantd (o := o) hS.nt
  generalize hrvd : ((readsOf D.ops o).map fun t => (t, s.tmps.get .any t)) = rv at hrv hso hwd
  have hwt : ∀ st, wantd st D.ops o = some true := fun st => by unfold wantd; rw [(hga 0 o rfl).1]
  simp only [evX] at h
  cases hop : opX T rec o s with
  | none => rw [hop] at h; cases h
  | some s' =>
  rw [hop] at h
  simp only at h
  cases hgr : (!Nat.beq (cls o.op) 3 || Nat.ble s.hs s'.hs) with
  | false => rw [hgr] at h; cases h
  | true =>
  rw [hgr, cond_true] at h
  cases hrest : evX T rec l s' with
  | none => rw [hrest] at h; cases h
  | some p =>
  obtain ⟨hl', sN'⟩ := p
  rw [hrest] at h
  simp only [Option.some.injEq, Prod.mk.injEq] at h
  obtain ⟨hhl, rfl⟩ := h
  have common : ∀ (v : AV) (H : Tr AO) (hs : Nat), setT { s with heap := H, hs := hs } o.dst v = some s' -> ∀ vals' : Tr AV, (∀ j, j < k + 1 -> vals'.get .any j = (vals.put .any k v).get .any j) -> sN' = { s' with tmps := putsD vals' l (k + 1) s'.tmps, heap := sN'.heap, hs := sN'.hs } ->
    vals'.get .any k = v /\ (∀ j, j < k -> vals'.get .any j = vals.get .any j) /\ rvals D vals' k (readsOf D.ops o) = some rv /\ sN' = { s with tmps := putsD vals' (o :: l) k s.tmps, heap := sN'.heap, hs := sN'.hs } := by
   intro v H hs hset vals' hold hres
   have hvk : vals'.get .any k = v := by rw [hold k (by omega), Tr.get_put, if_pos rfl]
   have hold' : ∀ j, j < k -> vals'.get .any j = vals.get .any j := fun j hj => by rw [hold j (by omega), Tr.get_put, if_neg (by omega)]
   refine ⟨hvk, hold', by rw [rvals_later hM ho hold']; exact hrv, ?_⟩
   rw [hres]
   cases hd : o.dst with
   | none =>
    rw [hd] at hset
    simp only [setT, Option.some.injEq] at hset
    subst hset
    simp only [putsD, hd]
   | some i =>
    rw [hd] at hset
    simp only [setT] at hset
    cases hb : Nat.blt i s.nt with
    | false => rw [hb] at hset; cases hset
    | true =>
     rw [hb, cond_true] at hset; cases hset
     simp only [putsD, hd, hvk]
  unfold opX at hop
  cases hb : isBx o.op with
  | true =>
   rw [hb, cond_true] at hop
   obtain ⟨hc2, _⟩ := cls_bx hb
   have hc3 : Nat.beq (cls o.op) 3 = false := by rw [hc2]; rfl
   have hei : effIdx (o :: l) k = effIdx l (k + 1) := by simp only [effIdx, hc3, cond_false]
   have hnil : effIdx l (k + 1) = [] := by
    cases he : effIdx l (k + 1) with
    | nil => rfl
    | cons e es =>
     have hm : e ∈ effIdx l (k + 1) := by rw [he]; exact List.mem_cons_self
     have h1 := effIdx_ge hm
     have h2 := hbx 0 o rfl hb e (hsub e hm)
     omega
   rw [hc3, cond_false] at hhl
   subst hhl
   unfold newT at hop
   cases hn : newOp T s s.hs o.op with
   | none => rw [hn] at hop; cases hop
   | some p =>
   obtain ⟨A, v⟩ := p
   rw [hn] at hop
   have hop : setT { s with heap := s.heap.put .dead s.hs A, hs := s.hs + 1 } o.dst v = some s' := by
    cases A <;> first | exact hop | cases hop
   obtain ⟨hS', e1, e2⟩ := hS.next hW ho hop
   obtain ⟨vals', ls, fl, aid', own', R⟩ := evX_run hM hW l (k + 1) s' sN' (vals.put .any k v) hl' (aid.put 0 k (s.hs + 1)) (own.put 0 s.hs (k + 1)) hrest hat' hrd' hga' hbx' hS'
   obtain ⟨c1, c2, c3, c4⟩ := common v _ _ hop vals' R.old R.res
   have hr := R.runs
   rw [hnil] at hr
   obtain ⟨L, ls', hls, hL0, hLn⟩ := R.h0
   have hls1 : ls' = [] /\ fl = [] := by
    rw [hls] at hr; cases hr; exact ⟨rfl, rfl⟩
   obtain ⟨rfl, rfl⟩ := hls1
   obtain ⟨hst1, hst2⟩ := R.st hnil
   rw [e2] at hst1 hst2
   have hpush : lH ⟨s.heap, s.hs, A :: L.as⟩ = lH L /\ lN ⟨s.heap, s.hs, A :: L.as⟩ = lN L := by
    unfold lH lN
    rw [hL0, hLn, e1, e2]
    exact ⟨rfl, rfl⟩
   obtain ⟨LN, n1, n2, n3⟩ := R.hN
   rw [hls] at n1
   cases n1
   have hidA : sN'.heap.get .dead s.hs = A := by rw [hst2 s.hs (by omega), e1, Tr.get_put, if_pos rfl]
   refine ⟨vals', [⟨s.heap, s.hs, A :: L.as⟩], [], aid', own', c2, ?_, c4, by rw [hei, hnil]; exact .nil _, ⟨_, [], rfl, rfl, rfl⟩, ⟨_, rfl, by rw [hpush.1]; exact n2, by rw [hpush.2]; exact n3⟩, ?_, ?_, ?_, ?_, ?_, ?_, ?_, ?_⟩
   ·have := R.fin
    rw [show k + 1 + l.length = k + (o :: l).length by simp only [List.length_cons]; omega] at this; exact this
   ·rw [R.hl, hls]
    simp only [List.map_cons, List.map_nil, hpush.1, hpush.2]
   ·intro j e he; rw [hei, hnil] at he; simp at he
   ·intro i o' hi hne hnb
    cases i with
    | zero => simp at hi; subst hi; rw [hb] at hnb; cases hnb
    | succ i =>
     have := R.non i o' (by simpa using hi) hne hnb
     rw [show k + 1 + i = k + (i + 1) from by omega] at this; exact this
   ·intro i o' hi hb'
    cases i with
    | zero =>
     simp at hi; subst hi
     refine ⟨rv, s.hs, A, c3, ?_, ?_, ?_, by omega, hidA, Nat.le_refl _, fun L' hL' => ?_⟩
     ·rw [Nat.add_zero, c1, newOp_congr (s1 := stOf D rv .lf 0) (s2 := s) (hso _ _) hS.md.symm]
      exact hn
     ·rw [Nat.add_zero, R.ao k (by omega), Tr.get_put, if_pos rfl]
     ·rw [Nat.add_zero, R.oo s.hs (by omega), Tr.get_put, if_pos rfl]
     ·simp only [List.mem_singleton] at hL'; rw [hL']; exact Nat.le_refl _
    | succ i =>
     obtain ⟨rv2, id, A2, b1, b2, b3, b4, b5, b6, b7, b8⟩ := R.bx i o' (by simpa using hi) hb'
     rw [show k + 1 + i = k + (i + 1) from by omega] at b1 b2 b3 b4
     refine ⟨rv2, id, A2, b1, b2, b3, by rw [b4], b5, b6, by omega, fun L' hL' => ?_⟩
     simp only [List.mem_singleton] at hL'; rw [hL']; show s.hs <= id; omega
   ·intro i hi; rw [R.ao i (by omega), Tr.get_put, if_neg (by omega)]
   ·intro i o' hi hnb
    cases i with
    | zero => simp at hi; subst hi; rw [hb] at hnb; cases hnb
    | succ i =>
     have := R.an i o' (by simpa using hi) hnb
     rw [show k + 1 + i = k + (i + 1) from by omega] at this
     rw [this, Tr.get_put, if_neg (by omega)]
   ·intro id hid; rw [R.oo id (by omega), Tr.get_put, if_neg (by omega)]
   ·intro _; exact ⟨by omega, fun id hid => by rw [hst2 id (by omega), e1, Tr.get_put, if_neg (by omega)]⟩
  | false =>
   rw [hb, cond_false] at hop
   unfold opT at hop
   rw [beq_if] at hop
   split at hop
   ·rename_i hc
    have hc3 : Nat.beq (cls o.op) 3 = true := by rw [hc]; rfl
    have hei : effIdx (o :: l) k = k :: effIdx l (k + 1) := by simp only [effIdx, hc3, cond_true]
    rw [hc3, cond_true] at hhl
    subst hhl
    rw [hc3, Bool.not_true, Bool.false_or, ble_le] at hgr
    simp only [Bool.not_false, Bool.true_or, cond_true] at hop
    split at hop
    ·rename_i v H hs hact
     obtain ⟨hS', e1, e2⟩ := hS.next hW ho hop
     obtain ⟨vals', ls, fl, aid', own', R⟩ := evX_run hM hW l (k + 1) s' sN' (vals.put .any k v) hl' aid own hrest hat' hrd' hga' hbx' hS'
     obtain ⟨c1, c2, c3, c4⟩ := common v _ _ hop vals' R.old R.res
     obtain ⟨L, ls', hls, hL0, hLn⟩ := R.h0
     obtain ⟨LN, n1, n2, n3⟩ := R.hN
     have hne : ls ≠ [] := by rw [hls]; simp
     refine ⟨vals', ⟨s.heap, s.hs, []⟩ :: ls, ⟨k, rv, v⟩ :: fl, aid', own', c2, ?_, c4, ?_, ⟨_, ls, rfl, rfl, rfl⟩, ⟨LN, by rw [lastLay_cons hne]; exact n1, n2, n3⟩, ?_, ?_, ?_, ?_, ?_, ?_, ?_, ?_⟩
     ·have := R.fin
      rw [show k + 1 + l.length = k + (o :: l).length by simp only [List.length_cons]; omega] at this; exact this
     ·rw [hei]
      have hr := R.runs
      rw [hls] at hr ⊢
      refine .act k o rv v _ ⟨s.heap, s.hs, []⟩ L ls' fl ho (hwt _) ?_ hr
      show actOp T rec (stOf D rv s.heap s.hs) o.op = some (v, L.h0, L.n0)
      rw [actOp_congr (s1 := stOf D rv s.heap s.hs) (s2 := s) (hso _ _) hS.md.symm rfl rfl, hL0, hLn, e1, e2]
      exact hact
     ·rw [R.hl]; rfl
     ·intro j e he
      rw [hei] at he
      cases j with
      | zero => simp at he; subst he; exact ⟨_, o, rfl, rfl, c1.symm, ho, c3⟩
      | succ j =>
       obtain ⟨f, o', f1, f2⟩ := R.eff j e (by simpa using he)
       exact ⟨f, o', by simpa using f1, f2⟩
     ·intro i o' hi hne' hnb
      cases i with
      | zero => simp at hi; subst hi; exact absurd hc hne'
      | succ i =>
       have := R.non i o' (by simpa using hi) hne' hnb
       rw [show k + 1 + i = k + (i + 1) from by omega] at this; exact this
     ·intro i o' hi hb'
      cases i with
      | zero => simp at hi; subst hi; rw [hb] at hb'; cases hb'
      | succ i =>
       obtain ⟨rv2, id, A2, b1, b2, b3, b4, b5, b6, b7, b8⟩ := R.bx i o' (by simpa using hi) hb'
       rw [show k + 1 + i = k + (i + 1) from by omega] at b1 b2 b3 b4
       refine ⟨rv2, id, A2, b1, b2, b3, by rw [b4], b5, b6, by omega, fun L' hL' => ?_⟩
       rcases List.mem_cons.1 hL' with rfl | hL'
       ·show s.hs <= id; omega
       ·exact b8 L' hL'
     ·intro i hi; exact R.ao i (by omega)
     ·intro i o' hi hnb
      cases i with
      | zero => exact R.ao k (by omega)
      | succ i =>
       have := R.an i o' (by simpa using hi) hnb
       rw [show k + 1 + i = k + (i + 1) from by omega] at this; exact this
     ·intro id hid; exact R.oo id (by omega)
     ·intro he; rw [hei] at he; cases he
    ·cases hop
   ·rename_i hc
    have hc3 : Nat.beq (cls o.op) 3 = false := by cases hx : Nat.beq (cls o.op) 3 with | false => rfl | true => exact absurd (Nat.eq_of_beq_eq_true hx) hc
    have hei : effIdx (o :: l) k = effIdx l (k + 1) := by simp only [effIdx, hc3, cond_false]
    rw [hc3, cond_false] at hhl
    subst hhl
    rw [(hga 0 o rfl).2, cond_false] at hop
    split at hop
    ·rename_i v hv
     have hop' : setT { s with heap := s.heap, hs := s.hs } o.dst v = some s' := hop
     obtain ⟨hS', e1, e2⟩ := hS.next hW ho hop'
     obtain ⟨vals', ls, fl, aid', own', R⟩ := evX_run hM hW l (k + 1) s' sN' (vals.put .any k v) hl' aid own hrest hat' hrd' hga' hbx' hS'
     obtain ⟨c1, c2, c3, c4⟩ := common v _ _ hop' vals' R.old R.res
     refine ⟨vals', ls, fl, aid', own', c2, ?_, c4, by rw [hei]; exact R.runs, by have := R.h0; rw [e1, e2] at this; exact this, R.hN, R.hl, by rw [hei]; exact R.eff, ?_, ?_, fun i hi => R.ao i (by omega), ?_, fun id hid => R.oo id (by rw [e2]; exact hid), fun he => by have := R.st (by rw [<- hei]; exact he); rw [e1, e2] at this; exact this⟩
     ·have := R.fin
      rw [show k + 1 + l.length = k + (o :: l).length by simp only [List.length_cons]; omega] at this; exact this
     ·intro i o' hi hne' hnb
      cases i with
      | zero =>
       simp at hi; subst hi
       refine ⟨rv, s.heap, c3, ?_⟩
       rw [Nat.add_zero, c1, nonEff_congr (s1 := stOf D rv .lf 0) (s2 := s) (hso _ _) hS.md.symm]
       exact hv
      | succ i =>
       have := R.non i o' (by simpa using hi) hne' hnb
       rw [show k + 1 + i = k + (i + 1) from by omega] at this; exact this
     ·intro i o' hi hb'
      cases i with
      | zero => simp at hi; subst hi; rw [hb] at hb'; cases hb'
      | succ i =>
       obtain ⟨rv2, id, A2, b1, b2, b3, b4, b5, b6, b7, b8⟩ := R.bx i o' (by simpa using hi) hb'
       rw [show k + 1 + i = k + (i + 1) from by omega] at b1 b2 b3 b4
       exact ⟨rv2, id, A2, b1, b2, b3, by rw [b4], b5, b6, by rw [e2] at b7; exact b7, b8⟩
     ·intro i o' hi hnb
      cases i with
      | zero => exact R.ao k (by omega)
      | succ i =>
       have := R.an i o' (by simpa using hi) hnb
       rw [show k + 1 + i = k + (i + 1) from by omega] at this; exact this
    ·cases hop
theorem xOk_get {D : DI} {nt : Nat} : ∀ {l : List Oper} {i : Nat}, xOk D nt l i = true -> ∀ (k : Nat) (o : Oper), l[k]? = some o ->
  (readsOf D.ops o).all (fun t => Nat.blt t nt && rdOk D.ms D.wt (i + k) t) = true /\ o.guard = none /\ isAl o.op = false /\ (bif Nat.beq (cls o.op) 3 then D.es.contains (i + k) else plB D (i + k)) = true /\
   (isRd o.op = true -> (readsOf D.ops o).all (befX D.wt (i + k)) = true /\ o.dst.isSome = true) /\ (isBx o.op = true -> loOf D (i + k) = D.es.length /\ o.dst.isSome = true)
 | [], i, h, k, o, hk => by simp at hk
 | o0 :: l, i, h, k, o, hk => by
  simp only [xOk, Bool.and_eq_true] at h
  cases k with
  | zero =>
   simp at hk; subst hk
   obtain ⟨⟨⟨h1, h2, h3⟩, h4, h5, h6⟩, _⟩ := h
   rw [Nat.add_zero]
   refine ⟨h1, by simpa using h2, by simpa using h3, h4, fun hr => ?_, fun hr => ?_⟩
   ·rw [hr, Bool.not_true, Bool.false_or, Bool.and_eq_true] at h5; exact h5
   ·rw [hr, Bool.not_true, Bool.false_or, Bool.and_eq_true] at h6; exact ⟨Nat.eq_of_beq_eq_true h6.1, h6.2⟩
  | succ k =>
   have := xOk_get h.2 k o (by simpa using hk)
   rw [show i + (k + 1) = i + 1 + k from by omega]; exact this
theorem xLst_mem {D : DI} : ∀ {l : List Oper} {i : Nat} (k : Nat) (o : Oper), l[k]? = some o -> isRd o.op = true -> (i + k, loOf D (i + k), hiOf D (i + k)) ∈ xLst D l i
 | [], i, k, o, hk, _ => by simp at hk
 | o0 :: l, i, k, o, hk, hr => by
  simp only [xLst]
  cases k with
  | zero => simp at hk; subst hk; rw [hr, cond_true, Nat.add_zero]; exact List.mem_cons_self
  | succ k =>
   have := xLst_mem (D := D) (l := l) (i := i + 1) k o (by simpa using hk) hr
   rw [show i + 1 + k = i + (k + 1) from by omega] at this
   cases isRd o0.op with
   | true => exact List.mem_cons_of_mem _ this
   | false => exact this
theorem hChk_get {lo hi : Nat} {f : Tr AO -> Option AV} {w : AV} : ∀ {l : List (Tr AO × Nat)} {k : Nat}, hChk lo hi f w l k = true -> ∀ (j : Nat) (h : Tr AO × Nat), l[j]? = some h -> lo <= k + j -> k + j <= hi -> f h.1 = some w
 | [], k, _, j, h, hj, _, _ => by simp at hj
 | a :: l, k, hc, j, h, hj, h1, h2 => by
  simp only [hChk, Bool.and_eq_true] at hc
  cases j with
  | zero =>
   simp at hj; subst hj
   have h3 := hc.1
   rw [show (Nat.ble lo k && Nat.ble k hi) = true by rw [Bool.and_eq_true, ble_le, ble_le]; omega, cond_true] at h3
   split at h3
   ·rename_i v hv; rw [hv, sameV_is h3]
   ·cases h3
  | succ j => exact hChk_get hc.2 j h (by simpa using hj) (by omega) (by omega)
theorem xChk_get {T : Tab} {ops : Array Oper} {s : AS} {hl : List (Tr AO × Nat)} : ∀ {cs : List (Nat × Nat × Nat)}, xChk T ops s hl cs = true -> ∀ i lo hi, (i, lo, hi) ∈ cs -> ∃ o d, ops[i]? = some o /\ o.dst = some d /\ ∀ (j : Nat) (h : Tr AO × Nat), hl[j]? = some h -> lo <= j -> j <= hi -> prOp T s h.1 o.op = some (s.tmps.get .any d)
 | [], _, i, lo, hi, hm => by cases hm
 | (i0, lo0, hi0) :: cs, h, i, lo, hi, hm => by
  simp only [xChk, Bool.and_eq_true] at h
  rcases List.mem_cons.1 hm with e | hm
  ·cases e
   have h1 := h.1
   split at h1
   ·rename_i o ho
    split at h1
    ·rename_i d hd
     refine ⟨o, d, ho, hd, fun j hh hj h2 h3 => ?_⟩
     exact hChk_get h1 j hh hj (by omega) (by omega)
    ·cases h1
   ·cases h1
  ·exact xChk_get h.2 i lo hi hm
theorem rvals_fin {D : DI} {n : Nat} {s : AS} {vals : Tr AV} (h : TS D n s vals) {i : Nat} (hi : i <= n) {o : Oper} (hM : MOk D.ops D.ms) (ho : D.ops[i]? = some o) : ∀ {l : List Nat}, l.all (fun t => Nat.blt t D.s0.nt && rdOk D.ms D.wt i t) = true -> l.all (befX D.wt i) = true ->
  rvals D vals i l = some (l.map fun t => (t, s.tmps.get .any t))
 | [], _, _ => rfl
 | t :: l, h1, h2 => by
  rw [List.all_cons, Bool.and_eq_true] at h2
  rw [List.all_cons, Bool.and_eq_true, Bool.and_eq_true] at h1
  have ih := rvals_fin h hi hM ho h1.2 h2.2
  have e : opv D vals i t = some (s.tmps.get .any t) := by
   have h3 := h2.1
   have h4 := h1.1.2
   rw [h.tm t]
   unfold befX at h3
   unfold rdOk at h4
   unfold opv
   cases hw : D.wt.get 0 t with
   | zero => rfl
   | succ w =>
    rw [hw] at h3 h4
    simp only [Bool.or_eq_true, Bool.and_eq_true, blt_lt] at h3 h4
    rcases h4 with ⟨_, h5⟩ | ⟨h5, _⟩
    ·simp only [h5, cond_true, if_pos (show w < n by omega)]
    ·omega
  simp only [rvals, e, ih, h1.1.1, cond_true, List.map_cons]
section
variable {P : Program} {T : Tab} (hT : TSnd P T) {rec : Rec} (hR : Snd P rec)
include hT hR
theorem evDrawX_rel {ops : Array Oper} {s s' : AS} {x : AX} {cs : List (Nat × Nat × Nat)} (hcs : drawX s.nt ops = some cs) (h : evDrawX T rec ops s cs = some (x, s')) {β : Env} {B : Gd} {a : Act} {W : World} (hs : SR β B s a W) (id n : Nat) (r : Option Nat) (Q : Exit -> Act -> World -> Prop)
  (hQ : ∀ β' a' W', Env.on β β' s.hs s'.hs -> SR β' B s' a' W' -> s'.nt = s.nt -> Q (XR x) a' W') : (Code.region id ops true).wpIn (FW r) n P Q a W := by
 unfold evDrawX at h
 cases hrun : evX T rec ops.toList s with
 | none => rw [hrun] at h; cases h
 | some p =>
 obtain ⟨hl, sN⟩ := p
 rw [hrun] at h
 simp only at h
 cases hck : xChk T ops sN hl cs with
 | false => rw [hck] at h; cases h
 | true =>
 rw [hck, cond_true] at h
 cases h
 unfold drawX at hcs
 split at hcs
 ·rename_i ms wt hms hwt
  generalize hst : (chain ms (effIdx ops.toList 0) && dstsOk s.nt ops.toList && xOk ⟨ops, ms, wt, effIdx ops.toList 0, ⟨.lf, 0, .lf, 0, [], ⟨true, true, .lf⟩⟩⟩ s.nt ops.toList 0) = b at hcs
  cases b with
  | false => cases hcs
  | true =>
  rw [cond_true] at hcs
  cases hcs
  simp only [Bool.and_eq_true] at hst
  obtain ⟨⟨hch, hdst⟩, hall⟩ := hst
  have hM : MOk ops ms := masks_ok hms
  have hW : WOk ops wt := writers_ok hwt
  let D : DI := ⟨ops, ms, wt, effIdx ops.toList 0, s⟩
  have hlo : ∀ i, loOf ⟨ops, ms, wt, effIdx ops.toList 0, ⟨.lf, 0, .lf, 0, [], ⟨true, true, .lf⟩⟩⟩ i = loOf D i := fun i => rfl
  have hhi : ∀ i, hiOf ⟨ops, ms, wt, effIdx ops.toList 0, ⟨.lf, 0, .lf, 0, [], ⟨true, true, .lf⟩⟩⟩ i = hiOf D i := fun i => rfl
  have hget : ∀ (k : Nat) (o : Oper), ops.toList[k]? = some o -> (readsOf ops o).all (fun t => Nat.blt t s.nt && rdOk ms wt k t) = true /\ o.guard = none /\ isAl o.op = false /\ (bif Nat.beq (cls o.op) 3 then (effIdx ops.toList 0).contains k else plB D k) = true /\
    (isRd o.op = true -> (readsOf ops o).all (befX wt k) = true /\ o.dst.isSome = true) /\ (isBx o.op = true -> loOf D k = (effIdx ops.toList 0).length /\ o.dst.isSome = true) := fun k o hk => by
   have := xOk_get hall k o hk
   rw [Nat.zero_add] at this
   exact this
  have hbits : ∀ i o, ops[i]? = some o -> loOf D i = D.es.length -> ∀ e ∈ D.es, (ms.get 0 i).testBit e = true := fun i o ho hl e he => by
   rw [loOf_eq] at hl
   have h1 : (D.es.filter fun e => (D.ms.get 0 i).testBit e) = D.es := List.filter_sublist.eq_of_length hl
   rw [<- h1] at he
   exact (List.mem_filter.1 he).2
  obtain ⟨vals, ls, fl, aid, own, R⟩ := evX_run (T := T) (rec := rec) (D := D) hM hW ops.toList 0 s s' .lf hl .lf .lf hrun (fun i o hi => by rw [Nat.zero_add]; simpa using hi)
   (fun i o hi => by rw [Nat.zero_add]; exact (hget i o hi).1) (fun i o hi => ⟨(hget i o hi).2.1, (hget i o hi).2.2.1⟩)
   (fun i o hi hb e he => by
    have ho : ops[i]? = some o := by simpa using hi
    have := hbits i o ho ((hget i o hi).2.2.2.2.2 hb).1 e he
    have := bit_lt hM i ⟨o, ho⟩ e this
    omega)
   ⟨rfl, rfl, rfl, fun t => by
    split
    ·rfl
    ·rw [if_neg (by omega)]⟩
  have hRl : ls.length = D.es.length + 1 := by
   have : ∀ (es : List Nat) (ls : List Lay) (fl : List EffR), Runs T rec D es ls fl -> ls.length = es.length + 1 := by
    intro es ls fl hr
    induction hr with
    | nil L => rfl
    | skip e o rv es L L' ls fs ho hw h0 n0 t ih => simp only [List.length_cons] at ih ⊢; omega
    | act e o rv v es L L' ls fs ho hw ha t ih => simp only [List.length_cons] at ih ⊢; omega
   exact this _ _ _ R.runs
  obtain ⟨L0, ls', hls, hL0, hLn⟩ := R.h0
  obtain ⟨LL, hLL, hL1, hL2⟩ := R.hN
  have haz : ∀ i o, ops.toList[i]? = some o -> isBx o.op = false -> aid.get 0 i = 0 := fun i o hi hb => by
   have := R.an i o hi hb
   rw [Nat.zero_add] at this
   rw [this]; rfl
  have hcert : DCert T rec D ls fl vals aid own := by
   refine ⟨hM, hW, R.runs, hch, fun k e hk => ?_, fun i o ho => ?_, ⟨L0, by rw [hls]; rfl, hL0, hLn⟩, fun i o d ho hd => dstsOk_get hdst i o d (by simpa using ho) hd⟩
   ·obtain ⟨f, o, f1, f2, f3, f4, f5⟩ := R.eff k e hk
    have f4 : ops[e]? = some o := f4
    obtain ⟨i2, o2, e1, e2, e3⟩ := effIdx_mem (List.mem_of_getElem? hk)
    rw [Nat.zero_add] at e1; subst e1
    have hi : ops.toList[e]? = some o := by simpa using f4
    rw [e2] at hi; cases hi
    refine ⟨f, o, f1, f2, f3, haz e o e2 ?_, f4, f5⟩
    cases hb : isBx o.op with
    | false => rfl
    | true => have := (cls_bx hb).1; omega
   ·have hi : ops.toList[i]? = some o := by simpa using ho
    obtain ⟨g1, g2, g3, g4, g5, g6⟩ := hget i o hi
    rw [beq_if] at g4
    split
    ·rename_i hc; rw [if_pos hc] at g4; exact g4
    ·rename_i hc
     rw [if_neg hc] at g4
     unfold plB at g4
     simp only [Bool.and_eq_true, Bool.not_eq_true'] at g4
     have hw : ∀ st, wantd st D.ops o = some true := fun st => by unfold wantd; rw [g2]
     cases hb : isBx o.op with
     | false =>
      obtain ⟨rv, H, r1, r2⟩ := R.non i o hi hc hb
      rw [Nat.zero_add] at r1 r2
      have ha0 := haz i o hi hb
      refine ⟨⟨g4.2.1, g4.2.2, rv, r1, ?_⟩, g4.1, fun id hid => by rw [ha0] at hid; cases hid⟩
      unfold nonEff at r2
      rw [beq_if] at r2
      split at r2
      ·split at r2
       ·rename_i v hv
        cases r2
        exact .inr (.inr (.inl ⟨hw _, ha0, .inr hv⟩))
       ·cases r2
      ·cases hrd : isRd o.op with
       | false =>
        refine .inr (.inr (.inl ⟨hw _, ha0, .inl ?_⟩))
        unfold isRd at hrd
        rw [Bool.or_eq_false_iff] at hrd
        unfold prOp at r2
        split at r2
        ·exact r2
        ·rename_i h1; rw [h1] at hrd; cases hrd.1
        ·rename_i h1; rw [h1] at hrd; cases hrd.2
        ·cases r2
       | true =>
        refine .inr (.inr (.inr ⟨hw _, ha0, fun k L hk hwin => ?_⟩))
        simp only [within_, Bool.and_eq_true, ble_le] at hwin
        obtain ⟨hbef, hds⟩ := g5 hrd
        have hm := xLst_mem (D := ⟨ops, ms, wt, effIdx ops.toList 0, ⟨.lf, 0, .lf, 0, [], ⟨true, true, .lf⟩⟩⟩) (l := ops.toList) (i := 0) i o hi hrd
        rw [Nat.zero_add] at hm
        obtain ⟨o2, d, q1, q2, q3⟩ := xChk_get hck _ _ _ hm
        rw [ho] at q1; cases q1
        have hlt : i < ops.toList.length := (List.getElem?_eq_some_iff.1 hi).1
        have hfin := R.fin
        rw [Nat.zero_add] at hfin
        have hrv := rvals_fin hfin (Nat.le_of_lt hlt) hM ho (l := readsOf ops o) g1 hbef
        have r1 : rvals D vals i (readsOf ops o) = some rv := r1
        rw [hrv] at r1
        cases r1
        have hval : s'.tmps.get .any d = vals.get .any i := by
         rw [hfin.tm d, hW.to i o d ho q2]
         simp only
         rw [if_pos hlt]
        have hk2 : hl[k]? = some (lH L, lN L) := by rw [R.hl, List.getElem?_map, hk]; rfl
        have h5 := q3 k _ hk2 hwin.1 hwin.2
        rw [hval] at h5
        have hso := st_opd (D := D) (o := o) hfin.nt hfin.md .lf 0
        rcases prOp_cases h5 with h6 | h6
        ·left
         rw [pureOp_congr (s1 := stOf D _ .lf 0) (s2 := s') hso]; exact h6
        ·right
         rw [readOp_congr (s1 := stOf D _ .lf 0) (s2 := s') hso]; exact h6
     | true =>
      obtain ⟨rv, id2, A, r1, r2, r3, r4, r5, r6, r7, r8⟩ := R.bx i o hi hb
      rw [Nat.zero_add] at r1 r2 r3 r4
      obtain ⟨gl1, _⟩ := g6 hb
      refine ⟨⟨g4.2.1, g4.2.2, rv, r1, .inr (.inl ⟨hw _, id2, A, r3, r4, r2, fun k L hk => ?_⟩)⟩, g4.1, fun id3 hid => ?_⟩
      ·have hkl : k < ls.length := (List.getElem?_eq_some_iff.1 hk).1
       have hlast : loOf D i <= k -> L = LL := fun hle => by
        have h1 := lastLay_of hLL
        have : k = ls.length - 1 := by
         have : (effIdx ops.toList 0).length = D.es.length := rfl
         omega
        rw [<- this, hk] at h1
        exact Option.some.inj h1
       refine ⟨fun hwin => ?_, fun hle => ?_⟩
       ·simp only [within_, Bool.and_eq_true, ble_le] at hwin
        rw [hlast hwin.1, hL1]; exact r6
       ·rw [hlast hle, hL2]; exact r5
      ·rw [r3] at hid
       have : id2 = id3 := by omega
       subst this
       have : ∀ (l : List Lay) (k : Nat), (∀ L ∈ l, L.n0 <= id2) -> chkIds l k (loOf D i) id2 = true := by
        intro l
        induction l with
        | nil => intro k _; rfl
        | cons L l ih =>
         intro k hl
         simp only [chkIds, ih (k + 1) fun L' h' => hl L' (List.mem_cons_of_mem _ h'), Bool.and_true]
         rw [ble_le.2 (hl L List.mem_cons_self), Bool.or_true]
       exact this _ _ r8
  refine cert_rel hT hR hcert (L := LL) (ops := ops) rfl rfl hLL hls hL0 hLn hs id n r Q fun β' a' W' hon hsr => ?_
  have hres := R.res
  rw [hL1, hL2, <- hres] at hsr
  rw [hL2] at hon
  exact hQ β' a' W' hon hsr (by rw [hres])
 ·cases hcs
theorem evDrO_rel {ops : Array Oper} {s s' : AS} {x : AX} (h : evDrO T rec ops s = some (x, s')) {β : Env} {B : Gd} {a : Act} {W : World} (hs : SR β B s a W) (id n : Nat) (r : Option Nat) (Q : Exit -> Act -> World -> Prop)
  (hQ : ∀ β' a' W', Env.on β β' s.hs s'.hs -> SR β' B s' a' W' -> s'.nt = s.nt -> Q (XR x) a' W') : (Code.region id ops true).wpIn (FW r) n P Q a W := by
 unfold evDrO at h
 cases hx : drawX s.nt ops with
 | some cs => rw [hx] at h; exact evDrawX_rel hT hR hx h hs id n r Q hQ
 | none =>
  rw [hx] at h
  simp only at h
  cases hu : useJ s.md.lm ops.toList with
  | true => rw [hu, cond_true] at h; exact evDrawJ_rel hT hR h hs id n r Q hQ
  | false => rw [hu, cond_false] at h; exact evDraw_rel hT hR h hs id n r Q hQ
theorem evDr_rel (hRd : RdS T rec) {ops : Array Oper} {s s' : AS} {x : AX} (h : evDr T rec ops s = some (x, s')) {β : Env} {B : Gd} {a : Act} {W : World} (hs : SR β B s a W) (id n : Nat) (r : Option Nat) (Q : Exit -> Act -> World -> Prop)
  (hQ : ∀ β' a' W', Env.on β β' s.hs s'.hs -> SR β' B s' a' W' -> s'.nt = s.nt -> Q (XR x) a' W') : (Code.region id ops true).wpIn (FW r) n P Q a W := by
 unfold evDr at h
 cases hb : (s.md.tx && (drawI s.nt ops).isSome) with
 | true => rw [hb, cond_true] at h; exact evDrawT_rel hT hR hRd h hs id n r Q hQ
 | false => rw [hb, cond_false] at h; exact evDrO_rel hT hR h hs id n r Q hQ
end
end Go.Proofs.YtcledcfeddlomaaGreatDoor.Ev
