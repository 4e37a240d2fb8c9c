import Derived.Test.YtcledcfeddlomaaGreatDoorEvD8
set_option linter.all false
namespace Go.Proofs.YtcledcfeddlomaaGreatDoor.Ev
open Go.RowKit
structure Kp (s s' : AS) : Prop where
 h : s'.heap = s.heap
 n : s'.hs = s.hs
 t : s'.nt = s.nt
 m : s'.md = s.md
 d : s'.defs = s.defs
theorem Kp.refl (s : AS) : Kp s s := ⟨rfl, rfl, rfl, rfl, rfl⟩
theorem Kp.trans {a b c : AS} (h : Kp a b) (g : Kp b c) : Kp a c := ⟨g.h.trans h.h, g.n.trans h.n, g.t.trans h.t, g.m.trans h.m, g.d.trans h.d⟩
theorem Kp.set {s s' : AS} {d : Option Tmp} {v : AV} (h : setT s d v = some s') : Kp s s' := by
 unfold setT at h
 cases d with
 | none => cases h; exact .refl _
 | some i =>
  cases hb : Nat.blt i s.nt with
  | false => simp only [hb, cond_false] at h; cases h
  | true => simp only [hb, cond_true] at h; cases h; exact ⟨rfl, rfl, rfl, rfl, rfl⟩
def RdS (T : Tab) (rec : Rec) : Prop := ∀ (d : Nat) (ro : Option Nat) (c : Code) (s s' : AS) (x : AX), rdC (rdF T d) s.nt c = true -> s.md.tx = true -> rec ro c s = some (x, s') -> Kp s s'
section
variable {T : Tab} {rec : Rec} (hR : RdS T rec) (hc0 : ∀ f args H hs, T.con f args H hs = none)
include hR hc0
theorem rd_call {d g k : Nat} (h : rdF T d g k = true) {m : Md} {args : List AV} (hk : args.length = k) {H : Tr AO} {hs : Nat} {v : AV} {H' : Tr AO} {hs' : Nat} (ha : callN T rec m g args H hs = some (v, H', hs')) : H' = H /\ hs' = hs := by
 cases d with
 | zero => cases h
 | succ d =>
  unfold rdF at h
  unfold callN at ha
  cases hn : T.n g with
  | some j =>
   rw [hn] at ha
   simp only at ha
   split at ha
   ·cases ha; exact ⟨rfl, rfl⟩
   ·cases ha
  | none =>
   rw [hn] at h ha
   simp only at h ha
   unfold callF at ha
   rw [hc0] at ha
   simp only at ha
   cases hf : T.f g with
   | none => rw [hf] at h; cases h
   | some fi =>
    rw [hf] at h ha
    simp only at h ha
    cases hi : fi.iso with
    | true =>
     rw [hi] at h ha
     simp only [cond_true] at h ha
     rw [h] at ha
     simp only [cond_true] at ha
     cases hb : bares args with
     | false => rw [hb] at ha; simp only [cond_false] at ha; cases ha
     | true =>
      rw [hb] at ha
      simp only [cond_true] at ha
      rw [hb] at ha
      simp only [cond_true] at ha
      split at ha
      ·cases ha; exact ⟨rfl, rfl⟩
      ·cases ha
    | false =>
    rw [hi] at h ha
    simp only [cond_false, Bool.and_eq_true, Bool.or_eq_true] at h ha
    cases ho : fi.own with
    | true =>
     rw [ho] at ha
     simp only [cond_true] at ha
     split at ha
     ·rename_i as2 H2 _
      cases hb : bares as2 with
      | false => rw [hb] at ha; cases ha
      | true =>
       rw [hb, cond_true] at ha
       split at ha
       ·cases ha; exact ⟨rfl, rfl⟩
       ·cases ha
     ·cases ha
    | false =>
     rw [ho] at ha
     simp only [cond_false] at ha
     rw [ho] at h
     simp only [Bool.false_eq_true, false_or] at h
     obtain ⟨hlm, hkn, hrd⟩ := h
     have hkn := ble_le.1 hkn
     have htx : (lmOf fi.lm m).tx = true := by
      rcases hlm with hlm | hlm <;> (rw [Nat.eq_of_beq_eq_true hlm]; rfl)
     have hnt : max args.length fi.ntmps = fi.ntmps := by omega
     have key : ∀ x s', rec none fi.body ⟨putL .lf 0 args, max args.length fi.ntmps, H, hs, [], lmOf fi.lm m⟩ = some (x, s') -> s'.heap = H /\ s'.hs = hs /\ s'.defs = [] := fun x s' hr => by
      have := hR d none fi.body _ s' x (by rw [hnt]; exact hrd) htx hr
      exact ⟨this.h, this.n, this.d⟩
     unfold bodyF at ha
     split at ha
     ·rename_i s' hr
      obtain ⟨k1, k2, k3⟩ := key _ _ hr
      rw [k3, k1] at ha
      simp only [shut] at ha
      split at ha
      ·cases ha; exact ⟨rfl, k2⟩
      ·cases ha
     ·rename_i s' hr
      obtain ⟨k1, k2, k3⟩ := key _ _ hr
      rw [k3, k1] at ha
      simp only [shut] at ha
      split at ha
      ·cases ha; exact ⟨rfl, k2⟩
      ·cases ha
     ·cases ha
omit hR hc0 in
theorem opds_len {s : AS} : ∀ {l : List Operand} {as : List AV}, opds s l = some as -> as.length = l.length
 | [], as, h => by cases h; rfl
 | x :: l, as, h => by
  simp only [opds] at h
  cases h1 : opd s x with
  | none => rw [h1] at h; cases h
  | some a => cases h2 : opds s l with
   | none => rw [h1, h2] at h; cases h
   | some as2 => rw [h1, h2] at h; cases h; rw [List.length_cons, List.length_cons, opds_len h2]
theorem rd_act {d : Nat} {op : Op} (h : rdOp (rdF T d) op = true) (h3 : cls op = 3) {s : AS} {v : AV} {H' : Tr AO} {hs' : Nat} (ha : actOp T rec s op = some (v, H', hs')) : H' = s.heap /\ hs' = s.hs := by
 unfold rdOp at h
 split at h
 ·rename_i c
  obtain ⟨callee, args, tys⟩ := c
  simp only at h
  split at h
  ·cases h3
  ·cases h3
  ·cases h3
  ·cases h3
  ·rename_i f
   simp only [actOp] at ha
   have ho : opd s (.func f) = some (.fn (.func f) [] []) := rfl
   rw [ho] at ha
   cases ho2 : opds s args.toList with
   | none => rw [ho2] at ha; cases ha
   | some as =>
    rw [ho2] at ha
    simp only [callV, List.nil_append, List.append_nil] at ha
    exact rd_call hR hc0 h (by rw [opds_len ho2]; simp) ha
  ·cases h
 ·rename_i hx
  rw [h3] at h
  cases h
theorem rd_op {d : Nat} {o : Oper} (h : rdOp (rdF T d) o.op = true) {s s' : AS} (he : evOp T rec o s = some s') : Kp s s' := by
 unfold evOp at he
 split at he
 ·split at he
  ·exact .set he
  ·cases he
 ·split at he
  ·exact .set he
  ·cases he
 ·rename_i h2
  unfold rdOp at h
  split at h
  ·rename_i c hc
   rw [hc] at h2
   obtain ⟨callee, args, tys⟩ := c
   simp only at h
   split at h <;> first | (cases h2; done) | cases h
  ·rw [h2] at h; cases h
 ·rename_i h3
  split at he
  ·rename_i v H hs ha
   obtain ⟨e1, e2⟩ := rd_act hR hc0 h h3 ha
   rw [e1, e2] at he
   exact .set he
  ·cases he
 ·rename_i h0 h1 h2 h3
  split at he
  ·exact .set he
  ·rename_i hno
   unfold rdOp at h
   split at h
   ·rename_i c hc
    obtain ⟨callee, args, tys⟩ := c
    simp only at h
    have hn : effOp T s o.op = none := by
     rw [hc]
     split at h <;> first | cases h | skip
     ·rfl
     ·rfl
     ·exact absurd (by rw [hc]; rfl) h0
     ·exact absurd (by rw [hc]; rfl) h0
     ·exact absurd (by rw [hc]; rfl) h3
    rw [hn] at he; cases he
   ·rw [Bool.or_eq_true] at h
    rcases h with h | h
    ·exact absurd (Nat.eq_of_beq_eq_true h) h0
    ·exact absurd (Nat.eq_of_beq_eq_true h) h1
theorem rd_ops {d : Nat} {ops : Array Oper} : ∀ {l : List Oper} {s s' : AS} {x : AX}, (l.all fun o => rdOp (rdF T d) o.op) = true -> evOps T rec ops l s = some (x, s') -> Kp s s'
 | [], s, s', x, _, h => by cases h; exact .refl _
 | o :: l, s, s', x, hl, h => by
  simp only [List.all_cons, Bool.and_eq_true] at hl
  simp only [evOps] at h
  split at h
  ·split at h
   ·rename_i s1 h1
    exact (rd_op hR hc0 hl.1 h1).trans (rd_ops hl.2 h)
   ·cases h
  ·split at h
   ·rename_i s1 h1
    exact (Kp.set h1).trans (rd_ops hl.2 h)
   ·cases h
  ·cases h
omit hR hc0 in
theorem rd_noal {g : Nat -> Nat -> Bool} {op : Op} (h : rdOp g op = true) : isAl op = false := by
 cases op <;> first | rfl | cases h
theorem rd_opT {d : Nat} {o : Oper} {b : Bool} (h : rdOp (rdF T d) o.op = true) {s s' : AS} (he : opT T rec b o s = some s') : Kp s s' := by
 unfold opT at he
 cases h3 : Nat.beq (cls o.op) 3 with
 | true =>
  rw [h3, cond_true] at he
  cases hq : (!b || (quietC T s o.op || quietA T s o.op)) with
  | false => rw [hq] at he; cases he
  | true =>
   rw [hq, cond_true] at he
   split at he
   ·rename_i v H hs ha
    obtain ⟨e1, e2⟩ := rd_act hR hc0 h (Nat.eq_of_beq_eq_true h3) ha
    rw [e1, e2] at he
    exact .set he
   ·cases he
 | false =>
  rw [h3, cond_false, rd_noal h, cond_false] at he
  split at he
  ·exact .set he
  ·cases he
theorem rd_evT {d : Nat} {ops : Array Oper} : ∀ {l : List Oper} {q : List Bool} {s s' : AS}, (l.all fun o => rdOp (rdF T d) o.op) = true -> evT T rec ops l q s = some s' -> Kp s s'
 | [], q, s, s', _, h => by cases h; exact .refl _
 | o :: l, q, s, s', hl, h => by
  simp only [List.all_cons, Bool.and_eq_true] at hl
  simp only [evT] at h
  split at h
  ·split at h
   ·rename_i s1 h1
    exact (rd_opT hR hc0 hl.1 h1).trans (rd_evT hl.2 h)
   ·cases h
  ·split at h
   ·rename_i s1 h1
    exact (Kp.set h1).trans (rd_evT hl.2 h)
   ·cases h
  ·cases h
omit hR hc0 in
theorem rd_hoist {g : Nat -> Nat -> Bool} : ∀ {l : List Oper} {s : AS}, (l.all fun o => rdOp g o.op) = true -> hoist T rec l s = some s
 | [], s, _ => rfl
 | o :: l, s, hl => by
  simp only [List.all_cons, Bool.and_eq_true] at hl
  simp only [hoist, rd_noal hl.1, cond_false]
  exact rd_hoist hl.2
theorem rd_step {d : Nat} {ro : Option Nat} {c : Code} {s s' : AS} {x : AX} (h : rdC (rdF T d) s.nt c = true) (ht : s.md.tx = true) (he : step T rec ro c s = some (x, s')) : Kp s s' := by
 cases c with
 | skip => cases he; exact .refl _
 | label _ => cases he; exact .refl _
 | exit _ => cases he; exact .refl _
 | goto _ => cases he; exact .refl _
 | ret => cases he; exact .refl _
 | seq a b =>
  simp only [rdC, Bool.and_eq_true] at h
  simp only [step] at he
  split at he
  ·rename_i s1 h1
   have k1 := hR d ro a s s1 _ h.1 ht h1
   exact k1.trans (hR d ro b s1 s' x (by rw [k1.t]; exact h.2) (by rw [k1.m]; exact ht) he)
  ·exact hR d ro a s s' x h.1 ht he
 | cond o a b =>
  simp only [rdC, Bool.and_eq_true] at h
  simp only [step] at he
  split at he
  ·exact hR d ro a s s' x h.1 ht he
  ·exact hR d ro b s s' x h.2 ht he
  ·cases he
 | block i a =>
  simp only [rdC] at h
  simp only [step] at he
  split at he
  ·rename_i j s1 h1
   cases he
   exact hR d ro a s _ _ h ht h1
  ·exact hR d ro a s s' x h ht he
 | loop a =>
  have h2 : rdC (rdF T d) s.nt a = true := h
  simp only [step] at he
  split at he
  ·rename_i s1 h1
   have k1 := hR d ro a s s1 _ h2 ht h1
   exact k1.trans (hR d ro (.loop a) s1 s' x (by rw [k1.t]; exact h) (by rw [k1.m]; exact ht) he)
  ·exact hR d ro a s s' x h2 ht he
 | region i ops dr =>
  simp only [rdC, Bool.and_eq_true] at h
  simp only [step] at he
  cases dr with
  | false => exact rd_ops hR hc0 h.1 he
  | true =>
   have h2 : (drawI s.nt ops).isSome = true := by simpa using h.2
   rw [cond_true] at he
   unfold evDr at he
   rw [ht, h2, Bool.and_self, cond_true] at he
   unfold evDrawT at he
   split at he
   ·rename_i q hq
    rw [rd_hoist h.1] at he
    simp only at he
    split at he
    ·rename_i s1 h1
     cases he
     exact rd_evT hR hc0 h.1 h1
    ·cases he
   ·cases he
 | _ => cases h
end
theorem rdS_ev {T : Tab} (hc0 : ∀ f args H hs, T.con f args H hs = none) : ∀ n, RdS T (ev T n)
 | 0 => fun d ro c s s' x _ _ h => by cases h
 | n + 1 => fun d ro c s s' x h ht he => rd_step (rdS_ev hc0 n) hc0 h ht he
end Go.Proofs.YtcledcfeddlomaaGreatDoor.Ev
