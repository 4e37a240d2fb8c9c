import Derived.Test.YtcledcfeddlomaaGreatDoorEvD3
set_option linter.all false
namespace Go.Proofs.YtcledcfeddlomaaGreatDoor.Ev
open Go.RowKit
theorem getD_set {listed : Array Bool} {i : Nat} (hi : i < listed.size) (w : Nat) : (listed.setIfInBounds i true).getD w false = if w = i then true else listed.getD w false := by
 simp only [Array.getD_eq_getD_getElem?, Array.getElem?_setIfInBounds]
 by_cases h : i = w
 ·subst h; simp [hi]
 ·rw [if_neg h, if_neg (fun e => h e.symm)]
theorem getD_fls {listed : Array Bool} {i : Nat} (hi : i < listed.size) (h : listed.getD i true = false) : listed.getD i false = false := by
 simp only [Array.getD_eq_getD_getElem?] at h ⊢
 simp [hi] at h ⊢
 exact h
theorem wanted_rel {β : Env} {s : AS} {a : Act} (hf : FR β s a) {ops : Array Oper} {o : Oper} {b : Bool} (h : wantd s ops o = some b) : Region.wanted o (yielded ops a.tmps) = b := by
 unfold wantd at h
 unfold Region.wanted
 split at h
 ·rename_i hg; rw [hg]; simp only; cases h; rfl
 ·rename_i j w hg
  rw [hg]
  simp only
  split at h
  ·rename_i d hd
   cases hb : Nat.blt d s.nt with
   | false => rw [hb] at h; cases h
   | true =>
    rw [hb, cond_true] at h
    have hlt := blt_lt.1 hb
    have hr := hf.get d hlt
    have hsz : d < a.tmps.size := by rw [hf.size]; exact hlt
    have hget : a.tmps[d]? = some (a.tmps.getD d undef) := by simp [hsz]
    unfold yielded
    rw [hd]
    simp only [Option.bind_some, hget]
    split at h
    ·rename_i b' he
     rw [he] at hr
     rw [hr.of_lit]
     cases h
     simp
    ·rename_i he
     rw [he] at hr
     obtain ⟨x, e, _⟩ := hr.of_tup
     rw [e]
     cases h
     rfl
    ·cases h
  ·cases h
section
variable {P : Program} {T : Tab} (hT : TSnd P T) {rec : Rec} (hR : Snd P rec) {D : DI} {ls : List Lay} {fs : List EffR} {vals : Tr AV} {aid own : Tr Nat} (hD : DCert T rec D ls fs vals aid own)
include hT hR hD
theorem DInv.next {β0 β β' : Env} {B : Gd} {W W' : World} {listed : Array Bool} {a : Act} {j j' : Nat} {L L' : Lay} (hI : DInv D ls vals aid β0 B listed a W j L β) {i : Nat} {o : Oper} (ho : D.ops[i]? = some o)
  (hdeps : ∀ e ∈ o.after, Region.binds .any e = true -> listed.getD e.on false = true) (hun : listed.getD i false = false) {v' : Value} (hv : VR β' (vals.get .any i) v') (hle : β.le β') (hon : Env.on β0 β' D.s0.hs (lN L')) (hL : ls[j']? = some L')
  (hw : WR β' B (lH L') (lN L') W') (hes : ∀ k e, D.es[k]? = some e -> ((e = i ∨ listed.getD e false = true) ↔ k < j')) (hid : ∀ i2 o2 id, D.ops[i2]? = some o2 -> i2 ≠ i -> aid.get 0 i2 = id + 1 -> listed.getD i2 false = false -> β'.b id = none) :
  DInv D ls vals aid β0 B (listed.setIfInBounds i true) (a.put o.dst v') W' j' L' β' := by
 have hi : i < D.ops.size := (Array.getElem?_eq_some_iff.1 ho).1
 have hil : i < listed.size := by rw [hI.size]; exact hi
 refine ⟨hL, hon, hw, by simp [hI.size], ?_, ?_, ?_, ?_, ?_, ?_, hI.gl.mono hle⟩
 ·intro x ox hx hox e he hb
  rw [getD_set hil] at hx ⊢
  by_cases e1 : x = i
  ·subst e1
   rw [ho] at hox; cases hox
   split
   ·rfl
   ·exact hdeps e he hb
  ·rw [if_neg e1] at hx
   split
   ·rfl
   ·exact hI.cl x ox hx hox e he hb
 ·intro k e hk
  rw [getD_set hil]
  rw [<- hes k e hk]
  by_cases e1 : e = i
  ·simp [e1]
  ·simp [e1]
 ·cases o.dst with
  | none => exact hI.tsz
  | some d => simp [Act.put, hI.tsz]
 ·intro t ht
  have h0 := (hI.tm t ht).mono hle
  cases hdst : o.dst with
  | none =>
   have : tmL D.wt D.s0 vals (fun i_1 => (listed.setIfInBounds i true).getD i_1 false) t = tmL D.wt D.s0 vals (fun i => listed.getD i false) t := by
    unfold tmL
    split
    ·rfl
    ·rename_i w hwt
     have hwi : w ≠ i := by
      rintro rfl
      obtain ⟨o2, h1, h2⟩ := hD.w.of t w hwt
      rw [ho] at h1; cases h1; rw [hdst] at h2; cases h2
     simp only [getD_set hil, if_neg hwi]
   rw [this]
   exact h0
  | some d =>
   have hwd := hD.w.to i o d ho hdst
   have hdn := hD.dst i o d ho hdst
   rw [put_getD a d v' t (by rw [hI.tsz]; exact hdn)]
   by_cases e1 : t = d
   ·subst e1
    rw [if_pos rfl]
    unfold tmL
    rw [hwd]
    simp only [getD_set hil, if_true]
    exact hv
   ·rw [if_neg e1]
    have : tmL D.wt D.s0 vals (fun i_1 => (listed.setIfInBounds i true).getD i_1 false) t = tmL D.wt D.s0 vals (fun i => listed.getD i false) t := by
     unfold tmL
     split
     ·rfl
     ·rename_i w hwt
      have hwi : w ≠ i := by
       rintro rfl
       obtain ⟨o2, h1, h2⟩ := hD.w.of t w hwt
       rw [ho] at h1; cases h1; rw [hdst] at h2; cases h2; exact e1 rfl
      simp only [getD_set hil, if_neg hwi]
    rw [this]
    exact h0
 ·have : (a.put o.dst v').defers = a.defers := by cases o.dst <;> rfl
  rw [this]
  exact hI.defs.mono hle
 ·intro i2 o2 id ho2 h1 h2
  rw [getD_set hil] at h2
  by_cases e1 : i2 = i
  ·rw [if_pos e1] at h2; cases h2
  ·rw [if_neg e1] at h2; exact hid i2 o2 id ho2 e1 h1 h2
theorem window {β0 β : Env} {B : Gd} {W : World} {listed : Array Bool} {a : Act} {j : Nat} {L : Lay} (hI : DInv D ls vals aid β0 B listed a W j L β) {i : Nat} {o : Oper} (ho : D.ops[i]? = some o)
  (hdeps : ∀ e ∈ o.after, Region.binds .any e = true -> listed.getD e.on false = true) (hun : listed.getD i false = false)
  (h1 : (Nat.beq (loOf D i) 0 || (match D.es[loOf D i - 1]? with | some e => (D.ms.get 0 i).testBit e | none => false)) = true) (h2 : (match D.es[hiOf D i]? with | some e => (D.ms.get 0 e).testBit i | none => Nat.beq (hiOf D i) D.es.length) = true) :
  within_ (loOf D i) (hiOf D i) j = true := by
 have hS : ∀ i, listed.getD i false = true -> ∃ o, D.ops[i]? = some o := by
  intro i hi
  have : i < listed.size := by
   rcases Nat.lt_or_ge i listed.size with h | h
   ·exact h
   ·simp [Array.getElem?_eq_none h] at hi
  rw [hI.size] at this
  exact ⟨D.ops[i], by simp [this]⟩
 unfold within_
 rw [Bool.and_eq_true]
 constructor
 ·rw [ble_le]
  rw [Bool.or_eq_true] at h1
  rcases h1 with h1 | h1
  ·rw [Nat.eq_of_beq_eq_true h1]; exact Nat.zero_le _
  ·split at h1
   ·rename_i e he
    have hl := bef hD.m hI.cl hS i o ho hdeps e h1
    have := (hI.es _ _ he).1 hl
    omega
   ·cases h1
 ·rw [ble_le]
  split at h2
  ·rename_i e he
   refine Nat.le_of_not_lt fun hlt => ?_
   have hl := (hI.es _ _ he).2 hlt
   obtain ⟨o', ho'⟩ := hS e hl
   have := bef hD.m hI.cl hS e o' ho' (fun x hx hb => hI.cl e o' hl ho' x hx hb) i h2
   rw [hun] at this; cases this
  ·rw [Nat.eq_of_beq_eq_true h2]
   have h3 := (Runs.length hT hR hD).1
   have h4 := (List.getElem?_eq_some_iff.1 hI.lay).1
   omega
end
theorem prOp_cases {T : Tab} {s : AS} {H : Tr AO} {op : Op} {v : AV} (h : prOp T s H op = some v) : pureOp T s op = some v ∨ readOp T s H op = some v := by
 unfold prOp at h
 split at h
 ·exact .inl h
 ·exact .inr h
 ·split at h
  ·rename_i v' hv; cases h; exact .inl hv
  ·exact .inr h
 ·cases h
theorem chkOp_inv {T : Tab} {D : DI} {ls : List Lay} {vals : Tr AV} {aid own : Tr Nat} {i : Nat} {o : Oper} (h : chkOp T D ls vals aid own i o = true) :
  (Nat.beq (loOf D i) 0 || (match D.es[loOf D i - 1]? with | some e => (D.ms.get 0 i).testBit e | none => false)) = true /\
  (match D.es[hiOf D i]? with | some e => (D.ms.get 0 e).testBit i | none => Nat.beq (hiOf D i) D.es.length) = true /\
  ∃ rv, rvals D vals i (readsOf D.ops o) = some rv /\ OpChk T D ls vals aid own i o rv := by
 unfold chkOp at h
 simp only [Bool.and_eq_true] at h
 obtain ⟨⟨h1, h2⟩, h3⟩ := h
 refine ⟨h1, h2, ?_⟩
 split at h3
 ·cases h3
 ·rename_i rv hrv
  refine ⟨rv, hrv, ?_⟩
  split at h3
  ·cases h3
  ·rename_i hw
   simp only [Bool.and_eq_true] at h3
   exact .inl ⟨hw, same_is h3.1, Nat.eq_of_beq_eq_true h3.2⟩
  ·rename_i hw
   rw [beq_if] at h3
   split at h3
   ·split at h3
    ·rename_i h0
     split at h3
     ·rename_i v hv
      rw [same_is h3] at hv
      exact .inr (.inr (.inl ⟨hw, h0, .inr hv⟩))
     ·cases h3
    ·rename_i id hid
     simp only [Bool.and_eq_true] at h3
     obtain ⟨ho, h3⟩ := h3
     split at h3
     ·rename_i A v hnew
      simp only [Bool.and_eq_true] at h3
      rw [same_is h3.1] at hnew
      refine .inr (.inl ⟨hw, id, A, hid, Nat.eq_of_beq_eq_true ho, hnew, fun k L hk => ?_⟩)
      have := allLay_get h3.2 k L hk
      simp only [Nat.zero_add, Bool.and_eq_true, Bool.or_eq_true, Bool.not_eq_true'] at this
      refine ⟨fun hwi => ?_, fun hlo => ?_⟩
      ·rcases this.1 with h | h
       ·rw [hwi] at h; cases h
       ·exact sameO_is h
      ·rcases this.2 with h | h
       ·rw [ble_le.2 hlo] at h; cases h
       ·exact blt_lt.1 h
     ·cases h3
   ·simp only [Bool.and_eq_true] at h3
    have ha := Nat.eq_of_beq_eq_true h3.1
    have h3 := h3.2
    split at h3
    ·split at h3
     ·rename_i v hv
      rw [same_is h3] at hv
      exact .inr (.inr (.inl ⟨hw, ha, .inl hv⟩))
     ·cases h3
    ·refine .inr (.inr (.inr ⟨hw, ha, fun k L hk hwi => ?_⟩))
     have := allLay_get h3 k L hk
     simp only [Nat.zero_add, Bool.or_eq_true, Bool.not_eq_true'] at this
     rcases this with h | h
     ·rw [hwi] at h; cases h
     ·split at h
      ·rename_i v hv
       rw [same_is h] at hv
       exact prOp_cases hv
      ·cases h
theorem certAll {T : Tab} {D : DI} {ls : List Lay} {vals : Tr AV} {aid own : Tr Nat} (h : chkAll T D ls vals aid own D.ops.toList 0 = true) : CertAll T D ls vals aid own := by
 intro i o ho
 have h := chkAll_get h i o (by simpa using ho)
 simp only [Nat.zero_add] at h
 split
 ·rename_i hc; rw [if_pos hc] at h; exact h
 ·rename_i hc; rw [if_neg hc] at h; exact ⟨chkOp_inv h.1, h.2⟩
section
variable {P : Program} {T : Tab} (hT : TSnd P T) {rec : Rec} (hR : Snd P rec) {D : DI} {ls : List Lay} {fs : List EffR} {vals : Tr AV} {aid own : Tr Nat} (hD : DCert T rec D ls fs vals aid own)
include hT hR hD
omit hT hR in
theorem aid_spec {i : Nat} {o : Oper} {id : Nat} (ho : D.ops[i]? = some o) (hid : aid.get 0 i = id + 1) :
  own.get 0 id = i + 1 /\ chkIds ls 0 (loOf D i) id = true /\ ∀ k L, ls[k]? = some L -> loOf D i <= k -> id < lN L := by
 have h := hD.all i o ho
 split at h
 ·rename_i hc
  have hm : i ∈ D.es := by simpa using h
  obtain ⟨k, hk⟩ := List.getElem?_of_mem hm
  obtain ⟨f, o', _, _, _, h4, _⟩ := hD.eff k i hk
  rw [hid] at h4; cases h4
 ·obtain ⟨⟨_, _, rv, _, hc⟩, _, h3⟩ := h
  rcases hc with ⟨_, _, h0⟩ | ⟨_, id', A, h4, h5, _, h6⟩ | ⟨_, h0, _⟩ | ⟨_, h0, _⟩
  ·rw [hid] at h0; cases h0
  ·rw [hid] at h4; cases h4
   exact ⟨h5, h3 id hid, fun k L hk hlo => (h6 k L hk).2 hlo⟩
  ·rw [hid] at h0; cases h0
  ·rw [hid] at h0; cases h0
omit hT hR in
theorem es_inj {k k' e : Nat} (h : D.es[k]? = some e) (h' : D.es[k']? = some e) : k = k' := by
 have key : ∀ (d k e f : Nat), D.es[k]? = some e -> D.es[k + d + 1]? = some f -> e < f := by
  intro d
  induction d with
  | zero =>
   intro k e f h1 h2
   obtain ⟨_, o', _, _, _, _, ho, _⟩ := hD.eff _ _ h2
   exact bit_lt hD.m f ⟨o', ho⟩ e (chain_get hD.ch k e f h1 h2)
  | succ d ih =>
   intro k e f h1 h2
   have hlt := (List.getElem?_eq_some_iff.1 h2).1
   have h3 : D.es[k + 1]? = some (D.es[k + 1]'(by omega)) := by simp
   obtain ⟨_, o', _, _, _, _, ho, _⟩ := hD.eff _ _ h3
   have h4 := bit_lt hD.m _ ⟨o', ho⟩ e (chain_get hD.ch k e _ h1 h3)
   have h5 := ih (k + 1) _ f h3 (by rw [show k + 1 + d + 1 = k + (d + 1) + 1 from by omega]; exact h2)
   omega
 rcases Nat.lt_trichotomy k k' with hlt | heq | hgt
 ·have := key (k' - k - 1) k e e h (by rw [show k + (k' - k - 1) + 1 = k' from by omega]; exact h'); omega
 ·exact heq
 ·have := key (k - k' - 1) k' e e h' (by rw [show k' + (k - k' - 1) + 1 = k from by omega]; exact h); omega
end
theorem runs_get {T : Tab} {rec : Rec} {D : DI} {es : List Nat} {ls : List Lay} {fs : List EffR} (h : Runs T rec D es ls fs) : ∀ (j e : Nat) (L : Lay) (f : EffR), es[j]? = some e -> ls[j]? = some L -> fs[j]? = some f ->
  ∃ o L', ls[j + 1]? = some L' /\ D.ops[e]? = some o /\ ((wantd (stOf D f.rv (lH L) (lN L)) D.ops o = some false /\ L'.h0 = lH L /\ L'.n0 = lN L /\ f.v = udef) ∨
   (wantd (stOf D f.rv (lH L) (lN L)) D.ops o = some true /\ actOp T rec (stOf D f.rv (lH L) (lN L)) o.op = some (f.v, L'.h0, L'.n0))) := by
 induction h with
 | nil L => intro j e L f h; simp at h
 | skip e o rv es L L' ls fs ho hw h0 n0 t ih =>
  intro j e2 L2 f2 h1 h2 h3
  cases j with
  | zero =>
   simp at h1 h2 h3; subst h1; subst h2; subst h3
   exact ⟨o, L', by simp, ho, .inl ⟨hw, h0, n0, rfl⟩⟩
  | succ j =>
   obtain ⟨o2, L3, q⟩ := ih j e2 L2 f2 (by simpa using h1) (by simpa using h2) (by simpa using h3)
   exact ⟨o2, L3, by simpa using q.1, q.2⟩
 | act e o rv v es L L' ls fs ho hw ha t ih =>
  intro j e2 L2 f2 h1 h2 h3
  cases j with
  | zero =>
   simp at h1 h2 h3; subst h1; subst h2; subst h3
   exact ⟨o, L', by simp, ho, .inr ⟨hw, ha⟩⟩
  | succ j =>
   obtain ⟨o2, L3, q⟩ := ih j e2 L2 f2 (by simpa using h1) (by simpa using h2) (by simpa using h3)
   exact ⟨o2, L3, by simpa using q.1, q.2⟩
section
variable {P : Program} {T : Tab} (hT : TSnd P T) {rec : Rec} (hR : Snd P rec) {D : DI} {ls : List Lay} {fs : List EffR} {vals : Tr AV} {aid own : Tr Nat} (hD : DCert T rec D ls fs vals aid own)
include hT hR hD
theorem draw_step {β0 β : Env} {B : Gd} {W : World} {listed : Array Bool} {a : Act} {j : Nat} {L : Lay} (hI : DInv D ls vals aid β0 B listed a W j L β) {i : Nat} (hi : i ∈ Region.ready .any D.ops listed) (n : Nat) (r : Option Nat)
  (Q : Exit -> Act -> World -> Prop) (K : Act -> World -> Prop) (hK : ∀ a' W' j' L' β', DInv D ls vals aid β0 B (listed.setIfInBounds i true) a' W' j' L' β' -> K a' W') : wpOpIn (FW r) n P D.ops Q i K a W := by
 obtain ⟨hun', o, ho, hdeps'⟩ := mem_ready.1 hi
 have hid : i < D.ops.size := (Array.getElem?_eq_some_iff.1 ho).1
 have hil : i < listed.size := by rw [hI.size]; exact hid
 have hun := getD_fls hil hun'
 have hdeps : ∀ e ∈ o.after, Region.binds .any e = true -> listed.getD e.on false = true := hdeps'
 have hS : ∀ i, listed.getD i false = true -> ∃ o, D.ops[i]? = some o := by
  intro i hi
  have : i < listed.size := by
   rcases Nat.lt_or_ge i listed.size with h | h
   ·exact h
   ·simp [Array.getElem?_eq_none h] at hi
  rw [hI.size] at this
  exact ⟨D.ops[i], by simp [this]⟩
 have hidn := fun i2 o2 id h1 (h2 : i2 ≠ i) h3 h4 => hI.ids i2 o2 id h1 h3 h4
 have hall := hD.all i o ho
 unfold wpOpIn
 rw [ho]
 simp only
 split at hall
 ·
  rename_i hc
  have hm : i ∈ D.es := by simpa using hall
  obtain ⟨k, hk⟩ := List.getElem?_of_mem hm
  have hkj : k = j := by
   have h1 : ¬ k < j := fun hlt => by
    have := (hI.es k i hk).2 hlt
    rw [hun] at this; cases this
   cases k with
   | zero => omega
   | succ k =>
    have hlt := (List.getElem?_eq_some_iff.1 hk).1
    have h3 : D.es[k]? = some (D.es[k]'(by omega)) := by simp
    have hb := chain_get hD.ch k _ i h3 hk
    have hl := bef hD.m hI.cl hS i o ho hdeps _ hb
    have := (hI.es _ _ h3).1 hl
    omega
  subst hkj
  obtain ⟨f, o', hf, hfe, hfv, hfa, ho', hrv⟩ := hD.eff k i hk
  rw [ho] at ho'; cases ho'
  obtain ⟨o', L', hL', ho', hcase⟩ := runs_get hD.runs k i L f hk hI.lay hf
  rw [ho] at ho'; cases ho'
  have hFR := reads_rel hT hR hD hI ho hdeps hun hrv (lH L) (lN L)
  have hes : ∀ k' e, D.es[k']? = some e -> ((e = i ∨ listed.getD e false = true) ↔ k' < k + 1) := by
   intro k' e he
   constructor
   ·rintro (rfl | h)
    ·have := es_inj hD he hk; omega
    ·have := (hI.es k' e he).1 h; omega
   ·intro hlt
    rcases Nat.lt_or_ge k' k with h | h
    ·exact .inr ((hI.es k' e he).2 h)
    ·have : k' = k := by omega
     subst this
     rw [hk] at he; cases he; exact .inl rfl
  have hN : L'.n0 <= lN L' := pushes_le _ _ _
  rcases hcase with ⟨hw, h0, n0, hv⟩ | ⟨hw, ha⟩
  ·rw [wanted_rel hFR hw]
   simp only [Bool.false_eq_true, if_false]
   refine ⟨fun _ _ => trivial, hK _ _ _ _ _ (DInv.next hT hR hD hI ho hdeps hun (v' := undef) (β' := β) ?_ (Env.le.refl _) (hI.on.trans ⟨Env.le.refl _, fun _ _ => rfl, by omega⟩) hL' ?_ hes hidn)⟩
   ·rw [<- hfv, hv]; exact udef_rel β
   ·have := hI.w
    rw [<- h0, <- n0] at this
    exact this.pushes
  ·rw [wanted_rel hFR hw]
   simp only [if_true]
   refine actD hT hR (s := stOf D f.rv (lH L) (lN L)) ha hFR hI.w n r _ _ fun β' v' W' hon hw' hv' => ?_
   have hle : lN L <= L'.n0 := hon.hs
   refine hK _ _ _ _ _ (DInv.next hT hR hD hI ho hdeps hun (β' := β') ?_ hon.le (hI.on.trans ⟨hon.le, hon.old, by omega⟩) hL' hw'.pushes hes ?_)
   ·rw [<- hfv]; exact hv'
   ·intro i2 o2 id h1 h2 h3 h4
    obtain ⟨_, h6, h7⟩ := aid_spec hD h1 h3
    rcases Nat.lt_or_ge k (loOf D i2) with hlt | hge
    ·have := chkIds_get h6 (k + 1) L' hL' (by omega)
     exact hw'.dom id this
    ·have := h7 k L hI.lay hge
     rw [hon.old id this]
     exact hidn i2 o2 id h1 h2 h3 h4
 ·
  obtain ⟨hc, hne, _⟩ := hall
  have hnm : ∀ (k e : Nat), D.es[k]? = some e -> e ≠ i := by
   rintro k e hk rfl
   have : e ∈ D.es := List.mem_of_getElem? hk
   simp at hne; exact hne this
  have hes : ∀ k' e, D.es[k']? = some e -> ((e = i ∨ listed.getD e false = true) ↔ k' < j) := by
   intro k' e he
   have := hnm k' e he
   simp only [this, false_or]
   exact hI.es k' e he
  obtain ⟨w1, w2, rv, hrv, hcase⟩ := hc
  have hwin := window hT hR hD hI ho hdeps hun w1 w2
  have hFR := reads_rel hT hR hD hI ho hdeps hun hrv .lf 0
  rcases hcase with ⟨hw, hv, _⟩ | ⟨hw, id, A, h4, h5, hnew, h6⟩ | ⟨hw, _, hp⟩ | ⟨hw, _, hp⟩
  ·rw [wanted_rel hFR hw]
   simp only [Bool.false_eq_true, if_false]
   refine ⟨fun _ _ => trivial, hK _ _ _ _ _ (DInv.next hT hR hD hI ho hdeps hun (v' := undef) ?_ (Env.le.refl _) hI.on hI.lay hI.w hes hidn)⟩
   rw [hv]; exact udef_rel β
  ·rw [wanted_rel hFR hw]
   simp only [if_true]
   have hn := hI.ids i o id ho h4 hun
   obtain ⟨obj, sz, esz, v', hy, hobj, hv'⟩ := newOp_rel hT.toTOk hFR hn hI.w.new (fun off => hI.w.fz_new _ off (Nat.le_refl _)) hnew
   have hlo : loOf D i <= j := by
    unfold within_ at hwin
    rw [Bool.and_eq_true] at hwin
    exact ble_le.1 hwin.1
   have hlt := (h6 j L hI.lay).2 hlo
   have hA := (h6 j L hI.lay).1 hwin
   obtain ⟨hwp, hle2, hb2⟩ := hI.w.newN hn hA (hI.w.place hn hlt obj sz esz A hA hobj)
   refine ⟨fun _ _ => trivial, ?_⟩
   have hd : ∀ c, o.op ≠ .defer c := fun c e => by rw [e] at hnew; simp [newOp] at hnew
   rw [Oper.semAt_eq _ _ _ hd]
   have hrun : (execOp a.eval o).run P W = .ok (.value v') (W.alloc obj) := by
    obtain ⟨dst, op, ty, pos, after, guard⟩ := o
    exact hy dst ty pos after guard
   rw [hrun]
   refine hK _ _ _ _ _ (DInv.next hT hR hD hI ho hdeps hun hv' hle2 ⟨hI.on.le.trans hle2, fun x hx => ?_, hI.on.hs⟩ hI.lay hwp hes ?_)
   ·obtain ⟨L0, q1, _, q3⟩ := hD.first
    have := chkIds_get (aid_spec hD ho h4).2.1 0 L0 q1 (Nat.zero_le _)
    rw [hb2, Env.add_other _ _ (by omega)]
    exact hI.on.old x hx
   ·intro i2 o2 id2 h1 h2 h3 h7
    have hne2 : id2 ≠ id := by
     rintro rfl
     have := (aid_spec hD h1 h3).1
     rw [h5] at this
     exact h2 (by omega)
    rw [hb2, Env.add_other _ _ hne2]
    exact hidn i2 o2 id2 h1 h2 h3 h7
  ·rw [wanted_rel hFR hw]
   simp only [if_true]
   have hod : OpDoes P o β B (lN L) (vals.get .any i) (lH L) (lN L) a W n r := by
    rcases hp with hp | hp
    ·exact pureD hT hR hp hFR hI.w n r
    ·exact deadD hT hR hp hFR hI.w n r
   refine hod _ _ fun β' v' W' hon hw' hv' => ?_
   exact hK _ _ _ _ _ (DInv.next hT hR hD hI ho hdeps hun hv' hon.le (hI.on.trans hon) hI.lay hw' hes fun i2 o2 id h1 h2 h3 h4 => by
    have h7 := hidn i2 o2 id h1 h2 h3 h4
    rcases Nat.lt_or_ge id (lN L) with h8 | h8
    ·rw [hon.old id h8]; exact h7
    ·exact hw'.dom id h8)
  ·rw [wanted_rel hFR hw]
   simp only [if_true]
   have hod : OpDoes P o β B (lN L) (vals.get .any i) (lH L) (lN L) a W n r := by
    rcases hp j L hI.lay hwin with h | h
    ·exact pureD hT hR h hFR hI.w n r
    ·exact readD hT hR h hFR hI.w n r
   refine hod _ _ fun β' v' W' hon hw' hv' => ?_
   exact hK _ _ _ _ _ (DInv.next hT hR hD hI ho hdeps hun hv' hon.le (hI.on.trans hon) hI.lay hw' hes fun i2 o2 id h1 h2 h3 h4 => by
    have h7 := hidn i2 o2 id h1 h2 h3 h4
    rcases Nat.lt_or_ge id (lN L) with h8 | h8
    ·rw [hon.old id h8]; exact h7
    ·exact hw'.dom id h8)
end
theorem putsD_other (vals : Tr AV) (t : Nat) : ∀ (l : List Oper) (i : Nat) (t0 : Tr AV), (∀ (k : Nat) (o : Oper), l[k]? = some o -> o.dst ≠ some t) -> (putsD vals l i t0).get .any t = t0.get .any t
 | [], _, _, _ => rfl
 | o :: l, i, t0, h => by
  have h' : ∀ (k : Nat) (o : Oper), l[k]? = some o -> o.dst ≠ some t := fun k o' hk => h (k + 1) o' (by simpa using hk)
  have h0 := h 0 o (by simp)
  simp only [putsD]
  cases hd : o.dst with
  | none => simp only; exact putsD_other vals t l (i + 1) t0 h'
  | some d =>
   simp only
   rw [putsD_other vals t l (i + 1) _ h', Tr.get_put, if_neg]
   rintro rfl
   exact h0 hd
theorem putsD_at (vals : Tr AV) (t : Nat) : ∀ (l : List Oper) (i : Nat) (t0 : Tr AV) (k0 : Nat) (o0 : Oper), l[k0]? = some o0 -> o0.dst = some t -> (∀ (k : Nat) (o : Oper), l[k]? = some o -> o.dst = some t -> k = k0) ->
  (putsD vals l i t0).get .any t = vals.get .any (i + k0)
 | [], _, _, k0, o0, h, _, _ => by simp at h
 | o :: l, i, t0, 0, o0, h, hd, hu => by
  simp at h; subst h
  simp only [putsD, hd]
  rw [putsD_other vals t l (i + 1) _ (fun k o' hk hd' => by have := hu (k + 1) o' (by simpa using hk) hd'; omega), Tr.get_put, if_pos rfl]
  rfl
 | o :: l, i, t0, k0 + 1, o0, h, hd, hu => by
  have h0 : o.dst ≠ some t := fun e => by have := hu 0 o (by simp) e; omega
  have hr := fun t1 => putsD_at vals t l (i + 1) t1 k0 o0 (by simpa using h) hd (fun k o' hk hd' => by have := hu (k + 1) o' (by simpa using hk) hd'; omega)
  simp only [putsD]
  rw [show i + (k0 + 1) = i + 1 + k0 from by omega]
  cases o.dst with
  | none => exact hr _
  | some d => exact hr _
theorem lastLay_of : ∀ {ls : List Lay} {L : Lay}, lastLay ls = some L -> ls[ls.length - 1]? = some L
 | [], _, h => by simp [lastLay] at h
 | [L0], L, h => by simpa [lastLay] using h
 | _ :: L1 :: l, L, h => by
  have := lastLay_of (ls := L1 :: l) (by simpa [lastLay] using h)
  simpa using this
theorem dstsOk_get {nt : Nat} : ∀ {l : List Oper}, dstsOk nt l = true -> ∀ (k : Nat) (o : Oper) (d : Nat), l[k]? = some o -> o.dst = some d -> d < nt
 | [], _, k, o, d, h, _ => by simp at h
 | o0 :: l, h, k, o, d, hk, hd => by
  simp only [dstsOk, Bool.and_eq_true] at h
  cases k with
  | zero =>
   simp at hk; subst hk
   have := h.1
   rw [hd] at this
   exact blt_lt.1 this
  | succ k => exact dstsOk_get h.2 k o d (by simpa using hk) hd
theorem all_listed {ops : Array Oper} {ms : Tr Nat} (hM : MOk ops ms) {listed : Array Bool} (hs : listed.size = ops.size) (h : Region.ready .any ops listed = []) : ∀ i, i < ops.size -> listed.getD i false = true := by
 intro i
 induction i using Nat.strongRecOn with
 | _ i ih =>
  intro hi
  cases hx : listed.getD i false with
  | true => rfl
  | false =>
   have hil : i < listed.size := by omega
   have : i ∈ Region.ready .any ops listed := mem_ready.2 ⟨by simp [hil] at hx ⊢; exact hx, ops[i], by simp [hi], fun e he hb => by
    have hlt := hM.lt i ops[i] (by simp [hi]) e he hb
    exact ih e.on hlt (by omega)⟩
   rw [h] at this; cases this
theorem none_ready {ops : Array Oper} {listed : Array Bool} (hs : listed.size = ops.size) (h : listed.toList.count false = 0) : Region.ready .any ops listed = [] := by
 cases hr : Region.ready .any ops listed with
 | nil => rfl
 | cons i l =>
  have hi : i ∈ Region.ready .any ops listed := by rw [hr]; simp
  obtain ⟨hun, o, ho, _⟩ := mem_ready.1 hi
  have hlt : i < listed.size := by rw [hs]; exact (Array.getElem?_eq_some_iff.1 ho).1
  simp [hlt] at hun
  have h0 : false ∉ listed.toList := List.count_eq_zero.1 h
  exact absurd (by rw [<- hun]; simp) h0
section
variable {P : Program} {T : Tab} (hT : TSnd P T) {rec : Rec} (hR : Snd P rec)
include hT hR
theorem draw_all {D : DI} {ls : List Lay} {fs : List EffR} {vals : Tr AV} {aid own : Tr Nat} (hD : DCert T rec D ls fs vals aid own) {β0 : Env} {B : Gd} (n : Nat) (r : Option Nat) (Q : Exit -> Act -> World -> Prop)
  (hQ : ∀ listed a W j L β, (∀ i, i < D.ops.size -> listed.getD i false = true) -> DInv D ls vals aid β0 B listed a W j L β -> Q .normal a W) :
  ∀ (fuel : Nat) (listed : Array Bool) (a : Act) (W : World) (j : Nat) (L : Lay) (β : Env), listed.toList.count false <= fuel -> DInv D ls vals aid β0 B listed a W j L β -> wpAnyIn (FW r) n P .any D.ops Q fuel listed a W := by
 intro fuel
 induction fuel with
 | zero =>
  intro listed a W j L β hc hI
  have hr := none_ready hI.size (Nat.le_zero.1 hc)
  exact ⟨hr, hQ listed a W j L β (all_listed hD.m hI.size hr) hI⟩
 | succ fuel ih =>
  intro listed a W j L β hc hI
  refine ⟨fun hr => hQ listed a W j L β (all_listed hD.m hI.size hr) hI, fun i hi => ?_⟩
  refine draw_step hT hR hD hI hi n r Q _ fun a' W' j' L' β' hI' => ih _ a' W' j' L' β' ?_ hI'
  obtain ⟨hun, o, ho, _⟩ := mem_ready.1 hi
  have hlt : i < listed.size := by rw [hI.size]; exact (Array.getElem?_eq_some_iff.1 ho).1
  have hx : listed[i] = false := by simpa [hlt] using hun
  have hpos : 0 < listed.toList.count false := List.count_pos_iff.2 (by rw [<- hx]; simp)
  rw [Array.toList_setIfInBounds, List.count_set (by simpa using hlt)]
  simp [hx]
  simp at hc hpos
  omega
theorem cert_rel {D : DI} {ls : List Lay} {fs : List EffR} {vals : Tr AV} {aid own : Tr Nat} (hD : DCert T rec D ls fs vals aid own) {ops : Array Oper} {s : AS} {L : Lay} (eops : D.ops = ops) (es0 : D.s0 = s) (hL : lastLay ls = some L) {L0 : Lay} {ls' : List Lay} (hls : ls = L0 :: ls') (hh0 : L0.h0 = s.heap) (hn0 : L0.n0 = s.hs)
  {β : Env} {B : Gd} {a : Act} {W : World} (hs : SR β B s a W) (id n : Nat) (r : Option Nat) (Q : Exit -> Act -> World -> Prop)
  (hQ : ∀ β' a' W', Env.on β β' s.hs (lN L) -> SR β' B { s with tmps := putsD vals ops.toList 0 s.tmps, heap := lH L, hs := lN L } a' W' -> Q .normal a' W') : (Code.region id ops true).wpIn (FW r) n P Q a W := by
 have hlen := Runs.length hT hR hD
 rw [<- eops]
 refine wpIn_region_any hT.mixed ?_
 have hI0 : DInv D ls vals aid β B (Array.replicate D.ops.size false) a { W with drawn := W.drawn + 1 } 0 L0 β := by
  have hfls : ∀ i, (Array.replicate D.ops.size false).getD i false = false := by
   intro i
   by_cases hi : i < D.ops.size <;> simp [hi]
  have hle : L0.n0 <= lN L0 := pushes_le _ _ _
  refine ⟨by rw [hls]; rfl, ⟨Env.le.refl _, fun _ _ => rfl, ?_⟩, ?_, by simp, ?_, ?_, ?_, ?_, ?_, ?_, by rw [es0]; exact hs.f.gl⟩
  ·rw [es0]; omega
  ·have := hs.w.drew (W.drawn + 1)
   rw [<- hh0, <- hn0] at this
   exact this.pushes
  ·intro i o hi; rw [hfls] at hi; cases hi
  ·intro k e he; rw [hfls]; simp
  ·rw [es0]; exact hs.f.size
  ·intro t ht
   rw [es0] at ht
   have : tmL D.wt D.s0 vals (fun i => (Array.replicate D.ops.size false).getD i false) t = D.s0.tmps.get .any t := by
    unfold tmL
    split
    ·rfl
    ·simp only [hfls]; simp
   rw [this, es0]
   exact hs.f.get t ht
  ·rw [es0]; exact hs.d
  ·intro i o id2 ho hid _
   have := chkIds_get (aid_spec hD ho hid).2.1 0 L0 (by rw [hls]; rfl) (Nat.zero_le _)
   exact hs.w.dom id2 (by omega)
 refine draw_all hT hR hD n r Q ?_ _ _ _ _ _ _ _ ?_ hI0
 ·intro listed a' W' j Lj β' hall hI
  have hj : j = D.es.length := by
   have h1 := (List.getElem?_eq_some_iff.1 hI.lay).1
   rcases Nat.lt_or_ge j D.es.length with hlt | hge
   ·have h3 : D.es[j]? = some (D.es[j]'hlt) := by simp
    obtain ⟨_, o', _, _, _, _, ho', _⟩ := hD.eff j _ h3
    have := (hI.es j _ h3).1 (hall _ (Array.getElem?_eq_some_iff.1 ho').1)
    omega
   ·omega
  have hLj : Lj = L := by
   have h1 := lastLay_of hL
   have h2 := hI.lay
   rw [hj] at h2
   rw [hlen.1, Nat.add_sub_cancel, h2] at h1
   exact Option.some.inj h1
  subst hLj
  have hon := hI.on
  rw [es0] at hon
  refine hQ β' a' W' (by simpa using hon) ⟨hI.w, ⟨by rw [hI.tsz, es0], fun t ht => ?_, by have := hI.gl; rw [es0] at this; exact this⟩, ?_⟩
  ·have htm := hI.tm t (by rw [es0]; exact ht)
   have : (putsD vals ops.toList 0 s.tmps).get .any t = tmL D.wt D.s0 vals (fun i => listed.getD i false) t := by
    unfold tmL
    split
    ·rename_i h0
     rw [putsD_other, es0]
     intro k o hk hd
     have := hD.w.to k o t (by rw [eops]; simpa using hk) hd
     omega
    ·rename_i w hw
     obtain ⟨o0, ho0, hd0⟩ := hD.w.of t w hw
     rw [if_pos (hall w (Array.getElem?_eq_some_iff.1 ho0).1)]
     rw [putsD_at vals t ops.toList 0 s.tmps w o0 (by rw [eops] at ho0; simpa using ho0) hd0 fun k o hk hd => ?_, Nat.zero_add]
     have := hD.w.to k o t (by rw [eops]; simpa using hk) hd
     omega
   simp only
   rw [this]
   exact htm
  ·have := hI.defs
   rw [es0] at this
   exact this
 ·simp
theorem evDraw_rel {ops : Array Oper} {s s' : AS} {x : AX} (h : evDraw T rec ops s = some (x, s')) {β : Env} {B : Gd} {a : Act} {W : World} (hs : SR β B s a W) (id n : Nat) (r : Option Nat) (Q : Exit -> Act -> World -> Prop)
  (hQ : ∀ β' a' W', Env.on β β' s.hs s'.hs -> SR β' B s' a' W' -> s'.nt = s.nt -> Q (XR x) a' W') : (Code.region id ops true).wpIn (FW r) n P Q a W := by
 unfold evDraw at h
 split at h
 ·rename_i ms wt hms hwt
  simp only at h
  split at h
  ·rename_i ls fs vals aid hgo
   generalize hown : ownOf ops.size 0 aid .lf = own at h
   generalize hDd : (DI.mk ops ms wt (effIdx ops.toList 0) s) = D at h hgo
   split at h
   case h_2 => cases hb : (chain ms (effIdx ops.toList 0) && dstsOk s.nt ops.toList && chkEff D vals aid fs (effIdx ops.toList 0) && chkAll T D ls vals aid own ops.toList 0) <;> (rw [hb] at h; cases h)
   rename_i L hL
   cases hb : (chain ms (effIdx ops.toList 0) && dstsOk s.nt ops.toList && chkEff D vals aid fs (effIdx ops.toList 0) && chkAll T D ls vals aid own ops.toList 0) with
   | false => rw [hb] at h; cases h
   | true =>
    rw [hb, cond_true] at h
    cases h
    simp only [Bool.and_eq_true] at hb
    obtain ⟨⟨⟨b1, b2⟩, b3⟩, b4⟩ := hb
    obtain ⟨hruns, L0, ls', hls, hh0, hn0⟩ := drawGo_runs _ _ _ _ _ _ _ _ _ _ hgo
    have eops : D.ops = ops := by rw [<- hDd]
    have ems : D.ms = ms := by rw [<- hDd]
    have ewt : D.wt = wt := by rw [<- hDd]
    have ees : D.es = effIdx ops.toList 0 := by rw [<- hDd]
    have es0 : D.s0 = s := by rw [<- hDd]
    rw [<- ees] at hruns b1 b3
    rw [<- eops] at b2 b4
    have hD : DCert T rec D ls fs vals aid own := by
     refine ⟨?_, ?_, hruns, ?_, fun k e hk => chkEff_get b3 k e hk, certAll b4, ⟨L0, by rw [hls]; rfl, by rw [es0]; exact hh0, by rw [es0]; exact hn0⟩, ?_⟩
     ·rw [eops, ems]; exact masks_ok hms
     ·rw [eops, ewt]; exact writers_ok hwt
     ·rw [ems]; exact b1
     ·intro i o d ho hd
      rw [es0]
      exact dstsOk_get b2 i o d (by simpa using ho) hd
    refine cert_rel hT hR hD eops es0 hL hls hh0 hn0 hs id n r Q fun β' a' W' hon hsr => hQ β' a' W' hon hsr rfl
  ·cases h
 ·cases h
omit hT hR in
theorem lays_get {l : List (Tr AO × Nat)} {k : Nat} {h : Tr AO × Nat} (hk : l[k]? = some h) : (lays l)[k]? = some ⟨h.1, h.2, []⟩ := by
 simp [lays, hk]
theorem jrun_runs {D : DI} : ∀ (l : List Oper) (i : Nat) (q q' : JS), jrun T rec D l i q = some q' -> (∀ k o, l[k]? = some o -> D.ops[i + k]? = some o) ->
  ∀ (pre : List (Tr AO × Nat)), q.hps = pre ++ [(q.H, q.hs)] -> ∃ (hl : List (Tr AO × Nat)) (fl : List EffR), q'.hps = pre ++ hl /\ q'.fs = q.fs ++ fl /\ Runs T rec D (effIdx l i) (lays hl) fl /\ hl[0]? = some (q.H, q.hs) /\ hl.getLast? = some (q'.H, q'.hs)
 | [], i, q, q', h, _, pre, hp => by
  simp only [jrun, Option.some.injEq] at h
  subst h
  exact ⟨[(q.H, q.hs)], [], hp, by simp, .nil _, rfl, rfl⟩
 | o :: l, i, q, q', h, hat, pre, hp => by
  simp only [jrun] at h
  split at h
  ·rename_i q1 hq1
   have ho : D.ops[i]? = some o := by simpa using hat 0 o rfl
   have hat' : ∀ k o', l[k]? = some o' -> D.ops[i + 1 + k]? = some o' := fun k o' hk => by
    have := hat (k + 1) o' (by simpa using hk)
    rw [show i + 1 + k = i + (k + 1) from by omega]; exact this
   unfold jstep at hq1
   split at hq1
   ·cases hq1
   ·rename_i rv hrv
    have eff : ∀ {b : Bool} {r : Option (AV × Tr AO × Nat)}, cls o.op = 3 -> wantd (stOf D rv q.H q.hs) D.ops o = some b -> (b = false -> r = some (udef, q.H, q.hs)) -> (b = true -> r = actOp T rec (stOf D rv q.H q.hs) o.op) -> jeff q i rv r = some q1 ->
      ∃ (hl : List (Tr AO × Nat)) (fl : List EffR), q'.hps = pre ++ hl /\ q'.fs = q.fs ++ fl /\ Runs T rec D (effIdx (o :: l) i) (lays hl) fl /\ hl[0]? = some (q.H, q.hs) /\ hl.getLast? = some (q'.H, q'.hs) := by
     intro b r hc hw hbf hbt hj
     unfold jeff at hj
     split at hj
     ·rename_i v H1 hs1
      cases hj
      obtain ⟨hl, fl, e1, e2, e3, e4, e5⟩ := jrun_runs l (i + 1) _ q' h hat' (pre ++ [(q.H, q.hs)]) (by simp only; rw [hp])
      cases hl with
      | nil => simp at e4
      | cons h0 hl =>
       simp at e4
       subst e4
       refine ⟨(q.H, q.hs) :: (H1, hs1) :: hl, ⟨i, rv, v⟩ :: fl, by rw [e1]; simp, by rw [e2]; simp, ?_, rfl, ?_⟩
       ·have hei : effIdx (o :: l) i = i :: effIdx l (i + 1) := by simp only [effIdx, hc]; rfl
        rw [hei]
        cases b with
        | false =>
         have := hbf rfl
         simp only [Option.some.injEq, Prod.mk.injEq] at this
         obtain ⟨rfl, rfl, rfl⟩ := this
         exact Runs.skip i o rv _ ⟨q.H, q.hs, []⟩ ⟨q.H, q.hs, []⟩ _ fl ho hw rfl rfl e3
        | true =>
         exact Runs.act i o rv v _ ⟨q.H, q.hs, []⟩ ⟨H1, hs1, []⟩ _ fl ho hw (hbt rfl).symm e3
       ·simpa using e5
     ·cases hj
    have non : ∀ {r : Option AV}, cls o.op ≠ 3 -> jput q i r = some q1 ->
      ∃ (hl : List (Tr AO × Nat)) (fl : List EffR), q'.hps = pre ++ hl /\ q'.fs = q.fs ++ fl /\ Runs T rec D (effIdx (o :: l) i) (lays hl) fl /\ hl[0]? = some (q.H, q.hs) /\ hl.getLast? = some (q'.H, q'.hs) := by
     intro r hc hj
     unfold jput at hj
     split at hj
     ·cases hj
      have hei : effIdx (o :: l) i = effIdx l (i + 1) := by
       simp only [effIdx]
       rw [beq_if, if_neg hc]
      rw [hei]
      exact jrun_runs l (i + 1) _ q' h hat' pre hp
     ·cases hj
    cases hw : wantd (stOf D rv q.H q.hs) D.ops o with
    | none => rw [hw] at hq1; cases hq1
    | some b =>
     rw [hw] at hq1
     cases b with
     | false =>
      simp only [jgo] at hq1
      rw [beq_if] at hq1
      split at hq1
      ·rename_i hc; exact eff hc hw (fun _ => rfl) (fun h => by cases h) hq1
      ·rename_i hc; exact non hc hq1
     | true =>
      simp only [jgo] at hq1
      rw [beq_if] at hq1
      split at hq1
      ·rename_i hc; exact eff hc hw (fun h => by cases h) (fun _ => rfl) hq1
      ·rename_i hc; exact non hc hq1
  ·cases h
omit hT hR in
theorem lastLay_lays : ∀ {l : List (Tr AO × Nat)} {h : Tr AO × Nat}, l.getLast? = some h -> lastLay (lays l) = some ⟨h.1, h.2, []⟩
 | [], h, hl => by simp at hl
 | [a], h, hl => by simp at hl; subst hl; rfl
 | a :: b :: l, h, hl => by
  have := lastLay_lays (l := b :: l) (h := h) (by simpa using hl)
  simpa [lays, lastLay] using this
theorem evDrawJ_rel {ops : Array Oper} {s s' : AS} {x : AX} (h : evDrawJ T rec ops s = some (x, s')) {β : Env} {B : Gd} {a : Act} {W : World} (hs : SR β B s a W) (id n : Nat) (r : Option Nat) (Q : Exit -> Act -> World -> Prop)
  (hQ : ∀ β' a' W', Env.on β β' s.hs s'.hs -> SR β' B s' a' W' -> s'.nt = s.nt -> Q (XR x) a' W') : (Code.region id ops true).wpIn (FW r) n P Q a W := by
 unfold evDrawJ at h
 split at h
 ·rename_i ms wt hms hwt
  split at h
  ·rename_i q hq
   cases hb : (chain ms (effIdx ops.toList 0) && dstsOk s.nt ops.toList && chkEff ⟨ops, ms, wt, effIdx ops.toList 0, s⟩ q.vals .lf q.fs (effIdx ops.toList 0) && chkAll T ⟨ops, ms, wt, effIdx ops.toList 0, s⟩ (lays q.hps) q.vals .lf .lf ops.toList 0) with
   | false => rw [hb] at h; cases h
   | true =>
    rw [hb, cond_true] at h
    cases h
    simp only [Bool.and_eq_true] at hb
    obtain ⟨⟨⟨b1, b2⟩, b3⟩, b4⟩ := hb
    obtain ⟨hl, fl, e1, e2, e3, e4, e5⟩ := jrun_runs hT hR ops.toList 0 _ q hq (fun k o hk => by simpa using hk) [] rfl
    simp only [List.nil_append] at e1 e2
    subst e2
    rw [e1] at b4
    have hD : DCert T rec ⟨ops, ms, wt, effIdx ops.toList 0, s⟩ (lays hl) q.fs q.vals .lf .lf := by
     refine ⟨masks_ok hms, writers_ok hwt, e3, b1, fun k e hk => chkEff_get b3 k e hk, certAll b4, ⟨_, lays_get e4, rfl, rfl⟩, fun i o d ho hd => dstsOk_get b2 i o d (by simpa using ho) hd⟩
    have hls : ∃ ls', lays hl = ⟨s.heap, s.hs, []⟩ :: ls' := by
     cases hl with
     | nil => simp at e4
     | cons h0 hl => simp at e4; subst e4; exact ⟨_, rfl⟩
    obtain ⟨ls', hls⟩ := hls
    exact cert_rel hT hR hD (L := ⟨q.H, q.hs, []⟩) rfl rfl (lastLay_lays e5) hls rfl rfl hs id n r Q fun β' a' W' hon hsr => hQ β' a' W' hon hsr rfl
  ·cases h
 ·cases h
end
theorem opds_congr {s1 s2 : AS} : ∀ {l : List Operand}, (∀ x ∈ l, opd s1 x = opd s2 x) -> opds s1 l = opds s2 l
 | [], _ => rfl
 | x :: l, h => by
  simp only [opds]
  rw [h x (by simp), opds_congr (l := l) fun y hy => h y (by simp [hy])]
theorem opdParts_congr {s1 s2 : AS} : ∀ {l : List (Nat × Operand)}, (∀ x ∈ l.map (·.2), opd s1 x = opd s2 x) -> opdParts s1 l = opdParts s2 l
 | [], _ => rfl
 | (i, x) :: l, h => by
  simp only [opdParts]
  rw [h x (by simp), opdParts_congr (l := l) fun y hy => h y (by simp at hy ⊢; exact .inr hy)]
theorem bnd_congr {s1 s2 : AS} {x : Option Operand} {d : Nat} (h : ∀ y ∈ x.toList, opd s1 y = opd s2 y) : bnd s1 x d = bnd s2 x d := by
 cases x with
 | none => rfl
 | some y => simp only [bnd]; rw [h y (by simp)]
section
variable {T : Tab} {s1 s2 : AS}
theorem mxb_congr {hi mx : Option Operand} (h : ∀ y ∈ mx.toList, opd s1 y = opd s2 y) : mxb s1 hi mx = mxb s2 hi mx := by
 cases mx with
 | none => cases hi <;> rfl
 | some m => cases hi with
  | none => rfl
  | some k => simp only [mxb]; rw [bnd_congr (x := some m) h]
theorem pureOp_congr {op : Op} (h : ∀ x ∈ op.operands.toList, opd s1 x = opd s2 x) : pureOp T s1 op = pureOp T s2 op := by
 cases op with
 | build t ps =>
  simp only [pureOp]
  rw [opdParts_congr (s1 := s1) (s2 := s2) (by simpa [Op.operands] using h)]
 | makeFunc f a b =>
  simp only [Op.operands, Array.toList_append, List.mem_append] at h
  simp only [pureOp]
  rw [opds_congr (l := a.toList) fun x hx => h x (.inl hx), opds_congr (l := b.toList) fun x hx => h x (.inr hx)]
 | slice t x lo hi mx =>
  simp only [Op.operands, Array.toList_append, List.mem_append] at h
  simp only [pureOp]
  rw [h x (.inl (.inl (.inl (by simp))))]
  have e1 : ∀ d, bnd s1 lo d = bnd s2 lo d := fun d => bnd_congr fun y hy => h y (.inl (.inl (.inr (by cases lo <;> simpa using hy))))
  have e2 : ∀ d, bnd s1 hi d = bnd s2 hi d := fun d => bnd_congr fun y hy => h y (.inl (.inr (by cases hi <;> simpa using hy)))
  have e3 : mxb s1 hi mx = mxb s2 hi mx := mxb_congr fun y hy => h y (.inr (by cases mx <;> simpa using hy))
  simp only [e1, e2, e3]
 | call c =>
  obtain ⟨callee, args, tys⟩ := c
  cases callee with
  | builtin b =>
   have h' : ∀ x ∈ args.toList, opd s1 x = opd s2 x := fun x hx => h x (by simp [Op.operands, Call.operands]; simpa using hx)
   simp only [pureOp]
   cases b <;> first | rfl | skip
   all_goals (
    cases ha : args.toList with
    | nil => rfl
    | cons x l =>
     cases l with
     | nil => first | rfl | (rw [ha] at h'; have e := h' x (by simp); rcases tys.toList with _ | ⟨t, _ | ⟨u, l⟩⟩ <;> first | rfl | (simp only [e]; done))
     | cons y l =>
      cases l with
      | nil => first | rfl | (rw [ha] at h'; have e1 := h' x (by simp); have e2 := h' y (by simp); rcases tys.toList with _ | ⟨t, _ | ⟨u, _ | ⟨v, l⟩⟩⟩ <;> first | rfl | (simp only [e1, e2]; done))
      | cons z l => rfl)
  | _ => rfl
 | _ => first | rfl | (simp only [pureOp]; simp [Op.operands] at h; simp only [h])
theorem readOp_congr {op : Op} (h : ∀ x ∈ op.operands.toList, opd s1 x = opd s2 x) (H : Tr AO) : readOp T s1 H op = readOp T s2 H op := by
 cases op with
 | call c =>
  obtain ⟨callee, args, tys⟩ := c
  cases callee with
  | builtin b =>
   have h' : ∀ x ∈ args.toList, opd s1 x = opd s2 x := fun x hx => h x (by simp [Op.operands, Call.operands]; simpa using hx)
   simp only [readOp]
   cases b <;> first | rfl | skip
   all_goals (
    cases ha : args.toList with
    | nil => rfl
    | cons x l =>
     cases l with
     | nil => rw [ha] at h'; have e := h' x (by simp); rcases tys.toList with _ | ⟨t, _ | ⟨u, l⟩⟩ <;> first | rfl | (simp only [e]; done)
     | cons y l => rfl)
  | _ => rfl
 | _ => first | rfl | (simp only [readOp]; simp [Op.operands] at h; simp only [h])
theorem newOp_congr {op : Op} (h : ∀ x ∈ op.operands.toList, opd s1 x = opd s2 x) (hm : s1.md = s2.md) (id : Nat) : newOp T s1 id op = newOp T s2 id op := by
 cases op with
 | buildSlice t n ps =>
  simp only [newOp]
  rw [opdParts_congr (s1 := s1) (s2 := s2) (by simpa [Op.operands] using h), hm]
 | makeMap t r => cases r <;> rfl
 | _ => first | rfl | (simp only [newOp]; simp [Op.operands] at h; simp only [h, hm])
theorem nonEff_congr {op : Op} (h : ∀ x ∈ op.operands.toList, opd s1 x = opd s2 x) (hm : s1.md = s2.md) (H : Tr AO) : nonEff T s1 H op = nonEff T s2 H op := by
 unfold nonEff prOp
 rw [newOp_congr h hm, pureOp_congr h, readOp_congr h]
theorem effOp_congr {op : Op} (h : ∀ x ∈ op.operands.toList, opd s1 x = opd s2 x) (hm : s1.md = s2.md) (hh : s1.heap = s2.heap) (hs : s1.hs = s2.hs) : effOp T s1 op = effOp T s2 op := by
 cases op with
 | call c =>
  obtain ⟨callee, args, tys⟩ := c
  cases callee with
  | builtin b =>
   have h' : ∀ x ∈ args.toList, opd s1 x = opd s2 x := fun x hx => h x (by simp [Op.operands, Call.operands]; simpa using hx)
   simp only [effOp]
   cases b <;> first | rfl | skip
   all_goals (
    cases ha : args.toList with
    | nil => rfl
    | cons x l =>
     cases l with
     | nil => first | rfl | (rw [ha] at h'; have e1 := h' x (by simp); rcases tys.toList with _ | ⟨t, l⟩ <;> first | rfl | (simp only [e1, hh, hs]; done))
     | cons y l =>
      cases l with
      | nil => first | rfl | (rw [ha] at h'; have e1 := h' x (by simp); have e2 := h' y (by simp); rcases tys.toList with _ | ⟨t, _ | ⟨u, _ | ⟨v, l⟩⟩⟩ <;> first | rfl | (simp only [e1, e2, hh, hs, hm]; done))
      | cons z l => rfl)
  | _ => rfl
 | _ => first | rfl | (simp only [effOp]; simp [Op.operands] at h; simp only [h, hm, hh, hs])
theorem actOp_congr {rec : Rec} {op : Op} (h : ∀ x ∈ op.operands.toList, opd s1 x = opd s2 x) (hm : s1.md = s2.md) (hh : s1.heap = s2.heap) (hs : s1.hs = s2.hs) : actOp T rec s1 op = actOp T rec s2 op := by
 have he := effOp_congr (T := T) h hm hh hs
 unfold actOp
 cases op with
 | call c =>
  obtain ⟨callee, args, tys⟩ := c
  cases callee with
  | value f =>
   simp only [Op.operands, Call.operands, Array.toList_append, List.mem_append] at h
   simp only
   rw [h f (.inl (by simp)), opds_congr (l := args.toList) fun x hx => h x (.inr hx), hm, hh, hs]
  | _ => exact he
 | _ => exact he
end
end Go.Proofs.YtcledcfeddlomaaGreatDoor.Ev
