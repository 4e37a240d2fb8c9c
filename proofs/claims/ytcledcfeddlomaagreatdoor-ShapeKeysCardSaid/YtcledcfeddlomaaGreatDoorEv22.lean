import Derived.Test.YtcledcfeddlomaaGreatDoorEvZ2
import Derived.RangeFuncNested
set_option linter.all false
namespace Go.Proofs.YtcledcfeddlomaaGreatDoor.Ev
open Go.RowKit Go.Builtin
theorem putL_get (l : List AV) : ∀ (t : Tr AV) (i j : Nat), (putL t i l).get .any j = if h : i <= j /\ j < i + l.length then l[j - i]'(by omega) else t.get .any j := by
 induction l with
 | nil => intro t i j; have hh : ¬ (i <= j /\ j < i + ([] : List AV).length) := (by rw [List.length_nil]; omega); rw [dif_neg hh]; rfl
 | cons a l ih =>
  intro t i j
  simp only [putL, ih, Tr.get_put, List.length_cons]
  by_cases h : j = i
  ·subst h
   rw [dif_neg (by omega), if_pos rfl, dif_pos (by omega)]
   simp
  ·by_cases h2 : i + 1 <= j /\ j < i + 1 + l.length
   ·rw [dif_pos h2, dif_pos (by omega)]
    have : j - i = (j - (i + 1)) + 1 := by omega
    simp only [this, List.getElem_cons_succ]
   ·rw [dif_neg h2, if_neg h, dif_neg (by omega)]
theorem enter_rel {β : Env} {args : List AV} {xs : List Value} (h : VRs β args xs) (n : Nat) (H : Tr AO) (hs : Nat) (lm : Md) (hgl : GlOk β lm.gl) :
  FR β ⟨putL .lf 0 args, max args.length n, H, hs, [], lm⟩ { tmps := xs.toArray ++ Array.replicate (n - xs.toArray.size) undef, defers := [] } := by
 have hl := h.length
 refine ⟨by simp; omega, fun i hi => ?_, hgl⟩
 simp only at hi
 rw [putL_get]
 by_cases hlt : i < args.length
 ·rw [dif_pos (by omega)]
  obtain ⟨v, hv, hr⟩ := h.get i args[i] (by simp [hlt])
  have : ({ tmps := xs.toArray ++ Array.replicate (n - xs.toArray.size) undef, defers := [] } : Act).tmps.getD i undef = v := by
   simp only [Array.getD_eq_getD_getElem?]
   rw [Array.getElem?_append_left (by simp; omega)]
   simp [hv]
  rw [this]
  simpa using hr
 ·rw [dif_neg (by omega)]
  have : ({ tmps := xs.toArray ++ Array.replicate (n - xs.toArray.size) undef, defers := [] } : Act).tmps.getD i undef = undef := by
   simp only [Array.getD_eq_getD_getElem?]
   rw [Array.getElem?_append_right (by simp; omega)]
   simp [Array.getElem?_replicate]
   split <;> rfl
  rw [this]
  exact VR.any _
theorem shut_rel {P : Program} {fn : Func} {tmps : Array Value} {R : Ending -> World -> Prop} {n : Nat} {B : Gd} {hs : Nat} {β : Env} : ∀ {l : List Nat} {ds : List Deferred} {H H' : Tr AO} {W : World}, DR β l ds -> shut H l = some H' -> WR β B H hs W ->
  (∀ W', WR β B H' hs W' -> ∃ v, (results fn tmps).run P W' = .ok v W' /\ R (.returned v) W') -> LeavesInM (FW none) n P fn tmps R ds .returning W
 | [], _, H, H', W, .nil, h, hw, k => by
  simp only [shut, Option.some.injEq] at h; subst h
  exact k W hw
 | o :: l, _, H, H', W, .cons _ kb _ ds hk t, h, hw, k => by
  simp only [shut] at h
  split at h
  ·rename_i hg
   have ho := hw.obj o kb hk
   rw [hg] at ho
   obtain ⟨o1, o2⟩ := ho
   have hu := Upd.putObj W kb.blk (.deferred none)
   have hw2 : WR β B (H.put .dead o (.defd false)) hs (W.putObj kb.blk (.deferred none)) := by
    refine hw.write hk _ (by rw [hg]; rfl) (by rw [hg]; rfl) (hu.below o2) hu.size hu.oth ?_ (fun _ => by rw [hg]; rfl)
    rw [World.putObj_heap_same (hw.blk o kb hk)]
    exact ⟨rfl, o2⟩
   exact ⟨by simp, .inl ⟨kb.blk, _, rfl, run_takeDeferred (by simpa using o1), shut_rel t h hw2 k⟩⟩
  ·cases h
section
variable {P : Program} {T : Tab} (hT : TSnd P T) {rec : Rec} (hR : Snd P rec)
include hT hR
theorem bodyF_rel {f : Nat} {fi : FI} (hfi : T.f f = some fi) {m : Md} {args : List AV} {H H' : Tr AO} {hs hs' : Nat} {v : AV} (h : bodyF rec T fi m args H hs = some (v, H', hs')) {β : Env} {B : Gd} {W : World} (hw : WR β B H hs W) (hgl : GlOk β m.gl) {xs : List Value} (hx : VRs β args xs) (n : Nat) :
  CallsIn (FW none) n P f xs.toArray W (EndR β B hs v H' hs') /\ ∃ fn c, P.funcs[f]? = some fn /\ fn.body = some c /\ fn.name ≠ "runtime.NumGoroutine" := by
 unfold bodyF at h
 obtain ⟨fn, f1, f2, f3, f4, f5⟩ := hT.fn f fi hfi
 refine ⟨callsIn_of_wp_marks f1 f2 trivial ?_, fn, _, f1, f2, f5⟩
 have hgl' : GlOk β (lmOf fi.lm m).gl := by rw [lmOf_gl]; exact hgl
 generalize hlm : lmOf fi.lm m = lm at h hgl'
 have hsr : SR β B ⟨putL .lf 0 args, max args.length fi.ntmps, H, hs, [], lm⟩ { tmps := xs.toArray ++ Array.replicate (fn.ntmps - xs.toArray.size) undef, defers := [] } W := by
  rw [f3]
  exact ⟨hw, enter_rel hx fi.ntmps H hs lm hgl', .nil⟩
 have fin : ∀ (s' : AS), (match shut s'.heap s'.defs with
  | some H' => match resOf T { s' with heap := H' } fi.results with
   | some l => some (one l, H', s'.hs)
   | none => none
  | none => none) = some (v, H', hs') -> ∀ β' a' W', Env.on β β' hs s'.hs -> SR β' B s' a' W' -> LeavesInM (FW none) n P fn a'.tmps (EndR β B hs v H' hs') a'.defers .returning W' := by
  intro s' h β' a' W' hon hs'
  split at h
  ·rename_i H2 hsh
   split at h
   ·rename_i l hres
    cases h
    refine shut_rel hs'.d hsh hs'.w fun W2 hw2 => ?_
    obtain ⟨v', q1, q2⟩ := results_rel hT.toTOk (s := { s' with heap := H' }) (fn := fn) hw2 hs'.f.size hs'.f.get (by rw [f4]; exact hres)
    exact ⟨v', q1, β', hon, hw2, q2⟩
   ·cases h
  ·cases h
 split at h
 ·rename_i s' hrec
  refine hR none _ _ _ _ hrec β B _ W n none trivial hsr _ fun β' a' W' hon hs2 _ => ?_
  exact fin s' h β' a' W' hon hs2
 ·rename_i s' hrec
  refine hR none _ _ _ _ hrec β B _ W n none trivial hsr _ fun β' a' W' hon hs2 _ => ?_
  exact fin s' h β' a' W' hon hs2
 ·cases h
omit hT hR in
theorem WR.alone {β : Env} {B : Gd} {H : Tr AO} {hs : Nat} {W : World} (h : WR β B H hs W) : WR ⟨fun _ => none, β.q, β.fz, β.fm⟩ ⟨W, fun k => k < W.heap.size, fun _ h => h, β.fz, β.fm⟩ .lf 0 W :=
 ⟨Keep.refl _ _, fun _ _ => rfl, fun o k hk => (by cases hk), fun o k hk => (by cases hk), fun o o' k k' _ hk => (by cases hk), h.fz, h.fm, fun o k hk => (by cases hk), fun _ _ _ _ h => h, fun _ _ _ h => h⟩
omit hT hR in
theorem WR.back {β β' : Env} {B : Gd} {H H' : Tr AO} {hs hs' : Nat} {W W' : World} (h : WR β B H hs W) (hw : WR β' ⟨W, fun k => k < W.heap.size, fun _ h => h, β.fz, β.fm⟩ H' hs' W') (hq : β'.q = β.q) (hfz : ∀ b o v, β.fz b o = some v -> β'.fz b o = some v) (hfm : ∀ r x, β.fm r = some x -> β'.fm r = some x) :
  WR ⟨β.b, β.q, β'.fz, β'.fm⟩ B H hs W' /\ β.le ⟨β.b, β.q, β'.fz, β'.fm⟩ := by
 have hle : β.le ⟨β.b, β.q, β'.fz, β'.fm⟩ := ⟨fun _ _ x => x, rfl, hfz, hfm⟩
 have hold : ∀ k, k < W.heap.size -> W'.heap[k]? = W.heap[k]? := fun k hk => hw.below.block k hk
 refine ⟨⟨⟨hw.below.os.trans h.below.os, hw.below.tape.trans h.below.tape, hw.below.output.trans h.below.output, Nat.le_trans h.below.size hw.below.size, fun k hk => ?_⟩, h.dom, fun o k hk => ?_, fun o k hk => ?_, h.inj, hw.fz, hw.fm, fun o k hk ho => ?_, fun b o v hb hv => ?_, fun b x hb hx => ?_⟩, hle⟩
 ·rw [hold k (Nat.lt_of_lt_of_le (B.lt k hk) h.below.size)]; exact h.below.block k hk
 ·rw [hold _ (h.blk o k hk)]; exact (h.obj o k hk).mono hle
 ·exact Nat.lt_of_lt_of_le (h.blk o k hk) hw.below.size
 ·obtain ⟨a1, a2⟩ := h.apart o k hk ho
  have hlt := h.blk o k hk
  refine ⟨fun off hoff => ?_, ?_⟩
  ·show β'.fz k.blk off = none
   cases hx : β'.fz k.blk off with
   | none => rfl
   | some v =>
    have := hw.gfz k.blk off v hlt hx
    have h2 := a1 off hoff
    have this : β.fz k.blk off = some v := this
    rw [h2] at this; cases this
  ·show β'.fm k.blk = none
   cases hx : β'.fm k.blk with
   | none => rfl
   | some v =>
    have this : β.fm k.blk = some v := hw.gfm k.blk v hlt hx
    rw [a2] at this; cases this
 ·have hlt := Nat.lt_of_lt_of_le (B.lt b hb) h.below.size
  exact h.gfz b o v hb (hw.gfz b o v hlt hv)
 ·have hlt := Nat.lt_of_lt_of_le (B.lt b hb) h.below.size
  exact h.gfm b x hb (hw.gfm b x hlt hx)
theorem isoF_rel {f : Nat} {fi : FI} (hfi : T.f f = some fi) {m : Md} {args : List AV} {v : AV} (h : isoF rec T fi m args = some v) {H : Tr AO} {hs : Nat} {β : Env} {B : Gd} {W : World} (hw : WR β B H hs W) (hgl : GlOk β m.gl) {xs : List Value} (hx0 : VRs ⟨fun _ => none, β.q, β.fz, β.fm⟩ args xs) (n : Nat) :
  CallsIn (FW none) n P f xs.toArray W (EndR β B hs v H hs) /\ ∃ fn c, P.funcs[f]? = some fn /\ fn.body = some c /\ fn.name ≠ "runtime.NumGoroutine" := by
 unfold isoF at h
 split at h
 ·rename_i v1 H1 hs1 hb
  split at h
  ·rename_i u H2 hf
   cases hbu : bare u with
   | false => rw [hbu] at h; cases h
   | true =>
    rw [hbu, cond_true] at h; cases h
    obtain ⟨g1, g2⟩ := bodyF_rel hT hR hfi hb hw.alone hgl hx0 n
    refine ⟨CallsIn.mono g1 fun e W' he => ?_, g2⟩
    cases e with
    | panicked c => exact he
    | outgrown => exact he
    | returned v' =>
     obtain ⟨β1, h1, h2, h3⟩ := he
     have key : ∃ β2, β1.le β2 /\ WR β2 ⟨W, fun k => k < W.heap.size, fun _ h => h, β.fz, β.fm⟩ H2 hs1 W' /\ VR β2 u v' := by
      unfold frzR at hf
      cases hbv : bare v1 with
      | true =>
       rw [hbv, cond_true] at hf; cases hf
       exact ⟨β1, Env.le.refl _, h2, h3⟩
      | false =>
       rw [hbv, cond_false] at hf
       split at hf
       ·obtain ⟨β2, a1, a2, a3, a4⟩ := frz_rel 300 _ _ _ _ _ hf β1 v' h2 h3
        exact ⟨β2, a1, a3, a4⟩
       ·split at hf
        ·split at hf
         ·rename_i us H3 hf3
          cases hf
          obtain ⟨y, rfl, hy⟩ := h3.of_tup
          obtain ⟨β2, a1, a2, a3, a4⟩ := frzL_rel (frz_rel 300) _ _ _ _ _ hf3 β1 _ h2 hy
          exact ⟨β2, a1, a3, .tup _ _ a4⟩
         ·cases hf
        ·cases hf
     obtain ⟨β2, k1, k2, k3⟩ := key
     have hle := h1.le.trans k1
     obtain ⟨b1, b2⟩ := hw.back k2 hle.q (fun b o v hv => hle.fz b o v hv) (fun r x hx => hle.fm r x hx)
     exact ⟨_, ⟨b2, fun _ _ => rfl, Nat.le_refl _⟩, b1, VR.nrm (β' := ⟨β.b, β.q, β2.fz, β2.fm⟩) ⟨hle.q.symm, fun _ _ _ h => h, fun _ _ h => h⟩ k3 hbu⟩
  ·cases h
 ·cases h
theorem isoX_rel {f : Nat} {fi : FI} (hfi : T.f f = some fi) {m : Md} {args : List AV} {v : AV} (h : isoX rec T fi m (nrms args) = some v) (ha : bares args = true) {H : Tr AO} {hs : Nat} {β : Env} {B : Gd} {W : World} (hw : WR β B H hs W) (hgl : GlOk β m.gl) {xs : List Value} (hx : VRs β args xs) (n : Nat) :
  CallsIn (FW none) n P f xs.toArray W (EndR β B hs v H hs) /\ ∃ fn c, P.funcs[f]? = some fn /\ fn.body = some c /\ fn.name ≠ "runtime.NumGoroutine" := by
 have hx0 : VRs ⟨fun _ => none, β.q, β.fz, β.fm⟩ (nrms args) xs := VRs.nrm (β := β) (β' := ⟨fun _ => none, β.q, β.fz, β.fm⟩) ⟨rfl, fun _ _ _ h => h, fun _ _ h => h⟩ hx ha
 generalize nrms args = as at h hx0
 unfold isoX at h
 split at h
 ·exact isoF_rel hT hR hfi h hw hgl hx0 n
 ·rename_i i hsp
  split at h
  ·rename_i tk hi
   split at h
   case h_2 => cases h
   rename_i u1 h1
   split at h
   ·rename_i u2 h2
    cases hs12 : sameV u1 u2 with
    | false => rw [hs12] at h; cases h
    | true =>
     rw [hs12, cond_true] at h; cases h
     have e12 := sameV_is hs12
     rw [<- e12] at h2
     obtain ⟨y, hy, hv⟩ := hx0.get i _ hi
     have hset : ∀ a, VR ⟨fun _ => none, β.q, β.fz, β.fm⟩ a y -> VRs ⟨fun _ => none, β.q, β.fz, β.fm⟩ (as.set i a) xs := by
      intro a ha
      have := hx0.set i ha
      have e : xs.set i y = xs := by
       apply List.ext_getElem?
       intro j
       rw [List.getElem?_set]
       split
       ·rename_i e; subst e; split <;> simp_all
       ·rfl
      rw [e] at this; exact this
     rcases hv.of_lst with ⟨_, rfl⟩ | ⟨_, ad, c, rfl, _⟩ | ⟨sz, vs, b, o, c, rfl, g1, g2, g3, g4, g5, g6⟩
     ·exact isoF_rel hT hR hfi h1 hw hgl (hset _ (.lit _)) n
     ·exact isoF_rel hT hR hfi h2 hw hgl (hset _ (.emp _ _)) n
     ·exact isoF_rel hT hR hfi h2 hw hgl (hset _ (.emp _ _)) n
   ·cases h
  ·exact isoF_rel hT hR hfi h hw hgl hx0 n
def fzOf' (W : World) (b o : Nat) : Option Value := match W.heap[b]? with
 | some (.cells arr _ _) => arr[o]?
 | _ => none
omit hT hR in
theorem WR.made {β : Env} {B : Gd} {H : Tr AO} {hs : Nat} {W W' : World} (h : WR β B H hs W) (hw : Keep (fun k => k < W.heap.size) W W') :
  ∃ fz', (∀ b o v, β.fz b o = some v -> fz' b o = some v) /\ WR ⟨β.b, β.q, fz', β.fm⟩ B H hs W' /\ ∀ b arr e f o v, W.heap.size <= b -> W'.heap[b]? = some (.cells arr e f) -> arr[o]? = some v -> fz' b o = some v := by
 refine ⟨fun b o => if b < W.heap.size then β.fz b o else fzOf' W' b o, fun b o v hv => ?_, ?_, fun b arr e f o v hb hc ho => ?_⟩
 ·show (if b < W.heap.size then β.fz b o else _) = _
  rw [if_pos (h.fz_lt hv)]; exact hv
 ·have hold : ∀ k, k < W.heap.size -> W'.heap[k]? = W.heap[k]? := fun k hk => hw.block k hk
  have hle : β.le ⟨β.b, β.q, fun b o => if b < W.heap.size then β.fz b o else fzOf' W' b o, β.fm⟩ := ⟨fun _ _ x => x, rfl, fun b o v hv => (by show (if b < W.heap.size then β.fz b o else _) = _; rw [if_pos (h.fz_lt hv)]; exact hv), fun _ _ h => h⟩
  refine ⟨⟨hw.os.trans h.below.os, hw.tape.trans h.below.tape, hw.output.trans h.below.output, Nat.le_trans h.below.size hw.size, fun k hk => ?_⟩, h.dom, fun o k hk => ?_, fun o k hk => ?_, h.inj, fun b o v hv => ?_, fun r x hx => ?_, fun o k hk ho => ?_, fun b o v hb hv => ?_, h.gfm⟩
  ·rw [hold k (Nat.lt_of_lt_of_le (B.lt k hk) h.below.size)]; exact h.below.block k hk
  ·rw [hold _ (h.blk o k hk)]; exact (h.obj o k hk).mono hle
  ·exact Nat.lt_of_lt_of_le (h.blk o k hk) hw.size
  ·have hv : (if b < W.heap.size then β.fz b o else fzOf' W' b o) = some v := hv
   by_cases hb : b < W.heap.size
   ·rw [if_pos hb] at hv
    rw [hold b hb]; exact h.fz b o v hv
   ·rw [if_neg hb] at hv
    unfold fzOf' at hv
    split at hv
    ·rename_i arr e f hc
     exact ⟨arr, e, f, hc, hv⟩
    ·cases hv
  ·rw [hold r (heap_lt (h.fm r x hx))]; exact h.fm r x hx
  ·obtain ⟨a1, a2⟩ := h.apart o k hk ho
   refine ⟨fun off hoff => ?_, a2⟩
   show (if k.blk < W.heap.size then β.fz k.blk off else _) = none
   rw [if_pos (h.blk o k hk)]; exact a1 off hoff
  ·have hlt := Nat.lt_of_lt_of_le (B.lt b hb) h.below.size
   have hv : (if b < W.heap.size then β.fz b o else fzOf' W' b o) = some v := hv
   rw [if_pos hlt] at hv
   exact h.gfz b o v hb hv
 ·show (if b < W.heap.size then β.fz b o else _) = _
  rw [if_neg (by omega)]
  unfold fzOf'
  rw [hc]; exact ho
omit hT hR in
theorem flat_any {β β' : Env} {a : AV} {v : Value} (h : VR β a v) (hf : flatC a = true) : VR β' (nrm a) v := by
 cases a with
 | lit u =>
  obtain rfl := h.of_lit
  unfold nrm
  split
  ·exact .lstN _
  ·exact .lit _
 | str l => obtain rfl := h.of_str; exact .str l
 | _ => cases hf
omit hT hR in
theorem flat_anys {β β' : Env} : ∀ {l : List AV} {x : List Value}, VRs β l x -> l.all flatC = true -> VRs β' (nrms l) x
 | _, _, .nil, _ => .nil
 | _, _, .cons a v l x h t, hf => by
  rw [List.all_cons, Bool.and_eq_true] at hf
  exact .cons _ _ _ _ (flat_any h hf.1) (flat_anys t hf.2)
omit hR in
theorem ownV_rel {β1 β3 : Env} {B1 : Gd} {H : Tr AO} {hs : Nat} {W' : World} (hw : WR β1 B1 H hs W') (hfz : ∀ b arr e f o v, ¬ B1.pr b -> W'.heap[b]? = some (.cells arr e f) -> arr[o]? = some v -> β3.fz b o = some v)
  {t : Nat} {v u : AV} {x : Value} (h : ownV T t v H = some u) (hv : VR β1 v x) : VR β3 u x := by
 unfold ownV at h
 split at h
 ·cases h; exact flat_any hv rfl
 ·cases h; obtain rfl := hv.of_str; exact .str _
 ·rename_i cs
  cases hc : cs.all flatC with
  | false => rw [hc] at h; cases h
  | true =>
   rw [hc, cond_true] at h; cases h
   obtain ⟨y, rfl, hy⟩ := hv.of_agg
   exact .agg _ _ (flat_anys hy hc)
 ·rename_i o off n cap
  split at h
  ·rename_i i hi
   split at h
   ·rename_i e hd
    split at h
    ·rename_i ei hei
     split at h
     ·rename_i c l hg hr
      cases hc : (Nat.blt 0 ei.size && capOk n cap && l.all flatC && (isAggD ei.desc || (Nat.beq ei.size 1 && (nrms l).all oneCell))) with
      | false => rw [hc] at h; cases h
      | true =>
       rw [hc, cond_true] at h; cases h
       simp only [Bool.and_eq_true, Bool.or_eq_true, blt_lt] at hc
       obtain ⟨k, cc, hk, rfl, hX, hO⟩ := hv.of_slc
       obtain ⟨arr, e2, f2, r1, r2, r3⟩ := rd_rel hw hr hk
       have ho := hw.obj o k hk
       rw [hg] at ho
       obtain ⟨arr2, e3, f3, o1, o2, o3, o4, ⟨o5, _⟩, o6⟩ := ho
       have hnp := o5 rfl
       have hnc : n <= cc := by
        cases cap with
        | ex m => obtain rfl := hX m rfl; exact ble_le.1 hc.1.1.2
        | op z => exact (hO z rfl).2.2
       have hlen := r3.length
       have hl : l.length = n * ei.size := by
        unfold rd at hr
        rw [hg] at hr
        simp only at hr
        cases hb : Nat.ble (off + n * ei.size) c.length with
        | false => rw [hb] at hr; cases hr
        | true =>
         rw [hb, cond_true] at hr; cases hr
         have := ble_le.1 hb
         rw [List.length_take, List.length_drop]; omega
       have hl' : (nrms l).length = n * ei.size := by rw [nrms_map, List.length_map, hl]
       have h4 : isAggD ei.desc = true ∨ (ei.size = 1 /\ (nrms l).all oneCell = true) := by
        exact hc.2.imp id fun ⟨a, b⟩ => ⟨Nat.eq_of_beq_eq_true a, b⟩
       have := VR.lst (β := β3) .no ei.size (chunk (isAggD ei.desc) ei.size n (nrms l)) _ k.blk (k.sh + off) cc (by rw [chunk_flat' hl' h4]; exact flat_anys r3 hc.1.2) (chunk_size n _ hl' h4) hc.1.1.1 (fun i v hi => ?_) (by rw [chunk_length]; exact hnc) trivial
       ·rw [chunk_length] at this; exact this
       ·rw [List.getElem?_take] at hi
        split at hi
        ·rw [List.getElem?_drop] at hi
         exact hfz _ _ _ _ _ _ hnp r1 (by simpa using hi)
        ·cases hi
     ·cases h
    ·cases h
   ·cases h
  ·cases h
 ·cases h
omit hR in
theorem ownL_rel {β1 β3 : Env} {B1 : Gd} {H : Tr AO} {hs : Nat} {W' : World} (hw : WR β1 B1 H hs W') (hfz : ∀ b arr e f o v, ¬ B1.pr b -> W'.heap[b]? = some (.cells arr e f) -> arr[o]? = some v -> β3.fz b o = some v) :
  ∀ {ts : List Nat} {vs us : List AV} {x : List Value}, ownL T H ts vs = some us -> VRs β1 vs x -> VRs β3 us x
 | [], [], us, x, h, hv => by simp only [ownL, Option.some.injEq] at h; subst h; cases hv; exact .nil
 | t :: ts, v :: vs, us, x, h, hv => by
  simp only [ownL] at h
  split at h
  ·rename_i u us2 h1 h2
   cases h
   cases hv with
   | cons _ y _ _ hy ht => exact .cons _ _ _ _ (ownV_rel hT hw hfz h1 hy) (ownL_rel hw hfz h2 ht)
  ·cases h
 | [], _ :: _, _, _, h, _ => by simp [ownL] at h
 | _ :: _, [], _, _, h, _ => by simp [ownL] at h
theorem isoO_rel {f : Nat} {fi : FI} (hfi : T.f f = some fi) {m : Md} {as : List AV} {v : AV} (h : isoO rec T fi m (nrms as) = some v) (ha : bares as = true) {H H1 : Tr AO} {hs : Nat} {β β2 : Env} {B : Gd} {W : World} (hw : WR β B H hs W) (hle : β.le β2) (hw2 : WR β2 B H1 hs W) (hgl : GlOk β m.gl) {xs : List Value} (hx : VRs β2 as xs) (n : Nat) :
  CallsIn (FW none) n P f xs.toArray W (EndR β B hs v H hs) /\ ∃ fn c, P.funcs[f]? = some fn /\ fn.body = some c /\ fn.name ≠ "runtime.NumGoroutine" := by
 unfold isoO at h
 split at h
 ·rename_i v1 H2 hs2 hb
  have hx0 : VRs ⟨fun _ => none, β2.q, β2.fz, β2.fm⟩ (nrms as) xs := VRs.nrm (β := β2) (β' := ⟨fun _ => none, β2.q, β2.fz, β2.fm⟩) ⟨rfl, fun _ _ _ h => h, fun _ _ h => h⟩ hx ha
  have hgl2 : GlOk ⟨fun _ => none, β2.q, β2.fz, β2.fm⟩ m.gl := hgl.mono hle
  obtain ⟨g1, g2⟩ := bodyF_rel hT hR hfi hb hw2.alone hgl2 hx0 n
  refine ⟨CallsIn.mono g1 fun e W' he => ?_, g2⟩
  cases e with
  | panicked c => exact he
  | outgrown => exact he
  | returned v' =>
   obtain ⟨β1, h1, h2, h3⟩ := he
   obtain ⟨fz', k1, k2, k3⟩ := hw.made h2.below
   refine ⟨⟨β.b, β.q, fz', β.fm⟩, ⟨⟨fun _ _ x => x, rfl, k1, fun _ _ x => x⟩, fun _ _ => rfl, Nat.le_refl _⟩, k2, ?_⟩
   have hfz : ∀ b arr e f o v, ¬ b < W.heap.size -> W'.heap[b]? = some (.cells arr e f) -> arr[o]? = some v -> fz' b o = some v := fun b arr e f o v hb => k3 b arr e f o v (by omega)
   unfold ownR at h
   split at h
   ·exact ownV_rel hT h2 hfz h h3
   ·split at h
    ·split at h
     ·rename_i us hu
      cases h
      obtain ⟨y, rfl, hy⟩ := h3.of_tup
      exact .tup _ _ (ownL_rel hT h2 hfz hu hy)
     ·cases h
    ·cases h
 ·cases h
theorem callF_rel {f : Nat} {m : Md} {args : List AV} {H H' : Tr AO} {hs hs' : Nat} {v : AV} (h : callF T rec m f args H hs = some (v, H', hs')) {β : Env} {B : Gd} {W : World} (hw : WR β B H hs W) (hgl : GlOk β m.gl) {xs : List Value} (hx : VRs β args xs) (n : Nat) :
  CallsIn (FW none) n P f xs.toArray W (EndR β B hs v H' hs') /\ ∃ fn c, P.funcs[f]? = some fn /\ fn.body = some c /\ fn.name ≠ "runtime.NumGoroutine" := by
 unfold callF at h
 split at h
 ·rename_i r hr
  cases h
  obtain ⟨h1, h2⟩ := hT.con _ _ _ _ _ _ _ hr
  exact ⟨h2 β B W hw xs hx n, h1⟩
 split at h
 ·cases h
 ·rename_i fi hfi
  have key : ∀ as H1, (bif bares args then some (args, H) else frzL (frz T 300) fi.pts args H) = some (as, H1) -> ∃ β2, β.le β2 /\ β2.b = β.b /\ WR β2 B H1 hs W /\ VRs β2 as xs := by
   intro as H1 has
   cases hba : bares args with
   | true =>
    rw [hba, cond_true] at has; cases has
    exact ⟨β, Env.le.refl _, rfl, hw, hx⟩
   | false =>
    rw [hba, cond_false] at has
    obtain ⟨β2, a1, a2, a3, a4⟩ := frzL_rel (frz_rel 300) _ _ _ _ _ has β _ hw hx
    exact ⟨β2, a1, a2, a3, a4⟩
  cases hiso : fi.iso with
  | false =>
   rw [hiso, cond_false] at h
   cases hown : fi.own with
   | false =>
    rw [hown, cond_false] at h
    exact bodyF_rel hT hR hfi h hw hgl hx n
   | true =>
    rw [hown, cond_true] at h
    split at h
    ·rename_i as H1 has
     cases hb : bares as with
     | false => rw [hb] at h; cases h
     | true =>
      rw [hb, cond_true] at h
      split at h
      ·rename_i v1 hv1
       cases h
       obtain ⟨β2, k1, k2, k3, k4⟩ := key _ _ has
       exact isoO_rel hT hR hfi hv1 hb hw k1 k3 hgl k4 n
      ·cases h
    ·cases h
  | true =>
   rw [hiso, cond_true] at h
   split at h
   ·rename_i as H1 has
    cases hb : bares as with
    | false => rw [hb] at h; cases h
    | true =>
     rw [hb, cond_true] at h
     split at h
     ·rename_i v1 hv1
      cases h
      have has : (bif bares args then some (args, H) else frzL (frz T 300) fi.pts args H) = some (as, H') := by
       cases hba : bares args with
       | true => rw [hba] at has; exact has
       | false =>
        rw [hba] at has
        simp only [cond_false] at has ⊢
        cases how : fi.own with
        | true => rw [how] at has; cases has
        | false => rw [how] at has; exact has
      obtain ⟨β2, k1, k2, k3, k4⟩ := key _ _ has
      obtain ⟨g1, g2⟩ := isoX_rel hT hR hfi hv1 hb k3 (hgl.mono k1) k4 n
      refine ⟨CallsIn.mono g1 fun e W' he => ?_, g2⟩
      cases e with
      | panicked c => exact he
      | outgrown => exact he
      | returned v' =>
       obtain ⟨β3, h1, h2, h3⟩ := he
       exact ⟨β3, ⟨k1.trans h1.le, fun o ho => by rw [h1.old o ho, k2], h1.hs⟩, h2, h3⟩
     ·cases h
   ·cases h
theorem callN_rel {f : Nat} {m : Md} {args : List AV} {H H' : Tr AO} {hs hs' : Nat} {v : AV} (h : callN T rec m f args H hs = some (v, H', hs')) {β : Env} {B : Gd} {W : World} (hw : WR β B H hs W) (hgl : GlOk β m.gl) {xs : List Value} (hx : VRs β args xs) (n : Nat) :
  (CallsIn (FW none) n P f xs.toArray W (EndR β B hs v H' hs') /\ ∃ fn c, P.funcs[f]? = some fn /\ fn.body = some c /\ fn.name ≠ "runtime.NumGoroutine") ∨
  (H' = H /\ hs' = hs /\ ∃ v', VR β v v' /\ (callFunc f xs.toArray).run P W = .ok (.value v') W) := by
 unfold callN at h
 split at h
 ·rename_i k hk
  split at h
  ·rename_i v1 hv
   cases h
   have hok := hT.nat f k hk
   unfold NatOk at hok
   unfold natW at hv
   cases hb : Nat.ble k 4 with
   | true =>
    rw [hb] at hv hok
    obtain ⟨fn, q1, q2, q3, q4, q5⟩ := hok
    obtain ⟨v', r1, r2⟩ := natV_rel (P := P) hv hx W
    refine .inr ⟨rfl, rfl, v', r2, ?_⟩
    rw [run_callFunc_extern q1 q2 q3 q4 q5, r1]; rfl
   | false =>
    rw [hb] at hv hok
    exact .inl ⟨(callsIn_wide (n := n)).2 (hok.2 m.gl args _ hv β B H hs W hw hgl xs hx), hok.1⟩
  ·cases h
 ·exact .inl (callF_rel hT hR h hw hgl hx n)
end
theorem setL_rel {β : Env} : ∀ {ps : List Nat} {as : List AV} {xs : List Value} {t : List AV} {x : Array Value}, VRs β as xs -> VRs β t x.toList ->
  VRs β (setL t (ps.zip as)) ((ps.zip xs).foldl (fun tmps (q : Nat × Value) => tmps.setIfInBounds q.1 q.2) x).toList
 | [], as, xs, t, x, h, ht => by simpa [setL] using ht
 | p :: ps, [], _, t, x, .nil, ht => by simpa [setL] using ht
 | p :: ps, _, _, t, x, .cons a v as xs hv h, ht => by
  simp only [List.zip_cons_cons, setL, List.foldl_cons]
  exact setL_rel h (by simpa using ht.set p hv)
theorem loop_put {β : Env} {B : Gd} {W : World} {H : Tr AO} {hs : Nat} (hw : WR β B H hs W) {o : Nat} {k : Bk} (hk : β.b o = some k) (hown : (H.get .dead o).own = true) (hnr : (H.get .dead o).isRoom = false) (hB : ¬ B.pr k.blk) {st : LoopState} {pend : Option Code} {tmps : List AV} {ps : Array Tmp} {assign body : Code} {d : Nat} {lm : Bool} {L : Loop}
  (hL : ORel β B.pr (.loop st pend tmps ps assign body d lm) k (some (.loop L))) : WR β B (H.put .dead o (.loop st pend tmps ps assign body d lm)) hs (W.putObj k.blk (.loop L)) := by
 have hu := Upd.putObj W k.blk (.loop L)
 refine hw.write hk _ hown hnr (hu.below hB) hu.size hu.oth ?_ (fun _ => hown)
 rw [World.putObj_heap_same (hw.blk o k hk)]
 exact hL
section
variable {P : Program} {T : Tab} (hT : TSnd P T) {rec : Rec} (hR : Snd P rec)
include hT hR
theorem roundF_rel {o : Nat} {args : List AV} {H H' : Tr AO} {hs hs' : Nat} {v : AV} {m : Md} (h : roundF rec m o args H hs = some (v, H', hs')) {β : Env} {B : Gd} {W : World} (hw : WR β B H hs W) (hgl : GlOk β m.gl) {xs : List Value} (hx : VRs β args xs) {k : Bk} (hk : β.b o = some k) (n : Nat) (r : Option Nat) :
  ∃ L : Loop, (Instr.yield k.blk xs.toArray).run P W = .ok (.round k.blk L.fn ((L.params.zip xs.toArray).foldl (fun tmps (t, a) => tmps.setIfInBounds t a) L.tmps) L.assign L.body) W /\
   RoundIn (FW r) n P k.blk L.fn ((L.params.zip xs.toArray).foldl (fun tmps (t, a) => tmps.setIfInBounds t a) L.tmps) L.assign L.body W (EndR β B hs v H' hs') := by
 unfold roundF at h
 split at h
 ·rename_i x0 p0 tmps ps assign body d lm hg
  have ho := hw.obj o k hk
  rw [hg] at ho
  obtain ⟨fn, tm, dk, o1, o2, o3, o4⟩ := ho
  rw [Bool.cond_decide] at h
  split at h
  ·rename_i hlen
   have hxl : xs.toArray.size = ps.size := by simp [hx.length, hlen]
   refine ⟨_, run_yield o1 (by simpa using hxl), ?_⟩
   have htm : VRs β (setL tmps (ps.toList.zip args)) ((ps.zip xs.toArray).foldl (fun tmps (t, a) => tmps.setIfInBounds t a) tm).toList := by
    have := setL_rel (ps := ps.toList) hx o2
    rw [<- Array.foldl_toList, Array.toList_zip]
    simpa using this
   generalize htt : (ps.zip xs.toArray).foldl (fun tmps (t, a) => tmps.setIfInBounds t a) tm = tt at htm
   refine roundIn_of_wpIn (F := FW r) trivial ?_
   have hfi : ((FW r).inRound k.blk) = FW (some k.blk) := rfl
   rw [hfi]
   generalize hlt : setL tmps (ps.toList.zip args) = lt at h htm
   simp only at h
   split at h
   ·rename_i s1 hrec1
    split at h
    ·rename_i p1 t1 ps1 a1 b1 d1 lm1 hg1
     split at h
     ·rename_i x2 s2 hrec2
      have hsr : SR β B ⟨putL .lf 0 lt, lt.length, H, hs, [], ⟨lm, m.tx, m.gl⟩⟩ { tmps := tt, defers := [] } W := by
       refine ⟨hw, ?_, .nil⟩
       have := enter_rel htm lt.length H hs ⟨lm, m.tx, m.gl⟩ hgl
       have hl := htm.length
       simp only [Array.length_toList] at hl
       have e1 : max lt.length lt.length = lt.length := Nat.max_self _
       have e2 : (tt.toList.toArray ++ Array.replicate (lt.length - tt.toList.toArray.size) undef) = tt := by simp [hl]
       rw [e1] at this
       rw [e2] at this
       exact this
      refine hR (some o) _ _ _ _ hrec1 β B _ W n (some k.blk) ⟨k, hk, rfl⟩ hsr _ fun β1 a' W1 hon1 hs1 _ => ?_
      have hk1 := hon1.le.b _ _ hk
      have ho1 := hs1.w.obj o k hk1
      rw [hg1] at ho1
      obtain ⟨fn1, tm1, dk1, q1, q2, q3, q4⟩ := ho1
      refine ⟨_, run_beginRound q1 rfl, ?_⟩
      have hwb := loop_put (lm := lm1) hs1.w hk1 (by rw [hg1]; rfl) (by rw [hg1]; rfl) q4 (L := ⟨.busy, p1, fn1, tm1, ps1, a1, b1, dk1⟩) ⟨fn1, tm1, dk1, rfl, q2, q3, q4⟩
      refine hR (some o) _ _ _ _ hrec2 β1 B a' _ n (some k.blk) ⟨k, hk1, rfl⟩ ⟨hwb, ⟨hs1.f.size, hs1.f.get, hs1.f.gl⟩, hs1.d⟩ _ fun β2 a2 W2 hon2 hs2 _ => ?_
      have hk2 := hon2.le.b _ _ hk1
      have ho2 := hs2.w.obj o k hk2
      split at h
      ·rename_i st2 p2 t2 ps2 a2' b2 d2 lm2 hg2
       rw [hg2] at ho2
       obtain ⟨fn2, tm2, dk2, z1, z2, z3, z4⟩ := ho2
       have hon := hon1.trans hon2
       have fin : ∀ (j : Option Code) (H3 : Tr AO), H3 = s2.heap.put .dead o (.loop (if j.isNone then .ready else .done) j t2 ps2 a2' b2 d2 lm2) ->
         ∃ v' w', (Instr.endRound k.blk j).run P W2 = .ok v' w' /\ EndR β B hs (.lit (.bool j.isNone)) H3 s2.hs (.returned v') w' := by
        intro j H3 e3
        subst e3
        refine ⟨_, _, run_endRound j z1, β2, ⟨hon.le, hon.old, hon.hs⟩, ?_, VR.lit _⟩
        exact loop_put (lm := lm2) hs2.w hk2 (by rw [hg2]; rfl) (by rw [hg2]; rfl) z4 ⟨fn2, tm2, dk2, rfl, z2, z3, z4⟩
       cases x2 with
       | normal => simp only at h; cases h; exact fin none _ rfl
       | ret => simp only at h; cases h; exact fin (some .ret) _ rfl
       | exit i => simp only at h; cases h; exact fin (some (.exit i)) _ rfl
       | goto i => simp only at h; cases h; exact fin (some (.goto i)) _ rfl
      ·cases h
     ·cases h
    ·cases h
   ·cases h
  ·cases h
 ·cases h
end
def OpDoes (P : Program) (o : Oper) (β : Env) (B : Gd) (hs : Nat) (v : AV) (H' : Tr AO) (hs' : Nat) (a : Act) (W : World) (n : Nat) (r : Option Nat) : Prop :=
 ∀ (next : Act -> World -> Prop) (Q : Exit -> Act -> World -> Prop), (∀ β' v' W', Env.on β β' hs hs' -> WR β' B H' hs' W' -> VR β' v v' -> next (a.put o.dst v') W') -> o.wpIn (FW r) n P a W next Q
theorem OpDoes.of_run {P : Program} {o : Oper} {β β' : Env} {B : Gd} {hs : Nat} {v : AV} {H' : Tr AO} {hs' : Nat} {a : Act} {W W' : World} {n : Nat} {r : Option Nat} {v' : Value} (hd : ∀ c, o.op ≠ .defer c)
  (hrun : (execOp a.eval o).run P W = .ok (.value v') W' ∨ ((execOp a.eval o).run P W = .ok .skip W' /\ v' = undef)) (hon : Env.on β β' hs hs') (hw : WR β' B H' hs' W') (hv : VR β' v v') : OpDoes P o β B hs v H' hs' a W n r := by
 intro next Q hnext
 refine ⟨fun _ _ => trivial, ?_⟩
 rw [Oper.semAt_eq _ _ _ hd]
 rcases hrun with hrun | ⟨hrun, rfl⟩
 ·rw [hrun]; exact hnext β' v' W' hon hw hv
 ·rw [hrun]; exact hnext β' undef W' hon hw hv
section
variable {P : Program} {T : Tab} (hT : TSnd P T) {rec : Rec} (hR : Snd P rec)
include hT hR
theorem pureD {o : Oper} {s : AS} {β : Env} {B : Gd} {a : Act} {W : World} {v : AV} (h : pureOp T s o.op = some v) (hf : FR β s a) {H : Tr AO} {hs : Nat} (hw : WR β B H hs W) (n : Nat) (r : Option Nat) :
  OpDoes P o β B hs v H hs a W n r := by
 obtain ⟨v', hv, hy⟩ := pureOp_rel hT.toTOk hf h
 obtain ⟨dst, op, ty, pos, after, guard⟩ := o
 exact .of_run (fun c e => by simp only at e; subst e; simp [pureOp] at h) (.inl (hy dst ty pos after guard W)) (Env.on.refl _ _) hw hv
theorem readD {o : Oper} {s : AS} {β : Env} {B : Gd} {a : Act} {W : World} {v : AV} {H : Tr AO} {hs : Nat} (h : readOp T s H o.op = some v) (hf : FR β s a) (hw : WR β B H hs W) (n : Nat) (r : Option Nat) :
  OpDoes P o β B hs v H hs a W n r := by
 obtain ⟨v', hv, hy⟩ := readOp_rel hT.toTOk hw hf h
 obtain ⟨dst, op, ty, pos, after, guard⟩ := o
 exact .of_run (fun c e => by simp only at e; subst e; simp [readOp] at h) (.inl (hy dst ty pos after guard)) (Env.on.refl _ _) hw hv
theorem newD {o : Oper} {s : AS} {β : Env} {B : Gd} {a : Act} {W : World} {v : AV} {A : AO} {H : Tr AO} {hs : Nat} (h : newOp T s hs o.op = some (A, v)) (hf : FR β s a) (hw : WR β B H hs W) (n : Nat) (r : Option Nat) :
  OpDoes P o β B hs v (H.put .dead hs A) (hs + 1) a W n r := by
 have hn := hw.dom hs (Nat.le_refl _)
 obtain ⟨obj, sz, esz, v', hy, ho, hv⟩ := newOp_rel hT.toTOk hf hn hw.new (fun off => hw.fz_new _ off (Nat.le_refl _)) h
 obtain ⟨dst, op, ty, pos, after, guard⟩ := o
 obtain ⟨g1, g2, g3⟩ := hw.newN hn (A := A) (by rw [Tr.get_put, if_pos rfl]) (hw.alloc obj A sz esz ho)
 exact .of_run (fun c e => by simp only at e; subst e; simp [newOp] at h) (.inl (hy dst ty pos after guard)) ⟨g2, fun j hj => by rw [g3, Env.add_other _ _ (by omega)], Nat.le_succ _⟩ g1 hv
theorem deadD {o : Oper} {s : AS} {β : Env} {B : Gd} {a : Act} {W : World} {v : AV} {H : Tr AO} {hs id : Nat} (h : newOp T s id o.op = some (.dead, v)) (hf : FR β s a) (hw : WR β B H hs W) (n : Nat) (r : Option Nat) :
  OpDoes P o β B hs v H hs a W n r := by
 obtain ⟨arr, e, v', hy, hv⟩ := newDead_rel hT.toTOk hf (fun off => hw.fz_new _ off (Nat.le_refl _)) h
 obtain ⟨dst, op, ty, pos, after, guard⟩ := o
 exact .of_run (fun c e => by simp only at e; subst e; simp [newOp] at h) (.inl (hy dst ty pos after guard)) ⟨envF_le (fun off => hw.fz_new _ off (Nat.le_refl _)), fun _ _ => rfl, Nat.le_refl _⟩ (hw.deadN arr e) hv
theorem effD {o : Oper} {s : AS} {β : Env} {B : Gd} {a : Act} {W : World} {v : AV} {H' : Tr AO} {hs' : Nat} (h : effOp T s o.op = some (v, H', hs')) (hf : FR β s a) (hw : WR β B s.heap s.hs W) (n : Nat) (r : Option Nat) :
  OpDoes P o β B s.hs v H' hs' a W n r := by
 obtain ⟨v', W', ⟨β', g1, g2, g3, g4, g5⟩, hd⟩ := effOp_rel hT.toTOk hw hf h
 obtain ⟨dst, op, ty, pos, after, guard⟩ := o
 exact .of_run (fun c e => by simp only at e; subst e; simp [effOp] at h) (hd dst ty pos after guard) ⟨g1, g2, g4⟩ g3 g5
theorem callD {o : Oper} {c : Call} {f : Operand} {s : AS} {β : Env} {B : Gd} {a : Act} {W : World} {v g : AV} {as : List AV} {H' : Tr AO} {hs' : Nat} (ho : o.op = .call c) (hc : c.callee = .value f) (h1 : opd s f = some g) (h2 : opds s c.args.toList = some as)
  (h : callV T rec s.md g as s.heap s.hs = some (v, H', hs')) (hf : FR β s a) (hw : WR β B s.heap s.hs W) (n : Nat) (r : Option Nat) : OpDoes P o β B s.hs v H' hs' a W n r := by
 have hg := opd_rel hf h1
 have ha := opds_rel hf h2
 have hargs : (c.args.map a.eval) = (c.args.toList.map a.eval).toArray := by apply Array.ext'; simp
 obtain ⟨dst, op, ty, pos, after, guard⟩ := o
 obtain ⟨callee, args, tys⟩ := c
 simp only at ho hc; subst ho; subst hc
 simp only at hargs h2 ha
 intro next Q hnext
 refine ⟨fun _ _ => trivial, ?_⟩
 rw [Oper.semAt_eq _ _ _ (fun c e => by cases e)]
 unfold callV at h
 split at h
 ·rename_i g' b1 b2
  generalize hev : a.eval f = fv at hg
  cases hg with
  | fn _ _ _ x y hx hy =>
   have e1 : (x.toArray ++ args.map a.eval ++ y.toArray) = (x ++ args.toList.map a.eval ++ y).toArray := by rw [hargs]; simp
   rcases callN_rel hT hR h hw hf.gl ((hx.append ha).append hy) (n - 1) with ⟨hcall, fn, cd, q1, q2, q3⟩ | ⟨rfl, rfl, v', hv', hval⟩
   rotate_left
   ·have hrun : (execOp a.eval ⟨dst, .call ⟨.value f, args, tys⟩, ty, pos, after, guard⟩).run P W = .ok (.value v') W := by
     simp only [execOp, resolve, hev, Deferred.ofValue, Sem.run_bind, Sem.run_pure, Result.andThen_ok, invoke, pure_bind]
     rw [e1]
     exact hval
    rw [hrun]
    exact hnext β v' W (Env.on.refl _ _) hw hv'
   have hrun : (execOp a.eval ⟨dst, .call ⟨.value f, args, tys⟩, ty, pos, after, guard⟩).run P W = .ok (.enter g' (x ++ args.toList.map a.eval ++ y).toArray) W := by
    simp only [execOp, resolve, hev, Deferred.ofValue, Sem.run_bind, Sem.run_pure, Result.andThen_ok, invoke, pure_bind]
    rw [e1]
    exact run_callFunc q1 q2 q3
   rw [hrun, Oper.uponIn_enter]
   refine ⟨fun e => by simp [FW, Fence.wide] at e, ?_⟩
   exact (calls_any r hcall).mono fun e w' he => by
    cases e with
    | returned v' => obtain ⟨β', h1, h2, h3⟩ := he; exact hnext β' v' w' h1 h2 h3
    | panicked c => exact he.elim
    | outgrown => exact he.elim
 ·rename_i o2
  generalize hev : a.eval f = fv at hg
  cases hg with
  | yld _ k hk =>
   obtain ⟨L, hy, hround⟩ := roundF_rel hT hR h hw hf.gl ha hk (n - 1) r
   have hrun : (execOp a.eval ⟨dst, .call ⟨.value f, args, tys⟩, ty, pos, after, guard⟩).run P W = .ok (.round k.blk L.fn ((L.params.zip (args.toList.map a.eval).toArray).foldl (fun tmps (t, a) => tmps.setIfInBounds t a) L.tmps) L.assign L.body) W := by
    simp only [execOp, resolve, hev, Deferred.ofValue, Sem.run_bind, Sem.run_pure, Result.andThen_ok, invoke, pure_bind]
    rw [hargs]
    simpa using hy
   rw [hrun, Oper.uponIn_round]
   refine ⟨fun e => by simp [FW, Fence.wide] at e, ?_⟩
   exact hround.mono fun e w' he => by
    cases e with
    | returned v' => obtain ⟨β', h1, h2, h3⟩ := he; exact hnext β' v' w' h1 h2 h3
    | panicked c => exact he.elim
    | outgrown => exact he.elim
 ·cases h
theorem actD {o : Oper} {s : AS} {β : Env} {B : Gd} {a : Act} {W : World} {v : AV} {H' : Tr AO} {hs' : Nat} (h : actOp T rec s o.op = some (v, H', hs')) (hf : FR β s a) (hw : WR β B s.heap s.hs W) (n : Nat) (r : Option Nat) :
  OpDoes P o β B s.hs v H' hs' a W n r := by
 unfold actOp at h
 split at h
 ·rename_i c hop
  split at h
  ·rename_i f hcal
   split at h
   ·rename_i g as h1 h2
    exact callD hT hR hop hcal h1 h2 h hf hw n r
   ·cases h
  ·exact effD hT hR h hf hw n r
 ·exact effD hT hR h hf hw n r
theorem evOp_rel {o : Oper} {s s' : AS} (h : evOp T rec o s = some s') {β : Env} {B : Gd} {a : Act} {W : World} (hs : SR β B s a W) (n : Nat) (r : Option Nat) (next : Act -> World -> Prop) (Q : Exit -> Act -> World -> Prop)
  (hnext : ∀ β' a' W', Env.on β β' s.hs s'.hs -> SR β' B s' a' W' -> s'.nt = s.nt -> next a' W') : o.wpIn (FW r) n P a W next Q := by
 have fin : ∀ {v : AV} {H' : Tr AO} {hs' : Nat}, setT { s with heap := H', hs := hs' } o.dst v = some s' -> OpDoes P o β B s.hs v H' hs' a W n r -> o.wpIn (FW r) n P a W next Q := by
  intro v H' hs' hset hod
  refine hod next Q fun β' v' W' hon hw hv => ?_
  obtain ⟨g1, g2, g3, g4, g5, g6⟩ := setT_rel hset (⟨hs.f.size, (hs.f.mono hon.le).get, (hs.f.mono hon.le).gl⟩ : FR β' { s with heap := H', hs := hs' } a) hv
  refine hnext β' _ W' ?_ ⟨?_, g1, ?_⟩ g5
  ·rw [g3]; exact hon
  ·rw [g2, g3]; exact hw
  ·rw [g4, g6]; exact hs.d.mono hon.le
 unfold evOp at h
 split at h
 ·split at h
  ·rename_i v hv
   exact fin (H' := s.heap) (hs' := s.hs) h (pureD hT hR hv hs.f hs.w n r)
  ·cases h
 ·split at h
  ·rename_i v hv
   exact fin (H' := s.heap) (hs' := s.hs) h (readD hT hR hv hs.f hs.w n r)
  ·cases h
 ·split at h
  ·rename_i v hv
   exact fin (H' := s.heap) (hs' := s.hs) h (deadD hT hR hv hs.f hs.w n r)
  ·rename_i A v _ hv
   exact fin h (newD hT hR hv hs.f hs.w n r)
  ·cases h
 ·split at h
  ·rename_i v H hs2 hv
   exact fin h (actD hT hR hv hs.f hs.w n r)
  ·cases h
 ·split at h
  ·rename_i v hv
   split at hv
   ·rename_i v2 hv2
    cases hv
    exact fin (H' := s.heap) (hs' := s.hs) h (pureD hT hR hv2 hs.f hs.w n r)
   ·exact fin (H' := s.heap) (hs' := s.hs) h (readD hT hR hv hs.f hs.w n r)
  ·split at h
   ·rename_i v H hs2 hv
    exact fin h (effD hT hR hv hs.f hs.w n r)
   ·cases h
end
end Go.Proofs.YtcledcfeddlomaaGreatDoor.Ev
