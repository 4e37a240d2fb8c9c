import Derived.Test.YtcledcfeddlomaaGreatDoorEv16
set_option linter.all false
namespace Go.Proofs.YtcledcfeddlomaaGreatDoor.Ev
open Go.RowKit Go.Builtin
theorem WR.grownL {β : Env} {B : Gd} {W : World} {H : Tr AO} {hs : Nat} (h : WR β B H hs W) {es : List AV} {arr : Array Value} {vs : List Value} {e : TypeId} {size need cap : Nat} (hc : VRs β (es.flatMap AV.cells) vs) (hes : ∀ x ∈ es, x.cells.length = size) (hpos : 0 < size)
  (hv : ∀ (i : Nat) v, vs[i]? = some v -> arr[i]? = some v) (hn : es.length = need) (hsz : arr.size = cap * size) (hle : need <= cap) (W' : World) (hbel : Keep (Gd.mk W (fun k => k < W.heap.size) (fun _ h => h) β.fz β.fm).pr W W') (hsize : W'.heap.size = W.heap.size + 1) (f : Nat × Nat) (hf : f.2 <= f.1 ∨ arr.size <= f.1) (hnew : W'.heap[W.heap.size]? = some (.cells arr e f)) :
  ∃ β', β.le β' /\ (∀ o, o < hs -> β'.b o = β.b o) /\ WR β' B (H.put .dead hs (.room size)) (hs + 1) W' /\ VR β' (.lst (.room hs) es) (.slice (some ⟨W.heap.size, 0, none⟩) need cap) := by
 have hd := h.dom hs (Nat.le_refl _)
 have hold : ∀ j, j < W.heap.size -> W'.heap[j]? = W.heap[j]? := fun j hj => hbel.block j hj
 have hnz : need * size <= cap * size := Nat.mul_le_mul_right _ hle
 have hnone : ∀ off, β.fz W.heap.size off = none := fun off => h.fz_new _ _ (Nat.le_refl _)
 let k : Bk := ⟨W.heap.size, need * size, cap * size, size⟩
 let β' : Env := { β.add hs k with fz := fun b i => if b = W.heap.size then (if i < need * size then arr[i]? else none) else β.fz b i }
 have hle1 : β.le β' := (Env.le_add (k := k) hd).trans ⟨fun _ _ x => x, rfl, fun b i v hv => by
  have hv : β.fz b i = some v := hv
  show (if b = W.heap.size then _ else β.fz b i) = some v
  by_cases e1 : b = W.heap.size
  ·subst e1; rw [hnone] at hv; cases hv
  ·rw [if_neg e1]; exact hv, fun _ _ x => x⟩
 have hbself : β'.b hs = some k := Env.add_self β hs k
 have hboth : ∀ j, j ≠ hs -> β'.b j = β.b j := fun j hj => Env.add_other β k hj
 have hkeep : Keep B.pr W W' := ⟨hbel.os, hbel.tape, hbel.output, by omega, fun j hj => hold j (Nat.lt_of_lt_of_le (B.lt j hj) h.below.size)⟩
 refine ⟨β', hle1, fun o ho => hboth o (by omega), ⟨h.below.trans hkeep, ?_, ?_, ?_, ?_, ?_, ?_, ?_, ?_, ?_⟩, ?_⟩
 ·intro j hj; rw [hboth _ (by omega)]; exact h.dom j (by omega)
 ·intro j kj hj
  rw [Tr.get_put]
  by_cases e1 : j = hs
  ·subst e1; rw [hbself] at hj; cases hj; rw [if_pos rfl]
   exact ⟨rfl, arr, e, f, hnew, hsz, hnz, by show f.2 <= f.1 ∨ cap * size <= f.1; rw [<- hsz]; exact hf, h.new⟩
  ·rw [hboth _ e1] at hj; rw [if_neg e1, hold _ (h.blk j kj hj)]; exact (h.obj j kj hj).mono hle1
 ·intro j kj hj
  rw [hsize]
  by_cases e1 : j = hs
  ·subst e1; rw [hbself] at hj; cases hj; exact Nat.lt_succ_self _
  ·rw [hboth _ e1] at hj; have := h.blk j kj hj; omega
 ·intro j j' kj kj' hne hj hj' ho hl
  rw [Tr.get_put] at ho hl
  by_cases e1 : j = hs
  ·subst e1; rw [hbself] at hj; cases hj
   rw [hboth _ (fun x => hne x.symm)] at hj'; have := h.blk j' kj' hj'; show W.heap.size ≠ kj'.blk; omega
  ·rw [hboth _ e1] at hj; rw [if_neg e1] at ho
   by_cases e2 : j' = hs
   ·subst e2; rw [hbself] at hj'; cases hj'; have := h.blk j kj hj; show kj.blk ≠ W.heap.size; omega
   ·rw [hboth _ e2] at hj'; rw [if_neg e2] at hl; exact h.inj j j' kj kj' hne hj hj' ho hl
 ·intro b i v hv1
  have hv1 : (if b = W.heap.size then (if i < need * size then arr[i]? else none) else β.fz b i) = some v := hv1
  by_cases e1 : b = W.heap.size
  ·rw [if_pos e1] at hv1
   split at hv1
   ·rw [e1]; exact ⟨arr, e, _, hnew, hv1⟩
   ·cases hv1
  ·rw [if_neg e1] at hv1; rw [hold _ (h.fz_lt hv1)]; exact h.fz b i v hv1
 ·intro r x hx; rw [hold _ (heap_lt (h.fm r x hx))]; exact h.fm r x hx
 ·intro j kj hj ho
  rw [Tr.get_put] at ho
  by_cases e1 : j = hs
  ·subst e1; rw [hbself] at hj; cases hj
   refine ⟨fun off hoff => ?_, h.fm_new _ (Nat.le_refl _)⟩
   rw [Tr.get_put, if_pos rfl] at hoff
   have hoff : need * size <= off := hoff rfl
   show (if W.heap.size = W.heap.size then (if off < need * size then arr[off]? else none) else β.fz W.heap.size off) = none
   rw [if_pos rfl, if_neg (by omega)]
  ·rw [hboth _ e1] at hj; rw [if_neg e1] at ho
   rw [Tr.get_put, if_neg e1]
   obtain ⟨a1, a2⟩ := h.apart j kj hj ho
   have := h.blk j kj hj
   refine ⟨fun off hoff => ?_, a2⟩
   show (if kj.blk = W.heap.size then _ else β.fz kj.blk off) = none
   rw [if_neg (by omega)]; exact a1 off hoff
 ·intro b i v hb hv1
  have hv1 : (if b = W.heap.size then (if i < need * size then arr[i]? else none) else β.fz b i) = some v := hv1
  rw [if_neg (show ¬ b = W.heap.size from fun e1 => h.new (e1 ▸ hb))] at hv1
  exact h.gfz b i v hb hv1
 ·intro b x hb hx; exact h.gfm b x hb hx
 ·have hl := hc.length
  have hfl := flat_len hes
  have := VR.lst (β := β') (.room hs) size es vs W.heap.size 0 cap (hc.mono hle1) hes hpos (fun i v hi => by
   show (if W.heap.size = W.heap.size then (if 0 + i < need * size then arr[0 + i]? else none) else β.fz W.heap.size (0 + i)) = some v
   rw [if_pos rfl, Nat.zero_add, if_pos]
   ·exact hv i v hi
   ·have := (List.getElem?_eq_some_iff.1 hi).1
    rw [hl, hfl, hn] at this; exact this) (by omega) ⟨k, hbself, rfl, by simp [k, hn], by simp [k], rfl⟩
  rw [hn] at this; exact this
theorem WR.roomIn {β : Env} {B : Gd} {W : World} {H : Tr AO} {hs : Nat} (h : WR β B H hs W) {t z : Nat} {k : Bk} (hk : β.b t = some k) (hg : H.get .dead t = .room z) {W' : World} {arr arr' : Array Value} {e : TypeId} {f : Nat × Nat}
  (ho : W.heap[k.blk]? = some (.cells arr e f)) (hb : Keep B.pr W W') (hsz : W'.heap.size = W.heap.size) (hoth : ∀ j, j ≠ k.blk -> W'.heap[j]? = W.heap[j]?) (hn : W'.heap[k.blk]? = some (.cells arr' e f)) (hasz : arr'.size = arr.size) (n : Nat) (hend : k.sh + n <= k.sz)
  (hlow : ∀ i, i < k.sh -> arr'[i]? = arr[i]?) :
  ∃ β', β.le β' /\ (∀ o, o < hs -> β'.b o = β.b o) /\ WR β' B ((H.put .dead t .dead).put .dead hs (.room z)) (hs + 1) W' /\ β'.b hs = some ⟨k.blk, k.sh + n, k.sz, k.esz⟩ /\ ∀ i, k.sh <= i -> i < k.sh + n -> β'.fz k.blk i = arr'[i]? := by
 have hd := h.dom hs (Nat.le_refl _)
 have hne : t ≠ hs := fun e => by rw [<- e, hk] at hd; cases hd
 have hob := h.obj t k hk
 rw [hg] at hob
 obtain ⟨o0, arr0, e0, f0, o1, o2, o3, o4, o5⟩ := hob
 rw [ho] at o1; cases o1
 have hap := h.apart t k hk (by rw [hg]; rfl)
 have hhigh : ∀ off, k.sh <= off -> β.fz k.blk off = none := fun off hoff => hap.1 off (fun _ => hoff)
 let k' : Bk := ⟨k.blk, k.sh + n, k.sz, k.esz⟩
 let β' : Env := { β.add hs k' with fz := fun b i => if b = k.blk /\ k.sh <= i /\ i < k.sh + n then arr'[i]? else β.fz b i }
 have hle1 : β.le β' := (Env.le_add (k := k') hd).trans ⟨fun _ _ x => x, rfl, fun b i v hv => by
  have hv : β.fz b i = some v := hv
  show (if b = k.blk /\ k.sh <= i /\ i < k.sh + n then _ else β.fz b i) = some v
  by_cases e1 : b = k.blk /\ k.sh <= i /\ i < k.sh + n
  ·rw [e1.1, hhigh i e1.2.1] at hv; cases hv
  ·rw [if_neg e1]; exact hv, fun _ _ x => x⟩
 have hbself : β'.b hs = some k' := Env.add_self β hs k'
 have hboth : ∀ j, j ≠ hs -> β'.b j = β.b j := fun j hj => Env.add_other β k' hj
 refine ⟨β', hle1, fun o ho => hboth o (by omega), ⟨h.below.trans hb, ?_, ?_, ?_, ?_, ?_, ?_, ?_, ?_, ?_⟩, hbself, fun i h1 h2 => ?_⟩
 ·intro j hj; rw [hboth _ (by omega)]; exact h.dom j (by omega)
 ·intro j kj hj
  rw [Tr.get_put, Tr.get_put]
  by_cases e1 : j = hs
  ·subst e1; rw [hbself] at hj; cases hj; rw [if_pos rfl]
   exact ⟨o0, arr', e, f, hn, by show arr'.size = k.sz; omega, hend, o4, o5⟩
  ·rw [hboth _ e1] at hj; rw [if_neg e1]
   by_cases e2 : j = t
   ·rw [if_pos e2]; trivial
   ·rw [if_neg e2]
    by_cases hlive : (H.get .dead j).live = true
    ·rw [hoth kj.blk (fun x => h.inj t j k kj (Ne.symm e2) hk hj (by rw [hg]; rfl) hlive x.symm)]; exact (h.obj j kj hj).mono hle1
    ·have : H.get .dead j = .dead := by
      cases hx : H.get .dead j <;> simp [hx, AO.live] at hlive
      rfl
     rw [this]; trivial
 ·intro j kj hj
  rw [hsz]
  by_cases e1 : j = hs
  ·subst e1; rw [hbself] at hj; cases hj; exact h.blk t k hk
  ·rw [hboth _ e1] at hj; exact h.blk j kj hj
 ·intro j j' kj kj' hne' hj hj' ho' hl
  rw [Tr.get_put, Tr.get_put] at ho' hl
  by_cases e1 : j = hs
  ·subst e1; rw [hbself] at hj; cases hj
   have e2 : j' ≠ j := fun x => hne' x.symm
   rw [hboth _ e2] at hj'; rw [if_neg e2] at hl
   by_cases e3 : j' = t
   ·rw [if_pos e3] at hl; simp [AO.live] at hl
   ·rw [if_neg e3] at hl; exact h.inj t j' k kj' (Ne.symm e3) hk hj' (by rw [hg]; rfl) hl
  ·rw [hboth _ e1] at hj; rw [if_neg e1] at ho'
   by_cases e3 : j = t
   ·rw [if_pos e3] at ho'; simp [AO.own] at ho'
   ·rw [if_neg e3] at ho'
    by_cases e2 : j' = hs
    ·subst e2; rw [hbself] at hj'; cases hj'
     exact h.inj j t kj k e3 hj hk ho' (by rw [hg]; rfl)
    ·rw [hboth _ e2] at hj'; rw [if_neg e2] at hl
     by_cases e4 : j' = t
     ·rw [if_pos e4] at hl; simp [AO.live] at hl
     ·rw [if_neg e4] at hl; exact h.inj j j' kj kj' hne' hj hj' ho' hl
 ·intro b i v hv1
  have hv1 : (if b = k.blk /\ k.sh <= i /\ i < k.sh + n then arr'[i]? else β.fz b i) = some v := hv1
  by_cases e1 : b = k.blk /\ k.sh <= i /\ i < k.sh + n
  ·rw [if_pos e1] at hv1; rw [e1.1]; exact ⟨arr', e, f, hn, hv1⟩
  ·rw [if_neg e1] at hv1
   by_cases e2 : b = k.blk
   ·subst e2
    have hi : i < k.sh := by
     refine Nat.lt_of_not_le fun hge => ?_
     rw [hhigh i hge] at hv1; cases hv1
    obtain ⟨a1, a2, a3, a4, a5⟩ := h.fz _ i v hv1
    rw [ho] at a4; cases a4
    exact ⟨arr', e, f, hn, by rw [hlow i hi]; exact a5⟩
   ·rw [hoth b e2]; exact h.fz b i v hv1
 ·intro r x hx
  have hx : β.fm r = some x := hx
  have : r ≠ k.blk := fun e1 => by subst e1; rw [hap.2] at hx; cases hx
  rw [hoth r this]; exact h.fm r x hx
 ·intro j kj hj ho'
  rw [Tr.get_put, Tr.get_put] at ho'
  by_cases e1 : j = hs
  ·subst e1; rw [hbself] at hj; cases hj
   refine ⟨fun off hoff => ?_, hap.2⟩
   rw [Tr.get_put, if_pos rfl] at hoff
   have hoff : k.sh + n <= off := hoff rfl
   show (if k.blk = k.blk /\ k.sh <= off /\ off < k.sh + n then arr'[off]? else β.fz k.blk off) = none
   rw [if_neg (by omega)]; exact hhigh off (by omega)
  ·rw [hboth _ e1] at hj; rw [if_neg e1] at ho'
   by_cases e2 : j = t
   ·rw [if_pos e2] at ho'; simp [AO.own] at ho'
   ·rw [if_neg e2] at ho'
    rw [Tr.get_put, Tr.get_put, if_neg e1, if_neg e2]
    obtain ⟨a1, a2⟩ := h.apart j kj hj ho'
    have hnb : kj.blk ≠ k.blk := h.inj j t kj k e2 hj hk ho' (by rw [hg]; rfl)
    refine ⟨fun off hoff => ?_, a2⟩
    show (if kj.blk = k.blk /\ _ then _ else β.fz kj.blk off) = none
    rw [if_neg (fun x => hnb x.1)]; exact a1 off hoff
 ·intro b i v hb1 hv1
  have hv1 : (if b = k.blk /\ k.sh <= i /\ i < k.sh + n then arr'[i]? else β.fz b i) = some v := hv1
  rw [if_neg (show ¬ (b = k.blk /\ k.sh <= i /\ i < k.sh + n) from fun x => o5 (x.1 ▸ hb1))] at hv1
  exact h.gfz b i v hb1 hv1
 ·intro b x hb1 hx; exact h.gfm b x hb1 hx
 ·show (if k.blk = k.blk /\ k.sh <= i /\ i < k.sh + n then arr'[i]? else β.fz k.blk i) = _
  rw [if_pos ⟨rfl, h1, h2⟩]
section
variable {P : Program} {β : Env} {B : Gd} {W : World} {H : Tr AO} {hs : Nat} (hw : WR β B H hs W)
include hw
theorem appendL_rel {e : TypeId} {size bytes : Nat} {v : AV} {x : Value} {tk : ATk} {es ys : List AV} {new : Array Value} {m : Value -> Sem Value} {H' : Tr AO} {hs' : Nat} (hu : VR β (.lst tk es) x) (h : appendL H hs size bytes tk es ys = some (v, H', hs'))
  (hcs : VRs β (ys.flatMap AV.cells) new.toList) (hA : App P W e size bytes ys.length new m) :
  ∃ v' W' β', β.le β' /\ (∀ o, o < hs -> β'.b o = β.b o) /\ WR β' B H' hs' W' /\ hs <= hs' /\ VR β' v v' /\ (m x).run P W = .ok v' W' := by
 unfold appendL at h
 split at h
 ·cases h
  have hnew : new = #[] := by
   have := hA.len; simp at this; exact this
  have hin : ∀ base sLen sCap, sLen <= sCap -> (m (.slice base sLen sCap)).run P W = .ok (.slice base sLen sCap) W := fun base sLen sCap hle => by
   refine hA.inn base sLen sCap W (by simpa using hle) ?_
   cases base with
   | none => rfl
   | some ad => simp [PutAt, hnew, storeCells]
  rcases hu.of_lst with ⟨rfl, rfl⟩ | ⟨rfl, a, c, rfl, _⟩ | ⟨sz, vs, b, o, c, rfl, _, _, _, _, g5, _⟩
  ·exact ⟨_, W, β, Env.le.refl _, fun _ _ => rfl, hw, Nat.le_refl _, hu, hin _ _ _ (Nat.le_refl _)⟩
  ·exact ⟨_, W, β, Env.le.refl _, fun _ _ => rfl, hw, Nat.le_refl _, hu, hin _ _ _ (Nat.zero_le _)⟩
  ·exact ⟨_, W, β, Env.le.refl _, fun _ _ => rfl, hw, Nat.le_refl _, hu, hin _ _ _ g5⟩
 ·rename_i hys
  cases hb0 : ((ys.all fun e => sizeOk size e && flatOk e && e.cells.all oneCell) && Nat.ble ((4 * (es.length + ys.length) + 4000) * bytes) 281474976710656) with
  | false => rw [hb0] at h; cases h
  | true =>
   rw [hb0, cond_true] at h
   simp only [Bool.and_eq_true, List.all_eq_true, ble_le, sizeOk_iff] at hb0
   obtain ⟨hb1, hb2⟩ := hb0
   have hn0 : ys.length ≠ 0 := fun e => hys (List.eq_nil_of_length_eq_zero e)
   have hpos := hA.pos
   have hysz : ∀ y ∈ ys, y.cells.length = size := fun y hy => (hb1 y hy).1.1
   have hnl : new.toList.length = ys.length * size := by rw [hcs.length, flat_len hysz]
   have hfresh : ∀ base sCap (vs : List Value), x = .slice base es.length sCap -> VRs β (es.flatMap AV.cells) vs -> (∀ y ∈ es, y.cells.length = size) -> ¬ es.length + ys.length <= sCap ->
     (∀ d, (firstCells size es.length (.slice base es.length sCap)).run P { W with drawn := d } = .ok vs.toArray { W with drawn := d }) ->
     ∃ v' W' β', β.le β' /\ (∀ o, o < hs -> β'.b o = β.b o) /\ WR β' B (H.put .dead hs (.room size)) (hs + 1) W' /\ VR β' (.lst (.room hs) (es ++ ys)) v' /\ (m x).run P W = .ok v' W' := by
    intro base sCap vs hx hr hes hgt hfc
    obtain ⟨c, rest, q1, q2, q3⟩ := hA.out hn0 base es.length sCap vs.toArray hfc hgt hb2
    have hvl := hr.length
    rw [flat_len hes] at hvl
    have hall : VRs β ((es ++ ys).flatMap AV.cells) (vs ++ new.toList) := by rw [List.flatMap_append]; exact hr.append hcs
    obtain ⟨β', g1, g2, g3, g4⟩ := hw.grownL (W' := ({ W with drawn := W.drawn + 1 } : World).alloc (.cells (vs.toArray ++ new ++ rest) e)) (e := e) (arr := vs.toArray ++ new ++ rest) (size := size) (need := es.length + ys.length) (cap := c) hall
     (fun y hy => by rcases List.mem_append.1 hy with h | h; exact hes y h; exact hysz y h) hpos (fun i v hv => by
      have hlt := (List.getElem?_eq_some_iff.1 hv).1
      rw [Array.getElem?_append_left (by simpa using hlt), <- Array.getElem?_toList]
      simpa using hv) (by simp) (by
      simp only [Array.size_append, List.size_toArray, q2]
      have : new.size = ys.length * size := hA.len
      rw [this, hvl, <- Nat.add_mul, <- Nat.add_mul]; congr 1; omega) q1
     ⟨rfl, rfl, rfl, by simp [World.size_alloc], fun j hj => heap_alloc_old (W := { W with drawn := W.drawn + 1 }) hj⟩ (World.size_alloc _ _) (0, 0) (.inl (Nat.le_refl _)) (heap_alloc_new { W with drawn := W.drawn + 1 } _)
    exact ⟨_, _, β', g1, g2, g3, g4, by rw [hx]; exact q3⟩
   have hnil : ∀ base sCap, es = [] -> x = .slice base 0 sCap -> sCap = 0 -> ∃ v' W' β', β.le β' /\ (∀ o, o < hs -> β'.b o = β.b o) /\ WR β' B (H.put .dead hs (.room size)) (hs + 1) W' /\ VR β' (.lst (.room hs) (es ++ ys)) v' /\ (m x).run P W = .ok v' W' := by
    intro base sCap e1 e2 e3
    subst e1; subst e3
    refine hfresh base 0 [] e2 .nil (fun _ h => by cases h) (by simp only [List.length_nil]; omega) fun d => ?_
    cases base <;> simp [firstCells, loadCells, loadCellsFrom]
   have hlst : ∀ {sz b o c : Nat} {vs : List Value}, VRs β (es.flatMap AV.cells) vs -> (∀ y ∈ es, y.cells.length = sz) -> (∀ (i : Nat) v, vs[i]? = some v -> β.fz b (o + i) = some v) -> sz = size ->
     ∀ d, (firstCells size es.length (.slice (some ⟨b, o, none⟩) es.length c)).run P { W with drawn := d } = .ok vs.toArray { W with drawn := d } := by
    intro sz b o c vs hr hes hz hsz d
    subst hsz
    have hvl := hr.length
    rw [flat_len hes] at hvl
    unfold firstCells
    by_cases hne : vs = []
    ·subst hne
     simp only [List.length_nil] at hvl
     rw [<- hvl]
     simp [loadCells, loadCellsFrom]
    ·have hp := List.length_pos_iff.2 hne
     obtain ⟨arr, e', fz', q1, q2, q3⟩ := fz_read hw hz hp
     rw [hvl] at q2 q3
     have := run_loadCells (P := P) (W := { W with drawn := d }) (e := e') (fz := fz') q1 q2
     rw [q3] at this
     exact this
   split at h
   ·cases h
   ·
    cases hes : es.all (sizeOk size) with
    | false => rw [hes] at h; cases h
    | true =>
     rw [hes, cond_true] at h; cases h
     simp only [List.all_eq_true, sizeOk_iff] at hes
     have key : ∃ v' W' β', β.le β' /\ (∀ o, o < hs -> β'.b o = β.b o) /\ WR β' B (H.put .dead hs (.room size)) (hs + 1) W' /\ VR β' (.lst (.room hs) (es ++ ys)) v' /\ (m x).run P W = .ok v' W' := by
      rcases hu.of_lst with ⟨e1, e2⟩ | ⟨e1, a, c, e2, e3, _⟩ | ⟨sz, vs, b, o, c, e2, g1, g2, g3, g4, g5, g6⟩
      ·exact hnil _ _ e1 e2 rfl
      ·exact hnil _ _ e1 e2 (e3 rfl)
      ·have g6 : o + es.length * sz = o + c * sz := g6
       have hc : c = es.length := (Nat.eq_of_mul_eq_mul_right g3 (by omega)).symm
       subst hc
       by_cases hne : es = []
       ·subst hne; exact hnil _ _ rfl (by simpa using e2) rfl
       ·have hsz : sz = size := by
         obtain ⟨y, hy⟩ := List.exists_mem_of_ne_nil _ hne
         rw [<- g2 y hy, hes y hy]
        exact hfresh _ _ vs e2 g1 hes (by omega) (hlst g1 g2 g4 hsz)
     obtain ⟨v', W', β', k1, k2, k3, k4, k5⟩ := key
     exact ⟨v', W', β', k1, k2, k3, Nat.le_succ _, k4, k5⟩
   ·rename_i t
    split at h
    ·rename_i z hg
     rw [beq_if] at h
     split at h
     ·rename_i hz
      subst hz
      cases h
      have hkill : (∃ v' W' β', β.le β' /\ (∀ o, o < hs -> β'.b o = β.b o) /\ WR β' B (H.put .dead hs (.room z)) (hs + 1) W' /\ VR β' (.lst (.room hs) (es ++ ys)) v' /\ (m x).run P W = .ok v' W') -> t ≠ hs ->
        ∃ v' W' β', β.le β' /\ (∀ o, o < hs -> β'.b o = β.b o) /\ WR β' B ((H.put .dead t .dead).put .dead hs (.room z)) (hs + 1) W' /\ hs <= hs + 1 /\ VR β' (.lst (.room hs) (es ++ ys)) v' /\ (m x).run P W = .ok v' W' := by
       rintro ⟨v', W', β', k1, k2, k3, k4, k5⟩ hne
       refine ⟨v', W', β', k1, k2, (k3.kill t).congr fun j => ?_, Nat.le_succ _, k4, k5⟩
       simp only [Tr.get_put]
       by_cases e1 : j = t
       ·subst e1; rw [if_neg hne, if_pos rfl, if_pos rfl]
       ·rw [if_neg e1, if_neg e1]
      have hnohs : β.b hs = none := hw.dom hs (Nat.le_refl _)
      rcases hu.of_lst with ⟨e1, e2⟩ | ⟨e1, a, c, e2, _, e3⟩ | ⟨sz, vs, b, o, c, e2, g1, g2, g3, g4, g5, g6⟩
      ·by_cases hne : t = hs
       ·
        obtain ⟨v', W', β', k1, k2, k3, k4, k5⟩ := hnil _ _ e1 e2 rfl
        refine ⟨v', W', β', k1, k2, k3.congr fun j => ?_, Nat.le_succ _, k4, k5⟩
        subst hne
        simp only [Tr.get_put]
        by_cases e1 : j = t
        ·rw [if_pos e1, if_pos e1]
        ·rw [if_neg e1, if_neg e1, if_neg e1]
       ·exact hkill (hnil _ _ e1 e2 rfl) hne
      ·exact absurd rfl (e3 t)
      ·obtain ⟨k, k1, k2, k3, k4, k5⟩ := g6
       have hne : t ≠ hs := fun e => by rw [<- e, k1] at hnohs; cases hnohs
       have hob := hw.obj t k k1
       rw [hg] at hob
       obtain ⟨o0, arr, ae, f, o1, o2, o3, o4, o5⟩ := hob
       have hsz : sz = z := by rw [<- k5, o0]
       subst hsz
       by_cases hfit : es.length + ys.length <= c
       ·have hmul : (es.length + ys.length) * sz <= c * sz := Nat.mul_le_mul_right _ hfit
        rw [Nat.add_mul] at hmul
        obtain ⟨W', arr', s1, s2, s3, s4, s5⟩ := run_storeCells (P := P) (o := k.sh) new.toList 0 W arr o1 (by rw [o2]; exact o4) (oneCells_rel hcs (by
         rw [List.all_eq_true]; intro y hy
         obtain ⟨q, hq, hyq⟩ := List.mem_flatMap.1 hy
         exact (hb1 q hq).2 y hyq)) (by omega)
        simp only [Nat.add_zero] at s4
        have hat : ∀ i, arr'[i]? = (arr.toList.take k.sh ++ (new.toList ++ arr.toList.drop (k.sh + new.toList.length)))[i]? := fun i => by
         rw [<- Array.getElem?_toList, s4]
        have htk : (arr.toList.take k.sh).length = k.sh := by simp; omega
        obtain ⟨β', r1, r2, r3, r4, r5⟩ := hw.roomIn k1 hg (W' := W') (arr' := arr') o1 (s2.below o5) s2.size s2.oth s3 s5 (ys.length * sz) (by omega) (fun i hi => by
         rw [hat, List.getElem?_append_left (by omega), List.getElem?_take, if_pos hi]; simp)
        refine ⟨.slice (some ⟨b, o, none⟩) (es.length + ys.length) c, W', β', r1, r2, r3, Nat.le_succ _, ?_, ?_⟩
        ·have hall : VRs β' ((es ++ ys).flatMap AV.cells) (vs ++ new.toList) := by rw [List.flatMap_append]; exact (g1.mono r1).append (hcs.mono r1)
         have hvl := g1.length
         rw [flat_len g2] at hvl
         have := VR.lst (β := β') (.room hs) sz (es ++ ys) (vs ++ new.toList) b o c hall (fun y hy => by rcases List.mem_append.1 hy with h | h; exact g2 y h; exact hysz y h) g3 (fun i v hi => by
          by_cases c1 : i < vs.length
          ·rw [List.getElem?_append_left c1] at hi
           exact r1.fz _ _ _ (g4 i v hi)
          ·rw [List.getElem?_append_right (by omega)] at hi
           have hlt := (List.getElem?_eq_some_iff.1 hi).1
           rw [<- k2, r5 (o + i) (by omega) (by omega), hat, List.getElem?_append_right (by omega), htk, List.getElem?_append_left (by omega)]
           rw [<- hi]; congr 1; omega) (by simpa using hfit) ⟨_, r4, k2, by simp only [List.length_append, Nat.add_mul]; omega, k4, k5⟩
         rw [List.length_append] at this
         exact this
        ·rw [e2]
         refine hA.inn _ _ _ W' hfit ?_
         simp only [PutAt, add_addr]
         rw [<- k2, show o + es.length * sz = k.sh from k3.symm]
         exact s1
       ·exact hkill (hfresh _ _ vs e2 g1 g2 hfit (hlst g1 g2 g4 rfl)) hne
     ·cases h
    ·cases h
end
def Does (P : Program) (a : Act) (op : Op) (v : Value) (W W' : World) : Prop :=
 ∀ (dst : Option Tmp) (ty : TypeId) (pos : String) (after : Array Edge) (guard : Option (Nat × Bool)),
  (execOp a.eval ⟨dst, op, ty, pos, after, guard⟩).run P W = .ok (.value v) W' ∨ ((execOp a.eval ⟨dst, op, ty, pos, after, guard⟩).run P W = .ok .skip W' /\ v = undef)
def Left (β : Env) (B : Gd) (hs : Nat) (v : AV) (H' : Tr AO) (hs' : Nat) (v' : Value) (W' : World) : Prop :=
 ∃ β', β.le β' /\ (∀ o, o < hs -> β'.b o = β.b o) /\ WR β' B H' hs' W' /\ hs <= hs' /\ VR β' v v'
theorem zero_all {P : Program} {T : Tab} (hT : TOk P T) {t : Nat} {i : TI} (h : T.t t = some i) : ∃ z, (∀ w, (zeroValue t).run P w = .ok z w) /\ ∀ β, VR β i.zero z := by
 obtain ⟨inf, q1, _, _, z, q2, q3⟩ := (hT.ty t i h).2.1
 exact ⟨z, fun w => by simp [zeroValue, typeInfo, q1, q2], q3⟩
theorem exec_call_builtin (ρ : Operand -> Value) (b : Builtin) (args : Array Operand) (tys : Array TypeId) (dst : Option Tmp) (ty : TypeId) (pos : String) (after : Array Edge) (guard : Option (Nat × Bool)) :
  execOp ρ ⟨dst, .call ⟨.builtin b, args, tys⟩, ty, pos, after, guard⟩ = builtin b tys ty (args.map fun | .const _ => true | _ => false) (args.map ρ) := rfl
theorem zeroCells_size (x : Array Value) (n : Nat) : (zeroCells x n).size = n * x.size := by simp [zeroCells]
theorem chunk_flat (sz : Nat) : ∀ (n : Nat) (l : List AV), l.length = n * sz -> (chunk true sz n l).flatMap AV.cells = l
 | 0, l, h => by
  have : l = [] := List.eq_nil_of_length_eq_zero (by simpa using h)
  subst this; rfl
 | n + 1, l, h => by
  rw [Nat.succ_mul] at h
  simp only [chunk, cond_true, List.flatMap_cons, AV.cells]
  rw [chunk_flat sz n (l.drop sz) (by rw [List.length_drop]; omega), List.take_append_drop]
theorem chunk_one : ∀ (n : Nat) (l : List AV), l.length = n -> l.all oneCell = true -> chunk false 1 n l = l /\ l.flatMap AV.cells = l
 | 0, l, h, _ => by
  have : l = [] := List.eq_nil_of_length_eq_zero h
  subst this; exact ⟨rfl, rfl⟩
 | n + 1, [], h, _ => by cases h
 | n + 1, x :: l, h, ho => by
  simp only [List.all_cons, Bool.and_eq_true] at ho
  obtain ⟨h1, h2⟩ := chunk_one n l (by simpa using h) ho.2
  refine ⟨?_, ?_⟩
  ·simp only [chunk, cond_false, List.headD_cons, List.drop_succ_cons, List.drop_zero, h1]
  ·have : x.cells = [x] := by
    cases x <;> first | rfl | (simp [oneCell] at ho; done)
   rw [List.flatMap_cons, this, h2]; rfl
theorem chunk_length (b : Bool) (sz : Nat) : ∀ (n : Nat) (l : List AV), (chunk b sz n l).length = n
 | 0, _ => rfl
 | n + 1, l => by simp [chunk, chunk_length b sz n]
section
variable {P : Program} {T : Tab} (hT : TOk P T) {β : Env} {B : Gd} {W : World} {s : AS} {a : Act} (hw : WR β B s.heap s.hs W) (hf : FR β s a)
include hT hw hf
omit hT hf in
theorem list_src {size : Nat} {tk : ATk} {es : List AV} {x : Value} (hv : VR β (.lst tk es) x) (hso : es.all (sizeOk size) = true) :
  ∃ new : Array Value, VRs β (es.flatMap AV.cells) new.toList /\ new.size = es.length * size /\ (∀ w, (lenOf x).run P w = .ok es.length w) /\ (∀ d n, n <= es.length -> (firstCells size n x).run P { W with drawn := d } = .ok (new.toList.take (n * size)).toArray { W with drawn := d }) := by
 simp only [List.all_eq_true, sizeOk_iff] at hso
 have hnil : ∀ ad c, es = [] -> x = .slice ad 0 c -> ∃ new : Array Value, VRs β (es.flatMap AV.cells) new.toList /\ new.size = es.length * size /\ (∀ w, (lenOf x).run P w = .ok es.length w) /\ (∀ d n, n <= es.length -> (firstCells size n x).run P { W with drawn := d } = .ok (new.toList.take (n * size)).toArray { W with drawn := d }) := by
  intro ad c e1 e2
  subst e1; subst e2
  refine ⟨#[], .nil, by simp, fun w => by simp [lenOf], fun d n hn => ?_⟩
  have : n = 0 := by simpa using hn
  subst this
  cases ad <;> simp [firstCells, loadCells, loadCellsFrom]
 rcases hv.of_lst with ⟨e1, e2⟩ | ⟨e1, ad, c, e2, _⟩ | ⟨sz, vs, b, o, c, e2, g1, g2, g3, g4, g5, g6⟩
 ·exact hnil _ _ e1 e2
 ·exact hnil _ _ e1 e2
 ·by_cases hne : es = []
  ·exact hnil _ _ hne (by rw [e2, hne]; rfl)
  ·have hsz : sz = size := by
    obtain ⟨y, hy⟩ := List.exists_mem_of_ne_nil _ hne
    rw [<- g2 y hy, hso y hy]
   subst hsz
   have hvl := g1.length
   rw [flat_len g2] at hvl
   refine ⟨vs.toArray, by simpa using g1, by simpa using hvl, fun w => by rw [e2]; simp [lenOf], fun d n hn => ?_⟩
   rw [e2]
   unfold firstCells
   by_cases hn0 : n = 0
   ·subst hn0; simp [loadCells, loadCellsFrom]
   ·have hnm : n * sz <= es.length * sz := Nat.mul_le_mul_right _ hn
    have hp : 0 < n * sz := Nat.mul_pos (by omega) g3
    have hlen : (vs.take (n * sz)).length = n * sz := by simp; omega
    obtain ⟨arr, e', fz', q1, q2, q3⟩ := fz_read hw (vs := vs.take (n * sz)) (fun i v hi => by
     rw [List.getElem?_take] at hi; split at hi
     ·exact g4 i v hi
     ·cases hi) (by omega)
    rw [hlen] at q2 q3
    have := run_loadCells (P := P) (W := { W with drawn := d }) (e := e') (fz := fz') q1 q2
    rw [q3] at this
    simpa using this
theorem srcCells_rel {size n : Nat} {v : AV} {x : Value} {cs : List AV} (h : srcCells s.heap size v = some (n, cs)) (hv : VR β v x) :
  ∃ new : Array Value, VRs β cs new.toList /\ new.size = n * size /\ (∀ w, (lenOf x).run P w = .ok n w) /\ (∀ d, (firstCells size n x).run P { W with drawn := d } = .ok new { W with drawn := d }) := by
 unfold srcCells at h
 split at h
 ·rename_i l
  rw [beq_if] at h
  split at h
  ·rename_i h1
   subst h1
   cases h
   obtain rfl := hv.of_str
   refine ⟨(l.map fun b => Value.int .u8 b.toNat).toArray, ?_, by simp, fun w => by simp [lenOf, str_size], fun d => ?_⟩
   ·simp only []
    refine VRs.of_get (by simp) fun i c u hc hu => ?_
    simp only [List.getElem?_map, Option.map_eq_some_iff] at hc hu
    obtain ⟨b, hb, rfl⟩ := hc
    obtain ⟨b', hb', rfl⟩ := hu
    rw [hb] at hb'; cases hb'
    exact .lit _
   ·simp only [firstCells, Sem.run_pure]
    congr 1
    have : (⟨l.toArray⟩ : ByteArray).extract 0 l.length = ⟨l.toArray⟩ := by rw [extract_str]; simp
    rw [this]
    simp
  ·cases h
 ·cases h
  obtain rfl := hv.of_lit
  exact ⟨#[], .nil, by simp, fun w => by simp [lenOf], fun d => by simp [firstCells]⟩
 ·cases h
  have ev : ∃ p q, x = .slice (some p) 0 q := by cases hv; exact ⟨_, _, rfl⟩
  obtain ⟨p, q, rfl⟩ := ev
  exact ⟨#[], .nil, by simp, fun w => by simp [lenOf], fun d => by simp [firstCells, loadCells, loadCellsFrom]⟩
 ·rename_i tk es
  cases hso : es.all (sizeOk size) with
  | false => rw [hso] at h; cases h
  | true =>
   rw [hso, cond_true] at h; cases h
   obtain ⟨new, n1, n2, n3, n4⟩ := list_src (P := P) hw hv hso
   refine ⟨new, n1, n2, n3, fun d => ?_⟩
   rw [n4 d _ (Nat.le_refl _), List.take_of_length_le (by rw [Array.length_toList]; omega)]
 ·rename_i o off m cap
  split at h
  ·rename_i l hl
   cases h
   obtain ⟨k, c, hk, rfl, _⟩ := hv.of_slc
   obtain ⟨arr, e, fz, h1, h2, h3⟩ := rd_rel hw hl hk
   refine ⟨((arr.toList.drop (k.sh + off)).take (n * size)).toArray, by simpa using h3, ?_, fun w => by simp [lenOf], fun d => ?_⟩
   ·simp; omega
   ·unfold firstCells
    exact run_loadCells (W := { W with drawn := d }) (e := e) (fz := fz) h1 h2
  ·cases h
 ·cases h
theorem srcElems_rel {agg : Bool} {size : Nat} {v : AV} {x : Value} {ys : List AV} (h : srcElems s.heap agg size v = some ys) (hv : VR β v x) :
  ∃ new : Array Value, VRs β (ys.flatMap AV.cells) new.toList /\ new.size = ys.length * size /\ (∀ w, (lenOf x).run P w = .ok ys.length w) /\ (∀ d, (firstCells size ys.length x).run P { W with drawn := d } = .ok new { W with drawn := d }) := by
 have same : ∀ {cs : List AV}, srcCells s.heap size v = some (ys.length, cs) -> ys.flatMap AV.cells = cs -> ∃ new : Array Value, VRs β (ys.flatMap AV.cells) new.toList /\ new.size = ys.length * size /\ (∀ w, (lenOf x).run P w = .ok ys.length w) /\ (∀ d, (firstCells size ys.length x).run P { W with drawn := d } = .ok new { W with drawn := d }) := by
  intro cs h1 h2
  obtain ⟨new, n1, n2, n3, n4⟩ := srcCells_rel hT hw hf h1 hv
  exact ⟨new, by rw [h2]; exact n1, n2, n3, n4⟩
 unfold srcElems at h
 split at h
 ·rename_i tk es
  cases hso : es.all (sizeOk size) with
  | false => rw [hso] at h; cases h
  | true =>
   rw [hso, cond_true] at h; cases h
   exact same (by unfold srcCells; simp only; rw [hso, cond_true]) rfl
 ·rename_i l
  rw [beq_if] at h
  split at h
  ·rename_i h1
   subst h1
   cases h
   refine same (cs := l.map fun b => .lit (.int .u8 b.toNat)) (by simp [srcCells]) ?_
   clear hv same
   induction l with
   | nil => rfl
   | cons b l ih => rw [List.map_cons, List.flatMap_cons, ih]; rfl
  ·cases h
 ·cases h; exact same (cs := []) (by simp [srcCells]) rfl
 ·cases h; exact same (cs := []) (by simp [srcCells]) rfl
 ·rename_i o off n cap
  split at h
  ·rename_i l hl
   cases hb : (agg || (Nat.beq size 1 && l.all oneCell)) with
   | false => rw [hb] at h; cases h
   | true =>
    rw [hb, cond_true] at h; cases h
    have hll : l.length = n * size := by
     obtain ⟨k, c, hk, _, _⟩ := hv.of_slc
     obtain ⟨arr, e, fz, h1, h2, h3⟩ := rd_rel hw hl hk
     have := h3.length
     simp at this; omega
    refine same (cs := l) (by simp only [srcCells, hl, chunk_length]) ?_
    cases agg with
    | true => exact chunk_flat size n l hll
    | false =>
     simp only [Bool.false_or, Bool.and_eq_true] at hb
     have h1 : size = 1 := Nat.eq_of_beq_eq_true hb.1
     subst h1
     obtain ⟨c1, c2⟩ := chunk_one n l (by simpa using hll) hb.2
     rw [c1, c2]
  ·cases h
 ·cases h
theorem store_rel {t : TypeId} {x y : Operand} {v : AV} {H' : Tr AO} {hs' : Nat} (h : effOp T s (.store t x y) = some (v, H', hs')) : ∃ v' W', Left β B s.hs v H' hs' v' W' /\ Does P a (.store t x y) v' W W' := by
 simp only [effOp] at h
 split at h
 ·rename_i o off u ti h1 h2 h3
  cases hb : (Nat.beq u.cells.length ti.size && flatOk u) with
  | false => rw [hb] at h; cases h
  | true =>
   rw [hb, cond_true] at h
   simp only [Bool.and_eq_true] at hb
   split at h
   ·rename_i H2 hwr
    cases h
    obtain ⟨k, hk, e1⟩ := (opd_rel hf h1).of_ptr
    have hu := opd_rel hf h2
    have hc := hu.cells_ok hb.2
    obtain ⟨W', w1, w2⟩ := wr_rel hw (P := P) hwr hk hc
    refine ⟨undef, W', ⟨β, Env.le.refl _, fun _ _ => rfl, w2, Nat.le_refl _, udef_rel _⟩, fun dst ty pos after guard => .inr ⟨?_, rfl⟩⟩
    have hsz : (a.eval y).cells.size = ti.size := by
     have := hc.length
     simp only [Array.length_toList] at this
     rw [this]; exact Nat.eq_of_beq_eq_true hb.1
    have hne : ¬ ((a.eval y).cells.size ≠ ti.size) := by simp [hsz]
    simp only [execOp, Instr.storeAt, Instr.sureAddr, e1, storeVar, Sem.run_bind, Sem.run_pure, Result.andThen_ok, run_size hT h3]
    rw [if_neg hne]
    simp only [pure_bind, Sem.run_bind, w1, Result.andThen_ok, Sem.run_pure]
   ·cases h
 ·cases h
theorem appendC_rel {x y : Operand} {st ys : TypeId} {v : AV} {H' : Tr AO} {hs' : Nat} (h : effOp T s (.call ⟨.builtin .append, #[x, y], #[st, ys]⟩) = some (v, H', hs')) :
  ∃ v' W', Left β B s.hs v H' hs' v' W' /\ Does P a (.call ⟨.builtin .append, #[x, y], #[st, ys]⟩) v' W W' := by
 have fin : ∀ {e : TypeId} {size bytes n : Nat} {u : AV} {cs : List AV} {new : Array Value} (hA : ∀ ty, App P W e size bytes n new fun q => append_ #[st, ys] ty #[q, a.eval y]) (hu : VR β u (a.eval x)) (hcs : VRs β cs new.toList)
   (happ : append' s.heap s.hs size bytes u n cs = some (v, H', hs')), ∃ v' W', Left β B s.hs v H' hs' v' W' /\ Does P a (.call ⟨.builtin .append, #[x, y], #[st, ys]⟩) v' W W' := by
  intro e size bytes n u cs new hA hu hcs happ
  obtain ⟨v', W', β', g1, g2, g3, g4, g5, g6⟩ := append_rel hw hu happ hcs (hA 0)
  refine ⟨v', W', ⟨β', g1, g2, g3, g4, g5⟩, fun dst ty pos after guard => .inl ?_⟩
  rw [exec_call_builtin]
  have hm : (#[x, y].map a.eval : Array Value) = #[a.eval x, a.eval y] := by simp
  rw [hm]
  simp only [builtin, Sem.run_bind]
  rw [show append_ #[st, ys] ty #[a.eval x, a.eval y] = append_ #[st, ys] 0 #[a.eval x, a.eval y] from rfl, g6]
  rfl
 have finL : ∀ {e : TypeId} {size bytes : Nat} {tk : ATk} {es zs : List AV} {new : Array Value} (hA : ∀ ty, App P W e size bytes zs.length new fun q => append_ #[st, ys] ty #[q, a.eval y]) (hu : VR β (.lst tk es) (a.eval x)) (hcs : VRs β (zs.flatMap AV.cells) new.toList)
   (happ : appendL s.heap s.hs size bytes tk es zs = some (v, H', hs')), ∃ v' W', Left β B s.hs v H' hs' v' W' /\ Does P a (.call ⟨.builtin .append, #[x, y], #[st, ys]⟩) v' W W' := by
  intro e size bytes tk es zs new hA hu hcs happ
  obtain ⟨v', W', β', g1, g2, g3, g4, g5, g6⟩ := appendL_rel hw hu happ hcs (hA 0)
  refine ⟨v', W', ⟨β', g1, g2, g3, g4, g5⟩, fun dst ty pos after guard => .inl ?_⟩
  rw [exec_call_builtin]
  have hm : (#[x, y].map a.eval : Array Value) = #[a.eval x, a.eval y] := by simp
  rw [hm]
  simp only [builtin, Sem.run_bind]
  rw [show append_ #[st, ys] ty #[a.eval x, a.eval y] = append_ #[st, ys] 0 #[a.eval x, a.eval y] from rfl, g6]
  rfl
 simp only [effOp] at h
 split at h
 ·rename_i u w si yi h1 h2 h3 h4
  split at h
  ·rename_i e kk hd hyd
   split at h
   ·rename_i ei n he
    cases hb : (Nat.blt 0 ei.bytes && Nat.blt 0 ei.size && decide (ei.zero.cells.length = ei.size) && flatOk ei.zero && decide (0 < n /\ n <= 1000000 /\ n * ei.bytes <= 281474976710656)) with
    | false => rw [hb] at h; cases h
    | true =>
     rw [hb, cond_true] at h
     simp only [Bool.and_eq_true, blt_lt, decide_eq_true_eq] at hb
     obtain ⟨⟨⟨⟨b1, b2⟩, b3⟩, b4⟩, b5, b6, b7⟩ := hb
     obtain ⟨z, hz, hzr⟩ := zero_all hT he
     have hzc := (hzr β).cells_ok b4
     have hzs : z.cells.size = ei.size := by have := hzc.length; simp only [Array.length_toList] at this; omega
     have ey := (opd_rel hf h2).of_lit
     have hpos : n.toNat * ei.size ≠ 0 := by
      have : 0 < n.toNat * ei.size := Nat.mul_pos (by omega) b2
      omega
     refine fin (e := e) (new := zeroCells z.cells n.toNat) (fun ty => ?_) (opd_rel hf h1) ?_ h
     ·rw [ey]
      refine ⟨by rw [zeroCells_size, hzs], b2, fun base sLen sCap W' hle hst => run_appendZ_in hT h3 hd he h4 hyd hz (by omega) b6 b7 hpos hle hst ty, fun hn base sLen sCap old hold hgt hroom => ?_⟩
      obtain ⟨c, q1, q2⟩ := run_appendZ_out hT h3 hd he h4 hyd hz (by omega) b6 b7 hpos hold hgt b1 hroom ty
      exact ⟨c, _, q1, by rw [zeroCells_size, hzs], q2⟩
     ·have := zeros_rel hzc (by omega) n.toNat (n.toNat * z.cells.size) (by rw [hzs, b3])
      simpa [zeroCells] using this
   ·cases h
  ·rename_i e hd hneg
   split at h
   ·rename_i ei he
    cases hb : (Nat.blt 0 ei.bytes && Nat.blt 0 ei.size && decide (ei.zero.cells.length = ei.size) && flatOk ei.zero) with
    | false => rw [hb] at h; cases h
    | true =>
     rw [hb, cond_true] at h
     simp only [Bool.and_eq_true, blt_lt, decide_eq_true_eq] at hb
     obtain ⟨⟨⟨b1, b2⟩, b3⟩, b4⟩ := hb
     split at h
     ·rename_i tk es hlo
      have hul : VR β (.lst tk es) (a.eval x) := by
       have hr := opd_rel hf h1
       have hlo := lstX_some hlo
       unfold lstOf at hlo
       split at hlo
       ·cases hlo; exact hr
       ·cases hlm : s.md.lm with
        | false => rw [hlm] at hlo; cases hlo
        | true =>
         rw [hlm] at hlo; cases hlo
         rw [hr.of_lit]; exact VR.lstN _
       ·cases hlo
      split at h
      ·rename_i zs hsrc
       obtain ⟨new, g1, g2, g3, g4⟩ := srcElems_rel hT hw hf hsrc (opd_rel hf h2)
       obtain ⟨z, hz, hzr⟩ := zero_all hT he
       have hzc := (hzr β).cells_ok b4
       have hzs : z.cells.size = ei.size := by have := hzc.length; simp only [Array.length_toList] at this; omega
       have hnz : (yi.desc matches .int _) = false := by
        cases hyd : yi.desc <;> first | rfl | exact (hneg _ hyd).elim
       refine finL (e := e) (new := new) (fun ty => ?_) hul g1 h
       refine ⟨g2, b2, fun base sLen sCap W' hle hst => run_append_in hT h3 hd he h4 hnz g3 (by have := g4 W.drawn; exact this) hle hst ty, fun hn base sLen sCap old hold hgt hroom => ?_⟩
       obtain ⟨c, q1, q2⟩ := run_append_out hT h3 hd he h4 hnz hz g3 g4 hold hgt b1 hroom ty
       exact ⟨c, _, q1, by rw [zeroCells_size, hzs], q2⟩
      ·cases h
     split at h
     ·rename_i n cs hsrc
      obtain ⟨new, g1, g2, g3, g4⟩ := srcCells_rel hT hw hf hsrc (opd_rel hf h2)
      obtain ⟨z, hz, hzr⟩ := zero_all hT he
      have hzc := (hzr β).cells_ok b4
      have hzs : z.cells.size = ei.size := by have := hzc.length; simp only [Array.length_toList] at this; omega
      have hnz : (yi.desc matches .int _) = false := by
       cases hyd : yi.desc <;> first | rfl | exact (hneg _ hyd).elim
      refine fin (e := e) (new := new) (fun ty => ?_) (opd_rel hf h1) g1 h
      refine ⟨g2, b2, fun base sLen sCap W' hle hst => run_append_in hT h3 hd he h4 hnz g3 (by have := g4 W.drawn; exact this) hle hst ty, fun hn base sLen sCap old hold hgt hroom => ?_⟩
      obtain ⟨c, q1, q2⟩ := run_append_out hT h3 hd he h4 hnz hz g3 g4 hold hgt b1 hroom ty
      exact ⟨c, _, q1, by rw [zeroCells_size, hzs], q2⟩
     ·cases h
   ·cases h
  ·cases h
 ·cases h
theorem copyC_rel {c : Call} (hc : c.callee = .builtin .copy) {v : AV} {H' : Tr AO} {hs' : Nat} (h : effOp T s (.call c) = some (v, H', hs')) :
  ∃ v' W', Left β B s.hs v H' hs' v' W' /\ Does P a (.call c) v' W W' := by
 obtain ⟨callee, args, tys⟩ := c
 simp only at hc; subst hc
 simp only [effOp] at h
 split at h
 ·cases ‹Callee.builtin Builtin.copy = _›
 ·rename_i p q st rest _ ha ht
  have ea : args = #[p, q] := by apply Array.ext'; simpa using ha
  subst ea
  split at h
  ·rename_i u w si h1 h2 h3
   split at h
   ·rename_i e hd
    split at h
    ·rename_i ei he
     split at h
     ·rename_i o off len cap
      split at h
      ·rename_i o2 off2 n2 cap2
       split at h
       ·rename_i cs hcs
        split at h
        ·rename_i H2 hwr
         cases h
         obtain ⟨k, c1, hk, e1, _⟩ := (opd_rel hf h1).of_slc
         obtain ⟨k2, c2, hk2, e2, _⟩ := (opd_rel hf h2).of_slc
         obtain ⟨arr, ae, fz, r1, r2, r3⟩ := rd_rel hw hcs hk2
         obtain ⟨W', w1, w2⟩ := wr_rel hw (P := P) hwr hk r3
         refine ⟨_, W', ⟨β, Env.le.refl _, fun _ _ => rfl, w2, Nat.le_refl _, VR.lit _⟩, fun dst ty pos after guard => .inl ?_⟩
         rw [exec_call_builtin]
         have hm : (#[p, q].map a.eval : Array Value) = #[a.eval p, a.eval q] := by simp
         have ht0 : tys[0]? = some st := by
          have : tys[0]? = tys.toList[0]? := by simp
          rw [this, ht]; rfl
         rw [hm, e1, e2]
         simp only [builtin, Sem.run_bind, copy_, ht0, List.getElem?_toArray, List.getElem?_cons_zero, List.getElem?_cons_succ, run_und hT h3, hd, Result.andThen_ok, lenOf, Sem.run_pure, run_size hT he, firstCells]
         rw [show Nat.min n2 len = min n2 len from rfl, run_loadCells r1 r2]
         simp only [Result.andThen_ok, Sem.run_bind, w1, Sem.run_pure]
         rfl
        ·cases h
       ·cases h
      ·rename_i tk es
       cases hso : es.all (sizeOk ei.size) with
       | false => rw [hso] at h; cases h
       | true =>
        rw [hso, cond_true] at h
        split at h
        ·rename_i H2 hwr
         cases h
         obtain ⟨k, c1, hk, e1, _⟩ := (opd_rel hf h1).of_slc
         obtain ⟨new, n1, n2, n3, n4⟩ := list_src (P := P) hw (opd_rel hf h2) hso
         have hso' := hso
         simp only [List.all_eq_true, sizeOk_iff] at hso'
         have hcsr : VRs β ((es.take len).flatMap AV.cells) (new.toList.take (min es.length len * ei.size)) := by
          have := n1.take (min es.length len * ei.size)
          rw [flat_take hso'] at this
          rw [show es.take len = es.take (min es.length len) from by rw [List.take_eq_take_iff]; omega]
          exact this
         obtain ⟨W', w1, w2⟩ := wr_rel hw (P := P) hwr hk hcsr
         refine ⟨_, W', ⟨β, Env.le.refl _, fun _ _ => rfl, w2, Nat.le_refl _, VR.lit _⟩, fun dst ty pos after guard => .inl ?_⟩
         rw [exec_call_builtin]
         have hm : (#[p, q].map a.eval : Array Value) = #[a.eval p, a.eval q] := by simp
         have ht0 : tys[0]? = some st := by
          have : tys[0]? = tys.toList[0]? := by simp
          rw [this, ht]; rfl
         have n5 := n4 W.drawn (min es.length len) (Nat.min_le_left _ _)
         rw [hm, e1]
         have hlo : (lenOf (.slice (some ⟨k.blk, k.sh + off, none⟩) len c1)).run P W = .ok len W := by simp [lenOf]
         simp only [builtin, Sem.run_bind, copy_, ht0, List.getElem?_toArray, List.getElem?_cons_zero, List.getElem?_cons_succ, run_und hT h3, hd, Result.andThen_ok, n3, hlo, Sem.run_pure, run_size hT he]
         rw [show Nat.min es.length len = min es.length len from rfl, n5]
         simp only [Result.andThen_ok, Sem.run_bind, w1, Sem.run_pure]
         rfl
        ·cases h
      ·rename_i l
       rw [beq_if] at h
       split at h
       ·rename_i hs1
        split at h
        ·rename_i H2 hwr
         cases h
         obtain ⟨k, c1, hk, e1, _⟩ := (opd_rel hf h1).of_slc
         have e2 := (opd_rel hf h2).of_str
         have hcsr : VRs β ((l.take len).map fun b => .lit (.int .u8 b.toNat)) ((l.take len).map fun b => Value.int .u8 b.toNat) := by
          generalize l.take len = l'
          induction l' with
          | nil => exact .nil
          | cons b l' ih => exact .cons _ _ _ _ (.lit _) ih
         obtain ⟨W', w1, w2⟩ := wr_rel hw (P := P) hwr hk hcsr
         refine ⟨_, W', ⟨β, Env.le.refl _, fun _ _ => rfl, w2, Nat.le_refl _, VR.lit _⟩, fun dst ty pos after guard => .inl ?_⟩
         rw [exec_call_builtin]
         have hm : (#[p, q].map a.eval : Array Value) = #[a.eval p, a.eval q] := by simp
         have ht0 : tys[0]? = some st := by
          have : tys[0]? = tys.toList[0]? := by simp
          rw [this, ht]; rfl
         rw [hm, e1, e2]
         simp only [builtin, Sem.run_bind, copy_, ht0, List.getElem?_toArray, List.getElem?_cons_zero, List.getElem?_cons_succ, run_und hT h3, hd, Result.andThen_ok, lenOf, Sem.run_pure, run_size hT he, firstCells, str_size]
         have hx : ((⟨l.toArray⟩ : ByteArray).extract 0 (Nat.min l.length len)) = ⟨(l.take len).toArray⟩ := by
          rw [extract_str]; simp only [List.drop_zero]
          congr 2
          rw [List.take_eq_take_iff]; show min (min l.length len) _ = _; omega
         rw [hx]
         have hy : (Array.map (fun b => Value.int IntKind.u8 ↑b.toNat) (⟨(List.take len l).toArray⟩ : ByteArray).data).toList = (l.take len).map fun b => Value.int .u8 b.toNat := by simp
         rw [hy, w1]
         rfl
        ·cases h
       ·cases h
      ·cases h
     ·cases h
    ·cases h
   ·cases h
  ·cases h
 ·cases ‹Callee.builtin Builtin.copy = _›
 ·cases ‹Callee.builtin Builtin.copy = _›
 ·cases h
theorem clearC_rel {c : Call} (hc : c.callee = .builtin .clear) {v : AV} {H' : Tr AO} {hs' : Nat} (h : effOp T s (.call c) = some (v, H', hs')) :
  ∃ v' W', Left β B s.hs v H' hs' v' W' /\ Does P a (.call c) v' W W' := by
 obtain ⟨callee, args, tys⟩ := c
 simp only at hc; subst hc
 simp only [effOp] at h
 split at h
 ·cases ‹Callee.builtin Builtin.clear = _›
 ·cases ‹Callee.builtin Builtin.clear = _›
 ·cases ‹Callee.builtin Builtin.clear = _›
 ·rename_i p st rest _ ha ht
  have ea : args = #[p] := by apply Array.ext'; simpa using ha
  subst ea
  split at h
  ·rename_i o off len cap si h1 h3
   split at h
   ·rename_i e hd
    split at h
    ·rename_i ei he
     cases hb : (Nat.blt 0 len && Nat.blt 0 ei.size && decide (ei.zero.cells.length = ei.size) && flatOk ei.zero) with
     | false => rw [hb] at h; cases h
     | true =>
      rw [hb, cond_true] at h
      simp only [Bool.and_eq_true, blt_lt, decide_eq_true_eq] at hb
      obtain ⟨⟨⟨b1, b2⟩, b3⟩, b4⟩ := hb
      split at h
      ·rename_i H2 hwr
       cases h
       obtain ⟨k, c1, hk, e1, _⟩ := (opd_rel hf h1).of_slc
       obtain ⟨z, hz, hzr⟩ := zero_all hT he
       have hzc := (hzr β).cells_ok b4
       have hzs : z.cells.size = ei.size := by have := hzc.length; simp only [Array.length_toList] at this; omega
       have hcsr := zeros_rel hzc (by omega) len (len * z.cells.size) (by rw [hzs, b3])
       obtain ⟨W', w1, w2⟩ := wr_rel hw (P := P) hwr hk hcsr
       refine ⟨.tuple #[], W', ⟨β, Env.le.refl _, fun _ _ => rfl, w2, Nat.le_refl _, udef_rel _⟩, fun dst ty pos after guard => .inl ?_⟩
       rw [exec_call_builtin]
       have hm : (#[p].map a.eval : Array Value) = #[a.eval p] := by simp
       have ht0 : tys[0]? = some st := by
        have : tys[0]? = tys.toList[0]? := by simp
        rw [this, ht]; rfl
       obtain ⟨n, rfl⟩ : ∃ n, len = n + 1 := ⟨len - 1, by omega⟩
       rw [hm, e1]
       have w1' := w1
       simp only [builtin, Sem.run_bind, clear_, ht0, List.getElem?_toArray, List.getElem?_cons_zero, List.getElem?_cons_succ, run_und hT h3, hd, Result.andThen_ok, hz, zeroCells]
       rw [w1]
       rfl
      ·cases h
    ·cases h
   ·cases h
  ·cases h
 ·cases h
end
end Go.Proofs.YtcledcfeddlomaaGreatDoor.Ev
