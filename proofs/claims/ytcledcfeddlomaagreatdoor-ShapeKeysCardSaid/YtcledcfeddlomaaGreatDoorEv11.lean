import Derived.Test.YtcledcfeddlomaaGreatDoorEv8
set_option linter.all false
namespace Go.Proofs.YtcledcfeddlomaaGreatDoor.Ev
open Go.RowKit
def szOf (T : Tab) (t : Nat) : Nat := match T.t t with | some i => i.size | none => 0
theorem run_places' {P : Program} {T : Tab} (hT : TOk P T) (W : World) : ∀ (fs : List Field), (∀ f ∈ fs, (T.t f.type).isSome = true) ->
  (fs.mapM fun f => do pure (f.offset, <- sizeOf f.type) : Sem (List (Nat × Nat))).run P W = .ok (fs.map fun f => (f.offset, szOf T f.type)) W
 | [], _ => by simp
 | f :: fs, h => by
  obtain ⟨i, hi⟩ := Option.isSome_iff_exists.1 (h f (by simp))
  have ih := run_places' hT W fs (fun g hg => h g (by simp [hg]))
  have hs := run_size hT hi W
  have e : szOf T f.type = i.size := by simp [szOf, hi]
  rw [List.mapM_cons]
  simp only [Sem.run_bind, hs, Result.andThen_ok, Sem.run_pure, ih, List.map_cons, e]
section
variable {P : Program} {T : Tab} (hT : TOk P T) {β : Env} {s : AS} {a : Act} (hf : FR β s a)
include hT hf
theorem build_rel {t : TypeId} {parts : Array (Nat × Operand)} {v : AV} (h : pureOp T s (.build t parts) = some v) : ∃ v', VR β v v' /\ Yl P a (.build t parts) v' := by
 simp only [pureOp] at h
 split at h
 ·rename_i ps ti h1 h2
  have hps := opdParts_rel hf h1
  have epr : (parts.map fun (i, x) => (i, a.eval x)).toList = parts.toList.map fun p => (p.1, a.eval p.2) := by simp
  split at h
  ·rename_i fs z hd hz
   split at h
   ·rename_i cs hfill
    cases hc : ((fs.toList.all fun f => (T.t f.type).isSome) && ps.all fun p => flatOk p.2) with
    | false => rw [hc] at h; cases h
    | true =>
     rw [hc, cond_true] at h; cases h
     simp only [Bool.and_eq_true, List.all_eq_true] at hc
     obtain ⟨zv, hzr, hzv⟩ := run_zero hT h2 (default : World)
     have hzv' := hzv β
     rw [hz] at hzv'
     obtain ⟨X, rfl, hX⟩ := hzv'.of_agg
     have hpl : ∀ i p, places T fs i = some p -> (fs.toList.map fun f : Field => (f.offset, szOf T f.type)).toArray[i]? = some p := by
      intro i p hp
      unfold places at hp
      split at hp
      ·rename_i f hfi
       split at hp
       ·rename_i fi hfi2
        cases hp
        have hlt : i < fs.size := (Array.getElem?_eq_some_iff.1 hfi).1
        simp [hfi, szOf, hfi2]
       ·cases hp
      ·cases hp
     obtain ⟨y, hy, hyr⟩ := fillV_rel hpl (fun p hp => hc.2 p hp) hfill hps hX
     refine ⟨.agg y, by simpa using VR.agg _ _ hyr, Yl.of (m := Instr.build t (parts.map fun (i, x) => (i, a.eval x))) (fun _ _ _ _ _ => rfl) fun W => ?_⟩
     have hz0 : (zeroValue t).run P W = .ok (.agg X) W := by
      obtain ⟨inf, q1, _, _, z', q2, _⟩ := (hT.ty t ti h2).2.1
      have : (zeroValue t).run P (default : World) = .ok z' default := by simp [zeroValue, typeInfo, q1, q2]
      rw [this] at hzr; cases hzr
      simp [zeroValue, typeInfo, q1, q2]
     have hm : (fs.mapM fun f => do pure (f.offset, <- sizeOf f.type) : Sem (Array (Nat × Nat))).run P W = .ok (fs.toList.map fun f : Field => (f.offset, szOf T f.type)).toArray W := by
      rw [Array.mapM_eq_mapM_toList]
      rw [Sem.run_map, run_places' hT W fs.toList hc.1]
      rfl
     simp only [Instr.build, Sem.run_bind, hz0, Result.andThen_ok, run_und hT h2, hd, hm, Value.cells, epr, hy, Sem.run_pure]
   ·cases h
  ·rename_i n e z hd hz
   split at h
   ·rename_i ei he
    split at h
    ·rename_i cs hfill
     cases hc : (ps.all fun p => flatOk p.2) with
     | false => rw [hc] at h; cases h
     | true =>
      rw [hc, cond_true] at h; cases h
      simp only [List.all_eq_true] at hc
      obtain ⟨zv, hzr, hzv⟩ := run_zero hT h2 (default : World)
      have hzv' := hzv β
      rw [hz] at hzv'
      obtain ⟨X, rfl, hX⟩ := hzv'.of_agg
      obtain ⟨y, hy, hyr⟩ := fillV_rel (place' := fun i => some (i * ei.size, ei.size)) (fun i p hp => hp) (fun p hp => hc p hp) hfill hps hX
      refine ⟨.agg y, by simpa using VR.agg _ _ hyr, Yl.of (m := Instr.build t (parts.map fun (i, x) => (i, a.eval x))) (fun _ _ _ _ _ => rfl) fun W => ?_⟩
      have hz0 : (zeroValue t).run P W = .ok (.agg X) W := by
       obtain ⟨inf, q1, _, _, z', q2, _⟩ := (hT.ty t ti h2).2.1
       have : (zeroValue t).run P (default : World) = .ok z' default := by simp [zeroValue, typeInfo, q1, q2]
       rw [this] at hzr; cases hzr
       simp [zeroValue, typeInfo, q1, q2]
      simp only [Instr.build, Sem.run_bind, hz0, Result.andThen_ok, run_und hT h2, hd, run_size hT he, Value.cells, epr, hy, Sem.run_pure]
    ·cases h
   ·cases h
  ·cases h
 ·cases h
end
theorem ble_le {a b : Nat} : Nat.ble a b = true ↔ a <= b := by rw [Nat.ble_eq]
theorem blt_lt {a b : Nat} : Nat.blt a b = true ↔ a < b := by rw [Nat.blt_eq]
theorem bnd_rel {β : Env} {s : AS} {a : Act} (hf : FR β s a) {x : Option Operand} {d n : Nat} (h : bnd s x d = some n) :
  (x = none /\ n = d) ∨ ∃ y k z, x = some y /\ a.eval y = .int k z /\ 0 <= z /\ n = z.toNat := by
 unfold bnd at h
 split at h
 ·left; cases h; exact ⟨rfl, rfl⟩
 ·rename_i y
  split at h
  ·rename_i k z hz
   rw [Bool.cond_decide] at h
   split at h
   ·rename_i h0
    cases h
    exact .inr ⟨y, k, z, rfl, (opd_rel hf hz).of_lit, h0, rfl⟩
   ·cases h
  ·cases h
theorem run_bound {P : Program} {W : World} {k : IntKind} {z : Int} {y : Nat} {code : BoundsCode} (h0 : 0 <= z) (h1 : z.toNat <= y) : (Instr.sliceBound (.int k z) y code).run P W = .ok z.toNat W := by
 have : 0 <= z /\ z <= (y : Int) := ⟨h0, by omega⟩
 simp [Instr.sliceBound, asIntOf, this]
theorem run_bounds {P : Program} {W : World} {β : Env} {s : AS} {a : Act} (hf : FR β s a) {lo hi : Option Operand} {iss : Bool} {len cap x y : Nat} (h1 : bnd s lo 0 = some x) (h2 : bnd s hi len = some y) (hxy : x <= y) (hy : y <= cap) :
  (Instr.sliceBounds iss len cap (lo.map a.eval) (hi.map a.eval) none).run P W = .ok (x, y, cap) W := by
 unfold Instr.sliceBounds
 rcases bnd_rel hf h2 with ⟨rfl, rfl⟩ | ⟨q, k, z, rfl, eq, z0, rfl⟩
 ·rcases bnd_rel hf h1 with ⟨rfl, rfl⟩ | ⟨q', k', z', rfl, eq', z0', rfl⟩
  ·simp
  ·simp [eq', run_bound z0' hxy]
 ·rcases bnd_rel hf h1 with ⟨rfl, rfl⟩ | ⟨q', k', z', rfl, eq', z0', rfl⟩
  ·simp [eq, run_bound z0 hy]
  ·simp [eq, eq', run_bound z0 hy, run_bound z0' hxy]
theorem run_bounds3 {P : Program} {W : World} {β : Env} {s : AS} {a : Act} (hf : FR β s a) {lo hi mx : Option Operand} {iss : Bool} {len cap x y m : Nat} (h1 : bnd s lo 0 = some x) (h2 : bnd s hi len = some y) (h3 : mxb s hi mx = some (some m)) (hxy : x <= y) (hy : y <= m) (hm : m <= cap) :
  (Instr.sliceBounds iss len cap (lo.map a.eval) (hi.map a.eval) (mx.map a.eval)).run P W = .ok (x, y, m) W := by
 unfold mxb at h3
 split at h3
 ·cases h3
 ·rename_i mo ho
  split at h3
  ·rename_i k hk
   cases h3
   rcases bnd_rel hf hk with ⟨e, _⟩ | ⟨qm, km, zm, em, eqm, zm0, rfl⟩
   ·cases e
   cases em
   unfold Instr.sliceBounds
   rcases bnd_rel hf h2 with ⟨e, _⟩ | ⟨q, k, z, e, eq, z0, rfl⟩
   ·cases e
   cases e
   rcases bnd_rel hf h1 with ⟨rfl, rfl⟩ | ⟨q', k', z', rfl, eq', z0', rfl⟩
   ·simp [eq, eqm, run_bound z0 hy, run_bound zm0 hm]
   ·simp [eq, eqm, eq', run_bound z0 hy, run_bound zm0 hm, run_bound z0' hxy]
  ·cases h3
 ·cases h3
section
variable {P : Program} {T : Tab} (hT : TOk P T) {β : Env} {s : AS} {a : Act} (hf : FR β s a)
include hT hf
theorem slcV_rel {o off len size x y : Nat} {cap : ACap} {m : Option Nat} {v : AV} {k : Bk} {c : Nat} (h : slcV o off len cap size x y m = some v) (hk : β.b o = some k) (hX : ∀ n, cap = .ex n -> c = n)
  (hO : ∀ z, cap = .op z -> k.esz = z /\ k.sh + off + c * z = k.sz /\ len <= c) :
  x <= y /\ y <= (m.getD c) /\ m.getD c <= c /\ VR β v (.slice (some (if m.getD c = x then (⟨k.blk, k.sh + off, none⟩ : Addr) else ⟨k.blk, k.sh + off + x * size, none⟩)) (y - x) (m.getD c - x)) := by
 unfold slcV at h
 split at h
 ·rename_i c'
  obtain rfl := hX _ rfl
  cases hb : (Nat.ble x y && Nat.ble y c) with
  | false => rw [hb] at h; cases h
  | true =>
   rw [hb, cond_true, beq_if] at h; cases h
   simp only [Bool.and_eq_true, ble_le] at hb
   refine ⟨hb.1, hb.2, Nat.le_refl _, ?_⟩
   simp only [Option.getD_none]
   split
   ·exact VR.slcX _ _ _ _ k hk
   ·rw [Nat.add_assoc]; exact VR.slcX _ _ _ _ k hk
 ·rename_i c' m'
  obtain rfl := hX _ rfl
  cases hb : (Nat.ble x y && Nat.ble y m' && Nat.ble m' c) with
  | false => rw [hb] at h; cases h
  | true =>
   rw [hb, cond_true, beq_if] at h; cases h
   simp only [Bool.and_eq_true, ble_le] at hb
   refine ⟨hb.1.1, hb.1.2, hb.2, ?_⟩
   simp only [Option.getD_some]
   split
   ·exact VR.slcX _ _ _ _ k hk
   ·rw [Nat.add_assoc]; exact VR.slcX _ _ _ _ k hk
 ·rename_i z
  obtain ⟨hz, hc, hlen⟩ := hO z rfl
  cases hb : (Nat.ble x y && Nat.ble y len && Nat.beq z size) with
  | false => rw [hb] at h; cases h
  | true =>
   rw [hb, cond_true] at h
   simp only [Bool.and_eq_true, ble_le] at hb
   have hsz : z = size := Nat.eq_of_beq_eq_true hb.2
   subst hsz
   refine ⟨hb.1.1, Nat.le_trans hb.1.2 hlen, Nat.le_refl _, ?_⟩
   simp only [Option.getD_none]
   cases hb2 : (Nat.blt x len || Nat.beq x 0) with
   | true =>
    rw [hb2, cond_true] at h; cases h
    have hb2' : x < len ∨ x = 0 := by
     simp only [Bool.or_eq_true, blt_lt] at hb2
     exact hb2.imp id Nat.eq_of_beq_eq_true
    have hx : x <= c := by omega
    have hcap : k.sh + (off + x * z) + (c - x) * z = k.sz := by
     have : c * z = x * z + (c - x) * z := by rw [<- Nat.add_mul]; congr 1; omega
     omega
    split
    ·rename_i e
     rcases hb2' with hb2 | hb2
     ·omega
     ·subst hb2
      simp only [Nat.zero_mul, Nat.add_zero] at hcap ⊢
      exact VR.slcO _ _ _ _ _ k hk hz (by simpa using hcap) (by omega)
    ·rw [Nat.add_assoc]; exact VR.slcO _ _ _ _ _ k hk hz hcap (by omega)
   | false =>
    rw [hb2, cond_false] at h; cases h
    simp only [Bool.or_eq_false_iff] at hb2
    have hxl : len <= x := by
     refine Nat.le_of_not_lt fun hlt => ?_
     have := blt_lt.2 hlt; rw [this] at hb2; cases hb2.1
    have : y - x = 0 := by omega
    rw [this]
    exact VR.emp _ _
 ·rename_i z m'
  obtain ⟨hz, hc, hlen⟩ := hO z rfl
  cases hb : (Nat.ble x y && Nat.ble y m' && Nat.ble m' len) with
  | false => rw [hb] at h; cases h
  | true =>
   rw [hb, cond_true, beq_if] at h; cases h
   simp only [Bool.and_eq_true, ble_le] at hb
   refine ⟨hb.1.1, hb.1.2, Nat.le_trans hb.2 hlen, ?_⟩
   simp only [Option.getD_some]
   split
   ·exact VR.slcX _ _ _ _ k hk
   ·rw [Nat.add_assoc]; exact VR.slcX _ _ _ _ k hk
omit hT hf in
theorem sub_rel {β : Env} {es : List AV} {vs : List Value} {sz b o size x y M : Nat} {tk : ATk} (g1 : VRs β (es.flatMap AV.cells) vs) (g2 : ∀ e ∈ es, e.cells.length = sz) (g3 : 0 < sz) (g4 : ∀ (i : Nat) v, vs[i]? = some v -> β.fz b (o + i) = some v)
  (hs : es.all (sizeOk size) = true) (hxy : x <= y) (hy : y <= es.length) (hyM : y <= M) (ht : tk = .no ∨ (tk = .full /\ M = y)) :
  VR β (.lst tk ((es.take y).drop x)) (.slice (some (if M = x then (⟨b, o, none⟩ : Addr) else ⟨b, o + x * size, none⟩)) (y - x) (M - x)) := by
 have hlen : ((es.take y).drop x).length = y - x := by simp; omega
 by_cases hlt : x < y
 ·rw [if_neg (by omega)]
  have hx : x < es.length := by omega
  have hmem : es[x] ∈ es := List.getElem_mem hx
  have hsz : sz = size := by
   rw [<- g2 _ hmem]; exact sizeOk_iff.1 (List.all_eq_true.1 hs _ hmem)
  subst hsz
  have g2' : ∀ e ∈ (es.take y), e.cells.length = sz := fun e he => g2 e (List.mem_of_mem_take he)
  have hr := (g1.take (y * sz)).drop (x * sz)
  rw [flat_take g2, flat_drop g2'] at hr
  rw [<- hlen]
  refine VR.lst tk sz _ _ b _ _ hr (fun e he => g2 e (List.mem_of_mem_take (List.mem_of_mem_drop he))) g3 (fun i v hi => ?_) (by omega) ?_
  ·rw [List.getElem?_drop, List.getElem?_take] at hi
   split at hi
   ·rw [Nat.add_assoc]; exact g4 _ _ hi
   ·cases hi
  ·rcases ht with rfl | ⟨rfl, rfl⟩
   ·trivial
   ·show _ = _
    rw [hlen]
 ·have hxy' : x = y := by omega
  subst hxy'
  have : (es.take x).drop x = [] := List.eq_nil_of_length_eq_zero (by omega)
  rw [this, Nat.sub_self]
  refine VR.lstE _ _ _ (fun e => ?_) (fun o e => ?_)
  ·rcases ht with rfl | ⟨rfl, h⟩
   ·cases e
   ·omega
  ·rcases ht with rfl | ⟨rfl, h⟩ <;> cases e
end
theorem extract_str (l : List UInt8) (x y : Nat) : (⟨l.toArray⟩ : ByteArray).extract x y = ⟨((l.take y).drop x).toArray⟩ := by
 apply ByteArray.ext
 rw [ByteArray.data_extract]
 apply Array.ext'
 simp [List.extract_eq_take_drop, List.drop_take]
section
variable {P : Program} {T : Tab} (hT : TOk P T) {β : Env} {s : AS} {a : Act} (hf : FR β s a)
include hT hf
theorem slice_rel {t : TypeId} {x : Operand} {lo hi mx : Option Operand} {v : AV} (h : pureOp T s (.slice t x lo hi mx) = some v) : ∃ v', VR β v v' /\ Yl P a (.slice t x lo hi mx) v' := by
 have go : ∀ v', VR β v v' -> (∀ W, (Instr.sliceAt t (a.eval x) (lo.map a.eval) (hi.map a.eval) (mx.map a.eval)).run P W = .ok v' W) -> ∃ v', VR β v v' /\ Yl P a (.slice t x lo hi mx) v' :=
  fun v' h1 h2 => ⟨v', h1, Yl.of (m := Instr.sliceAt t (a.eval x) (lo.map a.eval) (hi.map a.eval) (mx.map a.eval)) (fun _ _ _ _ _ => rfl) h2⟩
 simp only [pureOp] at h
 split at h
 ·rename_i l ti h1 h2
  split at h
  ·rename_i hd
   split at h
   ·rename_i p q hp hq
    cases hb : (Nat.ble p q && Nat.ble q l.length) with
    | false => rw [hb] at h; cases h
    | true =>
     rw [hb, cond_true] at h; cases h
     simp only [Bool.and_eq_true, ble_le] at hb
     have e := (opd_rel hf h1).of_str
     refine go _ (VR.str _) fun W => ?_
     rw [e]
     have hbd := run_bounds (P := P) (W := W) hf (iss := false) (cap := l.length) hp hq hb.1 hb.2
     simp only [Instr.sliceAt, Instr.slice, Sem.run_bind, run_und hT h2, hd, Result.andThen_ok, Option.map_none, Option.isSome_none, Bool.false_eq_true, if_false, Sem.run_pure, str_size, hbd, extract_str, pure_bind]
   ·cases h
  ·cases h
 ·rename_i o off len cap ti h1 h2
  split at h
  ·rename_i e hd
   split at h
   ·rename_i ei p q m he hp hq hm
    obtain ⟨k, c, hk, ev, hX, hO⟩ := (opd_rel hf h1).of_slc
    obtain ⟨g1, g2, g3, g4⟩ := slcV_rel hT hf h hk hX hO
    refine go _ g4 fun W => ?_
    rw [ev]
    have hbd : (Instr.sliceBounds true len c (lo.map a.eval) (hi.map a.eval) (mx.map a.eval)).run P W = .ok (p, q, m.getD c) W := by
     cases m with
     | none =>
      have : mx = none := by
       unfold mxb at hm
       split at hm
       ·rfl
       ·split at hm <;> cases hm
       ·cases hm
      subst this
      exact run_bounds hf hp hq g1 g2
     | some m => exact run_bounds3 hf hp hq hm g1 g2 g3
    simp only [Instr.sliceAt, Instr.slice, Sem.run_bind, run_und hT h2, hd, Result.andThen_ok, hbd, run_size hT he, Sem.run_pure]
    congr 2
    split
    ·rfl
    ·simp [add_addr]
   ·cases h
  ·cases h
 ·rename_i tk es ti h1 h2
  have fin : ∀ {ei : TI} {e : Nat} {p q : Nat} {m : Option Nat} {tk' : ATk}, ti.desc = .slice e -> T.t e = some ei -> bnd s lo 0 = some p -> bnd s hi es.length = some q -> mxb s hi mx = some m -> p <= q -> q <= m.getD es.length -> m.getD es.length <= es.length -> es.all (sizeOk ei.size) = true ->
    (tk' = .no ∨ (tk' = .full /\ m = some q)) -> ∃ v', VR β (.lst tk' ((es.take q).drop p)) v' /\ Yl P a (.slice t x lo hi mx) v' := by
   intro ei e p q m tk' hd he hp hq hm hpq hqm hml hso htk
   have go : ∀ {v : AV} v', VR β v v' -> (∀ W, (Instr.sliceAt t (a.eval x) (lo.map a.eval) (hi.map a.eval) (mx.map a.eval)).run P W = .ok v' W) -> ∃ v', VR β v v' /\ Yl P a (.slice t x lo hi mx) v' :=
    fun v' h1 h2 => ⟨v', h1, Yl.of (m := Instr.sliceAt t (a.eval x) (lo.map a.eval) (hi.map a.eval) (mx.map a.eval)) (fun _ _ _ _ _ => rfl) h2⟩
   have hbd : ∀ (W : World) (c : Nat), es.length <= c -> (Instr.sliceBounds true es.length c (lo.map a.eval) (hi.map a.eval) (mx.map a.eval)).run P W = .ok (p, q, m.getD c) W := by
    intro W c hc
    cases m with
    | none =>
     have : mx = none := by
      unfold mxb at hm
      split at hm
      ·rfl
      ·split at hm <;> cases hm
      ·cases hm
     subst this
     exact run_bounds hf hp hq hpq (by simp only [Option.getD_none] at hqm; omega)
    | some m => exact run_bounds3 hf hp hq hm hpq hqm (Nat.le_trans (show m <= es.length from hml) hc)
   rcases (opd_rel hf h1).of_lst with ⟨rfl, ev⟩ | ⟨rfl, ad, c, ev, _⟩ | ⟨sz, vs, b, o, c, ev, g1, g2, g3, g4, g5, g6⟩
   ·have hq0 : q = 0 := by simp only [List.length_nil] at *; omega
    have hp0 : p = 0 := by omega
    subst hq0; subst hp0
    have hl0 : m.getD 0 = 0 := by simpa using hml
    refine go (.slice none 0 0) (by simpa using VR.lstN (β := β) tk') fun W => ?_
    rw [ev]
    have := hbd W 0 (Nat.le_refl _)
    simp only [List.length_nil] at this
    simp only [Instr.sliceAt, Instr.slice, Sem.run_bind, run_und hT h2, hd, Result.andThen_ok, this, run_size hT he, Sem.run_pure, Nat.sub_zero, hl0]
    rfl
   ·have hq0 : q = 0 := by simp only [List.length_nil] at *; omega
    have hp0 : p = 0 := by omega
    subst hq0; subst hp0
    have hv : VR β (.lst tk' []) (.slice (some (if m.getD c = 0 then ad else ad.add (0 * ei.size))) 0 (m.getD c)) := by
     refine VR.lstE _ _ _ (fun e => ?_) (fun o e => ?_)
     ·rcases htk with rfl | ⟨rfl, rfl⟩
      ·cases e
      ·rfl
     ·rcases htk with rfl | ⟨rfl, rfl⟩ <;> cases e
    refine go _ (by simpa using hv) fun W => ?_
    rw [ev]
    have := hbd W c (Nat.zero_le _)
    simp only [List.length_nil] at this
    simp only [Instr.sliceAt, Instr.slice, Sem.run_bind, run_und hT h2, hd, Result.andThen_ok, this, run_size hT he, Sem.run_pure, Nat.sub_zero]
    congr 2
    split <;> simp
   ·have hqM : q <= m.getD c := by
     cases m with
     | none => simp only [Option.getD_none] at *; omega
     | some m => exact hqm
    have htk' : tk' = .no ∨ (tk' = .full /\ m.getD c = q) := by
     rcases htk with h | ⟨h, rfl⟩
     ·exact .inl h
     ·exact .inr ⟨h, rfl⟩
    have hq : q <= es.length := by omega
    refine go _ (sub_rel (size := ei.size) (M := m.getD c) g1 g2 g3 g4 hso hpq hq hqM htk') fun W => ?_
    rw [ev]
    simp only [Instr.sliceAt, Instr.slice, Sem.run_bind, run_und hT h2, hd, Result.andThen_ok, hbd W c g5, run_size hT he, Sem.run_pure]
    congr 2
    split
    ·rfl
    ·simp [add_addr]
  split at h
  ·rename_i e hd
   split at h
   ·rename_i ei p q he hp hq hm
    cases hb : (Nat.ble p q && Nat.ble q es.length && es.all (sizeOk ei.size)) with
    | false => rw [hb] at h; cases h
    | true =>
     rw [hb, cond_true] at h; cases h
     simp only [Bool.and_eq_true, ble_le] at hb
     exact fin hd he hp hq hm hb.1.1 hb.1.2 (Nat.le_refl _) hb.2 (.inl rfl)
   ·rename_i ei p q m he hp hq hm
    cases hb : (Nat.ble p q && Nat.ble q m && Nat.ble m es.length && es.all (sizeOk ei.size)) with
    | false => rw [hb] at h; cases h
    | true =>
     rw [hb, cond_true, beq_if] at h; cases h
     simp only [Bool.and_eq_true, ble_le] at hb
     refine fin hd he hp hq hm hb.1.1.1 hb.1.1.2 hb.1.2 hb.2 ?_
     split
     ·rename_i e; subst e; exact .inr ⟨rfl, rfl⟩
     ·exact .inl rfl
   ·cases h
  ·cases h
 ·rename_i ti h1 h2
  split at h
  ·rename_i e hd
   split at h
   ·rename_i ei hp hq he
    cases h
    have hr := opd_rel hf h1
    have ev : ∃ p q, a.eval x = .slice (some p) 0 q := by
     generalize a.eval x = w at hr
     cases hr
     exact ⟨_, _, rfl⟩
    obtain ⟨ad, c, ev⟩ := ev
    refine go _ (VR.emp (if c = 0 then ad else ad.add (0 * ei.size)) c) fun W => ?_
    rw [ev]
    have hbd := run_bounds (P := P) (W := W) hf (iss := true) (cap := c) hp hq (Nat.le_refl _) (Nat.zero_le _)
    simp only [Instr.sliceAt, Instr.slice, Sem.run_bind, run_und hT h2, hd, Result.andThen_ok, Option.map_none, hbd, run_size hT he, Sem.run_pure, Nat.sub_zero]
    congr 2
    split <;> rfl
   ·cases h
  ·cases h
 ·rename_i ti h1 h2
  split at h
  ·rename_i e hd
   split at h
   ·rename_i ei hp hq he
    cases h
    have ev := (opd_rel hf h1).of_lit
    refine go _ (VR.lit _) fun W => ?_
    rw [ev]
    have hbd := run_bounds (P := P) (W := W) hf (iss := true) (cap := 0) hp hq (Nat.le_refl _) (Nat.zero_le _)
    simp only [Instr.sliceAt, Instr.slice, Sem.run_bind, run_und hT h2, hd, Result.andThen_ok, Option.map_none, hbd, run_size hT he, Sem.run_pure, Nat.sub_zero]
    rfl
   ·cases h
  ·cases h
 ·rename_i o off ti h1 h2
  split at h
  ·rename_i n e hd
   split at h
   ·rename_i ei p q he hp hq
    obtain ⟨k, hk, ev⟩ := (opd_rel hf h1).of_ptr
    obtain ⟨g1, g2, g3, g4⟩ := slcV_rel hT hf (c := n) h hk (fun m hm => by cases hm; rfl) (fun z hz => by cases hz)
    refine go _ g4 fun W => ?_
    rw [ev]
    have hbd := run_bounds (P := P) (W := W) hf (iss := false) (cap := n) hp hq g1 g2
    simp only [Instr.sliceAt, Instr.sureAddr, Sem.run_bind, Sem.run_pure, run_und hT h2, hd, Result.andThen_ok, Option.map_none, hbd, run_size hT he, Option.getD_none]
    congr 2
    split
    ·rfl
    ·simp [add_addr]
   ·cases h
  ·cases h
 ·cases h
theorem pureOp_rel {op : Op} {v : AV} (h : pureOp T s op = some v) : ∃ v', VR β v v' /\ Yl P a op v' := by
 cases op with
 | move x => exact move_rel hf h
 | assign x => exact assign_rel hf h
 | pick c x y => exact pick_rel hf h
 | nilCheck x => exact nilCheck_rel hf h
 | binOp op t x y ty => exact binOp_rel hT hf h
 | unOp op t x => exact unOp_rel hf h
 | convert t u x => exact convP_rel hT hf h
 | makeFunc f x y => exact makeFunc_rel hf h
 | extract x i => exact extract_rel hf h
 | field t x i => exact field_rel hT hf h
 | fieldAddr t x i => exact fieldAddr_rel hT hf h
 | indexAddr t x y => exact indexAddr_rel hT hf h
 | index t x y => exact index_rel hT hf h
 | build t ps => exact build_rel hT hf h
 | slice t x lo hi mx => exact slice_rel hT hf h
 | makeInterface t x => exact makeInterface_rel hf hT h
 | call c => exact len_rel hf hT h
 | _ => simp [pureOp] at h
end
end Go.Proofs.YtcledcfeddlomaaGreatDoor.Ev
