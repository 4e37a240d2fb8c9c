import Derived.Test.YtcledcfeddlomaaGreatDoorEv11
import Derived.Laws.BytesString
import Derived.IntWalk
set_option linter.all false
namespace Go.Proofs.YtcledcfeddlomaaGreatDoor.Ev
open Go.RowKit
theorem cell_at {W : World} {b o : Nat} {arr : Array Value} {e : TypeId} {fz : Nat × Nat} (h : W.heap[b]? = some (.cells arr e fz)) : W.cell? ⟨b, o, none⟩ = arr[o]? := by
 simp [World.cell?, h]
theorem run_loadFrom {P : Program} {W : World} {b o : Nat} {arr : Array Value} {e : TypeId} {fz : Nat × Nat} (h : W.heap[b]? = some (.cells arr e fz)) : ∀ (n i : Nat) (acc : Array Value), o + i + n <= arr.size ->
  (loadCellsFrom ⟨b, o, none⟩ i n acc).run P W = .ok (acc ++ ((arr.toList.drop (o + i)).take n).toArray) W
 | 0, i, acc, _ => by simp [loadCellsFrom]
 | n + 1, i, acc, hn => by
  have hlt : o + i < arr.size := by omega
  have hc : W.cell? ⟨b, o + i, none⟩ = some arr[o + i] := by rw [cell_at h]; simp [hlt]
  simp only [loadCellsFrom, Sem.run_bind, add_addr, run_load, hc, Result.andThen_ok]
  rw [run_loadFrom h n (i + 1) _ (by omega)]
  congr 1
  apply Array.ext'
  have hlt' : o + i < arr.toList.length := by simpa using hlt
  rw [show (arr.toList.drop (o + i)) = arr[o + i] :: arr.toList.drop (o + i + 1) from by
   rw [List.drop_eq_getElem_cons hlt']; simp]
  simp [Nat.add_assoc]
theorem run_loadCells {P : Program} {W : World} {b o n : Nat} {arr : Array Value} {e : TypeId} {fz : Nat × Nat} (h : W.heap[b]? = some (.cells arr e fz)) (hn : o + n <= arr.size) :
  (loadCells ⟨b, o, none⟩ n).run P W = .ok ((arr.toList.drop o).take n).toArray W := by
 unfold loadCells
 rw [run_loadFrom h n 0 #[] (by simpa using hn)]
 simp
section
variable {P : Program} {T : Tab} (hT : TOk P T) {β : Env} {B : Gd} {W : World} {H : Tr AO} {hs : Nat} (hw : WR β B H hs W)
include hw
theorem rd_rel {o off n : Nat} {l : List AV} {k : Bk} (h : rd H o off n = some l) (hk : β.b o = some k) :
  ∃ arr e fz, W.heap[k.blk]? = some (.cells arr e fz) /\ k.sh + off + n <= arr.size /\ VRs β l ((arr.toList.drop (k.sh + off)).take n) := by
 unfold rd at h
 have ho := hw.obj o k hk
 cases hg : H.get .dead o with
 | cells c ro =>
  rw [hg] at h ho
  simp only at h
  cases hb : Nat.ble (off + n) c.length with
  | false => rw [hb] at h; cases h
  | true =>
   rw [hb, cond_true] at h; cases h
   have hle := ble_le.1 hb
   obtain ⟨arr, e, fz, h1, h2, h3, _, _, h6⟩ := ho
   refine ⟨arr, e, fz, h1, by omega, ?_⟩
   refine VRs.of_get (by simp; omega) fun i x v hx hv => ?_
   rw [List.getElem?_take] at hx hv
   split at hx
   ·rename_i hi
    rw [if_pos hi] at hv
    rw [List.getElem?_drop] at hx hv
    obtain ⟨u, hu, hr⟩ := h6 _ _ hx
    rw [Nat.add_assoc] at hv
    have : arr[k.sh + (off + i)]? = some v := by simpa using hv
    rw [hu] at this; cases this; exact hr
   ·cases hx
 | _ => rw [hg] at h; cases h
theorem fz_read {vs : List Value} {b o : Nat} (hv : ∀ (i : Nat) v, vs[i]? = some v -> β.fz b (o + i) = some v) (hne : 0 < vs.length) :
  ∃ arr e fz, W.heap[b]? = some (.cells arr e fz) /\ o + vs.length <= arr.size /\ (arr.toList.drop o).take vs.length = vs := by
 obtain ⟨arr, e, fz, h1, _⟩ := hw.fz b (o + 0) vs[0] (hv 0 vs[0] (by simp [hne]))
 have key : ∀ (i : Nat) v, vs[i]? = some v -> arr[o + i]? = some v := fun i v hi => by
  obtain ⟨arr', e', fz', g1, g2⟩ := hw.fz b (o + i) v (hv i v hi)
  rw [h1] at g1; cases g1; exact g2
 refine ⟨arr, e, fz, h1, ?_, ?_⟩
 ·have := (Array.getElem?_eq_some_iff.1 (key (vs.length - 1) _ (List.getElem?_eq_getElem (by omega)))).1
  omega
 ·apply List.ext_getElem?
  intro i
  rw [List.getElem?_take]
  split
  ·rename_i hi
   rw [List.getElem?_drop]
   have := key i vs[i] (by simp [hi])
   rw [List.getElem?_eq_getElem hi]
   simpa using this
  ·rw [List.getElem?_eq_none (by omega)]
include hT
theorem ldv_rel {t : Nat} {x v : AV} {u : Value} (h : ldv T H t x = some v) (hu : VR β x u) : ∃ v', VR β v v' /\ (Instr.loadAt t u).run P W = .ok v' W /\ (∃ ad, u = .pointer (some ad) /\ (loadVar t ad).run P W = .ok v' W) := by
 unfold ldv at h
 split at h
 ·rename_i cs
  split at h
  ·rename_i i hi
   cases hb : (Nat.blt 0 i.size && Nat.ble i.size cs.length) with
   | false => rw [hb] at h; cases h
   | true =>
    rw [hb, cond_true] at h
    simp only [Bool.and_eq_true, blt_lt, ble_le] at hb
    obtain ⟨vs, b, o, rfl, hr, hz⟩ := hu.of_eptr
    have h3 := hr.take i.size
    have hz2 : ∀ (j : Nat) v, (vs.take i.size)[j]? = some v -> β.fz b (o + j) = some v := fun j v hj => by
     rw [List.getElem?_take] at hj; split at hj
     ·exact hz j v hj
     ·cases hj
    have hlen : (vs.take i.size).length = i.size := by have := hr.length; simp; omega
    obtain ⟨arr, e, fz, h1, h2, h4⟩ := fz_read hw hz2 (by omega)
    rw [hlen] at h2 h4
    rw [<- h4] at h3
    cases ha : isAggD i.desc with
    | true =>
     rw [ha, cond_true] at h; cases h
     have key : (loadVar t ⟨b, o, none⟩).run P W = .ok (.agg ((arr.toList.drop o).take i.size).toArray) W := by
      simp only [loadVar, Sem.run_bind, run_isAgg hT hi, ha, Result.andThen_ok, if_true, run_size hT hi, run_loadCells h1 h2, Sem.run_pure]
     refine ⟨_, VR.agg _ _ h3, ?_, _, rfl, key⟩
     simp only [Instr.loadAt, Instr.sureAddr, Sem.run_bind, Sem.run_pure, Result.andThen_ok, key]
    | false =>
     rw [ha, cond_false] at h
     split at h
     ·rename_i x0 hx0
      cases h
      rw [hx0] at h3
      obtain ⟨v', hv', hr'⟩ := h3.get 0 _ rfl
      have hc : arr[o]? = some v' := by
       rw [List.getElem?_take] at hv'
       split at hv'
       ·rw [List.getElem?_drop] at hv'; simpa using hv'
       ·cases hv'
      have key : (loadVar t ⟨b, o, none⟩).run P W = .ok v' W := by
       simp only [loadVar, Sem.run_bind, run_isAgg hT hi, ha, Result.andThen_ok, Bool.false_eq_true, if_false, run_load, cell_at h1, hc]
      refine ⟨v', hr', ?_, _, rfl, key⟩
      simp only [Instr.loadAt, Instr.sureAddr, Sem.run_bind, Sem.run_pure, Result.andThen_ok, key]
     ·cases h
  ·cases h
 ·rename_i o off
  split at h
  ·rename_i i hi
   split at h
   ·rename_i l hl
    obtain ⟨k, hk, rfl⟩ := hu.of_ptr
    obtain ⟨arr, e, fz, h1, h2, h3⟩ := rd_rel hw hl hk
    cases ha : isAggD i.desc with
    | true =>
     rw [ha, cond_true] at h; cases h
     have key : (loadVar t ⟨k.blk, k.sh + off, none⟩).run P W = .ok (.agg ((arr.toList.drop (k.sh + off)).take i.size).toArray) W := by
      simp only [loadVar, Sem.run_bind, run_isAgg hT hi, ha, Result.andThen_ok, if_true, run_size hT hi, run_loadCells h1 h2, Sem.run_pure]
     refine ⟨_, VR.agg _ _ h3, ?_, _, rfl, key⟩
     simp only [Instr.loadAt, Instr.sureAddr, Sem.run_bind, Sem.run_pure, Result.andThen_ok, key]
    | false =>
     rw [ha, cond_false] at h
     split at h
     ·rename_i x0 l0
      cases h
      obtain ⟨v', hv', hr⟩ := h3.get 0 _ rfl
      have hc : arr[k.sh + off]? = some v' := by
       rw [List.getElem?_take] at hv'
       split at hv'
       ·rw [List.getElem?_drop] at hv'; simpa using hv'
       ·cases hv'
      have key : (loadVar t ⟨k.blk, k.sh + off, none⟩).run P W = .ok v' W := by
       simp only [loadVar, Sem.run_bind, run_isAgg hT hi, ha, Result.andThen_ok, Bool.false_eq_true, if_false, run_load, cell_at h1, hc]
      refine ⟨v', hr, ?_, _, rfl, key⟩
      simp only [Instr.loadAt, Instr.sureAddr, Sem.run_bind, Sem.run_pure, Result.andThen_ok, key]
     ·cases h
   ·cases h
  ·cases h
 ·cases h
end
def YlAt (P : Program) (a : Act) (op : Op) (v : Value) (W : World) : Prop :=
 ∀ (dst : Option Tmp) (ty : TypeId) (pos : String) (after : Array Edge) (guard : Option (Nat × Bool)), (execOp a.eval ⟨dst, op, ty, pos, after, guard⟩).run P W = .ok (.value v) W
theorem Yl.at {P : Program} {a : Act} {op : Op} {v : Value} (h : Yl P a op v) (W : World) : YlAt P a op v W := fun d t p q g => h d t p q g W
theorem YlAt.of {P : Program} {a : Act} {op : Op} {v : Value} {W : World} {m : Sem Value} (h : ∀ (dst : Option Tmp) (ty : TypeId) (pos : String) (after : Array Edge) (guard : Option (Nat × Bool)), execOp a.eval ⟨dst, op, ty, pos, after, guard⟩ = (do pure (.value (<- m))))
  (hm : m.run P W = .ok v W) : YlAt P a op v W := fun dst ty pos after guard => by rw [h, Sem.run_bind, hm]; rfl
theorem sameNow_rel {β : Env} {d : TypeDesc} {x y : AV} {u v : Value} {b : Bool} (h : keyEq d x y = some b) (hu : VR β x u) (hv : VR β y v) : Instr.sameNow d u v = some b := by
 unfold keyEq at h
 split at h
 ·obtain rfl := hu.of_lit; obtain rfl := hv.of_lit
  rw [Bool.cond_decide] at h
  split at h
  ·rename_i e; subst e; cases h; simp [Instr.sameNow]; rfl
  ·cases h
 ·obtain rfl := hu.of_str; obtain rfl := hv.of_str
  cases h
  simp [Instr.sameNow, beq_toListBytes]
 ·obtain rfl := hu.of_lit; obtain rfl := hv.of_lit
  cases h
  simp [Instr.sameNow]
 ·cases h
def resL (ok : Bool) (z : Value) : Option (Nat × Value) -> Value
 | some (_, w) => if ok then .tuple #[w, .bool true] else w
 | none => if ok then .tuple #[z, .bool false] else z
def FindR (β : Env) (i : Nat) : Option (Nat × AV) -> Option (Nat × Value) -> Prop
 | none, none => True
 | some (j, v), some (j', v') => j = j' /\ VR β v v' /\ i <= j
 | _, _ => False
theorem findE_rel {β : Env} {d : TypeDesc} {x : AV} {u : Value} (hu : VR β x u) : ∀ {es : List (AV × AV × Nat)} {es' : List MapEntry} {i : Nat} {r : Option (Nat × AV)}, findE d x es i = some r -> ERel β es es' ->
  ∃ r', Instr.findNow d u es' i = some r' /\ FindR β i r r'
 | [], _, i, r, h, .nil => by simp only [findE, Option.some.injEq] at h; subst h; exact ⟨none, rfl, trivial⟩
 | (a, b, n) :: es, _, i, r, h, .cons _ _ _ k v _ es' hk hv ht => by
  simp only [findE] at h
  cases he : keyEq d x a with
  | none => simp [he] at h
  | some q =>
   have hs := sameNow_rel he hu hk
   cases q with
   | true =>
    simp only [he, Option.some.injEq] at h; subst h
    exact ⟨some (i, v), by simp [Instr.findNow, hs], rfl, hv, Nat.le_refl _⟩
   | false =>
    simp only [he] at h
    obtain ⟨r', h1, h2⟩ := findE_rel hu h ht
    refine ⟨r', by simp [Instr.findNow, hs, h1], ?_⟩
    cases r with
    | none => cases r' with
     | none => trivial
     | some _ => exact h2.elim
    | some p => cases r' with
     | none => exact h2.elim
     | some p' => exact ⟨h2.1, h2.2.1, by have := h2.2.2; omega⟩
theorem run_findKey {P : Program} {T : Tab} (hT : TOk P T) {β : Env} {kt : Nat} {ki : TI} (hk : T.t kt = some ki) {x : AV} {u : Value} (hu : VR β x u) {es : List (AV × AV × Nat)} {es' : List MapEntry} {r : Option (Nat × AV)} (h : findE ki.desc x es 0 = some r) (he : ERel β es es') (W : World) :
  ∃ r', (Instr.findKey kt u es').run P W = .ok r' W /\ FindR β 0 r r' := by
 obtain ⟨r', h1, h2⟩ := findE_rel hu h he
 exact ⟨r', by simp [Instr.findKey, run_und hT hk, h1], h2⟩
theorem run_checkKey {P : Program} {T : Tab} (hT : TOk P T) {kt : Nat} {ki : TI} (hk : T.t kt = some ki) (ho : okKey ki.desc = true) (b : Bool) (u : Value) (W : World) : (Instr.checkKey b 10000 kt u).run P W = .ok () W := by
 unfold Instr.checkKey
 simp only [Sem.run_bind, run_und hT hk, Result.andThen_ok]
 cases hd : ki.desc <;> simp [hd, okKey] at ho <;> rfl
theorem ERel.length {β : Env} : ∀ {l : List (AV × AV × Nat)} {x : List MapEntry}, ERel β l x -> x.length = l.length
 | _, _, .nil => rfl
 | _, _, .cons _ _ _ _ _ _ _ _ _ t => by simp [t.length]
theorem bytesOf_rel {β : Env} : ∀ {l : List AV} {r : List UInt8} {x : List Value}, bytesOf l = some r -> VRs β l x -> ∃ ns : List Int, x = ns.map (Value.int .u8) /\ r = ns.map fun n => UInt8.ofNat n.toNat
 | [], r, _, h, .nil => by simp only [bytesOf, Option.some.injEq] at h; subst h; exact ⟨[], rfl, rfl⟩
 | a :: l, r, _, h, .cons _ v _ x hv ht => by
  unfold bytesOf at h
  split at h
  ·cases ‹_ = []›
  ·rename_i n l' hl
   cases hl
   split at h
   ·rename_i r' hr
    cases h
    obtain ⟨ns, e1, e2⟩ := bytesOf_rel hr ht
    obtain rfl := hv.of_lit
    exact ⟨n :: ns, by simp [e1], by simp [e2]⟩
   ·cases h
  ·cases h
theorem foldl_bytes : ∀ (ns : List Int) (s : ByteArray), (ns.foldl (fun r n => r.push (UInt8.ofNat n.toNat)) s).data.toList = s.data.toList ++ ns.map fun n => UInt8.ofNat n.toNat
 | [], s => by simp
 | n :: ns, s => by rw [List.foldl_cons, foldl_bytes ns]; simp
theorem run_bytesToString {P : Program} {W : World} {b o n : Nat} {arr : Array Value} {e : TypeId} {fz : Nat × Nat} {c : Nat} (h : W.heap[b]? = some (.cells arr e fz)) (hn : o + n <= arr.size) {ns : List Int} (hc : (arr.toList.drop o).take n = ns.map (Value.int .u8)) :
  (Conv.bytesToString (.slice (some ⟨b, o, none⟩) n c)).run P W = .ok (.string ⟨(ns.map fun n => UInt8.ofNat n.toNat).toArray⟩) W := by
 unfold Conv.bytesToString
 simp only [Sem.run_bind, run_loadCells h hn, Result.andThen_ok, hc]
 rw [List.forIn_toArray, run_forIn_bytes _ (by intro n r; simp [Sem.run_pure])]
 simp only [Result.andThen_ok, Sem.run_pure]
 congr 2
 apply ByteArray.ext
 apply Array.ext'
 rw [foldl_bytes]
 simp
section
variable {P : Program} {T : Tab} (hT : TOk P T) {β : Env} {B : Gd} {W : World} {H : Tr AO} {hs : Nat} (hw : WR β B H hs W) {s : AS} {a : Act} (hf : FR β s a)
include hT hw hf
theorem load_rel {t : TypeId} {x : Operand} {v : AV} (h : readOp T s H (.load t x) = some v) : ∃ v', VR β v v' /\ YlAt P a (.load t x) v' W := by
 simp only [readOp] at h
 split at h
 ·rename_i u h1
  obtain ⟨v', hr, hl, _⟩ := ldv_rel hT hw h (opd_rel hf h1)
  exact ⟨v', hr, YlAt.of (m := Instr.loadAt t (a.eval x)) (fun _ _ _ _ _ => rfl) hl⟩
 ·cases h
theorem convR_rel {src dst : TypeId} {x : Operand} {v : AV} (h : readOp T s H (.convert src dst x) = some v) : ∃ v', VR β v v' /\ YlAt P a (.convert src dst x) v' W := by
 simp only [readOp] at h
 split at h
 ·rename_i u i j h1 hi hj
  have go : ∀ v', VR β v v' -> (Go.convert src dst (a.eval x)).run P W = .ok v' W -> ∃ v', VR β v v' /\ YlAt P a (.convert src dst x) v' W :=
   fun v' q1 q2 => ⟨v', q1, YlAt.of (m := Go.convert src dst (a.eval x)) (fun _ _ _ _ _ => rfl) q2⟩
  split at h
  ·rename_i e hdi hdj
   split at h
   ·rename_i ei he
    split at h
    ·rename_i o off n c hde
     split at h
     ·rename_i l hl
      split at h
      ·rename_i r hr
       cases h
       obtain ⟨k, c', hk, ev, _⟩ := (opd_rel hf h1).of_slc
       obtain ⟨arr, e', fz, q1, q2, q3⟩ := rd_rel hw hl hk
       obtain ⟨ns, e1, rfl⟩ := bytesOf_rel hr q3
       refine go _ (VR.str _) ?_
       rw [ev]
       simp only [Go.convert, Sem.run_bind, run_und hT hi, run_und hT hj, hdi, hdj, Result.andThen_ok, run_und hT he, hde]
       exact run_bytesToString q1 q2 e1
      ·cases h
     ·cases h
    ·rename_i tk es hde
     split at h
     ·rename_i r hr
      cases h
      have hnil : ∀ ad c, es = [] -> a.eval x = .slice ad 0 c -> ∃ v', VR β (.str r) v' /\ YlAt P a (.convert src dst x) v' W := by
       intro ad c e1 ev
       subst e1
       simp only [bytesOf, Option.some.injEq] at hr
       subst hr
       refine go _ (VR.str _) ?_
       rw [ev]
       simp only [Go.convert, Sem.run_bind, run_und hT hi, run_und hT hj, hdi, hdj, Result.andThen_ok, run_und hT he, hde]
       cases ad <;> (simp [Conv.bytesToString, loadCells, loadCellsFrom]; rfl)
      rcases (opd_rel hf h1).of_lst with ⟨e1, ev⟩ | ⟨e1, ad, c, ev, _⟩ | ⟨sz, vs, b, o, c, ev, g1, g2, g3, g4, g5, g6⟩
      ·exact hnil _ _ e1 ev
      ·exact hnil _ _ e1 ev
      ·have hcells : es.flatMap AV.cells = es := by
        have : ∀ (l : List AV) (r : List UInt8), bytesOf l = some r -> l.flatMap AV.cells = l := by
         intro l
         induction l with
         | nil => intro r _; rfl
         | cons y l ih =>
          intro r hr
          rw [List.flatMap_cons]
          cases y with
          | lit u =>
           cases u with
           | int kd n =>
            cases kd <;> simp only [bytesOf] at hr <;> first | (cases hr; done) | skip
            split at hr
            ·rename_i r' hr'; rw [ih r' hr']; rfl
            ·cases hr
           | _ => simp [bytesOf] at hr
          | _ => simp [bytesOf] at hr
        exact this es r hr
       rw [hcells] at g1
       have hl := g1.length
       by_cases hne : es = []
       ·subst hne
        exact hnil _ _ rfl (by simpa using ev)
       ·have hpos : 0 < es.length := List.length_pos_iff.2 hne
        obtain ⟨arr, e', fz, q1, q2, q3⟩ := fz_read hw g4 (by omega)
        obtain ⟨ns, e1, rfl⟩ := bytesOf_rel hr g1
        refine go _ (VR.str _) ?_
        rw [ev]
        simp only [Go.convert, Sem.run_bind, run_und hT hi, run_und hT hj, hdi, hdj, Result.andThen_ok, run_und hT he, hde]
        rw [hl] at q2 q3
        exact run_bytesToString q1 q2 (q3.trans e1)
     ·cases h
    ·rename_i hde
     cases h
     have ev := (opd_rel hf h1).of_lit
     refine go _ (VR.str _) ?_
     rw [ev]
     simp only [Go.convert, Sem.run_bind, run_und hT hi, run_und hT hj, hdi, hdj, Result.andThen_ok, run_und hT he, hde]
     rfl
    ·rename_i hde
     cases h
     have hr := opd_rel hf h1
     have ev : ∃ p q, a.eval x = .slice (some p) 0 q := by
      generalize a.eval x = w at hr
      cases hr
      exact ⟨_, _, rfl⟩
     obtain ⟨p, q, ev⟩ := ev
     refine go _ (VR.str _) ?_
     rw [ev]
     simp only [Go.convert, Sem.run_bind, run_und hT hi, run_und hT hj, hdi, hdj, Result.andThen_ok, run_und hT he, hde]
     simp [Conv.bytesToString, loadCells, loadCellsFrom]
     rfl
    ·cases h
   ·cases h
  ·cases h
 ·cases h
theorem lookup_rel {t : TypeId} {x y : Operand} {ok : Bool} {v : AV} (h : readOp T s H (.lookup t x y ok) = some v) : ∃ v', VR β v v' /\ YlAt P a (.lookup t x y ok) v' W := by
 simp only [readOp] at h
 split at h
 ·rename_i m kv ti h1 h2 h3
  split at h
  ·rename_i kt et hd
   split at h
   ·rename_i ki ei hk he
    cases ho : okKey ki.desc with
    | false => rw [ho] at h; cases h
    | true =>
     rw [ho, cond_true] at h
     split at h
     ·rename_i es hes
      have hkv := opd_rel hf h2
      have hent : ∃ es' : List MapEntry, ERel β es es' /\ ((a.eval x = .map none /\ es' = []) ∨ ∃ r arr clock, a.eval x = .map (some r) /\ W.heap[r]? = some (.map arr clock) /\ arr.toList = es') := by
       split at hes
       ·cases hes
        exact ⟨[], .nil, .inl ⟨(opd_rel hf h1).of_lit, rfl⟩⟩
       ·rename_i o
        split at hes
        ·rename_i es2 clk hg
         cases hes
         obtain ⟨k, hk', ev⟩ := (opd_rel hf h1).of_mp
         have := hw.obj o k hk'
         rw [hg] at this
         obtain ⟨arr, q1, q2, _⟩ := this
         exact ⟨arr.toList, q2, .inr ⟨_, arr, _, ev, q1, rfl⟩⟩
        ·cases hes
       ·cases hes
        have hr := opd_rel hf h1
        generalize a.eval x = w at hr
        cases hr with
        | fmpN => exact ⟨[], .nil, .inl ⟨rfl, rfl⟩⟩
        | fmp _ es' clk r g1 g2 => exact ⟨es'.toList, g1, .inr ⟨_, es', clk, rfl, hw.fm _ _ g2, rfl⟩⟩
       ·cases hes
      obtain ⟨es', her, hev⟩ := hent
      obtain ⟨z, hz, hzr⟩ := run_zero hT he W
      have hgo : ∀ r', (Instr.findKey kt (a.eval y) es').run P W = .ok r' W -> (Instr.lookup t (a.eval x) (a.eval y) ok).run P W = .ok (resL ok z r') W := by
       intro r' q1
       have hck := fun b => run_checkKey hT hk ho b (a.eval y) W
       rcases hev with ⟨ev, rfl⟩ | ⟨rr, arr, clock, ev, hh, rfl⟩
       ·rw [ev]
        simp only [Instr.lookup, Sem.run_bind, run_und hT h3, hd, Result.andThen_ok, Sem.run_pure, hck]
        rw [q1]
        cases r' with
        | none => simp only [Result.andThen_ok, Sem.run_bind, hz, Sem.run_pure]; cases ok <;> rfl
        | some p => obtain ⟨j, w⟩ := p; simp only [Result.andThen_ok, Sem.run_pure]; cases ok <;> rfl
       ·rw [ev]
        have hg : (getObj rr).run P W = .ok (.map arr clock) W := by simp [getObj, Sem.run, hh]
        simp only [Instr.lookup, Sem.run_bind, run_und hT h3, hd, Result.andThen_ok, Sem.run_pure, hg, hck]
        rw [q1]
        cases r' with
        | none => simp only [Result.andThen_ok, Sem.run_bind, hz, Sem.run_pure]; cases ok <;> rfl
        | some p => obtain ⟨j, w⟩ := p; simp only [Result.andThen_ok, Sem.run_pure]; cases ok <;> rfl
      have fin : ∀ v', VR β v v' -> (Instr.lookup t (a.eval x) (a.eval y) ok).run P W = .ok v' W -> ∃ v', VR β v v' /\ YlAt P a (.lookup t x y ok) v' W :=
       fun v' q1 q2 => ⟨v', q1, YlAt.of (m := Instr.lookup t (a.eval x) (a.eval y) ok) (fun _ _ _ _ _ => rfl) q2⟩
      split at h
      ·rename_i j w hr
       obtain ⟨r', q1, q2⟩ := run_findKey hT hk hkv hr her W
       cases r' with
       | none => exact q2.elim
       | some p =>
        obtain ⟨j', w'⟩ := p
        refine fin _ ?_ (hgo _ q1)
        cases ok with
        | true => cases h; exact VR.tup _ [w', .bool true] (.cons _ _ _ _ q2.2.1 (.cons _ _ _ _ (.lit _) .nil))
        | false => cases h; exact q2.2.1
      ·rename_i hr
       obtain ⟨r', q1, q2⟩ := run_findKey hT hk hkv hr her W
       cases r' with
       | some p => exact q2.elim
       | none =>
        refine fin _ ?_ (hgo _ q1)
        cases ok with
        | true => cases h; exact VR.tup _ [z, .bool false] (.cons _ _ _ _ (hzr β) (.cons _ _ _ _ (.lit _) .nil))
        | false => cases h; exact hzr β
      ·cases h
     ·cases h
   ·cases h
  ·cases h
 ·cases h
theorem lenR_rel {c : Call} {v : AV} (h : readOp T s H (.call c) = some v) : ∃ v', VR β v v' /\ YlAt P a (.call c) v' W := by
 obtain ⟨callee, args, argTypes⟩ := c
 simp only [readOp] at h
 split at h
 ·rename_i x t ha ht
  have ea : args = #[x] := by apply Array.ext'; simpa using ha
  have et : argTypes = #[t] := by apply Array.ext'; simpa using ht
  subst ea; subst et
  have key : ∀ (u : Value) (n : Nat), a.eval x = u -> (∀ ty, (Builtin.len_ #[t] ty #[u]).run P W = .ok (goInt n) W) -> YlAt P a (.call ⟨.builtin .len, #[x], #[t]⟩) (goInt n) W := by
   intro u n e hl dst ty pos after guard
   simp only [execOp, resolve, invoke, builtin, Sem.run_bind, Sem.run_pure, Result.andThen_ok, pure_bind]
   have : (#[x].map a.eval : Array Value) = #[u] := by simp [e]
   simp only [this, hl, Result.andThen_ok]
  split at h
  ·rename_i o ti h1 h2
   split at h
   ·rename_i k e es clk hd hg
    cases h
    obtain ⟨kb, hk, ev⟩ := (opd_rel hf h1).of_mp
    have := hw.obj o kb hk
    rw [hg] at this
    obtain ⟨arr, q1, q2, _⟩ := this
    have hl : arr.size = es.length := by simpa using q2.length
    refine ⟨_, VR.lit _, key _ es.length ev fun ty => ?_⟩
    have hg : (getObj kb.blk).run P W = .ok (.map arr clk) W := by simp [getObj, Sem.run, q1]
    simp [Builtin.len_, run_und hT h2, hd, hg, hl]
   ·cases h
  ·rename_i ti h1 h2
   split at h
   ·rename_i k e hd
    cases h
    have ev := (opd_rel hf h1).of_lit
    refine ⟨_, VR.lit _, key _ 0 ev fun ty => ?_⟩
    simp [Builtin.len_, run_und hT h2, hd]
   ·cases h
  ·rename_i es ti h1 h2
   split at h
   ·rename_i k e hd
    cases h
    have hr := opd_rel hf h1
    generalize hev : a.eval x = w at hr
    cases hr with
    | fmpN =>
     refine ⟨_, VR.lit _, key _ 0 hev fun ty => ?_⟩
     simp [Builtin.len_, run_und hT h2, hd]
    | fmp _ es' clk r q2 g2 =>
     have hl : es'.size = es.length := by simpa using q2.length
     refine ⟨_, VR.lit _, key _ es.length hev fun ty => ?_⟩
     have hg : (getObj r).run P W = .ok (.map es' clk) W := by simp [getObj, Sem.run, hw.fm _ _ g2]
     simp [Builtin.len_, run_und hT h2, hd, hg, hl]
   ·cases h
  ·cases h
 ·cases h
theorem readOp_rel {op : Op} {v : AV} (h : readOp T s H op = some v) : ∃ v', VR β v v' /\ YlAt P a op v' W := by
 cases op with
 | load t x => exact load_rel hT hw hf h
 | convert t u x => exact convR_rel hT hw hf h
 | lookup t x y ok => exact lookup_rel hT hw hf h
 | call c => exact lenR_rel hT hw hf h
 | _ => simp [readOp] at h
end
def YlTo (P : Program) (a : Act) (op : Op) (v : Value) (W W' : World) : Prop :=
 ∀ (dst : Option Tmp) (ty : TypeId) (pos : String) (after : Array Edge) (guard : Option (Nat × Bool)), (execOp a.eval ⟨dst, op, ty, pos, after, guard⟩).run P W = .ok (.value v) W'
theorem YlTo.of {P : Program} {a : Act} {op : Op} {v : Value} {W W' : World} {m : Sem Value} (h : ∀ (dst : Option Tmp) (ty : TypeId) (pos : String) (after : Array Edge) (guard : Option (Nat × Bool)), execOp a.eval ⟨dst, op, ty, pos, after, guard⟩ = (do pure (.value (<- m))))
  (hm : m.run P W = .ok v W') : YlTo P a op v W W' := fun dst ty pos after guard => by rw [h, Sem.run_bind, hm]; rfl
theorem ORel.of_cells {β : Env} {B : Nat -> Prop} {c : List AV} {k : Bk} {arr : Array Value} {e : TypeId} (h : VRs β c arr.toList) (hsh : k.sh = 0) (hsz : k.sz = arr.size) (hB : ¬ B k.blk) :
  ORel β B (.cells c false) k (some (.cells arr e)) := by
 have hl := h.length
 simp only [Array.length_toList] at hl
 refine ⟨arr, e, (0, 0), rfl, hsz.symm, by omega, .inl (Nat.le_refl _), ⟨fun _ => hB, fun x => by cases x⟩, fun i x hx => ?_⟩
 obtain ⟨v, hv, hr⟩ := h.get i x hx
 exact ⟨v, by rw [hsh]; simpa using hv, hr⟩
theorem flat_get (z : List AV) : ∀ (n i : Nat), i < n * z.length -> (List.replicate n z).flatten[i]? = z[i % z.length]?
 | 0, i, h => by simp at h
 | n + 1, i, h => by
  rw [List.replicate_succ, List.flatten_cons]
  by_cases hi : i < z.length
  ·rw [List.getElem?_append_left hi, Nat.mod_eq_of_lt hi]
  ·rw [List.getElem?_append_right (by omega), flat_get z n (i - z.length) (by rw [Nat.add_mul] at h; omega)]
   congr 1
   rw [<- Nat.mod_eq_sub_mod (by omega)]
theorem flat_length (z : List AV) (n : Nat) : (List.replicate n z).flatten.length = n * z.length := by simp
theorem zeros_rel {β : Env} {z : List AV} {x : Array Value} (h : VRs β z x.toList) (hz : 0 < z.length) (n m : Nat) (hm : m = n * z.length) :
  VRs β (List.replicate n z).flatten ((Array.range m).map (x[· % x.size]!)).toList := by
 subst hm
 have hl : x.size = z.length := by simpa using h.length
 refine VRs.of_get (by simp) fun i c v hc hv => ?_
 have hi : i < n * z.length := by
  have := (List.getElem?_eq_some_iff.1 hc).1
  rwa [flat_length] at this
 rw [flat_get z n i hi] at hc
 obtain ⟨u, hu, hr⟩ := h.get _ _ hc
 have hlt : i % z.length < x.size := by rw [hl]; exact Nat.mod_lt _ hz
 have hv' : v = x[i % x.size]! := by
  simp [hi] at hv
  rw [<- hv]
 have hu' : x[i % z.length]? = some u := by simpa using hu
 rw [hv', hl, getElem!_pos x _ hlt]
 rw [getElem?_pos x _ hlt] at hu'
 cases hu'
 exact hr
theorem run_newRow {P : Program} {W : World} (e : TypeId) (x : Array Value) : (newRow e x).run P W = .ok ⟨W.heap.size, 0, none⟩ (W.alloc (.cells x e)) := by
 simp [newRow]
theorem run_buildSlice {P : Program} {T : Tab} (hT : TOk P T) {t e len : Nat} {ti ei : TI} (h2 : T.t t = some ti) (hd : ti.desc = .slice e) (he : T.t e = some ei) {W : World} {z : Value} (hz : (zeroValue e).run P W = .ok z W)
  {parts : Array (Nat × Value)} {y : Array Value} (hle : len * ei.size <= 2 ^ 24) (hy : Instr.fill (fun i => some (i * ei.size, ei.size)) ((Array.range (len * ei.size)).map (z.cells[· % z.cells.size]!)) parts.toList = some y) :
  (Instr.buildSlice t len parts).run P W = .ok (.slice (some ⟨W.heap.size, 0, none⟩) len len) (W.alloc (.cells y e)) := by
 have hng : ¬ (len * ei.size > 2 ^ 24) := by omega
 unfold Instr.buildSlice
 simp only [Sem.run_bind, run_und hT h2, hd, Result.andThen_ok, run_size hT he]
 rw [if_neg hng]
 simp only [pure_bind, Sem.run_bind, Sem.run_pure, Result.andThen_ok]
 by_cases h0 : len * ei.size = 0
 ·rw [if_pos h0]
  have e0 : (Array.range (len * ei.size)).map (fun i => z.cells[i % z.cells.size]!) = #[] := by rw [h0]; simp
  have e1 : (Array.range (len * ei.size)).map (fun i => (#[] : Array Value)[i % (#[] : Array Value).size]!) = #[] := by rw [h0]; simp
  rw [e0] at hy
  try simp only [Sem.run_pure, Result.andThen_ok]
  rw [e1, hy]
  simp only [Sem.run_bind, run_newRow, Result.andThen_ok, Sem.run_pure]
 ·rw [if_neg h0]
  simp only [Sem.run_bind, hz, Result.andThen_ok, Sem.run_pure]
  rw [hy]
  simp only [Sem.run_bind, run_newRow, Result.andThen_ok, Sem.run_pure]
theorem run_makeSlice {P : Program} {T : Tab} (hT : TOk P T) {t e : Nat} {n m : Int} {ti ei : TI} (h2 : T.t t = some ti) (hd : ti.desc = .slice e) (he : T.t e = some ei) {W : World} {z : Value} (hz : (zeroValue e).run P W = .ok z W)
  (b1 : 0 <= n) (b2 : n <= m) (b3 : m * ei.bytes <= 2 ^ 48) (b4 : m <= 9223372036854775807) :
  (Instr.makeSlice t (.int .i64 n) (.int .i64 m)).run P W = .ok (.slice (some ⟨W.heap.size, 0, none⟩) n.toNat m.toNat) (W.alloc (.cells ((Array.range (m.toNat * ei.size)).map (z.cells[· % z.cells.size]!)) e)) := by
 obtain ⟨inf, hinf, hby⟩ := run_info hT he W
 have w1 : IntKind.i64.wrap n = n := by rw [IntKind.wrap_i64]; omega
 have w2 : IntKind.i64.wrap m = m := by rw [IntKind.wrap_i64]; omega
 have t1 : (decide (m < 0) || decide ((inf.bytes : Int) * m > 2 ^ 48)) = false := by
  rw [hby, Int.mul_comm]
  simp only [Bool.or_eq_false_iff, decide_eq_false_iff_not]
  exact ⟨by omega, by omega⟩
 have t2 : decide (n < 0) = false := by simp; omega
 have t3 : decide (n > m) = false := by simp; omega
 unfold Instr.makeSlice
 simp only [Sem.run_bind, run_und hT h2, hd, Result.andThen_ok, asInt, asIntOf, Sem.run_pure, hinf, w1, w2, t1, t2, t3, Bool.or_false, Bool.false_eq_true, if_false, run_askRoom, run_size hT he, pure_bind]
 by_cases h0 : m.toNat * ei.size = 0
 ·rw [if_pos h0]
  have e0 : (Array.range (m.toNat * ei.size)).map (fun i => z.cells[i % z.cells.size]!) = #[] := by rw [h0]; simp
  have e1 : (Array.range (m.toNat * ei.size)).map (fun i => (#[] : Array Value)[i % (#[] : Array Value).size]!) = #[] := by rw [h0]; simp
  rw [e0]
  simp only [Sem.run_pure, Result.andThen_ok, Sem.run_bind]
  rw [e1]
  simp only [run_newRow, Result.andThen_ok, Sem.run_pure]
 ·rw [if_neg h0]
  simp only [Sem.run_bind, hz, Result.andThen_ok, Sem.run_pure, run_newRow]
theorem exec_buildSlice (ρ : Operand -> Value) (t : TypeId) (len : Nat) (parts : Array (Nat × Operand)) (dst : Option Tmp) (ty : TypeId) (pos : String) (after : Array Edge) (guard : Option (Nat × Bool)) :
  execOp ρ ⟨dst, .buildSlice t len parts, ty, pos, after, guard⟩ = (do pure (.value (<- Instr.buildSlice t len (parts.map fun (i, x) => (i, ρ x))))) := by
 simp only [execOp]
theorem exec_makeSlice (ρ : Operand -> Value) (t : TypeId) (l c : Operand) (dst : Option Tmp) (ty : TypeId) (pos : String) (after : Array Edge) (guard : Option (Nat × Bool)) :
  execOp ρ ⟨dst, .makeSlice t l c, ty, pos, after, guard⟩ = (do pure (.value (<- Instr.makeSlice t (ρ l) (ρ c)))) := by
 simp only [execOp]
def envN (β : Env) (o blk sz esz : Nat) (A : AO) (obj : Obj) : Env :=
 { β.add o ⟨blk, 0, sz, esz⟩ with fz := match A, obj with
  | .dead, .cells arr _ _ => fun x i => if x = blk then arr[i]? else β.fz x i
  | _, _ => β.fz }
theorem WR.newN {β : Env} {B : Gd} {H H' : Tr AO} {hs hs' : Nat} {W : World} (h : WR β B H hs W) {o sz esz : Nat} {A : AO} {obj : Obj} (hn : β.b o = none) (hA : H'.get .dead o = A) (hw : WR (β.add o ⟨W.heap.size, 0, sz, esz⟩) B H' hs' (W.alloc obj)) :
  WR (envN β o W.heap.size sz esz A obj) B H' hs' (W.alloc obj) /\ β.le (envN β o W.heap.size sz esz A obj) /\ (envN β o W.heap.size sz esz A obj).b = (β.add o ⟨W.heap.size, 0, sz, esz⟩).b := by
 have hle := Env.le_add (k := ⟨W.heap.size, 0, sz, esz⟩) hn
 have triv : envN β o W.heap.size sz esz A obj = β.add o ⟨W.heap.size, 0, sz, esz⟩ -> WR (envN β o W.heap.size sz esz A obj) B H' hs' (W.alloc obj) /\ β.le (envN β o W.heap.size sz esz A obj) /\ (envN β o W.heap.size sz esz A obj).b = (β.add o ⟨W.heap.size, 0, sz, esz⟩).b := fun e => by
  rw [e]; exact ⟨hw, hle, rfl⟩
 cases A with
 | dead =>
  cases obj with
  | cells arr e f =>
   have hnone : ∀ off, β.fz W.heap.size off = none := fun off => h.fz_new _ _ (Nat.le_refl _)
   have hle2 : (β.add o ⟨W.heap.size, 0, sz, esz⟩).le (envN β o W.heap.size sz esz .dead (.cells arr e f)) := ⟨fun _ _ x => x, rfl, fun b i v hv => by
    have hv : β.fz b i = some v := hv
    show (if b = W.heap.size then arr[i]? else β.fz b i) = some v
    by_cases e1 : b = W.heap.size
    ·subst e1; rw [hnone] at hv; cases hv
    ·rw [if_neg e1]; exact hv, fun _ _ x => x⟩
   refine ⟨?_, hle.trans hle2, rfl⟩
   refine ⟨hw.below, hw.dom, fun j kj hj => (hw.obj j kj hj).mono hle2, hw.blk, hw.inj, ?_, hw.fm, ?_, ?_, hw.gfm⟩
   ·intro b i v hv
    have hv : (if b = W.heap.size then arr[i]? else β.fz b i) = some v := hv
    by_cases e1 : b = W.heap.size
    ·rw [if_pos e1] at hv; rw [e1]; exact ⟨arr, e, f, heap_alloc_new _ _, hv⟩
    ·rw [if_neg e1] at hv; exact hw.fz b i v hv
   ·intro j kj hj ho
    obtain ⟨a1, a2⟩ := hw.apart j kj hj ho
    have hne : kj.blk ≠ W.heap.size := by
     have hj : (β.add o ⟨W.heap.size, 0, sz, esz⟩).b j = some kj := hj
     by_cases e1 : j = o
     ·subst e1; rw [hA] at ho; cases ho
     ·rw [Env.add_other _ _ e1] at hj; have := h.blk j kj hj; omega
    refine ⟨fun off hoff => ?_, a2⟩
    show (if kj.blk = W.heap.size then arr[off]? else β.fz kj.blk off) = none
    rw [if_neg hne]; exact a1 off hoff
   ·intro b i v hb hv
    have hv : (if b = W.heap.size then arr[i]? else β.fz b i) = some v := hv
    have : b ≠ W.heap.size := fun e1 => h.new (e1 ▸ hb)
    rw [if_neg this] at hv; exact h.gfz b i v hb hv
  | _ => exact triv rfl
 | _ => exact triv rfl
theorem setEs_rel {sz : Nat} : ∀ (ps : List (Nat × AV)) (es : List AV), (∀ e ∈ es, e.cells.length = sz) -> (∀ p ∈ ps, p.2.cells.length = sz /\ p.1 < es.length) ->
  fillV (fun i => some (i * sz, sz)) (es.flatMap AV.cells) ps = some ((setEs es ps).flatMap AV.cells) /\ (setEs es ps).length = es.length /\ ∀ e ∈ setEs es ps, e.cells.length = sz
 | [], es, h, _ => ⟨rfl, rfl, h⟩
 | (i, v) :: ps, es, h, hp => by
  obtain ⟨h1, h2⟩ := hp (i, v) (by simp)
  have hes : ∀ e ∈ es.set i v, e.cells.length = sz := fun e he => by
   rcases List.mem_or_eq_of_mem_set he with h' | rfl
   ·exact h e h'
   ·exact h1
  obtain ⟨g1, g2, g3⟩ := setEs_rel ps (es.set i v) hes (fun p hp' => by
   have := hp p (by simp [hp']); rw [List.length_set]; exact this)
  refine ⟨?_, by rw [setEs, g2, List.length_set], g3⟩
  simp only [setEs]
  rw [<- g1]
  have hfl : (es.flatMap AV.cells).length = es.length * sz := flat_len h
  have hb : i * sz + sz <= es.length * sz := by
   have := Nat.mul_le_mul_right sz h2
   rw [Nat.succ_mul] at this; exact this
  have hsp : splice (es.flatMap AV.cells) (i * sz) v.cells = (es.set i v).flatMap AV.cells := by
   unfold splice
   have h1 : v.cells.length = sz := h1
   rw [h1, flat_take h, show i * sz + sz = (i + 1) * sz from by rw [Nat.succ_mul], flat_drop h, List.set_eq_take_append_cons_drop, if_pos h2, List.flatMap_append, List.flatMap_cons]
  simp only [fillV]
  have hc : (decide (v.cells.length = sz) && Nat.ble (i * sz + v.cells.length) (es.flatMap AV.cells).length) = true := by
   have h1 : v.cells.length = sz := h1
   simp only [Bool.and_eq_true, decide_eq_true_eq, ble_le]; rw [h1, hfl]; exact ⟨rfl, hb⟩
  rw [hc, cond_true, hsp]
section
variable {P : Program} {T : Tab} (hT : TOk P T) {β : Env} {s : AS} {a : Act} (hf : FR β s a) {hs : Nat} (hn : β.b hs = none) {Bz : Nat -> Prop} {W : World} (hB : ¬ Bz W.heap.size) (hzn : ∀ off, β.fz W.heap.size off = none)
include hT hf hn hB hzn
theorem newOp_rel {op : Op} {A : AO} {v : AV} (h : newOp T s hs op = some (A, v)) : ∃ obj sz esz v', YlTo P a op v' W (W.alloc obj) /\
  ORel (β.add hs ⟨W.heap.size, 0, sz, esz⟩) Bz A ⟨W.heap.size, 0, sz, esz⟩ (some obj) /\ VR (envN β hs W.heap.size sz esz A obj) v v' := by
 cases op with
 | alloc t =>
  simp only [newOp] at h
  split at h
  ·rename_i ti ht
   cases hfo : flatOk ti.zero with
   | false => rw [hfo] at h; cases h
   | true =>
    rw [hfo, cond_true] at h; cases h
    obtain ⟨z, hz, hzr⟩ := run_zero hT ht W
    have hle : β.le (β.add hs ⟨W.heap.size, 0, z.cells.size, 0⟩) := Env.le_add hn
    refine ⟨.cells z.cells t, z.cells.size, 0, _, YlTo.of (m := Instr.alloc t true (.tuple #[])) (fun _ _ _ _ _ => rfl) ?_, ORel.of_cells ((hzr _).cells_ok hfo) rfl rfl hB, VR.ptr hs 0 _ (Env.add_self _ _ _)⟩
    simp only [Instr.alloc, Sem.run_bind, hz, Result.andThen_ok, newVar, run_newRow, Sem.run_pure]
  ·cases h
 | box t x =>
  simp only [newOp] at h
  split at h
  ·rename_i u h1
   cases hfo : flatOk u with
   | false => rw [hfo] at h; cases h
   | true =>
    rw [hfo, cond_true] at h; cases h
    have hu := opd_rel hf h1
    have hle : β.le (β.add hs ⟨W.heap.size, 0, (a.eval x).cells.size, 0⟩) := Env.le_add hn
    refine ⟨.cells (a.eval x).cells t, (a.eval x).cells.size, 0, _, YlTo.of (m := Instr.box t (a.eval x)) (fun _ _ _ _ _ => rfl) ?_, ORel.of_cells ((hu.mono hle).cells_ok hfo) rfl rfl hB, VR.ptr hs 0 _ (Env.add_self _ _ _)⟩
    simp only [Instr.box, Sem.run_bind, newVar, run_newRow, Result.andThen_ok, Sem.run_pure]
  ·cases h
 | buildSlice t len parts =>
  simp only [newOp] at h
  split at h
  ·rename_i ps ti h1 h2
   split at h
   ·rename_i e hd
    split at h
    ·rename_i ei he
     cases hb : ((Nat.ble (len * ei.size) 16777216 && Nat.blt 0 ei.size && decide (ei.zero.cells.length = ei.size) && ps.all (fun p => flatOk p.2)) && flatOk ei.zero) with
     | false => rw [hb] at h; cases h
     | true =>
      rw [hb, cond_true] at h
      simp only [Bool.and_eq_true, ble_le, blt_lt, decide_eq_true_eq, List.all_eq_true] at hb
      obtain ⟨⟨⟨⟨b1, b2⟩, b3⟩, b4⟩, b5⟩ := hb
      have b1 : len * ei.size <= 2 ^ 24 := b1
      obtain ⟨z, hz, hzr⟩ := run_zero hT he W
      have hps := opdParts_rel hf h1
      have epr : (parts.map fun (i, x) => (i, a.eval x)).toList = parts.toList.map fun p => (p.1, a.eval p.2) := by simp
      have hzc := (hzr β).cells_ok b5
      have hX := zeros_rel hzc (by omega) len (len * ei.size) (by rw [b3])
      cases hlm : (s.md.lm && ps.all fun p => sizeOk ei.size p.2 && Nat.blt p.1 len) with
      | true =>
       rw [hlm, cond_true] at h; cases h
       simp only [Bool.and_eq_true, List.all_eq_true, sizeOk_iff, blt_lt] at hlm
       have hes : ∀ e ∈ List.replicate len ei.zero, e.cells.length = ei.size := fun e he => by rw [List.eq_of_mem_replicate he]; exact b3
       obtain ⟨q1, q2, q3⟩ := setEs_rel ps (List.replicate len ei.zero) hes (fun p hp => by rw [List.length_replicate]; exact hlm.2 p hp)
       have hfl : (List.replicate len ei.zero).flatMap AV.cells = (List.replicate len ei.zero.cells).flatten := by rw [List.flatMap_def, List.map_replicate]
       rw [hfl] at q1
       rw [List.length_replicate] at q2
       obtain ⟨y, hy, hyr⟩ := fillV_rel (place' := fun i => some (i * ei.size, ei.size)) (fun i p hp => hp) (fun p hp => b4 p hp) q1 hps hX
       have hv : VR (envN β hs W.heap.size y.size 0 .dead (.cells y e)) (.lst .full (setEs (List.replicate len ei.zero) ps)) (.slice (some ⟨W.heap.size, 0, none⟩) len len) := by
        have hle : β.le (envN β hs W.heap.size y.size 0 .dead (.cells y e)) := by
         refine (Env.le_add (k := ⟨W.heap.size, 0, y.size, 0⟩) hn).trans ⟨fun _ _ x => x, rfl, fun b i v hv => ?_, fun _ _ x => x⟩
         have hv : β.fz b i = some v := hv
         show (if b = W.heap.size then y[i]? else β.fz b i) = some v
         by_cases e1 : b = W.heap.size
         ·subst e1; rw [hzn] at hv; cases hv
         ·rw [if_neg e1]; exact hv
        have := VR.lst (β := envN β hs W.heap.size y.size 0 .dead (.cells y e)) .full ei.size (setEs (List.replicate len ei.zero) ps) y.toList W.heap.size 0 len (hyr.mono hle) q3 b2
         (fun i v hi => by show (if W.heap.size = W.heap.size then y[0 + i]? else _) = _; rw [if_pos rfl, Nat.zero_add]; simpa using hi) (by rw [q2]; exact Nat.le_refl _) (by show _ = _; rw [q2])
        rw [q2] at this; exact this
       refine ⟨.cells y e, y.size, 0, _, YlTo.of (fun _ _ _ _ _ => exec_buildSlice _ _ _ _ _ _ _ _ _) (v := .slice (some ⟨W.heap.size, 0, none⟩) len len) ?_, trivial, hv⟩
       exact run_buildSlice hT h2 hd he hz b1 (by rw [epr]; exact hy)
      | false =>
       rw [hlm, cond_false] at h
       split at h
       ·rename_i cs hfill
        cases h
        obtain ⟨y, hy, hyr⟩ := fillV_rel (place' := fun i => some (i * ei.size, ei.size)) (fun i p hp => hp) (fun p hp => b4 p hp) hfill hps hX
        have hle : β.le (β.add hs ⟨W.heap.size, 0, y.size, 0⟩) := Env.le_add hn
        refine ⟨.cells y e, y.size, 0, _, YlTo.of (fun _ _ _ _ _ => exec_buildSlice _ _ _ _ _ _ _ _ _) (v := .slice (some ⟨W.heap.size, 0, none⟩) len len) ?_, ORel.of_cells (hyr.mono hle) rfl rfl hB, VR.slcX hs 0 len len _ (Env.add_self _ _ _)⟩
        exact run_buildSlice hT h2 hd he hz b1 (by rw [epr]; exact hy)
       ·cases h
    ·cases h
   ·cases h
  ·cases h
 | makeSlice t l c =>
  simp only [newOp] at h
  split at h
  ·rename_i n m ti h1 h2 h3
   split at h
   ·rename_i e hd
    split at h
    ·rename_i ei he
     cases hb : ((decide (0 <= n /\ n <= m /\ m * ei.bytes <= 281474976710656 /\ m <= 9223372036854775807) && Nat.blt 0 ei.size && decide (ei.zero.cells.length = ei.size)) && flatOk ei.zero) with
     | false => rw [hb] at h; cases h
     | true =>
      rw [hb, cond_true] at h
      simp only [Bool.and_eq_true, blt_lt, decide_eq_true_eq] at hb
      obtain ⟨⟨⟨⟨b1, b2, b3, b4⟩, b5⟩, b6⟩, b7⟩ := hb
      obtain ⟨z, hz, hzr⟩ := run_zero hT he W
      have hzc := (hzr β).cells_ok b7
      have hX := zeros_rel hzc (by omega) m.toNat (m.toNat * ei.size) (by rw [b6])
      have e1 := (opd_rel hf h1).of_lit
      have e2 := (opd_rel hf h2).of_lit
      generalize hy : (Array.range (m.toNat * ei.size)).map (fun i => z.cells[i % z.cells.size]!) = y at hX
      have hrunm : (Instr.makeSlice t (a.eval l) (a.eval c)).run P W = .ok (.slice (some ⟨W.heap.size, 0, none⟩) n.toNat m.toNat) (W.alloc (.cells y e)) := by
       rw [e1, e2, <- hy]
       exact run_makeSlice hT h3 hd he hz b1 b2 b3 b4
      have hysz : y.size = m.toNat * ei.size := by rw [<- hy]; simp
      cases hlm : (s.md.lm && decide (n = 0)) with
      | true =>
       rw [hlm, cond_true] at h; cases h
       simp only [Bool.and_eq_true, decide_eq_true_eq] at hlm
       obtain ⟨_, rfl⟩ := hlm
       refine ⟨.cells y e, y.size, ei.size, _, YlTo.of (fun _ _ _ _ _ => exec_makeSlice _ _ _ _ _ _ _ _ _) hrunm, ⟨rfl, y, e, _, rfl, rfl, Nat.zero_le _, .inl (Nat.le_refl _), hB⟩, ?_⟩
       ·exact VR.lst (.room hs) ei.size [] [] W.heap.size 0 m.toNat .nil (fun _ h => by cases h) b5 (fun i v hi => by cases hi) (Nat.zero_le _) ⟨_, Env.add_self _ _ _, rfl, by simp, by simp [hysz], rfl⟩
      | false =>
       rw [hlm, cond_false] at h; cases h
       have hle : β.le (β.add hs ⟨W.heap.size, 0, y.size, 0⟩) := Env.le_add hn
       exact ⟨.cells y e, y.size, 0, _, YlTo.of (fun _ _ _ _ _ => exec_makeSlice _ _ _ _ _ _ _ _ _) (v := .slice (some ⟨W.heap.size, 0, none⟩) n.toNat m.toNat) hrunm, ORel.of_cells (hX.mono hle) rfl rfl hB, VR.slcX hs 0 _ _ _ (Env.add_self _ _ _)⟩
    ·cases h
   ·cases h
  ·cases h
 | makeMap t r =>
  cases r with
  | some r => simp [newOp] at h
  | none =>
   simp only [newOp, Option.some.injEq, Prod.mk.injEq] at h
   obtain ⟨rfl, rfl⟩ := h
   refine ⟨.map #[] 0, 0, 0, _, YlTo.of (m := Instr.makeMap t none) (fun _ _ _ _ _ => rfl) ?_, ⟨#[], rfl, .nil, hB⟩, VR.mp hs _ (Env.add_self _ _ _)⟩
   simp [Instr.makeMap]
 | _ => simp [newOp] at h
def envF (β : Env) (blk : Nat) (arr : Array Value) : Env := { β with fz := fun x i => if x = blk then arr[i]? else β.fz x i }
omit hT hf hn hB in
theorem envF_le {arr : Array Value} : β.le (envF β W.heap.size arr) := ⟨fun _ _ x => x, rfl, fun b i v hv => by
 show (if b = W.heap.size then arr[i]? else β.fz b i) = some v
 by_cases e1 : b = W.heap.size
 ·subst e1; rw [hzn] at hv; cases hv
 ·rw [if_neg e1]; exact hv, fun _ _ x => x⟩
omit hn hB in
theorem newDead_rel {op : Op} {v : AV} (h : newOp T s hs op = some (.dead, v)) : ∃ arr e v', YlTo P a op v' W (W.alloc (.cells arr e)) /\ VR (envF β W.heap.size arr) v v' := by
 cases op with
 | alloc t =>
  simp only [newOp] at h
  split at h
  ·rename_i ti ht
   cases hfo : flatOk ti.zero <;> (rw [hfo] at h; cases h)
  ·cases h
 | box t x =>
  simp only [newOp] at h
  split at h
  ·rename_i u h1
   cases hfo : flatOk u <;> (rw [hfo] at h; cases h)
  ·cases h
 | buildSlice t len parts =>
  simp only [newOp] at h
  split at h
  ·rename_i ps ti h1 h2
   split at h
   ·rename_i e hd
    split at h
    ·rename_i ei he
     cases hb : ((Nat.ble (len * ei.size) 16777216 && Nat.blt 0 ei.size && decide (ei.zero.cells.length = ei.size) && ps.all (fun p => flatOk p.2)) && flatOk ei.zero) with
     | false => rw [hb] at h; cases h
     | true =>
      rw [hb, cond_true] at h
      simp only [Bool.and_eq_true, ble_le, blt_lt, decide_eq_true_eq, List.all_eq_true] at hb
      obtain ⟨⟨⟨⟨b1, b2⟩, b3⟩, b4⟩, b5⟩ := hb
      have b1 : len * ei.size <= 2 ^ 24 := b1
      obtain ⟨z, hz, hzr⟩ := run_zero hT he W
      have hps := opdParts_rel hf h1
      have epr : (parts.map fun (i, x) => (i, a.eval x)).toList = parts.toList.map fun p => (p.1, a.eval p.2) := by simp
      have hzc := (hzr β).cells_ok b5
      have hX := zeros_rel hzc (by omega) len (len * ei.size) (by rw [b3])
      cases hlm : (s.md.lm && ps.all fun p => sizeOk ei.size p.2 && Nat.blt p.1 len) with
      | true =>
       rw [hlm, cond_true] at h; cases h
       simp only [Bool.and_eq_true, List.all_eq_true, sizeOk_iff, blt_lt] at hlm
       have hes : ∀ e ∈ List.replicate len ei.zero, e.cells.length = ei.size := fun e he => by rw [List.eq_of_mem_replicate he]; exact b3
       obtain ⟨q1, q2, q3⟩ := setEs_rel ps (List.replicate len ei.zero) hes (fun p hp => by rw [List.length_replicate]; exact hlm.2 p hp)
       have hfl : (List.replicate len ei.zero).flatMap AV.cells = (List.replicate len ei.zero.cells).flatten := by rw [List.flatMap_def, List.map_replicate]
       rw [hfl] at q1
       rw [List.length_replicate] at q2
       obtain ⟨y, hy, hyr⟩ := fillV_rel (place' := fun i => some (i * ei.size, ei.size)) (fun i p hp => hp) (fun p hp => b4 p hp) q1 hps hX
       refine ⟨y, e, _, YlTo.of (fun _ _ _ _ _ => exec_buildSlice _ _ _ _ _ _ _ _ _) (v := .slice (some ⟨W.heap.size, 0, none⟩) len len) (run_buildSlice hT h2 hd he hz b1 (by rw [epr]; exact hy)), ?_⟩
       have := VR.lst (β := envF β W.heap.size y) .full ei.size (setEs (List.replicate len ei.zero) ps) y.toList W.heap.size 0 len (hyr.mono (envF_le hzn)) q3 b2
        (fun i v hi => by show (if W.heap.size = W.heap.size then y[0 + i]? else _) = _; rw [if_pos rfl, Nat.zero_add]; simpa using hi) (by rw [q2]; exact Nat.le_refl _) (by show _ = _; rw [q2])
       rw [q2] at this; exact this
      | false =>
       rw [hlm, cond_false] at h
       split at h <;> cases h
    ·cases h
   ·cases h
  ·cases h
 | makeSlice t l c =>
  simp only [newOp] at h
  split at h
  ·rename_i n m ti h1 h2 h3
   split at h
   ·rename_i e hd
    split at h
    ·rename_i ei he
     cases hb : ((decide (0 <= n /\ n <= m /\ m * ei.bytes <= 281474976710656 /\ m <= 9223372036854775807) && Nat.blt 0 ei.size && decide (ei.zero.cells.length = ei.size)) && flatOk ei.zero) with
     | false => rw [hb] at h; cases h
     | true =>
      rw [hb, cond_true] at h
      cases hlm : (s.md.lm && decide (n = 0)) <;> (rw [hlm] at h; cases h)
    ·cases h
   ·cases h
  ·cases h
 | makeMap t r =>
  cases r with
  | some r => simp [newOp] at h
  | none => simp [newOp] at h
 | _ => simp [newOp] at h
end
theorem WR.deadN {β : Env} {B : Gd} {H : Tr AO} {hs : Nat} {W : World} (h : WR β B H hs W) (arr : Array Value) (e : TypeId) : WR (envF β W.heap.size arr) B H hs (W.alloc (.cells arr e)) := by
 have hzn : ∀ off, β.fz W.heap.size off = none := fun off => h.fz_new _ _ (Nat.le_refl _)
 have hle : β.le (envF β W.heap.size arr) := envF_le hzn
 refine ⟨h.below.alloc _, h.dom, fun j kj hj => ?_, fun j kj hj => ?_, h.inj, ?_, ?_, ?_, ?_, h.gfm⟩
 ·rw [heap_alloc_old (h.blk j kj hj)]; exact (h.obj j kj hj).mono hle
 ·have : (W.alloc (.cells arr e)).heap.size = W.heap.size + 1 := World.size_alloc W _
  have := h.blk j kj hj; omega
 ·intro b i v hv
  have hv : (if b = W.heap.size then arr[i]? else β.fz b i) = some v := hv
  by_cases e1 : b = W.heap.size
  ·rw [if_pos e1] at hv; rw [e1]; exact ⟨arr, e, _, heap_alloc_new _ _, hv⟩
  ·rw [if_neg e1] at hv; rw [heap_alloc_old (h.fz_lt hv)]; exact h.fz b i v hv
 ·intro r x hx; rw [heap_alloc_old (heap_lt (h.fm r x hx))]; exact h.fm r x hx
 ·intro j kj hj ho
  obtain ⟨a1, a2⟩ := h.apart j kj hj ho
  have := h.blk j kj hj
  refine ⟨fun off hoff => ?_, a2⟩
  show (if kj.blk = W.heap.size then arr[off]? else β.fz kj.blk off) = none
  rw [if_neg (by omega)]; exact a1 off hoff
 ·intro b i v hb hv
  have hv : (if b = W.heap.size then arr[i]? else β.fz b i) = some v := hv
  rw [if_neg (show ¬ b = W.heap.size from fun e1 => h.new (e1 ▸ hb))] at hv
  exact h.gfz b i v hb hv
end Go.Proofs.YtcledcfeddlomaaGreatDoor.Ev
