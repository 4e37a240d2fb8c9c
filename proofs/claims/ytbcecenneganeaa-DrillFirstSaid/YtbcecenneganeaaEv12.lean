import Derived.Test.YtbcecenneganeaaEv11
import Derived.Laws.BytesString
set_option linter.all false
namespace Go.Proofs.Ytbcecenneganeaa.Ev
open Go.RowKit

theorem cell_at {W : World} {b o : Nat} {arr : Array Value} {e : TypeId} {fz : Nat × Nat} (h : W.heap[b]? = some (.cells arr e fz)) : W.cell? ⟨b, o, none⟩ = arr[o]? := by
  simp [World.cell?, h]

theorem run_loadFrom {P : Program} {W : World} {b o : Nat} {arr : Array Value} {e : TypeId} {fz : Nat × Nat} (h : W.heap[b]? = some (.cells arr e fz)) : ∀ (n i : Nat) (acc : Array Value), o + i + n ≤ arr.size →
    (loadCellsFrom ⟨b, o, none⟩ i n acc).run P W = .ok (acc ++ ((arr.toList.drop (o + i)).take n).toArray) W
  | 0, i, acc, _ => by simp [loadCellsFrom]
  | n + 1, i, acc, hn => by
    have hlt : o + i < arr.size := by omega
    have hc : W.cell? ⟨b, o + i, none⟩ = some arr[o + i] := by rw [cell_at h]; simp [hlt]
    simp only [loadCellsFrom, Sem.run_bind, add_addr, run_load, hc, Result.andThen_ok]
    rw [run_loadFrom h n (i + 1) _ (by omega)]
    congr 1
    apply Array.ext'
    have hlt' : o + i < arr.toList.length := by simpa using hlt
    rw [show (arr.toList.drop (o + i)) = arr[o + i] :: arr.toList.drop (o + i + 1) from by
      rw [List.drop_eq_getElem_cons hlt']; simp]
    simp [Nat.add_assoc]

theorem run_loadCells {P : Program} {W : World} {b o n : Nat} {arr : Array Value} {e : TypeId} {fz : Nat × Nat} (h : W.heap[b]? = some (.cells arr e fz)) (hn : o + n ≤ arr.size) :
    (loadCells ⟨b, o, none⟩ n).run P W = .ok ((arr.toList.drop o).take n).toArray W := by
  unfold loadCells
  rw [run_loadFrom h n 0 #[] (by simpa using hn)]
  simp

section
variable {P : Program} {T : Tab} (hT : TOk P T) {β : Env} {B : Gd} {W : World} {H : Tr AO} {hs : Nat} (hw : WR β B H hs W)
include hw

theorem rd_rel {o off n : Nat} {l : List AV} {k : Bk} (h : rd H o off n = some l) (hk : β.b o = some k) :
    ∃ arr e fz, W.heap[k.blk]? = some (.cells arr e fz) ∧ k.sh + off + n ≤ arr.size ∧ VRs β l ((arr.toList.drop (k.sh + off)).take n) := by
  unfold rd at h
  have ho := hw.obj o k hk
  cases hg : H.get .dead o with
  | cells c ro =>
    rw [hg] at h ho
    simp only at h
    cases hb : Nat.ble (off + n) c.length with
    | false => rw [hb] at h; cases h
    | true =>
      rw [hb, cond_true] at h; cases h
      have hle := ble_le.1 hb
      obtain ⟨arr, e, fz, h1, h2, h3, _, _, h6⟩ := ho
      refine ⟨arr, e, fz, h1, by omega, ?_⟩
      refine VRs.of_get (by simp; omega) fun i x v hx hv => ?_
      rw [List.getElem?_take] at hx hv
      split at hx
      · rename_i hi
        rw [if_pos hi] at hv
        rw [List.getElem?_drop] at hx hv
        obtain ⟨u, hu, hr⟩ := h6 _ _ hx
        rw [Nat.add_assoc] at hv
        have : arr[k.sh + (off + i)]? = some v := by simpa using hv
        rw [hu] at this; cases this; exact hr
      · cases hx
  | _ => rw [hg] at h; cases h

/-- Cells that never turn, as they lie. -/
theorem fz_read {vs : List Value} {b o : Nat} (hv : ∀ (i : Nat) v, vs[i]? = some v → β.fz b (o + i) = some v) (hne : 0 < vs.length) :
    ∃ arr e fz, W.heap[b]? = some (.cells arr e fz) ∧ o + vs.length ≤ arr.size ∧ (arr.toList.drop o).take vs.length = vs := by
  obtain ⟨arr, e, fz, h1, _⟩ := hw.fz b (o + 0) vs[0] (hv 0 vs[0] (by simp [hne]))
  have key : ∀ (i : Nat) v, vs[i]? = some v → arr[o + i]? = some v := fun i v hi => by
    obtain ⟨arr', e', fz', g1, g2⟩ := hw.fz b (o + i) v (hv i v hi)
    rw [h1] at g1; cases g1; exact g2
  refine ⟨arr, e, fz, h1, ?_, ?_⟩
  · have := (Array.getElem?_eq_some_iff.1 (key (vs.length - 1) _ (List.getElem?_eq_getElem (by omega)))).1
    omega
  · apply List.ext_getElem?
    intro i
    rw [List.getElem?_take]
    split
    · rename_i hi
      rw [List.getElem?_drop]
      have := key i vs[i] (by simp [hi])
      rw [List.getElem?_eq_getElem hi]
      simpa using this
    · rw [List.getElem?_eq_none (by omega)]

include hT
theorem ldv_rel {t : Nat} {x v : AV} {u : Value} (h : ldv T H t x = some v) (hu : VR β x u) : ∃ v', VR β v v' ∧ (Instr.loadAt t u).run P W = .ok v' W ∧ (∃ ad, u = .pointer (some ad) ∧ (loadVar t ad).run P W = .ok v' W) := by
  unfold ldv at h
  split at h
  · rename_i cs
    split at h
    · rename_i i hi
      cases hb : (Nat.blt 0 i.size && Nat.ble i.size cs.length) with
      | false => rw [hb] at h; cases h
      | true =>
        rw [hb, cond_true] at h
        simp only [Bool.and_eq_true, blt_lt, ble_le] at hb
        obtain ⟨vs, b, o, rfl, hr, hz⟩ := hu.of_eptr
        have h3 := hr.take i.size
        have hz2 : ∀ (j : Nat) v, (vs.take i.size)[j]? = some v → β.fz b (o + j) = some v := fun j v hj => by
          rw [List.getElem?_take] at hj; split at hj
          · exact hz j v hj
          · cases hj
        have hlen : (vs.take i.size).length = i.size := by have := hr.length; simp; omega
        obtain ⟨arr, e, fz, h1, h2, h4⟩ := fz_read hw hz2 (by omega)
        rw [hlen] at h2 h4
        rw [← h4] at h3
        cases ha : isAggD i.desc with
        | true =>
          rw [ha, cond_true] at h; cases h
          have key : (loadVar t ⟨b, o, none⟩).run P W = .ok (.agg ((arr.toList.drop o).take i.size).toArray) W := by
            simp only [loadVar, Sem.run_bind, run_isAgg hT hi, ha, Result.andThen_ok, if_true, run_size hT hi, run_loadCells h1 h2, Sem.run_pure]
          refine ⟨_, VR.agg _ _ h3, ?_, _, rfl, key⟩
          simp only [Instr.loadAt, Instr.sureAddr, Sem.run_bind, Sem.run_pure, Result.andThen_ok, key]
        | false =>
          rw [ha, cond_false] at h
          split at h
          · rename_i x0 hx0
            cases h
            rw [hx0] at h3
            obtain ⟨v', hv', hr'⟩ := h3.get 0 _ rfl
            have hc : arr[o]? = some v' := by
              rw [List.getElem?_take] at hv'
              split at hv'
              · rw [List.getElem?_drop] at hv'; simpa using hv'
              · cases hv'
            have key : (loadVar t ⟨b, o, none⟩).run P W = .ok v' W := by
              simp only [loadVar, Sem.run_bind, run_isAgg hT hi, ha, Result.andThen_ok, Bool.false_eq_true, if_false, run_load, cell_at h1, hc]
            refine ⟨v', hr', ?_, _, rfl, key⟩
            simp only [Instr.loadAt, Instr.sureAddr, Sem.run_bind, Sem.run_pure, Result.andThen_ok, key]
          · cases h
    · cases h
  · rename_i o off
    split at h
    · rename_i i hi
      split at h
      · rename_i l hl
        obtain ⟨k, hk, rfl⟩ := hu.of_ptr
        obtain ⟨arr, e, fz, h1, h2, h3⟩ := rd_rel hw hl hk
        cases ha : isAggD i.desc with
        | true =>
          rw [ha, cond_true] at h; cases h
          have key : (loadVar t ⟨k.blk, k.sh + off, none⟩).run P W = .ok (.agg ((arr.toList.drop (k.sh + off)).take i.size).toArray) W := by
            simp only [loadVar, Sem.run_bind, run_isAgg hT hi, ha, Result.andThen_ok, if_true, run_size hT hi, run_loadCells h1 h2, Sem.run_pure]
          refine ⟨_, VR.agg _ _ h3, ?_, _, rfl, key⟩
          simp only [Instr.loadAt, Instr.sureAddr, Sem.run_bind, Sem.run_pure, Result.andThen_ok, key]
        | false =>
          rw [ha, cond_false] at h
          split at h
          · rename_i x0 l0
            cases h
            obtain ⟨v', hv', hr⟩ := h3.get 0 _ rfl
            have hc : arr[k.sh + off]? = some v' := by
              rw [List.getElem?_take] at hv'
              split at hv'
              · rw [List.getElem?_drop] at hv'; simpa using hv'
              · cases hv'
            have key : (loadVar t ⟨k.blk, k.sh + off, none⟩).run P W = .ok v' W := by
              simp only [loadVar, Sem.run_bind, run_isAgg hT hi, ha, Result.andThen_ok, Bool.false_eq_true, if_false, run_load, cell_at h1, hc]
            refine ⟨v', hr, ?_, _, rfl, key⟩
            simp only [Instr.loadAt, Instr.sureAddr, Sem.run_bind, Sem.run_pure, Result.andThen_ok, key]
          · cases h
      · cases h
    · cases h
  · cases h

end

/-- It yields v in this world. -/
def YlAt (P : Program) (a : Act) (op : Op) (v : Value) (W : World) : Prop :=
  ∀ (dst : Option Tmp) (ty : TypeId) (pos : String) (after : Array Edge) (guard : Option (Nat × Bool)), (execOp a.eval ⟨dst, op, ty, pos, after, guard⟩).run P W = .ok (.value v) W

theorem Yl.at {P : Program} {a : Act} {op : Op} {v : Value} (h : Yl P a op v) (W : World) : YlAt P a op v W := fun d t p q g => h d t p q g W

theorem YlAt.of {P : Program} {a : Act} {op : Op} {v : Value} {W : World} {m : Sem Value} (h : ∀ (dst : Option Tmp) (ty : TypeId) (pos : String) (after : Array Edge) (guard : Option (Nat × Bool)), execOp a.eval ⟨dst, op, ty, pos, after, guard⟩ = (do pure (.value (← m))))
    (hm : m.run P W = .ok v W) : YlAt P a op v W := fun dst ty pos after guard => by rw [h, Sem.run_bind, hm]; rfl

theorem sameNow_rel {β : Env} {d : TypeDesc} {x y : AV} {u v : Value} {b : Bool} (h : keyEq d x y = some b) (hu : VR β x u) (hv : VR β y v) : Instr.sameNow d u v = some b := by
  unfold keyEq at h
  split at h
  · obtain rfl := hu.of_lit; obtain rfl := hv.of_lit
    rw [Bool.cond_decide] at h
    split at h
    · rename_i e; subst e; cases h; simp [Instr.sameNow]; rfl
    · cases h
  · obtain rfl := hu.of_str; obtain rfl := hv.of_str
    cases h
    simp [Instr.sameNow, beq_toListBytes]
  · obtain rfl := hu.of_lit; obtain rfl := hv.of_lit
    cases h
    simp [Instr.sameNow]
  · cases h

def resL (ok : Bool) (z : Value) : Option (Nat × Value) → Value
  | some (_, w) => if ok then .tuple #[w, .bool true] else w
  | none => if ok then .tuple #[z, .bool false] else z

def FindR (β : Env) (i : Nat) : Option (Nat × AV) → Option (Nat × Value) → Prop
  | none, none => True
  | some (j, v), some (j', v') => j = j' ∧ VR β v v' ∧ i ≤ j
  | _, _ => False

theorem findE_rel {β : Env} {d : TypeDesc} {x : AV} {u : Value} (hu : VR β x u) : ∀ {es : List (AV × AV × Nat)} {es' : List MapEntry} {i : Nat} {r : Option (Nat × AV)}, findE d x es i = some r → ERel β es es' →
    ∃ r', Instr.findNow d u es' i = some r' ∧ FindR β i r r'
  | [], _, i, r, h, .nil => by simp only [findE, Option.some.injEq] at h; subst h; exact ⟨none, rfl, trivial⟩
  | (a, b, n) :: es, _, i, r, h, .cons _ _ _ k v _ es' hk hv ht => by
    simp only [findE] at h
    cases he : keyEq d x a with
    | none => simp [he] at h
    | some q =>
      have hs := sameNow_rel he hu hk
      cases q with
      | true =>
        simp only [he, Option.some.injEq] at h; subst h
        exact ⟨some (i, v), by simp [Instr.findNow, hs], rfl, hv, Nat.le_refl _⟩
      | false =>
        simp only [he] at h
        obtain ⟨r', h1, h2⟩ := findE_rel hu h ht
        refine ⟨r', by simp [Instr.findNow, hs, h1], ?_⟩
        cases r with
        | none => cases r' with
          | none => trivial
          | some _ => exact h2.elim
        | some p => cases r' with
          | none => exact h2.elim
          | some p' => exact ⟨h2.1, h2.2.1, by have := h2.2.2; omega⟩

theorem run_findKey {P : Program} {T : Tab} (hT : TOk P T) {β : Env} {kt : Nat} {ki : TI} (hk : T.t kt = some ki) {x : AV} {u : Value} (hu : VR β x u) {es : List (AV × AV × Nat)} {es' : List MapEntry} {r : Option (Nat × AV)} (h : findE ki.desc x es 0 = some r) (he : ERel β es es') (W : World) :
    ∃ r', (Instr.findKey kt u es').run P W = .ok r' W ∧ FindR β 0 r r' := by
  obtain ⟨r', h1, h2⟩ := findE_rel hu h he
  exact ⟨r', by simp [Instr.findKey, run_und hT hk, h1], h2⟩

theorem run_checkKey {P : Program} {T : Tab} (hT : TOk P T) {kt : Nat} {ki : TI} (hk : T.t kt = some ki) (ho : okKey ki.desc = true) (b : Bool) (u : Value) (W : World) : (Instr.checkKey b 10000 kt u).run P W = .ok () W := by
  unfold Instr.checkKey
  simp only [Sem.run_bind, run_und hT hk, Result.andThen_ok]
  cases hd : ki.desc <;> simp [hd, okKey] at ho <;> rfl

theorem ERel.length {β : Env} : ∀ {l : List (AV × AV × Nat)} {x : List MapEntry}, ERel β l x → x.length = l.length
  | _, _, .nil => rfl
  | _, _, .cons _ _ _ _ _ _ _ _ _ t => by simp [t.length]

theorem bytesOf_rel {β : Env} : ∀ {l : List AV} {r : List UInt8} {x : List Value}, bytesOf l = some r → VRs β l x → ∃ ns : List Int, x = ns.map (Value.int .u8) ∧ r = ns.map fun n => UInt8.ofNat n.toNat
  | [], r, _, h, .nil => by simp only [bytesOf, Option.some.injEq] at h; subst h; exact ⟨[], rfl, rfl⟩
  | a :: l, r, _, h, .cons _ v _ x hv ht => by
    unfold bytesOf at h
    split at h
    · cases ‹_ = []›
    · rename_i n l' hl
      cases hl
      split at h
      · rename_i r' hr
        cases h
        obtain ⟨ns, e1, e2⟩ := bytesOf_rel hr ht
        obtain rfl := hv.of_lit
        exact ⟨n :: ns, by simp [e1], by simp [e2]⟩
      · cases h
    · cases h

theorem foldl_bytes : ∀ (ns : List Int) (s : ByteArray), (ns.foldl (fun r n => r.push (UInt8.ofNat n.toNat)) s).data.toList = s.data.toList ++ ns.map fun n => UInt8.ofNat n.toNat
  | [], s => by simp
  | n :: ns, s => by rw [List.foldl_cons, foldl_bytes ns]; simp

theorem run_bytesToString {P : Program} {W : World} {b o n : Nat} {arr : Array Value} {e : TypeId} {fz : Nat × Nat} {c : Nat} (h : W.heap[b]? = some (.cells arr e fz)) (hn : o + n ≤ arr.size) {ns : List Int} (hc : (arr.toList.drop o).take n = ns.map (Value.int .u8)) :
    (Conv.bytesToString (.slice (some ⟨b, o, none⟩) n c)).run P W = .ok (.string ⟨(ns.map fun n => UInt8.ofNat n.toNat).toArray⟩) W := by
  unfold Conv.bytesToString
  simp only [Sem.run_bind, run_loadCells h hn, Result.andThen_ok, hc]
  rw [List.forIn_toArray, run_forIn_bytes _ (by intro n r; simp [Sem.run_pure])]
  simp only [Result.andThen_ok, Sem.run_pure]
  congr 2
  apply ByteArray.ext
  apply Array.ext'
  rw [foldl_bytes]
  simp

section
variable {P : Program} {T : Tab} (hT : TOk P T) {β : Env} {B : Gd} {W : World} {H : Tr AO} {hs : Nat} (hw : WR β B H hs W) {s : AS} {a : Act} (hf : FR β s a)
include hT hw hf

theorem load_rel {t : TypeId} {x : Operand} {v : AV} (h : readOp T s H (.load t x) = some v) : ∃ v', VR β v v' ∧ YlAt P a (.load t x) v' W := by
  simp only [readOp] at h
  split at h
  · rename_i u h1
    obtain ⟨v', hr, hl, _⟩ := ldv_rel hT hw h (opd_rel hf h1)
    exact ⟨v', hr, YlAt.of (m := Instr.loadAt t (a.eval x)) (fun _ _ _ _ _ => rfl) hl⟩
  · cases h

theorem convR_rel {src dst : TypeId} {x : Operand} {v : AV} (h : readOp T s H (.convert src dst x) = some v) : ∃ v', VR β v v' ∧ YlAt P a (.convert src dst x) v' W := by
  simp only [readOp] at h
  split at h
  · rename_i u i j h1 hi hj
    have go : ∀ v', VR β v v' → (Go.convert src dst (a.eval x)).run P W = .ok v' W → ∃ v', VR β v v' ∧ YlAt P a (.convert src dst x) v' W :=
      fun v' q1 q2 => ⟨v', q1, YlAt.of (m := Go.convert src dst (a.eval x)) (fun _ _ _ _ _ => rfl) q2⟩
    split at h
    · rename_i e hdi hdj
      split at h
      · rename_i ei he
        split at h
        · rename_i o off n c hde
          split at h
          · rename_i l hl
            split at h
            · rename_i r hr
              cases h
              obtain ⟨k, c', hk, ev, _⟩ := (opd_rel hf h1).of_slc
              obtain ⟨arr, e', fz, q1, q2, q3⟩ := rd_rel hw hl hk
              obtain ⟨ns, e1, rfl⟩ := bytesOf_rel hr q3
              refine go _ (VR.str _) ?_
              rw [ev]
              simp only [Go.convert, Sem.run_bind, run_und hT hi, run_und hT hj, hdi, hdj, Result.andThen_ok, run_und hT he, hde]
              exact run_bytesToString q1 q2 e1
            · cases h
          · cases h
        · rename_i tk es hde
          split at h
          · rename_i r hr
            cases h
            have hnil : ∀ ad c, es = [] → a.eval x = .slice ad 0 c → ∃ v', VR β (.str r) v' ∧ YlAt P a (.convert src dst x) v' W := by
              intro ad c e1 ev
              subst e1
              simp only [bytesOf, Option.some.injEq] at hr
              subst hr
              refine go _ (VR.str _) ?_
              rw [ev]
              simp only [Go.convert, Sem.run_bind, run_und hT hi, run_und hT hj, hdi, hdj, Result.andThen_ok, run_und hT he, hde]
              cases ad <;> (simp [Conv.bytesToString, loadCells, loadCellsFrom]; rfl)
            rcases (opd_rel hf h1).of_lst with ⟨e1, ev⟩ | ⟨e1, ad, c, ev, _⟩ | ⟨sz, vs, b, o, c, ev, g1, g2, g3, g4, g5, g6⟩
            · exact hnil _ _ e1 ev
            · exact hnil _ _ e1 ev
            · have hcells : es.flatMap AV.cells = es := by
                have : ∀ (l : List AV) (r : List UInt8), bytesOf l = some r → l.flatMap AV.cells = l := by
                  intro l
                  induction l with
                  | nil => intro r _; rfl
                  | cons y l ih =>
                    intro r hr
                    rw [List.flatMap_cons]
                    cases y with
                    | lit u =>
                      cases u with
                      | int kd n =>
                        cases kd <;> simp only [bytesOf] at hr <;> first | (cases hr; done) | skip
                        split at hr
                        · rename_i r' hr'; rw [ih r' hr']; rfl
                        · cases hr
                      | _ => simp [bytesOf] at hr
                    | _ => simp [bytesOf] at hr
                exact this es r hr
              rw [hcells] at g1
              have hl := g1.length
              by_cases hne : es = []
              · subst hne
                exact hnil _ _ rfl (by simpa using ev)
              · have hpos : 0 < es.length := List.length_pos_iff.2 hne
                obtain ⟨arr, e', fz, q1, q2, q3⟩ := fz_read hw g4 (by omega)
                obtain ⟨ns, e1, rfl⟩ := bytesOf_rel hr g1
                refine go _ (VR.str _) ?_
                rw [ev]
                simp only [Go.convert, Sem.run_bind, run_und hT hi, run_und hT hj, hdi, hdj, Result.andThen_ok, run_und hT he, hde]
                rw [hl] at q2 q3
                exact run_bytesToString q1 q2 (q3.trans e1)
          · cases h
        · rename_i hde
          cases h
          have ev := (opd_rel hf h1).of_lit
          refine go _ (VR.str _) ?_
          rw [ev]
          simp only [Go.convert, Sem.run_bind, run_und hT hi, run_und hT hj, hdi, hdj, Result.andThen_ok, run_und hT he, hde]
          rfl
        · rename_i hde
          cases h
          have hr := opd_rel hf h1
          have ev : ∃ p q, a.eval x = .slice (some p) 0 q := by
            generalize a.eval x = w at hr
            cases hr
            exact ⟨_, _, rfl⟩
          obtain ⟨p, q, ev⟩ := ev
          refine go _ (VR.str _) ?_
          rw [ev]
          simp only [Go.convert, Sem.run_bind, run_und hT hi, run_und hT hj, hdi, hdj, Result.andThen_ok, run_und hT he, hde]
          simp [Conv.bytesToString, loadCells, loadCellsFrom]
          rfl
        · cases h
      · cases h
    · cases h
  · cases h

theorem lookup_rel {t : TypeId} {x y : Operand} {ok : Bool} {v : AV} (h : readOp T s H (.lookup t x y ok) = some v) : ∃ v', VR β v v' ∧ YlAt P a (.lookup t x y ok) v' W := by
  simp only [readOp] at h
  split at h
  · rename_i m kv ti h1 h2 h3
    split at h
    · rename_i kt et hd
      split at h
      · rename_i ki ei hk he
        cases ho : okKey ki.desc with
        | false => rw [ho] at h; cases h
        | true =>
          rw [ho, cond_true] at h
          split at h
          · rename_i es hes
            have hkv := opd_rel hf h2
            -- the entries that the model sees
            have hent : ∃ es' : List MapEntry, ERel β es es' ∧ ((a.eval x = .map none ∧ es' = []) ∨ ∃ r arr clock, a.eval x = .map (some r) ∧ W.heap[r]? = some (.map arr clock) ∧ arr.toList = es') := by
              split at hes
              · cases hes
                exact ⟨[], .nil, .inl ⟨(opd_rel hf h1).of_lit, rfl⟩⟩
              · rename_i o
                split at hes
                · rename_i es2 clk hg
                  cases hes
                  obtain ⟨k, hk', ev⟩ := (opd_rel hf h1).of_mp
                  have := hw.obj o k hk'
                  rw [hg] at this
                  obtain ⟨arr, q1, q2, _⟩ := this
                  exact ⟨arr.toList, q2, .inr ⟨_, arr, _, ev, q1, rfl⟩⟩
                · cases hes
              · cases hes
                have hr := opd_rel hf h1
                generalize a.eval x = w at hr
                cases hr with
                | fmpN => exact ⟨[], .nil, .inl ⟨rfl, rfl⟩⟩
                | fmp _ es' clk r g1 g2 => exact ⟨es'.toList, g1, .inr ⟨_, es', clk, rfl, hw.fm _ _ g2, rfl⟩⟩
              · cases hes
            obtain ⟨es', her, hev⟩ := hent
            obtain ⟨z, hz, hzr⟩ := run_zero hT he W
            have hgo : ∀ r', (Instr.findKey kt (a.eval y) es').run P W = .ok r' W → (Instr.lookup t (a.eval x) (a.eval y) ok).run P W = .ok (resL ok z r') W := by
              intro r' q1
              have hck := fun b => run_checkKey hT hk ho b (a.eval y) W
              rcases hev with ⟨ev, rfl⟩ | ⟨rr, arr, clock, ev, hh, rfl⟩
              · rw [ev]
                simp only [Instr.lookup, Sem.run_bind, run_und hT h3, hd, Result.andThen_ok, Sem.run_pure, hck]
                rw [q1]
                cases r' with
                | none => simp only [Result.andThen_ok, Sem.run_bind, hz, Sem.run_pure]; cases ok <;> rfl
                | some p => obtain ⟨j, w⟩ := p; simp only [Result.andThen_ok, Sem.run_pure]; cases ok <;> rfl
              · rw [ev]
                have hg : (getObj rr).run P W = .ok (.map arr clock) W := by simp [getObj, Sem.run, hh]
                simp only [Instr.lookup, Sem.run_bind, run_und hT h3, hd, Result.andThen_ok, Sem.run_pure, hg, hck]
                rw [q1]
                cases r' with
                | none => simp only [Result.andThen_ok, Sem.run_bind, hz, Sem.run_pure]; cases ok <;> rfl
                | some p => obtain ⟨j, w⟩ := p; simp only [Result.andThen_ok, Sem.run_pure]; cases ok <;> rfl
            have fin : ∀ v', VR β v v' → (Instr.lookup t (a.eval x) (a.eval y) ok).run P W = .ok v' W → ∃ v', VR β v v' ∧ YlAt P a (.lookup t x y ok) v' W :=
              fun v' q1 q2 => ⟨v', q1, YlAt.of (m := Instr.lookup t (a.eval x) (a.eval y) ok) (fun _ _ _ _ _ => rfl) q2⟩
            split at h
            · rename_i j w hr
              obtain ⟨r', q1, q2⟩ := run_findKey hT hk hkv hr her W
              cases r' with
              | none => exact q2.elim
              | some p =>
                obtain ⟨j', w'⟩ := p
                refine fin _ ?_ (hgo _ q1)
                cases ok with
                | true => cases h; exact VR.tup _ [w', .bool true] (.cons _ _ _ _ q2.2.1 (.cons _ _ _ _ (.lit _) .nil))
                | false => cases h; exact q2.2.1
            · rename_i hr
              obtain ⟨r', q1, q2⟩ := run_findKey hT hk hkv hr her W
              cases r' with
              | some p => exact q2.elim
              | none =>
                refine fin _ ?_ (hgo _ q1)
                cases ok with
                | true => cases h; exact VR.tup _ [z, .bool false] (.cons _ _ _ _ (hzr β) (.cons _ _ _ _ (.lit _) .nil))
                | false => cases h; exact hzr β
            · cases h
          · cases h
      · cases h
    · cases h
  · cases h

theorem lenR_rel {c : Call} {v : AV} (h : readOp T s H (.call c) = some v) : ∃ v', VR β v v' ∧ YlAt P a (.call c) v' W := by
  obtain ⟨callee, args, argTypes⟩ := c
  simp only [readOp] at h
  split at h
  · rename_i x t ha ht
    have ea : args = #[x] := by apply Array.ext'; simpa using ha
    have et : argTypes = #[t] := by apply Array.ext'; simpa using ht
    subst ea; subst et
    have key : ∀ (u : Value) (n : Nat), a.eval x = u → (∀ ty, (Builtin.len_ #[t] ty #[u]).run P W = .ok (goInt n) W) → YlAt P a (.call ⟨.builtin .len, #[x], #[t]⟩) (goInt n) W := by
      intro u n e hl dst ty pos after guard
      simp only [execOp, resolve, invoke, builtin, Sem.run_bind, Sem.run_pure, Result.andThen_ok, pure_bind]
      have : (#[x].map a.eval : Array Value) = #[u] := by simp [e]
      simp only [this, hl, Result.andThen_ok]
    split at h
    · rename_i o ti h1 h2
      split at h
      · rename_i k e es clk hd hg
        cases h
        obtain ⟨kb, hk, ev⟩ := (opd_rel hf h1).of_mp
        have := hw.obj o kb hk
        rw [hg] at this
        obtain ⟨arr, q1, q2, _⟩ := this
        have hl : arr.size = es.length := by simpa using q2.length
        refine ⟨_, VR.lit _, key _ es.length ev fun ty => ?_⟩
        have hg : (getObj kb.blk).run P W = .ok (.map arr clk) W := by simp [getObj, Sem.run, q1]
        simp [Builtin.len_, run_und hT h2, hd, hg, hl]
      · cases h
    · rename_i ti h1 h2
      split at h
      · rename_i k e hd
        cases h
        have ev := (opd_rel hf h1).of_lit
        refine ⟨_, VR.lit _, key _ 0 ev fun ty => ?_⟩
        simp [Builtin.len_, run_und hT h2, hd]
      · cases h
    · rename_i es ti h1 h2
      split at h
      · rename_i k e hd
        cases h
        have hr := opd_rel hf h1
        generalize hev : a.eval x = w at hr
        cases hr with
        | fmpN =>
          refine ⟨_, VR.lit _, key _ 0 hev fun ty => ?_⟩
          simp [Builtin.len_, run_und hT h2, hd]
        | fmp _ es' clk r q2 g2 =>
          have hl : es'.size = es.length := by simpa using q2.length
          refine ⟨_, VR.lit _, key _ es.length hev fun ty => ?_⟩
          have hg : (getObj r).run P W = .ok (.map es' clk) W := by simp [getObj, Sem.run, hw.fm _ _ g2]
          simp [Builtin.len_, run_und hT h2, hd, hg, hl]
      · cases h
    · cases h
  · cases h

theorem readOp_rel {op : Op} {v : AV} (h : readOp T s H op = some v) : ∃ v', VR β v v' ∧ YlAt P a op v' W := by
  cases op with
  | load t x => exact load_rel hT hw hf h
  | convert t u x => exact convR_rel hT hw hf h
  | lookup t x y ok => exact lookup_rel hT hw hf h
  | call c => exact lenR_rel hT hw hf h
  | _ => simp [readOp] at h

end
end Go.Proofs.Ytbcecenneganeaa.Ev
