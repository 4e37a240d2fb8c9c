import Derived.Test.YtcledcfeddlomaaGreatDoorEv13
set_option linter.all false
namespace Go.Proofs.YtcledcfeddlomaaGreatDoor.Ev
open Go.RowKit
structure Upd (b : Nat) (W W' : World) : Prop where
 os : W'.os = W.os
 tape : W'.tape = W.tape
 output : W'.output = W.output
 size : W'.heap.size = W.heap.size
 oth : ∀ j, j ≠ b -> W'.heap[j]? = W.heap[j]?
theorem Upd.refl (b : Nat) (W : World) : Upd b W W := ⟨rfl, rfl, rfl, rfl, fun _ _ => rfl⟩
theorem Upd.trans {b : Nat} {x y z : World} (h : Upd b x y) (g : Upd b y z) : Upd b x z :=
 ⟨g.os.trans h.os, g.tape.trans h.tape, g.output.trans h.output, g.size.trans h.size, fun j hj => (g.oth j hj).trans (h.oth j hj)⟩
theorem Upd.below {b : Nat} {B : Nat -> Prop} {W W' : World} (h : Upd b W W') (hb : ¬ B b) : Keep B W W' :=
 ⟨h.os, h.tape, h.output, Nat.le_of_eq h.size.symm, fun k hk => h.oth k (fun e => hb (e ▸ hk))⟩
theorem Upd.setCell (W : World) (b o : Nat) (v : Value) : Upd b W (W.setCell ⟨b, o, none⟩ v) :=
 ⟨rfl, rfl, rfl, by simp [World.setCell], fun j hj => Below.heap_setCell W ⟨b, o, none⟩ v j hj⟩
theorem heap_setCell_at {W : World} {b o : Nat} {arr : Array Value} {e : TypeId} {fz : Nat × Nat} (h : W.heap[b]? = some (.cells arr e fz)) (v : Value) :
  (W.setCell ⟨b, o, none⟩ v).heap[b]? = some (.cells (arr.setIfInBounds o v) e fz) := by
 simp [World.setCell, Array.getElem?_modify, h]
theorem frozen_at {W : World} {b o : Nat} {arr : Array Value} {e : TypeId} {fz : Nat × Nat} (h : W.heap[b]? = some (.cells arr e fz)) (hf : fz.2 <= fz.1 ∨ arr.size <= fz.1) (ho : o < arr.size) : W.frozen? ⟨b, o, none⟩ = false := by
 obtain ⟨lo, hi⟩ := fz
 simp only [World.frozen?, h]
 simp only [Bool.and_eq_false_iff, decide_eq_false_iff_not]
 simp only at hf
 omega
theorem run_storeCells {P : Program} {b o : Nat} {e : TypeId} {fz : Nat × Nat} : ∀ (vs : List Value) (i : Nat) (W : World) (arr : Array Value), W.heap[b]? = some (.cells arr e fz) -> (fz.2 <= fz.1 ∨ arr.size <= fz.1) ->
  (∀ v ∈ vs, v.oneCell' = true) -> o + i + vs.length <= arr.size ->
  ∃ W' arr', (storeCells ⟨b, o, none⟩ vs i).run P W = .ok () W' /\ Upd b W W' /\ W'.heap[b]? = some (.cells arr' e fz) /\ arr'.toList = arr.toList.take (o + i) ++ (vs ++ arr.toList.drop (o + i + vs.length)) /\ arr'.size = arr.size
 | [], i, W, arr, h, hf, hv, hl => ⟨W, arr, by simp [storeCells], Upd.refl _ _, h, by simp, rfl⟩
 | v :: vs, i, W, arr, h, hf, hv, hl => by
  simp only [List.length_cons] at hl
  have hlt : o + i < arr.size := by omega
  have hc : W.cell? ⟨b, o + i, none⟩ = some arr[o + i] := by rw [cell_at h]; simp [hlt]
  have hrun : (store ((⟨b, o, none⟩ : Addr).add i) v).run P W = .ok () (W.setCell ⟨b, o + i, none⟩ v) := by
   rw [add_addr, run_store P W _ v _ (hv v (by simp)), hc]
   simp [frozen_at h hf hlt]
  obtain ⟨W', arr', q1, q2, q3, q4, q5⟩ := run_storeCells (P := P) (o := o) vs (i + 1) (W.setCell ⟨b, o + i, none⟩ v) (arr.setIfInBounds (o + i) v) (heap_setCell_at h v) (by simpa using hf) (fun u hu => hv u (by simp [hu])) (by simp; omega)
  refine ⟨W', arr', ?_, (Upd.setCell W b (o + i) v).trans q2, q3, ?_, by simpa using q5⟩
  ·simp only [storeCells, Sem.run_bind, hrun, Result.andThen_ok]; exact q1
  ·rw [q4]
   have hlt' : o + i < arr.toList.length := by simpa using hlt
   simp only [Array.toList_setIfInBounds, List.length_cons]
   rw [show o + (i + 1) = o + i + 1 from by omega, show o + i + 1 + vs.length = o + i + (vs.length + 1) from by omega]
   rw [List.take_set, List.drop_set, if_pos (by omega), List.take_succ_eq_append_getElem hlt', List.set_append_right _ _ (by simp; omega)]
   have hm : min (o + i) arr.size = o + i := by omega
   simp [hm]
theorem oneCell_rel {β : Env} {a : AV} {v : Value} (h : VR β a v) (ho : oneCell a = true) : v.oneCell' = true := by
 cases h <;> first | rfl | (simp [oneCell] at ho; done) | (simpa [oneCell] using ho)
theorem oneCells_rel {β : Env} : ∀ {l : List AV} {x : List Value}, VRs β l x -> l.all oneCell = true -> ∀ v ∈ x, v.oneCell' = true
 | _, _, .nil, _, v, hv => by cases hv
 | _, _, .cons a u l x h t, ho, v, hv => by
  simp only [List.all_cons, Bool.and_eq_true] at ho
  rcases List.mem_cons.1 hv with rfl | hv
  ·exact oneCell_rel h ho.1
  ·exact oneCells_rel t ho.2 v hv
section
variable {P : Program} {β : Env} {B : Gd} {W : World} {H : Tr AO} {hs : Nat} (hw : WR β B H hs W)
include hw
theorem wr_rel {o off : Nat} {vs : List AV} {H' : Tr AO} {k : Bk} {y : List Value} (h : wr H o off vs = some H') (hk : β.b o = some k) (hy : VRs β vs y) :
  ∃ W', (storeCells ⟨k.blk, k.sh + off, none⟩ y).run P W = .ok () W' /\ WR β B H' hs W' := by
 unfold wr at h
 have ho := hw.obj o k hk
 cases hg : H.get .dead o with
 | cells c ro =>
  rw [hg] at h ho
  cases ro with
  | true => cases h
  | false =>
   simp only at h
   cases hb : (Nat.ble (off + vs.length) c.length && vs.all oneCell) with
   | false => rw [hb] at h; cases h
   | true =>
    rw [hb, cond_true] at h; cases h
    simp only [Bool.and_eq_true, ble_le] at hb
    obtain ⟨arr, e, fz, h1, h2, h3, h4, h5, h6⟩ := ho
    have hl := hy.length
    obtain ⟨W', arr', q1, q2, q3, q4, q5⟩ := run_storeCells (P := P) (o := k.sh + off) y 0 W arr h1 (by rw [h2]; exact h4) (oneCells_rel hy hb.2) (by omega)
    refine ⟨W', q1, hw.write hk _ (by rw [hg]; rfl) (by rw [hg]; rfl) (q2.below (h5.1 rfl)) q2.size q2.oth ?_ (fun _ => by rw [hg]; rfl)⟩
    rw [q3]
    refine ⟨arr', e, fz, rfl, by omega, by rw [splice_length hb.1]; exact h3, h4, ⟨h5.1, fun x => by cases x⟩, fun i x hx => ?_⟩
    have hget : ∀ j : Nat, arr'[j]? = (arr.toList.take (k.sh + off) ++ (y ++ arr.toList.drop (k.sh + off + y.length)))[j]? := fun j => by
     have : arr'[j]? = arr'.toList[j]? := by simp
     rw [this, q4]; simp
    have htk : (arr.toList.take (k.sh + off)).length = k.sh + off := by simp; omega
    rw [hget]
    unfold splice at hx
    have hck : (c.take off).length = off := by simp; omega
    by_cases c1 : i < off
    ·rw [List.getElem?_append_left (by omega)] at hx
     rw [List.getElem?_append_left (by omega), List.getElem?_take, if_pos (by omega)]
     rw [List.getElem?_take, if_pos c1] at hx
     obtain ⟨v, hv, hr⟩ := h6 i x hx
     exact ⟨v, by simpa using hv, hr⟩
    ·rw [List.getElem?_append_right (by omega), hck] at hx
     rw [List.getElem?_append_right (by omega), htk, show k.sh + i - (k.sh + off) = i - off from by omega]
     by_cases c2 : i - off < vs.length
     ·rw [List.getElem?_append_left c2] at hx
      rw [List.getElem?_append_left (by omega)]
      exact hy.get _ _ hx
     ·rw [List.getElem?_append_right (by omega), List.getElem?_drop] at hx
      rw [List.getElem?_append_right (by omega), List.getElem?_drop]
      obtain ⟨v, hv, hr⟩ := h6 _ _ hx
      refine ⟨v, ?_, hr⟩
      rw [show k.sh + off + y.length + (i - off - y.length) = k.sh + (off + vs.length + (i - off - vs.length)) from by omega]
      simpa using hv
 | _ => rw [hg] at h; cases h
end
end Go.Proofs.YtcledcfeddlomaaGreatDoor.Ev
namespace Go.Proofs.YtcledcfeddlomaaGreatDoor.Ev
open Go.RowKit Go.Builtin
def PutAt (P : Program) (W W' : World) (base : Option Addr) (k : Nat) (new : List Value) : Prop :=
 match base with
 | none => W' = W
 | some a => (storeCells (a.add k) new).run P W = .ok () W'
theorem run_append_in {P : Program} {T : Tab} (hT : TOk P T) {st xt e : Nat} {si xi ei : TI} (h1 : T.t st = some si) (hd : si.desc = .slice e) (he : T.t e = some ei) (hx : T.t xt = some xi) (hnz : (xi.desc matches .int _) = false)
  {W W' : World} {base : Option Addr} {sLen sCap n : Nat} {x : Value} {new : Array Value} (hl : ∀ w, (lenOf x).run P w = .ok n w) (hnew : (firstCells ei.size n x).run P W = .ok new W) (hle : sLen + n <= sCap)
  (hst : PutAt P W W' base (sLen * ei.size) new.toList) (ty : TypeId) :
  (append_ #[st, xt] ty #[.slice base sLen sCap, x]).run P W = .ok (.slice base (sLen + n) sCap) W' := by
 unfold append_
 simp only [List.getElem?_toArray, List.getElem?_cons_zero, List.getElem?_cons_succ, Sem.run_bind, run_und hT h1, hd, Result.andThen_ok, run_size hT he, run_und hT hx, Sem.run_pure, hl]
 split
 ·rename_i hh
  exfalso; rw [hh] at hnz; simp at hnz
 rename_i hneg
 simp only [Bool.false_eq_true, if_false, Sem.run_bind, hl, Result.andThen_ok, false_or]
 rw [if_pos hle]
 simp only [Sem.run_bind, Bool.not_false, if_true, hnew, Result.andThen_ok]
 cases base with
 | none => simp only [PutAt] at hst; subst hst; simp
 | some ad => simp only [PutAt] at hst; simp only [Sem.run_bind, hst, Result.andThen_ok, Sem.run_pure]
theorem nextcap_le (need c : Nat) (h : c < need) : nextslicecap need c <= 4 * need + 4000 := by
 unfold nextslicecap
 split
 ·omega
 ·split
  ·omega
  ·simp only [growBy]
   repeat' split
   all_goals omega
theorem run_append_out {P : Program} {T : Tab} (hT : TOk P T) {st xt e : Nat} {si xi ei : TI} (h1 : T.t st = some si) (hd : si.desc = .slice e) (he : T.t e = some ei) (hx : T.t xt = some xi) (hnz : (xi.desc matches .int _) = false)
  {W : World} {base : Option Addr} {sLen sCap n : Nat} {x : Value} {new old : Array Value} {z : Value} (hz : ∀ w, (zeroValue e).run P w = .ok z w) (hl : ∀ w, (lenOf x).run P w = .ok n w) (hnew : ∀ d, (firstCells ei.size n x).run P { W with drawn := d } = .ok new { W with drawn := d })
  (hold : ∀ d, (firstCells ei.size sLen (.slice base sLen sCap)).run P { W with drawn := d } = .ok old { W with drawn := d }) (hgt : ¬ sLen + n <= sCap) (hb : 0 < ei.bytes) (hroom : (4 * (sLen + n) + 4000) * ei.bytes <= 2 ^ 48) (ty : TypeId) :
  ∃ c, sLen + n <= c /\ (append_ #[st, xt] ty #[.slice base sLen sCap, x]).run P W = .ok (.slice (some ⟨W.heap.size, 0, none⟩) (sLen + n) c) (({ W with drawn := W.drawn + 1 } : World).alloc (.cells (old ++ new ++ zeroCells z.cells (c - (sLen + n))) e)) := by
 obtain ⟨inf, hinf, hby⟩ : ∃ inf, (∀ w, (typeInfo e).run P w = .ok inf w) /\ inf.bytes = ei.bytes := by
  obtain ⟨inf, q1, _, q3, _⟩ := (hT.ty e ei he).2.1
  exact ⟨inf, fun w => by simp [typeInfo, q1], q3⟩
 have c1 : ¬ (((sLen + n : Nat) : Int) > IntKind.i64.max /\ (false = true ∨ inf.bytes = 0)) := by rw [hby]; rintro ⟨_, h | h⟩; cases h; omega
 have c2 : ¬ (nextslicecap (sLen + n) sCap * inf.bytes > 2 ^ 48) := by
  rw [hby]
  have := nextcap_le (sLen + n) sCap (by omega)
  have := Nat.mul_le_mul_right ei.bytes this
  omega
 refine ⟨(Question.appendCap (sLen + n) sCap e).cut (W.tape W.drawn (.appendCap (sLen + n) sCap e)), ?_, ?_⟩
 ·simp [Question.cut]
 unfold append_
 simp only [List.getElem?_toArray, List.getElem?_cons_zero, List.getElem?_cons_succ, Sem.run_bind, run_und hT h1, hd, Result.andThen_ok, run_size hT he, run_und hT hx, Sem.run_pure, hl]
 split
 ·rename_i hh
  exfalso; rw [hh] at hnz; simp at hnz
 rename_i hneg
 simp only [Bool.false_eq_true, if_false, Sem.run_bind, hl, Result.andThen_ok, false_or]
 rw [if_neg hgt]
 simp only [Sem.run_bind, hinf, Result.andThen_ok]
 rw [if_neg (by simpa using c1)]
 simp only [pure_bind, Sem.run_bind, hinf, Result.andThen_ok]
 rw [if_neg c2]
 simp only [pure_bind, Sem.run_bind, run_choose, Question.forced, Bool.false_eq_true, if_false, Result.andThen_ok, hinf, run_askRoom, hold, hnew, hz, Sem.run_pure, Bool.not_false, if_true, run_newRow]
theorem run_appendZ_in {P : Program} {T : Tab} (hT : TOk P T) {st xt e : Nat} {si xi ei : TI} {kk : IntKind} (h1 : T.t st = some si) (hd : si.desc = .slice e) (he : T.t e = some ei) (hx : T.t xt = some xi) (hnz : xi.desc = .int kk)
  {W W' : World} {base : Option Addr} {sLen sCap : Nat} {m : Int} {z : Value} (hz : ∀ w, (zeroValue e).run P w = .ok z w) (hm : 0 <= m) (hm2 : m <= 1000000) (hby : m * ei.bytes <= 2 ^ 48) (hpos : m.toNat * ei.size ≠ 0) (hle : sLen + m.toNat <= sCap)
  (hst : PutAt P W W' base (sLen * ei.size) (zeroCells z.cells m.toNat).toList) (ty : TypeId) :
  (append_ #[st, xt] ty #[.slice base sLen sCap, .int .i64 m]).run P W = .ok (.slice base (sLen + m.toNat) sCap) W' := by
 obtain ⟨inf, hinf, hbi⟩ : ∃ inf, (∀ w, (typeInfo e).run P w = .ok inf w) /\ inf.bytes = ei.bytes := by
  obtain ⟨inf, q1, _, q3, _⟩ := (hT.ty e ei he).2.1
  exact ⟨inf, fun w => by simp [typeInfo, q1], q3⟩
 have w2 : IntKind.i64.wrap m = m := by rw [IntKind.wrap_i64]; omega
 have n1 : ¬ m < 0 := by omega
 have n2 : ¬ (m * (inf.bytes : Int) > 2 ^ 48) := by rw [hbi]; omega
 unfold append_
 simp only [List.getElem?_toArray, List.getElem?_cons_zero, List.getElem?_cons_succ, Sem.run_bind, run_und hT h1, hd, Result.andThen_ok, run_size hT he, run_und hT hx, Sem.run_pure, hnz]
 simp only [if_true, Sem.run_bind, asInt, asIntOf, Sem.run_pure, Result.andThen_ok, w2, n1, if_false, hinf, n2, pure_bind]
 rw [if_pos hle]
 simp only [Sem.run_bind, Bool.not_true, Bool.false_eq_true, if_false, hpos, hz, Sem.run_pure, Result.andThen_ok]
 cases base with
 | none => simp only [PutAt] at hst; subst hst; simp
 | some ad => simp only [PutAt] at hst; simp only [Sem.run_bind, hst, Result.andThen_ok, Sem.run_pure]
theorem run_appendZ_out {P : Program} {T : Tab} (hT : TOk P T) {st xt e : Nat} {si xi ei : TI} {kk : IntKind} (h1 : T.t st = some si) (hd : si.desc = .slice e) (he : T.t e = some ei) (hx : T.t xt = some xi) (hnz : xi.desc = .int kk)
  {W : World} {base : Option Addr} {sLen sCap : Nat} {m : Int} {old : Array Value} {z : Value} (hz : ∀ w, (zeroValue e).run P w = .ok z w) (hm : 0 <= m) (hm2 : m <= 1000000) (hby : m * ei.bytes <= 2 ^ 48) (hpos : m.toNat * ei.size ≠ 0)
  (hold : ∀ d, (firstCells ei.size sLen (.slice base sLen sCap)).run P { W with drawn := d } = .ok old { W with drawn := d }) (hgt : ¬ sLen + m.toNat <= sCap) (hb : 0 < ei.bytes) (hroom : (4 * (sLen + m.toNat) + 4000) * ei.bytes <= 2 ^ 48) (ty : TypeId) :
  ∃ c, sLen + m.toNat <= c /\ (append_ #[st, xt] ty #[.slice base sLen sCap, .int .i64 m]).run P W = .ok (.slice (some ⟨W.heap.size, 0, none⟩) (sLen + m.toNat) c) (({ W with drawn := W.drawn + 1 } : World).alloc (.cells (old ++ zeroCells z.cells m.toNat ++ zeroCells z.cells (c - (sLen + m.toNat))) e)) := by
 obtain ⟨inf, hinf, hbi⟩ : ∃ inf, (∀ w, (typeInfo e).run P w = .ok inf w) /\ inf.bytes = ei.bytes := by
  obtain ⟨inf, q1, _, q3, _⟩ := (hT.ty e ei he).2.1
  exact ⟨inf, fun w => by simp [typeInfo, q1], q3⟩
 have w2 : IntKind.i64.wrap m = m := by rw [IntKind.wrap_i64]; omega
 have n1 : ¬ m < 0 := by omega
 have n2 : ¬ (m * (inf.bytes : Int) > 2 ^ 48) := by rw [hbi]; omega
 have hmul : sLen + m.toNat <= (4 * (sLen + m.toNat) + 4000) * ei.bytes := by
  have := Nat.le_mul_of_pos_right (4 * (sLen + m.toNat) + 4000) hb
  omega
 have c1 : ¬ (((sLen + m.toNat : Nat) : Int) > IntKind.i64.max) := by
  simp only [IntKind.max, IntKind.signed, IntKind.bits]; simp; omega
 have c2 : ¬ (nextslicecap (sLen + m.toNat) sCap * inf.bytes > 2 ^ 48) := by
  rw [hbi]
  have := nextcap_le (sLen + m.toNat) sCap (by omega)
  have := Nat.mul_le_mul_right ei.bytes this
  omega
 refine ⟨(Question.appendCap (sLen + m.toNat) sCap e).cut (W.tape W.drawn (.appendCap (sLen + m.toNat) sCap e)), ?_, ?_⟩
 ·simp [Question.cut]
 unfold append_
 simp only [List.getElem?_toArray, List.getElem?_cons_zero, List.getElem?_cons_succ, Sem.run_bind, run_und hT h1, hd, Result.andThen_ok, run_size hT he, run_und hT hx, Sem.run_pure, hnz]
 simp only [if_true, Sem.run_bind, asInt, asIntOf, Sem.run_pure, Result.andThen_ok, w2, n1, if_false, hinf, n2, pure_bind]
 rw [if_neg hgt]
 simp only [Sem.run_bind, hinf, Result.andThen_ok]
 rw [if_neg (by simpa using c1)]
 simp only [pure_bind, Sem.run_bind, hinf, Result.andThen_ok]
 rw [if_neg c2]
 simp only [pure_bind, Sem.run_bind, run_choose, Question.forced, Bool.false_eq_true, if_false, Result.andThen_ok, hinf, run_askRoom, hold, hz, Sem.run_pure, Bool.not_true, hpos, run_newRow]
structure App (P : Program) (W : World) (e : TypeId) (size bytes n : Nat) (new : Array Value) (m : Value -> Sem Value) : Prop where
 len : new.size = n * size
 pos : 0 < size
 inn : ∀ base sLen sCap W', sLen + n <= sCap -> PutAt P W W' base (sLen * size) new.toList -> (m (.slice base sLen sCap)).run P W = .ok (.slice base (sLen + n) sCap) W'
 out : n ≠ 0 -> ∀ base sLen sCap old, (∀ d, (firstCells size sLen (.slice base sLen sCap)).run P { W with drawn := d } = .ok old { W with drawn := d }) -> ¬ sLen + n <= sCap -> (4 * (sLen + n) + 4000) * bytes <= 281474976710656 ->
  ∃ c rest, sLen + n <= c /\ rest.size = (c - (sLen + n)) * size /\ (m (.slice base sLen sCap)).run P W = .ok (.slice (some ⟨W.heap.size, 0, none⟩) (sLen + n) c) (({ W with drawn := W.drawn + 1 } : World).alloc (.cells (old ++ new ++ rest) e))
theorem WR.grown {β : Env} {B : Gd} {W : World} {H : Tr AO} {hs : Nat} (hw : WR β B H hs W) {c : List AV} {old rest : Array Value} {e : TypeId} {size need cap : Nat} (hc : VRs β c old.toList) (hl : old.size = need * size) (hr : rest.size = (cap - need) * size) (hn : need <= cap) :
  ∃ β', β.le β' /\ (∀ o, o < hs -> β'.b o = β.b o) /\ WR β' B (H.put .dead hs (.cells c false)) (hs + 1) (({ W with drawn := W.drawn + 1 } : World).alloc (.cells (old ++ rest) e)) /\
   VR β' (.slc hs 0 need (.op size)) (.slice (some ⟨W.heap.size, 0, none⟩) need cap) := by
 have hw' := hw.drew (W.drawn + 1)
 have hd := hw.dom hs (Nat.le_refl _)
 have hle := Env.le_add (k := ⟨W.heap.size, 0, (old ++ rest).size, size⟩) hd
 refine ⟨β.add hs ⟨W.heap.size, 0, (old ++ rest).size, size⟩, hle, fun o ho => Env.add_other _ _ (by omega), ?_, ?_⟩
 ·refine hw'.alloc (.cells (old ++ rest) e) (.cells c false) _ size ?_
  refine ⟨old ++ rest, e, (0, 0), rfl, rfl, ?_, .inl (Nat.le_refl _), ⟨fun _ => hw.new, fun x => by cases x⟩, fun i x hx => ?_⟩
  ·have := hc.length; simp at this; simp; omega
  ·obtain ⟨v, hv, hvr⟩ := (hc.mono hle).get i x hx
   refine ⟨v, ?_, hvr⟩
   have hlt : i < old.size := by simpa using (List.getElem?_eq_some_iff.1 hv).1
   rw [Nat.zero_add, Array.getElem?_append_left hlt]
   simpa using hv
 ·have := VR.slcO (β := β.add hs ⟨W.heap.size, 0, (old ++ rest).size, size⟩) hs 0 need cap size _ (Env.add_self _ _ _) rfl (by
   simp only [Array.size_append, hl, hr, Nat.zero_add]
   rw [<- Nat.add_mul]; congr 1; omega) hn
  simpa using this
section
variable {P : Program} {β : Env} {B : Gd} {W : World} {H : Tr AO} {hs : Nat} (hw : WR β B H hs W)
include hw
theorem append_rel {e : TypeId} {size bytes n : Nat} {u v : AV} {x : Value} {cs : List AV} {new : Array Value} {m : Value -> Sem Value} {H' : Tr AO} {hs' : Nat} (hu : VR β u x) (h : append' H hs size bytes u n cs = some (v, H', hs'))
  (hcs : VRs β cs new.toList) (hA : App P W e size bytes n new m) :
  ∃ v' W' β', β.le β' /\ (∀ o, o < hs -> β'.b o = β.b o) /\ WR β' B H' hs' W' /\ hs <= hs' /\ VR β' v v' /\ (m x).run P W = .ok v' W' := by
 unfold append' at h
 rw [beq_if] at h
 split at h
 ·rename_i hn
  subst hn
  have hnew : new = #[] := by
   have := hA.len; simp at this; exact this
  have hin : ∀ base sLen sCap, sLen <= sCap -> (m (.slice base sLen sCap)).run P W = .ok (.slice base sLen sCap) W := fun base sLen sCap hle => by
   refine hA.inn base sLen sCap W (by simpa using hle) ?_
   cases base with
   | none => rfl
   | some ad => simp [PutAt, hnew, storeCells]
  split at h
  ·rename_i o off len c
   cases hb : Nat.ble len c with
   | false => rw [hb] at h; cases h
   | true =>
    rw [hb, cond_true] at h; cases h
    obtain ⟨k, c', hk, rfl, hX, _⟩ := hu.of_slc
    obtain rfl := hX _ rfl
    exact ⟨_, W, β, Env.le.refl _, fun _ _ => rfl, hw, Nat.le_refl _, hu, hin _ _ _ (ble_le.1 hb)⟩
  ·rename_i o off len z
   cases h
   obtain ⟨k, c', hk, rfl, _, hO⟩ := hu.of_slc
   exact ⟨_, W, β, Env.le.refl _, fun _ _ => rfl, hw, Nat.le_refl _, hu, hin _ _ _ (hO _ rfl).2.2⟩
  ·cases h
   obtain rfl := hu.of_lit
   exact ⟨_, W, β, Env.le.refl _, fun _ _ => rfl, hw, Nat.le_refl _, hu, hin _ _ _ (Nat.le_refl _)⟩
  ·cases h
   have ev : ∃ p q, x = .slice (some p) 0 q := by cases hu; exact ⟨_, _, rfl⟩
   obtain ⟨p, q, rfl⟩ := ev
   exact ⟨_, W, β, Env.le.refl _, fun _ _ => rfl, hw, Nat.le_refl _, hu, hin _ _ _ (Nat.zero_le _)⟩
  ·cases h
   have ev : ∃ p q, x = .slice p 0 q := by cases hu <;> exact ⟨_, _, rfl⟩
   obtain ⟨p, q, rfl⟩ := ev
   exact ⟨_, W, β, Env.le.refl _, fun _ _ => rfl, hw, Nat.le_refl _, hu, hin _ _ _ (Nat.zero_le _)⟩
  ·cases h
 ·rename_i hn0
  cases hb0 : (cs.all oneCell && Nat.beq cs.length (n * size)) with
  | false => rw [hb0] at h; cases h
  | true =>
   rw [hb0, cond_true] at h
   simp only [Bool.and_eq_true] at hb0
   have hcl : cs.length = n * size := Nat.eq_of_beq_eq_true hb0.2
   split at h
   ·
    obtain rfl := hu.of_lit
    cases hb : Nat.ble ((4 * n + 4000) * bytes) 281474976710656 with
    | false => rw [hb] at h; cases h
    | true =>
     rw [hb, cond_true] at h; cases h
     obtain ⟨c, rest, q1, q2, q3⟩ := hA.out hn0 none 0 0 #[] (fun d => by simp [firstCells]) (by omega) (by simpa using ble_le.1 hb)
     obtain ⟨β', g1, g2, g3, g4⟩ := hw.grown (rest := rest) (e := e) (size := size) (need := n) (cap := c) hcs hA.len (by simpa using q2) (by omega)
     refine ⟨_, _, β', g1, g2, g3, Nat.le_succ _, g4, ?_⟩
     rw [q3]
     simp
   ·
    have ev : ∃ p, x = .slice p 0 0 := by
     cases hu with
     | lstN => exact ⟨_, rfl⟩
     | lstE tk a c hf hr => obtain rfl := hf rfl; exact ⟨_, rfl⟩
     | lst tk sz es vs b o c h hl hz hv hc ht =>
      have h2 : o + ([] : List AV).length * sz = o + c * sz := ht
      have : c = 0 := by
       rcases Nat.eq_zero_or_pos c with h3 | h3
       ·exact h3
       ·have := Nat.mul_pos h3 hz; simp at h2; omega
      subst this; exact ⟨_, rfl⟩
    obtain ⟨p, rfl⟩ := ev
    cases hb : Nat.ble ((4 * n + 4000) * bytes) 281474976710656 with
    | false => rw [hb] at h; cases h
    | true =>
     rw [hb, cond_true] at h; cases h
     obtain ⟨c, rest, q1, q2, q3⟩ := hA.out hn0 p 0 0 #[] (fun d => by cases p <;> simp [firstCells, loadCells, loadCellsFrom]) (by omega) (by simpa using ble_le.1 hb)
     obtain ⟨β', g1, g2, g3, g4⟩ := hw.grown (rest := rest) (e := e) (size := size) (need := n) (cap := c) hcs hA.len (by simpa using q2) (by omega)
     refine ⟨_, _, β', g1, g2, g3, Nat.le_succ _, g4, ?_⟩
     rw [q3]
     simp
   ·rename_i o off len cap
    obtain ⟨k, c, hk, rfl, hX, hO⟩ := hu.of_slc
    have ho := hw.obj o k hk
    split at h
    ·rename_i cc ro hg
     rw [hg] at ho
     cases hb : (Nat.ble (off + len * size) cc.length && Nat.ble ((4 * (len + n) + 4000) * bytes) 281474976710656) with
     | false => rw [hb] at h; cases h
     | true =>
      rw [hb, cond_true] at h
      simp only [Bool.and_eq_true, ble_le] at hb
      obtain ⟨arr, ae, fz, o1, o2, o3, o4, o5, o6⟩ := ho
      have hrd : rd H o off (len * size) = some ((cc.drop off).take (len * size)) := by
       unfold rd; rw [hg]; simp only; rw [ble_le.2 hb.1, cond_true]
      obtain ⟨arr', ae', fz', r1, r2, r3⟩ := rd_rel hw hrd hk
      rw [o1] at r1; cases r1
      have hold : ∀ d, (firstCells size len (.slice (some ⟨k.blk, k.sh + off, none⟩) len c)).run P { W with drawn := d } = .ok ((arr.toList.drop (k.sh + off)).take (len * size)).toArray { W with drawn := d } := fun d => by
       unfold firstCells
       exact run_loadCells (W := { W with drawn := d }) (e := ae) (fz := fz) o1 r2
      have hout : ¬ len + n <= c -> ∃ v' W' β', β.le β' /\ (∀ o, o < hs -> β'.b o = β.b o) /\ WR β' B (H.put .dead hs (.cells ((cc.drop off).take (len * size) ++ cs) false)) (hs + 1) W' /\ VR β' (.slc hs 0 (len + n) (.op size)) v' /\ (m (.slice (some ⟨k.blk, k.sh + off, none⟩) len c)).run P W = .ok v' W' := by
       intro hgt
       obtain ⟨c2, rest, q1, q2, q3⟩ := hA.out hn0 _ len c _ hold hgt hb.2
       have hall : VRs β ((cc.drop off).take (len * size) ++ cs) (((arr.toList.drop (k.sh + off)).take (len * size)).toArray ++ new).toList := by simpa using r3.append hcs
       have hlen : (((arr.toList.drop (k.sh + off)).take (len * size)).toArray ++ new).size = (len + n) * size := by
        have := hall.length
        simp only [Array.length_toList] at this
        rw [this, List.length_append, hcl, List.length_take, List.length_drop, Nat.add_mul]
        omega
       obtain ⟨β', g1, g2, g3, g4⟩ := hw.grown (rest := rest) (e := e) (size := size) (need := len + n) (cap := c2) hall hlen q2 q1
       exact ⟨_, _, β', g1, g2, g3, g4, q3⟩
      have hinn : ∀ (hle : len + n <= c) (H2 : Tr AO), wr H o (off + len * size) cs = some H2 -> ∃ W', WR β B H2 hs W' /\ (m (.slice (some ⟨k.blk, k.sh + off, none⟩) len c)).run P W = .ok (.slice (some ⟨k.blk, k.sh + off, none⟩) (len + n) c) W' := by
       intro hle H2 hwr
       obtain ⟨W', w1, w2⟩ := wr_rel hw (P := P) hwr hk hcs
       refine ⟨W', w2, hA.inn _ _ _ W' hle ?_⟩
       simp only [PutAt, add_addr, Nat.add_assoc]
       simpa [Nat.add_assoc] using w1
      split at h
      ·rename_i kc
       obtain rfl := hX _ rfl
       cases hb2 : Nat.ble (len + n) c with
       | true =>
        rw [hb2, cond_true] at h
        split at h
        ·rename_i H2 hwr
         cases h
         obtain ⟨W', w1, w2⟩ := hinn (ble_le.1 hb2) _ hwr
         exact ⟨_, W', β, Env.le.refl _, fun _ _ => rfl, w1, Nat.le_refl _, VR.slcX _ _ _ _ k hk, w2⟩
        ·cases h
       | false =>
        rw [hb2, cond_false] at h
        cases hb3 : Nat.ble len c with
        | false => rw [hb3] at h; cases h
        | true =>
         rw [hb3, cond_true] at h; cases h
         obtain ⟨v', W', β', g1, g2, g3, g4, g5⟩ := hout (fun hle => by rw [ble_le.2 hle] at hb2; cases hb2)
         exact ⟨v', W', β', g1, g2, g3, Nat.le_succ _, g4, g5⟩
      ·rename_i z
       obtain ⟨hz, hsz, hlc⟩ := hO _ rfl
       cases hb2 : (Nat.beq z size && !ro) with
       | false => rw [hb2] at h; cases h
       | true =>
        rw [hb2, cond_true] at h
        simp only [Bool.and_eq_true, Bool.not_eq_true'] at hb2
        have hzs : z = size := Nat.eq_of_beq_eq_true hb2.1
        subst hzs
        have hro := hb2.2
        subst hro
        cases hb3 : Nat.ble (off + (len + n) * z) cc.length with
        | true =>
         rw [hb3, cond_true] at h
         split at h
         ·rename_i H2 hwr
          cases h
          have hle : len + n <= c := by
           have h3 := ble_le.1 hb3
           have hzpos : 0 < z := hA.pos
           have : (len + n) * z <= c * z := by omega
           exact Nat.le_of_mul_le_mul_right this hzpos
          obtain ⟨W', w1, w2⟩ := hinn hle _ hwr
          exact ⟨_, W', β, Env.le.refl _, fun _ _ => rfl, w1, Nat.le_refl _, VR.slcO _ _ _ _ _ k hk hz hsz hle, w2⟩
         ·cases h
        | false =>
         rw [hb3, cond_false] at h; cases h
         by_cases hle : len + n <= c
         ·
          have hol := hcs.length
          simp only [Array.length_toList] at hol
          have hend : k.sh + off + len * z + new.toList.length <= arr.size := by
           have : (len + n) * z <= c * z := Nat.mul_le_mul_right z hle
           rw [Nat.add_mul] at this
           simp only [Array.length_toList]
           omega
          obtain ⟨W', arr2, s1, s2, s3, s4, s5⟩ := run_storeCells (P := P) (o := k.sh + off + len * z) new.toList 0 W arr o1 (by rw [o2]; exact o4) (oneCells_rel hcs hb0.1) (by simpa using hend)
          have hd := hw.dom hs (Nat.le_refl _)
          have hle' := Env.le_add (k := ⟨k.blk, k.sh + off, k.sz, k.esz⟩) hd
          have hall : VRs β ((cc.drop off).take (len * z) ++ cs) ((arr.toList.drop (k.sh + off)).take (len * z) ++ new.toList) := r3.append hcs
          have hwr' := hw.rename (W' := W') hk (by rw [hg]; rfl) (by rw [hg]; rfl) (s2.below (o5.1 rfl)) s2.size s2.oth ⟨k.blk, k.sh + off, k.sz, k.esz⟩ rfl (.cells ((cc.drop off).take (len * z) ++ cs) false) (by
           rw [s3]
           have hal := hall.length
           refine ⟨arr2, ae, fz, rfl, by rw [s5, o2], ?_, o4, ⟨fun _ => o5.1 rfl, fun x => by cases x⟩, fun i x hx => ?_⟩
           ·rw [<- hal]; simp only [List.length_append, List.length_take, List.length_drop, Array.length_toList]
            simp only [Array.length_toList] at hend
            omega
           ·obtain ⟨v, hv, hr⟩ := (hall.mono hle').get i x hx
            refine ⟨v, ?_, hr⟩
            have ha2 : arr2[k.sh + off + i]? = arr2.toList[k.sh + off + i]? := by simp
            rw [ha2, s4]
            have hl1 : ((arr.toList.drop (k.sh + off)).take (len * z)).length = len * z := by simp; omega
            have hl2 : (arr.toList.take (k.sh + off + len * z + 0)).length = k.sh + off + len * z := by simp; omega
            by_cases c1 : i < len * z
            ·rw [List.getElem?_append_left (by omega)] at hv
             rw [List.getElem?_append_left (by omega), List.getElem?_take, if_pos (by omega)]
             rw [List.getElem?_take, if_pos c1, List.getElem?_drop] at hv
             exact hv
            ·rw [List.getElem?_append_right (by omega), hl1] at hv
             rw [List.getElem?_append_right (by omega), hl2, show k.sh + off + i - (k.sh + off + len * z) = i - len * z from by omega]
             have hlt : i - len * z < new.toList.length := (List.getElem?_eq_some_iff.1 hv).1
             rw [List.getElem?_append_left hlt]
             exact hv)
          refine ⟨_, W', _, hle', fun j hj => Env.add_other _ _ (by omega), hwr', Nat.le_succ _, ?_, hA.inn _ _ _ W' hle ?_⟩
          ·have := VR.slcO (β := β.add hs ⟨k.blk, k.sh + off, k.sz, k.esz⟩) hs 0 (len + n) c z _ (Env.add_self _ _ _) hz (by simpa using hsz) hle
           simpa using this
          ·simp only [PutAt, add_addr]
           simpa using s1
         ·
          obtain ⟨v', W', β', g1, g2, g3, g4, g5⟩ := hout hle
          refine ⟨v', W', β', g1, g2, ?_, Nat.le_succ _, g4, g5⟩
          have hne : o ≠ hs := fun e => by have := hw.dom hs (Nat.le_refl _); rw [<- e, hk] at this; cases this
          refine (g3.kill o).congr fun j => ?_
          simp only [Tr.get_put]
          by_cases e1 : j = o
          ·subst e1; rw [if_neg hne, if_pos rfl, if_pos rfl]
          ·rw [if_neg e1, if_neg e1]
    ·cases h
   ·cases h
end
end Go.Proofs.YtcledcfeddlomaaGreatDoor.Ev
