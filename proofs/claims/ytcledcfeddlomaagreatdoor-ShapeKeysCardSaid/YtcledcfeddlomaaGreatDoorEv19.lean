import Derived.Test.YtcledcfeddlomaaGreatDoorEv17
import Derived.Lib.ConvBytes
import Derived.Laws.AppendOwn
import Derived.Laws.Externs
set_option linter.all false
namespace Go.Proofs.YtcledcfeddlomaaGreatDoor.Ev
open Go.RowKit Go.Builtin
theorem WR.newBlock {β : Env} {B : Gd} {H : Tr AO} {hs : Nat} {W W' : World} (h : WR β B H hs W) (ho : W'.os = W.os) (ht : W'.tape = W.tape) (hu : W'.output = W.output) (hsz : W'.heap.size = W.heap.size + 1) (hold : ∀ j, j < W.heap.size -> W'.heap[j]? = W.heap[j]?)
  (x : Obj) (hnew : W'.heap[W.heap.size]? = some x) (A : AO) (sz esz : Nat) (hA : ORel (β.add hs ⟨W.heap.size, 0, sz, esz⟩) B.pr A ⟨W.heap.size, 0, sz, esz⟩ (some x)) : WR (β.add hs ⟨W.heap.size, 0, sz, esz⟩) B (H.put .dead hs A) (hs + 1) W' := by
 have hle := Env.le_add (k := ⟨W.heap.size, 0, sz, esz⟩) (h.dom hs (Nat.le_refl _))
 refine ⟨h.below.trans ⟨ho, ht, hu, by omega, fun k hk => hold k (Nat.lt_of_lt_of_le (B.lt k hk) h.below.size)⟩, ?_, ?_, ?_, ?_, fun b i v hv => (by rw [hold _ (h.fz_lt hv)]; exact h.fz b i v hv), fun r x hx => (by rw [hold _ (heap_lt (h.fm r x hx))]; exact h.fm r x hx), ?_, h.gfz, h.gfm⟩
 ·intro j hj; rw [Env.add_other _ _ (by omega)]; exact h.dom j (by omega)
 ·intro j k hk
  rw [Tr.get_put]
  by_cases e : j = hs
  ·subst e; rw [Env.add_self] at hk; cases hk; rw [if_pos rfl, hnew]; exact hA
  ·rw [Env.add_other _ _ e] at hk; rw [if_neg e, hold _ (h.blk j k hk)]; exact (h.obj j k hk).mono hle
 ·intro j k hk
  by_cases e : j = hs
  ·subst e; rw [Env.add_self] at hk; cases hk; rw [hsz]; exact Nat.lt_succ_self _
  ·rw [Env.add_other _ _ e] at hk; have := h.blk j k hk; omega
 ·intro j j' k k' hne hk hk' ho hl
  rw [Tr.get_put] at ho hl
  by_cases e : j = hs
  ·subst e; rw [Env.add_self] at hk; cases hk
   rw [Env.add_other _ _ (fun x => hne x.symm)] at hk'; have := h.blk j' k' hk'; simp only; omega
  ·rw [Env.add_other _ _ e] at hk; rw [if_neg e] at ho
   by_cases e' : j' = hs
   ·subst e'; rw [Env.add_self] at hk'; cases hk'; have := h.blk j k hk; simp only; omega
   ·rw [Env.add_other _ _ e'] at hk'; rw [if_neg e'] at hl; exact h.inj j j' k k' hne hk hk' ho hl
 ·intro j k hk ho
  rw [Tr.get_put] at ho
  by_cases e : j = hs
  ·subst e; rw [Env.add_self] at hk; cases hk
   exact ⟨fun off _ => h.fz_new _ _ (Nat.le_refl _), h.fm_new _ (Nat.le_refl _)⟩
  ·rw [Env.add_other _ _ e] at hk; rw [if_neg e] at ho
   rw [Tr.get_put, if_neg e]; exact h.apart j k hk ho
theorem bytes_rel {β : Env} {B : Gd} {H : Tr AO} {hs : Nat} {W : World} (h : WR β B H hs W) (e : TypeId) (l : List UInt8) :
  ∃ β', β.le β' /\ (∀ o, o < hs -> β'.b o = β.b o) /\ WR β' B (H.put .dead hs (.cells (l.map fun b => .lit (.int .u8 b.toNat)) false)) (hs + 1) (Lib.bytesWorld W e ⟨l.toArray⟩) /\
   VR β' (.slc hs 0 l.length (.op 1)) (.slice (some ⟨W.heap.size, 0, none⟩) (ByteArray.size ⟨l.toArray⟩) (grownCap W (ByteArray.size ⟨l.toArray⟩) 0 e)) := by
 have hsz : ByteArray.size ⟨l.toArray⟩ = l.length := by simp [ByteArray.size]
 have hge := grownCap_ge W (ByteArray.size ⟨l.toArray⟩) 0 e
 have hbc : (Lib.bytesCells W e ⟨l.toArray⟩).size = grownCap W (ByteArray.size ⟨l.toArray⟩) 0 e := by
  simp only [Lib.bytesCells, Array.size_append, Array.size_map, Array.size_replicate]
  have : (l.toArray).size = ByteArray.size ⟨l.toArray⟩ := rfl
  omega
 have hd := h.dom hs (Nat.le_refl _)
 have hle := Env.le_add (k := ⟨W.heap.size, 0, (Lib.bytesCells W e ⟨l.toArray⟩).size, 1⟩) hd
 refine ⟨β.add hs ⟨W.heap.size, 0, (Lib.bytesCells W e ⟨l.toArray⟩).size, 1⟩, hle, fun o ho => Env.add_other _ _ (by omega), ?_, ?_⟩
 ·refine h.newBlock (W' := Lib.bytesWorld W e ⟨l.toArray⟩) (by rfl) (by rfl) (by rfl) (Lib.bytesWorld_size W e _) (fun j hj => Lib.bytesWorld_at_old W e _ j hj) _ (Lib.bytesWorld_at_new W e _) _ _ _ ?_
  refine ⟨_, _, _, rfl, rfl, ?_, .inr (Nat.le_refl _), ⟨fun _ => h.new, fun x => by cases x⟩, fun i x hx => ?_⟩
  ·simp only [List.length_map, Nat.zero_add]; rw [hbc]; omega
  ·have hlt : i < l.length := by
    have := (List.getElem?_eq_some_iff.1 hx).1
    simpa using this
   rw [List.getElem?_map, List.getElem?_eq_getElem hlt] at hx
   simp only [Option.map_some, Option.some.injEq] at hx
   subst hx
   refine ⟨_, ?_, VR.lit _⟩
   simp only [Nat.zero_add, Lib.bytesCells]
   rw [Array.getElem?_append_left (by simpa using hlt)]
   simp [hlt]
 ·have := VR.slcO (β := β.add hs ⟨W.heap.size, 0, (Lib.bytesCells W e ⟨l.toArray⟩).size, 1⟩) hs 0 l.length (grownCap W (ByteArray.size ⟨l.toArray⟩) 0 e) 1 _ (Env.add_self _ _ _) rfl (by
   simp only [Nat.zero_add, Nat.mul_one]; exact hbc.symm) (by omega)
  rw [hsz]
  rw [hsz] at this
  simpa using this
theorem bytesL_rel {β : Env} {B : Gd} {H : Tr AO} {hs : Nat} {W : World} (h : WR β B H hs W) (e : TypeId) (l : List UInt8) :
  ∃ β', β.le β' /\ (∀ o, o < hs -> β'.b o = β.b o) /\ WR β' B (H.put .dead hs (.room 1)) (hs + 1) (Lib.bytesWorld W e ⟨l.toArray⟩) /\
   VR β' (.lst (.room hs) (l.map fun b => .lit (.int .u8 b.toNat))) (.slice (some ⟨W.heap.size, 0, none⟩) (ByteArray.size ⟨l.toArray⟩) (grownCap W (ByteArray.size ⟨l.toArray⟩) 0 e)) := by
 have hsz : ByteArray.size ⟨l.toArray⟩ = l.length := by simp [ByteArray.size]
 have hge := grownCap_ge W (ByteArray.size ⟨l.toArray⟩) 0 e
 have hbc : (Lib.bytesCells W e ⟨l.toArray⟩).size = grownCap W (ByteArray.size ⟨l.toArray⟩) 0 e := by
  simp only [Lib.bytesCells, Array.size_append, Array.size_map, Array.size_replicate]
  have : (l.toArray).size = ByteArray.size ⟨l.toArray⟩ := rfl
  omega
 have hfl : (l.map fun b => AV.lit (.int .u8 b.toNat)).flatMap AV.cells = l.map fun b => AV.lit (.int .u8 b.toNat) := by
  clear hsz hge hbc
  induction l with
  | nil => rfl
  | cons b l ih => rw [List.map_cons, List.flatMap_cons, ih]; rfl
 have hr : VRs β ((l.map fun b => AV.lit (.int .u8 b.toNat)).flatMap AV.cells) (l.map fun b => Value.int .u8 b.toNat) := by
  rw [hfl]
  clear hsz hge hbc hfl
  induction l with
  | nil => exact .nil
  | cons b l ih => exact .cons _ _ _ _ (.lit _) ih
 exact h.grownL (W' := Lib.bytesWorld W e ⟨l.toArray⟩) (e := e) (arr := Lib.bytesCells W e ⟨l.toArray⟩) (size := 1) hr (fun x hx => by
  obtain ⟨b, _, rfl⟩ := List.mem_map.1 hx; rfl) (by omega) (fun i v hi => by
  have hlt : i < l.length := by
   have := (List.getElem?_eq_some_iff.1 hi).1
   simpa using this
  rw [List.getElem?_map, List.getElem?_eq_getElem hlt] at hi
  simp only [Option.map_some, Option.some.injEq] at hi
  subst hi
  simp only [Lib.bytesCells]
  rw [Array.getElem?_append_left (by simpa using hlt)]
  simp [hlt]) (by simp [hsz]) (by rw [hbc]; simp) (by omega)
  ⟨rfl, rfl, rfl, by rw [Lib.bytesWorld_size]; omega, fun j hj => Lib.bytesWorld_at_old W e _ j hj⟩ (Lib.bytesWorld_size W e _) _ (.inr (Nat.le_refl _)) (Lib.bytesWorld_at_new W e _)
theorem modE_rel {β : Env} {f : AV × AV × Nat -> AV × AV × Nat} {g : MapEntry -> MapEntry} (hfg : ∀ a b n k v, VR β a k -> VR β b v -> ∃ a' b' n' k' v', f (a, b, n) = (a', b', n') /\ g ⟨k, v, n⟩ = ⟨k', v', n'⟩ /\ VR β a' k' /\ VR β b' v') :
  ∀ {l : List (AV × AV × Nat)} {x : List MapEntry} (i : Nat), ERel β l x -> ERel β (modE f l i) (x.modify i g)
 | _, _, 0, .nil => by simp [modE]; exact .nil
 | _, _, i + 1, .nil => by simp [modE]; exact .nil
 | _, _, 0, .cons a b n k v l x hk hv t => by
  obtain ⟨a', b', n', k', v', e1, e2, r1, r2⟩ := hfg a b n k v hk hv
  simp only [modE, List.modify_cons, if_true]
  rw [e1, e2]
  exact .cons _ _ _ _ _ _ _ r1 r2 t
 | _, _, i + 1, .cons a b n k v l x hk hv t => by
  simp only [modE]
  rw [List.modify_succ_cons]
  exact .cons _ _ _ _ _ _ _ hk hv (modE_rel hfg i t)
theorem ERel.append {β : Env} : ∀ {l m : List (AV × AV × Nat)} {x y : List MapEntry}, ERel β l x -> ERel β m y -> ERel β (l ++ m) (x ++ y)
 | _, _, _, _, .nil, h => h
 | _, _, _, _, .cons a b n k v l x hk hv t, h => .cons a b n k v _ _ hk hv (t.append h)
theorem ERel.eraseIdx {β : Env} : ∀ {l : List (AV × AV × Nat)} {x : List MapEntry} (i : Nat), ERel β l x -> ERel β (l.eraseIdx i) (x.eraseIdx i)
 | _, _, _, .nil => .nil
 | _, _, 0, .cons a b n k v l x hk hv t => t
 | _, _, i + 1, .cons a b n k v l x hk hv t => .cons a b n k v _ _ hk hv (t.eraseIdx i)
theorem ERel.get {β : Env} : ∀ {l : List (AV × AV × Nat)} {x : List MapEntry} (i : Nat) {e : AV × AV × Nat}, ERel β l x -> l[i]? = some e -> ∃ u, x[i]? = some u /\ VR β e.1 u.key /\ VR β e.2.1 u.val /\ u.born = e.2.2
 | _, _, i, e, .nil, h => by simp at h
 | _, _, 0, e, .cons a b n k v l x hk hv t, h => by simp at h; subst h; exact ⟨_, rfl, hk, hv, rfl⟩
 | _, _, i + 1, e, .cons a b n k v l x hk hv t, h => by simp at h; simpa using t.get i h
theorem Upd.putObj (W : World) (r : Nat) (o : Obj) : Upd r W (W.putObj r o) :=
 ⟨rfl, rfl, rfl, by simp, fun j hj => World.putObj_heap_other hj⟩
theorem map_put {β : Env} {B : Gd} {W : World} {H : Tr AO} {hs : Nat} (hw : WR β B H hs W) {o : Nat} {k : Bk} (hk : β.b o = some k) {es es2 : List (AV × AV × Nat)} {clk clk2 : Nat} (hg : H.get .dead o = .map es clk) {arr2 : Array MapEntry} (h2 : ERel β es2 arr2.toList) :
  WR β B (H.put .dead o (.map es2 clk2)) hs (W.putObj k.blk (.map arr2 clk2)) := by
 have ho := hw.obj o k hk
 rw [hg] at ho
 obtain ⟨arr, q1, q2, q3⟩ := ho
 have hu := Upd.putObj W k.blk (.map arr2 clk2)
 refine hw.write hk _ (by rw [hg]; rfl) (by rw [hg]; rfl) (hu.below q3) hu.size hu.oth ?_ (fun _ => by rw [hg]; rfl)
 rw [World.putObj_heap_same (hw.blk o k hk)]
 exact ⟨arr2, rfl, h2, q3⟩
theorem run_setObj_map {P : Program} {W : World} {r : Nat} {arr : Array MapEntry} {clk : Nat} (o : Obj) (h : W.heap[r]? = some (.map arr clk)) : (setObj r o).run P W = .ok () (W.putObj r o) := by simp [setObj, Sem.run, h, World.putObj]
theorem run_getObj_map {P : Program} {W : World} {r : Nat} {arr : Array MapEntry} {clk : Nat} (h : W.heap[r]? = some (.map arr clk)) : (getObj r).run P W = .ok (.map arr clk) W := by simp [getObj, Sem.run, h]
theorem keyStays {P : Program} {β : Env} {W : World} {d : TypeDesc} {x y : AV} {u v : Value} (h : keyEq d x y = some true) (hu : VR β x u) (hv : VR β y v) : (Instr.keyThatStays v u).run P W = .ok u W := by
 unfold Instr.keyThatStays
 have : Instr.sameBits 10000 v u = true := by
  unfold keyEq at h
  split at h
  ·obtain rfl := hu.of_lit; obtain rfl := hv.of_lit
   rw [Bool.cond_decide] at h
   split at h
   ·rename_i e; subst e
    simp only [Option.some.injEq, decide_eq_true_eq] at h
    subst h
    simp [Instr.sameBits]
   ·cases h
  ·obtain rfl := hu.of_str; obtain rfl := hv.of_str
   simp only [Option.some.injEq, beq_iff_eq] at h
   subst h
   simp [Instr.sameBits, beq_toListBytes]
  ·obtain rfl := hu.of_lit; obtain rfl := hv.of_lit
   simp only [Option.some.injEq, beq_iff_eq] at h
   subst h
   simp [Instr.sameBits]
  ·cases h
 rw [if_pos this]
 simp
theorem findE_at {d : TypeDesc} {x : AV} : ∀ {es : List (AV × AV × Nat)} {i j : Nat} {v : AV}, findE d x es i = some (some (j, v)) -> i <= j /\ ∃ e, es[j - i]? = some e /\ keyEq d x e.1 = some true
 | [], i, j, v, h => by simp [findE] at h
 | (a, b, n) :: es, i, j, v, h => by
  simp only [findE] at h
  split at h
  ·rename_i hk
   simp only [Option.some.injEq, Prod.mk.injEq] at h
   obtain ⟨rfl, rfl⟩ := h
   exact ⟨Nat.le_refl _, (a, b, n), by simp, hk⟩
  ·obtain ⟨h1, e, h2, h3⟩ := findE_at h
   refine ⟨by omega, e, ?_, h3⟩
   rw [show j - i = (j - (i + 1)) + 1 from by omega]
   simpa using h2
  ·cases h
section
variable {P : Program} {T : Tab} (hT : TOk P T) {β : Env} {B : Gd} {W : World} {s : AS} {a : Act} (hw : WR β B s.heap s.hs W) (hf : FR β s a)
include hT hw hf
theorem mapUpdate_rel {t : TypeId} {x y z : Operand} {v : AV} {H' : Tr AO} {hs' : Nat} (h : effOp T s (.mapUpdate t x y z) = some (v, H', hs')) : ∃ v' W', Left β B s.hs v H' hs' v' W' /\ Does P a (.mapUpdate t x y z) v' W W' := by
 simp only [effOp] at h
 split at h
 ·rename_i o kv w ti h1 h2 h3 h4
  split at h
  ·rename_i kt et es clk hd hg
   split at h
   ·rename_i ki hk
    cases hok : okKey ki.desc with
    | false => rw [hok] at h; cases h
    | true =>
     rw [hok, cond_true] at h
     obtain ⟨k, hko, e1⟩ := (opd_rel hf h1).of_mp
     have hkv := opd_rel hf h2
     have hwv := opd_rel hf h3
     have ho := hw.obj o k hko
     rw [hg] at ho
     obtain ⟨arr, q1, q2, q3⟩ := ho
     have hck := fun b W => run_checkKey hT hk hok b (a.eval y) W
     split at h
     ·rename_i i w0 hfe
      cases h
      obtain ⟨r', f1, f2⟩ := run_findKey hT hk hkv hfe q2 W
      cases r' with
      | none => exact f2.elim
      | some p =>
       obtain ⟨i', w'⟩ := p
       obtain rfl := f2.1
       obtain ⟨_, e, he1, he2⟩ := findE_at hfe
       obtain ⟨u, hu1, hu2, hu3, hu4⟩ := q2.get i (by simpa using he1)
       have hu1' : arr[i]? = some u := by simpa using hu1
       have hst := keyStays (P := P) (W := W) he2 hkv hu2
       have hE : ERel β (modE (fun e => (kv, w, e.2.2)) es i) (arr.modify i fun e => { e with key := a.eval y, val := a.eval z }).toList := by
        rw [Array.toList_modify]
        exact modE_rel (fun a' b' n k' v' _ _ => ⟨_, _, _, _, _, rfl, rfl, hkv, hwv⟩) i q2
       refine ⟨undef, _, ⟨β, Env.le.refl _, fun _ _ => rfl, map_put hw hko hg hE, Nat.le_refl _, udef_rel _⟩, fun dst ty pos after guard => .inr ⟨?_, rfl⟩⟩
       simp only [execOp, Instr.mapUpdate, Sem.run_bind, run_und hT h4, hd, Result.andThen_ok, e1, run_getObj_map q1, hck, f1, hu1', Option.map_some, Option.getD_some, hst, run_setObj_map _ q1, Sem.run_pure]
     ·rename_i hfe
      cases h
      obtain ⟨r', f1, f2⟩ := run_findKey hT hk hkv hfe q2 W
      cases r' with
      | some p => exact f2.elim
      | none =>
       have hE : ERel β (es ++ [(kv, w, clk)]) (arr.push { key := a.eval y, val := a.eval z, born := clk }).toList := by
        rw [Array.toList_push]
        exact ERel.append q2 (.cons _ _ _ _ _ _ _ hkv hwv .nil)
       refine ⟨undef, _, ⟨β, Env.le.refl _, fun _ _ => rfl, map_put hw hko hg hE, Nat.le_refl _, udef_rel _⟩, fun dst ty pos after guard => .inr ⟨?_, rfl⟩⟩
       simp only [execOp, Instr.mapUpdate, Sem.run_bind, run_und hT h4, hd, Result.andThen_ok, e1, run_getObj_map q1, hck, f1, run_setObj_map _ q1, Sem.run_pure]
     ·cases h
   ·cases h
  ·cases h
 ·cases h
theorem deleteC_rel {c : Call} (hc : c.callee = .builtin .delete) {v : AV} {H' : Tr AO} {hs' : Nat} (h : effOp T s (.call c) = some (v, H', hs')) :
  ∃ v' W', Left β B s.hs v H' hs' v' W' /\ Does P a (.call c) v' W W' := by
 obtain ⟨callee, args, tys⟩ := c
 simp only at hc; subst hc
 simp only [effOp] at h
 split at h
 ·cases ‹Callee.builtin Builtin.delete = _›
 ·cases ‹Callee.builtin Builtin.delete = _›
 ·rename_i p q mt rest _ ha ht
  have ea : args = #[p, q] := by apply Array.ext'; simpa using ha
  subst ea
  have ht0 : tys[0]? = some mt := by
   have : tys[0]? = tys.toList[0]? := by simp
   rw [this, ht]; rfl
  have hm : (#[p, q].map a.eval : Array Value) = #[a.eval p, a.eval q] := by simp
  split at h
  ·rename_i o kv ti h1 h2 h3
   split at h
   ·rename_i kt et es clk hd hg
    split at h
    ·rename_i ki hk
     cases hok : okKey ki.desc with
     | false => rw [hok] at h; cases h
     | true =>
      rw [hok, cond_true] at h
      obtain ⟨k, hko, e1⟩ := (opd_rel hf h1).of_mp
      have hkv := opd_rel hf h2
      have ho := hw.obj o k hko
      rw [hg] at ho
      obtain ⟨arr, q1, q2, q3⟩ := ho
      have hck := fun b W => run_checkKey hT hk hok b (a.eval q) W
      split at h
      ·rename_i i w0 hfe
       cases h
       obtain ⟨r', f1, f2⟩ := run_findKey hT hk hkv hfe q2 W
       cases r' with
       | none => exact f2.elim
       | some pr =>
        obtain ⟨i', w'⟩ := pr
        obtain rfl := f2.1
        have hE : ERel β (es.eraseIdx i) (arr.eraseIdxIfInBounds i).toList := by
         have : (arr.eraseIdxIfInBounds i).toList = arr.toList.eraseIdx i := by
          unfold Array.eraseIdxIfInBounds
          split
          ·simp
          ·rw [List.eraseIdx_of_length_le]; simp; omega
         rw [this]
         exact q2.eraseIdx i
        refine ⟨.tuple #[], _, ⟨β, Env.le.refl _, fun _ _ => rfl, map_put hw hko hg hE, Nat.le_refl _, udef_rel _⟩, fun dst ty pos after guard => .inl ?_⟩
        rw [exec_call_builtin, hm]
        simp only [builtin, Sem.run_bind, delete_, ht0, List.getElem?_toArray, List.getElem?_cons_zero, List.getElem?_cons_succ, run_und hT h3, hd, Result.andThen_ok, e1, run_getObj_map q1, hck, f1, run_setObj_map _ q1, Sem.run_pure]
      ·rename_i hfe
       cases h
       obtain ⟨r', f1, f2⟩ := run_findKey hT hk hkv hfe q2 W
       cases r' with
       | some p => exact f2.elim
       | none =>
        have hw2 : WR β B s.heap s.hs (W.putObj k.blk (.map arr clk)) := (map_put (clk2 := clk) hw hko hg q2).congr fun j => by
         rw [Tr.get_put]; split
         ·rename_i e; subst e; exact hg
         ·rfl
        refine ⟨.tuple #[], _, ⟨β, Env.le.refl _, fun _ _ => rfl, hw2, Nat.le_refl _, udef_rel _⟩, fun dst ty pos after guard => .inl ?_⟩
        rw [exec_call_builtin, hm]
        simp only [builtin, Sem.run_bind, delete_, ht0, List.getElem?_toArray, List.getElem?_cons_zero, List.getElem?_cons_succ, run_und hT h3, hd, Result.andThen_ok, e1, run_getObj_map q1, hck, f1, run_setObj_map _ q1, Sem.run_pure]
      ·cases h
    ·cases h
   ·cases h
  ·cases h
 ·cases ‹Callee.builtin Builtin.delete = _›
 ·cases h
theorem convB_rel {src dst : Nat} {x : Operand} {v : AV} {H' : Tr AO} {hs' : Nat} (h : effOp T s (.convert src dst x) = some (v, H', hs')) : ∃ v' W', Left β B s.hs v H' hs' v' W' /\ Does P a (.convert src dst x) v' W W' := by
 simp only [effOp] at h
 split at h
 ·rename_i l si dj h1 h2 h3
  split at h
  ·rename_i e hd
   split at h
   ·rename_i ei h4
    split at h
    ·rename_i h5
     have hx := opd_rel hf h1
     generalize hev : a.eval x = xv at hx
     cases hx with
     | str _ =>
      have hr := Lib.run_convert_string_bytes (P := P) W src dst e ⟨l.toArray⟩ (hT.ty src si h2).1 (by rw [(hT.ty dst dj h3).1, hd]) (by rw [(hT.ty e ei h4).1, h5])
      cases hlm : s.md.lm with
      | true =>
       rw [hlm, cond_true] at h; cases h
       obtain ⟨β', g1, g2, g3, g4⟩ := bytesL_rel hw e l
       refine ⟨_, _, ⟨β', g1, g2, g3, Nat.le_succ _, g4⟩, fun dst' ty pos after guard => .inl ?_⟩
       show (execOp a.eval ⟨dst', .convert src dst x, ty, pos, after, guard⟩).run P W = _
       simp only [execOp, hev, Sem.run_bind, hr, Result.andThen_ok, Sem.run_pure]
      | false =>
       rw [hlm, cond_false] at h; cases h
       obtain ⟨β', g1, g2, g3, g4⟩ := bytes_rel hw e l
       refine ⟨_, _, ⟨β', g1, g2, g3, Nat.le_succ _, g4⟩, fun dst' ty pos after guard => .inl ?_⟩
       show (execOp a.eval ⟨dst', .convert src dst x, ty, pos, after, guard⟩).run P W = _
       simp only [execOp, hev, Sem.run_bind, hr, Result.andThen_ok, Sem.run_pure]
    ·cases h
   ·cases h
  ·cases h
 ·cases h
theorem effOp_rel {op : Op} {v : AV} {H' : Tr AO} {hs' : Nat} (h : effOp T s op = some (v, H', hs')) : ∃ v' W', Left β B s.hs v H' hs' v' W' /\ Does P a op v' W W' := by
 cases op with
 | store t x y => exact store_rel hT hw hf h
 | mapUpdate t x y z => exact mapUpdate_rel hT hw hf h
 | convert src dst x => exact convB_rel hT hw hf h
 | call c =>
  obtain ⟨callee, args, tys⟩ := c
  have h0 := h
  simp only [effOp] at h
  split at h
  ·rename_i x y st ys ha ht
   have ea : args = #[x, y] := by apply Array.ext'; simpa using ha
   have et : tys = #[st, ys] := by apply Array.ext'; simpa using ht
   subst ea; subst et
   exact appendC_rel hT hw hf h0
  ·exact copyC_rel hT hw hf rfl h0
  ·exact deleteC_rel hT hw hf rfl h0
  ·exact clearC_rel hT hw hf rfl h0
  ·cases h
 | _ => simp [effOp] at h
end
inductive DR (β : Env) : List Nat -> List Deferred -> Prop where
 | nil : DR β [] []
 | cons (o : Nat) (k : Bk) (l : List Nat) (ds : List Deferred) (h : β.b o = some k) (t : DR β l ds) : DR β (o :: l) ({ target := .collected k.blk, args := #[] } :: ds)
theorem DR.mono {β β' : Env} (h : β.le β') : ∀ {l : List Nat} {ds : List Deferred}, DR β l ds -> DR β' l ds
 | _, _, .nil => .nil
 | _, _, .cons o k l ds hk t => .cons o k l ds (h.b o k hk) (t.mono h)
structure SR (β : Env) (B : Gd) (s : AS) (a : Act) (W : World) : Prop where
 w : WR β B s.heap s.hs W
 f : FR β s a
 d : DR β s.defs a.defers
structure Env.on (β β' : Env) (hs hs' : Nat) : Prop where
 le : β.le β'
 old : ∀ o, o < hs -> β'.b o = β.b o
 hs : hs <= hs'
theorem Env.on.refl (β : Env) (hs : Nat) : Env.on β β hs hs := ⟨Env.le.refl _, fun _ _ => rfl, Nat.le_refl _⟩
theorem Env.on.trans {a b c : Env} {x y z : Nat} (h : Env.on a b x y) (g : Env.on b c y z) : Env.on a c x z :=
 ⟨h.le.trans g.le, fun o ho => (g.old o (Nat.lt_of_lt_of_le ho h.hs)).trans (h.old o ho), Nat.le_trans h.hs g.hs⟩
def XR : AX -> Exit
 | .normal => .normal
 | .exit i => .exit i
 | .goto l => .goto l
 | .ret => .ret
def FW (r : Option Nat) : Fence := { Fence.wide with round := r }
def RoR (β : Env) : Option Nat -> Option Nat -> Prop
 | none, none => True
 | some o, some l => ∃ k, β.b o = some k /\ k.blk = l
 | _, _ => False
theorem RoR.mono {β β' : Env} (h : β.le β') : ∀ {ro r : Option Nat}, RoR β ro r -> RoR β' ro r
 | none, none, _ => trivial
 | some o, some l, ⟨k, h1, h2⟩ => ⟨k, h.b _ _ h1, h2⟩
def Snd (P : Program) (rec : Rec) : Prop :=
 ∀ (ro : Option Nat) (c : Code) (s : AS) (x : AX) (s' : AS), rec ro c s = some (x, s') -> ∀ (β : Env) (B : Gd) (a : Act) (W : World) (n : Nat) (r : Option Nat), RoR β ro r -> SR β B s a W ->
  ∀ Q : Exit -> Act -> World -> Prop, (∀ β' a' W', Env.on β β' s.hs s'.hs -> SR β' B s' a' W' -> s'.nt = s.nt -> Q (XR x) a' W') -> c.wpIn (FW r) n P Q a W
theorem put_getD (a : Act) (d : Nat) (v : Value) (i : Nat) (hd : d < a.tmps.size) : (a.put (some d) v).tmps.getD i undef = if i = d then v else a.tmps.getD i undef := by
 simp only [Act.put, Array.getD_eq_getD_getElem?, Array.getElem?_setIfInBounds]
 by_cases h : d = i
 ·subst h; simp [hd]
 ·rw [if_neg h, if_neg (fun e => h e.symm)]
theorem setT_rel {β : Env} {s s' : AS} {a : Act} {d : Option Nat} {v : AV} {v' : Value} (h : setT s d v = some s') (hf : FR β s a) (hv : VR β v v') :
  FR β s' (a.put d v') /\ s'.heap = s.heap /\ s'.hs = s.hs /\ s'.defs = s.defs /\ s'.nt = s.nt /\ (a.put d v').defers = a.defers := by
 cases d with
 | none => simp only [setT, Option.some.injEq] at h; subst h; exact ⟨hf, rfl, rfl, rfl, rfl, rfl⟩
 | some i =>
  simp only [setT] at h
  cases hb : Nat.blt i s.nt with
  | false => rw [hb] at h; cases h
  | true =>
   rw [hb, cond_true] at h; cases h
   have hi := blt_lt.1 hb
   refine ⟨⟨by simp [Act.put, hf.size], fun j hj => ?_, hf.gl⟩, rfl, rfl, rfl, rfl, rfl⟩
   rw [put_getD a i v' j (by rw [hf.size]; exact hi), Tr.get_put]
   split
   ·exact hv
   ·exact hf.get j hj
theorem calls_any {n : Nat} {P : Program} {f : FuncId} {args : Array Value} {w : World} {R : Ending -> World -> Prop} (r : Option Nat) (h : CallsIn (FW none) n P f args w R) : CallsIn (FW r) n P f args w R := by
 cases r with
 | none => exact h
 | some l => exact h
def EndR (β : Env) (B : Gd) (hs : Nat) (v : AV) (H' : Tr AO) (hs' : Nat) : Ending -> World -> Prop
 | .returned v', W' => ∃ β', Env.on β β' hs hs' /\ WR β' B H' hs' W' /\ VR β' v v'
 | _, _ => False
def Con (P : Program) (f : Nat) (args : List AV) (H : Tr AO) (hs : Nat) (v : AV) (H' : Tr AO) (hs' : Nat) : Prop :=
 ∀ (β : Env) (B : Gd) (W : World), WR β B H hs W -> ∀ xs : List Value, VRs β args xs -> ∀ n, CallsIn (FW none) n P f xs.toArray W (EndR β B hs v H' hs')
def NatE (P : Program) (f k : Nat) : Prop := ∃ fn, P.funcs[f]? = some fn /\ (fn.name == "runtime.NumGoroutine") = false /\ fn.body.isNone = true /\ Extern.findNext fn = none /\ Extern.find fn = some (natE k)
def NatC (P : Program) (f k : Nat) : Prop := (∃ fn c, P.funcs[f]? = some fn /\ fn.body = some c /\ fn.name ≠ "runtime.NumGoroutine") /\
 ∀ gl args v, natB gl k args = some v -> ∀ (β : Env) (B : Gd) (H : Tr AO) (hs : Nat) (W : World), WR β B H hs W -> GlOk β gl -> ∀ xs : List Value, VRs β args xs -> Calls P f xs.toArray W (EndR β B hs v H hs)
def NatOk (P : Program) (f k : Nat) : Prop := match Nat.ble k 4 with
 | true => NatE P f k
 | false => NatC P f k
theorem natV_rel {P : Program} {β : Env} {k : Nat} {args : List AV} {v : AV} (h : natV k args = some v) {xs : List Value} (hx : VRs β args xs) (W : World) : ∃ v', (natE k xs.toArray).run P W = .ok v' W /\ VR β v v' := by
 unfold natV at h
 split at h
 ·rename_i a b
  cases h
  cases hx with
  | cons _ x _ _ h1 t => cases t with
   | cons _ y _ _ h2 t => cases t with
    | nil =>
     obtain rfl := h1.of_str; obtain rfl := h2.of_str
     have := Lib.run_compareString (P := P) ⟨a.toArray⟩ ⟨b.toArray⟩ W
     exact ⟨_, this, .lit _⟩
 ·rename_i a c
  cases h
  cases hx with
  | cons _ x _ _ h1 t => cases t with
   | cons _ y _ _ h2 t => cases t with
    | nil =>
     obtain rfl := h1.of_str; obtain rfl := h2.of_int
     have := Lib.run_indexByteString (P := P) ⟨a.toArray⟩ c W
     exact ⟨_, this, .lit _⟩
 ·rename_i a c
  cases h
  cases hx with
  | cons _ x _ _ h1 t => cases t with
   | cons _ y _ _ h2 t => cases t with
    | nil =>
     obtain rfl := h1.of_str; obtain rfl := h2.of_int
     have := Lib.run_countString (P := P) ⟨a.toArray⟩ c W
     exact ⟨_, this, .lit _⟩
 ·rename_i a
  cases h
  cases hx with
  | cons _ x _ _ h1 t => cases t with
   | nil => exact ⟨x, rfl, h1⟩
 ·cases h
structure TSnd (P : Program) (T : Tab) : Prop extends TOk P T where
 con0 : ∀ f args H hs, T.con f args H hs = none
 con : ∀ f args H hs v H' hs', T.con f args H hs = some (v, H', hs') -> (∃ fn c, P.funcs[f]? = some fn /\ fn.body = some c /\ fn.name ≠ "runtime.NumGoroutine") /\ Con P f args H hs v H' hs'
 nat : ∀ f k, T.n f = some k -> NatOk P f k
theorem run_callFunc {P : Program} {f : FuncId} {fn : Func} {c : Code} {args : Array Value} {W : World} (hf : P.funcs[f]? = some fn) (hb : fn.body = some c) (hn : fn.name ≠ "runtime.NumGoroutine") :
  (callFunc f args).run P W = .ok (.enter f args) W := by
 unfold callFunc
 simp [hf, hn, hb]
def resF (tmps : Array Value) : ResultVar -> Sem Value
 | .tmp t => pure (tmps.getD t undef)
 | .cell a t => do loadVar t (<- asAddr (tmps.getD a undef))
theorem results_eq (fn : Func) (tmps : Array Value) : results fn tmps = (do let vs <- fn.results.mapM (resF tmps); pure (if h : vs.size = 1 then vs[0] else .tuple vs)) := rfl
section
variable {P : Program} {T : Tab} (hT : TOk P T) {rec : Rec} (hR : Snd P rec)
include hT
theorem resOf_rel {β : Env} {B : Gd} {W : World} {s : AS} {tmps : Array Value} (hw : WR β B s.heap s.hs W) (hsz : tmps.size = s.nt) (hg : ∀ i, i < s.nt -> VR β (s.tmps.get .any i) (tmps.getD i undef)) :
  ∀ {rs : List ResultVar} {l : List AV}, resOf T s rs = some l -> ∃ vs, (rs.mapM (resF tmps)).run P W = .ok vs W /\ VRs β l vs
 | [], l, h => by simp only [resOf, Option.some.injEq] at h; subst h; exact ⟨[], by simp, .nil⟩
 | .tmp t :: rs, l, h => by
  simp only [resOf] at h
  cases hb : Nat.blt t s.nt with
  | false => rw [hb] at h; simp at h
  | true =>
   rw [hb, cond_true] at h
   split at h
   ·rename_i a as h1 h2
    cases h; cases h1
    obtain ⟨vs, q1, q2⟩ := resOf_rel hw hsz hg h2
    refine ⟨tmps.getD t undef :: vs, ?_, .cons _ _ _ _ (hg t (blt_lt.1 hb)) q2⟩
    rw [List.mapM_cons]
    simp only [resF, Sem.run_bind, Sem.run_pure, Result.andThen_ok, q1]
   ·cases h
 | .cell t ty :: rs, l, h => by
  simp only [resOf] at h
  cases hb : Nat.blt t s.nt with
  | false => rw [hb] at h; simp at h
  | true =>
   rw [hb, cond_true] at h
   split at h
   ·rename_i a as h1 h2
    cases h
    obtain ⟨vs, q1, q2⟩ := resOf_rel hw hsz hg h2
    obtain ⟨v', r1, _, ad, r2, r3⟩ := ldv_rel hT hw h1 (hg t (blt_lt.1 hb))
    refine ⟨v' :: vs, ?_, .cons _ _ _ _ r1 q2⟩
    rw [List.mapM_cons]
    have hA : (asAddr (tmps.getD t undef)).run P W = .ok ad W := by rw [r2]; rfl
    simp only [resF, Sem.run_bind, hA, Result.andThen_ok, r3]
    rw [q1]
    rfl
   ·cases h
theorem results_rel {β : Env} {B : Gd} {W : World} {s : AS} {fn : Func} {tmps : Array Value} {l : List AV} (hw : WR β B s.heap s.hs W) (hsz : tmps.size = s.nt) (hg : ∀ i, i < s.nt -> VR β (s.tmps.get .any i) (tmps.getD i undef))
  (h : resOf T s fn.results.toList = some l) : ∃ v, (results fn tmps).run P W = .ok v W /\ VR β (one l) v := by
 obtain ⟨vs, q1, q2⟩ := resOf_rel hT hw hsz hg h
 rw [results_eq, Array.mapM_eq_mapM_toList]
 refine ⟨if h : vs.toArray.size = 1 then vs.toArray[0] else .tuple vs.toArray, ?_, ?_⟩
 ·simp only [Sem.run_bind, Sem.run_map]
  rw [q1]
  simp only [Result.andThen_ok, Sem.run_pure]
 ·cases q2 with
  | nil => exact VR.tup [] [] .nil
  | cons a v l x hv t =>
   cases t with
   | nil => exact hv
   | cons a2 v2 l2 x2 hv2 t2 => exact VR.tup _ _ (.cons _ _ _ _ hv (.cons _ _ _ _ hv2 t2))
end
end Go.Proofs.YtcledcfeddlomaaGreatDoor.Ev
