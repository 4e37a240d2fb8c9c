import Derived.Test.YtbcecenneganeaaEvB
set_option linter.all false
namespace Go.Proofs.Ytbcecenneganeaa.Ev
open Go.RowKit Go.Builtin

theorem modE_rel {β : Env} {f : AV × AV × Nat → AV × AV × Nat} {g : MapEntry → MapEntry} (hfg : ∀ a b n k v, VR β a k → VR β b v → ∃ a' b' n' k' v', f (a, b, n) = (a', b', n') ∧ g ⟨k, v, n⟩ = ⟨k', v', n'⟩ ∧ VR β a' k' ∧ VR β b' v') :
    ∀ {l : List (AV × AV × Nat)} {x : List MapEntry} (i : Nat), ERel β l x → ERel β (modE f l i) (x.modify i g)
  | _, _, 0, .nil => by simp [modE]; exact .nil
  | _, _, i + 1, .nil => by simp [modE]; exact .nil
  | _, _, 0, .cons a b n k v l x hk hv t => by
    obtain ⟨a', b', n', k', v', e1, e2, r1, r2⟩ := hfg a b n k v hk hv
    simp only [modE, List.modify_cons, if_true]
    rw [e1, e2]
    exact .cons _ _ _ _ _ _ _ r1 r2 t
  | _, _, i + 1, .cons a b n k v l x hk hv t => by
    simp only [modE]
    rw [List.modify_succ_cons]
    exact .cons _ _ _ _ _ _ _ hk hv (modE_rel hfg i t)

theorem ERel.append {β : Env} : ∀ {l m : List (AV × AV × Nat)} {x y : List MapEntry}, ERel β l x → ERel β m y → ERel β (l ++ m) (x ++ y)
  | _, _, _, _, .nil, h => h
  | _, _, _, _, .cons a b n k v l x hk hv t, h => .cons a b n k v _ _ hk hv (t.append h)

theorem ERel.eraseIdx {β : Env} : ∀ {l : List (AV × AV × Nat)} {x : List MapEntry} (i : Nat), ERel β l x → ERel β (l.eraseIdx i) (x.eraseIdx i)
  | _, _, _, .nil => .nil
  | _, _, 0, .cons a b n k v l x hk hv t => t
  | _, _, i + 1, .cons a b n k v l x hk hv t => .cons a b n k v _ _ hk hv (t.eraseIdx i)

theorem ERel.get {β : Env} : ∀ {l : List (AV × AV × Nat)} {x : List MapEntry} (i : Nat) {e : AV × AV × Nat}, ERel β l x → l[i]? = some e → ∃ u, x[i]? = some u ∧ VR β e.1 u.key ∧ VR β e.2.1 u.val ∧ u.born = e.2.2
  | _, _, i, e, .nil, h => by simp at h
  | _, _, 0, e, .cons a b n k v l x hk hv t, h => by simp at h; subst h; exact ⟨_, rfl, hk, hv, rfl⟩
  | _, _, i + 1, e, .cons a b n k v l x hk hv t, h => by simp at h; simpa using t.get i h

theorem Upd.putObj (W : World) (r : Nat) (o : Obj) : Upd r W (W.putObj r o) :=
  ⟨rfl, rfl, rfl, by simp, fun j hj => World.putObj_heap_other hj⟩

/-- A map's entries turn. -/
theorem map_put {β : Env} {B : Gd} {W : World} {H : Tr AO} {hs : Nat} (hw : WR β B H hs W) {o : Nat} {k : Bk} (hk : β.b o = some k) {es es2 : List (AV × AV × Nat)} {clk clk2 : Nat} (hg : H.get .dead o = .map es clk) {arr2 : Array MapEntry} (h2 : ERel β es2 arr2.toList) :
    WR β B (H.put .dead o (.map es2 clk2)) hs (W.putObj k.blk (.map arr2 clk2)) := by
  have ho := hw.obj o k hk
  rw [hg] at ho
  obtain ⟨arr, q1, q2, q3⟩ := ho
  have hu := Upd.putObj W k.blk (.map arr2 clk2)
  refine hw.write hk _ (by rw [hg]; rfl) (by rw [hg]; rfl) (hu.below q3) hu.size hu.oth ?_ (fun _ => by rw [hg]; rfl)
  rw [World.putObj_heap_same (hw.blk o k hk)]
  exact ⟨arr2, rfl, h2, q3⟩

theorem run_setObj_map {P : Program} {W : World} {r : Nat} {arr : Array MapEntry} {clk : Nat} (o : Obj) (h : W.heap[r]? = some (.map arr clk)) : (setObj r o).run P W = .ok () (W.putObj r o) := by simp [setObj, Sem.run, h, World.putObj]
theorem run_getObj_map {P : Program} {W : World} {r : Nat} {arr : Array MapEntry} {clk : Nat} (h : W.heap[r]? = some (.map arr clk)) : (getObj r).run P W = .ok (.map arr clk) W := by simp [getObj, Sem.run, h]

theorem keyStays {P : Program} {β : Env} {W : World} {d : TypeDesc} {x y : AV} {u v : Value} (h : keyEq d x y = some true) (hu : VR β x u) (hv : VR β y v) : (Instr.keyThatStays v u).run P W = .ok u W := by
  unfold Instr.keyThatStays
  have : Instr.sameBits 10000 v u = true := by
    unfold keyEq at h
    split at h
    · obtain rfl := hu.of_lit; obtain rfl := hv.of_lit
      rw [Bool.cond_decide] at h
      split at h
      · rename_i e; subst e
        simp only [Option.some.injEq, decide_eq_true_eq] at h
        subst h
        simp [Instr.sameBits]
      · cases h
    · obtain rfl := hu.of_str; obtain rfl := hv.of_str
      simp only [Option.some.injEq, beq_iff_eq] at h
      subst h
      simp [Instr.sameBits, beq_toListBytes]
    · obtain rfl := hu.of_lit; obtain rfl := hv.of_lit
      simp only [Option.some.injEq, beq_iff_eq] at h
      subst h
      simp [Instr.sameBits]
    · cases h
  rw [if_pos this]
  simp

theorem findE_at {d : TypeDesc} {x : AV} : ∀ {es : List (AV × AV × Nat)} {i j : Nat} {v : AV}, findE d x es i = some (some (j, v)) → i ≤ j ∧ ∃ e, es[j - i]? = some e ∧ keyEq d x e.1 = some true
  | [], i, j, v, h => by simp [findE] at h
  | (a, b, n) :: es, i, j, v, h => by
    simp only [findE] at h
    split at h
    · rename_i hk
      simp only [Option.some.injEq, Prod.mk.injEq] at h
      obtain ⟨rfl, rfl⟩ := h
      exact ⟨Nat.le_refl _, (a, b, n), by simp, hk⟩
    · obtain ⟨h1, e, h2, h3⟩ := findE_at h
      refine ⟨by omega, e, ?_, h3⟩
      rw [show j - i = (j - (i + 1)) + 1 from by omega]
      simpa using h2
    · cases h

section
variable {P : Program} {T : Tab} (hT : TOk P T) {β : Env} {B : Gd} {W : World} {s : AS} {a : Act} (hw : WR β B s.heap s.hs W) (hf : FR β s a)
include hT hw hf

theorem mapUpdate_rel {t : TypeId} {x y z : Operand} {v : AV} {H' : Tr AO} {hs' : Nat} (h : effOp T s (.mapUpdate t x y z) = some (v, H', hs')) : ∃ v' W', Left β B s.hs v H' hs' v' W' ∧ Does P a (.mapUpdate t x y z) v' W W' := by
  simp only [effOp] at h
  split at h
  · rename_i o kv w ti h1 h2 h3 h4
    split at h
    · rename_i kt et es clk hd hg
      split at h
      · rename_i ki hk
        cases hok : okKey ki.desc with
        | false => rw [hok] at h; cases h
        | true =>
          rw [hok, cond_true] at h
          obtain ⟨k, hko, e1⟩ := (opd_rel hf h1).of_mp
          have hkv := opd_rel hf h2
          have hwv := opd_rel hf h3
          have ho := hw.obj o k hko
          rw [hg] at ho
          obtain ⟨arr, q1, q2, q3⟩ := ho
          have hck := fun b W => run_checkKey hT hk hok b (a.eval y) W
          split at h
          · rename_i i w0 hfe
            cases h
            obtain ⟨r', f1, f2⟩ := run_findKey hT hk hkv hfe q2 W
            cases r' with
            | none => exact f2.elim
            | some p =>
              obtain ⟨i', w'⟩ := p
              obtain rfl := f2.1
              obtain ⟨_, e, he1, he2⟩ := findE_at hfe
              obtain ⟨u, hu1, hu2, hu3, hu4⟩ := q2.get i (by simpa using he1)
              have hu1' : arr[i]? = some u := by simpa using hu1
              have hst := keyStays (P := P) (W := W) he2 hkv hu2
              have hE : ERel β (modE (fun e => (kv, w, e.2.2)) es i) (arr.modify i fun e => { e with key := a.eval y, val := a.eval z }).toList := by
                rw [Array.toList_modify]
                exact modE_rel (fun a' b' n k' v' _ _ => ⟨_, _, _, _, _, rfl, rfl, hkv, hwv⟩) i q2
              refine ⟨undef, _, ⟨β, Env.le.refl _, fun _ _ => rfl, map_put hw hko hg hE, Nat.le_refl _, udef_rel _⟩, fun dst ty pos after guard => .inr ⟨?_, rfl⟩⟩
              simp only [execOp, Instr.mapUpdate, Sem.run_bind, run_und hT h4, hd, Result.andThen_ok, e1, run_getObj_map q1, hck, f1, hu1', Option.map_some, Option.getD_some, hst, run_setObj_map _ q1, Sem.run_pure]
          · rename_i hfe
            cases h
            obtain ⟨r', f1, f2⟩ := run_findKey hT hk hkv hfe q2 W
            cases r' with
            | some p => exact f2.elim
            | none =>
              have hE : ERel β (es ++ [(kv, w, clk)]) (arr.push { key := a.eval y, val := a.eval z, born := clk }).toList := by
                rw [Array.toList_push]
                exact ERel.append q2 (.cons _ _ _ _ _ _ _ hkv hwv .nil)
              refine ⟨undef, _, ⟨β, Env.le.refl _, fun _ _ => rfl, map_put hw hko hg hE, Nat.le_refl _, udef_rel _⟩, fun dst ty pos after guard => .inr ⟨?_, rfl⟩⟩
              simp only [execOp, Instr.mapUpdate, Sem.run_bind, run_und hT h4, hd, Result.andThen_ok, e1, run_getObj_map q1, hck, f1, run_setObj_map _ q1, Sem.run_pure]
          · cases h
      · cases h
    · cases h
  · cases h

theorem deleteC_rel {c : Call} (hc : c.callee = .builtin .delete) {v : AV} {H' : Tr AO} {hs' : Nat} (h : effOp T s (.call c) = some (v, H', hs')) :
    ∃ v' W', Left β B s.hs v H' hs' v' W' ∧ Does P a (.call c) v' W W' := by
  obtain ⟨callee, args, tys⟩ := c
  simp only at hc; subst hc
  simp only [effOp] at h
  split at h
  · cases ‹Callee.builtin Builtin.delete = _›
  · cases ‹Callee.builtin Builtin.delete = _›
  · rename_i p q mt rest _ ha ht
    have ea : args = #[p, q] := by apply Array.ext'; simpa using ha
    subst ea
    have ht0 : tys[0]? = some mt := by
      have : tys[0]? = tys.toList[0]? := by simp
      rw [this, ht]; rfl
    have hm : (#[p, q].map a.eval : Array Value) = #[a.eval p, a.eval q] := by simp
    split at h
    · rename_i o kv ti h1 h2 h3
      split at h
      · rename_i kt et es clk hd hg
        split at h
        · rename_i ki hk
          cases hok : okKey ki.desc with
          | false => rw [hok] at h; cases h
          | true =>
            rw [hok, cond_true] at h
            obtain ⟨k, hko, e1⟩ := (opd_rel hf h1).of_mp
            have hkv := opd_rel hf h2
            have ho := hw.obj o k hko
            rw [hg] at ho
            obtain ⟨arr, q1, q2, q3⟩ := ho
            have hck := fun b W => run_checkKey hT hk hok b (a.eval q) W
            split at h
            · rename_i i w0 hfe
              cases h
              obtain ⟨r', f1, f2⟩ := run_findKey hT hk hkv hfe q2 W
              cases r' with
              | none => exact f2.elim
              | some pr =>
                obtain ⟨i', w'⟩ := pr
                obtain rfl := f2.1
                have hE : ERel β (es.eraseIdx i) (arr.eraseIdxIfInBounds i).toList := by
                  have : (arr.eraseIdxIfInBounds i).toList = arr.toList.eraseIdx i := by
                    unfold Array.eraseIdxIfInBounds
                    split
                    · simp
                    · rw [List.eraseIdx_of_length_le]; simp; omega
                  rw [this]
                  exact q2.eraseIdx i
                refine ⟨.tuple #[], _, ⟨β, Env.le.refl _, fun _ _ => rfl, map_put hw hko hg hE, Nat.le_refl _, udef_rel _⟩, fun dst ty pos after guard => .inl ?_⟩
                rw [exec_call_builtin, hm]
                simp only [builtin, Sem.run_bind, delete_, ht0, List.getElem?_toArray, List.getElem?_cons_zero, List.getElem?_cons_succ, run_und hT h3, hd, Result.andThen_ok, e1, run_getObj_map q1, hck, f1, run_setObj_map _ q1, Sem.run_pure]
            · rename_i hfe
              cases h
              obtain ⟨r', f1, f2⟩ := run_findKey hT hk hkv hfe q2 W
              cases r' with
              | some p => exact f2.elim
              | none =>
                have hw2 : WR β B s.heap s.hs (W.putObj k.blk (.map arr clk)) := (map_put (clk2 := clk) hw hko hg q2).congr fun j => by
                  rw [Tr.get_put]; split
                  · rename_i e; subst e; exact hg
                  · rfl
                refine ⟨.tuple #[], _, ⟨β, Env.le.refl _, fun _ _ => rfl, hw2, Nat.le_refl _, udef_rel _⟩, fun dst ty pos after guard => .inl ?_⟩
                rw [exec_call_builtin, hm]
                simp only [builtin, Sem.run_bind, delete_, ht0, List.getElem?_toArray, List.getElem?_cons_zero, List.getElem?_cons_succ, run_und hT h3, hd, Result.andThen_ok, e1, run_getObj_map q1, hck, f1, run_setObj_map _ q1, Sem.run_pure]
            · cases h
        · cases h
      · cases h
    · cases h
  · cases h

/-- Every operation that writes. -/
theorem convB_rel {src dst : Nat} {x : Operand} {v : AV} {H' : Tr AO} {hs' : Nat} (h : effOp T s (.convert src dst x) = some (v, H', hs')) : ∃ v' W', Left β B s.hs v H' hs' v' W' ∧ Does P a (.convert src dst x) v' W W' := by
  simp only [effOp] at h
  split at h
  · rename_i l si dj h1 h2 h3
    split at h
    · rename_i e hd
      split at h
      · rename_i ei h4
        split at h
        · rename_i h5
          have hx := opd_rel hf h1
          generalize hev : a.eval x = xv at hx
          cases hx with
          | str _ =>
            have hr := Lib.run_convert_string_bytes (P := P) W src dst e ⟨l.toArray⟩ (hT.ty src si h2).1 (by rw [(hT.ty dst dj h3).1, hd]) (by rw [(hT.ty e ei h4).1, h5])
            cases hlm : s.lm with
            | true =>
              rw [hlm, cond_true] at h; cases h
              obtain ⟨β', g1, g2, g3, g4⟩ := bytesL_rel hw e l
              refine ⟨_, _, ⟨β', g1, g2, g3, Nat.le_succ _, g4⟩, fun dst' ty pos after guard => .inl ?_⟩
              show (execOp a.eval ⟨dst', .convert src dst x, ty, pos, after, guard⟩).run P W = _
              simp only [execOp, hev, Sem.run_bind, hr, Result.andThen_ok, Sem.run_pure]
            | false =>
              rw [hlm, cond_false] at h; cases h
              obtain ⟨β', g1, g2, g3, g4⟩ := bytes_rel hw e l
              refine ⟨_, _, ⟨β', g1, g2, g3, Nat.le_succ _, g4⟩, fun dst' ty pos after guard => .inl ?_⟩
              show (execOp a.eval ⟨dst', .convert src dst x, ty, pos, after, guard⟩).run P W = _
              simp only [execOp, hev, Sem.run_bind, hr, Result.andThen_ok, Sem.run_pure]
        · cases h
      · cases h
    · cases h
  · cases h

theorem effOp_rel {op : Op} {v : AV} {H' : Tr AO} {hs' : Nat} (h : effOp T s op = some (v, H', hs')) : ∃ v' W', Left β B s.hs v H' hs' v' W' ∧ Does P a op v' W W' := by
  cases op with
  | store t x y => exact store_rel hT hw hf h
  | mapUpdate t x y z => exact mapUpdate_rel hT hw hf h
  | convert src dst x => exact convB_rel hT hw hf h
  | call c =>
    obtain ⟨callee, args, tys⟩ := c
    have h0 := h
    simp only [effOp] at h
    split at h
    · rename_i x y st ys ha ht
      have ea : args = #[x, y] := by apply Array.ext'; simpa using ha
      have et : tys = #[st, ys] := by apply Array.ext'; simpa using ht
      subst ea; subst et
      exact appendC_rel hT hw hf h0
    · exact copyC_rel hT hw hf rfl h0
    · exact deleteC_rel hT hw hf rfl h0
    · cases h
  | _ => simp [effOp] at h

end
end Go.Proofs.Ytbcecenneganeaa.Ev
