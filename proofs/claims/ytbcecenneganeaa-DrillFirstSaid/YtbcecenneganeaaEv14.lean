import Derived.Test.YtbcecenneganeaaEv13
set_option linter.all false
namespace Go.Proofs.Ytbcecenneganeaa.Ev
open Go.RowKit

/-- Block b alone has turned. -/
structure Upd (b : Nat) (W W' : World) : Prop where
  os : W'.os = W.os
  tape : W'.tape = W.tape
  output : W'.output = W.output
  size : W'.heap.size = W.heap.size
  oth : ∀ j, j ≠ b → W'.heap[j]? = W.heap[j]?

theorem Upd.refl (b : Nat) (W : World) : Upd b W W := ⟨rfl, rfl, rfl, rfl, fun _ _ => rfl⟩
theorem Upd.trans {b : Nat} {x y z : World} (h : Upd b x y) (g : Upd b y z) : Upd b x z :=
  ⟨g.os.trans h.os, g.tape.trans h.tape, g.output.trans h.output, g.size.trans h.size, fun j hj => (g.oth j hj).trans (h.oth j hj)⟩
theorem Upd.below {b : Nat} {B : Nat → Prop} {W W' : World} (h : Upd b W W') (hb : ¬ B b) : Keep B W W' :=
  ⟨h.os, h.tape, h.output, Nat.le_of_eq h.size.symm, fun k hk => h.oth k (fun e => hb (e ▸ hk))⟩

theorem Upd.setCell (W : World) (b o : Nat) (v : Value) : Upd b W (W.setCell ⟨b, o, none⟩ v) :=
  ⟨rfl, rfl, rfl, by simp [World.setCell], fun j hj => Below.heap_setCell W ⟨b, o, none⟩ v j hj⟩

theorem heap_setCell_at {W : World} {b o : Nat} {arr : Array Value} {e : TypeId} {fz : Nat × Nat} (h : W.heap[b]? = some (.cells arr e fz)) (v : Value) :
    (W.setCell ⟨b, o, none⟩ v).heap[b]? = some (.cells (arr.setIfInBounds o v) e fz) := by
  simp [World.setCell, Array.getElem?_modify, h]

theorem frozen_at {W : World} {b o : Nat} {arr : Array Value} {e : TypeId} {fz : Nat × Nat} (h : W.heap[b]? = some (.cells arr e fz)) (hf : fz.2 ≤ fz.1 ∨ arr.size ≤ fz.1) (ho : o < arr.size) : W.frozen? ⟨b, o, none⟩ = false := by
  obtain ⟨lo, hi⟩ := fz
  simp only [World.frozen?, h]
  simp only [Bool.and_eq_false_iff, decide_eq_false_iff_not]
  simp only at hf
  omega

theorem run_storeCells {P : Program} {b o : Nat} {e : TypeId} {fz : Nat × Nat} : ∀ (vs : List Value) (i : Nat) (W : World) (arr : Array Value), W.heap[b]? = some (.cells arr e fz) → (fz.2 ≤ fz.1 ∨ arr.size ≤ fz.1) →
    (∀ v ∈ vs, v.oneCell' = true) → o + i + vs.length ≤ arr.size →
    ∃ W' arr', (storeCells ⟨b, o, none⟩ vs i).run P W = .ok () W' ∧ Upd b W W' ∧ W'.heap[b]? = some (.cells arr' e fz) ∧ arr'.toList = arr.toList.take (o + i) ++ (vs ++ arr.toList.drop (o + i + vs.length)) ∧ arr'.size = arr.size
  | [], i, W, arr, h, hf, hv, hl => ⟨W, arr, by simp [storeCells], Upd.refl _ _, h, by simp, rfl⟩
  | v :: vs, i, W, arr, h, hf, hv, hl => by
    simp only [List.length_cons] at hl
    have hlt : o + i < arr.size := by omega
    have hc : W.cell? ⟨b, o + i, none⟩ = some arr[o + i] := by rw [cell_at h]; simp [hlt]
    have hrun : (store ((⟨b, o, none⟩ : Addr).add i) v).run P W = .ok () (W.setCell ⟨b, o + i, none⟩ v) := by
      rw [add_addr, run_store P W _ v _ (hv v (by simp)), hc]
      simp [frozen_at h hf hlt]
    obtain ⟨W', arr', q1, q2, q3, q4, q5⟩ := run_storeCells (P := P) (o := o) vs (i + 1) (W.setCell ⟨b, o + i, none⟩ v) (arr.setIfInBounds (o + i) v) (heap_setCell_at h v) (by simpa using hf) (fun u hu => hv u (by simp [hu])) (by simp; omega)
    refine ⟨W', arr', ?_, (Upd.setCell W b (o + i) v).trans q2, q3, ?_, by simpa using q5⟩
    · simp only [storeCells, Sem.run_bind, hrun, Result.andThen_ok]; exact q1
    · rw [q4]
      have hlt' : o + i < arr.toList.length := by simpa using hlt
      simp only [Array.toList_setIfInBounds, List.length_cons]
      rw [show o + (i + 1) = o + i + 1 from by omega, show o + i + 1 + vs.length = o + i + (vs.length + 1) from by omega]
      rw [List.take_set, List.drop_set, if_pos (by omega), List.take_succ_eq_append_getElem hlt', List.set_append_right _ _ (by simp; omega)]
      have hm : min (o + i) arr.size = o + i := by omega
      simp [hm]

theorem oneCell_rel {β : Env} {a : AV} {v : Value} (h : VR β a v) (ho : oneCell a = true) : v.oneCell' = true := by
  cases h <;> first | rfl | (simp [oneCell] at ho; done) | (simpa [oneCell] using ho)

theorem oneCells_rel {β : Env} : ∀ {l : List AV} {x : List Value}, VRs β l x → l.all oneCell = true → ∀ v ∈ x, v.oneCell' = true
  | _, _, .nil, _, v, hv => by cases hv
  | _, _, .cons a u l x h t, ho, v, hv => by
    simp only [List.all_cons, Bool.and_eq_true] at ho
    rcases List.mem_cons.1 hv with rfl | hv
    · exact oneCell_rel h ho.1
    · exact oneCells_rel t ho.2 v hv

section
variable {P : Program} {β : Env} {B : Gd} {W : World} {H : Tr AO} {hs : Nat} (hw : WR β B H hs W)
include hw

/-- Cells of a thing are written. -/
theorem wr_rel {o off : Nat} {vs : List AV} {H' : Tr AO} {k : Bk} {y : List Value} (h : wr H o off vs = some H') (hk : β.b o = some k) (hy : VRs β vs y) :
    ∃ W', (storeCells ⟨k.blk, k.sh + off, none⟩ y).run P W = .ok () W' ∧ WR β B H' hs W' := by
  unfold wr at h
  have ho := hw.obj o k hk
  cases hg : H.get .dead o with
  | cells c ro =>
    rw [hg] at h ho
    cases ro with
    | true => cases h
    | false =>
      simp only at h
      cases hb : (Nat.ble (off + vs.length) c.length && vs.all oneCell) with
      | false => rw [hb] at h; cases h
      | true =>
        rw [hb, cond_true] at h; cases h
        simp only [Bool.and_eq_true, ble_le] at hb
        obtain ⟨arr, e, fz, h1, h2, h3, h4, h5, h6⟩ := ho
        have hl := hy.length
        obtain ⟨W', arr', q1, q2, q3, q4, q5⟩ := run_storeCells (P := P) (o := k.sh + off) y 0 W arr h1 (by rw [h2]; exact h4) (oneCells_rel hy hb.2) (by omega)
        refine ⟨W', q1, hw.write hk _ (by rw [hg]; rfl) (by rw [hg]; rfl) (q2.below (h5.1 rfl)) q2.size q2.oth ?_ (fun _ => by rw [hg]; rfl)⟩
        rw [q3]
        refine ⟨arr', e, fz, rfl, by omega, by rw [splice_length hb.1]; exact h3, h4, ⟨h5.1, fun x => by cases x⟩, fun i x hx => ?_⟩
        have hget : ∀ j : Nat, arr'[j]? = (arr.toList.take (k.sh + off) ++ (y ++ arr.toList.drop (k.sh + off + y.length)))[j]? := fun j => by
          have : arr'[j]? = arr'.toList[j]? := by simp
          rw [this, q4]; simp
        have htk : (arr.toList.take (k.sh + off)).length = k.sh + off := by simp; omega
        rw [hget]
        unfold splice at hx
        have hck : (c.take off).length = off := by simp; omega
        by_cases c1 : i < off
        · rw [List.getElem?_append_left (by omega)] at hx
          rw [List.getElem?_append_left (by omega), List.getElem?_take, if_pos (by omega)]
          rw [List.getElem?_take, if_pos c1] at hx
          obtain ⟨v, hv, hr⟩ := h6 i x hx
          exact ⟨v, by simpa using hv, hr⟩
        · rw [List.getElem?_append_right (by omega), hck] at hx
          rw [List.getElem?_append_right (by omega), htk, show k.sh + i - (k.sh + off) = i - off from by omega]
          by_cases c2 : i - off < vs.length
          · rw [List.getElem?_append_left c2] at hx
            rw [List.getElem?_append_left (by omega)]
            exact hy.get _ _ hx
          · rw [List.getElem?_append_right (by omega), List.getElem?_drop] at hx
            rw [List.getElem?_append_right (by omega), List.getElem?_drop]
            obtain ⟨v, hv, hr⟩ := h6 _ _ hx
            refine ⟨v, ?_, hr⟩
            rw [show k.sh + off + y.length + (i - off - y.length) = k.sh + (off + vs.length + (i - off - vs.length)) from by omega]
            simpa using hv
  | _ => rw [hg] at h; cases h

end
end Go.Proofs.Ytbcecenneganeaa.Ev
