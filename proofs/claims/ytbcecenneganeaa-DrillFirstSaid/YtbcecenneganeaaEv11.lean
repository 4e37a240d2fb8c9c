import Derived.Test.YtbcecenneganeaaEv10
set_option linter.all false
namespace Go.Proofs.Ytbcecenneganeaa.Ev
open Go.RowKit

theorem extract_str (l : List UInt8) (x y : Nat) : (⟨l.toArray⟩ : ByteArray).extract x y = ⟨((l.take y).drop x).toArray⟩ := by
  apply ByteArray.ext
  rw [ByteArray.data_extract]
  apply Array.ext'
  simp [List.extract_eq_take_drop, List.drop_take]

section
variable {P : Program} {T : Tab} (hT : TOk P T) {β : Env} {s : AS} {a : Act} (hf : FR β s a)
include hT hf

theorem slice_rel {t : TypeId} {x : Operand} {lo hi mx : Option Operand} {v : AV} (h : pureOp T s (.slice t x lo hi mx) = some v) : ∃ v', VR β v v' ∧ Yl P a (.slice t x lo hi mx) v' := by
  have go : ∀ v', VR β v v' → (∀ W, (Instr.sliceAt t (a.eval x) (lo.map a.eval) (hi.map a.eval) (mx.map a.eval)).run P W = .ok v' W) → ∃ v', VR β v v' ∧ Yl P a (.slice t x lo hi mx) v' :=
    fun v' h1 h2 => ⟨v', h1, Yl.of (m := Instr.sliceAt t (a.eval x) (lo.map a.eval) (hi.map a.eval) (mx.map a.eval)) (fun _ _ _ _ _ => rfl) h2⟩
  simp only [pureOp] at h
  split at h
  · rename_i l ti h1 h2
    split at h
    · rename_i hd
      split at h
      · rename_i p q hp hq
        cases hb : (Nat.ble p q && Nat.ble q l.length) with
        | false => rw [hb] at h; cases h
        | true =>
          rw [hb, cond_true] at h; cases h
          simp only [Bool.and_eq_true, ble_le] at hb
          have e := (opd_rel hf h1).of_str
          refine go _ (VR.str _) fun W => ?_
          rw [e]
          have hbd := run_bounds (P := P) (W := W) hf (iss := false) (cap := l.length) hp hq hb.1 hb.2
          simp only [Instr.sliceAt, Instr.slice, Sem.run_bind, run_und hT h2, hd, Result.andThen_ok, Option.map_none, Option.isSome_none, Bool.false_eq_true, if_false, Sem.run_pure, str_size, hbd, extract_str, pure_bind]
      · cases h
    · cases h
  · rename_i o off len cap ti h1 h2
    split at h
    · rename_i e hd
      split at h
      · rename_i ei p q m he hp hq hm
        obtain ⟨k, c, hk, ev, hX, hO⟩ := (opd_rel hf h1).of_slc
        obtain ⟨g1, g2, g3, g4⟩ := slcV_rel hT hf h hk hX hO
        refine go _ g4 fun W => ?_
        rw [ev]
        have hbd : (Instr.sliceBounds true len c (lo.map a.eval) (hi.map a.eval) (mx.map a.eval)).run P W = .ok (p, q, m.getD c) W := by
          cases m with
          | none =>
            have : mx = none := by
              unfold mxb at hm
              split at hm
              · rfl
              · split at hm <;> cases hm
              · cases hm
            subst this
            exact run_bounds hf hp hq g1 g2
          | some m => exact run_bounds3 hf hp hq hm g1 g2 g3
        simp only [Instr.sliceAt, Instr.slice, Sem.run_bind, run_und hT h2, hd, Result.andThen_ok, hbd, run_size hT he, Sem.run_pure]
        congr 2
        split
        · rfl
        · simp [add_addr]
      · cases h
    · cases h
  · rename_i tk es ti h1 h2
    have fin : ∀ {ei : TI} {e : Nat} {p q : Nat} {m : Option Nat} {tk' : ATk}, ti.desc = .slice e → T.t e = some ei → bnd s lo 0 = some p → bnd s hi es.length = some q → mxb s hi mx = some m → p ≤ q → q ≤ m.getD es.length → m.getD es.length ≤ es.length → es.all (sizeOk ei.size) = true →
        (tk' = .no ∨ (tk' = .full ∧ m = some q)) → ∃ v', VR β (.lst tk' ((es.take q).drop p)) v' ∧ Yl P a (.slice t x lo hi mx) v' := by
      intro ei e p q m tk' hd he hp hq hm hpq hqm hml hso htk
      have go : ∀ {v : AV} v', VR β v v' → (∀ W, (Instr.sliceAt t (a.eval x) (lo.map a.eval) (hi.map a.eval) (mx.map a.eval)).run P W = .ok v' W) → ∃ v', VR β v v' ∧ Yl P a (.slice t x lo hi mx) v' :=
        fun v' h1 h2 => ⟨v', h1, Yl.of (m := Instr.sliceAt t (a.eval x) (lo.map a.eval) (hi.map a.eval) (mx.map a.eval)) (fun _ _ _ _ _ => rfl) h2⟩
      have hbd : ∀ (W : World) (c : Nat), es.length ≤ c → (Instr.sliceBounds true es.length c (lo.map a.eval) (hi.map a.eval) (mx.map a.eval)).run P W = .ok (p, q, m.getD c) W := by
        intro W c hc
        cases m with
        | none =>
          have : mx = none := by
            unfold mxb at hm
            split at hm
            · rfl
            · split at hm <;> cases hm
            · cases hm
          subst this
          exact run_bounds hf hp hq hpq (by simp only [Option.getD_none] at hqm; omega)
        | some m => exact run_bounds3 hf hp hq hm hpq hqm (Nat.le_trans (show m ≤ es.length from hml) hc)
      rcases (opd_rel hf h1).of_lst with ⟨rfl, ev⟩ | ⟨rfl, ad, c, ev, _⟩ | ⟨sz, vs, b, o, c, ev, g1, g2, g3, g4, g5, g6⟩
      · have hq0 : q = 0 := by simp only [List.length_nil] at *; omega
        have hp0 : p = 0 := by omega
        subst hq0; subst hp0
        have hl0 : m.getD 0 = 0 := by simpa using hml
        refine go (.slice none 0 0) (by simpa using VR.lstN (β := β) tk') fun W => ?_
        rw [ev]
        have := hbd W 0 (Nat.le_refl _)
        simp only [List.length_nil] at this
        simp only [Instr.sliceAt, Instr.slice, Sem.run_bind, run_und hT h2, hd, Result.andThen_ok, this, run_size hT he, Sem.run_pure, Nat.sub_zero, hl0]
        rfl
      · have hq0 : q = 0 := by simp only [List.length_nil] at *; omega
        have hp0 : p = 0 := by omega
        subst hq0; subst hp0
        have hv : VR β (.lst tk' []) (.slice (some (if m.getD c = 0 then ad else ad.add (0 * ei.size))) 0 (m.getD c)) := by
          refine VR.lstE _ _ _ (fun e => ?_) (fun o e => ?_)
          · rcases htk with rfl | ⟨rfl, rfl⟩
            · cases e
            · rfl
          · rcases htk with rfl | ⟨rfl, rfl⟩ <;> cases e
        refine go _ (by simpa using hv) fun W => ?_
        rw [ev]
        have := hbd W c (Nat.zero_le _)
        simp only [List.length_nil] at this
        simp only [Instr.sliceAt, Instr.slice, Sem.run_bind, run_und hT h2, hd, Result.andThen_ok, this, run_size hT he, Sem.run_pure, Nat.sub_zero]
        congr 2
        split <;> simp
      · have hqM : q ≤ m.getD c := by
          cases m with
          | none => simp only [Option.getD_none] at *; omega
          | some m => exact hqm
        have htk' : tk' = .no ∨ (tk' = .full ∧ m.getD c = q) := by
          rcases htk with h | ⟨h, rfl⟩
          · exact .inl h
          · exact .inr ⟨h, rfl⟩
        have hq : q ≤ es.length := by omega
        refine go _ (sub_rel (size := ei.size) (M := m.getD c) g1 g2 g3 g4 hso hpq hq hqM htk') fun W => ?_
        rw [ev]
        simp only [Instr.sliceAt, Instr.slice, Sem.run_bind, run_und hT h2, hd, Result.andThen_ok, hbd W c g5, run_size hT he, Sem.run_pure]
        congr 2
        split
        · rfl
        · simp [add_addr]
    split at h
    · rename_i e hd
      split at h
      · rename_i ei p q he hp hq hm
        cases hb : (Nat.ble p q && Nat.ble q es.length && es.all (sizeOk ei.size)) with
        | false => rw [hb] at h; cases h
        | true =>
          rw [hb, cond_true] at h; cases h
          simp only [Bool.and_eq_true, ble_le] at hb
          exact fin hd he hp hq hm hb.1.1 hb.1.2 (Nat.le_refl _) hb.2 (.inl rfl)
      · rename_i ei p q m he hp hq hm
        cases hb : (Nat.ble p q && Nat.ble q m && Nat.ble m es.length && es.all (sizeOk ei.size)) with
        | false => rw [hb] at h; cases h
        | true =>
          rw [hb, cond_true, beq_if] at h; cases h
          simp only [Bool.and_eq_true, ble_le] at hb
          refine fin hd he hp hq hm hb.1.1.1 hb.1.1.2 hb.1.2 hb.2 ?_
          split
          · rename_i e; subst e; exact .inr ⟨rfl, rfl⟩
          · exact .inl rfl
      · cases h
    · cases h
  · rename_i ti h1 h2
    split at h
    · rename_i e hd
      split at h
      · rename_i ei hp hq he
        cases h
        have hr := opd_rel hf h1
        have ev : ∃ p q, a.eval x = .slice (some p) 0 q := by
          generalize a.eval x = w at hr
          cases hr
          exact ⟨_, _, rfl⟩
        obtain ⟨ad, c, ev⟩ := ev
        refine go _ (VR.emp (if c = 0 then ad else ad.add (0 * ei.size)) c) fun W => ?_
        rw [ev]
        have hbd := run_bounds (P := P) (W := W) hf (iss := true) (cap := c) hp hq (Nat.le_refl _) (Nat.zero_le _)
        simp only [Instr.sliceAt, Instr.slice, Sem.run_bind, run_und hT h2, hd, Result.andThen_ok, Option.map_none, hbd, run_size hT he, Sem.run_pure, Nat.sub_zero]
        congr 2
        split <;> rfl
      · cases h
    · cases h
  · rename_i ti h1 h2
    split at h
    · rename_i e hd
      split at h
      · rename_i ei hp hq he
        cases h
        have ev := (opd_rel hf h1).of_lit
        refine go _ (VR.lit _) fun W => ?_
        rw [ev]
        have hbd := run_bounds (P := P) (W := W) hf (iss := true) (cap := 0) hp hq (Nat.le_refl _) (Nat.zero_le _)
        simp only [Instr.sliceAt, Instr.slice, Sem.run_bind, run_und hT h2, hd, Result.andThen_ok, Option.map_none, hbd, run_size hT he, Sem.run_pure, Nat.sub_zero]
        rfl
      · cases h
    · cases h
  · rename_i o off ti h1 h2
    split at h
    · rename_i n e hd
      split at h
      · rename_i ei p q he hp hq
        obtain ⟨k, hk, ev⟩ := (opd_rel hf h1).of_ptr
        obtain ⟨g1, g2, g3, g4⟩ := slcV_rel hT hf (c := n) h hk (fun m hm => by cases hm; rfl) (fun z hz => by cases hz)
        refine go _ g4 fun W => ?_
        rw [ev]
        have hbd := run_bounds (P := P) (W := W) hf (iss := false) (cap := n) hp hq g1 g2
        simp only [Instr.sliceAt, Instr.sureAddr, Sem.run_bind, Sem.run_pure, run_und hT h2, hd, Result.andThen_ok, Option.map_none, hbd, run_size hT he, Option.getD_none]
        congr 2
        split
        · rfl
        · simp [add_addr]
      · cases h
    · cases h
  · cases h

/-- Every pure operation. -/
theorem pureOp_rel {op : Op} {v : AV} (h : pureOp T s op = some v) : ∃ v', VR β v v' ∧ Yl P a op v' := by
  cases op with
  | move x => exact move_rel hf h
  | assign x => exact assign_rel hf h
  | pick c x y => exact pick_rel hf h
  | nilCheck x => exact nilCheck_rel hf h
  | binOp op t x y ty => exact binOp_rel hT hf h
  | unOp op t x => exact unOp_rel hf h
  | convert t u x => exact convP_rel hT hf h
  | makeFunc f x y => exact makeFunc_rel hf h
  | extract x i => exact extract_rel hf h
  | field t x i => exact field_rel hT hf h
  | fieldAddr t x i => exact fieldAddr_rel hT hf h
  | indexAddr t x y => exact indexAddr_rel hT hf h
  | index t x y => exact index_rel hT hf h
  | build t ps => exact build_rel hT hf h
  | slice t x lo hi mx => exact slice_rel hT hf h
  | makeInterface t x => exact makeInterface_rel hf hT h
  | call c => exact len_rel hf hT h
  | _ => simp [pureOp] at h

end
end Go.Proofs.Ytbcecenneganeaa.Ev
