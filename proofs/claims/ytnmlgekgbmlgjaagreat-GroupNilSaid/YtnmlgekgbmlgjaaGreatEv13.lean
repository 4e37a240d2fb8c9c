import Derived.Test.YtnmlgekgbmlgjaaGreatEv12
import Derived.IntWalk
set_option linter.all false
namespace Go.Proofs.YtnmlgekgbmlgjaaGreat.Ev
open Go.RowKit

/-- It yields v and leaves this world for that one. -/
def YlTo (P : Program) (a : Act) (op : Op) (v : Value) (W W' : World) : Prop :=
  ∀ (dst : Option Tmp) (ty : TypeId) (pos : String) (after : Array Edge) (guard : Option (Nat × Bool)), (execOp a.eval ⟨dst, op, ty, pos, after, guard⟩).run P W = .ok (.value v) W'

theorem YlTo.of {P : Program} {a : Act} {op : Op} {v : Value} {W W' : World} {m : Sem Value} (h : ∀ (dst : Option Tmp) (ty : TypeId) (pos : String) (after : Array Edge) (guard : Option (Nat × Bool)), execOp a.eval ⟨dst, op, ty, pos, after, guard⟩ = (do pure (.value (← m))))
    (hm : m.run P W = .ok v W') : YlTo P a op v W W' := fun dst ty pos after guard => by rw [h, Sem.run_bind, hm]; rfl

theorem ORel.of_cells {β : Env} {B : Nat} {c : List AV} {ro : Bool} {k : Bk} {arr : Array Value} {e : TypeId} (h : VRs β c arr.toList) (hsh : k.sh = 0) (hsz : k.sz = arr.size) (hB : B ≤ k.blk) :
    ORel β B (.cells c ro) k (some (.cells arr e)) := by
  have hl := h.length
  simp only [Array.length_toList] at hl
  refine ⟨arr, e, (0, 0), rfl, hsz.symm, by omega, .inl (Nat.le_refl _), fun _ => hB, fun i x hx => ?_⟩
  obtain ⟨v, hv, hr⟩ := h.get i x hx
  exact ⟨v, by rw [hsh]; simpa using hv, hr⟩

theorem flat_get (z : List AV) : ∀ (n i : Nat), i < n * z.length → (List.replicate n z).flatten[i]? = z[i % z.length]?
  | 0, i, h => by simp at h
  | n + 1, i, h => by
    rw [List.replicate_succ, List.flatten_cons]
    by_cases hi : i < z.length
    · rw [List.getElem?_append_left hi, Nat.mod_eq_of_lt hi]
    · rw [List.getElem?_append_right (by omega), flat_get z n (i - z.length) (by rw [Nat.add_mul] at h; omega)]
      congr 1
      rw [← Nat.mod_eq_sub_mod (by omega)]

theorem flat_length (z : List AV) (n : Nat) : (List.replicate n z).flatten.length = n * z.length := by simp

theorem zeros_rel {β : Env} {z : List AV} {x : Array Value} (h : VRs β z x.toList) (hz : 0 < z.length) (n m : Nat) (hm : m = n * z.length) :
    VRs β (List.replicate n z).flatten ((Array.range m).map (x[· % x.size]!)).toList := by
  subst hm
  have hl : x.size = z.length := by simpa using h.length
  refine VRs.of_get (by simp) fun i c v hc hv => ?_
  have hi : i < n * z.length := by
    have := (List.getElem?_eq_some_iff.1 hc).1
    rwa [flat_length] at this
  rw [flat_get z n i hi] at hc
  obtain ⟨u, hu, hr⟩ := h.get _ _ hc
  have hlt : i % z.length < x.size := by rw [hl]; exact Nat.mod_lt _ hz
  have hv' : v = x[i % x.size]! := by
    simp [hi] at hv
    rw [← hv]
  have hu' : x[i % z.length]? = some u := by simpa using hu
  rw [hv', hl, getElem!_pos x _ hlt]
  rw [getElem?_pos x _ hlt] at hu'
  cases hu'
  exact hr

theorem run_newRow {P : Program} {W : World} (e : TypeId) (x : Array Value) : (newRow e x).run P W = .ok ⟨W.heap.size, 0, none⟩ (W.alloc (.cells x e)) := by
  simp [newRow]

theorem run_buildSlice {P : Program} {T : Tab} (hT : TOk P T) {t e len : Nat} {ti ei : TI} (h2 : T.t t = some ti) (hd : ti.desc = .slice e) (he : T.t e = some ei) {W : World} {z : Value} (hz : (zeroValue e).run P W = .ok z W)
    {parts : Array (Nat × Value)} {y : Array Value} (hle : len * ei.size ≤ 2 ^ 24) (hy : Instr.fill (fun i => some (i * ei.size, ei.size)) ((Array.range (len * ei.size)).map (z.cells[· % z.cells.size]!)) parts.toList = some y) :
    (Instr.buildSlice t len parts).run P W = .ok (.slice (some ⟨W.heap.size, 0, none⟩) len len) (W.alloc (.cells y e)) := by
  have hng : ¬ (len * ei.size > 2 ^ 24) := by omega
  unfold Instr.buildSlice
  simp only [Sem.run_bind, run_und hT h2, hd, Result.andThen_ok, run_size hT he]
  rw [if_neg hng]
  simp only [pure_bind, Sem.run_bind, Sem.run_pure, Result.andThen_ok]
  by_cases h0 : len * ei.size = 0
  · rw [if_pos h0]
    have e0 : (Array.range (len * ei.size)).map (fun i => z.cells[i % z.cells.size]!) = #[] := by rw [h0]; simp
    have e1 : (Array.range (len * ei.size)).map (fun i => (#[] : Array Value)[i % (#[] : Array Value).size]!) = #[] := by rw [h0]; simp
    rw [e0] at hy
    try simp only [Sem.run_pure, Result.andThen_ok]
    rw [e1, hy]
    simp only [Sem.run_bind, run_newRow, Result.andThen_ok, Sem.run_pure]
  · rw [if_neg h0]
    simp only [Sem.run_bind, hz, Result.andThen_ok, Sem.run_pure]
    rw [hy]
    simp only [Sem.run_bind, run_newRow, Result.andThen_ok, Sem.run_pure]

theorem run_makeSlice {P : Program} {T : Tab} (hT : TOk P T) {t e : Nat} {n m : Int} {ti ei : TI} (h2 : T.t t = some ti) (hd : ti.desc = .slice e) (he : T.t e = some ei) {W : World} {z : Value} (hz : (zeroValue e).run P W = .ok z W)
    (b1 : 0 ≤ n) (b2 : n ≤ m) (b3 : m * ei.bytes ≤ 2 ^ 48) (b4 : m ≤ 9223372036854775807) :
    (Instr.makeSlice t (.int .i64 n) (.int .i64 m)).run P W = .ok (.slice (some ⟨W.heap.size, 0, none⟩) n.toNat m.toNat) (W.alloc (.cells ((Array.range (m.toNat * ei.size)).map (z.cells[· % z.cells.size]!)) e)) := by
  obtain ⟨inf, hinf, hby⟩ := run_info hT he W
  have w1 : IntKind.i64.wrap n = n := by rw [IntKind.wrap_i64]; omega
  have w2 : IntKind.i64.wrap m = m := by rw [IntKind.wrap_i64]; omega
  have t1 : (decide (m < 0) || decide ((inf.bytes : Int) * m > 2 ^ 48)) = false := by
    rw [hby, Int.mul_comm]
    simp only [Bool.or_eq_false_iff, decide_eq_false_iff_not]
    exact ⟨by omega, by omega⟩
  have t2 : decide (n < 0) = false := by simp; omega
  have t3 : decide (n > m) = false := by simp; omega
  unfold Instr.makeSlice
  simp only [Sem.run_bind, run_und hT h2, hd, Result.andThen_ok, asInt, asIntOf, Sem.run_pure, hinf, w1, w2, t1, t2, t3, Bool.or_false, Bool.false_eq_true, if_false, run_askRoom, run_size hT he, pure_bind]
  by_cases h0 : m.toNat * ei.size = 0
  · rw [if_pos h0]
    have e0 : (Array.range (m.toNat * ei.size)).map (fun i => z.cells[i % z.cells.size]!) = #[] := by rw [h0]; simp
    have e1 : (Array.range (m.toNat * ei.size)).map (fun i => (#[] : Array Value)[i % (#[] : Array Value).size]!) = #[] := by rw [h0]; simp
    rw [e0]
    simp only [Sem.run_pure, Result.andThen_ok, Sem.run_bind]
    rw [e1]
    simp only [run_newRow, Result.andThen_ok, Sem.run_pure]
  · rw [if_neg h0]
    simp only [Sem.run_bind, hz, Result.andThen_ok, Sem.run_pure, run_newRow]

theorem exec_buildSlice (ρ : Operand → Value) (t : TypeId) (len : Nat) (parts : Array (Nat × Operand)) (dst : Option Tmp) (ty : TypeId) (pos : String) (after : Array Edge) (guard : Option (Nat × Bool)) :
    execOp ρ ⟨dst, .buildSlice t len parts, ty, pos, after, guard⟩ = (do pure (.value (← Instr.buildSlice t len (parts.map fun (i, x) => (i, ρ x))))) := by
  simp only [execOp]
theorem exec_makeSlice (ρ : Operand → Value) (t : TypeId) (l c : Operand) (dst : Option Tmp) (ty : TypeId) (pos : String) (after : Array Edge) (guard : Option (Nat × Bool)) :
    execOp ρ ⟨dst, .makeSlice t l c, ty, pos, after, guard⟩ = (do pure (.value (← Instr.makeSlice t (ρ l) (ρ c)))) := by
  simp only [execOp]

section
variable {P : Program} {T : Tab} (hT : TOk P T) {β : Env} {s : AS} {a : Act} (hf : FR β s a) {hs : Nat} (hn : β.b hs = none) {Bz : Nat} {W : World} (hB : Bz ≤ W.heap.size)
include hT hf hn hB

theorem newOp_rel {op : Op} {A : AO} {v : AV} (h : newOp T s hs op = some (A, v)) : ∃ obj sz esz v', YlTo P a op v' W (W.alloc obj) ∧
    ORel (β.add hs ⟨W.heap.size, 0, sz, esz⟩) Bz A ⟨W.heap.size, 0, sz, esz⟩ (some obj) ∧ VR (β.add hs ⟨W.heap.size, 0, sz, esz⟩) v v' := by
  cases op with
  | alloc t =>
    simp only [newOp] at h
    split at h
    · rename_i ti ht
      cases hfo : flatOk ti.zero with
      | false => rw [hfo] at h; cases h
      | true =>
        rw [hfo, cond_true] at h; cases h
        obtain ⟨z, hz, hzr⟩ := run_zero hT ht W
        have hle : β.le (β.add hs ⟨W.heap.size, 0, z.cells.size, 0⟩) := Env.le_add hn
        refine ⟨.cells z.cells t, z.cells.size, 0, _, YlTo.of (m := Instr.alloc t true (.tuple #[])) (fun _ _ _ _ _ => rfl) ?_, ORel.of_cells ((hzr _).cells_ok hfo) rfl rfl hB, VR.ptr hs 0 _ (Env.add_self _ _ _)⟩
        simp only [Instr.alloc, Sem.run_bind, hz, Result.andThen_ok, newVar, run_newRow, Sem.run_pure]
    · cases h
  | box t x =>
    simp only [newOp] at h
    split at h
    · rename_i u h1
      cases hfo : flatOk u with
      | false => rw [hfo] at h; cases h
      | true =>
        rw [hfo, cond_true] at h; cases h
        have hu := opd_rel hf h1
        have hle : β.le (β.add hs ⟨W.heap.size, 0, (a.eval x).cells.size, 0⟩) := Env.le_add hn
        refine ⟨.cells (a.eval x).cells t, (a.eval x).cells.size, 0, _, YlTo.of (m := Instr.box t (a.eval x)) (fun _ _ _ _ _ => rfl) ?_, ORel.of_cells ((hu.mono hle).cells_ok hfo) rfl rfl hB, VR.ptr hs 0 _ (Env.add_self _ _ _)⟩
        simp only [Instr.box, Sem.run_bind, newVar, run_newRow, Result.andThen_ok, Sem.run_pure]
    · cases h
  | buildSlice t len parts =>
    simp only [newOp] at h
    split at h
    · rename_i ps ti h1 h2
      split at h
      · rename_i e hd
        split at h
        · rename_i ei he
          split at h
          · rename_i cs hfill
            cases hb : ((Nat.ble (len * ei.size) 16777216 && Nat.blt 0 ei.size && decide (ei.zero.cells.length = ei.size) && ps.all (fun p => flatOk p.2)) && flatOk ei.zero) with
            | false => rw [hb] at h; cases h
            | true =>
              rw [hb, cond_true] at h; cases h
              simp only [Bool.and_eq_true, ble_le, blt_lt, decide_eq_true_eq, List.all_eq_true] at hb
              obtain ⟨⟨⟨⟨b1, b2⟩, b3⟩, b4⟩, b5⟩ := hb
              have b1 : len * ei.size ≤ 2 ^ 24 := b1
              obtain ⟨z, hz, hzr⟩ := run_zero hT he W
              have hps := opdParts_rel hf h1
              have epr : (parts.map fun (i, x) => (i, a.eval x)).toList = parts.toList.map fun p => (p.1, a.eval p.2) := by simp
              have hzc := (hzr β).cells_ok b5
              have hX := zeros_rel hzc (by omega) len (len * ei.size) (by rw [b3])
              obtain ⟨y, hy, hyr⟩ := fillV_rel (place' := fun i => some (i * ei.size, ei.size)) (fun i p hp => hp) (fun p hp => b4 p hp) hfill hps hX
              have hle : β.le (β.add hs ⟨W.heap.size, 0, y.size, 0⟩) := Env.le_add hn
              refine ⟨.cells y e, y.size, 0, _, YlTo.of (fun _ _ _ _ _ => exec_buildSlice _ _ _ _ _ _ _ _ _) (v := .slice (some ⟨W.heap.size, 0, none⟩) len len) ?_, ORel.of_cells (hyr.mono hle) rfl rfl hB, VR.slcX hs 0 len len _ (Env.add_self _ _ _)⟩
              exact run_buildSlice hT h2 hd he hz b1 (by rw [epr]; exact hy)
          · simp only [Bool.cond_self] at h; cases h
        · cases h
      · cases h
    · cases h
  | makeSlice t l c =>
    simp only [newOp] at h
    split at h
    · rename_i n m ti h1 h2 h3
      split at h
      · rename_i e hd
        split at h
        · rename_i ei he
          cases hb : ((decide (0 ≤ n ∧ n ≤ m ∧ m * ei.bytes ≤ 281474976710656 ∧ m ≤ 9223372036854775807) && Nat.blt 0 ei.size && decide (ei.zero.cells.length = ei.size)) && flatOk ei.zero) with
          | false => rw [hb] at h; cases h
          | true =>
            rw [hb, cond_true] at h; cases h
            simp only [Bool.and_eq_true, blt_lt, decide_eq_true_eq] at hb
            obtain ⟨⟨⟨⟨b1, b2, b3, b4⟩, b5⟩, b6⟩, b7⟩ := hb
            obtain ⟨z, hz, hzr⟩ := run_zero hT he W
            have hzc := (hzr β).cells_ok b7
            have hX := zeros_rel hzc (by omega) m.toNat (m.toNat * ei.size) (by rw [b6])
            have e1 := (opd_rel hf h1).of_lit
            have e2 := (opd_rel hf h2).of_lit
            generalize hy : (Array.range (m.toNat * ei.size)).map (fun i => z.cells[i % z.cells.size]!) = y at hX
            have hle : β.le (β.add hs ⟨W.heap.size, 0, y.size, 0⟩) := Env.le_add hn
            refine ⟨.cells y e, y.size, 0, _, YlTo.of (fun _ _ _ _ _ => exec_makeSlice _ _ _ _ _ _ _ _ _) (v := .slice (some ⟨W.heap.size, 0, none⟩) n.toNat m.toNat) ?_, ORel.of_cells (hX.mono hle) rfl rfl hB, VR.slcX hs 0 _ _ _ (Env.add_self _ _ _)⟩
            rw [e1, e2, ← hy]
            exact run_makeSlice hT h3 hd he hz b1 b2 b3 b4
        · cases h
      · cases h
    · cases h
  | makeMap t r =>
    cases r with
    | some r => simp [newOp] at h
    | none =>
      simp only [newOp, Option.some.injEq, Prod.mk.injEq] at h
      obtain ⟨rfl, rfl⟩ := h
      refine ⟨.map #[] 0, 0, 0, _, YlTo.of (m := Instr.makeMap t none) (fun _ _ _ _ _ => rfl) ?_, ⟨#[], rfl, .nil, hB⟩, VR.mp hs _ (Env.add_self _ _ _)⟩
      simp [Instr.makeMap]
  | _ => simp [newOp] at h

end
end Go.Proofs.YtnmlgekgbmlgjaaGreat.Ev
