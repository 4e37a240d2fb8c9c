import Derived.Test.YtbcecenneganeaaEv12
import Derived.IntWalk
set_option linter.all false
namespace Go.Proofs.Ytbcecenneganeaa.Ev
open Go.RowKit

/-- It yields v and leaves this world for that one. -/
def YlTo (P : Program) (a : Act) (op : Op) (v : Value) (W W' : World) : Prop :=
  ∀ (dst : Option Tmp) (ty : TypeId) (pos : String) (after : Array Edge) (guard : Option (Nat × Bool)), (execOp a.eval ⟨dst, op, ty, pos, after, guard⟩).run P W = .ok (.value v) W'

theorem YlTo.of {P : Program} {a : Act} {op : Op} {v : Value} {W W' : World} {m : Sem Value} (h : ∀ (dst : Option Tmp) (ty : TypeId) (pos : String) (after : Array Edge) (guard : Option (Nat × Bool)), execOp a.eval ⟨dst, op, ty, pos, after, guard⟩ = (do pure (.value (← m))))
    (hm : m.run P W = .ok v W') : YlTo P a op v W W' := fun dst ty pos after guard => by rw [h, Sem.run_bind, hm]; rfl

theorem ORel.of_cells {β : Env} {B : Nat → Prop} {c : List AV} {k : Bk} {arr : Array Value} {e : TypeId} (h : VRs β c arr.toList) (hsh : k.sh = 0) (hsz : k.sz = arr.size) (hB : ¬ B k.blk) :
    ORel β B (.cells c false) k (some (.cells arr e)) := by
  have hl := h.length
  simp only [Array.length_toList] at hl
  refine ⟨arr, e, (0, 0), rfl, hsz.symm, by omega, .inl (Nat.le_refl _), ⟨fun _ => hB, fun x => by cases x⟩, fun i x hx => ?_⟩
  obtain ⟨v, hv, hr⟩ := h.get i x hx
  exact ⟨v, by rw [hsh]; simpa using hv, hr⟩

theorem flat_get (z : List AV) : ∀ (n i : Nat), i < n * z.length → (List.replicate n z).flatten[i]? = z[i % z.length]?
  | 0, i, h => by simp at h
  | n + 1, i, h => by
    rw [List.replicate_succ, List.flatten_cons]
    by_cases hi : i < z.length
    · rw [List.getElem?_append_left hi, Nat.mod_eq_of_lt hi]
    · rw [List.getElem?_append_right (by omega), flat_get z n (i - z.length) (by rw [Nat.add_mul] at h; omega)]
      congr 1
      rw [← Nat.mod_eq_sub_mod (by omega)]

theorem flat_length (z : List AV) (n : Nat) : (List.replicate n z).flatten.length = n * z.length := by simp

theorem zeros_rel {β : Env} {z : List AV} {x : Array Value} (h : VRs β z x.toList) (hz : 0 < z.length) (n m : Nat) (hm : m = n * z.length) :
    VRs β (List.replicate n z).flatten ((Array.range m).map (x[· % x.size]!)).toList := by
  subst hm
  have hl : x.size = z.length := by simpa using h.length
  refine VRs.of_get (by simp) fun i c v hc hv => ?_
  have hi : i < n * z.length := by
    have := (List.getElem?_eq_some_iff.1 hc).1
    rwa [flat_length] at this
  rw [flat_get z n i hi] at hc
  obtain ⟨u, hu, hr⟩ := h.get _ _ hc
  have hlt : i % z.length < x.size := by rw [hl]; exact Nat.mod_lt _ hz
  have hv' : v = x[i % x.size]! := by
    simp [hi] at hv
    rw [← hv]
  have hu' : x[i % z.length]? = some u := by simpa using hu
  rw [hv', hl, getElem!_pos x _ hlt]
  rw [getElem?_pos x _ hlt] at hu'
  cases hu'
  exact hr

theorem run_newRow {P : Program} {W : World} (e : TypeId) (x : Array Value) : (newRow e x).run P W = .ok ⟨W.heap.size, 0, none⟩ (W.alloc (.cells x e)) := by
  simp [newRow]

theorem run_buildSlice {P : Program} {T : Tab} (hT : TOk P T) {t e len : Nat} {ti ei : TI} (h2 : T.t t = some ti) (hd : ti.desc = .slice e) (he : T.t e = some ei) {W : World} {z : Value} (hz : (zeroValue e).run P W = .ok z W)
    {parts : Array (Nat × Value)} {y : Array Value} (hle : len * ei.size ≤ 2 ^ 24) (hy : Instr.fill (fun i => some (i * ei.size, ei.size)) ((Array.range (len * ei.size)).map (z.cells[· % z.cells.size]!)) parts.toList = some y) :
    (Instr.buildSlice t len parts).run P W = .ok (.slice (some ⟨W.heap.size, 0, none⟩) len len) (W.alloc (.cells y e)) := by
  have hng : ¬ (len * ei.size > 2 ^ 24) := by omega
  unfold Instr.buildSlice
  simp only [Sem.run_bind, run_und hT h2, hd, Result.andThen_ok, run_size hT he]
  rw [if_neg hng]
  simp only [pure_bind, Sem.run_bind, Sem.run_pure, Result.andThen_ok]
  by_cases h0 : len * ei.size = 0
  · rw [if_pos h0]
    have e0 : (Array.range (len * ei.size)).map (fun i => z.cells[i % z.cells.size]!) = #[] := by rw [h0]; simp
    have e1 : (Array.range (len * ei.size)).map (fun i => (#[] : Array Value)[i % (#[] : Array Value).size]!) = #[] := by rw [h0]; simp
    rw [e0] at hy
    try simp only [Sem.run_pure, Result.andThen_ok]
    rw [e1, hy]
    simp only [Sem.run_bind, run_newRow, Result.andThen_ok, Sem.run_pure]
  · rw [if_neg h0]
    simp only [Sem.run_bind, hz, Result.andThen_ok, Sem.run_pure]
    rw [hy]
    simp only [Sem.run_bind, run_newRow, Result.andThen_ok, Sem.run_pure]

theorem run_makeSlice {P : Program} {T : Tab} (hT : TOk P T) {t e : Nat} {n m : Int} {ti ei : TI} (h2 : T.t t = some ti) (hd : ti.desc = .slice e) (he : T.t e = some ei) {W : World} {z : Value} (hz : (zeroValue e).run P W = .ok z W)
    (b1 : 0 ≤ n) (b2 : n ≤ m) (b3 : m * ei.bytes ≤ 2 ^ 48) (b4 : m ≤ 9223372036854775807) :
    (Instr.makeSlice t (.int .i64 n) (.int .i64 m)).run P W = .ok (.slice (some ⟨W.heap.size, 0, none⟩) n.toNat m.toNat) (W.alloc (.cells ((Array.range (m.toNat * ei.size)).map (z.cells[· % z.cells.size]!)) e)) := by
  obtain ⟨inf, hinf, hby⟩ := run_info hT he W
  have w1 : IntKind.i64.wrap n = n := by rw [IntKind.wrap_i64]; omega
  have w2 : IntKind.i64.wrap m = m := by rw [IntKind.wrap_i64]; omega
  have t1 : (decide (m < 0) || decide ((inf.bytes : Int) * m > 2 ^ 48)) = false := by
    rw [hby, Int.mul_comm]
    simp only [Bool.or_eq_false_iff, decide_eq_false_iff_not]
    exact ⟨by omega, by omega⟩
  have t2 : decide (n < 0) = false := by simp; omega
  have t3 : decide (n > m) = false := by simp; omega
  unfold Instr.makeSlice
  simp only [Sem.run_bind, run_und hT h2, hd, Result.andThen_ok, asInt, asIntOf, Sem.run_pure, hinf, w1, w2, t1, t2, t3, Bool.or_false, Bool.false_eq_true, if_false, run_askRoom, run_size hT he, pure_bind]
  by_cases h0 : m.toNat * ei.size = 0
  · rw [if_pos h0]
    have e0 : (Array.range (m.toNat * ei.size)).map (fun i => z.cells[i % z.cells.size]!) = #[] := by rw [h0]; simp
    have e1 : (Array.range (m.toNat * ei.size)).map (fun i => (#[] : Array Value)[i % (#[] : Array Value).size]!) = #[] := by rw [h0]; simp
    rw [e0]
    simp only [Sem.run_pure, Result.andThen_ok, Sem.run_bind]
    rw [e1]
    simp only [run_newRow, Result.andThen_ok, Sem.run_pure]
  · rw [if_neg h0]
    simp only [Sem.run_bind, hz, Result.andThen_ok, Sem.run_pure, run_newRow]

theorem exec_buildSlice (ρ : Operand → Value) (t : TypeId) (len : Nat) (parts : Array (Nat × Operand)) (dst : Option Tmp) (ty : TypeId) (pos : String) (after : Array Edge) (guard : Option (Nat × Bool)) :
    execOp ρ ⟨dst, .buildSlice t len parts, ty, pos, after, guard⟩ = (do pure (.value (← Instr.buildSlice t len (parts.map fun (i, x) => (i, ρ x))))) := by
  simp only [execOp]
theorem exec_makeSlice (ρ : Operand → Value) (t : TypeId) (l c : Operand) (dst : Option Tmp) (ty : TypeId) (pos : String) (after : Array Edge) (guard : Option (Nat × Bool)) :
    execOp ρ ⟨dst, .makeSlice t l c, ty, pos, after, guard⟩ = (do pure (.value (← Instr.makeSlice t (ρ l) (ρ c)))) := by
  simp only [execOp]

/-- The places of what is known, with a new thing; one that is dead at once has cells that never turn. -/
def envN (β : Env) (o blk sz esz : Nat) (A : AO) (obj : Obj) : Env :=
  { β.add o ⟨blk, 0, sz, esz⟩ with fz := match A, obj with
    | .dead, .cells arr _ _ => fun x i => if x = blk then arr[i]? else β.fz x i
    | _, _ => β.fz }

theorem WR.newN {β : Env} {B : Gd} {H H' : Tr AO} {hs hs' : Nat} {W : World} (h : WR β B H hs W) {o sz esz : Nat} {A : AO} {obj : Obj} (hn : β.b o = none) (hA : H'.get .dead o = A) (hw : WR (β.add o ⟨W.heap.size, 0, sz, esz⟩) B H' hs' (W.alloc obj)) :
    WR (envN β o W.heap.size sz esz A obj) B H' hs' (W.alloc obj) ∧ β.le (envN β o W.heap.size sz esz A obj) ∧ (envN β o W.heap.size sz esz A obj).b = (β.add o ⟨W.heap.size, 0, sz, esz⟩).b := by
  have hle := Env.le_add (k := ⟨W.heap.size, 0, sz, esz⟩) hn
  have triv : envN β o W.heap.size sz esz A obj = β.add o ⟨W.heap.size, 0, sz, esz⟩ → WR (envN β o W.heap.size sz esz A obj) B H' hs' (W.alloc obj) ∧ β.le (envN β o W.heap.size sz esz A obj) ∧ (envN β o W.heap.size sz esz A obj).b = (β.add o ⟨W.heap.size, 0, sz, esz⟩).b := fun e => by
    rw [e]; exact ⟨hw, hle, rfl⟩
  cases A with
  | dead =>
    cases obj with
    | cells arr e f =>
      have hnone : ∀ off, β.fz W.heap.size off = none := fun off => h.fz_new _ _ (Nat.le_refl _)
      have hle2 : (β.add o ⟨W.heap.size, 0, sz, esz⟩).le (envN β o W.heap.size sz esz .dead (.cells arr e f)) := ⟨fun _ _ x => x, rfl, fun b i v hv => by
        have hv : β.fz b i = some v := hv
        show (if b = W.heap.size then arr[i]? else β.fz b i) = some v
        by_cases e1 : b = W.heap.size
        · subst e1; rw [hnone] at hv; cases hv
        · rw [if_neg e1]; exact hv, fun _ _ x => x⟩
      refine ⟨?_, hle.trans hle2, rfl⟩
      refine ⟨hw.below, hw.dom, fun j kj hj => (hw.obj j kj hj).mono hle2, hw.blk, hw.inj, ?_, hw.fm, ?_, ?_, hw.gfm⟩
      · intro b i v hv
        have hv : (if b = W.heap.size then arr[i]? else β.fz b i) = some v := hv
        by_cases e1 : b = W.heap.size
        · rw [if_pos e1] at hv; rw [e1]; exact ⟨arr, e, f, heap_alloc_new _ _, hv⟩
        · rw [if_neg e1] at hv; exact hw.fz b i v hv
      · intro j kj hj ho
        obtain ⟨a1, a2⟩ := hw.apart j kj hj ho
        have hne : kj.blk ≠ W.heap.size := by
          have hj : (β.add o ⟨W.heap.size, 0, sz, esz⟩).b j = some kj := hj
          by_cases e1 : j = o
          · subst e1; rw [hA] at ho; cases ho
          · rw [Env.add_other _ _ e1] at hj; have := h.blk j kj hj; omega
        refine ⟨fun off hoff => ?_, a2⟩
        show (if kj.blk = W.heap.size then arr[off]? else β.fz kj.blk off) = none
        rw [if_neg hne]; exact a1 off hoff
      · intro b i v hb hv
        have hv : (if b = W.heap.size then arr[i]? else β.fz b i) = some v := hv
        have : b ≠ W.heap.size := fun e1 => h.new (e1 ▸ hb)
        rw [if_neg this] at hv; exact h.gfz b i v hb hv
    | _ => exact triv rfl
  | _ => exact triv rfl

theorem setEs_rel {sz : Nat} : ∀ (ps : List (Nat × AV)) (es : List AV), (∀ e ∈ es, e.cells.length = sz) → (∀ p ∈ ps, p.2.cells.length = sz ∧ p.1 < es.length) →
    fillV (fun i => some (i * sz, sz)) (es.flatMap AV.cells) ps = some ((setEs es ps).flatMap AV.cells) ∧ (setEs es ps).length = es.length ∧ ∀ e ∈ setEs es ps, e.cells.length = sz
  | [], es, h, _ => ⟨rfl, rfl, h⟩
  | (i, v) :: ps, es, h, hp => by
    obtain ⟨h1, h2⟩ := hp (i, v) (by simp)
    have hes : ∀ e ∈ es.set i v, e.cells.length = sz := fun e he => by
      rcases List.mem_or_eq_of_mem_set he with h' | rfl
      · exact h e h'
      · exact h1
    obtain ⟨g1, g2, g3⟩ := setEs_rel ps (es.set i v) hes (fun p hp' => by
      have := hp p (by simp [hp']); rw [List.length_set]; exact this)
    refine ⟨?_, by rw [setEs, g2, List.length_set], g3⟩
    simp only [setEs]
    rw [← g1]
    have hfl : (es.flatMap AV.cells).length = es.length * sz := flat_len h
    have hb : i * sz + sz ≤ es.length * sz := by
      have := Nat.mul_le_mul_right sz h2
      rw [Nat.succ_mul] at this; exact this
    have hsp : splice (es.flatMap AV.cells) (i * sz) v.cells = (es.set i v).flatMap AV.cells := by
      unfold splice
      have h1 : v.cells.length = sz := h1
      rw [h1, flat_take h, show i * sz + sz = (i + 1) * sz from by rw [Nat.succ_mul], flat_drop h, List.set_eq_take_append_cons_drop, if_pos h2, List.flatMap_append, List.flatMap_cons]
    simp only [fillV]
    have hc : (decide (v.cells.length = sz) && Nat.ble (i * sz + v.cells.length) (es.flatMap AV.cells).length) = true := by
      have h1 : v.cells.length = sz := h1
      simp only [Bool.and_eq_true, decide_eq_true_eq, ble_le]; rw [h1, hfl]; exact ⟨rfl, hb⟩
    rw [hc, cond_true, hsp]

section
variable {P : Program} {T : Tab} (hT : TOk P T) {β : Env} {s : AS} {a : Act} (hf : FR β s a) {hs : Nat} (hn : β.b hs = none) {Bz : Nat → Prop} {W : World} (hB : ¬ Bz W.heap.size) (hzn : ∀ off, β.fz W.heap.size off = none)
include hT hf hn hB hzn

theorem newOp_rel {op : Op} {A : AO} {v : AV} (h : newOp T s hs op = some (A, v)) : ∃ obj sz esz v', YlTo P a op v' W (W.alloc obj) ∧
    ORel (β.add hs ⟨W.heap.size, 0, sz, esz⟩) Bz A ⟨W.heap.size, 0, sz, esz⟩ (some obj) ∧ VR (envN β hs W.heap.size sz esz A obj) v v' := by
  cases op with
  | alloc t =>
    simp only [newOp] at h
    split at h
    · rename_i ti ht
      cases hfo : flatOk ti.zero with
      | false => rw [hfo] at h; cases h
      | true =>
        rw [hfo, cond_true] at h; cases h
        obtain ⟨z, hz, hzr⟩ := run_zero hT ht W
        have hle : β.le (β.add hs ⟨W.heap.size, 0, z.cells.size, 0⟩) := Env.le_add hn
        refine ⟨.cells z.cells t, z.cells.size, 0, _, YlTo.of (m := Instr.alloc t true (.tuple #[])) (fun _ _ _ _ _ => rfl) ?_, ORel.of_cells ((hzr _).cells_ok hfo) rfl rfl hB, VR.ptr hs 0 _ (Env.add_self _ _ _)⟩
        simp only [Instr.alloc, Sem.run_bind, hz, Result.andThen_ok, newVar, run_newRow, Sem.run_pure]
    · cases h
  | box t x =>
    simp only [newOp] at h
    split at h
    · rename_i u h1
      cases hfo : flatOk u with
      | false => rw [hfo] at h; cases h
      | true =>
        rw [hfo, cond_true] at h; cases h
        have hu := opd_rel hf h1
        have hle : β.le (β.add hs ⟨W.heap.size, 0, (a.eval x).cells.size, 0⟩) := Env.le_add hn
        refine ⟨.cells (a.eval x).cells t, (a.eval x).cells.size, 0, _, YlTo.of (m := Instr.box t (a.eval x)) (fun _ _ _ _ _ => rfl) ?_, ORel.of_cells ((hu.mono hle).cells_ok hfo) rfl rfl hB, VR.ptr hs 0 _ (Env.add_self _ _ _)⟩
        simp only [Instr.box, Sem.run_bind, newVar, run_newRow, Result.andThen_ok, Sem.run_pure]
    · cases h
  | buildSlice t len parts =>
    simp only [newOp] at h
    split at h
    · rename_i ps ti h1 h2
      split at h
      · rename_i e hd
        split at h
        · rename_i ei he
          cases hb : ((Nat.ble (len * ei.size) 16777216 && Nat.blt 0 ei.size && decide (ei.zero.cells.length = ei.size) && ps.all (fun p => flatOk p.2)) && flatOk ei.zero) with
          | false => rw [hb] at h; cases h
          | true =>
            rw [hb, cond_true] at h
            simp only [Bool.and_eq_true, ble_le, blt_lt, decide_eq_true_eq, List.all_eq_true] at hb
            obtain ⟨⟨⟨⟨b1, b2⟩, b3⟩, b4⟩, b5⟩ := hb
            have b1 : len * ei.size ≤ 2 ^ 24 := b1
            obtain ⟨z, hz, hzr⟩ := run_zero hT he W
            have hps := opdParts_rel hf h1
            have epr : (parts.map fun (i, x) => (i, a.eval x)).toList = parts.toList.map fun p => (p.1, a.eval p.2) := by simp
            have hzc := (hzr β).cells_ok b5
            have hX := zeros_rel hzc (by omega) len (len * ei.size) (by rw [b3])
            cases hlm : (s.lm && ps.all fun p => sizeOk ei.size p.2 && Nat.blt p.1 len) with
            | true =>
              rw [hlm, cond_true] at h; cases h
              simp only [Bool.and_eq_true, List.all_eq_true, sizeOk_iff, blt_lt] at hlm
              have hes : ∀ e ∈ List.replicate len ei.zero, e.cells.length = ei.size := fun e he => by rw [List.eq_of_mem_replicate he]; exact b3
              obtain ⟨q1, q2, q3⟩ := setEs_rel ps (List.replicate len ei.zero) hes (fun p hp => by rw [List.length_replicate]; exact hlm.2 p hp)
              have hfl : (List.replicate len ei.zero).flatMap AV.cells = (List.replicate len ei.zero.cells).flatten := by rw [List.flatMap_def, List.map_replicate]
              rw [hfl] at q1
              rw [List.length_replicate] at q2
              obtain ⟨y, hy, hyr⟩ := fillV_rel (place' := fun i => some (i * ei.size, ei.size)) (fun i p hp => hp) (fun p hp => b4 p hp) q1 hps hX
              have hv : VR (envN β hs W.heap.size y.size 0 .dead (.cells y e)) (.lst .full (setEs (List.replicate len ei.zero) ps)) (.slice (some ⟨W.heap.size, 0, none⟩) len len) := by
                have hle : β.le (envN β hs W.heap.size y.size 0 .dead (.cells y e)) := by
                  refine (Env.le_add (k := ⟨W.heap.size, 0, y.size, 0⟩) hn).trans ⟨fun _ _ x => x, rfl, fun b i v hv => ?_, fun _ _ x => x⟩
                  have hv : β.fz b i = some v := hv
                  show (if b = W.heap.size then y[i]? else β.fz b i) = some v
                  by_cases e1 : b = W.heap.size
                  · subst e1; rw [hzn] at hv; cases hv
                  · rw [if_neg e1]; exact hv
                have := VR.lst (β := envN β hs W.heap.size y.size 0 .dead (.cells y e)) .full ei.size (setEs (List.replicate len ei.zero) ps) y.toList W.heap.size 0 len (hyr.mono hle) q3 b2
                  (fun i v hi => by show (if W.heap.size = W.heap.size then y[0 + i]? else _) = _; rw [if_pos rfl, Nat.zero_add]; simpa using hi) (by rw [q2]; exact Nat.le_refl _) (by show _ = _; rw [q2])
                rw [q2] at this; exact this
              refine ⟨.cells y e, y.size, 0, _, YlTo.of (fun _ _ _ _ _ => exec_buildSlice _ _ _ _ _ _ _ _ _) (v := .slice (some ⟨W.heap.size, 0, none⟩) len len) ?_, trivial, hv⟩
              exact run_buildSlice hT h2 hd he hz b1 (by rw [epr]; exact hy)
            | false =>
              rw [hlm, cond_false] at h
              split at h
              · rename_i cs hfill
                cases h
                obtain ⟨y, hy, hyr⟩ := fillV_rel (place' := fun i => some (i * ei.size, ei.size)) (fun i p hp => hp) (fun p hp => b4 p hp) hfill hps hX
                have hle : β.le (β.add hs ⟨W.heap.size, 0, y.size, 0⟩) := Env.le_add hn
                refine ⟨.cells y e, y.size, 0, _, YlTo.of (fun _ _ _ _ _ => exec_buildSlice _ _ _ _ _ _ _ _ _) (v := .slice (some ⟨W.heap.size, 0, none⟩) len len) ?_, ORel.of_cells (hyr.mono hle) rfl rfl hB, VR.slcX hs 0 len len _ (Env.add_self _ _ _)⟩
                exact run_buildSlice hT h2 hd he hz b1 (by rw [epr]; exact hy)
              · cases h
        · cases h
      · cases h
    · cases h
  | makeSlice t l c =>
    simp only [newOp] at h
    split at h
    · rename_i n m ti h1 h2 h3
      split at h
      · rename_i e hd
        split at h
        · rename_i ei he
          cases hb : ((decide (0 ≤ n ∧ n ≤ m ∧ m * ei.bytes ≤ 281474976710656 ∧ m ≤ 9223372036854775807) && Nat.blt 0 ei.size && decide (ei.zero.cells.length = ei.size)) && flatOk ei.zero) with
          | false => rw [hb] at h; cases h
          | true =>
            rw [hb, cond_true] at h
            simp only [Bool.and_eq_true, blt_lt, decide_eq_true_eq] at hb
            obtain ⟨⟨⟨⟨b1, b2, b3, b4⟩, b5⟩, b6⟩, b7⟩ := hb
            obtain ⟨z, hz, hzr⟩ := run_zero hT he W
            have hzc := (hzr β).cells_ok b7
            have hX := zeros_rel hzc (by omega) m.toNat (m.toNat * ei.size) (by rw [b6])
            have e1 := (opd_rel hf h1).of_lit
            have e2 := (opd_rel hf h2).of_lit
            generalize hy : (Array.range (m.toNat * ei.size)).map (fun i => z.cells[i % z.cells.size]!) = y at hX
            have hrunm : (Instr.makeSlice t (a.eval l) (a.eval c)).run P W = .ok (.slice (some ⟨W.heap.size, 0, none⟩) n.toNat m.toNat) (W.alloc (.cells y e)) := by
              rw [e1, e2, ← hy]
              exact run_makeSlice hT h3 hd he hz b1 b2 b3 b4
            have hysz : y.size = m.toNat * ei.size := by rw [← hy]; simp
            cases hlm : (s.lm && decide (n = 0)) with
            | true =>
              rw [hlm, cond_true] at h; cases h
              simp only [Bool.and_eq_true, decide_eq_true_eq] at hlm
              obtain ⟨_, rfl⟩ := hlm
              refine ⟨.cells y e, y.size, ei.size, _, YlTo.of (fun _ _ _ _ _ => exec_makeSlice _ _ _ _ _ _ _ _ _) hrunm, ⟨rfl, y, e, _, rfl, rfl, Nat.zero_le _, .inl (Nat.le_refl _), hB⟩, ?_⟩
              · exact VR.lst (.room hs) ei.size [] [] W.heap.size 0 m.toNat .nil (fun _ h => by cases h) b5 (fun i v hi => by cases hi) (Nat.zero_le _) ⟨_, Env.add_self _ _ _, rfl, by simp, by simp [hysz], rfl⟩
            | false =>
              rw [hlm, cond_false] at h; cases h
              have hle : β.le (β.add hs ⟨W.heap.size, 0, y.size, 0⟩) := Env.le_add hn
              exact ⟨.cells y e, y.size, 0, _, YlTo.of (fun _ _ _ _ _ => exec_makeSlice _ _ _ _ _ _ _ _ _) (v := .slice (some ⟨W.heap.size, 0, none⟩) n.toNat m.toNat) hrunm, ORel.of_cells (hX.mono hle) rfl rfl hB, VR.slcX hs 0 _ _ _ (Env.add_self _ _ _)⟩
        · cases h
      · cases h
    · cases h
  | makeMap t r =>
    cases r with
    | some r => simp [newOp] at h
    | none =>
      simp only [newOp, Option.some.injEq, Prod.mk.injEq] at h
      obtain ⟨rfl, rfl⟩ := h
      refine ⟨.map #[] 0, 0, 0, _, YlTo.of (m := Instr.makeMap t none) (fun _ _ _ _ _ => rfl) ?_, ⟨#[], rfl, .nil, hB⟩, VR.mp hs _ (Env.add_self _ _ _)⟩
      simp [Instr.makeMap]
  | _ => simp [newOp] at h


/-- The places of what is known, with cells that never turn in a new block. -/
def envF (β : Env) (blk : Nat) (arr : Array Value) : Env := { β with fz := fun x i => if x = blk then arr[i]? else β.fz x i }

omit hT hf hn hB in
theorem envF_le {arr : Array Value} : β.le (envF β W.heap.size arr) := ⟨fun _ _ x => x, rfl, fun b i v hv => by
  show (if b = W.heap.size then arr[i]? else β.fz b i) = some v
  by_cases e1 : b = W.heap.size
  · subst e1; rw [hzn] at hv; cases hv
  · rw [if_neg e1]; exact hv, fun _ _ x => x⟩

omit hn hB in
/-- A list that is written out. -/
theorem newDead_rel {op : Op} {v : AV} (h : newOp T s hs op = some (.dead, v)) : ∃ arr e v', YlTo P a op v' W (W.alloc (.cells arr e)) ∧ VR (envF β W.heap.size arr) v v' := by
  cases op with
  | alloc t =>
    simp only [newOp] at h
    split at h
    · rename_i ti ht
      cases hfo : flatOk ti.zero <;> (rw [hfo] at h; cases h)
    · cases h
  | box t x =>
    simp only [newOp] at h
    split at h
    · rename_i u h1
      cases hfo : flatOk u <;> (rw [hfo] at h; cases h)
    · cases h
  | buildSlice t len parts =>
    simp only [newOp] at h
    split at h
    · rename_i ps ti h1 h2
      split at h
      · rename_i e hd
        split at h
        · rename_i ei he
          cases hb : ((Nat.ble (len * ei.size) 16777216 && Nat.blt 0 ei.size && decide (ei.zero.cells.length = ei.size) && ps.all (fun p => flatOk p.2)) && flatOk ei.zero) with
          | false => rw [hb] at h; cases h
          | true =>
            rw [hb, cond_true] at h
            simp only [Bool.and_eq_true, ble_le, blt_lt, decide_eq_true_eq, List.all_eq_true] at hb
            obtain ⟨⟨⟨⟨b1, b2⟩, b3⟩, b4⟩, b5⟩ := hb
            have b1 : len * ei.size ≤ 2 ^ 24 := b1
            obtain ⟨z, hz, hzr⟩ := run_zero hT he W
            have hps := opdParts_rel hf h1
            have epr : (parts.map fun (i, x) => (i, a.eval x)).toList = parts.toList.map fun p => (p.1, a.eval p.2) := by simp
            have hzc := (hzr β).cells_ok b5
            have hX := zeros_rel hzc (by omega) len (len * ei.size) (by rw [b3])
            cases hlm : (s.lm && ps.all fun p => sizeOk ei.size p.2 && Nat.blt p.1 len) with
            | true =>
              rw [hlm, cond_true] at h; cases h
              simp only [Bool.and_eq_true, List.all_eq_true, sizeOk_iff, blt_lt] at hlm
              have hes : ∀ e ∈ List.replicate len ei.zero, e.cells.length = ei.size := fun e he => by rw [List.eq_of_mem_replicate he]; exact b3
              obtain ⟨q1, q2, q3⟩ := setEs_rel ps (List.replicate len ei.zero) hes (fun p hp => by rw [List.length_replicate]; exact hlm.2 p hp)
              have hfl : (List.replicate len ei.zero).flatMap AV.cells = (List.replicate len ei.zero.cells).flatten := by rw [List.flatMap_def, List.map_replicate]
              rw [hfl] at q1
              rw [List.length_replicate] at q2
              obtain ⟨y, hy, hyr⟩ := fillV_rel (place' := fun i => some (i * ei.size, ei.size)) (fun i p hp => hp) (fun p hp => b4 p hp) q1 hps hX
              refine ⟨y, e, _, YlTo.of (fun _ _ _ _ _ => exec_buildSlice _ _ _ _ _ _ _ _ _) (v := .slice (some ⟨W.heap.size, 0, none⟩) len len) (run_buildSlice hT h2 hd he hz b1 (by rw [epr]; exact hy)), ?_⟩
              have := VR.lst (β := envF β W.heap.size y) .full ei.size (setEs (List.replicate len ei.zero) ps) y.toList W.heap.size 0 len (hyr.mono (envF_le hzn)) q3 b2
                (fun i v hi => by show (if W.heap.size = W.heap.size then y[0 + i]? else _) = _; rw [if_pos rfl, Nat.zero_add]; simpa using hi) (by rw [q2]; exact Nat.le_refl _) (by show _ = _; rw [q2])
              rw [q2] at this; exact this
            | false =>
              rw [hlm, cond_false] at h
              split at h <;> cases h
        · cases h
      · cases h
    · cases h
  | makeSlice t l c =>
    simp only [newOp] at h
    split at h
    · rename_i n m ti h1 h2 h3
      split at h
      · rename_i e hd
        split at h
        · rename_i ei he
          cases hb : ((decide (0 ≤ n ∧ n ≤ m ∧ m * ei.bytes ≤ 281474976710656 ∧ m ≤ 9223372036854775807) && Nat.blt 0 ei.size && decide (ei.zero.cells.length = ei.size)) && flatOk ei.zero) with
          | false => rw [hb] at h; cases h
          | true =>
            rw [hb, cond_true] at h
            cases hlm : (s.lm && decide (n = 0)) <;> (rw [hlm] at h; cases h)
        · cases h
      · cases h
    · cases h
  | makeMap t r =>
    cases r with
    | some r => simp [newOp] at h
    | none => simp [newOp] at h
  | _ => simp [newOp] at h

end

theorem WR.deadN {β : Env} {B : Gd} {H : Tr AO} {hs : Nat} {W : World} (h : WR β B H hs W) (arr : Array Value) (e : TypeId) : WR (envF β W.heap.size arr) B H hs (W.alloc (.cells arr e)) := by
  have hzn : ∀ off, β.fz W.heap.size off = none := fun off => h.fz_new _ _ (Nat.le_refl _)
  have hle : β.le (envF β W.heap.size arr) := envF_le hzn
  refine ⟨h.below.alloc _, h.dom, fun j kj hj => ?_, fun j kj hj => ?_, h.inj, ?_, ?_, ?_, ?_, h.gfm⟩
  · rw [heap_alloc_old (h.blk j kj hj)]; exact (h.obj j kj hj).mono hle
  · have : (W.alloc (.cells arr e)).heap.size = W.heap.size + 1 := World.size_alloc W _
    have := h.blk j kj hj; omega
  · intro b i v hv
    have hv : (if b = W.heap.size then arr[i]? else β.fz b i) = some v := hv
    by_cases e1 : b = W.heap.size
    · rw [if_pos e1] at hv; rw [e1]; exact ⟨arr, e, _, heap_alloc_new _ _, hv⟩
    · rw [if_neg e1] at hv; rw [heap_alloc_old (h.fz_lt hv)]; exact h.fz b i v hv
  · intro r x hx; rw [heap_alloc_old (heap_lt (h.fm r x hx))]; exact h.fm r x hx
  · intro j kj hj ho
    obtain ⟨a1, a2⟩ := h.apart j kj hj ho
    have := h.blk j kj hj
    refine ⟨fun off hoff => ?_, a2⟩
    show (if kj.blk = W.heap.size then arr[off]? else β.fz kj.blk off) = none
    rw [if_neg (by omega)]; exact a1 off hoff
  · intro b i v hb hv
    have hv : (if b = W.heap.size then arr[i]? else β.fz b i) = some v := hv
    rw [if_neg (show ¬ b = W.heap.size from fun e1 => h.new (e1 ▸ hb))] at hv
    exact h.gfz b i v hb hv

end Go.Proofs.Ytbcecenneganeaa.Ev
