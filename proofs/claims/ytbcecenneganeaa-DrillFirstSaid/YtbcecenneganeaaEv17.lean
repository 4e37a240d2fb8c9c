import Derived.Test.YtbcecenneganeaaEvM
set_option linter.all false
namespace Go.Proofs.Ytbcecenneganeaa.Ev
open Go.RowKit Go.Builtin

/-- It yields v, or nothing, and leaves this world for that one. -/
def Does (P : Program) (a : Act) (op : Op) (v : Value) (W W' : World) : Prop :=
  ∀ (dst : Option Tmp) (ty : TypeId) (pos : String) (after : Array Edge) (guard : Option (Nat × Bool)),
    (execOp a.eval ⟨dst, op, ty, pos, after, guard⟩).run P W = .ok (.value v) W' ∨ ((execOp a.eval ⟨dst, op, ty, pos, after, guard⟩).run P W = .ok .skip W' ∧ v = undef)

/-- What an operation that writes leaves. -/
def Left (β : Env) (B : Gd) (hs : Nat) (v : AV) (H' : Tr AO) (hs' : Nat) (v' : Value) (W' : World) : Prop :=
  ∃ β', β.le β' ∧ (∀ o, o < hs → β'.b o = β.b o) ∧ WR β' B H' hs' W' ∧ hs ≤ hs' ∧ VR β' v v'

theorem zero_all {P : Program} {T : Tab} (hT : TOk P T) {t : Nat} {i : TI} (h : T.t t = some i) : ∃ z, (∀ w, (zeroValue t).run P w = .ok z w) ∧ ∀ β, VR β i.zero z := by
  obtain ⟨inf, q1, _, _, z, q2, q3⟩ := (hT.ty t i h).2.1
  exact ⟨z, fun w => by simp [zeroValue, typeInfo, q1, q2], q3⟩

theorem exec_call_builtin (ρ : Operand → Value) (b : Builtin) (args : Array Operand) (tys : Array TypeId) (dst : Option Tmp) (ty : TypeId) (pos : String) (after : Array Edge) (guard : Option (Nat × Bool)) :
    execOp ρ ⟨dst, .call ⟨.builtin b, args, tys⟩, ty, pos, after, guard⟩ = builtin b tys ty (args.map fun | .const _ => true | _ => false) (args.map ρ) := rfl

theorem zeroCells_size (x : Array Value) (n : Nat) : (zeroCells x n).size = n * x.size := by simp [zeroCells]

theorem chunk_flat (sz : Nat) : ∀ (n : Nat) (l : List AV), l.length = n * sz → (chunk true sz n l).flatMap AV.cells = l
  | 0, l, h => by
    have : l = [] := List.eq_nil_of_length_eq_zero (by simpa using h)
    subst this; rfl
  | n + 1, l, h => by
    rw [Nat.succ_mul] at h
    simp only [chunk, cond_true, List.flatMap_cons, AV.cells]
    rw [chunk_flat sz n (l.drop sz) (by rw [List.length_drop]; omega), List.take_append_drop]
theorem chunk_one : ∀ (n : Nat) (l : List AV), l.length = n → l.all oneCell = true → chunk false 1 n l = l ∧ l.flatMap AV.cells = l
  | 0, l, h, _ => by
    have : l = [] := List.eq_nil_of_length_eq_zero h
    subst this; exact ⟨rfl, rfl⟩
  | n + 1, [], h, _ => by cases h
  | n + 1, x :: l, h, ho => by
    simp only [List.all_cons, Bool.and_eq_true] at ho
    obtain ⟨h1, h2⟩ := chunk_one n l (by simpa using h) ho.2
    refine ⟨?_, ?_⟩
    · simp only [chunk, cond_false, List.headD_cons, List.drop_succ_cons, List.drop_zero, h1]
    · have : x.cells = [x] := by
        cases x <;> first | rfl | (simp [oneCell] at ho; done)
      rw [List.flatMap_cons, this, h2]; rfl
theorem chunk_length (b : Bool) (sz : Nat) : ∀ (n : Nat) (l : List AV), (chunk b sz n l).length = n
  | 0, _ => rfl
  | n + 1, l => by simp [chunk, chunk_length b sz n]

section
variable {P : Program} {T : Tab} (hT : TOk P T) {β : Env} {B : Gd} {W : World} {s : AS} {a : Act} (hw : WR β B s.heap s.hs W) (hf : FR β s a)
include hT hw hf

omit hT hf in
/-- The cells of a list, as the model reads them. -/
theorem list_src {size : Nat} {tk : ATk} {es : List AV} {x : Value} (hv : VR β (.lst tk es) x) (hso : es.all (sizeOk size) = true) :
    ∃ new : Array Value, VRs β (es.flatMap AV.cells) new.toList ∧ new.size = es.length * size ∧ (∀ w, (lenOf x).run P w = .ok es.length w) ∧ (∀ d n, n ≤ es.length → (firstCells size n x).run P { W with drawn := d } = .ok (new.toList.take (n * size)).toArray { W with drawn := d }) := by
  simp only [List.all_eq_true, sizeOk_iff] at hso
  have hnil : ∀ ad c, es = [] → x = .slice ad 0 c → ∃ new : Array Value, VRs β (es.flatMap AV.cells) new.toList ∧ new.size = es.length * size ∧ (∀ w, (lenOf x).run P w = .ok es.length w) ∧ (∀ d n, n ≤ es.length → (firstCells size n x).run P { W with drawn := d } = .ok (new.toList.take (n * size)).toArray { W with drawn := d }) := by
    intro ad c e1 e2
    subst e1; subst e2
    refine ⟨#[], .nil, by simp, fun w => by simp [lenOf], fun d n hn => ?_⟩
    have : n = 0 := by simpa using hn
    subst this
    cases ad <;> simp [firstCells, loadCells, loadCellsFrom]
  rcases hv.of_lst with ⟨e1, e2⟩ | ⟨e1, ad, c, e2, _⟩ | ⟨sz, vs, b, o, c, e2, g1, g2, g3, g4, g5, g6⟩
  · exact hnil _ _ e1 e2
  · exact hnil _ _ e1 e2
  · by_cases hne : es = []
    · exact hnil _ _ hne (by rw [e2, hne]; rfl)
    · have hsz : sz = size := by
        obtain ⟨y, hy⟩ := List.exists_mem_of_ne_nil _ hne
        rw [← g2 y hy, hso y hy]
      subst hsz
      have hvl := g1.length
      rw [flat_len g2] at hvl
      refine ⟨vs.toArray, by simpa using g1, by simpa using hvl, fun w => by rw [e2]; simp [lenOf], fun d n hn => ?_⟩
      rw [e2]
      unfold firstCells
      by_cases hn0 : n = 0
      · subst hn0; simp [loadCells, loadCellsFrom]
      · have hnm : n * sz ≤ es.length * sz := Nat.mul_le_mul_right _ hn
        have hp : 0 < n * sz := Nat.mul_pos (by omega) g3
        have hlen : (vs.take (n * sz)).length = n * sz := by simp; omega
        obtain ⟨arr, e', fz', q1, q2, q3⟩ := fz_read hw (vs := vs.take (n * sz)) (fun i v hi => by
          rw [List.getElem?_take] at hi; split at hi
          · exact g4 i v hi
          · cases hi) (by omega)
        rw [hlen] at q2 q3
        have := run_loadCells (P := P) (W := { W with drawn := d }) (e := e') (fz := fz') q1 q2
        rw [q3] at this
        simpa using this

theorem srcCells_rel {size n : Nat} {v : AV} {x : Value} {cs : List AV} (h : srcCells s.heap size v = some (n, cs)) (hv : VR β v x) :
    ∃ new : Array Value, VRs β cs new.toList ∧ new.size = n * size ∧ (∀ w, (lenOf x).run P w = .ok n w) ∧ (∀ d, (firstCells size n x).run P { W with drawn := d } = .ok new { W with drawn := d }) := by
  unfold srcCells at h
  split at h
  · rename_i l
    rw [beq_if] at h
    split at h
    · rename_i h1
      subst h1
      cases h
      obtain rfl := hv.of_str
      refine ⟨(l.map fun b => Value.int .u8 b.toNat).toArray, ?_, by simp, fun w => by simp [lenOf, str_size], fun d => ?_⟩
      · simp only []
        refine VRs.of_get (by simp) fun i c u hc hu => ?_
        simp only [List.getElem?_map, Option.map_eq_some_iff] at hc hu
        obtain ⟨b, hb, rfl⟩ := hc
        obtain ⟨b', hb', rfl⟩ := hu
        rw [hb] at hb'; cases hb'
        exact .lit _
      · simp only [firstCells, Sem.run_pure]
        congr 1
        have : (⟨l.toArray⟩ : ByteArray).extract 0 l.length = ⟨l.toArray⟩ := by rw [extract_str]; simp
        rw [this]
        simp
    · cases h
  · cases h
    obtain rfl := hv.of_lit
    exact ⟨#[], .nil, by simp, fun w => by simp [lenOf], fun d => by simp [firstCells]⟩
  · cases h
    have ev : ∃ p q, x = .slice (some p) 0 q := by cases hv; exact ⟨_, _, rfl⟩
    obtain ⟨p, q, rfl⟩ := ev
    exact ⟨#[], .nil, by simp, fun w => by simp [lenOf], fun d => by simp [firstCells, loadCells, loadCellsFrom]⟩
  · rename_i tk es
    cases hso : es.all (sizeOk size) with
    | false => rw [hso] at h; cases h
    | true =>
      rw [hso, cond_true] at h; cases h
      obtain ⟨new, n1, n2, n3, n4⟩ := list_src (P := P) hw hv hso
      refine ⟨new, n1, n2, n3, fun d => ?_⟩
      rw [n4 d _ (Nat.le_refl _), List.take_of_length_le (by rw [Array.length_toList]; omega)]
  · rename_i o off m cap
    split at h
    · rename_i l hl
      cases h
      obtain ⟨k, c, hk, rfl, _⟩ := hv.of_slc
      obtain ⟨arr, e, fz, h1, h2, h3⟩ := rd_rel hw hl hk
      refine ⟨((arr.toList.drop (k.sh + off)).take (n * size)).toArray, by simpa using h3, ?_, fun w => by simp [lenOf], fun d => ?_⟩
      · simp; omega
      · unfold firstCells
        exact run_loadCells (W := { W with drawn := d }) (e := e) (fz := fz) h1 h2
    · cases h
  · cases h

theorem srcElems_rel {agg : Bool} {size : Nat} {v : AV} {x : Value} {ys : List AV} (h : srcElems s.heap agg size v = some ys) (hv : VR β v x) :
    ∃ new : Array Value, VRs β (ys.flatMap AV.cells) new.toList ∧ new.size = ys.length * size ∧ (∀ w, (lenOf x).run P w = .ok ys.length w) ∧ (∀ d, (firstCells size ys.length x).run P { W with drawn := d } = .ok new { W with drawn := d }) := by
  have same : ∀ {cs : List AV}, srcCells s.heap size v = some (ys.length, cs) → ys.flatMap AV.cells = cs → ∃ new : Array Value, VRs β (ys.flatMap AV.cells) new.toList ∧ new.size = ys.length * size ∧ (∀ w, (lenOf x).run P w = .ok ys.length w) ∧ (∀ d, (firstCells size ys.length x).run P { W with drawn := d } = .ok new { W with drawn := d }) := by
    intro cs h1 h2
    obtain ⟨new, n1, n2, n3, n4⟩ := srcCells_rel hT hw hf h1 hv
    exact ⟨new, by rw [h2]; exact n1, n2, n3, n4⟩
  unfold srcElems at h
  split at h
  · rename_i tk es
    cases hso : es.all (sizeOk size) with
    | false => rw [hso] at h; cases h
    | true =>
      rw [hso, cond_true] at h; cases h
      exact same (by unfold srcCells; simp only; rw [hso, cond_true]) rfl
  · rename_i l
    rw [beq_if] at h
    split at h
    · rename_i h1
      subst h1
      cases h
      refine same (cs := l.map fun b => .lit (.int .u8 b.toNat)) (by simp [srcCells]) ?_
      clear hv same
      induction l with
      | nil => rfl
      | cons b l ih => rw [List.map_cons, List.flatMap_cons, ih]; rfl
    · cases h
  · cases h; exact same (cs := []) (by simp [srcCells]) rfl
  · cases h; exact same (cs := []) (by simp [srcCells]) rfl
  · rename_i o off n cap
    split at h
    · rename_i l hl
      cases hb : (agg || (Nat.beq size 1 && l.all oneCell)) with
      | false => rw [hb] at h; cases h
      | true =>
        rw [hb, cond_true] at h; cases h
        have hll : l.length = n * size := by
          obtain ⟨k, c, hk, _, _⟩ := hv.of_slc
          obtain ⟨arr, e, fz, h1, h2, h3⟩ := rd_rel hw hl hk
          have := h3.length
          simp at this; omega
        refine same (cs := l) (by simp only [srcCells, hl, chunk_length]) ?_
        cases agg with
        | true => exact chunk_flat size n l hll
        | false =>
          simp only [Bool.false_or, Bool.and_eq_true] at hb
          have h1 : size = 1 := Nat.eq_of_beq_eq_true hb.1
          subst h1
          obtain ⟨c1, c2⟩ := chunk_one n l (by simpa using hll) hb.2
          rw [c1, c2]
    · cases h
  · cases h

theorem store_rel {t : TypeId} {x y : Operand} {v : AV} {H' : Tr AO} {hs' : Nat} (h : effOp T s (.store t x y) = some (v, H', hs')) : ∃ v' W', Left β B s.hs v H' hs' v' W' ∧ Does P a (.store t x y) v' W W' := by
  simp only [effOp] at h
  split at h
  · rename_i o off u ti h1 h2 h3
    cases hb : (Nat.beq u.cells.length ti.size && flatOk u) with
    | false => rw [hb] at h; cases h
    | true =>
      rw [hb, cond_true] at h
      simp only [Bool.and_eq_true] at hb
      split at h
      · rename_i H2 hwr
        cases h
        obtain ⟨k, hk, e1⟩ := (opd_rel hf h1).of_ptr
        have hu := opd_rel hf h2
        have hc := hu.cells_ok hb.2
        obtain ⟨W', w1, w2⟩ := wr_rel hw (P := P) hwr hk hc
        refine ⟨undef, W', ⟨β, Env.le.refl _, fun _ _ => rfl, w2, Nat.le_refl _, udef_rel _⟩, fun dst ty pos after guard => .inr ⟨?_, rfl⟩⟩
        have hsz : (a.eval y).cells.size = ti.size := by
          have := hc.length
          simp only [Array.length_toList] at this
          rw [this]; exact Nat.eq_of_beq_eq_true hb.1
        have hne : ¬ ((a.eval y).cells.size ≠ ti.size) := by simp [hsz]
        simp only [execOp, Instr.storeAt, Instr.sureAddr, e1, storeVar, Sem.run_bind, Sem.run_pure, Result.andThen_ok, run_size hT h3]
        rw [if_neg hne]
        simp only [pure_bind, Sem.run_bind, w1, Result.andThen_ok, Sem.run_pure]
      · cases h
  · cases h

theorem appendC_rel {x y : Operand} {st ys : TypeId} {v : AV} {H' : Tr AO} {hs' : Nat} (h : effOp T s (.call ⟨.builtin .append, #[x, y], #[st, ys]⟩) = some (v, H', hs')) :
    ∃ v' W', Left β B s.hs v H' hs' v' W' ∧ Does P a (.call ⟨.builtin .append, #[x, y], #[st, ys]⟩) v' W W' := by
  have fin : ∀ {e : TypeId} {size bytes n : Nat} {u : AV} {cs : List AV} {new : Array Value} (hA : ∀ ty, App P W e size bytes n new fun q => append_ #[st, ys] ty #[q, a.eval y]) (hu : VR β u (a.eval x)) (hcs : VRs β cs new.toList)
      (happ : append' s.heap s.hs size bytes u n cs = some (v, H', hs')), ∃ v' W', Left β B s.hs v H' hs' v' W' ∧ Does P a (.call ⟨.builtin .append, #[x, y], #[st, ys]⟩) v' W W' := by
    intro e size bytes n u cs new hA hu hcs happ
    obtain ⟨v', W', β', g1, g2, g3, g4, g5, g6⟩ := append_rel hw hu happ hcs (hA 0)
    refine ⟨v', W', ⟨β', g1, g2, g3, g4, g5⟩, fun dst ty pos after guard => .inl ?_⟩
    rw [exec_call_builtin]
    have hm : (#[x, y].map a.eval : Array Value) = #[a.eval x, a.eval y] := by simp
    rw [hm]
    simp only [builtin, Sem.run_bind]
    rw [show append_ #[st, ys] ty #[a.eval x, a.eval y] = append_ #[st, ys] 0 #[a.eval x, a.eval y] from rfl, g6]
    rfl
  have finL : ∀ {e : TypeId} {size bytes : Nat} {tk : ATk} {es zs : List AV} {new : Array Value} (hA : ∀ ty, App P W e size bytes zs.length new fun q => append_ #[st, ys] ty #[q, a.eval y]) (hu : VR β (.lst tk es) (a.eval x)) (hcs : VRs β (zs.flatMap AV.cells) new.toList)
      (happ : appendL s.heap s.hs size bytes tk es zs = some (v, H', hs')), ∃ v' W', Left β B s.hs v H' hs' v' W' ∧ Does P a (.call ⟨.builtin .append, #[x, y], #[st, ys]⟩) v' W W' := by
    intro e size bytes tk es zs new hA hu hcs happ
    obtain ⟨v', W', β', g1, g2, g3, g4, g5, g6⟩ := appendL_rel hw hu happ hcs (hA 0)
    refine ⟨v', W', ⟨β', g1, g2, g3, g4, g5⟩, fun dst ty pos after guard => .inl ?_⟩
    rw [exec_call_builtin]
    have hm : (#[x, y].map a.eval : Array Value) = #[a.eval x, a.eval y] := by simp
    rw [hm]
    simp only [builtin, Sem.run_bind]
    rw [show append_ #[st, ys] ty #[a.eval x, a.eval y] = append_ #[st, ys] 0 #[a.eval x, a.eval y] from rfl, g6]
    rfl
  simp only [effOp] at h
  split at h
  · rename_i u w si yi h1 h2 h3 h4
    split at h
    · rename_i e kk hd hyd
      split at h
      · rename_i ei n he
        cases hb : (Nat.blt 0 ei.bytes && Nat.blt 0 ei.size && decide (ei.zero.cells.length = ei.size) && flatOk ei.zero && decide (0 < n ∧ n ≤ 1000000 ∧ n * ei.bytes ≤ 281474976710656)) with
        | false => rw [hb] at h; cases h
        | true =>
          rw [hb, cond_true] at h
          simp only [Bool.and_eq_true, blt_lt, decide_eq_true_eq] at hb
          obtain ⟨⟨⟨⟨b1, b2⟩, b3⟩, b4⟩, b5, b6, b7⟩ := hb
          obtain ⟨z, hz, hzr⟩ := zero_all hT he
          have hzc := (hzr β).cells_ok b4
          have hzs : z.cells.size = ei.size := by have := hzc.length; simp only [Array.length_toList] at this; omega
          have ey := (opd_rel hf h2).of_lit
          have hpos : n.toNat * ei.size ≠ 0 := by
            have : 0 < n.toNat * ei.size := Nat.mul_pos (by omega) b2
            omega
          refine fin (e := e) (new := zeroCells z.cells n.toNat) (fun ty => ?_) (opd_rel hf h1) ?_ h
          · rw [ey]
            refine ⟨by rw [zeroCells_size, hzs], b2, fun base sLen sCap W' hle hst => run_appendZ_in hT h3 hd he h4 hyd hz (by omega) b6 b7 hpos hle hst ty, fun hn base sLen sCap old hold hgt hroom => ?_⟩
            obtain ⟨c, q1, q2⟩ := run_appendZ_out hT h3 hd he h4 hyd hz (by omega) b6 b7 hpos hold hgt b1 hroom ty
            exact ⟨c, _, q1, by rw [zeroCells_size, hzs], q2⟩
          · have := zeros_rel hzc (by omega) n.toNat (n.toNat * z.cells.size) (by rw [hzs, b3])
            simpa [zeroCells] using this
      · cases h
    · rename_i e hd hneg
      split at h
      · rename_i ei he
        cases hb : (Nat.blt 0 ei.bytes && Nat.blt 0 ei.size && decide (ei.zero.cells.length = ei.size) && flatOk ei.zero) with
        | false => rw [hb] at h; cases h
        | true =>
          rw [hb, cond_true] at h
          simp only [Bool.and_eq_true, blt_lt, decide_eq_true_eq] at hb
          obtain ⟨⟨⟨b1, b2⟩, b3⟩, b4⟩ := hb
          split at h
          · rename_i tk es hlo
            have hul : VR β (.lst tk es) (a.eval x) := by
              have hr := opd_rel hf h1
              unfold lstOf at hlo
              split at hlo
              · cases hlo; exact hr
              · cases hlm : s.lm with
                | false => rw [hlm] at hlo; cases hlo
                | true =>
                  rw [hlm] at hlo; cases hlo
                  rw [hr.of_lit]; exact VR.lstN _
              · cases hlo
            split at h
            · rename_i zs hsrc
              obtain ⟨new, g1, g2, g3, g4⟩ := srcElems_rel hT hw hf hsrc (opd_rel hf h2)
              obtain ⟨z, hz, hzr⟩ := zero_all hT he
              have hzc := (hzr β).cells_ok b4
              have hzs : z.cells.size = ei.size := by have := hzc.length; simp only [Array.length_toList] at this; omega
              have hnz : (yi.desc matches .int _) = false := by
                cases hyd : yi.desc <;> first | rfl | exact (hneg _ hyd).elim
              refine finL (e := e) (new := new) (fun ty => ?_) hul g1 h
              refine ⟨g2, b2, fun base sLen sCap W' hle hst => run_append_in hT h3 hd he h4 hnz g3 (by have := g4 W.drawn; exact this) hle hst ty, fun hn base sLen sCap old hold hgt hroom => ?_⟩
              obtain ⟨c, q1, q2⟩ := run_append_out hT h3 hd he h4 hnz hz g3 g4 hold hgt b1 hroom ty
              exact ⟨c, _, q1, by rw [zeroCells_size, hzs], q2⟩
            · cases h
          split at h
          · rename_i n cs hsrc
            obtain ⟨new, g1, g2, g3, g4⟩ := srcCells_rel hT hw hf hsrc (opd_rel hf h2)
            obtain ⟨z, hz, hzr⟩ := zero_all hT he
            have hzc := (hzr β).cells_ok b4
            have hzs : z.cells.size = ei.size := by have := hzc.length; simp only [Array.length_toList] at this; omega
            have hnz : (yi.desc matches .int _) = false := by
              cases hyd : yi.desc <;> first | rfl | exact (hneg _ hyd).elim
            refine fin (e := e) (new := new) (fun ty => ?_) (opd_rel hf h1) g1 h
            refine ⟨g2, b2, fun base sLen sCap W' hle hst => run_append_in hT h3 hd he h4 hnz g3 (by have := g4 W.drawn; exact this) hle hst ty, fun hn base sLen sCap old hold hgt hroom => ?_⟩
            obtain ⟨c, q1, q2⟩ := run_append_out hT h3 hd he h4 hnz hz g3 g4 hold hgt b1 hroom ty
            exact ⟨c, _, q1, by rw [zeroCells_size, hzs], q2⟩
          · cases h
      · cases h
    · cases h
  · cases h

theorem copyC_rel {c : Call} (hc : c.callee = .builtin .copy) {v : AV} {H' : Tr AO} {hs' : Nat} (h : effOp T s (.call c) = some (v, H', hs')) :
    ∃ v' W', Left β B s.hs v H' hs' v' W' ∧ Does P a (.call c) v' W W' := by
  obtain ⟨callee, args, tys⟩ := c
  simp only at hc; subst hc
  simp only [effOp] at h
  split at h
  · cases ‹Callee.builtin Builtin.copy = _›
  · rename_i p q st rest _ ha ht
    have ea : args = #[p, q] := by apply Array.ext'; simpa using ha
    subst ea
    split at h
    · rename_i u w si h1 h2 h3
      split at h
      · rename_i e hd
        split at h
        · rename_i ei he
          split at h
          · rename_i o off len cap
            split at h
            · rename_i o2 off2 n2 cap2
              split at h
              · rename_i cs hcs
                split at h
                · rename_i H2 hwr
                  cases h
                  obtain ⟨k, c1, hk, e1, _⟩ := (opd_rel hf h1).of_slc
                  obtain ⟨k2, c2, hk2, e2, _⟩ := (opd_rel hf h2).of_slc
                  obtain ⟨arr, ae, fz, r1, r2, r3⟩ := rd_rel hw hcs hk2
                  obtain ⟨W', w1, w2⟩ := wr_rel hw (P := P) hwr hk r3
                  refine ⟨_, W', ⟨β, Env.le.refl _, fun _ _ => rfl, w2, Nat.le_refl _, VR.lit _⟩, fun dst ty pos after guard => .inl ?_⟩
                  rw [exec_call_builtin]
                  have hm : (#[p, q].map a.eval : Array Value) = #[a.eval p, a.eval q] := by simp
                  have ht0 : tys[0]? = some st := by
                    have : tys[0]? = tys.toList[0]? := by simp
                    rw [this, ht]; rfl
                  rw [hm, e1, e2]
                  simp only [builtin, Sem.run_bind, copy_, ht0, List.getElem?_toArray, List.getElem?_cons_zero, List.getElem?_cons_succ, run_und hT h3, hd, Result.andThen_ok, lenOf, Sem.run_pure, run_size hT he, firstCells]
                  rw [show Nat.min n2 len = min n2 len from rfl, run_loadCells r1 r2]
                  simp only [Result.andThen_ok, Sem.run_bind, w1, Sem.run_pure]
                  rfl
                · cases h
              · cases h
            · rename_i tk es
              cases hso : es.all (sizeOk ei.size) with
              | false => rw [hso] at h; cases h
              | true =>
                rw [hso, cond_true] at h
                split at h
                · rename_i H2 hwr
                  cases h
                  obtain ⟨k, c1, hk, e1, _⟩ := (opd_rel hf h1).of_slc
                  obtain ⟨new, n1, n2, n3, n4⟩ := list_src (P := P) hw (opd_rel hf h2) hso
                  have hso' := hso
                  simp only [List.all_eq_true, sizeOk_iff] at hso'
                  have hcsr : VRs β ((es.take len).flatMap AV.cells) (new.toList.take (min es.length len * ei.size)) := by
                    have := n1.take (min es.length len * ei.size)
                    rw [flat_take hso'] at this
                    rw [show es.take len = es.take (min es.length len) from by rw [List.take_eq_take_iff]; omega]
                    exact this
                  obtain ⟨W', w1, w2⟩ := wr_rel hw (P := P) hwr hk hcsr
                  refine ⟨_, W', ⟨β, Env.le.refl _, fun _ _ => rfl, w2, Nat.le_refl _, VR.lit _⟩, fun dst ty pos after guard => .inl ?_⟩
                  rw [exec_call_builtin]
                  have hm : (#[p, q].map a.eval : Array Value) = #[a.eval p, a.eval q] := by simp
                  have ht0 : tys[0]? = some st := by
                    have : tys[0]? = tys.toList[0]? := by simp
                    rw [this, ht]; rfl
                  have n5 := n4 W.drawn (min es.length len) (Nat.min_le_left _ _)
                  rw [hm, e1]
                  have hlo : (lenOf (.slice (some ⟨k.blk, k.sh + off, none⟩) len c1)).run P W = .ok len W := by simp [lenOf]
                  simp only [builtin, Sem.run_bind, copy_, ht0, List.getElem?_toArray, List.getElem?_cons_zero, List.getElem?_cons_succ, run_und hT h3, hd, Result.andThen_ok, n3, hlo, Sem.run_pure, run_size hT he]
                  rw [show Nat.min es.length len = min es.length len from rfl, n5]
                  simp only [Result.andThen_ok, Sem.run_bind, w1, Sem.run_pure]
                  rfl
                · cases h
            · rename_i l
              rw [beq_if] at h
              split at h
              · rename_i hs1
                split at h
                · rename_i H2 hwr
                  cases h
                  obtain ⟨k, c1, hk, e1, _⟩ := (opd_rel hf h1).of_slc
                  have e2 := (opd_rel hf h2).of_str
                  have hcsr : VRs β ((l.take len).map fun b => .lit (.int .u8 b.toNat)) ((l.take len).map fun b => Value.int .u8 b.toNat) := by
                    generalize l.take len = l'
                    induction l' with
                    | nil => exact .nil
                    | cons b l' ih => exact .cons _ _ _ _ (.lit _) ih
                  obtain ⟨W', w1, w2⟩ := wr_rel hw (P := P) hwr hk hcsr
                  refine ⟨_, W', ⟨β, Env.le.refl _, fun _ _ => rfl, w2, Nat.le_refl _, VR.lit _⟩, fun dst ty pos after guard => .inl ?_⟩
                  rw [exec_call_builtin]
                  have hm : (#[p, q].map a.eval : Array Value) = #[a.eval p, a.eval q] := by simp
                  have ht0 : tys[0]? = some st := by
                    have : tys[0]? = tys.toList[0]? := by simp
                    rw [this, ht]; rfl
                  rw [hm, e1, e2]
                  simp only [builtin, Sem.run_bind, copy_, ht0, List.getElem?_toArray, List.getElem?_cons_zero, List.getElem?_cons_succ, run_und hT h3, hd, Result.andThen_ok, lenOf, Sem.run_pure, run_size hT he, firstCells, str_size]
                  have hx : ((⟨l.toArray⟩ : ByteArray).extract 0 (Nat.min l.length len)) = ⟨(l.take len).toArray⟩ := by
                    rw [extract_str]; simp only [List.drop_zero]
                    congr 2
                    rw [List.take_eq_take_iff]; show min (min l.length len) _ = _; omega
                  rw [hx]
                  have hy : (Array.map (fun b => Value.int IntKind.u8 ↑b.toNat) (⟨(List.take len l).toArray⟩ : ByteArray).data).toList = (l.take len).map fun b => Value.int .u8 b.toNat := by simp
                  rw [hy, w1]
                  rfl
                · cases h
              · cases h
            · cases h
          · cases h
        · cases h
      · cases h
    · cases h
  · cases ‹Callee.builtin Builtin.copy = _›
  · cases h

end
end Go.Proofs.Ytbcecenneganeaa.Ev
