import Derived.Test.YtbcecenneganeaaEv4
import Derived.OrdersIn
import Derived.Laws.Strings
import Derived.Laws.StructEq
set_option linter.all false
namespace Go.Proofs.Ytbcecenneganeaa.Ev
open Go.RowKit

structure TOk (P : Program) (T : Tab) : Prop where
  ty : ∀ t i, T.t t = some i → P.underlying t = some i.desc ∧ (∃ inf, P.info? t = some inf ∧ inf.size = i.size ∧ inf.bytes = i.bytes ∧ ∃ z, inf.zero = some z ∧ ∀ β, VR β i.zero z) ∧
    (i.plain = true → P.stoodInHeld t = false ∧ P.eqGuardType P.depth t = false)
  fn : ∀ f i, T.f f = some i → ∃ fn, P.funcs[f]? = some fn ∧ fn.body = some i.body ∧ fn.ntmps = i.ntmps ∧ fn.results.toList = i.results ∧ fn.name ≠ "runtime.NumGoroutine"
  mixed : P.follows .mixedOrders = true
  cmp : ∀ t i, T.t t = some i → i.comp = true → ∀ inf, P.info? t = some inf → inf.comparable = true

/-- The temporaries of an activation. -/
structure FR (β : Env) (s : AS) (a : Act) : Prop where
  size : a.tmps.size = s.nt
  get : ∀ i, i < s.nt → VR β (s.tmps.get .any i) (a.tmps.getD i undef)

theorem FR.mono {β β' : Env} (h : β.le β') {s : AS} {a : Act} (hf : FR β s a) : FR β' s a := ⟨hf.size, fun i hi => (hf.get i hi).mono h⟩

theorem VR.scal (β : Env) (v : Value) : VR β (scal v) v := by
  cases v with
  | string b => exact VR.str b.data.toList
  | _ => exact VR.lit _

theorem VRs.scal (β : Env) : ∀ (l : List Value), VRs β (l.map scal) l
  | [] => .nil
  | v :: l => .cons _ _ _ _ (VR.scal β v) (VRs.scal β l)

theorem VR.const (β : Env) (v : Value) : VR β (ofConst v) v := by
  cases v with
  | agg cs => exact VR.agg _ cs.toList (VRs.scal β _)
  | string b => exact VR.scal β (.string b)
  | _ => exact VR.lit _

theorem udef_rel (β : Env) : VR β udef undef := VR.tup [] [] .nil

theorem opd_rel {β : Env} {s : AS} {a : Act} (h : FR β s a) {x : Operand} {v : AV} (hx : opd s x = some v) : VR β v (a.eval x) := by
  cases x with
  | tmp t =>
    simp only [opd] at hx
    cases hb : Nat.blt t s.nt with
    | false => rw [hb] at hx; cases hx
    | true =>
      rw [hb, cond_true] at hx; cases hx
      exact h.get t (by simpa [Nat.blt_eq] using hb)
  | const c => simp only [opd] at hx; cases hx; exact VR.const β c
  | func f => simp only [opd] at hx; cases hx; exact VR.fn (.func f) [] [] [] [] .nil .nil
  | global g => simp [opd] at hx

theorem opds_rel {β : Env} {s : AS} {a : Act} (h : FR β s a) : ∀ {l : List Operand} {vs : List AV}, opds s l = some vs → VRs β vs (l.map a.eval)
  | [], vs, hx => by simp [opds] at hx; subst hx; exact .nil
  | x :: l, vs, hx => by
    simp only [opds] at hx
    cases h1 : opd s x with
    | none => simp [h1] at hx
    | some v =>
      cases h2 : opds s l with
      | none => simp [h1, h2] at hx
      | some ws =>
        simp [h1, h2] at hx; subst hx
        exact .cons _ _ _ _ (opd_rel h h1) (opds_rel h h2)

/-! ### Types, as the model asks them -/
section types
variable {P : Program} {T : Tab} (hT : TOk P T) {t : Nat} {i : TI} (h : T.t t = some i) (W : World)
include hT h

theorem run_und : (underlying t).run P W = .ok i.desc W := by simp [underlying, (hT.ty t i h).1]
theorem run_size : (sizeOf t).run P W = .ok i.size W := by
  obtain ⟨inf, h1, h2, _⟩ := (hT.ty t i h).2.1
  simp [sizeOf, typeInfo, h1, h2]
theorem run_info : ∃ inf, (typeInfo t).run P W = .ok inf W ∧ inf.bytes = i.bytes := by
  obtain ⟨inf, h1, _, h3, _⟩ := (hT.ty t i h).2.1
  exact ⟨inf, by simp [typeInfo, h1], h3⟩
theorem run_zero : ∃ z, (zeroValue t).run P W = .ok z W ∧ ∀ β, VR β i.zero z := by
  obtain ⟨inf, h1, _, _, z, hz, hr⟩ := (hT.ty t i h).2.1
  exact ⟨z, by simp [zeroValue, typeInfo, h1, hz], hr⟩
theorem run_isAgg : (isAgg t).run P W = .ok (isAggD i.desc) W := by
  unfold isAgg
  rw [Sem.run_bind, run_und hT h]
  simp only [Result.andThen_ok]
  cases i.desc <;> rfl
end types

/-- What a pure operation does: it yields v, in whatever world. -/
def Yl (P : Program) (a : Act) (op : Op) (v : Value) : Prop :=
  ∀ (dst : Option Tmp) (ty : TypeId) (pos : String) (after : Array Edge) (guard : Option (Nat × Bool)) (W : World), (execOp a.eval ⟨dst, op, ty, pos, after, guard⟩).run P W = .ok (.value v) W

theorem Yl.of {P : Program} {a : Act} {op : Op} {v : Value} {m : Sem Value} (h : ∀ (dst : Option Tmp) (ty : TypeId) (pos : String) (after : Array Edge) (guard : Option (Nat × Bool)), execOp a.eval ⟨dst, op, ty, pos, after, guard⟩ = (do pure (.value (← m))))
    (hm : ∀ W, m.run P W = .ok v W) : Yl P a op v := fun dst ty pos after guard W => by rw [h, Sem.run_bind, hm]; rfl

theorem VR.of_int {β : Env} {k : IntKind} {n : Int} {v : Value} (h : VR β (.lit (.int k n)) v) : v = .int k n := by cases h; rfl
theorem VR.of_lit {β : Env} {u v : Value} (h : VR β (.lit u) v) : v = u := by cases h; rfl
theorem VR.of_str {β : Env} {l : List UInt8} {v : Value} (h : VR β (.str l) v) : v = .string ⟨l.toArray⟩ := by cases h; rfl
theorem VR.of_agg {β : Env} {l : List AV} {v : Value} (h : VR β (.agg l) v) : ∃ x, v = .agg x ∧ VRs β l x.toList := by cases h with | agg _ x hx => exact ⟨_, rfl, by simpa using hx⟩
theorem VR.of_tup {β : Env} {l : List AV} {v : Value} (h : VR β (.tup l) v) : ∃ x, v = .tuple x ∧ VRs β l x.toList := by cases h with | tup _ x hx => exact ⟨_, rfl, by simpa using hx⟩
theorem VR.of_ptr {β : Env} {o off : Nat} {v : Value} (h : VR β (.ptr o off) v) : ∃ k, β.b o = some k ∧ v = .pointer (some ⟨k.blk, k.sh + off, none⟩) := by cases h with | ptr _ _ k hk => exact ⟨k, hk, rfl⟩
theorem VR.of_mp {β : Env} {o : Nat} {v : Value} (h : VR β (.mp o) v) : ∃ k, β.b o = some k ∧ v = .map (some k.blk) := by cases h with | mp _ k hk => exact ⟨k, hk, rfl⟩
theorem VR.of_slc {β : Env} {o off len : Nat} {cap : ACap} {v : Value} (h : VR β (.slc o off len cap) v) : ∃ k c, β.b o = some k ∧ v = .slice (some ⟨k.blk, k.sh + off, none⟩) len c ∧
    (∀ n, cap = .ex n → c = n) ∧ (∀ z, cap = .op z → k.esz = z ∧ k.sh + off + c * z = k.sz ∧ len ≤ c) := by
  cases h with
  | slcX _ _ _ c k hk => exact ⟨k, c, hk, rfl, fun n hn => by cases hn; rfl, fun z hn => by cases hn⟩
  | slcO _ _ _ c z k hk hz h1 h2 => exact ⟨k, c, hk, rfl, fun n hn => (by cases hn), fun z' hn => by cases hn; exact ⟨hz, h1, h2⟩⟩

theorem VR.of_eptr {β : Env} {cs : List AV} {v : Value} (h : VR β (.eptr cs) v) : ∃ vs b o, v = .pointer (some ⟨b, o, none⟩) ∧ VRs β cs vs ∧ ∀ (i : Nat) v, vs[i]? = some v → β.fz b (o + i) = some v := by
  cases h with | eptr _ vs b o h hv => exact ⟨vs, b, o, rfl, h, hv⟩
theorem VR.of_lst {β : Env} {tk : ATk} {es : List AV} {v : Value} (h : VR β (.lst tk es) v) :
    (es = [] ∧ v = .slice none 0 0) ∨ (es = [] ∧ ∃ a c, v = .slice (some a) 0 c ∧ (tk = .full → c = 0) ∧ ∀ o, tk ≠ .room o) ∨
    (∃ sz vs b o c, v = .slice (some ⟨b, o, none⟩) es.length c ∧ VRs β (es.flatMap AV.cells) vs ∧ (∀ e ∈ es, e.cells.length = sz) ∧ 0 < sz ∧ (∀ (i : Nat) v, vs[i]? = some v → β.fz b (o + i) = some v) ∧ es.length ≤ c ∧ TK β tk sz b (o + es.length * sz) (o + c * sz)) := by
  cases h with
  | lstN => exact .inl ⟨rfl, rfl⟩
  | lstE _ a c h1 h2 => exact .inr (.inl ⟨rfl, a, c, rfl, h1, h2⟩)
  | lst _ sz es vs b o c h1 h2 h3 h4 h5 h6 => exact .inr (.inr ⟨sz, vs, b, o, c, rfl, h1, h2, h3, h4, h5, h6⟩)
theorem VR.len_lst {β : Env} {tk : ATk} {es : List AV} {v : Value} (h : VR β (.lst tk es) v) : ∃ ad c, v = .slice ad es.length c ∧ (tk = .full → c = es.length) := by
  rcases h.of_lst with ⟨rfl, rfl⟩ | ⟨rfl, a, c, rfl, h1, _⟩ | ⟨sz, vs, b, o, c, rfl, _, _, hz, _, _, ht⟩
  · exact ⟨_, _, rfl, fun _ => rfl⟩
  · exact ⟨_, _, rfl, h1⟩
  · refine ⟨_, _, rfl, fun e => ?_⟩
    subst e
    have ht : o + es.length * sz = o + c * sz := ht
    exact (Nat.eq_of_mul_eq_mul_right hz (by omega)).symm

/-- The cells of one element of many. -/
theorem flat_at {sz : Nat} : ∀ {es : List AV} {i : Nat} {e : AV}, (∀ x ∈ es, x.cells.length = sz) → es[i]? = some e → ((es.flatMap AV.cells).drop (i * sz)).take sz = e.cells
  | [], i, e, _, h => by simp at h
  | x :: es, 0, e, hs, h => by
    simp at h; subst h
    have := hs x (by simp)
    simp only [List.flatMap_cons, Nat.zero_mul, List.drop_zero]
    rw [← this, List.take_left]
  | x :: es, i + 1, e, hs, h => by
    simp at h
    have hx := hs x (by simp)
    have := flat_at (fun y hy => hs y (by simp [hy])) h
    rw [List.flatMap_cons, Nat.succ_mul, Nat.add_comm, ← List.drop_drop]
    rw [← hx, List.drop_left, hx]; exact this
theorem flat_len {sz : Nat} : ∀ {es : List AV}, (∀ x ∈ es, x.cells.length = sz) → (es.flatMap AV.cells).length = es.length * sz
  | [], _ => by simp
  | x :: es, hs => by
    rw [List.flatMap_cons, List.length_append, hs x (by simp), flat_len (fun y hy => hs y (by simp [hy])), List.length_cons, Nat.succ_mul, Nat.add_comm]
theorem flat_drop {sz : Nat} : ∀ {es : List AV} {i : Nat}, (∀ x ∈ es, x.cells.length = sz) → (es.flatMap AV.cells).drop (i * sz) = (es.drop i).flatMap AV.cells
  | [], i, _ => by simp
  | x :: es, 0, _ => by simp
  | x :: es, i + 1, hs => by
    have hx := hs x (by simp)
    rw [List.flatMap_cons, Nat.succ_mul, Nat.add_comm, ← List.drop_drop, List.drop_succ_cons]
    rw [← hx, List.drop_left, hx]; exact flat_drop (fun y hy => hs y (by simp [hy]))
theorem flat_take {sz : Nat} : ∀ {es : List AV} {i : Nat}, (∀ x ∈ es, x.cells.length = sz) → (es.flatMap AV.cells).take (i * sz) = (es.take i).flatMap AV.cells
  | [], i, _ => by simp
  | x :: es, 0, _ => by simp
  | x :: es, i + 1, hs => by
    have hx := hs x (by simp)
    rw [List.flatMap_cons, Nat.succ_mul, List.take_succ_cons, List.flatMap_cons, List.take_append, hx, List.take_of_length_le (by omega), show i * sz + sz - sz = i * sz from by omega, flat_take (fun y hy => hs y (by simp [hy]))]
theorem fz_sub {β : Env} {b o : Nat} {vs : List Value} (h : ∀ (i : Nat) v, vs[i]? = some v → β.fz b (o + i) = some v) (k n : Nat) : ∀ (i : Nat) v, ((vs.drop k).take n)[i]? = some v → β.fz b (o + k + i) = some v := fun i v hi => by
  rw [List.getElem?_take] at hi
  split at hi
  · rw [List.getElem?_drop] at hi; rw [Nat.add_assoc]; exact h _ _ hi
  · cases hi
theorem fz_drop {β : Env} {b o : Nat} {vs : List Value} (h : ∀ (i : Nat) v, vs[i]? = some v → β.fz b (o + i) = some v) (k : Nat) : ∀ (i : Nat) v, (vs.drop k)[i]? = some v → β.fz b (o + k + i) = some v := fun i v hi => by
  rw [List.getElem?_drop] at hi; rw [Nat.add_assoc]; exact h _ _ hi
theorem sizeOk_iff {n : Nat} {e : AV} : sizeOk n e = true ↔ e.cells.length = n := by unfold sizeOk; exact ⟨Nat.eq_of_beq_eq_true, fun h => by rw [h]; exact Nat.beq_refl n⟩

theorem str_size (l : List UInt8) : (⟨l.toArray⟩ : ByteArray).size = l.length := by simp [ByteArray.size]

theorem intBin_rel {P : Program} {β : Env} {op : BinOp} {k : IntKind} {a b : Int} {v : AV} (h : intBin op k a b = some v) (hs : op ≠ .shl ∧ op ≠ .shr) (t : TypeId) :
    ∃ v', VR β v v' ∧ ∀ W, (Go.binOp op t (.int k a) (.int k b)).run P W = .ok v' W := by
  cases op <;> simp only [intBin, Option.some.injEq, reduceCtorEq, Bool.cond_decide] at h <;> (try split at h) <;> (try (cases h; done)) <;> (try simp only [Option.some.injEq] at h) <;>
    first
    | exact absurd rfl hs.1
    | exact absurd rfl hs.2
    | (subst h; refine ⟨_, VR.lit _, fun W => ?_⟩; simp [Go.binOp, Op.intArith, Op.intDiv, Op.intBits, Op.intCmp, *]; done)
    | (subst h; refine ⟨_, VR.lit _, fun W => ?_⟩; simp [Go.binOp, Op.intArith, Op.intDiv, Op.intBits, Op.intCmp, *]; first | rfl | (congr 1; rw [Bool.eq_iff_iff]; simp) | (congr 2; rw [Bool.eq_iff_iff]; simp))

theorem shiftBin_rel {P : Program} {β : Env} {op : BinOp} {k k' : IntKind} {a b : Int} {v : AV} (h : shiftBin op k a b = some v) (t : TypeId) :
    ∃ v', VR β v v' ∧ ∀ W, (Go.binOp op t (.int k a) (.int k' b)).run P W = .ok v' W := by
  unfold shiftBin at h
  rw [Bool.cond_decide] at h
  split at h
  · cases h
  · cases op <;> simp only [Option.some.injEq, reduceCtorEq] at h <;> (subst h; refine ⟨_, VR.lit _, fun W => ?_⟩; simp [Go.binOp, Op.shift, *])

theorem strBin_rel {P : Program} {β : Env} {op : BinOp} {a b : List UInt8} {v : AV} (h : strBin op a b = some v) (t : TypeId) :
    ∃ v', VR β v v' ∧ ∀ W, (Go.binOp op t (.string ⟨a.toArray⟩) (.string ⟨b.toArray⟩)).run P W = .ok v' W := by
  cases op <;> simp only [strBin, Option.some.injEq, reduceCtorEq] at h
  case add =>
    cases hb : Nat.ble (a.length + b.length) 9223372036854775807 with
    | false => rw [hb] at h; cases h
    | true =>
      rw [hb, cond_true] at h; cases h
      have hle : a.length + b.length ≤ 9223372036854775807 := by simpa using hb
      refine ⟨_, VR.str _, fun W => ?_⟩
      have hm : ¬ ((((⟨a.toArray⟩ : ByteArray).size + (⟨b.toArray⟩ : ByteArray).size : Nat) : Int) > IntKind.i64.max) := by
        rw [str_size, str_size]; simp [IntKind.max, IntKind.signed, IntKind.bits]; omega
      simp only [Go.binOp, Op.stringOp, if_neg hm, Sem.run_pure]
      congr 2
  all_goals (subst h; refine ⟨_, VR.lit _, fun W => ?_⟩; simp [Go.binOp, Op.stringOp])

theorem part_rel {P : Program} {T : Tab} (hT : TOk P T) {β : Env} {t : Nat} {cs : List AV} {xs : Array Value} {off : Nat} {v : AV} (h : part' T t cs off = some v) (hx : VRs β cs xs.toList) :
    ∃ v', VR β v v' ∧ ∀ W, (part t xs off).run P W = .ok v' W := by
  unfold part' at h
  cases ht : T.t t with
  | none => simp [ht] at h
  | some i =>
    simp only [ht] at h
    cases ha : isAggD i.desc with
    | true =>
      rw [ha, cond_true] at h
      cases hb : Nat.ble (off + i.size) cs.length with
      | false => rw [hb] at h; cases h
      | true =>
        rw [hb, cond_true] at h; cases h
        refine ⟨_, VR.agg _ _ ((hx.drop off).take i.size), fun W => ?_⟩
        simp only [part, Sem.run_bind, run_isAgg hT ht, Result.andThen_ok, ha, if_true, run_size hT ht, Sem.run_pure]
        congr 2
        apply Array.ext'
        simp [List.take_drop, Array.toList_extract]
    | false =>
      rw [ha, cond_false] at h
      obtain ⟨v', hv, hr⟩ := hx.get off v h
      refine ⟨v', hr, fun W => ?_⟩
      have hv' : xs[off]? = some v' := by simpa using hv
      simp only [part, Sem.run_bind, run_isAgg hT ht, Result.andThen_ok, ha, if_false, Bool.false_eq_true, hv', Sem.run_pure]

theorem eqFields_rel {P : Program} {T : Tab} (hT : TOk P T) {β : Env} {rec : Nat → AV → AV → Option Bool} {d : Nat} {xs ys : Array Value}
    (hrec : ∀ (t : Nat) (x y : AV) (b : Bool) (u v : Value), rec t x y = some b → VR β x u → VR β y v → ∀ W, (Op.equalIn d t u v).run P W = .ok b W) {cs ds : List AV} (hx : VRs β cs xs.toList) (hy : VRs β ds ys.toList) :
    ∀ (fs : List Field) (b : Bool), eqFields T rec fs cs ds = some b → ∀ W, (Op.eqFields d xs ys fs).run P W = .ok b W
  | [], b, h, W => by simp only [eqFields, Option.some.injEq] at h; subst h; simp [Op.eqFields]
  | f :: fs, b, h, W => by
    simp only [eqFields, Bool.cond_decide] at h
    rw [Op.eqFields]
    by_cases hn : f.name = "_"
    · rw [if_pos hn] at h
      rw [if_neg (by simpa using hn)]
      exact eqFields_rel hT hrec hx hy fs b h W
    · rw [if_neg hn] at h
      rw [if_pos hn]
      cases h1 : part' T f.type cs f.offset with
      | none => simp [h1] at h
      | some x =>
        cases h2 : part' T f.type ds f.offset with
        | none => simp [h1, h2] at h
        | some y =>
          simp only [h1, h2] at h
          obtain ⟨u, hu, ru⟩ := part_rel hT h1 hx
          obtain ⟨v, hv, rv⟩ := part_rel hT h2 hy
          cases h3 : rec f.type x y with
          | none => simp [h3] at h
          | some c =>
            have he := hrec _ _ _ _ _ _ h3 hu hv
            simp only [Sem.run_bind, ru, rv, he, Result.andThen_ok]
            cases c with
            | true =>
              simp only [h3] at h
              simpa using eqFields_rel hT hrec hx hy fs b h W
            | false => simp only [h3, Option.some.injEq] at h; subst h; simp

theorem eqv_rel {P : Program} {T : Tab} (hT : TOk P T) {β : Env} : ∀ (n d t : Nat) (x y : AV) (b : Bool) (u v : Value), d ≤ n → eqv T d t x y = some b → VR β x u → VR β y v → ∀ W, (Op.equalIn n t u v).run P W = .ok b W
  | n, 0, _, _, _, _, _, _, _, h, _, _, _ => by simp [eqv] at h
  | 0, d + 1, _, _, _, _, _, _, hd, _, _, _, _ => by omega
  | n + 1, d + 1, t, x, y, b, u, v, hd, h, hu, hv, W => by
    have ih := eqv_rel hT (β := β) n d
    unfold eqv at h
    cases ht : T.t t with
    | none => simp [ht] at h
    | some i =>
      simp only [ht] at h
      have hun := run_und hT ht
      split at h
      case h_21 =>
        rename_i fs xs ys hdesc
        cases hp : i.plain with
        | false => rw [hp] at h; cases h
        | true =>
          rw [hp, cond_true] at h
          obtain ⟨X, rfl, hX⟩ := hu.of_agg
          obtain ⟨Y, rfl, hY⟩ := hv.of_agg
          have hst := ((hT.ty t i ht).2.2 hp).1
          have hu' : P.underlying t = some (.struct fs) := by rw [(hT.ty t i ht).1, hdesc]
          have hf : P.fieldsOf t = fs := by simp [Program.fieldsOf, hu']
          rw [run_equalIn_struct (P := P) W n t X Y (by rw [hf]; exact hu') hst, hf]
          exact eqFields_rel hT (fun t x y b u v h1 h2 h3 W => ih t x y b u v (by omega) h1 h2 h3 W) hX hY _ _ h W
      all_goals (try (cases h; done))
      all_goals (rename_i hdesc; first | rw [hdesc] at hun | skip)
      all_goals (first | (have hu' := hu.of_str; subst hu') | (have hu' := hu.of_lit; subst hu') | (obtain ⟨_, _, rfl⟩ := hu.of_ptr) | (obtain ⟨_, _, _, rfl, _⟩ := hu.of_slc) | (obtain ⟨_, _, rfl⟩ := hu.of_mp) | cases hu)
      all_goals (first | (have hv' := hv.of_str; subst hv') | (have hv' := hv.of_lit; subst hv') | (obtain ⟨_, _, rfl⟩ := hv.of_ptr) | (obtain ⟨_, _, _, rfl, _⟩ := hv.of_slc) | (obtain ⟨_, _, rfl⟩ := hv.of_mp) | cases hv)
      all_goals (try rw [Bool.cond_decide] at h)
      all_goals (try split at h)
      all_goals (try (cases h; done))
      all_goals (try simp only [Option.some.injEq] at h)
      all_goals (try subst h)
      all_goals (simp only [Op.equalIn, Sem.run_bind, hun, Result.andThen_ok]; first | rfl | (rw [if_pos (by assumption)]; rfl) | (rw [beq_toListBytes]; simp; done) | (simp [*]; done))


end Go.Proofs.Ytbcecenneganeaa.Ev
