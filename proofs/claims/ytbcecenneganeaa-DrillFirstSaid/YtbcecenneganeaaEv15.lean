import Derived.Test.YtbcecenneganeaaEv14
set_option linter.all false
namespace Go.Proofs.Ytbcecenneganeaa.Ev
open Go.RowKit Go.Builtin

/-- Cells are put behind a slice's head, if it has one. -/
def PutAt (P : Program) (W W' : World) (base : Option Addr) (k : Nat) (new : List Value) : Prop :=
  match base with
  | none => W' = W
  | some a => (storeCells (a.add k) new).run P W = .ok () W'

theorem run_append_in {P : Program} {T : Tab} (hT : TOk P T) {st xt e : Nat} {si xi ei : TI} (h1 : T.t st = some si) (hd : si.desc = .slice e) (he : T.t e = some ei) (hx : T.t xt = some xi) (hnz : (xi.desc matches .int _) = false)
    {W W' : World} {base : Option Addr} {sLen sCap n : Nat} {x : Value} {new : Array Value} (hl : ∀ w, (lenOf x).run P w = .ok n w) (hnew : (firstCells ei.size n x).run P W = .ok new W) (hle : sLen + n ≤ sCap)
    (hst : PutAt P W W' base (sLen * ei.size) new.toList) (ty : TypeId) :
    (append_ #[st, xt] ty #[.slice base sLen sCap, x]).run P W = .ok (.slice base (sLen + n) sCap) W' := by
  unfold append_
  simp only [List.getElem?_toArray, List.getElem?_cons_zero, List.getElem?_cons_succ, Sem.run_bind, run_und hT h1, hd, Result.andThen_ok, run_size hT he, run_und hT hx, Sem.run_pure, hl]
  split
  · rename_i hh
    exfalso; rw [hh] at hnz; simp at hnz
  rename_i hneg
  simp only [Bool.false_eq_true, if_false, Sem.run_bind, hl, Result.andThen_ok, false_or]
  rw [if_pos hle]
  simp only [Sem.run_bind, Bool.not_false, if_true, hnew, Result.andThen_ok]
  cases base with
  | none => simp only [PutAt] at hst; subst hst; simp
  | some ad => simp only [PutAt] at hst; simp only [Sem.run_bind, hst, Result.andThen_ok, Sem.run_pure]

theorem nextcap_le (need c : Nat) (h : c < need) : nextslicecap need c ≤ 4 * need + 4000 := by
  unfold nextslicecap
  split
  · omega
  · split
    · omega
    · simp only [growBy]
      repeat' split
      all_goals omega

theorem run_append_out {P : Program} {T : Tab} (hT : TOk P T) {st xt e : Nat} {si xi ei : TI} (h1 : T.t st = some si) (hd : si.desc = .slice e) (he : T.t e = some ei) (hx : T.t xt = some xi) (hnz : (xi.desc matches .int _) = false)
    {W : World} {base : Option Addr} {sLen sCap n : Nat} {x : Value} {new old : Array Value} {z : Value} (hz : ∀ w, (zeroValue e).run P w = .ok z w) (hl : ∀ w, (lenOf x).run P w = .ok n w) (hnew : ∀ d, (firstCells ei.size n x).run P { W with drawn := d } = .ok new { W with drawn := d })
    (hold : ∀ d, (firstCells ei.size sLen (.slice base sLen sCap)).run P { W with drawn := d } = .ok old { W with drawn := d }) (hgt : ¬ sLen + n ≤ sCap) (hb : 0 < ei.bytes) (hroom : (4 * (sLen + n) + 4000) * ei.bytes ≤ 2 ^ 48) (ty : TypeId) :
    ∃ c, sLen + n ≤ c ∧ (append_ #[st, xt] ty #[.slice base sLen sCap, x]).run P W = .ok (.slice (some ⟨W.heap.size, 0, none⟩) (sLen + n) c) (({ W with drawn := W.drawn + 1 } : World).alloc (.cells (old ++ new ++ zeroCells z.cells (c - (sLen + n))) e)) := by
  obtain ⟨inf, hinf, hby⟩ : ∃ inf, (∀ w, (typeInfo e).run P w = .ok inf w) ∧ inf.bytes = ei.bytes := by
    obtain ⟨inf, q1, _, q3, _⟩ := (hT.ty e ei he).2.1
    exact ⟨inf, fun w => by simp [typeInfo, q1], q3⟩
  have c1 : ¬ (((sLen + n : Nat) : Int) > IntKind.i64.max ∧ (false = true ∨ inf.bytes = 0)) := by rw [hby]; rintro ⟨_, h | h⟩; cases h; omega
  have c2 : ¬ (nextslicecap (sLen + n) sCap * inf.bytes > 2 ^ 48) := by
    rw [hby]
    have := nextcap_le (sLen + n) sCap (by omega)
    have := Nat.mul_le_mul_right ei.bytes this
    omega
  refine ⟨(Question.appendCap (sLen + n) sCap e).cut (W.tape W.drawn (.appendCap (sLen + n) sCap e)), ?_, ?_⟩
  · simp [Question.cut]
  unfold append_
  simp only [List.getElem?_toArray, List.getElem?_cons_zero, List.getElem?_cons_succ, Sem.run_bind, run_und hT h1, hd, Result.andThen_ok, run_size hT he, run_und hT hx, Sem.run_pure, hl]
  split
  · rename_i hh
    exfalso; rw [hh] at hnz; simp at hnz
  rename_i hneg
  simp only [Bool.false_eq_true, if_false, Sem.run_bind, hl, Result.andThen_ok, false_or]
  rw [if_neg hgt]
  simp only [Sem.run_bind, hinf, Result.andThen_ok]
  rw [if_neg (by simpa using c1)]
  simp only [pure_bind, Sem.run_bind, hinf, Result.andThen_ok]
  rw [if_neg c2]
  simp only [pure_bind, Sem.run_bind, run_choose, Question.forced, Bool.false_eq_true, if_false, Result.andThen_ok, hinf, run_askRoom, hold, hnew, hz, Sem.run_pure, Bool.not_false, if_true, run_newRow]
theorem run_appendZ_in {P : Program} {T : Tab} (hT : TOk P T) {st xt e : Nat} {si xi ei : TI} {kk : IntKind} (h1 : T.t st = some si) (hd : si.desc = .slice e) (he : T.t e = some ei) (hx : T.t xt = some xi) (hnz : xi.desc = .int kk)
    {W W' : World} {base : Option Addr} {sLen sCap : Nat} {m : Int} {z : Value} (hz : ∀ w, (zeroValue e).run P w = .ok z w) (hm : 0 ≤ m) (hm2 : m ≤ 1000000) (hby : m * ei.bytes ≤ 2 ^ 48) (hpos : m.toNat * ei.size ≠ 0) (hle : sLen + m.toNat ≤ sCap)
    (hst : PutAt P W W' base (sLen * ei.size) (zeroCells z.cells m.toNat).toList) (ty : TypeId) :
    (append_ #[st, xt] ty #[.slice base sLen sCap, .int .i64 m]).run P W = .ok (.slice base (sLen + m.toNat) sCap) W' := by
  obtain ⟨inf, hinf, hbi⟩ : ∃ inf, (∀ w, (typeInfo e).run P w = .ok inf w) ∧ inf.bytes = ei.bytes := by
    obtain ⟨inf, q1, _, q3, _⟩ := (hT.ty e ei he).2.1
    exact ⟨inf, fun w => by simp [typeInfo, q1], q3⟩
  have w2 : IntKind.i64.wrap m = m := by rw [IntKind.wrap_i64]; omega
  have n1 : ¬ m < 0 := by omega
  have n2 : ¬ (m * (inf.bytes : Int) > 2 ^ 48) := by rw [hbi]; omega
  unfold append_
  simp only [List.getElem?_toArray, List.getElem?_cons_zero, List.getElem?_cons_succ, Sem.run_bind, run_und hT h1, hd, Result.andThen_ok, run_size hT he, run_und hT hx, Sem.run_pure, hnz]
  simp only [if_true, Sem.run_bind, asInt, asIntOf, Sem.run_pure, Result.andThen_ok, w2, n1, if_false, hinf, n2, pure_bind]
  rw [if_pos hle]
  simp only [Sem.run_bind, Bool.not_true, Bool.false_eq_true, if_false, hpos, hz, Sem.run_pure, Result.andThen_ok]
  cases base with
  | none => simp only [PutAt] at hst; subst hst; simp
  | some ad => simp only [PutAt] at hst; simp only [Sem.run_bind, hst, Result.andThen_ok, Sem.run_pure]

theorem run_appendZ_out {P : Program} {T : Tab} (hT : TOk P T) {st xt e : Nat} {si xi ei : TI} {kk : IntKind} (h1 : T.t st = some si) (hd : si.desc = .slice e) (he : T.t e = some ei) (hx : T.t xt = some xi) (hnz : xi.desc = .int kk)
    {W : World} {base : Option Addr} {sLen sCap : Nat} {m : Int} {old : Array Value} {z : Value} (hz : ∀ w, (zeroValue e).run P w = .ok z w) (hm : 0 ≤ m) (hm2 : m ≤ 1000000) (hby : m * ei.bytes ≤ 2 ^ 48) (hpos : m.toNat * ei.size ≠ 0)
    (hold : ∀ d, (firstCells ei.size sLen (.slice base sLen sCap)).run P { W with drawn := d } = .ok old { W with drawn := d }) (hgt : ¬ sLen + m.toNat ≤ sCap) (hb : 0 < ei.bytes) (hroom : (4 * (sLen + m.toNat) + 4000) * ei.bytes ≤ 2 ^ 48) (ty : TypeId) :
    ∃ c, sLen + m.toNat ≤ c ∧ (append_ #[st, xt] ty #[.slice base sLen sCap, .int .i64 m]).run P W = .ok (.slice (some ⟨W.heap.size, 0, none⟩) (sLen + m.toNat) c) (({ W with drawn := W.drawn + 1 } : World).alloc (.cells (old ++ zeroCells z.cells m.toNat ++ zeroCells z.cells (c - (sLen + m.toNat))) e)) := by
  obtain ⟨inf, hinf, hbi⟩ : ∃ inf, (∀ w, (typeInfo e).run P w = .ok inf w) ∧ inf.bytes = ei.bytes := by
    obtain ⟨inf, q1, _, q3, _⟩ := (hT.ty e ei he).2.1
    exact ⟨inf, fun w => by simp [typeInfo, q1], q3⟩
  have w2 : IntKind.i64.wrap m = m := by rw [IntKind.wrap_i64]; omega
  have n1 : ¬ m < 0 := by omega
  have n2 : ¬ (m * (inf.bytes : Int) > 2 ^ 48) := by rw [hbi]; omega
  have hmul : sLen + m.toNat ≤ (4 * (sLen + m.toNat) + 4000) * ei.bytes := by
    have := Nat.le_mul_of_pos_right (4 * (sLen + m.toNat) + 4000) hb
    omega
  have c1 : ¬ (((sLen + m.toNat : Nat) : Int) > IntKind.i64.max) := by
    simp only [IntKind.max, IntKind.signed, IntKind.bits]; simp; omega
  have c2 : ¬ (nextslicecap (sLen + m.toNat) sCap * inf.bytes > 2 ^ 48) := by
    rw [hbi]
    have := nextcap_le (sLen + m.toNat) sCap (by omega)
    have := Nat.mul_le_mul_right ei.bytes this
    omega
  refine ⟨(Question.appendCap (sLen + m.toNat) sCap e).cut (W.tape W.drawn (.appendCap (sLen + m.toNat) sCap e)), ?_, ?_⟩
  · simp [Question.cut]
  unfold append_
  simp only [List.getElem?_toArray, List.getElem?_cons_zero, List.getElem?_cons_succ, Sem.run_bind, run_und hT h1, hd, Result.andThen_ok, run_size hT he, run_und hT hx, Sem.run_pure, hnz]
  simp only [if_true, Sem.run_bind, asInt, asIntOf, Sem.run_pure, Result.andThen_ok, w2, n1, if_false, hinf, n2, pure_bind]
  rw [if_neg hgt]
  simp only [Sem.run_bind, hinf, Result.andThen_ok]
  rw [if_neg (by simpa using c1)]
  simp only [pure_bind, Sem.run_bind, hinf, Result.andThen_ok]
  rw [if_neg c2]
  simp only [pure_bind, Sem.run_bind, run_choose, Question.forced, Bool.false_eq_true, if_false, Result.andThen_ok, hinf, run_askRoom, hold, hz, Sem.run_pure, Bool.not_true, hpos, run_newRow]

end Go.Proofs.Ytbcecenneganeaa.Ev
