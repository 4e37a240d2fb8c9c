import Derived.Test.YtpehpccahbofiaaXN
set_option linter.all false
set_option maxRecDepth 100000
set_option maxHeartbeats 4000000
namespace Go.Proofs.Ytpehpccahbofiaa.Ev
open Go Go.Proofs.Ytpehpccahbofiaa.Ev Go.Proofs Go.Proofs.Ytpehpccahbofiaa Go.Proofs.Ytpehpccahbofiaa.Tab

theorem call51 {m : Md} {r : Rl} {x : List UInt8} {H : Tr AO} {hs : Nat} : callF tab (evw tab) m 51 [.agg [.str r.n, .lst .no (r.l.map encE)], .eptr [.str x]] H hs = some (.lit (.bool (r.n == x)), H.put .dead hs (.cells [.str r.n, .lst .no (r.l.map encE)] false), hs + 1) := by
  rw [callF_in (fi := fi51) tcon rfl rfl rfl]
  simp only [stA, stM, stH, stQ, stE, stC, xI, xF, Nat.reduceLT, Nat.reduceEqDiff, reduceCtorEq, Nat.reduceAdd, Nat.reduceSub, Nat.reduceMul, Nat.max_def, reduceIte, Nat.reduceLeDiff, Nat.reduceBEq, Int.reduceEq, Int.reduceLE, Int.reduceLT, Int.reduceNeg, Int.reduceToNat, x51, stU, b51, Try.f51]
def fidx : List Rl → List UInt8 → Nat → Int
  | [], _, _ => -1
  | r :: l, x, i => bif r.n == x then (i : Int) else fidx l x (i + 1)
theorem fidx_spec : ∀ {l : List Rl} {x : List UInt8} {i : Nat}, (fidx l x i = -1 ∧ ofL l x = []) ∨ ∃ j r, fidx l x i = ((i + j : Nat) : Int) ∧ l[j]? = some r ∧ ofL l x = r.l
  | [], x, i => .inl ⟨rfl, rfl⟩
  | r :: l, x, i => by
    unfold fidx ofL
    rw [List.find?_cons]
    cases h : r.n == x with
    | true => exact .inr ⟨0, r, by simp, rfl, rfl⟩
    | false =>
      rcases fidx_spec (l := l) (x := x) (i := i + 1) with ⟨h1, h2⟩ | ⟨j, r', h1, h2, h3⟩
      · exact .inl ⟨h1, h2⟩
      · exact .inr ⟨j + 1, r', by rw [cond_false, h1]; congr 1; omega, by simpa using h2, h3⟩
theorem loop50 {l : List Rl} {x : List UInt8} {gl : Tr (Option AV)} (hl : l.length < 1000000) : ∀ (k i : Nat) (t : Tr AV) (H : Tr AO) (hs : Nat), i + k = l.length →
    t.get .any 0 = .lst .no (l.map encL) → t.get .any 1 = .fn (.func 51) [] [.eptr [.str x]] → t.get .any 7 = .lit (.int .i64 l.length) → t.get .any 8 = .lit (.int .i64 i) →
    RetO tab fi50 (W tab none (fin tab fi50) (lpc fi50 0) (lpk fi50 0) ⟨t, 19, H, hs, [], ⟨true, true, gl⟩⟩) (.lit (.int .i64 (fidx (l.drop i) x i))) := by
  simp only [stU, stC, b50, Try.f50]
  intro k
  induction k with
  | zero =>
    intro i t H hs hi a0 a1 a7 a8
    have e1 : decide ((i : Int) < (l).length) = false := by rw [decide_eq_false_iff_not]; omega
    rw [W_loop, List.drop_of_length_le (by omega)]
    simp only [stA, stM, stH, stQ, stE, stC, xI, xF, Nat.reduceLT, Nat.reduceEqDiff, reduceCtorEq, Nat.reduceAdd, Nat.reduceSub, Nat.reduceMul, Nat.max_def, reduceIte, Nat.reduceLeDiff, Nat.reduceBEq, Int.reduceEq, Int.reduceLE, Int.reduceLT, Int.reduceNeg, Int.reduceToNat, x50, stU, b50, Try.f50, a0, a1, a7, a8, e1, List.length_map]
    rfl
  | succ k ih =>
    intro i t H hs hi a0 a1 a7 a8
    have hlt : i < (l).length := by omega
    have e1 : decide ((i : Int) < (l).length) = true := by rw [decide_eq_true_iff]; omega
    have e3 : decide (0 ≤ (i : Int)) = true := by rw [decide_eq_true_iff]; omega
    have e4 : (l)[i]? = some (l)[i] := List.getElem?_eq_getElem _
    have e6 : (l).drop i = (l)[i] :: (l).drop (i + 1) := List.drop_eq_getElem_cons hlt
    have e7 : (l).take (i + 1) = (l).take i ++ [(l)[i]] := List.take_succ_eq_append_getElem hlt
    generalize hv : (l)[i] = r at e4 e6 e7
    have e5 := wrap_succ (i := i) (by omega)
    rw [W_loop, e6, fidx]
    have hC := fun m H hs => @call51 m r x H hs
    cases h1 : r.n == x with
    | true =>
      simp only [h1] at hC
      simp only [stA, stM, stH, stQ, stE, stC, xI, xF, Nat.reduceLT, Nat.reduceEqDiff, reduceCtorEq, Nat.reduceAdd, Nat.reduceSub, Nat.reduceMul, Nat.max_def, reduceIte, Nat.reduceLeDiff, Nat.reduceBEq, Int.reduceEq, Int.reduceLE, Int.reduceLT, Int.reduceNeg, Int.reduceToNat, x50, stU, b50, Try.f50, encL, a0, a1, a7, a8, e1, e3, e4, e5, List.getElem?_map, List.length_map, Int.toNat_natCast, hC]
      rfl
    | false =>
      simp only [h1] at hC
      simp only [stA, stM, stH, stQ, stE, stC, xI, xF, Nat.reduceLT, Nat.reduceEqDiff, reduceCtorEq, Nat.reduceAdd, Nat.reduceSub, Nat.reduceMul, Nat.max_def, reduceIte, Nat.reduceLeDiff, Nat.reduceBEq, Int.reduceEq, Int.reduceLE, Int.reduceLT, Int.reduceNeg, Int.reduceToNat, x50, stU, b50, Try.f50, encL, a0, a1, a7, a8, e1, e3, e4, e5, List.getElem?_map, List.length_map, Int.toNat_natCast, hC]
      apply ih (i + 1) _ _ _ (by omega)
      all_goals simp only [stA, stM, stH, stQ, stE, stC, xI, xF, Nat.reduceLT, Nat.reduceEqDiff, reduceCtorEq, Nat.reduceAdd, Nat.reduceSub, Nat.reduceMul, Nat.max_def, reduceIte, Nat.reduceLeDiff, Nat.reduceBEq, Int.reduceEq, Int.reduceLE, Int.reduceLT, Int.reduceNeg, Int.reduceToNat, a0, a1, a7, a8]
theorem eq50 {m : Md} {l : List Rl} {x : List UInt8} (hl : l.length < 1000000) : isoO (evw tab) tab fi50 m [.lst .no (l.map encL), .fn (.func 51) [] [.eptr [.str x]]] = some (.lit (.int .i64 (fidx l x 0))) := by
  refine own_ret ?_
  have L := @loop50 l x m.gl hl l.length 0
  simp only [stU, stC, b50, Try.f50] at L
  simp only [stA, stM, stH, stQ, stE, stC, xI, xF, Nat.reduceLT, Nat.reduceEqDiff, reduceCtorEq, Nat.reduceAdd, Nat.reduceSub, Nat.reduceMul, Nat.max_def, reduceIte, Nat.reduceLeDiff, Nat.reduceBEq, Int.reduceEq, Int.reduceLE, Int.reduceLT, Int.reduceNeg, Int.reduceToNat, x50, stU, b50, Try.f50, List.length_map]
  apply L
  · simp
  all_goals first | (simp only [stA, stM, stH, stQ, stE, stC, xI, xF, Nat.reduceLT, Nat.reduceEqDiff, reduceCtorEq, Nat.reduceAdd, Nat.reduceSub, Nat.reduceMul, Nat.max_def, reduceIte, Nat.reduceLeDiff, Nat.reduceBEq, Int.reduceEq, Int.reduceLE, Int.reduceLT, Int.reduceNeg, Int.reduceToNat]; done) | (simp only [stA, stM, stH, stQ, stE, stC, xI, xF, Nat.reduceLT, Nat.reduceEqDiff, reduceCtorEq, Nat.reduceAdd, Nat.reduceSub, Nat.reduceMul, Nat.max_def, reduceIte, Nat.reduceLeDiff, Nat.reduceBEq, Int.reduceEq, Int.reduceLE, Int.reduceLT, Int.reduceNeg, Int.reduceToNat]; rfl)
theorem eq23 {m : Md} {l : List Rl} {x : List UInt8} (hl : l.length < 1000000) : iso tab fi23 m [.lst .no (l.map encL), .str x] = some (.lst .no ((ofL l x).map encE)) := by
  refine iso_ret ?_
  have hC : ∀ (m : Md) (H : Tr AO) (hs o : Nat), H.get .dead o = .cells [.str x] false → callF tab (evw tab) m 50 [.lst .no (l.map encL), .fn (.func 51) [] [.ptr o 0]] H hs = some (.lit (.int .i64 (fidx l x 0)), H, hs) := by
    intro m H hs o h0
    have h1 : frz tab 30 100 (.fn (.func 51) [] [.ptr o 0]) H = some (.fn (.func 51) [] [.eptr [.str x]], H.put .dead o (.cells [.str x] true)) := by
      refine frz_fn (fi := fi51) (d := 29) rfl ?_ rfl
      have hp : frz tab 29 1000009 (.ptr o 0) H = some (.eptr [.str x], H.put .dead o (.cells [.str x] true)) :=
        frz_ptr (d := 27) (e := 9) (l := [.str x]) (by rfl) tt9 h0 (by unfold rd; rw [h0]; rfl) (by rfl) rfl
      show frzL (frz tab 29) [1000009] [.ptr o 0] H = _
      simp only [frzL, hp]
    refine callF_own (H1 := H.put .dead o (.cells [.str x] true)) tcon rfl rfl rfl (bs := [.lst .no (l.map encL), .fn (.func 51) [] [.eptr [.str x]]]) ?_ (by simp only [stA, stM, stH, stQ, stE, stC, xI, xF, Nat.reduceLT, Nat.reduceEqDiff, reduceCtorEq, Nat.reduceAdd, Nat.reduceSub, Nat.reduceMul, Nat.max_def, reduceIte, Nat.reduceLeDiff, Nat.reduceBEq, Int.reduceEq, Int.reduceLE, Int.reduceLT, Int.reduceNeg, Int.reduceToNat, dBN]) (by have := @eq50 m l x hl; simp only [stA, stM, stH, stQ, stE, stC, xI, xF, Nat.reduceLT, Nat.reduceEqDiff, reduceCtorEq, Nat.reduceAdd, Nat.reduceSub, Nat.reduceMul, Nat.max_def, reduceIte, Nat.reduceLeDiff, Nat.reduceBEq, Int.reduceEq, Int.reduceLE, Int.reduceLT, Int.reduceNeg, Int.reduceToNat, dBN] at this ⊢; exact this)
    simp only [bares, bare, dBN, Bool.true_and, Bool.false_and, cond_false]
    show frzL (frz tab 30) [34, 100] [.lst .no (l.map encL), .fn (.func 51) [] [.ptr o 0]] H = _
    rw [frzL, frz_bare (d := 29) (v := .lst .no (l.map encL)) (by simp only [bare, dBN])]
    simp only [frzL, h1, nrm, dBN]
  have hD := hC ⟨true, true, m.gl⟩ (Tr.put AO.dead Tr.lf 0 (AO.cells [AV.str x] false)) 1 0 (by rw [Tr.get_put, if_pos rfl])
  rcases fidx_spec (l := l) (x := x) (i := 0) with ⟨h1, h2⟩ | ⟨j, r, h1, h2, h3⟩
  · rw [h1] at hD
    rw [h2]
    simp only [stA, stM, stH, stQ, stE, stC, xI, xF, Nat.reduceLT, Nat.reduceEqDiff, reduceCtorEq, Nat.reduceAdd, Nat.reduceSub, Nat.reduceMul, Nat.max_def, reduceIte, Nat.reduceLeDiff, Nat.reduceBEq, Int.reduceEq, Int.reduceLE, Int.reduceLT, Int.reduceNeg, Int.reduceToNat, x23, stU, b23, Try.f23, hD]
  · rw [h1] at hD
    rw [h3]
    have hlt : j < l.length := (List.getElem?_eq_some_iff.1 h2).1
    have f1 : decide (((0 + j : Nat) : Int) < 0) = false := by rw [decide_eq_false_iff_not]; omega
    have f2 : decide (0 ≤ ((j : Nat) : Int)) = true := by rw [decide_eq_true_iff]; omega
    simp only [Nat.zero_add] at hD f1
    simp only [stA, stM, stH, stQ, stE, stC, xI, xF, Nat.reduceLT, Nat.reduceEqDiff, reduceCtorEq, Nat.reduceAdd, Nat.reduceSub, Nat.reduceMul, Nat.max_def, reduceIte, Nat.reduceLeDiff, Nat.reduceBEq, Int.reduceEq, Int.reduceLE, Int.reduceLT, Int.reduceNeg, Int.reduceToNat, x23, stU, b23, Try.f23, encL, dBN, hD, f1, f2, h2, List.getElem?_map, Int.toNat_natCast]
theorem call23 {m : Md} {k1 : ATk} {l : List Rl} {x : List UInt8} {H : Tr AO} {hs : Nat} (hl : l.length < 1000000) : callF tab (evw tab) m 23 [.lst k1 (l.map encL), .str x] H hs = some (.lst .no ((ofL l x).map encE), H, hs) :=
  callF_iso tcon rfl rfl (by simp only [stA, stM, stH, stQ, stE, stC, xI, xF, Nat.reduceLT, Nat.reduceEqDiff, reduceCtorEq, Nat.reduceAdd, Nat.reduceSub, Nat.reduceMul, Nat.max_def, reduceIte, Nat.reduceLeDiff, Nat.reduceBEq, Int.reduceEq, Int.reduceLE, Int.reduceLT, Int.reduceNeg, Int.reduceToNat, dBN]) (by have := @eq23 m l x hl; simp only [stA, stM, stH, stQ, stE, stC, xI, xF, Nat.reduceLT, Nat.reduceEqDiff, reduceCtorEq, Nat.reduceAdd, Nat.reduceSub, Nat.reduceMul, Nat.max_def, reduceIte, Nat.reduceLeDiff, Nat.reduceBEq, Int.reduceEq, Int.reduceLE, Int.reduceLT, Int.reduceNeg, Int.reduceToNat, dBN] at this ⊢; exact this)
end Go.Proofs.Ytpehpccahbofiaa.Ev

set_option maxRecDepth 100000
set_option maxHeartbeats 4000000
namespace Go.Proofs.Ytpehpccahbofiaa.Ev
open Go Go.Proofs.Ytpehpccahbofiaa.Ev Go.Proofs Go.Proofs.Ytpehpccahbofiaa Go.Proofs.Ytpehpccahbofiaa.Tab

/-! ### A literal that is no atom -/
/-- What its terms are; none: nothing binds one. -/
def terms (b : Bd) : List Tm → Option Row
  | [] => some []
  | t :: l => match term b t with
    | none => none
    | some v => (terms b l).map (v :: ·)
def lit2 (o : Int) : Row → Bool
  | [v, w] => tst o v w
  | _ => false
def lit (b : Bd) (a : Lt) (base : List Rl) : Bool := match terms b a.l with
  | none => false
  | some vs => bif decide (a.o = 0) then !((ofL base a.n).any fun e => goes b a.l e.r) else lit2 a.o vs
theorem terms_len {b : Bd} : ∀ {l : List Tm} {r : Row}, terms b l = some r → r.length = l.length
  | [], r, h => by cases h; rfl
  | t :: l, r, h => by
    rw [terms] at h
    cases h1 : term b t with
    | none => rw [h1] at h; cases h
    | some v =>
      rw [h1] at h
      cases h2 : terms b l with
      | none => rw [h2] at h; cases h
      | some s => rw [h2] at h; cases h; rw [List.length_cons, List.length_cons, terms_len h2]
/-- All of them are bound. -/
def allBd (b : Bd) (l : List Tm) : Bool := l.all fun t => (term b t).isSome
theorem terms_all {b : Bd} : ∀ {l : List Tm}, (terms b l).isSome = allBd b l
  | [] => rfl
  | t :: l => by
    unfold allBd
    rw [terms, List.all_cons]
    cases h : term b t with
    | none => rfl
    | some v =>
      have := terms_all (b := b) (l := l)
      unfold allBd at this
      rw [← this]
      cases terms b l <;> rfl
abbrev Lt.tail3 (b : Bd) (a : Lt) (base : List Rl) : Bool := bif decide (a.o = 0) then !((ofL base a.n).any fun e => goes b a.l e.r) else bif decide ((a.l.length : Int) = 2) then lit2 a.o (a.l.map fun t => (term b t).getD v0) else false
theorem terms_get {b : Bd} : ∀ {l : List Tm} {r : Row}, terms b l = some r → r = l.map fun t => (term b t).getD v0
  | [], r, h => by cases h; rfl
  | t :: l, r, h => by
    rw [terms] at h
    cases h1 : term b t with
    | none => rw [h1] at h; cases h
    | some v =>
      rw [h1] at h
      cases h2 : terms b l with
      | none => rw [h2] at h; cases h
      | some s => rw [h2] at h; cases h; rw [List.map_cons, h1, ← terms_get h2]; rfl
theorem lit_eq {b : Bd} {a : Lt} {base : List Rl} : lit b a base = bif allBd b a.l then a.tail3 b base else false := by
  unfold lit
  rw [← terms_all]
  cases h : terms b a.l with
  | none => rfl
  | some vs =>
    simp only [Option.isSome_some, cond_true, Lt.tail3]
    rw [← terms_get h]
    cases decide (a.o = 0) with
    | true => rfl
    | false =>
      simp only [cond_false]
      cases h2 : decide ((a.l.length : Int) = 2) with
      | true => rfl
      | false =>
        rw [cond_false]
        have := terms_len h
        rw [decide_eq_false_iff_not] at h2
        match vs, this with
        | [], _ => rfl
        | [_], _ => rfl
        | [_, _], e => simp at e; omega
        | _ :: _ :: _ :: _, _ => rfl
/-! The document's -/
theorem loop38b {b : Bd} {a : Lt} {base : List Rl} {rows : List En} {gl : Tr (Option AV)} (hb : b.length < 1000000) (hl : rows.length < 1000000) (ha : a.l.length < 1000000) (hk : ∀ t, OkV ((term b t).getD v0) ∨ t ∉ a.l) : ∀ (k i : Nat) (t : Tr AV) (H : Tr AO) (hs : Nat) (w w2 : Bool), i + k = rows.length → 1 < hs → H.get .dead 0 = .cells (qcs b) w → H.get .dead 1 = .cells a.cs w2 →
    t.get .any 3 = .ptr 0 0 → t.get .any 4 = .ptr 1 0 → t.get .any 14 = .lst .no (rows.map encE) → t.get .any 15 = .lit (.int .i64 i) →
    RetN (W tab none (fin tab fi38) (lpc fi38 1) (lpk fi38 1) ⟨t, 84, H, hs, [], ⟨true, true, gl⟩⟩) (.lit (.bool !((rows.drop i).any fun e => goes b a.l e.r))) := by
  have D := d38
  simp only [stD, stC, List.cons.injEq, b38, Try.f38] at D
  simp only [stU, stC, b38, Try.f38]
  intro k
  induction k with
  | zero =>
    intro i t H hs w w2 hi h1 h0 hA a3 a4 a14 a15
    have e1 : decide ((i : Int) < (rows).length) = false := by rw [decide_eq_false_iff_not]; omega
    rw [W_loop, List.drop_of_length_le (by omega)]
    simp only [stA, stM, stH, stQ, stE, stC, xI, xF, Nat.reduceLT, Nat.reduceEqDiff, reduceCtorEq, Nat.reduceAdd, Nat.reduceSub, Nat.reduceMul, Nat.max_def, reduceIte, Nat.reduceLeDiff, Nat.reduceBEq, Int.reduceEq, Int.reduceLE, Int.reduceLT, Int.reduceNeg, Int.reduceToNat, x38, stU, b38, Try.f38, a3, a4, a14, a15, e1, List.length_map, List.any_nil]
  | succ k ih =>
    intro i t H hs w w2 hi h1 h0 hA a3 a4 a14 a15
    have hlt : i < (rows).length := by omega
    have e1 : decide ((i : Int) < (rows).length) = true := by rw [decide_eq_true_iff]; omega
    have e3 : decide (0 ≤ (i : Int)) = true := by rw [decide_eq_true_iff]; omega
    have e4 : (rows)[i]? = some (rows)[i] := List.getElem?_eq_getElem _
    have e6 : (rows).drop i = (rows)[i] :: (rows).drop (i + 1) := List.drop_eq_getElem_cons hlt
    have e7 : (rows).take (i + 1) = (rows).take i ++ [(rows)[i]] := List.take_succ_eq_append_getElem hlt
    generalize hv : (rows)[i] = e at e4 e6 e7
    have e5 := wrap_succ (i := i) (by omega)
    rw [W_loop, e6, List.any_cons]
    have hC := fun m H hs => @call36 m .no .no b a.l e.r H hs hb ha hk
    simp only [encQ] at hC
    cases hg : goes b a.l e.r with
    | true =>
      simp only [hg] at hC
      simp only [stA, stM, stH, stQ, stE, stC, xI, xF, Nat.reduceLT, Nat.reduceEqDiff, reduceCtorEq, Nat.reduceAdd, Nat.reduceSub, Nat.reduceMul, Nat.max_def, reduceIte, Nat.reduceLeDiff, Nat.reduceBEq, Int.reduceEq, Int.reduceLE, Int.reduceLT, Int.reduceNeg, Int.reduceToNat, x38, stU, b38, Try.f38, dQN, qcs, encE, encR, a3, a4, a14, a15, h0, hA, e1, e3, e4, e5, List.getElem?_map, List.length_map, Int.toNat_natCast, D, hC]
    | false =>
      simp only [hg] at hC
      simp only [stA, stM, stH, stQ, stE, stC, xI, xF, Nat.reduceLT, Nat.reduceEqDiff, reduceCtorEq, Nat.reduceAdd, Nat.reduceSub, Nat.reduceMul, Nat.max_def, reduceIte, Nat.reduceLeDiff, Nat.reduceBEq, Int.reduceEq, Int.reduceLE, Int.reduceLT, Int.reduceNeg, Int.reduceToNat, x38, stU, b38, Try.f38, dQN, qcs, encE, encR, a3, a4, a14, a15, h0, hA, e1, e3, e4, e5, List.getElem?_map, List.length_map, Int.toNat_natCast, D, hC]
      apply ih (i + 1) _ _ _ w w2 (by omega) h1 h0 hA
      all_goals simp only [stA, stM, stH, stQ, stE, stC, xI, xF, Nat.reduceLT, Nat.reduceEqDiff, reduceCtorEq, Nat.reduceAdd, Nat.reduceSub, Nat.reduceMul, Nat.max_def, reduceIte, Nat.reduceLeDiff, Nat.reduceBEq, Int.reduceEq, Int.reduceLE, Int.reduceLT, Int.reduceNeg, Int.reduceToNat, a3, a4, a14, a15]

theorem loop38a {b : Bd} {a : Lt} {base : List Rl} {gl : Tr (Option AV)} (hb : b.length < 1000000) (hbs : base.length < 1000000) (hrl : ∀ n, (ofL base n).length < 1000000) (ha : a.l.length < 1000000) (hk : ∀ t, OkV ((term b t).getD v0) ∨ t ∉ a.l) : ∀ (k i : Nat) (t : Tr AV) (H : Tr AO) (hs : Nat) (w w2 : Bool), i + k = a.l.length → 1 < hs → H.get .dead 0 = .cells (qcs b) w → H.get .dead 1 = .cells a.cs w2 →
    t.get .any 2 = .lst .no (base.map encL) → t.get .any 3 = .ptr 0 0 → t.get .any 4 = .ptr 1 0 → t.get .any 7 = .lit (.int .i64 i) →
    RetN (W tab none (fin tab fi38) (lpc fi38 0) (lpk fi38 0) ⟨t, 84, H, hs, [], ⟨true, true, gl⟩⟩) (.lit (.bool (bif allBd b (a.l.drop i) then a.tail3 b base else false))) := by
  have D := d38
  simp only [stD, stC, List.cons.injEq, b38, Try.f38] at D
  have LB := fun t H hs => @loop38b b a base (ofL base a.n) gl hb (hrl _) ha hk (ofL base a.n).length 0 t H hs
  simp only [stU, stC, b38, Try.f38] at LB
  simp only [stU, stC, b38, Try.f38]
  have C2 : ∀ (t : Tm) (m : Md) (H : Tr AO) (hs : Nat), callF tab (evw tab) m 58 [encQ b, .agg t.cs] H hs = some (encO (term b t), H, hs) := fun _ _ _ _ => call58 hb
  simp only [Tm.cs, encQ] at C2
  have hC35 := fun m H hs => @call35 m .no base a.n H hs (by omega)
  intro k
  induction k with
  | zero =>
    intro i t H hs w w2 hi h1 h0 hA a2 a3 a4 a7
    have e1 : decide ((i : Int) < (a.l).length) = false := by rw [decide_eq_false_iff_not]; omega
    have nl0_0 : (hs = 0) = False := eq_false (by omega)
    have nr0_0 : (0 = hs) = False := eq_false (by omega)
    have nl0_1 : (hs + 1 = 0) = False := eq_false (by omega)
    have nr0_1 : (0 = hs + 1) = False := eq_false (by omega)
    have nl0_2 : (hs + 2 = 0) = False := eq_false (by omega)
    have nr0_2 : (0 = hs + 2) = False := eq_false (by omega)
    have nl0_3 : (hs + 3 = 0) = False := eq_false (by omega)
    have nr0_3 : (0 = hs + 3) = False := eq_false (by omega)
    have nl0_4 : (hs + 4 = 0) = False := eq_false (by omega)
    have nr0_4 : (0 = hs + 4) = False := eq_false (by omega)
    have nl1_0 : (hs = 1) = False := eq_false (by omega)
    have nr1_0 : (1 = hs) = False := eq_false (by omega)
    have nl1_1 : (hs + 1 = 1) = False := eq_false (by omega)
    have nr1_1 : (1 = hs + 1) = False := eq_false (by omega)
    have nl1_2 : (hs + 2 = 1) = False := eq_false (by omega)
    have nr1_2 : (1 = hs + 2) = False := eq_false (by omega)
    have nl1_3 : (hs + 3 = 1) = False := eq_false (by omega)
    have nr1_3 : (1 = hs + 3) = False := eq_false (by omega)
    have nl1_4 : (hs + 4 = 1) = False := eq_false (by omega)
    have nr1_4 : (1 = hs + 4) = False := eq_false (by omega)
    rw [W_loop, List.drop_of_length_le (by omega)]
    cases ho : decide (a.o = 0) with
    | true =>
      simp only [stA, stM, stH, stQ, stE, stC, xI, xF, Nat.reduceLT, Nat.reduceEqDiff, reduceCtorEq, Nat.reduceAdd, Nat.reduceSub, Nat.reduceMul, Nat.max_def, reduceIte, Nat.reduceLeDiff, Nat.reduceBEq, Int.reduceEq, Int.reduceLE, Int.reduceLT, Int.reduceNeg, Int.reduceToNat, x38, stU, b38, Try.f38, dQN, qcs, a2, a3, a4, a7, h0, hA, e1, List.length_map, ho, hC35, allBd, List.all_nil, Lt.tail3]
      apply LB _ _ _ w w2 (by simp) h1 h0 hA
      all_goals first | (simp only [stA, stM, stH, stQ, stE, stC, xI, xF, Nat.reduceLT, Nat.reduceEqDiff, reduceCtorEq, Nat.reduceAdd, Nat.reduceSub, Nat.reduceMul, Nat.max_def, reduceIte, Nat.reduceLeDiff, Nat.reduceBEq, Int.reduceEq, Int.reduceLE, Int.reduceLT, Int.reduceNeg, Int.reduceToNat, a3, a4]; done) | (simp only [stA, stM, stH, stQ, stE, stC, xI, xF, Nat.reduceLT, Nat.reduceEqDiff, reduceCtorEq, Nat.reduceAdd, Nat.reduceSub, Nat.reduceMul, Nat.max_def, reduceIte, Nat.reduceLeDiff, Nat.reduceBEq, Int.reduceEq, Int.reduceLE, Int.reduceLT, Int.reduceNeg, Int.reduceToNat]; rfl)
    | false =>
      cases hl2 : decide ((a.l.length : Int) = 2) with
      | false =>
        simp only [stA, stM, stH, stQ, stE, stC, xI, xF, Nat.reduceLT, Nat.reduceEqDiff, reduceCtorEq, Nat.reduceAdd, Nat.reduceSub, Nat.reduceMul, Nat.max_def, reduceIte, Nat.reduceLeDiff, Nat.reduceBEq, Int.reduceEq, Int.reduceLE, Int.reduceLT, Int.reduceNeg, Int.reduceToNat, x38, stU, b38, Try.f38, dQN, qcs, a2, a3, a4, a7, h0, hA, e1, List.length_map, ho, hl2, allBd, List.all_nil, Lt.tail3]
      | true =>
        have : a.l.length = 2 := by rw [decide_eq_true_iff] at hl2; omega
        obtain ⟨t1, t2, hl⟩ : ∃ t1 t2, a.l = [t1, t2] := by
          match h : a.l, this with
          | [x, y], _ => exact ⟨x, y, rfl⟩
        have c1 := fun m H hs => C2 t1 m H hs
        have c2 := fun m H hs => C2 t2 m H hs
        have ok : OkV ((term b t1).getD v0) := (hk t1).resolve_right (fun h => h (by rw [hl]; simp))
        have c3 := fun m H hs => @call60 m a.o ((term b t1).getD v0) ((term b t2).getD v0) H hs ok
        simp only [encV, Vl.cs] at c3
        have q1 : decide ((i : Int) < ((2 : Nat) : Int)) = false := by rw [decide_eq_false_iff_not]; omega
        have q2 : decide (((2 : Nat) : Int) = 2) = true := rfl
        simp (maxSteps := 2000000) only [stA, stM, stH, stQ, stE, stC, xI, xF, Nat.reduceLT, Nat.reduceEqDiff, reduceCtorEq, Nat.reduceAdd, Nat.reduceSub, Nat.reduceMul, Nat.max_def, reduceIte, Nat.reduceLeDiff, Nat.reduceBEq, Int.reduceEq, Int.reduceLE, Int.reduceLT, Int.reduceNeg, Int.reduceToNat, x38, stU, b38, Try.f38, dQN, qcs, encO, encV, encT, Vl.cs, q1, q2, lit2, hl, a2, a3, a4, a7, h0, hA, e1, List.length_map, ho, hl2, c1, c2, c3, D, nl0_0, nr0_0, nl0_1, nr0_1, nl0_2, nr0_2, nl0_3, nr0_3, nl0_4, nr0_4, nl1_0, nr1_0, nl1_1, nr1_1, nl1_2, nr1_2, nl1_3, nr1_3, nl1_4, nr1_4, allBd, List.all_nil, Lt.tail3]
  | succ k ih =>
    intro i t H hs w w2 hi h1 h0 hA a2 a3 a4 a7
    have hlt : i < (a.l).length := by omega
    have e1 : decide ((i : Int) < (a.l).length) = true := by rw [decide_eq_true_iff]; omega
    have e3 : decide (0 ≤ (i : Int)) = true := by rw [decide_eq_true_iff]; omega
    have e4 : (a.l)[i]? = some (a.l)[i] := List.getElem?_eq_getElem _
    have e6 : (a.l).drop i = (a.l)[i] :: (a.l).drop (i + 1) := List.drop_eq_getElem_cons hlt
    have e7 : (a.l).take (i + 1) = (a.l).take i ++ [(a.l)[i]] := List.take_succ_eq_append_getElem hlt
    generalize hv : (a.l)[i] = u at e4 e6 e7
    have e5 := wrap_succ (i := i) (by omega)
    have nl0_0 : (hs = 0) = False := eq_false (by omega)
    have nr0_0 : (0 = hs) = False := eq_false (by omega)
    have nl0_1 : (hs + 1 = 0) = False := eq_false (by omega)
    have nr0_1 : (0 = hs + 1) = False := eq_false (by omega)
    have nl0_2 : (hs + 2 = 0) = False := eq_false (by omega)
    have nr0_2 : (0 = hs + 2) = False := eq_false (by omega)
    have nl0_3 : (hs + 3 = 0) = False := eq_false (by omega)
    have nr0_3 : (0 = hs + 3) = False := eq_false (by omega)
    have nl0_4 : (hs + 4 = 0) = False := eq_false (by omega)
    have nr0_4 : (0 = hs + 4) = False := eq_false (by omega)
    have nl1_0 : (hs = 1) = False := eq_false (by omega)
    have nr1_0 : (1 = hs) = False := eq_false (by omega)
    have nl1_1 : (hs + 1 = 1) = False := eq_false (by omega)
    have nr1_1 : (1 = hs + 1) = False := eq_false (by omega)
    have nl1_2 : (hs + 2 = 1) = False := eq_false (by omega)
    have nr1_2 : (1 = hs + 2) = False := eq_false (by omega)
    have nl1_3 : (hs + 3 = 1) = False := eq_false (by omega)
    have nr1_3 : (1 = hs + 3) = False := eq_false (by omega)
    have nl1_4 : (hs + 4 = 1) = False := eq_false (by omega)
    have nr1_4 : (1 = hs + 4) = False := eq_false (by omega)
    rw [W_loop, e6]
    have c2 := fun m H hs => C2 u m H hs
    have ha3 : allBd b (u :: a.l.drop (i + 1)) = ((term b u).isSome && allBd b (a.l.drop (i + 1))) := rfl
    rw [ha3]
    cases h3 : (term b u).isSome with
    | true =>
      simp (maxSteps := 2000000) only [stA, stM, stH, stQ, stE, stC, xI, xF, Nat.reduceLT, Nat.reduceEqDiff, reduceCtorEq, Nat.reduceAdd, Nat.reduceSub, Nat.reduceMul, Nat.max_def, reduceIte, Nat.reduceLeDiff, Nat.reduceBEq, Int.reduceEq, Int.reduceLE, Int.reduceLT, Int.reduceNeg, Int.reduceToNat, x38, stU, b38, Try.f38, dQN, qcs, encO, encV, encT, Vl.cs, a2, a3, a4, a7, h0, hA, e1, e3, e4, e5, List.getElem?_map, List.length_map, Int.toNat_natCast, c2, h3, D, nl0_0, nr0_0, nl0_1, nr0_1, nl0_2, nr0_2, nl0_3, nr0_3, nl0_4, nr0_4, nl1_0, nr1_0, nl1_1, nr1_1, nl1_2, nr1_2, nl1_3, nr1_3, nl1_4, nr1_4]
      apply ih (i + 1) _ _ _ w w2 (by omega) (by omega) (by simp only [stA, stM, stH, stQ, stE, stC, xI, xF, Nat.reduceLT, Nat.reduceEqDiff, reduceCtorEq, Nat.reduceAdd, Nat.reduceSub, Nat.reduceMul, Nat.max_def, reduceIte, Nat.reduceLeDiff, Nat.reduceBEq, Int.reduceEq, Int.reduceLE, Int.reduceLT, Int.reduceNeg, Int.reduceToNat, h0, nl0_0, nr0_0, nl0_1, nr0_1, nl0_2, nr0_2, nl0_3, nr0_3, nl0_4, nr0_4]) (by simp only [stA, stM, stH, stQ, stE, stC, xI, xF, Nat.reduceLT, Nat.reduceEqDiff, reduceCtorEq, Nat.reduceAdd, Nat.reduceSub, Nat.reduceMul, Nat.max_def, reduceIte, Nat.reduceLeDiff, Nat.reduceBEq, Int.reduceEq, Int.reduceLE, Int.reduceLT, Int.reduceNeg, Int.reduceToNat, hA, nl1_0, nr1_0, nl1_1, nr1_1, nl1_2, nr1_2, nl1_3, nr1_3, nl1_4, nr1_4])
      all_goals simp only [stA, stM, stH, stQ, stE, stC, xI, xF, Nat.reduceLT, Nat.reduceEqDiff, reduceCtorEq, Nat.reduceAdd, Nat.reduceSub, Nat.reduceMul, Nat.max_def, reduceIte, Nat.reduceLeDiff, Nat.reduceBEq, Int.reduceEq, Int.reduceLE, Int.reduceLT, Int.reduceNeg, Int.reduceToNat, a2, a3, a4, a7]
    | false =>
      simp (maxSteps := 2000000) only [stA, stM, stH, stQ, stE, stC, xI, xF, Nat.reduceLT, Nat.reduceEqDiff, reduceCtorEq, Nat.reduceAdd, Nat.reduceSub, Nat.reduceMul, Nat.max_def, reduceIte, Nat.reduceLeDiff, Nat.reduceBEq, Int.reduceEq, Int.reduceLE, Int.reduceLT, Int.reduceNeg, Int.reduceToNat, x38, stU, b38, Try.f38, dQN, qcs, encO, encV, encT, Vl.cs, a2, a3, a4, a7, h0, hA, e1, e3, e4, e5, List.getElem?_map, List.length_map, Int.toNat_natCast, c2, h3, D, nl0_0, nr0_0, nl0_1, nr0_1, nl0_2, nr0_2, nl0_3, nr0_3, nl0_4, nr0_4, nl1_0, nr1_0, nl1_1, nr1_1, nl1_2, nr1_2, nl1_3, nr1_3, nl1_4, nr1_4]

theorem eq38 {m : Md} {b : Bd} {a : Lt} {base : List Rl} (hb : b.length < 1000000) (hbs : base.length < 1000000) (hrl : ∀ n, (ofL base n).length < 1000000) (ha : a.l.length < 1000000) (hk : ∀ t, OkV ((term b t).getD v0) ∨ t ∉ a.l) : iso tab fi38 m [encQ b, encA a, .lst .no (base.map encL)] = some (.lit (.bool (lit b a base))) := by
  refine iso_ret ?_
  have L := @loop38a b a base m.gl hb hbs hrl ha hk a.l.length 0
  rw [lit_eq]
  simp only [stU, stC, b38, Try.f38] at L
  simp only [stA, stM, stH, stQ, stE, stC, xI, xF, Nat.reduceLT, Nat.reduceEqDiff, reduceCtorEq, Nat.reduceAdd, Nat.reduceSub, Nat.reduceMul, Nat.max_def, reduceIte, Nat.reduceLeDiff, Nat.reduceBEq, Int.reduceEq, Int.reduceLE, Int.reduceLT, Int.reduceNeg, Int.reduceToNat, x38, stU, b38, Try.f38, encQ, encA, List.length_map]
  have L2 := fun t H hs w w2 => L t H hs w w2 (by simp)
  apply L2 _ _ _ false false
  all_goals first | decide | (simp only [stA, stM, stH, stQ, stE, stC, xI, xF, Nat.reduceLT, Nat.reduceEqDiff, reduceCtorEq, Nat.reduceAdd, Nat.reduceSub, Nat.reduceMul, Nat.max_def, reduceIte, Nat.reduceLeDiff, Nat.reduceBEq, Int.reduceEq, Int.reduceLE, Int.reduceLT, Int.reduceNeg, Int.reduceToNat]; done) | (simp only [stA, stM, stH, stQ, stE, stC, xI, xF, Nat.reduceLT, Nat.reduceEqDiff, reduceCtorEq, Nat.reduceAdd, Nat.reduceSub, Nat.reduceMul, Nat.max_def, reduceIte, Nat.reduceLeDiff, Nat.reduceBEq, Int.reduceEq, Int.reduceLE, Int.reduceLT, Int.reduceNeg, Int.reduceToNat]; rfl)
theorem call38 {m : Md} {k1 : ATk} {b : Bd} {a : Lt} {base : List Rl} {H : Tr AO} {hs : Nat} (hb : b.length < 1000000) (hbs : base.length < 1000000) (hrl : ∀ n, (ofL base n).length < 1000000) (ha : a.l.length < 1000000) (hk : ∀ t, OkV ((term b t).getD v0) ∨ t ∉ a.l) : callF tab (evw tab) m 38 [encQ b, encA a, .lst k1 (base.map encL)] H hs = some (.lit (.bool (lit b a base)), H, hs) :=
  callF_iso tcon rfl rfl (by simp only [stA, stM, stH, stQ, stE, stC, xI, xF, Nat.reduceLT, Nat.reduceEqDiff, reduceCtorEq, Nat.reduceAdd, Nat.reduceSub, Nat.reduceMul, Nat.max_def, reduceIte, Nat.reduceLeDiff, Nat.reduceBEq, Int.reduceEq, Int.reduceLE, Int.reduceLT, Int.reduceNeg, Int.reduceToNat, dBN, dQN]) (by have := @eq38 m b a base hb hbs hrl ha hk; simp only [stA, stM, stH, stQ, stE, stC, xI, xF, Nat.reduceLT, Nat.reduceEqDiff, reduceCtorEq, Nat.reduceAdd, Nat.reduceSub, Nat.reduceMul, Nat.max_def, reduceIte, Nat.reduceLeDiff, Nat.reduceBEq, Int.reduceEq, Int.reduceLE, Int.reduceLT, Int.reduceNeg, Int.reduceToNat, dBN, dQN] at this ⊢; exact this)
end Go.Proofs.Ytpehpccahbofiaa.Ev

set_option maxRecDepth 100000
set_option maxHeartbeats 4000000
namespace Go.Proofs.Ytpehpccahbofiaa.Ev
open Go Go.Proofs.Ytpehpccahbofiaa.Ev Go.Proofs Go.Proofs.Ytpehpccahbofiaa Go.Proofs.Ytpehpccahbofiaa.Tab

/-! ### Does a row of a relation go? -/
theorem call55 {m : Md} {e : En} {b : Bd} {a : Lt} {H : Tr AO} {hs : Nat} (ha : a.l.length < 1000000) : callF tab (evw tab) m 55 [.agg [.lst .no (e.r.map encV), .lit (.int .i64 e.m)], .eptr [.fmp (mapS encV b 0)], .eptr a.cs] H hs = some (.lit (.bool (goes b a.l e.r)), H.put .dead hs (.cells [.lst .no (e.r.map encV), .lit (.int .i64 e.m)] false), hs + 1) := by
  rw [callF_in (fi := fi55) tcon rfl rfl rfl]
  have hC := fun m H hs => @call30 m .no .no b a.l e.r H hs ha
  simp only [encM] at hC
  simp only [stA, stM, stH, stQ, stE, stC, xI, xF, Nat.reduceLT, Nat.reduceEqDiff, reduceCtorEq, Nat.reduceAdd, Nat.reduceSub, Nat.reduceMul, Nat.max_def, reduceIte, Nat.reduceLeDiff, Nat.reduceBEq, Int.reduceEq, Int.reduceLE, Int.reduceLT, Int.reduceNeg, Int.reduceToNat, x55, stU, b55, Try.f55, hC]
theorem call32 {m : Md} {e : En} {r : Row} {H : Tr AO} {hs : Nat} (he : e.r.length < 1000000) : callF tab (evw tab) m 32 [.agg [.lst .no (e.r.map encV), .lit (.int .i64 e.m)], .eptr [.lst .no (r.map encV)]] H hs = some (.lit (.bool (decide (rcmp e.r r = 0))), H.put .dead hs (.cells [.lst .no (e.r.map encV), .lit (.int .i64 e.m)] false), hs + 1) := by
  rw [callF_in (fi := fi32) tcon rfl rfl rfl]
  have hC := fun m H hs => @call22 m .no .no e.r r H hs (by omega)
  simp only [stA, stM, stH, stQ, stE, stC, xI, xF, Nat.reduceLT, Nat.reduceEqDiff, reduceCtorEq, Nat.reduceAdd, Nat.reduceSub, Nat.reduceMul, Nat.max_def, reduceIte, Nat.reduceLeDiff, Nat.reduceBEq, Int.reduceEq, Int.reduceLE, Int.reduceLT, Int.reduceNeg, Int.reduceToNat, x32, stU, b32, Try.f32, hC]
/-- Where the first is that goes; -1: nowhere. -/
def eidx (p : En → Bool) : List En → Nat → Int
  | [], _ => -1
  | e :: l, i => bif p e then (i : Int) else eidx p l (i + 1)
theorem eidx_any {p : En → Bool} : ∀ {l : List En} {i : Nat}, decide (0 ≤ eidx p l i) = l.any p
  | [], i => rfl
  | e :: l, i => by
    rw [eidx, List.any_cons]
    cases h : p e with
    | true => rw [cond_true, decide_eq_true_iff.2 (by omega)]; rfl
    | false => rw [cond_false, eidx_any (l := l)]; rfl

theorem loop57_55 {l : List En} {b : Bd} {a : Lt} {gl : Tr (Option AV)} (hl : l.length < 1000000) (ha : a.l.length < 1000000) : ∀ (k i : Nat) (t : Tr AV) (H : Tr AO) (hs : Nat), i + k = l.length →
    t.get .any 0 = .lst .no (l.map encE) → t.get .any 1 = .fn (.func 55) [] [.eptr [.fmp (mapS encV b 0)], .eptr a.cs] → t.get .any 7 = .lit (.int .i64 l.length) → t.get .any 8 = .lit (.int .i64 i) →
    RetO tab fi57 (W tab none (fin tab fi57) (lpc fi57 0) (lpk fi57 0) ⟨t, 19, H, hs, [], ⟨true, true, gl⟩⟩) (.lit (.int .i64 (eidx (fun e => goes b a.l e.r) (l.drop i) i))) := by
  simp only [stU, stC, b57, Try.f57]
  intro k
  induction k with
  | zero =>
    intro i t H hs hi a0 a1 a7 a8
    have e1 : decide ((i : Int) < (l).length) = false := by rw [decide_eq_false_iff_not]; omega
    rw [W_loop, List.drop_of_length_le (by omega)]
    simp only [stA, stM, stH, stQ, stE, stC, xI, xF, Nat.reduceLT, Nat.reduceEqDiff, reduceCtorEq, Nat.reduceAdd, Nat.reduceSub, Nat.reduceMul, Nat.max_def, reduceIte, Nat.reduceLeDiff, Nat.reduceBEq, Int.reduceEq, Int.reduceLE, Int.reduceLT, Int.reduceNeg, Int.reduceToNat, x57, stU, b57, Try.f57, a0, a1, a7, a8, e1, List.length_map]
    rfl
  | succ k ih =>
    intro i t H hs hi a0 a1 a7 a8
    have hlt : i < (l).length := by omega
    have e1 : decide ((i : Int) < (l).length) = true := by rw [decide_eq_true_iff]; omega
    have e3 : decide (0 ≤ (i : Int)) = true := by rw [decide_eq_true_iff]; omega
    have e4 : (l)[i]? = some (l)[i] := List.getElem?_eq_getElem _
    have e6 : (l).drop i = (l)[i] :: (l).drop (i + 1) := List.drop_eq_getElem_cons hlt
    have e7 : (l).take (i + 1) = (l).take i ++ [(l)[i]] := List.take_succ_eq_append_getElem hlt
    generalize hv : (l)[i] = e at e4 e6 e7
    have e5 := wrap_succ (i := i) (by omega)
    rw [W_loop, e6, eidx]
    have hC := fun m H hs => @call55 m e b a H hs ha
    cases h1 : goes b a.l e.r with
    | true =>
      simp only [h1] at hC
      simp only [stA, stM, stH, stQ, stE, stC, xI, xF, Nat.reduceLT, Nat.reduceEqDiff, reduceCtorEq, Nat.reduceAdd, Nat.reduceSub, Nat.reduceMul, Nat.max_def, reduceIte, Nat.reduceLeDiff, Nat.reduceBEq, Int.reduceEq, Int.reduceLE, Int.reduceLT, Int.reduceNeg, Int.reduceToNat, x57, stU, b57, Try.f57, encE, encR, a0, a1, a7, a8, e1, e3, e4, e5, List.getElem?_map, List.length_map, Int.toNat_natCast, hC]
      rfl
    | false =>
      simp only [h1] at hC
      simp only [stA, stM, stH, stQ, stE, stC, xI, xF, Nat.reduceLT, Nat.reduceEqDiff, reduceCtorEq, Nat.reduceAdd, Nat.reduceSub, Nat.reduceMul, Nat.max_def, reduceIte, Nat.reduceLeDiff, Nat.reduceBEq, Int.reduceEq, Int.reduceLE, Int.reduceLT, Int.reduceNeg, Int.reduceToNat, x57, stU, b57, Try.f57, encE, encR, a0, a1, a7, a8, e1, e3, e4, e5, List.getElem?_map, List.length_map, Int.toNat_natCast, hC]
      apply ih (i + 1) _ _ _ (by omega)
      all_goals simp only [stA, stM, stH, stQ, stE, stC, xI, xF, Nat.reduceLT, Nat.reduceEqDiff, reduceCtorEq, Nat.reduceAdd, Nat.reduceSub, Nat.reduceMul, Nat.max_def, reduceIte, Nat.reduceLeDiff, Nat.reduceBEq, Int.reduceEq, Int.reduceLE, Int.reduceLT, Int.reduceNeg, Int.reduceToNat, a0, a1, a7, a8]
theorem call57_55 {m : Md} {l : List En} {b : Bd} {a : Lt} {H : Tr AO} {hs : Nat} (hl : l.length < 1000000) (ha : a.l.length < 1000000) : callF tab (evw tab) m 57 [.lst .no (l.map encE), .fn (.func 55) [] [.eptr [.fmp (mapS encV b 0)], .eptr a.cs]] H hs = some (.lit (.int .i64 (eidx (fun e => goes b a.l e.r) l 0)), H, hs) := by
  refine callF_own (H1 := H) tcon rfl rfl rfl (bs := [.lst .no (l.map encE), .fn (.func 55) [] [.eptr [.fmp (mapS encV b 0)], .eptr a.cs]]) (by simp only [stA, stM, stH, stQ, stE, stC, xI, xF, Nat.reduceLT, Nat.reduceEqDiff, reduceCtorEq, Nat.reduceAdd, Nat.reduceSub, Nat.reduceMul, Nat.max_def, reduceIte, Nat.reduceLeDiff, Nat.reduceBEq, Int.reduceEq, Int.reduceLE, Int.reduceLT, Int.reduceNeg, Int.reduceToNat, dBN, dQN]) (by simp only [stA, stM, stH, stQ, stE, stC, xI, xF, Nat.reduceLT, Nat.reduceEqDiff, reduceCtorEq, Nat.reduceAdd, Nat.reduceSub, Nat.reduceMul, Nat.max_def, reduceIte, Nat.reduceLeDiff, Nat.reduceBEq, Int.reduceEq, Int.reduceLE, Int.reduceLT, Int.reduceNeg, Int.reduceToNat, dBN, dQN]) ?_
  simp only [stA, stM, stH, stQ, stE, stC, xI, xF, Nat.reduceLT, Nat.reduceEqDiff, reduceCtorEq, Nat.reduceAdd, Nat.reduceSub, Nat.reduceMul, Nat.max_def, reduceIte, Nat.reduceLeDiff, Nat.reduceBEq, Int.reduceEq, Int.reduceLE, Int.reduceLT, Int.reduceNeg, Int.reduceToNat, dBN, dQN]
  refine own_ret ?_
  have L := @loop57_55 l b a m.gl hl ha l.length 0
  simp only [stU, stC, b57, Try.f57] at L
  simp only [stA, stM, stH, stQ, stE, stC, xI, xF, Nat.reduceLT, Nat.reduceEqDiff, reduceCtorEq, Nat.reduceAdd, Nat.reduceSub, Nat.reduceMul, Nat.max_def, reduceIte, Nat.reduceLeDiff, Nat.reduceBEq, Int.reduceEq, Int.reduceLE, Int.reduceLT, Int.reduceNeg, Int.reduceToNat, x57, stU, b57, Try.f57, List.length_map]
  have L2 := fun t H hs => L t H hs (by simp)
  apply L2
  all_goals first | (simp only [stA, stM, stH, stQ, stE, stC, xI, xF, Nat.reduceLT, Nat.reduceEqDiff, reduceCtorEq, Nat.reduceAdd, Nat.reduceSub, Nat.reduceMul, Nat.max_def, reduceIte, Nat.reduceLeDiff, Nat.reduceBEq, Int.reduceEq, Int.reduceLE, Int.reduceLT, Int.reduceNeg, Int.reduceToNat]; done) | (simp only [stA, stM, stH, stQ, stE, stC, xI, xF, Nat.reduceLT, Nat.reduceEqDiff, reduceCtorEq, Nat.reduceAdd, Nat.reduceSub, Nat.reduceMul, Nat.max_def, reduceIte, Nat.reduceLeDiff, Nat.reduceBEq, Int.reduceEq, Int.reduceLE, Int.reduceLT, Int.reduceNeg, Int.reduceToNat]; rfl)
theorem eq31_55 {m : Md} {l : List En} {b : Bd} {a : Lt} (hl : l.length < 1000000) (ha : a.l.length < 1000000) : isoO (evw tab) tab fi31 m [.lst .no (l.map encE), .fn (.func 55) [] [.eptr [.fmp (mapS encV b 0)], .eptr a.cs]] = some (.lit (.bool (l.any (fun e => goes b a.l e.r)))) := by
  refine own_ret ?_
  have hC := fun m H hs => @call57_55 m l b a H hs hl ha
  have h2 := @eidx_any (fun e => goes b a.l e.r) l 0
  simp only [stA, stM, stH, stQ, stE, stC, xI, xF, Nat.reduceLT, Nat.reduceEqDiff, reduceCtorEq, Nat.reduceAdd, Nat.reduceSub, Nat.reduceMul, Nat.max_def, reduceIte, Nat.reduceLeDiff, Nat.reduceBEq, Int.reduceEq, Int.reduceLE, Int.reduceLT, Int.reduceNeg, Int.reduceToNat, x31, stU, b31, Try.f31, hC, h2]
  rfl

theorem loop57_32 {l : List En} {r : Row} {gl : Tr (Option AV)} (hl : l.length < 1000000) (ha : ∀ e ∈ l, e.r.length < 1000000) : ∀ (k i : Nat) (t : Tr AV) (H : Tr AO) (hs : Nat), i + k = l.length →
    t.get .any 0 = .lst .no (l.map encE) → t.get .any 1 = .fn (.func 32) [] [.eptr [.lst .no (r.map encV)]] → t.get .any 7 = .lit (.int .i64 l.length) → t.get .any 8 = .lit (.int .i64 i) →
    RetO tab fi57 (W tab none (fin tab fi57) (lpc fi57 0) (lpk fi57 0) ⟨t, 19, H, hs, [], ⟨true, true, gl⟩⟩) (.lit (.int .i64 (eidx (fun e => decide (rcmp e.r r = 0)) (l.drop i) i))) := by
  simp only [stU, stC, b57, Try.f57]
  intro k
  induction k with
  | zero =>
    intro i t H hs hi a0 a1 a7 a8
    have e1 : decide ((i : Int) < (l).length) = false := by rw [decide_eq_false_iff_not]; omega
    rw [W_loop, List.drop_of_length_le (by omega)]
    simp only [stA, stM, stH, stQ, stE, stC, xI, xF, Nat.reduceLT, Nat.reduceEqDiff, reduceCtorEq, Nat.reduceAdd, Nat.reduceSub, Nat.reduceMul, Nat.max_def, reduceIte, Nat.reduceLeDiff, Nat.reduceBEq, Int.reduceEq, Int.reduceLE, Int.reduceLT, Int.reduceNeg, Int.reduceToNat, x57, stU, b57, Try.f57, a0, a1, a7, a8, e1, List.length_map]
    rfl
  | succ k ih =>
    intro i t H hs hi a0 a1 a7 a8
    have hlt : i < (l).length := by omega
    have e1 : decide ((i : Int) < (l).length) = true := by rw [decide_eq_true_iff]; omega
    have e3 : decide (0 ≤ (i : Int)) = true := by rw [decide_eq_true_iff]; omega
    have e4 : (l)[i]? = some (l)[i] := List.getElem?_eq_getElem _
    have e6 : (l).drop i = (l)[i] :: (l).drop (i + 1) := List.drop_eq_getElem_cons hlt
    have e7 : (l).take (i + 1) = (l).take i ++ [(l)[i]] := List.take_succ_eq_append_getElem hlt
    generalize hv : (l)[i] = e at e4 e6 e7
    have e5 := wrap_succ (i := i) (by omega)
    rw [W_loop, e6, eidx]
    have hC := fun m H hs => @call32 m e r H hs (ha e (hv ▸ List.getElem_mem _))
    cases h1 : decide (rcmp e.r r = 0) with
    | true =>
      simp only [h1] at hC
      simp only [stA, stM, stH, stQ, stE, stC, xI, xF, Nat.reduceLT, Nat.reduceEqDiff, reduceCtorEq, Nat.reduceAdd, Nat.reduceSub, Nat.reduceMul, Nat.max_def, reduceIte, Nat.reduceLeDiff, Nat.reduceBEq, Int.reduceEq, Int.reduceLE, Int.reduceLT, Int.reduceNeg, Int.reduceToNat, x57, stU, b57, Try.f57, encE, encR, a0, a1, a7, a8, e1, e3, e4, e5, List.getElem?_map, List.length_map, Int.toNat_natCast, hC]
      rfl
    | false =>
      simp only [h1] at hC
      simp only [stA, stM, stH, stQ, stE, stC, xI, xF, Nat.reduceLT, Nat.reduceEqDiff, reduceCtorEq, Nat.reduceAdd, Nat.reduceSub, Nat.reduceMul, Nat.max_def, reduceIte, Nat.reduceLeDiff, Nat.reduceBEq, Int.reduceEq, Int.reduceLE, Int.reduceLT, Int.reduceNeg, Int.reduceToNat, x57, stU, b57, Try.f57, encE, encR, a0, a1, a7, a8, e1, e3, e4, e5, List.getElem?_map, List.length_map, Int.toNat_natCast, hC]
      apply ih (i + 1) _ _ _ (by omega)
      all_goals simp only [stA, stM, stH, stQ, stE, stC, xI, xF, Nat.reduceLT, Nat.reduceEqDiff, reduceCtorEq, Nat.reduceAdd, Nat.reduceSub, Nat.reduceMul, Nat.max_def, reduceIte, Nat.reduceLeDiff, Nat.reduceBEq, Int.reduceEq, Int.reduceLE, Int.reduceLT, Int.reduceNeg, Int.reduceToNat, a0, a1, a7, a8]
theorem call57_32 {m : Md} {l : List En} {r : Row} {H : Tr AO} {hs : Nat} (hl : l.length < 1000000) (ha : ∀ e ∈ l, e.r.length < 1000000) : callF tab (evw tab) m 57 [.lst .no (l.map encE), .fn (.func 32) [] [.eptr [.lst .no (r.map encV)]]] H hs = some (.lit (.int .i64 (eidx (fun e => decide (rcmp e.r r = 0)) l 0)), H, hs) := by
  refine callF_own (H1 := H) tcon rfl rfl rfl (bs := [.lst .no (l.map encE), .fn (.func 32) [] [.eptr [.lst .no (r.map encV)]]]) (by simp only [stA, stM, stH, stQ, stE, stC, xI, xF, Nat.reduceLT, Nat.reduceEqDiff, reduceCtorEq, Nat.reduceAdd, Nat.reduceSub, Nat.reduceMul, Nat.max_def, reduceIte, Nat.reduceLeDiff, Nat.reduceBEq, Int.reduceEq, Int.reduceLE, Int.reduceLT, Int.reduceNeg, Int.reduceToNat, dBN, dQN]) (by simp only [stA, stM, stH, stQ, stE, stC, xI, xF, Nat.reduceLT, Nat.reduceEqDiff, reduceCtorEq, Nat.reduceAdd, Nat.reduceSub, Nat.reduceMul, Nat.max_def, reduceIte, Nat.reduceLeDiff, Nat.reduceBEq, Int.reduceEq, Int.reduceLE, Int.reduceLT, Int.reduceNeg, Int.reduceToNat, dBN, dQN]) ?_
  simp only [stA, stM, stH, stQ, stE, stC, xI, xF, Nat.reduceLT, Nat.reduceEqDiff, reduceCtorEq, Nat.reduceAdd, Nat.reduceSub, Nat.reduceMul, Nat.max_def, reduceIte, Nat.reduceLeDiff, Nat.reduceBEq, Int.reduceEq, Int.reduceLE, Int.reduceLT, Int.reduceNeg, Int.reduceToNat, dBN, dQN]
  refine own_ret ?_
  have L := @loop57_32 l r m.gl hl ha l.length 0
  simp only [stU, stC, b57, Try.f57] at L
  simp only [stA, stM, stH, stQ, stE, stC, xI, xF, Nat.reduceLT, Nat.reduceEqDiff, reduceCtorEq, Nat.reduceAdd, Nat.reduceSub, Nat.reduceMul, Nat.max_def, reduceIte, Nat.reduceLeDiff, Nat.reduceBEq, Int.reduceEq, Int.reduceLE, Int.reduceLT, Int.reduceNeg, Int.reduceToNat, x57, stU, b57, Try.f57, List.length_map]
  have L2 := fun t H hs => L t H hs (by simp)
  apply L2
  all_goals first | (simp only [stA, stM, stH, stQ, stE, stC, xI, xF, Nat.reduceLT, Nat.reduceEqDiff, reduceCtorEq, Nat.reduceAdd, Nat.reduceSub, Nat.reduceMul, Nat.max_def, reduceIte, Nat.reduceLeDiff, Nat.reduceBEq, Int.reduceEq, Int.reduceLE, Int.reduceLT, Int.reduceNeg, Int.reduceToNat]; done) | (simp only [stA, stM, stH, stQ, stE, stC, xI, xF, Nat.reduceLT, Nat.reduceEqDiff, reduceCtorEq, Nat.reduceAdd, Nat.reduceSub, Nat.reduceMul, Nat.max_def, reduceIte, Nat.reduceLeDiff, Nat.reduceBEq, Int.reduceEq, Int.reduceLE, Int.reduceLT, Int.reduceNeg, Int.reduceToNat]; rfl)
theorem eq31_32 {m : Md} {l : List En} {r : Row} (hl : l.length < 1000000) (ha : ∀ e ∈ l, e.r.length < 1000000) : isoO (evw tab) tab fi31 m [.lst .no (l.map encE), .fn (.func 32) [] [.eptr [.lst .no (r.map encV)]]] = some (.lit (.bool (l.any (fun e => decide (rcmp e.r r = 0))))) := by
  refine own_ret ?_
  have hC := fun m H hs => @call57_32 m l r H hs hl ha
  have h2 := @eidx_any (fun e => decide (rcmp e.r r = 0)) l 0
  simp only [stA, stM, stH, stQ, stE, stC, xI, xF, Nat.reduceLT, Nat.reduceEqDiff, reduceCtorEq, Nat.reduceAdd, Nat.reduceSub, Nat.reduceMul, Nat.max_def, reduceIte, Nat.reduceLeDiff, Nat.reduceBEq, Int.reduceEq, Int.reduceLE, Int.reduceLT, Int.reduceNeg, Int.reduceToNat, x31, stU, b31, Try.f31, hC, h2]
  rfl
end Go.Proofs.Ytpehpccahbofiaa.Ev

set_option maxRecDepth 100000
set_option maxHeartbeats 4000000
namespace Go.Proofs.Ytpehpccahbofiaa.Ev
open Go Go.Proofs.Ytpehpccahbofiaa.Ev Go.Proofs Go.Proofs.Ytpehpccahbofiaa Go.Proofs.Ytpehpccahbofiaa.Tab

theorem tt64s : ∃ i, tab.t 64 = some i ∧ i.size = 1 := ⟨_, rfl, rfl⟩
theorem tt47s : ∃ i, tab.t 47 = some i ∧ i.size = 4 := ⟨_, rfl, rfl⟩
theorem call31_55 {m : Md} {l : List En} {b : Bd} {a : Lt} {H : Tr AO} {hs : Nat} {w w2 : Bool} (hl : l.length < 1000000) (ha : a.l.length < 1000000) (h0 : H.get .dead 0 = .cells [.fmp (mapS encV b 0)] w) (h1 : H.get .dead 1 = .cells a.cs w2) :
    callF tab (evw tab) m 31 [.lst .no (l.map encE), .fn (.func 55) [] [.ptr 0 0, .ptr 1 0]] H hs = some (.lit (.bool (l.any fun e => goes b a.l e.r)), H, hs) := by
  obtain ⟨i, i1, i2⟩ := tt64s
  obtain ⟨j, j1, j2⟩ := tt47s
  have hp0 : frz tab 29 1000064 (.ptr 0 0) H = some (.eptr [.fmp (mapS encV b 0)], H.put .dead 0 (.cells [.fmp (mapS encV b 0)] true)) := by
    rw [frz_ptr (d := 27) (e := 64) (l := [.fmp (mapS encV b 0)]) (by rfl) i1 h0 (by unfold rd; rw [h0, i2]; rfl) (by rfl) (by simp only [bares, bare, dQN, Bool.and_self])]
    simp only [nrms, nrm, dQN]
  have h1' : (H.put .dead 0 (.cells [.fmp (mapS encV b 0)] true)).get .dead 1 = .cells a.cs w2 := by rw [Tr.get_put, if_neg (by decide)]; exact h1
  have hp1 : frz tab 29 1000047 (.ptr 1 0) (H.put .dead 0 (.cells [.fmp (mapS encV b 0)] true)) = some (.eptr a.cs, (H.put .dead 0 (.cells [.fmp (mapS encV b 0)] true)).put .dead 1 (.cells a.cs true)) := by
    rw [frz_ptr (d := 27) (e := 47) (l := a.cs) (by rfl) j1 h1' (by unfold rd; rw [h1', j2]; rfl) (by rfl) (by simp only [Lt.cs, bares, bare, dBN, Bool.and_self])]
    simp only [Lt.cs, nrms, nrm, dBN]
  have hf : frz tab 30 76 (.fn (.func 55) [] [.ptr 0 0, .ptr 1 0]) H = some (.fn (.func 55) [] [.eptr [.fmp (mapS encV b 0)], .eptr a.cs], (H.put .dead 0 (.cells [.fmp (mapS encV b 0)] true)).put .dead 1 (.cells a.cs true)) := by
    refine frz_fn (fi := fi55) (d := 29) rfl ?_ rfl
    show frzL (frz tab 29) [1000064, 1000047] [.ptr 0 0, .ptr 1 0] H = _
    simp only [frzL, hp0, hp1]
  refine callF_own (H1 := (H.put .dead 0 (.cells [.fmp (mapS encV b 0)] true)).put .dead 1 (.cells a.cs true)) tcon rfl rfl rfl (bs := [.lst .no (l.map encE), .fn (.func 55) [] [.eptr [.fmp (mapS encV b 0)], .eptr a.cs]]) ?_ (by simp only [stA, stM, stH, stQ, stE, stC, xI, xF, Nat.reduceLT, Nat.reduceEqDiff, reduceCtorEq, Nat.reduceAdd, Nat.reduceSub, Nat.reduceMul, Nat.max_def, reduceIte, Nat.reduceLeDiff, Nat.reduceBEq, Int.reduceEq, Int.reduceLE, Int.reduceLT, Int.reduceNeg, Int.reduceToNat, dBN, dQN]) (by have := @eq31_55 m l b a hl ha; simp only [stA, stM, stH, stQ, stE, stC, xI, xF, Nat.reduceLT, Nat.reduceEqDiff, reduceCtorEq, Nat.reduceAdd, Nat.reduceSub, Nat.reduceMul, Nat.max_def, reduceIte, Nat.reduceLeDiff, Nat.reduceBEq, Int.reduceEq, Int.reduceLE, Int.reduceLT, Int.reduceNeg, Int.reduceToNat, dBN, dQN, Lt.cs] at this ⊢; exact this)
  simp only [bares, bare, dBN, Bool.true_and, Bool.false_and, cond_false]
  show frzL (frz tab 30) [48, 76] [.lst .no (l.map encE), .fn (.func 55) [] [.ptr 0 0, .ptr 1 0]] H = _
  rw [frzL, frz_bare (d := 29) (v := .lst .no (l.map encE)) (by simp only [bare, dBN])]
  simp only [frzL, hf, nrm, dBN]
def tailR (b : Bd) (a : Lt) (base : List Rl) (vs : Row) : Bool := bif decide (a.o = 0) then !((ofL base a.n).any fun e => goes b a.l e.r) else lit2 a.o vs
def litE (b : Bd) (a : Lt) (base : List Rl) (es : Row) : Option Row → Bool
  | none => false
  | some vs => tailR b a base (es ++ vs)
theorem litE_cons {b : Bd} {a : Lt} {base : List Rl} {es : Row} {t : Tm} {l : List Tm} : litE b a base es (terms b (t :: l)) = match term b t with | none => false | some v => litE b a base (es ++ [v]) (terms b l) := by
  rw [terms]
  cases term b t with
  | none => rfl
  | some v => cases terms b l with
    | none => rfl
    | some r => simp [litE]
theorem loop29 {b : Bd} {a : Lt} {base : List Rl} {gl : Tr (Option AV)} (hbs : base.length < 1000000) (hrl : ∀ n, (ofL base n).length < 1000000) (ha : a.l.length < 1000000) : ∀ (k i : Nat) (t : Tr AV) (H : Tr AO) (hs : Nat) (A : AV) (es : Row) (w w2 : Bool), i + k = a.l.length → es.length ≤ i → Acc H hs 4 A (es.map encV) → 1 < hs → H.get .dead 0 = .cells [.fmp (mapS encV b 0)] w → H.get .dead 1 = .cells a.cs w2 →
    t.get .any 2 = .lst .no (base.map encL) → t.get .any 3 = .ptr 0 0 → t.get .any 4 = .ptr 1 0 → t.get .any 7 = A → t.get .any 13 = .lst .no (a.l.map encT) → t.get .any 14 = .lit (.int .i64 a.l.length) → t.get .any 15 = .lit (.int .i64 i) →
    RetN (W tab none (fin tab fi29) (lpc fi29 0) (lpk fi29 0) ⟨t, 56, H, hs, [], ⟨true, true, gl⟩⟩) (.lit (.bool (litE b a base es (terms b (a.l.drop i))))) := by
  have D := d29
  simp only [stD, stC, List.cons.injEq, b29, Try.f29] at D
  simp only [stU, stC, b29, Try.f29]
  have C2 : ∀ (t : Tm) (m : Md) (H : Tr AO) (hs : Nat), callF tab (evw tab) m 53 [encM b, .agg t.cs] H hs = some (encO (term b t), H, hs) := fun _ _ _ _ => call53
  simp only [Tm.cs, encM] at C2
  have hC23 := fun m H hs => @call23 m .no base a.n H hs hbs
  intro k
  induction k with
  | zero =>
    intro i t H hs A es w w2 hi he hA h1 h0 hX a2 a3 a4 a7 a13 a14 a15
    have e1 : decide ((i : Int) < (a.l).length) = false := by rw [decide_eq_false_iff_not]; omega
    rw [W_loop, List.drop_of_length_le (by omega), terms, litE, List.append_nil, tailR]
    cases ho : decide (a.o = 0) with
    | true =>
      have hC31 := fun m hs => @call31_55 m (ofL base a.n) b a H hs w w2 (hrl _) ha h0 hX
      simp only [stA, stM, stH, stQ, stE, stC, xI, xF, Nat.reduceLT, Nat.reduceEqDiff, reduceCtorEq, Nat.reduceAdd, Nat.reduceSub, Nat.reduceMul, Nat.max_def, reduceIte, Nat.reduceLeDiff, Nat.reduceBEq, Int.reduceEq, Int.reduceLE, Int.reduceLT, Int.reduceNeg, Int.reduceToNat, x29, stU, b29, Try.f29, a2, a3, a4, a7, a13, a14, a15, h0, hX, e1, ho, hC23, hC31]
    | false =>
      have hlen := hA.len
      rw [List.length_map] at hlen
      cases hl2 : decide ((es.length : Int) = 2) with
      | false =>
        have : lit2 a.o es = false := by
          rw [decide_eq_false_iff_not] at hl2
          match es with
          | [] => rfl
          | [_] => rfl
          | [_, _] => simp at hl2
          | _ :: _ :: _ :: _ => rfl
        simp only [stA, stM, stH, stQ, stE, stC, xI, xF, Nat.reduceLT, Nat.reduceEqDiff, reduceCtorEq, Nat.reduceAdd, Nat.reduceSub, Nat.reduceMul, Nat.max_def, reduceIte, Nat.reduceLeDiff, Nat.reduceBEq, Int.reduceEq, Int.reduceLE, Int.reduceLT, Int.reduceNeg, Int.reduceToNat, x29, stU, b29, Try.f29, a2, a3, a4, a7, a13, a14, a15, h0, hX, e1, ho, hlen, hl2, D, this]
      | true =>
        have : es.length = 2 := by rw [decide_eq_true_iff] at hl2; omega
        obtain ⟨v, u, rfl⟩ : ∃ v u, es = [v, u] := by
          match es, this with
          | [x, y], _ => exact ⟨x, y, rfl⟩
        rcases hA with ⟨h, _⟩ | ⟨r, rfl, _⟩
        · cases h
        have c3 := fun m H hs => @call54 m a.o v u H hs
        simp only [encV, Vl.cs] at c3
        have q2 : decide (((2 : Nat) : Int) = 2) = true := rfl
        simp (maxSteps := 2000000) only [stA, stM, stH, stQ, stE, stC, xI, xF, Nat.reduceLT, Nat.reduceEqDiff, reduceCtorEq, Nat.reduceAdd, Nat.reduceSub, Nat.reduceMul, Nat.max_def, reduceIte, Nat.reduceLeDiff, Nat.reduceBEq, Int.reduceEq, Int.reduceLE, Int.reduceLT, Int.reduceNeg, Int.reduceToNat, x29, stU, b29, Try.f29, encV, Vl.cs, a2, a3, a4, a7, a13, a14, a15, h0, hX, e1, ho, hl2, q2, c3, D, lit2]
  | succ k ih =>
    intro i t H hs A es w w2 hi he hA h1 h0 hX a2 a3 a4 a7 a13 a14 a15
    have hlt : i < (a.l).length := by omega
    have e1 : decide ((i : Int) < (a.l).length) = true := by rw [decide_eq_true_iff]; omega
    have e3 : decide (0 ≤ (i : Int)) = true := by rw [decide_eq_true_iff]; omega
    have e4 : (a.l)[i]? = some (a.l)[i] := List.getElem?_eq_getElem _
    have e6 : (a.l).drop i = (a.l)[i] :: (a.l).drop (i + 1) := List.drop_eq_getElem_cons hlt
    have e7 : (a.l).take (i + 1) = (a.l).take i ++ [(a.l)[i]] := List.take_succ_eq_append_getElem hlt
    generalize hv : (a.l)[i] = u at e4 e6 e7
    have e5 := wrap_succ (i := i) (by omega)
    have nl0_0 : (hs = 0) = False := eq_false (by omega)
    have nr0_0 : (0 = hs) = False := eq_false (by omega)
    have nl0_1 : (hs + 1 = 0) = False := eq_false (by omega)
    have nr0_1 : (0 = hs + 1) = False := eq_false (by omega)
    have nl0_2 : (hs + 2 = 0) = False := eq_false (by omega)
    have nr0_2 : (0 = hs + 2) = False := eq_false (by omega)
    have nl0_3 : (hs + 3 = 0) = False := eq_false (by omega)
    have nr0_3 : (0 = hs + 3) = False := eq_false (by omega)
    have nl0_4 : (hs + 4 = 0) = False := eq_false (by omega)
    have nr0_4 : (0 = hs + 4) = False := eq_false (by omega)
    have nl1_0 : (hs = 1) = False := eq_false (by omega)
    have nr1_0 : (1 = hs) = False := eq_false (by omega)
    have nl1_1 : (hs + 1 = 1) = False := eq_false (by omega)
    have nr1_1 : (1 = hs + 1) = False := eq_false (by omega)
    have nl1_2 : (hs + 2 = 1) = False := eq_false (by omega)
    have nr1_2 : (1 = hs + 2) = False := eq_false (by omega)
    have nl1_3 : (hs + 3 = 1) = False := eq_false (by omega)
    have nr1_3 : (1 = hs + 3) = False := eq_false (by omega)
    have nl1_4 : (hs + 4 = 1) = False := eq_false (by omega)
    have nr1_4 : (1 = hs + 4) = False := eq_false (by omega)
    rw [W_loop, e6, litE_cons]
    have c2 := fun m H hs => C2 u m H hs
    have hB : ∀ X1 Y1 X2 Y2, Acc ((((H.put .dead hs X1).put .dead hs Y1).put .dead (hs + 1) X2).put .dead (hs + 1) Y2) (hs + 1 + 1) 4 A (es.map encV) := fun X1 Y1 X2 Y2 => ((((hA.put' (Nat.le_refl _)).put' (Nat.le_refl _)).up.put' (Nat.le_refl _)).put' (Nat.le_refl _)).up
    cases h3 : term b u with
    | none =>
      simp only [h3] at c2
      simp (maxSteps := 2000000) only [stA, stM, stH, stQ, stE, stC, xI, xF, Nat.reduceLT, Nat.reduceEqDiff, reduceCtorEq, Nat.reduceAdd, Nat.reduceSub, Nat.reduceMul, Nat.max_def, reduceIte, Nat.reduceLeDiff, Nat.reduceBEq, Int.reduceEq, Int.reduceLE, Int.reduceLT, Int.reduceNeg, Int.reduceToNat, x29, stU, b29, Try.f29, encO, encV, v0, encT, Vl.cs, a2, a3, a4, a7, a13, a14, a15, h0, hX, e1, e3, e4, e5, List.getElem?_map, List.length_map, Int.toNat_natCast, c2, nl0_0, nr0_0, nl0_1, nr0_1, nl0_2, nr0_2, nl0_3, nr0_3, nl0_4, nr0_4, nl1_0, nr1_0, nl1_1, nr1_1, nl1_2, nr1_2, nl1_3, nr1_3, nl1_4, nr1_4, Option.getD_none, Option.isSome_none]
    | some v =>
      have hP := fun X1 Y1 X2 Y2 => appV v (hB X1 Y1 X2 Y2) (by omega)
      simp only [h3] at c2
      simp (maxSteps := 2000000) only [stM, stH, stQ, stE, stC, xI, xF, Nat.reduceLT, Nat.reduceEqDiff, reduceCtorEq, Nat.reduceAdd, Nat.reduceSub, Nat.reduceMul, Nat.max_def, reduceIte, Nat.reduceLeDiff, Nat.reduceBEq, Int.reduceEq, Int.reduceLE, Int.reduceLT, Int.reduceNeg, Int.reduceToNat, x29, stU, b29, Try.f29, encO, encV, encT, Vl.cs, a2, a3, a4, a7, a13, a14, a15, h0, hX, e1, e3, e4, e5, List.getElem?_map, List.length_map, Int.toNat_natCast, c2, hP, nl0_0, nr0_0, nl0_1, nr0_1, nl0_2, nr0_2, nl0_3, nr0_3, nl0_4, nr0_4, nl1_0, nr1_0, nl1_1, nr1_1, nl1_2, nr1_2, nl1_3, nr1_3, nl1_4, nr1_4, Option.getD_some, Option.isSome_some]
      have hg0 : ∀ X1 Y1 X2 Y2, (accH ((((H.put .dead hs X1).put .dead hs Y1).put .dead (hs + 1) X2).put .dead (hs + 1) Y2) (hs + 1 + 1) 4 A).get .dead 0 = .cells [.fmp (mapS encV b 0)] w := fun X1 Y1 X2 Y2 => by
        have e : ((((H.put .dead hs X1).put .dead hs Y1).put .dead (hs + 1) X2).put .dead (hs + 1) Y2).get .dead 0 = .cells [.fmp (mapS encV b 0)] w := by rw [Tr.get_put, if_neg (by omega), Tr.get_put, if_neg (by omega), Tr.get_put, if_neg (by omega), Tr.get_put, if_neg (by omega)]; exact h0
        rw [(hB X1 Y1 X2 Y2).get (by omega) (by rw [e]; rfl), e]
      have hg1 : ∀ X1 Y1 X2 Y2, (accH ((((H.put .dead hs X1).put .dead hs Y1).put .dead (hs + 1) X2).put .dead (hs + 1) Y2) (hs + 1 + 1) 4 A).get .dead 1 = .cells a.cs w2 := fun X1 Y1 X2 Y2 => by
        have e : ((((H.put .dead hs X1).put .dead hs Y1).put .dead (hs + 1) X2).put .dead (hs + 1) Y2).get .dead 1 = .cells a.cs w2 := by rw [Tr.get_put, if_neg (by omega), Tr.get_put, if_neg (by omega), Tr.get_put, if_neg (by omega), Tr.get_put, if_neg (by omega)]; exact hX
        rw [(hB X1 Y1 X2 Y2).get (by omega) (by rw [e]; rfl), e]
      apply ih (i + 1) _ _ _ _ (es ++ [v]) _ _ (by omega) (by rw [List.length_append, List.length_singleton]; omega) accN (by omega) (hg0 _ _ _ _) (hg1 _ _ _ _)
      all_goals simp only [stA, stM, stH, stQ, stE, stC, xI, xF, Nat.reduceLT, Nat.reduceEqDiff, reduceCtorEq, Nat.reduceAdd, Nat.reduceSub, Nat.reduceMul, Nat.max_def, reduceIte, Nat.reduceLeDiff, Nat.reduceBEq, Int.reduceEq, Int.reduceLE, Int.reduceLT, Int.reduceNeg, Int.reduceToNat, a2, a3, a4, a7, a13, a14, a15]

theorem lit_litE {b : Bd} {a : Lt} {base : List Rl} : lit b a base = litE b a base [] (terms b a.l) := by
  unfold lit
  cases terms b a.l <;> rfl
theorem eq29 {m : Md} {b : Bd} {a : Lt} {base : List Rl} (hbs : base.length < 1000000) (hrl : ∀ n, (ofL base n).length < 1000000) (ha : a.l.length < 1000000) : iso tab fi29 m [encM b, encA a, .lst .no (base.map encL)] = some (.lit (.bool (lit b a base))) := by
  refine iso_ret ?_
  have L := @loop29 b a base m.gl hbs hrl ha a.l.length 0
  rw [lit_litE]
  simp only [stU, stC, b29, Try.f29] at L
  simp only [stA, stM, stH, stQ, stE, stC, xI, xF, Nat.reduceLT, Nat.reduceEqDiff, reduceCtorEq, Nat.reduceAdd, Nat.reduceSub, Nat.reduceMul, Nat.max_def, reduceIte, Nat.reduceLeDiff, Nat.reduceBEq, Int.reduceEq, Int.reduceLE, Int.reduceLT, Int.reduceNeg, Int.reduceToNat, x29, stU, b29, Try.f29, encM, encA, List.length_map]
  have L2 := fun t H hs A w w2 => L t H hs A [] w w2 (by simp) (by simp)
  apply L2 _ _ _ _ false false
  · exact .nil
  all_goals first | decide | (simp only [stA, stM, stH, stQ, stE, stC, xI, xF, Nat.reduceLT, Nat.reduceEqDiff, reduceCtorEq, Nat.reduceAdd, Nat.reduceSub, Nat.reduceMul, Nat.max_def, reduceIte, Nat.reduceLeDiff, Nat.reduceBEq, Int.reduceEq, Int.reduceLE, Int.reduceLT, Int.reduceNeg, Int.reduceToNat]; done) | (simp only [stA, stM, stH, stQ, stE, stC, xI, xF, Nat.reduceLT, Nat.reduceEqDiff, reduceCtorEq, Nat.reduceAdd, Nat.reduceSub, Nat.reduceMul, Nat.max_def, reduceIte, Nat.reduceLeDiff, Nat.reduceBEq, Int.reduceEq, Int.reduceLE, Int.reduceLT, Int.reduceNeg, Int.reduceToNat]; rfl)
theorem call29 {m : Md} {k1 : ATk} {b : Bd} {a : Lt} {base : List Rl} {H : Tr AO} {hs : Nat} (hbs : base.length < 1000000) (hrl : ∀ n, (ofL base n).length < 1000000) (ha : a.l.length < 1000000) : callF tab (evw tab) m 29 [.fmp (mapS encV b 0), .agg a.cs, .lst k1 (base.map encL)] H hs = some (.lit (.bool (lit b a base)), H, hs) :=
  callF_iso tcon rfl rfl (by simp only [stA, stM, stH, stQ, stE, stC, xI, xF, Nat.reduceLT, Nat.reduceEqDiff, reduceCtorEq, Nat.reduceAdd, Nat.reduceSub, Nat.reduceMul, Nat.max_def, reduceIte, Nat.reduceLeDiff, Nat.reduceBEq, Int.reduceEq, Int.reduceLE, Int.reduceLT, Int.reduceNeg, Int.reduceToNat, dBN, dQN]) (by have := @eq29 m b a base hbs hrl ha; simp only [stA, stM, stH, stQ, stE, stC, xI, xF, Nat.reduceLT, Nat.reduceEqDiff, reduceCtorEq, Nat.reduceAdd, Nat.reduceSub, Nat.reduceMul, Nat.max_def, reduceIte, Nat.reduceLeDiff, Nat.reduceBEq, Int.reduceEq, Int.reduceLE, Int.reduceLT, Int.reduceNeg, Int.reduceToNat, dBN, dQN, encM, encA] at this ⊢; exact this)
end Go.Proofs.Ytpehpccahbofiaa.Ev

set_option maxRecDepth 100000
set_option maxHeartbeats 4000000
namespace Go.Proofs.Ytpehpccahbofiaa.Ev
open Go Go.Proofs.Ytpehpccahbofiaa.Ev Go.Proofs Go.Proofs.Ytpehpccahbofiaa Go.Proofs.Ytpehpccahbofiaa.Tab

/-! ### Do rows go together? -/
/-- Sizes. -/
structure Hy (x : Ru) (base : List Rl) : Prop where
  nb : x.b.length < 1000000
  nt : tot (ats x.b) < 1000000
  nh : x.h.length < 1000000
  na : ∀ a ∈ x.b, a.l.length < 1000000
  ns : base.length < 1000000
  nr : ∀ n, (ofL base n).length < 1000000
  ne : ∀ n, ∀ e ∈ ofL base n, e.r.length < 1000000 ∧ ∀ v ∈ e.r, OkV v
def HyT (x : Ru) (b : Bd) : Prop := ∀ a ∈ x.b, ∀ t, OkV ((term b t).getD v0) ∨ t ∉ a.l
def hasR (base : List Rl) (n : List UInt8) (r : Row) : Bool := (ofL base n).any fun e => decide (rcmp e.r r = 0)
def goA (b : Bd) (base : List Rl) : List Lt → List Row → Bool
  | a :: l, r :: rs => (hasR base a.n r && goes b a.l r) && goA b base l rs
  | _, _ => true
def litA (b : Bd) (base : List Rl) (l : List Lt) : Bool := l.all fun a => isAt a || lit b a base
def holds (x : Ru) (R : List Row) (base : List Rl) : Bool := (binds x R).2 && (goA (binds x R).1 base (ats x.b) R && (litA (binds x R).1 base x.b && decide ((told x R).2 = 0)))
end Go.Proofs.Ytpehpccahbofiaa.Ev

set_option maxRecDepth 100000
set_option maxHeartbeats 4000000
namespace Go.Proofs.Ytpehpccahbofiaa.Ev
open Go Go.Proofs.Ytpehpccahbofiaa.Ev Go.Proofs Go.Proofs.Ytpehpccahbofiaa Go.Proofs.Ytpehpccahbofiaa.Tab

/-! ### What rows bind: bounds -/
theorem bstep_ok {b : Bd} {t : Tm} {v : Vl} (hb : ∀ p ∈ b, OkV p.2) (hv : OkV v) : ∀ p ∈ bstep b t v, OkV p.2 := by
  intro p hp
  unfold bstep at hp
  cases h : bcond b t with
  | true =>
    rw [h, cond_true, List.mem_append, List.mem_singleton] at hp
    rcases hp with hp | rfl
    · exact hb p hp
    · exact hv
  | false => rw [h, cond_false] at hp; exact hb p hp
theorem bzip_ok : ∀ {l : List Tm} {r : Row} {b : Bd}, (∀ p ∈ b, OkV p.2) → (∀ v ∈ r, OkV v) → ∀ p ∈ bzip b l r, OkV p.2
  | [], r, b, hb, hv => by unfold bzip; exact hb
  | t :: l, [], b, hb, hv => by unfold bzip; exact hb
  | t :: l, v :: r, b, hb, hv => by
    unfold bzip
    exact bzip_ok (bstep_ok hb (hv v (List.mem_cons_self ..))) (fun u hu => hv u (List.mem_cons_of_mem _ hu))
theorem bindL_ok : ∀ {L : List Lt} {R : List Row} {b : Bd}, (∀ p ∈ b, OkV p.2) → (∀ r ∈ R, ∀ v ∈ r, OkV v) → ∀ p ∈ (bindL b L R).1, OkV p.2
  | [], R, b, hb, hv => by unfold bindL; exact hb
  | a :: l, [], b, hb, hv => by unfold bindL; exact hb
  | a :: l, r :: rs, b, hb, hv => by
    unfold bindL
    cases decide ((a.l.length : Int) = r.length) with
    | true => exact bindL_ok (bzip_ok hb (hv r (List.mem_cons_self ..))) (fun u hu => hv u (List.mem_cons_of_mem _ hu))
    | false => exact hb
theorem binds_lt {x : Ru} {R : List Row} (ht : tot (ats x.b) < 1000000) : (binds x R).1.length < 1000000 := Nat.lt_of_le_of_lt binds_len ht
theorem mget_ok {b : Bd} {n : List UInt8} (hb : ∀ p ∈ b, OkV p.2) : OkV ((mget b n).getD v0) := by
  unfold mget
  cases h : b.find? (fun p => p.1 == n) with
  | none => show OkV v0; decide
  | some p => exact hb p (List.mem_of_find?_eq_some h)
theorem binds_T {x : Ru} {R : List Row} (hx : ∀ a ∈ x.b, ∀ t ∈ a.l, OkV t.v) (hv : ∀ r ∈ R, ∀ v ∈ r, OkV v) : HyT x (binds x R).1 := by
  intro a ha t
  by_cases h : t ∈ a.l
  · left
    have hb : ∀ p ∈ (binds x R).1, OkV p.2 := by
      unfold binds
      cases decide (((ats x.b).length : Int) = R.length) with
      | true => exact bindL_ok (by simp) hv
      | false => simp
    unfold term
    cases t.a with
    | true => show OkV v0; decide
    | false =>
      rw [cond_false]
      cases t.x == [] with
      | true => exact hx a ha t h
      | false => exact mget_ok hb
  · exact .inr h
theorem binds_yes {x : Ru} {R : List Row} (h : (binds x R).2 = true) : (ats x.b).length = R.length := by
  unfold binds at h
  cases hd : decide (((ats x.b).length : Int) = R.length) with
  | true => rw [decide_eq_true_iff] at hd; omega
  | false => rw [hd] at h; cases h
end Go.Proofs.Ytpehpccahbofiaa.Ev

set_option maxRecDepth 100000
set_option maxHeartbeats 4000000
namespace Go.Proofs.Ytpehpccahbofiaa.Ev
open Go Go.Proofs.Ytpehpccahbofiaa.Ev Go.Proofs Go.Proofs.Ytpehpccahbofiaa Go.Proofs.Ytpehpccahbofiaa.Tab

theorem loop15b {x : Ru} {R : List Row} {base : List Rl} {b : Bd} {gl : Tr (Option AV)} (hy : Hy x base) (ht : HyT x b) (hb : b.length < 1000000) : ∀ (k i : Nat) (t : Tr AV) (H : Tr AO) (hs : Nat) (w w2 : Bool), i + k = x.b.length → 1 < hs → H.get .dead 0 = .cells x.cs w → H.get .dead 1 = .cells (qcs b) w2 →
    t.get .any 1 = .lst .no (R.map encR) → t.get .any 2 = .lst .no (base.map encL) → t.get .any 3 = .ptr 0 0 → t.get .any 7 = .ptr 1 0 → t.get .any 11 = .lit (.int .i64 i) →
    RetN (W tab none (fin tab fi15) (lpc fi15 1) (lpk fi15 1) ⟨t, 96, H, hs, [], ⟨true, true, gl⟩⟩) (.lit (.bool (litA b base (x.b.drop i) && decide ((told x R).2 = 0)))) := by
  have D := d15
  have hnb := hy.nb
  simp only [stD, stC, List.cons.injEq, b15, Try.f15] at D
  simp only [stU, stC, b15, Try.f15]
  intro k
  induction k with
  | zero =>
    intro i t H hs w w2 hi h1 h0 hX a1 a2 a3 a7 a11
    have e1 : decide ((i : Int) < (x.b).length) = false := by rw [decide_eq_false_iff_not]; omega
    rw [W_loop, List.drop_of_length_le (by omega)]
    have hC := fun m H hs => @call13 m .no x R H hs hy.nb hy.nt hy.nh
    simp only [encX, encTd] at hC
    cases h5 : decide ((told x R).2 = 0) <;> simp only [stA, stM, stH, stQ, stE, stC, xI, xF, Nat.reduceLT, Nat.reduceEqDiff, reduceCtorEq, Nat.reduceAdd, Nat.reduceSub, Nat.reduceMul, Nat.max_def, reduceIte, Nat.reduceLeDiff, Nat.reduceBEq, Int.reduceEq, Int.reduceLE, Int.reduceLT, Int.reduceNeg, Int.reduceToNat, x15, stU, b15, Try.f15, a1, a2, a3, a7, a11, h0, hX, e1, List.length_map, hC, h5, litA, List.all_nil]
  | succ k ih =>
    intro i t H hs w w2 hi h1 h0 hX a1 a2 a3 a7 a11
    have hlt : i < (x.b).length := by omega
    have e1 : decide ((i : Int) < (x.b).length) = true := by rw [decide_eq_true_iff]; omega
    have e3 : decide (0 ≤ (i : Int)) = true := by rw [decide_eq_true_iff]; omega
    have e4 : (x.b)[i]? = some (x.b)[i] := List.getElem?_eq_getElem _
    have e6 : (x.b).drop i = (x.b)[i] :: (x.b).drop (i + 1) := List.drop_eq_getElem_cons hlt
    have e7 : (x.b).take (i + 1) = (x.b).take i ++ [(x.b)[i]] := List.take_succ_eq_append_getElem hlt
    generalize hv : (x.b)[i] = a at e4 e6 e7
    have e5 := wrap_succ (i := i) (by omega)
    have ha : a ∈ x.b := hv ▸ List.getElem_mem _
    have h37 := fun m H hs => @call37 m a H hs
    have h38 := fun m H hs => @call38 m .no b a base H hs hb hy.ns hy.nr (hy.na a ha) (ht a ha)
    simp only [encQ, encA, Lt.cs] at h37 h38
    rw [W_loop, e6, show litA b base (a :: x.b.drop (i + 1)) = ((isAt a || lit b a base) && litA b base (x.b.drop (i + 1))) from rfl]
    cases h5 : isAt a with
    | true =>
      simp only [h5] at h37
      simp (maxSteps := 2000000) only [stA, stM, stH, stQ, stE, stC, xI, xF, Nat.reduceLT, Nat.reduceEqDiff, reduceCtorEq, Nat.reduceAdd, Nat.reduceSub, Nat.reduceMul, Nat.max_def, reduceIte, Nat.reduceLeDiff, Nat.reduceBEq, Int.reduceEq, Int.reduceLE, Int.reduceLT, Int.reduceNeg, Int.reduceToNat, x15, stU, b15, Try.f15, dQN, qcs, encA, a1, a2, a3, a7, a11, h0, hX, e1, e3, e4, e5, List.getElem?_map, List.length_map, Int.toNat_natCast, h37, D]
      apply ih (i + 1) _ _ _ w w2 (by omega) h1 h0 hX
      all_goals simp only [stA, stM, stH, stQ, stE, stC, xI, xF, Nat.reduceLT, Nat.reduceEqDiff, reduceCtorEq, Nat.reduceAdd, Nat.reduceSub, Nat.reduceMul, Nat.max_def, reduceIte, Nat.reduceLeDiff, Nat.reduceBEq, Int.reduceEq, Int.reduceLE, Int.reduceLT, Int.reduceNeg, Int.reduceToNat, a1, a2, a3, a7, a11]
    | false =>
      simp only [h5] at h37
      cases h6 : lit b a base with
      | true =>
        simp only [h6] at h38
        simp (maxSteps := 2000000) only [stA, stM, stH, stQ, stE, stC, xI, xF, Nat.reduceLT, Nat.reduceEqDiff, reduceCtorEq, Nat.reduceAdd, Nat.reduceSub, Nat.reduceMul, Nat.max_def, reduceIte, Nat.reduceLeDiff, Nat.reduceBEq, Int.reduceEq, Int.reduceLE, Int.reduceLT, Int.reduceNeg, Int.reduceToNat, x15, stU, b15, Try.f15, dQN, qcs, encA, a1, a2, a3, a7, a11, h0, hX, e1, e3, e4, e5, List.getElem?_map, List.length_map, Int.toNat_natCast, h37, h38, D]
        apply ih (i + 1) _ _ _ w w2 (by omega) h1 h0 hX
        all_goals simp only [stA, stM, stH, stQ, stE, stC, xI, xF, Nat.reduceLT, Nat.reduceEqDiff, reduceCtorEq, Nat.reduceAdd, Nat.reduceSub, Nat.reduceMul, Nat.max_def, reduceIte, Nat.reduceLeDiff, Nat.reduceBEq, Int.reduceEq, Int.reduceLE, Int.reduceLT, Int.reduceNeg, Int.reduceToNat, a1, a2, a3, a7, a11]
      | false =>
        simp only [h6] at h38
        simp (maxSteps := 2000000) only [stA, stM, stH, stQ, stE, stC, xI, xF, Nat.reduceLT, Nat.reduceEqDiff, reduceCtorEq, Nat.reduceAdd, Nat.reduceSub, Nat.reduceMul, Nat.max_def, reduceIte, Nat.reduceLeDiff, Nat.reduceBEq, Int.reduceEq, Int.reduceLE, Int.reduceLT, Int.reduceNeg, Int.reduceToNat, x15, stU, b15, Try.f15, dQN, qcs, encA, a1, a2, a3, a7, a11, h0, hX, e1, e3, e4, e5, List.getElem?_map, List.length_map, Int.toNat_natCast, h37, h38, D]
theorem loop15a {x : Ru} {R : List Row} {base : List Rl} {b : Bd} {gl : Tr (Option AV)} (hy : Hy x base) (ht : HyT x b) (hb : b.length < 1000000) (hr : (ats x.b).length = R.length) : ∀ (k i : Nat) (t : Tr AV) (H : Tr AO) (hs : Nat) (w w2 : Bool), i + k = (ats x.b).length → 1 < hs → H.get .dead 0 = .cells x.cs w → H.get .dead 1 = .cells (qcs b) w2 →
    t.get .any 1 = .lst .no (R.map encR) → t.get .any 2 = .lst .no (base.map encL) → t.get .any 3 = .ptr 0 0 → t.get .any 7 = .ptr 1 0 → t.get .any 9 = .lst .no ((ats x.b).map encA) → t.get .any 10 = .lit (.int .i64 i) →
    RetN (W tab none (fin tab fi15) (lpc fi15 0) (lpk fi15 0) ⟨t, 96, H, hs, [], ⟨true, true, gl⟩⟩) (.lit (.bool (goA b base ((ats x.b).drop i) (R.drop i) && (litA b base x.b && decide ((told x R).2 = 0))))) := by
  have D := d15
  have hnb := hy.nb
  simp only [stD, stC, List.cons.injEq, b15, Try.f15] at D
  have LB := fun t H hs => @loop15b x R base b gl hy ht hb x.b.length 0 t H hs
  simp only [stU, stC, b15, Try.f15] at LB
  simp only [stU, stC, b15, Try.f15]
  have hal : (ats x.b).length < 1000000 := Nat.lt_of_le_of_lt (List.length_filter_le _ _) hy.nb
  intro k
  induction k with
  | zero =>
    intro i t H hs w w2 hi h1 h0 hX a1 a2 a3 a7 a9 a10
    have e1 : decide ((i : Int) < ((ats x.b)).length) = false := by rw [decide_eq_false_iff_not]; omega
    rw [W_loop, List.drop_of_length_le (by omega), goA]
    · simp only [stA, stM, stH, stQ, stE, stC, xI, xF, Nat.reduceLT, Nat.reduceEqDiff, reduceCtorEq, Nat.reduceAdd, Nat.reduceSub, Nat.reduceMul, Nat.max_def, reduceIte, Nat.reduceLeDiff, Nat.reduceBEq, Int.reduceEq, Int.reduceLE, Int.reduceLT, Int.reduceNeg, Int.reduceToNat, x15, stU, b15, Try.f15, a1, a2, a3, a7, a9, a10, h0, hX, e1, List.length_map]
      apply LB _ _ _ w w2 (by simp) h1 h0 hX
      all_goals first | (simp only [stA, stM, stH, stQ, stE, stC, xI, xF, Nat.reduceLT, Nat.reduceEqDiff, reduceCtorEq, Nat.reduceAdd, Nat.reduceSub, Nat.reduceMul, Nat.max_def, reduceIte, Nat.reduceLeDiff, Nat.reduceBEq, Int.reduceEq, Int.reduceLE, Int.reduceLT, Int.reduceNeg, Int.reduceToNat, a1, a2, a3, a7, a9, a10]; done) | (simp only [stA, stM, stH, stQ, stE, stC, xI, xF, Nat.reduceLT, Nat.reduceEqDiff, reduceCtorEq, Nat.reduceAdd, Nat.reduceSub, Nat.reduceMul, Nat.max_def, reduceIte, Nat.reduceLeDiff, Nat.reduceBEq, Int.reduceEq, Int.reduceLE, Int.reduceLT, Int.reduceNeg, Int.reduceToNat]; rfl)
    · intro a l r rs h; cases h
  | succ k ih =>
    intro i t H hs w w2 hi h1 h0 hX a1 a2 a3 a7 a9 a10
    have hlt : i < ((ats x.b)).length := by omega
    have e1 : decide ((i : Int) < ((ats x.b)).length) = true := by rw [decide_eq_true_iff]; omega
    have e3 : decide (0 ≤ (i : Int)) = true := by rw [decide_eq_true_iff]; omega
    have e4 : ((ats x.b))[i]? = some ((ats x.b))[i] := List.getElem?_eq_getElem _
    have e6 : ((ats x.b)).drop i = ((ats x.b))[i] :: ((ats x.b)).drop (i + 1) := List.drop_eq_getElem_cons hlt
    have e7 : ((ats x.b)).take (i + 1) = ((ats x.b)).take i ++ [((ats x.b))[i]] := List.take_succ_eq_append_getElem hlt
    generalize hv : ((ats x.b))[i] = a at e4 e6 e7
    have e5 := wrap_succ (i := i) (by omega)
    have ha : a ∈ x.b := (List.mem_filter.1 (show a ∈ ats x.b from hv ▸ List.getElem_mem _)).1
    have hx : i < R.length := by omega
    have g1 : decide ((i : Int) < R.length) = true := by rw [decide_eq_true_iff]; omega
    have g4 : R[i]? = some R[i] := List.getElem?_eq_getElem _
    rw [W_loop, e6, List.drop_eq_getElem_cons hx, goA]
    generalize R[i] = r at g4
    have h35 := fun m H hs => @call35 m .no base a.n H hs (Nat.lt_trans hy.ns (by decide))
    have h34 := fun m H hs => @call34 m .no .no (ofL base a.n) r H hs (hy.nr _) (hy.ne _)
    have h36 := fun m H hs => @call36 m .no .no b a.l r H hs hb (hy.na a ha) (ht a ha)
    simp only [encQ] at h36
    unfold hasR
    cases h5 : (ofL base a.n).any fun e => decide (rcmp e.r r = 0) with
    | false =>
      simp only [h5] at h34
      simp (maxSteps := 2000000) only [stA, stM, stH, stQ, stE, stC, xI, xF, Nat.reduceLT, Nat.reduceEqDiff, reduceCtorEq, Nat.reduceAdd, Nat.reduceSub, Nat.reduceMul, Nat.max_def, reduceIte, Nat.reduceLeDiff, Nat.reduceBEq, Int.reduceEq, Int.reduceLE, Int.reduceLT, Int.reduceNeg, Int.reduceToNat, x15, stU, b15, Try.f15, dQN, qcs, encA, encR, a1, a2, a3, a7, a9, a10, h0, hX, e1, e3, e4, e5, List.getElem?_map, List.length_map, Int.toNat_natCast, g1, g4, bares_L, h35, h34, D]
    | true =>
      simp only [h5] at h34
      cases h6 : goes b a.l r with
      | true =>
        simp only [h6] at h36
        simp (maxSteps := 2000000) only [stA, stM, stH, stQ, stE, stC, xI, xF, Nat.reduceLT, Nat.reduceEqDiff, reduceCtorEq, Nat.reduceAdd, Nat.reduceSub, Nat.reduceMul, Nat.max_def, reduceIte, Nat.reduceLeDiff, Nat.reduceBEq, Int.reduceEq, Int.reduceLE, Int.reduceLT, Int.reduceNeg, Int.reduceToNat, x15, stU, b15, Try.f15, dQN, qcs, encA, encR, a1, a2, a3, a7, a9, a10, h0, hX, e1, e3, e4, e5, List.getElem?_map, List.length_map, Int.toNat_natCast, g1, g4, bares_L, h35, h34, h36, D]
        apply ih (i + 1) _ _ _ w w2 (by omega) h1 h0 hX
        all_goals simp only [stA, stM, stH, stQ, stE, stC, xI, xF, Nat.reduceLT, Nat.reduceEqDiff, reduceCtorEq, Nat.reduceAdd, Nat.reduceSub, Nat.reduceMul, Nat.max_def, reduceIte, Nat.reduceLeDiff, Nat.reduceBEq, Int.reduceEq, Int.reduceLE, Int.reduceLT, Int.reduceNeg, Int.reduceToNat, a1, a2, a3, a7, a9, a10]
      | false =>
        simp only [h6] at h36
        simp (maxSteps := 2000000) only [stA, stM, stH, stQ, stE, stC, xI, xF, Nat.reduceLT, Nat.reduceEqDiff, reduceCtorEq, Nat.reduceAdd, Nat.reduceSub, Nat.reduceMul, Nat.max_def, reduceIte, Nat.reduceLeDiff, Nat.reduceBEq, Int.reduceEq, Int.reduceLE, Int.reduceLT, Int.reduceNeg, Int.reduceToNat, x15, stU, b15, Try.f15, dQN, qcs, encA, encR, a1, a2, a3, a7, a9, a10, h0, hX, e1, e3, e4, e5, List.getElem?_map, List.length_map, Int.toNat_natCast, g1, g4, bares_L, h35, h34, h36, D]
theorem eq15 {m : Md} {x : Ru} {R : List Row} {base : List Rl} (hy : Hy x base) (hx : ∀ a ∈ x.b, ∀ t ∈ a.l, OkV t.v) (hv : ∀ r ∈ R, ∀ v ∈ r, OkV v) : iso tab fi15 m [encX x, .lst .no (R.map encR), .lst .no (base.map encL)] = some (.lit (.bool (holds x R base))) := by
  refine iso_ret ?_
  have hC : ∀ (m : Md) (H : Tr AO) (hs : Nat), callF tab (evw tab) m 27 [encX x, .lst .no (R.map encR)] H hs = some (encQ2 (binds x R), H, hs) := fun _ _ _ => call27 hy.nb hy.nt
  have hC2 : ∀ (m : Md) (H : Tr AO) (hs : Nat), callF tab (evw tab) m 33 [encX x] H hs = some (.lst .no ((ats x.b).map encA), H, hs) := fun _ _ _ => call33 hy.nb
  unfold holds
  cases hb : (binds x R).2 with
  | false =>
    simp only [encX, encQ2, encQ, hb] at hC
    simp only [stA, stM, stH, stQ, stE, stC, xI, xF, Nat.reduceLT, Nat.reduceEqDiff, reduceCtorEq, Nat.reduceAdd, Nat.reduceSub, Nat.reduceMul, Nat.max_def, reduceIte, Nat.reduceLeDiff, Nat.reduceBEq, Int.reduceEq, Int.reduceLE, Int.reduceLT, Int.reduceNeg, Int.reduceToNat, x15, stU, b15, Try.f15, encX, hC, Bool.false_and]
  | true =>
    have hl := binds_yes hb
    have L := @loop15a x R base (binds x R).1 m.gl hy (binds_T hx hv) (binds_lt hy.nt) hl (ats x.b).length 0
    simp only [stU, stC, b15, Try.f15] at L
    simp only [encX, encQ2, encQ, hb] at hC hC2
    rw [Bool.true_and]
    simp only [stA, stM, stH, stQ, stE, stC, xI, xF, Nat.reduceLT, Nat.reduceEqDiff, reduceCtorEq, Nat.reduceAdd, Nat.reduceSub, Nat.reduceMul, Nat.max_def, reduceIte, Nat.reduceLeDiff, Nat.reduceBEq, Int.reduceEq, Int.reduceLE, Int.reduceLT, Int.reduceNeg, Int.reduceToNat, x15, stU, b15, Try.f15, encX, hC, hC2, List.length_map]
    have L2 := fun t H hs w w2 => L t H hs w w2 (by simp)
    apply L2 _ _ _ false false
    all_goals first | decide | (simp only [stA, stM, stH, stQ, stE, stC, xI, xF, Nat.reduceLT, Nat.reduceEqDiff, reduceCtorEq, Nat.reduceAdd, Nat.reduceSub, Nat.reduceMul, Nat.max_def, reduceIte, Nat.reduceLeDiff, Nat.reduceBEq, Int.reduceEq, Int.reduceLE, Int.reduceLT, Int.reduceNeg, Int.reduceToNat]; done) | (simp only [stA, stM, stH, stQ, stE, stC, xI, xF, Nat.reduceLT, Nat.reduceEqDiff, reduceCtorEq, Nat.reduceAdd, Nat.reduceSub, Nat.reduceMul, Nat.max_def, reduceIte, Nat.reduceLeDiff, Nat.reduceBEq, Int.reduceEq, Int.reduceLE, Int.reduceLT, Int.reduceNeg, Int.reduceToNat]; rfl)
theorem call15 {m : Md} {k1 k2 : ATk} {x : Ru} {R : List Row} {base : List Rl} {H : Tr AO} {hs : Nat} (hy : Hy x base) (hx : ∀ a ∈ x.b, ∀ t ∈ a.l, OkV t.v) (hv : ∀ r ∈ R, ∀ v ∈ r, OkV v) : callF tab (evw tab) m 15 [encX x, .lst k1 (R.map encR), .lst k2 (base.map encL)] H hs = some (.lit (.bool (holds x R base)), H, hs) :=
  callF_iso tcon rfl rfl (by simp only [stA, stM, stH, stQ, stE, stC, xI, xF, Nat.reduceLT, Nat.reduceEqDiff, reduceCtorEq, Nat.reduceAdd, Nat.reduceSub, Nat.reduceMul, Nat.max_def, reduceIte, Nat.reduceLeDiff, Nat.reduceBEq, Int.reduceEq, Int.reduceLE, Int.reduceLT, Int.reduceNeg, Int.reduceToNat, dBN]) (by have := @eq15 m x R base hy hx hv; simp only [stA, stM, stH, stQ, stE, stC, xI, xF, Nat.reduceLT, Nat.reduceEqDiff, reduceCtorEq, Nat.reduceAdd, Nat.reduceSub, Nat.reduceMul, Nat.max_def, reduceIte, Nat.reduceLeDiff, Nat.reduceBEq, Int.reduceEq, Int.reduceLE, Int.reduceLT, Int.reduceNeg, Int.reduceToNat, dBN] at this ⊢; exact this)
end Go.Proofs.Ytpehpccahbofiaa.Ev

set_option maxRecDepth 100000
set_option maxHeartbeats 4000000
namespace Go.Proofs.Ytpehpccahbofiaa.Ev
open Go Go.Proofs.Ytpehpccahbofiaa.Ev Go.Proofs Go.Proofs.Ytpehpccahbofiaa Go.Proofs.Ytpehpccahbofiaa.Tab

theorem tt26s : ∃ i, tab.t 26 = some i ∧ i.size = 1 := ⟨_, rfl, rfl⟩
theorem call31_32 {m : Md} {l : List En} {r : Row} {H : Tr AO} {hs o : Nat} {w : Bool} (hl : l.length < 1000000) (ha : ∀ e ∈ l, e.r.length < 1000000) (h0 : H.get .dead o = .cells [.lst .no (r.map encV)] w) :
    callF tab (evw tab) m 31 [.lst .no (l.map encE), .fn (.func 32) [] [.ptr o 0]] H hs = some (.lit (.bool (l.any fun e => decide (rcmp e.r r = 0))), H, hs) := by
  obtain ⟨i, i1, i2⟩ := tt26s
  have hp0 : frz tab 29 1000026 (.ptr o 0) H = some (.eptr [.lst .no (r.map encV)], H.put .dead o (.cells [.lst .no (r.map encV)] true)) := by
    rw [frz_ptr (d := 27) (e := 26) (l := [.lst .no (r.map encV)]) (by rfl) i1 h0 (by unfold rd; rw [h0, i2]; rfl) (by rfl) (by simp only [bares, bare, dBN, Bool.and_self])]
    simp only [nrms, nrm, dBN]
  have hf : frz tab 30 76 (.fn (.func 32) [] [.ptr o 0]) H = some (.fn (.func 32) [] [.eptr [.lst .no (r.map encV)]], H.put .dead o (.cells [.lst .no (r.map encV)] true)) := by
    refine frz_fn (fi := fi32) (d := 29) rfl ?_ rfl
    show frzL (frz tab 29) [1000026] [.ptr o 0] H = _
    simp only [frzL, hp0]
  refine callF_own (H1 := H.put .dead o (.cells [.lst .no (r.map encV)] true)) tcon rfl rfl rfl (bs := [.lst .no (l.map encE), .fn (.func 32) [] [.eptr [.lst .no (r.map encV)]]]) ?_ (by simp only [stA, stM, stH, stQ, stE, stC, xI, xF, Nat.reduceLT, Nat.reduceEqDiff, reduceCtorEq, Nat.reduceAdd, Nat.reduceSub, Nat.reduceMul, Nat.max_def, reduceIte, Nat.reduceLeDiff, Nat.reduceBEq, Int.reduceEq, Int.reduceLE, Int.reduceLT, Int.reduceNeg, Int.reduceToNat, dBN, dQN]) (by have := @eq31_32 m l r hl ha; simp only [stA, stM, stH, stQ, stE, stC, xI, xF, Nat.reduceLT, Nat.reduceEqDiff, reduceCtorEq, Nat.reduceAdd, Nat.reduceSub, Nat.reduceMul, Nat.max_def, reduceIte, Nat.reduceLeDiff, Nat.reduceBEq, Int.reduceEq, Int.reduceLE, Int.reduceLT, Int.reduceNeg, Int.reduceToNat, dBN, dQN, Lt.cs] at this ⊢; exact this)
  simp only [bares, bare, dBN, Bool.true_and, Bool.false_and, cond_false]
  show frzL (frz tab 30) [48, 76] [.lst .no (l.map encE), .fn (.func 32) [] [.ptr o 0]] H = _
  rw [frzL, frz_bare (d := 29) (v := .lst .no (l.map encE)) (by simp only [bare, dBN])]
  simp only [frzL, hf, nrm, dBN]

def goB (b : Bd) (base : List Rl) : List Lt → List Row → Bool
  | [], _ => true
  | a :: l, R => bif isAt a then (R.head?.elim true fun r => goes b a.l r && hasR base a.n r) && goB b base l R.tail else lit b a base && goB b base l R
theorem goB_eq {b : Bd} {base : List Rl} : ∀ {l : List Lt} {R : List Row}, (ats l).length = R.length → goB b base l R = (goA b base (ats l) R && litA b base l)
  | [], R, _ => by cases R <;> rfl
  | a :: l, R, h => by
    cases ha : isAt a with
    | true =>
      have e : ats (a :: l) = a :: ats l := by simp [ats, ha]
      rw [e] at h ⊢
      match R, h with
      | r :: rs, h =>
        have ih := goB_eq (b := b) (base := base) (l := l) (R := rs) (by simpa using h)
        rw [goB, ha, cond_true, List.tail_cons, ih, goA, List.head?_cons, Option.elim_some]
        simp only [litA, List.all_cons, ha, Bool.true_or, Bool.true_and]
        cases goes b a.l r <;> cases hasR base a.n r <;> simp
    | false =>
      have e : ats (a :: l) = ats l := by simp [ats, ha]
      rw [e] at h ⊢
      have ih := goB_eq (b := b) (base := base) (l := l) (R := R) h
      rw [goB, ha, cond_false, ih]
      simp only [litA, List.all_cons, ha, Bool.false_or]
      cases lit b a base <;> simp
theorem loop14 {x : Ru} {R : List Row} {base : List Rl} {b : Bd} {gl : Tr (Option AV)} (hy : Hy x base) : ∀ (k i j : Nat) (t : Tr AV) (H : Tr AO) (hs : Nat) (w : Bool), i + k = x.b.length → j ≤ i → j + (ats (x.b.drop i)).length = R.length → 0 < hs → H.get .dead 0 = .cells x.cs w →
    t.get .any 1 = .lst .no (R.map encR) → t.get .any 2 = .lst .no (base.map encL) → t.get .any 3 = .ptr 0 0 → t.get .any 7 = encM b → t.get .any 9 = .lit (.int .i64 j) → t.get .any 24 = .lst .no (x.b.map encA) → t.get .any 25 = .lit (.int .i64 x.b.length) → t.get .any 26 = .lit (.int .i64 i) →
    RetO tab fi14 (W tab none (fin tab fi14) (lpc fi14 0) (lpk fi14 0) ⟨t, 72, H, hs, [], ⟨true, true, gl⟩⟩) (.lit (.bool (goB b base (x.b.drop i) (R.drop j) && decide ((told x R).2 = 0)))) := by
  have hnb := hy.nb
  simp only [stU, stC, b14, Try.f14]
  intro k
  induction k with
  | zero =>
    intro i j t H hs w hi hji hj h1 h0 a1 a2 a3 a7 a9 a24 a25 a26
    have e1 : decide ((i : Int) < (x.b).length) = false := by rw [decide_eq_false_iff_not]; omega
    rw [W_loop, show x.b.drop i = [] from List.drop_of_length_le (by omega)]
    have hC := fun m H hs => @call12 m .no x R H hs hy.nb hy.nt hy.nh
    simp only [encX, encTd] at hC
    cases h5 : decide ((told x R).2 = 0) <;> (simp only [stA, stM, stH, stQ, stE, stC, xI, xF, Nat.reduceLT, Nat.reduceEqDiff, reduceCtorEq, Nat.reduceAdd, Nat.reduceSub, Nat.reduceMul, Nat.max_def, reduceIte, Nat.reduceLeDiff, Nat.reduceBEq, Int.reduceEq, Int.reduceLE, Int.reduceLT, Int.reduceNeg, Int.reduceToNat, x14, stU, b14, Try.f14, a1, a2, a3, a7, a9, a24, a25, a26, h0, e1, List.length_map, hC, h5, goB]; rfl)
  | succ k ih =>
    intro i j t H hs w hi hji hj h1 h0 a1 a2 a3 a7 a9 a24 a25 a26
    have nl0_0 : (hs = 0) = False := eq_false (by omega)
    have nr0_0 : (0 = hs) = False := eq_false (by omega)
    have nl0_1 : (hs + 1 = 0) = False := eq_false (by omega)
    have nr0_1 : (0 = hs + 1) = False := eq_false (by omega)
    have nl0_2 : (hs + 2 = 0) = False := eq_false (by omega)
    have nr0_2 : (0 = hs + 2) = False := eq_false (by omega)
    have nl0_3 : (hs + 3 = 0) = False := eq_false (by omega)
    have nr0_3 : (0 = hs + 3) = False := eq_false (by omega)
    have nl0_4 : (hs + 4 = 0) = False := eq_false (by omega)
    have nr0_4 : (0 = hs + 4) = False := eq_false (by omega)
    have hlt : i < (x.b).length := by omega
    have e1 : decide ((i : Int) < (x.b).length) = true := by rw [decide_eq_true_iff]; omega
    have e3 : decide (0 ≤ (i : Int)) = true := by rw [decide_eq_true_iff]; omega
    have e4 : (x.b)[i]? = some (x.b)[i] := List.getElem?_eq_getElem _
    have e6 : (x.b).drop i = (x.b)[i] :: (x.b).drop (i + 1) := List.drop_eq_getElem_cons hlt
    have e7 : (x.b).take (i + 1) = (x.b).take i ++ [(x.b)[i]] := List.take_succ_eq_append_getElem hlt
    generalize hv : (x.b)[i] = a at e4 e6 e7
    have e5 := wrap_succ (i := i) (by omega)
    have ha : a ∈ x.b := hv ▸ List.getElem_mem _
    have h29 := fun m H hs => @call29 m .no b a base H hs hy.ns hy.nr (hy.na a ha)
    simp only [Lt.cs] at h29
    rw [e6] at hj
    rw [W_loop, e6, goB]
    cases hA : isAt a with
    | true =>
      have h6 := hA
      simp only [isAt, Bool.and_eq_true] at h6
      have h2 : a.no = false := by cases hx : a.no <;> simp [hx] at h6 ⊢
      have h3 := h6.1
      rw [cond_true]
      have hj2 : j + ((ats (x.b.drop (i + 1))).length + 1) = R.length := by
        rw [show ats (a :: x.b.drop (i + 1)) = a :: ats (x.b.drop (i + 1)) by simp [ats, hA], List.length_cons] at hj
        exact hj
      have hx : j < R.length := by omega
      have g1 : decide ((j : Int) < R.length) = true := by rw [decide_eq_true_iff]; omega
      have g0 : decide (0 ≤ (j : Int)) = true := by rw [decide_eq_true_iff]; omega
      have g4 : R[j]? = some R[j] := List.getElem?_eq_getElem _
      have hlen : (ats (x.b.drop (i + 1))).length ≤ x.b.length := Nat.le_trans (List.length_filter_le _ _) (by rw [List.length_drop]; omega)
      have g5 := wrap_succ (i := j) (by omega)
      rw [List.drop_eq_getElem_cons hx]
      generalize R[j] = r at g4
      rw [List.head?_cons, Option.elim_some, List.tail_cons]
      have h30 := fun m H hs => @call30 m .no .no b a.l r H hs (hy.na a ha)
      have h23 := fun m H hs => @call23 m .no base a.n H hs hy.ns
      have h31 := fun m H hs o h => @call31_32 m (ofL base a.n) r H hs o false (hy.nr _) (fun e he => (hy.ne _ e he).1) h
      simp only [encM] at h30
      unfold hasR
      cases h7 : goes b a.l r with
      | false =>
        simp only [h7] at h30
        simp (maxSteps := 2000000) only [stA, stM, stH, stQ, stE, stC, xI, xF, Nat.reduceLT, Nat.reduceEqDiff, reduceCtorEq, Nat.reduceAdd, Nat.reduceSub, Nat.reduceMul, Nat.max_def, reduceIte, Nat.reduceLeDiff, Nat.reduceBEq, Int.reduceEq, Int.reduceLE, Int.reduceLT, Int.reduceNeg, Int.reduceToNat, x14, stU, b14, Try.f14, encA, encR, encM, a1, a2, a3, a7, a9, a24, a25, a26, h0, e1, e3, e4, e5, List.getElem?_map, List.length_map, Int.toNat_natCast, g1, g0, g4, g5, h2, h3, h30, nl0_0, nr0_0, nl0_1, nr0_1, nl0_2, nr0_2, nl0_3, nr0_3, nl0_4, nr0_4]
        rfl
      | true =>
        simp only [h7] at h30
        cases h8 : (ofL base a.n).any fun e => decide (rcmp e.r r = 0) with
        | false =>
          simp only [h8] at h31
          simp (maxSteps := 2000000) only [stA, stM, stH, stQ, stE, stC, xI, xF, Nat.reduceLT, Nat.reduceEqDiff, reduceCtorEq, Nat.reduceAdd, Nat.reduceSub, Nat.reduceMul, Nat.max_def, reduceIte, Nat.reduceLeDiff, Nat.reduceBEq, Int.reduceEq, Int.reduceLE, Int.reduceLT, Int.reduceNeg, Int.reduceToNat, x14, stU, b14, Try.f14, encA, encR, encM, a1, a2, a3, a7, a9, a24, a25, a26, h0, e1, e3, e4, e5, List.getElem?_map, List.length_map, Int.toNat_natCast, g1, g0, g4, g5, h2, h3, h30, h23, h31, nl0_0, nr0_0, nl0_1, nr0_1, nl0_2, nr0_2, nl0_3, nr0_3, nl0_4, nr0_4]
          rfl
        | true =>
          simp only [h8] at h31
          simp (maxSteps := 2000000) only [stA, stM, stH, stQ, stE, stC, xI, xF, Nat.reduceLT, Nat.reduceEqDiff, reduceCtorEq, Nat.reduceAdd, Nat.reduceSub, Nat.reduceMul, Nat.max_def, reduceIte, Nat.reduceLeDiff, Nat.reduceBEq, Int.reduceEq, Int.reduceLE, Int.reduceLT, Int.reduceNeg, Int.reduceToNat, x14, stU, b14, Try.f14, encA, encR, encM, a1, a2, a3, a7, a9, a24, a25, a26, h0, e1, e3, e4, e5, List.getElem?_map, List.length_map, Int.toNat_natCast, g1, g0, g4, g5, h2, h3, h30, h23, h31, nl0_0, nr0_0, nl0_1, nr0_1, nl0_2, nr0_2, nl0_3, nr0_3, nl0_4, nr0_4]
          apply ih (i + 1) (j + 1) _ _ _ w (by omega) (by omega) (by omega) (by omega)
          all_goals simp only [stA, stM, stH, stQ, stE, stC, xI, xF, Nat.reduceLT, Nat.reduceEqDiff, reduceCtorEq, Nat.reduceAdd, Nat.reduceSub, Nat.reduceMul, Nat.max_def, reduceIte, Nat.reduceLeDiff, Nat.reduceBEq, Int.reduceEq, Int.reduceLE, Int.reduceLT, Int.reduceNeg, Int.reduceToNat, encM, h0, a1, a2, a3, a7, a9, a24, a25, a26, nl0_0, nr0_0, nl0_1, nr0_1, nl0_2, nr0_2, nl0_3, nr0_3, nl0_4, nr0_4]
    | false =>
      rw [cond_false]
      have hj2 : j + (ats (x.b.drop (i + 1))).length = R.length := by
        rw [show ats (a :: x.b.drop (i + 1)) = ats (x.b.drop (i + 1)) by simp [ats, hA]] at hj
        exact hj
      cases h7 : lit b a base with
      | false =>
        simp only [h7] at h29
        cases h3 : decide (a.o = 0) with
        | false =>
          simp (maxSteps := 2000000) only [stA, stM, stH, stQ, stE, stC, xI, xF, Nat.reduceLT, Nat.reduceEqDiff, reduceCtorEq, Nat.reduceAdd, Nat.reduceSub, Nat.reduceMul, Nat.max_def, reduceIte, Nat.reduceLeDiff, Nat.reduceBEq, Int.reduceEq, Int.reduceLE, Int.reduceLT, Int.reduceNeg, Int.reduceToNat, x14, stU, b14, Try.f14, encA, encR, encM, a1, a2, a3, a7, a9, a24, a25, a26, h0, e1, e3, e4, e5, List.getElem?_map, List.length_map, Int.toNat_natCast, h3, h29, nl0_0, nr0_0, nl0_1, nr0_1, nl0_2, nr0_2, nl0_3, nr0_3, nl0_4, nr0_4]
          rfl
        | true =>
          have h2 : a.no = true := by cases hx : a.no <;> simp_all [isAt]
          simp only [h2] at h29
          simp (maxSteps := 2000000) only [stA, stM, stH, stQ, stE, stC, xI, xF, Nat.reduceLT, Nat.reduceEqDiff, reduceCtorEq, Nat.reduceAdd, Nat.reduceSub, Nat.reduceMul, Nat.max_def, reduceIte, Nat.reduceLeDiff, Nat.reduceBEq, Int.reduceEq, Int.reduceLE, Int.reduceLT, Int.reduceNeg, Int.reduceToNat, x14, stU, b14, Try.f14, encA, encR, encM, a1, a2, a3, a7, a9, a24, a25, a26, h0, e1, e3, e4, e5, List.getElem?_map, List.length_map, Int.toNat_natCast, h2, h3, h29, nl0_0, nr0_0, nl0_1, nr0_1, nl0_2, nr0_2, nl0_3, nr0_3, nl0_4, nr0_4]
          rfl
      | true =>
        simp only [h7] at h29
        cases h3 : decide (a.o = 0) with
        | false =>
          simp (maxSteps := 2000000) only [stA, stM, stH, stQ, stE, stC, xI, xF, Nat.reduceLT, Nat.reduceEqDiff, reduceCtorEq, Nat.reduceAdd, Nat.reduceSub, Nat.reduceMul, Nat.max_def, reduceIte, Nat.reduceLeDiff, Nat.reduceBEq, Int.reduceEq, Int.reduceLE, Int.reduceLT, Int.reduceNeg, Int.reduceToNat, x14, stU, b14, Try.f14, encA, encR, encM, a1, a2, a3, a7, a9, a24, a25, a26, h0, e1, e3, e4, e5, List.getElem?_map, List.length_map, Int.toNat_natCast, h3, h29, nl0_0, nr0_0, nl0_1, nr0_1, nl0_2, nr0_2, nl0_3, nr0_3, nl0_4, nr0_4]
          apply ih (i + 1) j _ _ _ w (by omega) (by omega) (by omega) (by omega)
          all_goals simp only [stA, stM, stH, stQ, stE, stC, xI, xF, Nat.reduceLT, Nat.reduceEqDiff, reduceCtorEq, Nat.reduceAdd, Nat.reduceSub, Nat.reduceMul, Nat.max_def, reduceIte, Nat.reduceLeDiff, Nat.reduceBEq, Int.reduceEq, Int.reduceLE, Int.reduceLT, Int.reduceNeg, Int.reduceToNat, encM, h0, a1, a2, a3, a7, a9, a24, a25, a26, nl0_0, nr0_0, nl0_1, nr0_1, nl0_2, nr0_2, nl0_3, nr0_3, nl0_4, nr0_4]
        | true =>
          have h2 : a.no = true := by cases hx : a.no <;> simp_all [isAt]
          simp only [h2] at h29
          simp (maxSteps := 2000000) only [stA, stM, stH, stQ, stE, stC, xI, xF, Nat.reduceLT, Nat.reduceEqDiff, reduceCtorEq, Nat.reduceAdd, Nat.reduceSub, Nat.reduceMul, Nat.max_def, reduceIte, Nat.reduceLeDiff, Nat.reduceBEq, Int.reduceEq, Int.reduceLE, Int.reduceLT, Int.reduceNeg, Int.reduceToNat, x14, stU, b14, Try.f14, encA, encR, encM, a1, a2, a3, a7, a9, a24, a25, a26, h0, e1, e3, e4, e5, List.getElem?_map, List.length_map, Int.toNat_natCast, h2, h3, h29, nl0_0, nr0_0, nl0_1, nr0_1, nl0_2, nr0_2, nl0_3, nr0_3, nl0_4, nr0_4]
          apply ih (i + 1) j _ _ _ w (by omega) (by omega) (by omega) (by omega)
          all_goals simp only [stA, stM, stH, stQ, stE, stC, xI, xF, Nat.reduceLT, Nat.reduceEqDiff, reduceCtorEq, Nat.reduceAdd, Nat.reduceSub, Nat.reduceMul, Nat.max_def, reduceIte, Nat.reduceLeDiff, Nat.reduceBEq, Int.reduceEq, Int.reduceLE, Int.reduceLT, Int.reduceNeg, Int.reduceToNat, encM, h0, a1, a2, a3, a7, a9, a24, a25, a26, nl0_0, nr0_0, nl0_1, nr0_1, nl0_2, nr0_2, nl0_3, nr0_3, nl0_4, nr0_4]
theorem eq14 {m : Md} {x : Ru} {R : List Row} {base : List Rl} (hy : Hy x base) : isoO (evw tab) tab fi14 m [encX x, .lst .no (R.map encR), .lst .no (base.map encL)] = some (.lit (.bool (holds x R base))) := by
  refine own_ret ?_
  have hC : ∀ (m : Md) (H : Tr AO) (hs : Nat), callF tab (evw tab) m 26 [encX x, .lst .no (R.map encR)] H hs = some (encM2 (binds x R), H, hs) := fun _ _ _ => call26 hy.nb hy.nt
  unfold holds
  cases hb : (binds x R).2 with
  | false =>
    simp only [encX, encM2, hb, cond_false] at hC
    simp only [stA, stM, stH, stQ, stE, stC, xI, xF, Nat.reduceLT, Nat.reduceEqDiff, reduceCtorEq, Nat.reduceAdd, Nat.reduceSub, Nat.reduceMul, Nat.max_def, reduceIte, Nat.reduceLeDiff, Nat.reduceBEq, Int.reduceEq, Int.reduceLE, Int.reduceLT, Int.reduceNeg, Int.reduceToNat, x14, stU, b14, Try.f14, encX, hC]
    rfl
  | true =>
    have hl := binds_yes hb
    simp only [encX, encM2, hb, cond_true, encM] at hC
    rw [Bool.true_and, ← Bool.and_assoc, ← goB_eq hl]
    have L := @loop14 x R base (binds x R).1 m.gl hy x.b.length 0 0
    simp only [stU, stC, b14, Try.f14] at L
    have L2 := fun t H hs w => L t H hs w (by simp) (by simp) (by simpa using hl)
    simp only [stA, stM, stH, stQ, stE, stC, xI, xF, Nat.reduceLT, Nat.reduceEqDiff, reduceCtorEq, Nat.reduceAdd, Nat.reduceSub, Nat.reduceMul, Nat.max_def, reduceIte, Nat.reduceLeDiff, Nat.reduceBEq, Int.reduceEq, Int.reduceLE, Int.reduceLT, Int.reduceNeg, Int.reduceToNat, x14, stU, b14, Try.f14, encX, hC, List.length_map]
    apply L2 _ _ _ false
    all_goals first | decide | (simp only [stA, stM, stH, stQ, stE, stC, xI, xF, Nat.reduceLT, Nat.reduceEqDiff, reduceCtorEq, Nat.reduceAdd, Nat.reduceSub, Nat.reduceMul, Nat.max_def, reduceIte, Nat.reduceLeDiff, Nat.reduceBEq, Int.reduceEq, Int.reduceLE, Int.reduceLT, Int.reduceNeg, Int.reduceToNat]; done) | (simp only [stA, stM, stH, stQ, stE, stC, xI, xF, Nat.reduceLT, Nat.reduceEqDiff, reduceCtorEq, Nat.reduceAdd, Nat.reduceSub, Nat.reduceMul, Nat.max_def, reduceIte, Nat.reduceLeDiff, Nat.reduceBEq, Int.reduceEq, Int.reduceLE, Int.reduceLT, Int.reduceNeg, Int.reduceToNat, encM]; done) | (simp only [stA, stM, stH, stQ, stE, stC, xI, xF, Nat.reduceLT, Nat.reduceEqDiff, reduceCtorEq, Nat.reduceAdd, Nat.reduceSub, Nat.reduceMul, Nat.max_def, reduceIte, Nat.reduceLeDiff, Nat.reduceBEq, Int.reduceEq, Int.reduceLE, Int.reduceLT, Int.reduceNeg, Int.reduceToNat]; rfl)
theorem call14 {m : Md} {k1 k2 : ATk} {x : Ru} {R : List Row} {base : List Rl} {H : Tr AO} {hs : Nat} (hy : Hy x base) : callF tab (evw tab) m 14 [encX x, .lst k1 (R.map encR), .lst k2 (base.map encL)] H hs = some (.lit (.bool (holds x R base)), H, hs) :=
  callF_own (H1 := H) tcon rfl rfl rfl (bs := [encX x, .lst k1 (R.map encR), .lst k2 (base.map encL)]) (by simp only [stA, stM, stH, stQ, stE, stC, xI, xF, Nat.reduceLT, Nat.reduceEqDiff, reduceCtorEq, Nat.reduceAdd, Nat.reduceSub, Nat.reduceMul, Nat.max_def, reduceIte, Nat.reduceLeDiff, Nat.reduceBEq, Int.reduceEq, Int.reduceLE, Int.reduceLT, Int.reduceNeg, Int.reduceToNat, dBN]) (by simp only [stA, stM, stH, stQ, stE, stC, xI, xF, Nat.reduceLT, Nat.reduceEqDiff, reduceCtorEq, Nat.reduceAdd, Nat.reduceSub, Nat.reduceMul, Nat.max_def, reduceIte, Nat.reduceLeDiff, Nat.reduceBEq, Int.reduceEq, Int.reduceLE, Int.reduceLT, Int.reduceNeg, Int.reduceToNat, dBN]) (by have := @eq14 m x R base hy; simp only [stA, stM, stH, stQ, stE, stC, xI, xF, Nat.reduceLT, Nat.reduceEqDiff, reduceCtorEq, Nat.reduceAdd, Nat.reduceSub, Nat.reduceMul, Nat.max_def, reduceIte, Nat.reduceLeDiff, Nat.reduceBEq, Int.reduceEq, Int.reduceLE, Int.reduceLT, Int.reduceNeg, Int.reduceToNat, dBN] at this ⊢; exact this)
end Go.Proofs.Ytpehpccahbofiaa.Ev
