import Derived.Test.YtpehpccahbofiaaXH
set_option linter.all false
set_option maxRecDepth 100000
set_option maxHeartbeats 4000000
namespace Go.Proofs.Ytpehpccahbofiaa.Ev
open Go Go.Proofs.Ytpehpccahbofiaa.Ev Go.Proofs Go.Proofs.Ytpehpccahbofiaa Go.Proofs.Ytpehpccahbofiaa.Tab

/-! ### Does a row go with a literal's terms? -/
def goL (b : Bd) : List Tm → Row → Bool
  | t :: l, v :: r => (t.a || decide (vcmp ((term b t).getD v0) v = 0)) && goL b l r
  | _, _ => true
def goes (b : Bd) (l : List Tm) (r : Row) : Bool := decide ((l.length : Int) = r.length) && goL b l r
theorem loop30 {b : Bd} {l : List Tm} {r : Row} {gl : Tr (Option AV)} (hl : l.length < 1000000) (hr : l.length = r.length) : ∀ (k i : Nat) (t : Tr AV) (H : Tr AO) (hs : Nat), i + k = l.length →
    t.get .any 0 = encM b → t.get .any 2 = encR r → t.get .any 16 = .lst .no (l.map encT) → t.get .any 17 = .lit (.int .i64 l.length) → t.get .any 18 = .lit (.int .i64 i) →
    RetN (W tab none (fin tab fi30) (lpc fi30 0) (lpk fi30 0) ⟨t, 42, H, hs, [], ⟨true, true, gl⟩⟩) (.lit (.bool (goL b (l.drop i) (r.drop i)))) := by
  have C : ∀ (a b : Vl) (m : Md) (H : Tr AO) (hs : Nat), callF tab (evw tab) m 56 [.agg a.cs, .agg b.cs] H hs = some (.lit (.int .i64 (vcmp a b)), H, hs) := fun _ _ _ _ _ => call56
  have C2 : ∀ (t : Tm) (m : Md) (H : Tr AO) (hs : Nat), callF tab (evw tab) m 53 [encM b, .agg t.cs] H hs = some (encO (term b t), H, hs) := fun _ _ _ _ => call53
  simp only [Vl.cs, Tm.cs, encM] at C C2
  have D := d30
  simp only [stD, stC, List.cons.injEq, b30, Try.f30] at D
  simp only [stU, stC, b30, Try.f30]
  intro k
  induction k with
  | zero =>
    intro i t H hs hi a0 a2 a16 a17 a18
    have e1 : decide ((i : Int) < (l).length) = false := by rw [decide_eq_false_iff_not]; omega
    rw [W_loop, List.drop_of_length_le (by omega)]
    simp only [stA, stM, stH, stQ, stE, stC, xI, xF, Nat.reduceLT, Nat.reduceEqDiff, reduceCtorEq, Nat.reduceAdd, Nat.reduceSub, Nat.reduceMul, Nat.max_def, reduceIte, Nat.reduceLeDiff, Nat.reduceBEq, Int.reduceEq, Int.reduceLE, Int.reduceLT, Int.reduceNeg, Int.reduceToNat, x30, stU, b30, Try.f30, a0, a2, a16, a17, a18, e1, goL]
  | succ k ih =>
    intro i t H hs hi a0 a2 a16 a17 a18
    have hlt : i < (l).length := by omega
    have e1 : decide ((i : Int) < (l).length) = true := by rw [decide_eq_true_iff]; omega
    have e3 : decide (0 ≤ (i : Int)) = true := by rw [decide_eq_true_iff]; omega
    have e4 : (l)[i]? = some (l)[i] := List.getElem?_eq_getElem _
    have e6 : (l).drop i = (l)[i] :: (l).drop (i + 1) := List.drop_eq_getElem_cons hlt
    have e7 : (l).take (i + 1) = (l).take i ++ [(l)[i]] := List.take_succ_eq_append_getElem hlt
    generalize hv : (l)[i] = u at e4 e6 e7
    have e5 := wrap_succ (i := i) (by omega)
    have hx : i < r.length := by omega
    have g4 : r[i]? = some r[i] := List.getElem?_eq_getElem _
    rw [W_loop, e6, List.drop_eq_getElem_cons hx, goL]
    generalize r[i] = y at g4
    have c2 := fun m H hs => C2 u m H hs
    cases h1 : u.a with
    | true =>
      simp only [h1] at c2
      simp only [stA, stM, stH, stQ, stE, stC, xI, xF, Nat.reduceLT, Nat.reduceEqDiff, reduceCtorEq, Nat.reduceAdd, Nat.reduceSub, Nat.reduceMul, Nat.max_def, reduceIte, Nat.reduceLeDiff, Nat.reduceBEq, Int.reduceEq, Int.reduceLE, Int.reduceLT, Int.reduceNeg, Int.reduceToNat, x30, stU, b30, Try.f30, encM, encR, encT, encV, Vl.cs, encO, C, c2, h1, a0, a2, a16, a17, a18, e1, e3, e4, e5, List.getElem?_map, List.length_map, Int.toNat_natCast, D, g4]
      apply ih (i + 1) _ _ _ (by omega)
      all_goals simp only [stA, stM, stH, stQ, stE, stC, xI, xF, Nat.reduceLT, Nat.reduceEqDiff, reduceCtorEq, Nat.reduceAdd, Nat.reduceSub, Nat.reduceMul, Nat.max_def, reduceIte, Nat.reduceLeDiff, Nat.reduceBEq, Int.reduceEq, Int.reduceLE, Int.reduceLT, Int.reduceNeg, Int.reduceToNat, encM, encR, a0, a2, a16, a17, a18]
    | false =>
      simp only [h1] at c2
      cases h2 : decide (vcmp ((term b u).getD v0) y = 0) with
      | true =>
        simp only [stA, stM, stH, stQ, stE, stC, xI, xF, Nat.reduceLT, Nat.reduceEqDiff, reduceCtorEq, Nat.reduceAdd, Nat.reduceSub, Nat.reduceMul, Nat.max_def, reduceIte, Nat.reduceLeDiff, Nat.reduceBEq, Int.reduceEq, Int.reduceLE, Int.reduceLT, Int.reduceNeg, Int.reduceToNat, x30, stU, b30, Try.f30, encM, encR, encT, encV, Vl.cs, encO, C, c2, h1, h2, a0, a2, a16, a17, a18, e1, e3, e4, e5, List.getElem?_map, List.length_map, Int.toNat_natCast, D, g4]
        apply ih (i + 1) _ _ _ (by omega)
        all_goals simp only [stA, stM, stH, stQ, stE, stC, xI, xF, Nat.reduceLT, Nat.reduceEqDiff, reduceCtorEq, Nat.reduceAdd, Nat.reduceSub, Nat.reduceMul, Nat.max_def, reduceIte, Nat.reduceLeDiff, Nat.reduceBEq, Int.reduceEq, Int.reduceLE, Int.reduceLT, Int.reduceNeg, Int.reduceToNat, encM, encR, a0, a2, a16, a17, a18]
      | false =>
        simp only [stA, stM, stH, stQ, stE, stC, xI, xF, Nat.reduceLT, Nat.reduceEqDiff, reduceCtorEq, Nat.reduceAdd, Nat.reduceSub, Nat.reduceMul, Nat.max_def, reduceIte, Nat.reduceLeDiff, Nat.reduceBEq, Int.reduceEq, Int.reduceLE, Int.reduceLT, Int.reduceNeg, Int.reduceToNat, x30, stU, b30, Try.f30, encM, encR, encT, encV, Vl.cs, encO, C, c2, h1, h2, a0, a2, a16, a17, a18, e1, e3, e4, e5, List.getElem?_map, List.length_map, Int.toNat_natCast, D, g4]
theorem eq30 {m : Md} {b : Bd} {l : List Tm} {r : Row} (hl : l.length < 1000000) : iso tab fi30 m [encM b, .lst .no (l.map encT), encR r] = some (.lit (.bool (goes b l r))) := by
  refine iso_ret ?_
  unfold goes
  cases h : decide ((l.length : Int) = r.length) with
  | false => simp only [stA, stM, stH, stQ, stE, stC, xI, xF, Nat.reduceLT, Nat.reduceEqDiff, reduceCtorEq, Nat.reduceAdd, Nat.reduceSub, Nat.reduceMul, Nat.max_def, reduceIte, Nat.reduceLeDiff, Nat.reduceBEq, Int.reduceEq, Int.reduceLE, Int.reduceLT, Int.reduceNeg, Int.reduceToNat, x30, stU, b30, Try.f30, encM, encR, List.length_map, h]
  | true =>
    have hr : l.length = r.length := by rw [decide_eq_true_iff] at h; omega
    have L := @loop30 b l r m.gl hl hr l.length 0
    simp only [stU, stC, b30, Try.f30] at L
    simp only [stA, stM, stH, stQ, stE, stC, xI, xF, Nat.reduceLT, Nat.reduceEqDiff, reduceCtorEq, Nat.reduceAdd, Nat.reduceSub, Nat.reduceMul, Nat.max_def, reduceIte, Nat.reduceLeDiff, Nat.reduceBEq, Int.reduceEq, Int.reduceLE, Int.reduceLT, Int.reduceNeg, Int.reduceToNat, x30, stU, b30, Try.f30, encM, encR, List.length_map, h]
    apply L
    · simp
    all_goals first | rfl | (simp only [stA, stM, stH, stQ, stE, stC, xI, xF, Nat.reduceLT, Nat.reduceEqDiff, reduceCtorEq, Nat.reduceAdd, Nat.reduceSub, Nat.reduceMul, Nat.max_def, reduceIte, Nat.reduceLeDiff, Nat.reduceBEq, Int.reduceEq, Int.reduceLE, Int.reduceLT, Int.reduceNeg, Int.reduceToNat]; done) | (simp only [stA, stM, stH, stQ, stE, stC, xI, xF, Nat.reduceLT, Nat.reduceEqDiff, reduceCtorEq, Nat.reduceAdd, Nat.reduceSub, Nat.reduceMul, Nat.max_def, reduceIte, Nat.reduceLeDiff, Nat.reduceBEq, Int.reduceEq, Int.reduceLE, Int.reduceLT, Int.reduceNeg, Int.reduceToNat, encM, encR]; rfl)
theorem call30 {m : Md} {k1 k2 : ATk} {b : Bd} {l : List Tm} {r : Row} {H : Tr AO} {hs : Nat} (hl : l.length < 1000000) : callF tab (evw tab) m 30 [encM b, .lst k1 (l.map encT), .lst k2 (r.map encV)] H hs = some (.lit (.bool (goes b l r)), H, hs) :=
  callF_iso tcon rfl rfl (by simp only [stA, stM, stH, stQ, stE, stC, xI, xF, Nat.reduceLT, Nat.reduceEqDiff, reduceCtorEq, Nat.reduceAdd, Nat.reduceSub, Nat.reduceMul, Nat.max_def, reduceIte, Nat.reduceLeDiff, Nat.reduceBEq, Int.reduceEq, Int.reduceLE, Int.reduceLT, Int.reduceNeg, Int.reduceToNat, dBN, dQN, encM]) (by have := @eq30 m b l r hl; simp only [stA, stM, stH, stQ, stE, stC, xI, xF, Nat.reduceLT, Nat.reduceEqDiff, reduceCtorEq, Nat.reduceAdd, Nat.reduceSub, Nat.reduceMul, Nat.max_def, reduceIte, Nat.reduceLeDiff, Nat.reduceBEq, Int.reduceEq, Int.reduceLE, Int.reduceLT, Int.reduceNeg, Int.reduceToNat, dBN, dQN, encM, encR] at this ⊢; exact this)

abbrev OkV (v : Vl) : Prop := v.s.length ≤ 9223372036854775807
abbrev qcs (b : Bd) : List AV := [.lst .no (b.map eQ1), .lst .no (b.map eQ2)]
theorem loop36 {b : Bd} {l : List Tm} {r : Row} {gl : Tr (Option AV)} (hb : b.length < 1000000) (hl : l.length < 1000000) (hr : l.length = r.length) (hk : ∀ t, OkV ((term b t).getD v0) ∨ t ∉ l) : ∀ (k i : Nat) (t : Tr AV) (H : Tr AO) (hs : Nat) (w : Bool), i + k = l.length → 0 < hs → H.get .dead 0 = .cells (qcs b) w →
    t.get .any 3 = .ptr 0 0 → t.get .any 1 = .lst .no (l.map encT) → t.get .any 2 = encR r → t.get .any 7 = .lit (.int .i64 i) →
    RetN (W tab none (fin tab fi36) (lpc fi36 0) (lpk fi36 0) ⟨t, 51, H, hs, [], ⟨true, true, gl⟩⟩) (.lit (.bool (goL b (l.drop i) (r.drop i)))) := by
  have C : ∀ (a b : Vl) (m : Md) (H : Tr AO) (hs : Nat), OkV a → callF tab (evw tab) m 59 [.agg a.cs, .agg b.cs] H hs = some (.lit (.int .i64 (vcmp a b)), H, hs) := fun _ _ _ _ _ h => call59 h
  have C2 : ∀ (t : Tm) (m : Md) (H : Tr AO) (hs : Nat), callF tab (evw tab) m 58 [encQ b, .agg t.cs] H hs = some (encO (term b t), H, hs) := fun _ _ _ _ => call58 hb
  simp only [Vl.cs, Tm.cs, encQ] at C C2
  have D := d36
  simp only [stD, stC, List.cons.injEq, b36, Try.f36] at D
  simp only [stU, stC, b36, Try.f36]
  intro k
  induction k with
  | zero =>
    intro i t H hs w hi h0 hX a3 a1 a2 a7
    have e1 : decide ((i : Int) < (l).length) = false := by rw [decide_eq_false_iff_not]; omega
    rw [W_loop, List.drop_of_length_le (by omega)]
    simp only [stA, stM, stH, stQ, stE, stC, xI, xF, Nat.reduceLT, Nat.reduceEqDiff, reduceCtorEq, Nat.reduceAdd, Nat.reduceSub, Nat.reduceMul, Nat.max_def, reduceIte, Nat.reduceLeDiff, Nat.reduceBEq, Int.reduceEq, Int.reduceLE, Int.reduceLT, Int.reduceNeg, Int.reduceToNat, x36, stU, b36, Try.f36, hX, a3, a1, a2, a7, e1, goL, List.length_map]
  | succ k ih =>
    intro i t H hs w hi h0 hX a3 a1 a2 a7
    have hlt : i < (l).length := by omega
    have e1 : decide ((i : Int) < (l).length) = true := by rw [decide_eq_true_iff]; omega
    have e3 : decide (0 ≤ (i : Int)) = true := by rw [decide_eq_true_iff]; omega
    have e4 : (l)[i]? = some (l)[i] := List.getElem?_eq_getElem _
    have e6 : (l).drop i = (l)[i] :: (l).drop (i + 1) := List.drop_eq_getElem_cons hlt
    have e7 : (l).take (i + 1) = (l).take i ++ [(l)[i]] := List.take_succ_eq_append_getElem hlt
    generalize hv : (l)[i] = u at e4 e6 e7
    have e5 := wrap_succ (i := i) (by omega)
    have nl0_0 : (hs = 0) = False := eq_false (by omega)
    have nr0_0 : (0 = hs) = False := eq_false (by omega)
    have nl0_1 : (hs + 1 = 0) = False := eq_false (by omega)
    have nr0_1 : (0 = hs + 1) = False := eq_false (by omega)
    have nl0_2 : (hs + 2 = 0) = False := eq_false (by omega)
    have nr0_2 : (0 = hs + 2) = False := eq_false (by omega)
    have nl0_3 : (hs + 3 = 0) = False := eq_false (by omega)
    have nr0_3 : (0 = hs + 3) = False := eq_false (by omega)
    have nl0_4 : (hs + 4 = 0) = False := eq_false (by omega)
    have nr0_4 : (0 = hs + 4) = False := eq_false (by omega)
    have hx : i < r.length := by omega
    have g1 : decide ((i : Int) < r.length) = true := by rw [decide_eq_true_iff]; omega
    have g4 : r[i]? = some r[i] := List.getElem?_eq_getElem _
    have ok : OkV ((term b u).getD v0) := (hk u).resolve_right (fun h => h (hv ▸ List.getElem_mem _))
    have c1 := fun y m H hs => C ((term b u).getD v0) y m H hs ok
    rw [W_loop, e6, List.drop_eq_getElem_cons hx, goL]
    generalize r[i] = y at g4
    have c2 := fun m H hs => C2 u m H hs
    cases h1 : u.a with
    | true =>
      simp only [h1] at c2
      simp (maxSteps := 2000000) only [stA, stM, stH, stQ, stE, stC, xI, xF, Nat.reduceLT, Nat.reduceEqDiff, reduceCtorEq, Nat.reduceAdd, Nat.reduceSub, Nat.reduceMul, Nat.max_def, reduceIte, Nat.reduceLeDiff, Nat.reduceBEq, Int.reduceEq, Int.reduceLE, Int.reduceLT, Int.reduceNeg, Int.reduceToNat, x36, stU, b36, Try.f36, dQN, qcs, encR, encT, encV, Vl.cs, encO, c1, c2, h1, hX, a3, a1, a2, a7, e1, e3, e4, e5, List.getElem?_map, List.length_map, Int.toNat_natCast, nl0_0, nr0_0, nl0_1, nr0_1, nl0_2, nr0_2, nl0_3, nr0_3, nl0_4, nr0_4, D, g4, g1]
      apply ih (i + 1) _ _ _ w (by omega) (by omega) _
      all_goals first | (simp only [stA, stM, stH, stQ, stE, stC, xI, xF, Nat.reduceLT, Nat.reduceEqDiff, reduceCtorEq, Nat.reduceAdd, Nat.reduceSub, Nat.reduceMul, Nat.max_def, reduceIte, Nat.reduceLeDiff, Nat.reduceBEq, Int.reduceEq, Int.reduceLE, Int.reduceLT, Int.reduceNeg, Int.reduceToNat, encR, a3, a1, a2, a7, hX, nl0_0, nr0_0, nl0_1, nr0_1, nl0_2, nr0_2, nl0_3, nr0_3, nl0_4, nr0_4]; done) | rfl | (simp only [stA, stM, stH, stQ, stE, stC, xI, xF, Nat.reduceLT, Nat.reduceEqDiff, reduceCtorEq, Nat.reduceAdd, Nat.reduceSub, Nat.reduceMul, Nat.max_def, reduceIte, Nat.reduceLeDiff, Nat.reduceBEq, Int.reduceEq, Int.reduceLE, Int.reduceLT, Int.reduceNeg, Int.reduceToNat, encR, a3, a1, a2, a7, hX, nl0_0, nr0_0, nl0_1, nr0_1, nl0_2, nr0_2, nl0_3, nr0_3, nl0_4, nr0_4]; rfl)
    | false =>
      simp only [h1] at c2
      cases h2 : decide (vcmp ((term b u).getD v0) y = 0) with
      | true =>
        simp (maxSteps := 2000000) only [stA, stM, stH, stQ, stE, stC, xI, xF, Nat.reduceLT, Nat.reduceEqDiff, reduceCtorEq, Nat.reduceAdd, Nat.reduceSub, Nat.reduceMul, Nat.max_def, reduceIte, Nat.reduceLeDiff, Nat.reduceBEq, Int.reduceEq, Int.reduceLE, Int.reduceLT, Int.reduceNeg, Int.reduceToNat, x36, stU, b36, Try.f36, dQN, qcs, encR, encT, encV, Vl.cs, encO, c1, c2, h1, h2, hX, a3, a1, a2, a7, e1, e3, e4, e5, List.getElem?_map, List.length_map, Int.toNat_natCast, nl0_0, nr0_0, nl0_1, nr0_1, nl0_2, nr0_2, nl0_3, nr0_3, nl0_4, nr0_4, D, g4, g1]
        apply ih (i + 1) _ _ _ w (by omega) (by omega) _
        all_goals first | (simp only [stA, stM, stH, stQ, stE, stC, xI, xF, Nat.reduceLT, Nat.reduceEqDiff, reduceCtorEq, Nat.reduceAdd, Nat.reduceSub, Nat.reduceMul, Nat.max_def, reduceIte, Nat.reduceLeDiff, Nat.reduceBEq, Int.reduceEq, Int.reduceLE, Int.reduceLT, Int.reduceNeg, Int.reduceToNat, encR, a3, a1, a2, a7, hX, nl0_0, nr0_0, nl0_1, nr0_1, nl0_2, nr0_2, nl0_3, nr0_3, nl0_4, nr0_4]; done) | rfl | (simp only [stA, stM, stH, stQ, stE, stC, xI, xF, Nat.reduceLT, Nat.reduceEqDiff, reduceCtorEq, Nat.reduceAdd, Nat.reduceSub, Nat.reduceMul, Nat.max_def, reduceIte, Nat.reduceLeDiff, Nat.reduceBEq, Int.reduceEq, Int.reduceLE, Int.reduceLT, Int.reduceNeg, Int.reduceToNat, encR, a3, a1, a2, a7, hX, nl0_0, nr0_0, nl0_1, nr0_1, nl0_2, nr0_2, nl0_3, nr0_3, nl0_4, nr0_4]; rfl)
      | false =>
        simp (maxSteps := 2000000) only [stA, stM, stH, stQ, stE, stC, xI, xF, Nat.reduceLT, Nat.reduceEqDiff, reduceCtorEq, Nat.reduceAdd, Nat.reduceSub, Nat.reduceMul, Nat.max_def, reduceIte, Nat.reduceLeDiff, Nat.reduceBEq, Int.reduceEq, Int.reduceLE, Int.reduceLT, Int.reduceNeg, Int.reduceToNat, x36, stU, b36, Try.f36, dQN, qcs, encR, encT, encV, Vl.cs, encO, c1, c2, h1, h2, hX, a3, a1, a2, a7, e1, e3, e4, e5, List.getElem?_map, List.length_map, Int.toNat_natCast, nl0_0, nr0_0, nl0_1, nr0_1, nl0_2, nr0_2, nl0_3, nr0_3, nl0_4, nr0_4, D, g4, g1]
theorem eq36 {m : Md} {b : Bd} {l : List Tm} {r : Row} (hb : b.length < 1000000) (hl : l.length < 1000000) (hk : ∀ t, OkV ((term b t).getD v0) ∨ t ∉ l) : iso tab fi36 m [encQ b, .lst .no (l.map encT), encR r] = some (.lit (.bool (goes b l r))) := by
  refine iso_ret ?_
  unfold goes
  cases h : decide ((l.length : Int) = r.length) with
  | false => simp only [stA, stM, stH, stQ, stE, stC, xI, xF, Nat.reduceLT, Nat.reduceEqDiff, reduceCtorEq, Nat.reduceAdd, Nat.reduceSub, Nat.reduceMul, Nat.max_def, reduceIte, Nat.reduceLeDiff, Nat.reduceBEq, Int.reduceEq, Int.reduceLE, Int.reduceLT, Int.reduceNeg, Int.reduceToNat, x36, stU, b36, Try.f36, encQ, encR, List.length_map, h]
  | true =>
    have hr : l.length = r.length := by rw [decide_eq_true_iff] at h; omega
    have L := @loop36 b l r m.gl hb hl hr hk l.length 0
    simp only [stU, stC, b36, Try.f36] at L
    simp only [stA, stM, stH, stQ, stE, stC, xI, xF, Nat.reduceLT, Nat.reduceEqDiff, reduceCtorEq, Nat.reduceAdd, Nat.reduceSub, Nat.reduceMul, Nat.max_def, reduceIte, Nat.reduceLeDiff, Nat.reduceBEq, Int.reduceEq, Int.reduceLE, Int.reduceLT, Int.reduceNeg, Int.reduceToNat, x36, stU, b36, Try.f36, encQ, encR, List.length_map, h]
    apply L
    · simp
    all_goals first | rfl | (simp only [stA, stM, stH, stQ, stE, stC, xI, xF, Nat.reduceLT, Nat.reduceEqDiff, reduceCtorEq, Nat.reduceAdd, Nat.reduceSub, Nat.reduceMul, Nat.max_def, reduceIte, Nat.reduceLeDiff, Nat.reduceBEq, Int.reduceEq, Int.reduceLE, Int.reduceLT, Int.reduceNeg, Int.reduceToNat]; done) | (simp only [stA, stM, stH, stQ, stE, stC, xI, xF, Nat.reduceLT, Nat.reduceEqDiff, reduceCtorEq, Nat.reduceAdd, Nat.reduceSub, Nat.reduceMul, Nat.max_def, reduceIte, Nat.reduceLeDiff, Nat.reduceBEq, Int.reduceEq, Int.reduceLE, Int.reduceLT, Int.reduceNeg, Int.reduceToNat, encR]; rfl)
theorem call36 {m : Md} {k1 k2 : ATk} {b : Bd} {l : List Tm} {r : Row} {H : Tr AO} {hs : Nat} (hb : b.length < 1000000) (hl : l.length < 1000000) (hk : ∀ t, OkV ((term b t).getD v0) ∨ t ∉ l) : callF tab (evw tab) m 36 [encQ b, .lst k1 (l.map encT), .lst k2 (r.map encV)] H hs = some (.lit (.bool (goes b l r)), H, hs) :=
  callF_iso tcon rfl rfl (by simp only [stA, stM, stH, stQ, stE, stC, xI, xF, Nat.reduceLT, Nat.reduceEqDiff, reduceCtorEq, Nat.reduceAdd, Nat.reduceSub, Nat.reduceMul, Nat.max_def, reduceIte, Nat.reduceLeDiff, Nat.reduceBEq, Int.reduceEq, Int.reduceLE, Int.reduceLT, Int.reduceNeg, Int.reduceToNat, dBN, dQN]) (by have := @eq36 m b l r hb hl hk; simp only [stA, stM, stH, stQ, stE, stC, xI, xF, Nat.reduceLT, Nat.reduceEqDiff, reduceCtorEq, Nat.reduceAdd, Nat.reduceSub, Nat.reduceMul, Nat.max_def, reduceIte, Nat.reduceLeDiff, Nat.reduceBEq, Int.reduceEq, Int.reduceLE, Int.reduceLT, Int.reduceNeg, Int.reduceToNat, dBN, dQN, encR] at this ⊢; exact this)
end Go.Proofs.Ytpehpccahbofiaa.Ev

set_option maxRecDepth 100000
set_option maxHeartbeats 4000000
namespace Go.Proofs.Ytpehpccahbofiaa.Ev
open Go Go.Proofs.Ytpehpccahbofiaa.Ev Go.Proofs Go.Proofs.Ytpehpccahbofiaa Go.Proofs.Ytpehpccahbofiaa.Tab

/-! ### What rows bind -/
def bcond (b : Bd) (t : Tm) : Bool := !t.a && (!(t.x == []) && (mget b t.x).isNone)
def bstep (b : Bd) (t : Tm) (v : Vl) : Bd := bif bcond b t then b ++ [(t.x, v)] else b
def bzip : Bd → List Tm → Row → Bd
  | b, t :: l, v :: r => bzip (bstep b t v) l r
  | b, _, _ => b
def bindL : Bd → List Lt → List Row → Bd × Bool
  | b, a :: l, r :: rs => bif decide ((a.l.length : Int) = r.length) then bindL (bzip b a.l r) l rs else (b, false)
  | b, _, _ => (b, true)
def binds (x : Ru) (rows : List Row) : Bd × Bool := bif decide (((ats x.b).length : Int) = rows.length) then bindL [] (ats x.b) rows else ([], false)
def encQ2 (p : Bd × Bool) : AV := .tup [encQ p.1, .lit (.bool p.2)]

structure Bnd (H : Tr AO) (hs : Nat) (N V : AV) (b : Bd) (c : List AV) : Prop where
  n : Acc H hs 1 N (b.map eQ1)
  v : Acc H hs 4 V (b.map eQ2)
  o2 : H.get .dead 2 = .cells [N, V] false
  o1 : H.get .dead 1 = .cells c false
  h : 2 < hs
theorem Bnd.put {H : Tr AO} {hs : Nat} {N V : AV} {b : Bd} {c : List AV} (h : Bnd H hs N V b c) {o : Nat} {X : AO} (ho : hs ≤ o) : Bnd (H.put .dead o X) hs N V b c :=
  ⟨h.n.put' ho, h.v.put' ho, by rw [Tr.get_put, if_neg (by have := h.h; omega)]; exact h.o2, by rw [Tr.get_put, if_neg (by have := h.h; omega)]; exact h.o1, h.h⟩
theorem Bnd.up {H : Tr AO} {hs : Nat} {N V : AV} {b : Bd} {c : List AV} (h : Bnd H hs N V b c) : Bnd H (hs + 1) N V b c := ⟨h.n.up, h.v.up, h.o2, h.o1, by have := h.h; omega⟩
theorem Bnd.four {H : Tr AO} {hs : Nat} {N V : AV} {b : Bd} {c : List AV} (h : Bnd H hs N V b c) (X1 Y1 X2 Y2 : AO) : Bnd ((((H.put .dead hs X1).put .dead hs Y1).put .dead (hs + 1) X2).put .dead (hs + 1) Y2) (hs + 1 + 1) N V b c :=
  ((((h.put (Nat.le_refl _)).put (Nat.le_refl _)).up.put (Nat.le_refl _)).put (Nat.le_refl _)).up
theorem Bnd.a1 {H : Tr AO} {hs : Nat} {N V : AV} {b : Bd} {c : List AV} (h : Bnd H hs N V b c) (hl : b.length < 1000000) (x : List UInt8) (v : Vl) : appendO H hs true false 1 16 (some N) (some (.lst .full [.str x])) = some (.lst (.room hs) ((b ++ [(x, v)]).map eQ1), accH H hs 1 N, hs + 1) :=
  accApp (f := eQ1) (x, v) h.n rfl (by omega)
theorem Bnd.g1 {H : Tr AO} {hs : Nat} {N V : AV} {b : Bd} {c : List AV} (h : Bnd H hs N V b c) : (accH H hs 1 N).get .dead 2 = .cells [N, V] false := by
  rw [h.n.get (by have := h.h; omega) (by rw [h.o2]; rfl)]; exact h.o2
theorem Bnd.g11 {H : Tr AO} {hs : Nat} {N V : AV} {b : Bd} {c : List AV} (h : Bnd H hs N V b c) : (accH H hs 1 N).get .dead 1 = .cells c false := by
  rw [h.n.get (by have := h.h; omega) (by rw [h.o1]; rfl)]; exact h.o1
theorem Bnd.v1 {H : Tr AO} {hs : Nat} {N V : AV} {b : Bd} {c : List AV} (h : Bnd H hs N V b c) (C : AO) : Acc ((accH H hs 1 N).put .dead 2 C) (hs + 1) 4 V (b.map eQ2) :=
  (h.n.other h.v (by decide)).set (by rw [h.g1]; rfl)
theorem Bnd.a2 {H : Tr AO} {hs : Nat} {N V : AV} {b : Bd} {c : List AV} (h : Bnd H hs N V b c) (hl : b.length < 1000000) (x : List UInt8) (v : Vl) (C : AO) : appendO ((accH H hs 1 N).put .dead 2 C) (hs + 1) true true 4 40 (some V) (some (.lst .full [.agg v.cs])) = some (.lst (.room (hs + 1)) ((b ++ [(x, v)]).map eQ2), accH ((accH H hs 1 N).put .dead 2 C) (hs + 1) 4 V, hs + 1 + 1) :=
  accApp (f := eQ2) (x, v) (h.v1 C) rfl (by omega)
theorem Bnd.g2 {H : Tr AO} {hs : Nat} {N V : AV} {b : Bd} {c : List AV} (h : Bnd H hs N V b c) (cs : List AV) (w : Bool) : (accH ((accH H hs 1 N).put .dead 2 (.cells cs w)) (hs + 1) 4 V).get .dead 2 = .cells cs w := by
  rw [(h.v1 _).get (by have := h.h; omega) (by rw [Tr.get_put, if_pos rfl]; rfl), Tr.get_put, if_pos rfl]
theorem Bnd.g21 {H : Tr AO} {hs : Nat} {N V : AV} {b : Bd} {c : List AV} (h : Bnd H hs N V b c) (C : AO) : (accH ((accH H hs 1 N).put .dead 2 C) (hs + 1) 4 V).get .dead 1 = .cells c false := by
  have e : ((accH H hs 1 N).put .dead 2 C).get .dead 1 = .cells c false := by rw [Tr.get_put, if_neg (by decide)]; exact h.g11
  rw [(h.v1 _).get (by have := h.h; omega) (by rw [e]; rfl), e]
theorem Bnd.next {H : Tr AO} {hs : Nat} {N V : AV} {b : Bd} {c : List AV} (h : Bnd H hs N V b c) (x : List UInt8) (v : Vl) :
    Bnd ((accH ((accH H hs 1 N).put .dead 2 (.cells [.lst (.room hs) ((b ++ [(x, v)]).map eQ1), V] false)) (hs + 1) 4 V).put .dead 2 (.cells [.lst (.room hs) ((b ++ [(x, v)]).map eQ1), .lst (.room (hs + 1)) ((b ++ [(x, v)]).map eQ2)] false)) (hs + 1 + 1) (.lst (.room hs) ((b ++ [(x, v)]).map eQ1)) (.lst (.room (hs + 1)) ((b ++ [(x, v)]).map eQ2)) (b ++ [(x, v)]) c := by
  have h1 : Acc ((accH H hs 1 N).put .dead 2 (.cells [.lst (.room hs) ((b ++ [(x, v)]).map eQ1), V] false)) (hs + 1) 1 (.lst (.room hs) ((b ++ [(x, v)]).map eQ1)) ((b ++ [(x, v)]).map eQ1) :=
    (accN (f := eQ1) (es := b) (x := (x, v))).set (by rw [h.g1]; rfl)
  refine ⟨((h.v1 _).other h1 (by decide)).set (by rw [h.g2]; rfl), (accN (f := eQ2) (es := b) (x := (x, v))).set (by rw [h.g2]; rfl), by rw [Tr.get_put, if_pos rfl], ?_, by have := h.h; omega⟩
  rw [Tr.get_put, if_neg (by decide)]; exact h.g21 _
end Go.Proofs.Ytpehpccahbofiaa.Ev

set_option maxRecDepth 100000
set_option maxHeartbeats 4000000
namespace Go.Proofs.Ytpehpccahbofiaa.Ev
open Go Go.Proofs.Ytpehpccahbofiaa.Ev Go.Proofs Go.Proofs.Ytpehpccahbofiaa Go.Proofs.Ytpehpccahbofiaa.Tab

theorem accOne {H : Tr AO} {hs sz : Nat} {A : AV} {es : List AV} (h : Acc H hs sz A es) : oneCell A = true := by
  rcases h with ⟨rfl, rfl⟩ | ⟨r, rfl, _⟩ <;> rfl
def tot (l : List Lt) : Nat := (l.map (fun a => a.l.length)).sum
theorem tot_cons {a : Lt} {l : List Lt} : tot (a :: l) = a.l.length + tot l := by simp [tot]
theorem bcond_t {b : Bd} {t : Tm} {v : Vl} (h : bcond b t = true) : bstep b t v = b ++ [(t.x, v)] := by unfold bstep; rw [h]; rfl
theorem bcond_f {b : Bd} {t : Tm} {v : Vl} (h : bcond b t = false) : bstep b t v = b := by unfold bstep; rw [h]; rfl
theorem call28A {H0 : Tr AO} {hs0 : Nat} {N V : AV} {b : Bd} {c : List AV} (hB : Bnd H0 hs0 N V b c) (hl : b.length < 1000000) (x : List UInt8) (m : Md) (H : Tr AO) (hs : Nat) : callF tab (evw tab) m 28 [.agg [N, V], .str x] H hs = some (encO (mget b x), H, hs) := by
  have hbn := accBare (f := eQ1) (fun _ => rfl) hB.n
  have hbv := accBare (f := eQ2) (fun _ => rfl) hB.v
  have hnn := accNrm (f := eQ1) (fun _ => rfl) hB.n
  have hnv := accNrm (f := eQ2) (fun _ => rfl) hB.v
  exact callF_iso tcon rfl rfl (by simp only [stA, stM, stH, stQ, stE, stC, xI, xF, Nat.reduceLT, Nat.reduceEqDiff, reduceCtorEq, Nat.reduceAdd, Nat.reduceSub, Nat.reduceMul, Nat.max_def, reduceIte, Nat.reduceLeDiff, Nat.reduceBEq, Int.reduceEq, Int.reduceLE, Int.reduceLT, Int.reduceNeg, Int.reduceToNat, hbn, hbv]) (by have := @eq28 m b x hl; simp only [stA, stM, stH, stQ, stE, stC, xI, xF, Nat.reduceLT, Nat.reduceEqDiff, reduceCtorEq, Nat.reduceAdd, Nat.reduceSub, Nat.reduceMul, Nat.max_def, reduceIte, Nat.reduceLeDiff, Nat.reduceBEq, Int.reduceEq, Int.reduceLE, Int.reduceLT, Int.reduceNeg, Int.reduceToNat, encQ, hnn, hnv] at this ⊢; exact this)
theorem loop27 {L : List Lt} {R : List Row} {gl : Tr (Option AV)} (hl : L.length < 1000000) (ha : ∀ a ∈ L, a.l.length < 1000000) (hr : L.length = R.length) : ∀ (k i : Nat) (t : Tr AV) (H : Tr AO) (hs : Nat) (N V : AV) (b : Bd) (c : List AV), i + k = L.length → Bnd H hs N V b c → c.length = 2 → b.length + tot (L.drop i) < 1000000 →
    t.get .any 1 = .lst .no (R.map encR) → t.get .any 7 = .lst .no (L.map encA) → t.get .any 6 = .ptr 2 0 → t.get .any 4 = .ptr 1 0 → t.get .any 8 = .lit (.int .i64 i) →
    RetN (W tab none (fin tab fi27) (lpc fi27 0) (lpk fi27 0) ⟨t, 97, H, hs, [], ⟨true, true, gl⟩⟩) (encQ2 (bindL b (L.drop i) (R.drop i))) := by
  have D := d27
  simp only [stD, stC, List.cons.injEq, b27, Try.f27] at D
  simp only [stU, stC, b27, Try.f27]
  intro k
  induction k with
  | zero =>
    intro i t H hs N V b c hi hB hc htot a1 a7 a6 a4 a8
    have e1 : decide ((i : Int) < (L).length) = false := by rw [decide_eq_false_iff_not]; omega
    have hbn := accBare (f := eQ1) (fun _ => rfl) hB.n
    have hbv := accBare (f := eQ2) (fun _ => rfl) hB.v
    have hnn := accNrm (f := eQ1) (fun _ => rfl) hB.n
    have hnv := accNrm (f := eQ2) (fun _ => rfl) hB.v
    obtain ⟨c1, c2, rfl⟩ : ∃ c1 c2, c = [c1, c2] := by match c, hc with | [a, b], _ => exact ⟨a, b, rfl⟩
    rw [W_loop, List.drop_of_length_le (by omega)]
    simp only [stA, stM, stH, stQ, stE, stC, xI, xF, Nat.reduceLT, Nat.reduceEqDiff, reduceCtorEq, Nat.reduceAdd, Nat.reduceSub, Nat.reduceMul, Nat.max_def, reduceIte, Nat.reduceLeDiff, Nat.reduceBEq, Int.reduceEq, Int.reduceLE, Int.reduceLT, Int.reduceNeg, Int.reduceToNat, x27, stU, b27, Try.f27, a1, a7, a6, a4, a8, hB.o2, hB.o1, e1, accOne hB.n, accOne hB.v, List.length_map, ldv, tt69, isAggD, hbn, hbv, hnn, hnv, bindL, encQ2, encQ]
  | succ k ih =>
    intro i t H hs N V b c hi hB hc htot a1 a7 a6 a4 a8
    have hlt : i < (L).length := by omega
    have e1 : decide ((i : Int) < (L).length) = true := by rw [decide_eq_true_iff]; omega
    have e3 : decide (0 ≤ (i : Int)) = true := by rw [decide_eq_true_iff]; omega
    have e4 : (L)[i]? = some (L)[i] := List.getElem?_eq_getElem _
    have e6 : (L).drop i = (L)[i] :: (L).drop (i + 1) := List.drop_eq_getElem_cons hlt
    have e7 : (L).take (i + 1) = (L).take i ++ [(L)[i]] := List.take_succ_eq_append_getElem hlt
    generalize hv : (L)[i] = a at e4 e6 e7
    have e5 := wrap_succ (i := i) (by omega)
    have hal : a.l.length < 1000000 := ha a (hv ▸ List.getElem_mem _)
    have hx : i < R.length := by omega
    have g4 : R[i]? = some R[i] := List.getElem?_eq_getElem _
    rw [W_loop, e6, List.drop_eq_getElem_cons hx]
    rw [e6, tot_cons] at htot
    generalize R[i] = r at g4
    rw [bindL]
    cases hlen : decide ((a.l.length : Int) = r.length) with
    | false =>
      have hbn := accBare (f := eQ1) (fun _ => rfl) hB.n
      have hbv := accBare (f := eQ2) (fun _ => rfl) hB.v
      have hnn := accNrm (f := eQ1) (fun _ => rfl) hB.n
      have hnv := accNrm (f := eQ2) (fun _ => rfl) hB.v
      obtain ⟨c1, c2, rfl⟩ : ∃ c1 c2, c = [c1, c2] := by match c, hc with | [a, b], _ => exact ⟨a, b, rfl⟩
      simp only [stA, stM, stH, stQ, stE, stC, xI, xF, Nat.reduceLT, Nat.reduceEqDiff, reduceCtorEq, Nat.reduceAdd, Nat.reduceSub, Nat.reduceMul, Nat.max_def, reduceIte, Nat.reduceLeDiff, Nat.reduceBEq, Int.reduceEq, Int.reduceLE, Int.reduceLT, Int.reduceNeg, Int.reduceToNat, x27, stU, b27, Try.f27, encA, encR, a1, a7, a6, a4, a8, hB.o2, hB.o1, e1, e3, e4, e5, List.getElem?_map, List.length_map, Int.toNat_natCast, g4, hlen, D, accOne hB.n, accOne hB.v, ldv, tt69, isAggD, hbn, hbv, hnn, hnv, encQ2, encQ]
    | true =>
      have hlr : a.l.length = r.length := by rw [decide_eq_true_iff] at hlen; omega
      have inner : ∀ (kk k2 : Nat) (t : Tr AV) (H : Tr AO) (hs : Nat) (N V : AV) (b : Bd), k2 + kk = a.l.length → Bnd H hs N V b c → b.length + kk + tot (L.drop (i + 1)) < 1000000 →
          t.get .any 1 = .lst .no (R.map encR) → t.get .any 7 = .lst .no (L.map encA) → t.get .any 6 = .ptr 2 0 → t.get .any 4 = .ptr 1 0 → t.get .any 8 = .lit (.int .i64 i) → t.get .any 9 = .lit (.int .i64 k2) →
          RetN (W tab none (fin tab fi27) (lpc fi27 1) (lpk fi27 1) ⟨t, 97, H, hs, [], ⟨true, true, gl⟩⟩) (encQ2 (bindL (bzip b (a.l.drop k2) (r.drop k2)) (L.drop (i + 1)) (R.drop (i + 1)))) := by
        simp only [stU, stC, b27, Try.f27]
        intro kk
        induction kk with
        | zero =>
          intro k2 t H hs N V b hk2 hB htot a1 a7 a6 a4 a8 a9
          have f1 : decide ((k2 : Int) < r.length) = false := by rw [decide_eq_false_iff_not]; omega
          rw [W_loop, List.drop_of_length_le (by omega), bzip]
          · simp only [stA, stM, stH, stQ, stE, stC, xI, xF, Nat.reduceLT, Nat.reduceEqDiff, reduceCtorEq, Nat.reduceAdd, Nat.reduceSub, Nat.reduceMul, Nat.max_def, reduceIte, Nat.reduceLeDiff, Nat.reduceBEq, Int.reduceEq, Int.reduceLE, Int.reduceLT, Int.reduceNeg, Int.reduceToNat, x27, stU, b27, Try.f27, encA, encR, a1, a7, a6, a4, a8, a9, f1, e1, e3, e4, e5, List.getElem?_map, List.length_map, Int.toNat_natCast, g4]
            apply ih (i + 1) _ _ _ N V _ c (by omega) hB hc (by omega)
            all_goals simp only [stA, stM, stH, stQ, stE, stC, xI, xF, Nat.reduceLT, Nat.reduceEqDiff, reduceCtorEq, Nat.reduceAdd, Nat.reduceSub, Nat.reduceMul, Nat.max_def, reduceIte, Nat.reduceLeDiff, Nat.reduceBEq, Int.reduceEq, Int.reduceLE, Int.reduceLT, Int.reduceNeg, Int.reduceToNat, a1, a7, a6, a4, a8]
          · intro t l v r h; cases h
        | succ kk ih2 =>
          intro k2 t H hs N V b hk2 hB htot a1 a7 a6 a4 a8 a9
          have hk3 : k2 < a.l.length := by omega
          have hk4 : k2 < r.length := by omega
          have f1 : decide ((k2 : Int) < r.length) = true := by rw [decide_eq_true_iff]; omega
          have f3 : decide (0 ≤ (k2 : Int)) = true := by rw [decide_eq_true_iff]; omega
          have f4 : a.l[k2]? = some a.l[k2] := List.getElem?_eq_getElem _
          have f5 := wrap_succ (i := k2) (by omega)
          have f7 : r[k2]? = some r[k2] := List.getElem?_eq_getElem _
          rw [W_loop, List.drop_eq_getElem_cons hk3, List.drop_eq_getElem_cons hk4, bzip]
          generalize a.l[k2] = u at f4
          generalize r[k2] = y at f7
          have hh2 := hB.h
          have nl2_0 : (hs = 2) = False := eq_false (by omega)
          have nr2_0 : (2 = hs) = False := eq_false (by omega)
          have nl2_1 : (hs + 1 = 2) = False := eq_false (by omega)
          have nr2_1 : (2 = hs + 1) = False := eq_false (by omega)
          have nl2_2 : (hs + 2 = 2) = False := eq_false (by omega)
          have nr2_2 : (2 = hs + 2) = False := eq_false (by omega)
          have nl2_3 : (hs + 3 = 2) = False := eq_false (by omega)
          have nr2_3 : (2 = hs + 3) = False := eq_false (by omega)
          have nl2_4 : (hs + 4 = 2) = False := eq_false (by omega)
          have nr2_4 : (2 = hs + 4) = False := eq_false (by omega)
          have hC := call28A hB (by omega)
          have B4 := hB.four
          cases h1 : u.a with
          | true =>
            rw [bcond_f (by simp [bcond, h1])]
            simp (maxSteps := 2000000) only [stA, stM, stH, stQ, stE, stC, xI, xF, Nat.reduceLT, Nat.reduceEqDiff, reduceCtorEq, Nat.reduceAdd, Nat.reduceSub, Nat.reduceMul, Nat.max_def, reduceIte, Nat.reduceLeDiff, Nat.reduceBEq, Int.reduceEq, Int.reduceLE, Int.reduceLT, Int.reduceNeg, Int.reduceToNat, x27, stU, b27, Try.f27, encA, encR, encT, encV, Vl.cs, encO, hC, hB.o2, h1, a1, a7, a6, a4, a8, a9, f1, f3, f4, f5, f7, e1, e3, e4, e5, List.getElem?_map, List.length_map, Int.toNat_natCast, nl2_0, nr2_0, nl2_1, nr2_1, nl2_2, nr2_2, nl2_3, nr2_3, nl2_4, nr2_4, g4, D]
            apply ih2 (k2 + 1) _ _ _ N V b (by omega) (B4 _ _ _ _) (by omega)
            all_goals simp only [stA, stM, stH, stQ, stE, stC, xI, xF, Nat.reduceLT, Nat.reduceEqDiff, reduceCtorEq, Nat.reduceAdd, Nat.reduceSub, Nat.reduceMul, Nat.max_def, reduceIte, Nat.reduceLeDiff, Nat.reduceBEq, Int.reduceEq, Int.reduceLE, Int.reduceLT, Int.reduceNeg, Int.reduceToNat, a1, a7, a6, a4, a8, a9]
          | false =>
            cases h2 : u.x == [] with
            | true =>
              rw [bcond_f (by simp only [bcond, h1, h2]; rfl)]
              simp (maxSteps := 2000000) only [stA, stM, stH, stQ, stE, stC, xI, xF, Nat.reduceLT, Nat.reduceEqDiff, reduceCtorEq, Nat.reduceAdd, Nat.reduceSub, Nat.reduceMul, Nat.max_def, reduceIte, Nat.reduceLeDiff, Nat.reduceBEq, Int.reduceEq, Int.reduceLE, Int.reduceLT, Int.reduceNeg, Int.reduceToNat, x27, stU, b27, Try.f27, encA, encR, encT, encV, Vl.cs, encO, hC, hB.o2, h1, h2, a1, a7, a6, a4, a8, a9, f1, f3, f4, f5, f7, e1, e3, e4, e5, List.getElem?_map, List.length_map, Int.toNat_natCast, nl2_0, nr2_0, nl2_1, nr2_1, nl2_2, nr2_2, nl2_3, nr2_3, nl2_4, nr2_4, g4, D]
              apply ih2 (k2 + 1) _ _ _ N V b (by omega) (B4 _ _ _ _) (by omega)
              all_goals simp only [stA, stM, stH, stQ, stE, stC, xI, xF, Nat.reduceLT, Nat.reduceEqDiff, reduceCtorEq, Nat.reduceAdd, Nat.reduceSub, Nat.reduceMul, Nat.max_def, reduceIte, Nat.reduceLeDiff, Nat.reduceBEq, Int.reduceEq, Int.reduceLE, Int.reduceLT, Int.reduceNeg, Int.reduceToNat, a1, a7, a6, a4, a8, a9]
            | false =>
              cases h3 : (mget b u.x).isSome with
              | true =>
                rw [bcond_f (by simp only [bcond, h1, h2]; rw [Option.isNone_eq_false_iff.2 h3]; rfl)]
                simp (maxSteps := 2000000) only [stA, stM, stH, stQ, stE, stC, xI, xF, Nat.reduceLT, Nat.reduceEqDiff, reduceCtorEq, Nat.reduceAdd, Nat.reduceSub, Nat.reduceMul, Nat.max_def, reduceIte, Nat.reduceLeDiff, Nat.reduceBEq, Int.reduceEq, Int.reduceLE, Int.reduceLT, Int.reduceNeg, Int.reduceToNat, x27, stU, b27, Try.f27, encA, encR, encT, encV, Vl.cs, encO, hC, hB.o2, h1, h2, h3, a1, a7, a6, a4, a8, a9, f1, f3, f4, f5, f7, e1, e3, e4, e5, List.getElem?_map, List.length_map, Int.toNat_natCast, nl2_0, nr2_0, nl2_1, nr2_1, nl2_2, nr2_2, nl2_3, nr2_3, nl2_4, nr2_4, g4, D]
                apply ih2 (k2 + 1) _ _ _ N V b (by omega) (B4 _ _ _ _) (by omega)
                all_goals simp only [stA, stM, stH, stQ, stE, stC, xI, xF, Nat.reduceLT, Nat.reduceEqDiff, reduceCtorEq, Nat.reduceAdd, Nat.reduceSub, Nat.reduceMul, Nat.max_def, reduceIte, Nat.reduceLeDiff, Nat.reduceBEq, Int.reduceEq, Int.reduceLE, Int.reduceLT, Int.reduceNeg, Int.reduceToNat, a1, a7, a6, a4, a8, a9]
              | false =>
                rw [bcond_t (by simp only [bcond, h1, h2]; rw [Option.isSome_eq_false_iff.1 h3]; rfl)]
                have hbl : b.length < 1000000 := by omega
                have P1 := fun X1 Y1 X2 Y2 => (B4 X1 Y1 X2 Y2).a1 hbl u.x y
                have P2 := fun X1 Y1 X2 Y2 => (B4 X1 Y1 X2 Y2).a2 hbl u.x y
                have G1 := fun X1 Y1 X2 Y2 => (B4 X1 Y1 X2 Y2).g1
                have G2 := fun X1 Y1 X2 Y2 cs w => (B4 X1 Y1 X2 Y2).g2 cs w
                have O1 := accOne hB.v
                simp (maxSteps := 2000000) only [stM, stH, stQ, stE, stC, xI, xF, Nat.reduceLT, Nat.reduceEqDiff, reduceCtorEq, Nat.reduceAdd, Nat.reduceSub, Nat.reduceMul, Nat.max_def, reduceIte, Nat.reduceLeDiff, Nat.reduceBEq, Int.reduceEq, Int.reduceLE, Int.reduceLT, Int.reduceNeg, Int.reduceToNat, x27, stU, b27, Try.f27, encA, encR, encT, encV, Vl.cs, encO, hC, hB.o2, h1, h2, h3, a1, a7, a6, a4, a8, a9, f1, f3, f4, f5, f7, e1, e3, e4, e5, List.getElem?_map, List.length_map, Int.toNat_natCast, nl2_0, nr2_0, nl2_1, nr2_1, nl2_2, nr2_2, nl2_3, nr2_3, nl2_4, nr2_4, g4, D, P1, P2, G1, G2, O1]
                apply ih2 (k2 + 1) _ _ _ _ _ (b ++ [(u.x, y)]) (by omega) ((B4 _ _ _ _).next u.x y) (by rw [List.length_append, List.length_singleton]; omega)
                all_goals simp only [stA, stM, stH, stQ, stE, stC, xI, xF, Nat.reduceLT, Nat.reduceEqDiff, reduceCtorEq, Nat.reduceAdd, Nat.reduceSub, Nat.reduceMul, Nat.max_def, reduceIte, Nat.reduceLeDiff, Nat.reduceBEq, Int.reduceEq, Int.reduceLE, Int.reduceLT, Int.reduceNeg, Int.reduceToNat, a1, a7, a6, a4, a8, a9]
      simp only [stU, stC, b27, Try.f27] at inner
      simp only [stA, stM, stH, stQ, stE, stC, xI, xF, Nat.reduceLT, Nat.reduceEqDiff, reduceCtorEq, Nat.reduceAdd, Nat.reduceSub, Nat.reduceMul, Nat.max_def, reduceIte, Nat.reduceLeDiff, Nat.reduceBEq, Int.reduceEq, Int.reduceLE, Int.reduceLT, Int.reduceNeg, Int.reduceToNat, x27, stU, b27, Try.f27, encA, encR, a1, a7, a6, a4, a8, hB.o2, hB.o1, e1, e3, e4, e5, List.getElem?_map, List.length_map, Int.toNat_natCast, g4, hlen, D]
      apply inner a.l.length 0 _ _ _ N V b (by omega) hB (by omega)
      all_goals simp only [stA, stM, stH, stQ, stE, stC, xI, xF, Nat.reduceLT, Nat.reduceEqDiff, reduceCtorEq, Nat.reduceAdd, Nat.reduceSub, Nat.reduceMul, Nat.max_def, reduceIte, Nat.reduceLeDiff, Nat.reduceBEq, Int.reduceEq, Int.reduceLE, Int.reduceLT, Int.reduceNeg, Int.reduceToNat, encA, encR, a1, a7, a6, a4, a8]
      all_goals rfl

theorem eq27 {m : Md} {x : Ru} {R : List Row} (hl : x.b.length < 1000000) (ht : tot (ats x.b) < 1000000) : iso tab fi27 m [encX x, .lst .no (R.map encR)] = some (encQ2 (binds x R)) := by
  refine iso_ret ?_
  have hC : ∀ (m : Md) (H : Tr AO) (hs : Nat), callF tab (evw tab) m 33 [encX x] H hs = some (.lst .no ((ats x.b).map encA), H, hs) := fun _ _ _ => call33 hl
  simp only [encX] at hC
  have hal : (ats x.b).length < 1000000 := Nat.lt_of_le_of_lt (List.length_filter_le _ _) hl
  have hat : ∀ a ∈ ats x.b, a.l.length < 1000000 := fun a h => by
    have : a.l.length ≤ tot (ats x.b) := by
      unfold tot
      generalize ats x.b = l at h
      induction l with
      | nil => cases h
      | cons b l ih =>
        rw [List.map_cons, List.sum_cons]
        rcases List.mem_cons.1 h with rfl | h
        · omega
        · have := ih h; omega
    omega
  unfold binds
  cases h : decide (((ats x.b).length : Int) = R.length) with
  | false =>
    simp only [stA, stM, stH, stQ, stE, stC, xI, xF, Nat.reduceLT, Nat.reduceEqDiff, reduceCtorEq, Nat.reduceAdd, Nat.reduceSub, Nat.reduceMul, Nat.max_def, reduceIte, Nat.reduceLeDiff, Nat.reduceBEq, Int.reduceEq, Int.reduceLE, Int.reduceLT, Int.reduceNeg, Int.reduceToNat, x27, stU, b27, Try.f27, encX, hC, List.length_map, h, ldv, tt69, isAggD, encQ2, encQ]
  | true =>
    have hr : (ats x.b).length = R.length := by rw [decide_eq_true_iff] at h; omega
    have L := @loop27 (ats x.b) R m.gl hal hat hr (ats x.b).length 0
    simp only [stU, stC, b27, Try.f27] at L
    simp only [stA, stM, stH, stQ, stE, stC, xI, xF, Nat.reduceLT, Nat.reduceEqDiff, reduceCtorEq, Nat.reduceAdd, Nat.reduceSub, Nat.reduceMul, Nat.max_def, reduceIte, Nat.reduceLeDiff, Nat.reduceBEq, Int.reduceEq, Int.reduceLE, Int.reduceLT, Int.reduceNeg, Int.reduceToNat, x27, stU, b27, Try.f27, encX, hC, List.length_map, h]
    have L2 := fun t H hs => L t H hs (.lit (.slice none 0 0)) (.lit (.slice none 0 0)) [] [.lit (.slice none 0 0), .lit (.slice none 0 0)] (by simp)
    apply L2
    · exact ⟨.nil, .nil, by simp only [stA, stM, stH, stQ, stE, stC, xI, xF, Nat.reduceLT, Nat.reduceEqDiff, reduceCtorEq, Nat.reduceAdd, Nat.reduceSub, Nat.reduceMul, Nat.max_def, reduceIte, Nat.reduceLeDiff, Nat.reduceBEq, Int.reduceEq, Int.reduceLE, Int.reduceLT, Int.reduceNeg, Int.reduceToNat], by simp only [stA, stM, stH, stQ, stE, stC, xI, xF, Nat.reduceLT, Nat.reduceEqDiff, reduceCtorEq, Nat.reduceAdd, Nat.reduceSub, Nat.reduceMul, Nat.max_def, reduceIte, Nat.reduceLeDiff, Nat.reduceBEq, Int.reduceEq, Int.reduceLE, Int.reduceLT, Int.reduceNeg, Int.reduceToNat], by decide⟩
    · rfl
    · simpa using ht
    all_goals first | rfl | (simp only [stA, stM, stH, stQ, stE, stC, xI, xF, Nat.reduceLT, Nat.reduceEqDiff, reduceCtorEq, Nat.reduceAdd, Nat.reduceSub, Nat.reduceMul, Nat.max_def, reduceIte, Nat.reduceLeDiff, Nat.reduceBEq, Int.reduceEq, Int.reduceLE, Int.reduceLT, Int.reduceNeg, Int.reduceToNat]; done) | (simp only [stA, stM, stH, stQ, stE, stC, xI, xF, Nat.reduceLT, Nat.reduceEqDiff, reduceCtorEq, Nat.reduceAdd, Nat.reduceSub, Nat.reduceMul, Nat.max_def, reduceIte, Nat.reduceLeDiff, Nat.reduceBEq, Int.reduceEq, Int.reduceLE, Int.reduceLT, Int.reduceNeg, Int.reduceToNat]; rfl)
theorem call27 {m : Md} {k1 : ATk} {x : Ru} {R : List Row} {H : Tr AO} {hs : Nat} (hl : x.b.length < 1000000) (ht : tot (ats x.b) < 1000000) : callF tab (evw tab) m 27 [encX x, .lst k1 (R.map encR)] H hs = some (encQ2 (binds x R), H, hs) :=
  callF_iso tcon rfl rfl (by simp only [stA, stM, stH, stQ, stE, stC, xI, xF, Nat.reduceLT, Nat.reduceEqDiff, reduceCtorEq, Nat.reduceAdd, Nat.reduceSub, Nat.reduceMul, Nat.max_def, reduceIte, Nat.reduceLeDiff, Nat.reduceBEq, Int.reduceEq, Int.reduceLE, Int.reduceLT, Int.reduceNeg, Int.reduceToNat, dBN, dQN]) (by have := @eq27 m x R hl ht; simp only [stA, stM, stH, stQ, stE, stC, xI, xF, Nat.reduceLT, Nat.reduceEqDiff, reduceCtorEq, Nat.reduceAdd, Nat.reduceSub, Nat.reduceMul, Nat.max_def, reduceIte, Nat.reduceLeDiff, Nat.reduceBEq, Int.reduceEq, Int.reduceLE, Int.reduceLT, Int.reduceNeg, Int.reduceToNat, dBN, dQN] at this ⊢; exact this)
end Go.Proofs.Ytpehpccahbofiaa.Ev

set_option maxRecDepth 100000
set_option maxHeartbeats 4000000
namespace Go.Proofs.Ytpehpccahbofiaa.Ev
open Go Go.Proofs.Ytpehpccahbofiaa.Ev Go.Proofs Go.Proofs.Ytpehpccahbofiaa Go.Proofs.Ytpehpccahbofiaa.Tab

def encM2 (p : Bd × Bool) : AV := .tup [bif p.2 then encM p.1 else .lit (.map none), .lit (.bool p.2)]
theorem tt64 : ∃ i k e, tab.t 64 = some i ∧ i.desc = .map k e := ⟨_, _, _, rfl, rfl⟩
theorem frz26 {H : Tr AO} {o : Nat} {b : Bd} (h : H.get .dead o = .map (mapS encV b 0) b.length) : frzC tab [64, 4] (.tup [.mp o, .lit (.bool true)]) H = some (encM2 (b, true)) := by
  obtain ⟨i, k, e, h1, h2⟩ := tt64
  unfold frzC frzR
  simp only [bare, bares, Bool.false_and, cond_false]
  rw [frzL, frz_mapS (d := 28) bare_V nrm_V h1 h2 h]
  simp only [frzL, frz_bare (T := tab) (d := 29) (t := 4) (v := .lit (.bool true)) rfl]
  simp only [bare, bares, bareE_M, Bool.and_self, cond_true, nrm, nrms, nrmE_M]
  rfl
theorem loop26 {L : List Lt} {R : List Row} {gl : Tr (Option AV)} (hl : L.length < 1000000) (ha : ∀ a ∈ L, a.l.length < 1000000) (hr : L.length = R.length) : ∀ (k i : Nat) (t : Tr AV) (H : Tr AO) (hs : Nat) (b : Bd), i + k = L.length → H.get .dead 1 = .map (mapS encV b 0) b.length → 1 < hs →
    t.get .any 1 = .lst .no (R.map encR) → t.get .any 7 = .mp 1 → t.get .any 22 = .lst .no (L.map encA) → t.get .any 23 = .lit (.int .i64 L.length) → t.get .any 24 = .lit (.int .i64 i) →
    RetF tab fi26 (W tab none (fin tab fi26) (lpc fi26 0) (lpk fi26 0) ⟨t, 78, H, hs, [], ⟨true, true, gl⟩⟩) (encM2 (bindL b (L.drop i) (R.drop i))) := by
  have D := d26
  simp only [stD, stC, List.cons.injEq, b26, Try.f26] at D
  simp only [stU, stC, b26, Try.f26]
  intro k
  induction k with
  | zero =>
    intro i t H hs b hi hB hh1 a1 a7 a22 a23 a24
    have e1 : decide ((i : Int) < (L).length) = false := by rw [decide_eq_false_iff_not]; omega
    rw [W_loop, List.drop_of_length_le (by omega)]
    simp only [stA, stM, stH, stQ, stE, stC, xI, xF, Nat.reduceLT, Nat.reduceEqDiff, reduceCtorEq, Nat.reduceAdd, Nat.reduceSub, Nat.reduceMul, Nat.max_def, reduceIte, Nat.reduceLeDiff, Nat.reduceBEq, Int.reduceEq, Int.reduceLE, Int.reduceLT, Int.reduceNeg, Int.reduceToNat, x26, stU, b26, Try.f26, RetF_some, a1, a7, a22, a23, a24, e1, frz26 hB, bindL]
  | succ k ih =>
    intro i t H hs b hi hB hh1 a1 a7 a22 a23 a24
    have hlt : i < (L).length := by omega
    have e1 : decide ((i : Int) < (L).length) = true := by rw [decide_eq_true_iff]; omega
    have e3 : decide (0 ≤ (i : Int)) = true := by rw [decide_eq_true_iff]; omega
    have e4 : (L)[i]? = some (L)[i] := List.getElem?_eq_getElem _
    have e6 : (L).drop i = (L)[i] :: (L).drop (i + 1) := List.drop_eq_getElem_cons hlt
    have e7 : (L).take (i + 1) = (L).take i ++ [(L)[i]] := List.take_succ_eq_append_getElem hlt
    generalize hv : (L)[i] = a at e4 e6 e7
    have e5 := wrap_succ (i := i) (by omega)
    have nl1_0 : (hs = 1) = False := eq_false (by omega)
    have nr1_0 : (1 = hs) = False := eq_false (by omega)
    have nl1_1 : (hs + 1 = 1) = False := eq_false (by omega)
    have nr1_1 : (1 = hs + 1) = False := eq_false (by omega)
    have nl1_2 : (hs + 2 = 1) = False := eq_false (by omega)
    have nr1_2 : (1 = hs + 2) = False := eq_false (by omega)
    have nl1_3 : (hs + 3 = 1) = False := eq_false (by omega)
    have nr1_3 : (1 = hs + 3) = False := eq_false (by omega)
    have nl1_4 : (hs + 4 = 1) = False := eq_false (by omega)
    have nr1_4 : (1 = hs + 4) = False := eq_false (by omega)
    have hal : a.l.length < 1000000 := ha a (hv ▸ List.getElem_mem _)
    have hx : i < R.length := by omega
    have g4 : R[i]? = some R[i] := List.getElem?_eq_getElem _
    rw [W_loop, e6, List.drop_eq_getElem_cons hx]
    generalize R[i] = r at g4
    rw [bindL]
    cases hlen : decide ((a.l.length : Int) = r.length) with
    | false =>
      simp only [stA, stM, stH, stQ, stE, stC, xI, xF, Nat.reduceLT, Nat.reduceEqDiff, reduceCtorEq, Nat.reduceAdd, Nat.reduceSub, Nat.reduceMul, Nat.max_def, reduceIte, Nat.reduceLeDiff, Nat.reduceBEq, Int.reduceEq, Int.reduceLE, Int.reduceLT, Int.reduceNeg, Int.reduceToNat, x26, stU, b26, Try.f26, RetF_some, encA, encR, a1, a7, a22, a23, a24, e1, e3, e4, e5, List.getElem?_map, List.length_map, Int.toNat_natCast, g4, hlen, D]
      rfl
    | true =>
      have hlr : a.l.length = r.length := by rw [decide_eq_true_iff] at hlen; omega
      have inner : ∀ (kk k2 : Nat) (t : Tr AV) (H : Tr AO) (hs : Nat) (b : Bd), k2 + kk = a.l.length → H.get .dead 1 = .map (mapS encV b 0) b.length → 1 < hs →
          t.get .any 1 = .lst .no (R.map encR) → t.get .any 7 = .mp 1 → t.get .any 22 = .lst .no (L.map encA) → t.get .any 23 = .lit (.int .i64 L.length) → t.get .any 24 = .lit (.int .i64 i) → t.get .any 8 = .lit (.int .i64 i) → t.get .any 39 = .lst .no (a.l.map encT) → t.get .any 40 = .lit (.int .i64 a.l.length) → t.get .any 41 = .lit (.int .i64 k2) →
          RetF tab fi26 (W tab none (fin tab fi26) (lpc fi26 1) (lpk fi26 1) ⟨t, 78, H, hs, [], ⟨true, true, gl⟩⟩) (encM2 (bindL (bzip b (a.l.drop k2) (r.drop k2)) (L.drop (i + 1)) (R.drop (i + 1)))) := by
        simp only [stU, stC, b26, Try.f26]
        intro kk
        induction kk with
        | zero =>
          intro k2 t H hs b hk2 hB hh1 a1 a7 a22 a23 a24 a8 a39 a40 a41
          have f1 : decide ((k2 : Int) < a.l.length) = false := by rw [decide_eq_false_iff_not]; omega
          rw [W_loop, List.drop_of_length_le (by omega), bzip]
          · simp only [stA, stM, stH, stQ, stE, stC, xI, xF, Nat.reduceLT, Nat.reduceEqDiff, reduceCtorEq, Nat.reduceAdd, Nat.reduceSub, Nat.reduceMul, Nat.max_def, reduceIte, Nat.reduceLeDiff, Nat.reduceBEq, Int.reduceEq, Int.reduceLE, Int.reduceLT, Int.reduceNeg, Int.reduceToNat, x26, stU, b26, Try.f26, a1, a7, a22, a23, a24, a8, a39, a40, a41, f1, e1, e3, e4, e5, List.getElem?_map, List.length_map, Int.toNat_natCast]
            apply ih (i + 1) _ _ _ _ (by omega) hB hh1
            all_goals simp only [stA, stM, stH, stQ, stE, stC, xI, xF, Nat.reduceLT, Nat.reduceEqDiff, reduceCtorEq, Nat.reduceAdd, Nat.reduceSub, Nat.reduceMul, Nat.max_def, reduceIte, Nat.reduceLeDiff, Nat.reduceBEq, Int.reduceEq, Int.reduceLE, Int.reduceLT, Int.reduceNeg, Int.reduceToNat, a1, a7, a22, a23, a24, a8, a39, a40, a41]
          · intro t l v r h; cases h
        | succ kk ih2 =>
          intro k2 t H hs b hk2 hB hh1 a1 a7 a22 a23 a24 a8 a39 a40 a41
          have hk3 : k2 < a.l.length := by omega
          have hk4 : k2 < r.length := by omega
          have f1 : decide ((k2 : Int) < a.l.length) = true := by rw [decide_eq_true_iff]; omega
          have f3 : decide (0 ≤ (k2 : Int)) = true := by rw [decide_eq_true_iff]; omega
          have f4 : a.l[k2]? = some a.l[k2] := List.getElem?_eq_getElem _
          have f5 := wrap_succ (i := k2) (by omega)
          have f7 : r[k2]? = some r[k2] := List.getElem?_eq_getElem _
          rw [W_loop, List.drop_eq_getElem_cons hk3, List.drop_eq_getElem_cons hk4, bzip]
          generalize a.l[k2] = u at f4
          generalize r[k2] = y at f7
          have nl1_0 : (hs = 1) = False := eq_false (by omega)
          have nr1_0 : (1 = hs) = False := eq_false (by omega)
          have nl1_1 : (hs + 1 = 1) = False := eq_false (by omega)
          have nr1_1 : (1 = hs + 1) = False := eq_false (by omega)
          have nl1_2 : (hs + 2 = 1) = False := eq_false (by omega)
          have nr1_2 : (1 = hs + 2) = False := eq_false (by omega)
          have nl1_3 : (hs + 3 = 1) = False := eq_false (by omega)
          have nr1_3 : (1 = hs + 3) = False := eq_false (by omega)
          have nl1_4 : (hs + 4 = 1) = False := eq_false (by omega)
          have nr1_4 : (1 = hs + 4) = False := eq_false (by omega)
          have hg : ∀ X Y X2 Y2, ((((H.put .dead hs X).put .dead hs Y).put .dead (hs + 1) X2).put .dead (hs + 1) Y2).get .dead 1 = .map (mapS encV b 0) b.length := by
            intro X Y X2 Y2
            rw [Tr.get_put, if_neg (by omega), Tr.get_put, if_neg (by omega), Tr.get_put, if_neg (by omega), Tr.get_put, if_neg (by omega)]; exact hB
          have hH : ∀ X Y, ((H.put .dead hs X).put .dead hs Y).get .dead 1 = .map (mapS encV b 0) b.length := by
            intro X Y
            rw [Tr.get_put, if_neg (by omega), Tr.get_put, if_neg (by omega)]; exact hB
          cases h3 : mget b u.x with
          | some w =>
            rw [bcond_f (by simp [bcond, h3])]
            have hK : ∀ X Y, lookupO .string (encV v0) true ((H.put .dead hs X).put .dead hs Y) (some (.mp 1)) (some (.str u.x)) = some (.tup [encV w, .lit (.bool true)]) := fun X Y => by rw [look_mp (hH X Y), h3]
            simp only [encV, v0, Vl.cs] at hK
            simp (maxSteps := 2000000) only [stA, stH, stQ, stE, stC, xI, xF, Nat.reduceLT, Nat.reduceEqDiff, reduceCtorEq, Nat.reduceAdd, Nat.reduceSub, Nat.reduceMul, Nat.max_def, reduceIte, Nat.reduceLeDiff, Nat.reduceBEq, Int.reduceEq, Int.reduceLE, Int.reduceLT, Int.reduceNeg, Int.reduceToNat, x26, stU, b26, Try.f26, RetF_some, encT, encV, Vl.cs, hK, h3, a1, a7, a22, a23, a24, a8, a39, a40, a41, f1, f3, f4, f5, f7, e1, e3, e4, e5, List.getElem?_map, List.length_map, Int.toNat_natCast, nl1_0, nr1_0, nl1_1, nr1_1, nl1_2, nr1_2, nl1_3, nr1_3, nl1_4, nr1_4, g4, D]
            apply ih2 (k2 + 1) _ _ _ b (by omega) (hg _ _ _ _) (by omega)
            all_goals simp only [stA, stM, stH, stQ, stE, stC, xI, xF, Nat.reduceLT, Nat.reduceEqDiff, reduceCtorEq, Nat.reduceAdd, Nat.reduceSub, Nat.reduceMul, Nat.max_def, reduceIte, Nat.reduceLeDiff, Nat.reduceBEq, Int.reduceEq, Int.reduceLE, Int.reduceLT, Int.reduceNeg, Int.reduceToNat, a1, a7, a22, a23, a24, a8, a39, a40, a41]
          | none =>
            have hK : ∀ X Y, lookupO .string (encV v0) true ((H.put .dead hs X).put .dead hs Y) (some (.mp 1)) (some (.str u.x)) = some (.tup [encV v0, .lit (.bool false)]) := fun X Y => by rw [look_mp (hH X Y), h3]
            simp only [encV, v0, Vl.cs] at hK
            cases h1 : u.a with
            | true =>
              rw [bcond_f (by simp [bcond, h1])]
              simp (maxSteps := 2000000) only [stA, stH, stQ, stE, stC, xI, xF, Nat.reduceLT, Nat.reduceEqDiff, reduceCtorEq, Nat.reduceAdd, Nat.reduceSub, Nat.reduceMul, Nat.max_def, reduceIte, Nat.reduceLeDiff, Nat.reduceBEq, Int.reduceEq, Int.reduceLE, Int.reduceLT, Int.reduceNeg, Int.reduceToNat, x26, stU, b26, Try.f26, RetF_some, encT, encV, Vl.cs, hK, h1, h3, a1, a7, a22, a23, a24, a8, a39, a40, a41, f1, f3, f4, f5, f7, e1, e3, e4, e5, List.getElem?_map, List.length_map, Int.toNat_natCast, nl1_0, nr1_0, nl1_1, nr1_1, nl1_2, nr1_2, nl1_3, nr1_3, nl1_4, nr1_4, g4, D]
              apply ih2 (k2 + 1) _ _ _ b (by omega) (hg _ _ _ _) (by omega)
              all_goals simp only [stA, stM, stH, stQ, stE, stC, xI, xF, Nat.reduceLT, Nat.reduceEqDiff, reduceCtorEq, Nat.reduceAdd, Nat.reduceSub, Nat.reduceMul, Nat.max_def, reduceIte, Nat.reduceLeDiff, Nat.reduceBEq, Int.reduceEq, Int.reduceLE, Int.reduceLT, Int.reduceNeg, Int.reduceToNat, a1, a7, a22, a23, a24, a8, a39, a40, a41]
            | false =>
              cases h2 : u.x == [] with
              | true =>
                rw [bcond_f (by simp only [bcond, h1, h2]; rfl)]
                simp (maxSteps := 2000000) only [stA, stH, stQ, stE, stC, xI, xF, Nat.reduceLT, Nat.reduceEqDiff, reduceCtorEq, Nat.reduceAdd, Nat.reduceSub, Nat.reduceMul, Nat.max_def, reduceIte, Nat.reduceLeDiff, Nat.reduceBEq, Int.reduceEq, Int.reduceLE, Int.reduceLT, Int.reduceNeg, Int.reduceToNat, x26, stU, b26, Try.f26, RetF_some, encT, encV, Vl.cs, hK, h1, h2, h3, a1, a7, a22, a23, a24, a8, a39, a40, a41, f1, f3, f4, f5, f7, e1, e3, e4, e5, List.getElem?_map, List.length_map, Int.toNat_natCast, nl1_0, nr1_0, nl1_1, nr1_1, nl1_2, nr1_2, nl1_3, nr1_3, nl1_4, nr1_4, g4, D]
                apply ih2 (k2 + 1) _ _ _ b (by omega) (hg _ _ _ _) (by omega)
                all_goals simp only [stA, stM, stH, stQ, stE, stC, xI, xF, Nat.reduceLT, Nat.reduceEqDiff, reduceCtorEq, Nat.reduceAdd, Nat.reduceSub, Nat.reduceMul, Nat.max_def, reduceIte, Nat.reduceLeDiff, Nat.reduceBEq, Int.reduceEq, Int.reduceLE, Int.reduceLT, Int.reduceNeg, Int.reduceToNat, a1, a7, a22, a23, a24, a8, a39, a40, a41]
              | false =>
                rw [bcond_t (by simp only [bcond, h1, h2, h3]; rfl)]
                have hU := fun X Y X2 Y2 (hs' : Nat) => upd_mp (f := encV) (hs := hs') (v := y) (hg X Y X2 Y2) h3
                simp only [encV, Vl.cs] at hU
                simp (maxSteps := 2000000) only [stA, stH, stQ, stE, stC, xI, xF, Nat.reduceLT, Nat.reduceEqDiff, reduceCtorEq, Nat.reduceAdd, Nat.reduceSub, Nat.reduceMul, Nat.max_def, reduceIte, Nat.reduceLeDiff, Nat.reduceBEq, Int.reduceEq, Int.reduceLE, Int.reduceLT, Int.reduceNeg, Int.reduceToNat, x26, stU, b26, Try.f26, RetF_some, encA, encR, encT, encV, Vl.cs, hK, hU, h1, h2, h3, a1, a7, a22, a23, a24, a8, a39, a40, a41, f1, f3, f4, f5, f7, e1, e3, e4, e5, List.getElem?_map, List.length_map, Int.toNat_natCast, nl1_0, nr1_0, nl1_1, nr1_1, nl1_2, nr1_2, nl1_3, nr1_3, nl1_4, nr1_4, g4, D]
                apply ih2 (k2 + 1) _ _ _ (b ++ [(u.x, y)]) (by omega) (by rw [Tr.get_put, if_pos rfl]) (by omega)
                all_goals simp only [stA, stM, stH, stQ, stE, stC, xI, xF, Nat.reduceLT, Nat.reduceEqDiff, reduceCtorEq, Nat.reduceAdd, Nat.reduceSub, Nat.reduceMul, Nat.max_def, reduceIte, Nat.reduceLeDiff, Nat.reduceBEq, Int.reduceEq, Int.reduceLE, Int.reduceLT, Int.reduceNeg, Int.reduceToNat, a1, a7, a22, a23, a24, a8, a39, a40, a41]
      simp only [stU, stC, b26, Try.f26] at inner
      simp only [stA, stM, stH, stQ, stE, stC, xI, xF, Nat.reduceLT, Nat.reduceEqDiff, reduceCtorEq, Nat.reduceAdd, Nat.reduceSub, Nat.reduceMul, Nat.max_def, reduceIte, Nat.reduceLeDiff, Nat.reduceBEq, Int.reduceEq, Int.reduceLE, Int.reduceLT, Int.reduceNeg, Int.reduceToNat, x26, stU, b26, Try.f26, encA, encR, a1, a7, a22, a23, a24, e1, e3, e4, e5, List.getElem?_map, List.length_map, Int.toNat_natCast, nl1_0, nr1_0, nl1_1, nr1_1, nl1_2, nr1_2, nl1_3, nr1_3, nl1_4, nr1_4, g4, hlen, D]
      apply inner a.l.length 0 _ _ _ b (by omega) _ (by omega)
      all_goals first | omega | (simp only [stA, stM, stH, stQ, stE, stC, xI, xF, Nat.reduceLT, Nat.reduceEqDiff, reduceCtorEq, Nat.reduceAdd, Nat.reduceSub, Nat.reduceMul, Nat.max_def, reduceIte, Nat.reduceLeDiff, Nat.reduceBEq, Int.reduceEq, Int.reduceLE, Int.reduceLT, Int.reduceNeg, Int.reduceToNat, hB, nl1_0, nr1_0, nl1_1, nr1_1, nl1_2, nr1_2, nl1_3, nr1_3, nl1_4, nr1_4]; done) | (simp only [stA, stM, stH, stQ, stE, stC, xI, xF, Nat.reduceLT, Nat.reduceEqDiff, reduceCtorEq, Nat.reduceAdd, Nat.reduceSub, Nat.reduceMul, Nat.max_def, reduceIte, Nat.reduceLeDiff, Nat.reduceBEq, Int.reduceEq, Int.reduceLE, Int.reduceLT, Int.reduceNeg, Int.reduceToNat, a1, a7, a22, a23, a24]; done) | (simp only [stA, stM, stH, stQ, stE, stC, xI, xF, Nat.reduceLT, Nat.reduceEqDiff, reduceCtorEq, Nat.reduceAdd, Nat.reduceSub, Nat.reduceMul, Nat.max_def, reduceIte, Nat.reduceLeDiff, Nat.reduceBEq, Int.reduceEq, Int.reduceLE, Int.reduceLT, Int.reduceNeg, Int.reduceToNat, a1, a7, a22, a23, a24]; rfl)
theorem ats_bound {x : Ru} (ht : tot (ats x.b) < 1000000) : ∀ a ∈ ats x.b, a.l.length < 1000000 := fun a h => by
  have : a.l.length ≤ tot (ats x.b) := by
    unfold tot
    generalize ats x.b = l at h
    induction l with
    | nil => cases h
    | cons b l ih =>
      rw [List.map_cons, List.sum_cons]
      rcases List.mem_cons.1 h with rfl | h
      · omega
      · have := ih h; omega
  omega
theorem eq26 {m : Md} {x : Ru} {R : List Row} (hl : x.b.length < 1000000) (ht : tot (ats x.b) < 1000000) : iso tab fi26 m [encX x, .lst .no (R.map encR)] = some (encM2 (binds x R)) := by
  refine iso_retF ?_
  have hC : ∀ (m : Md) (H : Tr AO) (hs : Nat), callF tab (evw tab) m 20 [encX x] H hs = some (.lst .no ((ats x.b).map encA), H, hs) := fun _ _ _ => call20 hl
  simp only [encX] at hC
  have hal : (ats x.b).length < 1000000 := Nat.lt_of_le_of_lt (List.length_filter_le _ _) hl
  unfold binds
  cases h : decide (((ats x.b).length : Int) = R.length) with
  | false =>
    simp only [stA, stM, stH, stQ, stE, stC, xI, xF, Nat.reduceLT, Nat.reduceEqDiff, reduceCtorEq, Nat.reduceAdd, Nat.reduceSub, Nat.reduceMul, Nat.max_def, reduceIte, Nat.reduceLeDiff, Nat.reduceBEq, Int.reduceEq, Int.reduceLE, Int.reduceLT, Int.reduceNeg, Int.reduceToNat, x26, stU, b26, Try.f26, RetF_some, encX, hC, List.length_map, h]
    rfl
  | true =>
    have hr : (ats x.b).length = R.length := by rw [decide_eq_true_iff] at h; omega
    have L := @loop26 (ats x.b) R m.gl hal (ats_bound ht) hr (ats x.b).length 0
    simp only [stU, stC, b26, Try.f26] at L
    simp only [stA, stM, stH, stQ, stE, stC, xI, xF, Nat.reduceLT, Nat.reduceEqDiff, reduceCtorEq, Nat.reduceAdd, Nat.reduceSub, Nat.reduceMul, Nat.max_def, reduceIte, Nat.reduceLeDiff, Nat.reduceBEq, Int.reduceEq, Int.reduceLE, Int.reduceLT, Int.reduceNeg, Int.reduceToNat, x26, stU, b26, Try.f26, RetF_some, encX, hC, List.length_map, h]
    have L2 := fun t H hs => L t H hs [] (by simp)
    apply L2
    all_goals first | decide | (simp only [stA, stM, stH, stQ, stE, stC, xI, xF, Nat.reduceLT, Nat.reduceEqDiff, reduceCtorEq, Nat.reduceAdd, Nat.reduceSub, Nat.reduceMul, Nat.max_def, reduceIte, Nat.reduceLeDiff, Nat.reduceBEq, Int.reduceEq, Int.reduceLE, Int.reduceLT, Int.reduceNeg, Int.reduceToNat]; done) | (simp only [stA, stM, stH, stQ, stE, stC, xI, xF, Nat.reduceLT, Nat.reduceEqDiff, reduceCtorEq, Nat.reduceAdd, Nat.reduceSub, Nat.reduceMul, Nat.max_def, reduceIte, Nat.reduceLeDiff, Nat.reduceBEq, Int.reduceEq, Int.reduceLE, Int.reduceLT, Int.reduceNeg, Int.reduceToNat]; rfl)
theorem call26 {m : Md} {k1 : ATk} {x : Ru} {R : List Row} {H : Tr AO} {hs : Nat} (hl : x.b.length < 1000000) (ht : tot (ats x.b) < 1000000) : callF tab (evw tab) m 26 [encX x, .lst k1 (R.map encR)] H hs = some (encM2 (binds x R), H, hs) :=
  callF_iso tcon rfl rfl (by simp only [stA, stM, stH, stQ, stE, stC, xI, xF, Nat.reduceLT, Nat.reduceEqDiff, reduceCtorEq, Nat.reduceAdd, Nat.reduceSub, Nat.reduceMul, Nat.max_def, reduceIte, Nat.reduceLeDiff, Nat.reduceBEq, Int.reduceEq, Int.reduceLE, Int.reduceLT, Int.reduceNeg, Int.reduceToNat, dBN, dQN]) (by have := @eq26 m x R hl ht; simp only [stA, stM, stH, stQ, stE, stC, xI, xF, Nat.reduceLT, Nat.reduceEqDiff, reduceCtorEq, Nat.reduceAdd, Nat.reduceSub, Nat.reduceMul, Nat.max_def, reduceIte, Nat.reduceLeDiff, Nat.reduceBEq, Int.reduceEq, Int.reduceLE, Int.reduceLT, Int.reduceNeg, Int.reduceToNat, dBN, dQN] at this ⊢; exact this)
end Go.Proofs.Ytpehpccahbofiaa.Ev

set_option maxRecDepth 100000
set_option maxHeartbeats 4000000
namespace Go.Proofs.Ytpehpccahbofiaa.Ev
open Go Go.Proofs.Ytpehpccahbofiaa.Ev Go.Proofs Go.Proofs.Ytpehpccahbofiaa Go.Proofs.Ytpehpccahbofiaa.Tab

/-! ### What they tell -/
def heads (b : Bd) : List (List UInt8) → Option Row
  | [] => some []
  | n :: l => match mget b n with
    | none => none
    | some v => (heads b l).map (v :: ·)
def told (x : Ru) (R : List Row) : Row × Int := bif (binds x R).2 then (match heads (binds x R).1 x.h with | some r => (r, 0) | none => ([], 12)) else ([], 9)
def encTd (p : Row × Int) : AV := .tup [encR p.1, .lit (.int .i64 p.2)]
/-- Told so far, and what is told behind. -/
def hdE (es : Row) (o : Option Row) : Row × Int := match o with | some r => (es ++ r, 0) | none => ([], 12)
theorem hdE_cons {b : Bd} {es : Row} {n : List UInt8} {l : List (List UInt8)} : hdE es (heads b (n :: l)) = match mget b n with | none => ([], 12) | some v => hdE (es ++ [v]) (heads b l) := by
  rw [heads]
  cases mget b n with
  | none => rfl
  | some v => cases heads b l with
    | none => rfl
    | some r => simp [hdE]
theorem appV {H : Tr AO} {hs : Nat} {A : AV} {es : Row} (v : Vl) (h : Acc H hs 4 A (es.map encV)) (hl : es.length < 1000000) : appendO H hs true true 4 40 (some A) (some (.lst .full [.agg v.cs])) = some (.lst (.room hs) ((es ++ [v]).map encV), accH H hs 4 A, hs + 1) := accApp v h rfl (by omega)
theorem loop13 {x : Ru} {b : Bd} {gl : Tr (Option AV)} (hl : x.h.length < 1000000) (hb : b.length < 1000000) : ∀ (k i : Nat) (t : Tr AV) (H : Tr AO) (hs : Nat) (A : AV) (es : Row) (w w2 : Bool), i + k = x.h.length → es.length ≤ i → Acc H hs 4 A (es.map encV) → 1 < hs → H.get .dead 0 = .cells x.cs w → H.get .dead 1 = .cells (qcs b) w2 →
    t.get .any 8 = A → t.get .any 2 = .ptr 0 0 → t.get .any 6 = .ptr 1 0 → t.get .any 9 = .lit (.int .i64 i) →
    RetN (W tab none (fin tab fi13) (lpc fi13 0) (lpk fi13 0) ⟨t, 44, H, hs, [], ⟨true, true, gl⟩⟩) (encTd (hdE es (heads b (x.h.drop i)))) := by
  have D := d13
  simp only [stD, stC, List.cons.injEq, b13, Try.f13] at D
  simp only [stU, stC, b13, Try.f13]
  intro k
  induction k with
  | zero =>
    intro i t H hs A es w w2 hi he hA h0 hX hQ a8 a2 a6 a9
    have e1 : decide ((i : Int) < (x.h).length) = false := by rw [decide_eq_false_iff_not]; omega
    rw [W_loop, List.drop_of_length_le (by omega)]
    simp only [stA, stM, stH, stQ, stE, stC, xI, xF, Nat.reduceLT, Nat.reduceEqDiff, reduceCtorEq, Nat.reduceAdd, Nat.reduceSub, Nat.reduceMul, Nat.max_def, reduceIte, Nat.reduceLeDiff, Nat.reduceBEq, Int.reduceEq, Int.reduceLE, Int.reduceLT, Int.reduceNeg, Int.reduceToNat, x13, stU, b13, Try.f13, a8, a2, a6, a9, hX, e1, accBare bare_V hA, accNrm nrm_V hA, List.length_map, heads, hdE, encTd, encR, List.append_nil]
  | succ k ih =>
    intro i t H hs A es w w2 hi he hA h0 hX hQ a8 a2 a6 a9
    have hlt : i < (x.h).length := by omega
    have e1 : decide ((i : Int) < (x.h).length) = true := by rw [decide_eq_true_iff]; omega
    have e3 : decide (0 ≤ (i : Int)) = true := by rw [decide_eq_true_iff]; omega
    have e4 : (x.h)[i]? = some (x.h)[i] := List.getElem?_eq_getElem _
    have e6 : (x.h).drop i = (x.h)[i] :: (x.h).drop (i + 1) := List.drop_eq_getElem_cons hlt
    have e7 : (x.h).take (i + 1) = (x.h).take i ++ [(x.h)[i]] := List.take_succ_eq_append_getElem hlt
    generalize hv : (x.h)[i] = n at e4 e6 e7
    have e5 := wrap_succ (i := i) (by omega)
    have nl0_0 : (hs = 0) = False := eq_false (by omega)
    have nr0_0 : (0 = hs) = False := eq_false (by omega)
    have nl0_1 : (hs + 1 = 0) = False := eq_false (by omega)
    have nr0_1 : (0 = hs + 1) = False := eq_false (by omega)
    have nl0_2 : (hs + 2 = 0) = False := eq_false (by omega)
    have nr0_2 : (0 = hs + 2) = False := eq_false (by omega)
    have nl0_3 : (hs + 3 = 0) = False := eq_false (by omega)
    have nr0_3 : (0 = hs + 3) = False := eq_false (by omega)
    have nl0_4 : (hs + 4 = 0) = False := eq_false (by omega)
    have nr0_4 : (0 = hs + 4) = False := eq_false (by omega)
    have nl1_0 : (hs = 1) = False := eq_false (by omega)
    have nr1_0 : (1 = hs) = False := eq_false (by omega)
    have nl1_1 : (hs + 1 = 1) = False := eq_false (by omega)
    have nr1_1 : (1 = hs + 1) = False := eq_false (by omega)
    have nl1_2 : (hs + 2 = 1) = False := eq_false (by omega)
    have nr1_2 : (1 = hs + 2) = False := eq_false (by omega)
    have nl1_3 : (hs + 3 = 1) = False := eq_false (by omega)
    have nr1_3 : (1 = hs + 3) = False := eq_false (by omega)
    have nl1_4 : (hs + 4 = 1) = False := eq_false (by omega)
    have nr1_4 : (1 = hs + 4) = False := eq_false (by omega)
    have hC := fun m H hs => @call28 m .no .no b n H hs hb
    rw [W_loop, e6, hdE_cons]
    have hB : ∀ X Y, Acc ((H.put .dead hs X).put .dead hs Y) (hs + 1) 4 A (es.map encV) := fun X Y => ((hA.put' (Nat.le_refl _)).put' (Nat.le_refl _)).up
    cases h1 : mget b n with
    | none =>
      simp only [h1] at hC
      simp (maxSteps := 2000000) only [stA, stM, stH, stQ, stE, stC, xI, xF, Nat.reduceLT, Nat.reduceEqDiff, reduceCtorEq, Nat.reduceAdd, Nat.reduceSub, Nat.reduceMul, Nat.max_def, reduceIte, Nat.reduceLeDiff, Nat.reduceBEq, Int.reduceEq, Int.reduceLE, Int.reduceLT, Int.reduceNeg, Int.reduceToNat, x13, stU, b13, Try.f13, dQN, qcs, encO, encV, v0, Vl.cs, a8, a2, a6, a9, hX, hQ, e1, e3, e4, e5, List.getElem?_map, List.length_map, Int.toNat_natCast, nl0_0, nr0_0, nl0_1, nr0_1, nl0_2, nr0_2, nl0_3, nr0_3, nl0_4, nr0_4, nl1_0, nr1_0, nl1_1, nr1_1, nl1_2, nr1_2, nl1_3, nr1_3, nl1_4, nr1_4, hC, D, Option.getD_none, Option.isSome_none]
      rfl
    | some v =>
      have hP := fun X Y => appV v (hB X Y) (by omega)
      simp only [h1] at hC
      simp (maxSteps := 2000000) only [stM, stH, stQ, stE, stC, xI, xF, Nat.reduceLT, Nat.reduceEqDiff, reduceCtorEq, Nat.reduceAdd, Nat.reduceSub, Nat.reduceMul, Nat.max_def, reduceIte, Nat.reduceLeDiff, Nat.reduceBEq, Int.reduceEq, Int.reduceLE, Int.reduceLT, Int.reduceNeg, Int.reduceToNat, x13, stU, b13, Try.f13, dQN, qcs, encO, encV, Vl.cs, a8, a2, a6, a9, hX, hQ, e1, e3, e4, e5, List.getElem?_map, List.length_map, Int.toNat_natCast, nl0_0, nr0_0, nl0_1, nr0_1, nl0_2, nr0_2, nl0_3, nr0_3, nl0_4, nr0_4, nl1_0, nr1_0, nl1_1, nr1_1, nl1_2, nr1_2, nl1_3, nr1_3, nl1_4, nr1_4, hC, hP, D, Option.getD_some, Option.isSome_some]
      have hg0 : ∀ X Y, (accH ((H.put .dead hs X).put .dead hs Y) (hs + 1) 4 A).get .dead 0 = .cells x.cs w := fun X Y => by
        have e : ((H.put .dead hs X).put .dead hs Y).get .dead 0 = .cells x.cs w := by rw [Tr.get_put, if_neg (by omega), Tr.get_put, if_neg (by omega)]; exact hX
        rw [(hB X Y).get (by omega) (by rw [e]; rfl), e]
      have hg1 : ∀ X Y, (accH ((H.put .dead hs X).put .dead hs Y) (hs + 1) 4 A).get .dead 1 = .cells (qcs b) w2 := fun X Y => by
        have e : ((H.put .dead hs X).put .dead hs Y).get .dead 1 = .cells (qcs b) w2 := by rw [Tr.get_put, if_neg (by omega), Tr.get_put, if_neg (by omega)]; exact hQ
        rw [(hB X Y).get (by omega) (by rw [e]; rfl), e]
      apply ih (i + 1) _ _ _ _ (es ++ [v]) _ _ (by omega) (by rw [List.length_append, List.length_singleton]; omega) accN (by omega) (hg0 _ _) (hg1 _ _)
      all_goals simp only [stA, stM, stH, stQ, stE, stC, xI, xF, Nat.reduceLT, Nat.reduceEqDiff, reduceCtorEq, Nat.reduceAdd, Nat.reduceSub, Nat.reduceMul, Nat.max_def, reduceIte, Nat.reduceLeDiff, Nat.reduceBEq, Int.reduceEq, Int.reduceLE, Int.reduceLT, Int.reduceNeg, Int.reduceToNat, a8, a2, a6, a9]

theorem bstep_len {b : Bd} {t : Tm} {v : Vl} : (bstep b t v).length ≤ b.length + 1 := by
  unfold bstep
  cases bcond b t <;> simp
theorem bzip_len : ∀ {l : List Tm} {r : Row} {b : Bd}, (bzip b l r).length ≤ b.length + l.length
  | [], r, b => by simp [bzip]
  | t :: l, [], b => by simp [bzip]
  | t :: l, v :: r, b => by
    rw [bzip]
    have := bzip_len (l := l) (r := r) (b := bstep b t v)
    have h2 := bstep_len (b := b) (t := t) (v := v)
    rw [List.length_cons]; omega
theorem bindL_len : ∀ {L : List Lt} {R : List Row} {b : Bd}, (bindL b L R).1.length ≤ b.length + tot L
  | [], R, b => by simp [bindL]
  | a :: L, [], b => by simp [bindL]
  | a :: L, r :: R, b => by
    rw [bindL, tot_cons]
    cases decide ((a.l.length : Int) = r.length) with
    | false => simp only [cond_false]; omega
    | true =>
      simp only [cond_true]
      have := bindL_len (L := L) (R := R) (b := bzip b a.l r)
      have h2 := bzip_len (l := a.l) (r := r) (b := b)
      omega
theorem binds_len {x : Ru} {R : List Row} : (binds x R).1.length ≤ tot (ats x.b) := by
  unfold binds
  cases decide (((ats x.b).length : Int) = R.length) with
  | false => simp
  | true => simp only [cond_true]; have := bindL_len (L := ats x.b) (R := R) (b := []); simpa using this
theorem eq13 {m : Md} {x : Ru} {R : List Row} (hl : x.b.length < 1000000) (ht : tot (ats x.b) < 1000000) (hh : x.h.length < 1000000) : iso tab fi13 m [encX x, .lst .no (R.map encR)] = some (encTd (told x R)) := by
  refine iso_ret ?_
  have hC : ∀ (m : Md) (H : Tr AO) (hs : Nat), callF tab (evw tab) m 27 [encX x, .lst .no (R.map encR)] H hs = some (encQ2 (binds x R), H, hs) := fun _ _ _ => call27 hl ht
  have hbl := Nat.lt_of_le_of_lt (@binds_len x R) ht
  unfold told
  generalize binds x R = p at hC hbl
  obtain ⟨b, ok⟩ := p
  simp only [encX, encQ2, encQ] at hC
  cases ok with
  | false =>
    simp only [stA, stM, stH, stQ, stE, stC, xI, xF, Nat.reduceLT, Nat.reduceEqDiff, reduceCtorEq, Nat.reduceAdd, Nat.reduceSub, Nat.reduceMul, Nat.max_def, reduceIte, Nat.reduceLeDiff, Nat.reduceBEq, Int.reduceEq, Int.reduceLE, Int.reduceLT, Int.reduceNeg, Int.reduceToNat, x13, stU, b13, Try.f13, encX, hC]
    rfl
  | true =>
    have L := @loop13 x b m.gl hh hbl x.h.length 0
    simp only [stU, stC, b13, Try.f13] at L
    simp only [stA, stM, stH, stQ, stE, stC, xI, xF, Nat.reduceLT, Nat.reduceEqDiff, reduceCtorEq, Nat.reduceAdd, Nat.reduceSub, Nat.reduceMul, Nat.max_def, reduceIte, Nat.reduceLeDiff, Nat.reduceBEq, Int.reduceEq, Int.reduceLE, Int.reduceLT, Int.reduceNeg, Int.reduceToNat, x13, stU, b13, Try.f13, encX, hC, List.length_map]
    have L2 := fun t H hs A => L t H hs A [] false false (by simp) (by simp)
    have e : (match heads b x.h with | some r => (r, (0 : Int)) | none => ([], 12)) = hdE [] (heads b (x.h.drop 0)) := by
      cases hq : heads b x.h <;> simp [hdE, hq]
    rw [e]
    apply L2
    · exact .nil
    all_goals first | (simp only [stA, stM, stH, stQ, stE, stC, xI, xF, Nat.reduceLT, Nat.reduceEqDiff, reduceCtorEq, Nat.reduceAdd, Nat.reduceSub, Nat.reduceMul, Nat.max_def, reduceIte, Nat.reduceLeDiff, Nat.reduceBEq, Int.reduceEq, Int.reduceLE, Int.reduceLT, Int.reduceNeg, Int.reduceToNat]; done) | decide | (simp only [stA, stM, stH, stQ, stE, stC, xI, xF, Nat.reduceLT, Nat.reduceEqDiff, reduceCtorEq, Nat.reduceAdd, Nat.reduceSub, Nat.reduceMul, Nat.max_def, reduceIte, Nat.reduceLeDiff, Nat.reduceBEq, Int.reduceEq, Int.reduceLE, Int.reduceLT, Int.reduceNeg, Int.reduceToNat]; rfl)
theorem call13 {m : Md} {k1 : ATk} {x : Ru} {R : List Row} {H : Tr AO} {hs : Nat} (hl : x.b.length < 1000000) (ht : tot (ats x.b) < 1000000) (hh : x.h.length < 1000000) : callF tab (evw tab) m 13 [encX x, .lst k1 (R.map encR)] H hs = some (encTd (told x R), H, hs) :=
  callF_iso tcon rfl rfl (by simp only [stA, stM, stH, stQ, stE, stC, xI, xF, Nat.reduceLT, Nat.reduceEqDiff, reduceCtorEq, Nat.reduceAdd, Nat.reduceSub, Nat.reduceMul, Nat.max_def, reduceIte, Nat.reduceLeDiff, Nat.reduceBEq, Int.reduceEq, Int.reduceLE, Int.reduceLT, Int.reduceNeg, Int.reduceToNat, dBN, dQN]) (by have := @eq13 m x R hl ht hh; simp only [stA, stM, stH, stQ, stE, stC, xI, xF, Nat.reduceLT, Nat.reduceEqDiff, reduceCtorEq, Nat.reduceAdd, Nat.reduceSub, Nat.reduceMul, Nat.max_def, reduceIte, Nat.reduceLeDiff, Nat.reduceBEq, Int.reduceEq, Int.reduceLE, Int.reduceLT, Int.reduceNeg, Int.reduceToNat, dBN, dQN] at this ⊢; exact this)
end Go.Proofs.Ytpehpccahbofiaa.Ev

set_option maxRecDepth 100000
set_option maxHeartbeats 4000000
namespace Go.Proofs.Ytpehpccahbofiaa.Ev
open Go Go.Proofs.Ytpehpccahbofiaa.Ev Go.Proofs Go.Proofs.Ytpehpccahbofiaa Go.Proofs.Ytpehpccahbofiaa.Tab

theorem tt26 : ∃ i, tab.t 26 = some i ∧ i.desc = .slice 56 := ⟨_, rfl, rfl⟩
theorem tt56a : ∃ i, tab.t 56 = some i ∧ i.size = 4 ∧ isAggD i.desc = true := ⟨_, rfl, rfl, rfl⟩
theorem nrmsF : ∀ (l : Row), nrms (l.flatMap Vl.cs) = l.flatMap Vl.cs
  | [] => rfl
  | v :: l => by
    have ih := nrmsF l
    simp only [List.flatMap_cons, Vl.cs, List.cons_append, List.nil_append, nrms, nrm] at ih ⊢
    rw [ih]
theorem flatF : ∀ (l : Row), (l.flatMap Vl.cs).all flatC = true
  | [] => rfl
  | v :: l => by
    have ih := flatF l
    simp only [List.flatMap_cons, Vl.cs, List.cons_append, List.nil_append, List.all_cons, flatC, Bool.true_and] at ih ⊢
    exact ih
theorem own26 {H : Tr AO} {hs : Nat} {A : AV} {es : Row} (h : AccC H hs 4 A es.length (es.flatMap Vl.cs)) : ownV tab 26 A H = some (encR es) := by
  rcases h with ⟨h1, h2, rfl⟩ | ⟨h0, o, rfl, h1, h2, h3⟩
  · have : es = [] := List.length_eq_zero_iff.1 h1
    subst this; rfl
  · obtain ⟨i, i1, i2⟩ := tt26
    obtain ⟨e, e1, e2, e3⟩ := tt56a
    have hrd : rd H o 0 (es.length * 4) = some (es.flatMap Vl.cs) := by
      unfold rd
      rw [h1]
      simp only [Nat.zero_add, List.drop_zero]
      rw [show Nat.ble (es.length * 4) (es.flatMap Vl.cs).length = true from ble_le.2 (by omega), cond_true, ← h3, List.take_length]
    unfold ownV
    simp only [i1, i2, e1, e2, h1, hrd, capOk, flatF, e3, Bool.true_or, Bool.and_true, nrmsF]
    rw [show Nat.blt 0 4 = true from rfl, cond_true, chunk_agg (f := Vl.cs) (sz := 4) (fun _ => rfl)]
    rfl
theorem own12 {H : Tr AO} {hs : Nat} {A : AV} {es : Row} (h : AccC H hs 4 A es.length (es.flatMap Vl.cs)) (n : Int) : ownR tab [26, 31] (.tup [A, .lit (.int .i64 n)]) H = some (encTd (es, n)) := by
  simp only [ownR, ownL, own26 h]
  rfl
theorem appC {H : Tr AO} {hs l : Nat} {cap : ACap} {A : AV} {es : Row} (v : Vl) (h : AccC H hs 4 A es.length (es.flatMap Vl.cs)) (hv : H.get .dead l = .cells v.cs false) (hl : es.length < 1000000) : appendO H hs false true 4 40 (some A) (some (.slc l 0 1 cap)) = some (.slc hs 0 (es ++ [v]).length (.op 4), accHC H hs ((es ++ [v]).flatMap Vl.cs) A, hs + 1) := by
  rw [appendC1 (by decide) h hv rfl rfl (by omega)]
  simp
theorem AccC.nextV {H : Tr AO} {hs : Nat} {A : AV} {es : Row} (h : AccC H hs 4 A es.length (es.flatMap Vl.cs)) (v : Vl) : AccC (accHC H hs ((es ++ [v]).flatMap Vl.cs) A) (hs + 1) 4 (.slc hs 0 (es ++ [v]).length (.op 4)) (es ++ [v]).length ((es ++ [v]).flatMap Vl.cs) := by
  have := h.next (ys := v.cs) rfl
  simpa using this
theorem loop12 {x : Ru} {b : Bd} {gl : Tr (Option AV)} (hl : x.h.length < 1000000) : ∀ (k i : Nat) (t : Tr AV) (H : Tr AO) (hs : Nat) (A : AV) (es : Row), i + k = x.h.length → es.length ≤ i → AccC H hs 4 A es.length (es.flatMap Vl.cs) →
    t.get .any 8 = A → t.get .any 6 = encM b → t.get .any 22 = .lst .no (x.h.map .str) → t.get .any 23 = .lit (.int .i64 x.h.length) → t.get .any 24 = .lit (.int .i64 i) →
    RetO tab fi12 (W tab none (fin tab fi12) (lpc fi12 0) (lpk fi12 0) ⟨t, 42, H, hs, [], ⟨false, true, gl⟩⟩) (encTd (hdE es (heads b (x.h.drop i)))) := by
  simp only [stU, stC, b12, Try.f12]
  intro k
  induction k with
  | zero =>
    intro i t H hs A es hi he hA a8 a6 a22 a23 a24
    have e1 : decide ((i : Int) < (x.h).length) = false := by rw [decide_eq_false_iff_not]; omega
    rw [W_loop, List.drop_of_length_le (by omega)]
    simp only [stA, stM, stH, stQ, stE, stC, xI, xF, Nat.reduceLT, Nat.reduceEqDiff, reduceCtorEq, Nat.reduceAdd, Nat.reduceSub, Nat.reduceMul, Nat.max_def, reduceIte, Nat.reduceLeDiff, Nat.reduceBEq, Int.reduceEq, Int.reduceLE, Int.reduceLT, Int.reduceNeg, Int.reduceToNat, x12, stU, b12, Try.f12, a8, a6, a22, a23, a24, e1, own12 hA, List.length_map, heads, hdE, List.append_nil]
  | succ k ih =>
    intro i t H hs A es hi he hA a8 a6 a22 a23 a24
    have hlt : i < (x.h).length := by omega
    have e1 : decide ((i : Int) < (x.h).length) = true := by rw [decide_eq_true_iff]; omega
    have e3 : decide (0 ≤ (i : Int)) = true := by rw [decide_eq_true_iff]; omega
    have e4 : (x.h)[i]? = some (x.h)[i] := List.getElem?_eq_getElem _
    have e6 : (x.h).drop i = (x.h)[i] :: (x.h).drop (i + 1) := List.drop_eq_getElem_cons hlt
    have e7 : (x.h).take (i + 1) = (x.h).take i ++ [(x.h)[i]] := List.take_succ_eq_append_getElem hlt
    generalize hv : (x.h)[i] = n at e4 e6 e7
    have e5 := wrap_succ (i := i) (by omega)
    rw [W_loop, e6, hdE_cons]
    have hB : ∀ X Y Z, AccC (((H.put .dead hs X).put .dead hs Y).put .dead (hs + 1) Z) (hs + 1 + 1) 4 A es.length (es.flatMap Vl.cs) := fun X Y Z => (((hA.put (Nat.le_refl _)).put (Nat.le_refl _)).up.put (Nat.le_refl _)).up
    cases h1 : mget b n with
    | none =>
      have hK : ∀ z H, lookupO .string z true H (some (.fmp (mapS encV b 0))) (some (.str n)) = some (.tup [z, .lit (.bool false)]) := fun z H => by rw [look_fmp, h1]
      simp (maxSteps := 2000000) only [stA, stH, stQ, stE, stC, xI, xF, Nat.reduceLT, Nat.reduceEqDiff, reduceCtorEq, Nat.reduceAdd, Nat.reduceSub, Nat.reduceMul, Nat.max_def, reduceIte, Nat.reduceLeDiff, Nat.reduceBEq, Int.reduceEq, Int.reduceLE, Int.reduceLT, Int.reduceNeg, Int.reduceToNat, x12, stU, b12, Try.f12, encM, a8, a6, a22, a23, a24, e1, e3, e4, e5, List.getElem?_map, List.length_map, Int.toNat_natCast, hK]
      rfl
    | some v =>
      have hK : ∀ z H, lookupO .string z true H (some (.fmp (mapS encV b 0))) (some (.str n)) = some (.tup [encV v, .lit (.bool true)]) := fun z H => by rw [look_fmp, h1]
      have hP := fun X Y => appC v (l := hs + 1) (cap := .ex 1) (hB X Y (.cells v.cs false)) (by rw [Tr.get_put, if_pos rfl]) (by omega)
      simp only [encV, Vl.cs] at hK hP
      simp (maxSteps := 2000000) only [stH, stQ, stE, stC, xI, xF, Nat.reduceLT, Nat.reduceEqDiff, reduceCtorEq, Nat.reduceAdd, Nat.reduceSub, Nat.reduceMul, Nat.max_def, reduceIte, Nat.reduceLeDiff, Nat.reduceBEq, Int.reduceEq, Int.reduceLE, Int.reduceLT, Int.reduceNeg, Int.reduceToNat, x12, stU, b12, Try.f12, encM, a8, a6, a22, a23, a24, e1, e3, e4, e5, List.getElem?_map, List.length_map, Int.toNat_natCast, hK, hP]
      apply ih (i + 1) _ _ _ _ (es ++ [v]) (by omega) (by rw [List.length_append, List.length_singleton]; omega) ((hB _ _ _).nextV v)
      all_goals simp only [stA, stM, stH, stQ, stE, stC, xI, xF, Nat.reduceLT, Nat.reduceEqDiff, reduceCtorEq, Nat.reduceAdd, Nat.reduceSub, Nat.reduceMul, Nat.max_def, reduceIte, Nat.reduceLeDiff, Nat.reduceBEq, Int.reduceEq, Int.reduceLE, Int.reduceLT, Int.reduceNeg, Int.reduceToNat, encM, a8, a6, a22, a23, a24]

theorem told_eq {x : Ru} {R : List Row} : told x R = bif (binds x R).2 then hdE [] (heads (binds x R).1 x.h) else ([], 9) := by
  unfold told
  cases (binds x R).2 with
  | false => rfl
  | true => cases heads (binds x R).1 x.h <;> rfl
theorem eq12 {m : Md} {x : Ru} {R : List Row} (hl : x.b.length < 1000000) (ht : tot (ats x.b) < 1000000) (hh : x.h.length < 1000000) : isoO (evw tab) tab fi12 m [encX x, .lst .no (R.map encR)] = some (encTd (told x R)) := by
  refine own_ret ?_
  have hC : ∀ (m : Md) (H : Tr AO) (hs : Nat), callF tab (evw tab) m 26 [encX x, .lst .no (R.map encR)] H hs = some (encM2 (binds x R), H, hs) := fun _ _ _ => call26 hl ht
  rw [told_eq]
  generalize binds x R = p at hC
  obtain ⟨b, ok⟩ := p
  simp only [encX, encM2] at hC
  cases ok with
  | false =>
    simp only [cond_false] at hC
    simp only [stA, stM, stH, stQ, stE, stC, xI, xF, Nat.reduceLT, Nat.reduceEqDiff, reduceCtorEq, Nat.reduceAdd, Nat.reduceSub, Nat.reduceMul, Nat.max_def, reduceIte, Nat.reduceLeDiff, Nat.reduceBEq, Int.reduceEq, Int.reduceLE, Int.reduceLT, Int.reduceNeg, Int.reduceToNat, x12, stU, b12, Try.f12, encX, hC]
    rfl
  | true =>
    simp only [cond_true, encM] at hC
    have L := @loop12 x b m.gl hh x.h.length 0
    simp only [stU, stC, b12, Try.f12] at L
    simp only [stA, stM, stH, stQ, stE, stC, xI, xF, Nat.reduceLT, Nat.reduceEqDiff, reduceCtorEq, Nat.reduceAdd, Nat.reduceSub, Nat.reduceMul, Nat.max_def, reduceIte, Nat.reduceLeDiff, Nat.reduceBEq, Int.reduceEq, Int.reduceLE, Int.reduceLT, Int.reduceNeg, Int.reduceToNat, x12, stU, b12, Try.f12, encX, hC, List.length_map]
    have L2 := fun t H hs A => L t H hs A [] (by simp) (by simp)
    apply L2
    · exact .inl ⟨rfl, rfl, rfl⟩
    all_goals first | (simp only [stA, stM, stH, stQ, stE, stC, xI, xF, Nat.reduceLT, Nat.reduceEqDiff, reduceCtorEq, Nat.reduceAdd, Nat.reduceSub, Nat.reduceMul, Nat.max_def, reduceIte, Nat.reduceLeDiff, Nat.reduceBEq, Int.reduceEq, Int.reduceLE, Int.reduceLT, Int.reduceNeg, Int.reduceToNat]; done) | decide | (simp only [stA, stM, stH, stQ, stE, stC, xI, xF, Nat.reduceLT, Nat.reduceEqDiff, reduceCtorEq, Nat.reduceAdd, Nat.reduceSub, Nat.reduceMul, Nat.max_def, reduceIte, Nat.reduceLeDiff, Nat.reduceBEq, Int.reduceEq, Int.reduceLE, Int.reduceLT, Int.reduceNeg, Int.reduceToNat, encM]; done) | (simp only [stA, stM, stH, stQ, stE, stC, xI, xF, Nat.reduceLT, Nat.reduceEqDiff, reduceCtorEq, Nat.reduceAdd, Nat.reduceSub, Nat.reduceMul, Nat.max_def, reduceIte, Nat.reduceLeDiff, Nat.reduceBEq, Int.reduceEq, Int.reduceLE, Int.reduceLT, Int.reduceNeg, Int.reduceToNat]; rfl)
theorem call12 {m : Md} {k1 : ATk} {x : Ru} {R : List Row} {H : Tr AO} {hs : Nat} (hl : x.b.length < 1000000) (ht : tot (ats x.b) < 1000000) (hh : x.h.length < 1000000) : callF tab (evw tab) m 12 [encX x, .lst k1 (R.map encR)] H hs = some (encTd (told x R), H, hs) :=
  callF_own (H1 := H) tcon rfl rfl rfl (bs := [encX x, .lst k1 (R.map encR)]) (by simp only [stA, stM, stH, stQ, stE, stC, xI, xF, Nat.reduceLT, Nat.reduceEqDiff, reduceCtorEq, Nat.reduceAdd, Nat.reduceSub, Nat.reduceMul, Nat.max_def, reduceIte, Nat.reduceLeDiff, Nat.reduceBEq, Int.reduceEq, Int.reduceLE, Int.reduceLT, Int.reduceNeg, Int.reduceToNat, dBN]) (by simp only [stA, stM, stH, stQ, stE, stC, xI, xF, Nat.reduceLT, Nat.reduceEqDiff, reduceCtorEq, Nat.reduceAdd, Nat.reduceSub, Nat.reduceMul, Nat.max_def, reduceIte, Nat.reduceLeDiff, Nat.reduceBEq, Int.reduceEq, Int.reduceLE, Int.reduceLT, Int.reduceNeg, Int.reduceToNat, dBN]) (by have := @eq12 m x R hl ht hh; simp only [stA, stM, stH, stQ, stE, stC, xI, xF, Nat.reduceLT, Nat.reduceEqDiff, reduceCtorEq, Nat.reduceAdd, Nat.reduceSub, Nat.reduceMul, Nat.max_def, reduceIte, Nat.reduceLeDiff, Nat.reduceBEq, Int.reduceEq, Int.reduceLE, Int.reduceLT, Int.reduceNeg, Int.reduceToNat, dBN] at this ⊢; exact this)

/-! ### Rows of relations -/
theorem loop34 {l : List En} {r : Row} {gl : Tr (Option AV)} (hl : l.length < 1000000) (hk : ∀ e ∈ l, e.r.length < 1000000 ∧ ∀ v ∈ e.r, OkV v) : ∀ (k i : Nat) (t : Tr AV) (H : Tr AO) (hs : Nat), i + k = l.length →
    t.get .any 0 = .lst .no (l.map encE) → t.get .any 1 = encR r → t.get .any 5 = .lit (.int .i64 i) →
    RetN (W tab none (fin tab fi34) (lpc fi34 0) (lpk fi34 0) ⟨t, 19, H, hs, [], ⟨true, true, gl⟩⟩) (.lit (.bool ((l.drop i).any fun e => decide (rcmp e.r r = 0)))) := by
  simp only [stU, stC, b34, Try.f34]
  intro k
  induction k with
  | zero =>
    intro i t H hs hi a0 a1 a5
    have e1 : decide ((i : Int) < (l).length) = false := by rw [decide_eq_false_iff_not]; omega
    rw [W_loop, List.drop_of_length_le (by omega)]
    simp only [stA, stM, stH, stQ, stE, stC, xI, xF, Nat.reduceLT, Nat.reduceEqDiff, reduceCtorEq, Nat.reduceAdd, Nat.reduceSub, Nat.reduceMul, Nat.max_def, reduceIte, Nat.reduceLeDiff, Nat.reduceBEq, Int.reduceEq, Int.reduceLE, Int.reduceLT, Int.reduceNeg, Int.reduceToNat, x34, stU, b34, Try.f34, a0, a1, a5, e1, List.length_map, List.any_nil]
  | succ k ih =>
    intro i t H hs hi a0 a1 a5
    have hlt : i < (l).length := by omega
    have e1 : decide ((i : Int) < (l).length) = true := by rw [decide_eq_true_iff]; omega
    have e3 : decide (0 ≤ (i : Int)) = true := by rw [decide_eq_true_iff]; omega
    have e4 : (l)[i]? = some (l)[i] := List.getElem?_eq_getElem _
    have e6 : (l).drop i = (l)[i] :: (l).drop (i + 1) := List.drop_eq_getElem_cons hlt
    have e7 : (l).take (i + 1) = (l).take i ++ [(l)[i]] := List.take_succ_eq_append_getElem hlt
    generalize hv : (l)[i] = e at e4 e6 e7
    have e5 := wrap_succ (i := i) (by omega)
    have he := hk e (hv ▸ List.getElem_mem _)
    have hC := fun m H hs => @call17 m .no .no e.r r H hs (by omega) he.2
    rw [W_loop, e6, List.any_cons]
    cases h1 : decide (rcmp e.r r = 0) with
    | true =>
      simp only [h1] at hC
      simp only [stA, stM, stH, stQ, stE, stC, xI, xF, Nat.reduceLT, Nat.reduceEqDiff, reduceCtorEq, Nat.reduceAdd, Nat.reduceSub, Nat.reduceMul, Nat.max_def, reduceIte, Nat.reduceLeDiff, Nat.reduceBEq, Int.reduceEq, Int.reduceLE, Int.reduceLT, Int.reduceNeg, Int.reduceToNat, x34, stU, b34, Try.f34, encE, encR, a0, a1, a5, e1, e3, e4, e5, List.getElem?_map, List.length_map, Int.toNat_natCast, hC]
    | false =>
      simp only [h1] at hC
      simp only [stA, stM, stH, stQ, stE, stC, xI, xF, Nat.reduceLT, Nat.reduceEqDiff, reduceCtorEq, Nat.reduceAdd, Nat.reduceSub, Nat.reduceMul, Nat.max_def, reduceIte, Nat.reduceLeDiff, Nat.reduceBEq, Int.reduceEq, Int.reduceLE, Int.reduceLT, Int.reduceNeg, Int.reduceToNat, x34, stU, b34, Try.f34, encE, encR, a0, a1, a5, e1, e3, e4, e5, List.getElem?_map, List.length_map, Int.toNat_natCast, hC]
      apply ih (i + 1) _ _ _ (by omega)
      all_goals simp only [stA, stM, stH, stQ, stE, stC, xI, xF, Nat.reduceLT, Nat.reduceEqDiff, reduceCtorEq, Nat.reduceAdd, Nat.reduceSub, Nat.reduceMul, Nat.max_def, reduceIte, Nat.reduceLeDiff, Nat.reduceBEq, Int.reduceEq, Int.reduceLE, Int.reduceLT, Int.reduceNeg, Int.reduceToNat, encR, a0, a1, a5]
theorem eq34 {m : Md} {l : List En} {r : Row} (hl : l.length < 1000000) (hk : ∀ e ∈ l, e.r.length < 1000000 ∧ ∀ v ∈ e.r, OkV v) : iso tab fi34 m [.lst .no (l.map encE), encR r] = some (.lit (.bool (l.any fun e => decide (rcmp e.r r = 0)))) := by
  refine iso_ret ?_
  have L := @loop34 l r m.gl hl hk l.length 0
  simp only [stU, stC, b34, Try.f34] at L
  simp only [stA, stM, stH, stQ, stE, stC, xI, xF, Nat.reduceLT, Nat.reduceEqDiff, reduceCtorEq, Nat.reduceAdd, Nat.reduceSub, Nat.reduceMul, Nat.max_def, reduceIte, Nat.reduceLeDiff, Nat.reduceBEq, Int.reduceEq, Int.reduceLE, Int.reduceLT, Int.reduceNeg, Int.reduceToNat, x34, stU, b34, Try.f34, encR, List.length_map]
  apply L
  · simp
  all_goals first | (simp only [stA, stM, stH, stQ, stE, stC, xI, xF, Nat.reduceLT, Nat.reduceEqDiff, reduceCtorEq, Nat.reduceAdd, Nat.reduceSub, Nat.reduceMul, Nat.max_def, reduceIte, Nat.reduceLeDiff, Nat.reduceBEq, Int.reduceEq, Int.reduceLE, Int.reduceLT, Int.reduceNeg, Int.reduceToNat, encR]; done) | (simp only [stA, stM, stH, stQ, stE, stC, xI, xF, Nat.reduceLT, Nat.reduceEqDiff, reduceCtorEq, Nat.reduceAdd, Nat.reduceSub, Nat.reduceMul, Nat.max_def, reduceIte, Nat.reduceLeDiff, Nat.reduceBEq, Int.reduceEq, Int.reduceLE, Int.reduceLT, Int.reduceNeg, Int.reduceToNat, encR]; rfl)
theorem call34 {m : Md} {k1 k2 : ATk} {l : List En} {r : Row} {H : Tr AO} {hs : Nat} (hl : l.length < 1000000) (hk : ∀ e ∈ l, e.r.length < 1000000 ∧ ∀ v ∈ e.r, OkV v) : callF tab (evw tab) m 34 [.lst k1 (l.map encE), .lst k2 (r.map encV)] H hs = some (.lit (.bool (l.any fun e => decide (rcmp e.r r = 0))), H, hs) :=
  callF_iso tcon rfl rfl (by simp only [stA, stM, stH, stQ, stE, stC, xI, xF, Nat.reduceLT, Nat.reduceEqDiff, reduceCtorEq, Nat.reduceAdd, Nat.reduceSub, Nat.reduceMul, Nat.max_def, reduceIte, Nat.reduceLeDiff, Nat.reduceBEq, Int.reduceEq, Int.reduceLE, Int.reduceLT, Int.reduceNeg, Int.reduceToNat, dBN]) (by have := @eq34 m l r hl hk; simp only [stA, stM, stH, stQ, stE, stC, xI, xF, Nat.reduceLT, Nat.reduceEqDiff, reduceCtorEq, Nat.reduceAdd, Nat.reduceSub, Nat.reduceMul, Nat.max_def, reduceIte, Nat.reduceLeDiff, Nat.reduceBEq, Int.reduceEq, Int.reduceLE, Int.reduceLT, Int.reduceNeg, Int.reduceToNat, dBN, encR] at this ⊢; exact this)
theorem call35 {m : Md} {k1 : ATk} {l : List Rl} {x : List UInt8} {H : Tr AO} {hs : Nat} (hl : l.length < 9223372036854775807) : callF tab (evw tab) m 35 [.lst k1 (l.map encL), .str x] H hs = some (.lst .no ((ofL l x).map encE), H, hs) :=
  callF_iso tcon rfl rfl (by simp only [stA, stM, stH, stQ, stE, stC, xI, xF, Nat.reduceLT, Nat.reduceEqDiff, reduceCtorEq, Nat.reduceAdd, Nat.reduceSub, Nat.reduceMul, Nat.max_def, reduceIte, Nat.reduceLeDiff, Nat.reduceBEq, Int.reduceEq, Int.reduceLE, Int.reduceLT, Int.reduceNeg, Int.reduceToNat, dBN]) (by have := @eq35 l x m hl; simp only [stA, stM, stH, stQ, stE, stC, xI, xF, Nat.reduceLT, Nat.reduceEqDiff, reduceCtorEq, Nat.reduceAdd, Nat.reduceSub, Nat.reduceMul, Nat.max_def, reduceIte, Nat.reduceLeDiff, Nat.reduceBEq, Int.reduceEq, Int.reduceLE, Int.reduceLT, Int.reduceNeg, Int.reduceToNat, dBN] at this ⊢; exact this)
end Go.Proofs.Ytpehpccahbofiaa.Ev
