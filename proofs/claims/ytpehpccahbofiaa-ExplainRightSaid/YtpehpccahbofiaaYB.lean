import Derived.Test.YtpehpccahbofiaaXT
import Derived.Test.YtpehpccahbofiaaXT
import Derived.Test.YtpehpccahbofiaaEvG
import Derived.Test.YtpehpccahbofiaaEvK
import Derived.Test.YtpehpccahbofiaaWX
import Derived.KernelRfl
set_option linter.all false
set_option maxRecDepth 100000
set_option maxHeartbeats 4000000
namespace Go.Proofs.Ytpehpccahbofiaa.Ev
open Go Go.Proofs.Ytpehpccahbofiaa.Ev Go.Proofs Go.Proofs.Ytpehpccahbofiaa Go.Proofs.Ytpehpccahbofiaa.Tab

/-! ### What is told: bounds -/
theorem binds_ok {x : Ru} {R : List Row} (hv : ∀ r ∈ R, ∀ v ∈ r, OkV v) : ∀ p ∈ (binds x R).1, OkV p.2 := by
  unfold binds
  cases decide (((ats x.b).length : Int) = R.length) with
  | true => exact bindL_ok (by simp) hv
  | false => simp
theorem heads_ok {b : Bd} (hb : ∀ p ∈ b, OkV p.2) : ∀ {l : List (List UInt8)} {r : Row}, heads b l = some r → (∀ v ∈ r, OkV v) ∧ r.length = l.length
  | [], r, h => by cases h; exact ⟨by simp, rfl⟩
  | n :: l, r, h => by
    rw [heads] at h
    cases h1 : mget b n with
    | none => rw [h1] at h; cases h
    | some v =>
      rw [h1] at h
      cases h2 : heads b l with
      | none => rw [h2] at h; cases h
      | some s =>
        rw [h2] at h; cases h
        obtain ⟨i1, i2⟩ := heads_ok hb h2
        refine ⟨fun u hu => ?_, by rw [List.length_cons, List.length_cons, i2]⟩
        rcases List.mem_cons.1 hu with rfl | hu
        · have := mget_ok (n := n) hb
          rw [h1] at this; exact this
        · exact i1 u hu
theorem told_ok {x : Ru} {R : List Row} (hv : ∀ r ∈ R, ∀ v ∈ r, OkV v) : (∀ v ∈ (told x R).1, OkV v) ∧ (told x R).1.length ≤ x.h.length := by
  unfold told
  cases (binds x R).2 with
  | false => simp
  | true =>
    rw [cond_true]
    cases h : heads (binds x R).1 x.h with
    | none => simp
    | some r => obtain ⟨h1, h2⟩ := heads_ok (binds_ok hv) h; exact ⟨h1, Nat.le_of_eq h2⟩

/-! ### The first rows that go together and tell a row -/
def srch (x : Ru) (t : Row) (base : List Rl) : Nat → List Row → Option (List Row)
  | 0, R => bif holds x R base && decide (rcmp (told x R).1 t = 0) then some R else none
  | n + 1, R => match (ats x.b)[R.length]? with
    | some a => (ofL base a.n).findSome? fun e => srch x t base n (R ++ [e.r])
    | none => none
def why (x : Ru) (t : Row) (base : List Rl) : List Row × Int := bif decide (x.a = 0) then (match srch x t base (ats x.b).length [] with | some S => (S, 0) | none => ([], 5)) else ([], 2)
theorem ofL_ok {x : Ru} {base : List Rl} (hy : Hy x base) {R : List Row} (hv : ∀ r ∈ R, ∀ v ∈ r, OkV v) {n : List UInt8} {e : En} (he : e ∈ ofL base n) : ∀ r ∈ R ++ [e.r], ∀ v ∈ r, OkV v := by
  intro r hr
  rcases List.mem_append.1 hr with hr | hr
  · exact hv r hr
  · rw [List.mem_singleton] at hr; subst hr; exact (hy.ne n e he).2

/-! A list behind none. -/
def apV (hs : Nat) (es : List AV) : AV := match es with | [] => .lst .full [] | _ :: _ => .lst (.room hs) es
def apH (H : Tr AO) (hs sz : Nat) (es : List AV) : Tr AO := match es with | [] => H | _ :: _ => H.put .dead hs (.room sz)
def apN (hs : Nat) (es : List AV) : Nat := match es with | [] => hs | _ :: _ => hs + 1
def apH2 (H : Tr AO) (hs sz : Nat) (es : List AV) : Tr AO := match es with | [] => H.put .dead hs (.room sz) | _ :: _ => ((H.put .dead hs (.room sz)).put .dead hs .dead).put .dead (hs + 1) (.room sz)
theorem apAll {H : Tr AO} {hs sz b : Nat} {agg : Bool} {es : List AV} (h : es.all (fun e => sizeOk sz e && flatOk e && e.cells.all oneCell) = true) (hb : (4 * es.length + 4000) * b ≤ 281474976710656) : appendO H hs true agg sz b (some (.lit (.slice none 0 0))) (some (.lst .no es)) = some (apV hs es, apH H hs sz es, apN hs es) := by
  cases es with
  | nil => rfl
  | cons e es =>
    have h2 : (e :: es).all (sizeOk sz) = true := by
      rw [List.all_eq_true] at h ⊢
      intro x hx
      have := h x hx
      simp only [Bool.and_eq_true] at this
      exact this.1.1
    have hb2 : Nat.ble ((4 * (0 + (e :: es).length) + 4000) * b) 281474976710656 = true := ble_le.2 (by simpa using hb)
    simp only [appendO, lstOf, cond_true, srcElems, h2, appendL, List.length_nil, h, hb2, Bool.and_self, List.all_nil, List.nil_append, apV, apH, apN]
theorem apOne {H : Tr AO} {hs sz b : Nat} {agg : Bool} {es : List AV} {y : AV} (hy : elOk sz y = true) (hb : (4 * (es.length + 1) + 4000) * b ≤ 281474976710656) : appendO (apH H hs sz es) (apN hs es) true agg sz b (some (apV hs es)) (some (.lst .full [y])) = some (.lst (.room (apN hs es)) (es ++ [y]), apH2 H hs sz es, apN hs es + 1) := by
  cases es with
  | nil =>
    have h := append1 (H := H) (hs := hs) (sz := sz) (b := b) (agg := agg) (y := y) .nil hy hb
    exact h
  | cons e es =>
    have h := append1 (H := apH H hs sz (e :: es)) (hs := hs + 1) (sz := sz) (b := b) (agg := agg) (A := .lst (.room hs) (e :: es)) (y := y) (es := e :: es) (.inr ⟨hs, rfl, by simp only [apH]; rw [Tr.get_put, if_pos rfl], Nat.lt_succ_self _⟩) hy hb
    exact h
theorem apGet {H : Tr AO} {hs sz o : Nat} {es : List AV} (ho : o < hs) : (apH2 H hs sz es).get .dead o = H.get .dead o := by
  cases es with
  | nil => simp only [apH2]; rw [Tr.get_put, if_neg (by omega)]
  | cons e es => simp only [apH2]; rw [Tr.get_put, if_neg (by omega), Tr.get_put, if_neg (by omega), Tr.get_put, if_neg (by omega)]
theorem apGet1 {H : Tr AO} {hs sz o : Nat} {es : List AV} (ho : o < hs) : (apH H hs sz es).get .dead o = H.get .dead o := by
  cases es with
  | nil => rfl
  | cons e es => simp only [apH]; rw [Tr.get_put, if_neg (by omega)]
theorem apLe {hs : Nat} {es : List AV} : hs ≤ apN hs es := by cases es <;> simp [apN]
/-- Nothing lies where things will be made. -/
def Frs (H : Tr AO) (hs : Nat) : Prop := ∀ o, hs ≤ o → H.get .dead o = .dead
theorem Frs.put {H : Tr AO} {hs : Nat} (h : Frs H hs) {o : Nat} {X : AO} {hs' : Nat} (ho : o < hs') (hh : hs ≤ hs') : Frs (H.put .dead o X) hs' := fun p hp => by
  rw [Tr.get_put, if_neg (by omega)]; exact h p (by omega)
theorem Frs.lf {hs : Nat} : Frs .lf hs := fun _ _ => rfl
theorem apFr1 {H : Tr AO} {hs sz : Nat} {es : List AV} (h : Frs H hs) : (apH H hs sz es).get .dead (apN hs es) = .dead := by
  cases es with
  | nil => exact h hs (Nat.le_refl _)
  | cons e es => simp only [apH, apN]; rw [Tr.get_put, if_neg (by omega)]; exact h _ (by omega)
theorem apFr2 {H : Tr AO} {hs sz : Nat} {es : List AV} (h : Frs H hs) : Frs (apH2 H hs sz es) (apN hs es + 1) := by
  cases es with
  | nil => exact h.put (Nat.lt_succ_self _) (Nat.le_succ _)
  | cons e es =>
    simp only [apH2, apN]
    exact ((h.put (hs' := hs + 1) (Nat.lt_succ_self _) (Nat.le_succ _)).put (hs' := hs + 1) (Nat.lt_succ_self _) (Nat.le_refl _)).put (Nat.lt_succ_self _) (Nat.le_succ _)
theorem quietP_ap {h : AO} {k hs : Nat} {es : List AV} : quietP true h (some k) (some (apV hs es)) = isDd h := by cases es <;> rfl
theorem allR (R : List Row) : (R.map encR).all (fun e => sizeOk 1 e && flatOk e && e.cells.all oneCell) = true := all_map (fun _ => rfl) R

abbrev encS (o : Option (List Row)) : AV := .tup [.lst .no ((o.getD []).map encR), .lit (.bool o.isSome)]
def encW (p : List Row × Int) : AV := .tup [.lst .no (p.1.map encR), .lit (.int .i64 p.2)]
/-- What the search answers: its rows even where none are left to choose. -/
def trV (x : Ru) (t : Row) (base : List Rl) (n : Nat) (R : List Row) : List Row := match n with | 0 => R | n + 1 => (srch x t base (n + 1) R).getD []
theorem trV_some {x : Ru} {t : Row} {base : List Rl} {n : Nat} {R S : List Row} (h : srch x t base n R = some S) : trV x t base n R = S := by
  cases n with
  | zero =>
    rw [srch] at h
    cases hc : holds x R base && decide (rcmp (told x R).1 t = 0) <;> rw [hc] at h <;> cases h
    rfl
  | succ n => show (srch x t base (n + 1) R).getD [] = S; rw [h]; rfl
theorem loop25 {x : Ru} {td : Row} {base : List Rl} {R : List Row} {l : List En} {n : Nat} {gl : Tr (Option AV)} (hl : l.length < 1000000) (hR : R.length < 1000000)
    (ih : ∀ (e : En), e ∈ l → ∀ (m : Md) (k : ATk) (H : Tr AO) (hs : Nat), callF tab (evw tab) m 25 [encX x, encR td, .lst .no (base.map encL), .lst k ((R ++ [e.r]).map encR)] H hs = some (.tup [.lst .no ((trV x td base n (R ++ [e.r])).map encR), .lit (.bool (srch x td base n (R ++ [e.r])).isSome)], H, hs)) :
    ∀ (k i : Nat) (t : Tr AV) (H : Tr AO) (hs : Nat) (w : Bool), i + k = l.length → 0 < hs → Frs H hs → H.get .dead 0 = .cells x.cs w →
    t.get .any 1 = encR td → t.get .any 2 = .lst .no (base.map encL) → t.get .any 3 = .lst .no (R.map encR) → t.get .any 4 = .ptr 0 0 → t.get .any 14 = .lst .no (l.map encE) → t.get .any 15 = .lit (.int .i64 i) →
    RetN (W tab none (fin tab fi25) (lpc fi25 0) (lpk fi25 0) ⟨t, 82, H, hs, [], ⟨true, true, gl⟩⟩) (encS ((l.drop i).findSome? fun e => srch x td base n (R ++ [e.r]))) := by
  have D := d25
  simp only [stD, stC, List.cons.injEq, b25, Try.f25] at D
  simp only [stU, stC, b25, Try.f25]
  intro k
  induction k with
  | zero =>
    intro i t H hs w hi h1 hF h0 a1 a2 a3 a4 a14 a15
    have e1 : decide ((i : Int) < (l).length) = false := by rw [decide_eq_false_iff_not]; omega
    rw [W_loop, List.drop_of_length_le (by omega)]
    simp only [stA, stM, stH, stQ, stE, stC, xI, xF, Nat.reduceLT, Nat.reduceEqDiff, reduceCtorEq, Nat.reduceAdd, Nat.reduceSub, Nat.reduceMul, Nat.max_def, reduceIte, Nat.reduceLeDiff, Nat.reduceBEq, Int.reduceEq, Int.reduceLE, Int.reduceLT, Int.reduceNeg, Int.reduceToNat, x25, stU, b25, Try.f25, a1, a2, a3, a4, a14, a15, h0, e1, List.length_map, List.findSome?_nil]
    rfl
  | succ k ih2 =>
    intro i t H hs w hi h1 hF h0 a1 a2 a3 a4 a14 a15
    have nl0_0 : (hs = 0) = False := eq_false (by omega)
    have nr0_0 : (0 = hs) = False := eq_false (by omega)
    have nl0_1 : (hs + 1 = 0) = False := eq_false (by omega)
    have nr0_1 : (0 = hs + 1) = False := eq_false (by omega)
    have nl0_2 : (hs + 2 = 0) = False := eq_false (by omega)
    have nr0_2 : (0 = hs + 2) = False := eq_false (by omega)
    have nl0_3 : (hs + 3 = 0) = False := eq_false (by omega)
    have nr0_3 : (0 = hs + 3) = False := eq_false (by omega)
    have nl0_4 : (hs + 4 = 0) = False := eq_false (by omega)
    have nr0_4 : (0 = hs + 4) = False := eq_false (by omega)
    have hlt : i < (l).length := by omega
    have e1 : decide ((i : Int) < (l).length) = true := by rw [decide_eq_true_iff]; omega
    have e3 : decide (0 ≤ (i : Int)) = true := by rw [decide_eq_true_iff]; omega
    have e4 : (l)[i]? = some (l)[i] := List.getElem?_eq_getElem _
    have e6 : (l).drop i = (l)[i] :: (l).drop (i + 1) := List.drop_eq_getElem_cons hlt
    have e7 : (l).take (i + 1) = (l).take i ++ [(l)[i]] := List.take_succ_eq_append_getElem hlt
    generalize hv : (l)[i] = e at e4 e6 e7
    have e5 := wrap_succ (i := i) (by omega)
    have he : e ∈ l := hv ▸ List.getElem_mem _
    have hP1 := fun H hs => @apAll H hs 1 24 false (R.map encR) (allR R) (by rw [List.length_map]; omega)
    have hP2 := fun H hs => @apOne H hs 1 24 false (R.map encR) (encR e.r) rfl (by rw [List.length_map]; omega)
    have hg := fun H hs (h : 0 < hs) => @apGet H hs 1 0 (R.map encR) h
    have hg1 := fun H hs (h : 0 < hs) => @apGet1 H hs 1 0 (R.map encR) h
    have hc := fun m k H hs => ih e he m k H hs
    have hq1 := @apFr1 H hs 1 (R.map encR) hF
    have hq2 := fun h k hs => @quietP_ap h k hs (R.map encR)
    have hF2 := @apFr2 H hs 1 (R.map encR) hF
    rw [W_loop, e6, List.findSome?_cons]
    rw [show (R ++ [e.r]).map encR = R.map encR ++ [encR e.r] by simp] at hc
    simp only [encX, encR] at hc hP1 hP2 hg hg1 a1 a3 hq1 hq2 hF2
    cases h5 : srch x td base n (R ++ [e.r]) with
    | none =>
      simp only [h5, Option.isSome_none] at hc
      simp (maxSteps := 2000000) only [stM, stH, stQ, stE, stC, xI, xF, Nat.reduceLT, Nat.reduceEqDiff, reduceCtorEq, Nat.reduceAdd, Nat.reduceSub, Nat.reduceMul, Nat.max_def, reduceIte, Nat.reduceLeDiff, Nat.reduceBEq, Int.reduceEq, Int.reduceLE, Int.reduceLT, Int.reduceNeg, Int.reduceToNat, x25, stU, b25, Try.f25, encE, encR, a1, a2, a3, a4, a14, a15, h0, h1, e1, e3, e4, e5, List.getElem?_map, List.length_map, Int.toNat_natCast, hP1, hP2, hg, hg1, hq1, hq2, hc, D, nl0_0, nr0_0, nl0_1, nr0_1, nl0_2, nr0_2, nl0_3, nr0_3, nl0_4, nr0_4]
      apply ih2 (i + 1) _ _ _ w (by omega) (by have := @apLe hs (R.map encR); omega) hF2 (by rw [hg _ _ h1]; exact h0)
      all_goals simp only [stA, stM, stH, stQ, stE, stC, xI, xF, Nat.reduceLT, Nat.reduceEqDiff, reduceCtorEq, Nat.reduceAdd, Nat.reduceSub, Nat.reduceMul, Nat.max_def, reduceIte, Nat.reduceLeDiff, Nat.reduceBEq, Int.reduceEq, Int.reduceLE, Int.reduceLT, Int.reduceNeg, Int.reduceToNat, encR, a1, a2, a3, a4, a14, a15]
    | some S =>
      have h6 := trV_some h5
      simp only [h5, h6, Option.isSome_some] at hc
      simp (maxSteps := 2000000) only [stM, stH, stQ, stE, stC, xI, xF, Nat.reduceLT, Nat.reduceEqDiff, reduceCtorEq, Nat.reduceAdd, Nat.reduceSub, Nat.reduceMul, Nat.max_def, reduceIte, Nat.reduceLeDiff, Nat.reduceBEq, Int.reduceEq, Int.reduceLE, Int.reduceLT, Int.reduceNeg, Int.reduceToNat, x25, stU, b25, Try.f25, encE, encR, a1, a2, a3, a4, a14, a15, h0, h1, e1, e3, e4, e5, List.getElem?_map, List.length_map, Int.toNat_natCast, hP1, hP2, hg, hg1, hq1, hq2, hc, D, nl0_0, nr0_0, nl0_1, nr0_1, nl0_2, nr0_2, nl0_3, nr0_3, nl0_4, nr0_4, Option.getD_some, Option.isSome_some, dBN]
      rfl
theorem eq25 {x : Ru} {td : Row} {base : List Rl} (hy : Hy x base) (hx : ∀ a ∈ x.b, ∀ t ∈ a.l, OkV t.v) : ∀ (n : Nat) (m : Md) (R : List Row), R.length + n = (ats x.b).length → (∀ r ∈ R, ∀ v ∈ r, OkV v) →
    iso tab fi25 m [encX x, encR td, .lst .no (base.map encL), .lst .no (R.map encR)] = some (.tup [.lst .no ((trV x td base n R).map encR), .lit (.bool (srch x td base n R).isSome)]) := by
  have hal : (ats x.b).length < 1000000 := Nat.lt_of_le_of_lt (List.length_filter_le _ _) hy.nb
  have hC2 : ∀ (m : Md) (H : Tr AO) (hs : Nat), callF tab (evw tab) m 33 [encX x] H hs = some (.lst .no ((ats x.b).map encA), H, hs) := fun _ _ _ => call33 hy.nb
  intro n
  induction n with
  | zero =>
    intro m R hn hv
    refine iso_ret ?_
    have hq : decide ((R.length : Int) = (ats x.b).length) = true := by rw [decide_eq_true_iff]; omega
    obtain ⟨o1, o2⟩ := @told_ok x R hv
    have hC := fun m k H hs => @call13 m k x R H hs hy.nb hy.nt hy.nh
    have hC15 := fun m k1 k2 H hs => @call15 m k1 k2 x R base H hs hy hx hv
    have hC17 := fun m k1 k2 H hs => @call17 m k1 k2 (told x R).1 td H hs (by have := hy.nh; omega) o1
    simp only [encX, encTd, encR] at hC hC2 hC15 hC17
    rw [srch]
    cases h1 : holds x R base with
    | false =>
      simp only [h1] at hC15
      simp (maxSteps := 2000000) only [stA, stM, stH, stQ, stE, stC, xI, xF, Nat.reduceLT, Nat.reduceEqDiff, reduceCtorEq, Nat.reduceAdd, Nat.reduceSub, Nat.reduceMul, Nat.max_def, reduceIte, Nat.reduceLeDiff, Nat.reduceBEq, Int.reduceEq, Int.reduceLE, Int.reduceLT, Int.reduceNeg, Int.reduceToNat, x25, stU, b25, Try.f25, encX, encR, hC, hC2, hC15, hq, List.length_map, trV, dBN]
      rfl
    | true =>
      simp only [h1] at hC15
      cases h2 : decide (rcmp (told x R).1 td = 0) with
      | false =>
        simp only [h2] at hC17
        simp (maxSteps := 2000000) only [stA, stM, stH, stQ, stE, stC, xI, xF, Nat.reduceLT, Nat.reduceEqDiff, reduceCtorEq, Nat.reduceAdd, Nat.reduceSub, Nat.reduceMul, Nat.max_def, reduceIte, Nat.reduceLeDiff, Nat.reduceBEq, Int.reduceEq, Int.reduceLE, Int.reduceLT, Int.reduceNeg, Int.reduceToNat, x25, stU, b25, Try.f25, encX, encR, hC, hC2, hC15, hC17, hq, List.length_map, trV, dBN]
        rfl
      | true =>
        simp only [h2] at hC17
        simp (maxSteps := 2000000) only [stA, stM, stH, stQ, stE, stC, xI, xF, Nat.reduceLT, Nat.reduceEqDiff, reduceCtorEq, Nat.reduceAdd, Nat.reduceSub, Nat.reduceMul, Nat.max_def, reduceIte, Nat.reduceLeDiff, Nat.reduceBEq, Int.reduceEq, Int.reduceLE, Int.reduceLT, Int.reduceNeg, Int.reduceToNat, x25, stU, b25, Try.f25, encX, encR, hC, hC2, hC15, hC17, hq, List.length_map, trV, dBN]
        rfl
  | succ n ih =>
    intro m R hn hv
    refine iso_ret ?_
    have hlt : R.length < (ats x.b).length := by omega
    have hq : decide ((R.length : Int) = (ats x.b).length) = false := by rw [decide_eq_false_iff_not]; omega
    have hq2 : decide (((ats x.b).length : Int) < R.length) = false := by rw [decide_eq_false_iff_not]; omega
    have hq3 : decide (0 ≤ (R.length : Int)) = true := by rw [decide_eq_true_iff]; omega
    have hq4 : (ats x.b)[R.length]? = some (ats x.b)[R.length] := List.getElem?_eq_getElem _
    rw [show trV x td base (n + 1) R = (srch x td base (n + 1) R).getD [] from rfl, srch, hq4]
    generalize (ats x.b)[R.length] = a at hq4
    have h35 := fun m H hs => @call35 m .no base a.n H hs (Nat.lt_trans hy.ns (by decide))
    have L := @loop25 x td base R (ofL base a.n) n m.gl (hy.nr _) (by omega) (fun e he m k H hs => callF_iso tcon rfl rfl (by simp only [stA, stM, stH, stQ, stE, stC, xI, xF, Nat.reduceLT, Nat.reduceEqDiff, reduceCtorEq, Nat.reduceAdd, Nat.reduceSub, Nat.reduceMul, Nat.max_def, reduceIte, Nat.reduceLeDiff, Nat.reduceBEq, Int.reduceEq, Int.reduceLE, Int.reduceLT, Int.reduceNeg, Int.reduceToNat, dBN]) (by have := ih m (R ++ [e.r]) (by rw [List.length_append, List.length_singleton]; omega) (ofL_ok hy hv he); simp only [stA, stM, stH, stQ, stE, stC, xI, xF, Nat.reduceLT, Nat.reduceEqDiff, reduceCtorEq, Nat.reduceAdd, Nat.reduceSub, Nat.reduceMul, Nat.max_def, reduceIte, Nat.reduceLeDiff, Nat.reduceBEq, Int.reduceEq, Int.reduceLE, Int.reduceLT, Int.reduceNeg, Int.reduceToNat, dBN] at this ⊢; exact this)) (ofL base a.n).length 0
    simp only [stU, stC, b25, Try.f25] at L
    have L2 := fun t H hs w => L t H hs w (by simp)
    simp only [encX, encR] at hC2
    simp (maxSteps := 2000000) only [stA, stM, stH, stQ, stE, stC, xI, xF, Nat.reduceLT, Nat.reduceEqDiff, reduceCtorEq, Nat.reduceAdd, Nat.reduceSub, Nat.reduceMul, Nat.max_def, reduceIte, Nat.reduceLeDiff, Nat.reduceBEq, Int.reduceEq, Int.reduceLE, Int.reduceLT, Int.reduceNeg, Int.reduceToNat, x25, stU, b25, Try.f25, encX, encR, encA, hC2, h35, hq, hq2, hq3, hq4, List.length_map, List.getElem?_map, Int.toNat_natCast]
    apply L2 _ _ _ false
    all_goals first | decide | exact Frs.lf.put (Nat.lt_succ_self _) (Nat.zero_le _) | (simp only [stA, stM, stH, stQ, stE, stC, xI, xF, Nat.reduceLT, Nat.reduceEqDiff, reduceCtorEq, Nat.reduceAdd, Nat.reduceSub, Nat.reduceMul, Nat.max_def, reduceIte, Nat.reduceLeDiff, Nat.reduceBEq, Int.reduceEq, Int.reduceLE, Int.reduceLT, Int.reduceNeg, Int.reduceToNat, encR]; done) | (simp only [stA, stM, stH, stQ, stE, stC, xI, xF, Nat.reduceLT, Nat.reduceEqDiff, reduceCtorEq, Nat.reduceAdd, Nat.reduceSub, Nat.reduceMul, Nat.max_def, reduceIte, Nat.reduceLeDiff, Nat.reduceBEq, Int.reduceEq, Int.reduceLE, Int.reduceLT, Int.reduceNeg, Int.reduceToNat, encR]; rfl)
theorem call25 {m : Md} {k1 k2 k3 : ATk} {x : Ru} {td : Row} {base : List Rl} {H : Tr AO} {hs : Nat} (hy : Hy x base) (hx : ∀ a ∈ x.b, ∀ t ∈ a.l, OkV t.v) : callF tab (evw tab) m 25 [encX x, .lst k1 (td.map encV), .lst k2 (base.map encL), .lit (.slice none 0 0)] H hs = some (.tup [.lst .no ((trV x td base (ats x.b).length []).map encR), .lit (.bool (srch x td base (ats x.b).length []).isSome)], H, hs) :=
  callF_iso tcon rfl rfl (by simp only [stA, stM, stH, stQ, stE, stC, xI, xF, Nat.reduceLT, Nat.reduceEqDiff, reduceCtorEq, Nat.reduceAdd, Nat.reduceSub, Nat.reduceMul, Nat.max_def, reduceIte, Nat.reduceLeDiff, Nat.reduceBEq, Int.reduceEq, Int.reduceLE, Int.reduceLT, Int.reduceNeg, Int.reduceToNat, dBN]) (by have := @eq25 x td base hy hx (ats x.b).length m [] (by simp) (by simp); simp only [stA, stM, stH, stQ, stE, stC, xI, xF, Nat.reduceLT, Nat.reduceEqDiff, reduceCtorEq, Nat.reduceAdd, Nat.reduceSub, Nat.reduceMul, Nat.max_def, reduceIte, Nat.reduceLeDiff, Nat.reduceBEq, Int.reduceEq, Int.reduceLE, Int.reduceLT, Int.reduceNeg, Int.reduceToNat, dBN, encR] at this ⊢; exact this)
theorem eq10 {m : Md} {x : Ru} {td : Row} {base : List Rl} (hy : Hy x base) (hx : ∀ a ∈ x.b, ∀ t ∈ a.l, OkV t.v) : iso tab fi10 m [encX x, encR td, .lst .no (base.map encL)] = some (encW (why x td base)) := by
  refine iso_ret ?_
  have hC := fun m k1 k2 H hs => @call25 m k1 k2 .no x td base H hs hy hx
  unfold why
  cases h1 : decide (x.a = 0) with
  | false => simp (maxSteps := 2000000) only [stA, stM, stH, stQ, stE, stC, xI, xF, Nat.reduceLT, Nat.reduceEqDiff, reduceCtorEq, Nat.reduceAdd, Nat.reduceSub, Nat.reduceMul, Nat.max_def, reduceIte, Nat.reduceLeDiff, Nat.reduceBEq, Int.reduceEq, Int.reduceLE, Int.reduceLT, Int.reduceNeg, Int.reduceToNat, x10, stU, b10, Try.f10, encX, encR, h1]; rfl
  | true =>
    cases h2 : srch x td base (ats x.b).length [] with
    | none =>
      simp only [encX, encR, h2, Option.isSome_none] at hC
      simp (maxSteps := 2000000) only [stA, stM, stH, stQ, stE, stC, xI, xF, Nat.reduceLT, Nat.reduceEqDiff, reduceCtorEq, Nat.reduceAdd, Nat.reduceSub, Nat.reduceMul, Nat.max_def, reduceIte, Nat.reduceLeDiff, Nat.reduceBEq, Int.reduceEq, Int.reduceLE, Int.reduceLT, Int.reduceNeg, Int.reduceToNat, x10, stU, b10, Try.f10, encX, encR, h1, hC]
      rfl
    | some S =>
      have h3 := trV_some h2
      simp only [encX, encR, h2, h3, Option.isSome_some] at hC
      simp (maxSteps := 2000000) only [stA, stM, stH, stQ, stE, stC, xI, xF, Nat.reduceLT, Nat.reduceEqDiff, reduceCtorEq, Nat.reduceAdd, Nat.reduceSub, Nat.reduceMul, Nat.max_def, reduceIte, Nat.reduceLeDiff, Nat.reduceBEq, Int.reduceEq, Int.reduceLE, Int.reduceLT, Int.reduceNeg, Int.reduceToNat, x10, stU, b10, Try.f10, encX, encR, h1, hC, dBN]
      rfl
theorem call10 {m : Md} {k1 k2 : ATk} {x : Ru} {td : Row} {base : List Rl} {H : Tr AO} {hs : Nat} (hy : Hy x base) (hx : ∀ a ∈ x.b, ∀ t ∈ a.l, OkV t.v) : callF tab (evw tab) m 10 [encX x, .lst k1 (td.map encV), .lst k2 (base.map encL)] H hs = some (encW (why x td base), H, hs) :=
  callF_iso tcon rfl rfl (by simp only [stA, stM, stH, stQ, stE, stC, xI, xF, Nat.reduceLT, Nat.reduceEqDiff, reduceCtorEq, Nat.reduceAdd, Nat.reduceSub, Nat.reduceMul, Nat.max_def, reduceIte, Nat.reduceLeDiff, Nat.reduceBEq, Int.reduceEq, Int.reduceLE, Int.reduceLT, Int.reduceNeg, Int.reduceToNat, dBN]) (by have := @eq10 m x td base hy hx; simp only [stA, stM, stH, stQ, stE, stC, xI, xF, Nat.reduceLT, Nat.reduceEqDiff, reduceCtorEq, Nat.reduceAdd, Nat.reduceSub, Nat.reduceMul, Nat.max_def, reduceIte, Nat.reduceLeDiff, Nat.reduceBEq, Int.reduceEq, Int.reduceLE, Int.reduceLT, Int.reduceNeg, Int.reduceToNat, dBN, encR] at this ⊢; exact this)
end Go.Proofs.Ytpehpccahbofiaa.Ev

set_option maxRecDepth 100000
set_option maxHeartbeats 4000000
namespace Go.Proofs.Ytpehpccahbofiaa.Ev
open Go Go.Proofs.Ytpehpccahbofiaa.Ev Go.Proofs Go.Proofs.Ytpehpccahbofiaa Go.Proofs.Ytpehpccahbofiaa.Tab

/-! ### Rows in cells, lent -/
theorem tt30 : ∃ i, tab.t 30 = some i ∧ i.desc = .slice 26 := ⟨_, rfl, rfl⟩
theorem tt26a : ∃ i, tab.t 26 = some i ∧ i.size = 1 ∧ isAggD i.desc = false := ⟨_, rfl, rfl, rfl⟩
theorem chunkR : ∀ (l : List AV), chunk false 1 l.length l = l
  | [] => rfl
  | x :: l => by
    simp only [List.length_cons, chunk, cond_false, List.headD_cons, List.drop_succ_cons, List.drop_zero, chunkR l]
theorem take_R {R : List Row} {J : List AV} : (R.map encR ++ J).take R.length = R.map encR := by
  rw [show R.length = (R.map encR).length by rw [List.length_map], List.take_left']
  rfl
theorem oneR : ∀ (R : List Row), (R.map encR).all oneCell = true
  | [] => rfl
  | r :: R => by rw [List.map_cons, List.all_cons, oneR R]; rfl
theorem frz_R {H : Tr AO} {R : List Row} {J : List AV} {n : Nat} (h4 : H.get .dead 4 = .cells (R.map encR ++ J) false) (hn : R.length ≤ n) : frz tab 30 30 (.slc 4 0 R.length (.ex n)) H = some (.lst .no (R.map encR), H.put .dead 4 (.cells (R.map encR ++ J) true)) := by
  obtain ⟨i, i1, i2⟩ := tt30
  obtain ⟨e, j1, j2, j3⟩ := tt26a
  have hrd : rd H 4 0 (R.length * 1) = some (R.map encR) := by
    unfold rd
    rw [h4]
    simp only [Nat.zero_add, List.drop_zero, Nat.mul_one, take_R]
    rw [show Nat.ble R.length (R.map encR ++ J).length = true from ble_le.2 (by simp), cond_true]
  have hcp : capOk R.length (.ex n) = true := ble_le.2 hn
  have hl : frzL (frz tab 29) (List.replicate R.length (cellTys tab 20 26)).flatten (R.map encR) (H.put .dead 4 (.cells (R.map encR ++ J) true)) = some (R.map encR, H.put .dead 4 (.cells (R.map encR ++ J) true)) := by
    rw [frzL_bare (d := 28) (by rw [List.length_map, show cellTys tab 20 26 = [26] from rfl]; simp) (bares_R R), nrms_R]
  unfold frz
  simp only [bare, cond_false, i1, i2, j1, j2, j3, h4, hrd, hcp, hl, oneR, Bool.and_true, Bool.false_or, Bool.true_and]
  rw [show Nat.blt 0 1 = true from rfl, cond_true, show Nat.beq 1 1 = true from rfl, cond_true]
  have := chunkR (R.map encR)
  rw [List.length_map] at this
  rw [this]
theorem call12S {m : Md} {x : Ru} {R : List Row} {H : Tr AO} {hs n : Nat} {J : List AV} (hl : x.b.length < 1000000) (ht : tot (ats x.b) < 1000000) (hh : x.h.length < 1000000) (h4 : H.get .dead 4 = .cells (R.map encR ++ J) false) (hn : R.length ≤ n) : callF tab (evw tab) m 12 [encX x, .slc 4 0 R.length (.ex n)] H hs = some (encTd (told x R), H, hs) := by
  refine callF_own (H1 := H.put .dead 4 (.cells (R.map encR ++ J) true)) tcon rfl rfl rfl (bs := [encX x, .lst .no (R.map encR)]) ?_ (by simp only [stA, stM, stH, stQ, stE, stC, xI, xF, Nat.reduceLT, Nat.reduceEqDiff, reduceCtorEq, Nat.reduceAdd, Nat.reduceSub, Nat.reduceMul, Nat.max_def, reduceIte, Nat.reduceLeDiff, Nat.reduceBEq, Int.reduceEq, Int.reduceLE, Int.reduceLT, Int.reduceNeg, Int.reduceToNat, dBN]) (by have := @eq12 m x R hl ht hh; simp only [stA, stM, stH, stQ, stE, stC, xI, xF, Nat.reduceLT, Nat.reduceEqDiff, reduceCtorEq, Nat.reduceAdd, Nat.reduceSub, Nat.reduceMul, Nat.max_def, reduceIte, Nat.reduceLeDiff, Nat.reduceBEq, Int.reduceEq, Int.reduceLE, Int.reduceLT, Int.reduceNeg, Int.reduceToNat, dBN] at this ⊢; exact this)
  simp only [bares, bare, dBN, Bool.true_and, Bool.false_and, Bool.and_false, cond_false]
  show frzL (frz tab 30) [25, 30] [encX x, .slc 4 0 R.length (.ex n)] H = _
  rw [frzL, frz_bare (d := 29) (v := encX x) (bare_X x)]
  simp only [frzL, frz_R h4 hn, nrm_X]
theorem call14S {m : Md} {x : Ru} {R : List Row} {base : List Rl} {H : Tr AO} {hs n : Nat} {J : List AV} (hy : Hy x base) (h4 : H.get .dead 4 = .cells (R.map encR ++ J) false) (hn : R.length ≤ n) : callF tab (evw tab) m 14 [encX x, .slc 4 0 R.length (.ex n), .lst .no (base.map encL)] H hs = some (.lit (.bool (holds x R base)), H, hs) := by
  refine callF_own (H1 := H.put .dead 4 (.cells (R.map encR ++ J) true)) tcon rfl rfl rfl (bs := [encX x, .lst .no (R.map encR), .lst .no (base.map encL)]) ?_ (by simp only [stA, stM, stH, stQ, stE, stC, xI, xF, Nat.reduceLT, Nat.reduceEqDiff, reduceCtorEq, Nat.reduceAdd, Nat.reduceSub, Nat.reduceMul, Nat.max_def, reduceIte, Nat.reduceLeDiff, Nat.reduceBEq, Int.reduceEq, Int.reduceLE, Int.reduceLT, Int.reduceNeg, Int.reduceToNat, dBN]) (by have := @eq14 m x R base hy; simp only [stA, stM, stH, stQ, stE, stC, xI, xF, Nat.reduceLT, Nat.reduceEqDiff, reduceCtorEq, Nat.reduceAdd, Nat.reduceSub, Nat.reduceMul, Nat.max_def, reduceIte, Nat.reduceLeDiff, Nat.reduceBEq, Int.reduceEq, Int.reduceLE, Int.reduceLT, Int.reduceNeg, Int.reduceToNat, dBN] at this ⊢; exact this)
  simp only [bares, bare, dBN, Bool.true_and, Bool.false_and, Bool.and_false, cond_false]
  show frzL (frz tab 30) [25, 30, 34] [encX x, .slc 4 0 R.length (.ex n), .lst .no (base.map encL)] H = _
  rw [frzL, frz_bare (d := 29) (v := encX x) (bare_X x)]
  simp only [frzL, frz_R h4 hn, nrm_X]
  rw [frz_bare (d := 29) (v := .lst .no (base.map encL)) (by simp only [bare, dBN])]
  simp only [nrm, dBN]

/-! ### The search -/
abbrev caps : List AV := [.ptr 5 0, .ptr 3 0, .ptr 0 0, .ptr 1 0, .ptr 2 0, .ptr 6 0]
structure St (x : Ru) (td : Row) (base : List Rl) (H : Tr AO) (hs : Nat) (R : List Row) : Prop where
  h0 : H.get .dead 0 = .cells x.cs false
  h1 : H.get .dead 1 = .cells [.lst .no (td.map encV)] false
  h2 : H.get .dead 2 = .cells [.lst .no (base.map encL)] false
  h3 : H.get .dead 3 = .cells [.lst .no ((ats x.b).map encA)] false
  h4 : ∃ J, H.get .dead 4 = .cells (R.map encR ++ J) false ∧ R.length + J.length = (ats x.b).length
  h5 : H.get .dead 5 = .cells [.slc 4 0 R.length (.ex (ats x.b).length)] false
  h6 : H.get .dead 6 = .cells [.fn (.func 21) [] caps] false
  hh : 6 < hs
def RetS (o : Option (AV × Tr AO × Nat)) (P : AV → Tr AO → Nat → Prop) : Prop := ∃ v H hs, o = some (v, H, hs) ∧ P v H hs
theorem RetS_some {v : AV} {H : Tr AO} {hs : Nat} {P : AV → Tr AO → Nat → Prop} : RetS (some (v, H, hs)) P ↔ P v H hs :=
  ⟨fun ⟨_, _, _, e, h⟩ => by cases e; exact h, fun h => ⟨v, H, hs, rfl, h⟩⟩
theorem heads_len {b : Bd} : ∀ {l : List (List UInt8)} {r : Row}, heads b l = some r → r.length = l.length
  | [], r, h => by cases h; rfl
  | n :: l, r, h => by
    rw [heads] at h
    cases h1 : mget b n with
    | none => rw [h1] at h; cases h
    | some v =>
      rw [h1] at h
      cases h2 : heads b l with
      | none => rw [h2] at h; cases h
      | some s => rw [h2] at h; cases h; rw [List.length_cons, List.length_cons, heads_len h2]
theorem told_len {x : Ru} {R : List Row} : (told x R).1.length ≤ x.h.length := by
  unfold told
  cases (binds x R).2 with
  | false => simp
  | true =>
    rw [cond_true]
    cases h : heads (binds x R).1 x.h with
    | none => simp
    | some r => exact Nat.le_of_eq (heads_len h)
theorem app21 {H : Tr AO} {hs n : Nat} {R : List Row} {J : List AV} {r : Row} (h4 : H.get .dead 4 = .cells (R.map encR ++ J) false) (hn : R.length + J.length = n) (hlt : R.length < n) (hb : n < 1000000) :
    appendO H hs true false 1 24 (some (.slc 4 0 R.length (.ex n))) (some (.lst .full [.lst .no (r.map encV)])) = some (.slc 4 0 (R.length + 1) (.ex n), H.put .dead 4 (.cells ((R ++ [r]).map encR ++ J.tail) false), hs) := by
  have e1 : Nat.ble (0 + R.length * 1) (R.map encR ++ J).length = true := ble_le.2 (by simp)
  have e2 : Nat.ble ((4 * (R.length + 1) + 4000) * 24) 281474976710656 = true := ble_le.2 (by omega)
  have e3 : Nat.ble (R.length + 1) n = true := ble_le.2 (by omega)
  have e4 : wr H 4 (0 + R.length * 1) [.lst .no (r.map encV)] = some (H.put .dead 4 (.cells ((R ++ [r]).map encR ++ J.tail) false)) := by
    unfold wr
    rw [h4]
    have e5 : Nat.ble (0 + R.length * 1 + [AV.lst .no (r.map encV)].length) (R.map encR ++ J).length = true := ble_le.2 (by simp; omega)
    simp only [e5, List.all_cons, List.all_nil, show oneCell (.lst .no (r.map encV)) = true from rfl, Bool.and_self, cond_true, splice, Nat.zero_add, Nat.mul_one, take_R, List.length_cons, List.length_nil]
    have e6 : (R.map encR ++ J).drop (R.length + 1) = J.tail := by
      rw [← List.drop_drop, show (R.map encR ++ J).drop R.length = J by rw [List.drop_left' (List.length_map _)], List.drop_one]
    rw [e6]
    have e7 : Nat.ble (R.length + 1) (R.length + J.length) = true := ble_le.2 (by omega)
    simp [encR, e7]
  simp only [appendO, lstOf, srcCells, List.all_cons, List.all_nil, show sizeOk 1 (.lst .no (r.map encV)) = true from rfl, Bool.and_self, cond_true, List.length_cons, List.length_nil, Nat.zero_add, List.flatMap_cons, List.flatMap_nil, List.append_nil, show (AV.lst .no (r.map encV)).cells = [.lst .no (r.map encV)] from rfl]
  unfold append'
  rw [show Nat.beq 1 0 = false from rfl]
  simp only [cond_false, List.all_cons, List.all_nil, show oneCell (.lst .no (r.map encV)) = true from rfl, Bool.and_self, List.length_cons, List.length_nil, show Nat.beq (0 + 1) (1 * 1) = true from rfl, cond_true, h4, e1, e2, e3, e4]
theorem loop21 {x : Ru} {td : Row} {base : List Rl} (hy : Hy x base) {R : List Row} {l : List En} {n : Nat} {gl : Tr (Option AV)} (hl : l.length < 1000000) (hR : R.length < (ats x.b).length) (hle : ∀ e ∈ l, e.r.length < 1000000)
    (ih : ∀ (e : En), e ∈ l → ∀ (H : Tr AO) (hs : Nat), St x td base H hs (R ++ [e.r]) → ∃ H' hs', callF tab (evw tab) ⟨true, true, gl⟩ 21 caps H hs = some (.lit (.bool (srch x td base n (R ++ [e.r])).isSome), H', hs') ∧ St x td base H' hs' ((srch x td base n (R ++ [e.r])).getD (R ++ [e.r]))) :
    ∀ (k i : Nat) (t : Tr AV) (H : Tr AO) (hs : Nat), i + k = l.length → St x td base H hs R →
    t.get .any 0 = .ptr 5 0 → t.get .any 1 = .ptr 3 0 → t.get .any 2 = .ptr 0 0 → t.get .any 3 = .ptr 1 0 → t.get .any 4 = .ptr 2 0 → t.get .any 5 = .ptr 6 0 → t.get .any 38 = .lst .no (l.map encE) → t.get .any 39 = .lit (.int .i64 l.length) → t.get .any 40 = .lit (.int .i64 i) →
    RetS (W tab none (fin tab fi21) (lpc fi21 0) (lpk fi21 0) ⟨t, 58, H, hs, [], ⟨true, true, gl⟩⟩) (fun v H' hs' => v = .lit (.bool ((l.drop i).findSome? fun e => srch x td base n (R ++ [e.r])).isSome) ∧ St x td base H' hs' (((l.drop i).findSome? fun e => srch x td base n (R ++ [e.r])).getD R)) := by
  have D := d21
  simp only [stD, stC, List.cons.injEq, b21, Try.f21] at D
  simp only [stU, stC, b21, Try.f21]
  have hal : (ats x.b).length < 1000000 := Nat.lt_of_le_of_lt (List.length_filter_le _ _) hy.nb
  intro k
  induction k with
  | zero =>
    intro i t H hs hi hS a0 a1 a2 a3 a4 a5 a38 a39 a40
    have e1 : decide ((i : Int) < (l).length) = false := by rw [decide_eq_false_iff_not]; omega
    rw [W_loop, List.drop_of_length_le (by omega), List.findSome?_nil]
    simp only [stA, stM, stH, stQ, stE, stC, xI, xF, Nat.reduceLT, Nat.reduceEqDiff, reduceCtorEq, Nat.reduceAdd, Nat.reduceSub, Nat.reduceMul, Nat.max_def, reduceIte, Nat.reduceLeDiff, Nat.reduceBEq, Int.reduceEq, Int.reduceLE, Int.reduceLT, Int.reduceNeg, Int.reduceToNat, x21, stU, b21, Try.f21, a0, a1, a2, a3, a4, a5, a38, a39, a40, e1, List.length_map, RetS_some]
    exact ⟨rfl, hS⟩
  | succ k ih2 =>
    intro i t H hs hi hS a0 a1 a2 a3 a4 a5 a38 a39 a40
    have hhh := hS.hh
    have nl0_0 : (hs = 0) = False := eq_false (by omega)
    have nr0_0 : (0 = hs) = False := eq_false (by omega)
    have nl0_1 : (hs + 1 = 0) = False := eq_false (by omega)
    have nr0_1 : (0 = hs + 1) = False := eq_false (by omega)
    have nl0_2 : (hs + 2 = 0) = False := eq_false (by omega)
    have nr0_2 : (0 = hs + 2) = False := eq_false (by omega)
    have nl0_3 : (hs + 3 = 0) = False := eq_false (by omega)
    have nr0_3 : (0 = hs + 3) = False := eq_false (by omega)
    have nl0_4 : (hs + 4 = 0) = False := eq_false (by omega)
    have nr0_4 : (0 = hs + 4) = False := eq_false (by omega)
    have nl1_0 : (hs = 1) = False := eq_false (by omega)
    have nr1_0 : (1 = hs) = False := eq_false (by omega)
    have nl1_1 : (hs + 1 = 1) = False := eq_false (by omega)
    have nr1_1 : (1 = hs + 1) = False := eq_false (by omega)
    have nl1_2 : (hs + 2 = 1) = False := eq_false (by omega)
    have nr1_2 : (1 = hs + 2) = False := eq_false (by omega)
    have nl1_3 : (hs + 3 = 1) = False := eq_false (by omega)
    have nr1_3 : (1 = hs + 3) = False := eq_false (by omega)
    have nl1_4 : (hs + 4 = 1) = False := eq_false (by omega)
    have nr1_4 : (1 = hs + 4) = False := eq_false (by omega)
    have nl2_0 : (hs = 2) = False := eq_false (by omega)
    have nr2_0 : (2 = hs) = False := eq_false (by omega)
    have nl2_1 : (hs + 1 = 2) = False := eq_false (by omega)
    have nr2_1 : (2 = hs + 1) = False := eq_false (by omega)
    have nl2_2 : (hs + 2 = 2) = False := eq_false (by omega)
    have nr2_2 : (2 = hs + 2) = False := eq_false (by omega)
    have nl2_3 : (hs + 3 = 2) = False := eq_false (by omega)
    have nr2_3 : (2 = hs + 3) = False := eq_false (by omega)
    have nl2_4 : (hs + 4 = 2) = False := eq_false (by omega)
    have nr2_4 : (2 = hs + 4) = False := eq_false (by omega)
    have nl3_0 : (hs = 3) = False := eq_false (by omega)
    have nr3_0 : (3 = hs) = False := eq_false (by omega)
    have nl3_1 : (hs + 1 = 3) = False := eq_false (by omega)
    have nr3_1 : (3 = hs + 1) = False := eq_false (by omega)
    have nl3_2 : (hs + 2 = 3) = False := eq_false (by omega)
    have nr3_2 : (3 = hs + 2) = False := eq_false (by omega)
    have nl3_3 : (hs + 3 = 3) = False := eq_false (by omega)
    have nr3_3 : (3 = hs + 3) = False := eq_false (by omega)
    have nl3_4 : (hs + 4 = 3) = False := eq_false (by omega)
    have nr3_4 : (3 = hs + 4) = False := eq_false (by omega)
    have nl4_0 : (hs = 4) = False := eq_false (by omega)
    have nr4_0 : (4 = hs) = False := eq_false (by omega)
    have nl4_1 : (hs + 1 = 4) = False := eq_false (by omega)
    have nr4_1 : (4 = hs + 1) = False := eq_false (by omega)
    have nl4_2 : (hs + 2 = 4) = False := eq_false (by omega)
    have nr4_2 : (4 = hs + 2) = False := eq_false (by omega)
    have nl4_3 : (hs + 3 = 4) = False := eq_false (by omega)
    have nr4_3 : (4 = hs + 3) = False := eq_false (by omega)
    have nl4_4 : (hs + 4 = 4) = False := eq_false (by omega)
    have nr4_4 : (4 = hs + 4) = False := eq_false (by omega)
    have nl5_0 : (hs = 5) = False := eq_false (by omega)
    have nr5_0 : (5 = hs) = False := eq_false (by omega)
    have nl5_1 : (hs + 1 = 5) = False := eq_false (by omega)
    have nr5_1 : (5 = hs + 1) = False := eq_false (by omega)
    have nl5_2 : (hs + 2 = 5) = False := eq_false (by omega)
    have nr5_2 : (5 = hs + 2) = False := eq_false (by omega)
    have nl5_3 : (hs + 3 = 5) = False := eq_false (by omega)
    have nr5_3 : (5 = hs + 3) = False := eq_false (by omega)
    have nl5_4 : (hs + 4 = 5) = False := eq_false (by omega)
    have nr5_4 : (5 = hs + 4) = False := eq_false (by omega)
    have nl6_0 : (hs = 6) = False := eq_false (by omega)
    have nr6_0 : (6 = hs) = False := eq_false (by omega)
    have nl6_1 : (hs + 1 = 6) = False := eq_false (by omega)
    have nr6_1 : (6 = hs + 1) = False := eq_false (by omega)
    have nl6_2 : (hs + 2 = 6) = False := eq_false (by omega)
    have nr6_2 : (6 = hs + 2) = False := eq_false (by omega)
    have nl6_3 : (hs + 3 = 6) = False := eq_false (by omega)
    have nr6_3 : (6 = hs + 3) = False := eq_false (by omega)
    have nl6_4 : (hs + 4 = 6) = False := eq_false (by omega)
    have nr6_4 : (6 = hs + 4) = False := eq_false (by omega)
    have hlt : i < (l).length := by omega
    have e1 : decide ((i : Int) < (l).length) = true := by rw [decide_eq_true_iff]; omega
    have e3 : decide (0 ≤ (i : Int)) = true := by rw [decide_eq_true_iff]; omega
    have e4 : (l)[i]? = some (l)[i] := List.getElem?_eq_getElem _
    have e6 : (l).drop i = (l)[i] :: (l).drop (i + 1) := List.drop_eq_getElem_cons hlt
    have e7 : (l).take (i + 1) = (l).take i ++ [(l)[i]] := List.take_succ_eq_append_getElem hlt
    generalize hv : (l)[i] = e at e4 e6 e7
    have e5 := wrap_succ (i := i) (by omega)
    have he : e ∈ l := hv ▸ List.getElem_mem _
    obtain ⟨J, hJ, hJl⟩ := hS.h4
    have hP := fun X Y => @app21 ((H.put .dead hs X).put .dead hs Y) (hs + 1) (ats x.b).length R J e.r (by rw [Tr.get_put, if_neg (by omega), Tr.get_put, if_neg (by omega)]; exact hJ) hJl hR hal
    have h24 := fun m H hs => @call24 m .no e.r H hs (hle e he)
    have h5 := hS.h5
    simp only [encR] at h24
    rw [W_loop, e6, List.findSome?_cons]
    simp (maxSteps := 2000000) only [stM, stH, stQ, stE, stC, xI, xF, Nat.reduceLT, Nat.reduceEqDiff, reduceCtorEq, Nat.reduceAdd, Nat.reduceSub, Nat.reduceMul, Nat.max_def, reduceIte, Nat.reduceLeDiff, Nat.reduceBEq, Int.reduceEq, Int.reduceLE, Int.reduceLT, Int.reduceNeg, Int.reduceToNat, x21, stU, b21, Try.f21, encE, encR, a0, a1, a2, a3, a4, a5, a38, a39, a40, h5, hS.h0, hS.h1, hS.h2, hS.h3, hS.h6, e1, e3, e4, e5, List.getElem?_map, List.length_map, Int.toNat_natCast, bares_V, h24, hP, D, nl0_0, nr0_0, nl0_1, nr0_1, nl0_2, nr0_2, nl0_3, nr0_3, nl0_4, nr0_4, nl1_0, nr1_0, nl1_1, nr1_1, nl1_2, nr1_2, nl1_3, nr1_3, nl1_4, nr1_4, nl2_0, nr2_0, nl2_1, nr2_1, nl2_2, nr2_2, nl2_3, nr2_3, nl2_4, nr2_4, nl3_0, nr3_0, nl3_1, nr3_1, nl3_2, nr3_2, nl3_3, nr3_3, nl3_4, nr3_4, nl4_0, nr4_0, nl4_1, nr4_1, nl4_2, nr4_2, nl4_3, nr4_3, nl4_4, nr4_4, nl5_0, nr5_0, nl5_1, nr5_1, nl5_2, nr5_2, nl5_3, nr5_3, nl5_4, nr5_4, nl6_0, nr6_0, nl6_1, nr6_1, nl6_2, nr6_2, nl6_3, nr6_3, nl6_4, nr6_4]
    have hS3 : St x td base (((((H.put .dead hs (.cells [.lit (.slice none 0 0), .lit (.int .i64 0)] false)).put .dead hs (.cells [.lst .no (e.r.map encV), .lit (.int .i64 e.m)] false)).put .dead 4 (.cells ((R ++ [e.r]).map encR ++ J.tail) false)).put .dead 5 (.cells [.slc 4 0 (R.length + 1) (.ex (ats x.b).length)] false))) (hs + 1) (R ++ [e.r]) := by
      have hg : ∀ o, o < hs → o ≠ 4 → o ≠ 5 → (((((H.put .dead hs (.cells [.lit (.slice none 0 0), .lit (.int .i64 0)] false)).put .dead hs (.cells [.lst .no (e.r.map encV), .lit (.int .i64 e.m)] false)).put .dead 4 (.cells ((R ++ [e.r]).map encR ++ J.tail) false)).put .dead 5 (.cells [.slc 4 0 (R.length + 1) (.ex (ats x.b).length)] false))).get .dead o = H.get .dead o := fun o h1 h2 h3 => by
        rw [Tr.get_put, if_neg h3, Tr.get_put, if_neg h2, Tr.get_put, if_neg (by omega), Tr.get_put, if_neg (by omega)]
      refine ⟨?_, ?_, ?_, ?_, ⟨J.tail, ?_, ?_⟩, ?_, ?_, by omega⟩
      · rw [hg _ (by omega) (by decide) (by decide)]; exact hS.h0
      · rw [hg _ (by omega) (by decide) (by decide)]; exact hS.h1
      · rw [hg _ (by omega) (by decide) (by decide)]; exact hS.h2
      · rw [hg _ (by omega) (by decide) (by decide)]; exact hS.h3
      · rw [Tr.get_put, if_neg (by decide), Tr.get_put, if_pos rfl]
      · rw [List.length_append, List.length_singleton, List.length_tail]; omega
      · rw [Tr.get_put, if_pos rfl, List.length_append, List.length_singleton]
      · rw [hg _ (by omega) (by decide) (by decide)]; exact hS.h6
    obtain ⟨H', hs', c1, c2⟩ := ih e he _ _ hS3
    simp only [c1]
    have g5 := c2.h5
    cases h7 : srch x td base n (R ++ [e.r]) with
    | some S =>
      simp only [h7, Option.isSome_some, Option.getD_some] at c2 g5 ⊢
      simp (maxSteps := 2000000) only [stA, stM, stH, stQ, stE, stC, xI, xF, Nat.reduceLT, Nat.reduceEqDiff, reduceCtorEq, Nat.reduceAdd, Nat.reduceSub, Nat.reduceMul, Nat.max_def, reduceIte, Nat.reduceLeDiff, Nat.reduceBEq, Int.reduceEq, Int.reduceLE, Int.reduceLT, Int.reduceNeg, Int.reduceToNat, x21, stU, b21, Try.f21, a0, a1, a2, a3, a4, a5, a38, a39, a40, g5, RetS_some]
      exact c2
    | none =>
      simp only [h7, Option.isSome_none, Option.getD_none, List.length_append, List.length_singleton] at c2 g5 ⊢
      have w1 : IntKind.i64.wrap (((R.length + 1 : Nat) : Int) - 1) = (R.length : Int) := by rw [wrap_i64 (by omega) (by omega)]; omega
      have w2 : slcV 4 0 (R.length + 1) (.ex (ats x.b).length) 1 0 R.length none = some (.slc 4 0 R.length (.ex (ats x.b).length)) := by
        have b2 : Nat.ble R.length (ats x.b).length = true := ble_le.2 (by omega)
        unfold slcV
        simp only [show Nat.ble 0 R.length = true from ble_le.2 (Nat.zero_le _), b2, Bool.and_self, cond_true, Nat.sub_zero]
        cases Nat.beq (ats x.b).length 0 <;> rfl
      have w3 : decide (0 ≤ (R.length : Int)) = true := by rw [decide_eq_true_iff]; omega
      have hpl : ∀ s : AS, opd s (.tmp 52) = some (.slc 4 0 (R.length + 1) (.ex (ats x.b).length)) → opd s (.tmp 55) = some (.lit (.int .i64 R.length)) → pureOp tab s (.slice 30 (.tmp 52) none (some (.tmp 55)) none) = some (.slc 4 0 R.length (.ex (ats x.b).length)) := by
        intro s q1 q2
        obtain ⟨i, i1, i2⟩ := tt30
        obtain ⟨e, j1, j2, j3⟩ := tt26a
        simp only [pureOp, q1, q2, i1, i2, j1, j2, bnd, mxb, w3, cond_true, Int.toNat_natCast, w2]
      simp (maxSteps := 2000000) only [stA, stM, stH, stQ, stE, stC, xI, xF, Nat.reduceLT, Nat.reduceEqDiff, reduceCtorEq, Nat.reduceAdd, Nat.reduceSub, Nat.reduceMul, Nat.max_def, reduceIte, Nat.reduceLeDiff, Nat.reduceBEq, Int.reduceEq, Int.reduceLE, Int.reduceLT, Int.reduceNeg, Int.reduceToNat, x21, stU, b21, Try.f21, a0, a1, a2, a3, a4, a5, a38, a39, a40, g5, e5, w1, q_slice, hpl, Int.toNat_natCast]
      have hh2 := c2.hh
      obtain ⟨J2, k1, k2⟩ := c2.h4
      apply ih2 (i + 1) _ _ _ (by omega)
      · have hg : ∀ o, o ≠ 5 → (H'.put .dead 5 (.cells [.slc 4 0 R.length (.ex (ats x.b).length)] false)).get .dead o = H'.get .dead o := fun o h3 => by rw [Tr.get_put, if_neg h3]
        refine ⟨?_, ?_, ?_, ?_, ⟨encR e.r :: J2, ?_, ?_⟩, ?_, ?_, c2.hh⟩
        · rw [hg _ (by decide)]; exact c2.h0
        · rw [hg _ (by decide)]; exact c2.h1
        · rw [hg _ (by decide)]; exact c2.h2
        · rw [hg _ (by decide)]; exact c2.h3
        · rw [hg _ (by decide), k1]; simp
        · rw [List.length_append, List.length_singleton] at k2; rw [List.length_cons]; omega
        · rw [Tr.get_put, if_pos rfl]
        · rw [hg _ (by decide)]; exact c2.h6
      all_goals simp only [stA, stM, stH, stQ, stE, stC, xI, xF, Nat.reduceLT, Nat.reduceEqDiff, reduceCtorEq, Nat.reduceAdd, Nat.reduceSub, Nat.reduceMul, Nat.max_def, reduceIte, Nat.reduceLeDiff, Nat.reduceBEq, Int.reduceEq, Int.reduceLE, Int.reduceLT, Int.reduceNeg, Int.reduceToNat, a0, a1, a2, a3, a4, a5, a38, a39, a40]
theorem eq21 {x : Ru} {td : Row} {base : List Rl} (hy : Hy x base) (gl : Tr (Option AV)) : ∀ (n : Nat) (m : Md) (R : List Row) (H : Tr AO) (hs : Nat), m.gl = gl → R.length + n = (ats x.b).length → St x td base H hs R →
    ∃ H' hs', callF tab (evw tab) m 21 caps H hs = some (.lit (.bool (srch x td base n R).isSome), H', hs') ∧ St x td base H' hs' ((srch x td base n R).getD R) := by
  have hal : (ats x.b).length < 1000000 := Nat.lt_of_le_of_lt (List.length_filter_le _ _) hy.nb
  have D := d21
  simp only [stD, stC, List.cons.injEq, b21, Try.f21] at D
  intro n
  induction n with
  | zero =>
    intro m R H hs hm hn hS
    have hq : decide ((R.length : Int) = (ats x.b).length) = true := by rw [decide_eq_true_iff]; omega
    obtain ⟨J, hJ, hJl⟩ := hS.h4
    have hC := fun m hs => @call12S m x R H hs (ats x.b).length J hy.nb hy.nt hy.nh hJ (by omega)
    have hC14 := fun m hs => @call14S m x R base H hs (ats x.b).length J hy hJ (by omega)
    have hC22 := fun m k1 k2 H hs => @call22 m k1 k2 (told x R).1 td H hs (by have := (@told_len x R); have := hy.nh; omega)
    simp only [encX, encTd, encR] at hC hC14
    rw [srch]
    rw [callF_in (fi := fi21) tcon rfl rfl rfl]
    have key : ∀ b : Bool, (∃ H' hs', some (AV.lit (.bool b), H, hs) = some (AV.lit (.bool (bif b then some R else none).isSome), H', hs') ∧ St x td base H' hs' ((bif b then some R else none).getD R)) := fun b => by
      cases b <;> exact ⟨H, hs, rfl, hS⟩
    cases h2 : decide (rcmp (told x R).1 td = 0) with
    | false =>
      simp only [h2] at hC22
      rw [Bool.and_false]
      simp (maxSteps := 2000000) only [stA, stM, stH, stQ, stE, stC, xI, xF, Nat.reduceLT, Nat.reduceEqDiff, reduceCtorEq, Nat.reduceAdd, Nat.reduceSub, Nat.reduceMul, Nat.max_def, reduceIte, Nat.reduceLeDiff, Nat.reduceBEq, Int.reduceEq, Int.reduceLE, Int.reduceLT, Int.reduceNeg, Int.reduceToNat, x21, stU, b21, Try.f21, caps, hS.h0, hS.h1, hS.h2, hS.h3, hS.h5, hS.h6, hC, hC22, hq, List.length_map]
      exact key false
    | true =>
      simp only [h2] at hC22
      rw [Bool.and_true]
      simp (maxSteps := 2000000) only [stA, stM, stH, stQ, stE, stC, xI, xF, Nat.reduceLT, Nat.reduceEqDiff, reduceCtorEq, Nat.reduceAdd, Nat.reduceSub, Nat.reduceMul, Nat.max_def, reduceIte, Nat.reduceLeDiff, Nat.reduceBEq, Int.reduceEq, Int.reduceLE, Int.reduceLT, Int.reduceNeg, Int.reduceToNat, x21, stU, b21, Try.f21, caps, hS.h0, hS.h1, hS.h2, hS.h3, hS.h5, hS.h6, hC, hC22, hC14, hq, List.length_map]
      exact key _
  | succ n ih =>
    intro m R H hs hm hn hS
    have hlt : R.length < (ats x.b).length := by omega
    have hq : decide ((R.length : Int) = (ats x.b).length) = false := by rw [decide_eq_false_iff_not]; omega
    have hq3 : decide (0 ≤ (R.length : Int)) = true := by rw [decide_eq_true_iff]; omega
    have hq4 : (ats x.b)[R.length]? = some (ats x.b)[R.length] := List.getElem?_eq_getElem _
    rw [srch, hq4]
    generalize (ats x.b)[R.length] = a at hq4
    have h23 := fun m H hs => @call23 m .no base a.n H hs hy.ns
    have L := @loop21 x td base hy R (ofL base a.n) n gl (hy.nr _) hlt (fun e he => (hy.ne _ e he).1) (fun e he H hs hS => ih ⟨true, true, gl⟩ (R ++ [e.r]) H hs rfl (by rw [List.length_append, List.length_singleton]; omega) hS) (ofL base a.n).length 0
    simp only [stU, stC, b21, Try.f21] at L
    have L2 := fun t H hs => L t H hs (by simp)
    rw [callF_in (fi := fi21) tcon rfl rfl rfl]
    suffices hsu : RetS (bodyF (evw tab) tab fi21 m caps H hs) (fun v H' hs' => v = .lit (.bool ((ofL base a.n).findSome? fun e => srch x td base n (R ++ [e.r])).isSome) ∧ St x td base H' hs' (((ofL base a.n).findSome? fun e => srch x td base n (R ++ [e.r])).getD R)) by
      obtain ⟨v, H', hs', q1, q2, q3⟩ := hsu
      rw [q2] at q1
      exact ⟨H', hs', q1, q3⟩
    simp (maxSteps := 2000000) only [stA, stM, stH, stQ, stE, stC, xI, xF, Nat.reduceLT, Nat.reduceEqDiff, reduceCtorEq, Nat.reduceAdd, Nat.reduceSub, Nat.reduceMul, Nat.max_def, reduceIte, Nat.reduceLeDiff, Nat.reduceBEq, Int.reduceEq, Int.reduceLE, Int.reduceLT, Int.reduceNeg, Int.reduceToNat, x21, stU, b21, Try.f21, caps, encA, hm, hS.h0, hS.h1, hS.h2, hS.h3, hS.h5, hS.h6, h23, hq, hq3, hq4, D, List.length_map, List.getElem?_map, Int.toNat_natCast]
    apply L2 _ _ _ hS
    all_goals first | (simp only [stA, stM, stH, stQ, stE, stC, xI, xF, Nat.reduceLT, Nat.reduceEqDiff, reduceCtorEq, Nat.reduceAdd, Nat.reduceSub, Nat.reduceMul, Nat.max_def, reduceIte, Nat.reduceLeDiff, Nat.reduceBEq, Int.reduceEq, Int.reduceLE, Int.reduceLT, Int.reduceNeg, Int.reduceToNat]; done) | (simp only [stA, stM, stH, stQ, stE, stC, xI, xF, Nat.reduceLT, Nat.reduceEqDiff, reduceCtorEq, Nat.reduceAdd, Nat.reduceSub, Nat.reduceMul, Nat.max_def, reduceIte, Nat.reduceLeDiff, Nat.reduceBEq, Int.reduceEq, Int.reduceLE, Int.reduceLT, Int.reduceNeg, Int.reduceToNat]; rfl)
end Go.Proofs.Ytpehpccahbofiaa.Ev

set_option maxRecDepth 100000
set_option maxHeartbeats 4000000
namespace Go.Proofs.Ytpehpccahbofiaa.Ev
open Go Go.Proofs.Ytpehpccahbofiaa.Ev Go.Proofs Go.Proofs.Ytpehpccahbofiaa Go.Proofs.Ytpehpccahbofiaa.Tab

theorem tt26z : ∃ i, tab.t 26 = some i ∧ i.size = 1 ∧ i.bytes = 24 ∧ i.zero = .lit (.slice none 0 0) := ⟨_, rfl, rfl, rfl, rfl⟩
theorem flat_rep {α : Type} (z : α) : ∀ n : Nat, (List.replicate n [z]).flatten = List.replicate n z
  | 0 => rfl
  | n + 1 => by rw [List.replicate_succ, List.flatten_cons, flat_rep z n]; rfl
theorem mk30 {n : Nat} (hn : n < 1000000) (s : AS) (h1 : opd s (.tmp 17) = some (.lit (.int .i64 n))) (h2 : s.md.lm = false) (hs : Nat) : newOp tab s hs (.makeSlice 30 (.const (.int .i64 0)) (.tmp 17)) = some (.cells (List.replicate n (.lit (.slice none 0 0))) false, .slc hs 0 0 (.ex n)) := by
  obtain ⟨i, i1, i2⟩ := tt30
  obtain ⟨e, j1, j2, j3, j4⟩ := tt26z
  have w : decide (0 ≤ (0 : Int) ∧ (0 : Int) ≤ (n : Int) ∧ (n : Int) * (24 : Nat) ≤ 281474976710656 ∧ (n : Int) ≤ 9223372036854775807) = true := by rw [decide_eq_true_iff]; omega
  have h0 : opd s (.const (.int .i64 0)) = some (.lit (.int .i64 0)) := rfl
  simp only [newOp, h0, h1, h2, i1, i2, j1, j2, j3, j4, w, AV.cells, List.length_cons, List.length_nil, flatOk, Bool.false_and, cond_false, Bool.true_and, Int.toNat_natCast, flat_rep]
  rfl
theorem frz8 {H : Tr AO} {R : List Row} {J : List AV} {n : Nat} (h4 : H.get .dead 4 = .cells (R.map encR ++ J) false) (hn : R.length ≤ n) : frzC tab [30, 31] (.tup [.slc 4 0 R.length (.ex n), .lit (.int .i64 0)]) H = some (encW (R, 0)) := by
  unfold frzC frzR
  simp only [bare, bares, Bool.false_and, cond_false, frzL, frz_R h4 hn]
  rw [frz_bare (d := 29) (v := .lit (.int .i64 0)) rfl]
  simp only [bare, bares, bares_R, Bool.and_self, cond_true, nrm, nrms, nrms_R]
  rfl
theorem eq8 {m : Md} {x : Ru} {td : Row} {base : List Rl} (hy : Hy x base) : iso tab fi8 m [encX x, encR td, .lst .no (base.map encL)] = some (encW (why x td base)) := by
  have hal : (ats x.b).length < 1000000 := Nat.lt_of_le_of_lt (List.length_filter_le _ _) hy.nb
  refine iso_retF ?_
  unfold why
  cases h1 : decide (x.a = 0) with
  | false =>
    simp (maxSteps := 2000000) only [stA, stM, stH, stQ, stE, stC, xI, xF, Nat.reduceLT, Nat.reduceEqDiff, reduceCtorEq, Nat.reduceAdd, Nat.reduceSub, Nat.reduceMul, Nat.max_def, reduceIte, Nat.reduceLeDiff, Nat.reduceBEq, Int.reduceEq, Int.reduceLE, Int.reduceLT, Int.reduceNeg, Int.reduceToNat, x8, stU, b8, Try.f8, encX, encR, h1, RetF_some, frzC_bare]
    rfl
  | true =>
    have hC : ∀ (m : Md) (H : Tr AO) (hs : Nat), callF tab (evw tab) m 20 [encX x] H hs = some (.lst .no ((ats x.b).map encA), H, hs) := fun _ _ _ => call20 hy.nb
    simp only [encX] at hC
    have hM := fun s h1 h2 hs => @mk30 (ats x.b).length hal s h1 h2 hs
    simp (maxSteps := 2000000) only [stA, stM, stH, stQ, stE, stC, xI, xF, Nat.reduceLT, Nat.reduceEqDiff, reduceCtorEq, Nat.reduceAdd, Nat.reduceSub, Nat.reduceMul, Nat.max_def, reduceIte, Nat.reduceLeDiff, Nat.reduceBEq, Int.reduceEq, Int.reduceLE, Int.reduceLT, Int.reduceNeg, Int.reduceToNat, x8, stU, b8, Try.f8, encX, encR, h1, hC, ev_makeSlice, hM, List.length_map]
    have hS : St x td base (((((((((((Tr.lf : Tr AO).put .dead 0 (.cells x.cs false)).put .dead 1 (.cells [.lst .no (td.map encV)] false)).put .dead 2 (.cells [.lst .no (base.map encL)] false)).put .dead 3 (.cells [.lit (.slice none 0 0)] false)).put .dead 3 (.cells [.lst .no ((ats x.b).map encA)] false)).put .dead 4 (.cells (List.replicate (ats x.b).length (.lit (.slice none 0 0))) false)).put .dead 5 (.cells [.lit (.slice none 0 0)] false)).put .dead 5 (.cells [.slc 4 0 0 (.ex (ats x.b).length)] false)).put .dead 6 (.cells [.lit .nilFunc] false)).put .dead 6 (.cells [.fn (.func 21) [] caps] false)) 7 [] := by
      refine ⟨?_, ?_, ?_, ?_, ⟨List.replicate (ats x.b).length (.lit (.slice none 0 0)), ?_, ?_⟩, ?_, ?_, by decide⟩
      all_goals first | (simp; done) | (simp only [stA, stM, stH, stQ, stE, stC, xI, xF, Nat.reduceLT, Nat.reduceEqDiff, reduceCtorEq, Nat.reduceAdd, Nat.reduceSub, Nat.reduceMul, Nat.max_def, reduceIte, Nat.reduceLeDiff, Nat.reduceBEq, Int.reduceEq, Int.reduceLE, Int.reduceLT, Int.reduceNeg, Int.reduceToNat, List.map_nil, List.nil_append]; done) | (simp only [stA, stM, stH, stQ, stE, stC, xI, xF, Nat.reduceLT, Nat.reduceEqDiff, reduceCtorEq, Nat.reduceAdd, Nat.reduceSub, Nat.reduceMul, Nat.max_def, reduceIte, Nat.reduceLeDiff, Nat.reduceBEq, Int.reduceEq, Int.reduceLE, Int.reduceLT, Int.reduceNeg, Int.reduceToNat]; rfl)
    obtain ⟨H', hs', c1, c2⟩ := eq21 hy m.gl (ats x.b).length ⟨false, true, m.gl⟩ [] _ 7 rfl (by simp) hS
    simp only [Ru.cs, caps] at c1
    simp only [c1]
    have g5 := c2.h5
    obtain ⟨J, g4, gl⟩ := c2.h4
    cases h2 : srch x td base (ats x.b).length [] with
    | none =>
      simp only [Option.isSome_none]
      simp (maxSteps := 2000000) only [stA, stM, stH, stQ, stE, stC, xI, xF, Nat.reduceLT, Nat.reduceEqDiff, reduceCtorEq, Nat.reduceAdd, Nat.reduceSub, Nat.reduceMul, Nat.max_def, reduceIte, Nat.reduceLeDiff, Nat.reduceBEq, Int.reduceEq, Int.reduceLE, Int.reduceLT, Int.reduceNeg, Int.reduceToNat, x8, stU, b8, Try.f8, RetF_some, frzC_bare]
      rfl
    | some S =>
      rw [h2] at g5 g4 gl
      simp only [Option.getD_some] at g5 g4 gl
      have hz := frz8 g4 (n := (ats x.b).length) (by omega)
      simp only [Option.isSome_some]
      simp (maxSteps := 2000000) only [stA, stM, stH, stQ, stE, stC, xI, xF, Nat.reduceLT, Nat.reduceEqDiff, reduceCtorEq, Nat.reduceAdd, Nat.reduceSub, Nat.reduceMul, Nat.max_def, reduceIte, Nat.reduceLeDiff, Nat.reduceBEq, Int.reduceEq, Int.reduceLE, Int.reduceLT, Int.reduceNeg, Int.reduceToNat, x8, stU, b8, Try.f8, RetF_some, g5, hz]
theorem call8 {m : Md} {k1 k2 : ATk} {x : Ru} {td : Row} {base : List Rl} {H : Tr AO} {hs : Nat} (hy : Hy x base) : callF tab (evw tab) m 8 [encX x, .lst k1 (td.map encV), .lst k2 (base.map encL)] H hs = some (encW (why x td base), H, hs) :=
  callF_iso tcon rfl rfl (by simp only [stA, stM, stH, stQ, stE, stC, xI, xF, Nat.reduceLT, Nat.reduceEqDiff, reduceCtorEq, Nat.reduceAdd, Nat.reduceSub, Nat.reduceMul, Nat.max_def, reduceIte, Nat.reduceLeDiff, Nat.reduceBEq, Int.reduceEq, Int.reduceLE, Int.reduceLT, Int.reduceNeg, Int.reduceToNat, dBN]) (by have := @eq8 m x td base hy; simp only [stA, stM, stH, stQ, stE, stC, xI, xF, Nat.reduceLT, Nat.reduceEqDiff, reduceCtorEq, Nat.reduceAdd, Nat.reduceSub, Nat.reduceMul, Nat.max_def, reduceIte, Nat.reduceLeDiff, Nat.reduceBEq, Int.reduceEq, Int.reduceLE, Int.reduceLT, Int.reduceNeg, Int.reduceToNat, dBN, encR] at this ⊢; exact this)
end Go.Proofs.Ytpehpccahbofiaa.Ev

set_option maxRecDepth 100000
set_option maxHeartbeats 4000000
namespace Go.Proofs.Ytpehpccahbofiaa.Ev
open Go Go.Proofs.Ytpehpccahbofiaa.Ev Go.Proofs Go.Proofs.Ytpehpccahbofiaa Go.Proofs.Ytpehpccahbofiaa.Tab

/-! ### A yes or no, and what a yes tells -/
def RetB (o : Option (AV × Tr AO × Nat)) (P : Prop) : Prop := ∃ b : Bool, RetN o (.lit (.bool b)) ∧ (b = true → P)
theorem RetB_ff {H : Tr AO} {hs : Nat} {P : Prop} : RetB (some (.lit (.bool false), H, hs)) P = True := eq_true ⟨false, ⟨_, _, _, rfl, rfl, rfl⟩, fun h => by cases h⟩
theorem RetB_tt {H : Tr AO} {hs : Nat} {P : Prop} : RetB (some (.lit (.bool true), H, hs)) P = P := propext ⟨fun ⟨b, ⟨v, H', hs', h1, h2, h3⟩, h⟩ => by cases h1; cases h3; exact h rfl, fun h => ⟨true, ⟨_, _, _, rfl, rfl, rfl⟩, fun _ => h⟩⟩


structure WdX (x : Ru) : Prop where
  h : x.h.length ≤ 9223372036854775807
  b : x.b.length ≤ 9223372036854775807
  a : ∀ a ∈ x.b, a.l.length ≤ 9223372036854775807 ∧ ∀ t ∈ a.l, OkV t.v
structure WdB (base : List Rl) : Prop where
  l : base.length ≤ 9223372036854775807
  r : ∀ r ∈ base, r.l.length ≤ 9223372036854775807 ∧ ∀ e ∈ r.l, e.r.length ≤ 9223372036854775807 ∧ ∀ v ∈ e.r, OkV v
structure FewX (x : Ru) : Prop where
  h : x.h.length ≤ 100
  b : x.b.length ≤ 40
  a : ∀ a ∈ x.b, a.l.length ≤ 100

theorem in18 {x : Ru} {K : List Fr} {P : Prop} {a : Lt} {i : Nat} {H : Tr AO} {hs : Nat} {gl : Tr (Option AV)} (ha : a.l.length ≤ 9223372036854775807) (hi : x.b[i]? = some a) (h0 : H.get .dead 0 = .cells x.cs false)
    (hK : ∀ t' : Tr AV, t'.get .any 1 = .ptr 0 0 → t'.get .any 4 = .lit (.int .i64 i) → RetB (kont tab none (fin tab fi18) K (.exit 4) ⟨t', 88, H, hs, [], ⟨true, true, gl⟩⟩) P) (hR : ∀ t' : Tr AV, t'.get .any 2 = .lit (.bool false) → RetB (kont tab none (fin tab fi18) K .ret ⟨t', 88, H, hs, [], ⟨true, true, gl⟩⟩) P) : ∀ (k j : Nat) (t : Tr AV), j + k = a.l.length →
    t.get .any 1 = .ptr 0 0 → t.get .any 4 = .lit (.int .i64 i) → t.get .any 5 = .lit (.int .i64 j) →
    RetB (W tab none (fin tab fi18) (lpc fi18 2) K ⟨t, 88, H, hs, [], ⟨true, true, gl⟩⟩) P := by
  simp only [stU, stC, b18, Try.f18]
  have g3 : decide (0 ≤ (i : Int)) = true := by rw [decide_eq_true_iff]; omega
  intro k
  induction k with
  | zero =>
    intro j t hj a1 a4 a5
    have e1 : decide ((j : Int) < a.l.length) = false := by rw [decide_eq_false_iff_not]; omega
    rw [W_loop]
    simp only [stA, stM, stH, stQ, stE, stC, xI, xF, Nat.reduceLT, Nat.reduceEqDiff, reduceCtorEq, Nat.reduceAdd, Nat.reduceSub, Nat.reduceMul, Nat.max_def, reduceIte, Nat.reduceLeDiff, Nat.reduceBEq, Int.reduceEq, Int.reduceLE, Int.reduceLT, Int.reduceNeg, Int.reduceToNat, x18, stU, b18, Try.f18, a1, a4, a5, h0, hi, e1, g3, encA, List.length_map, List.getElem?_map, Int.toNat_natCast]
    apply hK
    all_goals simp only [stA, stM, stH, stQ, stE, stC, xI, xF, Nat.reduceLT, Nat.reduceEqDiff, reduceCtorEq, Nat.reduceAdd, Nat.reduceSub, Nat.reduceMul, Nat.max_def, reduceIte, Nat.reduceLeDiff, Nat.reduceBEq, Int.reduceEq, Int.reduceLE, Int.reduceLT, Int.reduceNeg, Int.reduceToNat, a1, a4, a5]
  | succ k ih =>
    intro i1 t hj a1 a4 a5
    have e0 : i1 < a.l.length := by omega
    have e1 : decide ((i1 : Int) < a.l.length) = true := by rw [decide_eq_true_iff]; omega
    have e3 : decide (0 ≤ (i1 : Int)) = true := by rw [decide_eq_true_iff]; omega
    have e4 : a.l[i1]? = some a.l[i1] := List.getElem?_eq_getElem _
    have e5 := wrap_succ (i := i1) (by omega)
    generalize a.l[i1] = u at e4
    rw [W_loop]
    cases h1 : decide ((400 : Int) < u.x.length) with
    | true =>
      simp (maxSteps := 2000000) only [stA, stM, stH, stQ, stE, stC, xI, xF, Nat.reduceLT, Nat.reduceEqDiff, reduceCtorEq, Nat.reduceAdd, Nat.reduceSub, Nat.reduceMul, Nat.max_def, reduceIte, Nat.reduceLeDiff, Nat.reduceBEq, Int.reduceEq, Int.reduceLE, Int.reduceLT, Int.reduceNeg, Int.reduceToNat, x18, stU, b18, Try.f18, a1, a4, a5, h0, hi, e1, e3, e4, e5, g3, h1, encA, encT, List.length_map, List.getElem?_map, Int.toNat_natCast, RetB_ff]
      apply hR
      simp only [stA, stM, stH, stQ, stE, stC, xI, xF, Nat.reduceLT, Nat.reduceEqDiff, reduceCtorEq, Nat.reduceAdd, Nat.reduceSub, Nat.reduceMul, Nat.max_def, reduceIte, Nat.reduceLeDiff, Nat.reduceBEq, Int.reduceEq, Int.reduceLE, Int.reduceLT, Int.reduceNeg, Int.reduceToNat]
    | false =>
      simp (maxSteps := 2000000) only [stA, stM, stH, stQ, stE, stC, xI, xF, Nat.reduceLT, Nat.reduceEqDiff, reduceCtorEq, Nat.reduceAdd, Nat.reduceSub, Nat.reduceMul, Nat.max_def, reduceIte, Nat.reduceLeDiff, Nat.reduceBEq, Int.reduceEq, Int.reduceLE, Int.reduceLT, Int.reduceNeg, Int.reduceToNat, x18, stU, b18, Try.f18, a1, a4, a5, h0, hi, e1, e3, e4, e5, g3, h1, encA, encT, List.length_map, List.getElem?_map, Int.toNat_natCast]
      apply ih (i1 + 1) _ (by omega)
      all_goals simp only [stA, stM, stH, stQ, stE, stC, xI, xF, Nat.reduceLT, Nat.reduceEqDiff, reduceCtorEq, Nat.reduceAdd, Nat.reduceSub, Nat.reduceMul, Nat.max_def, reduceIte, Nat.reduceLeDiff, Nat.reduceBEq, Int.reduceEq, Int.reduceLE, Int.reduceLT, Int.reduceNeg, Int.reduceToNat, a1, a4, a5]
theorem loop18b {x : Ru} {H : Tr AO} {hs : Nat} {gl : Tr (Option AV)} (hw : WdX x) (h0 : H.get .dead 0 = .cells x.cs false) {P : Prop} : ∀ (k i : Nat) (t : Tr AV), i + k = x.b.length → ((∀ a ∈ x.b.drop i, a.l.length ≤ 100) → P) →
    t.get .any 1 = .ptr 0 0 → t.get .any 4 = .lit (.int .i64 i) →
    RetB (W tab none (fin tab fi18) (lpc fi18 1) (lpk fi18 1) ⟨t, 88, H, hs, [], ⟨true, true, gl⟩⟩) P := by
  have hwb := hw.b
  have IN := @in18 x
  simp only [stU, stC, b18, Try.f18] at IN
  simp only [stU, stC, b18, Try.f18]
  intro k
  induction k with
  | zero =>
    intro i t hi hP a1 a4
    have e1 : decide ((i : Int) < (x.b).length) = false := by rw [decide_eq_false_iff_not]; omega
    rw [List.drop_of_length_le (by omega)] at hP
    have hP := hP (by simp)
    rw [W_loop]
    simp only [stA, stM, stH, stQ, stE, stC, xI, xF, Nat.reduceLT, Nat.reduceEqDiff, reduceCtorEq, Nat.reduceAdd, Nat.reduceSub, Nat.reduceMul, Nat.max_def, reduceIte, Nat.reduceLeDiff, Nat.reduceBEq, Int.reduceEq, Int.reduceLE, Int.reduceLT, Int.reduceNeg, Int.reduceToNat, x18, stU, b18, Try.f18, a1, a4, h0, e1, List.length_map, RetB_tt]
    exact hP
  | succ k ih =>
    intro i t hi hP a1 a4
    have hlt : i < (x.b).length := by omega
    have e1 : decide ((i : Int) < (x.b).length) = true := by rw [decide_eq_true_iff]; omega
    have e3 : decide (0 ≤ (i : Int)) = true := by rw [decide_eq_true_iff]; omega
    have e4 : (x.b)[i]? = some (x.b)[i] := List.getElem?_eq_getElem _
    have e6 : (x.b).drop i = (x.b)[i] :: (x.b).drop (i + 1) := List.drop_eq_getElem_cons hlt
    have e7 : (x.b).take (i + 1) = (x.b).take i ++ [(x.b)[i]] := List.take_succ_eq_append_getElem hlt
    generalize hv : (x.b)[i] = a at e4 e6 e7
    have e5 := wrap_succ (i := i) (by omega)
    have ha : a ∈ x.b := hv ▸ List.getElem_mem _
    rw [e6] at hP
    rw [W_loop]
    cases h1 : decide ((100 : Int) < a.l.length) with
    | true => simp (maxSteps := 2000000) only [stA, stM, stH, stQ, stE, stC, xI, xF, Nat.reduceLT, Nat.reduceEqDiff, reduceCtorEq, Nat.reduceAdd, Nat.reduceSub, Nat.reduceMul, Nat.max_def, reduceIte, Nat.reduceLeDiff, Nat.reduceBEq, Int.reduceEq, Int.reduceLE, Int.reduceLT, Int.reduceNeg, Int.reduceToNat, x18, stU, b18, Try.f18, a1, a4, h0, e1, e3, e4, e5, List.getElem?_map, List.length_map, Int.toNat_natCast, h1, encA, RetB_ff]
    | false =>
      cases h2 : decide ((400 : Int) < a.n.length) with
      | true => simp (maxSteps := 2000000) only [stA, stM, stH, stQ, stE, stC, xI, xF, Nat.reduceLT, Nat.reduceEqDiff, reduceCtorEq, Nat.reduceAdd, Nat.reduceSub, Nat.reduceMul, Nat.max_def, reduceIte, Nat.reduceLeDiff, Nat.reduceBEq, Int.reduceEq, Int.reduceLE, Int.reduceLT, Int.reduceNeg, Int.reduceToNat, x18, stU, b18, Try.f18, a1, a4, h0, e1, e3, e4, e5, List.getElem?_map, List.length_map, Int.toNat_natCast, h1, h2, encA, RetB_ff]
      | false =>
        have h3 : a.l.length ≤ 100 := by rw [decide_eq_false_iff_not] at h1; omega
        simp (maxSteps := 2000000) only [stA, stM, stH, stQ, stE, stC, xI, xF, Nat.reduceLT, Nat.reduceEqDiff, reduceCtorEq, Nat.reduceAdd, Nat.reduceSub, Nat.reduceMul, Nat.max_def, reduceIte, Nat.reduceLeDiff, Nat.reduceBEq, Int.reduceEq, Int.reduceLE, Int.reduceLT, Int.reduceNeg, Int.reduceToNat, x18, stU, b18, Try.f18, a1, a4, h0, e1, e3, e4, e5, List.getElem?_map, List.length_map, Int.toNat_natCast, h1, h2, encA]
        refine IN (hw.a a ha).1 e4 h0 ?_ ?_ a.l.length 0 _ (by omega) ?_ ?_ ?_
        · intro t' b1 b4
          simp (maxSteps := 2000000) only [stA, stM, stH, stQ, stE, stC, xI, xF, Nat.reduceLT, Nat.reduceEqDiff, reduceCtorEq, Nat.reduceAdd, Nat.reduceSub, Nat.reduceMul, Nat.max_def, reduceIte, Nat.reduceLeDiff, Nat.reduceBEq, Int.reduceEq, Int.reduceLE, Int.reduceLT, Int.reduceNeg, Int.reduceToNat, x18, stU, b18, Try.f18, b1, b4, e5]
          apply ih (i + 1) _ (by omega) (fun h => hP (fun b hb => by rcases List.mem_cons.1 hb with rfl | hb; exact h3; exact h b hb))
          all_goals simp only [stA, stM, stH, stQ, stE, stC, xI, xF, Nat.reduceLT, Nat.reduceEqDiff, reduceCtorEq, Nat.reduceAdd, Nat.reduceSub, Nat.reduceMul, Nat.max_def, reduceIte, Nat.reduceLeDiff, Nat.reduceBEq, Int.reduceEq, Int.reduceLE, Int.reduceLT, Int.reduceNeg, Int.reduceToNat, b1, b4]
        · intro t' b2
          simp only [stA, stM, stH, stQ, stE, stC, xI, xF, Nat.reduceLT, Nat.reduceEqDiff, reduceCtorEq, Nat.reduceAdd, Nat.reduceSub, Nat.reduceMul, Nat.max_def, reduceIte, Nat.reduceLeDiff, Nat.reduceBEq, Int.reduceEq, Int.reduceLE, Int.reduceLT, Int.reduceNeg, Int.reduceToNat, x18, stU, b18, Try.f18, b2, RetB_ff]
        all_goals first | (simp only [stA, stM, stH, stQ, stE, stC, xI, xF, Nat.reduceLT, Nat.reduceEqDiff, reduceCtorEq, Nat.reduceAdd, Nat.reduceSub, Nat.reduceMul, Nat.max_def, reduceIte, Nat.reduceLeDiff, Nat.reduceBEq, Int.reduceEq, Int.reduceLE, Int.reduceLT, Int.reduceNeg, Int.reduceToNat, a1, a4]; done) | (simp only [stA, stM, stH, stQ, stE, stC, xI, xF, Nat.reduceLT, Nat.reduceEqDiff, reduceCtorEq, Nat.reduceAdd, Nat.reduceSub, Nat.reduceMul, Nat.max_def, reduceIte, Nat.reduceLeDiff, Nat.reduceBEq, Int.reduceEq, Int.reduceLE, Int.reduceLT, Int.reduceNeg, Int.reduceToNat, a1, a4]; rfl)
theorem loop18a {x : Ru} {H : Tr AO} {hs : Nat} {gl : Tr (Option AV)} (hw : WdX x) (h0 : H.get .dead 0 = .cells x.cs false) {P : Prop} (hP : (∀ a ∈ x.b, a.l.length ≤ 100) → P) : ∀ (k i : Nat) (t : Tr AV), i + k = x.h.length →
    t.get .any 1 = .ptr 0 0 → t.get .any 3 = .lit (.int .i64 i) →
    RetB (W tab none (fin tab fi18) (lpc fi18 0) (lpk fi18 0) ⟨t, 88, H, hs, [], ⟨true, true, gl⟩⟩) P := by
  have hwh := hw.h
  have LB := fun t => @loop18b x H hs gl hw h0 P x.b.length 0 t (by simp) (by rw [List.drop_zero]; exact hP)
  simp only [stU, stC, b18, Try.f18] at LB
  simp only [stU, stC, b18, Try.f18]
  intro k
  induction k with
  | zero =>
    intro i t hi a1 a3
    have e1 : decide ((i : Int) < (x.h).length) = false := by rw [decide_eq_false_iff_not]; omega
    rw [W_loop]
    simp only [stA, stM, stH, stQ, stE, stC, xI, xF, Nat.reduceLT, Nat.reduceEqDiff, reduceCtorEq, Nat.reduceAdd, Nat.reduceSub, Nat.reduceMul, Nat.max_def, reduceIte, Nat.reduceLeDiff, Nat.reduceBEq, Int.reduceEq, Int.reduceLE, Int.reduceLT, Int.reduceNeg, Int.reduceToNat, x18, stU, b18, Try.f18, a1, a3, h0, e1, List.length_map]
    apply LB
    all_goals first | (simp only [stA, stM, stH, stQ, stE, stC, xI, xF, Nat.reduceLT, Nat.reduceEqDiff, reduceCtorEq, Nat.reduceAdd, Nat.reduceSub, Nat.reduceMul, Nat.max_def, reduceIte, Nat.reduceLeDiff, Nat.reduceBEq, Int.reduceEq, Int.reduceLE, Int.reduceLT, Int.reduceNeg, Int.reduceToNat, a1]; done) | (simp only [stA, stM, stH, stQ, stE, stC, xI, xF, Nat.reduceLT, Nat.reduceEqDiff, reduceCtorEq, Nat.reduceAdd, Nat.reduceSub, Nat.reduceMul, Nat.max_def, reduceIte, Nat.reduceLeDiff, Nat.reduceBEq, Int.reduceEq, Int.reduceLE, Int.reduceLT, Int.reduceNeg, Int.reduceToNat, a1]; rfl)
  | succ k ih =>
    intro i t hi a1 a3
    have hlt : i < (x.h).length := by omega
    have e1 : decide ((i : Int) < (x.h).length) = true := by rw [decide_eq_true_iff]; omega
    have e3 : decide (0 ≤ (i : Int)) = true := by rw [decide_eq_true_iff]; omega
    have e4 : (x.h)[i]? = some (x.h)[i] := List.getElem?_eq_getElem _
    have e6 : (x.h).drop i = (x.h)[i] :: (x.h).drop (i + 1) := List.drop_eq_getElem_cons hlt
    have e7 : (x.h).take (i + 1) = (x.h).take i ++ [(x.h)[i]] := List.take_succ_eq_append_getElem hlt
    generalize hv : (x.h)[i] = n at e4 e6 e7
    have e5 := wrap_succ (i := i) (by omega)
    rw [W_loop]
    cases h1 : decide ((400 : Int) < n.length) with
    | true => simp (maxSteps := 2000000) only [stA, stM, stH, stQ, stE, stC, xI, xF, Nat.reduceLT, Nat.reduceEqDiff, reduceCtorEq, Nat.reduceAdd, Nat.reduceSub, Nat.reduceMul, Nat.max_def, reduceIte, Nat.reduceLeDiff, Nat.reduceBEq, Int.reduceEq, Int.reduceLE, Int.reduceLT, Int.reduceNeg, Int.reduceToNat, x18, stU, b18, Try.f18, a1, a3, h0, e1, e3, e4, e5, List.getElem?_map, List.length_map, Int.toNat_natCast, h1, RetB_ff]
    | false =>
      simp (maxSteps := 2000000) only [stA, stM, stH, stQ, stE, stC, xI, xF, Nat.reduceLT, Nat.reduceEqDiff, reduceCtorEq, Nat.reduceAdd, Nat.reduceSub, Nat.reduceMul, Nat.max_def, reduceIte, Nat.reduceLeDiff, Nat.reduceBEq, Int.reduceEq, Int.reduceLE, Int.reduceLT, Int.reduceNeg, Int.reduceToNat, x18, stU, b18, Try.f18, a1, a3, h0, e1, e3, e4, e5, List.getElem?_map, List.length_map, Int.toNat_natCast, h1]
      apply ih (i + 1) _ (by omega)
      all_goals simp only [stA, stM, stH, stQ, stE, stC, xI, xF, Nat.reduceLT, Nat.reduceEqDiff, reduceCtorEq, Nat.reduceAdd, Nat.reduceSub, Nat.reduceMul, Nat.max_def, reduceIte, Nat.reduceLeDiff, Nat.reduceBEq, Int.reduceEq, Int.reduceLE, Int.reduceLT, Int.reduceNeg, Int.reduceToNat, a1, a3]
theorem eq18 {m : Md} {x : Ru} (hw : WdX x) : ∃ b : Bool, iso tab fi18 m [encX x] = some (.lit (.bool b)) ∧ (b = true → FewX x) := by
  suffices h : RetB (bodyF (evw tab) tab fi18 m [encX x] .lf 0) (FewX x) by
    obtain ⟨b, h1, h2⟩ := h
    exact ⟨b, iso_ret h1, h2⟩
  cases h1 : decide ((100 : Int) < x.h.length) with
  | true => simp (maxSteps := 2000000) only [stA, stM, stH, stQ, stE, stC, xI, xF, Nat.reduceLT, Nat.reduceEqDiff, reduceCtorEq, Nat.reduceAdd, Nat.reduceSub, Nat.reduceMul, Nat.max_def, reduceIte, Nat.reduceLeDiff, Nat.reduceBEq, Int.reduceEq, Int.reduceLE, Int.reduceLT, Int.reduceNeg, Int.reduceToNat, x18, stU, b18, Try.f18, encX, h1, List.length_map, RetB_ff]
  | false =>
    cases h2 : decide ((40 : Int) < x.b.length) with
    | true => simp (maxSteps := 2000000) only [stA, stM, stH, stQ, stE, stC, xI, xF, Nat.reduceLT, Nat.reduceEqDiff, reduceCtorEq, Nat.reduceAdd, Nat.reduceSub, Nat.reduceMul, Nat.max_def, reduceIte, Nat.reduceLeDiff, Nat.reduceBEq, Int.reduceEq, Int.reduceLE, Int.reduceLT, Int.reduceNeg, Int.reduceToNat, x18, stU, b18, Try.f18, encX, h1, h2, List.length_map, RetB_ff]
    | false =>
      cases h3 : decide ((400 : Int) < IntKind.i64.wrap ((x.n.length : Int) + x.f.length)) with
      | true => simp (maxSteps := 2000000) only [stA, stM, stH, stQ, stE, stC, xI, xF, Nat.reduceLT, Nat.reduceEqDiff, reduceCtorEq, Nat.reduceAdd, Nat.reduceSub, Nat.reduceMul, Nat.max_def, reduceIte, Nat.reduceLeDiff, Nat.reduceBEq, Int.reduceEq, Int.reduceLE, Int.reduceLT, Int.reduceNeg, Int.reduceToNat, x18, stU, b18, Try.f18, encX, h1, h2, h3, List.length_map, RetB_ff]
      | false =>
        have q1 := h1
        have q2 := h2
        rw [decide_eq_false_iff_not] at q1 q2
        have e1 : x.h.length ≤ 100 := by omega
        have e2 : x.b.length ≤ 40 := by omega
        have LA := fun t H hs h0 => @loop18a x H hs m.gl hw h0 (FewX x) (fun h => ⟨e1, e2, h⟩) x.h.length 0 t (by simp)
        simp only [stU, stC, b18, Try.f18] at LA
        simp (maxSteps := 2000000) only [stA, stM, stH, stQ, stE, stC, xI, xF, Nat.reduceLT, Nat.reduceEqDiff, reduceCtorEq, Nat.reduceAdd, Nat.reduceSub, Nat.reduceMul, Nat.max_def, reduceIte, Nat.reduceLeDiff, Nat.reduceBEq, Int.reduceEq, Int.reduceLE, Int.reduceLT, Int.reduceNeg, Int.reduceToNat, x18, stU, b18, Try.f18, encX, h1, h2, h3, List.length_map]
        apply LA
        all_goals first | (simp only [stA, stM, stH, stQ, stE, stC, xI, xF, Nat.reduceLT, Nat.reduceEqDiff, reduceCtorEq, Nat.reduceAdd, Nat.reduceSub, Nat.reduceMul, Nat.max_def, reduceIte, Nat.reduceLeDiff, Nat.reduceBEq, Int.reduceEq, Int.reduceLE, Int.reduceLT, Int.reduceNeg, Int.reduceToNat]; done) | (simp only [stA, stM, stH, stQ, stE, stC, xI, xF, Nat.reduceLT, Nat.reduceEqDiff, reduceCtorEq, Nat.reduceAdd, Nat.reduceSub, Nat.reduceMul, Nat.max_def, reduceIte, Nat.reduceLeDiff, Nat.reduceBEq, Int.reduceEq, Int.reduceLE, Int.reduceLT, Int.reduceNeg, Int.reduceToNat]; rfl) | skip
end Go.Proofs.Ytpehpccahbofiaa.Ev

set_option maxRecDepth 100000
set_option maxHeartbeats 4000000
namespace Go.Proofs.Ytpehpccahbofiaa.Ev
open Go Go.Proofs.Ytpehpccahbofiaa.Ev Go.Proofs Go.Proofs.Ytpehpccahbofiaa Go.Proofs.Ytpehpccahbofiaa.Tab

/-! ### Few and small -/
def GdR (r : Rl) : Prop := r.l.length ≤ 40 ∧ ∀ e ∈ r.l, e.r.length ≤ 50
structure Lgt (x : Ru) (base : List Rl) : Prop where
  x : FewX x
  b : base.length ≤ 12
  r : ∀ r ∈ base, GdR r
theorem in6a {x : Ru} {base : List Rl} {K : List Fr} {P : Prop} {a : Lt} {i : Nat} {n : Int} {H : Tr AO} {hs : Nat} {gl : Tr (Option AV)} (hw : WdB base) (hi : x.b[i]? = some a) (h0 : H.get .dead 0 = .cells x.cs false)
    (hK : ∀ (t' : Tr AV) (k : Int), t'.get .any 1 = .lst .no (base.map encL) → t'.get .any 2 = .ptr 0 0 → t'.get .any 5 = .lit (.int .i64 n) → t'.get .any 6 = .lit (.int .i64 i) → t'.get .any 7 = .lit (.int .i64 k) → RetB (kont tab none (fin tab fi6) K (.exit 2) ⟨t', 107, H, hs, [], ⟨true, true, gl⟩⟩) P) : ∀ (k j : Nat) (t : Tr AV) (kk : Int), j + k = base.length →
    t.get .any 1 = .lst .no (base.map encL) → t.get .any 2 = .ptr 0 0 → t.get .any 5 = .lit (.int .i64 n) → t.get .any 6 = .lit (.int .i64 i) → t.get .any 7 = .lit (.int .i64 kk) → t.get .any 8 = .lit (.int .i64 j) →
    RetB (W tab none (fin tab fi6) (lpc fi6 1) K ⟨t, 107, H, hs, [], ⟨true, true, gl⟩⟩) P := by
  have hwl := hw.l
  have D := d6
  simp only [stD, stC, List.cons.injEq, b6, Try.f6] at D
  simp only [stU, stC, b6, Try.f6]
  have g3 : decide (0 ≤ (i : Int)) = true := by rw [decide_eq_true_iff]; omega
  intro k
  induction k with
  | zero =>
    intro j t kk hj a1 a2 a5 a6 a7 a8
    have e1 : decide ((j : Int) < base.length) = false := by rw [decide_eq_false_iff_not]; omega
    rw [W_loop]
    simp only [stA, stM, stH, stQ, stE, stC, xI, xF, Nat.reduceLT, Nat.reduceEqDiff, reduceCtorEq, Nat.reduceAdd, Nat.reduceSub, Nat.reduceMul, Nat.max_def, reduceIte, Nat.reduceLeDiff, Nat.reduceBEq, Int.reduceEq, Int.reduceLE, Int.reduceLT, Int.reduceNeg, Int.reduceToNat, x6, stU, b6, Try.f6, a1, a2, a5, a6, a7, a8, h0, hi, e1, g3, encA, List.length_map, List.getElem?_map, Int.toNat_natCast]
    apply hK _ kk
    all_goals simp only [stA, stM, stH, stQ, stE, stC, xI, xF, Nat.reduceLT, Nat.reduceEqDiff, reduceCtorEq, Nat.reduceAdd, Nat.reduceSub, Nat.reduceMul, Nat.max_def, reduceIte, Nat.reduceLeDiff, Nat.reduceBEq, Int.reduceEq, Int.reduceLE, Int.reduceLT, Int.reduceNeg, Int.reduceToNat, a1, a2, a5, a6, a7]
  | succ k ih =>
    intro i1 t kk hj a1 a2 a5 a6 a7 a8
    have e0 : i1 < base.length := by omega
    have e1 : decide ((i1 : Int) < base.length) = true := by rw [decide_eq_true_iff]; omega
    have e3 : decide (0 ≤ (i1 : Int)) = true := by rw [decide_eq_true_iff]; omega
    have e4 : base[i1]? = some base[i1] := List.getElem?_eq_getElem _
    have e5 := wrap_succ (i := i1) (by omega)
    generalize base[i1] = r at e4
    rw [W_loop]
    cases h1 : r.n == a.n with
    | true =>
      simp (maxSteps := 2000000) only [stA, stM, stH, stQ, stE, stC, xI, xF, Nat.reduceLT, Nat.reduceEqDiff, reduceCtorEq, Nat.reduceAdd, Nat.reduceSub, Nat.reduceMul, Nat.max_def, reduceIte, Nat.reduceLeDiff, Nat.reduceBEq, Int.reduceEq, Int.reduceLE, Int.reduceLT, Int.reduceNeg, Int.reduceToNat, x6, stU, b6, Try.f6, a1, a2, a5, a6, a7, a8, h0, hi, e1, e3, e4, e5, g3, h1, encA, encL, List.length_map, List.getElem?_map, Int.toNat_natCast, D]
      apply ih (i1 + 1) _ _ (by omega)
      all_goals first | (simp only [stA, stM, stH, stQ, stE, stC, xI, xF, Nat.reduceLT, Nat.reduceEqDiff, reduceCtorEq, Nat.reduceAdd, Nat.reduceSub, Nat.reduceMul, Nat.max_def, reduceIte, Nat.reduceLeDiff, Nat.reduceBEq, Int.reduceEq, Int.reduceLE, Int.reduceLT, Int.reduceNeg, Int.reduceToNat, a1, a2, a5, a6, a7]; done) | (simp only [stA, stM, stH, stQ, stE, stC, xI, xF, Nat.reduceLT, Nat.reduceEqDiff, reduceCtorEq, Nat.reduceAdd, Nat.reduceSub, Nat.reduceMul, Nat.max_def, reduceIte, Nat.reduceLeDiff, Nat.reduceBEq, Int.reduceEq, Int.reduceLE, Int.reduceLT, Int.reduceNeg, Int.reduceToNat, a1, a2, a5, a6, a7]; rfl)
    | false =>
      simp (maxSteps := 2000000) only [stA, stM, stH, stQ, stE, stC, xI, xF, Nat.reduceLT, Nat.reduceEqDiff, reduceCtorEq, Nat.reduceAdd, Nat.reduceSub, Nat.reduceMul, Nat.max_def, reduceIte, Nat.reduceLeDiff, Nat.reduceBEq, Int.reduceEq, Int.reduceLE, Int.reduceLT, Int.reduceNeg, Int.reduceToNat, x6, stU, b6, Try.f6, a1, a2, a5, a6, a7, a8, h0, hi, e1, e3, e4, e5, g3, h1, encA, encL, List.length_map, List.getElem?_map, Int.toNat_natCast, D]
      apply ih (i1 + 1) _ kk (by omega)
      all_goals simp only [stA, stM, stH, stQ, stE, stC, xI, xF, Nat.reduceLT, Nat.reduceEqDiff, reduceCtorEq, Nat.reduceAdd, Nat.reduceSub, Nat.reduceMul, Nat.max_def, reduceIte, Nat.reduceLeDiff, Nat.reduceBEq, Int.reduceEq, Int.reduceLE, Int.reduceLT, Int.reduceNeg, Int.reduceToNat, a1, a2, a5, a6, a7]
theorem in6d {base : List Rl} {K : List Fr} {P : Prop} {r : Rl} {i : Nat} {H : Tr AO} {hs : Nat} {gl : Tr (Option AV)} (hl : r.l.length ≤ 40) (hi : base[i]? = some r)
    (hK : (∀ e ∈ r.l, e.r.length ≤ 50) → ∀ (t' : Tr AV), t'.get .any 1 = .lst .no (base.map encL) → t'.get .any 9 = .lit (.int .i64 i) → RetB (kont tab none (fin tab fi6) K (.exit 6) ⟨t', 107, H, hs, [], ⟨true, true, gl⟩⟩) P)
    (hR : ∀ t' : Tr AV, t'.get .any 4 = .lit (.bool false) → RetB (kont tab none (fin tab fi6) K .ret ⟨t', 107, H, hs, [], ⟨true, true, gl⟩⟩) P) : ∀ (k j : Nat) (t : Tr AV), j + k = r.l.length → (∀ e ∈ r.l.take j, e.r.length ≤ 50) →
    t.get .any 1 = .lst .no (base.map encL) → t.get .any 9 = .lit (.int .i64 i) → t.get .any 10 = .lit (.int .i64 j) →
    RetB (W tab none (fin tab fi6) (lpc fi6 3) K ⟨t, 107, H, hs, [], ⟨true, true, gl⟩⟩) P := by
  simp only [stU, stC, b6, Try.f6]
  have g3 : decide (0 ≤ (i : Int)) = true := by rw [decide_eq_true_iff]; omega
  intro k
  induction k with
  | zero =>
    intro j t hj hg a1 a9 a10
    have e1 : decide ((j : Int) < r.l.length) = false := by rw [decide_eq_false_iff_not]; omega
    rw [List.take_of_length_le (by omega)] at hg
    rw [W_loop]
    simp only [stA, stM, stH, stQ, stE, stC, xI, xF, Nat.reduceLT, Nat.reduceEqDiff, reduceCtorEq, Nat.reduceAdd, Nat.reduceSub, Nat.reduceMul, Nat.max_def, reduceIte, Nat.reduceLeDiff, Nat.reduceBEq, Int.reduceEq, Int.reduceLE, Int.reduceLT, Int.reduceNeg, Int.reduceToNat, x6, stU, b6, Try.f6, a1, a9, a10, hi, e1, g3, encL, List.length_map, List.getElem?_map, Int.toNat_natCast]
    apply hK hg
    all_goals simp only [stA, stM, stH, stQ, stE, stC, xI, xF, Nat.reduceLT, Nat.reduceEqDiff, reduceCtorEq, Nat.reduceAdd, Nat.reduceSub, Nat.reduceMul, Nat.max_def, reduceIte, Nat.reduceLeDiff, Nat.reduceBEq, Int.reduceEq, Int.reduceLE, Int.reduceLT, Int.reduceNeg, Int.reduceToNat, a1, a9]
  | succ k ih =>
    intro i1 t hj hg a1 a9 a10
    have e0 : i1 < r.l.length := by omega
    have e1 : decide ((i1 : Int) < r.l.length) = true := by rw [decide_eq_true_iff]; omega
    have e3 : decide (0 ≤ (i1 : Int)) = true := by rw [decide_eq_true_iff]; omega
    have e4 : r.l[i1]? = some r.l[i1] := List.getElem?_eq_getElem _
    have e7 : r.l.take (i1 + 1) = r.l.take i1 ++ [r.l[i1]] := List.take_succ_eq_append_getElem e0
    have e5 := wrap_succ (i := i1) (by omega)
    generalize r.l[i1] = e at e4 e7
    rw [W_loop]
    cases h1 : decide ((50 : Int) < e.r.length) with
    | true =>
      simp (maxSteps := 2000000) only [stA, stM, stH, stQ, stE, stC, xI, xF, Nat.reduceLT, Nat.reduceEqDiff, reduceCtorEq, Nat.reduceAdd, Nat.reduceSub, Nat.reduceMul, Nat.max_def, reduceIte, Nat.reduceLeDiff, Nat.reduceBEq, Int.reduceEq, Int.reduceLE, Int.reduceLT, Int.reduceNeg, Int.reduceToNat, x6, stU, b6, Try.f6, a1, a9, a10, hi, e1, e3, e4, e5, g3, h1, encL, encE, encR, List.length_map, List.getElem?_map, Int.toNat_natCast, RetB_ff]
      apply hR
      simp only [stA, stM, stH, stQ, stE, stC, xI, xF, Nat.reduceLT, Nat.reduceEqDiff, reduceCtorEq, Nat.reduceAdd, Nat.reduceSub, Nat.reduceMul, Nat.max_def, reduceIte, Nat.reduceLeDiff, Nat.reduceBEq, Int.reduceEq, Int.reduceLE, Int.reduceLT, Int.reduceNeg, Int.reduceToNat]
    | false =>
      simp (maxSteps := 2000000) only [stA, stM, stH, stQ, stE, stC, xI, xF, Nat.reduceLT, Nat.reduceEqDiff, reduceCtorEq, Nat.reduceAdd, Nat.reduceSub, Nat.reduceMul, Nat.max_def, reduceIte, Nat.reduceLeDiff, Nat.reduceBEq, Int.reduceEq, Int.reduceLE, Int.reduceLT, Int.reduceNeg, Int.reduceToNat, x6, stU, b6, Try.f6, a1, a9, a10, hi, e1, e3, e4, e5, g3, h1, encL, encE, encR, List.length_map, List.getElem?_map, Int.toNat_natCast]
      have h2 : e.r.length ≤ 50 := by rw [decide_eq_false_iff_not] at h1; omega
      apply ih (i1 + 1) _ (by omega) (fun b hb => by rw [e7] at hb; rcases List.mem_append.1 hb with hb | hb; exact hg b hb; rw [List.mem_singleton] at hb; subst hb; exact h2)
      all_goals simp only [stA, stM, stH, stQ, stE, stC, xI, xF, Nat.reduceLT, Nat.reduceEqDiff, reduceCtorEq, Nat.reduceAdd, Nat.reduceSub, Nat.reduceMul, Nat.max_def, reduceIte, Nat.reduceLeDiff, Nat.reduceBEq, Int.reduceEq, Int.reduceLE, Int.reduceLT, Int.reduceNeg, Int.reduceToNat, a1, a9]
theorem loop6c {base : List Rl} {H : Tr AO} {hs : Nat} {gl : Tr (Option AV)} (hl : base.length ≤ 12) {P : Prop} : ∀ (k i : Nat) (t : Tr AV), i + k = base.length → ((∀ r ∈ base.drop i, GdR r) → P) →
    t.get .any 1 = .lst .no (base.map encL) → t.get .any 9 = .lit (.int .i64 i) →
    RetB (W tab none (fin tab fi6) (lpc fi6 2) (lpk fi6 2) ⟨t, 107, H, hs, [], ⟨true, true, gl⟩⟩) P := by
  have IN := @in6d base
  simp only [stU, stC, b6, Try.f6] at IN
  simp only [stU, stC, b6, Try.f6]
  intro k
  induction k with
  | zero =>
    intro i t hi hP a1 a9
    have e1 : decide ((i : Int) < (base).length) = false := by rw [decide_eq_false_iff_not]; omega
    rw [List.drop_of_length_le (by omega)] at hP
    have hP := hP (by simp)
    rw [W_loop]
    simp only [stA, stM, stH, stQ, stE, stC, xI, xF, Nat.reduceLT, Nat.reduceEqDiff, reduceCtorEq, Nat.reduceAdd, Nat.reduceSub, Nat.reduceMul, Nat.max_def, reduceIte, Nat.reduceLeDiff, Nat.reduceBEq, Int.reduceEq, Int.reduceLE, Int.reduceLT, Int.reduceNeg, Int.reduceToNat, x6, stU, b6, Try.f6, a1, a9, e1, List.length_map, RetB_tt]
    exact hP
  | succ k ih =>
    intro i t hi hP a1 a9
    have hlt : i < (base).length := by omega
    have e1 : decide ((i : Int) < (base).length) = true := by rw [decide_eq_true_iff]; omega
    have e3 : decide (0 ≤ (i : Int)) = true := by rw [decide_eq_true_iff]; omega
    have e4 : (base)[i]? = some (base)[i] := List.getElem?_eq_getElem _
    have e6 : (base).drop i = (base)[i] :: (base).drop (i + 1) := List.drop_eq_getElem_cons hlt
    have e7 : (base).take (i + 1) = (base).take i ++ [(base)[i]] := List.take_succ_eq_append_getElem hlt
    generalize hv : (base)[i] = r at e4 e6 e7
    have e5 := wrap_succ (i := i) (by omega)
    rw [e6] at hP
    rw [W_loop]
    cases h1 : decide ((40 : Int) < r.l.length) with
    | true => simp (maxSteps := 2000000) only [stA, stM, stH, stQ, stE, stC, xI, xF, Nat.reduceLT, Nat.reduceEqDiff, reduceCtorEq, Nat.reduceAdd, Nat.reduceSub, Nat.reduceMul, Nat.max_def, reduceIte, Nat.reduceLeDiff, Nat.reduceBEq, Int.reduceEq, Int.reduceLE, Int.reduceLT, Int.reduceNeg, Int.reduceToNat, x6, stU, b6, Try.f6, a1, a9, e1, e3, e4, e5, List.getElem?_map, List.length_map, Int.toNat_natCast, h1, encL, RetB_ff]
    | false =>
      have h3 : r.l.length ≤ 40 := by rw [decide_eq_false_iff_not] at h1; omega
      simp (maxSteps := 2000000) only [stA, stM, stH, stQ, stE, stC, xI, xF, Nat.reduceLT, Nat.reduceEqDiff, reduceCtorEq, Nat.reduceAdd, Nat.reduceSub, Nat.reduceMul, Nat.max_def, reduceIte, Nat.reduceLeDiff, Nat.reduceBEq, Int.reduceEq, Int.reduceLE, Int.reduceLT, Int.reduceNeg, Int.reduceToNat, x6, stU, b6, Try.f6, a1, a9, e1, e3, e4, e5, List.getElem?_map, List.length_map, Int.toNat_natCast, h1, encL]
      refine IN h3 e4 ?_ ?_ r.l.length 0 _ (by omega) (by simp) ?_ ?_ ?_
      · intro hq t' b1 b9
        simp (maxSteps := 2000000) only [stA, stM, stH, stQ, stE, stC, xI, xF, Nat.reduceLT, Nat.reduceEqDiff, reduceCtorEq, Nat.reduceAdd, Nat.reduceSub, Nat.reduceMul, Nat.max_def, reduceIte, Nat.reduceLeDiff, Nat.reduceBEq, Int.reduceEq, Int.reduceLE, Int.reduceLT, Int.reduceNeg, Int.reduceToNat, x6, stU, b6, Try.f6, b1, b9, e5]
        apply ih (i + 1) _ (by omega) (fun h => hP (fun b hb => by rcases List.mem_cons.1 hb with rfl | hb; exact ⟨h3, hq⟩; exact h b hb))
        all_goals simp only [stA, stM, stH, stQ, stE, stC, xI, xF, Nat.reduceLT, Nat.reduceEqDiff, reduceCtorEq, Nat.reduceAdd, Nat.reduceSub, Nat.reduceMul, Nat.max_def, reduceIte, Nat.reduceLeDiff, Nat.reduceBEq, Int.reduceEq, Int.reduceLE, Int.reduceLT, Int.reduceNeg, Int.reduceToNat, b1, b9]
      · intro t' b2
        simp only [stA, stM, stH, stQ, stE, stC, xI, xF, Nat.reduceLT, Nat.reduceEqDiff, reduceCtorEq, Nat.reduceAdd, Nat.reduceSub, Nat.reduceMul, Nat.max_def, reduceIte, Nat.reduceLeDiff, Nat.reduceBEq, Int.reduceEq, Int.reduceLE, Int.reduceLT, Int.reduceNeg, Int.reduceToNat, x6, stU, b6, Try.f6, b2, RetB_ff]
      all_goals first | (simp only [stA, stM, stH, stQ, stE, stC, xI, xF, Nat.reduceLT, Nat.reduceEqDiff, reduceCtorEq, Nat.reduceAdd, Nat.reduceSub, Nat.reduceMul, Nat.max_def, reduceIte, Nat.reduceLeDiff, Nat.reduceBEq, Int.reduceEq, Int.reduceLE, Int.reduceLT, Int.reduceNeg, Int.reduceToNat, a1, a9]; done) | (simp only [stA, stM, stH, stQ, stE, stC, xI, xF, Nat.reduceLT, Nat.reduceEqDiff, reduceCtorEq, Nat.reduceAdd, Nat.reduceSub, Nat.reduceMul, Nat.max_def, reduceIte, Nat.reduceLeDiff, Nat.reduceBEq, Int.reduceEq, Int.reduceLE, Int.reduceLT, Int.reduceNeg, Int.reduceToNat, a1, a9]; rfl)
theorem loop6a {x : Ru} {base : List Rl} {H : Tr AO} {hs : Nat} {gl : Tr (Option AV)} (hx : FewX x) (hw : WdB base) (hl : base.length ≤ 12) (h0 : H.get .dead 0 = .cells x.cs false) {P : Prop} (hP : (∀ r ∈ base, GdR r) → P) : ∀ (k i : Nat) (t : Tr AV) (n : Int), i + k = x.b.length →
    t.get .any 1 = .lst .no (base.map encL) → t.get .any 2 = .ptr 0 0 → t.get .any 5 = .lit (.int .i64 n) → t.get .any 6 = .lit (.int .i64 i) →
    RetB (W tab none (fin tab fi6) (lpc fi6 0) (lpk fi6 0) ⟨t, 107, H, hs, [], ⟨true, true, gl⟩⟩) P := by
  have hxb := hx.b
  have IN := @in6a x base
  have LC := fun t => @loop6c base H hs gl hl P base.length 0 t (by simp) (by rw [List.drop_zero]; exact hP)
  simp only [stU, stC, b6, Try.f6] at IN LC
  simp only [stU, stC, b6, Try.f6]
  intro k
  induction k with
  | zero =>
    intro i t n hi a1 a2 a5 a6
    have e1 : decide ((i : Int) < (x.b).length) = false := by rw [decide_eq_false_iff_not]; omega
    rw [W_loop]
    simp only [stA, stM, stH, stQ, stE, stC, xI, xF, Nat.reduceLT, Nat.reduceEqDiff, reduceCtorEq, Nat.reduceAdd, Nat.reduceSub, Nat.reduceMul, Nat.max_def, reduceIte, Nat.reduceLeDiff, Nat.reduceBEq, Int.reduceEq, Int.reduceLE, Int.reduceLT, Int.reduceNeg, Int.reduceToNat, x6, stU, b6, Try.f6, a1, a2, a5, a6, h0, e1, List.length_map]
    apply LC
    all_goals first | (simp only [stA, stM, stH, stQ, stE, stC, xI, xF, Nat.reduceLT, Nat.reduceEqDiff, reduceCtorEq, Nat.reduceAdd, Nat.reduceSub, Nat.reduceMul, Nat.max_def, reduceIte, Nat.reduceLeDiff, Nat.reduceBEq, Int.reduceEq, Int.reduceLE, Int.reduceLT, Int.reduceNeg, Int.reduceToNat, a1]; done) | (simp only [stA, stM, stH, stQ, stE, stC, xI, xF, Nat.reduceLT, Nat.reduceEqDiff, reduceCtorEq, Nat.reduceAdd, Nat.reduceSub, Nat.reduceMul, Nat.max_def, reduceIte, Nat.reduceLeDiff, Nat.reduceBEq, Int.reduceEq, Int.reduceLE, Int.reduceLT, Int.reduceNeg, Int.reduceToNat, a1]; rfl)
  | succ k ih =>
    intro i t n hi a1 a2 a5 a6
    have hlt : i < (x.b).length := by omega
    have e1 : decide ((i : Int) < (x.b).length) = true := by rw [decide_eq_true_iff]; omega
    have e3 : decide (0 ≤ (i : Int)) = true := by rw [decide_eq_true_iff]; omega
    have e4 : (x.b)[i]? = some (x.b)[i] := List.getElem?_eq_getElem _
    have e6 : (x.b).drop i = (x.b)[i] :: (x.b).drop (i + 1) := List.drop_eq_getElem_cons hlt
    have e7 : (x.b).take (i + 1) = (x.b).take i ++ [(x.b)[i]] := List.take_succ_eq_append_getElem hlt
    generalize hv : (x.b)[i] = a at e4 e6 e7
    have e5 := wrap_succ (i := i) (by omega)
    rw [W_loop]
    cases h1 : decide (a.o = 0) with
    | false =>
      simp (maxSteps := 2000000) only [stA, stM, stH, stQ, stE, stC, xI, xF, Nat.reduceLT, Nat.reduceEqDiff, reduceCtorEq, Nat.reduceAdd, Nat.reduceSub, Nat.reduceMul, Nat.max_def, reduceIte, Nat.reduceLeDiff, Nat.reduceBEq, Int.reduceEq, Int.reduceLE, Int.reduceLT, Int.reduceNeg, Int.reduceToNat, x6, stU, b6, Try.f6, a1, a2, a5, a6, h0, e1, e3, e4, e5, List.getElem?_map, List.length_map, Int.toNat_natCast, h1, encA]
      apply ih (i + 1) _ n (by omega)
      all_goals simp only [stA, stM, stH, stQ, stE, stC, xI, xF, Nat.reduceLT, Nat.reduceEqDiff, reduceCtorEq, Nat.reduceAdd, Nat.reduceSub, Nat.reduceMul, Nat.max_def, reduceIte, Nat.reduceLeDiff, Nat.reduceBEq, Int.reduceEq, Int.reduceLE, Int.reduceLT, Int.reduceNeg, Int.reduceToNat, a1, a2, a5, a6]
    | true =>
      cases h2 : a.no with
      | true =>
        simp (maxSteps := 2000000) only [stA, stM, stH, stQ, stE, stC, xI, xF, Nat.reduceLT, Nat.reduceEqDiff, reduceCtorEq, Nat.reduceAdd, Nat.reduceSub, Nat.reduceMul, Nat.max_def, reduceIte, Nat.reduceLeDiff, Nat.reduceBEq, Int.reduceEq, Int.reduceLE, Int.reduceLT, Int.reduceNeg, Int.reduceToNat, x6, stU, b6, Try.f6, a1, a2, a5, a6, h0, e1, e3, e4, e5, List.getElem?_map, List.length_map, Int.toNat_natCast, h1, h2, encA]
        apply ih (i + 1) _ n (by omega)
        all_goals simp only [stA, stM, stH, stQ, stE, stC, xI, xF, Nat.reduceLT, Nat.reduceEqDiff, reduceCtorEq, Nat.reduceAdd, Nat.reduceSub, Nat.reduceMul, Nat.max_def, reduceIte, Nat.reduceLeDiff, Nat.reduceBEq, Int.reduceEq, Int.reduceLE, Int.reduceLT, Int.reduceNeg, Int.reduceToNat, a1, a2, a5, a6]
      | false =>
        simp (maxSteps := 2000000) only [stA, stM, stH, stQ, stE, stC, xI, xF, Nat.reduceLT, Nat.reduceEqDiff, reduceCtorEq, Nat.reduceAdd, Nat.reduceSub, Nat.reduceMul, Nat.max_def, reduceIte, Nat.reduceLeDiff, Nat.reduceBEq, Int.reduceEq, Int.reduceLE, Int.reduceLT, Int.reduceNeg, Int.reduceToNat, x6, stU, b6, Try.f6, a1, a2, a5, a6, h0, e1, e3, e4, e5, List.getElem?_map, List.length_map, Int.toNat_natCast, h1, h2, encA]
        refine IN hw e4 h0 (n := n) ?_ base.length 0 _ 0 (by omega) ?_ ?_ ?_ ?_ ?_ ?_
        · intro t' kk b1 b2 b5 b6 b7
          cases h3 : decide ((2000 : Int) < IntKind.i64.wrap (n * bif decide (kk < 1) then 1 else kk)) with
          | true => simp (maxSteps := 2000000) only [stA, stM, stH, stQ, stE, stC, xI, xF, Nat.reduceLT, Nat.reduceEqDiff, reduceCtorEq, Nat.reduceAdd, Nat.reduceSub, Nat.reduceMul, Nat.max_def, reduceIte, Nat.reduceLeDiff, Nat.reduceBEq, Int.reduceEq, Int.reduceLE, Int.reduceLT, Int.reduceNeg, Int.reduceToNat, x6, stU, b6, Try.f6, b1, b2, b5, b6, b7, h3, RetB_ff]
          | false =>
            simp (maxSteps := 2000000) only [stA, stM, stH, stQ, stE, stC, xI, xF, Nat.reduceLT, Nat.reduceEqDiff, reduceCtorEq, Nat.reduceAdd, Nat.reduceSub, Nat.reduceMul, Nat.max_def, reduceIte, Nat.reduceLeDiff, Nat.reduceBEq, Int.reduceEq, Int.reduceLE, Int.reduceLT, Int.reduceNeg, Int.reduceToNat, x6, stU, b6, Try.f6, b1, b2, b5, b6, b7, h3, e5]
            apply ih (i + 1) _ (IntKind.i64.wrap (n * bif decide (kk < 1) then 1 else kk)) (by omega)
            all_goals simp only [stA, stM, stH, stQ, stE, stC, xI, xF, Nat.reduceLT, Nat.reduceEqDiff, reduceCtorEq, Nat.reduceAdd, Nat.reduceSub, Nat.reduceMul, Nat.max_def, reduceIte, Nat.reduceLeDiff, Nat.reduceBEq, Int.reduceEq, Int.reduceLE, Int.reduceLT, Int.reduceNeg, Int.reduceToNat, b1, b2, b5, b6, b7]
        all_goals first | (simp only [stA, stM, stH, stQ, stE, stC, xI, xF, Nat.reduceLT, Nat.reduceEqDiff, reduceCtorEq, Nat.reduceAdd, Nat.reduceSub, Nat.reduceMul, Nat.max_def, reduceIte, Nat.reduceLeDiff, Nat.reduceBEq, Int.reduceEq, Int.reduceLE, Int.reduceLT, Int.reduceNeg, Int.reduceToNat, a1, a2, a5, a6]; done) | (simp only [stA, stM, stH, stQ, stE, stC, xI, xF, Nat.reduceLT, Nat.reduceEqDiff, reduceCtorEq, Nat.reduceAdd, Nat.reduceSub, Nat.reduceMul, Nat.max_def, reduceIte, Nat.reduceLeDiff, Nat.reduceBEq, Int.reduceEq, Int.reduceLE, Int.reduceLT, Int.reduceNeg, Int.reduceToNat, a1, a2, a5, a6]; rfl)
theorem eq6 {m : Md} {x : Ru} {base : List Rl} (hx : WdX x) (hw : WdB base) : ∃ b : Bool, iso tab fi6 m [encX x, .lst .no (base.map encL)] = some (.lit (.bool b)) ∧ (b = true → Lgt x base) := by
  suffices h : RetB (bodyF (evw tab) tab fi6 m [encX x, .lst .no (base.map encL)] .lf 0) (Lgt x base) by
    obtain ⟨b, h1, h2⟩ := h
    exact ⟨b, iso_ret h1, h2⟩
  obtain ⟨b, h1, h2⟩ := @eq18 ⟨true, true, m.gl⟩ x hx
  have hC : ∀ (H : Tr AO) (hs : Nat), callF tab (evw tab) ⟨true, true, m.gl⟩ 18 [encX x] H hs = some (.lit (.bool b), H, hs) := fun H hs => callF_iso tcon rfl rfl (by simp only [stA, stM, stH, stQ, stE, stC, xI, xF, Nat.reduceLT, Nat.reduceEqDiff, reduceCtorEq, Nat.reduceAdd, Nat.reduceSub, Nat.reduceMul, Nat.max_def, reduceIte, Nat.reduceLeDiff, Nat.reduceBEq, Int.reduceEq, Int.reduceLE, Int.reduceLT, Int.reduceNeg, Int.reduceToNat, dBN]) (by have := h1; simp only [stA, stM, stH, stQ, stE, stC, xI, xF, Nat.reduceLT, Nat.reduceEqDiff, reduceCtorEq, Nat.reduceAdd, Nat.reduceSub, Nat.reduceMul, Nat.max_def, reduceIte, Nat.reduceLeDiff, Nat.reduceBEq, Int.reduceEq, Int.reduceLE, Int.reduceLT, Int.reduceNeg, Int.reduceToNat, dBN] at this ⊢; exact this)
  simp only [encX] at hC
  cases b with
  | false => simp (maxSteps := 2000000) only [stA, stM, stH, stQ, stE, stC, xI, xF, Nat.reduceLT, Nat.reduceEqDiff, reduceCtorEq, Nat.reduceAdd, Nat.reduceSub, Nat.reduceMul, Nat.max_def, reduceIte, Nat.reduceLeDiff, Nat.reduceBEq, Int.reduceEq, Int.reduceLE, Int.reduceLT, Int.reduceNeg, Int.reduceToNat, x6, stU, b6, Try.f6, encX, hC, List.length_map, RetB_ff]
  | true =>
    have hf := h2 rfl
    cases h3 : decide ((12 : Int) < base.length) with
    | true => simp (maxSteps := 2000000) only [stA, stM, stH, stQ, stE, stC, xI, xF, Nat.reduceLT, Nat.reduceEqDiff, reduceCtorEq, Nat.reduceAdd, Nat.reduceSub, Nat.reduceMul, Nat.max_def, reduceIte, Nat.reduceLeDiff, Nat.reduceBEq, Int.reduceEq, Int.reduceLE, Int.reduceLT, Int.reduceNeg, Int.reduceToNat, x6, stU, b6, Try.f6, encX, hC, h3, List.length_map, RetB_ff]
    | false =>
      have q3 := h3
      rw [decide_eq_false_iff_not] at q3
      have q4 : base.length ≤ 12 := by omega
      have LA := fun t H hs h0 n => @loop6a x base H hs m.gl hf hw q4 h0 (Lgt x base) (fun h => ⟨hf, q4, h⟩) x.b.length 0 t n (by simp)
      simp only [stU, stC, b6, Try.f6] at LA
      simp (maxSteps := 2000000) only [stA, stM, stH, stQ, stE, stC, xI, xF, Nat.reduceLT, Nat.reduceEqDiff, reduceCtorEq, Nat.reduceAdd, Nat.reduceSub, Nat.reduceMul, Nat.max_def, reduceIte, Nat.reduceLeDiff, Nat.reduceBEq, Int.reduceEq, Int.reduceLE, Int.reduceLT, Int.reduceNeg, Int.reduceToNat, x6, stU, b6, Try.f6, encX, hC, h3, List.length_map]
      apply LA _ _ _ _ 1
      all_goals first | (simp only [stA, stM, stH, stQ, stE, stC, xI, xF, Nat.reduceLT, Nat.reduceEqDiff, reduceCtorEq, Nat.reduceAdd, Nat.reduceSub, Nat.reduceMul, Nat.max_def, reduceIte, Nat.reduceLeDiff, Nat.reduceBEq, Int.reduceEq, Int.reduceLE, Int.reduceLT, Int.reduceNeg, Int.reduceToNat]; done) | (simp only [stA, stM, stH, stQ, stE, stC, xI, xF, Nat.reduceLT, Nat.reduceEqDiff, reduceCtorEq, Nat.reduceAdd, Nat.reduceSub, Nat.reduceMul, Nat.max_def, reduceIte, Nat.reduceLeDiff, Nat.reduceBEq, Int.reduceEq, Int.reduceLE, Int.reduceLT, Int.reduceNeg, Int.reduceToNat]; rfl)

/-! ### Relations, one by one -/
theorem app9 {H : Tr AO} {hs : Nat} {A : AV} {es : List Rl} (r : Rl) (h : Acc H hs 2 A (es.map encL)) (hl : es.length ≤ 12) : appendO H hs true true 2 40 (some A) (some (.lst .full [.agg [.str r.n, .lst .no (r.l.map encE)]])) = some (.lst (.room hs) ((es ++ [r]).map encL), accH H hs 2 A, hs + 1) := accApp r h rfl (by omega)
theorem loop9 {base : List Rl} {gl : Tr (Option AV)} (hl : base.length ≤ 12) : ∀ (k i : Nat) (t : Tr AV) (H : Tr AO) (hs : Nat) (A : AV) (es : List Rl), i + k = base.length → es = base.take i → Acc H hs 2 A (es.map encL) →
    t.get .any 0 = .lst .no (base.map encL) → t.get .any 3 = A → t.get .any 4 = .lit (.int .i64 i) →
    RetN (W tab none (fin tab fi9) (lpc fi9 0) (lpk fi9 0) ⟨t, 26, H, hs, [], ⟨true, true, gl⟩⟩) (.lst .no (base.map encL)) := by
  have D := d9
  simp only [stD, stC, List.cons.injEq, b9, Try.f9] at D
  simp only [stU, stC, b9, Try.f9]
  intro k
  induction k with
  | zero =>
    intro i t H hs A es hi he hA a0 a3 a4
    have e1 : decide ((i : Int) < (base).length) = false := by rw [decide_eq_false_iff_not]; omega
    rw [List.take_of_length_le (by omega)] at he
    subst he
    rw [W_loop]
    simp only [stA, stM, stH, stQ, stE, stC, xI, xF, Nat.reduceLT, Nat.reduceEqDiff, reduceCtorEq, Nat.reduceAdd, Nat.reduceSub, Nat.reduceMul, Nat.max_def, reduceIte, Nat.reduceLeDiff, Nat.reduceBEq, Int.reduceEq, Int.reduceLE, Int.reduceLT, Int.reduceNeg, Int.reduceToNat, x9, stU, b9, Try.f9, a0, a3, a4, e1, List.length_map, accBare bare_L hA, accNrm nrm_L hA]
  | succ k ih =>
    intro i t H hs A es hi he hA a0 a3 a4
    have hlt : i < (base).length := by omega
    have e1 : decide ((i : Int) < (base).length) = true := by rw [decide_eq_true_iff]; omega
    have e3 : decide (0 ≤ (i : Int)) = true := by rw [decide_eq_true_iff]; omega
    have e4 : (base)[i]? = some (base)[i] := List.getElem?_eq_getElem _
    have e6 : (base).drop i = (base)[i] :: (base).drop (i + 1) := List.drop_eq_getElem_cons hlt
    have e7 : (base).take (i + 1) = (base).take i ++ [(base)[i]] := List.take_succ_eq_append_getElem hlt
    generalize hv : (base)[i] = r at e4 e6 e7
    have e5 := wrap_succ (i := i) (by omega)
    have hP := @app9 H hs A es r hA (by rw [he, List.length_take]; omega)
    rw [W_loop]
    simp (maxSteps := 2000000) only [stM, stH, stQ, stE, stC, xI, xF, Nat.reduceLT, Nat.reduceEqDiff, reduceCtorEq, Nat.reduceAdd, Nat.reduceSub, Nat.reduceMul, Nat.max_def, reduceIte, Nat.reduceLeDiff, Nat.reduceBEq, Int.reduceEq, Int.reduceLE, Int.reduceLT, Int.reduceNeg, Int.reduceToNat, x9, stU, b9, Try.f9, encL, a0, a3, a4, e1, e3, e4, e5, List.getElem?_map, List.length_map, Int.toNat_natCast, hP, D]
    apply ih (i + 1) _ _ _ _ (es ++ [r]) (by omega) (by rw [e7, he]) accN
    all_goals simp only [stA, stM, stH, stQ, stE, stC, xI, xF, Nat.reduceLT, Nat.reduceEqDiff, reduceCtorEq, Nat.reduceAdd, Nat.reduceSub, Nat.reduceMul, Nat.max_def, reduceIte, Nat.reduceLeDiff, Nat.reduceBEq, Int.reduceEq, Int.reduceLE, Int.reduceLT, Int.reduceNeg, Int.reduceToNat, a0]
theorem eq9 {m : Md} {base : List Rl} (hl : base.length ≤ 12) : iso tab fi9 m [.lst .no (base.map encL)] = some (.lst .no (base.map encL)) := by
  refine iso_ret ?_
  have L := @loop9 base m.gl hl base.length 0
  simp only [stU, stC, b9, Try.f9] at L
  simp only [stA, stM, stH, stQ, stE, stC, xI, xF, Nat.reduceLT, Nat.reduceEqDiff, reduceCtorEq, Nat.reduceAdd, Nat.reduceSub, Nat.reduceMul, Nat.max_def, reduceIte, Nat.reduceLeDiff, Nat.reduceBEq, Int.reduceEq, Int.reduceLE, Int.reduceLT, Int.reduceNeg, Int.reduceToNat, x9, stU, b9, Try.f9]
  have := fun t H hs A => L t H hs A [] (by simp) (by simp)
  apply this
  · exact .nil
  all_goals first | (simp only [stA, stM, stH, stQ, stE, stC, xI, xF, Nat.reduceLT, Nat.reduceEqDiff, reduceCtorEq, Nat.reduceAdd, Nat.reduceSub, Nat.reduceMul, Nat.max_def, reduceIte, Nat.reduceLeDiff, Nat.reduceBEq, Int.reduceEq, Int.reduceLE, Int.reduceLT, Int.reduceNeg, Int.reduceToNat]; done) | (simp only [stA, stM, stH, stQ, stE, stC, xI, xF, Nat.reduceLT, Nat.reduceEqDiff, reduceCtorEq, Nat.reduceAdd, Nat.reduceSub, Nat.reduceMul, Nat.max_def, reduceIte, Nat.reduceLeDiff, Nat.reduceBEq, Int.reduceEq, Int.reduceLE, Int.reduceLT, Int.reduceNeg, Int.reduceToNat]; rfl)
theorem call9 {m : Md} {k1 : ATk} {base : List Rl} {H : Tr AO} {hs : Nat} (hl : base.length ≤ 12) : callF tab (evw tab) m 9 [.lst k1 (base.map encL)] H hs = some (.lst .no (base.map encL), H, hs) :=
  callF_iso tcon rfl rfl (by simp only [stA, stM, stH, stQ, stE, stC, xI, xF, Nat.reduceLT, Nat.reduceEqDiff, reduceCtorEq, Nat.reduceAdd, Nat.reduceSub, Nat.reduceMul, Nat.max_def, reduceIte, Nat.reduceLeDiff, Nat.reduceBEq, Int.reduceEq, Int.reduceLE, Int.reduceLT, Int.reduceNeg, Int.reduceToNat, dBN]) (by have := @eq9 m base hl; simp only [stA, stM, stH, stQ, stE, stC, xI, xF, Nat.reduceLT, Nat.reduceEqDiff, reduceCtorEq, Nat.reduceAdd, Nat.reduceSub, Nat.reduceMul, Nat.max_def, reduceIte, Nat.reduceLeDiff, Nat.reduceBEq, Int.reduceEq, Int.reduceLE, Int.reduceLT, Int.reduceNeg, Int.reduceToNat, dBN] at this ⊢; exact this)
end Go.Proofs.Ytpehpccahbofiaa.Ev

set_option maxRecDepth 100000
set_option maxHeartbeats 4000000
namespace Go.Proofs.Ytpehpccahbofiaa.Ev
open Go Go.Proofs.Ytpehpccahbofiaa.Ev Go.Proofs Go.Proofs.Ytpehpccahbofiaa Go.Proofs.Ytpehpccahbofiaa.Tab

/-! ### A law's arguments -/
theorem TyS.split1 {T : Tab} {fs : List Field} {as' : List AV} {t : Nat} {ts : List Nat} (hf : fs.map (fun f => f.type) = t :: ts) (h : TyS T fs as') : ∃ a b fs', as' = a ++ b ∧ Ty T t a ∧ TyS T fs' b ∧ fs'.map (fun f => f.type) = ts := by
  cases fs with
  | nil => cases hf
  | cons f fs =>
    simp only [List.map_cons, List.cons.injEq] at hf
    obtain ⟨rfl, rfl⟩ := hf
    obtain ⟨a, b, e, h1, h2⟩ := h.of_cons
    exact ⟨a, b, fs, e, h1, h2, rfl⟩
theorem TyS.split0 {T : Tab} {fs : List Field} {as' : List AV} (hf : fs.map (fun f => f.type) = []) (h : TyS T fs as') : as' = [] := by
  cases fs with
  | nil => exact h.of_nil
  | cons f fs => cases hf
theorem es_map {α : Type} {enc : α → AV} {P : α → Prop} : ∀ {es : List AV}, (∀ x ∈ es, ∃ a, x = enc a ∧ P a) → ∃ l : List α, es = l.map enc ∧ ∀ a ∈ l, P a
  | [], _ => ⟨[], rfl, by simp⟩
  | x :: es, h => by
    obtain ⟨a, rfl, ha⟩ := h x (by simp)
    obtain ⟨l, rfl, hl⟩ := es_map (enc := enc) (P := P) (es := es) fun y hy => h y (List.mem_cons_of_mem _ hy)
    exact ⟨a :: l, rfl, fun b hb => by rcases List.mem_cons.1 hb with rfl | hb; exact ha; exact hl b hb⟩
theorem k3 : ∃ i, tab.t 3 = some i ∧ i.desc = .int .i64 := ⟨_, rfl, rfl⟩
theorem k2 : ∃ i, tab.t 2 = some i ∧ i.desc = .int .i64 := ⟨_, rfl, rfl⟩
theorem k4 : ∃ i, tab.t 4 = some i ∧ i.desc = .bool := ⟨_, rfl, rfl⟩
theorem k9 : ∃ i, tab.t 9 = some i ∧ i.desc = .string := ⟨_, rfl, rfl⟩
theorem k56 : ∃ i fs, tab.t 56 = some i ∧ i.desc = .struct fs ∧ fs.toList.map (fun f => f.type) = [3, 4, 2, 9] ∧ aggT tab 56 = true := ⟨_, _, rfl, rfl, rfl, rfl⟩
theorem k83 : ∃ i fs, tab.t 83 = some i ∧ i.desc = .struct fs ∧ fs.toList.map (fun f => f.type) = [9, 4, 56] ∧ aggT tab 83 = true := ⟨_, _, rfl, rfl, rfl, rfl⟩
theorem k47 : ∃ i fs, tab.t 47 = some i ∧ i.desc = .struct fs ∧ fs.toList.map (fun f => f.type) = [4, 9, 45, 3] ∧ aggT tab 47 = true := ⟨_, _, rfl, rfl, rfl, rfl⟩
theorem k25 : ∃ i fs, tab.t 25 = some i ∧ i.desc = .struct fs ∧ fs.toList.map (fun f => f.type) = [3, 9, 22, 3, 9, 2, 23] := ⟨_, _, rfl, rfl, rfl⟩
theorem k52 : ∃ i fs, tab.t 52 = some i ∧ i.desc = .struct fs ∧ fs.toList.map (fun f => f.type) = [26, 2] ∧ aggT tab 52 = true := ⟨_, _, rfl, rfl, rfl, rfl⟩
theorem k50 : ∃ i fs, tab.t 50 = some i ∧ i.desc = .struct fs ∧ fs.toList.map (fun f => f.type) = [9, 48] ∧ aggT tab 50 = true := ⟨_, _, rfl, rfl, rfl, rfl⟩
theorem k26 : ∃ i, tab.t 26 = some i ∧ i.desc = .slice 56 ∧ aggT tab 26 = false := ⟨_, rfl, rfl, rfl⟩
theorem k45 : ∃ i, tab.t 45 = some i ∧ i.desc = .slice 83 := ⟨_, rfl, rfl⟩
theorem k23 : ∃ i, tab.t 23 = some i ∧ i.desc = .slice 47 := ⟨_, rfl, rfl⟩
theorem k22 : ∃ i, tab.t 22 = some i ∧ i.desc = .slice 9 := ⟨_, rfl, rfl⟩
theorem k48 : ∃ i, tab.t 48 = some i ∧ i.desc = .slice 52 := ⟨_, rfl, rfl⟩
theorem k27 : ∃ i, tab.t 27 = some i ∧ i.desc = .slice 50 := ⟨_, rfl, rfl⟩
theorem k30 : ∃ i, tab.t 30 = some i ∧ i.desc = .slice 26 := ⟨_, rfl, rfl⟩
theorem a9 : aggT tab 9 = false := rfl

theorem tyI {cs : List AV} (h : Ty tab 3 cs) : ∃ n, cs = [.lit (.int .i64 n)] := by
  obtain ⟨i, h1, h2⟩ := k3
  obtain ⟨n, e, _⟩ := h.of_int h1 h2
  exact ⟨n, e⟩
theorem tyJ {cs : List AV} (h : Ty tab 2 cs) : ∃ n, cs = [.lit (.int .i64 n)] := by
  obtain ⟨i, h1, h2⟩ := k2
  obtain ⟨n, e, _⟩ := h.of_int h1 h2
  exact ⟨n, e⟩
theorem tyB {cs : List AV} (h : Ty tab 4 cs) : ∃ n, cs = [.lit (.bool n)] := by
  obtain ⟨i, h1, h2⟩ := k4
  exact h.of_bool h1 h2
theorem tyS {cs : List AV} (h : Ty tab 9 cs) : ∃ l, cs = [.str l] ∧ l.length ≤ 9223372036854775807 := by
  obtain ⟨i, h1, h2⟩ := k9
  exact h.of_str h1 h2
theorem tyV {cs : List AV} (h : Ty tab 56 cs) : ∃ v : Vl, cs = v.cs ∧ OkV v := by
  obtain ⟨i, fs, h1, h2, h3, _⟩ := k56
  have hs := h.of_struct h1 h2
  obtain ⟨a, b, f2, rfl, t1, s1, e1⟩ := hs.split1 h3
  obtain ⟨c, d, f3, rfl, t2, s2, e2⟩ := s1.split1 e1
  obtain ⟨e, f, f4, rfl, t3, s3, e3⟩ := s2.split1 e2
  obtain ⟨g, k, f5, rfl, t4, s4, e4⟩ := s3.split1 e3
  have := s4.split0 e4
  subst this
  obtain ⟨n, rfl⟩ := tyI t1
  obtain ⟨p, rfl⟩ := tyB t2
  obtain ⟨m, rfl⟩ := tyJ t3
  obtain ⟨l, rfl, hl⟩ := tyS t4
  exact ⟨⟨n, p, m, l⟩, rfl, hl⟩
/-- A slice of structs. -/
theorem ty_slc {α : Type} {enc : α → AV} {P : α → Prop} {t e : Nat} {cs : List AV} (hk : ∃ i, tab.t t = some i ∧ i.desc = .slice e) (he : ∃ i, tab.t e = some i) (hA : aggT tab e = true) (hE : ∀ cs, Ty tab e cs → ∃ a : α, AV.agg cs = enc a ∧ P a) (h : Ty tab t cs) : ∃ l : List α, cs = [.lst .no (l.map enc)] ∧ l.length ≤ 9223372036854775807 ∧ ∀ a ∈ l, P a := by
  obtain ⟨i, h1, h2⟩ := hk
  obtain ⟨j, h3⟩ := he
  obtain ⟨es, rfl, hl, q1, q2⟩ := h.of_slc h1 h2 h3
  obtain ⟨l, rfl, hp⟩ := es_map (enc := enc) (P := P) (es := es) fun x hx => by
    obtain ⟨c, rfl⟩ := (q2 x hx).1 hA
    exact hE c (q1 _ hx)
  exact ⟨l, rfl, by rw [List.length_map] at hl; exact hl, hp⟩
theorem ty_slc1 {α : Type} {enc : α → AV} {P : α → Prop} {t e : Nat} {cs : List AV} (hk : ∃ i, tab.t t = some i ∧ i.desc = .slice e) (he : ∃ i, tab.t e = some i) (hA : aggT tab e = false) (hE : ∀ x, Ty tab e [x] → ∃ a : α, x = enc a ∧ P a) (h : Ty tab t cs) : ∃ l : List α, cs = [.lst .no (l.map enc)] ∧ l.length ≤ 9223372036854775807 ∧ ∀ a ∈ l, P a := by
  obtain ⟨i, h1, h2⟩ := hk
  obtain ⟨j, h3⟩ := he
  obtain ⟨es, rfl, hl, q1, q2⟩ := h.of_slc h1 h2 h3
  obtain ⟨l, rfl, hp⟩ := es_map (enc := enc) (P := P) (es := es) fun x hx => by
    have := (q2 x hx).2 hA
    have h4 := q1 x hx
    rw [this] at h4
    exact hE x h4
  exact ⟨l, rfl, by rw [List.length_map] at hl; exact hl, hp⟩
abbrev OkR (r : Row) : Prop := r.length ≤ 9223372036854775807 ∧ ∀ v ∈ r, OkV v
theorem tyR {cs : List AV} (h : Ty tab 26 cs) : ∃ r : Row, cs = [encR r] ∧ OkR r := by
  obtain ⟨i, h1, h2, _⟩ := k26
  obtain ⟨j, _, h3, _, _, hA⟩ := k56
  obtain ⟨l, rfl, hl, hp⟩ := ty_slc (enc := encV) (P := OkV) ⟨i, h1, h2⟩ ⟨j, h3⟩ hA (fun cs h => by obtain ⟨v, rfl, hv⟩ := tyV h; exact ⟨v, rfl, hv⟩) h
  exact ⟨l, rfl, hl, hp⟩
theorem tyE {cs : List AV} (h : Ty tab 52 cs) : ∃ e : En, AV.agg cs = encE e ∧ (e.r.length ≤ 9223372036854775807 ∧ ∀ v ∈ e.r, OkV v) := by
  obtain ⟨i, fs, h1, h2, h3, _⟩ := k52
  have hs := h.of_struct h1 h2
  obtain ⟨a, b, f2, rfl, t1, s1, e1⟩ := hs.split1 h3
  obtain ⟨c, d, f3, rfl, t2, s2, e2⟩ := s1.split1 e1
  have := s2.split0 e2
  subst this
  obtain ⟨r, rfl, hr⟩ := tyR t1
  obtain ⟨n, rfl⟩ := tyJ t2
  exact ⟨⟨r, n⟩, rfl, hr⟩
theorem tyL {cs : List AV} (h : Ty tab 50 cs) : ∃ r : Rl, AV.agg cs = encL r ∧ (r.l.length ≤ 9223372036854775807 ∧ ∀ e ∈ r.l, e.r.length ≤ 9223372036854775807 ∧ ∀ v ∈ e.r, OkV v) := by
  obtain ⟨i, fs, h1, h2, h3, _⟩ := k50
  have hs := h.of_struct h1 h2
  obtain ⟨a, b, f2, rfl, t1, s1, e1⟩ := hs.split1 h3
  obtain ⟨c, d, f3, rfl, t2, s2, e2⟩ := s1.split1 e1
  have := s2.split0 e2
  subst this
  obtain ⟨n, rfl, _⟩ := tyS t1
  obtain ⟨j, _, h4, _, _, hA⟩ := k52
  obtain ⟨l, rfl, hl, hp⟩ := ty_slc (enc := encE) (P := fun e => e.r.length ≤ 9223372036854775807 ∧ ∀ v ∈ e.r, OkV v) k48 ⟨j, h4⟩ hA (fun cs h => tyE h) t2
  exact ⟨⟨n, l⟩, rfl, hl, hp⟩
theorem tyT {cs : List AV} (h : Ty tab 83 cs) : ∃ t : Tm, AV.agg cs = encT t ∧ OkV t.v := by
  obtain ⟨i, fs, h1, h2, h3, _⟩ := k83
  have hs := h.of_struct h1 h2
  obtain ⟨a, b, f2, rfl, t1, s1, e1⟩ := hs.split1 h3
  obtain ⟨c, d, f3, rfl, t2, s2, e2⟩ := s1.split1 e1
  obtain ⟨e, f, f4, rfl, t3, s3, e3⟩ := s2.split1 e2
  have := s3.split0 e3
  subst this
  obtain ⟨n, rfl, _⟩ := tyS t1
  obtain ⟨p, rfl⟩ := tyB t2
  obtain ⟨v, rfl, hv⟩ := tyV t3
  exact ⟨⟨n, p, v⟩, rfl, hv⟩
theorem tyA {cs : List AV} (h : Ty tab 47 cs) : ∃ a : Lt, AV.agg cs = encA a ∧ (a.l.length ≤ 9223372036854775807 ∧ ∀ t ∈ a.l, OkV t.v) := by
  obtain ⟨i, fs, h1, h2, h3, _⟩ := k47
  have hs := h.of_struct h1 h2
  obtain ⟨a, b, f2, rfl, t1, s1, e1⟩ := hs.split1 h3
  obtain ⟨c, d, f3, rfl, t2, s2, e2⟩ := s1.split1 e1
  obtain ⟨e, f, f4, rfl, t3, s3, e3⟩ := s2.split1 e2
  obtain ⟨g, k, f5, rfl, t4, s4, e4⟩ := s3.split1 e3
  have := s4.split0 e4
  subst this
  obtain ⟨p, rfl⟩ := tyB t1
  obtain ⟨n, rfl, _⟩ := tyS t2
  obtain ⟨o, rfl⟩ := tyI t4
  obtain ⟨j, _, h4, _, _, hA⟩ := k83
  obtain ⟨l, rfl, hl, hp⟩ := ty_slc (enc := encT) (P := fun t => OkV t.v) k45 ⟨j, h4⟩ hA (fun cs h => tyT h) t3
  exact ⟨⟨p, n, l, o⟩, rfl, hl, hp⟩
theorem tyX {cs : List AV} (h : Ty tab 25 cs) : ∃ x : Ru, AV.agg cs = encX x ∧ WdX x := by
  obtain ⟨i, fs, h1, h2, h3⟩ := k25
  have hs := h.of_struct h1 h2
  obtain ⟨a, b, f2, rfl, t1, s1, e1⟩ := hs.split1 h3
  obtain ⟨c, d, f3, rfl, t2, s2, e2⟩ := s1.split1 e1
  obtain ⟨e, f, f4, rfl, t3, s3, e3⟩ := s2.split1 e2
  obtain ⟨g, k, f5, rfl, t4, s4, e4⟩ := s3.split1 e3
  obtain ⟨g2, k2, f6, rfl, t5, s5, e5⟩ := s4.split1 e4
  obtain ⟨g3, k3, f7, rfl, t6, s6, e6⟩ := s5.split1 e5
  obtain ⟨g4, k4, f8, rfl, t7, s7, e7⟩ := s6.split1 e6
  have := s7.split0 e7
  subst this
  obtain ⟨n1, rfl⟩ := tyI t1
  obtain ⟨l1, rfl, _⟩ := tyS t2
  obtain ⟨n2, rfl⟩ := tyI t4
  obtain ⟨l2, rfl, _⟩ := tyS t5
  obtain ⟨n3, rfl⟩ := tyJ t6
  obtain ⟨j, q4, _⟩ := k9
  obtain ⟨hd, rfl, hh, _⟩ := ty_slc1 (enc := AV.str) (P := fun _ => True) k22 ⟨j, q4⟩ a9 (fun x h => by obtain ⟨l, e, _⟩ := tyS h; cases e; exact ⟨l, rfl, trivial⟩) t3
  obtain ⟨j2, _, q5, _, _, hA⟩ := k47
  obtain ⟨bd, rfl, hl, hp⟩ := ty_slc (enc := encA) (P := fun a => a.l.length ≤ 9223372036854775807 ∧ ∀ t ∈ a.l, OkV t.v) k23 ⟨j2, q5⟩ hA (fun cs h => tyA h) t7
  exact ⟨⟨n1, l1, hd, n2, l2, n3, bd⟩, rfl, hh, hl, hp⟩
theorem argX {a : AV} (h : ArgT tab 25 a) : ∃ x : Ru, a = encX x ∧ WdX x := by
  obtain ⟨i, fs, h1, h2, _⟩ := k25
  cases h with
  | agg i2 fs2 cs g1 g2 g3 => exact tyX g3
  | one _ _ hs => exact (hs _ _ h1 h2).elim
  | any g =>
    rcases g with g | ⟨i2, g, g2⟩ <;> (rw [h1] at g; cases g)
    rw [h2] at g2; cases g2
theorem argBase {a : AV} (h : ArgT tab 27 a) : ∃ base : List Rl, a = .lst .no (base.map encL) ∧ WdB base := by
  obtain ⟨i, h1, h2⟩ := k27
  obtain ⟨j, _, h3, _, _, hA⟩ := k50
  cases h with
  | agg i2 fs2 cs g1 g2 g3 => rw [h1] at g1; cases g1; rw [h2] at g2; cases g2
  | one _ hc _ =>
    obtain ⟨l, e, hl, hp⟩ := ty_slc (enc := encL) (P := fun r => r.l.length ≤ 9223372036854775807 ∧ ∀ e ∈ r.l, e.r.length ≤ 9223372036854775807 ∧ ∀ v ∈ e.r, OkV v) ⟨i, h1, h2⟩ ⟨j, h3⟩ hA (fun cs h => tyL h) hc
    cases e
    exact ⟨l, rfl, hl, hp⟩
  | any g =>
    rcases g with g | ⟨i2, g, g2⟩ <;> (rw [h1] at g; cases g)
    rw [h2] at g2; cases g2
theorem argRow {a : AV} (h : ArgT tab 26 a) : ∃ r : Row, a = encR r ∧ OkR r := by
  obtain ⟨i, h1, h2, _⟩ := k26
  cases h with
  | agg i2 fs2 cs g1 g2 g3 => rw [h1] at g1; cases g1; rw [h2] at g2; cases g2
  | one _ hc _ => obtain ⟨r, e, hr⟩ := tyR hc; cases e; exact ⟨r, rfl, hr⟩
  | any g =>
    rcases g with g | ⟨i2, g, g2⟩ <;> (rw [h1] at g; cases g)
    rw [h2] at g2; cases g2
theorem argRows {a : AV} (h : ArgT tab 30 a) : ∃ R : List Row, a = .lst .no (R.map encR) ∧ R.length ≤ 9223372036854775807 ∧ ∀ r ∈ R, OkR r := by
  obtain ⟨i, h1, h2⟩ := k30
  obtain ⟨j, h3, _, hA⟩ := k26
  cases h with
  | agg i2 fs2 cs g1 g2 g3 => rw [h1] at g1; cases g1; rw [h2] at g2; cases g2
  | one _ hc _ =>
    obtain ⟨l, e, hl, hp⟩ := ty_slc1 (enc := encR) (P := OkR) ⟨i, h1, h2⟩ ⟨j, h3⟩ hA (fun x h => by obtain ⟨r, e, hr⟩ := tyR h; cases e; exact ⟨r, rfl, hr⟩) hc
    cases e
    exact ⟨l, rfl, hl, hp⟩
  | any g =>
    rcases g with g | ⟨i2, g, g2⟩ <;> (rw [h1] at g; cases g)
    rw [h2] at g2; cases g2
end Go.Proofs.Ytpehpccahbofiaa.Ev

set_option maxRecDepth 100000
namespace Go.Proofs.Ytpehpccahbofiaa.Ev
open Go Go.Proofs.Ytpehpccahbofiaa.Ev Go.Proofs Go.Proofs.Ytpehpccahbofiaa Go.Proofs.Ytpehpccahbofiaa.Tab
theorem kn7 : isoF (ev tab 1000) tab fi7 ⟨true, true, .lf⟩ [] = some (.lit (.bool true)) := by kernel_rfl
end Go.Proofs.Ytpehpccahbofiaa.Ev

set_option maxRecDepth 100000
set_option maxHeartbeats 4000000
namespace Go.Proofs.Ytpehpccahbofiaa.Ev
open Go Go.Proofs.Ytpehpccahbofiaa.Ev Go.Proofs Go.Proofs.Ytpehpccahbofiaa Go.Proofs.Ytpehpccahbofiaa.Tab

theorem call7 {H : Tr AO} {hs : Nat} : callF tab (evw tab) ⟨true, true, .lf⟩ 7 [] H hs = some (.lit (.bool true), H, hs) := by
  refine callF_iso tcon rfl rfl rfl ?_
  exact (good_isoF fi7 ⟨true, true, .lf⟩ []).1 _ _ _ (fun ro c s r h => evw_of (ev_mono tab) h) kn7
theorem tot_le : ∀ {l : List Lt}, (∀ a ∈ l, a.l.length ≤ 100) → tot l ≤ l.length * 100
  | [], _ => by simp [tot]
  | a :: l, h => by
    have h1 := h a (by simp)
    have h2 := tot_le (l := l) fun b hb => h b (by simp [hb])
    rw [tot_cons, List.length_cons]; omega
theorem ofL_mem {base : List Rl} {n : List UInt8} (h : ofL base n ≠ []) : ∃ r ∈ base, ofL base n = r.l := by
  unfold ofL at h ⊢
  cases hf : base.find? (fun r => r.n == n) with
  | none => rw [hf] at h; exact absurd rfl h
  | some r => exact ⟨r, List.mem_of_find?_eq_some hf, rfl⟩
theorem hyOf {x : Ru} {base : List Rl} (hb : WdB base) (h : Lgt x base) : Hy x base := by
  have h1 := h.x.b
  have h2 := h.x.h
  have h3 := h.b
  have h4 : (ats x.b).length ≤ x.b.length := List.length_filter_le _ _
  have h5 := tot_le (l := ats x.b) fun a ha => h.x.a a (List.mem_filter.1 ha).1
  refine ⟨by omega, by omega, by omega, fun a ha => by have := h.x.a a ha; omega, by omega, fun n => ?_, fun n e he => ?_⟩
  · by_cases hn : ofL base n = []
    · rw [hn]; decide
    · obtain ⟨r, hr, e⟩ := ofL_mem hn
      rw [e]; have := (h.r r hr).1; omega
  · obtain ⟨r, hr, e2⟩ := ofL_mem (base := base) (n := n) (by intro h0; rw [h0] at he; cases he)
    rw [e2] at he
    have := (h.r r hr).2 e he
    exact ⟨by omega, ((hb.r r hr).2 e he).2⟩
theorem srch_ok {x : Ru} {td : Row} {base : List Rl} (hy : Hy x base) : ∀ {n : Nat} {R S : List Row}, (∀ r ∈ R, ∀ v ∈ r, OkV v) → srch x td base n R = some S → (∀ r ∈ S, ∀ v ∈ r, OkV v) ∧ holds x S base = true ∧ decide (rcmp (told x S).1 td = 0) = true ∧ S.length = R.length + n
  | 0, R, S, hv, h => by
    rw [srch] at h
    cases hc : holds x R base && decide (rcmp (told x R).1 td = 0) <;> rw [hc] at h <;> cases h
    rw [Bool.and_eq_true] at hc
    exact ⟨hv, hc.1, hc.2, rfl⟩
  | n + 1, R, S, hv, h => by
    rw [srch] at h
    split at h
    · rename_i a ha
      obtain ⟨e, he, h2⟩ := List.exists_of_findSome?_eq_some h
      obtain ⟨h3, h4, h5, h6⟩ := srch_ok hy (ofL_ok hy hv he) h2
      exact ⟨h3, h4, h5, by rw [h6, List.length_append, List.length_singleton]; omega⟩
    · cases h
theorem holds_told {x : Ru} {R : List Row} {base : List Rl} (h : holds x R base = true) : decide ((told x R).2 = 0) = true := by
  unfold holds at h
  simp only [Bool.and_eq_true] at h
  exact h.2.2.2
theorem srch_rows {x : Ru} {td : Row} {base : List Rl} (hl : ∀ n, ∀ e ∈ ofL base n, e.r.length ≤ 9223372036854775806) : ∀ {n : Nat} {R S : List Row}, (∀ r ∈ R, r.length < 9223372036854775807) → srch x td base n R = some S → ∀ r ∈ S, r.length < 9223372036854775807
  | 0, R, S, hv, h => by
    rw [srch] at h
    cases hc : holds x R base && decide (rcmp (told x R).1 td = 0) <;> rw [hc] at h <;> cases h
    exact hv
  | n + 1, R, S, hv, h => by
    rw [srch] at h
    split at h
    · rename_i a ha
      obtain ⟨e, he, h2⟩ := List.exists_of_findSome?_eq_some h
      refine srch_rows hl (fun r hr => ?_) h2
      rcases List.mem_append.1 hr with hr | hr
      · exact hv r hr
      · rw [List.mem_singleton] at hr; subst hr; have := hl _ e he; omega
    · cases h

def RetT (o : Option (AV × Tr AO × Nat)) : Prop := ∃ H hs, o = some (.lit (.bool true), H, hs)
theorem RetT_some {H : Tr AO} {hs : Nat} : RetT (some (.lit (.bool true), H, hs)) = True := eq_true ⟨_, _, rfl⟩
abbrev M0 : Md := ⟨true, true, .lf⟩
theorem call6 {x : Ru} {base : List Rl} (hx : WdX x) (hw : WdB base) : ∃ b : Bool, (∀ (H : Tr AO) (hs : Nat), callF tab (evw tab) M0 6 [encX x, .lst .no (base.map encL)] H hs = some (.lit (.bool b), H, hs)) ∧ (b = true → Lgt x base) := by
  obtain ⟨b, h1, h2⟩ := @eq6 M0 x base hx hw
  exact ⟨b, fun H hs => callF_iso tcon rfl rfl (by simp only [stA, stM, stH, stQ, stE, stC, xI, xF, Nat.reduceLT, Nat.reduceEqDiff, reduceCtorEq, Nat.reduceAdd, Nat.reduceSub, Nat.reduceMul, Nat.max_def, reduceIte, Nat.reduceLeDiff, Nat.reduceBEq, Int.reduceEq, Int.reduceLE, Int.reduceLT, Int.reduceNeg, Int.reduceToNat, dBN]) (by have := h1; simp only [stA, stM, stH, stQ, stE, stC, xI, xF, Nat.reduceLT, Nat.reduceEqDiff, reduceCtorEq, Nat.reduceAdd, Nat.reduceSub, Nat.reduceMul, Nat.max_def, reduceIte, Nat.reduceLeDiff, Nat.reduceBEq, Int.reduceEq, Int.reduceLE, Int.reduceLT, Int.reduceNeg, Int.reduceToNat, dBN] at this ⊢; exact this), h2⟩

theorem why_ok {x : Ru} {td : Row} {base : List Rl} (hy : Hy x base) : (why x td base).1.length < 9223372036854775807 ∧ (∀ r ∈ (why x td base).1, r.length < 9223372036854775807) ∧ (decide ((why x td base).2 = 0) = false → (why x td base).1 = []) ∧
    (decide ((why x td base).2 = 0) = true → (∀ r ∈ (why x td base).1, ∀ v ∈ r, OkV v) ∧ holds x (why x td base).1 base = true ∧ decide (rcmp (told x (why x td base).1).1 td = 0) = true) := by
  unfold why
  cases decide (x.a = 0) with
  | false => simp
  | true =>
    rw [cond_true]
    have hal : (ats x.b).length < 1000000 := Nat.lt_of_le_of_lt (List.length_filter_le _ _) hy.nb
    cases h : srch x td base (ats x.b).length [] with
    | none => simp
    | some S =>
      obtain ⟨h1, h2, h3, h4⟩ := srch_ok hy (by simp) h
      have h5 := srch_rows (fun n e he => by have := (hy.ne n e he).1; omega) (by simp) h
      refine ⟨by simp at h4; simp; omega, h5, by simp, fun _ => ⟨h1, h2, h3⟩⟩

/-! ### ExplainTells -/
theorem walk3 : WalkT Try.prog tab 3 [25, 26, 27] := by
  intro args h
  obtain ⟨a, l, rfl, h1, h⟩ := h.inv
  obtain ⟨b, l, rfl, h2, h⟩ := h.inv
  obtain ⟨c, l, rfl, h3, h⟩ := h.inv
  obtain rfl := h.inv_nil
  obtain ⟨x, rfl, hx⟩ := argX h1
  obtain ⟨td, rfl, hd⟩ := argRow h2
  obtain ⟨base, rfl, hb⟩ := argBase h3
  have D := d3
  simp only [stD, stC, List.cons.injEq, b3, Try.f3] at D
  rw [callF_in (fi := fi3) tcon rfl rfl rfl]
  show RetT _
  obtain ⟨y, c6, hy6⟩ := call6 hx hb
  have c7 := fun H hs => @call7 H hs
  simp only [encX, M0] at c6
  cases y with
  | false => simp (maxSteps := 2000000) only [stA, stM, stH, stQ, stE, stC, xI, xF, Nat.reduceLT, Nat.reduceEqDiff, reduceCtorEq, Nat.reduceAdd, Nat.reduceSub, Nat.reduceMul, Nat.max_def, reduceIte, Nat.reduceLeDiff, Nat.reduceBEq, Int.reduceEq, Int.reduceLE, Int.reduceLT, Int.reduceNeg, Int.reduceToNat, x3, stU, b3, Try.f3, encX, encR, c6, c7, List.length_map, RetT_some]
  | true =>
    have hl := hy6 rfl
    have hy := hyOf hb hl
    cases h5 : decide ((50 : Int) < td.length) with
    | true => simp (maxSteps := 2000000) only [stA, stM, stH, stQ, stE, stC, xI, xF, Nat.reduceLT, Nat.reduceEqDiff, reduceCtorEq, Nat.reduceAdd, Nat.reduceSub, Nat.reduceMul, Nat.max_def, reduceIte, Nat.reduceLeDiff, Nat.reduceBEq, Int.reduceEq, Int.reduceLE, Int.reduceLT, Int.reduceNeg, Int.reduceToNat, x3, stU, b3, Try.f3, encX, encR, c6, c7, h5, List.length_map, RetT_some]
    | false =>
      have c9 := fun m H hs => @call9 m .no base H hs hl.b
      have c8 := fun m H hs => @call8 m .no .no x td base H hs hy
      have c10 := fun m H hs => @call10 m .no .no x td base H hs hy (fun a ha => (hx.a a ha).2)
      have c11 := fun m H hs => @call11 m .no .no (why x td base).1 H hs (why_ok hy).1 (why_ok hy).2.1
      simp only [encX, encW] at c8 c10
      simp (maxSteps := 2000000) only [stA, stM, stH, stQ, stE, stC, xI, xF, Nat.reduceLT, Nat.reduceEqDiff, reduceCtorEq, Nat.reduceAdd, Nat.reduceSub, Nat.reduceMul, Nat.max_def, reduceIte, Nat.reduceLeDiff, Nat.reduceBEq, Int.reduceEq, Int.reduceLE, Int.reduceLT, Int.reduceNeg, Int.reduceToNat, x3, stU, b3, Try.f3, encX, encR, c6, c7, c8, c9, c10, c11, h5, D, dBN, List.length_map, RetT_some]

/-! ### ExplainRight -/
theorem walk5 : WalkT Try.prog tab 5 [25, 26, 27] := by
  intro args h
  obtain ⟨a, l, rfl, h1, h⟩ := h.inv
  obtain ⟨b, l, rfl, h2, h⟩ := h.inv
  obtain ⟨c, l, rfl, h3, h⟩ := h.inv
  obtain rfl := h.inv_nil
  obtain ⟨x, rfl, hx⟩ := argX h1
  obtain ⟨td, rfl, hd⟩ := argRow h2
  obtain ⟨base, rfl, hb⟩ := argBase h3
  have D := d5
  simp only [stD, stC, List.cons.injEq, b5, Try.f5] at D
  rw [callF_in (fi := fi5) tcon rfl rfl rfl]
  show RetT _
  obtain ⟨y, c6, hy6⟩ := call6 hx hb
  have c7 := fun H hs => @call7 H hs
  simp only [encX, M0] at c6
  cases y with
  | false => simp (maxSteps := 2000000) only [stA, stM, stH, stQ, stE, stC, xI, xF, Nat.reduceLT, Nat.reduceEqDiff, reduceCtorEq, Nat.reduceAdd, Nat.reduceSub, Nat.reduceMul, Nat.max_def, reduceIte, Nat.reduceLeDiff, Nat.reduceBEq, Int.reduceEq, Int.reduceLE, Int.reduceLT, Int.reduceNeg, Int.reduceToNat, x5, stU, b5, Try.f5, encX, encR, c6, c7, List.length_map, RetT_some]
  | true =>
    have hl := hy6 rfl
    have hy := hyOf hb hl
    cases h5 : decide ((50 : Int) < td.length) with
    | true => simp (maxSteps := 2000000) only [stA, stM, stH, stQ, stE, stC, xI, xF, Nat.reduceLT, Nat.reduceEqDiff, reduceCtorEq, Nat.reduceAdd, Nat.reduceSub, Nat.reduceMul, Nat.max_def, reduceIte, Nat.reduceLeDiff, Nat.reduceBEq, Int.reduceEq, Int.reduceLE, Int.reduceLT, Int.reduceNeg, Int.reduceToNat, x5, stU, b5, Try.f5, encX, encR, c6, c7, h5, List.length_map, RetT_some]
    | false =>
      have c9 := fun m H hs => @call9 m .no base H hs hl.b
      have c8 := fun m H hs => @call8 m .no .no x td base H hs hy
      obtain ⟨w1, w2, w3, w4⟩ := @why_ok x td base hy
      simp only [encX, encW] at c8
      generalize why x td base = p at c8 w1 w2 w3 w4
      obtain ⟨S, n⟩ := p
      simp only at c8 w1 w2 w3 w4
      cases h6 : decide (n = 0) with
      | false =>
        have := w3 h6
        subst this
        have z0 : decide (((0 : Nat) : Int) = 0) = true := rfl
        simp (maxSteps := 2000000) only [stA, stM, stH, stQ, stE, stC, xI, xF, Nat.reduceLT, Nat.reduceEqDiff, reduceCtorEq, Nat.reduceAdd, Nat.reduceSub, Nat.reduceMul, Nat.max_def, reduceIte, Nat.reduceLeDiff, Nat.reduceBEq, Int.reduceEq, Int.reduceLE, Int.reduceLT, Int.reduceNeg, Int.reduceToNat, x5, stU, b5, Try.f5, encX, encR, c6, c7, c8, c9, h5, h6, z0, D, dBN, List.length_map, RetT_some]
      | true =>
        obtain ⟨v1, v2, v3⟩ := w4 h6
        have v4 := holds_told v2
        obtain ⟨o1, o2⟩ := @told_ok x S v1
        have c12 := fun m H hs => @call12 m .no x S H hs hy.nb hy.nt hy.nh
        have c14 := fun m H hs => @call14 m .no .no x S base H hs hy
        have c17 := fun m H hs => @call17 m .no .no (told x S).1 td H hs (by have := hy.nh; omega) o1
        simp only [encX, encTd, encR, v2, v3] at c12 c14 c17
        simp (maxSteps := 2000000) only [stA, stM, stH, stQ, stE, stC, xI, xF, Nat.reduceLT, Nat.reduceEqDiff, reduceCtorEq, Nat.reduceAdd, Nat.reduceSub, Nat.reduceMul, Nat.max_def, reduceIte, Nat.reduceLeDiff, Nat.reduceBEq, Int.reduceEq, Int.reduceLE, Int.reduceLT, Int.reduceNeg, Int.reduceToNat, x5, stU, b5, Try.f5, encX, encR, c6, c7, c8, c9, c12, c14, c17, v4, h5, h6, D, dBN, List.length_map, RetT_some]

/-! ### ExplainHolds -/
theorem eqB {x y : Operand} {a b : Bool} : binO tab .eql 4 x y (some (.lit (.bool a))) (some (.lit (.bool b))) = some (.lit (.bool (a == b))) := by cases a <;> cases b <;> rfl
theorem eqN (n : Int) : decide (n = n) = true := by simp

theorem loop4 {x : Ru} {R : List Row} {base : List Rl} (hy : Hy x base) (hb : base.length ≤ 12) (hx : WdX x) (hr : R.length ≤ 20) (hv : ∀ r ∈ R, ∀ v ∈ r, OkV v) : ∀ (k i : Nat) (t : Tr AV) (H : Tr AO) (hs : Nat), i + k = R.length → 0 < hs → H.get .dead 0 = .cells x.cs false →
    t.get .any 1 = .lst .no (R.map encR) → t.get .any 2 = .lst .no (base.map encL) → t.get .any 3 = .ptr 0 0 → t.get .any 7 = .lit (.int .i64 i) →
    RetT (W tab none (fin tab fi4) (lpc fi4 0) (lpk fi4 0) ⟨t, 70, H, hs, [], M0⟩) := by
  have D := d4
  simp only [stD, stC, List.cons.injEq, b4, Try.f4] at D
  simp only [stU, stC, b4, Try.f4]
  have c7 := fun H hs => @call7 H hs
  intro k
  induction k with
  | zero =>
    intro i t H hs hi hh h0 a1 a2 a3 a7
    have e1 : decide ((i : Int) < (R).length) = false := by rw [decide_eq_false_iff_not]; omega
    obtain ⟨o1, o2⟩ := @told_ok x R hv
    have c9 := fun m H hs => @call9 m .no base H hs hb
    have c12 := fun m H hs => @call12 m .no x R H hs hy.nb hy.nt hy.nh
    have c13 := fun m H hs => @call13 m .no x R H hs hy.nb hy.nt hy.nh
    have c14 := fun m H hs => @call14 m .no .no x R base H hs hy
    have c15 := fun m H hs => @call15 m .no .no x R base H hs hy (fun a ha => (hx.a a ha).2) hv
    have c16 := fun m H hs => @call16 m .no .no (told x R).1 H hs (by have := hy.nh; omega)
    simp only [encX, encTd, encR] at c12 c13 c14 c15 c16
    rw [W_loop]
    cases h5 : holds x R base with
    | true =>
      simp only [h5] at c14 c15
      simp (maxSteps := 2000000) only [stA, stM, stH, stQ, stE, stC, xI, xF, Nat.reduceLT, Nat.reduceEqDiff, reduceCtorEq, Nat.reduceAdd, Nat.reduceSub, Nat.reduceMul, Nat.max_def, reduceIte, Nat.reduceLeDiff, Nat.reduceBEq, Int.reduceEq, Int.reduceLE, Int.reduceLT, Int.reduceNeg, Int.reduceToNat, x4, stU, b4, Try.f4, encR, a1, a2, a3, a7, h0, e1, c7, c9, c12, c13, c14, c15, c16, eqB, eqN, beq_self_eq_true, D, dBN, List.length_map, RetT_some]
    | false =>
      simp only [h5] at c14 c15
      simp (maxSteps := 2000000) only [stA, stM, stH, stQ, stE, stC, xI, xF, Nat.reduceLT, Nat.reduceEqDiff, reduceCtorEq, Nat.reduceAdd, Nat.reduceSub, Nat.reduceMul, Nat.max_def, reduceIte, Nat.reduceLeDiff, Nat.reduceBEq, Int.reduceEq, Int.reduceLE, Int.reduceLT, Int.reduceNeg, Int.reduceToNat, x4, stU, b4, Try.f4, encR, a1, a2, a3, a7, h0, e1, c7, c9, c12, c13, c14, c15, c16, eqB, eqN, beq_self_eq_true, D, dBN, List.length_map, RetT_some]
  | succ k ih =>
    intro i t H hs hi hh h0 a1 a2 a3 a7
    have hlt : i < (R).length := by omega
    have e1 : decide ((i : Int) < (R).length) = true := by rw [decide_eq_true_iff]; omega
    have e3 : decide (0 ≤ (i : Int)) = true := by rw [decide_eq_true_iff]; omega
    have e4 : (R)[i]? = some (R)[i] := List.getElem?_eq_getElem _
    have e6 : (R).drop i = (R)[i] :: (R).drop (i + 1) := List.drop_eq_getElem_cons hlt
    have e7 : (R).take (i + 1) = (R).take i ++ [(R)[i]] := List.take_succ_eq_append_getElem hlt
    generalize hv : (R)[i] = r at e4 e6 e7
    have e5 := wrap_succ (i := i) (by omega)
    rw [W_loop]
    cases h1 : decide ((50 : Int) < r.length) with
    | true => simp (maxSteps := 2000000) only [stA, stM, stH, stQ, stE, stC, xI, xF, Nat.reduceLT, Nat.reduceEqDiff, reduceCtorEq, Nat.reduceAdd, Nat.reduceSub, Nat.reduceMul, Nat.max_def, reduceIte, Nat.reduceLeDiff, Nat.reduceBEq, Int.reduceEq, Int.reduceLE, Int.reduceLT, Int.reduceNeg, Int.reduceToNat, x4, stU, b4, Try.f4, encR, M0, a1, a2, a3, a7, h0, e1, e3, e4, e5, List.getElem?_map, List.length_map, Int.toNat_natCast, c7, h1, RetT_some]
    | false =>
      simp (maxSteps := 2000000) only [stA, stM, stH, stQ, stE, stC, xI, xF, Nat.reduceLT, Nat.reduceEqDiff, reduceCtorEq, Nat.reduceAdd, Nat.reduceSub, Nat.reduceMul, Nat.max_def, reduceIte, Nat.reduceLeDiff, Nat.reduceBEq, Int.reduceEq, Int.reduceLE, Int.reduceLT, Int.reduceNeg, Int.reduceToNat, x4, stU, b4, Try.f4, encR, M0, a1, a2, a3, a7, h0, e1, e3, e4, e5, List.getElem?_map, List.length_map, Int.toNat_natCast, h1]
      apply ih (i + 1) _ _ _ (by omega) hh h0
      all_goals simp only [stA, stM, stH, stQ, stE, stC, xI, xF, Nat.reduceLT, Nat.reduceEqDiff, reduceCtorEq, Nat.reduceAdd, Nat.reduceSub, Nat.reduceMul, Nat.max_def, reduceIte, Nat.reduceLeDiff, Nat.reduceBEq, Int.reduceEq, Int.reduceLE, Int.reduceLT, Int.reduceNeg, Int.reduceToNat, encR, a1, a2, a3, a7]
theorem walk4 : WalkT Try.prog tab 4 [25, 30, 27] := by
  intro args h
  obtain ⟨a, l, rfl, h1, h⟩ := h.inv
  obtain ⟨b, l, rfl, h2, h⟩ := h.inv
  obtain ⟨c, l, rfl, h3, h⟩ := h.inv
  obtain rfl := h.inv_nil
  obtain ⟨x, rfl, hx⟩ := argX h1
  obtain ⟨R, rfl, hR1, hR2⟩ := argRows h2
  obtain ⟨base, rfl, hb⟩ := argBase h3
  rw [callF_in (fi := fi4) tcon rfl rfl rfl]
  show RetT _
  obtain ⟨y, c6, hy6⟩ := call6 hx hb
  have c7 := fun H hs => @call7 H hs
  simp only [encX, M0] at c6
  cases y with
  | false => simp (maxSteps := 2000000) only [stA, stM, stH, stQ, stE, stC, xI, xF, Nat.reduceLT, Nat.reduceEqDiff, reduceCtorEq, Nat.reduceAdd, Nat.reduceSub, Nat.reduceMul, Nat.max_def, reduceIte, Nat.reduceLeDiff, Nat.reduceBEq, Int.reduceEq, Int.reduceLE, Int.reduceLT, Int.reduceNeg, Int.reduceToNat, x4, stU, b4, Try.f4, encX, c6, c7, List.length_map, RetT_some]
  | true =>
    have hl := hy6 rfl
    have hy := hyOf hb hl
    cases h5 : decide ((20 : Int) < R.length) with
    | true => simp (maxSteps := 2000000) only [stA, stM, stH, stQ, stE, stC, xI, xF, Nat.reduceLT, Nat.reduceEqDiff, reduceCtorEq, Nat.reduceAdd, Nat.reduceSub, Nat.reduceMul, Nat.max_def, reduceIte, Nat.reduceLeDiff, Nat.reduceBEq, Int.reduceEq, Int.reduceLE, Int.reduceLT, Int.reduceNeg, Int.reduceToNat, x4, stU, b4, Try.f4, encX, c6, c7, h5, List.length_map, RetT_some]
    | false =>
      have q5 := h5
      rw [decide_eq_false_iff_not] at q5
      have L := fun t H hs => @loop4 x R base hy hl.b hx (by omega) (fun r hr => (hR2 r hr).2) R.length 0 t H hs (by simp)
      simp only [stU, stC, b4, Try.f4, M0] at L
      simp (maxSteps := 2000000) only [stA, stM, stH, stQ, stE, stC, xI, xF, Nat.reduceLT, Nat.reduceEqDiff, reduceCtorEq, Nat.reduceAdd, Nat.reduceSub, Nat.reduceMul, Nat.max_def, reduceIte, Nat.reduceLeDiff, Nat.reduceBEq, Int.reduceEq, Int.reduceLE, Int.reduceLT, Int.reduceNeg, Int.reduceToNat, x4, stU, b4, Try.f4, encX, c6, c7, h5, List.length_map]
      apply L
      all_goals first | decide | (simp only [stA, stM, stH, stQ, stE, stC, xI, xF, Nat.reduceLT, Nat.reduceEqDiff, reduceCtorEq, Nat.reduceAdd, Nat.reduceSub, Nat.reduceMul, Nat.max_def, reduceIte, Nat.reduceLeDiff, Nat.reduceBEq, Int.reduceEq, Int.reduceLE, Int.reduceLT, Int.reduceNeg, Int.reduceToNat]; done) | (simp only [stA, stM, stH, stQ, stE, stC, xI, xF, Nat.reduceLT, Nat.reduceEqDiff, reduceCtorEq, Nat.reduceAdd, Nat.reduceSub, Nat.reduceMul, Nat.max_def, reduceIte, Nat.reduceLeDiff, Nat.reduceBEq, Int.reduceEq, Int.reduceLE, Int.reduceLT, Int.reduceNeg, Int.reduceToNat]; rfl)
end Go.Proofs.Ytpehpccahbofiaa.Ev
