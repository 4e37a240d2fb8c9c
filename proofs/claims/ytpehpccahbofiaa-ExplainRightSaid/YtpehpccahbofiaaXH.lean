import Derived.Test.YtpehpccahbofiaaWX
set_option linter.all false
set_option maxRecDepth 100000
namespace Go.Proofs.Ytpehpccahbofiaa.Ev
open Go Go.Proofs.Ytpehpccahbofiaa.Ev Go.Proofs Go.Proofs.Ytpehpccahbofiaa Go.Proofs.Ytpehpccahbofiaa.Tab

/-! ### Data -/
structure Vl where
  k : Int
  b : Bool
  n : Int
  s : List UInt8
abbrev Vl.cs (v : Vl) : List AV := [.lit (.int .i64 v.k), .lit (.bool v.b), .lit (.int .i64 v.n), .str v.s]
def encV (v : Vl) : AV := .agg v.cs
abbrev Row := List Vl
def encR (r : Row) : AV := .lst .no (r.map encV)
structure En where
  r : Row
  m : Int
def encE (e : En) : AV := .agg [encR e.r, .lit (.int .i64 e.m)]
structure Rl where
  n : List UInt8
  l : List En
def encL (r : Rl) : AV := .agg [.str r.n, .lst .no (r.l.map encE)]
structure Tm where
  x : List UInt8
  a : Bool
  v : Vl
def encT (t : Tm) : AV := .agg [.str t.x, .lit (.bool t.a), .lit (.int .i64 t.v.k), .lit (.bool t.v.b), .lit (.int .i64 t.v.n), .str t.v.s]
structure Lt where
  no : Bool
  n : List UInt8
  l : List Tm
  o : Int
def encA (a : Lt) : AV := .agg [.lit (.bool a.no), .str a.n, .lst .no (a.l.map encT), .lit (.int .i64 a.o)]
structure Ru where
  k : Int
  n : List UInt8
  h : List (List UInt8)
  a : Int
  f : List UInt8
  m : Int
  b : List Lt
def encX (x : Ru) : AV := .agg [.lit (.int .i64 x.k), .str x.n, .lst .no (x.h.map .str), .lit (.int .i64 x.a), .str x.f, .lit (.int .i64 x.m), .lst .no (x.b.map encA)]

theorem bares_map {α : Type} {f : α → AV} (h : ∀ x, bare (f x) = true) : ∀ l : List α, bares (l.map f) = true
  | [] => rfl
  | x :: l => by simp only [List.map_cons, bares, h x, bares_map h l, Bool.and_self]
theorem nrms_mapf {α : Type} {f : α → AV} (h : ∀ x, nrm (f x) = f x) : ∀ l : List α, nrms (l.map f) = l.map f
  | [] => rfl
  | x :: l => by simp only [List.map_cons, nrms, h x, nrms_mapf h l]
theorem all_map {α : Type} {f : α → AV} {p : AV → Bool} (h : ∀ x, p (f x) = true) (l : List α) : (l.map f).all p = true := by
  rw [List.all_eq_true]; intro y hy; obtain ⟨x, _, rfl⟩ := List.mem_map.1 hy; exact h x
theorem bare_V (v : Vl) : bare (encV v) = true := rfl
theorem nrm_V (v : Vl) : nrm (encV v) = encV v := rfl
theorem bare_R (r : Row) : bare (encR r) = true := by simp only [encR, bare, bares_map bare_V]
theorem nrm_R (r : Row) : nrm (encR r) = encR r := by simp only [encR, nrm, nrms_mapf nrm_V]
theorem bare_E (e : En) : bare (encE e) = true := by simp only [encE, bare, bares, bare_R, Bool.and_self]
theorem nrm_E (e : En) : nrm (encE e) = encE e := by simp only [encE, nrm, nrms, nrm_R]
theorem bare_L (e : Rl) : bare (encL e) = true := by simp only [encL, bare, bares, bares_map bare_E, Bool.and_self]
theorem nrm_L (e : Rl) : nrm (encL e) = encL e := by simp only [encL, nrm, nrms, nrms_mapf nrm_E]
theorem bare_T (t : Tm) : bare (encT t) = true := rfl
theorem nrm_T (t : Tm) : nrm (encT t) = encT t := rfl
theorem bare_A (e : Lt) : bare (encA e) = true := by simp only [encA, bare, bares, bares_map bare_T, Bool.and_self]
theorem nrm_A (e : Lt) : nrm (encA e) = encA e := by simp only [encA, nrm, nrms, nrms_mapf nrm_T]
theorem bare_X (e : Ru) : bare (encX e) = true := by simp only [encX, bare, bares, bares_map bare_A, bares_map (f := AV.str) (fun _ => rfl), Bool.and_self]
theorem nrm_X (e : Ru) : nrm (encX e) = encX e := by simp only [encX, nrm, nrms, nrms_mapf nrm_A, nrms_mapf (f := AV.str) (fun _ => rfl)]
theorem bares_S (l : List (List UInt8)) : bares (l.map .str) = true := bares_map (fun _ => rfl) l
theorem nrms_S (l : List (List UInt8)) : nrms (l.map .str) = l.map .str := nrms_mapf (fun _ => rfl) l
theorem bares_V (l : List Vl) : bares (l.map encV) = true := bares_map bare_V l
theorem nrms_V (l : List Vl) : nrms (l.map encV) = l.map encV := nrms_mapf nrm_V l
theorem bares_R (l : List Row) : bares (l.map encR) = true := bares_map bare_R l
theorem nrms_R (l : List Row) : nrms (l.map encR) = l.map encR := nrms_mapf nrm_R l
theorem bares_E (l : List En) : bares (l.map encE) = true := bares_map bare_E l
theorem nrms_E (l : List En) : nrms (l.map encE) = l.map encE := nrms_mapf nrm_E l
theorem bares_L (l : List Rl) : bares (l.map encL) = true := bares_map bare_L l
theorem nrms_L (l : List Rl) : nrms (l.map encL) = l.map encL := nrms_mapf nrm_L l
theorem bares_T (l : List Tm) : bares (l.map encT) = true := bares_map bare_T l
theorem nrms_T (l : List Tm) : nrms (l.map encT) = l.map encT := nrms_mapf nrm_T l
theorem bares_A (l : List Lt) : bares (l.map encA) = true := bares_map bare_A l
theorem nrms_A (l : List Lt) : nrms (l.map encA) = l.map encA := nrms_mapf nrm_A l
def dBN := And.intro @bare_V (And.intro @nrm_V (And.intro @bare_R (And.intro @nrm_R (And.intro @bare_E (And.intro @nrm_E (And.intro @bare_L (And.intro @nrm_L (And.intro @bare_T (And.intro @nrm_T (And.intro @bare_A (And.intro @nrm_A (And.intro @bare_X (And.intro @nrm_X (And.intro @bares_S (And.intro @nrms_S (And.intro @bares_V (And.intro @nrms_V (And.intro @bares_R (And.intro @nrms_R (And.intro @bares_E (And.intro @nrms_E (And.intro @bares_L (And.intro @nrms_L (And.intro @bares_T (And.intro @nrms_T (And.intro @bares_A @nrms_A))))))))))))))))))))))))))

theorem wrap_i64 {n : Int} (h1 : -9223372036854775808 ≤ n) (h2 : n ≤ 9223372036854775807) : IntKind.i64.wrap n = n := by
  rw [IntKind.wrap_i64]; omega
theorem wrap_succ {i : Nat} (h : i < 9223372036854775807) : IntKind.i64.wrap ((i : Int) + 1) = ((i + 1 : Nat) : Int) := by rw [wrap_i64 (by omega) (by omega)]; omega
end Go.Proofs.Ytpehpccahbofiaa.Ev

set_option maxRecDepth 100000
set_option maxHeartbeats 1000000
namespace Go.Proofs.Ytpehpccahbofiaa.Ev
open Go Go.Proofs.Ytpehpccahbofiaa.Ev Go.Proofs Go.Proofs.Ytpehpccahbofiaa Go.Proofs.Ytpehpccahbofiaa.Tab

/-! ### The rows of a relation -/
def ofL (l : List Rl) (x : List UInt8) : List En := match l.find? (fun r => r.n == x) with | some r => r.l | none => []

theorem loop35 {l : List Rl} {x : List UInt8} {gl : Tr (Option AV)} (hl : l.length < 9223372036854775807) : ∀ (k i : Nat) (t : Tr AV) (H : Tr AO) (hs : Nat), i + k = l.length →
    t.get .any 0 = .lst .no (l.map encL) → t.get .any 1 = .str x → t.get .any 5 = .lit (.int .i64 i) →
    RetN (W tab none (fin tab fi35) (lpc fi35 0) (lpk fi35 0) ⟨t, 24, H, hs, [], ⟨true, true, gl⟩⟩) (.lst .no ((ofL (l.drop i) x).map encE)) := by
  simp only [stU, stC, b35, Try.f35]
  intro k
  induction k with
  | zero =>
    intro i t H hs hi a0 a1 a5
    have e1 : decide ((i : Int) < l.length) = false := by rw [decide_eq_false_iff_not]; omega
    rw [W_loop]
    simp only [stA, stM, stH, stQ, stE, stC, xI, xF, Nat.reduceLT, Nat.reduceEqDiff, reduceCtorEq, Nat.reduceAdd, Nat.reduceSub, Nat.reduceMul, Nat.max_def, reduceIte, Nat.reduceLeDiff, Nat.reduceBEq, Int.reduceEq, Int.reduceLE, Int.reduceLT, Int.reduceNeg, Int.reduceToNat, x35, stU, b35, Try.f35, a0, a1, a5, List.length_map, e1]
    rw [List.drop_of_length_le (by omega)]
    rfl
  | succ k ih =>
    intro i t H hs hi a0 a1 a5
    have hlt : i < l.length := by omega
    have e1 : decide ((i : Int) < l.length) = true := by rw [decide_eq_true_iff]; omega
    have e3 : decide (0 ≤ (i : Int)) = true := by rw [decide_eq_true_iff]; omega
    have e4 : l[i]? = some l[i] := List.getElem?_eq_getElem _
    have e6 : l.drop i = l[i] :: l.drop (i + 1) := List.drop_eq_getElem_cons hlt
    generalize l[i] = v at e4 e6
    have e5 := wrap_succ (i := i) (by omega)
    rw [W_loop, e6]
    unfold ofL
    rw [List.find?_cons]
    cases hx : v.n == x with
    | true =>
      simp only [stA, stM, stH, stQ, stE, stC, xI, xF, Nat.reduceLT, Nat.reduceEqDiff, reduceCtorEq, Nat.reduceAdd, Nat.reduceSub, Nat.reduceMul, Nat.max_def, reduceIte, Nat.reduceLeDiff, Nat.reduceBEq, Int.reduceEq, Int.reduceLE, Int.reduceLT, Int.reduceNeg, Int.reduceToNat, x35, stU, b35, Try.f35, a0, a1, a5, List.length_map, e1, e3, e4, e5, List.getElem?_map, Int.toNat_natCast, encL, hx, dBN]
    | false =>
      simp only [stA, stM, stH, stQ, stE, stC, xI, xF, Nat.reduceLT, Nat.reduceEqDiff, reduceCtorEq, Nat.reduceAdd, Nat.reduceSub, Nat.reduceMul, Nat.max_def, reduceIte, Nat.reduceLeDiff, Nat.reduceBEq, Int.reduceEq, Int.reduceLE, Int.reduceLT, Int.reduceNeg, Int.reduceToNat, x35, stU, b35, Try.f35, a0, a1, a5, List.length_map, e1, e3, e4, e5, List.getElem?_map, Int.toNat_natCast, encL, hx]
      apply ih (i + 1) _ _ _ (by omega)
      all_goals simp only [stA, stM, stH, stQ, stE, stC, xI, xF, Nat.reduceLT, Nat.reduceEqDiff, reduceCtorEq, Nat.reduceAdd, Nat.reduceSub, Nat.reduceMul, Nat.max_def, reduceIte, Nat.reduceLeDiff, Nat.reduceBEq, Int.reduceEq, Int.reduceLE, Int.reduceLT, Int.reduceNeg, Int.reduceToNat, a0, a1, a5]
theorem eq35 {l : List Rl} {x : List UInt8} {m : Md} (hl : l.length < 9223372036854775807) : iso tab fi35 m [.lst .no (l.map encL), .str x] = some (.lst .no ((ofL l x).map encE)) := by
  refine iso_ret ?_
  have L := @loop35 l x m.gl hl l.length 0
  simp only [stU, stC, b35, Try.f35] at L
  simp only [stA, stM, stH, stQ, stE, stC, xI, xF, Nat.reduceLT, Nat.reduceEqDiff, reduceCtorEq, Nat.reduceAdd, Nat.reduceSub, Nat.reduceMul, Nat.max_def, reduceIte, Nat.reduceLeDiff, Nat.reduceBEq, Int.reduceEq, Int.reduceLE, Int.reduceLT, Int.reduceNeg, Int.reduceToNat, x35, stU, b35, Try.f35]
  apply L
  · simp
  all_goals simp only [stA, stM, stH, stQ, stE, stC, xI, xF, Nat.reduceLT, Nat.reduceEqDiff, reduceCtorEq, Nat.reduceAdd, Nat.reduceSub, Nat.reduceMul, Nat.max_def, reduceIte, Nat.reduceLeDiff, Nat.reduceBEq, Int.reduceEq, Int.reduceLE, Int.reduceLT, Int.reduceNeg, Int.reduceToNat]
  rfl
end Go.Proofs.Ytpehpccahbofiaa.Ev

set_option maxRecDepth 100000
set_option maxHeartbeats 2000000
namespace Go.Proofs.Ytpehpccahbofiaa.Ev
open Go Go.Proofs.Ytpehpccahbofiaa.Ev Go.Proofs Go.Proofs.Ytpehpccahbofiaa Go.Proofs.Ytpehpccahbofiaa.Tab

/-! ### What goes ahead -/
theorem bb1 {p q : Operand} {a b : Bool} : binO tab .eql 4 p q (some (.lit (.bool a))) (some (.lit (.bool b))) = some (.lit (.bool (a == b))) := rfl
theorem bb2 {p q : Operand} {a b : Bool} : binO tab .neq 4 p q (some (.lit (.bool a))) (some (.lit (.bool b))) = some (.lit (.bool !(a == b))) := rfl
def cmpI (a b : Int) : Int := bif decide (a < b) then -1 else bif decide (b < a) then 1 else 0
def tr (b : Bool) : Int := bif b then 1 else 0
def vcmp (a b : Vl) : Int := bif decide (a.k = b.k) then (bif decide (a.k = 1) then cmpI (tr a.b) (tr b.b) else bif decide (a.k = 2) then cmpI a.n b.n else bif decide (a.k = 3) then Lib.compareBytes a.s b.s else 0) else cmpI a.k b.k

theorem eq86 {m : Md} {n : Int} : iso tab fi86 m [.lit (.int .i64 n)] = some (.lit (.bool false)) := by
  refine iso_ret ?_
  simp only [stA, stM, stH, stQ, stE, stC, xI, xF, Nat.reduceLT, Nat.reduceEqDiff, reduceCtorEq, Nat.reduceAdd, Nat.reduceSub, Nat.reduceMul, Nat.max_def, reduceIte, Nat.reduceLeDiff, Nat.reduceBEq, Int.reduceEq, Int.reduceLE, Int.reduceLT, Int.reduceNeg, Int.reduceToNat, x86, stU, b86, Try.f86]
theorem call86 {m : Md} {n : Int} {H : Tr AO} {hs : Nat} : callF tab (evw tab) m 86 [.lit (.int .i64 n)] H hs = some (.lit (.bool false), H, hs) := callF_iso tcon rfl rfl rfl eq86
theorem eq87 {m : Md} {n : Int} : iso tab fi87 m [.lit (.int .i64 n)] = some (.lit (.bool false)) := by
  refine iso_ret ?_
  simp only [stA, stM, stH, stQ, stE, stC, xI, xF, Nat.reduceLT, Nat.reduceEqDiff, reduceCtorEq, Nat.reduceAdd, Nat.reduceSub, Nat.reduceMul, Nat.max_def, reduceIte, Nat.reduceLeDiff, Nat.reduceBEq, Int.reduceEq, Int.reduceLE, Int.reduceLT, Int.reduceNeg, Int.reduceToNat, x87, stU, b87, Try.f87]
theorem call87 {m : Md} {n : Int} {H : Tr AO} {hs : Nat} : callF tab (evw tab) m 87 [.lit (.int .i64 n)] H hs = some (.lit (.bool false), H, hs) := callF_iso tcon rfl rfl rfl eq87
theorem eq69 {m : Md} {a b : Int} : iso tab fi69 m [.lit (.int .i64 a), .lit (.int .i64 b)] = some (.lit (.int .i64 (cmpI a b))) := by
  refine iso_ret ?_
  unfold cmpI
  cases h1 : decide (a < b) with
  | true => simp only [stA, stM, stH, stQ, stE, stC, xI, xF, Nat.reduceLT, Nat.reduceEqDiff, reduceCtorEq, Nat.reduceAdd, Nat.reduceSub, Nat.reduceMul, Nat.max_def, reduceIte, Nat.reduceLeDiff, Nat.reduceBEq, Int.reduceEq, Int.reduceLE, Int.reduceLT, Int.reduceNeg, Int.reduceToNat, x69, stU, b69, Try.f69, call86, h1]
  | false => cases h2 : decide (b < a) <;> simp only [stA, stM, stH, stQ, stE, stC, xI, xF, Nat.reduceLT, Nat.reduceEqDiff, reduceCtorEq, Nat.reduceAdd, Nat.reduceSub, Nat.reduceMul, Nat.max_def, reduceIte, Nat.reduceLeDiff, Nat.reduceBEq, Int.reduceEq, Int.reduceLE, Int.reduceLT, Int.reduceNeg, Int.reduceToNat, x69, stU, b69, Try.f69, call86, h1, h2]
theorem call69 {m : Md} {a b : Int} {H : Tr AO} {hs : Nat} : callF tab (evw tab) m 69 [.lit (.int .i64 a), .lit (.int .i64 b)] H hs = some (.lit (.int .i64 (cmpI a b)), H, hs) := callF_iso tcon rfl rfl rfl eq69
theorem eq71 {m : Md} {a b : Int} : iso tab fi71 m [.lit (.int .i64 a), .lit (.int .i64 b)] = some (.lit (.int .i64 (cmpI a b))) := by
  refine iso_ret ?_
  unfold cmpI
  cases h1 : decide (a < b) with
  | true => simp only [stA, stM, stH, stQ, stE, stC, xI, xF, Nat.reduceLT, Nat.reduceEqDiff, reduceCtorEq, Nat.reduceAdd, Nat.reduceSub, Nat.reduceMul, Nat.max_def, reduceIte, Nat.reduceLeDiff, Nat.reduceBEq, Int.reduceEq, Int.reduceLE, Int.reduceLT, Int.reduceNeg, Int.reduceToNat, x71, stU, b71, Try.f71, call87, h1]
  | false => cases h2 : decide (b < a) <;> simp only [stA, stM, stH, stQ, stE, stC, xI, xF, Nat.reduceLT, Nat.reduceEqDiff, reduceCtorEq, Nat.reduceAdd, Nat.reduceSub, Nat.reduceMul, Nat.max_def, reduceIte, Nat.reduceLeDiff, Nat.reduceBEq, Int.reduceEq, Int.reduceLE, Int.reduceLT, Int.reduceNeg, Int.reduceToNat, x71, stU, b71, Try.f71, call87, h1, h2]
theorem call71 {m : Md} {a b : Int} {H : Tr AO} {hs : Nat} : callF tab (evw tab) m 71 [.lit (.int .i64 a), .lit (.int .i64 b)] H hs = some (.lit (.int .i64 (cmpI a b)), H, hs) := callF_iso tcon rfl rfl rfl eq71
theorem eq70 {m : Md} {b : Bool} : iso tab fi70 m [.lit (.bool b)] = some (.lit (.int .i64 (tr b))) := by
  refine iso_ret ?_
  unfold tr
  cases b <;> simp only [stA, stM, stH, stQ, stE, stC, xI, xF, Nat.reduceLT, Nat.reduceEqDiff, reduceCtorEq, Nat.reduceAdd, Nat.reduceSub, Nat.reduceMul, Nat.max_def, reduceIte, Nat.reduceLeDiff, Nat.reduceBEq, Int.reduceEq, Int.reduceLE, Int.reduceLT, Int.reduceNeg, Int.reduceToNat, x70, stU, b70, Try.f70]
theorem call70 {m : Md} {b : Bool} {H : Tr AO} {hs : Nat} : callF tab (evw tab) m 70 [.lit (.bool b)] H hs = some (.lit (.int .i64 (tr b)), H, hs) := callF_iso tcon rfl rfl rfl eq70
theorem eq88 {m : Md} {a b : List UInt8} : iso tab fi88 m [.str a, .str b] = some (.lit (.int .i64 (Lib.compareBytes a b))) := by
  refine iso_ret ?_
  simp only [stA, stM, stH, stQ, stE, stC, xI, xF, Nat.reduceLT, Nat.reduceEqDiff, reduceCtorEq, Nat.reduceAdd, Nat.reduceSub, Nat.reduceMul, Nat.max_def, reduceIte, Nat.reduceLeDiff, Nat.reduceBEq, Int.reduceEq, Int.reduceLE, Int.reduceLT, Int.reduceNeg, Int.reduceToNat, x88, stU, b88, Try.f88]
theorem call88 {m : Md} {a b : List UInt8} {H : Tr AO} {hs : Nat} : callF tab (evw tab) m 88 [.str a, .str b] H hs = some (.lit (.int .i64 (Lib.compareBytes a b)), H, hs) := callF_iso tcon rfl rfl rfl eq88
theorem eq72 {m : Md} {a b : List UInt8} : iso tab fi72 m [.str a, .str b] = some (.lit (.int .i64 (Lib.compareBytes a b))) := by
  refine iso_ret ?_
  simp only [stA, stM, stH, stQ, stE, stC, xI, xF, Nat.reduceLT, Nat.reduceEqDiff, reduceCtorEq, Nat.reduceAdd, Nat.reduceSub, Nat.reduceMul, Nat.max_def, reduceIte, Nat.reduceLeDiff, Nat.reduceBEq, Int.reduceEq, Int.reduceLE, Int.reduceLT, Int.reduceNeg, Int.reduceToNat, x72, stU, b72, Try.f72, call88]
theorem call72 {m : Md} {a b : List UInt8} {H : Tr AO} {hs : Nat} : callF tab (evw tab) m 72 [.str a, .str b] H hs = some (.lit (.int .i64 (Lib.compareBytes a b)), H, hs) := callF_iso tcon rfl rfl rfl eq72
theorem eq56 {m : Md} {a b : Vl} : iso tab fi56 m [encV a, encV b] = some (.lit (.int .i64 (vcmp a b))) := by
  refine iso_ret ?_
  unfold vcmp
  have D := d56
  simp only [stD, stC, List.cons.injEq, b56, Try.f56] at D
  cases h0 : decide (a.k = b.k) with
  | false => simp only [stA, stM, stH, stQ, stE, stC, xI, xF, Nat.reduceLT, Nat.reduceEqDiff, reduceCtorEq, Nat.reduceAdd, Nat.reduceSub, Nat.reduceMul, Nat.max_def, reduceIte, Nat.reduceLeDiff, Nat.reduceBEq, Int.reduceEq, Int.reduceLE, Int.reduceLT, Int.reduceNeg, Int.reduceToNat, x56, stU, b56, Try.f56, encV, call69, h0]
  | true =>
    cases h1 : decide (a.k = 1) with
    | true => simp only [stA, stM, stH, stQ, stE, stC, xI, xF, Nat.reduceLT, Nat.reduceEqDiff, reduceCtorEq, Nat.reduceAdd, Nat.reduceSub, Nat.reduceMul, Nat.max_def, reduceIte, Nat.reduceLeDiff, Nat.reduceBEq, Int.reduceEq, Int.reduceLE, Int.reduceLT, Int.reduceNeg, Int.reduceToNat, x56, stU, b56, Try.f56, encV, call69, call70, D, h0, h1]
    | false =>
      cases h2 : decide (a.k = 2) with
      | true => simp only [stA, stM, stH, stQ, stE, stC, xI, xF, Nat.reduceLT, Nat.reduceEqDiff, reduceCtorEq, Nat.reduceAdd, Nat.reduceSub, Nat.reduceMul, Nat.max_def, reduceIte, Nat.reduceLeDiff, Nat.reduceBEq, Int.reduceEq, Int.reduceLE, Int.reduceLT, Int.reduceNeg, Int.reduceToNat, x56, stU, b56, Try.f56, encV, call71, h0, h1, h2]
      | false => cases h3 : decide (a.k = 3) <;> simp only [stA, stM, stH, stQ, stE, stC, xI, xF, Nat.reduceLT, Nat.reduceEqDiff, reduceCtorEq, Nat.reduceAdd, Nat.reduceSub, Nat.reduceMul, Nat.max_def, reduceIte, Nat.reduceLeDiff, Nat.reduceBEq, Int.reduceEq, Int.reduceLE, Int.reduceLT, Int.reduceNeg, Int.reduceToNat, x56, stU, b56, Try.f56, encV, call72, h0, h1, h2, h3]
theorem call56 {m : Md} {a b : Vl} {H : Tr AO} {hs : Nat} : callF tab (evw tab) m 56 [encV a, encV b] H hs = some (.lit (.int .i64 (vcmp a b)), H, hs) := callF_iso tcon rfl rfl rfl eq56

/-! The document's -/
theorem cmpB_drop {a b : List UInt8} {i : Nat} : i < a.length → i < b.length → ∃ x y, a[i]? = some x ∧ b[i]? = some y ∧ Lib.compareBytes (a.drop i) (b.drop i) = if x < y then -1 else if y < x then 1 else Lib.compareBytes (a.drop (i + 1)) (b.drop (i + 1)) := by
  intro h1 h2
  refine ⟨a[i], b[i], List.getElem?_eq_getElem _, List.getElem?_eq_getElem _, ?_⟩
  rw [List.drop_eq_getElem_cons h1, List.drop_eq_getElem_cons h2]
  rfl
theorem cmpB_end {a b : List UInt8} {i : Nat} (h1 : i ≤ a.length) (h2 : i ≤ b.length) (h : ¬ (i < a.length ∧ i < b.length)) : Lib.compareBytes (a.drop i) (b.drop i) = cmpI a.length b.length := by
  unfold cmpI
  by_cases h3 : i < b.length
  · have h4 : i = a.length := by omega
    rw [h4, List.drop_length, List.drop_eq_getElem_cons (by omega)]
    have e : decide ((a.length : Int) < b.length) = true := by rw [decide_eq_true_iff]; omega
    rw [e]; rfl
  · have h4 : i = b.length := by omega
    have e : decide ((a.length : Int) < b.length) = false := by rw [decide_eq_false_iff_not]; omega
    rw [e]
    by_cases h5 : i < a.length
    · have e2 : decide ((b.length : Int) < a.length) = true := by rw [decide_eq_true_iff]; omega
      rw [e2, List.drop_of_length_le (l := b) (by omega), List.drop_eq_getElem_cons h5]; rfl
    · have e2 : decide ((b.length : Int) < a.length) = false := by rw [decide_eq_false_iff_not]; omega
      rw [e2, List.drop_of_length_le (by omega), List.drop_of_length_le (by omega)]; rfl
theorem u8_lt {x y : UInt8} : decide ((x.toNat : Int) < (y.toNat : Int)) = decide (x < y) := by
  by_cases h : x < y
  · rw [decide_eq_true h, decide_eq_true_iff]; have := UInt8.lt_iff_toNat_lt.1 h; omega
  · rw [decide_eq_false h, decide_eq_false_iff_not]; intro h2; exact h (UInt8.lt_iff_toNat_lt.2 (by omega))
theorem loop73 {a b : List UInt8} {gl : Tr (Option AV)} (hl : a.length ≤ 9223372036854775807) : ∀ (k i : Nat) (t : Tr AV) (H : Tr AO) (hs : Nat), i + k = a.length → i ≤ b.length →
    t.get .any 0 = .str a → t.get .any 1 = .str b → t.get .any 5 = .lit (.int .i64 i) →
    RetN (W tab none (fin tab fi73) (lpc fi73 0) (lpk fi73 0) ⟨t, 42, H, hs, [], ⟨true, true, gl⟩⟩) (.lit (.int .i64 (Lib.compareBytes (a.drop i) (b.drop i)))) := by
  have D := d73
  simp only [stD, stC, List.cons.injEq, b73, Try.f73] at D
  simp only [stU, stC, b73, Try.f73]
  intro k
  have stop : ∀ (i : Nat) (t : Tr AV) (H : Tr AO) (hs : Nat), i ≤ a.length → i ≤ b.length → ¬ (i < a.length ∧ i < b.length) → t.get .any 0 = .str a → t.get .any 1 = .str b → t.get .any 5 = .lit (.int .i64 i) →
    RetN (W tab none (fin tab fi73) (lpc fi73 0) (lpk fi73 0) ⟨t, 42, H, hs, [], ⟨true, true, gl⟩⟩) (.lit (.int .i64 (Lib.compareBytes (a.drop i) (b.drop i)))) := by
    simp only [stU, stC, b73, Try.f73]
    intro i t H hs h1 h2 h3 a0 a1 a5
    rw [W_loop, cmpB_end h1 h2 h3]
    unfold cmpI
    cases e1 : decide ((i : Int) < a.length) with
    | false => cases e3 : decide ((a.length : Int) < b.length) with
      | true => simp only [stA, stM, stH, stQ, stE, stC, xI, xF, Nat.reduceLT, Nat.reduceEqDiff, reduceCtorEq, Nat.reduceAdd, Nat.reduceSub, Nat.reduceMul, Nat.max_def, reduceIte, Nat.reduceLeDiff, Nat.reduceBEq, Int.reduceEq, Int.reduceLE, Int.reduceLT, Int.reduceNeg, Int.reduceToNat, x73, stU, b73, Try.f73, a0, a1, a5, e1, e3, D]
      | false => cases e4 : decide ((b.length : Int) < a.length) <;> simp only [stA, stM, stH, stQ, stE, stC, xI, xF, Nat.reduceLT, Nat.reduceEqDiff, reduceCtorEq, Nat.reduceAdd, Nat.reduceSub, Nat.reduceMul, Nat.max_def, reduceIte, Nat.reduceLeDiff, Nat.reduceBEq, Int.reduceEq, Int.reduceLE, Int.reduceLT, Int.reduceNeg, Int.reduceToNat, x73, stU, b73, Try.f73, a0, a1, a5, e1, e3, e4, D]
    | true =>
      have e2 : decide ((i : Int) < b.length) = false := by rw [decide_eq_false_iff_not]; rw [decide_eq_true_iff] at e1; omega
      cases e3 : decide ((a.length : Int) < b.length) with
      | true => simp only [stA, stM, stH, stQ, stE, stC, xI, xF, Nat.reduceLT, Nat.reduceEqDiff, reduceCtorEq, Nat.reduceAdd, Nat.reduceSub, Nat.reduceMul, Nat.max_def, reduceIte, Nat.reduceLeDiff, Nat.reduceBEq, Int.reduceEq, Int.reduceLE, Int.reduceLT, Int.reduceNeg, Int.reduceToNat, x73, stU, b73, Try.f73, a0, a1, a5, e1, e2, e3, D]
      | false => cases e4 : decide ((b.length : Int) < a.length) <;> simp only [stA, stM, stH, stQ, stE, stC, xI, xF, Nat.reduceLT, Nat.reduceEqDiff, reduceCtorEq, Nat.reduceAdd, Nat.reduceSub, Nat.reduceMul, Nat.max_def, reduceIte, Nat.reduceLeDiff, Nat.reduceBEq, Int.reduceEq, Int.reduceLE, Int.reduceLT, Int.reduceNeg, Int.reduceToNat, x73, stU, b73, Try.f73, a0, a1, a5, e1, e2, e3, e4, D]
  simp only [stU, stC, b73, Try.f73] at stop
  induction k with
  | zero => intro i t H hs hi hb a0 a1 a5; exact stop i t H hs (by omega) hb (by omega) a0 a1 a5
  | succ k ih =>
    intro i t H hs hi hb a0 a1 a5
    by_cases hx : i < b.length
    · obtain ⟨x, y, e6, e7, e8⟩ := cmpB_drop (a := a) (b := b) (i := i) (by omega) hx
      have e1 : decide ((i : Int) < a.length) = true := by rw [decide_eq_true_iff]; omega
      have e2 : decide ((i : Int) < b.length) = true := by rw [decide_eq_true_iff]; omega
      have e3 : decide (0 ≤ (i : Int)) = true := by rw [decide_eq_true_iff]; omega
      have e5 := wrap_succ (i := i) (by omega)
      rw [W_loop, e8]
      by_cases h1 : x < y
      · have u1 := decide_eq_true h1
        simp only [stA, stM, stH, stQ, stE, stC, xI, xF, Nat.reduceLT, Nat.reduceEqDiff, reduceCtorEq, Nat.reduceAdd, Nat.reduceSub, Nat.reduceMul, Nat.max_def, reduceIte, Nat.reduceLeDiff, Nat.reduceBEq, Int.reduceEq, Int.reduceLE, Int.reduceLT, Int.reduceNeg, Int.reduceToNat, x73, stU, b73, Try.f73, a0, a1, a5, e1, e2, e3, e6, e7, D, u8_lt, u1, h1, Int.toNat_natCast]
      · have u1 := decide_eq_false h1
        by_cases h2 : y < x
        · have u2 := decide_eq_true h2
          simp only [stA, stM, stH, stQ, stE, stC, xI, xF, Nat.reduceLT, Nat.reduceEqDiff, reduceCtorEq, Nat.reduceAdd, Nat.reduceSub, Nat.reduceMul, Nat.max_def, reduceIte, Nat.reduceLeDiff, Nat.reduceBEq, Int.reduceEq, Int.reduceLE, Int.reduceLT, Int.reduceNeg, Int.reduceToNat, x73, stU, b73, Try.f73, a0, a1, a5, e1, e2, e3, e6, e7, D, u8_lt, u1, u2, h1, h2, Int.toNat_natCast]
        · have u2 := decide_eq_false h2
          simp only [stA, stM, stH, stQ, stE, stC, xI, xF, Nat.reduceLT, Nat.reduceEqDiff, reduceCtorEq, Nat.reduceAdd, Nat.reduceSub, Nat.reduceMul, Nat.max_def, reduceIte, Nat.reduceLeDiff, Nat.reduceBEq, Int.reduceEq, Int.reduceLE, Int.reduceLT, Int.reduceNeg, Int.reduceToNat, x73, stU, b73, Try.f73, a0, a1, a5, e1, e2, e3, e5, e6, e7, D, u8_lt, u1, u2, h1, h2, Int.toNat_natCast]
          apply ih (i + 1) _ _ _ (by omega) (by omega)
          all_goals simp only [stA, stM, stH, stQ, stE, stC, xI, xF, Nat.reduceLT, Nat.reduceEqDiff, reduceCtorEq, Nat.reduceAdd, Nat.reduceSub, Nat.reduceMul, Nat.max_def, reduceIte, Nat.reduceLeDiff, Nat.reduceBEq, Int.reduceEq, Int.reduceLE, Int.reduceLT, Int.reduceNeg, Int.reduceToNat, a0, a1, a5]
    · exact stop i t H hs (by omega) hb (by omega) a0 a1 a5
theorem eq73 {m : Md} {a b : List UInt8} (hl : a.length ≤ 9223372036854775807) : iso tab fi73 m [.str a, .str b] = some (.lit (.int .i64 (Lib.compareBytes a b))) := by
  refine iso_ret ?_
  have L := @loop73 a b m.gl hl a.length 0
  simp only [stU, stC, b73, Try.f73] at L
  simp only [stA, stM, stH, stQ, stE, stC, xI, xF, Nat.reduceLT, Nat.reduceEqDiff, reduceCtorEq, Nat.reduceAdd, Nat.reduceSub, Nat.reduceMul, Nat.max_def, reduceIte, Nat.reduceLeDiff, Nat.reduceBEq, Int.reduceEq, Int.reduceLE, Int.reduceLT, Int.reduceNeg, Int.reduceToNat, x73, stU, b73, Try.f73]
  apply L
  · simp
  · simp
  all_goals simp only [stA, stM, stH, stQ, stE, stC, xI, xF, Nat.reduceLT, Nat.reduceEqDiff, reduceCtorEq, Nat.reduceAdd, Nat.reduceSub, Nat.reduceMul, Nat.max_def, reduceIte, Nat.reduceLeDiff, Nat.reduceBEq, Int.reduceEq, Int.reduceLE, Int.reduceLT, Int.reduceNeg, Int.reduceToNat]
  rfl
theorem call73 {m : Md} {a b : List UInt8} {H : Tr AO} {hs : Nat} (hl : a.length ≤ 9223372036854775807) : callF tab (evw tab) m 73 [.str a, .str b] H hs = some (.lit (.int .i64 (Lib.compareBytes a b)), H, hs) := callF_iso tcon rfl rfl rfl (eq73 hl)
end Go.Proofs.Ytpehpccahbofiaa.Ev

set_option maxRecDepth 100000
set_option maxHeartbeats 2000000
namespace Go.Proofs.Ytpehpccahbofiaa.Ev
open Go Go.Proofs.Ytpehpccahbofiaa.Ev Go.Proofs Go.Proofs.Ytpehpccahbofiaa Go.Proofs.Ytpehpccahbofiaa.Tab

theorem bool_cmp (a b : Bool) : cmpI (tr a) (tr b) = bif a == b then 0 else bif b then -1 else 1 := by cases a <;> cases b <;> rfl
theorem eq59 {m : Md} {a b : Vl} (hl : a.s.length ≤ 9223372036854775807) : iso tab fi59 m [encV a, encV b] = some (.lit (.int .i64 (vcmp a b))) := by
  refine iso_ret ?_
  unfold vcmp
  cases h1 : decide (a.k < b.k) with
  | true =>
    have h0 : decide (a.k = b.k) = false := by rw [decide_eq_false_iff_not]; rw [decide_eq_true_iff] at h1; omega
    simp only [stA, stM, stH, stQ, stE, stC, xI, xF, Nat.reduceLT, Nat.reduceEqDiff, reduceCtorEq, Nat.reduceAdd, Nat.reduceSub, Nat.reduceMul, Nat.max_def, reduceIte, Nat.reduceLeDiff, Nat.reduceBEq, Int.reduceEq, Int.reduceLE, Int.reduceLT, Int.reduceNeg, Int.reduceToNat, x59, stU, b59, Try.f59, encV, cmpI, h0, h1]
  | false =>
    cases h2 : decide (b.k < a.k) with
    | true =>
      have h0 : decide (a.k = b.k) = false := by rw [decide_eq_false_iff_not]; rw [decide_eq_true_iff] at h2; omega
      simp only [stA, stM, stH, stQ, stE, stC, xI, xF, Nat.reduceLT, Nat.reduceEqDiff, reduceCtorEq, Nat.reduceAdd, Nat.reduceSub, Nat.reduceMul, Nat.max_def, reduceIte, Nat.reduceLeDiff, Nat.reduceBEq, Int.reduceEq, Int.reduceLE, Int.reduceLT, Int.reduceNeg, Int.reduceToNat, x59, stU, b59, Try.f59, encV, cmpI, h0, h1, h2]
    | false =>
      have h0 : decide (a.k = b.k) = true := by rw [decide_eq_true_iff]; rw [decide_eq_false_iff_not] at h1 h2; omega
      cases h3 : decide (a.k = 1) with
      | true =>
        rw [bool_cmp]
        cases h4 : a.b == b.b with
        | true => simp only [stA, stM, stH, stQ, stE, stC, xI, xF, Nat.reduceLT, Nat.reduceEqDiff, reduceCtorEq, Nat.reduceAdd, Nat.reduceSub, Nat.reduceMul, Nat.max_def, reduceIte, Nat.reduceLeDiff, Nat.reduceBEq, Int.reduceEq, Int.reduceLE, Int.reduceLT, Int.reduceNeg, Int.reduceToNat, x59, stU, b59, Try.f59, encV, h0, h1, h2, h3, h4, bb1]
        | false => cases h5 : b.b <;> rw [h5] at h4 <;> simp only [stA, stM, stH, stQ, stE, stC, xI, xF, Nat.reduceLT, Nat.reduceEqDiff, reduceCtorEq, Nat.reduceAdd, Nat.reduceSub, Nat.reduceMul, Nat.max_def, reduceIte, Nat.reduceLeDiff, Nat.reduceBEq, Int.reduceEq, Int.reduceLE, Int.reduceLT, Int.reduceNeg, Int.reduceToNat, x59, stU, b59, Try.f59, encV, h0, h1, h2, h3, h4, h5, bb1]
      | false =>
        cases h4 : decide (a.k = 2) with
        | true =>
          unfold cmpI
          cases h5 : decide (a.n < b.n) with
          | true => simp only [stA, stM, stH, stQ, stE, stC, xI, xF, Nat.reduceLT, Nat.reduceEqDiff, reduceCtorEq, Nat.reduceAdd, Nat.reduceSub, Nat.reduceMul, Nat.max_def, reduceIte, Nat.reduceLeDiff, Nat.reduceBEq, Int.reduceEq, Int.reduceLE, Int.reduceLT, Int.reduceNeg, Int.reduceToNat, x59, stU, b59, Try.f59, encV, h0, h1, h2, h3, h4, h5]
          | false => cases h6 : decide (b.n < a.n) <;> simp only [stA, stM, stH, stQ, stE, stC, xI, xF, Nat.reduceLT, Nat.reduceEqDiff, reduceCtorEq, Nat.reduceAdd, Nat.reduceSub, Nat.reduceMul, Nat.max_def, reduceIte, Nat.reduceLeDiff, Nat.reduceBEq, Int.reduceEq, Int.reduceLE, Int.reduceLT, Int.reduceNeg, Int.reduceToNat, x59, stU, b59, Try.f59, encV, h0, h1, h2, h3, h4, h5, h6]
        | false => cases h5 : decide (a.k = 3) <;> simp only [stA, stM, stH, stQ, stE, stC, xI, xF, Nat.reduceLT, Nat.reduceEqDiff, reduceCtorEq, Nat.reduceAdd, Nat.reduceSub, Nat.reduceMul, Nat.max_def, reduceIte, Nat.reduceLeDiff, Nat.reduceBEq, Int.reduceEq, Int.reduceLE, Int.reduceLT, Int.reduceNeg, Int.reduceToNat, x59, stU, b59, Try.f59, encV, h0, h1, h2, h3, h4, h5, call73 hl]
theorem call59 {m : Md} {a b : Vl} {H : Tr AO} {hs : Nat} (hl : a.s.length ≤ 9223372036854775807) : callF tab (evw tab) m 59 [encV a, encV b] H hs = some (.lit (.int .i64 (vcmp a b)), H, hs) := callF_iso tcon rfl rfl rfl (eq59 hl)

/-- Does a comparison hold? -/
def tst (o : Int) (a b : Vl) : Bool := bif decide (o = 1) then decide (vcmp a b = 0) else bif decide (o = 2) then !decide (vcmp a b = 0) else bif decide (o = 3) then decide (vcmp a b < 0) else
  bif decide (o = 4) then decide (vcmp a b ≤ 0) else bif decide (o = 5) then decide (0 < vcmp a b) else bif decide (o = 6) then decide (0 ≤ vcmp a b) else false
theorem le_split (c : Int) : decide (c ≤ 0) = (decide (c < 0) || decide (c = 0)) := by
  rw [Bool.eq_iff_iff]; simp only [decide_eq_true_iff, Bool.or_eq_true]; omega
theorem ge_split (c : Int) : decide (0 ≤ c) = (decide (0 < c) || decide (c = 0)) := by
  rw [Bool.eq_iff_iff]; simp only [decide_eq_true_iff, Bool.or_eq_true]; omega
theorem eq54 {m : Md} {o : Int} {a b : Vl} : iso tab fi54 m [.lit (.int .i64 o), encV a, encV b] = some (.lit (.bool (tst o a b))) := by
  refine iso_ret ?_
  have E : encV a = .agg a.cs := rfl
  have E2 : encV b = .agg b.cs := rfl
  have C : ∀ (m : Md) (H : Tr AO) (hs : Nat), callF tab (evw tab) m 56 [.agg a.cs, .agg b.cs] H hs = some (.lit (.int .i64 (vcmp a b)), H, hs) := fun _ _ _ => call56
  simp only [Vl.cs] at C E E2
  unfold tst
  rw [le_split, ge_split]
  generalize vcmp a b = c at C
  cases h1 : decide (o = 1) with
  | true => cases g1 : decide (c = 0) <;> simp only [stA, stM, stH, stQ, stE, stC, xI, xF, Nat.reduceLT, Nat.reduceEqDiff, reduceCtorEq, Nat.reduceAdd, Nat.reduceSub, Nat.reduceMul, Nat.max_def, reduceIte, Nat.reduceLeDiff, Nat.reduceBEq, Int.reduceEq, Int.reduceLE, Int.reduceLT, Int.reduceNeg, Int.reduceToNat, x54, stU, b54, Try.f54, E, E2, C, h1, g1]
  | false =>
    cases h2 : decide (o = 2) with
    | true => cases g1 : decide (c = 0) <;> simp only [stA, stM, stH, stQ, stE, stC, xI, xF, Nat.reduceLT, Nat.reduceEqDiff, reduceCtorEq, Nat.reduceAdd, Nat.reduceSub, Nat.reduceMul, Nat.max_def, reduceIte, Nat.reduceLeDiff, Nat.reduceBEq, Int.reduceEq, Int.reduceLE, Int.reduceLT, Int.reduceNeg, Int.reduceToNat, x54, stU, b54, Try.f54, E, E2, C, h1, h2, g1]
    | false =>
      cases h3 : decide (o = 3) with
      | true =>
        have h4 : decide (o = 4) = false := by rw [decide_eq_false_iff_not]; rw [decide_eq_true_iff] at h3; omega
        cases g1 : decide (c < 0) <;> cases g2 : decide (c = 0) <;> simp only [stA, stM, stH, stQ, stE, stC, xI, xF, Nat.reduceLT, Nat.reduceEqDiff, reduceCtorEq, Nat.reduceAdd, Nat.reduceSub, Nat.reduceMul, Nat.max_def, reduceIte, Nat.reduceLeDiff, Nat.reduceBEq, Int.reduceEq, Int.reduceLE, Int.reduceLT, Int.reduceNeg, Int.reduceToNat, x54, stU, b54, Try.f54, E, E2, C, h1, h2, h3, h4, g1, g2]
      | false =>
        cases h4 : decide (o = 4) with
        | true => cases g1 : decide (c < 0) <;> cases g2 : decide (c = 0) <;> simp only [stA, stM, stH, stQ, stE, stC, xI, xF, Nat.reduceLT, Nat.reduceEqDiff, reduceCtorEq, Nat.reduceAdd, Nat.reduceSub, Nat.reduceMul, Nat.max_def, reduceIte, Nat.reduceLeDiff, Nat.reduceBEq, Int.reduceEq, Int.reduceLE, Int.reduceLT, Int.reduceNeg, Int.reduceToNat, x54, stU, b54, Try.f54, E, E2, C, h1, h2, h3, h4, g1, g2]
        | false =>
          cases h5 : decide (o = 5) with
          | true =>
            have h6 : decide (o = 6) = false := by rw [decide_eq_false_iff_not]; rw [decide_eq_true_iff] at h5; omega
            cases g1 : decide (0 < c) <;> cases g2 : decide (c = 0) <;> simp only [stA, stM, stH, stQ, stE, stC, xI, xF, Nat.reduceLT, Nat.reduceEqDiff, reduceCtorEq, Nat.reduceAdd, Nat.reduceSub, Nat.reduceMul, Nat.max_def, reduceIte, Nat.reduceLeDiff, Nat.reduceBEq, Int.reduceEq, Int.reduceLE, Int.reduceLT, Int.reduceNeg, Int.reduceToNat, x54, stU, b54, Try.f54, E, E2, C, h1, h2, h3, h4, h5, h6, g1, g2]
          | false =>
            cases h6 : decide (o = 6) with
            | true => cases g1 : decide (0 < c) <;> cases g2 : decide (c = 0) <;> simp only [stA, stM, stH, stQ, stE, stC, xI, xF, Nat.reduceLT, Nat.reduceEqDiff, reduceCtorEq, Nat.reduceAdd, Nat.reduceSub, Nat.reduceMul, Nat.max_def, reduceIte, Nat.reduceLeDiff, Nat.reduceBEq, Int.reduceEq, Int.reduceLE, Int.reduceLT, Int.reduceNeg, Int.reduceToNat, x54, stU, b54, Try.f54, E, E2, C, h1, h2, h3, h4, h5, h6, g1, g2]
            | false => simp only [stA, stM, stH, stQ, stE, stC, xI, xF, Nat.reduceLT, Nat.reduceEqDiff, reduceCtorEq, Nat.reduceAdd, Nat.reduceSub, Nat.reduceMul, Nat.max_def, reduceIte, Nat.reduceLeDiff, Nat.reduceBEq, Int.reduceEq, Int.reduceLE, Int.reduceLT, Int.reduceNeg, Int.reduceToNat, x54, stU, b54, Try.f54, E, E2, C, h1, h2, h3, h4, h5, h6]
theorem call54 {m : Md} {o : Int} {a b : Vl} {H : Tr AO} {hs : Nat} : callF tab (evw tab) m 54 [.lit (.int .i64 o), encV a, encV b] H hs = some (.lit (.bool (tst o a b)), H, hs) := callF_iso tcon rfl rfl rfl eq54
theorem eq60 {m : Md} {o : Int} {a b : Vl} (hl : a.s.length ≤ 9223372036854775807) : iso tab fi60 m [.lit (.int .i64 o), encV a, encV b] = some (.lit (.bool (tst o a b))) := by
  refine iso_ret ?_
  have E : encV a = .agg a.cs := rfl
  have E2 : encV b = .agg b.cs := rfl
  have C : ∀ (m : Md) (H : Tr AO) (hs : Nat), callF tab (evw tab) m 59 [.agg a.cs, .agg b.cs] H hs = some (.lit (.int .i64 (vcmp a b)), H, hs) := fun _ _ _ => call59 hl
  simp only [Vl.cs] at C E E2
  unfold tst
  generalize vcmp a b = c at C
  cases h1 : decide (o = 1) with
  | true => simp only [stA, stM, stH, stQ, stE, stC, xI, xF, Nat.reduceLT, Nat.reduceEqDiff, reduceCtorEq, Nat.reduceAdd, Nat.reduceSub, Nat.reduceMul, Nat.max_def, reduceIte, Nat.reduceLeDiff, Nat.reduceBEq, Int.reduceEq, Int.reduceLE, Int.reduceLT, Int.reduceNeg, Int.reduceToNat, x60, stU, b60, Try.f60, E, E2, C, h1]
  | false =>
    cases h2 : decide (o = 2) with
    | true => simp only [stA, stM, stH, stQ, stE, stC, xI, xF, Nat.reduceLT, Nat.reduceEqDiff, reduceCtorEq, Nat.reduceAdd, Nat.reduceSub, Nat.reduceMul, Nat.max_def, reduceIte, Nat.reduceLeDiff, Nat.reduceBEq, Int.reduceEq, Int.reduceLE, Int.reduceLT, Int.reduceNeg, Int.reduceToNat, x60, stU, b60, Try.f60, E, E2, C, h1, h2]
    | false =>
      cases h3 : decide (o = 3) with
      | true => simp only [stA, stM, stH, stQ, stE, stC, xI, xF, Nat.reduceLT, Nat.reduceEqDiff, reduceCtorEq, Nat.reduceAdd, Nat.reduceSub, Nat.reduceMul, Nat.max_def, reduceIte, Nat.reduceLeDiff, Nat.reduceBEq, Int.reduceEq, Int.reduceLE, Int.reduceLT, Int.reduceNeg, Int.reduceToNat, x60, stU, b60, Try.f60, E, E2, C, h1, h2, h3]
      | false =>
        cases h4 : decide (o = 4) with
        | true => simp only [stA, stM, stH, stQ, stE, stC, xI, xF, Nat.reduceLT, Nat.reduceEqDiff, reduceCtorEq, Nat.reduceAdd, Nat.reduceSub, Nat.reduceMul, Nat.max_def, reduceIte, Nat.reduceLeDiff, Nat.reduceBEq, Int.reduceEq, Int.reduceLE, Int.reduceLT, Int.reduceNeg, Int.reduceToNat, x60, stU, b60, Try.f60, E, E2, C, h1, h2, h3, h4]
        | false =>
          cases h5 : decide (o = 5) with
          | true => simp only [stA, stM, stH, stQ, stE, stC, xI, xF, Nat.reduceLT, Nat.reduceEqDiff, reduceCtorEq, Nat.reduceAdd, Nat.reduceSub, Nat.reduceMul, Nat.max_def, reduceIte, Nat.reduceLeDiff, Nat.reduceBEq, Int.reduceEq, Int.reduceLE, Int.reduceLT, Int.reduceNeg, Int.reduceToNat, x60, stU, b60, Try.f60, E, E2, C, h1, h2, h3, h4, h5]
          | false => cases h6 : decide (o = 6) <;> simp only [stA, stM, stH, stQ, stE, stC, xI, xF, Nat.reduceLT, Nat.reduceEqDiff, reduceCtorEq, Nat.reduceAdd, Nat.reduceSub, Nat.reduceMul, Nat.max_def, reduceIte, Nat.reduceLeDiff, Nat.reduceBEq, Int.reduceEq, Int.reduceLE, Int.reduceLT, Int.reduceNeg, Int.reduceToNat, x60, stU, b60, Try.f60, E, E2, C, h1, h2, h3, h4, h5, h6]
theorem call60 {m : Md} {o : Int} {a b : Vl} {H : Tr AO} {hs : Nat} (hl : a.s.length ≤ 9223372036854775807) : callF tab (evw tab) m 60 [.lit (.int .i64 o), encV a, encV b] H hs = some (.lit (.bool (tst o a b)), H, hs) := callF_iso tcon rfl rfl rfl (eq60 hl)
end Go.Proofs.Ytpehpccahbofiaa.Ev

set_option maxRecDepth 100000
set_option maxHeartbeats 2000000
namespace Go.Proofs.Ytpehpccahbofiaa.Ev
open Go Go.Proofs.Ytpehpccahbofiaa.Ev Go.Proofs Go.Proofs.Ytpehpccahbofiaa Go.Proofs.Ytpehpccahbofiaa.Tab

/-! ### Rows -/
def rcmp : Row → Row → Int
  | [], [] => 0
  | [], _ :: _ => -1
  | _ :: _, [] => 1
  | a :: r, b :: q => bif decide (vcmp a b = 0) then rcmp r q else vcmp a b
theorem rcmp_r {a : Row} : rcmp a [] = bif decide ((0 : Int) < a.length) then 1 else 0 := by
  cases a with
  | nil => rfl
  | cons x a =>
    have : decide ((0 : Int) < ((x :: a).length : Nat)) = true := by rw [decide_eq_true_iff, List.length_cons]; omega
    rw [this]; rfl
theorem rcmp_l {a : Row} : rcmp [] a = bif decide ((0 : Int) < a.length) then -1 else 0 := by
  cases a with
  | nil => rfl
  | cons x a =>
    have : decide ((0 : Int) < ((x :: a).length : Nat)) = true := by rw [decide_eq_true_iff, List.length_cons]; omega
    rw [this]; rfl
theorem loop67 {a b : Row} {gl : Tr (Option AV)} (hl : a.length < 9223372036854775807) : ∀ (k i : Nat) (t : Tr AV) (H : Tr AO) (hs : Nat), i + k = a.length → i ≤ b.length →
    t.get .any 0 = encR a → t.get .any 1 = encR b → t.get .any 2 = .fn (.func 56) [] [] → t.get .any 11 = encR a → t.get .any 12 = .lit (.int .i64 a.length) → t.get .any 13 = .lit (.int .i64 i) →
    RetO tab fi67 (W tab none (fin tab fi67) (lpc fi67 0) (lpk fi67 0) ⟨t, 39, H, hs, [], ⟨true, true, gl⟩⟩) (.lit (.int .i64 (rcmp (a.drop i) (b.drop i)))) := by
  have C : ∀ (a b : Vl) (m : Md) (H : Tr AO) (hs : Nat), callF tab (evw tab) m 56 [.agg a.cs, .agg b.cs] H hs = some (.lit (.int .i64 (vcmp a b)), H, hs) := fun _ _ _ _ _ => call56
  simp only [Vl.cs] at C
  simp only [stU, stC, b67, Try.f67]
  intro k
  induction k with
  | zero =>
    intro i t H hs hi hb a0 a1 a2 a11 a12 a13
    have e1 : decide ((i : Int) < (a).length) = false := by rw [decide_eq_false_iff_not]; omega
    rw [W_loop, List.drop_of_length_le (l := a) (by omega), rcmp_l]
    have e2 : decide ((0 : Int) < ((b.drop i).length : Nat)) = decide ((a.length : Int) < b.length) := by
      rw [List.length_drop, Bool.eq_iff_iff, decide_eq_true_iff, decide_eq_true_iff]; omega
    rw [e2]
    cases e3 : decide ((a.length : Int) < b.length) <;> simp only [stA, stM, stH, stQ, stE, stC, xI, xF, Nat.reduceLT, Nat.reduceEqDiff, reduceCtorEq, Nat.reduceAdd, Nat.reduceSub, Nat.reduceMul, Nat.max_def, reduceIte, Nat.reduceLeDiff, Nat.reduceBEq, Int.reduceEq, Int.reduceLE, Int.reduceLT, Int.reduceNeg, Int.reduceToNat, x67, stU, b67, Try.f67, encR, a0, a1, a2, a11, a12, a13, e1, e3, List.length_map]
    all_goals rfl
  | succ k ih =>
    intro i t H hs hi hb a0 a1 a2 a11 a12 a13
    have hlt : i < (a).length := by omega
    have e1 : decide ((i : Int) < (a).length) = true := by rw [decide_eq_true_iff]; omega
    have e3 : decide (0 ≤ (i : Int)) = true := by rw [decide_eq_true_iff]; omega
    have e4 : (a)[i]? = some (a)[i] := List.getElem?_eq_getElem _
    have e6 : (a).drop i = (a)[i] :: (a).drop (i + 1) := List.drop_eq_getElem_cons hlt
    have e7 : (a).take (i + 1) = (a).take i ++ [(a)[i]] := List.take_succ_eq_append_getElem hlt
    generalize hv : (a)[i] = x at e4 e6 e7
    have e5 := wrap_succ (i := i) (by omega)
    rw [W_loop, e6]
    by_cases hx : i < b.length
    · have g1 : decide ((b.length : Int) ≤ i) = false := by rw [decide_eq_false_iff_not]; omega
      have g4 : b[i]? = some b[i] := List.getElem?_eq_getElem _
      rw [List.drop_eq_getElem_cons hx, rcmp]
      generalize b[i] = y at g4
      cases hc : decide (vcmp x y = 0) with
      | true =>
        simp only [stA, stM, stH, stQ, stE, stC, xI, xF, Nat.reduceLT, Nat.reduceEqDiff, reduceCtorEq, Nat.reduceAdd, Nat.reduceSub, Nat.reduceMul, Nat.max_def, reduceIte, Nat.reduceLeDiff, Nat.reduceBEq, Int.reduceEq, Int.reduceLE, Int.reduceLT, Int.reduceNeg, Int.reduceToNat, x67, stU, b67, Try.f67, encR, encV, Vl.cs, C, a0, a1, a2, a11, a12, a13, e1, e3, e4, e5, List.getElem?_map, List.length_map, Int.toNat_natCast, g1, g4, hc]
        apply ih (i + 1) _ _ _ (by omega) (by omega)
        all_goals simp only [stA, stM, stH, stQ, stE, stC, xI, xF, Nat.reduceLT, Nat.reduceEqDiff, reduceCtorEq, Nat.reduceAdd, Nat.reduceSub, Nat.reduceMul, Nat.max_def, reduceIte, Nat.reduceLeDiff, Nat.reduceBEq, Int.reduceEq, Int.reduceLE, Int.reduceLT, Int.reduceNeg, Int.reduceToNat, encR, a0, a1, a2, a11, a12, a13]
      | false =>
        simp only [stA, stM, stH, stQ, stE, stC, xI, xF, Nat.reduceLT, Nat.reduceEqDiff, reduceCtorEq, Nat.reduceAdd, Nat.reduceSub, Nat.reduceMul, Nat.max_def, reduceIte, Nat.reduceLeDiff, Nat.reduceBEq, Int.reduceEq, Int.reduceLE, Int.reduceLT, Int.reduceNeg, Int.reduceToNat, x67, stU, b67, Try.f67, encR, encV, Vl.cs, C, a0, a1, a2, a11, a12, a13, e1, e3, e4, e5, List.getElem?_map, List.length_map, Int.toNat_natCast, g1, g4, hc]
        rfl
    · have g1 : decide ((b.length : Int) ≤ i) = true := by rw [decide_eq_true_iff]; omega
      rw [List.drop_of_length_le (l := b) (by omega), rcmp]
      simp only [stA, stM, stH, stQ, stE, stC, xI, xF, Nat.reduceLT, Nat.reduceEqDiff, reduceCtorEq, Nat.reduceAdd, Nat.reduceSub, Nat.reduceMul, Nat.max_def, reduceIte, Nat.reduceLeDiff, Nat.reduceBEq, Int.reduceEq, Int.reduceLE, Int.reduceLT, Int.reduceNeg, Int.reduceToNat, x67, stU, b67, Try.f67, encR, encV, Vl.cs, C, a0, a1, a2, a11, a12, a13, e1, e3, e4, e5, List.getElem?_map, List.length_map, Int.toNat_natCast, g1]
      rfl
theorem eq67 {m : Md} {a b : Row} (hl : a.length < 9223372036854775807) : isoO (evw tab) tab fi67 m [encR a, encR b, .fn (.func 56) [] []] = some (.lit (.int .i64 (rcmp a b))) := by
  refine own_ret ?_
  have L := @loop67 a b m.gl hl a.length 0
  simp only [stU, stC, b67, Try.f67] at L
  simp only [stA, stM, stH, stQ, stE, stC, xI, xF, Nat.reduceLT, Nat.reduceEqDiff, reduceCtorEq, Nat.reduceAdd, Nat.reduceSub, Nat.reduceMul, Nat.max_def, reduceIte, Nat.reduceLeDiff, Nat.reduceBEq, Int.reduceEq, Int.reduceLE, Int.reduceLT, Int.reduceNeg, Int.reduceToNat, x67, stU, b67, Try.f67, encR, List.length_map]
  apply L
  · simp
  · simp
  all_goals simp only [stA, stM, stH, stQ, stE, stC, xI, xF, Nat.reduceLT, Nat.reduceEqDiff, reduceCtorEq, Nat.reduceAdd, Nat.reduceSub, Nat.reduceMul, Nat.max_def, reduceIte, Nat.reduceLeDiff, Nat.reduceBEq, Int.reduceEq, Int.reduceLE, Int.reduceLT, Int.reduceNeg, Int.reduceToNat, encR]
  rfl
theorem call67 {m : Md} {a b : Row} {H : Tr AO} {hs : Nat} (hl : a.length < 9223372036854775807) : callF tab (evw tab) m 67 [.lst .no (a.map encV), .lst .no (b.map encV), .fn (.func 56) [] []] H hs = some (.lit (.int .i64 (rcmp a b)), H, hs) :=
  callF_own (H1 := H) tcon rfl rfl rfl (bs := [.lst .no (a.map encV), .lst .no (b.map encV), .fn (.func 56) [] []]) (by simp only [stA, stM, stH, stQ, stE, stC, xI, xF, Nat.reduceLT, Nat.reduceEqDiff, reduceCtorEq, Nat.reduceAdd, Nat.reduceSub, Nat.reduceMul, Nat.max_def, reduceIte, Nat.reduceLeDiff, Nat.reduceBEq, Int.reduceEq, Int.reduceLE, Int.reduceLT, Int.reduceNeg, Int.reduceToNat, dBN]) (by simp only [stA, stM, stH, stQ, stE, stC, xI, xF, Nat.reduceLT, Nat.reduceEqDiff, reduceCtorEq, Nat.reduceAdd, Nat.reduceSub, Nat.reduceMul, Nat.max_def, reduceIte, Nat.reduceLeDiff, Nat.reduceBEq, Int.reduceEq, Int.reduceLE, Int.reduceLT, Int.reduceNeg, Int.reduceToNat, dBN]) (by have := @eq67 m a b hl; simp only [stA, stM, stH, stQ, stE, stC, xI, xF, Nat.reduceLT, Nat.reduceEqDiff, reduceCtorEq, Nat.reduceAdd, Nat.reduceSub, Nat.reduceMul, Nat.max_def, reduceIte, Nat.reduceLeDiff, Nat.reduceBEq, Int.reduceEq, Int.reduceLE, Int.reduceLT, Int.reduceNeg, Int.reduceToNat, dBN, encR] at this ⊢; exact this)
theorem eq49 {m : Md} {a b : Row} (hl : a.length < 9223372036854775807) : iso tab fi49 m [encR a, encR b] = some (.lit (.int .i64 (rcmp a b))) := by
  refine iso_ret ?_
  simp only [stA, stM, stH, stQ, stE, stC, xI, xF, Nat.reduceLT, Nat.reduceEqDiff, reduceCtorEq, Nat.reduceAdd, Nat.reduceSub, Nat.reduceMul, Nat.max_def, reduceIte, Nat.reduceLeDiff, Nat.reduceBEq, Int.reduceEq, Int.reduceLE, Int.reduceLT, Int.reduceNeg, Int.reduceToNat, x49, stU, b49, Try.f49, encR, call67 hl]
theorem call49 {m : Md} {k1 k2 : ATk} {a b : Row} {H : Tr AO} {hs : Nat} (hl : a.length < 9223372036854775807) : callF tab (evw tab) m 49 [.lst k1 (a.map encV), .lst k2 (b.map encV)] H hs = some (.lit (.int .i64 (rcmp a b)), H, hs) :=
  callF_iso tcon rfl rfl (by simp only [stA, stM, stH, stQ, stE, stC, xI, xF, Nat.reduceLT, Nat.reduceEqDiff, reduceCtorEq, Nat.reduceAdd, Nat.reduceSub, Nat.reduceMul, Nat.max_def, reduceIte, Nat.reduceLeDiff, Nat.reduceBEq, Int.reduceEq, Int.reduceLE, Int.reduceLT, Int.reduceNeg, Int.reduceToNat, dBN]) (by have := @eq49 m a b hl; simp only [stA, stM, stH, stQ, stE, stC, xI, xF, Nat.reduceLT, Nat.reduceEqDiff, reduceCtorEq, Nat.reduceAdd, Nat.reduceSub, Nat.reduceMul, Nat.max_def, reduceIte, Nat.reduceLeDiff, Nat.reduceBEq, Int.reduceEq, Int.reduceLE, Int.reduceLT, Int.reduceNeg, Int.reduceToNat, dBN, encR] at this ⊢; exact this)
theorem eq22 {m : Md} {a b : Row} (hl : a.length < 9223372036854775807) : iso tab fi22 m [encR a, encR b] = some (.lit (.bool (decide (rcmp a b = 0)))) := by
  refine iso_ret ?_
  simp only [stA, stM, stH, stQ, stE, stC, xI, xF, Nat.reduceLT, Nat.reduceEqDiff, reduceCtorEq, Nat.reduceAdd, Nat.reduceSub, Nat.reduceMul, Nat.max_def, reduceIte, Nat.reduceLeDiff, Nat.reduceBEq, Int.reduceEq, Int.reduceLE, Int.reduceLT, Int.reduceNeg, Int.reduceToNat, x22, stU, b22, Try.f22, encR, call49 hl]
theorem call22 {m : Md} {k1 k2 : ATk} {a b : Row} {H : Tr AO} {hs : Nat} (hl : a.length < 9223372036854775807) : callF tab (evw tab) m 22 [.lst k1 (a.map encV), .lst k2 (b.map encV)] H hs = some (.lit (.bool (decide (rcmp a b = 0))), H, hs) :=
  callF_iso tcon rfl rfl (by simp only [stA, stM, stH, stQ, stE, stC, xI, xF, Nat.reduceLT, Nat.reduceEqDiff, reduceCtorEq, Nat.reduceAdd, Nat.reduceSub, Nat.reduceMul, Nat.max_def, reduceIte, Nat.reduceLeDiff, Nat.reduceBEq, Int.reduceEq, Int.reduceLE, Int.reduceLT, Int.reduceNeg, Int.reduceToNat, dBN]) (by have := @eq22 m a b hl; simp only [stA, stM, stH, stQ, stE, stC, xI, xF, Nat.reduceLT, Nat.reduceEqDiff, reduceCtorEq, Nat.reduceAdd, Nat.reduceSub, Nat.reduceMul, Nat.max_def, reduceIte, Nat.reduceLeDiff, Nat.reduceBEq, Int.reduceEq, Int.reduceLE, Int.reduceLT, Int.reduceNeg, Int.reduceToNat, dBN, encR] at this ⊢; exact this)

/-! A copy -/
theorem flat_V (v : Vl) : (Nat.beq (encV v).cells.length 4 && flatOk (encV v) && (encV v).cells.all oneCell) = true := rfl
theorem ble_room {n : Nat} (h : n < 1000000) : Nat.ble ((4 * (n) + 4000) * 40) 281474976710656 = true := by rw [Nat.ble_eq]; omega
theorem nl1 {p q : Operand} : binO tab .eql 26 p q (some (.lit (.slice none 0 0))) (some (.lit (.slice none 0 0))) = some (.lit (.bool true)) := rfl
theorem nl2 {p q : Operand} : binO tab .eql 26 p q (some .emp) (some (.lit (.slice none 0 0))) = some (.lit (.bool false)) := rfl
theorem nl3 {p q : Operand} {tk : ATk} {e : AV} {l : List AV} : binO tab .eql 26 p q (some (.lst tk (e :: l))) (some (.lit (.slice none 0 0))) = some (.lit (.bool false)) := rfl
theorem eq52n {m : Md} : iso tab fi52 m [.lit (.slice none 0 0)] = some (.lst .no []) := by
  refine iso_ret ?_
  simp only [stA, stM, stH, stQ, stE, stC, xI, xF, Nat.reduceLT, Nat.reduceEqDiff, reduceCtorEq, Nat.reduceAdd, Nat.reduceSub, Nat.reduceMul, Nat.max_def, reduceIte, Nat.reduceLeDiff, Nat.reduceBEq, Int.reduceEq, Int.reduceLE, Int.reduceLT, Int.reduceNeg, Int.reduceToNat, x52, stU, b52, Try.f52, nl1]
theorem eq52e {m : Md} : iso tab fi52 m [.emp] = some (.lst .no []) := by
  refine iso_ret ?_
  simp only [stA, stM, stH, stQ, stE, stC, xI, xF, Nat.reduceLT, Nat.reduceEqDiff, reduceCtorEq, Nat.reduceAdd, Nat.reduceSub, Nat.reduceMul, Nat.max_def, reduceIte, Nat.reduceLeDiff, Nat.reduceBEq, Int.reduceEq, Int.reduceLE, Int.reduceLT, Int.reduceNeg, Int.reduceToNat, x52, stU, b52, Try.f52, nl2]
theorem eq52 {m : Md} {v : Vl} {r : Row} (hl : r.length < 999999) : iso tab fi52 m [encR (v :: r)] = some (encR (v :: r)) := by
  refine iso_ret ?_
  have e := ble_room (n := r.length + 1) (by have : r.length < 999999 := hl; omega)
  have f : ∀ l : Row, (l.map encV).all (sizeOk 4) = true := all_map fun _ => rfl
  have g : ∀ l : Row, (l.map encV).all (fun e => Nat.beq e.cells.length 4 && flatOk e && e.cells.all oneCell) = true := all_map flat_V
  simp only [stA, stM, stH, stQ, stE, stC, xI, xF, Nat.reduceLT, Nat.reduceEqDiff, reduceCtorEq, Nat.reduceAdd, Nat.reduceSub, Nat.reduceMul, Nat.max_def, reduceIte, Nat.reduceLeDiff, Nat.reduceBEq, Int.reduceEq, Int.reduceLE, Int.reduceLT, Int.reduceNeg, Int.reduceToNat, x52, stU, b52, Try.f52, encR, encV, Vl.cs, nl3, dBN, List.length_map, f, g, e]
theorem call52 {m : Md} {tk : ATk} {r : Row} {H : Tr AO} {hs : Nat} (hl : r.length < 1000000) : callF tab (evw tab) m 52 [.lst tk (r.map encV)] H hs = some (encR r, H, hs) := by
  refine callF_spl tcon rfl rfl (by simp only [stA, stM, stH, stQ, stE, stC, xI, xF, Nat.reduceLT, Nat.reduceEqDiff, reduceCtorEq, Nat.reduceAdd, Nat.reduceSub, Nat.reduceMul, Nat.max_def, reduceIte, Nat.reduceLeDiff, Nat.reduceBEq, Int.reduceEq, Int.reduceLE, Int.reduceLT, Int.reduceNeg, Int.reduceToNat, dBN]) ?_
  simp only [stA, stM, stH, stQ, stE, stC, xI, xF, Nat.reduceLT, Nat.reduceEqDiff, reduceCtorEq, Nat.reduceAdd, Nat.reduceSub, Nat.reduceMul, Nat.max_def, reduceIte, Nat.reduceLeDiff, Nat.reduceBEq, Int.reduceEq, Int.reduceLE, Int.reduceLT, Int.reduceNeg, Int.reduceToNat, dBN]
  cases r with
  | nil => exact isoX_nil (tk := .no) rfl rfl eq52n eq52e rfl
  | cons v r => exact isoX_cons (tk := .no) (i := 0) (e := encV v) (es := r.map encV) rfl rfl (by have := @eq52 m v r (by simp at hl; omega); simpa only [encR] using this)
theorem eq24 {m : Md} {r : Row} (hl : r.length < 1000000) : iso tab fi24 m [encR r] = some (encR r) := by
  refine iso_ret ?_
  simp only [stA, stM, stH, stQ, stE, stC, xI, xF, Nat.reduceLT, Nat.reduceEqDiff, reduceCtorEq, Nat.reduceAdd, Nat.reduceSub, Nat.reduceMul, Nat.max_def, reduceIte, Nat.reduceLeDiff, Nat.reduceBEq, Int.reduceEq, Int.reduceLE, Int.reduceLT, Int.reduceNeg, Int.reduceToNat, x24, stU, b24, Try.f24, encR, call52 hl, dBN]
theorem call24 {m : Md} {tk : ATk} {r : Row} {H : Tr AO} {hs : Nat} (hl : r.length < 1000000) : callF tab (evw tab) m 24 [.lst tk (r.map encV)] H hs = some (encR r, H, hs) :=
  callF_iso tcon rfl rfl (by simp only [stA, stM, stH, stQ, stE, stC, xI, xF, Nat.reduceLT, Nat.reduceEqDiff, reduceCtorEq, Nat.reduceAdd, Nat.reduceSub, Nat.reduceMul, Nat.max_def, reduceIte, Nat.reduceLeDiff, Nat.reduceBEq, Int.reduceEq, Int.reduceLE, Int.reduceLT, Int.reduceNeg, Int.reduceToNat, dBN]) (by have := @eq24 m r hl; simp only [stA, stM, stH, stQ, stE, stC, xI, xF, Nat.reduceLT, Nat.reduceEqDiff, reduceCtorEq, Nat.reduceAdd, Nat.reduceSub, Nat.reduceMul, Nat.max_def, reduceIte, Nat.reduceLeDiff, Nat.reduceBEq, Int.reduceEq, Int.reduceLE, Int.reduceLT, Int.reduceNeg, Int.reduceToNat, dBN, encR] at this ⊢; exact this)
end Go.Proofs.Ytpehpccahbofiaa.Ev

set_option maxRecDepth 100000
set_option maxHeartbeats 2000000
namespace Go.Proofs.Ytpehpccahbofiaa.Ev
open Go Go.Proofs.Ytpehpccahbofiaa.Ev Go.Proofs Go.Proofs.Ytpehpccahbofiaa Go.Proofs.Ytpehpccahbofiaa.Tab

/-! ### Rows, the document's -/
theorem vne {p q : Operand} {k n : Int} {b : Bool} {s : List UInt8} : binO tab .neq 56 p q (some (.agg [.lit (.int .i64 k), .lit (.bool b), .lit (.int .i64 n), .str s])) (some (.agg [.lit (.int .i64 k), .lit (.bool b), .lit (.int .i64 n), .str s])) = some (.lit (.bool false)) := by
  simp [binO, binV, eqv, eqFields, part', isAggD, tt56, tt3, tt4, tt2, tt9]
theorem loop16 {a : Row} {gl : Tr (Option AV)} (hl : a.length < 9223372036854775807) : ∀ (k i : Nat) (t : Tr AV) (H : Tr AO) (hs : Nat), i + k = a.length →
    t.get .any 0 = encR a → t.get .any 1 = encR a → t.get .any 5 = .lit (.int .i64 i) →
    RetN (W tab none (fin tab fi16) (lpc fi16 0) (lpk fi16 0) ⟨t, 26, H, hs, [], ⟨true, true, gl⟩⟩) (.lit (.bool true)) := by
  have D := d16
  simp only [stD, stC, List.cons.injEq, b16, Try.f16] at D
  simp only [stU, stC, b16, Try.f16]
  intro k
  induction k with
  | zero =>
    intro i t H hs hi a0 a1 a5
    have e1 : decide ((i : Int) < (a).length) = false := by rw [decide_eq_false_iff_not]; omega
    rw [W_loop]
    simp only [stA, stM, stH, stQ, stE, stC, xI, xF, Nat.reduceLT, Nat.reduceEqDiff, reduceCtorEq, Nat.reduceAdd, Nat.reduceSub, Nat.reduceMul, Nat.max_def, reduceIte, Nat.reduceLeDiff, Nat.reduceBEq, Int.reduceEq, Int.reduceLE, Int.reduceLT, Int.reduceNeg, Int.reduceToNat, x16, stU, b16, Try.f16, encR, a0, a1, a5, e1, List.length_map]
  | succ k ih =>
    intro i t H hs hi a0 a1 a5
    have hlt : i < (a).length := by omega
    have e1 : decide ((i : Int) < (a).length) = true := by rw [decide_eq_true_iff]; omega
    have e3 : decide (0 ≤ (i : Int)) = true := by rw [decide_eq_true_iff]; omega
    have e4 : (a)[i]? = some (a)[i] := List.getElem?_eq_getElem _
    have e6 : (a).drop i = (a)[i] :: (a).drop (i + 1) := List.drop_eq_getElem_cons hlt
    have e7 : (a).take (i + 1) = (a).take i ++ [(a)[i]] := List.take_succ_eq_append_getElem hlt
    generalize hv : (a)[i] = x at e4 e6 e7
    have e5 := wrap_succ (i := i) (by omega)
    rw [W_loop]
    simp only [stA, stM, stH, stQ, stE, stC, xI, xF, Nat.reduceLT, Nat.reduceEqDiff, reduceCtorEq, Nat.reduceAdd, Nat.reduceSub, Nat.reduceMul, Nat.max_def, reduceIte, Nat.reduceLeDiff, Nat.reduceBEq, Int.reduceEq, Int.reduceLE, Int.reduceLT, Int.reduceNeg, Int.reduceToNat, x16, stU, b16, Try.f16, encR, encV, Vl.cs, a0, a1, a5, e1, e3, e4, e5, List.getElem?_map, List.length_map, Int.toNat_natCast, vne, D]
    apply ih (i + 1) _ _ _ (by omega)
    all_goals simp only [stA, stM, stH, stQ, stE, stC, xI, xF, Nat.reduceLT, Nat.reduceEqDiff, reduceCtorEq, Nat.reduceAdd, Nat.reduceSub, Nat.reduceMul, Nat.max_def, reduceIte, Nat.reduceLeDiff, Nat.reduceBEq, Int.reduceEq, Int.reduceLE, Int.reduceLT, Int.reduceNeg, Int.reduceToNat, encR, a0, a1, a5]
theorem eq16 {m : Md} {a : Row} (hl : a.length < 9223372036854775807) : iso tab fi16 m [encR a, encR a] = some (.lit (.bool true)) := by
  refine iso_ret ?_
  have L := @loop16 a m.gl hl a.length 0
  simp only [stU, stC, b16, Try.f16] at L
  simp only [stA, stM, stH, stQ, stE, stC, xI, xF, Nat.reduceLT, Nat.reduceEqDiff, reduceCtorEq, Nat.reduceAdd, Nat.reduceSub, Nat.reduceMul, Nat.max_def, reduceIte, Nat.reduceLeDiff, Nat.reduceBEq, Int.reduceEq, Int.reduceLE, Int.reduceLT, Int.reduceNeg, Int.reduceToNat, x16, stU, b16, Try.f16, encR, List.length_map]
  apply L
  · simp
  all_goals simp only [stA, stM, stH, stQ, stE, stC, xI, xF, Nat.reduceLT, Nat.reduceEqDiff, reduceCtorEq, Nat.reduceAdd, Nat.reduceSub, Nat.reduceMul, Nat.max_def, reduceIte, Nat.reduceLeDiff, Nat.reduceBEq, Int.reduceEq, Int.reduceLE, Int.reduceLT, Int.reduceNeg, Int.reduceToNat, encR]
  rfl
theorem call16 {m : Md} {k1 k2 : ATk} {a : Row} {H : Tr AO} {hs : Nat} (hl : a.length < 9223372036854775807) : callF tab (evw tab) m 16 [.lst k1 (a.map encV), .lst k2 (a.map encV)] H hs = some (.lit (.bool true), H, hs) :=
  callF_iso tcon rfl rfl (by simp only [stA, stM, stH, stQ, stE, stC, xI, xF, Nat.reduceLT, Nat.reduceEqDiff, reduceCtorEq, Nat.reduceAdd, Nat.reduceSub, Nat.reduceMul, Nat.max_def, reduceIte, Nat.reduceLeDiff, Nat.reduceBEq, Int.reduceEq, Int.reduceLE, Int.reduceLT, Int.reduceNeg, Int.reduceToNat, dBN]) (by have := @eq16 m a hl; simp only [stA, stM, stH, stQ, stE, stC, xI, xF, Nat.reduceLT, Nat.reduceEqDiff, reduceCtorEq, Nat.reduceAdd, Nat.reduceSub, Nat.reduceMul, Nat.max_def, reduceIte, Nat.reduceLeDiff, Nat.reduceBEq, Int.reduceEq, Int.reduceLE, Int.reduceLT, Int.reduceNeg, Int.reduceToNat, dBN, encR] at this ⊢; exact this)
theorem loop11 {a : List Row} {gl : Tr (Option AV)} (hl : a.length < 9223372036854775807) (hr : ∀ r ∈ a, r.length < 9223372036854775807) : ∀ (k i : Nat) (t : Tr AV) (H : Tr AO) (hs : Nat), i + k = a.length →
    t.get .any 0 = .lst .no (a.map encR) → t.get .any 1 = .lst .no (a.map encR) → t.get .any 5 = .lit (.int .i64 i) →
    RetN (W tab none (fin tab fi11) (lpc fi11 0) (lpk fi11 0) ⟨t, 27, H, hs, [], ⟨true, true, gl⟩⟩) (.lit (.bool true)) := by
  have D := d11
  simp only [stD, stC, List.cons.injEq, b11, Try.f11] at D
  simp only [stU, stC, b11, Try.f11]
  intro k
  induction k with
  | zero =>
    intro i t H hs hi a0 a1 a5
    have e1 : decide ((i : Int) < (a).length) = false := by rw [decide_eq_false_iff_not]; omega
    rw [W_loop]
    simp only [stA, stM, stH, stQ, stE, stC, xI, xF, Nat.reduceLT, Nat.reduceEqDiff, reduceCtorEq, Nat.reduceAdd, Nat.reduceSub, Nat.reduceMul, Nat.max_def, reduceIte, Nat.reduceLeDiff, Nat.reduceBEq, Int.reduceEq, Int.reduceLE, Int.reduceLT, Int.reduceNeg, Int.reduceToNat, x11, stU, b11, Try.f11, a0, a1, a5, e1, List.length_map]
  | succ k ih =>
    intro i t H hs hi a0 a1 a5
    have hlt : i < (a).length := by omega
    have e1 : decide ((i : Int) < (a).length) = true := by rw [decide_eq_true_iff]; omega
    have e3 : decide (0 ≤ (i : Int)) = true := by rw [decide_eq_true_iff]; omega
    have e4 : (a)[i]? = some (a)[i] := List.getElem?_eq_getElem _
    have e6 : (a).drop i = (a)[i] :: (a).drop (i + 1) := List.drop_eq_getElem_cons hlt
    have e7 : (a).take (i + 1) = (a).take i ++ [(a)[i]] := List.take_succ_eq_append_getElem hlt
    generalize hv : (a)[i] = x at e4 e6 e7
    have e5 := wrap_succ (i := i) (by omega)
    have hx : x.length < 9223372036854775807 := by rw [← hv]; exact hr _ (List.getElem_mem _)
    rw [W_loop]
    simp only [stA, stM, stH, stQ, stE, stC, xI, xF, Nat.reduceLT, Nat.reduceEqDiff, reduceCtorEq, Nat.reduceAdd, Nat.reduceSub, Nat.reduceMul, Nat.max_def, reduceIte, Nat.reduceLeDiff, Nat.reduceBEq, Int.reduceEq, Int.reduceLE, Int.reduceLT, Int.reduceNeg, Int.reduceToNat, x11, stU, b11, Try.f11, encR, a0, a1, a5, e1, e3, e4, e5, List.getElem?_map, List.length_map, Int.toNat_natCast, call16 hx, D, dBN]
    apply ih (i + 1) _ _ _ (by omega)
    all_goals simp only [stA, stM, stH, stQ, stE, stC, xI, xF, Nat.reduceLT, Nat.reduceEqDiff, reduceCtorEq, Nat.reduceAdd, Nat.reduceSub, Nat.reduceMul, Nat.max_def, reduceIte, Nat.reduceLeDiff, Nat.reduceBEq, Int.reduceEq, Int.reduceLE, Int.reduceLT, Int.reduceNeg, Int.reduceToNat, a0, a1, a5]
theorem eq11 {m : Md} {a : List Row} (hl : a.length < 9223372036854775807) (hr : ∀ r ∈ a, r.length < 9223372036854775807) : iso tab fi11 m [.lst .no (a.map encR), .lst .no (a.map encR)] = some (.lit (.bool true)) := by
  refine iso_ret ?_
  have L := @loop11 a m.gl hl hr a.length 0
  simp only [stU, stC, b11, Try.f11] at L
  simp only [stA, stM, stH, stQ, stE, stC, xI, xF, Nat.reduceLT, Nat.reduceEqDiff, reduceCtorEq, Nat.reduceAdd, Nat.reduceSub, Nat.reduceMul, Nat.max_def, reduceIte, Nat.reduceLeDiff, Nat.reduceBEq, Int.reduceEq, Int.reduceLE, Int.reduceLT, Int.reduceNeg, Int.reduceToNat, x11, stU, b11, Try.f11, List.length_map]
  apply L
  · simp
  all_goals simp only [stA, stM, stH, stQ, stE, stC, xI, xF, Nat.reduceLT, Nat.reduceEqDiff, reduceCtorEq, Nat.reduceAdd, Nat.reduceSub, Nat.reduceMul, Nat.max_def, reduceIte, Nat.reduceLeDiff, Nat.reduceBEq, Int.reduceEq, Int.reduceLE, Int.reduceLT, Int.reduceNeg, Int.reduceToNat]
  rfl
theorem call11 {m : Md} {k1 k2 : ATk} {a : List Row} {H : Tr AO} {hs : Nat} (hl : a.length < 9223372036854775807) (hr : ∀ r ∈ a, r.length < 9223372036854775807) : callF tab (evw tab) m 11 [.lst k1 (a.map encR), .lst k2 (a.map encR)] H hs = some (.lit (.bool true), H, hs) :=
  callF_iso tcon rfl rfl (by simp only [stA, stM, stH, stQ, stE, stC, xI, xF, Nat.reduceLT, Nat.reduceEqDiff, reduceCtorEq, Nat.reduceAdd, Nat.reduceSub, Nat.reduceMul, Nat.max_def, reduceIte, Nat.reduceLeDiff, Nat.reduceBEq, Int.reduceEq, Int.reduceLE, Int.reduceLT, Int.reduceNeg, Int.reduceToNat, dBN]) (by have := @eq11 m a hl hr; simp only [stA, stM, stH, stQ, stE, stC, xI, xF, Nat.reduceLT, Nat.reduceEqDiff, reduceCtorEq, Nat.reduceAdd, Nat.reduceSub, Nat.reduceMul, Nat.max_def, reduceIte, Nat.reduceLeDiff, Nat.reduceBEq, Int.reduceEq, Int.reduceLE, Int.reduceLT, Int.reduceNeg, Int.reduceToNat, dBN] at this ⊢; exact this)

theorem loop39 {a b : Row} {gl : Tr (Option AV)} (hl : a.length < 9223372036854775807) (ha : ∀ v ∈ a, v.s.length ≤ 9223372036854775807) : ∀ (k i : Nat) (t : Tr AV) (H : Tr AO) (hs : Nat), i + k = a.length → i ≤ b.length →
    t.get .any 0 = encR a → t.get .any 1 = encR b → t.get .any 5 = .lit (.int .i64 i) →
    RetN (W tab none (fin tab fi39) (lpc fi39 0) (lpk fi39 0) ⟨t, 41, H, hs, [], ⟨true, true, gl⟩⟩) (.lit (.int .i64 (rcmp (a.drop i) (b.drop i)))) := by
  have C : ∀ (a b : Vl) (m : Md) (H : Tr AO) (hs : Nat), a.s.length ≤ 9223372036854775807 → callF tab (evw tab) m 59 [.agg a.cs, .agg b.cs] H hs = some (.lit (.int .i64 (vcmp a b)), H, hs) := fun _ _ _ _ _ h => call59 h
  simp only [Vl.cs] at C
  have D := d39
  simp only [stD, stC, List.cons.injEq, b39, Try.f39] at D
  simp only [stU, stC, b39, Try.f39]
  intro k
  induction k with
  | zero =>
    intro i t H hs hi hb a0 a1 a5
    have e1 : decide ((i : Int) < (a).length) = false := by rw [decide_eq_false_iff_not]; omega
    rw [W_loop, List.drop_of_length_le (l := a) (by omega), rcmp_l]
    have e2 : decide ((0 : Int) < ((b.drop i).length : Nat)) = decide ((a.length : Int) < b.length) := by
      rw [List.length_drop, Bool.eq_iff_iff, decide_eq_true_iff, decide_eq_true_iff]; omega
    rw [e2]
    cases e3 : decide ((a.length : Int) < b.length) with
    | true => simp only [stA, stM, stH, stQ, stE, stC, xI, xF, Nat.reduceLT, Nat.reduceEqDiff, reduceCtorEq, Nat.reduceAdd, Nat.reduceSub, Nat.reduceMul, Nat.max_def, reduceIte, Nat.reduceLeDiff, Nat.reduceBEq, Int.reduceEq, Int.reduceLE, Int.reduceLT, Int.reduceNeg, Int.reduceToNat, x39, stU, b39, Try.f39, encR, a0, a1, a5, e1, e3, List.length_map]
    | false =>
      have e4 : decide ((b.length : Int) < a.length) = false := by rw [decide_eq_false_iff_not]; omega
      simp only [stA, stM, stH, stQ, stE, stC, xI, xF, Nat.reduceLT, Nat.reduceEqDiff, reduceCtorEq, Nat.reduceAdd, Nat.reduceSub, Nat.reduceMul, Nat.max_def, reduceIte, Nat.reduceLeDiff, Nat.reduceBEq, Int.reduceEq, Int.reduceLE, Int.reduceLT, Int.reduceNeg, Int.reduceToNat, x39, stU, b39, Try.f39, encR, a0, a1, a5, e1, e3, e4, List.length_map]
  | succ k ih =>
    intro i t H hs hi hb a0 a1 a5
    have hlt : i < (a).length := by omega
    have e1 : decide ((i : Int) < (a).length) = true := by rw [decide_eq_true_iff]; omega
    have e3 : decide (0 ≤ (i : Int)) = true := by rw [decide_eq_true_iff]; omega
    have e4 : (a)[i]? = some (a)[i] := List.getElem?_eq_getElem _
    have e6 : (a).drop i = (a)[i] :: (a).drop (i + 1) := List.drop_eq_getElem_cons hlt
    have e7 : (a).take (i + 1) = (a).take i ++ [(a)[i]] := List.take_succ_eq_append_getElem hlt
    generalize hv : (a)[i] = x at e4 e6 e7
    have e5 := wrap_succ (i := i) (by omega)
    have hx0 : x.s.length ≤ 9223372036854775807 := by rw [← hv]; exact ha _ (List.getElem_mem _)
    rw [W_loop, e6]
    by_cases hx : i < b.length
    · have g1 : decide ((i : Int) < b.length) = true := by rw [decide_eq_true_iff]; omega
      have g4 : b[i]? = some b[i] := List.getElem?_eq_getElem _
      rw [List.drop_eq_getElem_cons hx, rcmp]
      generalize b[i] = y at g4
      cases hc : decide (vcmp x y = 0) with
      | true =>
        simp only [stA, stM, stH, stQ, stE, stC, xI, xF, Nat.reduceLT, Nat.reduceEqDiff, reduceCtorEq, Nat.reduceAdd, Nat.reduceSub, Nat.reduceMul, Nat.max_def, reduceIte, Nat.reduceLeDiff, Nat.reduceBEq, Int.reduceEq, Int.reduceLE, Int.reduceLT, Int.reduceNeg, Int.reduceToNat, x39, stU, b39, Try.f39, encR, encV, Vl.cs, C _ _ _ _ _ hx0, a0, a1, a5, e1, e3, e4, e5, List.getElem?_map, List.length_map, Int.toNat_natCast, g1, g4, hc, D]
        apply ih (i + 1) _ _ _ (by omega) (by omega)
        all_goals simp only [stA, stM, stH, stQ, stE, stC, xI, xF, Nat.reduceLT, Nat.reduceEqDiff, reduceCtorEq, Nat.reduceAdd, Nat.reduceSub, Nat.reduceMul, Nat.max_def, reduceIte, Nat.reduceLeDiff, Nat.reduceBEq, Int.reduceEq, Int.reduceLE, Int.reduceLT, Int.reduceNeg, Int.reduceToNat, encR, a0, a1, a5]
      | false => simp only [stA, stM, stH, stQ, stE, stC, xI, xF, Nat.reduceLT, Nat.reduceEqDiff, reduceCtorEq, Nat.reduceAdd, Nat.reduceSub, Nat.reduceMul, Nat.max_def, reduceIte, Nat.reduceLeDiff, Nat.reduceBEq, Int.reduceEq, Int.reduceLE, Int.reduceLT, Int.reduceNeg, Int.reduceToNat, x39, stU, b39, Try.f39, encR, encV, Vl.cs, C _ _ _ _ _ hx0, a0, a1, a5, e1, e3, e4, e5, List.getElem?_map, List.length_map, Int.toNat_natCast, g1, g4, hc, D]
    · have g1 : decide ((i : Int) < b.length) = false := by rw [decide_eq_false_iff_not]; omega
      have g2 : decide ((a.length : Int) < b.length) = false := by rw [decide_eq_false_iff_not]; omega
      have g3 : decide ((b.length : Int) < a.length) = true := by rw [decide_eq_true_iff]; omega
      rw [List.drop_of_length_le (l := b) (by omega), rcmp]
      simp only [stA, stM, stH, stQ, stE, stC, xI, xF, Nat.reduceLT, Nat.reduceEqDiff, reduceCtorEq, Nat.reduceAdd, Nat.reduceSub, Nat.reduceMul, Nat.max_def, reduceIte, Nat.reduceLeDiff, Nat.reduceBEq, Int.reduceEq, Int.reduceLE, Int.reduceLT, Int.reduceNeg, Int.reduceToNat, x39, stU, b39, Try.f39, encR, a0, a1, a5, e1, e3, e4, e5, List.getElem?_map, List.length_map, Int.toNat_natCast, g1, g2, g3]
theorem eq39 {m : Md} {a b : Row} (hl : a.length < 9223372036854775807) (ha : ∀ v ∈ a, v.s.length ≤ 9223372036854775807) : iso tab fi39 m [encR a, encR b] = some (.lit (.int .i64 (rcmp a b))) := by
  refine iso_ret ?_
  have L := @loop39 a b m.gl hl ha a.length 0
  simp only [stU, stC, b39, Try.f39] at L
  simp only [stA, stM, stH, stQ, stE, stC, xI, xF, Nat.reduceLT, Nat.reduceEqDiff, reduceCtorEq, Nat.reduceAdd, Nat.reduceSub, Nat.reduceMul, Nat.max_def, reduceIte, Nat.reduceLeDiff, Nat.reduceBEq, Int.reduceEq, Int.reduceLE, Int.reduceLT, Int.reduceNeg, Int.reduceToNat, x39, stU, b39, Try.f39, encR, List.length_map]
  apply L
  · simp
  · simp
  all_goals simp only [stA, stM, stH, stQ, stE, stC, xI, xF, Nat.reduceLT, Nat.reduceEqDiff, reduceCtorEq, Nat.reduceAdd, Nat.reduceSub, Nat.reduceMul, Nat.max_def, reduceIte, Nat.reduceLeDiff, Nat.reduceBEq, Int.reduceEq, Int.reduceLE, Int.reduceLT, Int.reduceNeg, Int.reduceToNat, encR]
  rfl
theorem call39 {m : Md} {k1 k2 : ATk} {a b : Row} {H : Tr AO} {hs : Nat} (hl : a.length < 9223372036854775807) (ha : ∀ v ∈ a, v.s.length ≤ 9223372036854775807) : callF tab (evw tab) m 39 [.lst k1 (a.map encV), .lst k2 (b.map encV)] H hs = some (.lit (.int .i64 (rcmp a b)), H, hs) :=
  callF_iso tcon rfl rfl (by simp only [stA, stM, stH, stQ, stE, stC, xI, xF, Nat.reduceLT, Nat.reduceEqDiff, reduceCtorEq, Nat.reduceAdd, Nat.reduceSub, Nat.reduceMul, Nat.max_def, reduceIte, Nat.reduceLeDiff, Nat.reduceBEq, Int.reduceEq, Int.reduceLE, Int.reduceLT, Int.reduceNeg, Int.reduceToNat, dBN]) (by have := @eq39 m a b hl ha; simp only [stA, stM, stH, stQ, stE, stC, xI, xF, Nat.reduceLT, Nat.reduceEqDiff, reduceCtorEq, Nat.reduceAdd, Nat.reduceSub, Nat.reduceMul, Nat.max_def, reduceIte, Nat.reduceLeDiff, Nat.reduceBEq, Int.reduceEq, Int.reduceLE, Int.reduceLT, Int.reduceNeg, Int.reduceToNat, dBN, encR] at this ⊢; exact this)
theorem eq17 {m : Md} {a b : Row} (hl : a.length < 9223372036854775807) (ha : ∀ v ∈ a, v.s.length ≤ 9223372036854775807) : iso tab fi17 m [encR a, encR b] = some (.lit (.bool (decide (rcmp a b = 0)))) := by
  refine iso_ret ?_
  simp only [stA, stM, stH, stQ, stE, stC, xI, xF, Nat.reduceLT, Nat.reduceEqDiff, reduceCtorEq, Nat.reduceAdd, Nat.reduceSub, Nat.reduceMul, Nat.max_def, reduceIte, Nat.reduceLeDiff, Nat.reduceBEq, Int.reduceEq, Int.reduceLE, Int.reduceLT, Int.reduceNeg, Int.reduceToNat, x17, stU, b17, Try.f17, encR, call39 hl ha]
theorem call17 {m : Md} {k1 k2 : ATk} {a b : Row} {H : Tr AO} {hs : Nat} (hl : a.length < 9223372036854775807) (ha : ∀ v ∈ a, v.s.length ≤ 9223372036854775807) : callF tab (evw tab) m 17 [.lst k1 (a.map encV), .lst k2 (b.map encV)] H hs = some (.lit (.bool (decide (rcmp a b = 0))), H, hs) :=
  callF_iso tcon rfl rfl (by simp only [stA, stM, stH, stQ, stE, stC, xI, xF, Nat.reduceLT, Nat.reduceEqDiff, reduceCtorEq, Nat.reduceAdd, Nat.reduceSub, Nat.reduceMul, Nat.max_def, reduceIte, Nat.reduceLeDiff, Nat.reduceBEq, Int.reduceEq, Int.reduceLE, Int.reduceLT, Int.reduceNeg, Int.reduceToNat, dBN]) (by have := @eq17 m a b hl ha; simp only [stA, stM, stH, stQ, stE, stC, xI, xF, Nat.reduceLT, Nat.reduceEqDiff, reduceCtorEq, Nat.reduceAdd, Nat.reduceSub, Nat.reduceMul, Nat.max_def, reduceIte, Nat.reduceLeDiff, Nat.reduceBEq, Int.reduceEq, Int.reduceLE, Int.reduceLT, Int.reduceNeg, Int.reduceToNat, dBN, encR] at this ⊢; exact this)
end Go.Proofs.Ytpehpccahbofiaa.Ev

set_option maxRecDepth 100000
set_option maxHeartbeats 2000000
namespace Go.Proofs.Ytpehpccahbofiaa.Ev
open Go Go.Proofs.Ytpehpccahbofiaa.Ev Go.Proofs Go.Proofs.Ytpehpccahbofiaa Go.Proofs.Ytpehpccahbofiaa.Tab

def v0 : Vl := ⟨0, false, 0, []⟩
theorem eq68 {m : Md} : iso tab fi68 m [] = some (encV v0) := by
  refine iso_ret ?_
  simp only [stA, stM, stH, stQ, stE, stC, xI, xF, Nat.reduceLT, Nat.reduceEqDiff, reduceCtorEq, Nat.reduceAdd, Nat.reduceSub, Nat.reduceMul, Nat.max_def, reduceIte, Nat.reduceLeDiff, Nat.reduceBEq, Int.reduceEq, Int.reduceLE, Int.reduceLT, Int.reduceNeg, Int.reduceToNat, x68, stU, b68, Try.f68, ldv, tt56, isAggD]
  rfl
theorem call68 {m : Md} {H : Tr AO} {hs : Nat} : callF tab (evw tab) m 68 [] H hs = some (encV v0, H, hs) := callF_iso tcon rfl rfl rfl eq68
def isAt (a : Lt) : Bool := decide (a.o = 0) && !a.no
abbrev Lt.cs (a : Lt) : List AV := [.lit (.bool a.no), .str a.n, .lst .no (a.l.map encT), .lit (.int .i64 a.o)]
theorem eq37 {m : Md} {a : Lt} : iso tab fi37 m [encA a] = some (.lit (.bool (isAt a))) := by
  refine iso_ret ?_
  unfold isAt
  cases h : decide (a.o = 0) <;> cases h2 : a.no <;> simp only [stA, stM, stH, stQ, stE, stC, xI, xF, Nat.reduceLT, Nat.reduceEqDiff, reduceCtorEq, Nat.reduceAdd, Nat.reduceSub, Nat.reduceMul, Nat.max_def, reduceIte, Nat.reduceLeDiff, Nat.reduceBEq, Int.reduceEq, Int.reduceLE, Int.reduceLT, Int.reduceNeg, Int.reduceToNat, x37, stU, b37, Try.f37, encA, h, h2]
theorem call37 {m : Md} {a : Lt} {H : Tr AO} {hs : Nat} : callF tab (evw tab) m 37 [.agg a.cs] H hs = some (.lit (.bool (isAt a)), H, hs) := 
  callF_iso tcon rfl rfl (by simp only [stA, stM, stH, stQ, stE, stC, xI, xF, Nat.reduceLT, Nat.reduceEqDiff, reduceCtorEq, Nat.reduceAdd, Nat.reduceSub, Nat.reduceMul, Nat.max_def, reduceIte, Nat.reduceLeDiff, Nat.reduceBEq, Int.reduceEq, Int.reduceLE, Int.reduceLT, Int.reduceNeg, Int.reduceToNat, dBN]) (by have := @eq37 m a; simp only [stA, stM, stH, stQ, stE, stC, xI, xF, Nat.reduceLT, Nat.reduceEqDiff, reduceCtorEq, Nat.reduceAdd, Nat.reduceSub, Nat.reduceMul, Nat.max_def, reduceIte, Nat.reduceLeDiff, Nat.reduceBEq, Int.reduceEq, Int.reduceLE, Int.reduceLT, Int.reduceNeg, Int.reduceToNat, dBN, encA] at this ⊢; exact this)
def ats (x : List Lt) : List Lt := x.filter isAt

theorem app20 {H : Tr AO} {hs : Nat} {A : AV} {es : List Lt} (x : Lt) (h : Acc H hs 4 A (es.map encA)) (hl : es.length < 1000000) : appendO H hs true true 4 56 (some A) (some (.lst .full [.agg x.cs])) = some (.lst (.room hs) ((es ++ [x]).map encA), accH H hs 4 A, hs + 1) := accApp x h rfl (by omega)
theorem loop20 {b : List Lt} {gl : Tr (Option AV)} (hl : b.length < 1000000) : ∀ (k i : Nat) (t : Tr AV) (H : Tr AO) (hs : Nat) (A : AV) (es : List Lt), i + k = b.length → es.length ≤ i → Acc H hs 4 A (es.map encA) →
    t.get .any 3 = A → t.get .any 7 = .lst .no (b.map encA) → t.get .any 8 = .lit (.int .i64 b.length) → t.get .any 9 = .lit (.int .i64 i) →
    RetN (W tab none (fin tab fi20) (lpc fi20 0) (lpk fi20 0) ⟨t, 27, H, hs, [], ⟨true, true, gl⟩⟩) (.lst .no ((es ++ ats (b.drop i)).map encA)) := by
  simp only [stU, stC, b20, Try.f20]
  intro k
  induction k with
  | zero =>
    intro i t H hs A es hi he hA a3 a7 a8 a9
    have e1 : decide ((i : Int) < (b).length) = false := by rw [decide_eq_false_iff_not]; omega
    rw [W_loop, List.drop_of_length_le (by omega)]
    simp only [stA, stM, stH, stQ, stE, stC, xI, xF, Nat.reduceLT, Nat.reduceEqDiff, reduceCtorEq, Nat.reduceAdd, Nat.reduceSub, Nat.reduceMul, Nat.max_def, reduceIte, Nat.reduceLeDiff, Nat.reduceBEq, Int.reduceEq, Int.reduceLE, Int.reduceLT, Int.reduceNeg, Int.reduceToNat, x20, stU, b20, Try.f20, a3, a7, a8, a9, e1, ats, List.filter_nil, accBare bare_A hA, accNrm nrm_A hA]
  | succ k ih =>
    intro i t H hs A es hi he hA a3 a7 a8 a9
    have hlt : i < (b).length := by omega
    have e1 : decide ((i : Int) < (b).length) = true := by rw [decide_eq_true_iff]; omega
    have e3 : decide (0 ≤ (i : Int)) = true := by rw [decide_eq_true_iff]; omega
    have e4 : (b)[i]? = some (b)[i] := List.getElem?_eq_getElem _
    have e6 : (b).drop i = (b)[i] :: (b).drop (i + 1) := List.drop_eq_getElem_cons hlt
    have e7 : (b).take (i + 1) = (b).take i ++ [(b)[i]] := List.take_succ_eq_append_getElem hlt
    generalize hv : (b)[i] = x at e4 e6 e7
    have e5 := wrap_succ (i := i) (by omega)
    have hB : ∀ X Y, Acc ((H.put .dead hs X).put .dead hs Y) (hs + 1) 4 A (es.map encA) := fun X Y => ((hA.put' (Nat.le_refl _)).put' (Nat.le_refl _)).up
    rw [W_loop, e6]
    cases h1 : isAt x with
    | true =>
      have h0 := h1
      simp only [isAt, Bool.and_eq_true] at h0
      have h2 : x.no = false := by cases hx : x.no <;> simp [hx] at h0 ⊢
      have h3 := h0.1
      have hP := fun X Y => app20 x (hB X Y) (by omega)
      simp only [Lt.cs, h2] at hP
      simp only [stM, stH, stQ, stE, stC, xI, xF, Nat.reduceLT, Nat.reduceEqDiff, reduceCtorEq, Nat.reduceAdd, Nat.reduceSub, Nat.reduceMul, Nat.max_def, reduceIte, Nat.reduceLeDiff, Nat.reduceBEq, Int.reduceEq, Int.reduceLE, Int.reduceLT, Int.reduceNeg, Int.reduceToNat, x20, stU, b20, Try.f20, encA, a3, a7, a8, a9, e1, e3, e4, e5, List.getElem?_map, List.length_map, Int.toNat_natCast, h2, h3, hP]
      rw [show es ++ ats (x :: b.drop (i + 1)) = (es ++ [x]) ++ ats (b.drop (i + 1)) by simp [ats, h1]]
      apply ih (i + 1) _ _ _ _ _ (by omega) (by rw [List.length_append, List.length_singleton]; omega) accN
      all_goals simp only [stA, stM, stH, stQ, stE, stC, xI, xF, Nat.reduceLT, Nat.reduceEqDiff, reduceCtorEq, Nat.reduceAdd, Nat.reduceSub, Nat.reduceMul, Nat.max_def, reduceIte, Nat.reduceLeDiff, Nat.reduceBEq, Int.reduceEq, Int.reduceLE, Int.reduceLT, Int.reduceNeg, Int.reduceToNat, a3, a7, a8, a9]
    | false =>
      rw [show ats (x :: b.drop (i + 1)) = ats (b.drop (i + 1)) by simp [ats, h1]]
      cases h3 : decide (x.o = 0) with
      | false =>
        simp only [stM, stH, stQ, stE, stC, xI, xF, Nat.reduceLT, Nat.reduceEqDiff, reduceCtorEq, Nat.reduceAdd, Nat.reduceSub, Nat.reduceMul, Nat.max_def, reduceIte, Nat.reduceLeDiff, Nat.reduceBEq, Int.reduceEq, Int.reduceLE, Int.reduceLT, Int.reduceNeg, Int.reduceToNat, x20, stU, b20, Try.f20, encA, a3, a7, a8, a9, e1, e3, e4, e5, List.getElem?_map, List.length_map, Int.toNat_natCast, h3]
        apply ih (i + 1) _ _ _ _ _ (by omega) (by omega) (hB _ _)
        all_goals simp only [stA, stM, stH, stQ, stE, stC, xI, xF, Nat.reduceLT, Nat.reduceEqDiff, reduceCtorEq, Nat.reduceAdd, Nat.reduceSub, Nat.reduceMul, Nat.max_def, reduceIte, Nat.reduceLeDiff, Nat.reduceBEq, Int.reduceEq, Int.reduceLE, Int.reduceLT, Int.reduceNeg, Int.reduceToNat, a3, a7, a8, a9]
      | true =>
        have h2 : x.no = true := by cases hx : x.no <;> simp_all [isAt]
        simp only [stM, stH, stQ, stE, stC, xI, xF, Nat.reduceLT, Nat.reduceEqDiff, reduceCtorEq, Nat.reduceAdd, Nat.reduceSub, Nat.reduceMul, Nat.max_def, reduceIte, Nat.reduceLeDiff, Nat.reduceBEq, Int.reduceEq, Int.reduceLE, Int.reduceLT, Int.reduceNeg, Int.reduceToNat, x20, stU, b20, Try.f20, encA, a3, a7, a8, a9, e1, e3, e4, e5, List.getElem?_map, List.length_map, Int.toNat_natCast, h2, h3]
        apply ih (i + 1) _ _ _ _ _ (by omega) (by omega) (hB _ _)
        all_goals simp only [stA, stM, stH, stQ, stE, stC, xI, xF, Nat.reduceLT, Nat.reduceEqDiff, reduceCtorEq, Nat.reduceAdd, Nat.reduceSub, Nat.reduceMul, Nat.max_def, reduceIte, Nat.reduceLeDiff, Nat.reduceBEq, Int.reduceEq, Int.reduceLE, Int.reduceLT, Int.reduceNeg, Int.reduceToNat, a3, a7, a8, a9]
theorem eq20 {m : Md} {x : Ru} (hl : x.b.length < 1000000) : iso tab fi20 m [encX x] = some (.lst .no ((ats x.b).map encA)) := by
  refine iso_ret ?_
  have L := @loop20 x.b m.gl hl x.b.length 0
  simp only [stU, stC, b20, Try.f20] at L
  simp only [stA, stM, stH, stQ, stE, stC, xI, xF, Nat.reduceLT, Nat.reduceEqDiff, reduceCtorEq, Nat.reduceAdd, Nat.reduceSub, Nat.reduceMul, Nat.max_def, reduceIte, Nat.reduceLeDiff, Nat.reduceBEq, Int.reduceEq, Int.reduceLE, Int.reduceLT, Int.reduceNeg, Int.reduceToNat, x20, stU, b20, Try.f20, encX, List.length_map]
  have := fun t H hs => L t H hs _ [] (by simp) (by simp) (.nil (sz := 4))
  simp only [List.nil_append, List.drop_zero] at this
  apply this
  all_goals simp only [stA, stM, stH, stQ, stE, stC, xI, xF, Nat.reduceLT, Nat.reduceEqDiff, reduceCtorEq, Nat.reduceAdd, Nat.reduceSub, Nat.reduceMul, Nat.max_def, reduceIte, Nat.reduceLeDiff, Nat.reduceBEq, Int.reduceEq, Int.reduceLE, Int.reduceLT, Int.reduceNeg, Int.reduceToNat]
  rfl
theorem call20 {m : Md} {x : Ru} {H : Tr AO} {hs : Nat} (hl : x.b.length < 1000000) : callF tab (evw tab) m 20 [encX x] H hs = some (.lst .no ((ats x.b).map encA), H, hs) :=
  callF_iso tcon rfl rfl (by simp only [stA, stM, stH, stQ, stE, stC, xI, xF, Nat.reduceLT, Nat.reduceEqDiff, reduceCtorEq, Nat.reduceAdd, Nat.reduceSub, Nat.reduceMul, Nat.max_def, reduceIte, Nat.reduceLeDiff, Nat.reduceBEq, Int.reduceEq, Int.reduceLE, Int.reduceLT, Int.reduceNeg, Int.reduceToNat, dBN]) (by have := @eq20 m x hl; simp only [stA, stM, stH, stQ, stE, stC, xI, xF, Nat.reduceLT, Nat.reduceEqDiff, reduceCtorEq, Nat.reduceAdd, Nat.reduceSub, Nat.reduceMul, Nat.max_def, reduceIte, Nat.reduceLeDiff, Nat.reduceBEq, Int.reduceEq, Int.reduceLE, Int.reduceLT, Int.reduceNeg, Int.reduceToNat, dBN] at this ⊢; exact this)
end Go.Proofs.Ytpehpccahbofiaa.Ev

set_option maxRecDepth 100000
set_option maxHeartbeats 2000000
namespace Go.Proofs.Ytpehpccahbofiaa.Ev
open Go Go.Proofs.Ytpehpccahbofiaa.Ev Go.Proofs Go.Proofs.Ytpehpccahbofiaa Go.Proofs.Ytpehpccahbofiaa.Tab

abbrev Ru.cs (x : Ru) : List AV := [.lit (.int .i64 x.k), .str x.n, .lst .no (x.h.map .str), .lit (.int .i64 x.a), .str x.f, .lit (.int .i64 x.m), .lst .no (x.b.map encA)]
theorem loop33 {x : Ru} {gl : Tr (Option AV)} (hl : x.b.length < 1000000) : ∀ (k i : Nat) (t : Tr AV) (H : Tr AO) (hs : Nat) (A : AV) (es : List Lt) (w : Bool), i + k = x.b.length → es.length ≤ i → Acc H hs 4 A (es.map encA) → 0 < hs → H.get .dead 0 = .cells x.cs w →
    t.get .any 3 = A → t.get .any 1 = .ptr 0 0 → t.get .any 4 = .lit (.int .i64 i) →
    RetN (W tab none (fin tab fi33) (lpc fi33 0) (lpk fi33 0) ⟨t, 27, H, hs, [], ⟨true, true, gl⟩⟩) (.lst .no ((es ++ ats (x.b.drop i)).map encA)) := by
  simp only [stU, stC, b33, Try.f33]
  intro k
  induction k with
  | zero =>
    intro i t H hs A es w hi he hA h0 hX a3 a1 a4
    have e1 : decide ((i : Int) < (x.b).length) = false := by rw [decide_eq_false_iff_not]; omega
    rw [W_loop, List.drop_of_length_le (by omega)]
    simp only [stA, stM, stH, stQ, stE, stC, xI, xF, Nat.reduceLT, Nat.reduceEqDiff, reduceCtorEq, Nat.reduceAdd, Nat.reduceSub, Nat.reduceMul, Nat.max_def, reduceIte, Nat.reduceLeDiff, Nat.reduceBEq, Int.reduceEq, Int.reduceLE, Int.reduceLT, Int.reduceNeg, Int.reduceToNat, x33, stU, b33, Try.f33, a3, a1, a4, hX, e1, ats, List.filter_nil, accBare bare_A hA, accNrm nrm_A hA, List.length_map]
  | succ k ih =>
    intro i t H hs A es w hi he hA h0 hX a3 a1 a4
    have hlt : i < (x.b).length := by omega
    have e1 : decide ((i : Int) < (x.b).length) = true := by rw [decide_eq_true_iff]; omega
    have e3 : decide (0 ≤ (i : Int)) = true := by rw [decide_eq_true_iff]; omega
    have e4 : (x.b)[i]? = some (x.b)[i] := List.getElem?_eq_getElem _
    have e6 : (x.b).drop i = (x.b)[i] :: (x.b).drop (i + 1) := List.drop_eq_getElem_cons hlt
    have e7 : (x.b).take (i + 1) = (x.b).take i ++ [(x.b)[i]] := List.take_succ_eq_append_getElem hlt
    generalize hv : (x.b)[i] = v at e4 e6 e7
    have e5 := wrap_succ (i := i) (by omega)
    have nl0_0 : (hs = 0) = False := eq_false (by omega)
    have nr0_0 : (0 = hs) = False := eq_false (by omega)
    have nl0_1 : (hs + 1 = 0) = False := eq_false (by omega)
    have nr0_1 : (0 = hs + 1) = False := eq_false (by omega)
    have nl0_2 : (hs + 2 = 0) = False := eq_false (by omega)
    have nr0_2 : (0 = hs + 2) = False := eq_false (by omega)
    have nl0_3 : (hs + 3 = 0) = False := eq_false (by omega)
    have nr0_3 : (0 = hs + 3) = False := eq_false (by omega)
    have nl0_4 : (hs + 4 = 0) = False := eq_false (by omega)
    have nr0_4 : (0 = hs + 4) = False := eq_false (by omega)
    rw [W_loop, e6]
    cases h1 : isAt v with
    | true =>
      have hP := app20 v hA (by omega)
      have hC := fun m H hs => @call37 m v H hs
      simp only [Lt.cs, h1] at hP hC
      simp only [stM, stH, stQ, stE, stC, xI, xF, Nat.reduceLT, Nat.reduceEqDiff, reduceCtorEq, Nat.reduceAdd, Nat.reduceSub, Nat.reduceMul, Nat.max_def, reduceIte, Nat.reduceLeDiff, Nat.reduceBEq, Int.reduceEq, Int.reduceLE, Int.reduceLT, Int.reduceNeg, Int.reduceToNat, x33, stU, b33, Try.f33, encA, a3, a1, a4, hX, e1, e3, e4, e5, List.getElem?_map, List.length_map, Int.toNat_natCast, hC, hP]
      rw [show es ++ ats (v :: x.b.drop (i + 1)) = (es ++ [v]) ++ ats (x.b.drop (i + 1)) by simp [ats, h1]]
      apply ih (i + 1) _ _ _ _ _ _ (by omega) (by rw [List.length_append, List.length_singleton]; omega) accN (by omega) ((hA.get h0 (by rw [hX]; rfl)).trans hX)
      all_goals simp only [stA, stM, stH, stQ, stE, stC, xI, xF, Nat.reduceLT, Nat.reduceEqDiff, reduceCtorEq, Nat.reduceAdd, Nat.reduceSub, Nat.reduceMul, Nat.max_def, reduceIte, Nat.reduceLeDiff, Nat.reduceBEq, Int.reduceEq, Int.reduceLE, Int.reduceLT, Int.reduceNeg, Int.reduceToNat, a3, a1, a4]
    | false =>
      rw [show ats (v :: x.b.drop (i + 1)) = ats (x.b.drop (i + 1)) by simp [ats, h1]]
      have hC := fun m H hs => @call37 m v H hs
      simp only [Lt.cs, h1] at hC
      simp only [stM, stH, stQ, stE, stC, xI, xF, Nat.reduceLT, Nat.reduceEqDiff, reduceCtorEq, Nat.reduceAdd, Nat.reduceSub, Nat.reduceMul, Nat.max_def, reduceIte, Nat.reduceLeDiff, Nat.reduceBEq, Int.reduceEq, Int.reduceLE, Int.reduceLT, Int.reduceNeg, Int.reduceToNat, x33, stU, b33, Try.f33, encA, a3, a1, a4, hX, e1, e3, e4, e5, List.getElem?_map, List.length_map, Int.toNat_natCast, hC]
      apply ih (i + 1) _ _ _ _ _ _ (by omega) (by omega) hA h0 hX
      all_goals simp only [stA, stM, stH, stQ, stE, stC, xI, xF, Nat.reduceLT, Nat.reduceEqDiff, reduceCtorEq, Nat.reduceAdd, Nat.reduceSub, Nat.reduceMul, Nat.max_def, reduceIte, Nat.reduceLeDiff, Nat.reduceBEq, Int.reduceEq, Int.reduceLE, Int.reduceLT, Int.reduceNeg, Int.reduceToNat, a3, a1, a4]
theorem eq33 {m : Md} {x : Ru} (hl : x.b.length < 1000000) : iso tab fi33 m [encX x] = some (.lst .no ((ats x.b).map encA)) := by
  refine iso_ret ?_
  have L := @loop33 x m.gl hl x.b.length 0
  simp only [stU, stC, b33, Try.f33] at L
  simp only [stA, stM, stH, stQ, stE, stC, xI, xF, Nat.reduceLT, Nat.reduceEqDiff, reduceCtorEq, Nat.reduceAdd, Nat.reduceSub, Nat.reduceMul, Nat.max_def, reduceIte, Nat.reduceLeDiff, Nat.reduceBEq, Int.reduceEq, Int.reduceLE, Int.reduceLT, Int.reduceNeg, Int.reduceToNat, x33, stU, b33, Try.f33, encX, List.length_map]
  have := fun t H hs => L t H hs _ [] false (by simp) (by simp) (.nil (sz := 4))
  simp only [List.nil_append, List.drop_zero] at this
  apply this
  all_goals simp only [stA, stM, stH, stQ, stE, stC, xI, xF, Nat.reduceLT, Nat.reduceEqDiff, reduceCtorEq, Nat.reduceAdd, Nat.reduceSub, Nat.reduceMul, Nat.max_def, reduceIte, Nat.reduceLeDiff, Nat.reduceBEq, Int.reduceEq, Int.reduceLE, Int.reduceLT, Int.reduceNeg, Int.reduceToNat]
  all_goals rfl
theorem call33 {m : Md} {x : Ru} {H : Tr AO} {hs : Nat} (hl : x.b.length < 1000000) : callF tab (evw tab) m 33 [encX x] H hs = some (.lst .no ((ats x.b).map encA), H, hs) :=
  callF_iso tcon rfl rfl (by simp only [stA, stM, stH, stQ, stE, stC, xI, xF, Nat.reduceLT, Nat.reduceEqDiff, reduceCtorEq, Nat.reduceAdd, Nat.reduceSub, Nat.reduceMul, Nat.max_def, reduceIte, Nat.reduceLeDiff, Nat.reduceBEq, Int.reduceEq, Int.reduceLE, Int.reduceLT, Int.reduceNeg, Int.reduceToNat, dBN]) (by have := @eq33 m x hl; simp only [stA, stM, stH, stQ, stE, stC, xI, xF, Nat.reduceLT, Nat.reduceEqDiff, reduceCtorEq, Nat.reduceAdd, Nat.reduceSub, Nat.reduceMul, Nat.max_def, reduceIte, Nat.reduceLeDiff, Nat.reduceBEq, Int.reduceEq, Int.reduceLE, Int.reduceLT, Int.reduceNeg, Int.reduceToNat, dBN] at this ⊢; exact this)

/-! ### What variables are bound to -/
abbrev Bd := List (List UInt8 × Vl)
def eQ1 (p : List UInt8 × Vl) : AV := .str p.1
def eQ2 (p : List UInt8 × Vl) : AV := encV p.2
def encQ (b : Bd) : AV := .agg [.lst .no (b.map eQ1), .lst .no (b.map eQ2)]
def encO (v : Option Vl) : AV := .tup [encV (v.getD v0), .lit (.bool v.isSome)]
theorem loop28 {b : Bd} {x : List UInt8} {gl : Tr (Option AV)} (hl : b.length < 1000000) : ∀ (k i : Nat) (t : Tr AV) (H : Tr AO) (hs : Nat) (w : Bool), i + k = b.length →
    H.get .dead 0 = .cells [.lst .no (b.map eQ1), .lst .no (b.map eQ2)] w → H.get .dead 1 = .cells v0.cs false →
    t.get .any 1 = .str x → t.get .any 2 = .ptr 0 0 → t.get .any 4 = .ptr 1 0 → t.get .any 6 = .lit (.int .i64 i) →
    RetN (W tab none (fin tab fi28) (lpc fi28 0) (lpk fi28 0) ⟨t, 34, H, hs, [], ⟨true, true, gl⟩⟩) (encO (mget (b.drop i) x)) := by
  simp only [stU, stC, b28, Try.f28]
  intro k
  induction k with
  | zero =>
    intro i t H hs w hi h0 h1 a1 a2 a4 a6
    have e1 : decide ((i : Int) < (b).length) = false := by rw [decide_eq_false_iff_not]; omega
    rw [W_loop, List.drop_of_length_le (by omega)]
    simp only [stA, stM, stH, stQ, stE, stC, xI, xF, Nat.reduceLT, Nat.reduceEqDiff, reduceCtorEq, Nat.reduceAdd, Nat.reduceSub, Nat.reduceMul, Nat.max_def, reduceIte, Nat.reduceLeDiff, Nat.reduceBEq, Int.reduceEq, Int.reduceLE, Int.reduceLT, Int.reduceNeg, Int.reduceToNat, x28, stU, b28, Try.f28, a1, a2, a4, a6, h0, h1, e1, List.length_map, ldv, tt56, isAggD]
    rfl
  | succ k ih =>
    intro i t H hs w hi h0 h1 a1 a2 a4 a6
    have hlt : i < (b).length := by omega
    have e1 : decide ((i : Int) < (b).length) = true := by rw [decide_eq_true_iff]; omega
    have e3 : decide (0 ≤ (i : Int)) = true := by rw [decide_eq_true_iff]; omega
    have e4 : (b)[i]? = some (b)[i] := List.getElem?_eq_getElem _
    have e6 : (b).drop i = (b)[i] :: (b).drop (i + 1) := List.drop_eq_getElem_cons hlt
    have e7 : (b).take (i + 1) = (b).take i ++ [(b)[i]] := List.take_succ_eq_append_getElem hlt
    generalize hv : (b)[i] = v at e4 e6 e7
    have e5 := wrap_succ (i := i) (by omega)
    rw [W_loop, e6]
    cases hx : v.1 == x with
    | true =>
      simp only [stA, stM, stH, stQ, stE, stC, xI, xF, Nat.reduceLT, Nat.reduceEqDiff, reduceCtorEq, Nat.reduceAdd, Nat.reduceSub, Nat.reduceMul, Nat.max_def, reduceIte, Nat.reduceLeDiff, Nat.reduceBEq, Int.reduceEq, Int.reduceLE, Int.reduceLT, Int.reduceNeg, Int.reduceToNat, x28, stU, b28, Try.f28, eQ1, eQ2, encV, Vl.cs, a1, a2, a4, a6, h0, h1, e1, e3, e4, e5, List.getElem?_map, List.length_map, Int.toNat_natCast, hx, ldv, tt56, isAggD]
      simp only [mget, List.find?_cons, hx]
      rfl
    | false =>
      simp only [stA, stM, stH, stQ, stE, stC, xI, xF, Nat.reduceLT, Nat.reduceEqDiff, reduceCtorEq, Nat.reduceAdd, Nat.reduceSub, Nat.reduceMul, Nat.max_def, reduceIte, Nat.reduceLeDiff, Nat.reduceBEq, Int.reduceEq, Int.reduceLE, Int.reduceLT, Int.reduceNeg, Int.reduceToNat, x28, stU, b28, Try.f28, eQ1, eQ2, encV, Vl.cs, a1, a2, a4, a6, h0, h1, e1, e3, e4, e5, List.getElem?_map, List.length_map, Int.toNat_natCast, hx]
      rw [show mget (v :: b.drop (i + 1)) x = mget (b.drop (i + 1)) x by simp [mget, List.find?_cons, hx]]
      apply ih (i + 1) _ _ _ _ (by omega) h0 h1
      all_goals simp only [stA, stM, stH, stQ, stE, stC, xI, xF, Nat.reduceLT, Nat.reduceEqDiff, reduceCtorEq, Nat.reduceAdd, Nat.reduceSub, Nat.reduceMul, Nat.max_def, reduceIte, Nat.reduceLeDiff, Nat.reduceBEq, Int.reduceEq, Int.reduceLE, Int.reduceLT, Int.reduceNeg, Int.reduceToNat, a1, a2, a4, a6]
theorem eq28 {m : Md} {b : Bd} {x : List UInt8} (hl : b.length < 1000000) : iso tab fi28 m [encQ b, .str x] = some (encO (mget b x)) := by
  refine iso_ret ?_
  have L := @loop28 b x m.gl hl b.length 0
  simp only [stU, stC, b28, Try.f28] at L
  simp only [stA, stM, stH, stQ, stE, stC, xI, xF, Nat.reduceLT, Nat.reduceEqDiff, reduceCtorEq, Nat.reduceAdd, Nat.reduceSub, Nat.reduceMul, Nat.max_def, reduceIte, Nat.reduceLeDiff, Nat.reduceBEq, Int.reduceEq, Int.reduceLE, Int.reduceLT, Int.reduceNeg, Int.reduceToNat, x28, stU, b28, Try.f28, encQ]
  apply L
  · simp
  all_goals first | rfl | (simp only [stA, stM, stH, stQ, stE, stC, xI, xF, Nat.reduceLT, Nat.reduceEqDiff, reduceCtorEq, Nat.reduceAdd, Nat.reduceSub, Nat.reduceMul, Nat.max_def, reduceIte, Nat.reduceLeDiff, Nat.reduceBEq, Int.reduceEq, Int.reduceLE, Int.reduceLT, Int.reduceNeg, Int.reduceToNat]; done) | (simp only [stA, stM, stH, stQ, stE, stC, xI, xF, Nat.reduceLT, Nat.reduceEqDiff, reduceCtorEq, Nat.reduceAdd, Nat.reduceSub, Nat.reduceMul, Nat.max_def, reduceIte, Nat.reduceLeDiff, Nat.reduceBEq, Int.reduceEq, Int.reduceLE, Int.reduceLT, Int.reduceNeg, Int.reduceToNat]; rfl)
theorem bare_Q (b : Bd) : bare (encQ b) = true := by
  simp only [encQ, bare, bares, bares_mapf (f := eQ1) (fun _ => rfl), bares_mapf (f := eQ2) (fun _ => rfl), Bool.and_self]
theorem nrm_Q (b : Bd) : nrm (encQ b) = encQ b := by
  simp only [encQ, nrm, nrms, nrms_mapg (f := eQ1) (fun _ => rfl), nrms_mapg (f := eQ2) (fun _ => rfl)]
theorem bares_Q1 (b : Bd) : bares (b.map eQ1) = true := bares_mapf (f := eQ1) (fun _ => rfl) b
theorem bares_Q2 (b : Bd) : bares (b.map eQ2) = true := bares_mapf (f := eQ2) (fun _ => rfl) b
theorem nrms_Q1 (b : Bd) : nrms (b.map eQ1) = b.map eQ1 := nrms_mapg (f := eQ1) (fun _ => rfl) b
theorem nrms_Q2 (b : Bd) : nrms (b.map eQ2) = b.map eQ2 := nrms_mapg (f := eQ2) (fun _ => rfl) b
theorem bareE_M (b : Bd) (c : Nat) : bareE (mapS encV b c) = true := bareE_mapS bare_V b c
theorem nrmE_M (b : Bd) (c : Nat) : nrmE (mapS encV b c) = mapS encV b c := nrmE_mapS nrm_V b c
def dQN := And.intro bare_Q (And.intro nrm_Q (And.intro bares_Q1 (And.intro bares_Q2 (And.intro nrms_Q1 (And.intro nrms_Q2 (And.intro bareE_M nrmE_M))))))
theorem call28 {m : Md} {k1 k2 : ATk} {b : Bd} {x : List UInt8} {H : Tr AO} {hs : Nat} (hl : b.length < 1000000) : callF tab (evw tab) m 28 [.agg [.lst k1 (b.map eQ1), .lst k2 (b.map eQ2)], .str x] H hs = some (encO (mget b x), H, hs) :=
  callF_iso tcon rfl rfl (by simp only [stA, stM, stH, stQ, stE, stC, xI, xF, Nat.reduceLT, Nat.reduceEqDiff, reduceCtorEq, Nat.reduceAdd, Nat.reduceSub, Nat.reduceMul, Nat.max_def, reduceIte, Nat.reduceLeDiff, Nat.reduceBEq, Int.reduceEq, Int.reduceLE, Int.reduceLT, Int.reduceNeg, Int.reduceToNat, dBN, dQN]) (by have := @eq28 m b x hl; simp only [stA, stM, stH, stQ, stE, stC, xI, xF, Nat.reduceLT, Nat.reduceEqDiff, reduceCtorEq, Nat.reduceAdd, Nat.reduceSub, Nat.reduceMul, Nat.max_def, reduceIte, Nat.reduceLeDiff, Nat.reduceBEq, Int.reduceEq, Int.reduceLE, Int.reduceLT, Int.reduceNeg, Int.reduceToNat, dBN, dQN, encQ] at this ⊢; exact this)
/-- What a term is. -/
def term (b : Bd) (t : Tm) : Option Vl := bif t.a then some v0 else bif t.x == [] then some t.v else mget b t.x
abbrev Tm.cs (t : Tm) : List AV := [.str t.x, .lit (.bool t.a), .lit (.int .i64 t.v.k), .lit (.bool t.v.b), .lit (.int .i64 t.v.n), .str t.v.s]
theorem eq58 {m : Md} {b : Bd} {t : Tm} (hl : b.length < 1000000) : iso tab fi58 m [encQ b, encT t] = some (encO (term b t)) := by
  refine iso_ret ?_
  unfold term
  cases h1 : t.a with
  | true =>
    simp only [stA, stM, stH, stQ, stE, stC, xI, xF, Nat.reduceLT, Nat.reduceEqDiff, reduceCtorEq, Nat.reduceAdd, Nat.reduceSub, Nat.reduceMul, Nat.max_def, reduceIte, Nat.reduceLeDiff, Nat.reduceBEq, Int.reduceEq, Int.reduceLE, Int.reduceLT, Int.reduceNeg, Int.reduceToNat, x58, stU, b58, Try.f58, encQ, encT, h1, ldv, tt56, isAggD]
    rfl
  | false =>
    cases h2 : t.x == [] with
    | true =>
      simp only [stA, stM, stH, stQ, stE, stC, xI, xF, Nat.reduceLT, Nat.reduceEqDiff, reduceCtorEq, Nat.reduceAdd, Nat.reduceSub, Nat.reduceMul, Nat.max_def, reduceIte, Nat.reduceLeDiff, Nat.reduceBEq, Int.reduceEq, Int.reduceLE, Int.reduceLT, Int.reduceNeg, Int.reduceToNat, x58, stU, b58, Try.f58, encQ, encT, h1, h2, ldv, tt56, isAggD]
      rfl
    | false =>
      simp only [stA, stM, stH, stQ, stE, stC, xI, xF, Nat.reduceLT, Nat.reduceEqDiff, reduceCtorEq, Nat.reduceAdd, Nat.reduceSub, Nat.reduceMul, Nat.max_def, reduceIte, Nat.reduceLeDiff, Nat.reduceBEq, Int.reduceEq, Int.reduceLE, Int.reduceLT, Int.reduceNeg, Int.reduceToNat, x58, stU, b58, Try.f58, encQ, encT, h1, h2, ldv, tt56, isAggD, call28 hl]
      simp only [stA, stM, stH, stQ, stE, stC, xI, xF, Nat.reduceLT, Nat.reduceEqDiff, reduceCtorEq, Nat.reduceAdd, Nat.reduceSub, Nat.reduceMul, Nat.max_def, reduceIte, Nat.reduceLeDiff, Nat.reduceBEq, Int.reduceEq, Int.reduceLE, Int.reduceLT, Int.reduceNeg, Int.reduceToNat, x58, stU, b58, Try.f58, encO, encV, h1, h2, ldv, tt56, isAggD]
theorem call58 {m : Md} {b : Bd} {t : Tm} {H : Tr AO} {hs : Nat} (hl : b.length < 1000000) : callF tab (evw tab) m 58 [encQ b, .agg t.cs] H hs = some (encO (term b t), H, hs) :=
  callF_iso tcon rfl rfl (by simp only [stA, stM, stH, stQ, stE, stC, xI, xF, Nat.reduceLT, Nat.reduceEqDiff, reduceCtorEq, Nat.reduceAdd, Nat.reduceSub, Nat.reduceMul, Nat.max_def, reduceIte, Nat.reduceLeDiff, Nat.reduceBEq, Int.reduceEq, Int.reduceLE, Int.reduceLT, Int.reduceNeg, Int.reduceToNat, dBN, dQN]) (by have := @eq58 m b t hl; simp only [stA, stM, stH, stQ, stE, stC, xI, xF, Nat.reduceLT, Nat.reduceEqDiff, reduceCtorEq, Nat.reduceAdd, Nat.reduceSub, Nat.reduceMul, Nat.max_def, reduceIte, Nat.reduceLeDiff, Nat.reduceBEq, Int.reduceEq, Int.reduceLE, Int.reduceLT, Int.reduceNeg, Int.reduceToNat, dBN, dQN, encT] at this ⊢; exact this)
def encM (b : Bd) : AV := .fmp (mapS encV b 0)
theorem eq53 {m : Md} {b : Bd} {t : Tm} : iso tab fi53 m [encM b, encT t] = some (encO (term b t)) := by
  refine iso_ret ?_
  unfold term
  cases h1 : t.a with
  | true =>
    simp only [stA, stM, stH, stQ, stE, stC, xI, xF, Nat.reduceLT, Nat.reduceEqDiff, reduceCtorEq, Nat.reduceAdd, Nat.reduceSub, Nat.reduceMul, Nat.max_def, reduceIte, Nat.reduceLeDiff, Nat.reduceBEq, Int.reduceEq, Int.reduceLE, Int.reduceLT, Int.reduceNeg, Int.reduceToNat, x53, stU, b53, Try.f53, encM, encT, encV, Vl.cs, v0, h1, ldv, tt56, isAggD, call68]
    rfl
  | false =>
    cases h2 : t.x == [] with
    | true =>
      simp only [stA, stM, stH, stQ, stE, stC, xI, xF, Nat.reduceLT, Nat.reduceEqDiff, reduceCtorEq, Nat.reduceAdd, Nat.reduceSub, Nat.reduceMul, Nat.max_def, reduceIte, Nat.reduceLeDiff, Nat.reduceBEq, Int.reduceEq, Int.reduceLE, Int.reduceLT, Int.reduceNeg, Int.reduceToNat, x53, stU, b53, Try.f53, encM, encT, h1, h2, ldv, tt56, isAggD]
      rfl
    | false =>
      cases h3 : mget b t.x <;> simp only [stA, stH, stQ, stE, stC, xI, xF, Nat.reduceLT, Nat.reduceEqDiff, reduceCtorEq, Nat.reduceAdd, Nat.reduceSub, Nat.reduceMul, Nat.max_def, reduceIte, Nat.reduceLeDiff, Nat.reduceBEq, Int.reduceEq, Int.reduceLE, Int.reduceLT, Int.reduceNeg, Int.reduceToNat, x53, stU, b53, Try.f53, encM, encT, encV, Vl.cs, h1, h2, h3, look_fmp, ldv, tt56, isAggD]
      · rfl
      · rfl
theorem call53 {m : Md} {b : Bd} {t : Tm} {H : Tr AO} {hs : Nat} : callF tab (evw tab) m 53 [encM b, .agg t.cs] H hs = some (encO (term b t), H, hs) :=
  callF_iso tcon rfl rfl (by simp only [stA, stM, stH, stQ, stE, stC, xI, xF, Nat.reduceLT, Nat.reduceEqDiff, reduceCtorEq, Nat.reduceAdd, Nat.reduceSub, Nat.reduceMul, Nat.max_def, reduceIte, Nat.reduceLeDiff, Nat.reduceBEq, Int.reduceEq, Int.reduceLE, Int.reduceLT, Int.reduceNeg, Int.reduceToNat, dBN, dQN, encM]) (by have := @eq53 m b t; simp only [stA, stM, stH, stQ, stE, stC, xI, xF, Nat.reduceLT, Nat.reduceEqDiff, reduceCtorEq, Nat.reduceAdd, Nat.reduceSub, Nat.reduceMul, Nat.max_def, reduceIte, Nat.reduceLeDiff, Nat.reduceBEq, Int.reduceEq, Int.reduceLE, Int.reduceLT, Int.reduceNeg, Int.reduceToNat, dBN, dQN, encT, encM] at this ⊢; exact this)
end Go.Proofs.Ytpehpccahbofiaa.Ev
