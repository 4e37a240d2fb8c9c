import Derived.Test.YtancionamhenmaaGreatDD
set_option linter.all false
set_option maxRecDepth 100000
set_option maxHeartbeats 40000000
namespace Go.Proofs.YtancionamhenmaaGreat.Ev
open Go Go.Proofs.YtancionamhenmaaGreat.Ev Go.Proofs Go.Proofs.YtancionamhenmaaGreat Go.Proofs.YtancionamhenmaaGreat.Tab
theorem wH {n : Nat} (h : n < 1000000000000) : IntKind.i64.wrap ((IntKind.u64.wrap (n : Int)).fdiv (2 ^ min 1 IntKind.u64.bits)) = ((n / 2 : Nat) : Int) := by
 have h1 : IntKind.u64.wrap (n : Int) = n := by
  unfold IntKind.wrap
  simp [IntKind.signed, IntKind.bits]
  omega
 rw [h1, show (2 : Int) ^ min 1 IntKind.u64.bits = 2 from rfl, Int.fdiv_eq_ediv_of_nonneg _ (by omega), wrap_i64 (by omega) (by omega)]
 omega
theorem symS1 {Pp : Option (AV × Tr AO × Nat) -> Prop} {K : List Fr} {b cap lo hi a m be mid nn p : Nat} {d : List Row} {G : Nat -> Bool} {H : Tr AO} {hs : Nat} {gl : Tr (Option AV)} (hb : RowsAt H b d) (hcap : cap = d.length) (hsm : cap < 1000000) (hhi : hi <= cap) (hpp : p < 3000000) (hph : ∀ h, lo <= h -> h < hi -> True)
  (hG : ∀ h, lo <= h -> h < hi -> ∃ y z, d[h]? = some y /\ d[a]? = some z /\ G h = (decide (rcmp y z < 0)) /\ y.length < 1000000)
  (hK : ∀ (t' : Tr AV) (i : Nat), lo <= i -> i <= hi -> (i = lo ∨ G (i - 1) = true) -> (i = hi ∨ G i = false) -> t'.get .any 0 = .slc b 0 cap (.op 1) -> t'.get .any 1 = .lit (.int .i64 a) -> t'.get .any 2 = .lit (.int .i64 m) -> t'.get .any 3 = .lit (.int .i64 be) -> t'.get .any 4 = .fn (.func 66) [] [] -> t'.get .any 10 = .lit (.int .i64 i) ->
   Pp (kont tab none (fin tab fi101) K (.exit 0) ⟨t', 220, H, hs, [], ⟨false, true, gl⟩⟩)) :
  ∀ (k i j : Nat) (t : Tr AV), j - i <= k -> lo <= i -> i <= j -> j <= hi -> (i = lo ∨ G (i - 1) = true) -> (j = hi ∨ G j = false) -> t.get .any 0 = .slc b 0 cap (.op 1) -> t.get .any 1 = .lit (.int .i64 a) -> t.get .any 2 = .lit (.int .i64 m) -> t.get .any 3 = .lit (.int .i64 be) -> t.get .any 4 = .fn (.func 66) [] [] -> t.get .any 10 = .lit (.int .i64 i) -> t.get .any 11 = .lit (.int .i64 j) ->
  Pp (W tab none (fin tab fi101) (lpc fi101 0) K ⟨t, 220, H, hs, [], ⟨false, true, gl⟩⟩) := by
 have D := d101
 simp only [stD, stC, List.cons.injEq, b101, Tryz.f101] at D
 simp only [stU, stC, b101, Tryz.f101]
 have stop : ∀ (i : Nat) (t : Tr AV), lo <= i -> i <= hi -> (i = lo ∨ G (i - 1) = true) -> (i = hi ∨ G i = false) -> t.get .any 0 = .slc b 0 cap (.op 1) -> t.get .any 1 = .lit (.int .i64 a) -> t.get .any 2 = .lit (.int .i64 m) -> t.get .any 3 = .lit (.int .i64 be) -> t.get .any 4 = .fn (.func 66) [] [] -> t.get .any 10 = .lit (.int .i64 i) -> t.get .any 11 = .lit (.int .i64 i) ->
   Pp (W tab none (fin tab fi101) (lpc fi101 0) K ⟨t, 220, H, hs, [], ⟨false, true, gl⟩⟩) := by
  simp only [stU, stC, b101, Tryz.f101]
  intro i t h1 h2 h3 h4 a0 a1 a2 a3 a4 ai aj
  have e1 : decide ((i : Int) < (i : Int)) = false := dcF (by omega)
  rw [W_loop]
  simp only [sGA, seval, ai, aj, e1]
  apply hK _ i h1 h2 h3 h4
  all_goals simp only [sG, seval, a0, a1, a2, a3, a4, ai]
 simp only [stU, stC, b101, Tryz.f101] at stop
 intro k
 induction k with
 | zero =>
  intro i j t hk h1 hij h2 h3 h4 a0 a1 a2 a3 a4 ai aj
  have : j = i := by omega
  subst this
  exact stop j t h1 h2 h3 h4 a0 a1 a2 a3 a4 ai aj
 | succ k ih =>
  intro i j t hk h1 hij h2 h3 h4 a0 a1 a2 a3 a4 ai aj
  by_cases hlt : i < j
  ·have e1 : decide ((i : Int) < (j : Int)) = true := dcT (by omega)
   have w1 : IntKind.i64.wrap ((i : Int) + (j : Int)) = ((i + j : Nat) : Int) := wA (by omega)
   have w2 := wH (n := i + j) (by omega)
   have b1 : i <= (i + j) / 2 := by omega
   have b2 : (i + j) / 2 < j := by omega
   generalize (i + j) / 2 = h at w2 b1 b2
   have q := hph h (by omega) (by omega)
   obtain ⟨y, z, y1, y2, y3, y4⟩ := hG h (by omega) (by omega)
   have z1 := (List.getElem?_eq_some_iff.1 y1).1
   have z2 := (List.getElem?_eq_some_iff.1 y2).1
   have g0 := hb.get
   have l1 := rcGet y1
   have l2 := rcGet y2
   have n1 := rcLen z1
   have n2 := rcLen z2
   have i1 := dIx z1
   have i2 := dIx z2
   rw [<- hcap] at i1 i2
   simp only [encR] at l1 l2
   generalize rc d = d0 at *
   have w3 := wrap_succ (i := h) (by omega)
   have c := fun m H hs => @call66 m .no .no y z H hs (by omega)
   cases hc : decide (rcmp y z < 0) with
   | true =>
    rw [W_loop]
    simp only [sGA, seval, a0, a1, a4, ai, aj, e1, D, w1, w2, w3, i1, i2, Int.toNat_natCast, Nat.mul_one, g0, l1, l2, n1, n2, c, hc]
    apply ih (h + 1) j _ (by omega) (by omega) (by omega) (by omega) (.inr (by rw [Nat.add_sub_cancel, y3, hc])) h4
    all_goals simp only [sG, seval, a0, a1, a2, a3, a4, aj]
   | false =>
    rw [W_loop]
    simp only [sGA, seval, a0, a1, a4, ai, aj, e1, D, w1, w2, i1, i2, Int.toNat_natCast, Nat.mul_one, g0, l1, l2, n1, n2, c, hc]
    apply ih i h _ (by omega) (by omega) (by omega) (by omega) h3 (.inr (by rw [y3, hc]))
    all_goals simp only [sG, seval, a0, a1, a2, a3, a4, ai]
  ·have : j = i := by omega
   subst this
   exact stop j t h1 h2 h3 h4 a0 a1 a2 a3 a4 ai aj
theorem symS2 {Pp : Option (AV × Tr AO × Nat) -> Prop} {K : List Fr} {b cap lo hi a m be mid nn p : Nat} {d : List Row} {G : Nat -> Bool} {H : Tr AO} {hs : Nat} {gl : Tr (Option AV)} (hb : RowsAt H b d) (hcap : cap = d.length) (hsm : cap < 1000000) (hhi : hi <= cap) (hpp : p < 3000000) (hph : ∀ h, lo <= h -> h < hi -> True)
  (hG : ∀ h, lo <= h -> h < hi -> ∃ y z, d[m]? = some y /\ d[h]? = some z /\ G h = (!decide (rcmp y z < 0)) /\ y.length < 1000000)
  (hK : ∀ (t' : Tr AV) (i : Nat), lo <= i -> i <= hi -> (i = lo ∨ G (i - 1) = true) -> (i = hi ∨ G i = false) -> t'.get .any 0 = .slc b 0 cap (.op 1) -> t'.get .any 1 = .lit (.int .i64 a) -> t'.get .any 2 = .lit (.int .i64 m) -> t'.get .any 3 = .lit (.int .i64 be) -> t'.get .any 4 = .fn (.func 66) [] [] -> t'.get .any 14 = .lit (.int .i64 i) ->
   Pp (kont tab none (fin tab fi101) K (.exit 4) ⟨t', 220, H, hs, [], ⟨false, true, gl⟩⟩)) :
  ∀ (k i j : Nat) (t : Tr AV), j - i <= k -> lo <= i -> i <= j -> j <= hi -> (i = lo ∨ G (i - 1) = true) -> (j = hi ∨ G j = false) -> t.get .any 0 = .slc b 0 cap (.op 1) -> t.get .any 1 = .lit (.int .i64 a) -> t.get .any 2 = .lit (.int .i64 m) -> t.get .any 3 = .lit (.int .i64 be) -> t.get .any 4 = .fn (.func 66) [] [] -> t.get .any 14 = .lit (.int .i64 i) -> t.get .any 15 = .lit (.int .i64 j) ->
  Pp (W tab none (fin tab fi101) (lpc fi101 2) K ⟨t, 220, H, hs, [], ⟨false, true, gl⟩⟩) := by
 have D := d101
 simp only [stD, stC, List.cons.injEq, b101, Tryz.f101] at D
 simp only [stU, stC, b101, Tryz.f101]
 have stop : ∀ (i : Nat) (t : Tr AV), lo <= i -> i <= hi -> (i = lo ∨ G (i - 1) = true) -> (i = hi ∨ G i = false) -> t.get .any 0 = .slc b 0 cap (.op 1) -> t.get .any 1 = .lit (.int .i64 a) -> t.get .any 2 = .lit (.int .i64 m) -> t.get .any 3 = .lit (.int .i64 be) -> t.get .any 4 = .fn (.func 66) [] [] -> t.get .any 14 = .lit (.int .i64 i) -> t.get .any 15 = .lit (.int .i64 i) ->
   Pp (W tab none (fin tab fi101) (lpc fi101 2) K ⟨t, 220, H, hs, [], ⟨false, true, gl⟩⟩) := by
  simp only [stU, stC, b101, Tryz.f101]
  intro i t h1 h2 h3 h4 a0 a1 a2 a3 a4 ai aj
  have e1 : decide ((i : Int) < (i : Int)) = false := dcF (by omega)
  rw [W_loop]
  simp only [sGA, seval, ai, aj, e1]
  apply hK _ i h1 h2 h3 h4
  all_goals simp only [sG, seval, a0, a1, a2, a3, a4, ai]
 simp only [stU, stC, b101, Tryz.f101] at stop
 intro k
 induction k with
 | zero =>
  intro i j t hk h1 hij h2 h3 h4 a0 a1 a2 a3 a4 ai aj
  have : j = i := by omega
  subst this
  exact stop j t h1 h2 h3 h4 a0 a1 a2 a3 a4 ai aj
 | succ k ih =>
  intro i j t hk h1 hij h2 h3 h4 a0 a1 a2 a3 a4 ai aj
  by_cases hlt : i < j
  ·have e1 : decide ((i : Int) < (j : Int)) = true := dcT (by omega)
   have w1 : IntKind.i64.wrap ((i : Int) + (j : Int)) = ((i + j : Nat) : Int) := wA (by omega)
   have w2 := wH (n := i + j) (by omega)
   have b1 : i <= (i + j) / 2 := by omega
   have b2 : (i + j) / 2 < j := by omega
   generalize (i + j) / 2 = h at w2 b1 b2
   have q := hph h (by omega) (by omega)
   obtain ⟨y, z, y1, y2, y3, y4⟩ := hG h (by omega) (by omega)
   have z1 := (List.getElem?_eq_some_iff.1 y1).1
   have z2 := (List.getElem?_eq_some_iff.1 y2).1
   have g0 := hb.get
   have l1 := rcGet y1
   have l2 := rcGet y2
   have n1 := rcLen z1
   have n2 := rcLen z2
   have i1 := dIx z1
   have i2 := dIx z2
   rw [<- hcap] at i1 i2
   simp only [encR] at l1 l2
   generalize rc d = d0 at *
   have w3 := wrap_succ (i := h) (by omega)
   have c := fun m H hs => @call66 m .no .no y z H hs (by omega)
   cases hc : decide (rcmp y z < 0) with
   | true =>
    rw [W_loop]
    simp only [sGA, seval, a0, a2, a4, ai, aj, e1, D, w1, w2, i1, i2, Int.toNat_natCast, Nat.mul_one, g0, l1, l2, n1, n2, c, hc]
    apply ih i h _ (by omega) (by omega) (by omega) (by omega) h3 (.inr (by rw [y3, hc]; rfl))
    all_goals simp only [sG, seval, a0, a1, a2, a3, a4, ai]
   | false =>
    rw [W_loop]
    simp only [sGA, seval, a0, a2, a4, ai, aj, e1, D, w1, w2, w3, i1, i2, Int.toNat_natCast, Nat.mul_one, g0, l1, l2, n1, n2, c, hc]
    apply ih (h + 1) j _ (by omega) (by omega) (by omega) (by omega) (.inr (by rw [Nat.add_sub_cancel, y3, hc]; rfl)) h4
    all_goals simp only [sG, seval, a0, a1, a2, a3, a4, aj]
  ·have : j = i := by omega
   subst this
   exact stop j t h1 h2 h3 h4 a0 a1 a2 a3 a4 ai aj
theorem symS3 {Pp : Option (AV × Tr AO × Nat) -> Prop} {K : List Fr} {b cap lo hi a m be mid nn p : Nat} {d : List Row} {G : Nat -> Bool} {H : Tr AO} {hs : Nat} {gl : Tr (Option AV)} (hb : RowsAt H b d) (hcap : cap = d.length) (hsm : cap < 1000000) (hhi : hi <= cap) (hpp : p < 3000000) (hph : ∀ h, lo <= h -> h < hi -> h <= p)
  (hG : ∀ h, lo <= h -> h < hi -> ∃ y z, d[p - h]? = some y /\ d[h]? = some z /\ G h = (!decide (rcmp y z < 0)) /\ y.length < 1000000)
  (hK : ∀ (t' : Tr AV) (i : Nat), lo <= i -> i <= hi -> (i = lo ∨ G (i - 1) = true) -> (i = hi ∨ G i = false) -> t'.get .any 0 = .slc b 0 cap (.op 1) -> t'.get .any 1 = .lit (.int .i64 a) -> t'.get .any 2 = .lit (.int .i64 m) -> t'.get .any 3 = .lit (.int .i64 be) -> t'.get .any 4 = .fn (.func 66) [] [] -> t'.get .any 18 = .lit (.int .i64 mid) -> t'.get .any 19 = .lit (.int .i64 nn) -> t'.get .any 22 = .lit (.int .i64 p) -> t'.get .any 20 = .lit (.int .i64 i) ->
   Pp (kont tab none (fin tab fi101) K (.exit 8) ⟨t', 220, H, hs, [], ⟨false, true, gl⟩⟩)) :
  ∀ (k i j : Nat) (t : Tr AV), j - i <= k -> lo <= i -> i <= j -> j <= hi -> (i = lo ∨ G (i - 1) = true) -> (j = hi ∨ G j = false) -> t.get .any 0 = .slc b 0 cap (.op 1) -> t.get .any 1 = .lit (.int .i64 a) -> t.get .any 2 = .lit (.int .i64 m) -> t.get .any 3 = .lit (.int .i64 be) -> t.get .any 4 = .fn (.func 66) [] [] -> t.get .any 18 = .lit (.int .i64 mid) -> t.get .any 19 = .lit (.int .i64 nn) -> t.get .any 22 = .lit (.int .i64 p) -> t.get .any 20 = .lit (.int .i64 i) -> t.get .any 21 = .lit (.int .i64 j) ->
  Pp (W tab none (fin tab fi101) (lpc fi101 4) K ⟨t, 220, H, hs, [], ⟨false, true, gl⟩⟩) := by
 have D := d101
 simp only [stD, stC, List.cons.injEq, b101, Tryz.f101] at D
 simp only [stU, stC, b101, Tryz.f101]
 have stop : ∀ (i : Nat) (t : Tr AV), lo <= i -> i <= hi -> (i = lo ∨ G (i - 1) = true) -> (i = hi ∨ G i = false) -> t.get .any 0 = .slc b 0 cap (.op 1) -> t.get .any 1 = .lit (.int .i64 a) -> t.get .any 2 = .lit (.int .i64 m) -> t.get .any 3 = .lit (.int .i64 be) -> t.get .any 4 = .fn (.func 66) [] [] -> t.get .any 18 = .lit (.int .i64 mid) -> t.get .any 19 = .lit (.int .i64 nn) -> t.get .any 22 = .lit (.int .i64 p) -> t.get .any 20 = .lit (.int .i64 i) -> t.get .any 21 = .lit (.int .i64 i) ->
   Pp (W tab none (fin tab fi101) (lpc fi101 4) K ⟨t, 220, H, hs, [], ⟨false, true, gl⟩⟩) := by
  simp only [stU, stC, b101, Tryz.f101]
  intro i t h1 h2 h3 h4 a0 a1 a2 a3 a4 a18 a19 a22 ai aj
  have e1 : decide ((i : Int) < (i : Int)) = false := dcF (by omega)
  rw [W_loop]
  simp only [sGA, seval, ai, aj, e1]
  apply hK _ i h1 h2 h3 h4
  all_goals simp only [sG, seval, a0, a1, a2, a3, a4, a18, a19, a22, ai]
 simp only [stU, stC, b101, Tryz.f101] at stop
 intro k
 induction k with
 | zero =>
  intro i j t hk h1 hij h2 h3 h4 a0 a1 a2 a3 a4 a18 a19 a22 ai aj
  have : j = i := by omega
  subst this
  exact stop j t h1 h2 h3 h4 a0 a1 a2 a3 a4 a18 a19 a22 ai aj
 | succ k ih =>
  intro i j t hk h1 hij h2 h3 h4 a0 a1 a2 a3 a4 a18 a19 a22 ai aj
  by_cases hlt : i < j
  ·have e1 : decide ((i : Int) < (j : Int)) = true := dcT (by omega)
   have w1 : IntKind.i64.wrap ((i : Int) + (j : Int)) = ((i + j : Nat) : Int) := wA (by omega)
   have w2 := wH (n := i + j) (by omega)
   have b1 : i <= (i + j) / 2 := by omega
   have b2 : (i + j) / 2 < j := by omega
   generalize (i + j) / 2 = h at w2 b1 b2
   have q := hph h (by omega) (by omega)
   obtain ⟨y, z, y1, y2, y3, y4⟩ := hG h (by omega) (by omega)
   have z1 := (List.getElem?_eq_some_iff.1 y1).1
   have z2 := (List.getElem?_eq_some_iff.1 y2).1
   have g0 := hb.get
   have l1 := rcGet y1
   have l2 := rcGet y2
   have n1 := rcLen z1
   have n2 := rcLen z2
   have i1 := dIx z1
   have i2 := dIx z2
   rw [<- hcap] at i1 i2
   simp only [encR] at l1 l2
   generalize rc d = d0 at *
   have w3 := wrap_succ (i := h) (by omega)
   have c := fun m H hs => @call66 m .no .no y z H hs (by omega)
   have w4 : IntKind.i64.wrap ((p : Int) - (h : Int)) = ((p - h : Nat) : Int) := wS q (by omega)
   cases hc : decide (rcmp y z < 0) with
   | true =>
    rw [W_loop]
    simp only [sGA, seval, a0, a4, a22, ai, aj, e1, D, w1, w2, w4, i1, i2, Int.toNat_natCast, Nat.mul_one, g0, l1, l2, n1, n2, c, hc]
    apply ih i h _ (by omega) (by omega) (by omega) (by omega) h3 (.inr (by rw [y3, hc]; rfl))
    all_goals simp only [sG, seval, a0, a1, a2, a3, a4, a18, a19, a22, ai]
   | false =>
    rw [W_loop]
    simp only [sGA, seval, a0, a4, a22, ai, aj, e1, D, w1, w2, w3, w4, i1, i2, Int.toNat_natCast, Nat.mul_one, g0, l1, l2, n1, n2, c, hc]
    apply ih (h + 1) j _ (by omega) (by omega) (by omega) (by omega) (.inr (by rw [Nat.add_sub_cancel, y3, hc]; rfl)) h4
    all_goals simp only [sG, seval, a0, a1, a2, a3, a4, a18, a19, a22, aj]
  ·have : j = i := by omega
   subst this
   exact stop j t h1 h2 h3 h4 a0 a1 a2 a3 a4 a18 a19 a22 ai aj
theorem symM1 {Pp : Option (AV × Tr AO × Nat) -> Prop} {K : List Fr} {P T : List Row} {x : Row} {b cap i : Nat} {H0 : Tr AO} {hs : Nat} {gl : Tr (Option AV)} (hsm : cap < 1000000) :
  ∀ (R E : List Row) (t : Tr AV) (H : Tr AO), cap = (P ++ (E ++ x :: (R ++ T))).length -> i = P.length + E.length + R.length + 1 -> (∀ q, q ≠ b -> H.get .dead q = H0.get .dead q) ->
  (hK : ∀ (t' : Tr AV) (H' : Tr AO), RowsAt H' b (P ++ ((E ++ R) ++ x :: T)) -> (∀ q, q ≠ b -> H'.get .dead q = H0.get .dead q) ->
   Pp (kont tab none (fin tab fi101) K (.exit 2) ⟨t', 220, H', hs, [], ⟨false, true, gl⟩⟩)) ->
  RowsAt H b (P ++ (E ++ x :: (R ++ T))) -> t.get .any 0 = .slc b 0 cap (.op 1) -> t.get .any 10 = .lit (.int .i64 i) -> t.get .any 13 = .lit (.int .i64 (P.length + E.length : Nat)) ->
  Pp (W tab none (fin tab fi101) (lpc fi101 1) K ⟨t, 220, H, hs, [], ⟨false, true, gl⟩⟩) := by
 have D := d101
 simp only [stD, stC, List.cons.injEq, b101, Tryz.f101] at D
 simp only [stU, stC, b101, Tryz.f101]
 intro R
 induction R with
 | nil =>
  intro E t H hcap hi hq hK hb a0 a10 a13
  simp only [List.length_append, List.length_cons, List.length_nil] at hcap hi
  have w1 : IntKind.i64.wrap ((i : Int) - 1) = ((P.length + E.length : Nat) : Int) := by rw [wS1 (by omega) (by omega)]; omega
  have e1 : decide (((P.length + E.length : Nat) : Int) < ((P.length + E.length : Nat) : Int)) = false := dcF (by omega)
  rw [W_loop]
  simp only [sGA, seval, a10, a13, w1, e1]
  exact hK _ H (by simpa using hb) hq
 | cons y R ih =>
  intro E t H hcap hi hq hK hb a0 a10 a13
  have hcap2 := hcap
  simp only [List.length_append, List.length_cons] at hcap hi
  have w1 : IntKind.i64.wrap ((i : Int) - 1) = ((P.length + E.length + R.length + 1 : Nat) : Int) := by rw [wS1 (by omega) (by omega)]; omega
  have w2 := wrap_succ (i := P.length + E.length) (by omega)
  have e1 : decide (((P.length + E.length : Nat) : Int) < ((P.length + E.length + R.length + 1 : Nat) : Int)) = true := dcT (by omega)
  have i1 : decide (0 <= ((P.length + E.length : Nat) : Int) /\ ((P.length + E.length : Nat) : Int) < (cap : Int)) = true := dIx (by omega)
  have i2 : decide (0 <= ((P.length + E.length + 1 : Nat) : Int) /\ ((P.length + E.length + 1 : Nat) : Int) < (cap : Int)) = true := dIx (by omega)
  have g0 := hb.get
  have l1 := rcGet (k := P.length + E.length) (r := x) (d := P ++ (E ++ x :: (y :: R ++ T))) (by rw [<- List.append_assoc]; exact get_mid (by simp))
  have l2 := rcGet (k := P.length + E.length + 1) (r := y) (d := P ++ (E ++ x :: (y :: R ++ T))) (by rw [show P ++ (E ++ x :: (y :: R ++ T)) = (P ++ (E ++ [x])) ++ y :: (R ++ T) by simp]; exact get_mid (by simp; omega))
  have n1 := rcLen (k := P.length + E.length) (d := P ++ (E ++ x :: (y :: R ++ T))) (by rw [<- hcap2]; omega)
  have n2 := rcLen (k := P.length + E.length + 1) (d := P ++ (E ++ x :: (y :: R ++ T))) (by rw [<- hcap2]; omega)
  have s1 := rcSet (k := P.length + E.length) (r := y) (d := P ++ (E ++ x :: (y :: R ++ T))) (by rw [<- hcap2]; omega)
  have z1 : (P ++ (E ++ x :: (y :: R ++ T))).set (P.length + E.length) y = P ++ (E ++ y :: (y :: R ++ T)) := by
   rw [<- List.append_assoc, set_mid (by simp)]; simp
  rw [z1] at s1
  have n3 := rcLen (k := P.length + E.length + 1) (d := P ++ (E ++ y :: (y :: R ++ T))) (by simp; omega)
  have s2 := rcSet (k := P.length + E.length + 1) (r := x) (d := P ++ (E ++ y :: (y :: R ++ T))) (by simp; omega)
  have z2 : (P ++ (E ++ y :: (y :: R ++ T))).set (P.length + E.length + 1) x = P ++ ((E ++ [y]) ++ x :: (R ++ T)) := by
   rw [show P ++ (E ++ y :: (y :: R ++ T)) = (P ++ (E ++ [y])) ++ y :: (R ++ T) by simp, set_mid (by simp; omega)]; simp
  rw [z2] at s2
  simp only [encR] at l1 l2 s1 s2
  generalize hd0 : rc (P ++ (E ++ x :: (y :: R ++ T))) = d0 at *
  generalize hd1 : rc (P ++ (E ++ y :: (y :: R ++ T))) = d1 at *
  rw [W_loop]
  simp only [sGA, seval, stU, a0, a10, a13, w1, w2, e1, D, i1, i2, Int.toNat_natCast, Nat.mul_one, g0, l1, l2, n1, n2, n3, s1, s2]
  subst hd0 hd1
  apply ih (E ++ [y]) _ _ (by rw [hcap2]; simp <;> omega) (by simp <;> omega) (fun q hq1 => by rw [Tr.get_put, if_neg hq1, Tr.get_put, if_neg hq1]; exact hq q hq1) (fun t' H' h1 h2 => hK t' H' (by simpa using h1) h2) RowsAt.put
  all_goals first | (simp only [sG, seval, a0, a10]; done) | (simp only [sG, seval, List.length_append, Nat.add_assoc]; done)
theorem symM2 {Pp : Option (AV × Tr AO × Nat) -> Prop} {K : List Fr} {P S : List Row} {y : Row} {b cap i : Nat} {H0 : Tr AO} {hs : Nat} {gl : Tr (Option AV)} (hsm : cap < 1000000) (hi : i = P.length) :
  ∀ (n : Nat) (R E : List Row) (t : Tr AV) (H : Tr AO), R.length = n -> cap = (P ++ (R ++ y :: (E ++ S))).length -> (∀ q, q ≠ b -> H.get .dead q = H0.get .dead q) ->
  (hK : ∀ (t' : Tr AV) (H' : Tr AO), RowsAt H' b (P ++ (y :: (R ++ E) ++ S)) -> (∀ q, q ≠ b -> H'.get .dead q = H0.get .dead q) ->
   Pp (kont tab none (fin tab fi101) K (.exit 6) ⟨t', 220, H', hs, [], ⟨false, true, gl⟩⟩)) ->
  RowsAt H b (P ++ (R ++ y :: (E ++ S))) -> t.get .any 0 = .slc b 0 cap (.op 1) -> t.get .any 14 = .lit (.int .i64 i) -> t.get .any 17 = .lit (.int .i64 (P.length + R.length : Nat)) ->
  Pp (W tab none (fin tab fi101) (lpc fi101 3) K ⟨t, 220, H, hs, [], ⟨false, true, gl⟩⟩) := by
 have D := d101
 simp only [stD, stC, List.cons.injEq, b101, Tryz.f101] at D
 simp only [stU, stC, b101, Tryz.f101]
 intro n
 induction n with
 | zero =>
  intro R E t H hn hcap hq hK hb a0 a14 a17
  obtain rfl := List.eq_nil_of_length_eq_zero hn
  simp only [List.length_nil, Nat.add_zero] at a17
  have e1 : decide ((i : Int) < (P.length : Int)) = false := dcF (by omega)
  rw [W_loop]
  simp only [sGA, seval, a14, a17, e1]
  exact hK _ H (by simpa using hb) hq
 | succ n ih =>
  intro R E t H hn hcap hq hK hb a0 a14 a17
  have hne : R ≠ [] := by rintro rfl; cases hn
  obtain ⟨R, z, rfl⟩ : ∃ A' x, R = A' ++ [x] := ⟨R.dropLast, R.getLast hne, (List.dropLast_concat_getLast hne).symm⟩
  simp only [List.length_append, List.length_singleton] at hn a17
  have hcap2 := hcap
  simp only [List.length_append, List.length_cons, List.length_nil] at hcap
  have w1 : IntKind.i64.wrap (((P.length + (R.length + 1) : Nat) : Int) - 1) = ((P.length + R.length : Nat) : Int) := by rw [wS1 (by omega) (by omega)]; omega
  have e1 : decide ((i : Int) < ((P.length + (R.length + 1) : Nat) : Int)) = true := dcT (by omega)
  have i1 : decide (0 <= ((P.length + R.length : Nat) : Int) /\ ((P.length + R.length : Nat) : Int) < (cap : Int)) = true := dIx (by omega)
  have i2 : decide (0 <= ((P.length + (R.length + 1) : Nat) : Int) /\ ((P.length + (R.length + 1) : Nat) : Int) < (cap : Int)) = true := dIx (by omega)
  have hd : P ++ ((R ++ [z]) ++ y :: (E ++ S)) = P ++ (R ++ z :: y :: (E ++ S)) := by simp
  rw [hd] at hb hcap2
  have g0 := hb.get
  have l1 := rcGet (k := P.length + R.length) (r := z) (d := P ++ (R ++ z :: y :: (E ++ S))) (by rw [<- List.append_assoc]; exact get_mid (by simp))
  have l2 := rcGet (k := P.length + (R.length + 1)) (r := y) (d := P ++ (R ++ z :: y :: (E ++ S))) (by rw [show P ++ (R ++ z :: y :: (E ++ S)) = (P ++ (R ++ [z])) ++ y :: (E ++ S) by simp]; exact get_mid (by simp))
  have n1 := rcLen (k := P.length + R.length) (d := P ++ (R ++ z :: y :: (E ++ S))) (by rw [<- hcap2]; omega)
  have n2 := rcLen (k := P.length + (R.length + 1)) (d := P ++ (R ++ z :: y :: (E ++ S))) (by rw [<- hcap2]; omega)
  have s1 := rcSet (k := P.length + (R.length + 1)) (r := z) (d := P ++ (R ++ z :: y :: (E ++ S))) (by rw [<- hcap2]; omega)
  have z1 : (P ++ (R ++ z :: y :: (E ++ S))).set (P.length + (R.length + 1)) z = P ++ (R ++ z :: z :: (E ++ S)) := by
   rw [show P ++ (R ++ z :: y :: (E ++ S)) = (P ++ (R ++ [z])) ++ y :: (E ++ S) by simp, set_mid (by simp)]; simp
  rw [z1] at s1
  have n3 := rcLen (k := P.length + R.length) (d := P ++ (R ++ z :: z :: (E ++ S))) (by simp <;> omega)
  have s2 := rcSet (k := P.length + R.length) (r := y) (d := P ++ (R ++ z :: z :: (E ++ S))) (by simp <;> omega)
  have z2 : (P ++ (R ++ z :: z :: (E ++ S))).set (P.length + R.length) y = P ++ (R ++ y :: (z :: E ++ S)) := by
   rw [<- List.append_assoc, set_mid (by simp)]; simp
  rw [z2] at s2
  simp only [encR] at l1 l2 s1 s2
  generalize hd0 : rc (P ++ (R ++ z :: y :: (E ++ S))) = d0 at *
  generalize hd1 : rc (P ++ (R ++ z :: z :: (E ++ S))) = d1 at *
  rw [W_loop]
  simp only [sGA, seval, stU, a0, a14, a17, w1, e1, D, i1, i2, Int.toNat_natCast, Nat.mul_one, g0, l1, l2, n1, n2, n3, s1, s2]
  subst hd0 hd1
  apply ih R (z :: E) _ _ (by omega) (by rw [hcap2]; simp) (fun q hq1 => by rw [Tr.get_put, if_neg hq1, Tr.get_put, if_neg hq1]; exact hq q hq1) (fun t' H' h1 h2 => hK t' H' (by simpa using h1) h2) RowsAt.put
  all_goals first | (simp only [sG, seval, a0, a14]; done)
theorem midA {P A T : List Row} {h : Nat} (h1 : P.length <= h) (h2 : h < P.length + A.length) : (P ++ (A ++ T))[h]? = A[h - P.length]? := by
 rw [List.getElem?_append_right h1, List.getElem?_append_left (by omega)]
theorem midB {P A B S : List Row} {h : Nat} (h1 : P.length + A.length <= h) (h2 : h < P.length + A.length + B.length) : (P ++ (A ++ (B ++ S)))[h]? = B[h - P.length - A.length]? := by
 rw [List.getElem?_append_right (by omega), List.getElem?_append_right (by omega), List.getElem?_append_left (by omega)]
theorem take_last {l : List Row} {j : Nat} {u : Row} (hj : j <= l.length) (h : (l.take j).getLast? = some u) : 0 < j /\ l[j - 1]? = some u := by
 rw [List.getLast?_take] at h
 split at h
 ·cases h
 ·refine ⟨by omega, ?_⟩
  rw [List.getElem?_eq_getElem (by omega)] at h ⊢
  exact h
theorem drop_head {l : List Row} {j : Nat} {u : Row} (h : (l.drop j).head? = some u) : l[j]? = some u := by
 rw [List.head?_drop] at h; exact h
theorem symA {m : Md} {P B S : List Row} {x : Row} {b cap : Nat} {H : Tr AO} {hs : Nat} (hB : 0 < B.length) (sB : SrtR B) (rB : rlens B) (rx : x.length < 1000000) (hcap : cap = (P ++ ([x] ++ (B ++ S))).length) (hsm : cap < 1000000) (hb : RowsAt H b (P ++ ([x] ++ (B ++ S)))) :
  ∃ v H' C, callF tab (evw tab) m 101 [.slc b 0 cap (.op 1), .lit (.int .i64 P.length), .lit (.int .i64 (P.length + 1 : Nat)), .lit (.int .i64 (P.length + 1 + B.length : Nat)), .fn (.func 66) [] []] H hs = some (v, H', hs) /\ SrtR C /\ C.Perm ([x] ++ B) /\ RowsAt H' b (P ++ (C ++ S)) /\ ∀ q, q ≠ b -> H'.get .dead q = H.get .dead q := by
 have hcap2 := hcap
 simp only [List.length_append, List.length_singleton] at hcap
 have S1 := @symS1
 simp only [stU, stC, b101, Tryz.f101] at S1
 have M1 := @symM1
 simp only [stU, stC, b101, Tryz.f101] at M1
 rw [callF_in (fi := fi101) tcon rfl rfl rfl]
 have w1 : IntKind.i64.wrap (((P.length + 1 : Nat) : Int) - (P.length : Int)) = 1 := by rw [wS (by omega) (by omega)]; omega
 have e1 : decide ((1 : Int) = 1) = true := rfl
 simp (maxSteps := 2000000) only [sGA, seval, x101, stU, b101, Tryz.f101, w1]
 refine S1 (Pp := fun X => ∃ v H' C, X = some (v, H', hs) /\ SrtR C /\ C.Perm ([x] ++ B) /\ RowsAt H' b (P ++ (C ++ S)) /\ ∀ q, q ≠ b -> H'.get .dead q = H.get .dead q) (lo := P.length + 1) (hi := P.length + 1 + B.length) (a := P.length) (m := P.length + 1) (be := P.length + 1 + B.length) (cap := cap) (p := 0) (mid := 0) (nn := 0)
  (G := fun h => match B[h - P.length - 1]? with | some y => decide (rcmp y x < 0) | none => false) hb hcap2 hsm (by omega) (by omega) (fun _ _ _ => trivial) ?_ ?_ B.length (P.length + 1) (P.length + 1 + B.length) _ (by omega) (by omega) (by omega) (by omega) (.inl rfl) (.inl rfl) ?_ ?_ ?_ ?_ ?_ ?_ ?_
 ·intro h h1 h2
  have e4 : B[h - P.length - 1]? = some B[h - P.length - 1] := List.getElem?_eq_getElem (by omega)
  refine ⟨B[h - P.length - 1], x, ?_, get_mid rfl, by rw [e4], rB _ (List.getElem_mem _)⟩
  rw [<- e4]; exact midB (A := [x]) (by simp; omega) (by simp; omega)
 ·intro t' i h1 h2 h3 h4 b0 b1 b2 b3 b4 b10
  obtain ⟨j, rfl⟩ : ∃ j, i = P.length + 1 + j := ⟨i - (P.length + 1), by omega⟩
  have hj : j <= B.length := by omega
  have k1 : ∀ u, (B.take j).getLast? = some u -> rle u x := by
   intro u hu
   obtain ⟨p1, p2⟩ := take_last hj hu
   rcases h3 with h3 | h3
   ·omega
   ·rw [show P.length + 1 + j - 1 - P.length - 1 = j - 1 by omega, p2] at h3
    exact Int.le_of_lt (of_decide_eq_true h3)
  have k2 : ∀ u, (B.drop j).head? = some u -> rle x u := by
   intro u hu
   have p2 := drop_head hu
   rcases h4 with h4 | h4
   ·rw [List.getElem?_eq_none (by omega)] at p2; cases p2
   ·rw [show P.length + 1 + j - P.length - 1 = j by omega, p2] at h4
    exact rle_nlt (of_decide_eq_false h4)
  have hsplit : B = B.take j ++ B.drop j := (List.take_append_drop _ _).symm
  have sT : SrtR (B.take j) := sB.sublist (List.take_sublist _ _)
  have sD : SrtR (B.drop j) := sB.sublist (List.drop_sublist _ _)
  simp only [sGA, seval, stU, b1]
  refine M1 (Pp := fun X => ∃ v H' C, X = some (v, H', hs) /\ SrtR C /\ C.Perm ([x] ++ B) /\ RowsAt H' b (P ++ (C ++ S)) /\ ∀ q, q ≠ b -> H'.get .dead q = H.get .dead q) (P := P) (T := B.drop j ++ S) (x := x) (b := b) (cap := cap) (i := P.length + 1 + j) (H0 := H) hsm (B.take j) [] _ H (by rw [hcap2]; simp; omega) (by simp; omega) (fun _ _ => rfl) ?_ ?_ ?_ ?_ ?_
  ·intro t2 H' r1 r2
   simp only [sGA, seval, x101, stU]
   refine ⟨one [], H', B.take j ++ x :: B.drop j, rfl, ?_, ?_, by simpa using r1, r2⟩
   ·have sx : SrtR (x :: B.drop j) := List.pairwise_cons.2 ⟨fun y hy => srtR_le (List.pairwise_singleton rle x) sD (fun u hu v hv => by simp at hu; subst hu; exact k2 v hv) x (by simp) y hy, sD⟩
    exact srtR_app sT sx (srtR_le sT sx (fun u hu v hv => by simp at hv; subst hv; exact k1 u hu))
   ·have := (List.perm_middle (a := x) (l₁ := B.take j) (l₂ := B.drop j))
    rw [List.take_append_drop] at this
    exact this
  ·have : P ++ ([] ++ x :: (B.take j ++ (B.drop j ++ S))) = P ++ ([x] ++ (B ++ S)) := by rw [<- List.append_assoc (B.take j), List.take_append_drop]; rfl
   rw [this]; exact hb
  ·simp only [sG, seval, b0]
  ·simp only [sG, seval, b10]
  ·simp only [sG, seval]
 all_goals simp only [sG, seval] <;> rfl
theorem symB {m : Md} {P A S : List Row} {y : Row} {b cap : Nat} {H : Tr AO} {hs : Nat} (hA : 1 < A.length) (sA : SrtR A) (ry : y.length < 1000000) (hcap : cap = (P ++ (A ++ ([y] ++ S))).length) (hsm : cap < 1000000) (hb : RowsAt H b (P ++ (A ++ ([y] ++ S)))) :
  ∃ v H' C, callF tab (evw tab) m 101 [.slc b 0 cap (.op 1), .lit (.int .i64 P.length), .lit (.int .i64 (P.length + A.length : Nat)), .lit (.int .i64 (P.length + A.length + 1 : Nat)), .fn (.func 66) [] []] H hs = some (v, H', hs) /\ SrtR C /\ C.Perm (A ++ [y]) /\ RowsAt H' b (P ++ (C ++ S)) /\ ∀ q, q ≠ b -> H'.get .dead q = H.get .dead q := by
 have hcap2 := hcap
 simp only [List.length_append, List.length_singleton] at hcap
 have S1 := @symS2
 simp only [stU, stC, b101, Tryz.f101] at S1
 have M1 := @symM2
 simp only [stU, stC, b101, Tryz.f101] at M1
 rw [callF_in (fi := fi101) tcon rfl rfl rfl]
 have w1 : IntKind.i64.wrap (((P.length + A.length : Nat) : Int) - (P.length : Int)) = (A.length : Int) := by rw [wS (by omega) (by omega)]; omega
 have w2 : IntKind.i64.wrap (((P.length + A.length + 1 : Nat) : Int) - ((P.length + A.length : Nat) : Int)) = 1 := by rw [wS (by omega) (by omega)]; omega
 have e0 : decide ((A.length : Int) = 1) = false := dcF (by omega)
 have e1 : decide ((1 : Int) = 1) = true := rfl
 simp (maxSteps := 2000000) only [sGA, seval, x101, stU, b101, Tryz.f101, w1, w2, e0]
 refine S1 (Pp := fun X => ∃ v H' C, X = some (v, H', hs) /\ SrtR C /\ C.Perm (A ++ [y]) /\ RowsAt H' b (P ++ (C ++ S)) /\ ∀ q, q ≠ b -> H'.get .dead q = H.get .dead q) (lo := P.length) (hi := P.length + A.length) (a := P.length) (m := P.length + A.length) (be := P.length + A.length + 1) (cap := cap) (p := 0) (mid := 0) (nn := 0)
  (G := fun h => match A[h - P.length]? with | some z => !decide (rcmp y z < 0) | none => false) hb hcap2 hsm (by omega) (by omega) (fun _ _ _ => trivial) ?_ ?_ A.length (P.length) (P.length + A.length) _ (by omega) (by omega) (by omega) (by omega) (.inl rfl) (.inl rfl) ?_ ?_ ?_ ?_ ?_ ?_ ?_
 ·intro h h1 h2
  have e4 : A[h - P.length]? = some A[h - P.length] := List.getElem?_eq_getElem (by omega)
  refine ⟨y, A[h - P.length], ?_, ?_, by rw [e4], ry⟩
  ·rw [midB (B := [y]) (by omega) (by simp)]
   rw [show P.length + A.length - P.length - A.length = 0 by omega]; rfl
  ·rw [<- e4]; exact midA (by omega) (by omega)
 ·intro t' i h1 h2 h3 h4 b0 b1 b2 b3 b4 b10
  obtain ⟨j, rfl⟩ : ∃ j, i = P.length + j := ⟨i - P.length, by omega⟩
  have hj : j <= A.length := by omega
  have k1 : ∀ u, (A.take j).getLast? = some u -> rle u y := by
   intro u hu
   obtain ⟨p1, p2⟩ := take_last hj hu
   rcases h3 with h3 | h3
   ·omega
   ·rw [show P.length + j - 1 - P.length = j - 1 by omega, p2] at h3
    simp only [Bool.not_eq_true'] at h3
    exact rle_nlt (of_decide_eq_false h3)
  have k2 : ∀ u, (A.drop j).head? = some u -> rle y u := by
   intro u hu
   have p2 := drop_head hu
   rcases h4 with h4 | h4
   ·rw [List.getElem?_eq_none (by omega)] at p2; cases p2
   ·rw [show P.length + j - P.length = j by omega, p2] at h4
    simp only [Bool.not_eq_false'] at h4
    exact Int.le_of_lt (of_decide_eq_true h4)
  have sT : SrtR (A.take j) := sA.sublist (List.take_sublist _ _)
  have sD : SrtR (A.drop j) := sA.sublist (List.drop_sublist _ _)
  have hz : P ++ (A ++ ([y] ++ S)) = (P ++ A.take j) ++ (A.drop j ++ y :: ([] ++ S)) := by
   rw [List.append_assoc P, <- List.append_assoc (A.take j), List.take_append_drop]; rfl
  simp only [sGA, seval, b2]
  refine M1 (Pp := fun X => ∃ v H' C, X = some (v, H', hs) /\ SrtR C /\ C.Perm (A ++ [y]) /\ RowsAt H' b (P ++ (C ++ S)) /\ ∀ q, q ≠ b -> H'.get .dead q = H.get .dead q) (P := P ++ A.take j) (S := S) (y := y) (b := b) (cap := cap) (i := P.length + j) (H0 := H) hsm (by simp; omega) (A.drop j).length (A.drop j) [] _ H rfl (by rw [hcap2, hz]) (fun _ _ => rfl) ?_ ?_ ?_ ?_ ?_
  ·intro t2 H' r1 r2
   simp only [sGA, seval, x101]
   refine ⟨one [], H', A.take j ++ y :: A.drop j, rfl, ?_, ?_, by simpa using r1, r2⟩
   ·have sx : SrtR (y :: A.drop j) := List.pairwise_cons.2 ⟨fun z hz => srtR_le (List.pairwise_singleton rle y) sD (fun u hu v hv => by simp at hu; subst hu; exact k2 v hv) y (by simp) z hz, sD⟩
    exact srtR_app sT sx (srtR_le sT sx (fun u hu v hv => by simp at hv; subst hv; exact k1 u hu))
   ·have := (List.perm_middle (a := y) (l₁ := A.take j) (l₂ := A.drop j))
    rw [List.take_append_drop] at this
    exact this.trans (List.perm_append_singleton y A).symm
  ·rw [<- hz]; exact hb
  ·simp only [sG, seval, b0]
  ·simp only [sG, seval, b10]
  ·rw [show (P ++ A.take j).length + (A.drop j).length = P.length + A.length by simp; omega]
   simp only [sG, seval]
 all_goals simp only [sG, seval] <;> rfl
theorem rlens.sub {l l' : List Row} (h : rlens l) (hs : l'.Sublist l) : rlens l' := fun r hr => h r (hs.subset hr)
theorem cSym : ∀ (n : Nat) {m : Md} {P A B S : List Row} {b cap : Nat} {H : Tr AO} {hs : Nat}, A.length + B.length <= n -> 0 < A.length -> 0 < B.length -> SrtR A -> SrtR B -> rlens A -> rlens B -> cap = (P ++ (A ++ (B ++ S))).length -> cap < 1000000 -> RowsAt H b (P ++ (A ++ (B ++ S))) ->
  ∃ v H' C, callF tab (evw tab) m 101 [.slc b 0 cap (.op 1), .lit (.int .i64 P.length), .lit (.int .i64 (P.length + A.length : Nat)), .lit (.int .i64 (P.length + A.length + B.length : Nat)), .fn (.func 66) [] []] H hs = some (v, H', hs) /\ SrtR C /\ C.Perm (A ++ B) /\ RowsAt H' b (P ++ (C ++ S)) /\ ∀ q, q ≠ b -> H'.get .dead q = H.get .dead q := by
 intro n
 induction n with
 | zero => intro m P A B S b cap H hs h1 h2; omega
 | succ n ih =>
  intro m P A B S b cap H hs hn hA hB sA sB rA rB hcap hsm hb
  by_cases h1 : A.length = 1
  ·obtain ⟨x, rfl⟩ := List.length_eq_one_iff.1 h1
   exact symA hB sB rB (rA x (by simp)) hcap hsm hb
  by_cases h2 : B.length = 1
  ·obtain ⟨y, rfl⟩ := List.length_eq_one_iff.1 h2
   exact symB (by omega) sA (rB y (by simp)) hcap hsm hb
  have hcap2 := hcap
  simp only [List.length_append] at hcap
  have S3 := @symS3
  simp only [stU, stC, b101, Tryz.f101] at S3
  generalize hmm : P.length + A.length = mm at *
  generalize hbe : mm + B.length = be at *
  rw [callF_in (fi := fi101) tcon rfl rfl rfl]
  have w1 : IntKind.i64.wrap ((mm : Int) - (P.length : Int)) = (A.length : Int) := by rw [wS (by omega) (by omega)]; omega
  have w2 : IntKind.i64.wrap ((be : Int) - (mm : Int)) = (B.length : Int) := by rw [wS (by omega) (by omega)]; omega
  have e0 : decide ((A.length : Int) = 1) = false := dcF (by omega)
  have e1 : decide ((B.length : Int) = 1) = false := dcF (by omega)
  have w3 : IntKind.i64.wrap ((P.length : Int) + (be : Int)) = ((P.length + be : Nat) : Int) := wA (by omega)
  have w4 := wH (n := P.length + be) (by omega)
  have q1 : 2 * ((P.length + be) / 2) <= P.length + be := by omega
  have q2 : P.length + be < 2 * ((P.length + be) / 2) + 2 := by omega
  generalize (P.length + be) / 2 = mid at w4 q1 q2
  have w5 : IntKind.i64.wrap ((mid : Int) + (mm : Int)) = ((mid + mm : Nat) : Int) := wA (by omega)
  have w6 : IntKind.i64.wrap (((mid + mm : Nat) : Int) - 1) = ((mid + mm - 1 : Nat) : Int) := wS1 (by omega) (by omega)
  generalize hgl : m.gl = gl
  have rest : ∀ (t' : Tr AV) (i : Nat), P.length <= i -> i <= mm -> mm <= mid + mm - i -> mid + mm - i <= be -> i <= mid ->
    (∀ u, (A.take (i - P.length)).getLast? = some u -> ∀ v, (B.drop (mid - i)).head? = some v -> rle u v) -> (∀ u, (B.take (mid - i)).getLast? = some u -> ∀ v, (A.drop (i - P.length)).head? = some v -> rle u v) ->
    t'.get .any 0 = .slc b 0 cap (.op 1) -> t'.get .any 1 = .lit (.int .i64 P.length) -> t'.get .any 2 = .lit (.int .i64 mm) -> t'.get .any 3 = .lit (.int .i64 be) -> t'.get .any 4 = .fn (.func 66) [] [] -> t'.get .any 18 = .lit (.int .i64 mid) -> t'.get .any 19 = .lit (.int .i64 (mid + mm : Nat)) -> t'.get .any 20 = .lit (.int .i64 i) ->
    ∃ v H' C, kont tab none (fin tab fi101) (lpk fi101 4) (.exit 8) ⟨t', 220, H, hs, [], ⟨false, true, gl⟩⟩ = some (v, H', hs) /\ SrtR C /\ C.Perm (A ++ B) /\ RowsAt H' b (P ++ (C ++ S)) /\ ∀ q, q ≠ b -> H'.get .dead q = H.get .dead q := by
   intro t' i k1 k2 k3 k4 k9 k5 k6 b0 b1 b2 b3 b4 b18 b19 b20
   simp only [stU, stC, b101, Tryz.f101]
   have w7 : IntKind.i64.wrap (((mid + mm : Nat) : Int) - (i : Int)) = ((mid + mm - i : Nat) : Int) := wS (by omega) (by omega)
   have eA : A = A.take (i - P.length) ++ A.drop (i - P.length) := (List.take_append_drop _ _).symm
   have eB : B = B.take (mid - i) ++ B.drop (mid - i) := (List.take_append_drop _ _).symm
   have lA1 : (A.take (i - P.length)).length = i - P.length := by rw [List.length_take]; omega
   have lA2 : (A.drop (i - P.length)).length = mm - i := by rw [List.length_drop]; omega
   have lB1 : (B.take (mid - i)).length = mid - i := by rw [List.length_take]; omega
   have lB2 : (B.drop (mid - i)).length = be - (mid + mm - i) := by rw [List.length_drop]; omega
   have sA1 : SrtR (A.take (i - P.length)) := sA.sublist (List.take_sublist _ _)
   have sA2 : SrtR (A.drop (i - P.length)) := sA.sublist (List.drop_sublist _ _)
   have sB1 : SrtR (B.take (mid - i)) := sB.sublist (List.take_sublist _ _)
   have sB2 : SrtR (B.drop (mid - i)) := sB.sublist (List.drop_sublist _ _)
   have rA1 := rA.sub (List.take_sublist (i - P.length) A)
   have rA2 := rA.sub (List.drop_sublist (i - P.length) A)
   have rB1 := rB.sub (List.take_sublist (mid - i) B)
   have rB2 := rB.sub (List.drop_sublist (mid - i) B)
   have sAA : ∀ u ∈ A.take (i - P.length), ∀ v ∈ A.drop (i - P.length), rle u v := by rw [eA] at sA; have := (List.pairwise_append.1 sA).2.2; simpa using this
   have sBB : ∀ u ∈ B.take (mid - i), ∀ v ∈ B.drop (mid - i), rle u v := by rw [eB] at sB; have := (List.pairwise_append.1 sB).2.2; simpa using this
   generalize A.take (i - P.length) = A1 at *
   generalize A.drop (i - P.length) = A2 at *
   generalize B.take (mid - i) = B1 at *
   generalize B.drop (mid - i) = B2 at *
   subst eA eB
   have sAB := srtR_le sA1 sB2 k5
   have sBA := srtR_le sB1 sA2 k6
   obtain ⟨H1, r1a, r1b, r1c⟩ : ∃ H1, ((decide ((i : Int) < (mm : Int)) = true /\ decide ((mm : Int) < ((mid + mm - i : Nat) : Int)) = true /\ ∃ v, callF tab (evw tab) ⟨false, true, gl⟩ 107 [.slc b 0 cap (.op 1), .lit (.int .i64 i), .lit (.int .i64 mm), .lit (.int .i64 (mid + mm - i : Nat)), .fn (.func 66) [] []] H hs = some (v, H1, hs)) ∨ (decide ((i : Int) < (mm : Int)) = false /\ decide ((i : Int) < (mm : Int)) = false /\ decide ((i : Int) < (mm : Int)) = false /\ H1 = H) ∨ (decide ((i : Int) < (mm : Int)) = true /\ decide ((mm : Int) < ((mid + mm - i : Nat) : Int)) = false /\ decide ((mm : Int) < ((mid + mm - i : Nat) : Int)) = false /\ H1 = H)) /\
     RowsAt H1 b (P ++ (A1 ++ (B1 ++ ((A2 ++ B2) ++ S)))) /\ ∀ q, q ≠ b -> H1.get .dead q = H.get .dead q := by
    by_cases c1 : i < mm
    ·by_cases c2 : mm < mid + mm - i
     ·obtain ⟨v, H1, x1, x2, x3⟩ := cRot (m := ⟨false, true, gl⟩) (P := P ++ A1) (U := A2) (V := B1) (S := B2 ++ S) (b := b) (cap := cap) (k3 := .fn (.func 66) [] []) (H := H) (hs := hs) (by simpa using hb) (by omega) (by omega) (by rw [hcap2]; simp) hsm
      rw [List.length_append, show P.length + A1.length = i by omega, show i + A2.length = mm by omega, show mm + B1.length = mid + mm - i by omega] at x1
      exact ⟨H1, .inl ⟨dcT (by omega), dcT (by omega), v, x1⟩, by simpa using x2, x3⟩
     ·have : B1 = [] := List.eq_nil_of_length_eq_zero (by omega)
      subst this
      exact ⟨H, .inr (.inr ⟨dcT (by omega), dcF (by omega), dcF (by omega), rfl⟩), by simpa using hb, fun _ _ => rfl⟩
    ·have : A2 = [] := List.eq_nil_of_length_eq_zero (by omega)
     subst this
     exact ⟨H, .inr (.inl ⟨dcF (by omega), dcF (by omega), dcF (by omega), rfl⟩), by simpa using hb, fun _ _ => rfl⟩
   have hlen : cap = P.length + (A1.length + A2.length) + (B1.length + B2.length) + S.length := by simp only [List.length_append] at hcap; omega
   obtain ⟨H2, C1, r2a, s1, p1, r2b, r2c⟩ : ∃ H2 C1, ((decide ((P.length : Int) < (i : Int)) = true /\ decide ((i : Int) < (mid : Int)) = true /\ ∃ v, callF tab (evw tab) ⟨false, true, gl⟩ 101 [.slc b 0 cap (.op 1), .lit (.int .i64 P.length), .lit (.int .i64 i), .lit (.int .i64 mid), .fn (.func 66) [] []] H1 hs = some (v, H2, hs)) ∨ (decide ((P.length : Int) < (i : Int)) = false /\ decide ((P.length : Int) < (i : Int)) = false /\ decide ((P.length : Int) < (i : Int)) = false /\ H2 = H1) ∨ (decide ((P.length : Int) < (i : Int)) = true /\ decide ((i : Int) < (mid : Int)) = false /\ decide ((i : Int) < (mid : Int)) = false /\ H2 = H1)) /\
     SrtR C1 /\ C1.Perm (A1 ++ B1) /\ RowsAt H2 b (P ++ (C1 ++ (A2 ++ (B2 ++ S)))) /\ ∀ q, q ≠ b -> H2.get .dead q = H1.get .dead q := by
    by_cases c1 : P.length < i
    ·by_cases c2 : i < mid
     ·obtain ⟨v, H2, C1, x1, x2, x3, x4, x5⟩ := ih (m := ⟨false, true, gl⟩) (P := P) (A := A1) (B := B1) (S := (A2 ++ B2) ++ S) (b := b) (cap := cap) (H := H1) (hs := hs) (by omega) (by omega) (by omega) sA1 sB1 rA1 rB1 (by rw [hlen]; simp only [List.length_append]; omega) hsm r1b
      rw [show P.length + A1.length = i by omega, show i + B1.length = mid by omega] at x1
      exact ⟨H2, C1, .inl ⟨dcT (by omega), dcT (by omega), v, x1⟩, x2, x3, by simpa using x4, x5⟩
     ·have : B1 = [] := List.eq_nil_of_length_eq_zero (by omega)
      subst this
      exact ⟨H1, A1, .inr (.inr ⟨dcT (by omega), dcF (by omega), dcF (by omega), rfl⟩), sA1, by simp, by simpa using r1b, fun _ _ => rfl⟩
    ·have : A1 = [] := List.eq_nil_of_length_eq_zero (by omega)
     subst this
     exact ⟨H1, B1, .inr (.inl ⟨dcF (by omega), dcF (by omega), dcF (by omega), rfl⟩), sB1, by simp, by simpa using r1b, fun _ _ => rfl⟩
   have lC1 := p1.length_eq
   rw [List.length_append] at lC1
   obtain ⟨H3, C2, r3a, s2, p2, r3b, r3c⟩ : ∃ H3 C2, ((decide ((mid : Int) < ((mid + mm - i : Nat) : Int)) = true /\ decide (((mid + mm - i : Nat) : Int) < (be : Int)) = true /\ ∃ v, callF tab (evw tab) ⟨false, true, gl⟩ 101 [.slc b 0 cap (.op 1), .lit (.int .i64 mid), .lit (.int .i64 (mid + mm - i : Nat)), .lit (.int .i64 be), .fn (.func 66) [] []] H2 hs = some (v, H3, hs)) ∨ (decide ((mid : Int) < ((mid + mm - i : Nat) : Int)) = false /\ decide ((mid : Int) < ((mid + mm - i : Nat) : Int)) = false /\ decide ((mid : Int) < ((mid + mm - i : Nat) : Int)) = false /\ H3 = H2) ∨ (decide ((mid : Int) < ((mid + mm - i : Nat) : Int)) = true /\ decide (((mid + mm - i : Nat) : Int) < (be : Int)) = false /\ decide (((mid + mm - i : Nat) : Int) < (be : Int)) = false /\ H3 = H2)) /\
     SrtR C2 /\ C2.Perm (A2 ++ B2) /\ RowsAt H3 b (P ++ (C1 ++ (C2 ++ S))) /\ ∀ q, q ≠ b -> H3.get .dead q = H2.get .dead q := by
    by_cases c1 : mid < mid + mm - i
    ·by_cases c2 : mid + mm - i < be
     ·obtain ⟨v, H3, C2, x1, x2, x3, x4, x5⟩ := ih (m := ⟨false, true, gl⟩) (P := P ++ C1) (A := A2) (B := B2) (S := S) (b := b) (cap := cap) (H := H2) (hs := hs) (by omega) (by omega) (by omega) sA2 sB2 rA2 rB2 (by rw [hlen]; simp only [List.length_append]; omega) hsm (by simpa using r2b)
      rw [List.length_append, show P.length + C1.length = mid by omega, show mid + A2.length = mid + mm - i by omega, show mid + mm - i + B2.length = be by omega] at x1
      exact ⟨H3, C2, .inl ⟨dcT (by omega), dcT (by omega), v, x1⟩, x2, x3, by simpa using x4, x5⟩
     ·have : B2 = [] := List.eq_nil_of_length_eq_zero (by omega)
      subst this
      exact ⟨H2, A2, .inr (.inr ⟨dcT (by omega), dcF (by omega), dcF (by omega), rfl⟩), sA2, by simp, by simpa using r2b, fun _ _ => rfl⟩
    ·have : A2 = [] := List.eq_nil_of_length_eq_zero (by omega)
     subst this
     exact ⟨H2, B2, .inr (.inl ⟨dcF (by omega), dcF (by omega), dcF (by omega), rfl⟩), sB2, by simp, by simpa using r2b, fun _ _ => rfl⟩
   have sC : SrtR (C1 ++ C2) := srtR_app s1 s2 (fun u hu v hv => by
    have hu := p1.mem_iff.1 hu
    have hv := p2.mem_iff.1 hv
    rcases List.mem_append.1 hu with hu | hu <;> rcases List.mem_append.1 hv with hv | hv
    ·exact sAA u hu v hv
    ·exact sAB u hu v hv
    ·exact sBA u hu v hv
    ·exact sBB u hu v hv)
   have pC : (C1 ++ C2).Perm (A1 ++ A2 ++ (B1 ++ B2)) := by
    refine (p1.append p2).trans ?_
    rw [List.append_assoc, List.append_assoc]
    refine List.Perm.append_left _ ?_
    rw [<- List.append_assoc, <- List.append_assoc]
    exact List.Perm.append_right _ List.perm_append_comm
   have fr : ∀ q, q ≠ b -> H3.get .dead q = H.get .dead q := fun q hq => (r3c q hq).trans ((r2c q hq).trans (r1c q hq))
   rcases r1a with ⟨f1, f2, v1, f3⟩ | ⟨f1, f2, f3, rfl⟩ | ⟨f1, f2, f3, rfl⟩ <;> rcases r2a with ⟨g1, g2, v2, g3⟩ | ⟨g1, g2, g3, rfl⟩ | ⟨g1, g2, g3, rfl⟩ <;> rcases r3a with ⟨h1, h2, v3, h3⟩ | ⟨h1, h2, h3, rfl⟩ | ⟨h1, h2, h3, rfl⟩ <;>
    refine ⟨one [], _, C1 ++ C2, ?_, sC, pC, by simpa using r3b, fr⟩ <;>
    (try clear r1b r2b r3b) <;>
    simp (maxSteps := 2000000) only [sGA, seval, x101, b0, b1, b2, b3, b4, b18, b19, b20, w7, f1, f2, f3, g1, g2, g3, h1, h2, h3]
  simp only [stU, stC, b101, Tryz.f101] at rest
  have apps : ∀ (lo hi : Nat) (t : Tr AV), P.length <= lo -> lo <= hi -> hi <= mm -> hi <= mid -> mid + mm - be <= lo -> (lo = P.length ∨ lo = mid + mm - be) -> (hi = mm ∨ hi = mid) ->
    t.get .any 0 = .slc b 0 cap (.op 1) -> t.get .any 1 = .lit (.int .i64 P.length) -> t.get .any 2 = .lit (.int .i64 mm) -> t.get .any 3 = .lit (.int .i64 be) -> t.get .any 4 = .fn (.func 66) [] [] -> t.get .any 18 = .lit (.int .i64 mid) -> t.get .any 19 = .lit (.int .i64 (mid + mm : Nat)) -> t.get .any 22 = .lit (.int .i64 (mid + mm - 1 : Nat)) -> t.get .any 20 = .lit (.int .i64 lo) -> t.get .any 21 = .lit (.int .i64 hi) ->
    ∃ v H' C, W tab none (fin tab fi101) (lpc fi101 4) (lpk fi101 4) ⟨t, 220, H, hs, [], ⟨false, true, gl⟩⟩ = some (v, H', hs) /\ SrtR C /\ C.Perm (A ++ B) /\ RowsAt H' b (P ++ (C ++ S)) /\ ∀ q, q ≠ b -> H'.get .dead q = H.get .dead q := by
   intro lo hi t j1 j2 j3 j4 j5 j6 j7 a0 a1 a2 a3 a4 a18 a19 a22 a20 a21
   simp only [stU, stC, b101, Tryz.f101]
   refine S3 (Pp := fun X => ∃ v H' C, X = some (v, H', hs) /\ SrtR C /\ C.Perm (A ++ B) /\ RowsAt H' b (P ++ (C ++ S)) /\ ∀ q, q ≠ b -> H'.get .dead q = H.get .dead q) (lo := lo) (hi := hi) (a := P.length) (m := mm) (be := be) (cap := cap) (p := mid + mm - 1) (mid := mid) (nn := mid + mm)
    (G := fun h => match B[mid + mm - 1 - h - mm]?, A[h - P.length]? with | some y, some z => !decide (rcmp y z < 0) | _, _ => false) hb hcap2 hsm (by omega) (by omega) (fun h _ _ => by omega) ?_ ?_ (hi - lo) lo hi t (by omega) (by omega) (by omega) (by omega) (.inl rfl) (.inl rfl) a0 a1 a2 a3 a4 a18 a19 a22 a20 a21
   ·intro h g1 g2
    have x1 : A[h - P.length]? = some A[h - P.length] := List.getElem?_eq_getElem (by omega)
    have x2 : B[mid + mm - 1 - h - mm]? = some B[mid + mm - 1 - h - mm] := List.getElem?_eq_getElem (by omega)
    refine ⟨B[mid + mm - 1 - h - mm], A[h - P.length], ?_, ?_, by rw [x1, x2], rB _ (List.getElem_mem _)⟩
    ·rw [<- x2, midB (by omega) (by omega)]
     congr 1; omega
    ·rw [<- x1]; exact midA (by omega) (by omega)
   ·intro t' i g1 g2 g3 g4 b0 b1 b2 b3 b4 b18 b19 b22 b20
    refine rest t' i (by omega) (by omega) (by omega) (by omega) (by omega) ?_ ?_ b0 b1 b2 b3 b4 b18 b19 b20
    ·intro u hu v hv
     obtain ⟨p1, p2⟩ := take_last (by omega) hu
     have p3 := drop_head hv
     have hlt : mid - i < B.length := (List.getElem?_eq_some_iff.1 p3).1
     rcases g3 with g3 | g3
     ·omega
     ·rw [show mid + mm - 1 - (i - 1) - mm = mid - i by omega, p3, show i - 1 - P.length = i - P.length - 1 by omega, p2] at g3
      simp only [Bool.not_eq_true'] at g3
      exact rle_nlt (of_decide_eq_false g3)
    ·intro u hu v hv
     obtain ⟨p1, p2⟩ := take_last (by omega) hu
     have p3 := drop_head hv
     have hlt : i - P.length < A.length := (List.getElem?_eq_some_iff.1 p3).1
     rcases g4 with g4 | g4
     ·omega
     ·rw [show mid + mm - 1 - i - mm = mid - i - 1 by omega, p2, p3] at g4
      simp only [Bool.not_eq_false'] at g4
      exact Int.le_of_lt (of_decide_eq_true g4)
  simp only [stU, stC, b101, Tryz.f101] at apps
  clear rest
  by_cases hc : mid < mm
  ·have e2 : decide ((mid : Int) < (mm : Int)) = true := dcT (by omega)
   have w8 : IntKind.i64.wrap (((mid + mm : Nat) : Int) - (be : Int)) = ((mid + mm - be : Nat) : Int) := wS (by omega) (by omega)
   simp (maxSteps := 2000000) only [sGA, seval, x101, stU, b101, Tryz.f101, w1, w2, w3, w4, w5, w6, w8, e0, e1, e2, hgl]
   apply apps (mid + mm - be) mid _ (by omega) (by omega) (by omega) (by omega) (by omega) (.inr rfl) (.inr rfl)
   all_goals simp only [sG, seval] <;> rfl
  ·have e2 : decide ((mid : Int) < (mm : Int)) = false := dcF (by omega)
   simp (maxSteps := 2000000) only [sGA, seval, x101, stU, b101, Tryz.f101, w1, w2, w3, w4, w5, w6, e0, e1, e2, hgl]
   apply apps P.length mm _ (by omega) (by omega) (by omega) (by omega) (by omega) (.inl rfl) (.inl rfl)
   all_goals simp only [sG, seval] <;> rfl
def Blks (k : Nat) (l : List Row) : Prop := ∃ bs : List (List Row), l = bs.flatten /\ ∀ x ∈ bs, SrtR x /\ x.length = k
theorem Blks.nil {k : Nat} : Blks k [] := ⟨[], rfl, by simp⟩
theorem Blks.snoc {k : Nat} {F C : List Row} (h : Blks k F) (hC : SrtR C) (hl : C.length = k) : Blks k (F ++ C) := by
 obtain ⟨bs, rfl, hb⟩ := h
 refine ⟨bs ++ [C], by simp, fun x hx => ?_⟩
 rcases List.mem_append.1 hx with h | h
 ·exact hb x h
 ·simp at h; subst h; exact ⟨hC, hl⟩
theorem rlens.perm {l l' : List Row} (h : rlens l) (hp : l'.Perm l) : rlens l' := fun r hr => h r (hp.mem_iff.1 hr)
theorem stbA {Pp : Option (AV × Tr AO × Nat) -> Prop} {K : List Fr} {d0 : List Row} {b n : Nat} {H0 : Tr AO} {hs : Nat} {gl : Tr (Option AV)} (hn : n = d0.length) (hsm : n < 100000) (hrl : rlens d0)
  (hK : ∀ (t' : Tr AV) (H' : Tr AO) (F R : List Row), R.length < 20 -> Blks 20 F -> (F ++ R).Perm d0 -> RowsAt H' b (F ++ R) -> (∀ q, q ≠ b -> H'.get .dead q = H0.get .dead q) -> t'.get .any 0 = .slc b 0 n (.op 1) -> t'.get .any 1 = .lit (.int .i64 n) -> t'.get .any 2 = .fn (.func 66) [] [] -> t'.get .any 6 = .lit (.int .i64 20) -> t'.get .any 7 = .lit (.int .i64 F.length) ->
   Pp (kont tab none (fin tab fi85) K (.exit 0) ⟨t', 63, H', hs, [], ⟨false, true, gl⟩⟩)) :
  ∀ (k : Nat) (F R : List Row) (t : Tr AV) (H : Tr AO), R.length <= k -> Blks 20 F -> (F ++ R).Perm d0 -> RowsAt H b (F ++ R) -> (∀ q, q ≠ b -> H.get .dead q = H0.get .dead q) -> t.get .any 0 = .slc b 0 n (.op 1) -> t.get .any 1 = .lit (.int .i64 n) -> t.get .any 2 = .fn (.func 66) [] [] -> t.get .any 6 = .lit (.int .i64 20) -> t.get .any 7 = .lit (.int .i64 F.length) -> t.get .any 8 = .lit (.int .i64 (F.length + 20 : Nat)) ->
  Pp (W tab none (fin tab fi85) (lpc fi85 0) K ⟨t, 63, H, hs, [], ⟨false, true, gl⟩⟩) := by
 simp only [stU, stC, b85, Tryz.f85]
 intro k
 induction k with
 | zero =>
  intro F R t H hk h1 h2 h3 h4 a0 a1 a2 a6 a7 a8
  obtain rfl := List.eq_nil_of_length_eq_zero (Nat.le_zero.1 hk)
  have hl := h2.length_eq
  simp only [List.length_append, List.length_nil] at hl
  have e1 : decide (((F.length + 20 : Nat) : Int) <= (n : Int)) = false := dcF (by omega)
  rw [W_loop]
  simp only [sGA, seval, a1, a8, e1]
  apply hK _ H F [] (by simp) h1 h2 h3 h4
  all_goals simp only [sG, seval, a0, a1, a2, a6, a7]
 | succ k ih =>
  intro F R t H hk h1 h2 h3 h4 a0 a1 a2 a6 a7 a8
  have hl := h2.length_eq
  simp only [List.length_append] at hl
  by_cases hc : F.length + 20 <= n
  ·have e1 : decide (((F.length + 20 : Nat) : Int) <= (n : Int)) = true := dcT (by omega)
   have w1 : IntKind.i64.wrap (((F.length + 20 : Nat) : Int) + 20) = ((F.length + 20 + 20 : Nat) : Int) := wA (b := 20) (by omega)
   obtain ⟨v, H', C, x1, x2, x3, x4, x5⟩ := cIns (m := ⟨false, true, gl⟩) (P := F) (L := R.take 20) (S := R.drop 20) (b := b) (cap := n) (H := H) (hs := hs) (by rw [List.take_append_drop]; exact h3) (by rw [List.length_take, List.length_drop]; omega) (by omega) (fun r hr => hrl r (h2.mem_iff.1 (List.mem_append_right _ (List.mem_of_mem_take hr))))
   have lC := x3.length_eq
   have lT : (R.take 20).length = 20 := by rw [List.length_take]; omega
   rw [lT] at x1 lC
   rw [W_loop]
   simp only [sGA, seval, a0, a1, a2, a6, a7, a8, e1, w1, x1]
   apply ih (F ++ C) (R.drop 20) _ H' (by rw [List.length_drop]; omega) (h1.snoc x2 lC) ?_ (by simpa using x4) (fun q hq => (x5 q hq).trans (h4 q hq))
   ·simp only [sG, seval, a0]
   ·simp only [sG, seval, a1]
   ·simp only [sG, seval, a2]
   ·simp only [sG, seval, a6]
   ·simp only [sG, seval, List.length_append, lC]
   ·simp only [sG, seval, List.length_append, lC]
   ·refine List.Perm.trans ?_ h2
    rw [List.append_assoc]
    refine List.Perm.append_left _ ?_
    have := x3.append_right (R.drop 20)
    rwa [List.take_append_drop] at this
  ·have e1 : decide (((F.length + 20 : Nat) : Int) <= (n : Int)) = false := dcF (by omega)
   rw [W_loop]
   simp only [sGA, seval, a1, a8, e1]
   apply hK _ H F R (by omega) h1 h2 h3 h4
   all_goals simp only [sG, seval, a0, a1, a2, a6, a7]
theorem stbC {Pp : Option (AV × Tr AO × Nat) -> Prop} {K : List Fr} {d0 T : List Row} {b n k : Nat} {H0 : Tr AO} {hs : Nat} {gl : Tr (Option AV)} (hn : n = d0.length) (hsm : n < 100000) (hrl : rlens d0) (hk : 0 < k) (hkn : k < n) (hT : T.length < k)
  (hK : ∀ (t' : Tr AV) (H' : Tr AO) (G : List Row) (bs : List (List Row)), (bs.flatten ++ T).length < 2 * k -> Blks (2 * k) G -> (∀ x ∈ bs, SrtR x /\ x.length = k) -> (G ++ (bs.flatten ++ T)).Perm d0 -> RowsAt H' b (G ++ (bs.flatten ++ T)) -> (∀ q, q ≠ b -> H'.get .dead q = H0.get .dead q) -> t'.get .any 0 = .slc b 0 n (.op 1) -> t'.get .any 1 = .lit (.int .i64 n) -> t'.get .any 2 = .fn (.func 66) [] [] -> t'.get .any 6 = .lit (.int .i64 k) -> t'.get .any 7 = .lit (.int .i64 G.length) ->
   Pp (kont tab none (fin tab fi85) K (.exit 4) ⟨t', 63, H', hs, [], ⟨false, true, gl⟩⟩)) :
  ∀ (f : Nat) (bs : List (List Row)) (G : List Row) (t : Tr AV) (H : Tr AO), bs.length <= f -> Blks (2 * k) G -> (∀ x ∈ bs, SrtR x /\ x.length = k) -> (G ++ (bs.flatten ++ T)).Perm d0 -> RowsAt H b (G ++ (bs.flatten ++ T)) -> (∀ q, q ≠ b -> H.get .dead q = H0.get .dead q) -> t.get .any 0 = .slc b 0 n (.op 1) -> t.get .any 1 = .lit (.int .i64 n) -> t.get .any 2 = .fn (.func 66) [] [] -> t.get .any 6 = .lit (.int .i64 k) -> t.get .any 7 = .lit (.int .i64 G.length) -> t.get .any 8 = .lit (.int .i64 (G.length + 2 * k : Nat)) ->
  Pp (W tab none (fin tab fi85) (lpc fi85 2) K ⟨t, 63, H, hs, [], ⟨false, true, gl⟩⟩) := by
 simp only [stU, stC, b85, Tryz.f85]
 intro f
 induction f with
 | zero =>
  intro bs G t H hf h1 hb h2 h3 h4 a0 a1 a2 a6 a7 a8
  obtain rfl := List.eq_nil_of_length_eq_zero (Nat.le_zero.1 hf)
  have hl := h2.length_eq
  simp only [List.length_append, List.flatten_nil, List.length_nil] at hl
  have e1 : decide (((G.length + 2 * k : Nat) : Int) <= (n : Int)) = false := dcF (by omega)
  rw [W_loop]
  simp only [sGA, seval, a1, a8, e1]
  apply hK _ H G [] (by simp; omega) h1 hb h2 h3 h4
  all_goals simp only [sG, seval, a0, a1, a2, a6, a7]
 | succ f ih =>
  intro bs G t H hf h1 hb h2 h3 h4 a0 a1 a2 a6 a7 a8
  have hl := h2.length_eq
  simp only [List.length_append] at hl
  by_cases hc : G.length + 2 * k <= n
  ·have e1 : decide (((G.length + 2 * k : Nat) : Int) <= (n : Int)) = true := dcT (by omega)
   obtain ⟨x, y, bs, rfl⟩ : ∃ x y bs', bs = x :: y :: bs' := by
    rcases bs with _ | ⟨x, _ | ⟨y, bs⟩⟩
    ·simp at hl; omega
    ·have := (hb x (by simp)).2; simp at hl; omega
    ·exact ⟨x, y, bs, rfl⟩
   obtain ⟨sx, lx⟩ := hb x (by simp)
   obtain ⟨sy, ly⟩ := hb y (by simp)
   have z3 : G ++ ((x :: y :: bs).flatten ++ T) = G ++ (x ++ (y ++ (bs.flatten ++ T))) := by simp
   rw [z3] at h3 h2
   have hl := h2.length_eq
   have w1 : IntKind.i64.wrap ((G.length : Int) + (k : Int)) = ((G.length + k : Nat) : Int) := wA (by omega)
   have w2 : IntKind.i64.wrap (2 * (k : Int)) = ((2 * k : Nat) : Int) := by rw [wrap_i64 (by omega) (by omega)]; omega
   have w3 : IntKind.i64.wrap (((G.length + 2 * k : Nat) : Int) + ((2 * k : Nat) : Int)) = ((G.length + 2 * k + 2 * k : Nat) : Int) := wA (by omega)
   obtain ⟨v, H', C, x1, x2, x3, x4, x5⟩ := cSym (2 * k) (m := ⟨false, true, gl⟩) (P := G) (A := x) (B := y) (S := bs.flatten ++ T) (b := b) (cap := n) (H := H) (hs := hs) (by omega) (by omega) (by omega) sx sy (fun r hr => hrl r (h2.mem_iff.1 (by simp [hr]))) (fun r hr => hrl r (h2.mem_iff.1 (by simp [hr]))) (by rw [hl, hn]) (by omega) h3
   have lC := x3.length_eq
   rw [List.length_append] at lC
   rw [lx, ly, show G.length + k + k = G.length + 2 * k by omega] at x1
   rw [W_loop]
   simp only [sGA, seval, a0, a1, a2, a6, a7, a8, e1, w1, w2, w3, x1]
   apply ih bs (G ++ C) _ H' (by simp at hf; omega) (h1.snoc x2 (by omega)) (fun z hz => hb z (by simp [hz])) ?_ (by simpa using x4) (fun q hq => (x5 q hq).trans (h4 q hq))
   ·simp only [sG, seval, a0]
   ·simp only [sG, seval, a1]
   ·simp only [sG, seval, a2]
   ·simp only [sG, seval, a6]
   ·simp only [sG, seval, List.length_append]
    rw [show G.length + C.length = G.length + 2 * k by omega]
   ·simp only [sG, seval, List.length_append]
    rw [show G.length + C.length + 2 * k = G.length + 2 * k + 2 * k by omega]
   ·refine List.Perm.trans ?_ h2
    rw [List.append_assoc]
    refine List.Perm.append_left _ ?_
    have := x3.append_right (bs.flatten ++ T)
    rwa [List.append_assoc] at this
  ·have e1 : decide (((G.length + 2 * k : Nat) : Int) <= (n : Int)) = false := dcF (by omega)
   rw [W_loop]
   simp only [sGA, seval, a1, a8, e1]
   apply hK _ H G bs (by rw [List.length_append]; omega) h1 hb h2 h3 h4
   all_goals simp only [sG, seval, a0, a1, a2, a6, a7]
theorem stbB {d0 : List Row} {b n : Nat} {H0 : Tr AO} {hs : Nat} {gl : Tr (Option AV)} (hn : n = d0.length) (hsm : n < 100000) (hrl : rlens d0) :
  ∀ (f k : Nat) (bs : List (List Row)) (T : List Row) (t : Tr AV) (H : Tr AO), n - k <= f -> 0 < k -> k < 200000 -> T.length < k -> SrtR T -> (∀ x ∈ bs, SrtR x /\ x.length = k) -> (bs.flatten ++ T).Perm d0 -> RowsAt H b (bs.flatten ++ T) -> (∀ q, q ≠ b -> H.get .dead q = H0.get .dead q) -> t.get .any 0 = .slc b 0 n (.op 1) -> t.get .any 1 = .lit (.int .i64 n) -> t.get .any 2 = .fn (.func 66) [] [] -> t.get .any 6 = .lit (.int .i64 k) ->
  ∃ v H' C, W tab none (fin tab fi85) (lpc fi85 1) (lpk fi85 1) ⟨t, 63, H, hs, [], ⟨false, true, gl⟩⟩ = some (v, H', hs) /\ SrtR C /\ C.Perm d0 /\ RowsAt H' b C /\ ∀ q, q ≠ b -> H'.get .dead q = H0.get .dead q := by
 have C1 := @stbC
 simp only [stU, stC, b85, Tryz.f85] at C1
 simp only [stU, stC, b85, Tryz.f85]
 have stop : ∀ (k : Nat) (bs : List (List Row)) (T : List Row) (t : Tr AV) (H : Tr AO), n <= k -> T.length < k -> SrtR T -> (∀ x ∈ bs, SrtR x /\ x.length = k) -> (bs.flatten ++ T).Perm d0 -> RowsAt H b (bs.flatten ++ T) -> (∀ q, q ≠ b -> H.get .dead q = H0.get .dead q) -> t.get .any 0 = .slc b 0 n (.op 1) -> t.get .any 1 = .lit (.int .i64 n) -> t.get .any 2 = .fn (.func 66) [] [] -> t.get .any 6 = .lit (.int .i64 k) ->
   ∃ v H' C, W tab none (fin tab fi85) (lpc fi85 1) (lpk fi85 1) ⟨t, 63, H, hs, [], ⟨false, true, gl⟩⟩ = some (v, H', hs) /\ SrtR C /\ C.Perm d0 /\ RowsAt H' b C /\ ∀ q, q ≠ b -> H'.get .dead q = H0.get .dead q := by
  simp only [stU, stC, b85, Tryz.f85]
  intro k bs T t H hk hT sT hb h2 h3 h4 a0 a1 a2 a6
  have hl := h2.length_eq
  simp only [List.length_append] at hl
  have e1 : decide ((k : Int) < (n : Int)) = false := dcF (by omega)
  rw [W_loop]
  refine ⟨one [], H, bs.flatten ++ T, ?_, ?_, h2, h3, h4⟩
  ·simp only [sGA, seval, x85, a1, a6, e1]
  ·cases bs with
   | nil => simpa using sT
   | cons x bs =>
    obtain ⟨sx, lx⟩ := hb x (by simp)
    simp only [List.flatten_cons, List.length_append] at hl
    have z1 : bs.flatten = [] := List.eq_nil_of_length_eq_zero (by omega)
    have z2 : T = [] := List.eq_nil_of_length_eq_zero (by omega)
    rw [List.flatten_cons, z1, z2]; simpa using sx
 simp only [stU, stC, b85, Tryz.f85] at stop
 intro f
 induction f with
 | zero =>
  intro k bs T t H hf hk hk2 hT sT hb h2 h3 h4 a0 a1 a2 a6
  exact stop k bs T t H (by omega) hT sT hb h2 h3 h4 a0 a1 a2 a6
 | succ f ih =>
  intro k bs T t H hf hk hk2 hT sT hb h2 h3 h4 a0 a1 a2 a6
  by_cases hc : k < n
  ·have e1 : decide ((k : Int) < (n : Int)) = true := dcT (by omega)
   have w2 : IntKind.i64.wrap (2 * (k : Int)) = ((2 * k : Nat) : Int) := by rw [wrap_i64 (by omega) (by omega)]; omega
   have w3 : IntKind.i64.wrap ((k : Int) * 2) = ((2 * k : Nat) : Int) := by rw [wrap_i64 (by omega) (by omega)]; omega
   rw [W_loop]
   simp only [sGA, seval, a1, a6, e1, w2]
   refine C1 (Pp := fun X => ∃ v H' C, X = some (v, H', hs) /\ SrtR C /\ C.Perm d0 /\ RowsAt H' b C /\ ∀ q, q ≠ b -> H'.get .dead q = H0.get .dead q) (H0 := H0) hn hsm hrl hk hc hT ?_ bs.length bs [] _ H (Nat.le_refl _) Blks.nil hb h2 h3 h4 ?_ ?_ ?_ ?_ ?_ ?_
   ·intro t' H' G bs' g1 g2 g3 g4 g5 g6 b0 b1 b2 b6 b7
    have hl := g4.length_eq
    simp only [List.length_append] at hl g1
    have w4 : IntKind.i64.wrap ((G.length : Int) + (k : Int)) = ((G.length + k : Nat) : Int) := wA (by omega)
    obtain ⟨gs, rfl, hg⟩ := g2
    by_cases hm : gs.flatten.length + k < n
    ·have e2 : decide (((gs.flatten.length + k : Nat) : Int) < (n : Int)) = true := dcT (by omega)
     obtain ⟨x, rfl⟩ : ∃ x, bs' = [x] := by
      rcases bs' with _ | ⟨x, _ | ⟨y, bs''⟩⟩
      ·simp only [List.flatten_nil, List.length_nil] at hl; omega
      ·exact ⟨x, rfl⟩
      ·have l1 := (g3 x (by simp)).2
       have l2 := (g3 y (by simp)).2
       simp only [List.flatten_cons, List.length_append] at g1; omega
     obtain ⟨sx, lx⟩ := g3 x (by simp)
     simp only [List.flatten_cons, List.flatten_nil, List.append_nil] at hl g1 g4 g5
     obtain ⟨v, H2, C, x1, x2, x3, x4, x5⟩ := cSym (2 * k) (m := ⟨false, true, gl⟩) (P := gs.flatten) (A := x) (B := T) (S := []) (b := b) (cap := n) (H := H') (hs := hs) (by omega) (by omega) (by omega) sx sT (fun r hr => hrl r (g4.mem_iff.1 (by simp [hr]))) (fun r hr => hrl r (g4.mem_iff.1 (by simp [hr]))) (by rw [hn, <- g4.length_eq]; simp) (by omega) (by simpa using g5)
     have lC := x3.length_eq
     rw [List.length_append] at lC
     rw [lx, show gs.flatten.length + k + T.length = n by omega] at x1
     simp only [sGA, seval, b0, b1, b2, b6, b7, w3, w4, e2, x1]
     apply ih (2 * k) gs C _ H2 (by omega) (by omega) (by omega) (by omega) x2 hg ?_ (by simpa using x4) (fun q hq => (x5 q hq).trans (g6 q hq))
     ·simp only [sG, seval, b0]
     ·simp only [sG, seval, b1]
     ·simp only [sG, seval, b2]
     ·simp only [sG, seval]
     ·exact (List.Perm.append_left _ x3).trans g4
    ·have e2 : decide (((gs.flatten.length + k : Nat) : Int) < (n : Int)) = false := dcF (by omega)
     simp only [sGA, seval, b1, b6, b7, w3, w4, e2]
     have s2 : SrtR (bs'.flatten ++ T) := by
      cases bs' with
      | nil => simpa using sT
      | cons x bs'' =>
       obtain ⟨sx, lx⟩ := g3 x (by simp)
       simp only [List.flatten_cons, List.length_append] at hl
       have z1 : bs''.flatten = [] := List.eq_nil_of_length_eq_zero (by omega)
       have z2 : T = [] := List.eq_nil_of_length_eq_zero (by omega)
       rw [List.flatten_cons, z1, z2]; simpa using sx
     apply ih (2 * k) gs (bs'.flatten ++ T) _ H' (by omega) (by omega) (by omega) (by rw [List.length_append]; omega) s2 hg g4 g5 g6
     ·simp only [sG, seval, b0]
     ·simp only [sG, seval, b1]
     ·simp only [sG, seval, b2]
     ·simp only [sG, seval]
   ·simp only [sG, seval, a0]
   ·simp only [sG, seval, a1]
   ·simp only [sG, seval, a2]
   ·simp only [sG, seval, a6]
   ·simp only [sG, seval]; all_goals rfl
   ·simp only [sG, seval]
  ·exact stop k bs T t H (by omega) hT sT hb h2 h3 h4 a0 a1 a2 a6
theorem cStable {m : Md} {d : List Row} {b : Nat} {H : Tr AO} {hs : Nat} (hb : RowsAt H b d) (hsm : d.length < 100000) (hrl : rlens d) :
  ∃ v H' C, callF tab (evw tab) m 85 [.slc b 0 d.length (.op 1), .lit (.int .i64 d.length), .fn (.func 66) [] []] H hs = some (v, H', hs) /\ SrtR C /\ C.Perm d /\ RowsAt H' b C /\ ∀ q, q ≠ b -> H'.get .dead q = H.get .dead q := by
 have A1 := @stbA
 simp only [stU, stC, b85, Tryz.f85] at A1
 have B1 := @stbB
 simp only [stU, stC, b85, Tryz.f85] at B1
 rw [callF_in (fi := fi85) tcon rfl rfl rfl]
 simp (maxSteps := 2000000) only [sGA, seval, x85, stU, b85, Tryz.f85]
 refine A1 (Pp := fun X => ∃ v H' C, X = some (v, H', hs) /\ SrtR C /\ C.Perm d /\ RowsAt H' b C /\ ∀ q, q ≠ b -> H'.get .dead q = H.get .dead q) (H0 := H) (d0 := d) rfl hsm hrl ?_ d.length [] d _ H (Nat.le_refl _) Blks.nil (List.Perm.refl _) hb (fun _ _ => rfl) ?_ ?_ ?_ ?_ ?_ ?_
 ·intro t' H' F R g1 g2 g4 g5 g6 b0 b1 b2 b6 b7
  have hl := g4.length_eq
  simp only [List.length_append] at hl
  obtain ⟨v, H2, C, x1, x2, x3, x4, x5⟩ := cIns (m := ⟨false, true, m.gl⟩) (P := F) (L := R) (S := []) (b := b) (cap := d.length) (H := H') (hs := hs) (by simpa using g5) (by simp; omega) (by omega) (fun r hr => hrl r (g4.mem_iff.1 (List.mem_append_right _ hr)))
  rw [hl] at x1
  obtain ⟨gs, rfl, hg⟩ := g2
  simp only [sGA, seval, b0, b1, b2, b7, x1]
  apply B1 (H0 := H) (d0 := d) rfl hsm hrl (d.length) 20 gs C _ H2 (by omega) (by omega) (by omega) (by rw [x3.length_eq]; exact g1) x2 hg ?_ (by simpa using x4) (fun q hq => (x5 q hq).trans (g6 q hq))
  ·simp only [sG, seval, b0]
  ·simp only [sG, seval, b1]
  ·simp only [sG, seval, b2]
  ·simp only [sG, seval, b6]; all_goals rfl
  ·exact (List.Perm.append_left _ x3).trans g4
 all_goals simp only [sG, seval] <;> rfl
theorem cSSF {m : Md} {d : List Row} {b : Nat} {H : Tr AO} {hs : Nat} (hb : RowsAt H b d) (hsm : d.length < 100000) (hrl : rlens d) :
  ∃ v H' C, callF tab (evw tab) m 65 [.slc b 0 d.length (.op 1), .fn (.func 66) [] []] H hs = some (v, H', hs) /\ SrtR C /\ C.Perm d /\ RowsAt H' b C /\ ∀ q, q ≠ b -> H'.get .dead q = H.get .dead q := by
 obtain ⟨v, H', C, x1, x2⟩ := cStable (m := ⟨false, true, m.gl⟩) (hs := hs) hb hsm hrl
 refine ⟨one [], H', C, ?_, x2⟩
 rw [callF_in (fi := fi65) tcon rfl rfl rfl]
 simp (maxSteps := 2000000) only [sG, seval, x65, stU, b65, Tryz.f65, x1]
def cptA (p : Row) : List Row -> List Row
 | [] => []
 | x :: l => bif decide (rcmp x p = 0) then cptA x l else x :: cptA x l
def cpt : List Row -> List Row
 | [] => []
 | x :: l => x :: cptA x l
theorem t_clear {T : Tab} {rec : Rec} {s : AS} {xs : Array Operand} {ts : Array TypeId} {d : Option Tmp} {ty : TypeId} {pos : String} {after : Array Edge} {g : Option (Nat × Bool)} : opT T rec false ⟨d, .call ⟨.builtin .clear, xs, ts⟩, ty, pos, after, g⟩ s = evOp T rec ⟨d, .call ⟨.builtin .clear, xs, ts⟩, ty, pos, after, g⟩ s := rfl
def clrO (z : List AV) (H : Tr AO) (hs : Nat) : Option AV -> Option (AV × Tr AO × Nat)
 | some (.slc o off len _) => bif Nat.blt 0 len then (match wr H o off (List.replicate len z).flatten with | some H => some (udef, H, hs) | none => none) else none
 | _ => none
theorem q_clear {T : Tab} {rec : Rec} {s : AS} {x : Operand} {st : TypeId} {d : Option Tmp} {ty : TypeId} {pos : String} {after : Array Edge} {g : Option (Nat × Bool)} : evOp T rec ⟨d, .call ⟨.builtin .clear, #[x], #[st]⟩, ty, pos, after, g⟩ s = qI T rec ⟨d, .call ⟨.builtin .clear, #[x], #[st]⟩, ty, pos, after, g⟩ s (fun p => setE s d (clrO p.2.2.2.cells s.heap s.hs (opd s x))) (eInf T st) := by
 cases h : eInf T st with
 | none => rfl
 | some p =>
  obtain ⟨n, m, agg, z⟩ := p
  obtain ⟨ti, e, ei, h1, h2, h3, h4, h5, h6, h7, h8⟩ := eInf_some h
  show (match effOp T s (.call ⟨.builtin .clear, #[x], #[st]⟩) with | some (v, H, hs) => setT { s with heap := H, hs := hs } d v | none => none) = setE s d (clrO z.cells s.heap s.hs (opd s x))
  have : effOp T s (.call ⟨.builtin .clear, #[x], #[st]⟩) = clrO z.cells s.heap s.hs (opd s x) := by
   subst h7
   simp only [effOp, h1]
   simp only [Bool.and_eq_true] at h8
   cases opd s x with
   | none => rfl
   | some v =>
    cases v with
    | slc o off len cap => simp only [h2, h3, clrO, h8, Bool.and_true]; rfl
    | _ => rfl
  rw [this]
  cases clrO z.cells s.heap s.hs (opd s x) <;> rfl
theorem slT {b n k : Nat} (h : k < n) : slcV b 0 n (.op 1) 1 k n none = some (.slc b k (n - k) (.op 1)) := by
 unfold slcV
 rw [show Nat.ble k n = true from ble_le.2 (by omega), show Nat.ble n n = true from ble_le.2 (by omega), show Nat.blt k n = true from blt_lt.2 h]
 simp only [Nat.zero_add, Nat.mul_one, Nat.beq_refl, Bool.and_self, Bool.true_or, cond_true]
theorem slH {b n k : Nat} (h : k <= n) : slcV b 0 n (.op 1) 1 0 k none = some (.slc b 0 k (.op 1)) := by
 unfold slcV
 rw [show Nat.ble 0 k = true from ble_le.2 (by omega), show Nat.ble k n = true from ble_le.2 h, show Nat.beq 0 0 = true from rfl]
 simp only [Nat.zero_add, Nat.zero_mul, Nat.beq_refl, Bool.and_self, Bool.or_true, cond_true, Nat.sub_zero]
theorem clrRow {H : Tr AO} {b hs n : Nat} {E R : List Row} (h : RowsAt H b (E ++ R)) (hn : n = (E ++ R).length) (hR : 0 < R.length) :
  clrO [.lit (.slice none 0 0)] H hs (some (.slc b E.length (n - E.length) (.op 1))) = some (udef, H.put .dead b (.cells (rc E ++ List.replicate R.length (.lit (.slice none 0 0))) false), hs) := by
 rw [List.length_append] at hn
 have hl : n - E.length = R.length := by omega
 rw [hl]
 have e1 : (List.replicate R.length [AV.lit (.slice none 0 0)]).flatten = List.replicate R.length (AV.lit (.slice none 0 0)) := by
  induction R.length with
  | zero => rfl
  | succ k ih => rw [List.replicate_succ, List.flatten_cons, ih, List.replicate_succ]; rfl
 unfold clrO
 simp only []
 rw [show Nat.blt 0 R.length = true from blt_lt.2 hR, cond_true, e1]
 unfold wr
 rw [h]
 simp only []
 have e2 : Nat.ble (E.length + (List.replicate R.length (AV.lit (.slice none 0 0))).length) (rc (E ++ R)).length = true := ble_le.2 (by unfold rc; simp)
 have e3 : (List.replicate R.length (AV.lit (.slice none 0 0))).all oneCell = true := by
  rw [List.all_eq_true]; intro x hx; rw [List.eq_of_mem_replicate hx]; rfl
 rw [e2, e3]
 simp only [Bool.and_self, cond_true]
 congr 4
 unfold splice rc
 rw [List.map_append, List.take_left' (by simp), List.drop_of_length_le (by simp), List.append_nil]
theorem cptIn {b n k0 : Nat} {H0 : Tr AO} {hs : Nat} {gl : Tr (Option AV)} {e : List Row} (hsm : n < 1000000) : ∀ (R E J : List Row) (q : Row) (k2 : Nat) (t : Tr AV) (H : Tr AO), RowsAt H b (E ++ (J ++ q :: R)) -> E ++ cptA q R = e -> n = (E ++ (J ++ q :: R)).length -> rlens (q :: R) -> 1 <= k2 -> k0 + k2 = E.length + J.length + 1 -> (∀ q, q ≠ b -> H.get .dead q = H0.get .dead q) ->
  t.get .any 0 = .slc b 0 n (.op 1) -> t.get .any 1 = .fn (.func 68) [] [] -> t.get .any 5 = .lit (.int .i64 E.length) -> t.get .any 6 = .slc b k0 (n - k0) (.op 1) -> t.get .any 7 = .lit (.int .i64 k2) ->
  ∃ H' Z, W tab none (fin tab fi67) (lpc fi67 1) (lpk fi67 1) ⟨t, 66, H, hs, [], ⟨false, true, gl⟩⟩ = some (.slc b 0 e.length (.op 1), H', hs) /\ H'.get .dead b = .cells (rc e ++ Z) false /\ ∀ q, q ≠ b -> H'.get .dead q = H0.get .dead q := by
 have D := d67
 simp only [stD, stC, List.cons.injEq, b67, Tryz.f67] at D
 simp only [stU, stC, b67, Tryz.f67]
 intro R
 induction R with
 | nil =>
  intro E J q k2 t H hb he hn hr h1 hk hq a0 a1 a5 a6 a7
  have hn2 := hn
  simp only [List.length_append, List.length_cons, List.length_nil] at hn2
  have he : e = E := by rw [<- he]; simp [cptA]
  subst he
  have e1 : decide ((k2 : Int) < ((n - k0 : Nat) : Int)) = false := dcF (by omega)
  have e3 : decide (0 <= (e.length : Int)) = true := dcT (by omega)
  have s1 := slT (b := b) (n := n) (k := e.length) (by omega)
  have s2 := slH (b := b) (n := n) (k := e.length) (by omega)
  have c1 := clrRow (hs := hs) (E := e) (R := J ++ [q]) hb hn (by simp)
  rw [W_loop]
  refine ⟨H.put .dead b (.cells (rc e ++ List.replicate (J ++ [q]).length (.lit (.slice none 0 0))) false), _, ?_, by rw [Tr.get_put, if_pos rfl], fun z hz => by rw [Tr.get_put, if_neg hz]; exact hq z hz⟩
  simp only [sGA, seval, x67, a0, a5, a6, a7, e1, e3, s1, s2, c1, q_clear, dSL, Int.toNat_natCast]
 | cons y R ih =>
  intro E J q k2 t H hb he hn hr h1 hk hq a0 a1 a5 a6 a7
  have hn2 := hn
  simp only [List.length_append, List.length_cons] at hn2
  have e1 : decide ((k2 : Int) < ((n - k0 : Nat) : Int)) = true := dcT (by omega)
  have w1 : IntKind.i64.wrap ((k2 : Int) - 1) = ((k2 - 1 : Nat) : Int) := wS1 (by omega) (by omega)
  have w2 := wrap_succ (i := k2) (by omega)
  have w3 := wrap_succ (i := E.length) (by omega)
  have i1 : decide (0 <= (k2 : Int) /\ (k2 : Int) < ((n - k0 : Nat) : Int)) = true := dIx (by omega)
  have i2 : decide (0 <= ((k2 - 1 : Nat) : Int) /\ ((k2 - 1 : Nat) : Int) < ((n - k0 : Nat) : Int)) = true := dIx (by omega)
  have i3 : decide (0 <= (E.length : Int) /\ (E.length : Int) < (n : Int)) = true := dIx (by omega)
  have g0 := hb.get
  have l1 := rcGet (k := k0 + k2) (r := y) (d := E ++ (J ++ q :: y :: R)) (by rw [show E ++ (J ++ q :: y :: R) = (E ++ (J ++ [q])) ++ y :: R by simp]; exact get_mid (by simp; omega))
  have l2 := rcGet (k := k0 + (k2 - 1)) (r := q) (d := E ++ (J ++ q :: y :: R)) (by rw [show E ++ (J ++ q :: y :: R) = (E ++ J) ++ q :: y :: R by simp]; exact get_mid (by simp; omega))
  have n1 := rcLen (k := k0 + k2) (d := E ++ (J ++ q :: y :: R)) (by rw [<- hn]; omega)
  have n2 := rcLen (k := k0 + (k2 - 1)) (d := E ++ (J ++ q :: y :: R)) (by rw [<- hn]; omega)
  have n3 := rcLen (k := E.length) (d := E ++ (J ++ q :: y :: R)) (by rw [<- hn]; omega)
  have c := fun m H hs => @call68 m .no .no y q H hs (by have := hr y (by simp); omega)
  cases hc : decide (rcmp y q = 0) with
  | true =>
   simp only [encR] at l1 l2
   generalize hd0 : rc (E ++ (J ++ q :: y :: R)) = d0 at *
   rw [W_loop]
   simp only [sGA, seval, a1, a6, a7, e1, D, w1, w2, i1, i2, Int.toNat_natCast, Nat.mul_one, g0, l1, l2, n1, n2, c, hc]
   subst hd0
   apply ih E (J ++ [q]) y (k2 + 1) _ H (by simpa using hb) (by rw [<- he]; simp [cptA, hc]) (by rw [hn]; simp) (fun r h => hr r (by simp at h ⊢; exact .inr h)) (by omega) (by simp; omega) hq
   all_goals simp only [sG, seval, a0, a1, a5, a6]
  | false =>
   obtain ⟨z, J2, hz, hl⟩ : ∃ z J2, J ++ [q] = z :: J2 /\ J2.length = J.length := by
    cases J with
    | nil => exact ⟨q, [], rfl, rfl⟩
    | cons j J => exact ⟨j, J ++ [q], rfl, by simp⟩
   have hd : E ++ (J ++ q :: y :: R) = E ++ z :: (J2 ++ y :: R) := by
    rw [show J ++ q :: y :: R = (J ++ [q]) ++ y :: R by simp, hz]; rfl
   have s1 := rcSet (k := E.length) (r := y) (d := E ++ (J ++ q :: y :: R)) (by rw [<- hn]; omega)
   have z1 : (E ++ (J ++ q :: y :: R)).set E.length y = (E ++ [y]) ++ (J2 ++ y :: R) := by
    rw [hd, set_mid rfl]; simp
   rw [z1] at s1
   simp only [encR] at l1 l2 s1
   generalize hd0 : rc (E ++ (J ++ q :: y :: R)) = d0 at *
   rw [W_loop]
   simp only [sGA, seval, stU, a0, a1, a5, a6, a7, e1, D, w1, w2, w3, i1, i2, i3, Int.toNat_natCast, Nat.mul_one, g0, l1, l2, n1, n2, n3, c, hc, s1]
   subst hd0
   apply ih (E ++ [y]) J2 y (k2 + 1) _ _ RowsAt.put (by rw [<- he]; simp [cptA, hc]) (by rw [hn, hd]; simp <;> omega) (fun r h => hr r (by simp at h ⊢; exact .inr h)) (by omega) (by simp; omega) (fun u hu => by rw [Tr.get_put, if_neg hu]; exact hq u hu)
   all_goals first | (simp only [sG, seval, a0, a1, a6]; done) | (simp only [sG, seval, List.length_append]; done)
end Go.Proofs.YtancionamhenmaaGreat.Ev
