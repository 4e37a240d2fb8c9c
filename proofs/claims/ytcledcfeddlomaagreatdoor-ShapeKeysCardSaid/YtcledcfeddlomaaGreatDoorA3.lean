import Derived.Test.YtcledcfeddlomaaGreatDoorT3
set_option linter.all false
set_option maxRecDepth 100000
set_option maxHeartbeats 40000000
namespace Go.Proofs.YtcledcfeddlomaaGreatDoor.Ev
open Go Go.Proofs.YtcledcfeddlomaaGreatDoor.Ev Go.Proofs Go.Proofs.YtcledcfeddlomaaGreatDoor Go.Proofs.YtcledcfeddlomaaGreatDoor.Tab
def vr2 (v : Vl) : Bool := !(decide (v.k < 0) || (decide (3 < v.k) || ((!decide (v.k = 1) && v.b) || ((!decide (v.k = 2) && !decide (v.n = 0)) || (!decide (v.k = 3) && !(v.s == [])))))) && decide ((v.s.length : Int) <= 60)
theorem vr2_eq (v : Vl) : vr2 v = vright v := by
 obtain ⟨k, b, n, s⟩ := v
 unfold vr2 vright veq v0
 simp only
 by_cases h0 : k = 0
 ·subst h0; cases b <;> cases hs : s == [] <;> simp_all
 ·by_cases h1 : k = 1
  ·subst h1; cases hs : s == [] <;> simp_all
  ·by_cases h2 : k = 2
   ·subst h2; cases b <;> cases hs : s == [] <;> simp_all
   ·by_cases h3 : k = 3
    ·subst h3; cases b <;> simp_all
    ·have : (decide (k < 0) || decide (3 < k)) = true := by
      rw [Bool.or_eq_true, decide_eq_true_iff, decide_eq_true_iff]; omega
     simp only [h0, h1, h2, h3, decide_false, cond_false]
     rw [Bool.or_eq_true] at this
     rcases this with h | h <;> simp [h]
theorem eqRRight {m : Md} {v : Vl} : iso tab fi125 m [encV v] = some (.lit (.bool (vright v))) := by
 rw [<- vr2_eq]
 refine iso_ret ?_
 unfold vr2
 cases h0 : decide (v.k < 0) with
 | true => simp only [sG, seval, x125, stU, b125, Tryz.f125, encV, Vl.cs, h0]
 | false =>
  cases h1 : decide (3 < v.k) with
  | true => simp only [sG, seval, x125, stU, b125, Tryz.f125, encV, Vl.cs, h0, h1]
  | false =>
   have e1 : ∀ a b : Bool, (a = true /\ True) ∨ (a = false /\ b = true) ∨ (a = false /\ b = false) := by decide
   rcases e1 (decide (v.k = 1)) v.b with ⟨h2, h3⟩ | ⟨h2, h3⟩ | ⟨h2, h3⟩ <;> rcases e1 (decide (v.k = 2)) (decide (v.n = 0)) with ⟨h4, h5⟩ | ⟨h4, h5⟩ | ⟨h4, h5⟩ <;> rcases e1 (decide (v.k = 3)) (v.s == []) with ⟨h6, h7⟩ | ⟨h6, h7⟩ | ⟨h6, h7⟩ <;>
    simp only [sG, seval, x125, stU, b125, Tryz.f125, encV, Vl.cs, h0, h1, h2, h3, h4, h5, h6, h7]
theorem cRRight1 {m : Md} {v : Vl} {H : Tr AO} {hs : Nat} : callF tab (evw tab) m 125 [encV v] H hs = some (.lit (.bool (vright v)), H, hs) := callF_iso tcon rfl rfl rfl eqRRight
theorem digsR_more : ∀ (f k u : Nat), u < 10 ^ (f + 1) -> digsR (f + 1 + k) u = digsR (f + 1) u
 | 0, k, u, h => by
  have h' : u < 10 := by simpa using h
  rw [show 0 + 1 + k = k + 1 by omega, digsR, digsR, blt_lt.2 h', cond_true, cond_true]
 | f + 1, k, u, h => by
  rw [show f + 1 + 1 + k = (f + 1 + k) + 1 by omega, digsR, digsR]
  cases hb : Nat.blt u 10 with
  | true => rw [cond_true, cond_true]
  | false => rw [cond_false, cond_false, digsR_more f k (u / 10) (by rw [Nat.pow_succ] at h; omega)]
noncomputable def sStr (s : AS) (x : Operand) (lo hi : Option Operand) : Option AV -> Option AV
 | some (.str l) => sliceStrO l (bnd s lo 0) (bnd s hi l.length)
 | _ => pureOp tab s (.slice 9 x lo hi none)
theorem sStr_1 {s : AS} {x : Operand} {lo hi : Option Operand} {l : List UInt8} : sStr s x lo hi (some (.str l)) = sliceStrO l (bnd s lo 0) (bnd s hi l.length) := rfl
theorem q_sliceS {s : AS} {x : Operand} {lo hi : Option Operand} : pureOp tab s (.slice 9 x lo hi none) = sStr s x lo hi (opd s x) := by
 unfold sStr
 split
 ·rename_i l h
  obtain ⟨ti, h1, h2⟩ : ∃ ti, tab.t 9 = some ti /\ ti.desc = .string := ⟨_, rfl, rfl⟩
  simp only [pureOp, h, h1, h2]
  cases bnd s lo 0 <;> cases bnd s hi l.length <;> rfl
 ·rfl
def dSS := an @q_sliceS @sStr_1
theorem addS {p q : Operand} {a b : List UInt8} (h : a.length + b.length <= 9223372036854775807) : binO tab .add 9 p q (some (.str a)) (some (.str b)) = some (.str (a ++ b)) := by
 have e : binV tab .add 9 (.str a) (.str b) = bif Nat.ble (a.length + b.length) 9223372036854775807 then some (.str (a ++ b)) else none := rfl
 unfold binO
 simp only [e, bleT h, cond_true]
def d10 : List UInt8 := [48, 49, 50, 51, 52, 53, 54, 55, 56, 57]
theorem slice10 {k : Nat} (h : k < 10) : sliceStrO [48, 49, 50, 51, 52, 53, 54, 55, 56, 57] (some k) (some (k + 1)) = some (.str [(48 + k).toUInt8]) := by
 have key : ∀ j : Fin 10, ((Nat.ble j.val (j.val + 1) && Nat.ble (j.val + 1) d10.length) = true) /\ ((d10.take (j.val + 1)).drop j.val = [(48 + j.val).toUInt8]) := by decide
 obtain ⟨k1, k2⟩ := key ⟨k, h⟩
 show (bif Nat.ble k (k + 1) && Nat.ble (k + 1) d10.length then some (AV.str ((d10.take (k + 1)).drop k)) else none) = _
 rw [k1, k2]; rfl
theorem finD (k u : Nat) (s : List UInt8) : (bif Nat.blt 0 (u / 10) then (digsR k (u / 10)).reverse else []) ++ ([(48 + u % 10).toUInt8] ++ s) = (digsR (k + 1) u).reverse ++ s := by
 rw [digsR]
 cases h10 : Nat.blt u 10 with
 | true =>
  have := blt_lt.1 h10
  have z : u / 10 = 0 := by omega
  rw [z, show u % 10 = u by omega]; rfl
 | false =>
  have h11 : ¬ u < 10 := fun h => by rw [blt_lt.2 h] at h10; cases h10
  rw [bltT (show 0 < u / 10 by omega), cond_true, cond_false, List.reverse_cons, List.append_assoc]
theorem loopDig {gl : Tr (Option AV)} : ∀ (k i u : Nat) (t : Tr AV) (H : Tr AO) (hs : Nat) (s : List UInt8), i + k = 20 -> u < 10 ^ k -> 0 < i -> s.length <= i ->
  t.get .any 0 = .lit (.int .u64 u) -> t.get .any 3 = .str s -> t.get .any 4 = .lit (.int .i64 i) ->
  RetN (W tab none (fin tab fi149) (lpc fi149 0) (lpk fi149 0) ⟨t, 29, H, hs, [], ⟨true, true, gl⟩⟩) (.str ((bif Nat.blt 0 u then (digsR k u).reverse else []) ++ s)) := by
 simp only [stU, stC, b149, Tryz.f149]
 intro k
 induction k with
 | zero =>
  intro i u t H hs s hi hu h0 hsl a0 a3 a4
  obtain rfl : u = 0 := by omega
  have e1 : decide ((i : Int) < 20) = false := dcF (by omega)
  have e2 : Nat.blt 0 0 = false := rfl
  rw [W_loop]
  simp (maxSteps := 4000000) only [sG, seval, x149, stU, b149, Tryz.f149, a0, a3, a4, e1, e2, cond_false, List.nil_append]
 | succ k ih =>
  intro i u t H hs s hi hu h0 hsl a0 a3 a4
  have e1 : decide ((i : Int) < 20) = true := dcT (by omega)
  have e2 : decide ((i : Int) = 0) = false := dcF (by omega)
  have e5 := wrap_succ (i := i) (by omega)
  cases hb : Nat.blt 0 u with
  | false =>
   have e3 : decide ((0 : Int) < (u : Int)) = false := by rw [decide_eq_false_iff_not]; intro h; rw [blt_lt.2 (by omega)] at hb; cases hb
   rw [W_loop]
   simp (maxSteps := 4000000) only [sG, seval, x149, stU, b149, Tryz.f149, a0, a3, a4, e1, e2, e3, cond_false, List.nil_append]
  | true =>
   have e3 : decide ((0 : Int) < (u : Int)) = true := by rw [decide_eq_true_iff]; have := blt_lt.1 hb; omega
   have hm : (u : Int).tmod 10 = ((u % 10 : Nat) : Int) := by rw [Int.tmod_eq_emod_of_nonneg (by omega)]; omega
   have hd : (u : Int).tdiv 10 = ((u / 10 : Nat) : Int) := by rw [Int.tdiv_eq_ediv_of_nonneg (by omega)]; omega
   have hq : IntKind.u64.wrap ((u / 10 : Nat) : Int) = ((u / 10 : Nat) : Int) := by
    have : u < 10 ^ 20 := Nat.lt_of_lt_of_le hu (Nat.pow_le_pow_right (by omega) (by omega))
    rw [IntKind.wrap_u64]; omega
   have hw : IntKind.u64.wrap (((u % 10 : Nat) : Int) + 1) = ((u % 10 + 1 : Nat) : Int) := by rw [IntKind.wrap_u64]; omega
   have p1 : decide ((0 : Int) <= ((u % 10 : Nat) : Int)) = true := dcT (by omega)
   have p2 : decide ((0 : Int) <= ((u % 10 + 1 : Nat) : Int)) = true := dcT (by omega)
   have hs10 := slice10 (k := u % 10) (Nat.mod_lt _ (by omega))
   have hpow : u / 10 < 10 ^ k := by rw [Nat.pow_succ] at hu; omega
   have as1 := fun p q => @addS p q [(48 + u % 10).toUInt8] s (by simp; omega)
   rw [W_loop, cond_true, <- finD]
   simp (maxSteps := 4000000) only [sG, seval, x149, stU, b149, Tryz.f149, a0, a3, a4, e1, e2, e3, e5, dSS, hm, hd, hw, p1, p2, Int.toNat_natCast, hs10, as1]
   apply ih (i + 1) (u / 10) _ _ _ _ (by omega) hpow (by omega) (by simp; omega)
   all_goals simp only [sG, seval, a0, a3, a4, hd, hq, List.singleton_append]
theorem eqDigits {m : Md} {u : Nat} (hu : u < 18446744073709551616) : iso tab fi149 m [.lit (.int .u64 u)] = some (.str (digsN u)) := by
 refine iso_ret ?_
 have e5 : IntKind.i64.wrap ((0 : Int) + 1) = ((1 : Nat) : Int) := rfl
 have e1 : decide ((0 : Int) < 20) = true := rfl
 have hm : (u : Int).tmod 10 = ((u % 10 : Nat) : Int) := by rw [Int.tmod_eq_emod_of_nonneg (by omega)]; omega
 have hd : (u : Int).tdiv 10 = ((u / 10 : Nat) : Int) := by rw [Int.tdiv_eq_ediv_of_nonneg (by omega)]; omega
 have hq : IntKind.u64.wrap ((u / 10 : Nat) : Int) = ((u / 10 : Nat) : Int) := by rw [IntKind.wrap_u64]; omega
 have hw : IntKind.u64.wrap (((u % 10 : Nat) : Int) + 1) = ((u % 10 + 1 : Nat) : Int) := by rw [IntKind.wrap_u64]; omega
 have p1 : decide ((0 : Int) <= ((u % 10 : Nat) : Int)) = true := dcT (by omega)
 have p2 : decide ((0 : Int) <= ((u % 10 + 1 : Nat) : Int)) = true := dcT (by omega)
 have hs10 := slice10 (k := u % 10) (Nat.mod_lt _ (by omega))
 have fin : (bif Nat.blt 0 (u / 10) then (digsR 19 (u / 10)).reverse else []) ++ ([(48 + u % 10).toUInt8] ++ []) = digsN u := by
  rw [finD, List.append_nil]
  unfold digsN
  rw [show (30 : Nat) = 19 + 1 + 10 by rfl, digsR_more 19 10 u (by omega)]
 have L := @loopDig m.gl 19 1 (u / 10)
 simp only [stU, stC, b149, Tryz.f149] at L
 have as1 := fun p q => @addS p q [(48 + u % 10).toUInt8] [] (by simp)
 rw [<- fin]
 simp (maxSteps := 4000000) only [sG, seval, x149, stU, b149, Tryz.f149]
 rw [W_loop]
 simp (maxSteps := 4000000) only [sG, seval, x149, stU, b149, Tryz.f149, e1, e5, dSS, hm, hd, hw, p1, p2, Int.toNat_natCast, hs10, as1]
 apply L _ _ _ _ (by trivial) (by omega) (by omega) (by simp)
 all_goals simp only [sG, seval, hd, hq, List.singleton_append]
 all_goals try rfl
theorem cDigits {m : Md} {u : Nat} {H : Tr AO} {hs : Nat} (hu : u < 18446744073709551616) : callF tab (evw tab) m 149 [.lit (.int .u64 u)] H hs = some (.str (digsN u), H, hs) :=
 callF_iso tcon rfl rfl rfl (eqDigits hu)
theorem eqNum {m : Md} {n : Int} (hn : i64B n) : iso tab fi126 m [.lit (.int .i64 n)] = some (.str (numT n)) := by
 refine iso_ret ?_
 obtain ⟨h0, h1⟩ := hn
 unfold numT
 by_cases hb : n < 0
 ·have e1 : decide (n < 0) = true := decide_eq_true hb
  have w1 : IntKind.u64.wrap (0 - IntKind.u64.wrap n) = ((n.natAbs : Nat) : Int) := by rw [IntKind.wrap_u64, IntKind.wrap_u64]; omega
  have c := fun m H hs => @cDigits m n.natAbs H hs (by omega)
  have as1 := fun p q => @addS p q [45] (digsN n.natAbs) (by have := digsN_len n.natAbs; simp; omega)
  rw [e1, cond_true]
  simp (maxSteps := 4000000) only [sG, seval, x126, stU, b126, Tryz.f126, e1, convIO, w1, c, as1, List.singleton_append]
 ·have e1 : decide (n < 0) = false := decide_eq_false hb
  have w1 : IntKind.u64.wrap n = ((n.toNat : Nat) : Int) := by rw [IntKind.wrap_u64]; omega
  have c := fun m H hs => @cDigits m n.toNat H hs (by omega)
  rw [e1, cond_false]
  simp (maxSteps := 4000000) only [sG, seval, x126, stU, b126, Tryz.f126, e1, convIO, w1, c]
theorem cNum {m : Md} {n : Int} {H : Tr AO} {hs : Nat} (hn : i64B n) : callF tab (evw tab) m 126 [.lit (.int .i64 n)] H hs = some (.str (numT n), H, hs) :=
 callF_iso tcon rfl rfl rfl (eqNum hn)
def rwideN : Nd -> Int
 | .nil => 0
 | .mk k _ w _ _ cl _ _ l r => bif decide (k = 1) then w else bif decide (k = 2) then rwideN l else bif decide (k = 3) then IntKind.i64.wrap (rwideN l + rwideN r) else bif decide (k = 4) then rwideN l else bif decide (k = 5) then cl.length else bif decide (k = 6) then rwideN l else bif decide (k = 7) then IntKind.i64.wrap ((cl.length : Int) + 1) else 0
theorem eqRWide : ∀ (n : Nd) (m : Md), iso tab fi81 m [encN n] = some (ci (rwideN n)) := by
 have D := d81
 simp only [stD, stC, List.cons.injEq, b81, Tryz.f81] at D
 intro n
 induction n with
 | nil =>
  intro m
  refine iso_ret ?_
  simp only [sG, seval, x81, stU, b81, Tryz.f81, encN, ci, rwideN, D, dPN]
 | mk k nm w cs ps cl ag of l r ihl ihr =>
  intro m
  refine iso_ret ?_
  have c1 : ∀ m' H hs, callF tab (evw tab) m' 81 [encN l] H hs = some (.lit (.int .i64 (rwideN l)), H, hs) := fun m' H hs =>
   callF_iso tcon rfl rfl (by simp only [bares, bare_N]; rfl) (by simp only [nrms, nrm_N]; exact ihl m')
  have c2 : ∀ m' H hs, callF tab (evw tab) m' 81 [encN r] H hs = some (.lit (.int .i64 (rwideN r)), H, hs) := fun m' H hs =>
   callF_iso tcon rfl rfl (by simp only [bares, bare_N]; rfl) (by simp only [nrms, nrm_N]; exact ihr m')
  rw [rwideN]
  by_cases h1 : k = 1
  ·subst h1; simp only [sG, seval, x81, stU, b81, Tryz.f81, encN, ci, D, dPN, dN, decide_true, cond_true]
  by_cases h2 : k = 2
  ·subst h2; simp only [sG, seval, x81, stU, b81, Tryz.f81, encN, ci, D, dPN, dN, c1, show decide ((2 : Int) = 1) = false from rfl, show decide ((2 : Int) = 3) = false from rfl, show decide ((2 : Int) = 4) = false from rfl, show decide ((2 : Int) = 5) = false from rfl, show decide ((2 : Int) = 6) = false from rfl, show decide ((2 : Int) = 7) = false from rfl, decide_true, cond_true, cond_false]
  by_cases h3 : k = 3
  ·subst h3; simp only [sG, seval, x81, stU, b81, Tryz.f81, encN, ci, D, dPN, dN, c1, c2, show decide ((3 : Int) = 1) = false from rfl, show decide ((3 : Int) = 2) = false from rfl, show decide ((3 : Int) = 4) = false from rfl, show decide ((3 : Int) = 5) = false from rfl, show decide ((3 : Int) = 6) = false from rfl, show decide ((3 : Int) = 7) = false from rfl, decide_true, cond_true, cond_false, List.length_map]
  by_cases h4 : k = 4
  ·subst h4; simp only [sG, seval, x81, stU, b81, Tryz.f81, encN, ci, D, dPN, dN, c1, show decide ((4 : Int) = 1) = false from rfl, show decide ((4 : Int) = 2) = false from rfl, show decide ((4 : Int) = 3) = false from rfl, show decide ((4 : Int) = 5) = false from rfl, show decide ((4 : Int) = 6) = false from rfl, show decide ((4 : Int) = 7) = false from rfl, decide_true, cond_true, cond_false]
  by_cases h5 : k = 5
  ·subst h5; simp only [sG, seval, x81, stU, b81, Tryz.f81, encN, ci, D, dPN, dN, c1, c2, show decide ((5 : Int) = 1) = false from rfl, show decide ((5 : Int) = 2) = false from rfl, show decide ((5 : Int) = 3) = false from rfl, show decide ((5 : Int) = 4) = false from rfl, show decide ((5 : Int) = 6) = false from rfl, show decide ((5 : Int) = 7) = false from rfl, decide_true, cond_true, cond_false, List.length_map]
  by_cases h6 : k = 6
  ·subst h6; simp only [sG, seval, x81, stU, b81, Tryz.f81, encN, ci, D, dPN, dN, c1, show decide ((6 : Int) = 1) = false from rfl, show decide ((6 : Int) = 2) = false from rfl, show decide ((6 : Int) = 3) = false from rfl, show decide ((6 : Int) = 4) = false from rfl, show decide ((6 : Int) = 5) = false from rfl, show decide ((6 : Int) = 7) = false from rfl, decide_true, cond_true, cond_false]
  by_cases h7 : k = 7
  ·subst h7; simp only [sG, seval, x81, stU, b81, Tryz.f81, encN, ci, D, dPN, dN, c1, c2, show decide ((7 : Int) = 1) = false from rfl, show decide ((7 : Int) = 2) = false from rfl, show decide ((7 : Int) = 3) = false from rfl, show decide ((7 : Int) = 4) = false from rfl, show decide ((7 : Int) = 5) = false from rfl, show decide ((7 : Int) = 6) = false from rfl, decide_true, cond_true, cond_false, List.length_map]
  have z1 := decide_eq_false h1
  have z2 := decide_eq_false h2
  have z3 := decide_eq_false h3
  have z4 := decide_eq_false h4
  have z5 := decide_eq_false h5
  have z6 := decide_eq_false h6
  have z7 := decide_eq_false h7
  simp only [sG, seval, x81, stU, b81, Tryz.f81, encN, ci, D, dPN, dN, z1, z2, z3, z4, z5, z6, z7, cond_false]
theorem loopRName {s : List UInt8} {gl : Tr (Option AV)} (hs0 : s.length < 1000000) : ∀ (k i : Nat) (t : Tr AV) (H : Tr AO) (hs : Nat), i + k = s.length -> 0 < i ->
  t.get .any 0 = .str s -> t.get .any 3 = .lit (.int .i64 i) ->
  RetN (W tab none (fin tab fi82) (lpc fi82 0) (lpk fi82 0) ⟨t, 47, H, hs, [], ⟨true, true, gl⟩⟩) (.lit (.bool ((s.drop i).all okc))) := by
 simp only [stU, stC, b82, Tryz.f82]
 intro k
 induction k with
 | zero =>
  intro i t H hs hi h0 a0 a3
  have e1 : decide ((i : Int) < (s).length) = false := dcF (by omega)
  rw [W_loop, List.drop_of_length_le (by omega)]
  simp only [sG, seval, x82, stU, b82, Tryz.f82, a0, a3, e1, List.all_nil]
 | succ k ih =>
  intro i t H hs hi h0 a0 a3
  have hlt : i < (s).length := by omega
  obtain ⟨c, hv, e1, e3, e4, e6, e7⟩ := atS hlt
  have e5 := wrap_succ (i := i) (by omega)
  rw [W_loop, e6]
  have e2 : decide ((i : Int) = 0) = false := dcF (by omega)
  have hk : okc c = (letB c || (decide ((48 : Int) <= (c.toNat : Int)) && decide ((c.toNat : Int) <= 57)) || decide ((c.toNat : Int) = 95)) := rfl
  have hlb : letB c = (decide ((97 : Int) <= (c.toNat : Int)) && decide ((c.toNat : Int) <= 122)) := rfl
  have g1 : decide ((c.toNat : Int) < 48) = !decide ((48 : Int) <= (c.toNat : Int)) := by rw [Bool.eq_iff_iff]; simp
  have g2 : decide ((57 : Int) < (c.toNat : Int)) = !decide ((c.toNat : Int) <= 57) := by rw [Bool.eq_iff_iff]; simp
  rw [List.all_cons, hk, hlb]
  cases h1 : decide ((97 : Int) <= (c.toNat : Int)) <;> cases h5 : decide ((c.toNat : Int) <= 122) <;> cases h2 : decide ((48 : Int) <= (c.toNat : Int)) <;> cases h3 : decide ((c.toNat : Int) <= 57) <;> cases h4 : decide ((c.toNat : Int) = 95) <;> rw [h2] at g1 <;> rw [h3] at g2
  all_goals simp (maxSteps := 2000000) only [sG, seval, x82, stU, b82, Tryz.f82, a0, a3, e1, e3, e4, e5, lG, g1, g2, h1, h5, h4, e2, Bool.false_or, Bool.or_false, Bool.not_true, Bool.not_false, Bool.true_and, Bool.and_self, Bool.and_false, Bool.false_and]
  all_goals first | done | (apply ih (i + 1) _ _ _ (by omega) (by omega) <;> simp only [sG, seval, a0, a3])
theorem eqRName {m : Md} {s : List UInt8} (hs0 : s.length < 1000000) : iso tab fi82 m [.str s] = some (.lit (.bool (nameB s))) := by
 refine iso_ret ?_
 have L := @loopRName s m.gl hs0 (s.length - 1) 1
 simp only [stU, stC, b82, Tryz.f82] at L
 unfold nameB
 cases s with
 | nil => simp (maxSteps := 2000000) only [sG, seval, x82, stU, b82, Tryz.f82]
 | cons c s =>
  have z0 : decide ((c :: s).length = 0) = false := rfl
  have e1 : decide (((s.length + 1 : Nat) : Int) < 1) = false := dcF (by omega)
  have hlb : letB c = (decide ((97 : Int) <= (c.toNat : Int)) && decide ((c.toNat : Int) <= 122)) := rfl
  rw [z0, cond_false]
  show RetN _ (.lit (.bool (bif decide ((16 : Int) < ((s.length + 1 : Nat) : Int)) then false else bif letB c then (c :: s).all okc else false)))
  cases h1 : decide ((16 : Int) < ((s.length + 1 : Nat) : Int)) with
  | true => simp (maxSteps := 2000000) only [sG, seval, x82, stU, b82, Tryz.f82, e1, h1]
  | false =>
   have e2 : decide ((0 : Int) < ((s.length + 1 : Nat) : Int)) = true := dcT (by omega)
   have e3 : (c :: s)[0]? = some c := rfl
   have e4 : (c :: s).drop 1 = s := rfl
   have e6 : decide ((0 : Int) = 0) = true := rfl
   have e7 : (0 : Int).toNat = 0 := rfl
   have e8 : decide ((0 : Int) <= 0) = true := rfl
   have e9 : IntKind.i64.wrap ((0 : Int) + 1) = ((1 : Nat) : Int) := rfl
   rw [cond_false]
   rw [hlb]
   cases h2 : decide ((97 : Int) <= (c.toNat : Int)) with
   | false =>
    simp (maxSteps := 2000000) only [sG, seval, x82, stU, b82, Tryz.f82, e1, h1]
    rw [W_loop]
    simp (maxSteps := 2000000) only [sG, seval, x82, stU, b82, Tryz.f82, e1, h1, e2, e3, e6, e7, e8, h2, Bool.not_false, Bool.false_and]
   | true =>
    cases h3 : decide ((c.toNat : Int) <= 122) with
    | false =>
     simp (maxSteps := 2000000) only [sG, seval, x82, stU, b82, Tryz.f82, e1, h1]
     rw [W_loop]
     simp (maxSteps := 2000000) only [sG, seval, x82, stU, b82, Tryz.f82, e1, h1, e2, e3, e6, e7, e8, h2, h3, Bool.not_false, Bool.and_false]
    | true =>
     have hok : okc c = true := letB_ok (by rw [hlb, h2, h3]; rfl)
     simp (maxSteps := 2000000) only [sG, seval, x82, stU, b82, Tryz.f82, e1, h1]
     rw [W_loop, hok]
     simp (maxSteps := 2000000) only [sG, seval, x82, stU, b82, Tryz.f82, e1, h1, e2, e3, e6, e7, e8, e9, h2, h3, Bool.not_true, Bool.true_and, cond_true, Bool.and_self]
     rw [e4] at L
     apply L
     ·simp
      omega
     ·omega
     all_goals simp only [sG, seval]
     all_goals try rfl
theorem cRName {m : Md} {s : List UInt8} {H : Tr AO} {hs : Nat} (hs0 : s.length < 1000000) : callF tab (evw tab) m 82 [.str s] H hs = some (.lit (.bool (nameB s)), H, hs) :=
 callF_iso tcon rfl rfl rfl (eqRName hs0)
theorem cRWide {n : Nd} {m : Md} {H : Tr AO} {hs : Nat} : callF tab (evw tab) m 81 [encN n] H hs = some (.lit (.int .i64 (rwideN n)), H, hs) :=
 callF_iso tcon rfl rfl (by simp only [bares, bare_N]; rfl) (by simp only [nrms, nrm_N]; exact eqRWide n m)
theorem loopIn {l : List Int} {w : Int} {gl : Tr (Option AV)} (hl : l.length < 1000000) : ∀ (k i : Nat) (t : Tr AV) (H : Tr AO) (hs : Nat), i + k = l.length ->
  t.get .any 0 = .lst .no (l.map ci) -> t.get .any 1 = .lit (.int .i64 w) -> t.get .any 5 = .lit (.int .i64 i) ->
  RetN (W tab none (fin tab fi86) (lpc fi86 0) (lpk fi86 0) ⟨t, 25, H, hs, [], ⟨true, true, gl⟩⟩) (.lit (.bool ((l.drop i).all fun x => colB x w))) := by
 simp only [stU, stC, b86, Tryz.f86]
 intro k
 induction k with
 | zero =>
  intro i t H hs hi a0 a1 a5
  have e1 : decide ((i : Int) < (l).length) = false := dcF (by omega)
  rw [W_loop, List.drop_of_length_le (by omega)]
  simp only [sG, seval, x86, stU, b86, Tryz.f86, a0, a1, a5, e1, List.all_nil, List.length_map]
 | succ k ih =>
  intro i t H hs hi a0 a1 a5
  have hlt : i < (l).length := by omega
  obtain ⟨c, hv, e1, e3, e4, e6, e7⟩ := atS hlt
  have e5 := wrap_succ (i := i) (by omega)
  rw [W_loop, e6, List.all_cons]
  have h0 : colB c w = (!decide (c < 0) && !decide (w <= c)) := by unfold colB; rw [Bool.eq_iff_iff]; simp
  rw [h0]
  cases h1 : decide (c < 0) <;> cases h2 : decide (w <= c)
  all_goals simp (maxSteps := 2000000) only [sG, seval, x86, stU, b86, Tryz.f86, ci, a0, a1, a5, e1, e3, e4, e5, lG, h1, h2, Bool.not_true, Bool.not_false, Bool.true_and, Bool.false_and, Bool.and_false]
  all_goals first | done | (apply ih (i + 1) _ _ _ (by omega) <;> simp only [sG, seval, ci, a0, a1, a5])
theorem cIn {m : Md} {k1 : ATk} {l : List Int} {w : Int} {H : Tr AO} {hs : Nat} (hl : l.length < 1000000) : callF tab (evw tab) m 86 [.lst k1 (l.map ci), .lit (.int .i64 w)] H hs = some (.lit (.bool (l.all fun x => colB x w)), H, hs) := by
 refine callF_iso tcon rfl rfl (by simp only [bares, bare, bare_Il, Bool.and_self]) ?_
 simp only [nrms, nrm, nrms_Il]
 refine iso_ret ?_
 have L := @loopIn l w m.gl hl l.length 0
 simp only [stU, stC, b86, Tryz.f86, List.drop_zero] at L
 simp (maxSteps := 2000000) only [sG, seval, x86, stU, b86, Tryz.f86]
 apply L
 ·simp
 all_goals simp only [sG, seval]
 all_goals try rfl
theorem loopPairs {l : List (Int × Int)} {u w : Int} {gl : Tr (Option AV)} (hl : l.length < 1000000) : ∀ (k i : Nat) (t : Tr AV) (H : Tr AO) (hs : Nat), i + k = l.length ->
  t.get .any 0 = .lst .no (l.map encPr) -> t.get .any 1 = .lit (.int .i64 u) -> t.get .any 2 = .lit (.int .i64 w) -> t.get .any 7 = .lit (.int .i64 i) ->
  RetN (W tab none (fin tab fi85) (lpc fi85 0) (lpk fi85 0) ⟨t, 46, H, hs, [], ⟨true, true, gl⟩⟩) (.lit (.bool ((l.drop i).all fun x => pairB x u w))) := by
 simp only [stU, stC, b85, Tryz.f85]
 intro k
 induction k with
 | zero =>
  intro i t H hs hi a0 a1 a2 a7
  have e1 : decide ((i : Int) < (l).length) = false := dcF (by omega)
  rw [W_loop, List.drop_of_length_le (by omega)]
  simp only [sG, seval, x85, stU, b85, Tryz.f85, a0, a1, a2, a7, e1, List.all_nil, List.length_map]
 | succ k ih =>
  intro i t H hs hi a0 a1 a2 a7
  have hlt : i < (l).length := by omega
  obtain ⟨c, hv, e1, e3, e4, e6, e7⟩ := atS hlt
  have e5 := wrap_succ (i := i) (by omega)
  rw [W_loop, e6, List.all_cons]
  have h0 : pairB c u w = (!decide (c.1 < 0) && (!decide (u <= c.1) && (!decide (c.2 < 0) && !decide (w <= c.2)))) := by unfold pairB colB; rw [Bool.eq_iff_iff]; simp [and_assoc]
  rw [h0]
  cases h1 : decide (c.1 < 0) <;> cases h2 : decide (u <= c.1) <;> cases h3 : decide (c.2 < 0) <;> cases h4 : decide (w <= c.2)
  all_goals simp (maxSteps := 2000000) only [sG, seval, x85, stU, b85, Tryz.f85, encPr, ci, a0, a1, a2, a7, e1, e3, e4, e5, lG, h1, h2, h3, h4, Bool.not_true, Bool.not_false, Bool.true_and, Bool.false_and, Bool.and_false]
  all_goals first | done | (apply ih (i + 1) _ _ _ (by omega) <;> simp only [sG, seval, ci, a0, a1, a2, a7])
theorem cPairs {m : Md} {k1 : ATk} {l : List (Int × Int)} {u w : Int} {H : Tr AO} {hs : Nat} (hl : l.length < 1000000) : callF tab (evw tab) m 85 [.lst k1 (l.map encPr), .lit (.int .i64 u), .lit (.int .i64 w)] H hs = some (.lit (.bool (l.all fun x => pairB x u w)), H, hs) := by
 refine callF_iso tcon rfl rfl (by simp only [bares, bare, bare_Pl, Bool.and_self]) ?_
 simp only [nrms, nrm, nrms_Pl]
 refine iso_ret ?_
 have L := @loopPairs l u w m.gl hl l.length 0
 simp only [stU, stC, b85, Tryz.f85, List.drop_zero] at L
 simp (maxSteps := 2000000) only [sG, seval, x85, stU, b85, Tryz.f85]
 apply L
 ·simp
 all_goals simp only [sG, seval]
 all_goals try rfl
theorem eqRCond {m : Md} {c : Cd} {w : Int} : iso tab fi84 m [encC c, .lit (.int .i64 w)] = some (.lit (.bool (condB c w))) := by
 refine iso_ret ?_
 have cR := fun m H hs => @cRRight1 m c.v H hs
 have q1 := fun p q => @cCdeq p q c v0C
 have q2 := fun p q => @cVeq p q c.v v0
 unfold condB colB
 simp only [encV, Vl.cs] at cR
 simp only [Vl.cs, ci, v0C, v0] at q1 q2
 have n1 : (!(decide (0 <= c.l) && decide (c.l < w))) = (decide (c.l < 0) || decide (w <= c.l)) := by rw [Bool.eq_iff_iff]; simp <;> omega
 have n2 : (decide (0 <= c.r) && decide (c.r < w)) = (!decide (c.r < 0) && !decide (w <= c.r)) := by rw [Bool.eq_iff_iff]; simp
 rw [n1, n2]
 have n3 : decide (0 <= c.r) = !decide (c.r < 0) := by rw [Bool.eq_iff_iff]; simp
 have n4 : decide (c.r < w) = !decide (w <= c.r) := by rw [Bool.eq_iff_iff]; simp
 cases h1 : decide (c.l = -1) with
 | true =>
  simp (maxSteps := 4000000) only [sG, seval, x84, stU, b84, Tryz.f84, encC, Vl.cs, ci, h1, q1, cond_true]
  try rfl
 | false =>
  cases h2 : decide (c.l < 0) with
  | true => simp (maxSteps := 4000000) only [sG, seval, x84, stU, b84, Tryz.f84, encC, Vl.cs, ci, h1, h2]; try rfl
  | false =>
   cases h3 : decide (w <= c.l) with
   | true => simp (maxSteps := 4000000) only [sG, seval, x84, stU, b84, Tryz.f84, encC, Vl.cs, ci, h1, h2, h3]; try rfl
   | false =>
    cases h4 : decide (c.op < 1) with
    | true => simp (maxSteps := 4000000) only [sG, seval, x84, stU, b84, Tryz.f84, encC, Vl.cs, ci, h1, h2, h3, h4]; try rfl
    | false =>
     cases h5 : decide (6 < c.op) with
     | true => simp (maxSteps := 4000000) only [sG, seval, x84, stU, b84, Tryz.f84, encC, Vl.cs, ci, h1, h2, h3, h4, h5]; try rfl
     | false =>
      cases h6 : decide (c.r = -1) with
      | true => simp (maxSteps := 4000000) only [sG, seval, x84, stU, b84, Tryz.f84, encC, Vl.cs, ci, h1, h2, h3, h4, h5, h6, cR]; try rfl
      | false =>
       cases h7 : decide (c.r < 0) with
       | true =>
        rw [h7] at n3
        simp (maxSteps := 4000000) only [sG, seval, x84, stU, b84, Tryz.f84, encC, Vl.cs, ci, h1, h2, h3, h4, h5, h6, n3, Bool.not_true]; try rfl
       | false =>
        rw [h7] at n3
        cases h8 : decide (w <= c.r) with
        | true =>
         rw [h8] at n4
         simp (maxSteps := 4000000) only [sG, seval, x84, stU, b84, Tryz.f84, encC, Vl.cs, ci, h1, h2, h3, h4, h5, h6, n3, n4, Bool.not_true, Bool.not_false]; try rfl
        | false =>
         rw [h8] at n4
         simp (maxSteps := 4000000) only [sG, seval, x84, stU, b84, Tryz.f84, encC, Vl.cs, ci, h1, h2, h3, h4, h5, h6, n3, n4, q2, Bool.not_false]; try rfl
theorem cRCond {m : Md} {c : Cd} {w : Int} {H : Tr AO} {hs : Nat} : callF tab (evw tab) m 84 [encC c, .lit (.int .i64 w)] H hs = some (.lit (.bool (condB c w)), H, hs) :=
 callF_iso tcon rfl rfl rfl eqRCond
def rfewN : Nd -> Int -> Int
 | .nil, _ => 0
 | .mk _ _ _ _ _ _ _ _ l r, x => bif decide (x < 0) then 0 else (1 + rfewN l (x - 1)) + rfewN r (x - (1 + rfewN l (x - 1)))
theorem rfewN_rng : ∀ (n : Nd) (x : Int), -1 <= x -> 0 <= rfewN n x /\ rfewN n x <= x + 1
 | .nil, x, h => ⟨Int.le_refl _, by show (0 : Int) <= _; omega⟩
 | .mk k nm w cs ps cl ag of l r, x, h => by
  rw [rfewN]
  by_cases hx : x < 0
  ·rw [decide_eq_true hx, cond_true]; omega
  ·rw [decide_eq_false hx, cond_false]
   have h1 := rfewN_rng l (x - 1) (by omega)
   have h2 := rfewN_rng r (x - (1 + rfewN l (x - 1))) (by omega)
   omega
theorem eqRFew : ∀ (n : Nd) (m : Md) (x : Int), -1 <= x -> x <= 1000 -> iso tab fi26 m [encN n, ci x] = some (ci (rfewN n x)) := by
 intro n
 induction n with
 | nil =>
  intro m x h1 h2
  refine iso_ret ?_
  simp only [sG, seval, x26, stU, b26, Tryz.f26, encN, ci, rfewN, dPN]
 | mk k nm w cs ps cl ag of l r ihl ihr =>
  intro m x h1 h2
  cases hx : decide (x < 0) with
  | true =>
   refine iso_ret ?_
   simp only [sG, seval, x26, stU, b26, Tryz.f26, encN, ci, rfewN, dPN, hx, cond_true]
  | false =>
   have hx' := of_decide_eq_false hx
   have e : rfewN (.mk k nm w cs ps cl ag of l r) x = (1 + rfewN l (x - 1)) + rfewN r (x - (1 + rfewN l (x - 1))) := by simp only [rfewN, hx, cond_false]
   rw [e]
   obtain ⟨l2, l3⟩ := rfewN_rng l (x - 1) (by omega)
   have l1 : ∀ m, iso tab fi26 m [encN l, ci (x - 1)] = some (ci (rfewN l (x - 1))) := fun m => ihl m (x - 1) (by omega) (by omega)
   generalize hy : rfewN l (x - 1) = y at l1 l2 l3
   have w0 : IntKind.i64.wrap (x - 1) = x - 1 := wrap_i64 (by omega) (by omega)
   have w2 : IntKind.i64.wrap (1 + y) = 1 + y := wrap_i64 (by omega) (by omega)
   have w3 : IntKind.i64.wrap (x - (1 + y)) = x - (1 + y) := wrap_i64 (by omega) (by omega)
   obtain ⟨r2, r3⟩ := rfewN_rng r (x - (1 + y)) (by omega)
   have r1 : ∀ m, iso tab fi26 m [encN r, ci (x - (1 + y))] = some (ci (rfewN r (x - (1 + y)))) := fun m => ihr m _ (by omega) (by omega)
   generalize hz : rfewN r (x - (1 + y)) = z at r1 r2 r3
   have w4 : IntKind.i64.wrap (1 + y + z) = 1 + y + z := wrap_i64 (by omega) (by omega)
   have c1 : ∀ m' H hs, callF tab (evw tab) m' 26 [encN l, .lit (.int .i64 (x - 1))] H hs = some (.lit (.int .i64 y), H, hs) := fun m' H hs =>
    callF_iso tcon rfl rfl (by simp only [bares, bare_N]; rfl) (by show iso tab fi26 m' [nrm (encN l), ci (x - 1)] = _; rw [nrm_N]; exact l1 m')
   have c2 : ∀ m' H hs, callF tab (evw tab) m' 26 [encN r, .lit (.int .i64 (x - (1 + y)))] H hs = some (.lit (.int .i64 z), H, hs) := fun m' H hs =>
    callF_iso tcon rfl rfl (by simp only [bares, bare_N]; rfl) (by show iso tab fi26 m' [nrm (encN r), ci (x - (1 + y))] = _; rw [nrm_N]; exact r1 m')
   refine iso_ret ?_
   simp (maxSteps := 4000000) only [sG, seval, x26, stU, b26, Tryz.f26, encN, ci, dPN, dN, hx, w0, w2, w3, w4, c1, c2]
theorem cRFew {n : Nd} {m : Md} {x : Int} {H : Tr AO} {hs : Nat} (h1 : -1 <= x) (h2 : x <= 1000) : callF tab (evw tab) m 26 [encN n, .lit (.int .i64 x)] H hs = some (.lit (.int .i64 (rfewN n x)), H, hs) :=
 callF_iso tcon rfl rfl (by simp only [bares, bare_N]; rfl) (by show iso tab fi26 m [nrm (encN n), ci x] = _; rw [nrm_N]; exact eqRFew n m x h1 h2)
end Go.Proofs.YtcledcfeddlomaaGreatDoor.Ev
namespace Go.Proofs.YtcledcfeddlomaaGreatDoor.Ev
open Go Go.Proofs.YtcledcfeddlomaaGreatDoor.Ev Go.Proofs Go.Proofs.YtcledcfeddlomaaGreatDoor Go.Proofs.YtcledcfeddlomaaGreatDoor.Tab
def emptyB (n c p l g : Bool) (nm : List UInt8) (w : Int) (cs : List Cd) (ps : List (Int × Int)) (cl : List Int) (ag of : Int) : Bool :=
 bif !n && (!(nm == []) || !decide (w = 0)) then false else
 bif !c && decide ((0 : Int) < cs.length) then false else
 bif !p && decide ((0 : Int) < ps.length) then false else
 bif !l && decide ((0 : Int) < cl.length) then false else
 g || (decide (ag = 0) && decide (of = 0))
theorem pnE {p q : Operand} {n : Nd} : binO tab .eql 23 p q (some (encN n)) (some (.lit (.pointer none))) = some (.lit (.bool (isNil n))) := by cases n <;> rfl
theorem pnF {p q : Operand} {n : Nd} : binO tab .neq 23 p q (some (encN n)) (some (.lit (.pointer none))) = some (.lit (.bool (!isNil n))) := by cases n <;> rfl
variable {m : Md} {k : Int} {nm : List UInt8} {w : Int} {cs : List Cd} {ps : List (Int × Int)} {cl : List Int} {ag of : Int} {l r : Nd}
theorem eqEmpty1 : iso tab fi83 m [encN (.mk k nm w cs ps cl ag of l r), .lit (.bool true), .lit (.bool false), .lit (.bool false), .lit (.bool false), .lit (.bool false)] = some (.lit (.bool (emptyB true false false false false nm w cs ps cl ag of))) := by
 refine iso_ret ?_
 unfold emptyB
 cases a3 : decide ((0 : Int) < cs.length) with
 | true =>
  simp (maxSteps := 4000000) only [sG, seval, x83, stU, b83, Tryz.f83, encN, ci, List.length_map, Bool.not_true, Bool.not_false, Bool.true_or, Bool.false_or, Bool.true_and, Bool.false_and, Bool.and_false, a3]
  try rfl
 | false =>
  cases a4 : decide ((0 : Int) < ps.length) with
  | true =>
   simp (maxSteps := 4000000) only [sG, seval, x83, stU, b83, Tryz.f83, encN, ci, List.length_map, Bool.not_true, Bool.not_false, Bool.true_or, Bool.false_or, Bool.true_and, Bool.false_and, Bool.and_false, a3, a4]
   try rfl
  | false =>
   cases a5 : decide ((0 : Int) < cl.length) with
   | true =>
    simp (maxSteps := 4000000) only [sG, seval, x83, stU, b83, Tryz.f83, encN, ci, List.length_map, Bool.not_true, Bool.not_false, Bool.true_or, Bool.false_or, Bool.true_and, Bool.false_and, Bool.and_false, a3, a4, a5]
    try rfl
   | false =>
    cases a6 : decide (ag = 0) with
    | false =>
     simp (maxSteps := 4000000) only [sG, seval, x83, stU, b83, Tryz.f83, encN, ci, List.length_map, Bool.not_true, Bool.not_false, Bool.true_or, Bool.false_or, Bool.true_and, Bool.false_and, Bool.and_false, a3, a4, a5, a6]
     try rfl
    | true =>
     simp (maxSteps := 4000000) only [sG, seval, x83, stU, b83, Tryz.f83, encN, ci, List.length_map, Bool.not_true, Bool.not_false, Bool.true_or, Bool.false_or, Bool.true_and, Bool.false_and, Bool.and_false, a3, a4, a5, a6]
     try rfl
theorem cEmpty1 {H : Tr AO} {hs : Nat} : callF tab (evw tab) m 83 [encN (.mk k nm w cs ps cl ag of l r), .lit (.bool true), .lit (.bool false), .lit (.bool false), .lit (.bool false), .lit (.bool false)] H hs = some (.lit (.bool (emptyB true false false false false nm w cs ps cl ag of)), H, hs) := by
 refine callF_iso tcon rfl rfl (by simp only [bares, bare_N]; rfl) ?_
 simp only [nrms, nrm_N]
 exact eqEmpty1
theorem eqEmpty2 : iso tab fi83 m [encN (.mk k nm w cs ps cl ag of l r), .lit (.bool false), .lit (.bool true), .lit (.bool false), .lit (.bool false), .lit (.bool false)] = some (.lit (.bool (emptyB false true false false false nm w cs ps cl ag of))) := by
 refine iso_ret ?_
 unfold emptyB
 cases a1 : (nm == []) with
 | false =>
  simp (maxSteps := 4000000) only [sG, seval, x83, stU, b83, Tryz.f83, encN, ci, List.length_map, Bool.not_true, Bool.not_false, Bool.true_or, Bool.false_or, Bool.true_and, Bool.false_and, Bool.and_false, a1]
  try rfl
 | true =>
  cases a2 : decide (w = 0) with
  | false =>
   simp (maxSteps := 4000000) only [sG, seval, x83, stU, b83, Tryz.f83, encN, ci, List.length_map, Bool.not_true, Bool.not_false, Bool.true_or, Bool.false_or, Bool.true_and, Bool.false_and, Bool.and_false, a1, a2]
   try rfl
  | true =>
   cases a4 : decide ((0 : Int) < ps.length) with
   | true =>
    simp (maxSteps := 4000000) only [sG, seval, x83, stU, b83, Tryz.f83, encN, ci, List.length_map, Bool.not_true, Bool.not_false, Bool.true_or, Bool.false_or, Bool.true_and, Bool.false_and, Bool.and_false, a1, a2, a4]
    try rfl
   | false =>
    cases a5 : decide ((0 : Int) < cl.length) with
    | true =>
     simp (maxSteps := 4000000) only [sG, seval, x83, stU, b83, Tryz.f83, encN, ci, List.length_map, Bool.not_true, Bool.not_false, Bool.true_or, Bool.false_or, Bool.true_and, Bool.false_and, Bool.and_false, a1, a2, a4, a5]
     try rfl
    | false =>
     cases a6 : decide (ag = 0) with
     | false =>
      simp (maxSteps := 4000000) only [sG, seval, x83, stU, b83, Tryz.f83, encN, ci, List.length_map, Bool.not_true, Bool.not_false, Bool.true_or, Bool.false_or, Bool.true_and, Bool.false_and, Bool.and_false, a1, a2, a4, a5, a6]
      try rfl
     | true =>
      simp (maxSteps := 4000000) only [sG, seval, x83, stU, b83, Tryz.f83, encN, ci, List.length_map, Bool.not_true, Bool.not_false, Bool.true_or, Bool.false_or, Bool.true_and, Bool.false_and, Bool.and_false, a1, a2, a4, a5, a6]
      try rfl
theorem cEmpty2 {H : Tr AO} {hs : Nat} : callF tab (evw tab) m 83 [encN (.mk k nm w cs ps cl ag of l r), .lit (.bool false), .lit (.bool true), .lit (.bool false), .lit (.bool false), .lit (.bool false)] H hs = some (.lit (.bool (emptyB false true false false false nm w cs ps cl ag of)), H, hs) := by
 refine callF_iso tcon rfl rfl (by simp only [bares, bare_N]; rfl) ?_
 simp only [nrms, nrm_N]
 exact eqEmpty2
theorem eqEmpty3 : iso tab fi83 m [encN (.mk k nm w cs ps cl ag of l r), .lit (.bool false), .lit (.bool false), .lit (.bool true), .lit (.bool false), .lit (.bool false)] = some (.lit (.bool (emptyB false false true false false nm w cs ps cl ag of))) := by
 refine iso_ret ?_
 unfold emptyB
 cases a1 : (nm == []) with
 | false =>
  simp (maxSteps := 4000000) only [sG, seval, x83, stU, b83, Tryz.f83, encN, ci, List.length_map, Bool.not_true, Bool.not_false, Bool.true_or, Bool.false_or, Bool.true_and, Bool.false_and, Bool.and_false, a1]
  try rfl
 | true =>
  cases a2 : decide (w = 0) with
  | false =>
   simp (maxSteps := 4000000) only [sG, seval, x83, stU, b83, Tryz.f83, encN, ci, List.length_map, Bool.not_true, Bool.not_false, Bool.true_or, Bool.false_or, Bool.true_and, Bool.false_and, Bool.and_false, a1, a2]
   try rfl
  | true =>
   cases a3 : decide ((0 : Int) < cs.length) with
   | true =>
    simp (maxSteps := 4000000) only [sG, seval, x83, stU, b83, Tryz.f83, encN, ci, List.length_map, Bool.not_true, Bool.not_false, Bool.true_or, Bool.false_or, Bool.true_and, Bool.false_and, Bool.and_false, a1, a2, a3]
    try rfl
   | false =>
    cases a5 : decide ((0 : Int) < cl.length) with
    | true =>
     simp (maxSteps := 4000000) only [sG, seval, x83, stU, b83, Tryz.f83, encN, ci, List.length_map, Bool.not_true, Bool.not_false, Bool.true_or, Bool.false_or, Bool.true_and, Bool.false_and, Bool.and_false, a1, a2, a3, a5]
     try rfl
    | false =>
     cases a6 : decide (ag = 0) with
     | false =>
      simp (maxSteps := 4000000) only [sG, seval, x83, stU, b83, Tryz.f83, encN, ci, List.length_map, Bool.not_true, Bool.not_false, Bool.true_or, Bool.false_or, Bool.true_and, Bool.false_and, Bool.and_false, a1, a2, a3, a5, a6]
      try rfl
     | true =>
      simp (maxSteps := 4000000) only [sG, seval, x83, stU, b83, Tryz.f83, encN, ci, List.length_map, Bool.not_true, Bool.not_false, Bool.true_or, Bool.false_or, Bool.true_and, Bool.false_and, Bool.and_false, a1, a2, a3, a5, a6]
      try rfl
theorem cEmpty3 {H : Tr AO} {hs : Nat} : callF tab (evw tab) m 83 [encN (.mk k nm w cs ps cl ag of l r), .lit (.bool false), .lit (.bool false), .lit (.bool true), .lit (.bool false), .lit (.bool false)] H hs = some (.lit (.bool (emptyB false false true false false nm w cs ps cl ag of)), H, hs) := by
 refine callF_iso tcon rfl rfl (by simp only [bares, bare_N]; rfl) ?_
 simp only [nrms, nrm_N]
 exact eqEmpty3
theorem eqEmpty5 : iso tab fi83 m [encN (.mk k nm w cs ps cl ag of l r), .lit (.bool false), .lit (.bool false), .lit (.bool false), .lit (.bool true), .lit (.bool false)] = some (.lit (.bool (emptyB false false false true false nm w cs ps cl ag of))) := by
 refine iso_ret ?_
 unfold emptyB
 cases a1 : (nm == []) with
 | false =>
  simp (maxSteps := 4000000) only [sG, seval, x83, stU, b83, Tryz.f83, encN, ci, List.length_map, Bool.not_true, Bool.not_false, Bool.true_or, Bool.false_or, Bool.true_and, Bool.false_and, Bool.and_false, a1]
  try rfl
 | true =>
  cases a2 : decide (w = 0) with
  | false =>
   simp (maxSteps := 4000000) only [sG, seval, x83, stU, b83, Tryz.f83, encN, ci, List.length_map, Bool.not_true, Bool.not_false, Bool.true_or, Bool.false_or, Bool.true_and, Bool.false_and, Bool.and_false, a1, a2]
   try rfl
  | true =>
   cases a3 : decide ((0 : Int) < cs.length) with
   | true =>
    simp (maxSteps := 4000000) only [sG, seval, x83, stU, b83, Tryz.f83, encN, ci, List.length_map, Bool.not_true, Bool.not_false, Bool.true_or, Bool.false_or, Bool.true_and, Bool.false_and, Bool.and_false, a1, a2, a3]
    try rfl
   | false =>
    cases a4 : decide ((0 : Int) < ps.length) with
    | true =>
     simp (maxSteps := 4000000) only [sG, seval, x83, stU, b83, Tryz.f83, encN, ci, List.length_map, Bool.not_true, Bool.not_false, Bool.true_or, Bool.false_or, Bool.true_and, Bool.false_and, Bool.and_false, a1, a2, a3, a4]
     try rfl
    | false =>
     cases a6 : decide (ag = 0) with
     | false =>
      simp (maxSteps := 4000000) only [sG, seval, x83, stU, b83, Tryz.f83, encN, ci, List.length_map, Bool.not_true, Bool.not_false, Bool.true_or, Bool.false_or, Bool.true_and, Bool.false_and, Bool.and_false, a1, a2, a3, a4, a6]
      try rfl
     | true =>
      simp (maxSteps := 4000000) only [sG, seval, x83, stU, b83, Tryz.f83, encN, ci, List.length_map, Bool.not_true, Bool.not_false, Bool.true_or, Bool.false_or, Bool.true_and, Bool.false_and, Bool.and_false, a1, a2, a3, a4, a6]
      try rfl
theorem cEmpty5 {H : Tr AO} {hs : Nat} : callF tab (evw tab) m 83 [encN (.mk k nm w cs ps cl ag of l r), .lit (.bool false), .lit (.bool false), .lit (.bool false), .lit (.bool true), .lit (.bool false)] H hs = some (.lit (.bool (emptyB false false false true false nm w cs ps cl ag of)), H, hs) := by
 refine callF_iso tcon rfl rfl (by simp only [bares, bare_N]; rfl) ?_
 simp only [nrms, nrm_N]
 exact eqEmpty5
theorem eqEmpty6 : iso tab fi83 m [encN (.mk k nm w cs ps cl ag of l r), .lit (.bool false), .lit (.bool false), .lit (.bool false), .lit (.bool false), .lit (.bool false)] = some (.lit (.bool (emptyB false false false false false nm w cs ps cl ag of))) := by
 refine iso_ret ?_
 unfold emptyB
 cases a1 : (nm == []) with
 | false =>
  simp (maxSteps := 4000000) only [sG, seval, x83, stU, b83, Tryz.f83, encN, ci, List.length_map, Bool.not_true, Bool.not_false, Bool.true_or, Bool.false_or, Bool.true_and, Bool.false_and, Bool.and_false, a1]
  try rfl
 | true =>
  cases a2 : decide (w = 0) with
  | false =>
   simp (maxSteps := 4000000) only [sG, seval, x83, stU, b83, Tryz.f83, encN, ci, List.length_map, Bool.not_true, Bool.not_false, Bool.true_or, Bool.false_or, Bool.true_and, Bool.false_and, Bool.and_false, a1, a2]
   try rfl
  | true =>
   cases a3 : decide ((0 : Int) < cs.length) with
   | true =>
    simp (maxSteps := 4000000) only [sG, seval, x83, stU, b83, Tryz.f83, encN, ci, List.length_map, Bool.not_true, Bool.not_false, Bool.true_or, Bool.false_or, Bool.true_and, Bool.false_and, Bool.and_false, a1, a2, a3]
    try rfl
   | false =>
    cases a4 : decide ((0 : Int) < ps.length) with
    | true =>
     simp (maxSteps := 4000000) only [sG, seval, x83, stU, b83, Tryz.f83, encN, ci, List.length_map, Bool.not_true, Bool.not_false, Bool.true_or, Bool.false_or, Bool.true_and, Bool.false_and, Bool.and_false, a1, a2, a3, a4]
     try rfl
    | false =>
     cases a5 : decide ((0 : Int) < cl.length) with
     | true =>
      simp (maxSteps := 4000000) only [sG, seval, x83, stU, b83, Tryz.f83, encN, ci, List.length_map, Bool.not_true, Bool.not_false, Bool.true_or, Bool.false_or, Bool.true_and, Bool.false_and, Bool.and_false, a1, a2, a3, a4, a5]
      try rfl
     | false =>
      cases a6 : decide (ag = 0) with
      | false =>
       simp (maxSteps := 4000000) only [sG, seval, x83, stU, b83, Tryz.f83, encN, ci, List.length_map, Bool.not_true, Bool.not_false, Bool.true_or, Bool.false_or, Bool.true_and, Bool.false_and, Bool.and_false, a1, a2, a3, a4, a5, a6]
       try rfl
      | true =>
       simp (maxSteps := 4000000) only [sG, seval, x83, stU, b83, Tryz.f83, encN, ci, List.length_map, Bool.not_true, Bool.not_false, Bool.true_or, Bool.false_or, Bool.true_and, Bool.false_and, Bool.and_false, a1, a2, a3, a4, a5, a6]
       try rfl
theorem cEmpty6 {H : Tr AO} {hs : Nat} : callF tab (evw tab) m 83 [encN (.mk k nm w cs ps cl ag of l r), .lit (.bool false), .lit (.bool false), .lit (.bool false), .lit (.bool false), .lit (.bool false)] H hs = some (.lit (.bool (emptyB false false false false false nm w cs ps cl ag of)), H, hs) := by
 refine callF_iso tcon rfl rfl (by simp only [bares, bare_N]; rfl) ?_
 simp only [nrms, nrm_N]
 exact eqEmpty6
theorem eqEmpty7 : iso tab fi83 m [encN (.mk k nm w cs ps cl ag of l r), .lit (.bool false), .lit (.bool false), .lit (.bool false), .lit (.bool true), .lit (.bool true)] = some (.lit (.bool (emptyB false false false true true nm w cs ps cl ag of))) := by
 refine iso_ret ?_
 unfold emptyB
 cases a1 : (nm == []) with
 | false =>
  simp (maxSteps := 4000000) only [sG, seval, x83, stU, b83, Tryz.f83, encN, ci, List.length_map, Bool.not_true, Bool.not_false, Bool.true_or, Bool.false_or, Bool.true_and, Bool.false_and, Bool.and_false, a1]
  try rfl
 | true =>
  cases a2 : decide (w = 0) with
  | false =>
   simp (maxSteps := 4000000) only [sG, seval, x83, stU, b83, Tryz.f83, encN, ci, List.length_map, Bool.not_true, Bool.not_false, Bool.true_or, Bool.false_or, Bool.true_and, Bool.false_and, Bool.and_false, a1, a2]
   try rfl
  | true =>
   cases a3 : decide ((0 : Int) < cs.length) with
   | true =>
    simp (maxSteps := 4000000) only [sG, seval, x83, stU, b83, Tryz.f83, encN, ci, List.length_map, Bool.not_true, Bool.not_false, Bool.true_or, Bool.false_or, Bool.true_and, Bool.false_and, Bool.and_false, a1, a2, a3]
    try rfl
   | false =>
    cases a4 : decide ((0 : Int) < ps.length) with
    | true =>
     simp (maxSteps := 4000000) only [sG, seval, x83, stU, b83, Tryz.f83, encN, ci, List.length_map, Bool.not_true, Bool.not_false, Bool.true_or, Bool.false_or, Bool.true_and, Bool.false_and, Bool.and_false, a1, a2, a3, a4]
     try rfl
    | false =>
     simp (maxSteps := 4000000) only [sG, seval, x83, stU, b83, Tryz.f83, encN, ci, List.length_map, Bool.not_true, Bool.not_false, Bool.true_or, Bool.false_or, Bool.true_and, Bool.false_and, Bool.and_false, a1, a2, a3, a4]
     try rfl
theorem cEmpty7 {H : Tr AO} {hs : Nat} : callF tab (evw tab) m 83 [encN (.mk k nm w cs ps cl ag of l r), .lit (.bool false), .lit (.bool false), .lit (.bool false), .lit (.bool true), .lit (.bool true)] H hs = some (.lit (.bool (emptyB false false false true true nm w cs ps cl ag of)), H, hs) := by
 refine callF_iso tcon rfl rfl (by simp only [bares, bare_N]; rfl) ?_
 simp only [nrms, nrm_N]
 exact eqEmpty7
end Go.Proofs.YtcledcfeddlomaaGreatDoor.Ev
