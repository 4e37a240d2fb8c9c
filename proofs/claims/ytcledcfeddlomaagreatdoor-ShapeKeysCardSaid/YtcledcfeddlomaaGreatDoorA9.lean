import Derived.Test.YtcledcfeddlomaaGreatDoorA5
import Derived.Test.YtcledcfeddlomaaGreatDoorU4
set_option linter.all false
set_option maxRecDepth 100000
set_option maxHeartbeats 8000000
namespace Go.Proofs.YtcledcfeddlomaaGreatDoor.Ev
open Go Go.Proofs.YtcledcfeddlomaaGreatDoor.Ev Go.Proofs Go.Proofs.YtcledcfeddlomaaGreatDoor Go.Proofs.YtcledcfeddlomaaGreatDoor.Tab
theorem xor63 (x : Nat) (hx : x < 18446744073709551616) : x ^^^ 9223372036854775808 = (x + 9223372036854775808) % 18446744073709551616 := by
 apply Nat.eq_of_testBit_eq
 intro i
 rw [show (18446744073709551616 : Nat) = 2 ^ 64 from rfl, show (9223372036854775808 : Nat) = 2 ^ 63 from rfl, Nat.testBit_xor, Nat.testBit_two_pow, Nat.testBit_mod_two_pow, Nat.add_comm x]
 by_cases h1 : i < 63
 ·rw [Nat.testBit_two_pow_add_gt h1, decide_eq_false (show ¬ 63 = i by omega), decide_eq_true (show i < 64 by omega)]
  cases x.testBit i <;> rfl
 ·by_cases h2 : i = 63
  ·subst h2
   rw [Nat.testBit_two_pow_add_eq]
   simp
  ·have h3 : x.testBit i = false := Nat.testBit_lt_two_pow (Nat.lt_of_lt_of_le hx (by rw [show (18446744073709551616 : Nat) = 2 ^ 64 from rfl]; exact Nat.pow_le_pow_right (by omega) (by omega)))
   rw [h3, decide_eq_false (show ¬ 63 = i by omega), decide_eq_false (show ¬ i < 64 by omega)]
   rfl
theorem uOf_add {n : Int} : IntKind.u64.wrap (IntKind.u64.wrap n + 9223372036854775808) = uOf n := by
 unfold uOf
 have hm : IntKind.u64.wrap n = n % 18446744073709551616 := by rw [u64_wrap]
 rw [hm]
 obtain ⟨x, hx⟩ : ∃ x : Nat, n % 18446744073709551616 = (x : Int) := ⟨(n % 18446744073709551616).toNat, by omega⟩
 rw [hx]
 have hlt : x < 18446744073709551616 := by omega
 have e : (BitVec.ofInt IntKind.u64.bits (x : Int) ^^^ BitVec.ofInt IntKind.u64.bits 9223372036854775808).toNat = (x + 9223372036854775808) % 18446744073709551616 := by
  rw [<- xor63 x hlt, BitVec.toNat_xor, BitVec.toNat_ofInt, BitVec.toNat_ofInt]
  have hb : ((2 ^ IntKind.u64.bits : Nat) : Int) = 18446744073709551616 := rfl
  rw [hb]
  congr 1
  omega
 rw [e, u64_wrap, u64_wrap]
 omega
theorem loopRInt {n : Int} {gl : Tr (Option AV)} : ∀ (k : Nat) (t : Tr AV) (H : Tr AO) (hs : Nat) (A : AV) (es : List Int), k <= 8 -> es.length + k <= 100 -> AccF H hs 1 A (es.map encI) ->
  t.get .any 3 = .lit (.int .u64 (uOf n)) -> t.get .any 4 = A -> t.get .any 5 = .lit (.int .i64 ((k : Int) - 1)) ->
  RetN (W tab none (fin tab fi89) (lpc fi89 0) (lpk fi89 0) ⟨t, 69, H, hs, [], ⟨true, true, gl⟩⟩) (.lst .no ((es ++ byteL n k).map encI)) := by
 simp only [stU, stC, b89, Tryz.f89]
 intro k
 induction k with
 | zero =>
  intro t H hs A es hk hes hA a3 a4 a5
  have e1 : decide ((0 : Int) <= ((0 : Nat) : Int) - 1) = false := by decide
  obtain ⟨h1, h2⟩ := hA.bn bare_I nrm_I
  rw [W_loop]
  simp only [sGA, seval, x89, stU, b89, Tryz.f89, a3, a4, a5, e1, byteL]
  exact ⟨h1, h2⟩
 | succ k ih =>
  intro t H hs A es hk hes hA a3 a4 a5
  have q0 : ((k + 1 : Nat) : Int) - 1 = (k : Int) := by omega
  have e1 : decide ((0 : Int) <= (k : Int)) = true := dcT (by omega)
  have q1 : IntKind.i64.wrap (8 * (k : Int)) = ((8 * k : Nat) : Int) := by rw [wrap_i64 (by omega) (by omega)]; omega
  have q2 : (0 : Int) <= ((8 * k : Nat) : Int) := by omega
  have q3 : IntKind.i64.wrap ((k : Int) - 1) = (k : Int) - 1 := wrap_i64 (by omega) (by omega)
  have q4 : IntKind.u64.wrap ((8 * k : Nat) : Int) = ((8 * k : Nat) : Int) := by rw [IntKind.wrap_u64]; omega
  obtain ⟨H1, hP, hA2, _⟩ := appI hA (by omega) (byteI n (8 * k))
  rw [q0] at a5
  rw [W_loop]
  rw [show es ++ byteL n (k + 1) = (es ++ [byteI n (8 * k)]) ++ byteL n k by simp [byteL]]
  simp (maxSteps := 2000000) only [sGA, seval, x89, stU, b89, Tryz.f89, a3, a4, a5, e1, q1, q2, q3, q4, dMO, convIO, Int.toNat_natCast, fold_byte, hP]
  apply ih _ _ _ _ (es ++ [byteI n (8 * k)]) (by omega) (by simp; omega) hA2
  all_goals simp only [sG, seval, a3, a4, a5]
theorem loopRText {v : Vl} {gl : Tr (Option AV)} {B : Nat} (hs0 : v.s.length < 1000000) : ∀ (k i : Nat) (t : Tr AV) (H : Tr AO) (hs : Nat) (A : AV) (es : List Int), i + k = v.s.length -> es.length <= 10 + 2 * i -> AccF H hs 1 A (es.map encI) -> H.get .dead B = .cells v.cs false -> B < hs ->
  t.get .any 1 = .ptr B 0 -> t.get .any 6 = A -> t.get .any 7 = .lit (.int .i64 i) ->
  RetN (W tab none (fin tab fi89) (lpc fi89 1) (lpk fi89 1) ⟨t, 69, H, hs, [], ⟨true, true, gl⟩⟩) (.lst .no ((es ++ packS (v.s.drop i) ++ [0, 1]).map encI)) := by
 simp only [stU, stC, b89, Tryz.f89]
 intro k
 induction k with
 | zero =>
  intro i t H hs A es hi hes hA hB hb a1 a6 a7
  have e1 : decide ((i : Int) < v.s.length) = false := dcF (by omega)
  rw [W_loop, List.drop_of_length_le (by omega)]
  simp only [Vl.cs] at hB
  obtain ⟨H1, hP, _, _⟩ := appF hA (elIs es) 1 false .full (.lit (.int .u8 0)) [.lit (.int .u8 1)] (elIs [0, 1]) (by simp only [List.length_map, List.length_cons, List.length_nil]; omega)
  simp only [sGA, seval, x89, stU, b89, Tryz.f89, a1, a6, a7, e1, hB, hP]
  refine ⟨?_, ?_⟩
  ·have := bares_mapf bare_I (es ++ [0, 1])
   simp only [List.map_append, List.map_cons, List.map_nil, encI] at this
   exact this
  ·have := nrms_mapg nrm_I (es ++ [0, 1])
   simp only [List.map_append, List.map_cons, List.map_nil, encI] at this
   show AV.lst .no (nrms _) = _
   rw [this]
   simp [packS, encI]
 | succ k ih =>
  intro i t H hs A es hi hes hA hB hb a1 a6 a7
  have hlt : i < (v.s).length := by omega
  obtain ⟨c, hv, e1, e3, e4, e6, e7⟩ := atS hlt
  have e5 := wrap_succ (i := i) (by omega)
  rw [W_loop, e6]
  simp only [Vl.cs] at hB
  obtain ⟨H1, hP, hA2, g0⟩ := appI hA (by omega) (c.toNat : Int)
  have g1 := g0 B hb (by rw [hB]; rfl)
  rw [hB] at g1
  cases h0 : decide ((c.toNat : Int) = 0) with
  | false =>
   simp only [packS, h0, cond_true, cond_false]
   rw [show es ++ ((c.toNat : Int) :: packS (v.s.drop (i + 1))) ++ [0, 1] = (es ++ [(c.toNat : Int)]) ++ packS (v.s.drop (i + 1)) ++ [0, 1] by simp]
   simp (maxSteps := 2000000) only [sGA, seval, x89, stU, b89, Tryz.f89, a1, a6, a7, hB, e1, e3, e4, e5, lG, hP, g1, h0]
   apply ih (i + 1) _ _ _ _ (es ++ [(c.toNat : Int)]) (by omega) (by simp; omega) hA2 (by simp only [Vl.cs]; exact g1) (by omega)
   all_goals simp only [sG, seval, a1, a6, a7]
  | true =>
   simp only [packS, h0, cond_true, cond_false]
   obtain ⟨H2, hP2, hA3, g00⟩ := appI hA2 (by simp; omega) 255
   have g2 := g00 B (by omega) (by rw [g1]; rfl)
   rw [g1] at g2
   rw [show es ++ ((c.toNat : Int) :: 255 :: packS (v.s.drop (i + 1))) ++ [0, 1] = ((es ++ [(c.toNat : Int)]) ++ [255]) ++ packS (v.s.drop (i + 1)) ++ [0, 1] by simp]
   simp (maxSteps := 2000000) only [sGA, seval, x89, stU, b89, Tryz.f89, a1, a6, a7, hB, e1, e3, e4, e5, lG, hP, g1, h0, hP2]
   apply ih (i + 1) _ _ _ _ ((es ++ [(c.toNat : Int)]) ++ [255]) (by omega) (by simp; omega) hA3 (by simp only [Vl.cs]; exact g2) (by omega)
   all_goals simp only [sG, seval, a1, a6, a7]
theorem eqRPackV {m : Md} {v : Vl} (hv : vright v = true) : iso tab fi89 m [encV v] = some (.lst .no ((packV v).map encI)) := by
 refine iso_ret ?_
 have c := fun m H hs => @cRRight1 m v H hs
 simp only [encV, Vl.cs, hv] at c
 unfold packV
 cases h1 : decide (v.k = 1) with
 | true =>
  have h0 : decide (v.k = 0) = false := by have := of_decide_eq_true h1; rw [decide_eq_false_iff_not]; omega
  cases hb : v.b with
  | true =>
   simp only [hb] at c
   simp (maxSteps := 2000000) only [sG, seval, x89, stU, b89, Tryz.f89, encV, Vl.cs, c, h0, h1, hb, encI]
  | false =>
   simp only [hb] at c
   simp (maxSteps := 2000000) only [sG, seval, x89, stU, b89, Tryz.f89, encV, Vl.cs, c, h0, h1, hb, encI]
 | false =>
  cases h2 : decide (v.k = 2) with
  | true =>
   have h0 : decide (v.k = 0) = false := by have := of_decide_eq_true h2; rw [decide_eq_false_iff_not]; omega
   have L := @loopRInt v.n m.gl 8
   simp only [stU, stC, b89, Tryz.f89] at L
   simp (maxSteps := 2000000) only [sG, seval, x89, stU, b89, Tryz.f89, encV, Vl.cs, c, h0, h1, h2, convIO, uOf_add]
   apply L _ _ _ (.lst .full [.lit (.int .u8 3)]) [3] (by omega) (by simp) (.inr rfl)
   all_goals first | (simp only [sG, seval]; done) | (simp only [sG, seval]; rfl) | omega
  | false =>
   rcases vright_k hv h1 h2 with ⟨h3, hl⟩ | h3
   ·have h0 : decide (v.k = 0) = false := by have := of_decide_eq_true h3; rw [decide_eq_false_iff_not]; omega
    have L := @loopRText v m.gl 0 (by omega) v.s.length 0
    simp only [stU, stC, b89, Tryz.f89, Vl.cs] at L
    simp (maxSteps := 2000000) only [sG, seval, x89, stU, b89, Tryz.f89, encV, Vl.cs, c, h0, h1, h2, h3]
    apply L _ _ _ (.lst .full [.lit (.int .u8 4)]) [4] (by simp) (by simp) (.inr rfl)
    all_goals first | (simp only [sG, seval]; done) | (simp only [sG, seval]; rfl) | omega
   ·have h0 : decide (v.k = 0) = true := by
     unfold vright at hv
     cases h0 : decide (v.k = 0) with
     | true => rfl
     | false => rw [h0, h1, h2, h3] at hv; cases hv
    simp (maxSteps := 2000000) only [sG, seval, x89, stU, b89, Tryz.f89, encV, Vl.cs, c, h0, h1, h2, h3, encI]
theorem cRPackV {m : Md} {v : Vl} {H : Tr AO} {hs : Nat} (hv : vright v = true) : callF tab (evw tab) m 89 [encV v] H hs = some (.lst .no ((packV v).map encI), H, hs) := callF_iso tcon rfl rfl rfl (eqRPackV hv)
theorem slice16 {k : Nat} (h : k < 16) : sliceStrO [48, 49, 50, 51, 52, 53, 54, 55, 56, 57, 97, 98, 99, 100, 101, 102] (some k) (some (k + 1)) = some (.str [hexc (k : Int)]) := by
 have key : ∀ j : Fin 16, ((Nat.ble j.val (j.val + 1) && Nat.ble (j.val + 1) hexT.length) = true) /\ ((hexT.take (j.val + 1)).drop j.val = [hexT.getD j.val 0]) := by decide
 obtain ⟨k1, k2⟩ := key ⟨k, h⟩
 show (bif Nat.ble k (k + 1) && Nat.ble (k + 1) hexT.length then some (AV.str ((hexT.take (k + 1)).drop k)) else none) = _
 rw [k1, k2]; rfl
theorem loopRHex {ns : List Int} {gl : Tr (Option AV)} (hL : ns.length < 100000) (hn : ∀ n ∈ ns, 0 <= n /\ n < 256) : ∀ (k i : Nat) (t : Tr AV) (H : Tr AO) (hs : Nat) (s : List UInt8), i + k = ns.length -> s.length <= 2 * i ->
  t.get .any 0 = .lst .no (ns.map encI) -> t.get .any 3 = .str s -> t.get .any 4 = .str [48, 49, 50, 51, 52, 53, 54, 55, 56, 57, 97, 98, 99, 100, 101, 102] -> t.get .any 5 = .lit (.int .i64 i) ->
  RetN (W tab none (fin tab fi88) (lpc fi88 0) (lpk fi88 0) ⟨t, 42, H, hs, [], ⟨true, true, gl⟩⟩) (.str (s ++ hexI (ns.drop i))) := by
 have D := d88
 simp only [stD, stC, List.cons.injEq, b88, Tryz.f88] at D
 simp only [stU, stC, b88, Tryz.f88]
 intro k
 induction k with
 | zero =>
  intro i t H hs s hi hsl a0 a3 a4 a5
  have e1 : decide ((i : Int) < ns.length) = false := dcF (by omega)
  rw [W_loop, List.drop_of_length_le (by omega)]
  simp (maxSteps := 2000000) only [sG, seval, x88, stU, b88, Tryz.f88, a0, a3, a4, a5, e1, hexI, List.append_nil, List.length_map]
 | succ k ih =>
  intro i t H hs s hi hsl a0 a3 a4 a5
  have hlt : i < (ns).length := by omega
  obtain ⟨x, hv, e1, e3, e4, e6, e7⟩ := atS hlt
  have e5 := wrap_succ (i := i) (by omega)
  obtain ⟨x0, x1⟩ := hn x (by rw [<- hv]; exact List.getElem_mem _)
  obtain ⟨b, rfl⟩ : ∃ b : Nat, x = (b : Int) := ⟨x.toNat, by omega⟩
  have hq : (b : Int).tdiv 16 = ((b / 16 : Nat) : Int) := by rw [Int.tdiv_eq_ediv_of_nonneg (by omega)]; omega
  have hr : (b : Int).tmod 16 = ((b % 16 : Nat) : Int) := by rw [Int.tmod_eq_emod_of_nonneg (by omega)]; omega
  have w0 : IntKind.u8.wrap ((b / 16 : Nat) : Int) = ((b / 16 : Nat) : Int) := by rw [IntKind.wrap_u8]; omega
  have w1 : IntKind.u8.wrap (((b / 16 : Nat) : Int) + 1) = ((b / 16 + 1 : Nat) : Int) := by rw [IntKind.wrap_u8]; omega
  have w2 : IntKind.u8.wrap (((b % 16 : Nat) : Int) + 1) = ((b % 16 + 1 : Nat) : Int) := by rw [IntKind.wrap_u8]; omega
  have p1 : decide ((0 : Int) <= ((b / 16 : Nat) : Int)) = true := dcT (by omega)
  have p2 : decide ((0 : Int) <= ((b / 16 + 1 : Nat) : Int)) = true := dcT (by omega)
  have p3 : decide ((0 : Int) <= ((b % 16 : Nat) : Int)) = true := dcT (by omega)
  have p4 : decide ((0 : Int) <= ((b % 16 + 1 : Nat) : Int)) = true := dcT (by omega)
  have s1 := slice16 (k := b / 16) (by omega)
  have s2 := slice16 (k := b % 16) (by omega)
  have as1 := fun p q => @addS p q s [hexc ((b / 16 : Nat) : Int)] (by simp; omega)
  have as2 := fun p q => @addS p q (s ++ [hexc ((b / 16 : Nat) : Int)]) [hexc ((b % 16 : Nat) : Int)] (by simp; omega)
  rw [W_loop, e6]
  rw [show s ++ hexI ((b : Int) :: ns.drop (i + 1)) = (s ++ [hexc ((b / 16 : Nat) : Int)] ++ [hexc ((b % 16 : Nat) : Int)]) ++ hexI (ns.drop (i + 1)) by simp [hexI]]
  simp (maxSteps := 2000000) only [sG, seval, x88, stU, b88, Tryz.f88, encI, a0, a3, a4, a5, e1, e3, e4, e5, lG, D, dSS, hq, hr, w0, w1, w2, p1, p2, p3, p4, s1, s2, as1, as2]
  apply ih (i + 1) _ _ _ _ (by omega) (by simp; omega)
  all_goals simp only [sG, seval, encI, a0, a3, a4, a5]
theorem eqRHex {m : Md} {ns : List Int} (hL : ns.length < 100000) (hn : ∀ n ∈ ns, 0 <= n /\ n < 256) : iso tab fi88 m [.lst .no (ns.map encI)] = some (.str (hexI ns)) := by
 refine iso_ret ?_
 have L := @loopRHex ns m.gl hL hn ns.length 0
 simp only [stU, stC, b88, Tryz.f88] at L
 simp (maxSteps := 2000000) only [sG, seval, x88, stU, b88, Tryz.f88, List.length_map]
 apply L _ _ _ [] (by simp) (by simp)
 all_goals simp only [sG, seval]
 all_goals try rfl
theorem cRHex {m : Md} {k1 : ATk} {ns : List Int} {H : Tr AO} {hs : Nat} (hL : ns.length < 100000) (hn : ∀ n ∈ ns, 0 <= n /\ n < 256) : callF tab (evw tab) m 88 [.lst k1 (ns.map encI)] H hs = some (.str (hexI ns), H, hs) :=
 callF_iso tcon rfl rfl (by simp only [bares, bare, bares_I, Bool.and_self]) (by simp only [nrms, nrm, nrms_I]; exact eqRHex hL hn)
def sN (s : List UInt8) (n : Int) : List UInt8 := s ++ 32 :: numT n
theorem sN_len (s : List UInt8) (n : Int) : (sN s n).length <= s.length + 32 := by
 have := numT_len n
 unfold sN; simp; omega
theorem eqNumS {m : Md} {s : List UInt8} {n : Int} (hs0 : s.length <= 1000000000) (hn : i64B n) : iso tab fi87 m [.str s, .lit (.int .i64 n)] = some (.str (sN s n)) := by
 refine iso_ret ?_
 have hl := numT_len n
 have c := fun m H hs => @cNum m n H hs hn
 have w : IntKind.i64.wrap n = n := wrap_i64 hn.1 hn.2
 have as1 := fun p q => @addS p q s [32] (by simp; omega)
 have as2 := fun p q => @addS p q (s ++ [32]) (numT n) (by simp; omega)
 have e : sN s n = (s ++ [32]) ++ numT n := by unfold sN; simp
 rw [e]
 simp (maxSteps := 2000000) only [sG, seval, x87, stU, b87, Tryz.f87, convIO, c, w, as1, as2]
theorem cNumS {m : Md} {s : List UInt8} {n : Int} {H : Tr AO} {hs : Nat} (hs0 : s.length <= 1000000000) (hn : i64B n) : callF tab (evw tab) m 87 [.str s, .lit (.int .i64 n)] H hs = some (.str (sN s n), H, hs) :=
 callF_iso tcon rfl rfl rfl (eqNumS hs0 hn)
end Go.Proofs.YtcledcfeddlomaaGreatDoor.Ev
namespace Go.Proofs.YtcledcfeddlomaaGreatDoor.Ev
open Go Go.Proofs.YtcledcfeddlomaaGreatDoor.Ev Go.Proofs Go.Proofs.YtcledcfeddlomaaGreatDoor Go.Proofs.YtcledcfeddlomaaGreatDoor.Tab
def tlW : List (List UInt8) -> List UInt8
 | [] => []
 | w :: l => 32 :: (w ++ tlW l)
theorem tlW_app : ∀ a b : List (List UInt8), tlW (a ++ b) = tlW a ++ tlW b
 | [], b => rfl
 | w :: a, b => by simp [tlW, tlW_app a b]
theorem joinS_tl (w : List UInt8) : ∀ l : List (List UInt8), joinS [32] (w :: l) = w ++ tlW l
 | [] => by simp [joinS, tlW]
 | a :: l => by rw [joinS, joinS_tl a l]; simp [tlW]
def scw (s : List UInt8) (c : Cd) : List UInt8 := bif decide (c.r = -1) then (sN (sN (sN s c.l) c.op) c.r ++ [32]) ++ hexI (packV c.v) else sN (sN (sN s c.l) c.op) c.r
theorem scw_eq (s : List UInt8) (c : Cd) : scw s c = s ++ tlW (cw c) := by
 unfold scw cw sN
 cases decide (c.r = -1) <;> simp [tlW]
variable {k : Int} {nm : List UInt8} {w : Int} {cs : List Cd} {ps : List (Int × Int)} {cl : List Int} {ag of : Int} {l r : Nd} {gl : Tr (Option AV)}
theorem loopOw2 (hc : cs.length < 100000) (hn : ∀ c ∈ cs, okC c) : ∀ (j i : Nat) (t : Tr AV) (H : Tr AO) (hs : Nat) (s : List UInt8), i + j = cs.length -> s.length <= 1000 + 1000 * i ->
  t.get .any 0 = encN (.mk 2 nm w cs ps cl ag of l r) -> t.get .any 4 = .str s -> t.get .any 5 = .lit (.int .i64 i) ->
  RetN (W tab none (fin tab fi46) (lpc fi46 0) (lpk fi46 0) ⟨t, 163, H, hs, [], ⟨true, true, gl⟩⟩) (.str (s ++ tlW (cwL (cs.drop i)))) := by
 have D := d46
 simp only [stD, stC, List.cons.injEq, b46, Tryz.f46] at D
 simp only [stU, stC, b46, Tryz.f46]
 intro j
 induction j with
 | zero =>
  intro i t H hs s hi hs0 a0 a4 a5
  have e1 : decide ((i : Int) < (cs).length) = false := dcF (by omega)
  rw [W_loop, List.drop_of_length_le (by omega), cwL, tlW, List.append_nil]
  simp (maxSteps := 4000000) only [sG, seval, x46, stU, b46, Tryz.f46, encN, ci, a0, a4, a5, e1, List.length_map]
 | succ j ih =>
  intro i t H hs s hi hs0 a0 a4 a5
  have hlt : i < (cs).length := by omega
  obtain ⟨c, hv, e1, e3, e4, e6, e7⟩ := atS hlt
  have e5 := wrap_succ (i := i) (by omega)
  obtain ⟨x0, x1, x2, x3⟩ := hn c (by rw [<- hv]; exact List.getElem_mem _)
  have l1 := sN_len s c.l
  have l2 := sN_len (sN s c.l) c.op
  have l3 := sN_len (sN (sN s c.l) c.op) c.r
  have c1 := fun m H hs => @cNumS m s c.l H hs (by omega) x0
  have c2 := fun m H hs => @cNumS m (sN s c.l) c.op H hs (by omega) x1
  have c3 := fun m H hs => @cNumS m (sN (sN s c.l) c.op) c.r H hs (by omega) x2
  rw [W_loop, e6, cwL, tlW_app, <- List.append_assoc, <- scw_eq]
  unfold scw
  cases hr : decide (c.r = -1) with
  | false =>
   simp (maxSteps := 4000000) only [sG, seval, x46, stU, b46, Tryz.f46, encN, encC, ci, Vl.cs, a0, a4, a5, e1, e3, e4, e5, lG, D, c1, c2, c3, hr, cond_false]
   apply ih (i + 1) _ _ _ _ (by omega) (by omega)
   all_goals simp only [sG, seval, encN, ci, a0, a4, a5]
  | true =>
   have hv3 := x3 (of_decide_eq_true hr)
   have cP := fun m H hs => @cRPackV m c.v H hs hv3
   have cH := fun m k1 H hs => @cRHex m k1 (packV c.v) H hs (by have := packV_len hv3; omega) (packV_rng c.v)
   simp only [encV, Vl.cs] at cP
   have hlen := packV_len hv3
   have hx := hexI_len (packV c.v)
   have as1 := fun p q => @addS p q (sN (sN (sN s c.l) c.op) c.r) [32] (by simp; omega)
   have as2 := fun p q => @addS p q (sN (sN (sN s c.l) c.op) c.r ++ [32]) (hexI (packV c.v)) (by simp; omega)
   simp (maxSteps := 4000000) only [sG, seval, x46, stU, b46, Tryz.f46, encN, encC, ci, Vl.cs, a0, a4, a5, e1, e3, e4, e5, lG, D, c1, c2, c3, hr, cP, cH, as1, as2, bares_I, nrms_I, cond_true]
   apply ih (i + 1) _ _ _ _ (by omega) (by simp; omega)
   all_goals simp only [sG, seval, encN, ci, a0, a4, a5]
theorem loopOw3 (hp : ps.length < 100000) (hn : ∀ p ∈ ps, i64B p.1 /\ i64B p.2) : ∀ (j i : Nat) (t : Tr AV) (H : Tr AO) (hs : Nat) (s : List UInt8), i + j = ps.length -> s.length <= 1000 + 1000 * i ->
  t.get .any 0 = encN (.mk 3 nm w cs ps cl ag of l r) -> t.get .any 4 = .str s -> t.get .any 7 = .lit (.int .i64 i) ->
  RetN (W tab none (fin tab fi46) (lpc fi46 1) (lpk fi46 1) ⟨t, 163, H, hs, [], ⟨true, true, gl⟩⟩) (.str (s ++ tlW (pwL (ps.drop i)))) := by
 have D := d46
 simp only [stD, stC, List.cons.injEq, b46, Tryz.f46] at D
 simp only [stU, stC, b46, Tryz.f46]
 intro j
 induction j with
 | zero =>
  intro i t H hs s hi hs0 a0 a4 a7
  have e1 : decide ((i : Int) < (ps).length) = false := dcF (by omega)
  rw [W_loop, List.drop_of_length_le (by omega), pwL, tlW, List.append_nil]
  simp (maxSteps := 4000000) only [sG, seval, x46, stU, b46, Tryz.f46, encN, ci, a0, a4, a7, e1, List.length_map]
 | succ j ih =>
  intro i t H hs s hi hs0 a0 a4 a7
  have hlt : i < (ps).length := by omega
  obtain ⟨c, hv, e1, e3, e4, e6, e7⟩ := atS hlt
  have e5 := wrap_succ (i := i) (by omega)
  obtain ⟨x0, x1⟩ := hn c (by rw [<- hv]; exact List.getElem_mem _)
  have l1 := sN_len s c.1
  have l2 := sN_len (sN s c.1) c.2
  have c1 := fun m H hs => @cNumS m s c.1 H hs (by omega) x0
  have c2 := fun m H hs => @cNumS m (sN s c.1) c.2 H hs (by omega) x1
  rw [W_loop, e6, show s ++ tlW (pwL (c :: ps.drop (i + 1))) = sN (sN s c.1) c.2 ++ tlW (pwL (ps.drop (i + 1))) by simp [pwL, tlW, sN]]
  simp (maxSteps := 4000000) only [sG, seval, x46, stU, b46, Tryz.f46, encN, encPr, ci, a0, a4, a7, e1, e3, e4, e5, lG, D, c1, c2]
  apply ih (i + 1) _ _ _ _ (by omega) (by omega)
  all_goals simp only [sG, seval, encN, ci, a0, a4, a7]
theorem loopOw4 (hp : ps.length < 100000) (hn : ∀ p ∈ ps, i64B p.1 /\ i64B p.2) : ∀ (j i : Nat) (t : Tr AV) (H : Tr AO) (hs : Nat) (s : List UInt8), i + j = ps.length -> s.length <= 1000 + 1000 * i ->
  t.get .any 0 = encN (.mk 4 nm w cs ps cl ag of l r) -> t.get .any 4 = .str s -> t.get .any 7 = .lit (.int .i64 i) ->
  RetN (W tab none (fin tab fi46) (lpc fi46 1) (lpk fi46 1) ⟨t, 163, H, hs, [], ⟨true, true, gl⟩⟩) (.str (s ++ tlW (pwL (ps.drop i)))) := by
 have D := d46
 simp only [stD, stC, List.cons.injEq, b46, Tryz.f46] at D
 simp only [stU, stC, b46, Tryz.f46]
 intro j
 induction j with
 | zero =>
  intro i t H hs s hi hs0 a0 a4 a7
  have e1 : decide ((i : Int) < (ps).length) = false := dcF (by omega)
  rw [W_loop, List.drop_of_length_le (by omega), pwL, tlW, List.append_nil]
  simp (maxSteps := 4000000) only [sG, seval, x46, stU, b46, Tryz.f46, encN, ci, a0, a4, a7, e1, List.length_map]
 | succ j ih =>
  intro i t H hs s hi hs0 a0 a4 a7
  have hlt : i < (ps).length := by omega
  obtain ⟨c, hv, e1, e3, e4, e6, e7⟩ := atS hlt
  have e5 := wrap_succ (i := i) (by omega)
  obtain ⟨x0, x1⟩ := hn c (by rw [<- hv]; exact List.getElem_mem _)
  have l1 := sN_len s c.1
  have l2 := sN_len (sN s c.1) c.2
  have c1 := fun m H hs => @cNumS m s c.1 H hs (by omega) x0
  have c2 := fun m H hs => @cNumS m (sN s c.1) c.2 H hs (by omega) x1
  rw [W_loop, e6, show s ++ tlW (pwL (c :: ps.drop (i + 1))) = sN (sN s c.1) c.2 ++ tlW (pwL (ps.drop (i + 1))) by simp [pwL, tlW, sN]]
  simp (maxSteps := 4000000) only [sG, seval, x46, stU, b46, Tryz.f46, encN, encPr, ci, a0, a4, a7, e1, e3, e4, e5, lG, D, c1, c2]
  apply ih (i + 1) _ _ _ _ (by omega) (by omega)
  all_goals simp only [sG, seval, encN, ci, a0, a4, a7]
theorem loopOw5 (hc : cl.length < 100000) (hn : ∀ n ∈ cl, i64B n) : ∀ (j i : Nat) (t : Tr AV) (H : Tr AO) (hs : Nat) (s : List UInt8), i + j = cl.length -> s.length <= 1000 + 1000 * i ->
  t.get .any 0 = encN (.mk 5 nm w cs ps cl ag of l r) -> t.get .any 4 = .str s -> t.get .any 8 = .lit (.int .i64 i) ->
  RetN (W tab none (fin tab fi46) (lpc fi46 2) (lpk fi46 2) ⟨t, 163, H, hs, [], ⟨true, true, gl⟩⟩) (.str (s ++ tlW ((cl.drop i).map numT))) := by
 have D := d46
 simp only [stD, stC, List.cons.injEq, b46, Tryz.f46] at D
 simp only [stU, stC, b46, Tryz.f46]
 intro j
 induction j with
 | zero =>
  intro i t H hs s hi hs0 a0 a4 a8
  have e1 : decide ((i : Int) < (cl).length) = false := dcF (by omega)
  rw [W_loop, List.drop_of_length_le (by omega), List.map_nil, tlW, List.append_nil]
  simp (maxSteps := 4000000) only [sG, seval, x46, stU, b46, Tryz.f46, encN, ci, a0, a4, a8, e1, List.length_map]
 | succ j ih =>
  intro i t H hs s hi hs0 a0 a4 a8
  have hlt : i < (cl).length := by omega
  obtain ⟨c, hv, e1, e3, e4, e6, e7⟩ := atS hlt
  have e5 := wrap_succ (i := i) (by omega)
  have x0 := hn c (by rw [<- hv]; exact List.getElem_mem _)
  have l1 := sN_len s c
  have c1 := fun m H hs => @cNumS m s c H hs (by omega) x0
  rw [W_loop, e6, show s ++ tlW ((c :: cl.drop (i + 1)).map numT) = sN s c ++ tlW ((cl.drop (i + 1)).map numT) by simp [tlW, sN]]
  simp (maxSteps := 4000000) only [sG, seval, x46, stU, b46, Tryz.f46, encN, ci, a0, a4, a8, e1, e3, e4, e5, lG, D, c1]
  apply ih (i + 1) _ _ _ _ (by omega) (by omega)
  all_goals simp only [sG, seval, encN, ci, a0, a4, a8]
theorem loopOw7 (hc : cl.length < 100000) (hn : ∀ n ∈ cl, i64B n) (ha : i64B ag) (ho : i64B of) : ∀ (j i : Nat) (t : Tr AV) (H : Tr AO) (hs : Nat) (s : List UInt8), i + j = cl.length -> s.length <= 1000 + 1000 * i ->
  t.get .any 0 = encN (.mk 7 nm w cs ps cl ag of l r) -> t.get .any 4 = .str s -> t.get .any 8 = .lit (.int .i64 i) ->
  RetN (W tab none (fin tab fi46) (lpc fi46 2) (lpk fi46 2) ⟨t, 163, H, hs, [], ⟨true, true, gl⟩⟩) (.str (s ++ tlW ((cl.drop i).map numT ++ [numT ag, numT of]))) := by
 have D := d46
 simp only [stD, stC, List.cons.injEq, b46, Tryz.f46] at D
 simp only [stU, stC, b46, Tryz.f46]
 intro j
 induction j with
 | zero =>
  intro i t H hs s hi hs0 a0 a4 a8
  have e1 : decide ((i : Int) < (cl).length) = false := dcF (by omega)
  rw [W_loop, List.drop_of_length_le (by omega), List.map_nil, List.nil_append]
  have l1 := sN_len s ag
  have c1 := fun m H hs => @cNumS m s ag H hs (by omega) ha
  have c2 := fun m H hs => @cNumS m (sN s ag) of H hs (by omega) ho
  rw [show s ++ tlW [numT ag, numT of] = sN (sN s ag) of by simp [tlW, sN]]
  simp (maxSteps := 4000000) only [sG, seval, x46, stU, b46, Tryz.f46, encN, ci, a0, a4, a8, e1, D, c1, c2, List.length_map]
 | succ j ih =>
  intro i t H hs s hi hs0 a0 a4 a8
  have hlt : i < (cl).length := by omega
  obtain ⟨c, hv, e1, e3, e4, e6, e7⟩ := atS hlt
  have e5 := wrap_succ (i := i) (by omega)
  have x0 := hn c (by rw [<- hv]; exact List.getElem_mem _)
  have l1 := sN_len s c
  have c1 := fun m H hs => @cNumS m s c H hs (by omega) x0
  rw [W_loop, e6, show s ++ tlW ((c :: cl.drop (i + 1)).map numT ++ [numT ag, numT of]) = sN s c ++ tlW ((cl.drop (i + 1)).map numT ++ [numT ag, numT of]) by simp [tlW, sN]]
  simp (maxSteps := 4000000) only [sG, seval, x46, stU, b46, Tryz.f46, encN, ci, a0, a4, a8, e1, e3, e4, e5, lG, D, c1]
  apply ih (i + 1) _ _ _ _ (by omega) (by omega)
  all_goals simp only [sG, seval, encN, ci, a0, a4, a8]
theorem eqOw1 {m : Md} (hn : nm.length <= 1000) (h : okW 1 w cs ps cl ag of) : iso tab fi46 m [encN (.mk 1 nm w cs ps cl ag of l r)] = some (.str (kw 1 ++ tlW (ownX 1 nm w cs ps cl ag of))) := by
 have D := d46
 simp only [stD, stC, List.cons.injEq, b46, Tryz.f46] at D
 obtain ⟨hk, h1, h2, h3, h4, h5, h6, h7, h8, h9⟩ := h
 refine iso_ret ?_
 have as1 := fun p q => @addS p q [115, 99, 97, 110] [32] (by decide)
 have as2 := fun p q => @addS p q ([115, 99, 97, 110] ++ [32]) nm (by simp; omega)
 have c1 := fun m H hs => @cNumS m (([115, 99, 97, 110] ++ [32]) ++ nm) w H hs (by simp; omega) h1
 rw [show kw 1 ++ tlW (ownX 1 nm w cs ps cl ag of) = sN (([115, 99, 97, 110] ++ [32]) ++ nm) w by simp [kw, ownX, tlW, sN]]
 simp only [List.cons_append, List.nil_append] at as1 as2 c1 ⊢
 simp (maxSteps := 4000000) only [sG, seval, x46, stU, b46, Tryz.f46, encN, ci, D, as1, as2, c1]
theorem eqOw6 {m : Md} (hn : nm.length <= 1000) (h : okW 6 w cs ps cl ag of) : iso tab fi46 m [encN (.mk 6 nm w cs ps cl ag of l r)] = some (.str (kw 6 ++ tlW (ownX 6 nm w cs ps cl ag of))) := by
 have D := d46
 simp only [stD, stC, List.cons.injEq, b46, Tryz.f46] at D
 obtain ⟨hk, h1, h2, h3, h4, h5, h6, h7, h8, h9⟩ := h
 refine iso_ret ?_
 rw [show kw 6 ++ tlW (ownX 6 nm w cs ps cl ag of) = [111, 110, 99, 101] by rfl]
 simp (maxSteps := 4000000) only [sG, seval, x46, stU, b46, Tryz.f46, encN, ci, D]
theorem eqOw2 {m : Md} (hn : nm.length <= 1000) (h : okW 2 w cs ps cl ag of) : iso tab fi46 m [encN (.mk 2 nm w cs ps cl ag of l r)] = some (.str (kw 2 ++ tlW (ownX 2 nm w cs ps cl ag of))) := by
 have D := d46
 simp only [stD, stC, List.cons.injEq, b46, Tryz.f46] at D
 obtain ⟨hk, h1, h2, h3, h4, h5, h6, h7, h8, h9⟩ := h
 refine iso_ret ?_
 have L := @loopOw2 nm w cs ps cl ag of l r m.gl h4 (h7 rfl) cs.length 0
 simp only [stU, stC, b46, Tryz.f46, List.drop_zero] at L
 have c1 := fun m H hs => @cNumS m [119, 104, 101, 114, 101] (cs.length : Int) H hs (by decide) ⟨by omega, by omega⟩
 have l1 := sN_len [119, 104, 101, 114, 101] (cs.length : Int)
 rw [show kw 2 ++ tlW (ownX 2 nm w cs ps cl ag of) = sN [119, 104, 101, 114, 101] (cs.length : Int) ++ tlW (cwL cs) by simp [kw, ownX, tlW, sN]]
 simp (maxSteps := 4000000) only [sG, seval, x46, stU, b46, Tryz.f46, encN, ci, D, c1, List.length_map]
 apply L _ _ _ _ (by trivial) (by simp only [List.length_cons, List.length_nil] at l1; omega)
 all_goals simp only [sG, seval, encN, ci]
 all_goals try rfl
theorem eqOw3 {m : Md} (hn : nm.length <= 1000) (h : okW 3 w cs ps cl ag of) : iso tab fi46 m [encN (.mk 3 nm w cs ps cl ag of l r)] = some (.str (kw 3 ++ tlW (ownX 3 nm w cs ps cl ag of))) := by
 have D := d46
 simp only [stD, stC, List.cons.injEq, b46, Tryz.f46] at D
 obtain ⟨hk, h1, h2, h3, h4, h5, h6, h7, h8, h9⟩ := h
 refine iso_ret ?_
 have L := @loopOw3 nm w cs ps cl ag of l r m.gl h5 h8 ps.length 0
 simp only [stU, stC, b46, Tryz.f46, List.drop_zero] at L
 have c1 := fun m H hs => @cNumS m [109, 101, 101, 116] (ps.length : Int) H hs (by decide) ⟨by omega, by omega⟩
 have l1 := sN_len [109, 101, 101, 116] (ps.length : Int)
 rw [show kw 3 ++ tlW (ownX 3 nm w cs ps cl ag of) = sN [109, 101, 101, 116] (ps.length : Int) ++ tlW (pwL ps) by simp [kw, ownX, tlW, sN]]
 simp (maxSteps := 4000000) only [sG, seval, x46, stU, b46, Tryz.f46, encN, ci, D, c1, List.length_map]
 apply L _ _ _ _ (by trivial) (by simp only [List.length_cons, List.length_nil] at l1; omega)
 all_goals simp only [sG, seval, encN, ci]
 all_goals try rfl
theorem eqOw4 {m : Md} (hn : nm.length <= 1000) (h : okW 4 w cs ps cl ag of) : iso tab fi46 m [encN (.mk 4 nm w cs ps cl ag of l r)] = some (.str (kw 4 ++ tlW (ownX 4 nm w cs ps cl ag of))) := by
 have D := d46
 simp only [stD, stC, List.cons.injEq, b46, Tryz.f46] at D
 obtain ⟨hk, h1, h2, h3, h4, h5, h6, h7, h8, h9⟩ := h
 refine iso_ret ?_
 have L := @loopOw4 nm w cs ps cl ag of l r m.gl h5 h8 ps.length 0
 simp only [stU, stC, b46, Tryz.f46, List.drop_zero] at L
 have c1 := fun m H hs => @cNumS m [109, 105, 115, 115] (ps.length : Int) H hs (by decide) ⟨by omega, by omega⟩
 have l1 := sN_len [109, 105, 115, 115] (ps.length : Int)
 rw [show kw 4 ++ tlW (ownX 4 nm w cs ps cl ag of) = sN [109, 105, 115, 115] (ps.length : Int) ++ tlW (pwL ps) by simp [kw, ownX, tlW, sN]]
 simp (maxSteps := 4000000) only [sG, seval, x46, stU, b46, Tryz.f46, encN, ci, D, c1, List.length_map]
 apply L _ _ _ _ (by trivial) (by simp only [List.length_cons, List.length_nil] at l1; omega)
 all_goals simp only [sG, seval, encN, ci]
 all_goals try rfl
theorem eqOw5 {m : Md} (hn : nm.length <= 1000) (h : okW 5 w cs ps cl ag of) : iso tab fi46 m [encN (.mk 5 nm w cs ps cl ag of l r)] = some (.str (kw 5 ++ tlW (ownX 5 nm w cs ps cl ag of))) := by
 have D := d46
 simp only [stD, stC, List.cons.injEq, b46, Tryz.f46] at D
 obtain ⟨hk, h1, h2, h3, h4, h5, h6, h7, h8, h9⟩ := h
 refine iso_ret ?_
 have L := @loopOw5 nm w cs ps cl ag of l r m.gl h6 h9 cl.length 0
 simp only [stU, stC, b46, Tryz.f46, List.drop_zero] at L
 have c1 := fun m H hs => @cNumS m [116, 97, 107, 101] (cl.length : Int) H hs (by decide) ⟨by omega, by omega⟩
 have l1 := sN_len [116, 97, 107, 101] (cl.length : Int)
 rw [show kw 5 ++ tlW (ownX 5 nm w cs ps cl ag of) = sN [116, 97, 107, 101] (cl.length : Int) ++ tlW (cl.map numT) by simp [kw, ownX, tlW, sN]]
 simp (maxSteps := 4000000) only [sG, seval, x46, stU, b46, Tryz.f46, encN, ci, D, c1, List.length_map]
 apply L _ _ _ _ (by trivial) (by simp only [List.length_cons, List.length_nil] at l1; omega)
 all_goals simp only [sG, seval, encN, ci]
 all_goals try rfl
theorem eqOw7 {m : Md} (hn : nm.length <= 1000) (h : okW 7 w cs ps cl ag of) : iso tab fi46 m [encN (.mk 7 nm w cs ps cl ag of l r)] = some (.str (kw 7 ++ tlW (ownX 7 nm w cs ps cl ag of))) := by
 have D := d46
 simp only [stD, stC, List.cons.injEq, b46, Tryz.f46] at D
 obtain ⟨hk, h1, h2, h3, h4, h5, h6, h7, h8, h9⟩ := h
 refine iso_ret ?_
 have L := @loopOw7 nm w cs ps cl ag of l r m.gl h6 h9 h2 h3 cl.length 0
 simp only [stU, stC, b46, Tryz.f46, List.drop_zero] at L
 have c1 := fun m H hs => @cNumS m [103, 114, 111, 117, 112] (cl.length : Int) H hs (by decide) ⟨by omega, by omega⟩
 have l1 := sN_len [103, 114, 111, 117, 112] (cl.length : Int)
 rw [show kw 7 ++ tlW (ownX 7 nm w cs ps cl ag of) = sN [103, 114, 111, 117, 112] (cl.length : Int) ++ tlW (cl.map numT ++ [numT ag, numT of]) by simp [kw, ownX, tlW, sN]]
 simp (maxSteps := 4000000) only [sG, seval, x46, stU, b46, Tryz.f46, encN, ci, D, c1, List.length_map]
 apply L _ _ _ _ (by trivial) (by simp only [List.length_cons, List.length_nil] at l1; omega)
 all_goals simp only [sG, seval, encN, ci]
 all_goals try rfl
theorem cOwn {m : Md} {H : Tr AO} {hs : Nat} (hn : nm.length <= 1000) (h : okW k w cs ps cl ag of) : callF tab (evw tab) m 46 [encN (.mk k nm w cs ps cl ag of l r)] H hs = some (.str (kw k ++ tlW (ownX k nm w cs ps cl ag of)), H, hs) := by
 refine callF_iso tcon rfl rfl (by simp only [bares, bare_N]; rfl) ?_
 simp only [nrms, nrm_N]
 have hk := h.1
 rcases hk with rfl | rfl | rfl | rfl | rfl | rfl | rfl
 ·exact eqOw1 hn h
 ·exact eqOw2 hn h
 ·exact eqOw3 hn h
 ·exact eqOw4 hn h
 ·exact eqOw5 hn h
 ·exact eqOw6 hn h
 ·exact eqOw7 hn h
end Go.Proofs.YtcledcfeddlomaaGreatDoor.Ev
namespace Go.Proofs.YtcledcfeddlomaaGreatDoor.Ev
open Go Go.Proofs.YtcledcfeddlomaaGreatDoor.Ev Go.Proofs Go.Proofs.YtcledcfeddlomaaGreatDoor Go.Proofs.YtcledcfeddlomaaGreatDoor.Tab
theorem tl_join {ws : List (List UInt8)} (h : ws ≠ []) : tlW ws = 32 :: joinS [32] ws := by
 cases ws with
 | nil => exact (h rfl).elim
 | cons w l => rw [joinS_tl]; rfl
def jT (n : Nd) : List UInt8 := joinS [32] (textN n)
theorem jT_len {n : Nd} (he : eachB n = true) (hs : smallN n) (hc : cntN n <= 1000) : (jT n).length <= 200000000 := by
 have h1 := textN_len hs
 have h2 := joinS_len [32] (B := 400) (textN n) (fun w h => (textN_ok he hs w h).2)
 unfold jT
 simp only [List.length_cons, List.length_nil] at h2
 omega
theorem jT_mk {k : Int} {nm : List UInt8} {w : Int} {cs : List Cd} {ps : List (Int × Int)} {cl : List Int} {ag of : Int} {l r : Nd} : jT (.mk k nm w cs ps cl ag of l r) = (kw k ++ tlW (ownX k nm w cs ps cl ag of)) ++ (tlW (textN l) ++ tlW (textN r)) := by
 unfold jT
 rw [textN, ownW_kw, List.cons_append, joinS_tl, tlW_app, tlW_app]
 simp
theorem eqRText : ∀ (n : Nd) (m : Md), n ≠ .nil -> eachB n = true -> okNd n -> smallN n -> cntN n <= 1000 -> iso tab fi28 m [encN n] = some (.str (jT n)) := by
 intro n
 induction n with
 | nil => intro m h; exact (h rfl).elim
 | mk k nm w cs ps cl ag of l r ihl ihr =>
  intro m _ he ho hs hc
  have c0 := fun m H hs => @cOwn k nm w cs ps cl ag of l r m H hs (by have := ‹smallN (.mk k nm w cs ps cl ag of l r)›.1; omega) (okW_of he ho (by assumption))
  have hlen := jT_len he hs hc
  rw [jT_mk] at hlen ⊢
  obtain ⟨el, er, ba, ka, ca, na⟩ := each_inv he
  obtain ⟨o1, o2, o3, o4, o5, o6, o7, ol, or⟩ := ho
  obtain ⟨s1, s2, s3, s4, sl, sr⟩ := hs
  have hc' : 1 + cntN l + cntN r <= 1000 := hc
  have c1 : l ≠ .nil -> ∀ m' H hs, callF tab (evw tab) m' 28 [encN l] H hs = some (.str (jT l), H, hs) := fun hn m' H hs =>
   callF_iso tcon rfl rfl (by simp only [bares, bare_N]; rfl) (by simp only [nrms, nrm_N]; exact ihl m' hn el ol sl (by omega))
  have c2 : r ≠ .nil -> ∀ m' H hs, callF tab (evw tab) m' 28 [encN r] H hs = some (.str (jT r), H, hs) := fun hn m' H hs =>
   callF_iso tcon rfl rfl (by simp only [bares, bare_N]; rfl) (by simp only [nrms, nrm_N]; exact ihr m' hn er or sr (by omega))
  simp only [encN] at c0
  generalize hX : kw k ++ tlW (ownX k nm w cs ps cl ag of) = X at c0 hlen ⊢
  rw [List.length_append, List.length_append] at hlen
  refine iso_ret ?_
  have hlz : isNil l = true -> tlW (textN l) = [] := fun h => by rw [isNil_iff.1 h]; rfl
  have hrz : isNil r = true -> tlW (textN r) = [] := fun h => by rw [isNil_iff.1 h]; rfl
  have hln : isNil l = false -> tlW (textN l) = 32 :: jT l := fun h => tl_join (textN_ne (isNil_not.1 h))
  have hrn : isNil r = false -> tlW (textN r) = 32 :: jT r := fun h => tl_join (textN_ne (isNil_not.1 h))
  have as1 := fun p q => @addS p q X [32] (by simp; omega)
  cases hl : isNil l with
  | true =>
   rw [hlz hl, List.nil_append]
   cases hr : isNil r with
   | true =>
    rw [hrz hr, List.append_nil]
    simp (maxSteps := 4000000) only [sG, seval, x28, stU, b28, Tryz.f28, encN, dN, pnF, c0, hl, hr, Bool.not_true]
   | false =>
    rw [hrn hr] at hlen ⊢
    have c2 := c2 (isNil_not.1 hr)
    have as2 := fun p q => @addS p q (X ++ [32]) (jT r) (by simp at hlen ⊢; omega)
    rw [show X ++ 32 :: jT r = (X ++ [32]) ++ jT r by simp]
    simp (maxSteps := 4000000) only [sG, seval, x28, stU, b28, Tryz.f28, encN, dN, pnF, c0, c2, hl, hr, as1, as2, Bool.not_true, Bool.not_false]
  | false =>
   rw [hln hl] at hlen ⊢
   have c1 := c1 (isNil_not.1 hl)
   have as2 := fun p q => @addS p q (X ++ [32]) (jT l) (by simp at hlen ⊢; omega)
   cases hr : isNil r with
   | true =>
    rw [hrz hr, List.append_nil]
    rw [show X ++ 32 :: jT l = (X ++ [32]) ++ jT l by simp]
    simp (maxSteps := 4000000) only [sG, seval, x28, stU, b28, Tryz.f28, encN, dN, pnF, c0, c1, hl, hr, as1, as2, Bool.not_true, Bool.not_false]
   | false =>
    rw [hrn hr] at hlen ⊢
    have c2 := c2 (isNil_not.1 hr)
    have as3 := fun p q => @addS p q ((X ++ [32]) ++ jT l) [32] (by simp at hlen ⊢; omega)
    have as4 := fun p q => @addS p q (((X ++ [32]) ++ jT l) ++ [32]) (jT r) (by simp at hlen ⊢; omega)
    rw [show X ++ (32 :: jT l ++ 32 :: jT r) = (((X ++ [32]) ++ jT l) ++ [32]) ++ jT r by simp]
    simp (maxSteps := 4000000) only [sG, seval, x28, stU, b28, Tryz.f28, encN, dN, pnF, c0, c1, c2, hl, hr, as1, as2, as3, as4, Bool.not_false]
theorem cRText {n : Nd} {m : Md} {H : Tr AO} {hs : Nat} (hn : n ≠ .nil) (he : eachB n = true) (ho : okNd n) (hs' : smallN n) (hc : cntN n <= 1000) : callF tab (evw tab) m 28 [encN n] H hs = some (.str (jT n), H, hs) :=
 callF_iso tcon rfl rfl (by simp only [bares, bare_N]; rfl) (by simp only [nrms, nrm_N]; exact eqRText n m hn he ho hs' hc)
theorem eqRKey {n : Nd} {m : Md} (ho : okNd n) (hs' : smallN n) (hc : cntN n <= 1000) : iso tab fi13 m [encN n] = some (.str (keyN n)) := by
 refine iso_ret ?_
 have c1 := fun m H hs => @cRRightN m n H hs hs'.short
 rw [right_eq] at c1
 unfold keyN
 cases hr : rightN n with
 | false =>
  simp only [hr] at c1
  simp (maxSteps := 4000000) only [sG, seval, x13, stU, b13, Tryz.f13, dN, c1, cond_false, Bool.not_false]
 | true =>
  simp only [hr] at c1
  obtain ⟨hn, he⟩ := right_inv hr
  have c2 := fun m H hs => @cRText n m H hs hn he ho hs' hc
  simp only [jT] at c2
  simp (maxSteps := 4000000) only [sG, seval, x13, stU, b13, Tryz.f13, dN, c1, c2, cond_true, Bool.not_true]
end Go.Proofs.YtcledcfeddlomaaGreatDoor.Ev
