import Derived.Test.YtancionamhenmaaGreatEvQ4
import Derived.KernelRfl
import Derived.Test.YtancionamhenmaaGreatTabB
import Derived.Test.YtancionamhenmaaGreatP5
set_option linter.all false
set_option maxRecDepth 100000
set_option maxHeartbeats 4000000
namespace Go.Proofs.YtancionamhenmaaGreat.Ev
open Go Go.Proofs.YtancionamhenmaaGreat.Ev Go.Proofs Go.Proofs.YtancionamhenmaaGreat Go.Proofs.YtancionamhenmaaGreat.Tab
theorem fx (i : FI) (n r l t) (h : i.ntmps = n) (h1 : i.results = r) (h2 : i.lm = l) (h3 : i.rts = t) : i.ntmps = n /\ i.results = r /\ i.lm = l /\ i.rts = t := ⟨h, h1, h2, h3⟩
theorem fb (i : FI) (f : Func) (h : i.body = bodyOf f) : i.body = bodyOf f := h
theorem xI : (lInf tab 22 = some 1) /\ (lInf tab 23 = some 1) /\ (eInf tab 23 = some (2, 48, true, (.agg [(.lit (.slice none 0 0)), (.lit (.slice none 0 0))]))) /\ (fInf tab 37 0 = some (0, 1, false)) /\ (tInf tab 33 = some (1, false)) /\ (fInf tab 37 1 = some (1, 1, false)) /\ (lInf tab 33 = some 1) /\ (eInf tab 33 = some (2, 32, true, (.agg [(.lit (.slice none 0 0)), (.lit (.int .i64 (0)))]))) /\ (fInf tab 45 0 = some (0, 1, false)) /\ (tInf tab 43 = some (1, false)) /\ (lInf tab 43 = some 1) /\ (eInf tab 22 = some (2, 16, true, (.agg [(.lit (.int .i64 (0))), (.lit (.int .i64 (0)))]))) /\ (tInf tab 50 = some (2, true)) /\ (cInf tab 50 = some [(.lit (.int .i64 (0))), (.lit (.int .i64 (0)))]) /\ (fInf tab 50 0 = some (0, 1, false)) /\ (tInf tab 3 = some (1, false)) /\ (eInf tab 48 = some (1, 8, false, (.lit (.int .i64 (0))))) /\ (lInf tab 48 = some 1) /\ (fInf tab 50 1 = some (1, 1, false)) /\ (zInf tab 57 = some ([(0, 1), (1, 1), (2, 1)], [(.lit (.pointer none)), (.lit (.pointer none)), (.lit (.pointer none))])) /\ (zInf tab 61 = some ([(0, 1), (1, 1), (2, 1), (3, 1), (4, 1)], [(.lit (.int .i64 (0))), (.lit (.int .i64 (0))), (.lit (.slice none 0 0)), (.lit (.slice none 0 0)), (.lit (.slice none 0 0))])) /\ (fInf tab 57 0 = some (0, 1, false)) /\ (tInf tab 51 = some (1, false)) /\ (fInf tab 57 1 = some (1, 1, false)) /\ (eInf tab 65 = some (1, 8, false, (.lit .nilFunc))) /\ (lInf tab 65 = some 1) /\ (tInf tab 1 = some (1, false)) /\ (fInf tab 57 2 = some (2, 1, false)) /\ (tInf tab 54 = some (1, false)) /\ (tInf tab 61 = some (5, true)) /\ (fInf tab 45 1 = some (1, 1, false)) /\ (tInf tab 2 = some (1, false)) /\ (fInf tab 61 3 = some (3, 1, true)) /\ (fInf tab 59 0 = some (0, 1, false)) /\ (fInf tab 61 4 = some (4, 1, true)) /\ (fInf tab 61 2 = some (2, 1, false)) /\ (tInf tab 22 = some (1, false)) /\ (tInf tab 45 = some (2, true)) /\ (zInf tab 81 = some ([(0, 1), (1, 1), (2, 1), (3, 1)], [(.lit (.int .i64 (0))), (.lit (.slice none 0 0)), (.lit (.pointer none)), (.lit (.pointer none))])) /\ (zInf tab 84 = some ([(0, 1), (1, 1)], [(.lit (.pointer none)), (.lit (.int .i64 (0)))])) /\ (cInf tab 90 = some [(.lit .nilFunc)]) /\ (tInf tab 90 = some (1, false)) /\ (lInf tab 68 = some 1) /\ (eInf tab 68 = some (1, 24, false, (.lit (.slice none 0 0)))) /\ (cInf tab 45 = some [(.lit (.slice none 0 0)), (.lit (.int .i64 (0)))]) /\ (fInf tab 81 3 = some (3, 1, false)) /\ (tInf tab 77 = some (1, false)) /\ (cInf tab 33 = some [(.lit (.slice none 0 0))]) /\ (fInf tab 84 0 = some (0, 1, false)) /\ (tInf tab 82 = some (1, false)) /\ (fInf tab 102 0 = some (0, 2, true)) /\ (zInf tab 45 = some ([(0, 1), (1, 1)], [(.lit (.slice none 0 0)), (.lit (.int .i64 (0)))])) /\ (fInf tab 61 0 = some (0, 1, false)) /\ (fInf tab 61 1 = some (1, 1, false)) /\ (tInf tab 59 = some (1, true)) /\ (zInf tab 59 = some ([(0, 1)], [(.lit (.slice none 0 0))])) /\ (eInf tab 43 = some (4, 40, true, (.agg [(.lit (.int .i64 (0))), (.lit (.bool false)), (.lit (.int .i64 (0))), (.str [])]))) /\ (tInf tab 47 = some (4, true)) /\ (zInf tab 113 = some ([(0, 1), (1, 1), (2, 1)], [(.lit (.slice none 0 0)), (.lit (.map none)), (.lit (.int .i64 (0)))])) /\ (fInf tab 81 0 = some (0, 1, false)) /\ (fInf tab 81 2 = some (2, 1, false)) /\ (fInf tab 84 1 = some (1, 1, false)) /\ (fInf tab 113 0 = some (0, 1, false)) /\ (tInf tab 48 = some (1, false)) /\ (sInf tab 120 9 = true) /\ (fInf tab 113 1 = some (1, 1, false)) /\ (tInf tab 111 = some (1, false)) /\ (mInf tab 111 = some (.string, (.lit (.pointer none)))) /\ (fInf tab 113 2 = some (2, 1, false)) /\ (fInf tab 81 1 = some (1, 1, false)) /\ (fInf tab 47 0 = some (0, 1, false)) /\ (fInf tab 47 1 = some (1, 1, false)) /\ (tInf tab 4 = some (1, false)) /\ (fInf tab 47 2 = some (2, 1, false)) /\ (fInf tab 47 3 = some (3, 1, false)) /\ (tInf tab 9 = some (1, false)) /\ (fInf tab 102 1 = some (2, 1, false)) /\ (fInf tab 102 2 = some (3, 1, false)) /\ (zInf tab 102 = some ([(0, 2), (2, 1), (3, 1), (4, 1)], [(.lit (.slice none 0 0)), (.lit (.int .i64 (0))), (.lit (.pointer none)), (.lit (.pointer none)), (.lit (.int .i64 (0)))])) /\ (cInf tab 47 = some [(.lit (.int .i64 (0))), (.lit (.bool false)), (.lit (.int .i64 (0))), (.str [])]) /\ (eInf tab 120 = some (1, 1, false, (.lit (.int .u8 (0))))) /\ (lInf tab 120 = some 1) /\ (lInf tab 9 = some 0) /\ (nInf tab 2 147 = some .u64) /\ (nInf tab 147 5 = some .u8) /\ (zInf tab 47 = some ([(0, 1), (1, 1), (2, 1), (3, 1)], [(.lit (.int .i64 (0))), (.lit (.bool false)), (.lit (.int .i64 (0))), (.str [])])) /\ (fInf tab 102 3 = some (4, 1, false)) /\ (nInf tab 3 153 = some .u64) /\ (nInf tab 153 3 = some .i64) :=
 ⟨rfl, rfl, rfl, rfl, rfl, rfl, rfl, rfl, rfl, rfl, rfl, rfl, rfl, rfl, rfl, rfl, rfl, rfl, rfl, rfl, rfl, rfl, rfl, rfl, rfl, rfl, rfl, rfl, rfl, rfl, rfl, rfl, rfl, rfl, rfl, rfl, rfl, rfl, rfl, rfl, rfl, rfl, rfl, rfl, rfl, rfl, rfl, rfl, rfl, rfl, rfl, rfl, rfl, rfl, rfl, rfl, rfl, rfl, rfl, rfl, rfl, rfl, rfl, rfl, rfl, rfl, rfl, rfl, rfl, rfl, rfl, rfl, rfl, rfl, rfl, rfl, rfl, rfl, rfl, rfl, rfl, rfl, rfl, rfl, rfl, rfl, rfl, rfl, rfl⟩
theorem xF : (tab.n 3 = none) /\ (tab.f 3 = some fi3) /\ (tab.n 4 = none) /\ (tab.f 4 = some fi4) /\ (∀ l H hs, quietG tab 4 l H hs = bares l) /\ (tab.n 6 = none) /\ (tab.f 6 = some fi6) /\ (tab.n 7 = none) /\ (tab.f 7 = some fi7) /\ (tab.n 8 = none) /\ (tab.f 8 = some fi8) /\ (tab.n 9 = none) /\ (tab.f 9 = some fi9) /\ (tab.n 10 = none) /\ (tab.f 10 = some fi10) /\ (∀ l H hs, quietG tab 10 l H hs = bares l) /\ (tab.n 11 = none) /\ (tab.f 11 = some fi11) /\ (tab.n 12 = none) /\ (tab.f 12 = some fi12) /\ (tab.n 13 = none) /\ (tab.f 13 = some fi13) /\ (tab.n 14 = none) /\ (tab.f 14 = some fi14) /\ (tab.n 15 = none) /\ (tab.f 15 = some fi15) /\ (∀ l H hs, quietG tab 15 l H hs = bares l) /\ (tab.n 16 = none) /\ (tab.f 16 = some fi16) /\ (tab.n 17 = none) /\ (tab.f 17 = some fi17) /\ (tab.n 18 = none) /\ (tab.f 18 = some fi18) /\ (tab.n 19 = none) /\ (tab.f 19 = some fi19) /\ (tab.n 20 = none) /\ (tab.f 20 = some fi20) /\ (tab.n 21 = none) /\ (tab.f 21 = some fi21) /\ (tab.n 22 = none) /\ (tab.f 22 = some fi22) /\ (tab.n 23 = none) /\ (tab.f 23 = some fi23) /\ (tab.n 24 = none) /\ (tab.f 24 = some fi24) /\ (∀ l H hs, quietG tab 24 l H hs = bares l) /\ (tab.n 25 = none) /\ (tab.f 25 = some fi25) /\ (∀ l H hs, quietG tab 25 l H hs = bares l) /\ (tab.n 26 = none) /\ (tab.f 26 = some fi26) /\ (∀ l H hs, quietG tab 26 l H hs = bares l) /\ (tab.n 27 = none) /\ (tab.f 27 = some fi27) /\ (tab.n 28 = none) /\ (tab.f 28 = some fi28) /\ (tab.n 29 = none) /\ (tab.f 29 = some fi29) /\ (tab.n 30 = none) /\ (tab.f 30 = some fi30) /\ (tab.n 31 = none) /\ (tab.f 31 = some fi31) /\ (tab.n 32 = none) /\ (tab.f 32 = some fi32) /\ (tab.n 33 = none) /\ (tab.f 33 = some fi33) /\ (tab.n 34 = none) /\ (tab.f 34 = some fi34) /\ (∀ a0 a1 H hs, quietG tab 34 [a0, a1] H hs = true) /\ (tab.n 35 = none) /\ (tab.f 35 = some fi35) /\ (tab.n 36 = none) /\ (tab.f 36 = some fi36) /\ (tab.n 37 = none) /\ (tab.f 37 = some fi37) /\ (tab.n 38 = none) /\ (tab.f 38 = some fi38) /\ (tab.n 39 = none) /\ (tab.f 39 = some fi39) /\ (∀ a0 H hs, quietG tab 39 [a0] H hs = true) /\ (tab.n 40 = none) /\ (tab.f 40 = some fi40) /\ (tab.n 41 = none) /\ (tab.f 41 = some fi41) /\ (tab.n 42 = none) /\ (tab.f 42 = some fi42) /\ (∀ a0 a1 H hs, quietG tab 42 [a0, a1] H hs = true) /\ (tab.n 43 = none) /\ (tab.f 43 = some fi43) /\ (∀ l H hs, quietG tab 43 l H hs = bares l) /\ (tab.n 44 = none) /\ (tab.f 44 = some fi44) /\ (∀ l H hs, quietG tab 44 l H hs = true) /\ (tab.n 45 = none) /\ (tab.f 45 = some fi45) /\ (∀ a0 a1 a2 H hs, quietG tab 45 [a0, a1, a2] H hs = true) /\ (tab.n 46 = none) /\ (tab.f 46 = some fi46) /\ (tab.n 47 = none) /\ (tab.f 47 = some fi47) /\ (∀ l H hs, quietG tab 47 l H hs = bares l) /\ (tab.n 48 = none) /\ (tab.f 48 = some fi48) /\ (∀ l H hs, quietG tab 48 l H hs = bares l) /\ (tab.n 49 = none) /\ (tab.f 49 = some fi49) /\ (∀ l H hs, quietG tab 49 l H hs = bares l) /\ (tab.n 50 = none) /\ (tab.f 50 = some fi50) /\ (tab.n 51 = none) /\ (tab.f 51 = some fi51) /\ (tab.n 52 = none) /\ (tab.f 52 = some fi52) /\ (∀ l H hs, quietG tab 52 l H hs = bares l) /\ (tab.n 53 = none) /\ (tab.f 53 = some fi53) /\ (tab.n 54 = none) /\ (tab.f 54 = some fi54) /\ (tab.n 55 = none) /\ (tab.f 55 = some fi55) /\ (∀ l H hs, quietG tab 55 l H hs = bares l) /\ (tab.n 56 = none) /\ (tab.f 56 = some fi56) /\ (tab.n 57 = none) /\ (tab.f 57 = some fi57) /\ (∀ a0 a1 H hs, quietG tab 57 [a0, a1] H hs = true) /\ (tab.n 58 = none) /\ (tab.f 58 = some fi58) /\ (∀ l H hs, quietG tab 58 l H hs = bares l) /\ (tab.n 59 = none) /\ (tab.f 59 = some fi59) /\ (tab.n 60 = none) /\ (tab.f 60 = some fi60) /\ (tab.n 61 = none) /\ (tab.f 61 = some fi61) /\ (∀ l H hs, quietG tab 61 l H hs = bares l) /\ (tab.n 62 = none) /\ (tab.f 62 = some fi62) /\ (∀ l H hs, quietG tab 62 l H hs = bares l) /\ (tab.n 63 = none) /\ (tab.f 63 = some fi63) /\ (tab.n 64 = none) /\ (tab.f 64 = some fi64) /\ (tab.n 65 = none) /\ (tab.f 65 = some fi65) /\ (tab.n 66 = none) /\ (tab.f 66 = some fi66) /\ (∀ l H hs, quietG tab 66 l H hs = true) /\ (tab.n 67 = none) /\ (tab.f 67 = some fi67) /\ (tab.n 68 = none) /\ (tab.f 68 = some fi68) /\ (∀ l H hs, quietG tab 68 l H hs = bares l) /\ (tab.n 69 = none) /\ (tab.f 69 = some fi69) /\ (tab.n 70 = none) /\ (tab.f 70 = some fi70) /\ (tab.n 71 = none) /\ (tab.f 71 = some fi71) /\ (tab.n 72 = none) /\ (tab.f 72 = some fi72) /\ (tab.n 73 = none) /\ (tab.f 73 = some fi73) /\ (∀ a0 a1 H hs, quietG tab 73 [a0, a1] H hs = true) /\ (tab.n 74 = none) /\ (tab.f 74 = some fi74) /\ (∀ l H hs, quietG tab 74 l H hs = bares l) /\ (tab.n 75 = none) /\ (tab.f 75 = some fi75) /\ (∀ a0 H hs, quietG tab 75 [a0] H hs = true) /\ (tab.n 76 = none) /\ (tab.f 76 = some fi76) /\ (∀ a0 a1 H hs, quietG tab 76 [a0, a1] H hs = true) /\ (tab.n 77 = none) /\ (tab.f 77 = some fi77) /\ (∀ l H hs, quietG tab 77 l H hs = bares l) /\ (tab.n 78 = none) /\ (tab.f 78 = some fi78) /\ (∀ l H hs, quietG tab 78 l H hs = true) /\ (tab.n 79 = none) /\ (tab.f 79 = some fi79) /\ (tab.n 80 = none) /\ (tab.f 80 = some fi80) /\ (∀ l H hs, quietG tab 80 l H hs = bares l) /\ (tab.n 81 = none) /\ (tab.f 81 = some fi81) /\ (tab.n 82 = none) /\ (tab.f 82 = some fi82) /\ (∀ a0 H hs, quietG tab 82 [a0] H hs = true) /\ (tab.n 83 = none) /\ (tab.f 83 = some fi83) /\ (∀ l H hs, quietG tab 83 l H hs = bares l) /\ (tab.n 84 = none) /\ (tab.f 84 = some fi84) /\ (∀ l H hs, quietG tab 84 l H hs = bares l) /\ (tab.n 85 = none) /\ (tab.f 85 = some fi85) /\ (tab.n 86 = none) /\ (tab.f 86 = some fi86) /\ (∀ l H hs, quietG tab 86 l H hs = true) /\ (tab.n 87 = none) /\ (tab.f 87 = some fi87) /\ (∀ l H hs, quietG tab 87 l H hs = bares l) /\ (tab.n 88 = none) /\ (tab.f 88 = some fi88) /\ (∀ l H hs, quietG tab 88 l H hs = bares l) /\ (tab.n 89 = none) /\ (tab.f 89 = some fi89) /\ (∀ l H hs, quietG tab 89 l H hs = bares l) /\ (tab.n 90 = none) /\ (tab.f 90 = some fi90) /\ (∀ l H hs, quietG tab 90 l H hs = bares l) /\ (tab.n 91 = none) /\ (tab.f 91 = some fi91) /\ (∀ l H hs, quietG tab 91 l H hs = true) /\ (tab.n 92 = none) /\ (tab.f 92 = some fi92) /\ (∀ l H hs, quietG tab 92 l H hs = bares l) /\ (tab.n 93 = none) /\ (tab.f 93 = some fi93) /\ (∀ l H hs, quietG tab 93 l H hs = bares l) /\ (tab.n 94 = none) /\ (tab.f 94 = some fi94) /\ (∀ l H hs, quietG tab 94 l H hs = bares l) /\ (tab.n 95 = none) /\ (tab.f 95 = some fi95) /\ (∀ l H hs, quietG tab 95 l H hs = bares l) /\ (tab.n 96 = none) /\ (tab.f 96 = some fi96) /\ (tab.n 97 = none) /\ (tab.f 97 = some fi97) /\ (∀ a0 H hs, quietG tab 97 [a0] H hs = true) /\ (tab.n 98 = none) /\ (tab.f 98 = some fi98) /\ (tab.n 99 = none) /\ (tab.f 99 = some fi99) /\ (tab.n 100 = none) /\ (tab.f 100 = some fi100) /\ (tab.n 101 = none) /\ (tab.f 101 = some fi101) /\ (tab.n 102 = none) /\ (tab.f 102 = some fi102) /\ (∀ l H hs, quietG tab 102 l H hs = bares l) /\ (tab.n 103 = none) /\ (tab.f 103 = some fi103) /\ (∀ l H hs, quietG tab 103 l H hs = bares l) /\ (tab.n 104 = none) /\ (tab.f 104 = some fi104) /\ (∀ l H hs, quietG tab 104 l H hs = bares l) /\ (tab.n 105 = none) /\ (tab.f 105 = some fi105) /\ (∀ l H hs, quietG tab 105 l H hs = bares l) /\ (tab.n 106 = none) /\ (tab.f 106 = some fi106) /\ (∀ a0 H hs, quietG tab 106 [a0] H hs = true) /\ (tab.n 107 = none) /\ (tab.f 107 = some fi107) /\ (tab.n 108 = none) /\ (tab.f 108 = some fi108) /\ (∀ l H hs, quietG tab 108 l H hs = bares l) /\ (tab.n 109 = none) /\ (tab.f 109 = some fi109) /\ (∀ l H hs, quietG tab 109 l H hs = bares l) /\ (tab.n 110 = none) /\ (tab.f 110 = some fi110) /\ (∀ l H hs, quietG tab 110 l H hs = bares l) /\ (tab.n 111 = none) /\ (tab.f 111 = some fi111) /\ (tab.n 5 = none) /\ (tab.f 5 = some fi5) /\ (∀ l H hs, quietG tab 5 l H hs = bares l) /\ (tab.n 112 = some 1) /\ (∀ l H hs, quietG tab 112 l H hs = true) /\ (∀ s a b l, callO tab (evw tab) s (some (.fn (.func 112) a b)) (some l) = natO s.heap s.hs 1 (some (a ++ l ++ b))) /\ (∀ m l H hs, callN tab (evw tab) m 112 l H hs = natO H hs 1 (some l)) :=
 ⟨rfl, rfl, rfl, rfl, fun _ _ _ => rfl, rfl, rfl, rfl, rfl, rfl, rfl, rfl, rfl, rfl, rfl, fun _ _ _ => rfl, rfl, rfl, rfl, rfl, rfl, rfl, rfl, rfl, rfl, rfl, fun _ _ _ => rfl, rfl, rfl, rfl, rfl, rfl, rfl, rfl, rfl, rfl, rfl, rfl, rfl, rfl, rfl, rfl, rfl, rfl, rfl, fun _ _ _ => rfl, rfl, rfl, fun _ _ _ => rfl, rfl, rfl, fun _ _ _ => rfl, rfl, rfl, rfl, rfl, rfl, rfl, rfl, rfl, rfl, rfl, rfl, rfl, rfl, rfl, rfl, rfl, fun _ _ _ _ => rfl, rfl, rfl, rfl, rfl, rfl, rfl, rfl, rfl, rfl, rfl, fun _ _ _ => rfl, rfl, rfl, rfl, rfl, rfl, rfl, fun _ _ _ _ => rfl, rfl, rfl, fun _ _ _ => rfl, rfl, rfl, fun _ _ _ => rfl, rfl, rfl, fun _ _ _ _ _ => rfl, rfl, rfl, rfl, rfl, fun _ _ _ => rfl, rfl, rfl, fun _ _ _ => rfl, rfl, rfl, fun _ _ _ => rfl, rfl, rfl, rfl, rfl, rfl, rfl, fun _ _ _ => rfl, rfl, rfl, rfl, rfl, rfl, rfl, fun _ _ _ => rfl, rfl, rfl, rfl, rfl, fun _ _ _ _ => rfl, rfl, rfl, fun _ _ _ => rfl, rfl, rfl, rfl, rfl, rfl, rfl, fun _ _ _ => rfl, rfl, rfl, fun _ _ _ => rfl, rfl, rfl, rfl, rfl, rfl, rfl, rfl, rfl, fun _ _ _ => rfl, rfl, rfl, rfl, rfl, fun _ _ _ => rfl, rfl, rfl, rfl, rfl, rfl, rfl, rfl, rfl, rfl, rfl, fun _ _ _ _ => rfl, rfl, rfl, fun _ _ _ => rfl, rfl, rfl, fun _ _ _ => rfl, rfl, rfl, fun _ _ _ _ => rfl, rfl, rfl, fun _ _ _ => rfl, rfl, rfl, fun _ _ _ => rfl, rfl, rfl, rfl, rfl, fun _ _ _ => rfl, rfl, rfl, rfl, rfl, fun _ _ _ => rfl, rfl, rfl, fun _ _ _ => rfl, rfl, rfl, fun _ _ _ => rfl, rfl, rfl, rfl, rfl, fun _ _ _ => rfl, rfl, rfl, fun _ _ _ => rfl, rfl, rfl, fun _ _ _ => rfl, rfl, rfl, fun _ _ _ => rfl, rfl, rfl, fun _ _ _ => rfl, rfl, rfl, fun _ _ _ => rfl, rfl, rfl, fun _ _ _ => rfl, rfl, rfl, fun _ _ _ => rfl, rfl, rfl, fun _ _ _ => rfl, rfl, rfl, fun _ _ _ => rfl, rfl, rfl, rfl, rfl, fun _ _ _ => rfl, rfl, rfl, rfl, rfl, rfl, rfl, rfl, rfl, rfl, rfl, fun _ _ _ => rfl, rfl, rfl, fun _ _ _ => rfl, rfl, rfl, fun _ _ _ => rfl, rfl, rfl, fun _ _ _ => rfl, rfl, rfl, fun _ _ _ => rfl, rfl, rfl, rfl, rfl, fun _ _ _ => rfl, rfl, rfl, fun _ _ _ => rfl, rfl, rfl, fun _ _ _ => rfl, rfl, rfl, rfl, rfl, fun _ _ _ => rfl, rfl, fun _ _ _ => rfl, fun _ _ _ _ => callO_n rfl, fun _ _ _ _ => callN_n rfl _ _ _ _⟩
def x3 := fx fi3 109 [.tmp 8] 3 [4] rfl rfl rfl rfl
def b3 := fb fi3 Tryz.f3 rfl
theorem d3 : drawsL 109 fi3.body = [some [false, false, false, false, false, false, false, false, false, false, false, false, false, false, false, false, false], some [false, false, false, false, false, false, false, false, false, false, false, false, false, false, false, false, false]] := by kernel_rfl
def x4 := fx fi4 73 [.tmp 2] 3 [4] rfl rfl rfl rfl
def b4 := fb fi4 Tryz.f4 rfl
def x6 := fx fi6 55 [.tmp 6, .tmp 7] 3 [26, 27] rfl rfl rfl rfl
def b6 := fb fi6 Tryz.f6 rfl
theorem d6 : drawsL 55 fi6.body = [some [false, false, false, false, true, false, false, false, false, false, false, false]] := by kernel_rfl
def x7 := fx fi7 66 [.tmp 6, .tmp 7] 3 [30, 27] rfl rfl rfl rfl
def b7 := fb fi7 Tryz.f7 rfl
def x8 := fx fi8 106 [.tmp 6, .tmp 7] 1 [33, 27] rfl rfl rfl rfl
def b8 := fb fi8 Tryz.f8 rfl
theorem e8 : drawsX 106 fi8.body = [some [(3, 0, 0), (9, 0, 1)]] := by kernel_rfl
def x9 := fx fi9 37 [.tmp 6, .tmp 7] 3 [33, 27] rfl rfl rfl rfl
def b9 := fb fi9 Tryz.f9 rfl
def x10 := fx fi10 42 [.tmp 4] 3 [4] rfl rfl rfl rfl
def b10 := fb fi10 Tryz.f10 rfl
theorem d10 : drawsL 42 fi10.body = [some [false, false, false, false, false, false, false, false, false, false, false, false, false, false, false, false, false, false, false, false, false, false, false, false, false]] := by kernel_rfl
def x11 := fx fi11 10 [.tmp 2] 3 [33] rfl rfl rfl rfl
def b11 := fb fi11 Tryz.f11 rfl
def x12 := fx fi12 67 [.tmp 2] 3 [33] rfl rfl rfl rfl
def b12 := fb fi12 Tryz.f12 rfl
theorem d12 : drawsL 67 fi12.body = [some [false, false, false, false, false, false, false, false, false, false, false, false, false, false, false, false, false, false, false, false, false, false, false, false, false, false, false]] := by kernel_rfl
def x13 := fx fi13 31 [.tmp 4, .tmp 5] 1 [51, 27] rfl rfl rfl rfl
def b13 := fb fi13 Tryz.f13 rfl
theorem e13 : drawsX 31 fi13.body = [some [(0, 0, 1)]] := by kernel_rfl
def x14 := fx fi14 3 [.tmp 0] 3 [54] rfl rfl rfl rfl
def b14 := fb fi14 Tryz.f14 rfl
def x15 := fx fi15 14 [.tmp 2, .tmp 3] 3 [33, 27] rfl rfl rfl rfl
def b15 := fb fi15 Tryz.f15 rfl
def x16 := fx fi16 8 [.tmp 4] 3 [4] rfl rfl rfl rfl
def b16 := fb fi16 Tryz.f16 rfl
def x17 := fx fi17 8 [.tmp 4] 3 [4] rfl rfl rfl rfl
def b17 := fb fi17 Tryz.f17 rfl
def x18 := fx fi18 10 [.tmp 4] 3 [1] rfl rfl rfl rfl
def b18 := fb fi18 Tryz.f18 rfl
def x19 := fx fi19 59 [.tmp 4, .tmp 5] 3 [54, 27] rfl rfl rfl rfl
def b19 := fb fi19 Tryz.f19 rfl
def x20 := fx fi20 61 [.tmp 6] 3 [68] rfl rfl rfl rfl
def b20 := fb fi20 Tryz.f20 rfl
theorem d20 : drawsL 61 fi20.body = [some [false, false, false, false, false, false, false, false, false, false, false, false, false, true, false, false, false]] := by kernel_rfl
def x21 := fx fi21 62 [.tmp 6] 3 [27] rfl rfl rfl rfl
def b21 := fb fi21 Tryz.f21 rfl
def x22 := fx fi22 29 [.tmp 2] 3 [33] rfl rfl rfl rfl
def b22 := fb fi22 Tryz.f22 rfl
theorem d22 : drawsL 29 fi22.body = [some [false, false, false, false, false, false, true, false, false, false, false, false, false, false, false, false]] := by kernel_rfl
def x23 := fx fi23 89 [.tmp 6, .tmp 7] 3 [30, 27] rfl rfl rfl rfl
def b23 := fb fi23 Tryz.f23 rfl
theorem d23 : drawsL 89 fi23.body = [none] := by kernel_rfl
theorem e23 : drawsX 89 fi23.body = [some [(3, 0, 0), (7, 0, 0), (11, 0, 0), (14, 0, 0), (17, 0, 0)]] := by kernel_rfl
def x24 := fx fi24 51 [.tmp 4] 3 [33] rfl rfl rfl rfl
def b24 := fb fi24 Tryz.f24 rfl
theorem d24 : drawsL 51 fi24.body = [some [false, false, false, false, false, false, false, false, false, false, false, false], some [false, false, false, false, false, false, false, false, false, false, false, false, false]] := by kernel_rfl
def x25 := fx fi25 26 [.tmp 4] 3 [4] rfl rfl rfl rfl
def b25 := fb fi25 Tryz.f25 rfl
theorem d25 : drawsL 26 fi25.body = [some [false, false, false, false, false, false, false, false, false]] := by kernel_rfl
def x26 := fx fi26 55 [.tmp 6] 3 [4] rfl rfl rfl rfl
def b26 := fb fi26 Tryz.f26 rfl
theorem d26 : drawsL 55 fi26.body = [some [false, false, false, false, false, false, false, false, false, false, false, false, false, false, false, false, false, false, false, false, false, false, false, false, false, false, false, false, false, false, false, false, false, false, false, false]] := by kernel_rfl
def x27 := fx fi27 9 [.tmp 4] 3 [4] rfl rfl rfl rfl
def b27 := fb fi27 Tryz.f27 rfl
def x28 := fx fi28 11 [.tmp 3] 3 [4] rfl rfl rfl rfl
def b28 := fb fi28 Tryz.f28 rfl
def x29 := fx fi29 11 [.tmp 2, .tmp 3] 3 [77, 27] rfl rfl rfl rfl
def b29 := fb fi29 Tryz.f29 rfl
def x30 := fx fi30 26 [.tmp 2, .tmp 3] 3 [54, 27] rfl rfl rfl rfl
def b30 := fb fi30 Tryz.f30 rfl
def x31 := fx fi31 9 [.tmp 4] 3 [4] rfl rfl rfl rfl
def b31 := fb fi31 Tryz.f31 rfl
def x32 := fx fi32 12 [.tmp 3] 3 [4] rfl rfl rfl rfl
def b32 := fb fi32 Tryz.f32 rfl
theorem d32 : drawsL 12 fi32.body = [some [false, false, false, false, false, false, false, false, false]] := by kernel_rfl
def x33 := fx fi33 21 [.tmp 3] 3 [4] rfl rfl rfl rfl
def b33 := fb fi33 Tryz.f33 rfl
theorem d33 : drawsL 21 fi33.body = [some [false, false, false, false, false, false, true, false, false, false, false]] := by kernel_rfl
def x34 := fx fi34 21 [.tmp 4] 3 [2] rfl rfl rfl rfl
def b34 := fb fi34 Tryz.f34 rfl
def x35 := fx fi35 35 [] 3 [] rfl rfl rfl rfl
def b35 := fb fi35 Tryz.f35 rfl
theorem d35 : drawsL 35 fi35.body = [some [false, false, false, false, false, false, false, false, false, false, false], some [false, false, false, false, false, false, false, false, false, false, false]] := by kernel_rfl
def x36 := fx fi36 88 [.tmp 6] 3 [27] rfl rfl rfl rfl
def b36 := fb fi36 Tryz.f36 rfl
theorem d36 : drawsL 88 fi36.body = [some [false, false, false, false, false, false, true, false, false, false, false, false, false]] := by kernel_rfl
def x37 := fx fi37 81 [.tmp 6] 3 [27] rfl rfl rfl rfl
def b37 := fb fi37 Tryz.f37 rfl
theorem d37 : drawsL 81 fi37.body = [some [false, false, false, false, false, true, false, false, false, false, false, false]] := by kernel_rfl
def x39 := fx fi39 9 [.tmp 2] 3 [3] rfl rfl rfl rfl
def b39 := fb fi39 Tryz.f39 rfl
def x40 := fx fi40 30 [.tmp 4] 3 [2] rfl rfl rfl rfl
def b40 := fb fi40 Tryz.f40 rfl
theorem d40 : drawsL 30 fi40.body = [some [false, false, false, false, false, false, false, false, false, false, false, false, true, false, false, false]] := by kernel_rfl
def x41 := fx fi41 9 [.tmp 4] 3 [33] rfl rfl rfl rfl
def b41 := fb fi41 Tryz.f41 rfl
def x42 := fx fi42 17 [.tmp 4] 3 [43] rfl rfl rfl rfl
def b42 := fb fi42 Tryz.f42 rfl
def x43 := fx fi43 10 [.tmp 2] 4 [68] rfl rfl rfl rfl
def b43 := fb fi43 Tryz.f43 rfl
def x44 := fx fi44 9 [.tmp 2] 3 [4] rfl rfl rfl rfl
def b44 := fb fi44 Tryz.f44 rfl
def x45 := fx fi45 25 [.tmp 6, .tmp 7] 3 [2, 4] rfl rfl rfl rfl
def b45 := fb fi45 Tryz.f45 rfl
def x46 := fx fi46 4 [.tmp 2] 3 [99] rfl rfl rfl rfl
def b46 := fb fi46 Tryz.f46 rfl
def x47 := fx fi47 8 [.tmp 2] 3 [43] rfl rfl rfl rfl
def b47 := fb fi47 Tryz.f47 rfl
def x48 := fx fi48 18 [.tmp 2, .tmp 3] 3 [33, 27] rfl rfl rfl rfl
def b48 := fb fi48 Tryz.f48 rfl
def x49 := fx fi49 20 [.tmp 4] 3 [4] rfl rfl rfl rfl
def b49 := fb fi49 Tryz.f49 rfl
def x50 := fx fi50 47 [.tmp 4, .tmp 5] 3 [105, 27] rfl rfl rfl rfl
def b50 := fb fi50 Tryz.f50 rfl
theorem d50 : drawsL 47 fi50.body = [some [false, false, false, false, false, true, false, false, false, false, false, false, false], some [false, false, false, false, false, false, false, false, false, false, false, false]] := by kernel_rfl
def x51 := fx fi51 85 [.tmp 6] 3 [27] rfl rfl rfl rfl
def b51 := fb fi51 Tryz.f51 rfl
def x52 := fx fi52 46 [.tmp 4] 3 [3] rfl rfl rfl rfl
def b52 := fb fi52 Tryz.f52 rfl
def x53 := fx fi53 19 [.tmp 4] 3 [3] rfl rfl rfl rfl
def b53 := fb fi53 Tryz.f53 rfl
def x54 := fx fi54 9 [.tmp 2] 3 [4] rfl rfl rfl rfl
def b54 := fb fi54 Tryz.f54 rfl
def x55 := fx fi55 8 [.tmp 2] 3 [48] rfl rfl rfl rfl
def b55 := fb fi55 Tryz.f55 rfl
def x56 := fx fi56 19 [.tmp 4] 3 [3] rfl rfl rfl rfl
def b56 := fb fi56 Tryz.f56 rfl
def x57 := fx fi57 30 [.tmp 4] 3 [82] rfl rfl rfl rfl
def b57 := fb fi57 Tryz.f57 rfl
def x58 := fx fi58 11 [.tmp 2] 3 [4] rfl rfl rfl rfl
def b58 := fb fi58 Tryz.f58 rfl
def x59 := fx fi59 41 [.tmp 4] 3 [82] rfl rfl rfl rfl
def b59 := fb fi59 Tryz.f59 rfl
theorem d59 : drawsL 41 fi59.body = [some [false, false, false, false, false, false, false, false, false, false], some [false, false, false, false, false, false, false, false, false, false], some [false, false, false, false, false, false, false, false, false, false]] := by kernel_rfl
def x60 := fx fi60 83 [.tmp 4] 3 [82] rfl rfl rfl rfl
def b60 := fb fi60 Tryz.f60 rfl
theorem d60 : drawsL 83 fi60.body = [some [false, false, false, false, false, false, false, false, false, false, false, false, false, false]] := by kernel_rfl
def x61 := fx fi61 35 [.tmp 4, .tmp 5] 3 [43, 27] rfl rfl rfl rfl
def b61 := fb fi61 Tryz.f61 rfl
def x62 := fx fi62 24 [.tmp 2] 3 [120] rfl rfl rfl rfl
def b62 := fb fi62 Tryz.f62 rfl
def x63 := fx fi63 45 [.tmp 4] 3 [54] rfl rfl rfl rfl
def b63 := fb fi63 Tryz.f63 rfl
theorem d63 : drawsL 45 fi63.body = [some [false, false, false, false, false, false, false, false]] := by kernel_rfl
def x64 := fx fi64 8 [.tmp 2] 4 [68] rfl rfl rfl rfl
def b64 := fb fi64 Tryz.f64 rfl
def x65 := fx fi65 9 [] 4 [] rfl rfl rfl rfl
def b65 := fb fi65 Tryz.f65 rfl
def x66 := fx fi66 8 [.tmp 4] 3 [3] rfl rfl rfl rfl
def b66 := fb fi66 Tryz.f66 rfl
def x67 := fx fi67 66 [.tmp 4] 4 [68] rfl rfl rfl rfl
def b67 := fb fi67 Tryz.f67 rfl
theorem d67 : drawsL 66 fi67.body = [some [false, false, false, false, false, false, false, false, false, false, false], some [false, false, false, false, false, false, false, false, false, false, false, false]] := by kernel_rfl
def x68 := fx fi68 9 [.tmp 4] 3 [4] rfl rfl rfl rfl
def b68 := fb fi68 Tryz.f68 rfl
def x69 := fx fi69 6 [] 3 [] rfl rfl rfl rfl
def b69 := fb fi69 Tryz.f69 rfl
def x70 := fx fi70 28 [.tmp 4] 3 [4] rfl rfl rfl rfl
def b70 := fb fi70 Tryz.f70 rfl
def x71 := fx fi71 31 [.tmp 2, .tmp 3] 3 [105, 27] rfl rfl rfl rfl
def b71 := fb fi71 Tryz.f71 rfl
theorem d71 : drawsL 31 fi71.body = [some [false, false, false, false, false, false, false, false, false, false, false, false, false]] := by kernel_rfl
def x72 := fx fi72 19 [.tmp 2] 3 [105] rfl rfl rfl rfl
def b72 := fb fi72 Tryz.f72 rfl
theorem d72 : drawsL 19 fi72.body = [some [false, false, false, false, false, false, false, false, false, false, false, false, false]] := by kernel_rfl
def x73 := fx fi73 23 [.tmp 4] 3 [2] rfl rfl rfl rfl
def b73 := fb fi73 Tryz.f73 rfl
def x74 := fx fi74 19 [.tmp 2] 3 [4] rfl rfl rfl rfl
def b74 := fb fi74 Tryz.f74 rfl
def x75 := fx fi75 9 [.tmp 2] 3 [4] rfl rfl rfl rfl
def b75 := fb fi75 Tryz.f75 rfl
def x76 := fx fi76 49 [.tmp 4, .tmp 5] 3 [3, 4] rfl rfl rfl rfl
def b76 := fb fi76 Tryz.f76 rfl
def x77 := fx fi77 42 [.tmp 4] 3 [3] rfl rfl rfl rfl
def b77 := fb fi77 Tryz.f77 rfl
theorem d77 : drawsL 42 fi77.body = [some [false, false, false, false, false, false, false], some [false, false, false, false, false, false, false]] := by kernel_rfl
def x78 := fx fi78 9 [.tmp 4] 3 [4] rfl rfl rfl rfl
def b78 := fb fi78 Tryz.f78 rfl
def x79 := fx fi79 6 [.tmp 2] 3 [4] rfl rfl rfl rfl
def b79 := fb fi79 Tryz.f79 rfl
def x80 := fx fi80 37 [.tmp 2] 3 [4] rfl rfl rfl rfl
def b80 := fb fi80 Tryz.f80 rfl
theorem d80 : drawsL 37 fi80.body = [some [false, true, false, false], some [false, false, false, true, false, false], some [false, false, false, true, false, false], some [false, false, false, true, false, false, false, false, false, false, false, false]] := by kernel_rfl
def x81 := fx fi81 47 [.tmp 2] 3 [82] rfl rfl rfl rfl
def b81 := fb fi81 Tryz.f81 rfl
def x82 := fx fi82 13 [.tmp 2] 3 [82] rfl rfl rfl rfl
def b82 := fb fi82 Tryz.f82 rfl
def x83 := fx fi83 66 [.tmp 2] 3 [120] rfl rfl rfl rfl
def b83 := fb fi83 Tryz.f83 rfl
def x84 := fx fi84 24 [.cell 2 47] 3 [47] rfl rfl rfl rfl
def b84 := fb fi84 Tryz.f84 rfl
def x85 := fx fi85 63 [] 4 [] rfl rfl rfl rfl
def b85 := fb fi85 Tryz.f85 rfl
def x86 := fx fi86 39 [.tmp 6] 3 [3] rfl rfl rfl rfl
def b86 := fb fi86 Tryz.f86 rfl
def x87 := fx fi87 40 [.tmp 4] 3 [3] rfl rfl rfl rfl
def b87 := fb fi87 Tryz.f87 rfl
theorem d87 : drawsL 40 fi87.body = [some [false, false, true, false, false, false, false, false]] := by kernel_rfl
def x88 := fx fi88 44 [.tmp 2] 3 [4] rfl rfl rfl rfl
def b88 := fb fi88 Tryz.f88 rfl
def x89 := fx fi89 41 [.tmp 4] 3 [3] rfl rfl rfl rfl
def b89 := fb fi89 Tryz.f89 rfl
theorem d89 : drawsL 41 fi89.body = [some [false, false, false, false, false, false, false, false, false, false]] := by kernel_rfl
def x90 := fx fi90 9 [.tmp 4] 3 [4] rfl rfl rfl rfl
def b90 := fb fi90 Tryz.f90 rfl
def x91 := fx fi91 19 [.tmp 4] 3 [3] rfl rfl rfl rfl
def b91 := fb fi91 Tryz.f91 rfl
def x92 := fx fi92 2 [.cell 0 47] 3 [47] rfl rfl rfl rfl
def b92 := fb fi92 Tryz.f92 rfl
def x93 := fx fi93 5 [.cell 2 47] 3 [47] rfl rfl rfl rfl
def b93 := fb fi93 Tryz.f93 rfl
def x94 := fx fi94 5 [.cell 2 47] 3 [47] rfl rfl rfl rfl
def b94 := fb fi94 Tryz.f94 rfl
def x95 := fx fi95 5 [.cell 2 47] 3 [47] rfl rfl rfl rfl
def b95 := fb fi95 Tryz.f95 rfl
def x96 := fx fi96 17 [] 3 [] rfl rfl rfl rfl
def b96 := fb fi96 Tryz.f96 rfl
theorem d96 : drawsL 17 fi96.body = [some [false, false, false, false, false, true, false, false, false, false, false, false, false, false, false, false]] := by kernel_rfl
def x97 := fx fi97 14 [.tmp 2] 3 [3] rfl rfl rfl rfl
def b97 := fb fi97 Tryz.f97 rfl
theorem d97 : drawsL 14 fi97.body = [some [false, false, false, false, true, false, false, false, false, false, false, false]] := by kernel_rfl
def x98 := fx fi98 24 [.tmp 2] 3 [82] rfl rfl rfl rfl
def b98 := fb fi98 Tryz.f98 rfl
def x99 := fx fi99 24 [.tmp 2] 3 [82] rfl rfl rfl rfl
def b99 := fb fi99 Tryz.f99 rfl
def x100 := fx fi100 53 [] 4 [] rfl rfl rfl rfl
def b100 := fb fi100 Tryz.f100 rfl
theorem d100 : drawsL 53 fi100.body = [some [false, false, false, false, false, false, false, false, false, false, false, false, false, false, false, false, false], some [false, false, false, false, false, false, false, false, false, false, false, false, false, false, false, false, false, false]] := by kernel_rfl
def x101 := fx fi101 220 [] 4 [] rfl rfl rfl rfl
def b101 := fb fi101 Tryz.f101 rfl
theorem d101 : drawsL 220 fi101.body = [some [false, false, false, false, false, false, false, false, false, false, false], some [false, false, false, false, false, false, false, false, false, false, false, false, false, false, false, false, false, false], some [false, false, false, false, false, false, false, false, false, false, false, false], some [false, false, false, false, false, false, false, false, false, false, false, false, false, false, false, false, false, false], some [false, false, false, false, false, false, false, false, false, false, false, false, false, false]] := by kernel_rfl
def x102 := fx fi102 20 [.tmp 4] 3 [3] rfl rfl rfl rfl
def b102 := fb fi102 Tryz.f102 rfl
def x103 := fx fi103 4 [.tmp 2] 3 [3] rfl rfl rfl rfl
def b103 := fb fi103 Tryz.f103 rfl
def x104 := fx fi104 20 [.tmp 4] 3 [3] rfl rfl rfl rfl
def b104 := fb fi104 Tryz.f104 rfl
def x105 := fx fi105 8 [.tmp 4] 3 [3] rfl rfl rfl rfl
def b105 := fb fi105 Tryz.f105 rfl
def x106 := fx fi106 9 [.tmp 2] 3 [3] rfl rfl rfl rfl
def b106 := fb fi106 Tryz.f106 rfl
def x107 := fx fi107 58 [] 4 [] rfl rfl rfl rfl
def b107 := fb fi107 Tryz.f107 rfl
def x108 := fx fi108 6 [.tmp 2] 3 [4] rfl rfl rfl rfl
def b108 := fb fi108 Tryz.f108 rfl
def x109 := fx fi109 6 [.tmp 2] 3 [4] rfl rfl rfl rfl
def b109 := fb fi109 Tryz.f109 rfl
def x110 := fx fi110 8 [.tmp 4] 3 [3] rfl rfl rfl rfl
def b110 := fb fi110 Tryz.f110 rfl
def x111 := fx fi111 38 [] 4 [] rfl rfl rfl rfl
def b111 := fb fi111 Tryz.f111 rfl
theorem d111 : drawsL 38 fi111.body = [some [false, false, false, false, false, false, false, false, false, false, false, false, false, false, false, false, false, false, false, false, false, false, false, false]] := by kernel_rfl
def sGAM := an stH (an stQ (an stE (an stC (an xI (an xF @Nat.max_def)))))
def sGM := an stA sGAM
def sGA := an stM sGAM
def sG := an stA sGA
theorem bb1 {p q : Operand} {a b : Bool} : binO tab .eql 4 p q (some (.lit (.bool a))) (some (.lit (.bool b))) = some (.lit (.bool (a == b))) := rfl
theorem eq108 {m : Md} {n : Int} : iso tab fi108 m [.lit (.int .i64 n)] = some (.lit (.bool false)) := by
 refine iso_ret ?_
 simp only [sG, seval, x108, stU, b108, Tryz.f108]
theorem call108 {m : Md} {n : Int} {H : Tr AO} {hs : Nat} : callF tab (evw tab) m 108 [.lit (.int .i64 n)] H hs = some (.lit (.bool false), H, hs) := callF_iso tcon rfl rfl rfl eq108
theorem eq109 {m : Md} {n : Int} : iso tab fi109 m [.lit (.int .i64 n)] = some (.lit (.bool false)) := by
 refine iso_ret ?_
 simp only [sG, seval, x109, stU, b109, Tryz.f109]
theorem call109 {m : Md} {n : Int} {H : Tr AO} {hs : Nat} : callF tab (evw tab) m 109 [.lit (.int .i64 n)] H hs = some (.lit (.bool false), H, hs) := callF_iso tcon rfl rfl rfl eq109
theorem eq102 {m : Md} {a b : Int} : iso tab fi102 m [.lit (.int .i64 a), .lit (.int .i64 b)] = some (.lit (.int .i64 (cmpI a b))) := by
 refine iso_ret ?_
 unfold cmpI
 cases h1 : decide (a < b) with
 | true => simp only [sG, seval, x102, stU, b102, Tryz.f102, call108, h1]
 | false => cases h2 : decide (b < a) <;> simp only [sG, seval, x102, stU, b102, Tryz.f102, call108, h1, h2]
theorem call102 {m : Md} {a b : Int} {H : Tr AO} {hs : Nat} : callF tab (evw tab) m 102 [.lit (.int .i64 a), .lit (.int .i64 b)] H hs = some (.lit (.int .i64 (cmpI a b)), H, hs) := callF_iso tcon rfl rfl rfl eq102
theorem eq104 {m : Md} {a b : Int} : iso tab fi104 m [.lit (.int .i64 a), .lit (.int .i64 b)] = some (.lit (.int .i64 (cmpI a b))) := by
 refine iso_ret ?_
 unfold cmpI
 cases h1 : decide (a < b) with
 | true => simp only [sG, seval, x104, stU, b104, Tryz.f104, call109, h1]
 | false => cases h2 : decide (b < a) <;> simp only [sG, seval, x104, stU, b104, Tryz.f104, call109, h1, h2]
theorem call104 {m : Md} {a b : Int} {H : Tr AO} {hs : Nat} : callF tab (evw tab) m 104 [.lit (.int .i64 a), .lit (.int .i64 b)] H hs = some (.lit (.int .i64 (cmpI a b)), H, hs) := callF_iso tcon rfl rfl rfl eq104
theorem eq103 {m : Md} {b : Bool} : iso tab fi103 m [.lit (.bool b)] = some (.lit (.int .i64 (tr b))) := by
 refine iso_ret ?_
 unfold tr
 cases b <;> simp only [sG, seval, x103, stU, b103, Tryz.f103]
theorem call103 {m : Md} {b : Bool} {H : Tr AO} {hs : Nat} : callF tab (evw tab) m 103 [.lit (.bool b)] H hs = some (.lit (.int .i64 (tr b)), H, hs) := callF_iso tcon rfl rfl rfl eq103
theorem eq110 {m : Md} {a b : List UInt8} : iso tab fi110 m [.str a, .str b] = some (.lit (.int .i64 (Lib.compareBytes a b))) := by
 refine iso_ret ?_
 simp only [sG, seval, x110, stU, b110, Tryz.f110]
theorem call110 {m : Md} {a b : List UInt8} {H : Tr AO} {hs : Nat} : callF tab (evw tab) m 110 [.str a, .str b] H hs = some (.lit (.int .i64 (Lib.compareBytes a b)), H, hs) := callF_iso tcon rfl rfl rfl eq110
theorem eq105 {m : Md} {a b : List UInt8} : iso tab fi105 m [.str a, .str b] = some (.lit (.int .i64 (Lib.compareBytes a b))) := by
 refine iso_ret ?_
 simp only [sG, seval, x105, stU, b105, Tryz.f105, call110]
theorem call105 {m : Md} {a b : List UInt8} {H : Tr AO} {hs : Nat} : callF tab (evw tab) m 105 [.str a, .str b] H hs = some (.lit (.int .i64 (Lib.compareBytes a b)), H, hs) := callF_iso tcon rfl rfl rfl eq105
theorem eq87 {m : Md} {a b : Vl} : iso tab fi87 m [encV a, encV b] = some (.lit (.int .i64 (vcmp a b))) := by
 refine iso_ret ?_
 unfold vcmp
 have D := d87
 simp only [stD, stC, List.cons.injEq, b87, Tryz.f87] at D
 cases h0 : decide (a.k = b.k) with
 | false => simp only [sG, seval, x87, stU, b87, Tryz.f87, encV, call102, h0]
 | true =>
  cases h1 : decide (a.k = 1) with
  | true => simp only [sG, seval, x87, stU, b87, Tryz.f87, encV, call102, call103, D, h0, h1]
  | false =>
   cases h2 : decide (a.k = 2) with
   | true => simp only [sG, seval, x87, stU, b87, Tryz.f87, encV, call104, h0, h1, h2]
   | false => cases h3 : decide (a.k = 3) <;> simp only [sG, seval, x87, stU, b87, Tryz.f87, encV, call105, h0, h1, h2, h3]
theorem call87 {m : Md} {a b : Vl} {H : Tr AO} {hs : Nat} : callF tab (evw tab) m 87 [encV a, encV b] H hs = some (.lit (.int .i64 (vcmp a b)), H, hs) := callF_iso tcon rfl rfl rfl eq87
theorem rcmp_l {a : Row} : rcmp [] a = bif decide ((0 : Int) < a.length) then -1 else 0 := by
 cases a with
 | nil => rfl
 | cons x a =>
  have : decide ((0 : Int) < ((x :: a).length : Nat)) = true := by rw [decide_eq_true_iff, List.length_cons]; omega
  rw [this]; rfl
theorem loop86 {a b : Row} {gl : Tr (Option AV)} (hl : a.length < 9223372036854775807) : ∀ (k i : Nat) (t : Tr AV) (H : Tr AO) (hs : Nat), i + k = a.length -> i <= b.length ->
  t.get .any 0 = encR a -> t.get .any 1 = encR b -> t.get .any 2 = .fn (.func 87) [] [] -> t.get .any 11 = encR a -> t.get .any 12 = .lit (.int .i64 a.length) -> t.get .any 13 = .lit (.int .i64 i) ->
  RetO tab fi86 (W tab none (fin tab fi86) (lpc fi86 0) (lpk fi86 0) ⟨t, 39, H, hs, [], ⟨true, true, gl⟩⟩) (.lit (.int .i64 (rcmp (a.drop i) (b.drop i)))) := by
 have C : ∀ (a b : Vl) (m : Md) (H : Tr AO) (hs : Nat), callF tab (evw tab) m 87 [.agg a.cs, .agg b.cs] H hs = some (.lit (.int .i64 (vcmp a b)), H, hs) := fun _ _ _ _ _ => call87
 simp only [Vl.cs] at C
 simp only [stU, stC, b86, Tryz.f86]
 intro k
 induction k with
 | zero =>
  intro i t H hs hi hb a0 a1 a2 a11 a12 a13
  have e1 : decide ((i : Int) < (a).length) = false := dcF (by omega)
  rw [W_loop, List.drop_of_length_le (l := a) (by omega), rcmp_l]
  have e2 : decide ((0 : Int) < ((b.drop i).length : Nat)) = decide ((a.length : Int) < b.length) := by
   rw [List.length_drop, Bool.eq_iff_iff, decide_eq_true_iff, decide_eq_true_iff]; omega
  rw [e2]
  cases e3 : decide ((a.length : Int) < b.length) <;> simp only [sG, seval, x86, encR, a0, a1, a12, a13, e1, e3, List.length_map]
  all_goals rfl
 | succ k ih =>
  intro i t H hs hi hb a0 a1 a2 a11 a12 a13
  have hlt : i < (a).length := by omega
  obtain ⟨x, hv, e1, e3, e4, e6, e7⟩ := atS hlt
  have e5 := wrap_succ (i := i) (by omega)
  rw [W_loop, e6]
  by_cases hx : i < b.length
  ·have g1 : decide ((b.length : Int) <= i) = false := dcF (by omega)
   have g4 : b[i]? = some b[i] := List.getElem?_eq_getElem _
   rw [List.drop_eq_getElem_cons hx, rcmp]
   generalize b[i] = y at g4
   cases hc : decide (vcmp x y = 0) with
   | true =>
    simp only [sG, seval, encR, encV, Vl.cs, C, a1, a2, a11, a12, a13, e1, e3, e4, e5, lG, g1, g4, hc]
    apply ih (i + 1) _ _ _ (by omega) (by omega)
    all_goals simp only [sG, seval, encR, a0, a1, a2, a11, a12]
   | false =>
    simp only [sG, seval, x86, encR, encV, Vl.cs, C, a1, a2, a11, a12, a13, e1, e3, e4, lG, g1, g4, hc]
    rfl
  ·have g1 : decide ((b.length : Int) <= i) = true := dcT (by omega)
   rw [List.drop_of_length_le (l := b) (by omega), rcmp]
   simp only [sG, seval, x86, encR, encV, Vl.cs, a1, a11, a12, a13, e1, e3, e4, lG, g1]
   rfl
theorem eq86 {m : Md} {a b : Row} (hl : a.length < 9223372036854775807) : isoO (evw tab) tab fi86 m [encR a, encR b, .fn (.func 87) [] []] = some (.lit (.int .i64 (rcmp a b))) := by
 refine own_ret ?_
 have L := @loop86 a b m.gl hl a.length 0
 simp only [stU, stC, b86, Tryz.f86] at L
 simp only [sG, seval, x86, stU, b86, Tryz.f86, encR, List.length_map]
 apply L
 ·simp
 ·simp
 ·simp only [sG, seval, encR]
  try rfl
 all_goals simp only [sG, seval, encR]
theorem call86 {m : Md} {a b : Row} {H : Tr AO} {hs : Nat} (hl : a.length < 9223372036854775807) : callF tab (evw tab) m 86 [.lst .no (a.map encV), .lst .no (b.map encV), .fn (.func 87) [] []] H hs = some (.lit (.int .i64 (rcmp a b)), H, hs) :=
 callF_own (H1 := H) tcon rfl rfl rfl (bs := [.lst .no (a.map encV), .lst .no (b.map encV), .fn (.func 87) [] []]) (by simp only [sG, seval, dBN]) (by simp only [sG, seval, dBN]) (by have := @eq86 m a b hl; simp only [sG, seval, dBN, encR] at this ⊢; exact this)
theorem eq66 {m : Md} {a b : Row} (hl : a.length < 9223372036854775807) : isoO (evw tab) tab fi66 m [encR a, encR b] = some (.lit (.int .i64 (rcmp a b))) := by
 refine own_ret ?_
 simp only [sG, seval, x66, stU, b66, Tryz.f66, encR, call86 hl]
 rfl
theorem call66 {m : Md} {k1 k2 : ATk} {a b : Row} {H : Tr AO} {hs : Nat} (hl : a.length < 9223372036854775807) : callF tab (evw tab) m 66 [.lst k1 (a.map encV), .lst k2 (b.map encV)] H hs = some (.lit (.int .i64 (rcmp a b)), H, hs) :=
 callF_own (H1 := H) tcon rfl rfl rfl (bs := [.lst k1 (a.map encV), .lst k2 (b.map encV)]) (by simp only [sG, seval, dBN]) (by simp only [sG, seval, dBN]) (by have := @eq66 m a b hl; simp only [sG, seval, dBN, encR] at this ⊢; exact this)
theorem eq68 {m : Md} {a b : Row} (hl : a.length < 9223372036854775807) : iso tab fi68 m [encR a, encR b] = some (.lit (.bool (decide (rcmp a b = 0)))) := by
 refine iso_ret ?_
 simp only [sG, seval, x68, stU, b68, Tryz.f68, encR, call66 hl]
theorem call68 {m : Md} {k1 k2 : ATk} {a b : Row} {H : Tr AO} {hs : Nat} (hl : a.length < 9223372036854775807) : callF tab (evw tab) m 68 [.lst k1 (a.map encV), .lst k2 (b.map encV)] H hs = some (.lit (.bool (decide (rcmp a b = 0))), H, hs) :=
 callF_iso tcon rfl rfl (by simp only [sG, seval, dBN]) (by have := @eq68 m a b hl; simp only [sG, seval, dBN, encR] at this ⊢; exact this)
theorem flat_V (v : Vl) : (Nat.beq (encV v).cells.length 4 && flatOk (encV v) && (encV v).cells.all oneCell) = true := rfl
theorem ble_room {n : Nat} (h : n < 1000000) : Nat.ble ((4 * (n) + 4000) * 40) 281474976710656 = true := by rw [Nat.ble_eq]; omega
theorem nl1 {p q : Operand} : binO tab .eql 43 p q (some (.lit (.slice none 0 0))) (some (.lit (.slice none 0 0))) = some (.lit (.bool true)) := rfl
theorem nl2 {p q : Operand} : binO tab .eql 43 p q (some .emp) (some (.lit (.slice none 0 0))) = some (.lit (.bool false)) := rfl
theorem nl3 {p q : Operand} {tk : ATk} {e : AV} {l : List AV} : binO tab .eql 43 p q (some (.lst tk (e :: l))) (some (.lit (.slice none 0 0))) = some (.lit (.bool false)) := rfl
theorem eq52n {m : Md} : iso tab fi47 m [.lit (.slice none 0 0)] = some (.lst .no []) := by
 refine iso_ret ?_
 simp only [sG, seval, x47, stU, b47, Tryz.f47, nl1]
theorem eq52e {m : Md} : iso tab fi47 m [.emp] = some (.lst .no []) := by
 refine iso_ret ?_
 simp only [sG, seval, x47, stU, b47, Tryz.f47, nl2]
theorem eq47 {m : Md} {v : Vl} {r : Row} (hl : r.length < 999999) : iso tab fi47 m [encR (v :: r)] = some (encR (v :: r)) := by
 refine iso_ret ?_
 have e := ble_room (n := r.length + 1) (by have : r.length < 999999 := hl; omega)
 have f : ∀ l : Row, (l.map encV).all (sizeOk 4) = true := all_map fun _ => rfl
 have g : ∀ l : Row, (l.map encV).all (fun e => Nat.beq e.cells.length 4 && flatOk e && e.cells.all oneCell) = true := all_map flat_V
 simp only [sG, seval, x47, stU, b47, Tryz.f47, encR, encV, Vl.cs, nl3, dBN, List.length_map, f, g, e]
theorem call47 {m : Md} {tk : ATk} {r : Row} {H : Tr AO} {hs : Nat} (hl : r.length < 1000000) : callF tab (evw tab) m 47 [.lst tk (r.map encV)] H hs = some (encR r, H, hs) := by
 refine callF_spl tcon rfl rfl (by simp only [sG, seval, dBN]) ?_
 simp only [sG, seval, dBN]
 cases r with
 | nil => exact isoX_nil (tk := .no) rfl rfl eq52n eq52e rfl
 | cons v r => exact isoX_cons (tk := .no) (i := 0) (e := encV v) (es := r.map encV) rfl rfl (by have := @eq47 m v r (by simp at hl; omega); simpa only [encR] using this)
end Go.Proofs.YtancionamhenmaaGreat.Ev
