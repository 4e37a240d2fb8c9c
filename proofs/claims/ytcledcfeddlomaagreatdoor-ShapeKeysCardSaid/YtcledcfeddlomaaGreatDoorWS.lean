import Derived.Test.YtcledcfeddlomaaGreatDoorEvQ4
import Derived.KernelRfl
import Derived.Test.YtcledcfeddlomaaGreatDoorTabS
set_option linter.all false
set_option maxRecDepth 100000
namespace Go.Proofs.YtcledcfeddlomaaGreatDoor.Ev
open Go Go.Proofs.YtcledcfeddlomaaGreatDoor.Ev Go.Proofs Go.Proofs.YtcledcfeddlomaaGreatDoor Go.Proofs.YtcledcfeddlomaaGreatDoor.Tab
theorem xI : (lInf tab 22 = some 1) /\ (lInf tab 9 = some 0) /\ (eInf tab 35 = some (1, 8, false, (.lit (.pointer none)))) /\ (lInf tab 35 = some 1) /\ (tInf tab 23 = some (1, false)) /\ (eInf tab 22 = some (10, 136, true, (.agg [(.lit (.int .i64 (0))), (.str []), (.lit (.int .i64 (0))), (.lit (.slice none 0 0)), (.lit (.slice none 0 0)), (.lit (.slice none 0 0)), (.lit (.int .i64 (0))), (.lit (.int .i64 (0))), (.lit (.int .i64 (0))), (.lit (.int .i64 (0)))]))) /\ (tInf tab 47 = some (10, true)) /\ (cInf tab 47 = some [(.lit (.int .i64 (0))), (.str []), (.lit (.int .i64 (0))), (.lit (.slice none 0 0)), (.lit (.slice none 0 0)), (.lit (.slice none 0 0)), (.lit (.int .i64 (0))), (.lit (.int .i64 (0))), (.lit (.int .i64 (0))), (.lit (.int .i64 (0)))]) /\ (fInf tab 47 0 = some (0, 1, false)) /\ (tInf tab 3 = some (1, false)) /\ (fInf tab 47 1 = some (1, 1, false)) /\ (tInf tab 9 = some (1, false)) /\ (fInf tab 47 2 = some (2, 1, false)) /\ (fInf tab 47 3 = some (3, 1, false)) /\ (tInf tab 43 = some (1, false)) /\ (fInf tab 47 4 = some (4, 1, false)) /\ (tInf tab 44 = some (1, false)) /\ (fInf tab 47 5 = some (5, 1, false)) /\ (tInf tab 45 = some (1, false)) /\ (fInf tab 47 6 = some (6, 1, false)) /\ (fInf tab 47 7 = some (7, 1, false)) /\ (zInf tab 49 = some ([(0, 1), (1, 1), (2, 1), (3, 1), (4, 1), (5, 1), (6, 1), (7, 1), (8, 1), (9, 1)], [(.lit (.int .i64 (0))), (.str []), (.lit (.int .i64 (0))), (.lit (.slice none 0 0)), (.lit (.slice none 0 0)), (.lit (.slice none 0 0)), (.lit (.int .i64 (0))), (.lit (.int .i64 (0))), (.lit (.pointer none)), (.lit (.pointer none))])) /\ (fInf tab 47 8 = some (8, 1, false)) /\ (fInf tab 49 8 = some (8, 1, false)) /\ (fInf tab 47 9 = some (9, 1, false)) /\ (fInf tab 49 9 = some (9, 1, false)) /\ (fInf tab 49 3 = some (3, 1, false)) /\ (lInf tab 43 = some 1) /\ (fInf tab 49 4 = some (4, 1, false)) /\ (lInf tab 44 = some 1) /\ (fInf tab 49 5 = some (5, 1, false)) /\ (lInf tab 45 = some 1) /\ (fInf tab 49 1 = some (1, 1, false)) /\ (fInf tab 49 0 = some (0, 1, false)) /\ (eInf tab 39 = some (1, 16, false, (.str []))) /\ (zInf tab 55 = some ([(0, 1), (1, 1), (2, 1)], [(.lit (.slice none 0 0)), (.lit (.bool false)), (.lit (.int .i64 (0)))])) /\ (fInf tab 55 1 = some (1, 1, false)) /\ (tInf tab 4 = some (1, false)) /\ (fInf tab 49 2 = some (2, 1, false)) /\ (fInf tab 49 6 = some (6, 1, false)) /\ (fInf tab 49 7 = some (7, 1, false)) /\ (eInf tab 43 = some (7, 64, true, (.agg [(.lit (.int .i64 (0))), (.lit (.int .i64 (0))), (.lit (.int .i64 (0))), (.lit (.int .i64 (0))), (.lit (.bool false)), (.lit (.int .i64 (0))), (.str [])]))) /\ (tInf tab 60 = some (7, true)) /\ (eInf tab 44 = some (2, 16, true, (.agg [(.lit (.int .i64 (0))), (.lit (.int .i64 (0)))]))) /\ (tInf tab 62 = some (2, true)) /\ (eInf tab 45 = some (1, 8, false, (.lit (.int .i64 (0))))) /\ (zInf tab 66 = some ([(0, 1), (1, 1)], [(.lit (.slice none 0 0)), (.lit (.bool false))])) /\ (fInf tab 66 1 = some (1, 1, false)) /\ (cInf tab 35 = some [(.lit (.slice none 0 0))]) /\ (cInf tab 68 = some [(.lit (.map none))]) /\ (tInf tab 68 = some (1, false)) /\ (cInf tab 69 = some [(.lit .nilFunc)]) /\ (tInf tab 69 = some (1, false)) /\ (tInf tab 35 = some (1, false)) /\ (lInf tab 70 = some 1) /\ (eInf tab 70 = some (4, 56, true, (.agg [(.lit (.pointer none)), (.str []), (.str []), (.str [])]))) /\ (fInf tab 73 0 = some (0, 1, false)) /\ (lInf tab 39 = some 1) /\ (zInf tab 78 = some ([(0, 1), (1, 1), (2, 1), (3, 1), (4, 1), (5, 1), (6, 1)], [(.lit (.int .i64 (0))), (.str []), (.lit (.slice none 0 0)), (.lit (.int .i64 (0))), (.str []), (.lit (.int .i64 (0))), (.lit (.slice none 0 0))])) /\ (cInf tab 78 = some [(.lit (.int .i64 (0))), (.str []), (.lit (.slice none 0 0)), (.lit (.int .i64 (0))), (.str []), (.lit (.int .i64 (0))), (.lit (.slice none 0 0))]) /\ (tInf tab 78 = some (7, true)) /\ (fInf tab 78 6 = some (6, 1, false)) /\ (tInf tab 76 = some (1, false)) /\ (zInf tab 81 = some ([(0, 1), (1, 1), (2, 1), (3, 1)], [(.lit (.bool false)), (.str []), (.lit (.slice none 0 0)), (.lit (.int .i64 (0)))])) /\ (eInf tab 76 = some (4, 56, true, (.agg [(.lit (.bool false)), (.str []), (.lit (.slice none 0 0)), (.lit (.int .i64 (0)))]))) /\ (lInf tab 76 = some 1) /\ (eInf tab 112 = some (1, 24, false, (.lit (.slice none 0 0)))) /\ (fInf tab 55 2 = some (2, 1, false)) /\ (zInf tab 60 = some ([(0, 1), (1, 1), (2, 1), (3, 4)], [(.lit (.int .i64 (0))), (.lit (.int .i64 (0))), (.lit (.int .i64 (0))), (.lit (.int .i64 (0))), (.lit (.bool false)), (.lit (.int .i64 (0))), (.str [])])) /\ (cInf tab 60 = some [(.lit (.int .i64 (0))), (.lit (.int .i64 (0))), (.lit (.int .i64 (0))), (.lit (.int .i64 (0))), (.lit (.bool false)), (.lit (.int .i64 (0))), (.str [])]) /\ (fInf tab 60 2 = some (2, 1, false)) /\ (fInf tab 60 3 = some (3, 4, true)) /\ (tInf tab 58 = some (4, true)) /\ (zInf tab 62 = some ([(0, 1), (1, 1)], [(.lit (.int .i64 (0))), (.lit (.int .i64 (0)))])) /\ (mInf tab 68 = some (.string, (.lit (.bool false)))) /\ (nInf tab 3 109 = some .u64) /\ (fInf tab 81 3 = some (3, 1, false)) /\ (fInf tab 81 1 = some (1, 1, false)) /\ (lInf tab 112 = some 1) /\ (tInf tab 39 = some (1, false)) /\ (cInf tab 39 = some [(.lit (.slice none 0 0))]) /\ (fInf tab 60 0 = some (0, 1, false)) /\ (fInf tab 60 1 = some (1, 1, false)) /\ (cInf tab 62 = some [(.lit (.int .i64 (0))), (.lit (.int .i64 (0)))]) /\ (fInf tab 62 0 = some (0, 1, false)) /\ (fInf tab 62 1 = some (1, 1, false)) /\ (cInf tab 3 = some [(.lit (.int .i64 (0)))]) /\ (fInf tab 55 0 = some (0, 1, false)) /\ (fInf tab 66 0 = some (0, 1, false)) /\ (cInf tab 58 = some [(.lit (.int .i64 (0))), (.lit (.bool false)), (.lit (.int .i64 (0))), (.str [])]) /\ (zInf tab 58 = some ([(0, 1), (1, 1), (2, 1), (3, 1)], [(.lit (.int .i64 (0))), (.lit (.bool false)), (.lit (.int .i64 (0))), (.str [])])) /\ (nInf tab 3 5 = some .u8) /\ (eInf tab 84 = some (1, 1, false, (.lit (.int .u8 (0))))) /\ (lInf tab 84 = some 1) /\ (zInf tab 73 = some ([(0, 1), (1, 1), (2, 1), (3, 1)], [(.lit (.pointer none)), (.str []), (.str []), (.str [])])) /\ (nInf tab 109 147 = some .u32) /\ (tInf tab 5 = some (1, false)) /\ (sInf tab 84 9 = true) /\ (fInf tab 58 0 = some (0, 1, false)) /\ (fInf tab 58 1 = some (1, 1, false)) /\ (fInf tab 58 2 = some (2, 1, false)) /\ (tInf tab 2 = some (1, false)) /\ (nInf tab 2 149 = some .u64) /\ (nInf tab 149 5 = some .u8) /\ (fInf tab 58 3 = some (3, 1, false)) /\ (nInf tab 5 149 = some .u64) /\ (nInf tab 149 2 = some .i64) /\ (nInf tab 5 3 = some .i64) /\ (fInf tab 73 1 = some (1, 1, false)) /\ (nInf tab 3 163 = some .u64) /\ (cInf tab 163 = some [(.lit (.int .u64 (0)))]) /\ (tInf tab 163 = some (1, false)) /\ (nInf tab 109 3 = some .i64) /\ (nInf tab 147 5 = some .u8) /\ (tInf tab 122 = some (1, false)) /\ (tInf tab 118 = some (1, false)) /\ (tInf tab 119 = some (1, false)) :=
 ⟨rfl, rfl, rfl, rfl, rfl, rfl, rfl, rfl, rfl, rfl, rfl, rfl, rfl, rfl, rfl, rfl, rfl, rfl, rfl, rfl, rfl, rfl, rfl, rfl, rfl, rfl, rfl, rfl, rfl, rfl, rfl, rfl, rfl, rfl, rfl, rfl, rfl, rfl, rfl, rfl, rfl, rfl, rfl, rfl, rfl, rfl, rfl, rfl, rfl, rfl, rfl, rfl, rfl, rfl, rfl, rfl, rfl, rfl, rfl, rfl, rfl, rfl, rfl, rfl, rfl, rfl, rfl, rfl, rfl, rfl, rfl, rfl, rfl, rfl, rfl, rfl, rfl, rfl, rfl, rfl, rfl, rfl, rfl, rfl, rfl, rfl, rfl, rfl, rfl, rfl, rfl, rfl, rfl, rfl, rfl, rfl, rfl, rfl, rfl, rfl, rfl, rfl, rfl, rfl, rfl, rfl, rfl, rfl, rfl, rfl, rfl, rfl, rfl, rfl, rfl, rfl, rfl⟩
theorem xF : (tab.n 3 = none) /\ (tab.f 3 = some fi3) /\ (tab.n 4 = none) /\ (tab.f 4 = some fi4) /\ (tab.n 5 = none) /\ (tab.f 5 = some fi5) /\ (tab.n 6 = none) /\ (tab.f 6 = some fi6) /\ (tab.n 7 = none) /\ (tab.f 7 = some fi7) /\ (tab.n 8 = none) /\ (tab.f 8 = some fi8) /\ (∀ l H hs, quietG tab 8 l H hs = true) /\ (tab.n 9 = none) /\ (tab.f 9 = some fi9) /\ (∀ l H hs, quietG tab 9 l H hs = bares l) /\ (tab.n 10 = none) /\ (tab.f 10 = some fi10) /\ (∀ l H hs, quietG tab 10 l H hs = true) /\ (tab.n 11 = none) /\ (tab.f 11 = some fi11) /\ (∀ l H hs, quietG tab 11 l H hs = true) /\ (tab.n 12 = none) /\ (tab.f 12 = some fi12) /\ (∀ l H hs, quietG tab 12 l H hs = bares l) /\ (tab.n 13 = none) /\ (tab.f 13 = some fi13) /\ (∀ l H hs, quietG tab 13 l H hs = bares l) /\ (tab.n 14 = none) /\ (tab.f 14 = some fi14) /\ (tab.n 15 = none) /\ (tab.f 15 = some fi15) /\ (∀ l H hs, quietG tab 15 l H hs = true) /\ (tab.n 16 = none) /\ (tab.f 16 = some fi16) /\ (tab.n 17 = none) /\ (tab.f 17 = some fi17) /\ (tab.n 18 = none) /\ (tab.f 18 = some fi18) /\ (tab.n 19 = none) /\ (tab.f 19 = some fi19) /\ (tab.n 20 = none) /\ (tab.f 20 = some fi20) /\ (tab.n 21 = none) /\ (tab.f 21 = some fi21) /\ (tab.n 23 = none) /\ (tab.f 23 = some fi23) /\ (∀ l H hs, quietG tab 23 l H hs = bares l) /\ (tab.n 24 = none) /\ (tab.f 24 = some fi24) /\ (∀ l H hs, quietG tab 24 l H hs = bares l) /\ (tab.n 25 = none) /\ (tab.f 25 = some fi25) /\ (∀ l H hs, quietG tab 25 l H hs = bares l) /\ (tab.n 26 = none) /\ (tab.f 26 = some fi26) /\ (∀ l H hs, quietG tab 26 l H hs = bares l) /\ (tab.n 27 = none) /\ (tab.f 27 = some fi27) /\ (∀ l H hs, quietG tab 27 l H hs = bares l) /\ (tab.n 28 = none) /\ (tab.f 28 = some fi28) /\ (∀ l H hs, quietG tab 28 l H hs = bares l) /\ (tab.n 30 = none) /\ (tab.f 30 = some fi30) /\ (tab.n 31 = none) /\ (tab.f 31 = some fi31) /\ (∀ l H hs, quietG tab 31 l H hs = bares l) /\ (tab.n 32 = none) /\ (tab.f 32 = some fi32) /\ (tab.n 33 = none) /\ (tab.f 33 = some fi33) /\ (tab.n 34 = none) /\ (tab.f 34 = some fi34) /\ (tab.n 35 = none) /\ (tab.f 35 = some fi35) /\ (tab.n 36 = none) /\ (tab.f 36 = some fi36) /\ (tab.n 37 = none) /\ (tab.f 37 = some fi37) /\ (tab.n 41 = none) /\ (tab.f 41 = some fi41) /\ (∀ l H hs, quietG tab 41 l H hs = bares l) /\ (tab.n 42 = none) /\ (tab.f 42 = some fi42) /\ (∀ l H hs, quietG tab 42 l H hs = bares l) /\ (tab.n 43 = none) /\ (tab.f 43 = some fi43) /\ (∀ l H hs, quietG tab 43 l H hs = bares l) /\ (tab.n 44 = none) /\ (tab.f 44 = some fi44) /\ (∀ l H hs, quietG tab 44 l H hs = bares l) /\ (tab.n 45 = none) /\ (tab.f 45 = some fi45) /\ (∀ l H hs, quietG tab 45 l H hs = bares l) /\ (tab.n 46 = none) /\ (tab.f 46 = some fi46) /\ (∀ l H hs, quietG tab 46 l H hs = bares l) /\ (tab.n 48 = none) /\ (tab.f 48 = some fi48) /\ (∀ l H hs, quietG tab 48 l H hs = bares l) /\ (tab.n 49 = none) /\ (tab.f 49 = some fi49) /\ (∀ l H hs, quietG tab 49 l H hs = bares l) /\ (tab.n 50 = none) /\ (tab.f 50 = some fi50) /\ (tab.n 51 = none) /\ (tab.f 51 = some fi51) /\ (tab.n 52 = none) /\ (tab.f 52 = some fi52) /\ (tab.n 53 = none) /\ (tab.f 53 = some fi53) /\ (tab.n 54 = none) /\ (tab.f 54 = some fi54) /\ (tab.n 55 = none) /\ (tab.f 55 = some fi55) /\ (tab.n 56 = none) /\ (tab.f 56 = some fi56) /\ (tab.n 57 = none) /\ (tab.f 57 = some fi57) /\ (tab.n 58 = none) /\ (tab.f 58 = some fi58) /\ (tab.n 59 = none) /\ (tab.f 59 = some fi59) /\ (tab.n 60 = none) /\ (tab.f 60 = some fi60) /\ (∀ l H hs, quietG tab 60 l H hs = bares l) /\ (tab.n 61 = none) /\ (tab.f 61 = some fi61) /\ (tab.n 62 = none) /\ (tab.f 62 = some fi62) /\ (tab.n 63 = none) /\ (tab.f 63 = some fi63) /\ (tab.n 64 = none) /\ (tab.f 64 = some fi64) /\ (tab.n 67 = none) /\ (tab.f 67 = some fi67) /\ (tab.n 68 = none) /\ (tab.f 68 = some fi68) /\ (tab.n 70 = none) /\ (tab.f 70 = some fi70) /\ (∀ l H hs, quietG tab 70 l H hs = bares l) /\ (tab.n 71 = none) /\ (tab.f 71 = some fi71) /\ (∀ l H hs, quietG tab 71 l H hs = bares l) /\ (tab.n 72 = none) /\ (tab.f 72 = some fi72) /\ (∀ l H hs, quietG tab 72 l H hs = bares l) /\ (tab.n 73 = none) /\ (tab.f 73 = some fi73) /\ (∀ l H hs, quietG tab 73 l H hs = bares l) /\ (tab.n 74 = none) /\ (tab.f 74 = some fi74) /\ (∀ a0 H hs, quietG tab 74 [a0] H hs = true) /\ (tab.n 75 = none) /\ (tab.f 75 = some fi75) /\ (∀ l H hs, quietG tab 75 l H hs = bares l) /\ (tab.n 76 = none) /\ (tab.f 76 = some fi76) /\ (∀ l H hs, quietG tab 76 l H hs = true) /\ (tab.n 77 = none) /\ (tab.f 77 = some fi77) /\ (∀ l H hs, quietG tab 77 l H hs = bares l) /\ (tab.n 78 = none) /\ (tab.f 78 = some fi78) /\ (∀ l H hs, quietG tab 78 l H hs = bares l) /\ (tab.n 79 = none) /\ (tab.f 79 = some fi79) /\ (∀ l H hs, quietG tab 79 l H hs = true) /\ (tab.n 80 = none) /\ (tab.f 80 = some fi80) /\ (∀ l H hs, quietG tab 80 l H hs = true) /\ (tab.n 81 = none) /\ (tab.f 81 = some fi81) /\ (∀ l H hs, quietG tab 81 l H hs = bares l) /\ (tab.n 82 = none) /\ (tab.f 82 = some fi82) /\ (∀ l H hs, quietG tab 82 l H hs = bares l) /\ (tab.n 83 = none) /\ (tab.f 83 = some fi83) /\ (∀ l H hs, quietG tab 83 l H hs = bares l) /\ (tab.n 84 = none) /\ (tab.f 84 = some fi84) /\ (∀ l H hs, quietG tab 84 l H hs = bares l) /\ (tab.n 85 = none) /\ (tab.f 85 = some fi85) /\ (∀ l H hs, quietG tab 85 l H hs = bares l) /\ (tab.n 86 = none) /\ (tab.f 86 = some fi86) /\ (∀ l H hs, quietG tab 86 l H hs = bares l) /\ (tab.n 87 = none) /\ (tab.f 87 = some fi87) /\ (∀ l H hs, quietG tab 87 l H hs = bares l) /\ (tab.n 88 = none) /\ (tab.f 88 = some fi88) /\ (∀ l H hs, quietG tab 88 l H hs = bares l) /\ (tab.n 89 = none) /\ (tab.f 89 = some fi89) /\ (∀ l H hs, quietG tab 89 l H hs = bares l) /\ (tab.n 94 = none) /\ (tab.f 94 = some fi94) /\ (tab.n 95 = none) /\ (tab.f 95 = some fi95) /\ (∀ l H hs, quietG tab 95 l H hs = bares l) /\ (tab.n 96 = none) /\ (tab.f 96 = some fi96) /\ (∀ l H hs, quietG tab 96 l H hs = bares l) /\ (tab.n 97 = none) /\ (tab.f 97 = some fi97) /\ (∀ l H hs, quietG tab 97 l H hs = bares l) /\ (tab.n 98 = none) /\ (tab.f 98 = some fi98) /\ (tab.n 99 = none) /\ (tab.f 99 = some fi99) /\ (tab.n 100 = none) /\ (tab.f 100 = some fi100) /\ (tab.n 101 = none) /\ (tab.f 101 = some fi101) /\ (tab.n 102 = none) /\ (tab.f 102 = some fi102) /\ (tab.n 103 = none) /\ (tab.f 103 = some fi103) /\ (tab.n 104 = none) /\ (tab.f 104 = some fi104) /\ (tab.n 105 = none) /\ (tab.f 105 = some fi105) /\ (tab.n 106 = none) /\ (tab.f 106 = some fi106) /\ (tab.n 107 = none) /\ (tab.f 107 = some fi107) /\ (tab.n 108 = none) /\ (tab.f 108 = some fi108) /\ (tab.n 109 = none) /\ (tab.f 109 = some fi109) /\ (tab.n 110 = none) /\ (tab.f 110 = some fi110) /\ (tab.n 114 = none) /\ (tab.f 114 = some fi114) /\ (∀ l H hs, quietG tab 114 l H hs = bares l) /\ (tab.n 115 = none) /\ (tab.f 115 = some fi115) /\ (∀ l H hs, quietG tab 115 l H hs = bares l) /\ (tab.n 116 = none) /\ (tab.f 116 = some fi116) /\ (∀ l H hs, quietG tab 116 l H hs = true) /\ (tab.n 117 = none) /\ (tab.f 117 = some fi117) /\ (∀ l H hs, quietG tab 117 l H hs = bares l) /\ (tab.n 118 = none) /\ (tab.f 118 = some fi118) /\ (∀ a0 H hs, quietG tab 118 [a0] H hs = true) /\ (tab.n 119 = none) /\ (tab.f 119 = some fi119) /\ (∀ l H hs, quietG tab 119 l H hs = bares l) /\ (tab.n 120 = none) /\ (tab.f 120 = some fi120) /\ (∀ l H hs, quietG tab 120 l H hs = bares l) /\ (tab.n 121 = none) /\ (tab.f 121 = some fi121) /\ (∀ l H hs, quietG tab 121 l H hs = true) /\ (tab.n 122 = none) /\ (tab.f 122 = some fi122) /\ (∀ l H hs, quietG tab 122 l H hs = bares l) /\ (tab.n 123 = none) /\ (tab.f 123 = some fi123) /\ (∀ l H hs, quietG tab 123 l H hs = true) /\ (tab.n 124 = none) /\ (tab.f 124 = some fi124) /\ (∀ l H hs, quietG tab 124 l H hs = bares l) /\ (tab.n 125 = none) /\ (tab.f 125 = some fi125) /\ (∀ l H hs, quietG tab 125 l H hs = bares l) /\ (tab.n 126 = none) /\ (tab.f 126 = some fi126) /\ (∀ l H hs, quietG tab 126 l H hs = bares l) /\ (tab.n 133 = none) /\ (tab.f 133 = some fi133) /\ (∀ l H hs, quietG tab 133 l H hs = bares l) /\ (tab.n 134 = none) /\ (tab.f 134 = some fi134) /\ (∀ l H hs, quietG tab 134 l H hs = bares l) /\ (tab.n 135 = none) /\ (tab.f 135 = some fi135) /\ (∀ l H hs, quietG tab 135 l H hs = bares l) /\ (tab.n 136 = none) /\ (tab.f 136 = some fi136) /\ (tab.n 137 = none) /\ (tab.f 137 = some fi137) /\ (tab.n 138 = none) /\ (tab.f 138 = some fi138) /\ (tab.n 139 = none) /\ (tab.f 139 = some fi139) /\ (tab.n 140 = none) /\ (tab.f 140 = some fi140) /\ (tab.n 141 = none) /\ (tab.f 141 = some fi141) /\ (tab.n 143 = none) /\ (tab.f 143 = some fi143) /\ (∀ l H hs, quietG tab 143 l H hs = bares l) /\ (tab.n 144 = none) /\ (tab.f 144 = some fi144) /\ (∀ l H hs, quietG tab 144 l H hs = bares l) /\ (tab.n 145 = none) /\ (tab.f 145 = some fi145) /\ (∀ l H hs, quietG tab 145 l H hs = bares l) /\ (tab.n 146 = none) /\ (tab.f 146 = some fi146) /\ (∀ l H hs, quietG tab 146 l H hs = true) /\ (tab.n 147 = none) /\ (tab.f 147 = some fi147) /\ (∀ l H hs, quietG tab 147 l H hs = true) /\ (tab.n 148 = none) /\ (tab.f 148 = some fi148) /\ (∀ l H hs, quietG tab 148 l H hs = true) /\ (tab.n 149 = none) /\ (tab.f 149 = some fi149) /\ (∀ l H hs, quietG tab 149 l H hs = bares l) /\ (tab.n 151 = none) /\ (tab.f 151 = some fi151) /\ (tab.n 160 = none) /\ (tab.f 160 = some fi160) /\ (tab.n 161 = none) /\ (tab.f 161 = some fi161) /\ (∀ l H hs, quietG tab 161 l H hs = bares l) /\ (tab.n 162 = none) /\ (tab.f 162 = some fi162) /\ (∀ l H hs, quietG tab 162 l H hs = bares l) /\ (tab.n 163 = none) /\ (tab.f 163 = some fi163) /\ (∀ l H hs, quietG tab 163 l H hs = bares l) /\ (tab.n 164 = none) /\ (tab.f 164 = some fi164) /\ (tab.n 22 = some 5) /\ (∀ l H hs, quietG tab 22 l H hs = true) /\ (∀ s a b l, callO tab (evw tab) s (some (.fn (.func 22) a b)) (some l) = natO s.md.gl s.heap s.hs 5 (some (a ++ l ++ b))) /\ (∀ m l H hs, callN tab (evw tab) m 22 l H hs = natO m.gl H hs 5 (some l)) /\ (tab.n 29 = some 7) /\ (∀ l H hs, quietG tab 29 l H hs = true) /\ (∀ s a b l, callO tab (evw tab) s (some (.fn (.func 29) a b)) (some l) = natO s.md.gl s.heap s.hs 7 (some (a ++ l ++ b))) /\ (∀ m l H hs, callN tab (evw tab) m 29 l H hs = natO m.gl H hs 7 (some l)) /\ (tab.n 93 = some 8) /\ (∀ l H hs, quietG tab 93 l H hs = true) /\ (∀ s a b l, callO tab (evw tab) s (some (.fn (.func 93) a b)) (some l) = natO s.md.gl s.heap s.hs 8 (some (a ++ l ++ b))) /\ (∀ m l H hs, callN tab (evw tab) m 93 l H hs = natO m.gl H hs 8 (some l)) /\ (tab.n 69 = some 86) /\ (∀ l H hs, quietG tab 69 l H hs = true) /\ (∀ s a b l, callO tab (evw tab) s (some (.fn (.func 69) a b)) (some l) = natO s.md.gl s.heap s.hs 86 (some (a ++ l ++ b))) /\ (∀ m l H hs, callN tab (evw tab) m 69 l H hs = natO m.gl H hs 86 (some l)) /\ (tab.n 169 = some 2) /\ (∀ l H hs, quietG tab 169 l H hs = true) /\ (∀ s a b l, callO tab (evw tab) s (some (.fn (.func 169) a b)) (some l) = natO s.md.gl s.heap s.hs 2 (some (a ++ l ++ b))) /\ (∀ m l H hs, callN tab (evw tab) m 169 l H hs = natO m.gl H hs 2 (some l)) :=
 ⟨rfl, rfl, rfl, rfl, rfl, rfl, rfl, rfl, rfl, rfl, rfl, rfl, fun _ _ _ => rfl, rfl, rfl, fun _ _ _ => rfl, rfl, rfl, fun _ _ _ => rfl, rfl, rfl, fun _ _ _ => rfl, rfl, rfl, fun _ _ _ => rfl, rfl, rfl, fun _ _ _ => rfl, rfl, rfl, rfl, rfl, fun _ _ _ => rfl, rfl, rfl, rfl, rfl, rfl, rfl, rfl, rfl, rfl, rfl, rfl, rfl, rfl, rfl, fun _ _ _ => rfl, rfl, rfl, fun _ _ _ => rfl, rfl, rfl, fun _ _ _ => rfl, rfl, rfl, fun _ _ _ => rfl, rfl, rfl, fun _ _ _ => rfl, rfl, rfl, fun _ _ _ => rfl, rfl, rfl, rfl, rfl, fun _ _ _ => rfl, rfl, rfl, rfl, rfl, rfl, rfl, rfl, rfl, rfl, rfl, rfl, rfl, rfl, rfl, fun _ _ _ => rfl, rfl, rfl, fun _ _ _ => rfl, rfl, rfl, fun _ _ _ => rfl, rfl, rfl, fun _ _ _ => rfl, rfl, rfl, fun _ _ _ => rfl, rfl, rfl, fun _ _ _ => rfl, rfl, rfl, fun _ _ _ => rfl, rfl, rfl, fun _ _ _ => rfl, rfl, rfl, rfl, rfl, rfl, rfl, rfl, rfl, rfl, rfl, rfl, rfl, rfl, rfl, rfl, rfl, rfl, rfl, rfl, rfl, rfl, rfl, fun _ _ _ => rfl, rfl, rfl, rfl, rfl, rfl, rfl, rfl, rfl, rfl, rfl, rfl, rfl, rfl, rfl, fun _ _ _ => rfl, rfl, rfl, fun _ _ _ => rfl, rfl, rfl, fun _ _ _ => rfl, rfl, rfl, fun _ _ _ => rfl, rfl, rfl, fun _ _ _ => rfl, rfl, rfl, fun _ _ _ => rfl, rfl, rfl, fun _ _ _ => rfl, rfl, rfl, fun _ _ _ => rfl, rfl, rfl, fun _ _ _ => rfl, rfl, rfl, fun _ _ _ => rfl, rfl, rfl, fun _ _ _ => rfl, rfl, rfl, fun _ _ _ => rfl, rfl, rfl, fun _ _ _ => rfl, rfl, rfl, fun _ _ _ => rfl, rfl, rfl, fun _ _ _ => rfl, rfl, rfl, fun _ _ _ => rfl, rfl, rfl, fun _ _ _ => rfl, rfl, rfl, fun _ _ _ => rfl, rfl, rfl, fun _ _ _ => rfl, rfl, rfl, fun _ _ _ => rfl, rfl, rfl, rfl, rfl, fun _ _ _ => rfl, rfl, rfl, fun _ _ _ => rfl, rfl, rfl, fun _ _ _ => rfl, rfl, rfl, rfl, rfl, rfl, rfl, rfl, rfl, rfl, rfl, rfl, rfl, rfl, rfl, rfl, rfl, rfl, rfl, rfl, rfl, rfl, rfl, rfl, rfl, rfl, rfl, rfl, rfl, fun _ _ _ => rfl, rfl, rfl, fun _ _ _ => rfl, rfl, rfl, fun _ _ _ => rfl, rfl, rfl, fun _ _ _ => rfl, rfl, rfl, fun _ _ _ => rfl, rfl, rfl, fun _ _ _ => rfl, rfl, rfl, fun _ _ _ => rfl, rfl, rfl, fun _ _ _ => rfl, rfl, rfl, fun _ _ _ => rfl, rfl, rfl, fun _ _ _ => rfl, rfl, rfl, fun _ _ _ => rfl, rfl, rfl, fun _ _ _ => rfl, rfl, rfl, fun _ _ _ => rfl, rfl, rfl, fun _ _ _ => rfl, rfl, rfl, fun _ _ _ => rfl, rfl, rfl, fun _ _ _ => rfl, rfl, rfl, rfl, rfl, rfl, rfl, rfl, rfl, rfl, rfl, rfl, rfl, rfl, rfl, fun _ _ _ => rfl, rfl, rfl, fun _ _ _ => rfl, rfl, rfl, fun _ _ _ => rfl, rfl, rfl, fun _ _ _ => rfl, rfl, rfl, fun _ _ _ => rfl, rfl, rfl, fun _ _ _ => rfl, rfl, rfl, fun _ _ _ => rfl, rfl, rfl, rfl, rfl, rfl, rfl, fun _ _ _ => rfl, rfl, rfl, fun _ _ _ => rfl, rfl, rfl, fun _ _ _ => rfl, rfl, rfl, rfl, fun _ _ _ => rfl, fun _ _ _ _ => callO_n rfl, fun _ _ _ _ => callN_n rfl _ _ _ _, rfl, fun _ _ _ => rfl, fun _ _ _ _ => callO_n rfl, fun _ _ _ _ => callN_n rfl _ _ _ _, rfl, fun _ _ _ => rfl, fun _ _ _ _ => callO_n rfl, fun _ _ _ _ => callN_n rfl _ _ _ _, rfl, fun _ _ _ => rfl, fun _ _ _ _ => callO_n rfl, fun _ _ _ _ => callN_n rfl _ _ _ _, rfl, fun _ _ _ => rfl, fun _ _ _ _ => callO_n rfl, fun _ _ _ _ => callN_n rfl _ _ _ _⟩
theorem x3 : (fi3.ntmps = 54) /\ (fi3.results = [.tmp 2]) /\ (fi3.lm = 3) /\ (fi3.rts = [4]) :=
 ⟨rfl, rfl, rfl, rfl⟩
theorem b3 : fi3.body = bodyOf Tryz.f3 := rfl
theorem b4 : fi4.body = bodyOf Tryz.f4 := rfl
theorem b5 : fi5.body = bodyOf Tryz.f5 := rfl
theorem b6 : fi6.body = bodyOf Tryz.f6 := rfl
theorem x7 : (fi7.ntmps = 82) /\ (fi7.results = [.tmp 2]) /\ (fi7.lm = 3) /\ (fi7.rts = [23]) :=
 ⟨rfl, rfl, rfl, rfl⟩
theorem b7 : fi7.body = bodyOf Tryz.f7 := rfl
theorem x8 : (fi8.ntmps = 62) /\ (fi8.results = [.tmp 4]) /\ (fi8.lm = 3) /\ (fi8.rts = [3]) :=
 ⟨rfl, rfl, rfl, rfl⟩
theorem b8 : fi8.body = bodyOf Tryz.f8 := rfl
theorem x10 : (fi10.ntmps = 9) /\ (fi10.results = [.tmp 2]) /\ (fi10.lm = 3) /\ (fi10.rts = [9]) :=
 ⟨rfl, rfl, rfl, rfl⟩
theorem b10 : fi10.body = bodyOf Tryz.f10 := rfl
theorem x11 : (fi11.ntmps = 14) /\ (fi11.results = [.tmp 2]) /\ (fi11.lm = 3) /\ (fi11.rts = [4]) :=
 ⟨rfl, rfl, rfl, rfl⟩
theorem b11 : fi11.body = bodyOf Tryz.f11 := rfl
theorem x12 : (fi12.ntmps = 14) /\ (fi12.results = [.tmp 2]) /\ (fi12.lm = 3) /\ (fi12.rts = [4]) :=
 ⟨rfl, rfl, rfl, rfl⟩
theorem b12 : fi12.body = bodyOf Tryz.f12 := rfl
theorem x13 : (fi13.ntmps = 8) /\ (fi13.results = [.tmp 2]) /\ (fi13.lm = 3) /\ (fi13.rts = [9]) :=
 ⟨rfl, rfl, rfl, rfl⟩
theorem b13 : fi13.body = bodyOf Tryz.f13 := rfl
theorem x14 : (fi14.ntmps = 27) /\ (fi14.results = [.tmp 2, .tmp 3]) /\ (fi14.lm = 3) /\ (fi14.rts = [23, 29]) :=
 ⟨rfl, rfl, rfl, rfl⟩
theorem b14 : fi14.body = bodyOf Tryz.f14 := rfl
theorem x15 : (fi15.ntmps = 204) /\ (fi15.results = [.tmp 4]) /\ (fi15.lm = 3) /\ (fi15.rts = [4]) :=
 ⟨rfl, rfl, rfl, rfl⟩
theorem b15 : fi15.body = bodyOf Tryz.f15 := rfl
theorem d15 : drawsL 204 fi15.body = [some [false, false, false, false, false, false, false, false, false, false, false, false, false, false, false, false, false, false, false, false, false, false, false, false, false, false, false, false, false, false, false, false, false, false, false, false, false, false, false, false, false, false, false, false, false, false, false, false, false, false, false, false, false, false, false, false, false, false, false, false, false, false, false, false, false, false, false, false, false, false, false, false, false, false, false, false, false, false, false, false, false, false, false, false, false, false, false, false, false, false, false, false], some [false, false, false, false, false, false, false, false, false, false, false, false, false, false, false], some [false, false, false, false, false, false, false, false, false, false, false, false, false, false, false], some [false, false, false, false, false, false, false, false, false, false, false, false, false, false, false], some [false, false, false, false, false, false, false, false, false, false, false, false, false, false, false, false, false, false, false, false, false]] := by kernel_rfl
theorem x23 : (fi23.ntmps = 19) /\ (fi23.results = [.tmp 2]) /\ (fi23.lm = 3) /\ (fi23.rts = [39]) :=
 ⟨rfl, rfl, rfl, rfl⟩
theorem b23 : fi23.body = bodyOf Tryz.f23 := rfl
theorem d23 : drawsL 19 fi23.body = [some [false, true, false, false, false, false, true, false, false, false, false, false, false, false, false]] := by kernel_rfl
theorem x24 : (fi24.ntmps = 24) /\ (fi24.results = [.tmp 4]) /\ (fi24.lm = 3) /\ (fi24.rts = [3]) :=
 ⟨rfl, rfl, rfl, rfl⟩
theorem b24 : fi24.body = bodyOf Tryz.f24 := rfl
theorem d24 : drawsL 24 fi24.body = [some [false, false, false, false, false, false, false, false, false, false, true, false, false]] := by kernel_rfl
theorem x25 : (fi25.ntmps = 27) /\ (fi25.results = [.tmp 2]) /\ (fi25.lm = 3) /\ (fi25.rts = [4]) :=
 ⟨rfl, rfl, rfl, rfl⟩
theorem b25 : fi25.body = bodyOf Tryz.f25 := rfl
theorem x26 : (fi26.ntmps = 30) /\ (fi26.results = [.tmp 4]) /\ (fi26.lm = 3) /\ (fi26.rts = [3]) :=
 ⟨rfl, rfl, rfl, rfl⟩
theorem b26 : fi26.body = bodyOf Tryz.f26 := rfl
theorem x27 : (fi27.ntmps = 21) /\ (fi27.results = [.tmp 2]) /\ (fi27.lm = 3) /\ (fi27.rts = [4]) :=
 ⟨rfl, rfl, rfl, rfl⟩
theorem b27 : fi27.body = bodyOf Tryz.f27 := rfl
theorem x28 : (fi28.ntmps = 33) /\ (fi28.results = [.tmp 2]) /\ (fi28.lm = 3) /\ (fi28.rts = [9]) :=
 ⟨rfl, rfl, rfl, rfl⟩
theorem b28 : fi28.body = bodyOf Tryz.f28 := rfl
theorem x30 : (fi30.ntmps = 133) /\ (fi30.results = [.tmp 2]) /\ (fi30.lm = 3) /\ (fi30.rts = [23]) :=
 ⟨rfl, rfl, rfl, rfl⟩
theorem b30 : fi30.body = bodyOf Tryz.f30 := rfl
theorem x41 : (fi41.ntmps = 36) /\ (fi41.results = [.tmp 2]) /\ (fi41.lm = 3) /\ (fi41.rts = [39]) :=
 ⟨rfl, rfl, rfl, rfl⟩
theorem b41 : fi41.body = bodyOf Tryz.f41 := rfl
theorem x42 : (fi42.ntmps = 139) /\ (fi42.results = [.tmp 2]) /\ (fi42.lm = 3) /\ (fi42.rts = [39]) :=
 ⟨rfl, rfl, rfl, rfl⟩
theorem b42 : fi42.body = bodyOf Tryz.f42 := rfl
theorem d42 : drawsL 139 fi42.body = [some [true, false, false, false, false, false, false, false, false, false], some [false, false, false, false, false, false, false, false], some [false, false, false, true, true, false, false, false], some [false, false, false, false, false, false, false, false, false, false, false]] := by kernel_rfl
theorem x43 : (fi43.ntmps = 139) /\ (fi43.results = [.tmp 2]) /\ (fi43.lm = 3) /\ (fi43.rts = [4]) :=
 ⟨rfl, rfl, rfl, rfl⟩
theorem b43 : fi43.body = bodyOf Tryz.f43 := rfl
theorem d43 : drawsL 139 fi43.body = [some [false, false, false, false, false, false, false, false, false, false, false, false, false, false, false, false, false, false, false, false, false, false, false, false, false], some [false, false, false, false, false, false, false, false, false, false, false, false, false, false, false, false, false, false, false]] := by kernel_rfl
theorem x44 : (fi44.ntmps = 162) /\ (fi44.results = [.tmp 2]) /\ (fi44.lm = 3) /\ (fi44.rts = [4]) :=
 ⟨rfl, rfl, rfl, rfl⟩
theorem b44 : fi44.body = bodyOf Tryz.f44 := rfl
theorem d44 : drawsL 162 fi44.body = [some [false, false, false, false, true, false, false, false, false, true, false, false, false, false]] := by kernel_rfl
theorem x45 : (fi45.ntmps = 272) /\ (fi45.results = [.tmp 2]) /\ (fi45.lm = 3) /\ (fi45.rts = [4]) :=
 ⟨rfl, rfl, rfl, rfl⟩
theorem b45 : fi45.body = bodyOf Tryz.f45 := rfl
theorem x46 : (fi46.ntmps = 163) /\ (fi46.results = [.tmp 2]) /\ (fi46.lm = 3) /\ (fi46.rts = [9]) :=
 ⟨rfl, rfl, rfl, rfl⟩
theorem b46 : fi46.body = bodyOf Tryz.f46 := rfl
theorem d46 : drawsL 163 fi46.body = [some [false, false, false, false, false, false, false, false, false, false, false, false, false], some [false, false, false, true, false, false, true, false, false, false, false], some [false, false, false, false, false, false, false, false, false, true, false, false, false, false, false, false, false, false, false, false], some [false, false, false, false, false, true, false, false, false, false, false, false]] := by kernel_rfl
theorem x49 : (fi49.ntmps = 2) /\ (fi49.results = [.tmp 0]) /\ (fi49.lm = 3) /\ (fi49.rts = [39]) :=
 ⟨rfl, rfl, rfl, rfl⟩
theorem b49 : fi49.body = bodyOf Tryz.f49 := rfl
theorem x50 : (fi50.ntmps = 34) /\ (fi50.results = [.tmp 2]) /\ (fi50.lm = 3) /\ (fi50.rts = [9]) :=
 ⟨rfl, rfl, rfl, rfl⟩
theorem b50 : fi50.body = bodyOf Tryz.f50 := rfl
theorem x51 : (fi51.ntmps = 33) /\ (fi51.results = [.tmp 2]) /\ (fi51.lm = 3) /\ (fi51.rts = [3]) :=
 ⟨rfl, rfl, rfl, rfl⟩
theorem b51 : fi51.body = bodyOf Tryz.f51 := rfl
theorem x52 : (fi52.ntmps = 26) /\ (fi52.results = [.tmp 4]) /\ (fi52.lm = 3) /\ (fi52.rts = [43]) :=
 ⟨rfl, rfl, rfl, rfl⟩
theorem b52 : fi52.body = bodyOf Tryz.f52 := rfl
theorem x53 : (fi53.ntmps = 18) /\ (fi53.results = [.cell 2 60]) /\ (fi53.lm = 3) /\ (fi53.rts = [60]) :=
 ⟨rfl, rfl, rfl, rfl⟩
theorem b53 : fi53.body = bodyOf Tryz.f53 := rfl
theorem x54 : (fi54.ntmps = 26) /\ (fi54.results = [.tmp 4]) /\ (fi54.lm = 3) /\ (fi54.rts = [44]) :=
 ⟨rfl, rfl, rfl, rfl⟩
theorem b54 : fi54.body = bodyOf Tryz.f54 := rfl
theorem x55 : (fi55.ntmps = 8) /\ (fi55.results = [.cell 2 62]) /\ (fi55.lm = 3) /\ (fi55.rts = [62]) :=
 ⟨rfl, rfl, rfl, rfl⟩
theorem b55 : fi55.body = bodyOf Tryz.f55 := rfl
theorem x56 : (fi56.ntmps = 26) /\ (fi56.results = [.tmp 4]) /\ (fi56.lm = 3) /\ (fi56.rts = [45]) :=
 ⟨rfl, rfl, rfl, rfl⟩
theorem b56 : fi56.body = bodyOf Tryz.f56 := rfl
theorem x67 : (fi67.ntmps = 27) /\ (fi67.results = [.tmp 4]) /\ (fi67.lm = 3) /\ (fi67.rts = [39]) :=
 ⟨rfl, rfl, rfl, rfl⟩
theorem b67 : fi67.body = bodyOf Tryz.f67 := rfl
theorem x68 : (fi68.ntmps = 17) /\ (fi68.results = []) /\ (fi68.lm = 3) /\ (fi68.rts = []) :=
 ⟨rfl, rfl, rfl, rfl⟩
theorem b68 : fi68.body = bodyOf Tryz.f68 := rfl
theorem d68 : drawsL 17 fi68.body = [some [false, false, true, false, false, false]] := by kernel_rfl
theorem x70 : (fi70.ntmps = 24) /\ (fi70.results = [.tmp 2]) /\ (fi70.lm = 3) /\ (fi70.rts = [9]) :=
 ⟨rfl, rfl, rfl, rfl⟩
theorem b70 : fi70.body = bodyOf Tryz.f70 := rfl
theorem d70 : drawsL 24 fi70.body = [some [false, false, false, false, false, false, false, false, false, false]] := by kernel_rfl
theorem x71 : (fi71.ntmps = 66) /\ (fi71.results = [.tmp 2]) /\ (fi71.lm = 3) /\ (fi71.rts = [84]) :=
 ⟨rfl, rfl, rfl, rfl⟩
theorem b71 : fi71.body = bodyOf Tryz.f71 := rfl
theorem x72 : (fi72.ntmps = 61) /\ (fi72.results = [.tmp 2]) /\ (fi72.lm = 3) /\ (fi72.rts = [3]) :=
 ⟨rfl, rfl, rfl, rfl⟩
theorem b72 : fi72.body = bodyOf Tryz.f72 := rfl
theorem d72 : drawsL 61 fi72.body = [some [false, false, false, false, true, false, false, false, false, false, false, false]] := by kernel_rfl
theorem x73 : (fi73.ntmps = 25) /\ (fi73.results = [.tmp 4]) /\ (fi73.lm = 3) /\ (fi73.rts = [4]) :=
 ⟨rfl, rfl, rfl, rfl⟩
theorem b73 : fi73.body = bodyOf Tryz.f73 := rfl
theorem x74 : (fi74.ntmps = 11) /\ (fi74.results = [.tmp 3]) /\ (fi74.lm = 3) /\ (fi74.rts = [4]) :=
 ⟨rfl, rfl, rfl, rfl⟩
theorem b74 : fi74.body = bodyOf Tryz.f74 := rfl
theorem x75 : (fi75.ntmps = 42) /\ (fi75.results = [.tmp 2]) /\ (fi75.lm = 3) /\ (fi75.rts = [4]) :=
 ⟨rfl, rfl, rfl, rfl⟩
theorem b75 : fi75.body = bodyOf Tryz.f75 := rfl
theorem x76 : (fi76.ntmps = 9) /\ (fi76.results = [.tmp 4]) /\ (fi76.lm = 3) /\ (fi76.rts = [4]) :=
 ⟨rfl, rfl, rfl, rfl⟩
theorem b76 : fi76.body = bodyOf Tryz.f76 := rfl
theorem x77 : (fi77.ntmps = 7) /\ (fi77.results = [.tmp 3]) /\ (fi77.lm = 3) /\ (fi77.rts = [4]) :=
 ⟨rfl, rfl, rfl, rfl⟩
theorem b77 : fi77.body = bodyOf Tryz.f77 := rfl
theorem x78 : (fi78.ntmps = 47) /\ (fi78.results = [.tmp 4]) /\ (fi78.lm = 3) /\ (fi78.rts = [4]) :=
 ⟨rfl, rfl, rfl, rfl⟩
theorem b78 : fi78.body = bodyOf Tryz.f78 := rfl
theorem d78 : drawsL 47 fi78.body = [some [false, true, false, false], some [false, false, false, false, false, false, false, true, false, false, false]] := by kernel_rfl
theorem x79 : (fi79.ntmps = 9) /\ (fi79.results = [.tmp 4]) /\ (fi79.lm = 3) /\ (fi79.rts = [4]) :=
 ⟨rfl, rfl, rfl, rfl⟩
theorem b79 : fi79.body = bodyOf Tryz.f79 := rfl
theorem x80 : (fi80.ntmps = 9) /\ (fi80.results = [.tmp 4]) /\ (fi80.lm = 3) /\ (fi80.rts = [4]) :=
 ⟨rfl, rfl, rfl, rfl⟩
theorem b80 : fi80.body = bodyOf Tryz.f80 := rfl
theorem x81 : (fi81.ntmps = 52) /\ (fi81.results = [.tmp 2]) /\ (fi81.lm = 3) /\ (fi81.rts = [3]) :=
 ⟨rfl, rfl, rfl, rfl⟩
theorem b81 : fi81.body = bodyOf Tryz.f81 := rfl
theorem d81 : drawsL 52 fi81.body = [some [false, false, false, false, true, false, false, false, false, false, false, false]] := by kernel_rfl
theorem x82 : (fi82.ntmps = 47) /\ (fi82.results = [.tmp 2]) /\ (fi82.lm = 3) /\ (fi82.rts = [4]) :=
 ⟨rfl, rfl, rfl, rfl⟩
theorem b82 : fi82.body = bodyOf Tryz.f82 := rfl
theorem x83 : (fi83.ntmps = 80) /\ (fi83.results = [.tmp 12]) /\ (fi83.lm = 3) /\ (fi83.rts = [4]) :=
 ⟨rfl, rfl, rfl, rfl⟩
theorem b83 : fi83.body = bodyOf Tryz.f83 := rfl
theorem x84 : (fi84.ntmps = 51) /\ (fi84.results = [.tmp 4]) /\ (fi84.lm = 3) /\ (fi84.rts = [4]) :=
 ⟨rfl, rfl, rfl, rfl⟩
theorem b84 : fi84.body = bodyOf Tryz.f84 := rfl
theorem x85 : (fi85.ntmps = 46) /\ (fi85.results = [.tmp 6]) /\ (fi85.lm = 3) /\ (fi85.rts = [4]) :=
 ⟨rfl, rfl, rfl, rfl⟩
theorem b85 : fi85.body = bodyOf Tryz.f85 := rfl
theorem x86 : (fi86.ntmps = 25) /\ (fi86.results = [.tmp 4]) /\ (fi86.lm = 3) /\ (fi86.rts = [4]) :=
 ⟨rfl, rfl, rfl, rfl⟩
theorem b86 : fi86.body = bodyOf Tryz.f86 := rfl
theorem x87 : (fi87.ntmps = 10) /\ (fi87.results = [.tmp 4]) /\ (fi87.lm = 3) /\ (fi87.rts = [9]) :=
 ⟨rfl, rfl, rfl, rfl⟩
theorem b87 : fi87.body = bodyOf Tryz.f87 := rfl
theorem x88 : (fi88.ntmps = 42) /\ (fi88.results = [.tmp 2]) /\ (fi88.lm = 3) /\ (fi88.rts = [9]) :=
 ⟨rfl, rfl, rfl, rfl⟩
theorem b88 : fi88.body = bodyOf Tryz.f88 := rfl
theorem d88 : drawsL 42 fi88.body = [some [false, false, false, false, false, false, false, false, false, false, false, false, false, false, false, false, false, false, false, false, false, false, false, false, false, false, false, false, false, false]] := by kernel_rfl
theorem x89 : (fi89.ntmps = 69) /\ (fi89.results = [.tmp 2]) /\ (fi89.lm = 3) /\ (fi89.rts = [84]) :=
 ⟨rfl, rfl, rfl, rfl⟩
theorem b89 : fi89.body = bodyOf Tryz.f89 := rfl
theorem x94 : (fi94.ntmps = 36) /\ (fi94.results = [.cell 2 58]) /\ (fi94.lm = 3) /\ (fi94.rts = [58]) :=
 ⟨rfl, rfl, rfl, rfl⟩
theorem b94 : fi94.body = bodyOf Tryz.f94 := rfl
theorem x114 : (fi114.ntmps = 37) /\ (fi114.results = [.tmp 2]) /\ (fi114.lm = 3) /\ (fi114.rts = [4]) :=
 ⟨rfl, rfl, rfl, rfl⟩
theorem b114 : fi114.body = bodyOf Tryz.f114 := rfl
theorem d114 : drawsL 37 fi114.body = [some [false, true, false, false], some [false, false, false, true, false, false], some [false, false, false, true, false, false], some [false, false, false, true, false, false, false, false, false, false, false, false]] := by kernel_rfl
theorem x115 : (fi115.ntmps = 9) /\ (fi115.results = [.tmp 2]) /\ (fi115.lm = 3) /\ (fi115.rts = [4]) :=
 ⟨rfl, rfl, rfl, rfl⟩
theorem b115 : fi115.body = bodyOf Tryz.f115 := rfl
theorem x116 : (fi116.ntmps = 9) /\ (fi116.results = [.tmp 4]) /\ (fi116.lm = 3) /\ (fi116.rts = [4]) :=
 ⟨rfl, rfl, rfl, rfl⟩
theorem b116 : fi116.body = bodyOf Tryz.f116 := rfl
theorem x117 : (fi117.ntmps = 8) /\ (fi117.results = [.tmp 3]) /\ (fi117.lm = 3) /\ (fi117.rts = [4]) :=
 ⟨rfl, rfl, rfl, rfl⟩
theorem b117 : fi117.body = bodyOf Tryz.f117 := rfl
theorem x118 : (fi118.ntmps = 11) /\ (fi118.results = [.tmp 3]) /\ (fi118.lm = 3) /\ (fi118.rts = [4]) :=
 ⟨rfl, rfl, rfl, rfl⟩
theorem b118 : fi118.body = bodyOf Tryz.f118 := rfl
theorem x119 : (fi119.ntmps = 2) /\ (fi119.results = [.cell 0 60]) /\ (fi119.lm = 3) /\ (fi119.rts = [60]) :=
 ⟨rfl, rfl, rfl, rfl⟩
theorem b119 : fi119.body = bodyOf Tryz.f119 := rfl
theorem x120 : (fi120.ntmps = 2) /\ (fi120.results = [.cell 0 58]) /\ (fi120.lm = 3) /\ (fi120.rts = [58]) :=
 ⟨rfl, rfl, rfl, rfl⟩
theorem b120 : fi120.body = bodyOf Tryz.f120 := rfl
theorem x121 : (fi121.ntmps = 9) /\ (fi121.results = [.tmp 4]) /\ (fi121.lm = 3) /\ (fi121.rts = [4]) :=
 ⟨rfl, rfl, rfl, rfl⟩
theorem b121 : fi121.body = bodyOf Tryz.f121 := rfl
theorem x122 : (fi122.ntmps = 8) /\ (fi122.results = [.tmp 3]) /\ (fi122.lm = 3) /\ (fi122.rts = [4]) :=
 ⟨rfl, rfl, rfl, rfl⟩
theorem b122 : fi122.body = bodyOf Tryz.f122 := rfl
theorem x123 : (fi123.ntmps = 9) /\ (fi123.results = [.tmp 4]) /\ (fi123.lm = 3) /\ (fi123.rts = [4]) :=
 ⟨rfl, rfl, rfl, rfl⟩
theorem b123 : fi123.body = bodyOf Tryz.f123 := rfl
theorem x124 : (fi124.ntmps = 8) /\ (fi124.results = [.tmp 3]) /\ (fi124.lm = 3) /\ (fi124.rts = [4]) :=
 ⟨rfl, rfl, rfl, rfl⟩
theorem b124 : fi124.body = bodyOf Tryz.f124 := rfl
theorem x125 : (fi125.ntmps = 44) /\ (fi125.results = [.tmp 2]) /\ (fi125.lm = 3) /\ (fi125.rts = [4]) :=
 ⟨rfl, rfl, rfl, rfl⟩
theorem b125 : fi125.body = bodyOf Tryz.f125 := rfl
theorem x126 : (fi126.ntmps = 13) /\ (fi126.results = [.tmp 2]) /\ (fi126.lm = 3) /\ (fi126.rts = [9]) :=
 ⟨rfl, rfl, rfl, rfl⟩
theorem b126 : fi126.body = bodyOf Tryz.f126 := rfl
theorem x133 : (fi133.ntmps = 35) /\ (fi133.results = [.tmp 2, .tmp 3]) /\ (fi133.lm = 3) /\ (fi133.rts = [84, 4]) :=
 ⟨rfl, rfl, rfl, rfl⟩
theorem b133 : fi133.body = bodyOf Tryz.f133 := rfl
theorem d133 : drawsL 35 fi133.body = [some [false, false, false, false, false, false, false, false]] := by kernel_rfl
theorem x134 : (fi134.ntmps = 52) /\ (fi134.results = [.cell 2 58, .tmp 3, .tmp 4]) /\ (fi134.lm = 3) /\ (fi134.rts = [58, 3, 29]) :=
 ⟨rfl, rfl, rfl, rfl⟩
theorem b134 : fi134.body = bodyOf Tryz.f134 := rfl
theorem x143 : (fi143.ntmps = 5) /\ (fi143.results = [.cell 2 58]) /\ (fi143.lm = 3) /\ (fi143.rts = [58]) :=
 ⟨rfl, rfl, rfl, rfl⟩
theorem b143 : fi143.body = bodyOf Tryz.f143 := rfl
theorem x144 : (fi144.ntmps = 5) /\ (fi144.results = [.cell 2 58]) /\ (fi144.lm = 3) /\ (fi144.rts = [58]) :=
 ⟨rfl, rfl, rfl, rfl⟩
theorem b144 : fi144.body = bodyOf Tryz.f144 := rfl
theorem x145 : (fi145.ntmps = 5) /\ (fi145.results = [.cell 2 58]) /\ (fi145.lm = 3) /\ (fi145.rts = [58]) :=
 ⟨rfl, rfl, rfl, rfl⟩
theorem b145 : fi145.body = bodyOf Tryz.f145 := rfl
theorem x146 : (fi146.ntmps = 19) /\ (fi146.results = [.tmp 4]) /\ (fi146.lm = 3) /\ (fi146.rts = [3]) :=
 ⟨rfl, rfl, rfl, rfl⟩
theorem b146 : fi146.body = bodyOf Tryz.f146 := rfl
theorem x147 : (fi147.ntmps = 19) /\ (fi147.results = [.tmp 4]) /\ (fi147.lm = 3) /\ (fi147.rts = [3]) :=
 ⟨rfl, rfl, rfl, rfl⟩
theorem b147 : fi147.body = bodyOf Tryz.f147 := rfl
theorem x148 : (fi148.ntmps = 19) /\ (fi148.results = [.tmp 4]) /\ (fi148.lm = 3) /\ (fi148.rts = [3]) :=
 ⟨rfl, rfl, rfl, rfl⟩
theorem b148 : fi148.body = bodyOf Tryz.f148 := rfl
theorem x149 : (fi149.ntmps = 29) /\ (fi149.results = [.tmp 2]) /\ (fi149.lm = 3) /\ (fi149.rts = [9]) :=
 ⟨rfl, rfl, rfl, rfl⟩
theorem b149 : fi149.body = bodyOf Tryz.f149 := rfl
theorem x151 : (fi151.ntmps = 8) /\ (fi151.results = [.tmp 4]) /\ (fi151.lm = 3) /\ (fi151.rts = [3]) :=
 ⟨rfl, rfl, rfl, rfl⟩
theorem b151 : fi151.body = bodyOf Tryz.f151 := rfl
theorem x160 : (fi160.ntmps = 8) /\ (fi160.results = [.tmp 4]) /\ (fi160.lm = 3) /\ (fi160.rts = [3]) :=
 ⟨rfl, rfl, rfl, rfl⟩
theorem b160 : fi160.body = bodyOf Tryz.f160 := rfl
theorem x162 : (fi162.ntmps = 29) /\ (fi162.results = [.cell 2 58, .tmp 3, .tmp 4]) /\ (fi162.lm = 3) /\ (fi162.rts = [58, 3, 29]) :=
 ⟨rfl, rfl, rfl, rfl⟩
theorem b162 : fi162.body = bodyOf Tryz.f162 := rfl
theorem x163 : (fi163.ntmps = 50) /\ (fi163.results = [.tmp 2, .tmp 3, .tmp 4]) /\ (fi163.lm = 3) /\ (fi163.rts = [9, 3, 29]) :=
 ⟨rfl, rfl, rfl, rfl⟩
theorem b163 : fi163.body = bodyOf Tryz.f163 := rfl
def sGAM := an stH (an stQ (an stE (an stC (an xI (an xF @Nat.max_def)))))
def sGA := an stM sGAM
def sG := an stA sGA
end Go.Proofs.YtcledcfeddlomaaGreatDoor.Ev
