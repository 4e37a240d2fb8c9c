import Derived.Test.YtbcecenneganeaaEvR
import Derived.KernelRfl
import Derived.Test.YtbcecenneganeaaTabD
set_option linter.all false
set_option maxRecDepth 100000
namespace Go.Proofs.Ytbcecenneganeaa.Ev
open Go Go.Proofs.Ytbcecenneganeaa.Ev Go.Proofs Go.Proofs.Ytbcecenneganeaa Go.Proofs.Ytbcecenneganeaa.Tab
section
variable {α : Type} {ro : Option Nat} {F : AX → AS → Option α} {K : List Fr} {s : AS}

/-! 5: verderer/verdererlaw39.DrillFirst -/
noncomputable def c5 : Code := fi5.body
noncomputable def c5_0 : Code := sq1 c5
noncomputable def c5_1 : Code := sq2 c5
theorem wc5 : W tab ro F c5 K s = W tab ro F c5_0 (.sq c5_1 :: K) s := Wc_seq (show c5 = .seq c5_0 c5_1 from rfl)
noncomputable def r5_0 : Array Oper := rg1 c5_0
theorem wc5_0 : W tab ro F c5_0 K s = I tab ro F r5_0 0 K s := Wc_region (show c5_0 = .region 0 r5_0 false from rfl)
theorem i5_0_0 : I tab ro F r5_0 0 K s = I1 tab ro F r5_0 1 K (setO s (some 6) (opd s (.const (.bool false)))) := I_plain rfl rfl (ev_assign)
theorem i5_0_e : I tab ro F r5_0 1 K s = kont tab ro F K .normal s := I_end rfl
noncomputable def c5_2 : Code := sq1 c5_1
noncomputable def c5_3 : Code := sq2 c5_1
theorem wc5_1 : W tab ro F c5_1 K s = W tab ro F c5_2 (.sq c5_3 :: K) s := Wc_seq (show c5_1 = .seq c5_2 c5_3 from rfl)
noncomputable def r5_1 : Array Oper := rg1 c5_2
theorem wc5_2 : W tab ro F c5_2 K s = I tab ro F r5_1 0 K s := Wc_region (show c5_2 = .region 1 r5_1 false from rfl)
theorem i5_1_0 : I tab ro F r5_1 0 K s = I1 tab ro F r5_1 1 K (setO s (some 14) (opd s (.tmp 0))) := I_plain rfl rfl (ev_move)
theorem i5_1_1 : I tab ro F r5_1 1 K s = I1 tab ro F r5_1 2 K (setO s (some 15) (opd s (.tmp 1))) := I_plain rfl rfl (ev_move)
theorem i5_1_2 : I tab ro F r5_1 2 K s = I1 tab ro F r5_1 3 K (setE s (some 16) (callG tab (evw tab) s 21 (opds s [(.tmp 14), (.tmp 15)]))) := I_plain rfl rfl (u_call)
theorem i5_1_3 : I tab ro F r5_1 3 K s = I1 tab ro F r5_1 4 K (setO s (some 13) (opd s (.tmp 16))) := I_plain rfl rfl (ev_move)
theorem i5_1_4 : I tab ro F r5_1 4 K s = I1 tab ro F r5_1 5 K (setO s (some 17) (extractO 0 (opd s (.tmp 13)))) := I_plain rfl rfl (ev_extract.trans (congrArg (setO s _) u_extract))
theorem i5_1_5 : I tab ro F r5_1 5 K s = I1 tab ro F r5_1 6 K (setO s (some 18) (extractO 1 (opd s (.tmp 13)))) := I_plain rfl rfl (ev_extract.trans (congrArg (setO s _) u_extract))
theorem i5_1_6 : I tab ro F r5_1 6 K s = I1 tab ro F r5_1 7 K (setO s (some 19) (extractO 2 (opd s (.tmp 13)))) := I_plain rfl rfl (ev_extract.trans (congrArg (setO s _) u_extract))
theorem i5_1_7 : I tab ro F r5_1 7 K s = I1 tab ro F r5_1 8 K (setO s (some 7) (opd s (.tmp 17))) := I_plain rfl rfl (ev_assign)
theorem i5_1_8 : I tab ro F r5_1 8 K s = I1 tab ro F r5_1 9 K (setO s (some 8) (opd s (.tmp 18))) := I_plain rfl rfl (ev_assign)
theorem i5_1_9 : I tab ro F r5_1 9 K s = I1 tab ro F r5_1 10 K (setO s (some 9) (opd s (.tmp 19))) := I_plain rfl rfl (ev_assign)
theorem i5_1_e : I tab ro F r5_1 10 K s = kont tab ro F K .normal s := I_end rfl
noncomputable def c5_4 : Code := sq1 c5_3
noncomputable def c5_5 : Code := sq2 c5_3
theorem wc5_3 : W tab ro F c5_3 K s = W tab ro F c5_4 (.sq c5_5 :: K) s := Wc_seq (show c5_3 = .seq c5_4 c5_5 from rfl)
noncomputable def r5_2 : Array Oper := rg1 c5_4
theorem wc5_4 : W tab ro F c5_4 K s = I tab ro F r5_2 0 K s := Wc_region (show c5_4 = .region 2 r5_2 false from rfl)
theorem i5_2_0 : I tab ro F r5_2 0 K s = I1 tab ro F r5_2 1 K (setO s (some 21) (opd s (.tmp 0))) := I_plain rfl rfl (ev_move)
theorem i5_2_1 : I tab ro F r5_2 1 K s = I1 tab ro F r5_2 2 K (setO s (some 22) (opd s (.tmp 2))) := I_plain rfl rfl (ev_move)
theorem i5_2_2 : I tab ro F r5_2 2 K s = I1 tab ro F r5_2 3 K (setE s (some 23) (callG tab (evw tab) s 21 (opds s [(.tmp 21), (.tmp 22)]))) := I_plain rfl rfl (u_call)
theorem i5_2_3 : I tab ro F r5_2 3 K s = I1 tab ro F r5_2 4 K (setO s (some 20) (opd s (.tmp 23))) := I_plain rfl rfl (ev_move)
theorem i5_2_4 : I tab ro F r5_2 4 K s = I1 tab ro F r5_2 5 K (setO s (some 24) (extractO 0 (opd s (.tmp 20)))) := I_plain rfl rfl (ev_extract.trans (congrArg (setO s _) u_extract))
theorem i5_2_5 : I tab ro F r5_2 5 K s = I1 tab ro F r5_2 6 K (setO s (some 25) (extractO 1 (opd s (.tmp 20)))) := I_plain rfl rfl (ev_extract.trans (congrArg (setO s _) u_extract))
theorem i5_2_6 : I tab ro F r5_2 6 K s = I1 tab ro F r5_2 7 K (setO s (some 26) (extractO 2 (opd s (.tmp 20)))) := I_plain rfl rfl (ev_extract.trans (congrArg (setO s _) u_extract))
theorem i5_2_7 : I tab ro F r5_2 7 K s = I1 tab ro F r5_2 8 K (setO s (some 10) (opd s (.tmp 24))) := I_plain rfl rfl (ev_assign)
theorem i5_2_8 : I tab ro F r5_2 8 K s = I1 tab ro F r5_2 9 K (setO s (some 11) (opd s (.tmp 25))) := I_plain rfl rfl (ev_assign)
theorem i5_2_9 : I tab ro F r5_2 9 K s = I1 tab ro F r5_2 10 K (setO s (some 12) (opd s (.tmp 26))) := I_plain rfl rfl (ev_assign)
theorem i5_2_e : I tab ro F r5_2 10 K s = kont tab ro F K .normal s := I_end rfl
noncomputable def c5_6 : Code := sq1 c5_5
noncomputable def c5_7 : Code := sq2 c5_5
theorem wc5_5 : W tab ro F c5_5 K s = W tab ro F c5_6 (.sq c5_7 :: K) s := Wc_seq (show c5_5 = .seq c5_6 c5_7 from rfl)
noncomputable def c5_8 : Code := sq1 c5_6
noncomputable def c5_9 : Code := sq2 c5_6
theorem wc5_6 : W tab ro F c5_6 K s = W tab ro F c5_8 (.sq c5_9 :: K) s := Wc_seq (show c5_6 = .seq c5_8 c5_9 from rfl)
noncomputable def r5_3 : Array Oper := rg1 c5_8
theorem wc5_8 : W tab ro F c5_8 K s = I tab ro F r5_3 0 K s := Wc_region (show c5_8 = .region 3 r5_3 false from rfl)
theorem i5_3_0 : I tab ro F r5_3 0 K s = I1 tab ro F r5_3 1 K (setO s (some 27) (opd s (.tmp 9))) := I_plain rfl rfl (ev_move)
theorem i5_3_1 : I tab ro F r5_3 1 K s = I1 tab ro F r5_3 2 K (setO s (some 28) (binO tab .neq 46 (.tmp 27) (.const (.int .i64 (0))) (opd s (.tmp 27)) (opd s (.const (.int .i64 (0)))))) := I_plain rfl rfl (ev_binOp.trans (congrArg (setO s _) u_bin))
theorem i5_3_2 : I tab ro F r5_3 2 K s = I1 tab ro F r5_3 3 K (setO s (some 29) (opd s (.tmp 28))) := I_plain rfl rfl (ev_move)
theorem i5_3_3 : I tab ro F r5_3 3 K s = IG tab ro F r5_3 4 K false (setO s (some 30) (opd s (.tmp 12))) (setT s (some 30) udef) (opd s (.tmp 29)) := I_guard (d := (some 30)) rfl rfl rfl rfl rfl (ev_move)
theorem i5_3_4 : I tab ro F r5_3 4 K s = IG tab ro F r5_3 5 K false (setO s (some 31) (binO tab .neq 46 (.tmp 30) (.const (.int .i64 (0))) (opd s (.tmp 30)) (opd s (.const (.int .i64 (0)))))) (setT s (some 31) udef) (opd s (.tmp 29)) := I_guard (d := (some 31)) rfl rfl rfl rfl rfl (ev_binOp.trans (congrArg (setO s _) u_bin))
theorem i5_3_5 : I tab ro F r5_3 5 K s = I1 tab ro F r5_3 6 K (setO s (some 32) (pickO (opd s (.tmp 29)) (opd s (.const (.bool true))) (opd s (.tmp 31)))) := I_plain rfl rfl (ev_pick.trans (congrArg (setO s _) u_pick))
theorem i5_3_6 : I tab ro F r5_3 6 K s = I1 tab ro F r5_3 7 K (setO s (some 33) (opd s (.tmp 32))) := I_plain rfl rfl (ev_move)
theorem i5_3_7 : I tab ro F r5_3 7 K s = IG tab ro F r5_3 8 K false (setO s (some 34) (opd s (.tmp 1))) (setT s (some 34) udef) (opd s (.tmp 33)) := I_guard (d := (some 34)) rfl rfl rfl rfl rfl (ev_move)
theorem i5_3_8 : I tab ro F r5_3 8 K s = IG tab ro F r5_3 9 K false (setO s (some 35) (opd s (.tmp 2))) (setT s (some 35) udef) (opd s (.tmp 33)) := I_guard (d := (some 35)) rfl rfl rfl rfl rfl (ev_move)
theorem i5_3_9 : I tab ro F r5_3 9 K s = IG tab ro F r5_3 10 K false (setO s (some 36) (binO tab .gtr 3 (.tmp 34) (.tmp 35) (opd s (.tmp 34)) (opd s (.tmp 35)))) (setT s (some 36) udef) (opd s (.tmp 33)) := I_guard (d := (some 36)) rfl rfl rfl rfl rfl (ev_binOp.trans (congrArg (setO s _) u_bin))
theorem i5_3_10 : I tab ro F r5_3 10 K s = I1 tab ro F r5_3 11 K (setO s (some 37) (pickO (opd s (.tmp 33)) (opd s (.const (.bool true))) (opd s (.tmp 36)))) := I_plain rfl rfl (ev_pick.trans (congrArg (setO s _) u_pick))
theorem i5_3_11 : I tab ro F r5_3 11 K s = I1 tab ro F r5_3 12 K (setO s (some 38) (opd s (.tmp 37))) := I_plain rfl rfl (ev_move)
theorem i5_3_12 : I tab ro F r5_3 12 K s = IG tab ro F r5_3 13 K false (setO s (some 39) (opd s (.tmp 8))) (setT s (some 39) udef) (opd s (.tmp 38)) := I_guard (d := (some 39)) rfl rfl rfl rfl rfl (ev_move)
theorem i5_3_13 : I tab ro F r5_3 13 K s = IG tab ro F r5_3 14 K false (setO s (some 40) (lenLO (opd s (.tmp 39)))) (setT s (some 40) udef) (opd s (.tmp 38)) := I_guard (d := (some 40)) rfl rfl rfl rfl rfl (u_lenL rfl rfl)
theorem i5_3_14 : I tab ro F r5_3 14 K s = IG tab ro F r5_3 15 K false (setO s (some 41) (opd s (.tmp 11))) (setT s (some 41) udef) (opd s (.tmp 38)) := I_guard (d := (some 41)) rfl rfl rfl rfl rfl (ev_move)
theorem i5_3_15 : I tab ro F r5_3 15 K s = IG tab ro F r5_3 16 K false (setO s (some 42) (lenLO (opd s (.tmp 41)))) (setT s (some 42) udef) (opd s (.tmp 38)) := I_guard (d := (some 42)) rfl rfl rfl rfl rfl (u_lenL rfl rfl)
theorem i5_3_16 : I tab ro F r5_3 16 K s = IG tab ro F r5_3 17 K false (setO s (some 43) (binO tab .gtr 3 (.tmp 40) (.tmp 42) (opd s (.tmp 40)) (opd s (.tmp 42)))) (setT s (some 43) udef) (opd s (.tmp 38)) := I_guard (d := (some 43)) rfl rfl rfl rfl rfl (ev_binOp.trans (congrArg (setO s _) u_bin))
theorem i5_3_17 : I tab ro F r5_3 17 K s = I1 tab ro F r5_3 18 K (setO s (some 44) (pickO (opd s (.tmp 38)) (opd s (.const (.bool true))) (opd s (.tmp 43)))) := I_plain rfl rfl (ev_pick.trans (congrArg (setO s _) u_pick))
theorem i5_3_e : I tab ro F r5_3 18 K s = kont tab ro F K .normal s := I_end rfl
noncomputable def c5_10 : Code := cd1 c5_9
noncomputable def c5_11 : Code := cd2 c5_9
theorem wc5_9 : W tab ro F c5_9 K s = C1 tab ro F c5_10 c5_11 K s (opd s (.tmp 44)) := Wc_cond (show c5_9 = .cond (.tmp 44) c5_10 c5_11 from rfl)
noncomputable def c5_12 : Code := sq1 c5_10
noncomputable def c5_13 : Code := sq2 c5_10
theorem wc5_10 : W tab ro F c5_10 K s = W tab ro F c5_12 (.sq c5_13 :: K) s := Wc_seq (show c5_10 = .seq c5_12 c5_13 from rfl)
noncomputable def r5_4 : Array Oper := rg1 c5_12
theorem wc5_12 : W tab ro F c5_12 K s = I tab ro F r5_4 0 K s := Wc_region (show c5_12 = .region 4 r5_4 false from rfl)
theorem i5_4_0 : I tab ro F r5_4 0 K s = I1 tab ro F r5_4 1 K (setO s (some 45) (opd s (.tmp 9))) := I_plain rfl rfl (ev_move)
theorem i5_4_1 : I tab ro F r5_4 1 K s = I1 tab ro F r5_4 2 K (setO s (some 46) (binO tab .neq 46 (.tmp 45) (.const (.int .i64 (0))) (opd s (.tmp 45)) (opd s (.const (.int .i64 (0)))))) := I_plain rfl rfl (ev_binOp.trans (congrArg (setO s _) u_bin))
theorem i5_4_2 : I tab ro F r5_4 2 K s = I1 tab ro F r5_4 3 K (setO s (some 47) (opd s (.tmp 46))) := I_plain rfl rfl (ev_move)
theorem i5_4_3 : I tab ro F r5_4 3 K s = IG tab ro F r5_4 4 K false (setO s (some 48) (opd s (.tmp 12))) (setT s (some 48) udef) (opd s (.tmp 47)) := I_guard (d := (some 48)) rfl rfl rfl rfl rfl (ev_move)
theorem i5_4_4 : I tab ro F r5_4 4 K s = IG tab ro F r5_4 5 K false (setO s (some 49) (binO tab .neq 46 (.tmp 48) (.const (.int .i64 (0))) (opd s (.tmp 48)) (opd s (.const (.int .i64 (0)))))) (setT s (some 49) udef) (opd s (.tmp 47)) := I_guard (d := (some 49)) rfl rfl rfl rfl rfl (ev_binOp.trans (congrArg (setO s _) u_bin))
theorem i5_4_5 : I tab ro F r5_4 5 K s = I1 tab ro F r5_4 6 K (setO s (some 50) (pickO (opd s (.tmp 47)) (opd s (.const (.bool true))) (opd s (.tmp 49)))) := I_plain rfl rfl (ev_pick.trans (congrArg (setO s _) u_pick))
theorem i5_4_6 : I tab ro F r5_4 6 K s = I1 tab ro F r5_4 7 K (setO s (some 51) (opd s (.tmp 50))) := I_plain rfl rfl (ev_move)
theorem i5_4_7 : I tab ro F r5_4 7 K s = IG tab ro F r5_4 8 K false (setO s (some 52) (opd s (.tmp 1))) (setT s (some 52) udef) (opd s (.tmp 51)) := I_guard (d := (some 52)) rfl rfl rfl rfl rfl (ev_move)
theorem i5_4_8 : I tab ro F r5_4 8 K s = IG tab ro F r5_4 9 K false (setO s (some 53) (opd s (.tmp 2))) (setT s (some 53) udef) (opd s (.tmp 51)) := I_guard (d := (some 53)) rfl rfl rfl rfl rfl (ev_move)
theorem i5_4_9 : I tab ro F r5_4 9 K s = IG tab ro F r5_4 10 K false (setO s (some 54) (binO tab .gtr 3 (.tmp 52) (.tmp 53) (opd s (.tmp 52)) (opd s (.tmp 53)))) (setT s (some 54) udef) (opd s (.tmp 51)) := I_guard (d := (some 54)) rfl rfl rfl rfl rfl (ev_binOp.trans (congrArg (setO s _) u_bin))
theorem i5_4_10 : I tab ro F r5_4 10 K s = I1 tab ro F r5_4 11 K (setO s (some 55) (pickO (opd s (.tmp 51)) (opd s (.const (.bool true))) (opd s (.tmp 54)))) := I_plain rfl rfl (ev_pick.trans (congrArg (setO s _) u_pick))
theorem i5_4_11 : I tab ro F r5_4 11 K s = I1 tab ro F r5_4 12 K (setO s (some 56) (opd s (.tmp 55))) := I_plain rfl rfl (ev_move)
theorem i5_4_12 : I tab ro F r5_4 12 K s = IG tab ro F r5_4 13 K true (setE s (some 57) (callG tab (evw tab) s 13 (opds s []))) (setT s (some 57) udef) (opd s (.tmp 56)) := I_guard (d := (some 57)) rfl rfl rfl rfl rfl (u_call)
theorem i5_4_13 : I tab ro F r5_4 13 K s = I1 tab ro F r5_4 14 K (setO s (some 58) (pickO (opd s (.tmp 56)) (opd s (.tmp 57)) (opd s (.const (.bool false))))) := I_plain rfl rfl (ev_pick.trans (congrArg (setO s _) u_pick))
theorem i5_4_14 : I tab ro F r5_4 14 K s = I1 tab ro F r5_4 15 K (setO s (some 6) (opd s (.tmp 58))) := I_plain rfl rfl (ev_assign)
theorem i5_4_e : I tab ro F r5_4 15 K s = kont tab ro F K .normal s := I_end rfl
theorem wc5_13 : W tab ro F c5_13 K s = kont tab ro F K .ret s := Wc_ret (show c5_13 = .ret from rfl)
theorem wc5_11 : W tab ro F c5_11 K s = kont tab ro F K .normal s := Wc_skip (show c5_11 = .skip from rfl)
noncomputable def c5_14 : Code := sq1 c5_7
noncomputable def c5_15 : Code := sq2 c5_7
theorem wc5_7 : W tab ro F c5_7 K s = W tab ro F c5_14 (.sq c5_15 :: K) s := Wc_seq (show c5_7 = .seq c5_14 c5_15 from rfl)
noncomputable def r5_5 : Array Oper := rg1 c5_14
theorem wc5_14 : W tab ro F c5_14 K s = I tab ro F r5_5 0 K s := Wc_region (show c5_14 = .region 5 r5_5 false from rfl)
theorem i5_5_0 : I tab ro F r5_5 0 K s = I1 tab ro F r5_5 1 K (setO s (some 59) (opd s (.tmp 8))) := I_plain rfl rfl (ev_move)
theorem i5_5_1 : I tab ro F r5_5 1 K s = I1 tab ro F r5_5 2 K (setO s (some 60) (lenLO (opd s (.tmp 59)))) := I_plain rfl rfl (u_lenL rfl rfl)
theorem i5_5_2 : I tab ro F r5_5 2 K s = I1 tab ro F r5_5 3 K (setO s (some 61) (opd s (.tmp 1))) := I_plain rfl rfl (ev_move)
theorem i5_5_3 : I tab ro F r5_5 3 K s = I1 tab ro F r5_5 4 K (setO s (some 62) (binO tab .eql 3 (.tmp 60) (.tmp 61) (opd s (.tmp 60)) (opd s (.tmp 61)))) := I_plain rfl rfl (ev_binOp.trans (congrArg (setO s _) u_bin))
theorem i5_5_4 : I tab ro F r5_5 4 K s = I1 tab ro F r5_5 5 K (setO s (some 63) (opd s (.tmp 62))) := I_plain rfl rfl (ev_move)
theorem i5_5_5 : I tab ro F r5_5 5 K s = IG tab ro F r5_5 6 K true (setO s (some 64) (opd s (.tmp 8))) (setT s (some 64) udef) (opd s (.tmp 63)) := I_guard (d := (some 64)) rfl rfl rfl rfl rfl (ev_move)
theorem i5_5_6 : I tab ro F r5_5 6 K s = IG tab ro F r5_5 7 K true (setO s (some 65) (opd s (.tmp 11))) (setT s (some 65) udef) (opd s (.tmp 63)) := I_guard (d := (some 65)) rfl rfl rfl rfl rfl (ev_move)
theorem i5_5_7 : I tab ro F r5_5 7 K s = IG tab ro F r5_5 8 K true (setO s (some 66) (opd s (.tmp 8))) (setT s (some 66) udef) (opd s (.tmp 63)) := I_guard (d := (some 66)) rfl rfl rfl rfl rfl (ev_move)
theorem i5_5_8 : I tab ro F r5_5 8 K s = IG tab ro F r5_5 9 K true (setO s (some 67) (lenLO (opd s (.tmp 66)))) (setT s (some 67) udef) (opd s (.tmp 63)) := I_guard (d := (some 67)) rfl rfl rfl rfl rfl (u_lenL rfl rfl)
theorem i5_5_9 : I tab ro F r5_5 9 K s = IG tab ro F r5_5 10 K true (setO s (some 68) (pureOp tab s (.slice 45 (.tmp 65) none (some (.tmp 67)) none))) (setT s (some 68) udef) (opd s (.tmp 63)) := I_guard (d := (some 68)) rfl rfl rfl rfl rfl (ev_slice)
theorem i5_5_10 : I tab ro F r5_5 10 K s = IG tab ro F r5_5 11 K true (setE s (some 69) (callG tab (evw tab) s 23 (opds s [(.tmp 64), (.tmp 68)]))) (setT s (some 69) udef) (opd s (.tmp 63)) := I_guard (d := (some 69)) rfl rfl rfl rfl rfl (u_call)
theorem i5_5_11 : I tab ro F r5_5 11 K s = I1 tab ro F r5_5 12 K (setO s (some 70) (pickO (opd s (.tmp 63)) (opd s (.tmp 69)) (opd s (.const (.bool false))))) := I_plain rfl rfl (ev_pick.trans (congrArg (setO s _) u_pick))
theorem i5_5_12 : I tab ro F r5_5 12 K s = I1 tab ro F r5_5 13 K (setO s (some 71) (opd s (.tmp 70))) := I_plain rfl rfl (ev_move)
theorem i5_5_13 : I tab ro F r5_5 13 K s = IG tab ro F r5_5 14 K true (setE s (some 72) (callG tab (evw tab) s 13 (opds s []))) (setT s (some 72) udef) (opd s (.tmp 71)) := I_guard (d := (some 72)) rfl rfl rfl rfl rfl (u_call)
theorem i5_5_14 : I tab ro F r5_5 14 K s = I1 tab ro F r5_5 15 K (setO s (some 73) (pickO (opd s (.tmp 71)) (opd s (.tmp 72)) (opd s (.const (.bool false))))) := I_plain rfl rfl (ev_pick.trans (congrArg (setO s _) u_pick))
theorem i5_5_15 : I tab ro F r5_5 15 K s = I1 tab ro F r5_5 16 K (setO s (some 6) (opd s (.tmp 73))) := I_plain rfl rfl (ev_assign)
theorem i5_5_e : I tab ro F r5_5 16 K s = kont tab ro F K .normal s := I_end rfl
theorem wc5_15 : W tab ro F c5_15 K s = kont tab ro F K .ret s := Wc_ret (show c5_15 = .ret from rfl)
theorem n5 : fi5.ntmps = 74 := rfl
theorem q5 : fi5.results = [.tmp 6] := rfl
theorem f5 : tab.f 5 = some fi5 := rfl
theorem b5 : fi5.body = c5 := rfl
theorem m5 : fi5.lm = 1 := rfl
-- NAMES 5 n5 q5 b5 m5  wc5 wc5_0 i5_0_0 i5_0_e wc5_1 wc5_2 i5_1_0 i5_1_1 i5_1_2 i5_1_3 i5_1_4 i5_1_5 i5_1_6 i5_1_7 i5_1_8 i5_1_9 i5_1_e wc5_3 wc5_4 i5_2_0 i5_2_1 i5_2_2 i5_2_3 i5_2_4 i5_2_5 i5_2_6 i5_2_7 i5_2_8 i5_2_9 i5_2_e wc5_5 wc5_6 wc5_8 i5_3_0 i5_3_1 i5_3_2 i5_3_3 i5_3_4 i5_3_5 i5_3_6 i5_3_7 i5_3_8 i5_3_9 i5_3_10 i5_3_11 i5_3_12 i5_3_13 i5_3_14 i5_3_15 i5_3_16 i5_3_17 i5_3_e wc5_9 wc5_10 wc5_12 i5_4_0 i5_4_1 i5_4_2 i5_4_3 i5_4_4 i5_4_5 i5_4_6 i5_4_7 i5_4_8 i5_4_9 i5_4_10 i5_4_11 i5_4_12 i5_4_13 i5_4_14 i5_4_e wc5_13 wc5_11 wc5_7 wc5_14 i5_5_0 i5_5_1 i5_5_2 i5_5_3 i5_5_4 i5_5_5 i5_5_6 i5_5_7 i5_5_8 i5_5_9 i5_5_10 i5_5_11 i5_5_12 i5_5_13 i5_5_14 i5_5_15 i5_5_e wc5_15
end
end Go.Proofs.Ytbcecenneganeaa.Ev
