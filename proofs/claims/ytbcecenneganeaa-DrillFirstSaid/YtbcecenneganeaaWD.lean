import Derived.Test.YtbcecenneganeaaEvR
import Derived.KernelRfl
import Derived.Test.YtbcecenneganeaaTabD
set_option linter.all false
set_option maxRecDepth 100000
namespace Go.Proofs.Ytbcecenneganeaa.Ev
open Go Go.Proofs.Ytbcecenneganeaa.Ev Go.Proofs Go.Proofs.Ytbcecenneganeaa Go.Proofs.Ytbcecenneganeaa.Tab
section
variable {α : Type} {ro : Option Nat} {F : AX → AS → Option α} {K : List Fr} {s : AS}

-- STRUCT EQ 40 [Name, Parent]
-- STRUCT EQ 93 [Name, Kind, Null]
-- STRUCT EQ 106 [Kind, Flag, Int, Text]
/-! 19: (*verderer/drill.Dice).Step -/
noncomputable def c19 : Code := fi19.body
noncomputable def c19_0 : Code := sq1 c19
noncomputable def c19_1 : Code := sq2 c19
theorem wc19 : W tab ro F c19 K s = W tab ro F c19_0 (.sq c19_1 :: K) s := Wc_seq (show c19 = .seq c19_0 c19_1 from rfl)
noncomputable def r19_0 : Array Oper := rg1 c19_0
theorem wc19_0 : W tab ro F c19_0 K s = I tab ro F r19_0 0 K s := Wc_region (show c19_0 = .region 0 r19_0 false from rfl)
theorem i19_0_0 : I tab ro F r19_0 0 K s = I1 tab ro F r19_0 1 K (setN s (some 2) (some (.cells [(.lit (.int .i64 (0))), (.lit (.int .i64 (0))), (.str []), (.str []), (.str []), (.lit (.int .i64 (0))), (.lit (.slice none 0 0)), (.str []), (.str []), (.str []), (.lit (.int .i64 (0)))] false, .ptr s.hs 0))) := I_plain rfl rfl (ev_alloc.trans (congrArg (setN s _) (u_alloc (cs := [(.lit (.int .i64 (0))), (.lit (.int .i64 (0))), (.str []), (.str []), (.str []), (.lit (.int .i64 (0))), (.lit (.slice none 0 0)), (.str []), (.str []), (.str []), (.lit (.int .i64 (0)))]) rfl rfl rfl)))
theorem i19_0_e : I tab ro F r19_0 1 K s = kont tab ro F K .normal s := I_end rfl
noncomputable def c19_2 : Code := sq1 c19_1
noncomputable def c19_3 : Code := sq2 c19_1
theorem wc19_1 : W tab ro F c19_1 K s = W tab ro F c19_2 (.sq c19_3 :: K) s := Wc_seq (show c19_1 = .seq c19_2 c19_3 from rfl)
noncomputable def c19_4 : Code := sq1 c19_2
noncomputable def c19_5 : Code := sq2 c19_2
theorem wc19_2 : W tab ro F c19_2 K s = W tab ro F c19_4 (.sq c19_5 :: K) s := Wc_seq (show c19_2 = .seq c19_4 c19_5 from rfl)
noncomputable def r19_1 : Array Oper := rg1 c19_4
theorem wc19_4 : W tab ro F c19_4 K s = I tab ro F r19_1 0 K s := Wc_region (show c19_4 = .region 1 r19_1 false from rfl)
theorem i19_1_0 : I tab ro F r19_1 0 K s = I1 tab ro F r19_1 1 K (setO s (some 4) (opd s (.tmp 0))) := I_plain rfl rfl (ev_move)
theorem i19_1_1 : I tab ro F r19_1 1 K s = I1 tab ro F r19_1 2 K (setO s (some 5) (binO tab .eql 25 (.tmp 4) (.const (.pointer none)) (opd s (.tmp 4)) (opd s (.const (.pointer none))))) := I_plain rfl rfl (ev_binOp.trans (congrArg (setO s _) u_bin))
theorem i19_1_e : I tab ro F r19_1 2 K s = kont tab ro F K .normal s := I_end rfl
noncomputable def c19_6 : Code := cd1 c19_5
noncomputable def c19_7 : Code := cd2 c19_5
theorem wc19_5 : W tab ro F c19_5 K s = C1 tab ro F c19_6 c19_7 K s (opd s (.tmp 5)) := Wc_cond (show c19_5 = .cond (.tmp 5) c19_6 c19_7 from rfl)
noncomputable def c19_8 : Code := sq1 c19_6
noncomputable def c19_9 : Code := sq2 c19_6
theorem wc19_6 : W tab ro F c19_6 K s = W tab ro F c19_8 (.sq c19_9 :: K) s := Wc_seq (show c19_6 = .seq c19_8 c19_9 from rfl)
noncomputable def r19_2 : Array Oper := rg1 c19_8
theorem wc19_8 : W tab ro F c19_8 K s = I tab ro F r19_2 0 K s := Wc_region (show c19_8 = .region 2 r19_2 false from rfl)
theorem i19_2_0 : I tab ro F r19_2 0 K s = I1 tab ro F r19_2 1 K (setO s (some 6) (buildO (placesL [(0, 1), (1, 1), (2, 5), (7, 2), (9, 1), (10, 1)]) [(.lit (.int .i64 (0))), (.lit (.int .i64 (0))), (.str []), (.str []), (.str []), (.lit (.int .i64 (0))), (.lit (.slice none 0 0)), (.str []), (.str []), (.str []), (.lit (.int .i64 (0)))] (opdParts s []))) := I_plain rfl rfl (ev_build.trans (congrArg (setO s _) (u_build rfl rfl rfl rfl (places_eq rfl))))
theorem i19_2_1 : I tab ro F r19_2 1 K s = I1 tab ro F r19_2 2 K (setE s none (storeO s.heap s.hs 11 (opd s (.tmp 2)) (opd s (.tmp 6)))) := I_plain rfl rfl (ev_store.trans (congrArg (setE s _) (u_store rfl rfl)))
theorem i19_2_e : I tab ro F r19_2 2 K s = kont tab ro F K .normal s := I_end rfl
theorem wc19_9 : W tab ro F c19_9 K s = kont tab ro F K .ret s := Wc_ret (show c19_9 = .ret from rfl)
theorem wc19_7 : W tab ro F c19_7 K s = kont tab ro F K .normal s := Wc_skip (show c19_7 = .skip from rfl)
noncomputable def c19_10 : Code := sq1 c19_3
noncomputable def c19_11 : Code := sq2 c19_3
theorem wc19_3 : W tab ro F c19_3 K s = W tab ro F c19_10 (.sq c19_11 :: K) s := Wc_seq (show c19_3 = .seq c19_10 c19_11 from rfl)
noncomputable def c19_12 : Code := sq1 c19_10
noncomputable def c19_13 : Code := sq2 c19_10
theorem wc19_10 : W tab ro F c19_10 K s = W tab ro F c19_12 (.sq c19_13 :: K) s := Wc_seq (show c19_10 = .seq c19_12 c19_13 from rfl)
noncomputable def r19_3 : Array Oper := rg1 c19_12
theorem wc19_12 : W tab ro F c19_12 K s = I tab ro F r19_3 0 K s := Wc_region (show c19_12 = .region 3 r19_3 false from rfl)
theorem i19_3_0 : I tab ro F r19_3 0 K s = I1 tab ro F r19_3 1 K (setO s (some 7) (opd s (.tmp 0))) := I_plain rfl rfl (ev_move)
theorem i19_3_1 : I tab ro F r19_3 1 K s = I1 tab ro F r19_3 2 K (setE s (some 8) (callG tab (evw tab) s 14 (opds s [(.tmp 7), (.const (.int .i64 (20)))]))) := I_plain rfl rfl (u_call)
theorem i19_3_2 : I tab ro F r19_3 2 K s = I1 tab ro F r19_3 3 K (setO s (some 3) (opd s (.tmp 8))) := I_plain rfl rfl (ev_assign)
theorem i19_3_e : I tab ro F r19_3 3 K s = kont tab ro F K .normal s := I_end rfl
noncomputable def c19_14 : Code := bk1 c19_13
theorem wc19_13 : W tab ro F c19_13 K s = W tab ro F c19_14 (.bk 0 :: K) s := Wc_block (show c19_13 = .block 0 c19_14 from rfl)
noncomputable def c19_15 : Code := sq1 c19_14
noncomputable def c19_16 : Code := sq2 c19_14
theorem wc19_14 : W tab ro F c19_14 K s = W tab ro F c19_15 (.sq c19_16 :: K) s := Wc_seq (show c19_14 = .seq c19_15 c19_16 from rfl)
noncomputable def r19_4 : Array Oper := rg1 c19_15
theorem wc19_15 : W tab ro F c19_15 K s = I tab ro F r19_4 0 K s := Wc_region (show c19_15 = .region 4 r19_4 false from rfl)
theorem i19_4_0 : I tab ro F r19_4 0 K s = I1 tab ro F r19_4 1 K (setO s (some 10) (opd s (.tmp 3))) := I_plain rfl rfl (ev_move)
theorem i19_4_1 : I tab ro F r19_4 1 K s = I1 tab ro F r19_4 2 K (setO s (some 11) (binO tab .lss 3 (.tmp 10) (.const (.int .i64 (8))) (opd s (.tmp 10)) (opd s (.const (.int .i64 (8)))))) := I_plain rfl rfl (ev_binOp.trans (congrArg (setO s _) u_bin))
theorem i19_4_2 : I tab ro F r19_4 2 K s = I1 tab ro F r19_4 3 K (setO s (some 9) (opd s (.tmp 11))) := I_plain rfl rfl (ev_assign)
theorem i19_4_e : I tab ro F r19_4 3 K s = kont tab ro F K .normal s := I_end rfl
noncomputable def c19_17 : Code := cd1 c19_16
noncomputable def c19_18 : Code := cd2 c19_16
theorem wc19_16 : W tab ro F c19_16 K s = C1 tab ro F c19_17 c19_18 K s (opd s (.tmp 9)) := Wc_cond (show c19_16 = .cond (.tmp 9) c19_17 c19_18 from rfl)
noncomputable def c19_19 : Code := sq1 c19_17
noncomputable def c19_20 : Code := sq2 c19_17
theorem wc19_17 : W tab ro F c19_17 K s = W tab ro F c19_19 (.sq c19_20 :: K) s := Wc_seq (show c19_17 = .seq c19_19 c19_20 from rfl)
noncomputable def r19_5 : Array Oper := rg1 c19_19
theorem wc19_19 : W tab ro F c19_19 K s = I tab ro F r19_5 0 K s := Wc_region (show c19_19 = .region 5 r19_5 false from rfl)
theorem i19_5_0 : I tab ro F r19_5 0 K s = I1 tab ro F r19_5 1 K (setO s (some 12) (opd s (.tmp 0))) := I_plain rfl rfl (ev_move)
theorem i19_5_1 : I tab ro F r19_5 1 K s = I1 tab ro F r19_5 2 K (setE s (some 13) (callG tab (evw tab) s 45 (opds s [(.tmp 12)]))) := I_plain rfl rfl (u_call)
theorem i19_5_2 : I tab ro F r19_5 2 K s = I1 tab ro F r19_5 3 K (setO s (some 14) (buildO (placesL [(0, 1), (1, 1), (2, 5), (7, 2), (9, 1), (10, 1)]) [(.lit (.int .i64 (0))), (.lit (.int .i64 (0))), (.str []), (.str []), (.str []), (.lit (.int .i64 (0))), (.lit (.slice none 0 0)), (.str []), (.str []), (.str []), (.lit (.int .i64 (0)))] (opdParts s [(0, (.const (.int .i64 (1)))), (2, (.tmp 13))]))) := I_plain rfl rfl (ev_build.trans (congrArg (setO s _) (u_build rfl rfl rfl rfl (places_eq rfl))))
theorem i19_5_3 : I tab ro F r19_5 3 K s = I1 tab ro F r19_5 4 K (setE s none (storeO s.heap s.hs 11 (opd s (.tmp 2)) (opd s (.tmp 14)))) := I_plain rfl rfl (ev_store.trans (congrArg (setE s _) (u_store rfl rfl)))
theorem i19_5_e : I tab ro F r19_5 4 K s = kont tab ro F K .normal s := I_end rfl
theorem wc19_20 : W tab ro F c19_20 K s = kont tab ro F K .ret s := Wc_ret (show c19_20 = .ret from rfl)
noncomputable def c19_21 : Code := sq1 c19_18
noncomputable def c19_22 : Code := sq2 c19_18
theorem wc19_18 : W tab ro F c19_18 K s = W tab ro F c19_21 (.sq c19_22 :: K) s := Wc_seq (show c19_18 = .seq c19_21 c19_22 from rfl)
noncomputable def r19_6 : Array Oper := rg1 c19_21
theorem wc19_21 : W tab ro F c19_21 K s = I tab ro F r19_6 0 K s := Wc_region (show c19_21 = .region 6 r19_6 false from rfl)
theorem i19_6_0 : I tab ro F r19_6 0 K s = I1 tab ro F r19_6 1 K (setO s (some 16) (opd s (.tmp 3))) := I_plain rfl rfl (ev_move)
theorem i19_6_1 : I tab ro F r19_6 1 K s = I1 tab ro F r19_6 2 K (setO s (some 17) (binO tab .lss 3 (.tmp 16) (.const (.int .i64 (10))) (opd s (.tmp 16)) (opd s (.const (.int .i64 (10)))))) := I_plain rfl rfl (ev_binOp.trans (congrArg (setO s _) u_bin))
theorem i19_6_2 : I tab ro F r19_6 2 K s = I1 tab ro F r19_6 3 K (setO s (some 15) (opd s (.tmp 17))) := I_plain rfl rfl (ev_assign)
theorem i19_6_e : I tab ro F r19_6 3 K s = kont tab ro F K .normal s := I_end rfl
noncomputable def c19_23 : Code := cd1 c19_22
noncomputable def c19_24 : Code := cd2 c19_22
theorem wc19_22 : W tab ro F c19_22 K s = C1 tab ro F c19_23 c19_24 K s (opd s (.tmp 15)) := Wc_cond (show c19_22 = .cond (.tmp 15) c19_23 c19_24 from rfl)
noncomputable def c19_25 : Code := sq1 c19_23
noncomputable def c19_26 : Code := sq2 c19_23
theorem wc19_23 : W tab ro F c19_23 K s = W tab ro F c19_25 (.sq c19_26 :: K) s := Wc_seq (show c19_23 = .seq c19_25 c19_26 from rfl)
noncomputable def r19_7 : Array Oper := rg1 c19_25
theorem wc19_25 : W tab ro F c19_25 K s = I tab ro F r19_7 0 K s := Wc_region (show c19_25 = .region 7 r19_7 false from rfl)
theorem i19_7_0 : I tab ro F r19_7 0 K s = I1 tab ro F r19_7 1 K (setO s (some 18) (opd s (.tmp 0))) := I_plain rfl rfl (ev_move)
theorem i19_7_1 : I tab ro F r19_7 1 K s = I1 tab ro F r19_7 2 K (setE s (some 19) (callG tab (evw tab) s 46 (opds s [(.tmp 18)]))) := I_plain rfl rfl (u_call)
theorem i19_7_2 : I tab ro F r19_7 2 K s = I1 tab ro F r19_7 3 K (setE s none (storeO s.heap s.hs 11 (opd s (.tmp 2)) (opd s (.tmp 19)))) := I_plain rfl rfl (ev_store.trans (congrArg (setE s _) (u_store rfl rfl)))
theorem i19_7_e : I tab ro F r19_7 3 K s = kont tab ro F K .normal s := I_end rfl
theorem wc19_26 : W tab ro F c19_26 K s = kont tab ro F K .ret s := Wc_ret (show c19_26 = .ret from rfl)
noncomputable def c19_27 : Code := sq1 c19_24
noncomputable def c19_28 : Code := sq2 c19_24
theorem wc19_24 : W tab ro F c19_24 K s = W tab ro F c19_27 (.sq c19_28 :: K) s := Wc_seq (show c19_24 = .seq c19_27 c19_28 from rfl)
noncomputable def r19_8 : Array Oper := rg1 c19_27
theorem wc19_27 : W tab ro F c19_27 K s = I tab ro F r19_8 0 K s := Wc_region (show c19_27 = .region 8 r19_8 false from rfl)
theorem i19_8_0 : I tab ro F r19_8 0 K s = I1 tab ro F r19_8 1 K (setO s (some 21) (opd s (.tmp 3))) := I_plain rfl rfl (ev_move)
theorem i19_8_1 : I tab ro F r19_8 1 K s = I1 tab ro F r19_8 2 K (setO s (some 22) (binO tab .lss 3 (.tmp 21) (.const (.int .i64 (12))) (opd s (.tmp 21)) (opd s (.const (.int .i64 (12)))))) := I_plain rfl rfl (ev_binOp.trans (congrArg (setO s _) u_bin))
theorem i19_8_2 : I tab ro F r19_8 2 K s = I1 tab ro F r19_8 3 K (setO s (some 20) (opd s (.tmp 22))) := I_plain rfl rfl (ev_assign)
theorem i19_8_e : I tab ro F r19_8 3 K s = kont tab ro F K .normal s := I_end rfl
noncomputable def c19_29 : Code := cd1 c19_28
noncomputable def c19_30 : Code := cd2 c19_28
theorem wc19_28 : W tab ro F c19_28 K s = C1 tab ro F c19_29 c19_30 K s (opd s (.tmp 20)) := Wc_cond (show c19_28 = .cond (.tmp 20) c19_29 c19_30 from rfl)
noncomputable def c19_31 : Code := sq1 c19_29
noncomputable def c19_32 : Code := sq2 c19_29
theorem wc19_29 : W tab ro F c19_29 K s = W tab ro F c19_31 (.sq c19_32 :: K) s := Wc_seq (show c19_29 = .seq c19_31 c19_32 from rfl)
noncomputable def r19_9 : Array Oper := rg1 c19_31
theorem wc19_31 : W tab ro F c19_31 K s = I tab ro F r19_9 0 K s := Wc_region (show c19_31 = .region 9 r19_9 false from rfl)
theorem i19_9_0 : I tab ro F r19_9 0 K s = I1 tab ro F r19_9 1 K (setO s (some 23) (opd s (.tmp 0))) := I_plain rfl rfl (ev_move)
theorem i19_9_1 : I tab ro F r19_9 1 K s = I1 tab ro F r19_9 2 K (setE s (some 24) (callG tab (evw tab) s 47 (opds s [(.tmp 23)]))) := I_plain rfl rfl (u_call)
theorem i19_9_2 : I tab ro F r19_9 2 K s = I1 tab ro F r19_9 3 K (setO s (some 25) (buildO (placesL [(0, 1), (1, 1), (2, 5), (7, 2), (9, 1), (10, 1)]) [(.lit (.int .i64 (0))), (.lit (.int .i64 (0))), (.str []), (.str []), (.str []), (.lit (.int .i64 (0))), (.lit (.slice none 0 0)), (.str []), (.str []), (.str []), (.lit (.int .i64 (0)))] (opdParts s [(0, (.const (.int .i64 (3)))), (2, (.tmp 24))]))) := I_plain rfl rfl (ev_build.trans (congrArg (setO s _) (u_build rfl rfl rfl rfl (places_eq rfl))))
theorem i19_9_3 : I tab ro F r19_9 3 K s = I1 tab ro F r19_9 4 K (setE s none (storeO s.heap s.hs 11 (opd s (.tmp 2)) (opd s (.tmp 25)))) := I_plain rfl rfl (ev_store.trans (congrArg (setE s _) (u_store rfl rfl)))
theorem i19_9_e : I tab ro F r19_9 4 K s = kont tab ro F K .normal s := I_end rfl
theorem wc19_32 : W tab ro F c19_32 K s = kont tab ro F K .ret s := Wc_ret (show c19_32 = .ret from rfl)
noncomputable def c19_33 : Code := sq1 c19_30
noncomputable def c19_34 : Code := sq2 c19_30
theorem wc19_30 : W tab ro F c19_30 K s = W tab ro F c19_33 (.sq c19_34 :: K) s := Wc_seq (show c19_30 = .seq c19_33 c19_34 from rfl)
noncomputable def r19_10 : Array Oper := rg1 c19_33
theorem wc19_33 : W tab ro F c19_33 K s = I tab ro F r19_10 0 K s := Wc_region (show c19_33 = .region 10 r19_10 false from rfl)
theorem i19_10_0 : I tab ro F r19_10 0 K s = I1 tab ro F r19_10 1 K (setO s (some 27) (opd s (.tmp 3))) := I_plain rfl rfl (ev_move)
theorem i19_10_1 : I tab ro F r19_10 1 K s = I1 tab ro F r19_10 2 K (setO s (some 28) (binO tab .lss 3 (.tmp 27) (.const (.int .i64 (14))) (opd s (.tmp 27)) (opd s (.const (.int .i64 (14)))))) := I_plain rfl rfl (ev_binOp.trans (congrArg (setO s _) u_bin))
theorem i19_10_2 : I tab ro F r19_10 2 K s = I1 tab ro F r19_10 3 K (setO s (some 26) (opd s (.tmp 28))) := I_plain rfl rfl (ev_assign)
theorem i19_10_e : I tab ro F r19_10 3 K s = kont tab ro F K .normal s := I_end rfl
noncomputable def c19_35 : Code := cd1 c19_34
noncomputable def c19_36 : Code := cd2 c19_34
theorem wc19_34 : W tab ro F c19_34 K s = C1 tab ro F c19_35 c19_36 K s (opd s (.tmp 26)) := Wc_cond (show c19_34 = .cond (.tmp 26) c19_35 c19_36 from rfl)
noncomputable def c19_37 : Code := sq1 c19_35
noncomputable def c19_38 : Code := sq2 c19_35
theorem wc19_35 : W tab ro F c19_35 K s = W tab ro F c19_37 (.sq c19_38 :: K) s := Wc_seq (show c19_35 = .seq c19_37 c19_38 from rfl)
noncomputable def r19_11 : Array Oper := rg1 c19_37
theorem wc19_37 : W tab ro F c19_37 K s = I tab ro F r19_11 0 K s := Wc_region (show c19_37 = .region 11 r19_11 false from rfl)
theorem i19_11_0 : I tab ro F r19_11 0 K s = I1 tab ro F r19_11 1 K (setO s (some 29) (opd s (.tmp 0))) := I_plain rfl rfl (ev_move)
theorem i19_11_1 : I tab ro F r19_11 1 K s = I1 tab ro F r19_11 2 K (setE s (some 30) (callG tab (evw tab) s 48 (opds s [(.tmp 29)]))) := I_plain rfl rfl (u_call)
theorem i19_11_2 : I tab ro F r19_11 2 K s = I1 tab ro F r19_11 3 K (setO s (some 31) (buildO (placesL [(0, 1), (1, 1), (2, 5), (7, 2), (9, 1), (10, 1)]) [(.lit (.int .i64 (0))), (.lit (.int .i64 (0))), (.str []), (.str []), (.str []), (.lit (.int .i64 (0))), (.lit (.slice none 0 0)), (.str []), (.str []), (.str []), (.lit (.int .i64 (0)))] (opdParts s [(0, (.const (.int .i64 (4)))), (3, (.tmp 30))]))) := I_plain rfl rfl (ev_build.trans (congrArg (setO s _) (u_build rfl rfl rfl rfl (places_eq rfl))))
theorem i19_11_3 : I tab ro F r19_11 3 K s = I1 tab ro F r19_11 4 K (setE s none (storeO s.heap s.hs 11 (opd s (.tmp 2)) (opd s (.tmp 31)))) := I_plain rfl rfl (ev_store.trans (congrArg (setE s _) (u_store rfl rfl)))
theorem i19_11_e : I tab ro F r19_11 4 K s = kont tab ro F K .normal s := I_end rfl
theorem wc19_38 : W tab ro F c19_38 K s = kont tab ro F K .ret s := Wc_ret (show c19_38 = .ret from rfl)
noncomputable def c19_39 : Code := sq1 c19_36
noncomputable def c19_40 : Code := sq2 c19_36
theorem wc19_36 : W tab ro F c19_36 K s = W tab ro F c19_39 (.sq c19_40 :: K) s := Wc_seq (show c19_36 = .seq c19_39 c19_40 from rfl)
noncomputable def r19_12 : Array Oper := rg1 c19_39
theorem wc19_39 : W tab ro F c19_39 K s = I tab ro F r19_12 0 K s := Wc_region (show c19_39 = .region 12 r19_12 false from rfl)
theorem i19_12_0 : I tab ro F r19_12 0 K s = I1 tab ro F r19_12 1 K (setO s (some 33) (opd s (.tmp 3))) := I_plain rfl rfl (ev_move)
theorem i19_12_1 : I tab ro F r19_12 1 K s = I1 tab ro F r19_12 2 K (setO s (some 34) (binO tab .lss 3 (.tmp 33) (.const (.int .i64 (15))) (opd s (.tmp 33)) (opd s (.const (.int .i64 (15)))))) := I_plain rfl rfl (ev_binOp.trans (congrArg (setO s _) u_bin))
theorem i19_12_2 : I tab ro F r19_12 2 K s = I1 tab ro F r19_12 3 K (setO s (some 32) (opd s (.tmp 34))) := I_plain rfl rfl (ev_assign)
theorem i19_12_e : I tab ro F r19_12 3 K s = kont tab ro F K .normal s := I_end rfl
noncomputable def c19_41 : Code := cd1 c19_40
noncomputable def c19_42 : Code := cd2 c19_40
theorem wc19_40 : W tab ro F c19_40 K s = C1 tab ro F c19_41 c19_42 K s (opd s (.tmp 32)) := Wc_cond (show c19_40 = .cond (.tmp 32) c19_41 c19_42 from rfl)
noncomputable def c19_43 : Code := sq1 c19_41
noncomputable def c19_44 : Code := sq2 c19_41
theorem wc19_41 : W tab ro F c19_41 K s = W tab ro F c19_43 (.sq c19_44 :: K) s := Wc_seq (show c19_41 = .seq c19_43 c19_44 from rfl)
noncomputable def r19_13 : Array Oper := rg1 c19_43
theorem wc19_43 : W tab ro F c19_43 K s = I tab ro F r19_13 0 K s := Wc_region (show c19_43 = .region 13 r19_13 false from rfl)
theorem i19_13_0 : I tab ro F r19_13 0 K s = I1 tab ro F r19_13 1 K (setO s (some 35) (opd s (.tmp 0))) := I_plain rfl rfl (ev_move)
theorem i19_13_1 : I tab ro F r19_13 1 K s = I1 tab ro F r19_13 2 K (setE s (some 36) (callG tab (evw tab) s 48 (opds s [(.tmp 35)]))) := I_plain rfl rfl (u_call)
theorem i19_13_2 : I tab ro F r19_13 2 K s = I1 tab ro F r19_13 3 K (setO s (some 37) (buildO (placesL [(0, 1), (1, 1), (2, 5), (7, 2), (9, 1), (10, 1)]) [(.lit (.int .i64 (0))), (.lit (.int .i64 (0))), (.str []), (.str []), (.str []), (.lit (.int .i64 (0))), (.lit (.slice none 0 0)), (.str []), (.str []), (.str []), (.lit (.int .i64 (0)))] (opdParts s [(0, (.const (.int .i64 (5)))), (3, (.tmp 36))]))) := I_plain rfl rfl (ev_build.trans (congrArg (setO s _) (u_build rfl rfl rfl rfl (places_eq rfl))))
theorem i19_13_3 : I tab ro F r19_13 3 K s = I1 tab ro F r19_13 4 K (setE s none (storeO s.heap s.hs 11 (opd s (.tmp 2)) (opd s (.tmp 37)))) := I_plain rfl rfl (ev_store.trans (congrArg (setE s _) (u_store rfl rfl)))
theorem i19_13_e : I tab ro F r19_13 4 K s = kont tab ro F K .normal s := I_end rfl
theorem wc19_44 : W tab ro F c19_44 K s = kont tab ro F K .ret s := Wc_ret (show c19_44 = .ret from rfl)
noncomputable def c19_45 : Code := sq1 c19_42
noncomputable def c19_46 : Code := sq2 c19_42
theorem wc19_42 : W tab ro F c19_42 K s = W tab ro F c19_45 (.sq c19_46 :: K) s := Wc_seq (show c19_42 = .seq c19_45 c19_46 from rfl)
noncomputable def r19_14 : Array Oper := rg1 c19_45
theorem wc19_45 : W tab ro F c19_45 K s = I tab ro F r19_14 0 K s := Wc_region (show c19_45 = .region 14 r19_14 false from rfl)
theorem i19_14_0 : I tab ro F r19_14 0 K s = I1 tab ro F r19_14 1 K (setO s (some 39) (opd s (.tmp 3))) := I_plain rfl rfl (ev_move)
theorem i19_14_1 : I tab ro F r19_14 1 K s = I1 tab ro F r19_14 2 K (setO s (some 40) (binO tab .lss 3 (.tmp 39) (.const (.int .i64 (17))) (opd s (.tmp 39)) (opd s (.const (.int .i64 (17)))))) := I_plain rfl rfl (ev_binOp.trans (congrArg (setO s _) u_bin))
theorem i19_14_2 : I tab ro F r19_14 2 K s = I1 tab ro F r19_14 3 K (setO s (some 38) (opd s (.tmp 40))) := I_plain rfl rfl (ev_assign)
theorem i19_14_e : I tab ro F r19_14 3 K s = kont tab ro F K .normal s := I_end rfl
noncomputable def c19_47 : Code := cd1 c19_46
noncomputable def c19_48 : Code := cd2 c19_46
theorem wc19_46 : W tab ro F c19_46 K s = C1 tab ro F c19_47 c19_48 K s (opd s (.tmp 38)) := Wc_cond (show c19_46 = .cond (.tmp 38) c19_47 c19_48 from rfl)
noncomputable def c19_49 : Code := sq1 c19_47
noncomputable def c19_50 : Code := sq2 c19_47
theorem wc19_47 : W tab ro F c19_47 K s = W tab ro F c19_49 (.sq c19_50 :: K) s := Wc_seq (show c19_47 = .seq c19_49 c19_50 from rfl)
noncomputable def r19_15 : Array Oper := rg1 c19_49
theorem wc19_49 : W tab ro F c19_49 K s = I tab ro F r19_15 0 K s := Wc_region (show c19_49 = .region 15 r19_15 false from rfl)
theorem i19_15_0 : I tab ro F r19_15 0 K s = I1 tab ro F r19_15 1 K (setO s (some 41) (opd s (.tmp 0))) := I_plain rfl rfl (ev_move)
theorem i19_15_1 : I tab ro F r19_15 1 K s = I1 tab ro F r19_15 2 K (setE s (some 42) (callG tab (evw tab) s 49 (opds s [(.tmp 41)]))) := I_plain rfl rfl (u_call)
theorem i19_15_2 : I tab ro F r19_15 2 K s = I1 tab ro F r19_15 3 K (setO s (some 43) (buildO (placesL [(0, 1), (1, 1), (2, 5), (7, 2), (9, 1), (10, 1)]) [(.lit (.int .i64 (0))), (.lit (.int .i64 (0))), (.str []), (.str []), (.str []), (.lit (.int .i64 (0))), (.lit (.slice none 0 0)), (.str []), (.str []), (.str []), (.lit (.int .i64 (0)))] (opdParts s [(0, (.const (.int .i64 (7)))), (4, (.tmp 42))]))) := I_plain rfl rfl (ev_build.trans (congrArg (setO s _) (u_build rfl rfl rfl rfl (places_eq rfl))))
theorem i19_15_3 : I tab ro F r19_15 3 K s = I1 tab ro F r19_15 4 K (setE s none (storeO s.heap s.hs 11 (opd s (.tmp 2)) (opd s (.tmp 43)))) := I_plain rfl rfl (ev_store.trans (congrArg (setE s _) (u_store rfl rfl)))
theorem i19_15_e : I tab ro F r19_15 4 K s = kont tab ro F K .normal s := I_end rfl
theorem wc19_50 : W tab ro F c19_50 K s = kont tab ro F K .ret s := Wc_ret (show c19_50 = .ret from rfl)
noncomputable def c19_51 : Code := sq1 c19_48
noncomputable def c19_52 : Code := sq2 c19_48
theorem wc19_48 : W tab ro F c19_48 K s = W tab ro F c19_51 (.sq c19_52 :: K) s := Wc_seq (show c19_48 = .seq c19_51 c19_52 from rfl)
noncomputable def r19_16 : Array Oper := rg1 c19_51
theorem wc19_51 : W tab ro F c19_51 K s = I tab ro F r19_16 0 K s := Wc_region (show c19_51 = .region 16 r19_16 false from rfl)
theorem i19_16_0 : I tab ro F r19_16 0 K s = I1 tab ro F r19_16 1 K (setO s (some 45) (opd s (.tmp 3))) := I_plain rfl rfl (ev_move)
theorem i19_16_1 : I tab ro F r19_16 1 K s = I1 tab ro F r19_16 2 K (setO s (some 46) (binO tab .lss 3 (.tmp 45) (.const (.int .i64 (18))) (opd s (.tmp 45)) (opd s (.const (.int .i64 (18)))))) := I_plain rfl rfl (ev_binOp.trans (congrArg (setO s _) u_bin))
theorem i19_16_2 : I tab ro F r19_16 2 K s = I1 tab ro F r19_16 3 K (setO s (some 44) (opd s (.tmp 46))) := I_plain rfl rfl (ev_assign)
theorem i19_16_e : I tab ro F r19_16 3 K s = kont tab ro F K .normal s := I_end rfl
noncomputable def c19_53 : Code := cd1 c19_52
noncomputable def c19_54 : Code := cd2 c19_52
theorem wc19_52 : W tab ro F c19_52 K s = C1 tab ro F c19_53 c19_54 K s (opd s (.tmp 44)) := Wc_cond (show c19_52 = .cond (.tmp 44) c19_53 c19_54 from rfl)
noncomputable def c19_55 : Code := sq1 c19_53
noncomputable def c19_56 : Code := sq2 c19_53
theorem wc19_53 : W tab ro F c19_53 K s = W tab ro F c19_55 (.sq c19_56 :: K) s := Wc_seq (show c19_53 = .seq c19_55 c19_56 from rfl)
noncomputable def r19_17 : Array Oper := rg1 c19_55
theorem wc19_55 : W tab ro F c19_55 K s = I tab ro F r19_17 0 K s := Wc_region (show c19_55 = .region 17 r19_17 false from rfl)
theorem i19_17_0 : I tab ro F r19_17 0 K s = I1 tab ro F r19_17 1 K (setO s (some 47) (opd s (.tmp 0))) := I_plain rfl rfl (ev_move)
theorem i19_17_1 : I tab ro F r19_17 1 K s = I1 tab ro F r19_17 2 K (setN s (some 48) (buildSO s.lm s.hs 5 1 (.str []) (opdParts s [(0, (.const (.string ⟨#[98, 105, 103]⟩))), (1, (.const (.string ⟨#[119, 101, 98]⟩))), (2, (.const (.string ⟨#[117, 115, 101]⟩))), (3, (.const (.string ⟨#[109, 117, 99, 104]⟩))), (4, (.const (.string ⟨#[99, 112, 117]⟩)))]))) := I_plain rfl rfl (ev_buildSlice.trans (congrArg (setN s _) (u_buildSlice (n := 1) (z := (.str [])) rfl rfl rfl rfl rfl rfl)))
theorem i19_17_2 : I tab ro F r19_17 2 K s = I1 tab ro F r19_17 3 K (setE s (some 49) (callG tab (evw tab) s 16 (opds s [(.tmp 47), (.tmp 48)]))) := I_plain rfl rfl (u_call)
theorem i19_17_3 : I tab ro F r19_17 3 K s = I1 tab ro F r19_17 4 K (setO s (some 50) (buildO (placesL [(0, 1), (1, 1), (2, 5), (7, 2), (9, 1), (10, 1)]) [(.lit (.int .i64 (0))), (.lit (.int .i64 (0))), (.str []), (.str []), (.str []), (.lit (.int .i64 (0))), (.lit (.slice none 0 0)), (.str []), (.str []), (.str []), (.lit (.int .i64 (0)))] (opdParts s [(0, (.const (.int .i64 (9)))), (4, (.tmp 49))]))) := I_plain rfl rfl (ev_build.trans (congrArg (setO s _) (u_build rfl rfl rfl rfl (places_eq rfl))))
theorem i19_17_4 : I tab ro F r19_17 4 K s = I1 tab ro F r19_17 5 K (setE s none (storeO s.heap s.hs 11 (opd s (.tmp 2)) (opd s (.tmp 50)))) := I_plain rfl rfl (ev_store.trans (congrArg (setE s _) (u_store rfl rfl)))
theorem i19_17_e : I tab ro F r19_17 5 K s = kont tab ro F K .normal s := I_end rfl
theorem wc19_56 : W tab ro F c19_56 K s = kont tab ro F K .ret s := Wc_ret (show c19_56 = .ret from rfl)
noncomputable def c19_57 : Code := sq1 c19_54
noncomputable def c19_58 : Code := sq2 c19_54
theorem wc19_54 : W tab ro F c19_54 K s = W tab ro F c19_57 (.sq c19_58 :: K) s := Wc_seq (show c19_54 = .seq c19_57 c19_58 from rfl)
noncomputable def r19_18 : Array Oper := rg1 c19_57
theorem wc19_57 : W tab ro F c19_57 K s = I tab ro F r19_18 0 K s := Wc_region (show c19_57 = .region 18 r19_18 false from rfl)
theorem i19_18_0 : I tab ro F r19_18 0 K s = I1 tab ro F r19_18 1 K (setO s (some 52) (opd s (.tmp 3))) := I_plain rfl rfl (ev_move)
theorem i19_18_1 : I tab ro F r19_18 1 K s = I1 tab ro F r19_18 2 K (setO s (some 53) (binO tab .lss 3 (.tmp 52) (.const (.int .i64 (19))) (opd s (.tmp 52)) (opd s (.const (.int .i64 (19)))))) := I_plain rfl rfl (ev_binOp.trans (congrArg (setO s _) u_bin))
theorem i19_18_2 : I tab ro F r19_18 2 K s = I1 tab ro F r19_18 3 K (setO s (some 51) (opd s (.tmp 53))) := I_plain rfl rfl (ev_assign)
theorem i19_18_e : I tab ro F r19_18 3 K s = kont tab ro F K .normal s := I_end rfl
noncomputable def c19_59 : Code := cd1 c19_58
noncomputable def c19_60 : Code := cd2 c19_58
theorem wc19_58 : W tab ro F c19_58 K s = C1 tab ro F c19_59 c19_60 K s (opd s (.tmp 51)) := Wc_cond (show c19_58 = .cond (.tmp 51) c19_59 c19_60 from rfl)
noncomputable def c19_61 : Code := sq1 c19_59
noncomputable def c19_62 : Code := sq2 c19_59
theorem wc19_59 : W tab ro F c19_59 K s = W tab ro F c19_61 (.sq c19_62 :: K) s := Wc_seq (show c19_59 = .seq c19_61 c19_62 from rfl)
noncomputable def r19_19 : Array Oper := rg1 c19_61
theorem wc19_61 : W tab ro F c19_61 K s = I tab ro F r19_19 0 K s := Wc_region (show c19_61 = .region 19 r19_19 false from rfl)
theorem i19_19_0 : I tab ro F r19_19 0 K s = I1 tab ro F r19_19 1 K (setO s (some 54) (opd s (.tmp 0))) := I_plain rfl rfl (ev_move)
theorem i19_19_1 : I tab ro F r19_19 1 K s = I1 tab ro F r19_19 2 K (setE s (some 55) (callG tab (evw tab) s 14 (opds s [(.tmp 54), (.const (.int .i64 (30)))]))) := I_plain rfl rfl (u_call)
theorem i19_19_2 : I tab ro F r19_19 2 K s = I1 tab ro F r19_19 3 K (setO s (some 56) (buildO (placesL [(0, 1), (1, 1), (2, 5), (7, 2), (9, 1), (10, 1)]) [(.lit (.int .i64 (0))), (.lit (.int .i64 (0))), (.str []), (.str []), (.str []), (.lit (.int .i64 (0))), (.lit (.slice none 0 0)), (.str []), (.str []), (.str []), (.lit (.int .i64 (0)))] (opdParts s [(0, (.const (.int .i64 (13)))), (5, (.tmp 55))]))) := I_plain rfl rfl (ev_build.trans (congrArg (setO s _) (u_build rfl rfl rfl rfl (places_eq rfl))))
theorem i19_19_3 : I tab ro F r19_19 3 K s = I1 tab ro F r19_19 4 K (setE s none (storeO s.heap s.hs 11 (opd s (.tmp 2)) (opd s (.tmp 56)))) := I_plain rfl rfl (ev_store.trans (congrArg (setE s _) (u_store rfl rfl)))
theorem i19_19_e : I tab ro F r19_19 4 K s = kont tab ro F K .normal s := I_end rfl
theorem wc19_62 : W tab ro F c19_62 K s = kont tab ro F K .ret s := Wc_ret (show c19_62 = .ret from rfl)
theorem wc19_60 : W tab ro F c19_60 K s = kont tab ro F K .normal s := Wc_skip (show c19_60 = .skip from rfl)
noncomputable def c19_63 : Code := sq1 c19_11
noncomputable def c19_64 : Code := sq2 c19_11
theorem wc19_11 : W tab ro F c19_11 K s = W tab ro F c19_63 (.sq c19_64 :: K) s := Wc_seq (show c19_11 = .seq c19_63 c19_64 from rfl)
noncomputable def r19_20 : Array Oper := rg1 c19_63
theorem wc19_63 : W tab ro F c19_63 K s = I tab ro F r19_20 0 K s := Wc_region (show c19_63 = .region 20 r19_20 false from rfl)
theorem i19_20_0 : I tab ro F r19_20 0 K s = I1 tab ro F r19_20 1 K (setO s (some 57) (opd s (.tmp 0))) := I_plain rfl rfl (ev_move)
theorem i19_20_1 : I tab ro F r19_20 1 K s = I1 tab ro F r19_20 2 K (setE s (some 58) (callG tab (evw tab) s 14 (opds s [(.tmp 57), (.const (.int .i64 (2)))]))) := I_plain rfl rfl (u_call)
theorem i19_20_2 : I tab ro F r19_20 2 K s = I1 tab ro F r19_20 3 K (setO s (some 59) (binO tab .add 3 (.const (.int .i64 (11))) (.tmp 58) (opd s (.const (.int .i64 (11)))) (opd s (.tmp 58)))) := I_plain rfl rfl (ev_binOp.trans (congrArg (setO s _) u_bin))
theorem i19_20_3 : I tab ro F r19_20 3 K s = I1 tab ro F r19_20 4 K (setO s (some 60) (buildO (placesL [(0, 1), (1, 1), (2, 5), (7, 2), (9, 1), (10, 1)]) [(.lit (.int .i64 (0))), (.lit (.int .i64 (0))), (.str []), (.str []), (.str []), (.lit (.int .i64 (0))), (.lit (.slice none 0 0)), (.str []), (.str []), (.str []), (.lit (.int .i64 (0)))] (opdParts s [(0, (.tmp 59))]))) := I_plain rfl rfl (ev_build.trans (congrArg (setO s _) (u_build rfl rfl rfl rfl (places_eq rfl))))
theorem i19_20_4 : I tab ro F r19_20 4 K s = I1 tab ro F r19_20 5 K (setE s none (storeO s.heap s.hs 11 (opd s (.tmp 2)) (opd s (.tmp 60)))) := I_plain rfl rfl (ev_store.trans (congrArg (setE s _) (u_store rfl rfl)))
theorem i19_20_e : I tab ro F r19_20 5 K s = kont tab ro F K .normal s := I_end rfl
theorem wc19_64 : W tab ro F c19_64 K s = kont tab ro F K .ret s := Wc_ret (show c19_64 = .ret from rfl)
theorem n19 : fi19.ntmps = 61 := rfl
theorem q19 : fi19.results = [.cell 2 42] := rfl
theorem f19 : tab.f 19 = some fi19 := rfl
theorem b19 : fi19.body = c19 := rfl
theorem m19 : fi19.lm = 1 := rfl
-- NAMES 19 n19 q19 b19 m19 p25p1 p25p2 p25p3 p25p4 p25e1 p25e2 p25e3 p25e4 p25n1 p25n2 wc19 wc19_0 i19_0_0 i19_0_e wc19_1 wc19_2 wc19_4 i19_1_0 i19_1_1 i19_1_e wc19_5 wc19_6 wc19_8 i19_2_0 i19_2_1 i19_2_e wc19_9 wc19_7 wc19_3 wc19_10 wc19_12 i19_3_0 i19_3_1 i19_3_2 i19_3_e wc19_13 wc19_14 wc19_15 i19_4_0 i19_4_1 i19_4_2 i19_4_e wc19_16 wc19_17 wc19_19 i19_5_0 i19_5_1 i19_5_2 i19_5_3 i19_5_e wc19_20 wc19_18 wc19_21 i19_6_0 i19_6_1 i19_6_2 i19_6_e wc19_22 wc19_23 wc19_25 i19_7_0 i19_7_1 i19_7_2 i19_7_e wc19_26 wc19_24 wc19_27 i19_8_0 i19_8_1 i19_8_2 i19_8_e wc19_28 wc19_29 wc19_31 i19_9_0 i19_9_1 i19_9_2 i19_9_3 i19_9_e wc19_32 wc19_30 wc19_33 i19_10_0 i19_10_1 i19_10_2 i19_10_e wc19_34 wc19_35 wc19_37 i19_11_0 i19_11_1 i19_11_2 i19_11_3 i19_11_e wc19_38 wc19_36 wc19_39 i19_12_0 i19_12_1 i19_12_2 i19_12_e wc19_40 wc19_41 wc19_43 i19_13_0 i19_13_1 i19_13_2 i19_13_3 i19_13_e wc19_44 wc19_42 wc19_45 i19_14_0 i19_14_1 i19_14_2 i19_14_e wc19_46 wc19_47 wc19_49 i19_15_0 i19_15_1 i19_15_2 i19_15_3 i19_15_e wc19_50 wc19_48 wc19_51 i19_16_0 i19_16_1 i19_16_2 i19_16_e wc19_52 wc19_53 wc19_55 i19_17_0 i19_17_1 i19_17_2 i19_17_3 i19_17_4 i19_17_e wc19_56 wc19_54 wc19_57 i19_18_0 i19_18_1 i19_18_2 i19_18_e wc19_58 wc19_59 wc19_61 i19_19_0 i19_19_1 i19_19_2 i19_19_3 i19_19_e wc19_62 wc19_60 wc19_11 wc19_63 i19_20_0 i19_20_1 i19_20_2 i19_20_3 i19_20_4 i19_20_e wc19_64
/-! 20: (*verderer/verdererref39.Dice).Step -/
noncomputable def c20 : Code := fi20.body
noncomputable def c20_0 : Code := sq1 c20
noncomputable def c20_1 : Code := sq2 c20
theorem wc20 : W tab ro F c20 K s = W tab ro F c20_0 (.sq c20_1 :: K) s := Wc_seq (show c20 = .seq c20_0 c20_1 from rfl)
noncomputable def r20_0 : Array Oper := rg1 c20_0
theorem wc20_0 : W tab ro F c20_0 K s = I tab ro F r20_0 0 K s := Wc_region (show c20_0 = .region 0 r20_0 false from rfl)
theorem i20_0_0 : I tab ro F r20_0 0 K s = I1 tab ro F r20_0 1 K (setN s (some 2) (some (.cells [(.lit (.int .i64 (0))), (.lit (.int .i64 (0))), (.str []), (.str []), (.str []), (.lit (.int .i64 (0))), (.lit (.slice none 0 0)), (.str []), (.str []), (.str []), (.lit (.int .i64 (0)))] false, .ptr s.hs 0))) := I_plain rfl rfl (ev_alloc.trans (congrArg (setN s _) (u_alloc (cs := [(.lit (.int .i64 (0))), (.lit (.int .i64 (0))), (.str []), (.str []), (.str []), (.lit (.int .i64 (0))), (.lit (.slice none 0 0)), (.str []), (.str []), (.str []), (.lit (.int .i64 (0)))]) rfl rfl rfl)))
theorem i20_0_e : I tab ro F r20_0 1 K s = kont tab ro F K .normal s := I_end rfl
noncomputable def c20_2 : Code := sq1 c20_1
noncomputable def c20_3 : Code := sq2 c20_1
theorem wc20_1 : W tab ro F c20_1 K s = W tab ro F c20_2 (.sq c20_3 :: K) s := Wc_seq (show c20_1 = .seq c20_2 c20_3 from rfl)
noncomputable def r20_1 : Array Oper := rg1 c20_2
theorem wc20_2 : W tab ro F c20_2 K s = I tab ro F r20_1 0 K s := Wc_region (show c20_2 = .region 1 r20_1 false from rfl)
theorem i20_1_0 : I tab ro F r20_1 0 K s = I1 tab ro F r20_1 1 K (setO s (some 5) (opd s (.tmp 0))) := I_plain rfl rfl (ev_move)
theorem i20_1_1 : I tab ro F r20_1 1 K s = I1 tab ro F r20_1 2 K (setE s (some 6) (callG tab (evw tab) s 15 (opds s [(.tmp 5), (.const (.int .i64 (20)))]))) := I_plain rfl rfl (u_call)
theorem i20_1_2 : I tab ro F r20_1 2 K s = I1 tab ro F r20_1 3 K (setO s (some 3) (opd s (.tmp 6))) := I_plain rfl rfl (ev_assign)
theorem i20_1_e : I tab ro F r20_1 3 K s = kont tab ro F K .normal s := I_end rfl
noncomputable def c20_4 : Code := sq1 c20_3
noncomputable def c20_5 : Code := sq2 c20_3
theorem wc20_3 : W tab ro F c20_3 K s = W tab ro F c20_4 (.sq c20_5 :: K) s := Wc_seq (show c20_3 = .seq c20_4 c20_5 from rfl)
noncomputable def r20_2 : Array Oper := rg1 c20_4
theorem wc20_4 : W tab ro F c20_4 K s = I tab ro F r20_2 0 K s := Wc_region (show c20_4 = .region 2 r20_2 false from rfl)
theorem i20_2_0 : I tab ro F r20_2 0 K s = I1 tab ro F r20_2 1 K (setO s (some 7) (buildO (placesL [(0, 1), (1, 1), (2, 5), (7, 2), (9, 1), (10, 1)]) [(.lit (.int .i64 (0))), (.lit (.int .i64 (0))), (.str []), (.str []), (.str []), (.lit (.int .i64 (0))), (.lit (.slice none 0 0)), (.str []), (.str []), (.str []), (.lit (.int .i64 (0)))] (opdParts s []))) := I_plain rfl rfl (ev_build.trans (congrArg (setO s _) (u_build rfl rfl rfl rfl (places_eq rfl))))
theorem i20_2_1 : I tab ro F r20_2 1 K s = I1 tab ro F r20_2 2 K (setN s (some 4) (some (.cells [(.lit (.int .i64 (0))), (.lit (.int .i64 (0))), (.str []), (.str []), (.str []), (.lit (.int .i64 (0))), (.lit (.slice none 0 0)), (.str []), (.str []), (.str []), (.lit (.int .i64 (0)))] false, .ptr s.hs 0))) := I_plain rfl rfl (ev_alloc.trans (congrArg (setN s _) (u_alloc (cs := [(.lit (.int .i64 (0))), (.lit (.int .i64 (0))), (.str []), (.str []), (.str []), (.lit (.int .i64 (0))), (.lit (.slice none 0 0)), (.str []), (.str []), (.str []), (.lit (.int .i64 (0)))]) rfl rfl rfl)))
theorem i20_2_2 : I tab ro F r20_2 2 K s = I1 tab ro F r20_2 3 K (setE s none (storeO s.heap s.hs 11 (opd s (.tmp 4)) (opd s (.tmp 7)))) := I_plain rfl rfl (ev_store.trans (congrArg (setE s _) (u_store rfl rfl)))
theorem i20_2_e : I tab ro F r20_2 3 K s = kont tab ro F K .normal s := I_end rfl
noncomputable def c20_6 : Code := sq1 c20_5
noncomputable def c20_7 : Code := sq2 c20_5
theorem wc20_5 : W tab ro F c20_5 K s = W tab ro F c20_6 (.sq c20_7 :: K) s := Wc_seq (show c20_5 = .seq c20_6 c20_7 from rfl)
noncomputable def c20_8 : Code := sq1 c20_6
noncomputable def c20_9 : Code := sq2 c20_6
theorem wc20_6 : W tab ro F c20_6 K s = W tab ro F c20_8 (.sq c20_9 :: K) s := Wc_seq (show c20_6 = .seq c20_8 c20_9 from rfl)
noncomputable def r20_3 : Array Oper := rg1 c20_8
theorem wc20_8 : W tab ro F c20_8 K s = I tab ro F r20_3 0 K s := Wc_region (show c20_8 = .region 3 r20_3 false from rfl)
theorem i20_3_0 : I tab ro F r20_3 0 K s = I1 tab ro F r20_3 1 K (setO s (some 8) (opd s (.tmp 3))) := I_plain rfl rfl (ev_move)
theorem i20_3_1 : I tab ro F r20_3 1 K s = I1 tab ro F r20_3 2 K (setO s (some 9) (binO tab .lss 3 (.tmp 8) (.const (.int .i64 (8))) (opd s (.tmp 8)) (opd s (.const (.int .i64 (8)))))) := I_plain rfl rfl (ev_binOp.trans (congrArg (setO s _) u_bin))
theorem i20_3_e : I tab ro F r20_3 2 K s = kont tab ro F K .normal s := I_end rfl
noncomputable def c20_10 : Code := cd1 c20_9
noncomputable def c20_11 : Code := cd2 c20_9
theorem wc20_9 : W tab ro F c20_9 K s = C1 tab ro F c20_10 c20_11 K s (opd s (.tmp 9)) := Wc_cond (show c20_9 = .cond (.tmp 9) c20_10 c20_11 from rfl)
noncomputable def c20_12 : Code := sq1 c20_10
noncomputable def c20_13 : Code := sq2 c20_10
theorem wc20_10 : W tab ro F c20_10 K s = W tab ro F c20_12 (.sq c20_13 :: K) s := Wc_seq (show c20_10 = .seq c20_12 c20_13 from rfl)
noncomputable def r20_4 : Array Oper := rg1 c20_12
theorem wc20_12 : W tab ro F c20_12 K s = I tab ro F r20_4 0 K s := Wc_region (show c20_12 = .region 4 r20_4 false from rfl)
theorem i20_4_0 : I tab ro F r20_4 0 K s = I1 tab ro F r20_4 1 K (setO s (some 10) (fieldAddrO 0 (opd s (.tmp 4)))) := I_plain rfl rfl (ev_fieldAddr.trans (congrArg (setO s _) (u_fieldAddr (off := 0) rfl rfl rfl rfl rfl rfl)))
theorem i20_4_1 : I tab ro F r20_4 1 K s = I1 tab ro F r20_4 2 K (setE s none (storeO s.heap s.hs 1 (opd s (.tmp 10)) (opd s (.const (.int .i64 (1)))))) := I_plain rfl rfl (ev_store.trans (congrArg (setE s _) (u_store rfl rfl)))
theorem i20_4_e : I tab ro F r20_4 2 K s = kont tab ro F K .normal s := I_end rfl
noncomputable def r20_5 : Array Oper := rg1 c20_13
theorem wc20_13 : W tab ro F c20_13 K s = I tab ro F r20_5 0 K s := Wc_region (show c20_13 = .region 5 r20_5 false from rfl)
theorem i20_5_0 : I tab ro F r20_5 0 K s = I1 tab ro F r20_5 1 K (setO s (some 11) (opd s (.tmp 0))) := I_plain rfl rfl (ev_move)
theorem i20_5_1 : I tab ro F r20_5 1 K s = I1 tab ro F r20_5 2 K (setE s (some 12) (callG tab (evw tab) s 50 (opds s [(.tmp 11), (.const (.bool true))]))) := I_plain rfl rfl (u_call)
theorem i20_5_2 : I tab ro F r20_5 2 K s = I1 tab ro F r20_5 3 K (setO s (some 13) (fieldAddrO 2 (opd s (.tmp 4)))) := I_plain rfl rfl (ev_fieldAddr.trans (congrArg (setO s _) (u_fieldAddr (off := 2) rfl rfl rfl rfl rfl rfl)))
theorem i20_5_3 : I tab ro F r20_5 3 K s = I1 tab ro F r20_5 4 K (setE s none (storeO s.heap s.hs 5 (opd s (.tmp 13)) (opd s (.tmp 12)))) := I_plain rfl rfl (ev_store.trans (congrArg (setE s _) (u_store rfl rfl)))
theorem i20_5_e : I tab ro F r20_5 4 K s = kont tab ro F K .normal s := I_end rfl
noncomputable def c20_14 : Code := sq1 c20_11
noncomputable def c20_15 : Code := sq2 c20_11
theorem wc20_11 : W tab ro F c20_11 K s = W tab ro F c20_14 (.sq c20_15 :: K) s := Wc_seq (show c20_11 = .seq c20_14 c20_15 from rfl)
noncomputable def r20_6 : Array Oper := rg1 c20_14
theorem wc20_14 : W tab ro F c20_14 K s = I tab ro F r20_6 0 K s := Wc_region (show c20_14 = .region 6 r20_6 false from rfl)
theorem i20_6_0 : I tab ro F r20_6 0 K s = I1 tab ro F r20_6 1 K (setO s (some 14) (opd s (.tmp 3))) := I_plain rfl rfl (ev_move)
theorem i20_6_1 : I tab ro F r20_6 1 K s = I1 tab ro F r20_6 2 K (setO s (some 15) (binO tab .lss 3 (.tmp 14) (.const (.int .i64 (10))) (opd s (.tmp 14)) (opd s (.const (.int .i64 (10)))))) := I_plain rfl rfl (ev_binOp.trans (congrArg (setO s _) u_bin))
theorem i20_6_e : I tab ro F r20_6 2 K s = kont tab ro F K .normal s := I_end rfl
noncomputable def c20_16 : Code := cd1 c20_15
noncomputable def c20_17 : Code := cd2 c20_15
theorem wc20_15 : W tab ro F c20_15 K s = C1 tab ro F c20_16 c20_17 K s (opd s (.tmp 15)) := Wc_cond (show c20_15 = .cond (.tmp 15) c20_16 c20_17 from rfl)
noncomputable def c20_18 : Code := sq1 c20_16
noncomputable def c20_19 : Code := sq2 c20_16
theorem wc20_16 : W tab ro F c20_16 K s = W tab ro F c20_18 (.sq c20_19 :: K) s := Wc_seq (show c20_16 = .seq c20_18 c20_19 from rfl)
noncomputable def r20_7 : Array Oper := rg1 c20_18
theorem wc20_18 : W tab ro F c20_18 K s = I tab ro F r20_7 0 K s := Wc_region (show c20_18 = .region 7 r20_7 false from rfl)
theorem i20_7_0 : I tab ro F r20_7 0 K s = I1 tab ro F r20_7 1 K (setO s (some 16) (fieldAddrO 0 (opd s (.tmp 4)))) := I_plain rfl rfl (ev_fieldAddr.trans (congrArg (setO s _) (u_fieldAddr (off := 0) rfl rfl rfl rfl rfl rfl)))
theorem i20_7_1 : I tab ro F r20_7 1 K s = I1 tab ro F r20_7 2 K (setE s none (storeO s.heap s.hs 1 (opd s (.tmp 16)) (opd s (.const (.int .i64 (2)))))) := I_plain rfl rfl (ev_store.trans (congrArg (setE s _) (u_store rfl rfl)))
theorem i20_7_e : I tab ro F r20_7 2 K s = kont tab ro F K .normal s := I_end rfl
noncomputable def c20_20 : Code := sq1 c20_19
noncomputable def c20_21 : Code := sq2 c20_19
theorem wc20_19 : W tab ro F c20_19 K s = W tab ro F c20_20 (.sq c20_21 :: K) s := Wc_seq (show c20_19 = .seq c20_20 c20_21 from rfl)
noncomputable def r20_8 : Array Oper := rg1 c20_20
theorem wc20_20 : W tab ro F c20_20 K s = I tab ro F r20_8 0 K s := Wc_region (show c20_20 = .region 8 r20_8 false from rfl)
theorem i20_8_0 : I tab ro F r20_8 0 K s = I1 tab ro F r20_8 1 K (setO s (some 17) (opd s (.tmp 0))) := I_plain rfl rfl (ev_move)
theorem i20_8_1 : I tab ro F r20_8 1 K s = I1 tab ro F r20_8 2 K (setE s (some 18) (callG tab (evw tab) s 50 (opds s [(.tmp 17), (.const (.bool true))]))) := I_plain rfl rfl (u_call)
theorem i20_8_2 : I tab ro F r20_8 2 K s = I1 tab ro F r20_8 3 K (setO s (some 19) (fieldAddrO 2 (opd s (.tmp 4)))) := I_plain rfl rfl (ev_fieldAddr.trans (congrArg (setO s _) (u_fieldAddr (off := 2) rfl rfl rfl rfl rfl rfl)))
theorem i20_8_3 : I tab ro F r20_8 3 K s = I1 tab ro F r20_8 4 K (setE s none (storeO s.heap s.hs 5 (opd s (.tmp 19)) (opd s (.tmp 18)))) := I_plain rfl rfl (ev_store.trans (congrArg (setE s _) (u_store rfl rfl)))
theorem i20_8_e : I tab ro F r20_8 4 K s = kont tab ro F K .normal s := I_end rfl
noncomputable def r20_9 : Array Oper := rg1 c20_21
theorem wc20_21 : W tab ro F c20_21 K s = I tab ro F r20_9 0 K s := Wc_region (show c20_21 = .region 9 r20_9 false from rfl)
theorem i20_9_0 : I tab ro F r20_9 0 K s = I1 tab ro F r20_9 1 K (setO s (some 20) (opd s (.tmp 0))) := I_plain rfl rfl (ev_move)
theorem i20_9_1 : I tab ro F r20_9 1 K s = I1 tab ro F r20_9 2 K (setE s (some 21) (callG tab (evw tab) s 15 (opds s [(.tmp 20), (.const (.int .i64 (12)))]))) := I_plain rfl rfl (u_call)
theorem i20_9_2 : I tab ro F r20_9 2 K s = I1 tab ro F r20_9 3 K (setO s (some 22) (fieldAddrO 2 (opd s (.tmp 4)))) := I_plain rfl rfl (ev_fieldAddr.trans (congrArg (setO s _) (u_fieldAddr (off := 2) rfl rfl rfl rfl rfl rfl)))
theorem i20_9_3 : I tab ro F r20_9 3 K s = I1 tab ro F r20_9 4 K (setO s (some 23) (fieldAddrO 3 (opd s (.tmp 22)))) := I_plain rfl rfl (ev_fieldAddr.trans (congrArg (setO s _) (u_fieldAddr (off := 3) rfl rfl rfl rfl rfl rfl)))
theorem i20_9_4 : I tab ro F r20_9 4 K s = I1 tab ro F r20_9 5 K (setE s none (storeO s.heap s.hs 1 (opd s (.tmp 23)) (opd s (.tmp 21)))) := I_plain rfl rfl (ev_store.trans (congrArg (setE s _) (u_store rfl rfl)))
theorem i20_9_e : I tab ro F r20_9 5 K s = kont tab ro F K .normal s := I_end rfl
noncomputable def c20_22 : Code := sq1 c20_17
noncomputable def c20_23 : Code := sq2 c20_17
theorem wc20_17 : W tab ro F c20_17 K s = W tab ro F c20_22 (.sq c20_23 :: K) s := Wc_seq (show c20_17 = .seq c20_22 c20_23 from rfl)
noncomputable def r20_10 : Array Oper := rg1 c20_22
theorem wc20_22 : W tab ro F c20_22 K s = I tab ro F r20_10 0 K s := Wc_region (show c20_22 = .region 10 r20_10 false from rfl)
theorem i20_10_0 : I tab ro F r20_10 0 K s = I1 tab ro F r20_10 1 K (setO s (some 24) (opd s (.tmp 3))) := I_plain rfl rfl (ev_move)
theorem i20_10_1 : I tab ro F r20_10 1 K s = I1 tab ro F r20_10 2 K (setO s (some 25) (binO tab .lss 3 (.tmp 24) (.const (.int .i64 (12))) (opd s (.tmp 24)) (opd s (.const (.int .i64 (12)))))) := I_plain rfl rfl (ev_binOp.trans (congrArg (setO s _) u_bin))
theorem i20_10_e : I tab ro F r20_10 2 K s = kont tab ro F K .normal s := I_end rfl
noncomputable def c20_24 : Code := cd1 c20_23
noncomputable def c20_25 : Code := cd2 c20_23
theorem wc20_23 : W tab ro F c20_23 K s = C1 tab ro F c20_24 c20_25 K s (opd s (.tmp 25)) := Wc_cond (show c20_23 = .cond (.tmp 25) c20_24 c20_25 from rfl)
noncomputable def c20_26 : Code := sq1 c20_24
noncomputable def c20_27 : Code := sq2 c20_24
theorem wc20_24 : W tab ro F c20_24 K s = W tab ro F c20_26 (.sq c20_27 :: K) s := Wc_seq (show c20_24 = .seq c20_26 c20_27 from rfl)
noncomputable def r20_11 : Array Oper := rg1 c20_26
theorem wc20_26 : W tab ro F c20_26 K s = I tab ro F r20_11 0 K s := Wc_region (show c20_26 = .region 11 r20_11 false from rfl)
theorem i20_11_0 : I tab ro F r20_11 0 K s = I1 tab ro F r20_11 1 K (setO s (some 26) (fieldAddrO 0 (opd s (.tmp 4)))) := I_plain rfl rfl (ev_fieldAddr.trans (congrArg (setO s _) (u_fieldAddr (off := 0) rfl rfl rfl rfl rfl rfl)))
theorem i20_11_1 : I tab ro F r20_11 1 K s = I1 tab ro F r20_11 2 K (setE s none (storeO s.heap s.hs 1 (opd s (.tmp 26)) (opd s (.const (.int .i64 (3)))))) := I_plain rfl rfl (ev_store.trans (congrArg (setE s _) (u_store rfl rfl)))
theorem i20_11_e : I tab ro F r20_11 2 K s = kont tab ro F K .normal s := I_end rfl
noncomputable def r20_12 : Array Oper := rg1 c20_27
theorem wc20_27 : W tab ro F c20_27 K s = I tab ro F r20_12 0 K s := Wc_region (show c20_27 = .region 12 r20_12 false from rfl)
theorem i20_12_0 : I tab ro F r20_12 0 K s = I1 tab ro F r20_12 1 K (setO s (some 27) (opd s (.tmp 0))) := I_plain rfl rfl (ev_move)
theorem i20_12_1 : I tab ro F r20_12 1 K s = I1 tab ro F r20_12 2 K (setE s (some 28) (callG tab (evw tab) s 50 (opds s [(.tmp 27), (.const (.bool false))]))) := I_plain rfl rfl (u_call)
theorem i20_12_2 : I tab ro F r20_12 2 K s = I1 tab ro F r20_12 3 K (setO s (some 29) (fieldAddrO 2 (opd s (.tmp 4)))) := I_plain rfl rfl (ev_fieldAddr.trans (congrArg (setO s _) (u_fieldAddr (off := 2) rfl rfl rfl rfl rfl rfl)))
theorem i20_12_3 : I tab ro F r20_12 3 K s = I1 tab ro F r20_12 4 K (setE s none (storeO s.heap s.hs 5 (opd s (.tmp 29)) (opd s (.tmp 28)))) := I_plain rfl rfl (ev_store.trans (congrArg (setE s _) (u_store rfl rfl)))
theorem i20_12_e : I tab ro F r20_12 4 K s = kont tab ro F K .normal s := I_end rfl
noncomputable def c20_28 : Code := sq1 c20_25
noncomputable def c20_29 : Code := sq2 c20_25
theorem wc20_25 : W tab ro F c20_25 K s = W tab ro F c20_28 (.sq c20_29 :: K) s := Wc_seq (show c20_25 = .seq c20_28 c20_29 from rfl)
noncomputable def r20_13 : Array Oper := rg1 c20_28
theorem wc20_28 : W tab ro F c20_28 K s = I tab ro F r20_13 0 K s := Wc_region (show c20_28 = .region 13 r20_13 false from rfl)
theorem i20_13_0 : I tab ro F r20_13 0 K s = I1 tab ro F r20_13 1 K (setO s (some 30) (opd s (.tmp 3))) := I_plain rfl rfl (ev_move)
theorem i20_13_1 : I tab ro F r20_13 1 K s = I1 tab ro F r20_13 2 K (setO s (some 31) (binO tab .lss 3 (.tmp 30) (.const (.int .i64 (14))) (opd s (.tmp 30)) (opd s (.const (.int .i64 (14)))))) := I_plain rfl rfl (ev_binOp.trans (congrArg (setO s _) u_bin))
theorem i20_13_e : I tab ro F r20_13 2 K s = kont tab ro F K .normal s := I_end rfl
noncomputable def c20_30 : Code := cd1 c20_29
noncomputable def c20_31 : Code := cd2 c20_29
theorem wc20_29 : W tab ro F c20_29 K s = C1 tab ro F c20_30 c20_31 K s (opd s (.tmp 31)) := Wc_cond (show c20_29 = .cond (.tmp 31) c20_30 c20_31 from rfl)
noncomputable def c20_32 : Code := sq1 c20_30
noncomputable def c20_33 : Code := sq2 c20_30
theorem wc20_30 : W tab ro F c20_30 K s = W tab ro F c20_32 (.sq c20_33 :: K) s := Wc_seq (show c20_30 = .seq c20_32 c20_33 from rfl)
noncomputable def r20_14 : Array Oper := rg1 c20_32
theorem wc20_32 : W tab ro F c20_32 K s = I tab ro F r20_14 0 K s := Wc_region (show c20_32 = .region 14 r20_14 false from rfl)
theorem i20_14_0 : I tab ro F r20_14 0 K s = I1 tab ro F r20_14 1 K (setO s (some 32) (fieldAddrO 0 (opd s (.tmp 4)))) := I_plain rfl rfl (ev_fieldAddr.trans (congrArg (setO s _) (u_fieldAddr (off := 0) rfl rfl rfl rfl rfl rfl)))
theorem i20_14_1 : I tab ro F r20_14 1 K s = I1 tab ro F r20_14 2 K (setE s none (storeO s.heap s.hs 1 (opd s (.tmp 32)) (opd s (.const (.int .i64 (4)))))) := I_plain rfl rfl (ev_store.trans (congrArg (setE s _) (u_store rfl rfl)))
theorem i20_14_e : I tab ro F r20_14 2 K s = kont tab ro F K .normal s := I_end rfl
noncomputable def r20_15 : Array Oper := rg1 c20_33
theorem wc20_33 : W tab ro F c20_33 K s = I tab ro F r20_15 0 K s := Wc_region (show c20_33 = .region 15 r20_15 false from rfl)
theorem i20_15_0 : I tab ro F r20_15 0 K s = I1 tab ro F r20_15 1 K (setO s (some 33) (opd s (.tmp 0))) := I_plain rfl rfl (ev_move)
theorem i20_15_1 : I tab ro F r20_15 1 K s = I1 tab ro F r20_15 2 K (setE s (some 34) (callG tab (evw tab) s 51 (opds s [(.tmp 33)]))) := I_plain rfl rfl (u_call)
theorem i20_15_2 : I tab ro F r20_15 2 K s = I1 tab ro F r20_15 3 K (setO s (some 35) (fieldAddrO 7 (opd s (.tmp 4)))) := I_plain rfl rfl (ev_fieldAddr.trans (congrArg (setO s _) (u_fieldAddr (off := 7) rfl rfl rfl rfl rfl rfl)))
theorem i20_15_3 : I tab ro F r20_15 3 K s = I1 tab ro F r20_15 4 K (setE s none (storeO s.heap s.hs 2 (opd s (.tmp 35)) (opd s (.tmp 34)))) := I_plain rfl rfl (ev_store.trans (congrArg (setE s _) (u_store rfl rfl)))
theorem i20_15_e : I tab ro F r20_15 4 K s = kont tab ro F K .normal s := I_end rfl
noncomputable def c20_34 : Code := sq1 c20_31
noncomputable def c20_35 : Code := sq2 c20_31
theorem wc20_31 : W tab ro F c20_31 K s = W tab ro F c20_34 (.sq c20_35 :: K) s := Wc_seq (show c20_31 = .seq c20_34 c20_35 from rfl)
noncomputable def r20_16 : Array Oper := rg1 c20_34
theorem wc20_34 : W tab ro F c20_34 K s = I tab ro F r20_16 0 K s := Wc_region (show c20_34 = .region 16 r20_16 false from rfl)
theorem i20_16_0 : I tab ro F r20_16 0 K s = I1 tab ro F r20_16 1 K (setO s (some 36) (opd s (.tmp 3))) := I_plain rfl rfl (ev_move)
theorem i20_16_1 : I tab ro F r20_16 1 K s = I1 tab ro F r20_16 2 K (setO s (some 37) (binO tab .lss 3 (.tmp 36) (.const (.int .i64 (15))) (opd s (.tmp 36)) (opd s (.const (.int .i64 (15)))))) := I_plain rfl rfl (ev_binOp.trans (congrArg (setO s _) u_bin))
theorem i20_16_e : I tab ro F r20_16 2 K s = kont tab ro F K .normal s := I_end rfl
noncomputable def c20_36 : Code := cd1 c20_35
noncomputable def c20_37 : Code := cd2 c20_35
theorem wc20_35 : W tab ro F c20_35 K s = C1 tab ro F c20_36 c20_37 K s (opd s (.tmp 37)) := Wc_cond (show c20_35 = .cond (.tmp 37) c20_36 c20_37 from rfl)
noncomputable def c20_38 : Code := sq1 c20_36
noncomputable def c20_39 : Code := sq2 c20_36
theorem wc20_36 : W tab ro F c20_36 K s = W tab ro F c20_38 (.sq c20_39 :: K) s := Wc_seq (show c20_36 = .seq c20_38 c20_39 from rfl)
noncomputable def r20_17 : Array Oper := rg1 c20_38
theorem wc20_38 : W tab ro F c20_38 K s = I tab ro F r20_17 0 K s := Wc_region (show c20_38 = .region 17 r20_17 false from rfl)
theorem i20_17_0 : I tab ro F r20_17 0 K s = I1 tab ro F r20_17 1 K (setO s (some 38) (fieldAddrO 0 (opd s (.tmp 4)))) := I_plain rfl rfl (ev_fieldAddr.trans (congrArg (setO s _) (u_fieldAddr (off := 0) rfl rfl rfl rfl rfl rfl)))
theorem i20_17_1 : I tab ro F r20_17 1 K s = I1 tab ro F r20_17 2 K (setE s none (storeO s.heap s.hs 1 (opd s (.tmp 38)) (opd s (.const (.int .i64 (5)))))) := I_plain rfl rfl (ev_store.trans (congrArg (setE s _) (u_store rfl rfl)))
theorem i20_17_e : I tab ro F r20_17 2 K s = kont tab ro F K .normal s := I_end rfl
noncomputable def r20_18 : Array Oper := rg1 c20_39
theorem wc20_39 : W tab ro F c20_39 K s = I tab ro F r20_18 0 K s := Wc_region (show c20_39 = .region 18 r20_18 false from rfl)
theorem i20_18_0 : I tab ro F r20_18 0 K s = I1 tab ro F r20_18 1 K (setO s (some 39) (opd s (.tmp 0))) := I_plain rfl rfl (ev_move)
theorem i20_18_1 : I tab ro F r20_18 1 K s = I1 tab ro F r20_18 2 K (setE s (some 40) (callG tab (evw tab) s 51 (opds s [(.tmp 39)]))) := I_plain rfl rfl (u_call)
theorem i20_18_2 : I tab ro F r20_18 2 K s = I1 tab ro F r20_18 3 K (setO s (some 41) (fieldAddrO 7 (opd s (.tmp 4)))) := I_plain rfl rfl (ev_fieldAddr.trans (congrArg (setO s _) (u_fieldAddr (off := 7) rfl rfl rfl rfl rfl rfl)))
theorem i20_18_3 : I tab ro F r20_18 3 K s = I1 tab ro F r20_18 4 K (setE s none (storeO s.heap s.hs 2 (opd s (.tmp 41)) (opd s (.tmp 40)))) := I_plain rfl rfl (ev_store.trans (congrArg (setE s _) (u_store rfl rfl)))
theorem i20_18_e : I tab ro F r20_18 4 K s = kont tab ro F K .normal s := I_end rfl
noncomputable def c20_40 : Code := sq1 c20_37
noncomputable def c20_41 : Code := sq2 c20_37
theorem wc20_37 : W tab ro F c20_37 K s = W tab ro F c20_40 (.sq c20_41 :: K) s := Wc_seq (show c20_37 = .seq c20_40 c20_41 from rfl)
noncomputable def r20_19 : Array Oper := rg1 c20_40
theorem wc20_40 : W tab ro F c20_40 K s = I tab ro F r20_19 0 K s := Wc_region (show c20_40 = .region 19 r20_19 false from rfl)
theorem i20_19_0 : I tab ro F r20_19 0 K s = I1 tab ro F r20_19 1 K (setO s (some 42) (opd s (.tmp 3))) := I_plain rfl rfl (ev_move)
theorem i20_19_1 : I tab ro F r20_19 1 K s = I1 tab ro F r20_19 2 K (setO s (some 43) (binO tab .lss 3 (.tmp 42) (.const (.int .i64 (17))) (opd s (.tmp 42)) (opd s (.const (.int .i64 (17)))))) := I_plain rfl rfl (ev_binOp.trans (congrArg (setO s _) u_bin))
theorem i20_19_e : I tab ro F r20_19 2 K s = kont tab ro F K .normal s := I_end rfl
noncomputable def c20_42 : Code := cd1 c20_41
noncomputable def c20_43 : Code := cd2 c20_41
theorem wc20_41 : W tab ro F c20_41 K s = C1 tab ro F c20_42 c20_43 K s (opd s (.tmp 43)) := Wc_cond (show c20_41 = .cond (.tmp 43) c20_42 c20_43 from rfl)
noncomputable def c20_44 : Code := sq1 c20_42
noncomputable def c20_45 : Code := sq2 c20_42
theorem wc20_42 : W tab ro F c20_42 K s = W tab ro F c20_44 (.sq c20_45 :: K) s := Wc_seq (show c20_42 = .seq c20_44 c20_45 from rfl)
noncomputable def r20_20 : Array Oper := rg1 c20_44
theorem wc20_44 : W tab ro F c20_44 K s = I tab ro F r20_20 0 K s := Wc_region (show c20_44 = .region 20 r20_20 false from rfl)
theorem i20_20_0 : I tab ro F r20_20 0 K s = I1 tab ro F r20_20 1 K (setO s (some 44) (fieldAddrO 0 (opd s (.tmp 4)))) := I_plain rfl rfl (ev_fieldAddr.trans (congrArg (setO s _) (u_fieldAddr (off := 0) rfl rfl rfl rfl rfl rfl)))
theorem i20_20_1 : I tab ro F r20_20 1 K s = I1 tab ro F r20_20 2 K (setE s none (storeO s.heap s.hs 1 (opd s (.tmp 44)) (opd s (.const (.int .i64 (7)))))) := I_plain rfl rfl (ev_store.trans (congrArg (setE s _) (u_store rfl rfl)))
theorem i20_20_e : I tab ro F r20_20 2 K s = kont tab ro F K .normal s := I_end rfl
noncomputable def r20_21 : Array Oper := rg1 c20_45
theorem wc20_45 : W tab ro F c20_45 K s = I tab ro F r20_21 0 K s := Wc_region (show c20_45 = .region 21 r20_21 false from rfl)
theorem i20_21_0 : I tab ro F r20_21 0 K s = I1 tab ro F r20_21 1 K (setO s (some 45) (opd s (.tmp 0))) := I_plain rfl rfl (ev_move)
theorem i20_21_1 : I tab ro F r20_21 1 K s = I1 tab ro F r20_21 2 K (setN s (some 46) (buildSO s.lm s.hs 5 1 (.str []) (opdParts s [(0, (.const (.string ⟨#[100, 101, 110, 121, 32, 98, 105, 103, 40, 115, 44, 32, 110, 41, 32, 105, 102, 32, 112, 111, 100, 40, 115, 44, 32, 110, 44, 32, 95, 44, 32, 99, 41, 44, 32, 99, 32, 62, 32, 53]⟩))), (1, (.const (.string ⟨#[100, 101, 110, 121, 32, 119, 101, 98, 40, 115, 41, 32, 105, 102, 32, 112, 111, 100, 40, 115, 44, 32, 95, 44, 32, 34, 119, 101, 98, 34, 44, 32, 95, 41]⟩))), (2, (.const (.string ⟨#[118, 105, 101, 119, 32, 117, 115, 101, 40, 115, 44, 32, 115, 117, 109, 32, 99, 41, 32, 105, 102, 32, 112, 111, 100, 40, 115, 44, 32, 95, 44, 32, 95, 44, 32, 99, 41]⟩))), (3, (.const (.string ⟨#[100, 101, 110, 121, 32, 109, 117, 99, 104, 40, 115, 41, 32, 105, 102, 32, 117, 115, 101, 40, 115, 44, 32, 99, 41, 44, 32, 99, 32, 62, 32, 49, 50]⟩))), (4, (.const (.string ⟨#[113, 117, 111, 116, 97, 32, 99, 112, 117, 40, 115, 44, 32, 115, 117, 109, 32, 99, 41, 32, 108, 105, 109, 105, 116, 32, 50, 48, 32, 105, 102, 32, 112, 111, 100, 40, 115, 44, 32, 95, 44, 32, 95, 44, 32, 99, 41]⟩)))]))) := I_plain rfl rfl (ev_buildSlice.trans (congrArg (setN s _) (u_buildSlice (n := 1) (z := (.str [])) rfl rfl rfl rfl rfl rfl)))
theorem i20_21_2 : I tab ro F r20_21 2 K s = I1 tab ro F r20_21 3 K (setE s (some 47) (callG tab (evw tab) s 17 (opds s [(.tmp 45), (.tmp 46)]))) := I_plain rfl rfl (u_call)
theorem i20_21_3 : I tab ro F r20_21 3 K s = I1 tab ro F r20_21 4 K (setO s (some 48) (fieldAddrO 9 (opd s (.tmp 4)))) := I_plain rfl rfl (ev_fieldAddr.trans (congrArg (setO s _) (u_fieldAddr (off := 9) rfl rfl rfl rfl rfl rfl)))
theorem i20_21_4 : I tab ro F r20_21 4 K s = I1 tab ro F r20_21 5 K (setE s none (storeO s.heap s.hs 1 (opd s (.tmp 48)) (opd s (.tmp 47)))) := I_plain rfl rfl (ev_store.trans (congrArg (setE s _) (u_store rfl rfl)))
theorem i20_21_e : I tab ro F r20_21 5 K s = kont tab ro F K .normal s := I_end rfl
noncomputable def c20_46 : Code := sq1 c20_43
noncomputable def c20_47 : Code := sq2 c20_43
theorem wc20_43 : W tab ro F c20_43 K s = W tab ro F c20_46 (.sq c20_47 :: K) s := Wc_seq (show c20_43 = .seq c20_46 c20_47 from rfl)
noncomputable def r20_22 : Array Oper := rg1 c20_46
theorem wc20_46 : W tab ro F c20_46 K s = I tab ro F r20_22 0 K s := Wc_region (show c20_46 = .region 22 r20_22 false from rfl)
theorem i20_22_0 : I tab ro F r20_22 0 K s = I1 tab ro F r20_22 1 K (setO s (some 49) (opd s (.tmp 3))) := I_plain rfl rfl (ev_move)
theorem i20_22_1 : I tab ro F r20_22 1 K s = I1 tab ro F r20_22 2 K (setO s (some 50) (binO tab .lss 3 (.tmp 49) (.const (.int .i64 (18))) (opd s (.tmp 49)) (opd s (.const (.int .i64 (18)))))) := I_plain rfl rfl (ev_binOp.trans (congrArg (setO s _) u_bin))
theorem i20_22_e : I tab ro F r20_22 2 K s = kont tab ro F K .normal s := I_end rfl
noncomputable def c20_48 : Code := cd1 c20_47
noncomputable def c20_49 : Code := cd2 c20_47
theorem wc20_47 : W tab ro F c20_47 K s = C1 tab ro F c20_48 c20_49 K s (opd s (.tmp 50)) := Wc_cond (show c20_47 = .cond (.tmp 50) c20_48 c20_49 from rfl)
noncomputable def c20_50 : Code := sq1 c20_48
noncomputable def c20_51 : Code := sq2 c20_48
theorem wc20_48 : W tab ro F c20_48 K s = W tab ro F c20_50 (.sq c20_51 :: K) s := Wc_seq (show c20_48 = .seq c20_50 c20_51 from rfl)
noncomputable def r20_23 : Array Oper := rg1 c20_50
theorem wc20_50 : W tab ro F c20_50 K s = I tab ro F r20_23 0 K s := Wc_region (show c20_50 = .region 23 r20_23 false from rfl)
theorem i20_23_0 : I tab ro F r20_23 0 K s = I1 tab ro F r20_23 1 K (setO s (some 51) (fieldAddrO 0 (opd s (.tmp 4)))) := I_plain rfl rfl (ev_fieldAddr.trans (congrArg (setO s _) (u_fieldAddr (off := 0) rfl rfl rfl rfl rfl rfl)))
theorem i20_23_1 : I tab ro F r20_23 1 K s = I1 tab ro F r20_23 2 K (setE s none (storeO s.heap s.hs 1 (opd s (.tmp 51)) (opd s (.const (.int .i64 (9)))))) := I_plain rfl rfl (ev_store.trans (congrArg (setE s _) (u_store rfl rfl)))
theorem i20_23_e : I tab ro F r20_23 2 K s = kont tab ro F K .normal s := I_end rfl
noncomputable def r20_24 : Array Oper := rg1 c20_51
theorem wc20_51 : W tab ro F c20_51 K s = I tab ro F r20_24 0 K s := Wc_region (show c20_51 = .region 24 r20_24 false from rfl)
theorem i20_24_0 : I tab ro F r20_24 0 K s = I1 tab ro F r20_24 1 K (setO s (some 52) (opd s (.tmp 0))) := I_plain rfl rfl (ev_move)
theorem i20_24_1 : I tab ro F r20_24 1 K s = I1 tab ro F r20_24 2 K (setN s (some 53) (buildSO s.lm s.hs 5 1 (.str []) (opdParts s [(0, (.const (.string ⟨#[98, 105, 103]⟩))), (1, (.const (.string ⟨#[119, 101, 98]⟩))), (2, (.const (.string ⟨#[117, 115, 101]⟩))), (3, (.const (.string ⟨#[109, 117, 99, 104]⟩))), (4, (.const (.string ⟨#[99, 112, 117]⟩)))]))) := I_plain rfl rfl (ev_buildSlice.trans (congrArg (setN s _) (u_buildSlice (n := 1) (z := (.str [])) rfl rfl rfl rfl rfl rfl)))
theorem i20_24_2 : I tab ro F r20_24 2 K s = I1 tab ro F r20_24 3 K (setE s (some 54) (callG tab (evw tab) s 17 (opds s [(.tmp 52), (.tmp 53)]))) := I_plain rfl rfl (u_call)
theorem i20_24_3 : I tab ro F r20_24 3 K s = I1 tab ro F r20_24 4 K (setO s (some 55) (fieldAddrO 9 (opd s (.tmp 4)))) := I_plain rfl rfl (ev_fieldAddr.trans (congrArg (setO s _) (u_fieldAddr (off := 9) rfl rfl rfl rfl rfl rfl)))
theorem i20_24_4 : I tab ro F r20_24 4 K s = I1 tab ro F r20_24 5 K (setE s none (storeO s.heap s.hs 1 (opd s (.tmp 55)) (opd s (.tmp 54)))) := I_plain rfl rfl (ev_store.trans (congrArg (setE s _) (u_store rfl rfl)))
theorem i20_24_e : I tab ro F r20_24 5 K s = kont tab ro F K .normal s := I_end rfl
noncomputable def c20_52 : Code := sq1 c20_49
noncomputable def c20_53 : Code := sq2 c20_49
theorem wc20_49 : W tab ro F c20_49 K s = W tab ro F c20_52 (.sq c20_53 :: K) s := Wc_seq (show c20_49 = .seq c20_52 c20_53 from rfl)
noncomputable def r20_25 : Array Oper := rg1 c20_52
theorem wc20_52 : W tab ro F c20_52 K s = I tab ro F r20_25 0 K s := Wc_region (show c20_52 = .region 25 r20_25 false from rfl)
theorem i20_25_0 : I tab ro F r20_25 0 K s = I1 tab ro F r20_25 1 K (setO s (some 56) (opd s (.tmp 3))) := I_plain rfl rfl (ev_move)
theorem i20_25_1 : I tab ro F r20_25 1 K s = I1 tab ro F r20_25 2 K (setO s (some 57) (binO tab .lss 3 (.tmp 56) (.const (.int .i64 (19))) (opd s (.tmp 56)) (opd s (.const (.int .i64 (19)))))) := I_plain rfl rfl (ev_binOp.trans (congrArg (setO s _) u_bin))
theorem i20_25_e : I tab ro F r20_25 2 K s = kont tab ro F K .normal s := I_end rfl
noncomputable def c20_54 : Code := cd1 c20_53
noncomputable def c20_55 : Code := cd2 c20_53
theorem wc20_53 : W tab ro F c20_53 K s = C1 tab ro F c20_54 c20_55 K s (opd s (.tmp 57)) := Wc_cond (show c20_53 = .cond (.tmp 57) c20_54 c20_55 from rfl)
noncomputable def c20_56 : Code := sq1 c20_54
noncomputable def c20_57 : Code := sq2 c20_54
theorem wc20_54 : W tab ro F c20_54 K s = W tab ro F c20_56 (.sq c20_57 :: K) s := Wc_seq (show c20_54 = .seq c20_56 c20_57 from rfl)
noncomputable def r20_26 : Array Oper := rg1 c20_56
theorem wc20_56 : W tab ro F c20_56 K s = I tab ro F r20_26 0 K s := Wc_region (show c20_56 = .region 26 r20_26 false from rfl)
theorem i20_26_0 : I tab ro F r20_26 0 K s = I1 tab ro F r20_26 1 K (setO s (some 58) (fieldAddrO 0 (opd s (.tmp 4)))) := I_plain rfl rfl (ev_fieldAddr.trans (congrArg (setO s _) (u_fieldAddr (off := 0) rfl rfl rfl rfl rfl rfl)))
theorem i20_26_1 : I tab ro F r20_26 1 K s = I1 tab ro F r20_26 2 K (setE s none (storeO s.heap s.hs 1 (opd s (.tmp 58)) (opd s (.const (.int .i64 (13)))))) := I_plain rfl rfl (ev_store.trans (congrArg (setE s _) (u_store rfl rfl)))
theorem i20_26_e : I tab ro F r20_26 2 K s = kont tab ro F K .normal s := I_end rfl
noncomputable def r20_27 : Array Oper := rg1 c20_57
theorem wc20_57 : W tab ro F c20_57 K s = I tab ro F r20_27 0 K s := Wc_region (show c20_57 = .region 27 r20_27 false from rfl)
theorem i20_27_0 : I tab ro F r20_27 0 K s = I1 tab ro F r20_27 1 K (setO s (some 59) (opd s (.tmp 0))) := I_plain rfl rfl (ev_move)
theorem i20_27_1 : I tab ro F r20_27 1 K s = I1 tab ro F r20_27 2 K (setE s (some 60) (callG tab (evw tab) s 15 (opds s [(.tmp 59), (.const (.int .i64 (30)))]))) := I_plain rfl rfl (u_call)
theorem i20_27_2 : I tab ro F r20_27 2 K s = I1 tab ro F r20_27 3 K (setO s (some 61) (fieldAddrO 10 (opd s (.tmp 4)))) := I_plain rfl rfl (ev_fieldAddr.trans (congrArg (setO s _) (u_fieldAddr (off := 10) rfl rfl rfl rfl rfl rfl)))
theorem i20_27_3 : I tab ro F r20_27 3 K s = I1 tab ro F r20_27 4 K (setE s none (storeO s.heap s.hs 1 (opd s (.tmp 61)) (opd s (.tmp 60)))) := I_plain rfl rfl (ev_store.trans (congrArg (setE s _) (u_store rfl rfl)))
theorem i20_27_e : I tab ro F r20_27 4 K s = kont tab ro F K .normal s := I_end rfl
noncomputable def r20_28 : Array Oper := rg1 c20_55
theorem wc20_55 : W tab ro F c20_55 K s = I tab ro F r20_28 0 K s := Wc_region (show c20_55 = .region 28 r20_28 false from rfl)
theorem i20_28_0 : I tab ro F r20_28 0 K s = I1 tab ro F r20_28 1 K (setO s (some 62) (opd s (.tmp 0))) := I_plain rfl rfl (ev_move)
theorem i20_28_1 : I tab ro F r20_28 1 K s = I1 tab ro F r20_28 2 K (setE s (some 63) (callG tab (evw tab) s 15 (opds s [(.tmp 62), (.const (.int .i64 (2)))]))) := I_plain rfl rfl (u_call)
theorem i20_28_2 : I tab ro F r20_28 2 K s = I1 tab ro F r20_28 3 K (setO s (some 64) (binO tab .add 3 (.const (.int .i64 (11))) (.tmp 63) (opd s (.const (.int .i64 (11)))) (opd s (.tmp 63)))) := I_plain rfl rfl (ev_binOp.trans (congrArg (setO s _) u_bin))
theorem i20_28_3 : I tab ro F r20_28 3 K s = I1 tab ro F r20_28 4 K (setO s (some 65) (fieldAddrO 0 (opd s (.tmp 4)))) := I_plain rfl rfl (ev_fieldAddr.trans (congrArg (setO s _) (u_fieldAddr (off := 0) rfl rfl rfl rfl rfl rfl)))
theorem i20_28_4 : I tab ro F r20_28 4 K s = I1 tab ro F r20_28 5 K (setE s none (storeO s.heap s.hs 1 (opd s (.tmp 65)) (opd s (.tmp 64)))) := I_plain rfl rfl (ev_store.trans (congrArg (setE s _) (u_store rfl rfl)))
theorem i20_28_e : I tab ro F r20_28 5 K s = kont tab ro F K .normal s := I_end rfl
noncomputable def c20_58 : Code := sq1 c20_7
noncomputable def c20_59 : Code := sq2 c20_7
theorem wc20_7 : W tab ro F c20_7 K s = W tab ro F c20_58 (.sq c20_59 :: K) s := Wc_seq (show c20_7 = .seq c20_58 c20_59 from rfl)
noncomputable def r20_29 : Array Oper := rg1 c20_58
theorem wc20_58 : W tab ro F c20_58 K s = I tab ro F r20_29 0 K s := Wc_region (show c20_58 = .region 29 r20_29 false from rfl)
theorem i20_29_0 : I tab ro F r20_29 0 K s = I1 tab ro F r20_29 1 K (setO s (some 66) (loadO s.heap true 11 (opd s (.tmp 4)))) := I_plain rfl rfl (ev_load.trans (congrArg (setO s _) (u_load (agg := true) (n := 11) rfl rfl rfl)))
theorem i20_29_1 : I tab ro F r20_29 1 K s = I1 tab ro F r20_29 2 K (setE s none (storeO s.heap s.hs 11 (opd s (.tmp 2)) (opd s (.tmp 66)))) := I_plain rfl rfl (ev_store.trans (congrArg (setE s _) (u_store rfl rfl)))
theorem i20_29_e : I tab ro F r20_29 2 K s = kont tab ro F K .normal s := I_end rfl
theorem wc20_59 : W tab ro F c20_59 K s = kont tab ro F K .ret s := Wc_ret (show c20_59 = .ret from rfl)
theorem n20 : fi20.ntmps = 67 := rfl
theorem q20 : fi20.results = [.cell 2 42] := rfl
theorem f20 : tab.f 20 = some fi20 := rfl
theorem b20 : fi20.body = c20 := rfl
theorem m20 : fi20.lm = 1 := rfl
-- NAMES 20 n20 q20 b20 m20  wc20 wc20_0 i20_0_0 i20_0_e wc20_1 wc20_2 i20_1_0 i20_1_1 i20_1_2 i20_1_e wc20_3 wc20_4 i20_2_0 i20_2_1 i20_2_2 i20_2_e wc20_5 wc20_6 wc20_8 i20_3_0 i20_3_1 i20_3_e wc20_9 wc20_10 wc20_12 i20_4_0 i20_4_1 i20_4_e wc20_13 i20_5_0 i20_5_1 i20_5_2 i20_5_3 i20_5_e wc20_11 wc20_14 i20_6_0 i20_6_1 i20_6_e wc20_15 wc20_16 wc20_18 i20_7_0 i20_7_1 i20_7_e wc20_19 wc20_20 i20_8_0 i20_8_1 i20_8_2 i20_8_3 i20_8_e wc20_21 i20_9_0 i20_9_1 i20_9_2 i20_9_3 i20_9_4 i20_9_e wc20_17 wc20_22 i20_10_0 i20_10_1 i20_10_e wc20_23 wc20_24 wc20_26 i20_11_0 i20_11_1 i20_11_e wc20_27 i20_12_0 i20_12_1 i20_12_2 i20_12_3 i20_12_e wc20_25 wc20_28 i20_13_0 i20_13_1 i20_13_e wc20_29 wc20_30 wc20_32 i20_14_0 i20_14_1 i20_14_e wc20_33 i20_15_0 i20_15_1 i20_15_2 i20_15_3 i20_15_e wc20_31 wc20_34 i20_16_0 i20_16_1 i20_16_e wc20_35 wc20_36 wc20_38 i20_17_0 i20_17_1 i20_17_e wc20_39 i20_18_0 i20_18_1 i20_18_2 i20_18_3 i20_18_e wc20_37 wc20_40 i20_19_0 i20_19_1 i20_19_e wc20_41 wc20_42 wc20_44 i20_20_0 i20_20_1 i20_20_e wc20_45 i20_21_0 i20_21_1 i20_21_2 i20_21_3 i20_21_4 i20_21_e wc20_43 wc20_46 i20_22_0 i20_22_1 i20_22_e wc20_47 wc20_48 wc20_50 i20_23_0 i20_23_1 i20_23_e wc20_51 i20_24_0 i20_24_1 i20_24_2 i20_24_3 i20_24_4 i20_24_e wc20_49 wc20_52 i20_25_0 i20_25_1 i20_25_e wc20_53 wc20_54 wc20_56 i20_26_0 i20_26_1 i20_26_e wc20_57 i20_27_0 i20_27_1 i20_27_2 i20_27_3 i20_27_e wc20_55 i20_28_0 i20_28_1 i20_28_2 i20_28_3 i20_28_4 i20_28_e wc20_7 wc20_58 i20_29_0 i20_29_1 i20_29_e wc20_59
/-! 45: (*verderer/drill.Dice).object -/
noncomputable def c45 : Code := fi45.body
noncomputable def c45_0 : Code := sq1 c45
noncomputable def c45_1 : Code := sq2 c45
theorem wc45 : W tab ro F c45 K s = W tab ro F c45_0 (.sq c45_1 :: K) s := Wc_seq (show c45 = .seq c45_0 c45_1 from rfl)
noncomputable def r45_0 : Array Oper := rg1 c45_0
theorem wc45_0 : W tab ro F c45_0 K s = I tab ro F r45_0 0 K s := Wc_region (show c45_0 = .region 0 r45_0 false from rfl)
theorem i45_0_0 : I tab ro F r45_0 0 K s = I1 tab ro F r45_0 1 K (setN s (some 2) (some (.cells [(.str []), (.str []), (.str []), (.lit (.int .i64 (0))), (.lit (.slice none 0 0))] false, .ptr s.hs 0))) := I_plain rfl rfl (ev_alloc.trans (congrArg (setN s _) (u_alloc (cs := [(.str []), (.str []), (.str []), (.lit (.int .i64 (0))), (.lit (.slice none 0 0))]) rfl rfl rfl)))
theorem i45_0_e : I tab ro F r45_0 1 K s = kont tab ro F K .normal s := I_end rfl
noncomputable def c45_2 : Code := sq1 c45_1
noncomputable def c45_3 : Code := sq2 c45_1
theorem wc45_1 : W tab ro F c45_1 K s = W tab ro F c45_2 (.sq c45_3 :: K) s := Wc_seq (show c45_1 = .seq c45_2 c45_3 from rfl)
noncomputable def r45_1 : Array Oper := rg1 c45_2
theorem wc45_2 : W tab ro F c45_2 K s = I tab ro F r45_1 0 K s := Wc_region (show c45_2 = .region 1 r45_1 false from rfl)
theorem i45_1_0 : I tab ro F r45_1 0 K s = I1 tab ro F r45_1 1 K (setO s (some 5) (opd s (.tmp 0))) := I_plain rfl rfl (ev_move)
theorem i45_1_1 : I tab ro F r45_1 1 K s = I1 tab ro F r45_1 2 K (setE s (some 6) (callG tab (evw tab) s 47 (opds s [(.tmp 5)]))) := I_plain rfl rfl (u_call)
theorem i45_1_2 : I tab ro F r45_1 2 K s = I1 tab ro F r45_1 3 K (setN s (some 3) (some (.cells [(.str []), (.str []), (.str []), (.lit (.int .i64 (0))), (.lit (.slice none 0 0))] false, .ptr s.hs 0))) := I_plain rfl rfl (ev_alloc.trans (congrArg (setN s _) (u_alloc (cs := [(.str []), (.str []), (.str []), (.lit (.int .i64 (0))), (.lit (.slice none 0 0))]) rfl rfl rfl)))
theorem i45_1_3 : I tab ro F r45_1 3 K s = I1 tab ro F r45_1 4 K (setE s none (storeO s.heap s.hs 5 (opd s (.tmp 3)) (opd s (.tmp 6)))) := I_plain rfl rfl (ev_store.trans (congrArg (setE s _) (u_store rfl rfl)))
theorem i45_1_e : I tab ro F r45_1 4 K s = kont tab ro F K .normal s := I_end rfl
noncomputable def c45_4 : Code := sq1 c45_3
noncomputable def c45_5 : Code := sq2 c45_3
theorem wc45_3 : W tab ro F c45_3 K s = W tab ro F c45_4 (.sq c45_5 :: K) s := Wc_seq (show c45_3 = .seq c45_4 c45_5 from rfl)
noncomputable def r45_2 : Array Oper := rg1 c45_4
theorem wc45_4 : W tab ro F c45_4 K s = I tab ro F r45_2 0 K s := Wc_region (show c45_4 = .region 2 r45_2 false from rfl)
theorem i45_2_0 : I tab ro F r45_2 0 K s = I1 tab ro F r45_2 1 K (setO s (some 7) (opd s (.tmp 0))) := I_plain rfl rfl (ev_move)
theorem i45_2_1 : I tab ro F r45_2 1 K s = I1 tab ro F r45_2 2 K (setN s (some 8) (buildSO s.lm s.hs 2 1 (.str []) (opdParts s [(0, (.const (.string ⟨#[119, 101, 98]⟩))), (1, (.const (.string ⟨#[100, 98]⟩)))]))) := I_plain rfl rfl (ev_buildSlice.trans (congrArg (setN s _) (u_buildSlice (n := 1) (z := (.str [])) rfl rfl rfl rfl rfl rfl)))
theorem i45_2_2 : I tab ro F r45_2 2 K s = I1 tab ro F r45_2 3 K (setE s (some 9) (callG tab (evw tab) s 16 (opds s [(.tmp 7), (.tmp 8)]))) := I_plain rfl rfl (u_call)
theorem i45_2_3 : I tab ro F r45_2 3 K s = I1 tab ro F r45_2 4 K (setO s (some 10) (buildO (placesL [(0, 1), (1, 1), (2, 1), (3, 1)]) [(.lit (.int .i64 (0))), (.lit (.bool false)), (.lit (.int .i64 (0))), (.str [])] (opdParts s [(0, (.const (.int .i64 (3)))), (3, (.tmp 9))]))) := I_plain rfl rfl (ev_build.trans (congrArg (setO s _) (u_build rfl rfl rfl rfl (places_eq rfl))))
theorem i45_2_4 : I tab ro F r45_2 4 K s = I1 tab ro F r45_2 5 K (setN s (some 4) (some (.cells [(.lit (.int .i64 (0))), (.lit (.bool false)), (.lit (.int .i64 (0))), (.str [])] false, .ptr s.hs 0))) := I_plain rfl rfl (ev_alloc.trans (congrArg (setN s _) (u_alloc (cs := [(.lit (.int .i64 (0))), (.lit (.bool false)), (.lit (.int .i64 (0))), (.str [])]) rfl rfl rfl)))
theorem i45_2_5 : I tab ro F r45_2 5 K s = I1 tab ro F r45_2 6 K (setE s none (storeO s.heap s.hs 4 (opd s (.tmp 4)) (opd s (.tmp 10)))) := I_plain rfl rfl (ev_store.trans (congrArg (setE s _) (u_store rfl rfl)))
theorem i45_2_e : I tab ro F r45_2 6 K s = kont tab ro F K .normal s := I_end rfl
noncomputable def c45_6 : Code := sq1 c45_5
noncomputable def c45_7 : Code := sq2 c45_5
theorem wc45_5 : W tab ro F c45_5 K s = W tab ro F c45_6 (.sq c45_7 :: K) s := Wc_seq (show c45_5 = .seq c45_6 c45_7 from rfl)
noncomputable def r45_3 : Array Oper := rg1 c45_6
theorem wc45_6 : W tab ro F c45_6 K s = D1 tab ro F K (evDr tab (evw tab) r45_3 s) := Wc_draw (show c45_6 = .region 3 r45_3 true from rfl)
def ms45_3 : Tr Nat := (.nd 0 (.nd 0 (.nd 6 .lf .lf) (.nd 31 .lf .lf)) (.nd 2 (.nd 15 .lf .lf) (.nd 63 .lf .lf)))
def wt45_3 : Tr Nat := (.nd 0 (.nd 0 (.nd 0 (.nd 0 (.nd 5 .lf .lf) .lf) (.nd 1 .lf .lf)) (.nd 0 .lf (.nd 3 .lf .lf))) (.nd 0 (.nd 0 (.nd 0 (.nd 6 .lf .lf) .lf) (.nd 2 .lf .lf)) (.nd 0 .lf (.nd 4 .lf .lf))))
theorem xm45_3 : masks r45_3.toList 0 .lf = some ms45_3 := by kernel_rfl
theorem xw45_3 : writers r45_3.toList 0 .lf = some wt45_3 := by kernel_rfl
theorem xe45_3 : effIdx r45_3.toList 0 = [2, 6] := by kernel_rfl
theorem xc45_3 : (useJ true r45_3.toList && chain ms45_3 [2, 6] && dstsOk 18 r45_3.toList) = true := by kernel_rfl
noncomputable def D45_3 (t : Tr AV) (H0 : Tr AO) (hs0 : Nat) (ds : List Nat) : DI := ⟨r45_3, ms45_3, wt45_3, [2, 6], ⟨t, 18, H0, hs0, ds, true⟩⟩
theorem e45_3 {t : Tr AV} {H : Tr AO} {hs : Nat} {ds : List Nat} : evDr tab (evw tab) r45_3 ⟨t, 18, H, hs, ds, true⟩ = JE tab (D45_3 t H hs ds) t 18 ds (JR tab (evw tab) (D45_3 t H hs ds) 0 ⟨.lf, H, hs, [(H, hs)], []⟩) := evDr_J xm45_3 xw45_3 xe45_3 xc45_3
theorem y45_3 {t : Tr AV} {H0 : Tr AO} {hs0 : Nat} {ds : List Nat} : (D45_3 t H0 hs0 ds).es = [2, 6] := rfl
theorem z45_3 {t : Tr AV} {H0 : Tr AO} {hs0 : Nat} {ds : List Nat} {V : Tr AV} {t' : Tr AV} : putsD V (D45_3 t H0 hs0 ds).ops.toList 0 t' = (Tr.put .any (Tr.put .any (Tr.put .any (Tr.put .any (Tr.put .any (Tr.put .any t' 11 (V.get .any 0)) 12 (V.get .any 1)) 13 (V.get .any 2)) 14 (V.get .any 3)) 15 (V.get .any 4)) 16 (V.get .any 5)) := rfl
theorem j45_3_0 {t : Tr AV} {H0 H : Tr AO} {hs0 hs : Nat} {ds : List Nat} {V : Tr AV} {hps : List (Tr AO × Nat)} {fs : List EffR} : JR tab (evw tab) (D45_3 t H0 hs0 ds) 0 ⟨V, H, hs, hps, fs⟩ = J1 tab (evw tab) (D45_3 t H0 hs0 ds) 1 (jput ⟨V, H, hs, hps, fs⟩ 0 (loadO H true 4 (some (t.get .any 4)))) := jr_plain (q := ⟨V, H, hs, hps, fs⟩) (rv := [(4, (t.get .any 4))]) (e := loadO H true 4 (some (t.get .any 4))) rfl rfl rfl (by kernel_rfl) ((ne_read rfl).trans ((u_load (agg := true) (n := 4) rfl rfl rfl).trans rfl))
theorem q45_3_0 : hbB ms45_3 [2, 6] 0 = true := by kernel_rfl
theorem a45_3_0 {t : Tr AV} {H0 : Tr AO} {hs0 : Nat} {ds : List Nat} {V : Tr AV} {hps : List (Tr AO × Nat)} : CA tab (D45_3 t H0 hs0 ds) hps V 0 = (hchk 0 1 (fun H => loadO H true 4 (some (t.get .any 4))) (V.get .any 0) hps 0 && CA tab (D45_3 t H0 hs0 ds) hps V 1) := ca_h (rv := [(4, (t.get .any 4))]) (n := 1) (lo := 0) (hi := 1) (f := fun H => loadO H true 4 (some (t.get .any 4))) rfl rfl rfl rfl (by kernel_rfl) q45_3_0 (by kernel_rfl) (by kernel_rfl) (fun H => (ne_read rfl).trans ((u_load (agg := true) (n := 4) rfl rfl rfl).trans rfl))
theorem j45_3_1 {t : Tr AV} {H0 H : Tr AO} {hs0 hs : Nat} {ds : List Nat} {V : Tr AV} {hps : List (Tr AO × Nat)} {fs : List EffR} : JR tab (evw tab) (D45_3 t H0 hs0 ds) 1 ⟨V, H, hs, hps, fs⟩ = J1 tab (evw tab) (D45_3 t H0 hs0 ds) 2 (jput ⟨V, H, hs, hps, fs⟩ 1 ((some (t.get .any 0)))) := jr_plain (q := ⟨V, H, hs, hps, fs⟩) (rv := [(0, (t.get .any 0))]) (e := (some (t.get .any 0))) rfl rfl rfl (by kernel_rfl) ((ne_pure rfl).trans ((rfl).trans rfl))
theorem q45_3_1 : hbB ms45_3 [2, 6] 1 = true := by kernel_rfl
theorem a45_3_1 {t : Tr AV} {H0 : Tr AO} {hs0 : Nat} {ds : List Nat} {V : Tr AV} {hps : List (Tr AO × Nat)} : CA tab (D45_3 t H0 hs0 ds) hps V 1 = (vchk (V.get .any 1) ((some (t.get .any 0))) && CA tab (D45_3 t H0 hs0 ds) hps V 2) := ca_p (rv := [(0, (t.get .any 0))]) (e := (some (t.get .any 0))) rfl rfl rfl (by kernel_rfl) q45_3_1 ((rfl).trans rfl)
theorem j45_3_2 {t : Tr AV} {H0 H : Tr AO} {hs0 hs : Nat} {ds : List Nat} {V : Tr AV} {hps : List (Tr AO × Nat)} {fs : List EffR} : JR tab (evw tab) (D45_3 t H0 hs0 ds) 2 ⟨V, H, hs, hps, fs⟩ = J1 tab (evw tab) (D45_3 t H0 hs0 ds) 3 (jeff ⟨V, H, hs, hps, fs⟩ 2 [(12, (V.get .any 1))] (callF tab (evw tab) true 14 [(V.get .any 1), (.lit (.int .i64 (9)))] H hs)) := jr_eff (q := ⟨V, H, hs, hps, fs⟩) (rv := [(12, (V.get .any 1))]) (e := callF tab (evw tab) true 14 [(V.get .any 1), (.lit (.int .i64 (9)))] H hs) rfl rfl rfl (by kernel_rfl) ((ac_call).trans rfl)
theorem a45_3_2 {t : Tr AV} {H0 : Tr AO} {hs0 : Nat} {ds : List Nat} {V : Tr AV} {hps : List (Tr AO × Nat)} : CA tab (D45_3 t H0 hs0 ds) hps V 2 = CA tab (D45_3 t H0 hs0 ds) hps V 3 := ca_eff rfl rfl (by kernel_rfl)
theorem h45_3_2 {t : Tr AV} {H0 : Tr AO} {hs0 : Nat} {ds : List Nat} {V : Tr AV} {fs : List EffR} {rv : List (Nat × AV)} {v : AV} {es : List Nat} : chkEff (D45_3 t H0 hs0 ds) V .lf (⟨2, rv, v⟩ :: fs) (2 :: es) = (same 20 v (V.get .any 2) && sameRV rv [(12, (V.get .any 1))] && chkEff (D45_3 t H0 hs0 ds) V .lf fs es) := ce_cons rfl (by kernel_rfl)
theorem j45_3_3 {t : Tr AV} {H0 H : Tr AO} {hs0 hs : Nat} {ds : List Nat} {V : Tr AV} {hps : List (Tr AO × Nat)} {fs : List EffR} : JR tab (evw tab) (D45_3 t H0 hs0 ds) 3 ⟨V, H, hs, hps, fs⟩ = J1 tab (evw tab) (D45_3 t H0 hs0 ds) 4 (jput ⟨V, H, hs, hps, fs⟩ 3 (buildO (placesL [(0, 1), (1, 1), (2, 1), (3, 1)]) [(.lit (.int .i64 (0))), (.lit (.bool false)), (.lit (.int .i64 (0))), (.str [])] (some [(0, (.lit (.int .i64 (2)))), (2, (V.get .any 2))]))) := jr_plain (q := ⟨V, H, hs, hps, fs⟩) (rv := [(13, (V.get .any 2))]) (e := buildO (placesL [(0, 1), (1, 1), (2, 1), (3, 1)]) [(.lit (.int .i64 (0))), (.lit (.bool false)), (.lit (.int .i64 (0))), (.str [])] (some [(0, (.lit (.int .i64 (2)))), (2, (V.get .any 2))])) rfl rfl rfl (by kernel_rfl) ((ne_pure rfl).trans ((u_build rfl rfl rfl rfl (places_eq rfl)).trans rfl))
theorem q45_3_3 : hbB ms45_3 [2, 6] 3 = true := by kernel_rfl
theorem a45_3_3 {t : Tr AV} {H0 : Tr AO} {hs0 : Nat} {ds : List Nat} {V : Tr AV} {hps : List (Tr AO × Nat)} : CA tab (D45_3 t H0 hs0 ds) hps V 3 = (vchk (V.get .any 3) (buildO (placesL [(0, 1), (1, 1), (2, 1), (3, 1)]) [(.lit (.int .i64 (0))), (.lit (.bool false)), (.lit (.int .i64 (0))), (.str [])] (some [(0, (.lit (.int .i64 (2)))), (2, (V.get .any 2))])) && CA tab (D45_3 t H0 hs0 ds) hps V 4) := ca_p (rv := [(13, (V.get .any 2))]) (e := buildO (placesL [(0, 1), (1, 1), (2, 1), (3, 1)]) [(.lit (.int .i64 (0))), (.lit (.bool false)), (.lit (.int .i64 (0))), (.str [])] (some [(0, (.lit (.int .i64 (2)))), (2, (V.get .any 2))])) rfl rfl rfl (by kernel_rfl) q45_3_3 ((u_build rfl rfl rfl rfl (places_eq rfl)).trans rfl)
theorem j45_3_4 {t : Tr AV} {H0 H : Tr AO} {hs0 hs : Nat} {ds : List Nat} {V : Tr AV} {hps : List (Tr AO × Nat)} {fs : List EffR} : JR tab (evw tab) (D45_3 t H0 hs0 ds) 4 ⟨V, H, hs, hps, fs⟩ = J1 tab (evw tab) (D45_3 t H0 hs0 ds) 5 (jput ⟨V, H, hs, hps, fs⟩ 4 (deadO (buildSO true 0 2 4 (.agg [(.lit (.int .i64 (0))), (.lit (.bool false)), (.lit (.int .i64 (0))), (.str [])]) (some [(0, (V.get .any 0)), (1, (V.get .any 3))])))) := jr_plain (q := ⟨V, H, hs, hps, fs⟩) (rv := [(11, (V.get .any 0)), (14, (V.get .any 3))]) (e := deadO (buildSO true 0 2 4 (.agg [(.lit (.int .i64 (0))), (.lit (.bool false)), (.lit (.int .i64 (0))), (.str [])]) (some [(0, (V.get .any 0)), (1, (V.get .any 3))]))) rfl rfl rfl (by kernel_rfl) ((ne_dead rfl).trans (congrArg deadO ((u_buildSlice (n := 4) (z := (.agg [(.lit (.int .i64 (0))), (.lit (.bool false)), (.lit (.int .i64 (0))), (.str [])])) rfl rfl rfl rfl rfl rfl).trans rfl)))
theorem q45_3_4 : hbB ms45_3 [2, 6] 4 = true := by kernel_rfl
theorem a45_3_4 {t : Tr AV} {H0 : Tr AO} {hs0 : Nat} {ds : List Nat} {V : Tr AV} {hps : List (Tr AO × Nat)} : CA tab (D45_3 t H0 hs0 ds) hps V 4 = (dchk (V.get .any 4) (buildSO true 0 2 4 (.agg [(.lit (.int .i64 (0))), (.lit (.bool false)), (.lit (.int .i64 (0))), (.str [])]) (some [(0, (V.get .any 0)), (1, (V.get .any 3))])) && CA tab (D45_3 t H0 hs0 ds) hps V 5) := ca_d (rv := [(11, (V.get .any 0)), (14, (V.get .any 3))]) (e := (buildSO true 0 2 4 (.agg [(.lit (.int .i64 (0))), (.lit (.bool false)), (.lit (.int .i64 (0))), (.str [])]) (some [(0, (V.get .any 0)), (1, (V.get .any 3))]))) rfl rfl rfl (by kernel_rfl) q45_3_4 ((u_buildSlice (n := 4) (z := (.agg [(.lit (.int .i64 (0))), (.lit (.bool false)), (.lit (.int .i64 (0))), (.str [])])) rfl rfl rfl rfl rfl rfl).trans rfl)
theorem j45_3_5 {t : Tr AV} {H0 H : Tr AO} {hs0 hs : Nat} {ds : List Nat} {V : Tr AV} {hps : List (Tr AO × Nat)} {fs : List EffR} : JR tab (evw tab) (D45_3 t H0 hs0 ds) 5 ⟨V, H, hs, hps, fs⟩ = J1 tab (evw tab) (D45_3 t H0 hs0 ds) 6 (jput ⟨V, H, hs, hps, fs⟩ 5 (fieldAddrO 4 (some (t.get .any 3)))) := jr_plain (q := ⟨V, H, hs, hps, fs⟩) (rv := [(3, (t.get .any 3))]) (e := fieldAddrO 4 (some (t.get .any 3))) rfl rfl rfl (by kernel_rfl) ((ne_pure rfl).trans ((u_fieldAddr (off := 4) rfl rfl rfl rfl rfl rfl).trans rfl))
theorem q45_3_5 : hbB ms45_3 [2, 6] 5 = true := by kernel_rfl
theorem a45_3_5 {t : Tr AV} {H0 : Tr AO} {hs0 : Nat} {ds : List Nat} {V : Tr AV} {hps : List (Tr AO × Nat)} : CA tab (D45_3 t H0 hs0 ds) hps V 5 = (vchk (V.get .any 5) (fieldAddrO 4 (some (t.get .any 3))) && CA tab (D45_3 t H0 hs0 ds) hps V 6) := ca_p (rv := [(3, (t.get .any 3))]) (e := fieldAddrO 4 (some (t.get .any 3))) rfl rfl rfl (by kernel_rfl) q45_3_5 ((u_fieldAddr (off := 4) rfl rfl rfl rfl rfl rfl).trans rfl)
theorem j45_3_6 {t : Tr AV} {H0 H : Tr AO} {hs0 hs : Nat} {ds : List Nat} {V : Tr AV} {hps : List (Tr AO × Nat)} {fs : List EffR} : JR tab (evw tab) (D45_3 t H0 hs0 ds) 6 ⟨V, H, hs, hps, fs⟩ = J1 tab (evw tab) (D45_3 t H0 hs0 ds) 7 (jeff ⟨V, H, hs, hps, fs⟩ 6 [(16, (V.get .any 5)), (15, (V.get .any 4))] (storeO H hs 1 (some (V.get .any 5)) (some (V.get .any 4)))) := jr_eff (q := ⟨V, H, hs, hps, fs⟩) (rv := [(16, (V.get .any 5)), (15, (V.get .any 4))]) (e := storeO H hs 1 (some (V.get .any 5)) (some (V.get .any 4))) rfl rfl rfl (by kernel_rfl) ((ac_store.trans (u_store (n := 1) rfl rfl)).trans rfl)
theorem a45_3_6 {t : Tr AV} {H0 : Tr AO} {hs0 : Nat} {ds : List Nat} {V : Tr AV} {hps : List (Tr AO × Nat)} : CA tab (D45_3 t H0 hs0 ds) hps V 6 = CA tab (D45_3 t H0 hs0 ds) hps V 7 := ca_eff rfl rfl (by kernel_rfl)
theorem h45_3_6 {t : Tr AV} {H0 : Tr AO} {hs0 : Nat} {ds : List Nat} {V : Tr AV} {fs : List EffR} {rv : List (Nat × AV)} {v : AV} {es : List Nat} : chkEff (D45_3 t H0 hs0 ds) V .lf (⟨6, rv, v⟩ :: fs) (6 :: es) = (same 20 v (V.get .any 6) && sameRV rv [(16, (V.get .any 5)), (15, (V.get .any 4))] && chkEff (D45_3 t H0 hs0 ds) V .lf fs es) := ce_cons rfl (by kernel_rfl)
theorem j45_3_e {t : Tr AV} {H0 H : Tr AO} {hs0 hs : Nat} {ds : List Nat} {V : Tr AV} {hps : List (Tr AO × Nat)} {fs : List EffR} : JR tab (evw tab) (D45_3 t H0 hs0 ds) 7 ⟨V, H, hs, hps, fs⟩ = some ⟨V, H, hs, hps, fs⟩ := jr_end rfl
theorem a45_3_e {t : Tr AV} {H0 : Tr AO} {hs0 : Nat} {ds : List Nat} {V : Tr AV} {hps : List (Tr AO × Nat)} : CA tab (D45_3 t H0 hs0 ds) hps V 7 = true := ca_end rfl
noncomputable def c45_8 : Code := sq1 c45_7
noncomputable def c45_9 : Code := sq2 c45_7
theorem wc45_7 : W tab ro F c45_7 K s = W tab ro F c45_8 (.sq c45_9 :: K) s := Wc_seq (show c45_7 = .seq c45_8 c45_9 from rfl)
noncomputable def r45_4 : Array Oper := rg1 c45_8
theorem wc45_8 : W tab ro F c45_8 K s = I tab ro F r45_4 0 K s := Wc_region (show c45_8 = .region 4 r45_4 false from rfl)
theorem i45_4_0 : I tab ro F r45_4 0 K s = I1 tab ro F r45_4 1 K (setO s (some 17) (loadO s.heap true 5 (opd s (.tmp 3)))) := I_plain rfl rfl (ev_load.trans (congrArg (setO s _) (u_load (agg := true) (n := 5) rfl rfl rfl)))
theorem i45_4_1 : I tab ro F r45_4 1 K s = I1 tab ro F r45_4 2 K (setE s none (storeO s.heap s.hs 5 (opd s (.tmp 2)) (opd s (.tmp 17)))) := I_plain rfl rfl (ev_store.trans (congrArg (setE s _) (u_store rfl rfl)))
theorem i45_4_e : I tab ro F r45_4 2 K s = kont tab ro F K .normal s := I_end rfl
theorem wc45_9 : W tab ro F c45_9 K s = kont tab ro F K .ret s := Wc_ret (show c45_9 = .ret from rfl)
theorem n45 : fi45.ntmps = 18 := rfl
theorem q45 : fi45.results = [.cell 2 38] := rfl
theorem f45 : tab.f 45 = some fi45 := rfl
theorem b45 : fi45.body = c45 := rfl
theorem m45 : fi45.lm = 1 := rfl
-- NAMES 45 n45 q45 b45 m45  wc45 wc45_0 i45_0_0 i45_0_e wc45_1 wc45_2 i45_1_0 i45_1_1 i45_1_2 i45_1_3 i45_1_e wc45_3 wc45_4 i45_2_0 i45_2_1 i45_2_2 i45_2_3 i45_2_4 i45_2_5 i45_2_e wc45_5 wc45_6 e45_3 y45_3 z45_3 j45_3_0 a45_3_0 j45_3_1 a45_3_1 j45_3_2 h45_3_2 a45_3_2 j45_3_3 a45_3_3 j45_3_4 a45_3_4 j45_3_5 a45_3_5 j45_3_6 h45_3_6 a45_3_6 j45_3_e a45_3_e wc45_7 wc45_8 i45_4_0 i45_4_1 i45_4_e wc45_9
/-! 46: (*verderer/drill.Dice).update -/
noncomputable def c46 : Code := fi46.body
noncomputable def c46_0 : Code := sq1 c46
noncomputable def c46_1 : Code := sq2 c46
theorem wc46 : W tab ro F c46 K s = W tab ro F c46_0 (.sq c46_1 :: K) s := Wc_seq (show c46 = .seq c46_0 c46_1 from rfl)
noncomputable def r46_0 : Array Oper := rg1 c46_0
theorem wc46_0 : W tab ro F c46_0 K s = I tab ro F r46_0 0 K s := Wc_region (show c46_0 = .region 0 r46_0 false from rfl)
theorem i46_0_0 : I tab ro F r46_0 0 K s = I1 tab ro F r46_0 1 K (setN s (some 2) (some (.cells [(.lit (.int .i64 (0))), (.lit (.int .i64 (0))), (.str []), (.str []), (.str []), (.lit (.int .i64 (0))), (.lit (.slice none 0 0)), (.str []), (.str []), (.str []), (.lit (.int .i64 (0)))] false, .ptr s.hs 0))) := I_plain rfl rfl (ev_alloc.trans (congrArg (setN s _) (u_alloc (cs := [(.lit (.int .i64 (0))), (.lit (.int .i64 (0))), (.str []), (.str []), (.str []), (.lit (.int .i64 (0))), (.lit (.slice none 0 0)), (.str []), (.str []), (.str []), (.lit (.int .i64 (0)))]) rfl rfl rfl)))
theorem i46_0_e : I tab ro F r46_0 1 K s = kont tab ro F K .normal s := I_end rfl
noncomputable def c46_2 : Code := sq1 c46_1
noncomputable def c46_3 : Code := sq2 c46_1
theorem wc46_1 : W tab ro F c46_1 K s = W tab ro F c46_2 (.sq c46_3 :: K) s := Wc_seq (show c46_1 = .seq c46_2 c46_3 from rfl)
noncomputable def r46_1 : Array Oper := rg1 c46_2
theorem wc46_2 : W tab ro F c46_2 K s = I tab ro F r46_1 0 K s := Wc_region (show c46_2 = .region 1 r46_1 false from rfl)
theorem i46_1_0 : I tab ro F r46_1 0 K s = I1 tab ro F r46_1 1 K (setO s (some 4) (opd s (.tmp 0))) := I_plain rfl rfl (ev_move)
theorem i46_1_1 : I tab ro F r46_1 1 K s = I1 tab ro F r46_1 2 K (setE s (some 5) (callG tab (evw tab) s 45 (opds s [(.tmp 4)]))) := I_plain rfl rfl (u_call)
theorem i46_1_2 : I tab ro F r46_1 2 K s = I1 tab ro F r46_1 3 K (setN s (some 3) (some (.cells [(.str []), (.str []), (.str []), (.lit (.int .i64 (0))), (.lit (.slice none 0 0))] false, .ptr s.hs 0))) := I_plain rfl rfl (ev_alloc.trans (congrArg (setN s _) (u_alloc (cs := [(.str []), (.str []), (.str []), (.lit (.int .i64 (0))), (.lit (.slice none 0 0))]) rfl rfl rfl)))
theorem i46_1_3 : I tab ro F r46_1 3 K s = I1 tab ro F r46_1 4 K (setE s none (storeO s.heap s.hs 5 (opd s (.tmp 3)) (opd s (.tmp 5)))) := I_plain rfl rfl (ev_store.trans (congrArg (setE s _) (u_store rfl rfl)))
theorem i46_1_e : I tab ro F r46_1 4 K s = kont tab ro F K .normal s := I_end rfl
noncomputable def c46_4 : Code := sq1 c46_3
noncomputable def c46_5 : Code := sq2 c46_3
theorem wc46_3 : W tab ro F c46_3 K s = W tab ro F c46_4 (.sq c46_5 :: K) s := Wc_seq (show c46_3 = .seq c46_4 c46_5 from rfl)
noncomputable def r46_2 : Array Oper := rg1 c46_4
theorem wc46_4 : W tab ro F c46_4 K s = I tab ro F r46_2 0 K s := Wc_region (show c46_4 = .region 2 r46_2 false from rfl)
theorem i46_2_0 : I tab ro F r46_2 0 K s = I1 tab ro F r46_2 1 K (setO s (some 6) (opd s (.tmp 0))) := I_plain rfl rfl (ev_move)
theorem i46_2_1 : I tab ro F r46_2 1 K s = I1 tab ro F r46_2 2 K (setE s (some 7) (callG tab (evw tab) s 14 (opds s [(.tmp 6), (.const (.int .i64 (12)))]))) := I_plain rfl rfl (u_call)
theorem i46_2_2 : I tab ro F r46_2 2 K s = I1 tab ro F r46_2 3 K (setO s (some 8) (fieldAddrO 3 (opd s (.tmp 3)))) := I_plain rfl rfl (ev_fieldAddr.trans (congrArg (setO s _) (u_fieldAddr (off := 3) rfl rfl rfl rfl rfl rfl)))
theorem i46_2_3 : I tab ro F r46_2 3 K s = I1 tab ro F r46_2 4 K (setE s none (storeO s.heap s.hs 1 (opd s (.tmp 8)) (opd s (.tmp 7)))) := I_plain rfl rfl (ev_store.trans (congrArg (setE s _) (u_store rfl rfl)))
theorem i46_2_e : I tab ro F r46_2 4 K s = kont tab ro F K .normal s := I_end rfl
noncomputable def c46_6 : Code := sq1 c46_5
noncomputable def c46_7 : Code := sq2 c46_5
theorem wc46_5 : W tab ro F c46_5 K s = W tab ro F c46_6 (.sq c46_7 :: K) s := Wc_seq (show c46_5 = .seq c46_6 c46_7 from rfl)
noncomputable def r46_3 : Array Oper := rg1 c46_6
theorem wc46_6 : W tab ro F c46_6 K s = I tab ro F r46_3 0 K s := Wc_region (show c46_6 = .region 3 r46_3 false from rfl)
theorem i46_3_0 : I tab ro F r46_3 0 K s = I1 tab ro F r46_3 1 K (setO s (some 9) (loadO s.heap true 5 (opd s (.tmp 3)))) := I_plain rfl rfl (ev_load.trans (congrArg (setO s _) (u_load (agg := true) (n := 5) rfl rfl rfl)))
theorem i46_3_1 : I tab ro F r46_3 1 K s = I1 tab ro F r46_3 2 K (setO s (some 10) (buildO (placesL [(0, 1), (1, 1), (2, 5), (7, 2), (9, 1), (10, 1)]) [(.lit (.int .i64 (0))), (.lit (.int .i64 (0))), (.str []), (.str []), (.str []), (.lit (.int .i64 (0))), (.lit (.slice none 0 0)), (.str []), (.str []), (.str []), (.lit (.int .i64 (0)))] (opdParts s [(0, (.const (.int .i64 (2)))), (2, (.tmp 9))]))) := I_plain rfl rfl (ev_build.trans (congrArg (setO s _) (u_build rfl rfl rfl rfl (places_eq rfl))))
theorem i46_3_2 : I tab ro F r46_3 2 K s = I1 tab ro F r46_3 3 K (setE s none (storeO s.heap s.hs 11 (opd s (.tmp 2)) (opd s (.tmp 10)))) := I_plain rfl rfl (ev_store.trans (congrArg (setE s _) (u_store rfl rfl)))
theorem i46_3_e : I tab ro F r46_3 3 K s = kont tab ro F K .normal s := I_end rfl
theorem wc46_7 : W tab ro F c46_7 K s = kont tab ro F K .ret s := Wc_ret (show c46_7 = .ret from rfl)
theorem n46 : fi46.ntmps = 11 := rfl
theorem q46 : fi46.results = [.cell 2 42] := rfl
theorem f46 : tab.f 46 = some fi46 := rfl
theorem b46 : fi46.body = c46 := rfl
theorem m46 : fi46.lm = 1 := rfl
-- NAMES 46 n46 q46 b46 m46  wc46 wc46_0 i46_0_0 i46_0_e wc46_1 wc46_2 i46_1_0 i46_1_1 i46_1_2 i46_1_3 i46_1_e wc46_3 wc46_4 i46_2_0 i46_2_1 i46_2_2 i46_2_3 i46_2_e wc46_5 wc46_6 i46_3_0 i46_3_1 i46_3_2 i46_3_e wc46_7
/-! 47: (*verderer/drill.Dice).name -/
noncomputable def c47 : Code := fi47.body
noncomputable def c47_0 : Code := sq1 c47
noncomputable def c47_1 : Code := sq2 c47
theorem wc47 : W tab ro F c47 K s = W tab ro F c47_0 (.sq c47_1 :: K) s := Wc_seq (show c47 = .seq c47_0 c47_1 from rfl)
noncomputable def r47_0 : Array Oper := rg1 c47_0
theorem wc47_0 : W tab ro F c47_0 K s = I tab ro F r47_0 0 K s := Wc_region (show c47_0 = .region 0 r47_0 false from rfl)
theorem i47_0_0 : I tab ro F r47_0 0 K s = I1 tab ro F r47_0 1 K (setN s (some 2) (some (.cells [(.str []), (.str []), (.str []), (.lit (.int .i64 (0))), (.lit (.slice none 0 0))] false, .ptr s.hs 0))) := I_plain rfl rfl (ev_alloc.trans (congrArg (setN s _) (u_alloc (cs := [(.str []), (.str []), (.str []), (.lit (.int .i64 (0))), (.lit (.slice none 0 0))]) rfl rfl rfl)))
theorem i47_0_e : I tab ro F r47_0 1 K s = kont tab ro F K .normal s := I_end rfl
noncomputable def c47_2 : Code := sq1 c47_1
noncomputable def c47_3 : Code := sq2 c47_1
theorem wc47_1 : W tab ro F c47_1 K s = W tab ro F c47_2 (.sq c47_3 :: K) s := Wc_seq (show c47_1 = .seq c47_2 c47_3 from rfl)
noncomputable def r47_1 : Array Oper := rg1 c47_2
theorem wc47_2 : W tab ro F c47_2 K s = I tab ro F r47_1 0 K s := Wc_region (show c47_2 = .region 1 r47_1 false from rfl)
theorem i47_1_0 : I tab ro F r47_1 0 K s = I1 tab ro F r47_1 1 K (setO s (some 4) (buildO (placesL [(0, 1), (1, 1), (2, 1), (3, 1), (4, 1)]) [(.str []), (.str []), (.str []), (.lit (.int .i64 (0))), (.lit (.slice none 0 0))] (opdParts s [(0, (.const (.string ⟨#[112, 111, 100]⟩)))]))) := I_plain rfl rfl (ev_build.trans (congrArg (setO s _) (u_build rfl rfl rfl rfl (places_eq rfl))))
theorem i47_1_1 : I tab ro F r47_1 1 K s = I1 tab ro F r47_1 2 K (setN s (some 3) (some (.cells [(.str []), (.str []), (.str []), (.lit (.int .i64 (0))), (.lit (.slice none 0 0))] false, .ptr s.hs 0))) := I_plain rfl rfl (ev_alloc.trans (congrArg (setN s _) (u_alloc (cs := [(.str []), (.str []), (.str []), (.lit (.int .i64 (0))), (.lit (.slice none 0 0))]) rfl rfl rfl)))
theorem i47_1_2 : I tab ro F r47_1 2 K s = I1 tab ro F r47_1 3 K (setE s none (storeO s.heap s.hs 5 (opd s (.tmp 3)) (opd s (.tmp 4)))) := I_plain rfl rfl (ev_store.trans (congrArg (setE s _) (u_store rfl rfl)))
theorem i47_1_e : I tab ro F r47_1 3 K s = kont tab ro F K .normal s := I_end rfl
noncomputable def c47_4 : Code := sq1 c47_3
noncomputable def c47_5 : Code := sq2 c47_3
theorem wc47_3 : W tab ro F c47_3 K s = W tab ro F c47_4 (.sq c47_5 :: K) s := Wc_seq (show c47_3 = .seq c47_4 c47_5 from rfl)
noncomputable def r47_2 : Array Oper := rg1 c47_4
theorem wc47_4 : W tab ro F c47_4 K s = I tab ro F r47_2 0 K s := Wc_region (show c47_4 = .region 2 r47_2 false from rfl)
theorem i47_2_0 : I tab ro F r47_2 0 K s = I1 tab ro F r47_2 1 K (setO s (some 5) (opd s (.tmp 0))) := I_plain rfl rfl (ev_move)
theorem i47_2_1 : I tab ro F r47_2 1 K s = I1 tab ro F r47_2 2 K (setN s (some 6) (buildSO s.lm s.hs 3 1 (.str []) (opdParts s [(0, (.const (.string ⟨#[97]⟩))), (1, (.const (.string ⟨#[98]⟩))), (2, (.const (.string ⟨#[99]⟩)))]))) := I_plain rfl rfl (ev_buildSlice.trans (congrArg (setN s _) (u_buildSlice (n := 1) (z := (.str [])) rfl rfl rfl rfl rfl rfl)))
theorem i47_2_2 : I tab ro F r47_2 2 K s = I1 tab ro F r47_2 3 K (setE s (some 7) (callG tab (evw tab) s 16 (opds s [(.tmp 5), (.tmp 6)]))) := I_plain rfl rfl (u_call)
theorem i47_2_3 : I tab ro F r47_2 3 K s = I1 tab ro F r47_2 4 K (setO s (some 8) (fieldAddrO 1 (opd s (.tmp 3)))) := I_plain rfl rfl (ev_fieldAddr.trans (congrArg (setO s _) (u_fieldAddr (off := 1) rfl rfl rfl rfl rfl rfl)))
theorem i47_2_4 : I tab ro F r47_2 4 K s = I1 tab ro F r47_2 5 K (setE s none (storeO s.heap s.hs 1 (opd s (.tmp 8)) (opd s (.tmp 7)))) := I_plain rfl rfl (ev_store.trans (congrArg (setE s _) (u_store rfl rfl)))
theorem i47_2_e : I tab ro F r47_2 5 K s = kont tab ro F K .normal s := I_end rfl
noncomputable def c47_6 : Code := sq1 c47_5
noncomputable def c47_7 : Code := sq2 c47_5
theorem wc47_5 : W tab ro F c47_5 K s = W tab ro F c47_6 (.sq c47_7 :: K) s := Wc_seq (show c47_5 = .seq c47_6 c47_7 from rfl)
noncomputable def r47_3 : Array Oper := rg1 c47_6
theorem wc47_6 : W tab ro F c47_6 K s = I tab ro F r47_3 0 K s := Wc_region (show c47_6 = .region 3 r47_3 false from rfl)
theorem i47_3_0 : I tab ro F r47_3 0 K s = I1 tab ro F r47_3 1 K (setO s (some 9) (opd s (.tmp 0))) := I_plain rfl rfl (ev_move)
theorem i47_3_1 : I tab ro F r47_3 1 K s = I1 tab ro F r47_3 2 K (setN s (some 10) (buildSO s.lm s.hs 4 1 (.str []) (opdParts s [(0, (.const (.string ⟨#[112]⟩))), (1, (.const (.string ⟨#[113]⟩))), (2, (.const (.string ⟨#[114]⟩))), (3, (.const (.string ⟨#[115]⟩)))]))) := I_plain rfl rfl (ev_buildSlice.trans (congrArg (setN s _) (u_buildSlice (n := 1) (z := (.str [])) rfl rfl rfl rfl rfl rfl)))
theorem i47_3_2 : I tab ro F r47_3 2 K s = I1 tab ro F r47_3 3 K (setE s (some 11) (callG tab (evw tab) s 16 (opds s [(.tmp 9), (.tmp 10)]))) := I_plain rfl rfl (u_call)
theorem i47_3_3 : I tab ro F r47_3 3 K s = I1 tab ro F r47_3 4 K (setO s (some 12) (fieldAddrO 2 (opd s (.tmp 3)))) := I_plain rfl rfl (ev_fieldAddr.trans (congrArg (setO s _) (u_fieldAddr (off := 2) rfl rfl rfl rfl rfl rfl)))
theorem i47_3_4 : I tab ro F r47_3 4 K s = I1 tab ro F r47_3 5 K (setE s none (storeO s.heap s.hs 1 (opd s (.tmp 12)) (opd s (.tmp 11)))) := I_plain rfl rfl (ev_store.trans (congrArg (setE s _) (u_store rfl rfl)))
theorem i47_3_e : I tab ro F r47_3 5 K s = kont tab ro F K .normal s := I_end rfl
noncomputable def c47_8 : Code := sq1 c47_7
noncomputable def c47_9 : Code := sq2 c47_7
theorem wc47_7 : W tab ro F c47_7 K s = W tab ro F c47_8 (.sq c47_9 :: K) s := Wc_seq (show c47_7 = .seq c47_8 c47_9 from rfl)
noncomputable def r47_4 : Array Oper := rg1 c47_8
theorem wc47_8 : W tab ro F c47_8 K s = I tab ro F r47_4 0 K s := Wc_region (show c47_8 = .region 4 r47_4 false from rfl)
theorem i47_4_0 : I tab ro F r47_4 0 K s = I1 tab ro F r47_4 1 K (setO s (some 13) (loadO s.heap true 5 (opd s (.tmp 3)))) := I_plain rfl rfl (ev_load.trans (congrArg (setO s _) (u_load (agg := true) (n := 5) rfl rfl rfl)))
theorem i47_4_1 : I tab ro F r47_4 1 K s = I1 tab ro F r47_4 2 K (setE s none (storeO s.heap s.hs 5 (opd s (.tmp 2)) (opd s (.tmp 13)))) := I_plain rfl rfl (ev_store.trans (congrArg (setE s _) (u_store rfl rfl)))
theorem i47_4_e : I tab ro F r47_4 2 K s = kont tab ro F K .normal s := I_end rfl
theorem wc47_9 : W tab ro F c47_9 K s = kont tab ro F K .ret s := Wc_ret (show c47_9 = .ret from rfl)
theorem n47 : fi47.ntmps = 14 := rfl
theorem q47 : fi47.results = [.cell 2 38] := rfl
theorem f47 : tab.f 47 = some fi47 := rfl
theorem b47 : fi47.body = c47 := rfl
theorem m47 : fi47.lm = 1 := rfl
-- NAMES 47 n47 q47 b47 m47  wc47 wc47_0 i47_0_0 i47_0_e wc47_1 wc47_2 i47_1_0 i47_1_1 i47_1_2 i47_1_e wc47_3 wc47_4 i47_2_0 i47_2_1 i47_2_2 i47_2_3 i47_2_4 i47_2_e wc47_5 wc47_6 i47_3_0 i47_3_1 i47_3_2 i47_3_3 i47_3_4 i47_3_e wc47_7 wc47_8 i47_4_0 i47_4_1 i47_4_e wc47_9
/-! 48: (*verderer/drill.Dice).tenant -/
noncomputable def c48 : Code := fi48.body
noncomputable def c48_0 : Code := sq1 c48
noncomputable def c48_1 : Code := sq2 c48
theorem wc48 : W tab ro F c48 K s = W tab ro F c48_0 (.sq c48_1 :: K) s := Wc_seq (show c48 = .seq c48_0 c48_1 from rfl)
noncomputable def r48_0 : Array Oper := rg1 c48_0
theorem wc48_0 : W tab ro F c48_0 K s = I tab ro F r48_0 0 K s := Wc_region (show c48_0 = .region 0 r48_0 false from rfl)
theorem i48_0_0 : I tab ro F r48_0 0 K s = I1 tab ro F r48_0 1 K (setN s (some 2) (some (.cells [(.str []), (.str [])] false, .ptr s.hs 0))) := I_plain rfl rfl (ev_alloc.trans (congrArg (setN s _) (u_alloc (cs := [(.str []), (.str [])]) rfl rfl rfl)))
theorem i48_0_e : I tab ro F r48_0 1 K s = kont tab ro F K .normal s := I_end rfl
noncomputable def c48_2 : Code := sq1 c48_1
noncomputable def c48_3 : Code := sq2 c48_1
theorem wc48_1 : W tab ro F c48_1 K s = W tab ro F c48_2 (.sq c48_3 :: K) s := Wc_seq (show c48_1 = .seq c48_2 c48_3 from rfl)
noncomputable def r48_1 : Array Oper := rg1 c48_2
theorem wc48_2 : W tab ro F c48_2 K s = I tab ro F r48_1 0 K s := Wc_region (show c48_2 = .region 1 r48_1 false from rfl)
theorem i48_1_0 : I tab ro F r48_1 0 K s = I1 tab ro F r48_1 1 K (setO s (some 4) (opd s (.tmp 0))) := I_plain rfl rfl (ev_move)
theorem i48_1_1 : I tab ro F r48_1 1 K s = I1 tab ro F r48_1 2 K (setN s (some 5) (buildSO s.lm s.hs 3 1 (.str []) (opdParts s [(0, (.const (.string ⟨#[97]⟩))), (1, (.const (.string ⟨#[98]⟩))), (2, (.const (.string ⟨#[99]⟩)))]))) := I_plain rfl rfl (ev_buildSlice.trans (congrArg (setN s _) (u_buildSlice (n := 1) (z := (.str [])) rfl rfl rfl rfl rfl rfl)))
theorem i48_1_2 : I tab ro F r48_1 2 K s = I1 tab ro F r48_1 3 K (setE s (some 6) (callG tab (evw tab) s 16 (opds s [(.tmp 4), (.tmp 5)]))) := I_plain rfl rfl (u_call)
theorem i48_1_3 : I tab ro F r48_1 3 K s = I1 tab ro F r48_1 4 K (setO s (some 3) (opd s (.tmp 6))) := I_plain rfl rfl (ev_assign)
theorem i48_1_e : I tab ro F r48_1 4 K s = kont tab ro F K .normal s := I_end rfl
noncomputable def c48_4 : Code := sq1 c48_3
noncomputable def c48_5 : Code := sq2 c48_3
theorem wc48_3 : W tab ro F c48_3 K s = W tab ro F c48_4 (.sq c48_5 :: K) s := Wc_seq (show c48_3 = .seq c48_4 c48_5 from rfl)
noncomputable def r48_2 : Array Oper := rg1 c48_4
theorem wc48_4 : W tab ro F c48_4 K s = I tab ro F r48_2 0 K s := Wc_region (show c48_4 = .region 2 r48_2 false from rfl)
theorem i48_2_0 : I tab ro F r48_2 0 K s = I1 tab ro F r48_2 1 K (setO s (some 7) (opd s (.tmp 3))) := I_plain rfl rfl (ev_move)
theorem i48_2_1 : I tab ro F r48_2 1 K s = I1 tab ro F r48_2 2 K (setO s (some 8) (opd s (.tmp 0))) := I_plain rfl rfl (ev_move)
theorem i48_2_2 : I tab ro F r48_2 2 K s = I1 tab ro F r48_2 3 K (setN s (some 9) (buildSO s.lm s.hs 3 1 (.str []) (opdParts s [(0, (.const (.string ⟨#[]⟩))), (1, (.const (.string ⟨#[97]⟩))), (2, (.const (.string ⟨#[98]⟩)))]))) := I_plain rfl rfl (ev_buildSlice.trans (congrArg (setN s _) (u_buildSlice (n := 1) (z := (.str [])) rfl rfl rfl rfl rfl rfl)))
theorem i48_2_3 : I tab ro F r48_2 3 K s = I1 tab ro F r48_2 4 K (setE s (some 10) (callG tab (evw tab) s 16 (opds s [(.tmp 8), (.tmp 9)]))) := I_plain rfl rfl (u_call)
theorem i48_2_4 : I tab ro F r48_2 4 K s = I1 tab ro F r48_2 5 K (setO s (some 11) (buildO (placesL [(0, 1), (1, 1)]) [(.str []), (.str [])] (opdParts s [(0, (.tmp 7)), (1, (.tmp 10))]))) := I_plain rfl rfl (ev_build.trans (congrArg (setO s _) (u_build rfl rfl rfl rfl (places_eq rfl))))
theorem i48_2_5 : I tab ro F r48_2 5 K s = I1 tab ro F r48_2 6 K (setE s none (storeO s.heap s.hs 2 (opd s (.tmp 2)) (opd s (.tmp 11)))) := I_plain rfl rfl (ev_store.trans (congrArg (setE s _) (u_store rfl rfl)))
theorem i48_2_e : I tab ro F r48_2 6 K s = kont tab ro F K .normal s := I_end rfl
theorem wc48_5 : W tab ro F c48_5 K s = kont tab ro F K .ret s := Wc_ret (show c48_5 = .ret from rfl)
theorem n48 : fi48.ntmps = 12 := rfl
theorem q48 : fi48.results = [.cell 2 40] := rfl
theorem f48 : tab.f 48 = some fi48 := rfl
theorem b48 : fi48.body = c48 := rfl
theorem m48 : fi48.lm = 1 := rfl
-- NAMES 48 n48 q48 b48 m48  wc48 wc48_0 i48_0_0 i48_0_e wc48_1 wc48_2 i48_1_0 i48_1_1 i48_1_2 i48_1_3 i48_1_e wc48_3 wc48_4 i48_2_0 i48_2_1 i48_2_2 i48_2_3 i48_2_4 i48_2_5 i48_2_e wc48_5
/-! 49: (*verderer/drill.Dice).rule -/
noncomputable def c49 : Code := fi49.body
noncomputable def c49_0 : Code := sq1 c49
noncomputable def c49_1 : Code := sq2 c49
theorem wc49 : W tab ro F c49 K s = W tab ro F c49_0 (.sq c49_1 :: K) s := Wc_seq (show c49 = .seq c49_0 c49_1 from rfl)
noncomputable def r49_0 : Array Oper := rg1 c49_0
theorem wc49_0 : W tab ro F c49_0 K s = I tab ro F r49_0 0 K s := Wc_region (show c49_0 = .region 0 r49_0 false from rfl)
theorem i49_0_0 : I tab ro F r49_0 0 K s = I1 tab ro F r49_0 1 K (setO s (some 2) (opd s (.const (.string ⟨#[]⟩)))) := I_plain rfl rfl (ev_assign)
theorem i49_0_e : I tab ro F r49_0 1 K s = kont tab ro F K .normal s := I_end rfl
noncomputable def c49_2 : Code := sq1 c49_1
noncomputable def c49_3 : Code := sq2 c49_1
theorem wc49_1 : W tab ro F c49_1 K s = W tab ro F c49_2 (.sq c49_3 :: K) s := Wc_seq (show c49_1 = .seq c49_2 c49_3 from rfl)
noncomputable def r49_1 : Array Oper := rg1 c49_2
theorem wc49_2 : W tab ro F c49_2 K s = I tab ro F r49_1 0 K s := Wc_region (show c49_2 = .region 1 r49_1 false from rfl)
theorem i49_1_0 : I tab ro F r49_1 0 K s = I1 tab ro F r49_1 1 K (setO s (some 3) (opd s (.tmp 0))) := I_plain rfl rfl (ev_move)
theorem i49_1_1 : I tab ro F r49_1 1 K s = I1 tab ro F r49_1 2 K (setN s (some 4) (buildSO s.lm s.hs 5 1 (.str []) (opdParts s [(0, (.const (.string ⟨#[100, 101, 110, 121, 32, 98, 105, 103, 40, 115, 44, 32, 110, 41, 32, 105, 102, 32, 112, 111, 100, 40, 115, 44, 32, 110, 44, 32, 95, 44, 32, 99, 41, 44, 32, 99, 32, 62, 32, 53]⟩))), (1, (.const (.string ⟨#[100, 101, 110, 121, 32, 119, 101, 98, 40, 115, 41, 32, 105, 102, 32, 112, 111, 100, 40, 115, 44, 32, 95, 44, 32, 34, 119, 101, 98, 34, 44, 32, 95, 41]⟩))), (2, (.const (.string ⟨#[118, 105, 101, 119, 32, 117, 115, 101, 40, 115, 44, 32, 115, 117, 109, 32, 99, 41, 32, 105, 102, 32, 112, 111, 100, 40, 115, 44, 32, 95, 44, 32, 95, 44, 32, 99, 41]⟩))), (3, (.const (.string ⟨#[100, 101, 110, 121, 32, 109, 117, 99, 104, 40, 115, 41, 32, 105, 102, 32, 117, 115, 101, 40, 115, 44, 32, 99, 41, 44, 32, 99, 32, 62, 32, 49, 50]⟩))), (4, (.const (.string ⟨#[113, 117, 111, 116, 97, 32, 99, 112, 117, 40, 115, 44, 32, 115, 117, 109, 32, 99, 41, 32, 108, 105, 109, 105, 116, 32, 50, 48, 32, 105, 102, 32, 112, 111, 100, 40, 115, 44, 32, 95, 44, 32, 95, 44, 32, 99, 41]⟩)))]))) := I_plain rfl rfl (ev_buildSlice.trans (congrArg (setN s _) (u_buildSlice (n := 1) (z := (.str [])) rfl rfl rfl rfl rfl rfl)))
theorem i49_1_2 : I tab ro F r49_1 2 K s = I1 tab ro F r49_1 3 K (setE s (some 5) (callG tab (evw tab) s 16 (opds s [(.tmp 3), (.tmp 4)]))) := I_plain rfl rfl (u_call)
theorem i49_1_3 : I tab ro F r49_1 3 K s = I1 tab ro F r49_1 4 K (setO s (some 2) (opd s (.tmp 5))) := I_plain rfl rfl (ev_assign)
theorem i49_1_e : I tab ro F r49_1 4 K s = kont tab ro F K .normal s := I_end rfl
theorem wc49_3 : W tab ro F c49_3 K s = kont tab ro F K .ret s := Wc_ret (show c49_3 = .ret from rfl)
theorem n49 : fi49.ntmps = 6 := rfl
theorem q49 : fi49.results = [.tmp 2] := rfl
theorem f49 : tab.f 49 = some fi49 := rfl
theorem b49 : fi49.body = c49 := rfl
theorem m49 : fi49.lm = 1 := rfl
-- NAMES 49 n49 q49 b49 m49  wc49 wc49_0 i49_0_0 i49_0_e wc49_1 wc49_2 i49_1_0 i49_1_1 i49_1_2 i49_1_3 i49_1_e wc49_3
/-! 50: (*verderer/verdererref39.Dice).object -/
noncomputable def c50 : Code := fi50.body
noncomputable def c50_0 : Code := sq1 c50
noncomputable def c50_1 : Code := sq2 c50
theorem wc50 : W tab ro F c50 K s = W tab ro F c50_0 (.sq c50_1 :: K) s := Wc_seq (show c50 = .seq c50_0 c50_1 from rfl)
noncomputable def r50_0 : Array Oper := rg1 c50_0
theorem wc50_0 : W tab ro F c50_0 K s = I tab ro F r50_0 0 K s := Wc_region (show c50_0 = .region 0 r50_0 false from rfl)
theorem i50_0_0 : I tab ro F r50_0 0 K s = I1 tab ro F r50_0 1 K (setN s (some 4) (some (.cells [(.str []), (.str []), (.str []), (.lit (.int .i64 (0))), (.lit (.slice none 0 0))] false, .ptr s.hs 0))) := I_plain rfl rfl (ev_alloc.trans (congrArg (setN s _) (u_alloc (cs := [(.str []), (.str []), (.str []), (.lit (.int .i64 (0))), (.lit (.slice none 0 0))]) rfl rfl rfl)))
theorem i50_0_e : I tab ro F r50_0 1 K s = kont tab ro F K .normal s := I_end rfl
noncomputable def c50_2 : Code := sq1 c50_1
noncomputable def c50_3 : Code := sq2 c50_1
theorem wc50_1 : W tab ro F c50_1 K s = W tab ro F c50_2 (.sq c50_3 :: K) s := Wc_seq (show c50_1 = .seq c50_2 c50_3 from rfl)
noncomputable def r50_1 : Array Oper := rg1 c50_2
theorem wc50_2 : W tab ro F c50_2 K s = I tab ro F r50_1 0 K s := Wc_region (show c50_2 = .region 1 r50_1 false from rfl)
theorem i50_1_0 : I tab ro F r50_1 0 K s = I1 tab ro F r50_1 1 K (setO s (some 8) (buildO (placesL [(0, 1), (1, 1), (2, 1), (3, 1), (4, 1)]) [(.str []), (.str []), (.str []), (.lit (.int .i64 (0))), (.lit (.slice none 0 0))] (opdParts s [(0, (.const (.string ⟨#[112, 111, 100]⟩)))]))) := I_plain rfl rfl (ev_build.trans (congrArg (setO s _) (u_build rfl rfl rfl rfl (places_eq rfl))))
theorem i50_1_1 : I tab ro F r50_1 1 K s = I1 tab ro F r50_1 2 K (setN s (some 5) (some (.cells [(.str []), (.str []), (.str []), (.lit (.int .i64 (0))), (.lit (.slice none 0 0))] false, .ptr s.hs 0))) := I_plain rfl rfl (ev_alloc.trans (congrArg (setN s _) (u_alloc (cs := [(.str []), (.str []), (.str []), (.lit (.int .i64 (0))), (.lit (.slice none 0 0))]) rfl rfl rfl)))
theorem i50_1_2 : I tab ro F r50_1 2 K s = I1 tab ro F r50_1 3 K (setE s none (storeO s.heap s.hs 5 (opd s (.tmp 5)) (opd s (.tmp 8)))) := I_plain rfl rfl (ev_store.trans (congrArg (setE s _) (u_store rfl rfl)))
theorem i50_1_e : I tab ro F r50_1 3 K s = kont tab ro F K .normal s := I_end rfl
noncomputable def c50_4 : Code := sq1 c50_3
noncomputable def c50_5 : Code := sq2 c50_3
theorem wc50_3 : W tab ro F c50_3 K s = W tab ro F c50_4 (.sq c50_5 :: K) s := Wc_seq (show c50_3 = .seq c50_4 c50_5 from rfl)
noncomputable def r50_2 : Array Oper := rg1 c50_4
theorem wc50_4 : W tab ro F c50_4 K s = I tab ro F r50_2 0 K s := Wc_region (show c50_4 = .region 2 r50_2 false from rfl)
theorem i50_2_0 : I tab ro F r50_2 0 K s = I1 tab ro F r50_2 1 K (setO s (some 9) (opd s (.tmp 0))) := I_plain rfl rfl (ev_move)
theorem i50_2_1 : I tab ro F r50_2 1 K s = I1 tab ro F r50_2 2 K (setN s (some 10) (buildSO s.lm s.hs 3 1 (.str []) (opdParts s [(0, (.const (.string ⟨#[97]⟩))), (1, (.const (.string ⟨#[98]⟩))), (2, (.const (.string ⟨#[99]⟩)))]))) := I_plain rfl rfl (ev_buildSlice.trans (congrArg (setN s _) (u_buildSlice (n := 1) (z := (.str [])) rfl rfl rfl rfl rfl rfl)))
theorem i50_2_2 : I tab ro F r50_2 2 K s = I1 tab ro F r50_2 3 K (setE s (some 11) (callG tab (evw tab) s 17 (opds s [(.tmp 9), (.tmp 10)]))) := I_plain rfl rfl (u_call)
theorem i50_2_3 : I tab ro F r50_2 3 K s = I1 tab ro F r50_2 4 K (setO s (some 12) (fieldAddrO 1 (opd s (.tmp 5)))) := I_plain rfl rfl (ev_fieldAddr.trans (congrArg (setO s _) (u_fieldAddr (off := 1) rfl rfl rfl rfl rfl rfl)))
theorem i50_2_4 : I tab ro F r50_2 4 K s = I1 tab ro F r50_2 5 K (setE s none (storeO s.heap s.hs 1 (opd s (.tmp 12)) (opd s (.tmp 11)))) := I_plain rfl rfl (ev_store.trans (congrArg (setE s _) (u_store rfl rfl)))
theorem i50_2_e : I tab ro F r50_2 5 K s = kont tab ro F K .normal s := I_end rfl
noncomputable def c50_6 : Code := sq1 c50_5
noncomputable def c50_7 : Code := sq2 c50_5
theorem wc50_5 : W tab ro F c50_5 K s = W tab ro F c50_6 (.sq c50_7 :: K) s := Wc_seq (show c50_5 = .seq c50_6 c50_7 from rfl)
noncomputable def r50_3 : Array Oper := rg1 c50_6
theorem wc50_6 : W tab ro F c50_6 K s = I tab ro F r50_3 0 K s := Wc_region (show c50_6 = .region 3 r50_3 false from rfl)
theorem i50_3_0 : I tab ro F r50_3 0 K s = I1 tab ro F r50_3 1 K (setO s (some 13) (opd s (.tmp 0))) := I_plain rfl rfl (ev_move)
theorem i50_3_1 : I tab ro F r50_3 1 K s = I1 tab ro F r50_3 2 K (setN s (some 14) (buildSO s.lm s.hs 4 1 (.str []) (opdParts s [(0, (.const (.string ⟨#[112]⟩))), (1, (.const (.string ⟨#[113]⟩))), (2, (.const (.string ⟨#[114]⟩))), (3, (.const (.string ⟨#[115]⟩)))]))) := I_plain rfl rfl (ev_buildSlice.trans (congrArg (setN s _) (u_buildSlice (n := 1) (z := (.str [])) rfl rfl rfl rfl rfl rfl)))
theorem i50_3_2 : I tab ro F r50_3 2 K s = I1 tab ro F r50_3 3 K (setE s (some 15) (callG tab (evw tab) s 17 (opds s [(.tmp 13), (.tmp 14)]))) := I_plain rfl rfl (u_call)
theorem i50_3_3 : I tab ro F r50_3 3 K s = I1 tab ro F r50_3 4 K (setO s (some 16) (fieldAddrO 2 (opd s (.tmp 5)))) := I_plain rfl rfl (ev_fieldAddr.trans (congrArg (setO s _) (u_fieldAddr (off := 2) rfl rfl rfl rfl rfl rfl)))
theorem i50_3_4 : I tab ro F r50_3 4 K s = I1 tab ro F r50_3 5 K (setE s none (storeO s.heap s.hs 1 (opd s (.tmp 16)) (opd s (.tmp 15)))) := I_plain rfl rfl (ev_store.trans (congrArg (setE s _) (u_store rfl rfl)))
theorem i50_3_e : I tab ro F r50_3 5 K s = kont tab ro F K .normal s := I_end rfl
noncomputable def c50_8 : Code := sq1 c50_7
noncomputable def c50_9 : Code := sq2 c50_7
theorem wc50_7 : W tab ro F c50_7 K s = W tab ro F c50_8 (.sq c50_9 :: K) s := Wc_seq (show c50_7 = .seq c50_8 c50_9 from rfl)
noncomputable def c50_10 : Code := sq1 c50_8
noncomputable def c50_11 : Code := sq2 c50_8
theorem wc50_8 : W tab ro F c50_8 K s = W tab ro F c50_10 (.sq c50_11 :: K) s := Wc_seq (show c50_8 = .seq c50_10 c50_11 from rfl)
noncomputable def r50_4 : Array Oper := rg1 c50_10
theorem wc50_10 : W tab ro F c50_10 K s = I tab ro F r50_4 0 K s := Wc_region (show c50_10 = .region 4 r50_4 false from rfl)
theorem i50_4_0 : I tab ro F r50_4 0 K s = I1 tab ro F r50_4 1 K (setO s (some 17) (opd s (.tmp 1))) := I_plain rfl rfl (ev_move)
theorem i50_4_e : I tab ro F r50_4 1 K s = kont tab ro F K .normal s := I_end rfl
noncomputable def c50_12 : Code := cd1 c50_11
noncomputable def c50_13 : Code := cd2 c50_11
theorem wc50_11 : W tab ro F c50_11 K s = C1 tab ro F c50_12 c50_13 K s (opd s (.tmp 17)) := Wc_cond (show c50_11 = .cond (.tmp 17) c50_12 c50_13 from rfl)
noncomputable def c50_14 : Code := sq1 c50_12
noncomputable def c50_15 : Code := sq2 c50_12
theorem wc50_12 : W tab ro F c50_12 K s = W tab ro F c50_14 (.sq c50_15 :: K) s := Wc_seq (show c50_12 = .seq c50_14 c50_15 from rfl)
noncomputable def r50_5 : Array Oper := rg1 c50_14
theorem wc50_14 : W tab ro F c50_14 K s = I tab ro F r50_5 0 K s := Wc_region (show c50_14 = .region 5 r50_5 false from rfl)
theorem i50_5_0 : I tab ro F r50_5 0 K s = I1 tab ro F r50_5 1 K (setO s (some 18) (opd s (.tmp 0))) := I_plain rfl rfl (ev_move)
theorem i50_5_1 : I tab ro F r50_5 1 K s = I1 tab ro F r50_5 2 K (setN s (some 19) (buildSO s.lm s.hs 2 1 (.str []) (opdParts s [(0, (.const (.string ⟨#[119, 101, 98]⟩))), (1, (.const (.string ⟨#[100, 98]⟩)))]))) := I_plain rfl rfl (ev_buildSlice.trans (congrArg (setN s _) (u_buildSlice (n := 1) (z := (.str [])) rfl rfl rfl rfl rfl rfl)))
theorem i50_5_2 : I tab ro F r50_5 2 K s = I1 tab ro F r50_5 3 K (setE s (some 20) (callG tab (evw tab) s 17 (opds s [(.tmp 18), (.tmp 19)]))) := I_plain rfl rfl (u_call)
theorem i50_5_3 : I tab ro F r50_5 3 K s = I1 tab ro F r50_5 4 K (setO s (some 6) (opd s (.tmp 20))) := I_plain rfl rfl (ev_assign)
theorem i50_5_e : I tab ro F r50_5 4 K s = kont tab ro F K .normal s := I_end rfl
noncomputable def c50_16 : Code := sq1 c50_15
noncomputable def c50_17 : Code := sq2 c50_15
theorem wc50_15 : W tab ro F c50_15 K s = W tab ro F c50_16 (.sq c50_17 :: K) s := Wc_seq (show c50_15 = .seq c50_16 c50_17 from rfl)
noncomputable def r50_6 : Array Oper := rg1 c50_16
theorem wc50_16 : W tab ro F c50_16 K s = I tab ro F r50_6 0 K s := Wc_region (show c50_16 = .region 6 r50_6 false from rfl)
theorem i50_6_0 : I tab ro F r50_6 0 K s = I1 tab ro F r50_6 1 K (setO s (some 21) (opd s (.tmp 0))) := I_plain rfl rfl (ev_move)
theorem i50_6_1 : I tab ro F r50_6 1 K s = I1 tab ro F r50_6 2 K (setE s (some 22) (callG tab (evw tab) s 15 (opds s [(.tmp 21), (.const (.int .i64 (9)))]))) := I_plain rfl rfl (u_call)
theorem i50_6_2 : I tab ro F r50_6 2 K s = I1 tab ro F r50_6 3 K (setO s (some 7) (opd s (.tmp 22))) := I_plain rfl rfl (ev_assign)
theorem i50_6_e : I tab ro F r50_6 3 K s = kont tab ro F K .normal s := I_end rfl
noncomputable def r50_7 : Array Oper := rg1 c50_17
theorem wc50_17 : W tab ro F c50_17 K s = I tab ro F r50_7 0 K s := Wc_region (show c50_17 = .region 7 r50_7 false from rfl)
theorem i50_7_0 : I tab ro F r50_7 0 K s = I1 tab ro F r50_7 1 K (setO s (some 23) (opd s (.tmp 6))) := I_plain rfl rfl (ev_move)
theorem i50_7_1 : I tab ro F r50_7 1 K s = I1 tab ro F r50_7 2 K (setO s (some 24) (buildO (placesL [(0, 1), (1, 1), (2, 1), (3, 1)]) [(.lit (.int .i64 (0))), (.lit (.bool false)), (.lit (.int .i64 (0))), (.str [])] (opdParts s [(0, (.const (.int .i64 (3)))), (3, (.tmp 23))]))) := I_plain rfl rfl (ev_build.trans (congrArg (setO s _) (u_build rfl rfl rfl rfl (places_eq rfl))))
theorem i50_7_2 : I tab ro F r50_7 2 K s = I1 tab ro F r50_7 3 K (setO s (some 25) (opd s (.tmp 7))) := I_plain rfl rfl (ev_move)
theorem i50_7_3 : I tab ro F r50_7 3 K s = I1 tab ro F r50_7 4 K (setO s (some 26) (buildO (placesL [(0, 1), (1, 1), (2, 1), (3, 1)]) [(.lit (.int .i64 (0))), (.lit (.bool false)), (.lit (.int .i64 (0))), (.str [])] (opdParts s [(0, (.const (.int .i64 (2)))), (2, (.tmp 25))]))) := I_plain rfl rfl (ev_build.trans (congrArg (setO s _) (u_build rfl rfl rfl rfl (places_eq rfl))))
theorem i50_7_4 : I tab ro F r50_7 4 K s = I1 tab ro F r50_7 5 K (setN s (some 27) (buildSO s.lm s.hs 2 4 (.agg [(.lit (.int .i64 (0))), (.lit (.bool false)), (.lit (.int .i64 (0))), (.str [])]) (opdParts s [(0, (.tmp 24)), (1, (.tmp 26))]))) := I_plain rfl rfl (ev_buildSlice.trans (congrArg (setN s _) (u_buildSlice (n := 4) (z := (.agg [(.lit (.int .i64 (0))), (.lit (.bool false)), (.lit (.int .i64 (0))), (.str [])])) rfl rfl rfl rfl rfl rfl)))
theorem i50_7_5 : I tab ro F r50_7 5 K s = I1 tab ro F r50_7 6 K (setO s (some 28) (fieldAddrO 4 (opd s (.tmp 5)))) := I_plain rfl rfl (ev_fieldAddr.trans (congrArg (setO s _) (u_fieldAddr (off := 4) rfl rfl rfl rfl rfl rfl)))
theorem i50_7_6 : I tab ro F r50_7 6 K s = I1 tab ro F r50_7 7 K (setE s none (storeO s.heap s.hs 1 (opd s (.tmp 28)) (opd s (.tmp 27)))) := I_plain rfl rfl (ev_store.trans (congrArg (setE s _) (u_store rfl rfl)))
theorem i50_7_e : I tab ro F r50_7 7 K s = kont tab ro F K .normal s := I_end rfl
theorem wc50_13 : W tab ro F c50_13 K s = kont tab ro F K .normal s := Wc_skip (show c50_13 = .skip from rfl)
noncomputable def c50_18 : Code := sq1 c50_9
noncomputable def c50_19 : Code := sq2 c50_9
theorem wc50_9 : W tab ro F c50_9 K s = W tab ro F c50_18 (.sq c50_19 :: K) s := Wc_seq (show c50_9 = .seq c50_18 c50_19 from rfl)
noncomputable def r50_8 : Array Oper := rg1 c50_18
theorem wc50_18 : W tab ro F c50_18 K s = I tab ro F r50_8 0 K s := Wc_region (show c50_18 = .region 8 r50_8 false from rfl)
theorem i50_8_0 : I tab ro F r50_8 0 K s = I1 tab ro F r50_8 1 K (setO s (some 29) (loadO s.heap true 5 (opd s (.tmp 5)))) := I_plain rfl rfl (ev_load.trans (congrArg (setO s _) (u_load (agg := true) (n := 5) rfl rfl rfl)))
theorem i50_8_1 : I tab ro F r50_8 1 K s = I1 tab ro F r50_8 2 K (setE s none (storeO s.heap s.hs 5 (opd s (.tmp 4)) (opd s (.tmp 29)))) := I_plain rfl rfl (ev_store.trans (congrArg (setE s _) (u_store rfl rfl)))
theorem i50_8_e : I tab ro F r50_8 2 K s = kont tab ro F K .normal s := I_end rfl
theorem wc50_19 : W tab ro F c50_19 K s = kont tab ro F K .ret s := Wc_ret (show c50_19 = .ret from rfl)
theorem n50 : fi50.ntmps = 30 := rfl
theorem q50 : fi50.results = [.cell 4 38] := rfl
theorem f50 : tab.f 50 = some fi50 := rfl
theorem b50 : fi50.body = c50 := rfl
theorem m50 : fi50.lm = 1 := rfl
-- NAMES 50 n50 q50 b50 m50  wc50 wc50_0 i50_0_0 i50_0_e wc50_1 wc50_2 i50_1_0 i50_1_1 i50_1_2 i50_1_e wc50_3 wc50_4 i50_2_0 i50_2_1 i50_2_2 i50_2_3 i50_2_4 i50_2_e wc50_5 wc50_6 i50_3_0 i50_3_1 i50_3_2 i50_3_3 i50_3_4 i50_3_e wc50_7 wc50_8 wc50_10 i50_4_0 i50_4_e wc50_11 wc50_12 wc50_14 i50_5_0 i50_5_1 i50_5_2 i50_5_3 i50_5_e wc50_15 wc50_16 i50_6_0 i50_6_1 i50_6_2 i50_6_e wc50_17 i50_7_0 i50_7_1 i50_7_2 i50_7_3 i50_7_4 i50_7_5 i50_7_6 i50_7_e wc50_13 wc50_9 wc50_18 i50_8_0 i50_8_1 i50_8_e wc50_19
/-! 51: (*verderer/verdererref39.Dice).tenant -/
noncomputable def c51 : Code := fi51.body
noncomputable def c51_0 : Code := sq1 c51
noncomputable def c51_1 : Code := sq2 c51
theorem wc51 : W tab ro F c51 K s = W tab ro F c51_0 (.sq c51_1 :: K) s := Wc_seq (show c51 = .seq c51_0 c51_1 from rfl)
noncomputable def r51_0 : Array Oper := rg1 c51_0
theorem wc51_0 : W tab ro F c51_0 K s = I tab ro F r51_0 0 K s := Wc_region (show c51_0 = .region 0 r51_0 false from rfl)
theorem i51_0_0 : I tab ro F r51_0 0 K s = I1 tab ro F r51_0 1 K (setN s (some 2) (some (.cells [(.str []), (.str [])] false, .ptr s.hs 0))) := I_plain rfl rfl (ev_alloc.trans (congrArg (setN s _) (u_alloc (cs := [(.str []), (.str [])]) rfl rfl rfl)))
theorem i51_0_e : I tab ro F r51_0 1 K s = kont tab ro F K .normal s := I_end rfl
noncomputable def c51_2 : Code := sq1 c51_1
noncomputable def c51_3 : Code := sq2 c51_1
theorem wc51_1 : W tab ro F c51_1 K s = W tab ro F c51_2 (.sq c51_3 :: K) s := Wc_seq (show c51_1 = .seq c51_2 c51_3 from rfl)
noncomputable def r51_1 : Array Oper := rg1 c51_2
theorem wc51_2 : W tab ro F c51_2 K s = I tab ro F r51_1 0 K s := Wc_region (show c51_2 = .region 1 r51_1 false from rfl)
theorem i51_1_0 : I tab ro F r51_1 0 K s = I1 tab ro F r51_1 1 K (setO s (some 4) (buildO (placesL [(0, 1), (1, 1)]) [(.str []), (.str [])] (opdParts s []))) := I_plain rfl rfl (ev_build.trans (congrArg (setO s _) (u_build rfl rfl rfl rfl (places_eq rfl))))
theorem i51_1_1 : I tab ro F r51_1 1 K s = I1 tab ro F r51_1 2 K (setN s (some 3) (some (.cells [(.str []), (.str [])] false, .ptr s.hs 0))) := I_plain rfl rfl (ev_alloc.trans (congrArg (setN s _) (u_alloc (cs := [(.str []), (.str [])]) rfl rfl rfl)))
theorem i51_1_2 : I tab ro F r51_1 2 K s = I1 tab ro F r51_1 3 K (setE s none (storeO s.heap s.hs 2 (opd s (.tmp 3)) (opd s (.tmp 4)))) := I_plain rfl rfl (ev_store.trans (congrArg (setE s _) (u_store rfl rfl)))
theorem i51_1_e : I tab ro F r51_1 3 K s = kont tab ro F K .normal s := I_end rfl
noncomputable def c51_4 : Code := sq1 c51_3
noncomputable def c51_5 : Code := sq2 c51_3
theorem wc51_3 : W tab ro F c51_3 K s = W tab ro F c51_4 (.sq c51_5 :: K) s := Wc_seq (show c51_3 = .seq c51_4 c51_5 from rfl)
noncomputable def r51_2 : Array Oper := rg1 c51_4
theorem wc51_4 : W tab ro F c51_4 K s = I tab ro F r51_2 0 K s := Wc_region (show c51_4 = .region 2 r51_2 false from rfl)
theorem i51_2_0 : I tab ro F r51_2 0 K s = I1 tab ro F r51_2 1 K (setO s (some 5) (opd s (.tmp 0))) := I_plain rfl rfl (ev_move)
theorem i51_2_1 : I tab ro F r51_2 1 K s = I1 tab ro F r51_2 2 K (setN s (some 6) (buildSO s.lm s.hs 3 1 (.str []) (opdParts s [(0, (.const (.string ⟨#[97]⟩))), (1, (.const (.string ⟨#[98]⟩))), (2, (.const (.string ⟨#[99]⟩)))]))) := I_plain rfl rfl (ev_buildSlice.trans (congrArg (setN s _) (u_buildSlice (n := 1) (z := (.str [])) rfl rfl rfl rfl rfl rfl)))
theorem i51_2_2 : I tab ro F r51_2 2 K s = I1 tab ro F r51_2 3 K (setE s (some 7) (callG tab (evw tab) s 17 (opds s [(.tmp 5), (.tmp 6)]))) := I_plain rfl rfl (u_call)
theorem i51_2_3 : I tab ro F r51_2 3 K s = I1 tab ro F r51_2 4 K (setO s (some 8) (fieldAddrO 0 (opd s (.tmp 3)))) := I_plain rfl rfl (ev_fieldAddr.trans (congrArg (setO s _) (u_fieldAddr (off := 0) rfl rfl rfl rfl rfl rfl)))
theorem i51_2_4 : I tab ro F r51_2 4 K s = I1 tab ro F r51_2 5 K (setE s none (storeO s.heap s.hs 1 (opd s (.tmp 8)) (opd s (.tmp 7)))) := I_plain rfl rfl (ev_store.trans (congrArg (setE s _) (u_store rfl rfl)))
theorem i51_2_e : I tab ro F r51_2 5 K s = kont tab ro F K .normal s := I_end rfl
noncomputable def c51_6 : Code := sq1 c51_5
noncomputable def c51_7 : Code := sq2 c51_5
theorem wc51_5 : W tab ro F c51_5 K s = W tab ro F c51_6 (.sq c51_7 :: K) s := Wc_seq (show c51_5 = .seq c51_6 c51_7 from rfl)
noncomputable def r51_3 : Array Oper := rg1 c51_6
theorem wc51_6 : W tab ro F c51_6 K s = I tab ro F r51_3 0 K s := Wc_region (show c51_6 = .region 3 r51_3 false from rfl)
theorem i51_3_0 : I tab ro F r51_3 0 K s = I1 tab ro F r51_3 1 K (setO s (some 9) (opd s (.tmp 0))) := I_plain rfl rfl (ev_move)
theorem i51_3_1 : I tab ro F r51_3 1 K s = I1 tab ro F r51_3 2 K (setN s (some 10) (buildSO s.lm s.hs 3 1 (.str []) (opdParts s [(0, (.const (.string ⟨#[]⟩))), (1, (.const (.string ⟨#[97]⟩))), (2, (.const (.string ⟨#[98]⟩)))]))) := I_plain rfl rfl (ev_buildSlice.trans (congrArg (setN s _) (u_buildSlice (n := 1) (z := (.str [])) rfl rfl rfl rfl rfl rfl)))
theorem i51_3_2 : I tab ro F r51_3 2 K s = I1 tab ro F r51_3 3 K (setE s (some 11) (callG tab (evw tab) s 17 (opds s [(.tmp 9), (.tmp 10)]))) := I_plain rfl rfl (u_call)
theorem i51_3_3 : I tab ro F r51_3 3 K s = I1 tab ro F r51_3 4 K (setO s (some 12) (fieldAddrO 1 (opd s (.tmp 3)))) := I_plain rfl rfl (ev_fieldAddr.trans (congrArg (setO s _) (u_fieldAddr (off := 1) rfl rfl rfl rfl rfl rfl)))
theorem i51_3_4 : I tab ro F r51_3 4 K s = I1 tab ro F r51_3 5 K (setE s none (storeO s.heap s.hs 1 (opd s (.tmp 12)) (opd s (.tmp 11)))) := I_plain rfl rfl (ev_store.trans (congrArg (setE s _) (u_store rfl rfl)))
theorem i51_3_e : I tab ro F r51_3 5 K s = kont tab ro F K .normal s := I_end rfl
noncomputable def c51_8 : Code := sq1 c51_7
noncomputable def c51_9 : Code := sq2 c51_7
theorem wc51_7 : W tab ro F c51_7 K s = W tab ro F c51_8 (.sq c51_9 :: K) s := Wc_seq (show c51_7 = .seq c51_8 c51_9 from rfl)
noncomputable def r51_4 : Array Oper := rg1 c51_8
theorem wc51_8 : W tab ro F c51_8 K s = I tab ro F r51_4 0 K s := Wc_region (show c51_8 = .region 4 r51_4 false from rfl)
theorem i51_4_0 : I tab ro F r51_4 0 K s = I1 tab ro F r51_4 1 K (setO s (some 13) (loadO s.heap true 2 (opd s (.tmp 3)))) := I_plain rfl rfl (ev_load.trans (congrArg (setO s _) (u_load (agg := true) (n := 2) rfl rfl rfl)))
theorem i51_4_1 : I tab ro F r51_4 1 K s = I1 tab ro F r51_4 2 K (setE s none (storeO s.heap s.hs 2 (opd s (.tmp 2)) (opd s (.tmp 13)))) := I_plain rfl rfl (ev_store.trans (congrArg (setE s _) (u_store rfl rfl)))
theorem i51_4_e : I tab ro F r51_4 2 K s = kont tab ro F K .normal s := I_end rfl
theorem wc51_9 : W tab ro F c51_9 K s = kont tab ro F K .ret s := Wc_ret (show c51_9 = .ret from rfl)
theorem n51 : fi51.ntmps = 14 := rfl
theorem q51 : fi51.results = [.cell 2 40] := rfl
theorem f51 : tab.f 51 = some fi51 := rfl
theorem b51 : fi51.body = c51 := rfl
theorem m51 : fi51.lm = 1 := rfl
-- NAMES 51 n51 q51 b51 m51  wc51 wc51_0 i51_0_0 i51_0_e wc51_1 wc51_2 i51_1_0 i51_1_1 i51_1_2 i51_1_e wc51_3 wc51_4 i51_2_0 i51_2_1 i51_2_2 i51_2_3 i51_2_4 i51_2_e wc51_5 wc51_6 i51_3_0 i51_3_1 i51_3_2 i51_3_3 i51_3_4 i51_3_e wc51_7 wc51_8 i51_4_0 i51_4_1 i51_4_e wc51_9
/-! 22: verderer/verdererref39.Script -/
noncomputable def c22 : Code := fi22.body
noncomputable def c22_0 : Code := sq1 c22
noncomputable def c22_1 : Code := sq2 c22
theorem wc22 : W tab ro F c22 K s = W tab ro F c22_0 (.sq c22_1 :: K) s := Wc_seq (show c22 = .seq c22_0 c22_1 from rfl)
noncomputable def r22_0 : Array Oper := rg1 c22_0
theorem wc22_0 : W tab ro F c22_0 K s = I tab ro F r22_0 0 K s := Wc_region (show c22_0 = .region 0 r22_0 false from rfl)
theorem i22_0_0 : I tab ro F r22_0 0 K s = I1 tab ro F r22_0 1 K (setO s (some 4) (opd s (.const (.slice none 0 0)))) := I_plain rfl rfl (ev_assign)
theorem i22_0_1 : I tab ro F r22_0 1 K s = I1 tab ro F r22_0 2 K (setO s (some 5) (opd s (.const (.slice none 0 0)))) := I_plain rfl rfl (ev_assign)
theorem i22_0_2 : I tab ro F r22_0 2 K s = I1 tab ro F r22_0 3 K (setO s (some 6) (opd s (.const (.int .i64 (0))))) := I_plain rfl rfl (ev_assign)
theorem i22_0_e : I tab ro F r22_0 3 K s = kont tab ro F K .normal s := I_end rfl
noncomputable def c22_2 : Code := sq1 c22_1
noncomputable def c22_3 : Code := sq2 c22_1
theorem wc22_1 : W tab ro F c22_1 K s = W tab ro F c22_2 (.sq c22_3 :: K) s := Wc_seq (show c22_1 = .seq c22_2 c22_3 from rfl)
noncomputable def c22_4 : Code := sq1 c22_2
noncomputable def c22_5 : Code := sq2 c22_2
theorem wc22_2 : W tab ro F c22_2 K s = W tab ro F c22_4 (.sq c22_5 :: K) s := Wc_seq (show c22_2 = .seq c22_4 c22_5 from rfl)
noncomputable def r22_1 : Array Oper := rg1 c22_4
theorem wc22_4 : W tab ro F c22_4 K s = I tab ro F r22_1 0 K s := Wc_region (show c22_4 = .region 1 r22_1 false from rfl)
theorem i22_1_0 : I tab ro F r22_1 0 K s = I1 tab ro F r22_1 1 K (setO s (some 10) (opd s (.tmp 1))) := I_plain rfl rfl (ev_move)
theorem i22_1_1 : I tab ro F r22_1 1 K s = I1 tab ro F r22_1 2 K (setO s (some 11) (binO tab .lss 3 (.tmp 10) (.const (.int .i64 (0))) (opd s (.tmp 10)) (opd s (.const (.int .i64 (0)))))) := I_plain rfl rfl (ev_binOp.trans (congrArg (setO s _) u_bin))
theorem i22_1_2 : I tab ro F r22_1 2 K s = I1 tab ro F r22_1 3 K (setO s (some 12) (opd s (.tmp 11))) := I_plain rfl rfl (ev_move)
theorem i22_1_3 : I tab ro F r22_1 3 K s = IG tab ro F r22_1 4 K false (setO s (some 13) (opd s (.tmp 1))) (setT s (some 13) udef) (opd s (.tmp 12)) := I_guard (d := (some 13)) rfl rfl rfl rfl rfl (ev_move)
theorem i22_1_4 : I tab ro F r22_1 4 K s = IG tab ro F r22_1 5 K false (setO s (some 14) (binO tab .gtr 3 (.tmp 13) (.const (.int .i64 (300))) (opd s (.tmp 13)) (opd s (.const (.int .i64 (300)))))) (setT s (some 14) udef) (opd s (.tmp 12)) := I_guard (d := (some 14)) rfl rfl rfl rfl rfl (ev_binOp.trans (congrArg (setO s _) u_bin))
theorem i22_1_5 : I tab ro F r22_1 5 K s = I1 tab ro F r22_1 6 K (setO s (some 15) (pickO (opd s (.tmp 12)) (opd s (.const (.bool true))) (opd s (.tmp 14)))) := I_plain rfl rfl (ev_pick.trans (congrArg (setO s _) u_pick))
theorem i22_1_e : I tab ro F r22_1 6 K s = kont tab ro F K .normal s := I_end rfl
noncomputable def c22_6 : Code := cd1 c22_5
noncomputable def c22_7 : Code := cd2 c22_5
theorem wc22_5 : W tab ro F c22_5 K s = C1 tab ro F c22_6 c22_7 K s (opd s (.tmp 15)) := Wc_cond (show c22_5 = .cond (.tmp 15) c22_6 c22_7 from rfl)
noncomputable def c22_8 : Code := sq1 c22_6
noncomputable def c22_9 : Code := sq2 c22_6
theorem wc22_6 : W tab ro F c22_6 K s = W tab ro F c22_8 (.sq c22_9 :: K) s := Wc_seq (show c22_6 = .seq c22_8 c22_9 from rfl)
noncomputable def r22_2 : Array Oper := rg1 c22_8
theorem wc22_8 : W tab ro F c22_8 K s = I tab ro F r22_2 0 K s := Wc_region (show c22_8 = .region 2 r22_2 false from rfl)
theorem i22_2_0 : I tab ro F r22_2 0 K s = I1 tab ro F r22_2 1 K (setO s (some 4) (opd s (.const (.slice none 0 0)))) := I_plain rfl rfl (ev_assign)
theorem i22_2_1 : I tab ro F r22_2 1 K s = I1 tab ro F r22_2 2 K (setO s (some 5) (opd s (.const (.slice none 0 0)))) := I_plain rfl rfl (ev_assign)
theorem i22_2_2 : I tab ro F r22_2 2 K s = I1 tab ro F r22_2 3 K (setO s (some 6) (opd s (.const (.int .i64 (2))))) := I_plain rfl rfl (ev_assign)
theorem i22_2_e : I tab ro F r22_2 3 K s = kont tab ro F K .normal s := I_end rfl
theorem wc22_9 : W tab ro F c22_9 K s = kont tab ro F K .ret s := Wc_ret (show c22_9 = .ret from rfl)
theorem wc22_7 : W tab ro F c22_7 K s = kont tab ro F K .normal s := Wc_skip (show c22_7 = .skip from rfl)
noncomputable def c22_10 : Code := sq1 c22_3
noncomputable def c22_11 : Code := sq2 c22_3
theorem wc22_3 : W tab ro F c22_3 K s = W tab ro F c22_10 (.sq c22_11 :: K) s := Wc_seq (show c22_3 = .seq c22_10 c22_11 from rfl)
noncomputable def r22_3 : Array Oper := rg1 c22_10
theorem wc22_10 : W tab ro F c22_10 K s = I tab ro F r22_3 0 K s := Wc_region (show c22_10 = .region 3 r22_3 false from rfl)
theorem i22_3_0 : I tab ro F r22_3 0 K s = I1 tab ro F r22_3 1 K (setO s (some 16) (opd s (.tmp 0))) := I_plain rfl rfl (ev_move)
theorem i22_3_1 : I tab ro F r22_3 1 K s = I1 tab ro F r22_3 2 K (setO s (some 17) (buildO (placesL [(0, 1)]) [(.lit (.int .u64 (0)))] (opdParts s [(0, (.tmp 16))]))) := I_plain rfl rfl (ev_build.trans (congrArg (setO s _) (u_build rfl rfl rfl rfl (places_eq rfl))))
theorem i22_3_2 : I tab ro F r22_3 2 K s = I1 tab ro F r22_3 3 K (setN s (some 18) (boxO (opd s (.tmp 17)) s.hs)) := I_plain rfl rfl (ev_box.trans (congrArg (setN s _) u_box))
theorem i22_3_3 : I tab ro F r22_3 3 K s = I1 tab ro F r22_3 4 K (setO s (some 7) (opd s (.tmp 18))) := I_plain rfl rfl (ev_assign)
theorem i22_3_e : I tab ro F r22_3 4 K s = kont tab ro F K .normal s := I_end rfl
noncomputable def c22_12 : Code := sq1 c22_11
noncomputable def c22_13 : Code := sq2 c22_11
theorem wc22_11 : W tab ro F c22_11 K s = W tab ro F c22_12 (.sq c22_13 :: K) s := Wc_seq (show c22_11 = .seq c22_12 c22_13 from rfl)
noncomputable def r22_4 : Array Oper := rg1 c22_12
theorem wc22_12 : W tab ro F c22_12 K s = I tab ro F r22_4 0 K s := Wc_region (show c22_12 = .region 4 r22_4 false from rfl)
theorem i22_4_0 : I tab ro F r22_4 0 K s = I1 tab ro F r22_4 1 K (setO s (some 8) (opd s (.const (.slice none 0 0)))) := I_plain rfl rfl (ev_assign)
theorem i22_4_e : I tab ro F r22_4 1 K s = kont tab ro F K .normal s := I_end rfl
noncomputable def c22_14 : Code := sq1 c22_13
noncomputable def c22_15 : Code := sq2 c22_13
theorem wc22_13 : W tab ro F c22_13 K s = W tab ro F c22_14 (.sq c22_15 :: K) s := Wc_seq (show c22_13 = .seq c22_14 c22_15 from rfl)
noncomputable def c22_16 : Code := sq1 c22_14
noncomputable def c22_17 : Code := sq2 c22_14
theorem wc22_14 : W tab ro F c22_14 K s = W tab ro F c22_16 (.sq c22_17 :: K) s := Wc_seq (show c22_14 = .seq c22_16 c22_17 from rfl)
noncomputable def r22_5 : Array Oper := rg1 c22_16
theorem wc22_16 : W tab ro F c22_16 K s = I tab ro F r22_5 0 K s := Wc_region (show c22_16 = .region 5 r22_5 false from rfl)
theorem i22_5_0 : I tab ro F r22_5 0 K s = I1 tab ro F r22_5 1 K (setO s (some 9) (opd s (.const (.int .i64 (0))))) := I_plain rfl rfl (ev_assign)
theorem i22_5_e : I tab ro F r22_5 1 K s = kont tab ro F K .normal s := I_end rfl
noncomputable def c22_18 : Code := bk1 c22_17
theorem wc22_17 : W tab ro F c22_17 K s = W tab ro F c22_18 (.bk 0 :: K) s := Wc_block (show c22_17 = .block 0 c22_18 from rfl)
noncomputable def c22_19 : Code := lp1 c22_18
theorem lc22_18 : W tab ro F c22_18 K s = W tab ro F c22_19 (.lp c22_19 :: K) s := Wc_loop (show c22_18 = .loop c22_19 from rfl)
theorem kc22_18 : kont tab ro F (.lp c22_19 :: K) .normal s = W tab ro F c22_18 K s := Wc_again (show c22_18 = .loop c22_19 from rfl)
noncomputable def c22_20 : Code := sq1 c22_19
noncomputable def c22_21 : Code := sq2 c22_19
theorem wc22_19 : W tab ro F c22_19 K s = W tab ro F c22_20 (.sq c22_21 :: K) s := Wc_seq (show c22_19 = .seq c22_20 c22_21 from rfl)
noncomputable def c22_22 : Code := sq1 c22_20
noncomputable def c22_23 : Code := sq2 c22_20
theorem wc22_20 : W tab ro F c22_20 K s = W tab ro F c22_22 (.sq c22_23 :: K) s := Wc_seq (show c22_20 = .seq c22_22 c22_23 from rfl)
noncomputable def r22_6 : Array Oper := rg1 c22_22
theorem wc22_22 : W tab ro F c22_22 K s = I tab ro F r22_6 0 K s := Wc_region (show c22_22 = .region 6 r22_6 false from rfl)
theorem i22_6_0 : I tab ro F r22_6 0 K s = I1 tab ro F r22_6 1 K (setO s (some 19) (opd s (.tmp 9))) := I_plain rfl rfl (ev_move)
theorem i22_6_1 : I tab ro F r22_6 1 K s = I1 tab ro F r22_6 2 K (setO s (some 20) (opd s (.tmp 1))) := I_plain rfl rfl (ev_move)
theorem i22_6_2 : I tab ro F r22_6 2 K s = I1 tab ro F r22_6 3 K (setO s (some 21) (binO tab .lss 3 (.tmp 19) (.tmp 20) (opd s (.tmp 19)) (opd s (.tmp 20)))) := I_plain rfl rfl (ev_binOp.trans (congrArg (setO s _) u_bin))
theorem i22_6_e : I tab ro F r22_6 3 K s = kont tab ro F K .normal s := I_end rfl
noncomputable def c22_24 : Code := cd1 c22_23
noncomputable def c22_25 : Code := cd2 c22_23
theorem wc22_23 : W tab ro F c22_23 K s = C1 tab ro F c22_24 c22_25 K s (opd s (.tmp 21)) := Wc_cond (show c22_23 = .cond (.tmp 21) c22_24 c22_25 from rfl)
theorem wc22_24 : W tab ro F c22_24 K s = kont tab ro F K .normal s := Wc_skip (show c22_24 = .skip from rfl)
theorem wc22_25 : W tab ro F c22_25 K s = kont tab ro F K (.exit 0) s := Wc_exit (show c22_25 = .exit 0 from rfl)
noncomputable def c22_26 : Code := sq1 c22_21
noncomputable def c22_27 : Code := sq2 c22_21
theorem wc22_21 : W tab ro F c22_21 K s = W tab ro F c22_26 (.sq c22_27 :: K) s := Wc_seq (show c22_21 = .seq c22_26 c22_27 from rfl)
noncomputable def c22_28 : Code := bk1 c22_26
theorem wc22_26 : W tab ro F c22_26 K s = W tab ro F c22_28 (.bk 1 :: K) s := Wc_block (show c22_26 = .block 1 c22_28 from rfl)
noncomputable def r22_8 : Array Oper := rg1 c22_28
theorem wc22_28 : W tab ro F c22_28 K s = I tab ro F r22_8 0 K s := Wc_region (show c22_28 = .region 8 r22_8 false from rfl)
theorem i22_8_0 : I tab ro F r22_8 0 K s = I1 tab ro F r22_8 1 K (setO s (some 24) (opd s (.tmp 8))) := I_plain rfl rfl (ev_move)
theorem i22_8_1 : I tab ro F r22_8 1 K s = I1 tab ro F r22_8 2 K (setO s (some 25) (opd s (.tmp 7))) := I_plain rfl rfl (ev_move)
theorem i22_8_2 : I tab ro F r22_8 2 K s = I1 tab ro F r22_8 3 K (setE s (some 26) (callG tab (evw tab) s 20 (opds s [(.tmp 25)]))) := I_plain rfl rfl (u_call)
theorem i22_8_3 : I tab ro F r22_8 3 K s = I1 tab ro F r22_8 4 K (setN s (some 27) (buildSO s.lm s.hs 1 11 (.agg [(.lit (.int .i64 (0))), (.lit (.int .i64 (0))), (.str []), (.str []), (.str []), (.lit (.int .i64 (0))), (.lit (.slice none 0 0)), (.str []), (.str []), (.str []), (.lit (.int .i64 (0)))]) (opdParts s [(0, (.tmp 26))]))) := I_plain rfl rfl (ev_buildSlice.trans (congrArg (setN s _) (u_buildSlice (n := 11) (z := (.agg [(.lit (.int .i64 (0))), (.lit (.int .i64 (0))), (.str []), (.str []), (.str []), (.lit (.int .i64 (0))), (.lit (.slice none 0 0)), (.str []), (.str []), (.str []), (.lit (.int .i64 (0)))])) rfl rfl rfl rfl rfl rfl)))
theorem i22_8_4 : I tab ro F r22_8 4 K s = I1 tab ro F r22_8 5 K (setE s (some 28) (appendO s.heap s.hs s.lm true 11 152 (opd s (.tmp 24)) (opd s (.tmp 27)))) := I_plain rfl rfl (ev_append.trans (congrArg (setE s _) (u_append (agg := true) (n := 11) (b := 152) rfl rfl rfl rfl rfl rfl rfl rfl rfl)))
theorem i22_8_5 : I tab ro F r22_8 5 K s = I1 tab ro F r22_8 6 K (setO s (some 8) (opd s (.tmp 28))) := I_plain rfl rfl (ev_assign)
theorem i22_8_e : I tab ro F r22_8 6 K s = kont tab ro F K .normal s := I_end rfl
noncomputable def r22_7 : Array Oper := rg1 c22_27
theorem wc22_27 : W tab ro F c22_27 K s = I tab ro F r22_7 0 K s := Wc_region (show c22_27 = .region 7 r22_7 false from rfl)
theorem i22_7_0 : I tab ro F r22_7 0 K s = I1 tab ro F r22_7 1 K (setO s (some 22) (opd s (.tmp 9))) := I_plain rfl rfl (ev_move)
theorem i22_7_1 : I tab ro F r22_7 1 K s = I1 tab ro F r22_7 2 K (setO s (some 23) (binO tab .add 3 (.tmp 22) (.const (.int .i64 (1))) (opd s (.tmp 22)) (opd s (.const (.int .i64 (1)))))) := I_plain rfl rfl (ev_binOp.trans (congrArg (setO s _) u_bin))
theorem i22_7_2 : I tab ro F r22_7 2 K s = I1 tab ro F r22_7 3 K (setO s (some 9) (opd s (.tmp 23))) := I_plain rfl rfl (ev_assign)
theorem i22_7_e : I tab ro F r22_7 3 K s = kont tab ro F K .normal s := I_end rfl
noncomputable def c22_29 : Code := sq1 c22_15
noncomputable def c22_30 : Code := sq2 c22_15
theorem wc22_15 : W tab ro F c22_15 K s = W tab ro F c22_29 (.sq c22_30 :: K) s := Wc_seq (show c22_15 = .seq c22_29 c22_30 from rfl)
noncomputable def r22_9 : Array Oper := rg1 c22_29
theorem wc22_29 : W tab ro F c22_29 K s = I tab ro F r22_9 0 K s := Wc_region (show c22_29 = .region 9 r22_9 false from rfl)
theorem i22_9_0 : I tab ro F r22_9 0 K s = I1 tab ro F r22_9 1 K (setE s (some 29) (callG tab (evw tab) s 53 (opds s []))) := I_plain rfl rfl (u_call)
theorem i22_9_1 : I tab ro F r22_9 1 K s = I1 tab ro F r22_9 2 K (setO s (some 30) (opd s (.tmp 8))) := I_plain rfl rfl (ev_move)
theorem i22_9_2 : I tab ro F r22_9 2 K s = I1 tab ro F r22_9 3 K (setO s (some 4) (opd s (.tmp 29))) := I_plain rfl rfl (ev_assign)
theorem i22_9_3 : I tab ro F r22_9 3 K s = I1 tab ro F r22_9 4 K (setO s (some 5) (opd s (.tmp 30))) := I_plain rfl rfl (ev_assign)
theorem i22_9_4 : I tab ro F r22_9 4 K s = I1 tab ro F r22_9 5 K (setO s (some 6) (opd s (.const (.int .i64 (0))))) := I_plain rfl rfl (ev_assign)
theorem i22_9_e : I tab ro F r22_9 5 K s = kont tab ro F K .normal s := I_end rfl
theorem wc22_30 : W tab ro F c22_30 K s = kont tab ro F K .ret s := Wc_ret (show c22_30 = .ret from rfl)
theorem n22 : fi22.ntmps = 31 := rfl
theorem q22 : fi22.results = [.tmp 4, .tmp 5, .tmp 6] := rfl
theorem f22 : tab.f 22 = some fi22 := rfl
theorem b22 : fi22.body = c22 := rfl
theorem m22 : fi22.lm = 1 := rfl
-- NAMES 22 n22 q22 b22 m22  wc22 wc22_0 i22_0_0 i22_0_1 i22_0_2 i22_0_e wc22_1 wc22_2 wc22_4 i22_1_0 i22_1_1 i22_1_2 i22_1_3 i22_1_4 i22_1_5 i22_1_e wc22_5 wc22_6 wc22_8 i22_2_0 i22_2_1 i22_2_2 i22_2_e wc22_9 wc22_7 wc22_3 wc22_10 i22_3_0 i22_3_1 i22_3_2 i22_3_3 i22_3_e wc22_11 wc22_12 i22_4_0 i22_4_e wc22_13 wc22_14 wc22_16 i22_5_0 i22_5_e wc22_17 kc22_18 wc22_19 wc22_20 wc22_22 i22_6_0 i22_6_1 i22_6_2 i22_6_e wc22_23 wc22_24 wc22_25 wc22_21 wc22_26 wc22_28 i22_8_0 i22_8_1 i22_8_2 i22_8_3 i22_8_4 i22_8_5 i22_8_e wc22_27 i22_7_0 i22_7_1 i22_7_2 i22_7_e wc22_15 wc22_29 i22_9_0 i22_9_1 i22_9_2 i22_9_3 i22_9_4 i22_9_e wc22_30
/-! 23: verderer/verdererref31.Steps -/
noncomputable def c23 : Code := fi23.body
noncomputable def c23_0 : Code := sq1 c23
noncomputable def c23_1 : Code := sq2 c23
theorem wc23 : W tab ro F c23 K s = W tab ro F c23_0 (.sq c23_1 :: K) s := Wc_seq (show c23 = .seq c23_0 c23_1 from rfl)
noncomputable def r23_0 : Array Oper := rg1 c23_0
theorem wc23_0 : W tab ro F c23_0 K s = I tab ro F r23_0 0 K s := Wc_region (show c23_0 = .region 0 r23_0 false from rfl)
theorem i23_0_0 : I tab ro F r23_0 0 K s = I1 tab ro F r23_0 1 K (setO s (some 4) (opd s (.const (.bool false)))) := I_plain rfl rfl (ev_assign)
theorem i23_0_e : I tab ro F r23_0 1 K s = kont tab ro F K .normal s := I_end rfl
noncomputable def c23_2 : Code := sq1 c23_1
noncomputable def c23_3 : Code := sq2 c23_1
theorem wc23_1 : W tab ro F c23_1 K s = W tab ro F c23_2 (.sq c23_3 :: K) s := Wc_seq (show c23_1 = .seq c23_2 c23_3 from rfl)
noncomputable def c23_4 : Code := sq1 c23_2
noncomputable def c23_5 : Code := sq2 c23_2
theorem wc23_2 : W tab ro F c23_2 K s = W tab ro F c23_4 (.sq c23_5 :: K) s := Wc_seq (show c23_2 = .seq c23_4 c23_5 from rfl)
noncomputable def r23_1 : Array Oper := rg1 c23_4
theorem wc23_4 : W tab ro F c23_4 K s = I tab ro F r23_1 0 K s := Wc_region (show c23_4 = .region 1 r23_1 false from rfl)
theorem i23_1_0 : I tab ro F r23_1 0 K s = I1 tab ro F r23_1 1 K (setO s (some 6) (opd s (.tmp 0))) := I_plain rfl rfl (ev_move)
theorem i23_1_1 : I tab ro F r23_1 1 K s = I1 tab ro F r23_1 2 K (setO s (some 7) (lenLO (opd s (.tmp 6)))) := I_plain rfl rfl (u_lenL rfl rfl)
theorem i23_1_2 : I tab ro F r23_1 2 K s = I1 tab ro F r23_1 3 K (setO s (some 8) (opd s (.tmp 1))) := I_plain rfl rfl (ev_move)
theorem i23_1_3 : I tab ro F r23_1 3 K s = I1 tab ro F r23_1 4 K (setO s (some 9) (lenLO (opd s (.tmp 8)))) := I_plain rfl rfl (u_lenL rfl rfl)
theorem i23_1_4 : I tab ro F r23_1 4 K s = I1 tab ro F r23_1 5 K (setO s (some 10) (binO tab .neq 3 (.tmp 7) (.tmp 9) (opd s (.tmp 7)) (opd s (.tmp 9)))) := I_plain rfl rfl (ev_binOp.trans (congrArg (setO s _) u_bin))
theorem i23_1_e : I tab ro F r23_1 5 K s = kont tab ro F K .normal s := I_end rfl
noncomputable def c23_6 : Code := cd1 c23_5
noncomputable def c23_7 : Code := cd2 c23_5
theorem wc23_5 : W tab ro F c23_5 K s = C1 tab ro F c23_6 c23_7 K s (opd s (.tmp 10)) := Wc_cond (show c23_5 = .cond (.tmp 10) c23_6 c23_7 from rfl)
noncomputable def c23_8 : Code := sq1 c23_6
noncomputable def c23_9 : Code := sq2 c23_6
theorem wc23_6 : W tab ro F c23_6 K s = W tab ro F c23_8 (.sq c23_9 :: K) s := Wc_seq (show c23_6 = .seq c23_8 c23_9 from rfl)
noncomputable def r23_2 : Array Oper := rg1 c23_8
theorem wc23_8 : W tab ro F c23_8 K s = I tab ro F r23_2 0 K s := Wc_region (show c23_8 = .region 2 r23_2 false from rfl)
theorem i23_2_0 : I tab ro F r23_2 0 K s = I1 tab ro F r23_2 1 K (setO s (some 4) (opd s (.const (.bool false)))) := I_plain rfl rfl (ev_assign)
theorem i23_2_e : I tab ro F r23_2 1 K s = kont tab ro F K .normal s := I_end rfl
theorem wc23_9 : W tab ro F c23_9 K s = kont tab ro F K .ret s := Wc_ret (show c23_9 = .ret from rfl)
theorem wc23_7 : W tab ro F c23_7 K s = kont tab ro F K .normal s := Wc_skip (show c23_7 = .skip from rfl)
noncomputable def c23_10 : Code := sq1 c23_3
noncomputable def c23_11 : Code := sq2 c23_3
theorem wc23_3 : W tab ro F c23_3 K s = W tab ro F c23_10 (.sq c23_11 :: K) s := Wc_seq (show c23_3 = .seq c23_10 c23_11 from rfl)
noncomputable def c23_12 : Code := sq1 c23_10
noncomputable def c23_13 : Code := sq2 c23_10
theorem wc23_10 : W tab ro F c23_10 K s = W tab ro F c23_12 (.sq c23_13 :: K) s := Wc_seq (show c23_10 = .seq c23_12 c23_13 from rfl)
noncomputable def r23_3 : Array Oper := rg1 c23_12
theorem wc23_12 : W tab ro F c23_12 K s = I tab ro F r23_3 0 K s := Wc_region (show c23_12 = .region 3 r23_3 false from rfl)
theorem i23_3_0 : I tab ro F r23_3 0 K s = I1 tab ro F r23_3 1 K (setO s (some 5) (opd s (.const (.int .i64 (0))))) := I_plain rfl rfl (ev_assign)
theorem i23_3_e : I tab ro F r23_3 1 K s = kont tab ro F K .normal s := I_end rfl
noncomputable def c23_14 : Code := bk1 c23_13
theorem wc23_13 : W tab ro F c23_13 K s = W tab ro F c23_14 (.bk 0 :: K) s := Wc_block (show c23_13 = .block 0 c23_14 from rfl)
noncomputable def c23_15 : Code := lp1 c23_14
theorem lc23_14 : W tab ro F c23_14 K s = W tab ro F c23_15 (.lp c23_15 :: K) s := Wc_loop (show c23_14 = .loop c23_15 from rfl)
theorem kc23_14 : kont tab ro F (.lp c23_15 :: K) .normal s = W tab ro F c23_14 K s := Wc_again (show c23_14 = .loop c23_15 from rfl)
noncomputable def c23_16 : Code := sq1 c23_15
noncomputable def c23_17 : Code := sq2 c23_15
theorem wc23_15 : W tab ro F c23_15 K s = W tab ro F c23_16 (.sq c23_17 :: K) s := Wc_seq (show c23_15 = .seq c23_16 c23_17 from rfl)
noncomputable def c23_18 : Code := sq1 c23_16
noncomputable def c23_19 : Code := sq2 c23_16
theorem wc23_16 : W tab ro F c23_16 K s = W tab ro F c23_18 (.sq c23_19 :: K) s := Wc_seq (show c23_16 = .seq c23_18 c23_19 from rfl)
noncomputable def r23_4 : Array Oper := rg1 c23_18
theorem wc23_18 : W tab ro F c23_18 K s = I tab ro F r23_4 0 K s := Wc_region (show c23_18 = .region 4 r23_4 false from rfl)
theorem i23_4_0 : I tab ro F r23_4 0 K s = I1 tab ro F r23_4 1 K (setO s (some 11) (opd s (.tmp 5))) := I_plain rfl rfl (ev_move)
theorem i23_4_1 : I tab ro F r23_4 1 K s = I1 tab ro F r23_4 2 K (setO s (some 12) (opd s (.tmp 0))) := I_plain rfl rfl (ev_move)
theorem i23_4_2 : I tab ro F r23_4 2 K s = I1 tab ro F r23_4 3 K (setO s (some 13) (lenLO (opd s (.tmp 12)))) := I_plain rfl rfl (u_lenL rfl rfl)
theorem i23_4_3 : I tab ro F r23_4 3 K s = I1 tab ro F r23_4 4 K (setO s (some 14) (binO tab .lss 3 (.tmp 11) (.tmp 13) (opd s (.tmp 11)) (opd s (.tmp 13)))) := I_plain rfl rfl (ev_binOp.trans (congrArg (setO s _) u_bin))
theorem i23_4_e : I tab ro F r23_4 4 K s = kont tab ro F K .normal s := I_end rfl
noncomputable def c23_20 : Code := cd1 c23_19
noncomputable def c23_21 : Code := cd2 c23_19
theorem wc23_19 : W tab ro F c23_19 K s = C1 tab ro F c23_20 c23_21 K s (opd s (.tmp 14)) := Wc_cond (show c23_19 = .cond (.tmp 14) c23_20 c23_21 from rfl)
theorem wc23_20 : W tab ro F c23_20 K s = kont tab ro F K .normal s := Wc_skip (show c23_20 = .skip from rfl)
theorem wc23_21 : W tab ro F c23_21 K s = kont tab ro F K (.exit 0) s := Wc_exit (show c23_21 = .exit 0 from rfl)
noncomputable def c23_22 : Code := sq1 c23_17
noncomputable def c23_23 : Code := sq2 c23_17
theorem wc23_17 : W tab ro F c23_17 K s = W tab ro F c23_22 (.sq c23_23 :: K) s := Wc_seq (show c23_17 = .seq c23_22 c23_23 from rfl)
noncomputable def c23_24 : Code := bk1 c23_22
theorem wc23_22 : W tab ro F c23_22 K s = W tab ro F c23_24 (.bk 1 :: K) s := Wc_block (show c23_22 = .block 1 c23_24 from rfl)
noncomputable def c23_25 : Code := sq1 c23_24
noncomputable def c23_26 : Code := sq2 c23_24
theorem wc23_24 : W tab ro F c23_24 K s = W tab ro F c23_25 (.sq c23_26 :: K) s := Wc_seq (show c23_24 = .seq c23_25 c23_26 from rfl)
noncomputable def r23_6 : Array Oper := rg1 c23_25
theorem wc23_25 : W tab ro F c23_25 K s = D1 tab ro F K (evDr tab (evw tab) r23_6 s) := Wc_draw (show c23_25 = .region 6 r23_6 true from rfl)
def ms23_6 : Tr Nat := (.nd 0 (.nd 0 (.nd 7 (.nd 112 .lf .lf) .lf) (.nd 0 (.nd 511 .lf .lf) .lf)) (.nd 3 (.nd 0 (.nd 255 .lf .lf) .lf) (.nd 48 .lf .lf)))
def wt23_6 : Tr Nat := (.nd 0 (.nd 0 (.nd 0 (.nd 0 .lf (.nd 7 .lf .lf)) (.nd 0 (.nd 3 .lf .lf) .lf)) (.nd 0 (.nd 0 (.nd 1 .lf .lf) (.nd 9 .lf .lf)) (.nd 0 (.nd 5 .lf .lf) .lf))) (.nd 0 (.nd 0 (.nd 0 .lf (.nd 8 .lf .lf)) (.nd 0 (.nd 4 .lf .lf) .lf)) (.nd 0 (.nd 0 (.nd 2 .lf .lf) (.nd 10 .lf .lf)) (.nd 0 (.nd 6 .lf .lf) .lf))))
theorem xm23_6 : masks r23_6.toList 0 .lf = some ms23_6 := by kernel_rfl
theorem xw23_6 : writers r23_6.toList 0 .lf = some wt23_6 := by kernel_rfl
theorem xe23_6 : effIdx r23_6.toList 0 = [8] := by kernel_rfl
theorem xc23_6 : (useJ true r23_6.toList && chain ms23_6 [8] && dstsOk 27 r23_6.toList) = true := by kernel_rfl
noncomputable def D23_6 (t : Tr AV) (H0 : Tr AO) (hs0 : Nat) (ds : List Nat) : DI := ⟨r23_6, ms23_6, wt23_6, [8], ⟨t, 27, H0, hs0, ds, true⟩⟩
theorem e23_6 {t : Tr AV} {H : Tr AO} {hs : Nat} {ds : List Nat} : evDr tab (evw tab) r23_6 ⟨t, 27, H, hs, ds, true⟩ = JE tab (D23_6 t H hs ds) t 27 ds (JR tab (evw tab) (D23_6 t H hs ds) 0 ⟨.lf, H, hs, [(H, hs)], []⟩) := evDr_J xm23_6 xw23_6 xe23_6 xc23_6
theorem y23_6 {t : Tr AV} {H0 : Tr AO} {hs0 : Nat} {ds : List Nat} : (D23_6 t H0 hs0 ds).es = [8] := rfl
theorem z23_6 {t : Tr AV} {H0 : Tr AO} {hs0 : Nat} {ds : List Nat} {V : Tr AV} {t' : Tr AV} : putsD V (D23_6 t H0 hs0 ds).ops.toList 0 t' = (Tr.put .any (Tr.put .any (Tr.put .any (Tr.put .any (Tr.put .any (Tr.put .any (Tr.put .any (Tr.put .any (Tr.put .any (Tr.put .any t' 17 (V.get .any 0)) 18 (V.get .any 1)) 19 (V.get .any 2)) 20 (V.get .any 3)) 21 (V.get .any 4)) 22 (V.get .any 5)) 23 (V.get .any 6)) 24 (V.get .any 7)) 25 (V.get .any 8)) 26 (V.get .any 9)) := rfl
theorem j23_6_0 {t : Tr AV} {H0 H : Tr AO} {hs0 hs : Nat} {ds : List Nat} {V : Tr AV} {hps : List (Tr AO × Nat)} {fs : List EffR} : JR tab (evw tab) (D23_6 t H0 hs0 ds) 0 ⟨V, H, hs, hps, fs⟩ = J1 tab (evw tab) (D23_6 t H0 hs0 ds) 1 (jput ⟨V, H, hs, hps, fs⟩ 0 ((some (t.get .any 0)))) := jr_plain (q := ⟨V, H, hs, hps, fs⟩) (rv := [(0, (t.get .any 0))]) (e := (some (t.get .any 0))) rfl rfl rfl (by kernel_rfl) ((ne_pure rfl).trans ((rfl).trans rfl))
theorem q23_6_0 : hbB ms23_6 [8] 0 = true := by kernel_rfl
theorem a23_6_0 {t : Tr AV} {H0 : Tr AO} {hs0 : Nat} {ds : List Nat} {V : Tr AV} {hps : List (Tr AO × Nat)} : CA tab (D23_6 t H0 hs0 ds) hps V 0 = (vchk (V.get .any 0) ((some (t.get .any 0))) && CA tab (D23_6 t H0 hs0 ds) hps V 1) := ca_p (rv := [(0, (t.get .any 0))]) (e := (some (t.get .any 0))) rfl rfl rfl (by kernel_rfl) q23_6_0 ((rfl).trans rfl)
theorem j23_6_1 {t : Tr AV} {H0 H : Tr AO} {hs0 hs : Nat} {ds : List Nat} {V : Tr AV} {hps : List (Tr AO × Nat)} {fs : List EffR} : JR tab (evw tab) (D23_6 t H0 hs0 ds) 1 ⟨V, H, hs, hps, fs⟩ = J1 tab (evw tab) (D23_6 t H0 hs0 ds) 2 (jput ⟨V, H, hs, hps, fs⟩ 1 ((some (t.get .any 5)))) := jr_plain (q := ⟨V, H, hs, hps, fs⟩) (rv := [(5, (t.get .any 5))]) (e := (some (t.get .any 5))) rfl rfl rfl (by kernel_rfl) ((ne_pure rfl).trans ((rfl).trans rfl))
theorem q23_6_1 : hbB ms23_6 [8] 1 = true := by kernel_rfl
theorem a23_6_1 {t : Tr AV} {H0 : Tr AO} {hs0 : Nat} {ds : List Nat} {V : Tr AV} {hps : List (Tr AO × Nat)} : CA tab (D23_6 t H0 hs0 ds) hps V 1 = (vchk (V.get .any 1) ((some (t.get .any 5))) && CA tab (D23_6 t H0 hs0 ds) hps V 2) := ca_p (rv := [(5, (t.get .any 5))]) (e := (some (t.get .any 5))) rfl rfl rfl (by kernel_rfl) q23_6_1 ((rfl).trans rfl)
theorem j23_6_2 {t : Tr AV} {H0 H : Tr AO} {hs0 hs : Nat} {ds : List Nat} {V : Tr AV} {hps : List (Tr AO × Nat)} {fs : List EffR} : JR tab (evw tab) (D23_6 t H0 hs0 ds) 2 ⟨V, H, hs, hps, fs⟩ = J1 tab (evw tab) (D23_6 t H0 hs0 ds) 3 (jput ⟨V, H, hs, hps, fs⟩ 2 (indexAddrO 11 (some (V.get .any 0)) (some (V.get .any 1)))) := jr_plain (q := ⟨V, H, hs, hps, fs⟩) (rv := [(17, (V.get .any 0)), (18, (V.get .any 1))]) (e := indexAddrO 11 (some (V.get .any 0)) (some (V.get .any 1))) rfl rfl rfl (by kernel_rfl) ((ne_pure rfl).trans ((u_indexAddr (n := 11) rfl rfl rfl rfl).trans rfl))
theorem q23_6_2 : hbB ms23_6 [8] 2 = true := by kernel_rfl
theorem a23_6_2 {t : Tr AV} {H0 : Tr AO} {hs0 : Nat} {ds : List Nat} {V : Tr AV} {hps : List (Tr AO × Nat)} : CA tab (D23_6 t H0 hs0 ds) hps V 2 = (vchk (V.get .any 2) (indexAddrO 11 (some (V.get .any 0)) (some (V.get .any 1))) && CA tab (D23_6 t H0 hs0 ds) hps V 3) := ca_p (rv := [(17, (V.get .any 0)), (18, (V.get .any 1))]) (e := indexAddrO 11 (some (V.get .any 0)) (some (V.get .any 1))) rfl rfl rfl (by kernel_rfl) q23_6_2 ((u_indexAddr (n := 11) rfl rfl rfl rfl).trans rfl)
theorem j23_6_3 {t : Tr AV} {H0 H : Tr AO} {hs0 hs : Nat} {ds : List Nat} {V : Tr AV} {hps : List (Tr AO × Nat)} {fs : List EffR} : JR tab (evw tab) (D23_6 t H0 hs0 ds) 3 ⟨V, H, hs, hps, fs⟩ = J1 tab (evw tab) (D23_6 t H0 hs0 ds) 4 (jput ⟨V, H, hs, hps, fs⟩ 3 (loadO H true 11 (some (V.get .any 2)))) := jr_plain (q := ⟨V, H, hs, hps, fs⟩) (rv := [(19, (V.get .any 2))]) (e := loadO H true 11 (some (V.get .any 2))) rfl rfl rfl (by kernel_rfl) ((ne_read rfl).trans ((u_load (agg := true) (n := 11) rfl rfl rfl).trans rfl))
theorem q23_6_3 : hbB ms23_6 [8] 3 = true := by kernel_rfl
theorem a23_6_3 {t : Tr AV} {H0 : Tr AO} {hs0 : Nat} {ds : List Nat} {V : Tr AV} {hps : List (Tr AO × Nat)} : CA tab (D23_6 t H0 hs0 ds) hps V 3 = (hchk 0 0 (fun H => loadO H true 11 (some (V.get .any 2))) (V.get .any 3) hps 0 && CA tab (D23_6 t H0 hs0 ds) hps V 4) := ca_h (rv := [(19, (V.get .any 2))]) (n := 1) (lo := 0) (hi := 0) (f := fun H => loadO H true 11 (some (V.get .any 2))) rfl rfl rfl rfl (by kernel_rfl) q23_6_3 (by kernel_rfl) (by kernel_rfl) (fun H => (ne_read rfl).trans ((u_load (agg := true) (n := 11) rfl rfl rfl).trans rfl))
theorem j23_6_4 {t : Tr AV} {H0 H : Tr AO} {hs0 hs : Nat} {ds : List Nat} {V : Tr AV} {hps : List (Tr AO × Nat)} {fs : List EffR} : JR tab (evw tab) (D23_6 t H0 hs0 ds) 4 ⟨V, H, hs, hps, fs⟩ = J1 tab (evw tab) (D23_6 t H0 hs0 ds) 5 (jput ⟨V, H, hs, hps, fs⟩ 4 ((some (t.get .any 1)))) := jr_plain (q := ⟨V, H, hs, hps, fs⟩) (rv := [(1, (t.get .any 1))]) (e := (some (t.get .any 1))) rfl rfl rfl (by kernel_rfl) ((ne_pure rfl).trans ((rfl).trans rfl))
theorem q23_6_4 : hbB ms23_6 [8] 4 = true := by kernel_rfl
theorem a23_6_4 {t : Tr AV} {H0 : Tr AO} {hs0 : Nat} {ds : List Nat} {V : Tr AV} {hps : List (Tr AO × Nat)} : CA tab (D23_6 t H0 hs0 ds) hps V 4 = (vchk (V.get .any 4) ((some (t.get .any 1))) && CA tab (D23_6 t H0 hs0 ds) hps V 5) := ca_p (rv := [(1, (t.get .any 1))]) (e := (some (t.get .any 1))) rfl rfl rfl (by kernel_rfl) q23_6_4 ((rfl).trans rfl)
theorem j23_6_5 {t : Tr AV} {H0 H : Tr AO} {hs0 hs : Nat} {ds : List Nat} {V : Tr AV} {hps : List (Tr AO × Nat)} {fs : List EffR} : JR tab (evw tab) (D23_6 t H0 hs0 ds) 5 ⟨V, H, hs, hps, fs⟩ = J1 tab (evw tab) (D23_6 t H0 hs0 ds) 6 (jput ⟨V, H, hs, hps, fs⟩ 5 ((some (t.get .any 5)))) := jr_plain (q := ⟨V, H, hs, hps, fs⟩) (rv := [(5, (t.get .any 5))]) (e := (some (t.get .any 5))) rfl rfl rfl (by kernel_rfl) ((ne_pure rfl).trans ((rfl).trans rfl))
theorem q23_6_5 : hbB ms23_6 [8] 5 = true := by kernel_rfl
theorem a23_6_5 {t : Tr AV} {H0 : Tr AO} {hs0 : Nat} {ds : List Nat} {V : Tr AV} {hps : List (Tr AO × Nat)} : CA tab (D23_6 t H0 hs0 ds) hps V 5 = (vchk (V.get .any 5) ((some (t.get .any 5))) && CA tab (D23_6 t H0 hs0 ds) hps V 6) := ca_p (rv := [(5, (t.get .any 5))]) (e := (some (t.get .any 5))) rfl rfl rfl (by kernel_rfl) q23_6_5 ((rfl).trans rfl)
theorem j23_6_6 {t : Tr AV} {H0 H : Tr AO} {hs0 hs : Nat} {ds : List Nat} {V : Tr AV} {hps : List (Tr AO × Nat)} {fs : List EffR} : JR tab (evw tab) (D23_6 t H0 hs0 ds) 6 ⟨V, H, hs, hps, fs⟩ = J1 tab (evw tab) (D23_6 t H0 hs0 ds) 7 (jput ⟨V, H, hs, hps, fs⟩ 6 (indexAddrO 11 (some (V.get .any 4)) (some (V.get .any 5)))) := jr_plain (q := ⟨V, H, hs, hps, fs⟩) (rv := [(21, (V.get .any 4)), (22, (V.get .any 5))]) (e := indexAddrO 11 (some (V.get .any 4)) (some (V.get .any 5))) rfl rfl rfl (by kernel_rfl) ((ne_pure rfl).trans ((u_indexAddr (n := 11) rfl rfl rfl rfl).trans rfl))
theorem q23_6_6 : hbB ms23_6 [8] 6 = true := by kernel_rfl
theorem a23_6_6 {t : Tr AV} {H0 : Tr AO} {hs0 : Nat} {ds : List Nat} {V : Tr AV} {hps : List (Tr AO × Nat)} : CA tab (D23_6 t H0 hs0 ds) hps V 6 = (vchk (V.get .any 6) (indexAddrO 11 (some (V.get .any 4)) (some (V.get .any 5))) && CA tab (D23_6 t H0 hs0 ds) hps V 7) := ca_p (rv := [(21, (V.get .any 4)), (22, (V.get .any 5))]) (e := indexAddrO 11 (some (V.get .any 4)) (some (V.get .any 5))) rfl rfl rfl (by kernel_rfl) q23_6_6 ((u_indexAddr (n := 11) rfl rfl rfl rfl).trans rfl)
theorem j23_6_7 {t : Tr AV} {H0 H : Tr AO} {hs0 hs : Nat} {ds : List Nat} {V : Tr AV} {hps : List (Tr AO × Nat)} {fs : List EffR} : JR tab (evw tab) (D23_6 t H0 hs0 ds) 7 ⟨V, H, hs, hps, fs⟩ = J1 tab (evw tab) (D23_6 t H0 hs0 ds) 8 (jput ⟨V, H, hs, hps, fs⟩ 7 (loadO H true 11 (some (V.get .any 6)))) := jr_plain (q := ⟨V, H, hs, hps, fs⟩) (rv := [(23, (V.get .any 6))]) (e := loadO H true 11 (some (V.get .any 6))) rfl rfl rfl (by kernel_rfl) ((ne_read rfl).trans ((u_load (agg := true) (n := 11) rfl rfl rfl).trans rfl))
theorem q23_6_7 : hbB ms23_6 [8] 7 = true := by kernel_rfl
theorem a23_6_7 {t : Tr AV} {H0 : Tr AO} {hs0 : Nat} {ds : List Nat} {V : Tr AV} {hps : List (Tr AO × Nat)} : CA tab (D23_6 t H0 hs0 ds) hps V 7 = (hchk 0 0 (fun H => loadO H true 11 (some (V.get .any 6))) (V.get .any 7) hps 0 && CA tab (D23_6 t H0 hs0 ds) hps V 8) := ca_h (rv := [(23, (V.get .any 6))]) (n := 1) (lo := 0) (hi := 0) (f := fun H => loadO H true 11 (some (V.get .any 6))) rfl rfl rfl rfl (by kernel_rfl) q23_6_7 (by kernel_rfl) (by kernel_rfl) (fun H => (ne_read rfl).trans ((u_load (agg := true) (n := 11) rfl rfl rfl).trans rfl))
theorem j23_6_8 {t : Tr AV} {H0 H : Tr AO} {hs0 hs : Nat} {ds : List Nat} {V : Tr AV} {hps : List (Tr AO × Nat)} {fs : List EffR} : JR tab (evw tab) (D23_6 t H0 hs0 ds) 8 ⟨V, H, hs, hps, fs⟩ = J1 tab (evw tab) (D23_6 t H0 hs0 ds) 9 (jeff ⟨V, H, hs, hps, fs⟩ 8 [(20, (V.get .any 3)), (24, (V.get .any 7))] (callF tab (evw tab) true 18 [(V.get .any 3), (V.get .any 7)] H hs)) := jr_eff (q := ⟨V, H, hs, hps, fs⟩) (rv := [(20, (V.get .any 3)), (24, (V.get .any 7))]) (e := callF tab (evw tab) true 18 [(V.get .any 3), (V.get .any 7)] H hs) rfl rfl rfl (by kernel_rfl) ((ac_call).trans rfl)
theorem a23_6_8 {t : Tr AV} {H0 : Tr AO} {hs0 : Nat} {ds : List Nat} {V : Tr AV} {hps : List (Tr AO × Nat)} : CA tab (D23_6 t H0 hs0 ds) hps V 8 = CA tab (D23_6 t H0 hs0 ds) hps V 9 := ca_eff rfl rfl (by kernel_rfl)
theorem h23_6_8 {t : Tr AV} {H0 : Tr AO} {hs0 : Nat} {ds : List Nat} {V : Tr AV} {fs : List EffR} {rv : List (Nat × AV)} {v : AV} {es : List Nat} : chkEff (D23_6 t H0 hs0 ds) V .lf (⟨8, rv, v⟩ :: fs) (8 :: es) = (same 20 v (V.get .any 8) && sameRV rv [(20, (V.get .any 3)), (24, (V.get .any 7))] && chkEff (D23_6 t H0 hs0 ds) V .lf fs es) := ce_cons rfl (by kernel_rfl)
theorem j23_6_9 {t : Tr AV} {H0 H : Tr AO} {hs0 hs : Nat} {ds : List Nat} {V : Tr AV} {hps : List (Tr AO × Nat)} {fs : List EffR} : JR tab (evw tab) (D23_6 t H0 hs0 ds) 9 ⟨V, H, hs, hps, fs⟩ = J1 tab (evw tab) (D23_6 t H0 hs0 ds) 10 (jput ⟨V, H, hs, hps, fs⟩ 9 (unO .not (some (V.get .any 8)))) := jr_plain (q := ⟨V, H, hs, hps, fs⟩) (rv := [(25, (V.get .any 8))]) (e := unO .not (some (V.get .any 8))) rfl rfl rfl (by kernel_rfl) ((ne_pure rfl).trans ((u_un).trans rfl))
theorem q23_6_9 : hbB ms23_6 [8] 9 = true := by kernel_rfl
theorem a23_6_9 {t : Tr AV} {H0 : Tr AO} {hs0 : Nat} {ds : List Nat} {V : Tr AV} {hps : List (Tr AO × Nat)} : CA tab (D23_6 t H0 hs0 ds) hps V 9 = (vchk (V.get .any 9) (unO .not (some (V.get .any 8))) && CA tab (D23_6 t H0 hs0 ds) hps V 10) := ca_p (rv := [(25, (V.get .any 8))]) (e := unO .not (some (V.get .any 8))) rfl rfl rfl (by kernel_rfl) q23_6_9 ((u_un).trans rfl)
theorem j23_6_e {t : Tr AV} {H0 H : Tr AO} {hs0 hs : Nat} {ds : List Nat} {V : Tr AV} {hps : List (Tr AO × Nat)} {fs : List EffR} : JR tab (evw tab) (D23_6 t H0 hs0 ds) 10 ⟨V, H, hs, hps, fs⟩ = some ⟨V, H, hs, hps, fs⟩ := jr_end rfl
theorem a23_6_e {t : Tr AV} {H0 : Tr AO} {hs0 : Nat} {ds : List Nat} {V : Tr AV} {hps : List (Tr AO × Nat)} : CA tab (D23_6 t H0 hs0 ds) hps V 10 = true := ca_end rfl
noncomputable def c23_27 : Code := cd1 c23_26
noncomputable def c23_28 : Code := cd2 c23_26
theorem wc23_26 : W tab ro F c23_26 K s = C1 tab ro F c23_27 c23_28 K s (opd s (.tmp 26)) := Wc_cond (show c23_26 = .cond (.tmp 26) c23_27 c23_28 from rfl)
noncomputable def c23_29 : Code := sq1 c23_27
noncomputable def c23_30 : Code := sq2 c23_27
theorem wc23_27 : W tab ro F c23_27 K s = W tab ro F c23_29 (.sq c23_30 :: K) s := Wc_seq (show c23_27 = .seq c23_29 c23_30 from rfl)
noncomputable def r23_7 : Array Oper := rg1 c23_29
theorem wc23_29 : W tab ro F c23_29 K s = I tab ro F r23_7 0 K s := Wc_region (show c23_29 = .region 7 r23_7 false from rfl)
theorem i23_7_0 : I tab ro F r23_7 0 K s = I1 tab ro F r23_7 1 K (setO s (some 4) (opd s (.const (.bool false)))) := I_plain rfl rfl (ev_assign)
theorem i23_7_e : I tab ro F r23_7 1 K s = kont tab ro F K .normal s := I_end rfl
theorem wc23_30 : W tab ro F c23_30 K s = kont tab ro F K .ret s := Wc_ret (show c23_30 = .ret from rfl)
theorem wc23_28 : W tab ro F c23_28 K s = kont tab ro F K .normal s := Wc_skip (show c23_28 = .skip from rfl)
noncomputable def r23_5 : Array Oper := rg1 c23_23
theorem wc23_23 : W tab ro F c23_23 K s = I tab ro F r23_5 0 K s := Wc_region (show c23_23 = .region 5 r23_5 false from rfl)
theorem i23_5_0 : I tab ro F r23_5 0 K s = I1 tab ro F r23_5 1 K (setO s (some 15) (opd s (.tmp 5))) := I_plain rfl rfl (ev_move)
theorem i23_5_1 : I tab ro F r23_5 1 K s = I1 tab ro F r23_5 2 K (setO s (some 16) (binO tab .add 3 (.tmp 15) (.const (.int .i64 (1))) (opd s (.tmp 15)) (opd s (.const (.int .i64 (1)))))) := I_plain rfl rfl (ev_binOp.trans (congrArg (setO s _) u_bin))
theorem i23_5_2 : I tab ro F r23_5 2 K s = I1 tab ro F r23_5 3 K (setO s (some 5) (opd s (.tmp 16))) := I_plain rfl rfl (ev_assign)
theorem i23_5_e : I tab ro F r23_5 3 K s = kont tab ro F K .normal s := I_end rfl
noncomputable def c23_31 : Code := sq1 c23_11
noncomputable def c23_32 : Code := sq2 c23_11
theorem wc23_11 : W tab ro F c23_11 K s = W tab ro F c23_31 (.sq c23_32 :: K) s := Wc_seq (show c23_11 = .seq c23_31 c23_32 from rfl)
noncomputable def r23_8 : Array Oper := rg1 c23_31
theorem wc23_31 : W tab ro F c23_31 K s = I tab ro F r23_8 0 K s := Wc_region (show c23_31 = .region 8 r23_8 false from rfl)
theorem i23_8_0 : I tab ro F r23_8 0 K s = I1 tab ro F r23_8 1 K (setO s (some 4) (opd s (.const (.bool true)))) := I_plain rfl rfl (ev_assign)
theorem i23_8_e : I tab ro F r23_8 1 K s = kont tab ro F K .normal s := I_end rfl
theorem wc23_32 : W tab ro F c23_32 K s = kont tab ro F K .ret s := Wc_ret (show c23_32 = .ret from rfl)
theorem n23 : fi23.ntmps = 27 := rfl
theorem q23 : fi23.results = [.tmp 4] := rfl
theorem f23 : tab.f 23 = some fi23 := rfl
theorem b23 : fi23.body = c23 := rfl
theorem m23 : fi23.lm = 1 := rfl
-- NAMES 23 n23 q23 b23 m23  wc23 wc23_0 i23_0_0 i23_0_e wc23_1 wc23_2 wc23_4 i23_1_0 i23_1_1 i23_1_2 i23_1_3 i23_1_4 i23_1_e wc23_5 wc23_6 wc23_8 i23_2_0 i23_2_e wc23_9 wc23_7 wc23_3 wc23_10 wc23_12 i23_3_0 i23_3_e wc23_13 kc23_14 wc23_15 wc23_16 wc23_18 i23_4_0 i23_4_1 i23_4_2 i23_4_3 i23_4_e wc23_19 wc23_20 wc23_21 wc23_17 wc23_22 wc23_24 wc23_25 e23_6 y23_6 z23_6 j23_6_0 a23_6_0 j23_6_1 a23_6_1 j23_6_2 a23_6_2 j23_6_3 a23_6_3 j23_6_4 a23_6_4 j23_6_5 a23_6_5 j23_6_6 a23_6_6 j23_6_7 a23_6_7 j23_6_8 h23_6_8 a23_6_8 j23_6_9 a23_6_9 j23_6_e a23_6_e wc23_26 wc23_27 wc23_29 i23_7_0 i23_7_e wc23_30 wc23_28 wc23_23 i23_5_0 i23_5_1 i23_5_2 i23_5_e wc23_11 wc23_31 i23_8_0 i23_8_e wc23_32
/-! 18: verderer/verdererref31.Same -/
noncomputable def c18 : Code := fi18.body
noncomputable def c18_0 : Code := sq1 c18
noncomputable def c18_1 : Code := sq2 c18
theorem wc18 : W tab ro F c18 K s = W tab ro F c18_0 (.sq c18_1 :: K) s := Wc_seq (show c18 = .seq c18_0 c18_1 from rfl)
noncomputable def r18_0 : Array Oper := rg1 c18_0
theorem wc18_0 : W tab ro F c18_0 K s = I tab ro F r18_0 0 K s := Wc_region (show c18_0 = .region 0 r18_0 false from rfl)
theorem i18_0_0 : I tab ro F r18_0 0 K s = I1 tab ro F r18_0 1 K (setN s (some 2) (boxO (opd s (.tmp 0)) s.hs)) := I_plain rfl rfl (ev_box.trans (congrArg (setN s _) u_box))
theorem i18_0_1 : I tab ro F r18_0 1 K s = I1 tab ro F r18_0 2 K (setN s (some 3) (boxO (opd s (.tmp 1)) s.hs)) := I_plain rfl rfl (ev_box.trans (congrArg (setN s _) u_box))
theorem i18_0_2 : I tab ro F r18_0 2 K s = I1 tab ro F r18_0 3 K (setO s (some 4) (opd s (.const (.bool false)))) := I_plain rfl rfl (ev_assign)
theorem i18_0_e : I tab ro F r18_0 3 K s = kont tab ro F K .normal s := I_end rfl
noncomputable def c18_2 : Code := sq1 c18_1
noncomputable def c18_3 : Code := sq2 c18_1
theorem wc18_1 : W tab ro F c18_1 K s = W tab ro F c18_2 (.sq c18_3 :: K) s := Wc_seq (show c18_1 = .seq c18_2 c18_3 from rfl)
noncomputable def r18_1 : Array Oper := rg1 c18_2
theorem wc18_2 : W tab ro F c18_2 K s = I tab ro F r18_1 0 K s := Wc_region (show c18_2 = .region 1 r18_1 false from rfl)
theorem i18_1_0 : I tab ro F r18_1 0 K s = I1 tab ro F r18_1 1 K (setO s (some 7) (fieldAddrO 2 (opd s (.tmp 2)))) := I_plain rfl rfl (ev_fieldAddr.trans (congrArg (setO s _) (u_fieldAddr (off := 2) rfl rfl rfl rfl rfl rfl)))
theorem i18_1_1 : I tab ro F r18_1 1 K s = I1 tab ro F r18_1 2 K (setO s (some 8) (loadO s.heap true 5 (opd s (.tmp 7)))) := I_plain rfl rfl (ev_load.trans (congrArg (setO s _) (u_load (agg := true) (n := 5) rfl rfl rfl)))
theorem i18_1_2 : I tab ro F r18_1 2 K s = I1 tab ro F r18_1 3 K (setN s (some 5) (some (.cells [(.str []), (.str []), (.str []), (.lit (.int .i64 (0))), (.lit (.slice none 0 0))] false, .ptr s.hs 0))) := I_plain rfl rfl (ev_alloc.trans (congrArg (setN s _) (u_alloc (cs := [(.str []), (.str []), (.str []), (.lit (.int .i64 (0))), (.lit (.slice none 0 0))]) rfl rfl rfl)))
theorem i18_1_3 : I tab ro F r18_1 3 K s = I1 tab ro F r18_1 4 K (setE s none (storeO s.heap s.hs 5 (opd s (.tmp 5)) (opd s (.tmp 8)))) := I_plain rfl rfl (ev_store.trans (congrArg (setE s _) (u_store rfl rfl)))
theorem i18_1_e : I tab ro F r18_1 4 K s = kont tab ro F K .normal s := I_end rfl
noncomputable def c18_4 : Code := sq1 c18_3
noncomputable def c18_5 : Code := sq2 c18_3
theorem wc18_3 : W tab ro F c18_3 K s = W tab ro F c18_4 (.sq c18_5 :: K) s := Wc_seq (show c18_3 = .seq c18_4 c18_5 from rfl)
noncomputable def r18_2 : Array Oper := rg1 c18_4
theorem wc18_4 : W tab ro F c18_4 K s = I tab ro F r18_2 0 K s := Wc_region (show c18_4 = .region 2 r18_2 false from rfl)
theorem i18_2_0 : I tab ro F r18_2 0 K s = I1 tab ro F r18_2 1 K (setO s (some 9) (fieldAddrO 2 (opd s (.tmp 3)))) := I_plain rfl rfl (ev_fieldAddr.trans (congrArg (setO s _) (u_fieldAddr (off := 2) rfl rfl rfl rfl rfl rfl)))
theorem i18_2_1 : I tab ro F r18_2 1 K s = I1 tab ro F r18_2 2 K (setO s (some 10) (loadO s.heap true 5 (opd s (.tmp 9)))) := I_plain rfl rfl (ev_load.trans (congrArg (setO s _) (u_load (agg := true) (n := 5) rfl rfl rfl)))
theorem i18_2_2 : I tab ro F r18_2 2 K s = I1 tab ro F r18_2 3 K (setN s (some 6) (some (.cells [(.str []), (.str []), (.str []), (.lit (.int .i64 (0))), (.lit (.slice none 0 0))] false, .ptr s.hs 0))) := I_plain rfl rfl (ev_alloc.trans (congrArg (setN s _) (u_alloc (cs := [(.str []), (.str []), (.str []), (.lit (.int .i64 (0))), (.lit (.slice none 0 0))]) rfl rfl rfl)))
theorem i18_2_3 : I tab ro F r18_2 3 K s = I1 tab ro F r18_2 4 K (setE s none (storeO s.heap s.hs 5 (opd s (.tmp 6)) (opd s (.tmp 10)))) := I_plain rfl rfl (ev_store.trans (congrArg (setE s _) (u_store rfl rfl)))
theorem i18_2_e : I tab ro F r18_2 4 K s = kont tab ro F K .normal s := I_end rfl
noncomputable def c18_6 : Code := sq1 c18_5
noncomputable def c18_7 : Code := sq2 c18_5
theorem wc18_5 : W tab ro F c18_5 K s = W tab ro F c18_6 (.sq c18_7 :: K) s := Wc_seq (show c18_5 = .seq c18_6 c18_7 from rfl)
noncomputable def r18_3 : Array Oper := rg1 c18_6
theorem wc18_6 : W tab ro F c18_6 K s = I tab ro F r18_3 0 K s := Wc_region (show c18_6 = .region 3 r18_3 false from rfl)
theorem i18_3_0 : I tab ro F r18_3 0 K s = I1 tab ro F r18_3 1 K (setO s (some 11) (fieldAddrO 0 (opd s (.tmp 2)))) := I_plain rfl rfl (ev_fieldAddr.trans (congrArg (setO s _) (u_fieldAddr (off := 0) rfl rfl rfl rfl rfl rfl)))
theorem i18_3_1 : I tab ro F r18_3 1 K s = I1 tab ro F r18_3 2 K (setO s (some 12) (loadO s.heap false 1 (opd s (.tmp 11)))) := I_plain rfl rfl (ev_load.trans (congrArg (setO s _) (u_load (agg := false) (n := 1) rfl rfl rfl)))
theorem i18_3_2 : I tab ro F r18_3 2 K s = I1 tab ro F r18_3 3 K (setO s (some 13) (fieldAddrO 0 (opd s (.tmp 3)))) := I_plain rfl rfl (ev_fieldAddr.trans (congrArg (setO s _) (u_fieldAddr (off := 0) rfl rfl rfl rfl rfl rfl)))
theorem i18_3_3 : I tab ro F r18_3 3 K s = I1 tab ro F r18_3 4 K (setO s (some 14) (loadO s.heap false 1 (opd s (.tmp 13)))) := I_plain rfl rfl (ev_load.trans (congrArg (setO s _) (u_load (agg := false) (n := 1) rfl rfl rfl)))
theorem i18_3_4 : I tab ro F r18_3 4 K s = I1 tab ro F r18_3 5 K (setO s (some 15) (binO tab .eql 3 (.tmp 12) (.tmp 14) (opd s (.tmp 12)) (opd s (.tmp 14)))) := I_plain rfl rfl (ev_binOp.trans (congrArg (setO s _) u_bin))
theorem i18_3_5 : I tab ro F r18_3 5 K s = I1 tab ro F r18_3 6 K (setO s (some 16) (opd s (.tmp 15))) := I_plain rfl rfl (ev_move)
theorem i18_3_6 : I tab ro F r18_3 6 K s = IG tab ro F r18_3 7 K true (setO s (some 17) (fieldAddrO 1 (opd s (.tmp 2)))) (setT s (some 17) udef) (opd s (.tmp 16)) := I_guard (d := (some 17)) rfl rfl rfl rfl rfl (ev_fieldAddr.trans (congrArg (setO s _) (u_fieldAddr (off := 1) rfl rfl rfl rfl rfl rfl)))
theorem i18_3_7 : I tab ro F r18_3 7 K s = IG tab ro F r18_3 8 K true (setO s (some 18) (loadO s.heap false 1 (opd s (.tmp 17)))) (setT s (some 18) udef) (opd s (.tmp 16)) := I_guard (d := (some 18)) rfl rfl rfl rfl rfl (ev_load.trans (congrArg (setO s _) (u_load (agg := false) (n := 1) rfl rfl rfl)))
theorem i18_3_8 : I tab ro F r18_3 8 K s = IG tab ro F r18_3 9 K true (setO s (some 19) (fieldAddrO 1 (opd s (.tmp 3)))) (setT s (some 19) udef) (opd s (.tmp 16)) := I_guard (d := (some 19)) rfl rfl rfl rfl rfl (ev_fieldAddr.trans (congrArg (setO s _) (u_fieldAddr (off := 1) rfl rfl rfl rfl rfl rfl)))
theorem i18_3_9 : I tab ro F r18_3 9 K s = IG tab ro F r18_3 10 K true (setO s (some 20) (loadO s.heap false 1 (opd s (.tmp 19)))) (setT s (some 20) udef) (opd s (.tmp 16)) := I_guard (d := (some 20)) rfl rfl rfl rfl rfl (ev_load.trans (congrArg (setO s _) (u_load (agg := false) (n := 1) rfl rfl rfl)))
theorem i18_3_10 : I tab ro F r18_3 10 K s = IG tab ro F r18_3 11 K true (setO s (some 21) (binO tab .eql 3 (.tmp 18) (.tmp 20) (opd s (.tmp 18)) (opd s (.tmp 20)))) (setT s (some 21) udef) (opd s (.tmp 16)) := I_guard (d := (some 21)) rfl rfl rfl rfl rfl (ev_binOp.trans (congrArg (setO s _) u_bin))
theorem i18_3_11 : I tab ro F r18_3 11 K s = I1 tab ro F r18_3 12 K (setO s (some 22) (pickO (opd s (.tmp 16)) (opd s (.tmp 21)) (opd s (.const (.bool false))))) := I_plain rfl rfl (ev_pick.trans (congrArg (setO s _) u_pick))
theorem i18_3_12 : I tab ro F r18_3 12 K s = I1 tab ro F r18_3 13 K (setO s (some 23) (opd s (.tmp 22))) := I_plain rfl rfl (ev_move)
theorem i18_3_13 : I tab ro F r18_3 13 K s = IG tab ro F r18_3 14 K true (setO s (some 24) (fieldAddrO 7 (opd s (.tmp 2)))) (setT s (some 24) udef) (opd s (.tmp 23)) := I_guard (d := (some 24)) rfl rfl rfl rfl rfl (ev_fieldAddr.trans (congrArg (setO s _) (u_fieldAddr (off := 7) rfl rfl rfl rfl rfl rfl)))
theorem i18_3_14 : I tab ro F r18_3 14 K s = IG tab ro F r18_3 15 K true (setO s (some 25) (loadO s.heap true 2 (opd s (.tmp 24)))) (setT s (some 25) udef) (opd s (.tmp 23)) := I_guard (d := (some 25)) rfl rfl rfl rfl rfl (ev_load.trans (congrArg (setO s _) (u_load (agg := true) (n := 2) rfl rfl rfl)))
theorem i18_3_15 : I tab ro F r18_3 15 K s = IG tab ro F r18_3 16 K true (setO s (some 26) (fieldAddrO 7 (opd s (.tmp 3)))) (setT s (some 26) udef) (opd s (.tmp 23)) := I_guard (d := (some 26)) rfl rfl rfl rfl rfl (ev_fieldAddr.trans (congrArg (setO s _) (u_fieldAddr (off := 7) rfl rfl rfl rfl rfl rfl)))
theorem i18_3_16 : I tab ro F r18_3 16 K s = IG tab ro F r18_3 17 K true (setO s (some 27) (loadO s.heap true 2 (opd s (.tmp 26)))) (setT s (some 27) udef) (opd s (.tmp 23)) := I_guard (d := (some 27)) rfl rfl rfl rfl rfl (ev_load.trans (congrArg (setO s _) (u_load (agg := true) (n := 2) rfl rfl rfl)))
theorem i18_3_17 : I tab ro F r18_3 17 K s = IG tab ro F r18_3 18 K true (setO s (some 28) (binO tab .eql 40 (.tmp 25) (.tmp 27) (opd s (.tmp 25)) (opd s (.tmp 27)))) (setT s (some 28) udef) (opd s (.tmp 23)) := I_guard (d := (some 28)) rfl rfl rfl rfl rfl (ev_binOp.trans (congrArg (setO s _) u_bin))
theorem i18_3_18 : I tab ro F r18_3 18 K s = I1 tab ro F r18_3 19 K (setO s (some 29) (pickO (opd s (.tmp 23)) (opd s (.tmp 28)) (opd s (.const (.bool false))))) := I_plain rfl rfl (ev_pick.trans (congrArg (setO s _) u_pick))
theorem i18_3_19 : I tab ro F r18_3 19 K s = I1 tab ro F r18_3 20 K (setO s (some 30) (opd s (.tmp 29))) := I_plain rfl rfl (ev_move)
theorem i18_3_20 : I tab ro F r18_3 20 K s = IG tab ro F r18_3 21 K true (setO s (some 31) (fieldAddrO 9 (opd s (.tmp 2)))) (setT s (some 31) udef) (opd s (.tmp 30)) := I_guard (d := (some 31)) rfl rfl rfl rfl rfl (ev_fieldAddr.trans (congrArg (setO s _) (u_fieldAddr (off := 9) rfl rfl rfl rfl rfl rfl)))
theorem i18_3_21 : I tab ro F r18_3 21 K s = IG tab ro F r18_3 22 K true (setO s (some 32) (loadO s.heap false 1 (opd s (.tmp 31)))) (setT s (some 32) udef) (opd s (.tmp 30)) := I_guard (d := (some 32)) rfl rfl rfl rfl rfl (ev_load.trans (congrArg (setO s _) (u_load (agg := false) (n := 1) rfl rfl rfl)))
theorem i18_3_22 : I tab ro F r18_3 22 K s = IG tab ro F r18_3 23 K true (setO s (some 33) (fieldAddrO 9 (opd s (.tmp 3)))) (setT s (some 33) udef) (opd s (.tmp 30)) := I_guard (d := (some 33)) rfl rfl rfl rfl rfl (ev_fieldAddr.trans (congrArg (setO s _) (u_fieldAddr (off := 9) rfl rfl rfl rfl rfl rfl)))
theorem i18_3_23 : I tab ro F r18_3 23 K s = IG tab ro F r18_3 24 K true (setO s (some 34) (loadO s.heap false 1 (opd s (.tmp 33)))) (setT s (some 34) udef) (opd s (.tmp 30)) := I_guard (d := (some 34)) rfl rfl rfl rfl rfl (ev_load.trans (congrArg (setO s _) (u_load (agg := false) (n := 1) rfl rfl rfl)))
theorem i18_3_24 : I tab ro F r18_3 24 K s = IG tab ro F r18_3 25 K true (setO s (some 35) (binO tab .eql 9 (.tmp 32) (.tmp 34) (opd s (.tmp 32)) (opd s (.tmp 34)))) (setT s (some 35) udef) (opd s (.tmp 30)) := I_guard (d := (some 35)) rfl rfl rfl rfl rfl (ev_binOp.trans (congrArg (setO s _) u_bin))
theorem i18_3_25 : I tab ro F r18_3 25 K s = I1 tab ro F r18_3 26 K (setO s (some 36) (pickO (opd s (.tmp 30)) (opd s (.tmp 35)) (opd s (.const (.bool false))))) := I_plain rfl rfl (ev_pick.trans (congrArg (setO s _) u_pick))
theorem i18_3_26 : I tab ro F r18_3 26 K s = I1 tab ro F r18_3 27 K (setO s (some 37) (opd s (.tmp 36))) := I_plain rfl rfl (ev_move)
theorem i18_3_27 : I tab ro F r18_3 27 K s = IG tab ro F r18_3 28 K true (setO s (some 38) (fieldAddrO 10 (opd s (.tmp 2)))) (setT s (some 38) udef) (opd s (.tmp 37)) := I_guard (d := (some 38)) rfl rfl rfl rfl rfl (ev_fieldAddr.trans (congrArg (setO s _) (u_fieldAddr (off := 10) rfl rfl rfl rfl rfl rfl)))
theorem i18_3_28 : I tab ro F r18_3 28 K s = IG tab ro F r18_3 29 K true (setO s (some 39) (loadO s.heap false 1 (opd s (.tmp 38)))) (setT s (some 39) udef) (opd s (.tmp 37)) := I_guard (d := (some 39)) rfl rfl rfl rfl rfl (ev_load.trans (congrArg (setO s _) (u_load (agg := false) (n := 1) rfl rfl rfl)))
theorem i18_3_29 : I tab ro F r18_3 29 K s = IG tab ro F r18_3 30 K true (setO s (some 40) (fieldAddrO 10 (opd s (.tmp 3)))) (setT s (some 40) udef) (opd s (.tmp 37)) := I_guard (d := (some 40)) rfl rfl rfl rfl rfl (ev_fieldAddr.trans (congrArg (setO s _) (u_fieldAddr (off := 10) rfl rfl rfl rfl rfl rfl)))
theorem i18_3_30 : I tab ro F r18_3 30 K s = IG tab ro F r18_3 31 K true (setO s (some 41) (loadO s.heap false 1 (opd s (.tmp 40)))) (setT s (some 41) udef) (opd s (.tmp 37)) := I_guard (d := (some 41)) rfl rfl rfl rfl rfl (ev_load.trans (congrArg (setO s _) (u_load (agg := false) (n := 1) rfl rfl rfl)))
theorem i18_3_31 : I tab ro F r18_3 31 K s = IG tab ro F r18_3 32 K true (setO s (some 42) (binO tab .eql 2 (.tmp 39) (.tmp 41) (opd s (.tmp 39)) (opd s (.tmp 41)))) (setT s (some 42) udef) (opd s (.tmp 37)) := I_guard (d := (some 42)) rfl rfl rfl rfl rfl (ev_binOp.trans (congrArg (setO s _) u_bin))
theorem i18_3_32 : I tab ro F r18_3 32 K s = I1 tab ro F r18_3 33 K (setO s (some 43) (pickO (opd s (.tmp 37)) (opd s (.tmp 42)) (opd s (.const (.bool false))))) := I_plain rfl rfl (ev_pick.trans (congrArg (setO s _) u_pick))
theorem i18_3_33 : I tab ro F r18_3 33 K s = I1 tab ro F r18_3 34 K (setO s (some 44) (opd s (.tmp 43))) := I_plain rfl rfl (ev_move)
theorem i18_3_34 : I tab ro F r18_3 34 K s = IG tab ro F r18_3 35 K true (setO s (some 45) (fieldAddrO 0 (opd s (.tmp 5)))) (setT s (some 45) udef) (opd s (.tmp 44)) := I_guard (d := (some 45)) rfl rfl rfl rfl rfl (ev_fieldAddr.trans (congrArg (setO s _) (u_fieldAddr (off := 0) rfl rfl rfl rfl rfl rfl)))
theorem i18_3_35 : I tab ro F r18_3 35 K s = IG tab ro F r18_3 36 K true (setO s (some 46) (loadO s.heap false 1 (opd s (.tmp 45)))) (setT s (some 46) udef) (opd s (.tmp 44)) := I_guard (d := (some 46)) rfl rfl rfl rfl rfl (ev_load.trans (congrArg (setO s _) (u_load (agg := false) (n := 1) rfl rfl rfl)))
theorem i18_3_36 : I tab ro F r18_3 36 K s = IG tab ro F r18_3 37 K true (setO s (some 47) (fieldAddrO 0 (opd s (.tmp 6)))) (setT s (some 47) udef) (opd s (.tmp 44)) := I_guard (d := (some 47)) rfl rfl rfl rfl rfl (ev_fieldAddr.trans (congrArg (setO s _) (u_fieldAddr (off := 0) rfl rfl rfl rfl rfl rfl)))
theorem i18_3_37 : I tab ro F r18_3 37 K s = IG tab ro F r18_3 38 K true (setO s (some 48) (loadO s.heap false 1 (opd s (.tmp 47)))) (setT s (some 48) udef) (opd s (.tmp 44)) := I_guard (d := (some 48)) rfl rfl rfl rfl rfl (ev_load.trans (congrArg (setO s _) (u_load (agg := false) (n := 1) rfl rfl rfl)))
theorem i18_3_38 : I tab ro F r18_3 38 K s = IG tab ro F r18_3 39 K true (setO s (some 49) (binO tab .eql 9 (.tmp 46) (.tmp 48) (opd s (.tmp 46)) (opd s (.tmp 48)))) (setT s (some 49) udef) (opd s (.tmp 44)) := I_guard (d := (some 49)) rfl rfl rfl rfl rfl (ev_binOp.trans (congrArg (setO s _) u_bin))
theorem i18_3_39 : I tab ro F r18_3 39 K s = I1 tab ro F r18_3 40 K (setO s (some 50) (pickO (opd s (.tmp 44)) (opd s (.tmp 49)) (opd s (.const (.bool false))))) := I_plain rfl rfl (ev_pick.trans (congrArg (setO s _) u_pick))
theorem i18_3_40 : I tab ro F r18_3 40 K s = I1 tab ro F r18_3 41 K (setO s (some 51) (opd s (.tmp 50))) := I_plain rfl rfl (ev_move)
theorem i18_3_41 : I tab ro F r18_3 41 K s = IG tab ro F r18_3 42 K true (setO s (some 52) (fieldAddrO 1 (opd s (.tmp 5)))) (setT s (some 52) udef) (opd s (.tmp 51)) := I_guard (d := (some 52)) rfl rfl rfl rfl rfl (ev_fieldAddr.trans (congrArg (setO s _) (u_fieldAddr (off := 1) rfl rfl rfl rfl rfl rfl)))
theorem i18_3_42 : I tab ro F r18_3 42 K s = IG tab ro F r18_3 43 K true (setO s (some 53) (loadO s.heap false 1 (opd s (.tmp 52)))) (setT s (some 53) udef) (opd s (.tmp 51)) := I_guard (d := (some 53)) rfl rfl rfl rfl rfl (ev_load.trans (congrArg (setO s _) (u_load (agg := false) (n := 1) rfl rfl rfl)))
theorem i18_3_43 : I tab ro F r18_3 43 K s = IG tab ro F r18_3 44 K true (setO s (some 54) (fieldAddrO 1 (opd s (.tmp 6)))) (setT s (some 54) udef) (opd s (.tmp 51)) := I_guard (d := (some 54)) rfl rfl rfl rfl rfl (ev_fieldAddr.trans (congrArg (setO s _) (u_fieldAddr (off := 1) rfl rfl rfl rfl rfl rfl)))
theorem i18_3_44 : I tab ro F r18_3 44 K s = IG tab ro F r18_3 45 K true (setO s (some 55) (loadO s.heap false 1 (opd s (.tmp 54)))) (setT s (some 55) udef) (opd s (.tmp 51)) := I_guard (d := (some 55)) rfl rfl rfl rfl rfl (ev_load.trans (congrArg (setO s _) (u_load (agg := false) (n := 1) rfl rfl rfl)))
theorem i18_3_45 : I tab ro F r18_3 45 K s = IG tab ro F r18_3 46 K true (setO s (some 56) (binO tab .eql 9 (.tmp 53) (.tmp 55) (opd s (.tmp 53)) (opd s (.tmp 55)))) (setT s (some 56) udef) (opd s (.tmp 51)) := I_guard (d := (some 56)) rfl rfl rfl rfl rfl (ev_binOp.trans (congrArg (setO s _) u_bin))
theorem i18_3_46 : I tab ro F r18_3 46 K s = I1 tab ro F r18_3 47 K (setO s (some 57) (pickO (opd s (.tmp 51)) (opd s (.tmp 56)) (opd s (.const (.bool false))))) := I_plain rfl rfl (ev_pick.trans (congrArg (setO s _) u_pick))
theorem i18_3_47 : I tab ro F r18_3 47 K s = I1 tab ro F r18_3 48 K (setO s (some 58) (opd s (.tmp 57))) := I_plain rfl rfl (ev_move)
theorem i18_3_48 : I tab ro F r18_3 48 K s = IG tab ro F r18_3 49 K true (setO s (some 59) (fieldAddrO 2 (opd s (.tmp 5)))) (setT s (some 59) udef) (opd s (.tmp 58)) := I_guard (d := (some 59)) rfl rfl rfl rfl rfl (ev_fieldAddr.trans (congrArg (setO s _) (u_fieldAddr (off := 2) rfl rfl rfl rfl rfl rfl)))
theorem i18_3_49 : I tab ro F r18_3 49 K s = IG tab ro F r18_3 50 K true (setO s (some 60) (loadO s.heap false 1 (opd s (.tmp 59)))) (setT s (some 60) udef) (opd s (.tmp 58)) := I_guard (d := (some 60)) rfl rfl rfl rfl rfl (ev_load.trans (congrArg (setO s _) (u_load (agg := false) (n := 1) rfl rfl rfl)))
theorem i18_3_50 : I tab ro F r18_3 50 K s = IG tab ro F r18_3 51 K true (setO s (some 61) (fieldAddrO 2 (opd s (.tmp 6)))) (setT s (some 61) udef) (opd s (.tmp 58)) := I_guard (d := (some 61)) rfl rfl rfl rfl rfl (ev_fieldAddr.trans (congrArg (setO s _) (u_fieldAddr (off := 2) rfl rfl rfl rfl rfl rfl)))
theorem i18_3_51 : I tab ro F r18_3 51 K s = IG tab ro F r18_3 52 K true (setO s (some 62) (loadO s.heap false 1 (opd s (.tmp 61)))) (setT s (some 62) udef) (opd s (.tmp 58)) := I_guard (d := (some 62)) rfl rfl rfl rfl rfl (ev_load.trans (congrArg (setO s _) (u_load (agg := false) (n := 1) rfl rfl rfl)))
theorem i18_3_52 : I tab ro F r18_3 52 K s = IG tab ro F r18_3 53 K true (setO s (some 63) (binO tab .eql 9 (.tmp 60) (.tmp 62) (opd s (.tmp 60)) (opd s (.tmp 62)))) (setT s (some 63) udef) (opd s (.tmp 58)) := I_guard (d := (some 63)) rfl rfl rfl rfl rfl (ev_binOp.trans (congrArg (setO s _) u_bin))
theorem i18_3_53 : I tab ro F r18_3 53 K s = I1 tab ro F r18_3 54 K (setO s (some 64) (pickO (opd s (.tmp 58)) (opd s (.tmp 63)) (opd s (.const (.bool false))))) := I_plain rfl rfl (ev_pick.trans (congrArg (setO s _) u_pick))
theorem i18_3_54 : I tab ro F r18_3 54 K s = I1 tab ro F r18_3 55 K (setO s (some 65) (opd s (.tmp 64))) := I_plain rfl rfl (ev_move)
theorem i18_3_55 : I tab ro F r18_3 55 K s = IG tab ro F r18_3 56 K true (setO s (some 66) (fieldAddrO 3 (opd s (.tmp 5)))) (setT s (some 66) udef) (opd s (.tmp 65)) := I_guard (d := (some 66)) rfl rfl rfl rfl rfl (ev_fieldAddr.trans (congrArg (setO s _) (u_fieldAddr (off := 3) rfl rfl rfl rfl rfl rfl)))
theorem i18_3_56 : I tab ro F r18_3 56 K s = IG tab ro F r18_3 57 K true (setO s (some 67) (loadO s.heap false 1 (opd s (.tmp 66)))) (setT s (some 67) udef) (opd s (.tmp 65)) := I_guard (d := (some 67)) rfl rfl rfl rfl rfl (ev_load.trans (congrArg (setO s _) (u_load (agg := false) (n := 1) rfl rfl rfl)))
theorem i18_3_57 : I tab ro F r18_3 57 K s = IG tab ro F r18_3 58 K true (setO s (some 68) (fieldAddrO 3 (opd s (.tmp 6)))) (setT s (some 68) udef) (opd s (.tmp 65)) := I_guard (d := (some 68)) rfl rfl rfl rfl rfl (ev_fieldAddr.trans (congrArg (setO s _) (u_fieldAddr (off := 3) rfl rfl rfl rfl rfl rfl)))
theorem i18_3_58 : I tab ro F r18_3 58 K s = IG tab ro F r18_3 59 K true (setO s (some 69) (loadO s.heap false 1 (opd s (.tmp 68)))) (setT s (some 69) udef) (opd s (.tmp 65)) := I_guard (d := (some 69)) rfl rfl rfl rfl rfl (ev_load.trans (congrArg (setO s _) (u_load (agg := false) (n := 1) rfl rfl rfl)))
theorem i18_3_59 : I tab ro F r18_3 59 K s = IG tab ro F r18_3 60 K true (setO s (some 70) (binO tab .eql 2 (.tmp 67) (.tmp 69) (opd s (.tmp 67)) (opd s (.tmp 69)))) (setT s (some 70) udef) (opd s (.tmp 65)) := I_guard (d := (some 70)) rfl rfl rfl rfl rfl (ev_binOp.trans (congrArg (setO s _) u_bin))
theorem i18_3_60 : I tab ro F r18_3 60 K s = I1 tab ro F r18_3 61 K (setO s (some 71) (pickO (opd s (.tmp 65)) (opd s (.tmp 70)) (opd s (.const (.bool false))))) := I_plain rfl rfl (ev_pick.trans (congrArg (setO s _) u_pick))
theorem i18_3_61 : I tab ro F r18_3 61 K s = I1 tab ro F r18_3 62 K (setO s (some 72) (opd s (.tmp 71))) := I_plain rfl rfl (ev_move)
theorem i18_3_62 : I tab ro F r18_3 62 K s = IG tab ro F r18_3 63 K true (setO s (some 73) (fieldAddrO 4 (opd s (.tmp 5)))) (setT s (some 73) udef) (opd s (.tmp 72)) := I_guard (d := (some 73)) rfl rfl rfl rfl rfl (ev_fieldAddr.trans (congrArg (setO s _) (u_fieldAddr (off := 4) rfl rfl rfl rfl rfl rfl)))
theorem i18_3_63 : I tab ro F r18_3 63 K s = IG tab ro F r18_3 64 K true (setO s (some 74) (loadO s.heap false 1 (opd s (.tmp 73)))) (setT s (some 74) udef) (opd s (.tmp 72)) := I_guard (d := (some 74)) rfl rfl rfl rfl rfl (ev_load.trans (congrArg (setO s _) (u_load (agg := false) (n := 1) rfl rfl rfl)))
theorem i18_3_64 : I tab ro F r18_3 64 K s = IG tab ro F r18_3 65 K true (setO s (some 75) (fieldAddrO 4 (opd s (.tmp 6)))) (setT s (some 75) udef) (opd s (.tmp 72)) := I_guard (d := (some 75)) rfl rfl rfl rfl rfl (ev_fieldAddr.trans (congrArg (setO s _) (u_fieldAddr (off := 4) rfl rfl rfl rfl rfl rfl)))
theorem i18_3_65 : I tab ro F r18_3 65 K s = IG tab ro F r18_3 66 K true (setO s (some 76) (loadO s.heap false 1 (opd s (.tmp 75)))) (setT s (some 76) udef) (opd s (.tmp 72)) := I_guard (d := (some 76)) rfl rfl rfl rfl rfl (ev_load.trans (congrArg (setO s _) (u_load (agg := false) (n := 1) rfl rfl rfl)))
theorem i18_3_66 : I tab ro F r18_3 66 K s = IG tab ro F r18_3 67 K true (setE s (some 77) (callG tab (evw tab) s 35 (opds s [(.tmp 74), (.tmp 76)]))) (setT s (some 77) udef) (opd s (.tmp 72)) := I_guard (d := (some 77)) rfl rfl rfl rfl rfl (u_call)
theorem i18_3_67 : I tab ro F r18_3 67 K s = I1 tab ro F r18_3 68 K (setO s (some 78) (pickO (opd s (.tmp 72)) (opd s (.tmp 77)) (opd s (.const (.bool false))))) := I_plain rfl rfl (ev_pick.trans (congrArg (setO s _) u_pick))
theorem i18_3_68 : I tab ro F r18_3 68 K s = I1 tab ro F r18_3 69 K (setO s (some 4) (opd s (.tmp 78))) := I_plain rfl rfl (ev_assign)
theorem i18_3_e : I tab ro F r18_3 69 K s = kont tab ro F K .normal s := I_end rfl
theorem wc18_7 : W tab ro F c18_7 K s = kont tab ro F K .ret s := Wc_ret (show c18_7 = .ret from rfl)
theorem n18 : fi18.ntmps = 79 := rfl
theorem q18 : fi18.results = [.tmp 4] := rfl
theorem f18 : tab.f 18 = some fi18 := rfl
theorem b18 : fi18.body = c18 := rfl
theorem m18 : fi18.lm = 1 := rfl
-- NAMES 18 n18 q18 b18 m18  wc18 wc18_0 i18_0_0 i18_0_1 i18_0_2 i18_0_e wc18_1 wc18_2 i18_1_0 i18_1_1 i18_1_2 i18_1_3 i18_1_e wc18_3 wc18_4 i18_2_0 i18_2_1 i18_2_2 i18_2_3 i18_2_e wc18_5 wc18_6 i18_3_0 i18_3_1 i18_3_2 i18_3_3 i18_3_4 i18_3_5 i18_3_6 i18_3_7 i18_3_8 i18_3_9 i18_3_10 i18_3_11 i18_3_12 i18_3_13 i18_3_14 i18_3_15 i18_3_16 i18_3_17 i18_3_18 i18_3_19 i18_3_20 i18_3_21 i18_3_22 i18_3_23 i18_3_24 i18_3_25 i18_3_26 i18_3_27 i18_3_28 i18_3_29 i18_3_30 i18_3_31 i18_3_32 i18_3_33 i18_3_34 i18_3_35 i18_3_36 i18_3_37 i18_3_38 i18_3_39 i18_3_40 i18_3_41 i18_3_42 i18_3_43 i18_3_44 i18_3_45 i18_3_46 i18_3_47 i18_3_48 i18_3_49 i18_3_50 i18_3_51 i18_3_52 i18_3_53 i18_3_54 i18_3_55 i18_3_56 i18_3_57 i18_3_58 i18_3_59 i18_3_60 i18_3_61 i18_3_62 i18_3_63 i18_3_64 i18_3_65 i18_3_66 i18_3_67 i18_3_68 i18_3_e wc18_7
/-! 24: verderer/verdererref07.Same -/
noncomputable def c24 : Code := fi24.body
noncomputable def c24_0 : Code := sq1 c24
noncomputable def c24_1 : Code := sq2 c24
theorem wc24 : W tab ro F c24 K s = W tab ro F c24_0 (.sq c24_1 :: K) s := Wc_seq (show c24 = .seq c24_0 c24_1 from rfl)
noncomputable def r24_0 : Array Oper := rg1 c24_0
theorem wc24_0 : W tab ro F c24_0 K s = I tab ro F r24_0 0 K s := Wc_region (show c24_0 = .region 0 r24_0 false from rfl)
theorem i24_0_0 : I tab ro F r24_0 0 K s = I1 tab ro F r24_0 1 K (setN s (some 2) (boxO (opd s (.tmp 0)) s.hs)) := I_plain rfl rfl (ev_box.trans (congrArg (setN s _) u_box))
theorem i24_0_1 : I tab ro F r24_0 1 K s = I1 tab ro F r24_0 2 K (setN s (some 3) (boxO (opd s (.tmp 1)) s.hs)) := I_plain rfl rfl (ev_box.trans (congrArg (setN s _) u_box))
theorem i24_0_2 : I tab ro F r24_0 2 K s = I1 tab ro F r24_0 3 K (setO s (some 4) (opd s (.const (.bool false)))) := I_plain rfl rfl (ev_assign)
theorem i24_0_e : I tab ro F r24_0 3 K s = kont tab ro F K .normal s := I_end rfl
noncomputable def c24_2 : Code := sq1 c24_1
noncomputable def c24_3 : Code := sq2 c24_1
theorem wc24_1 : W tab ro F c24_1 K s = W tab ro F c24_2 (.sq c24_3 :: K) s := Wc_seq (show c24_1 = .seq c24_2 c24_3 from rfl)
noncomputable def c24_4 : Code := sq1 c24_2
noncomputable def c24_5 : Code := sq2 c24_2
theorem wc24_2 : W tab ro F c24_2 K s = W tab ro F c24_4 (.sq c24_5 :: K) s := Wc_seq (show c24_2 = .seq c24_4 c24_5 from rfl)
noncomputable def r24_1 : Array Oper := rg1 c24_4
theorem wc24_4 : W tab ro F c24_4 K s = I tab ro F r24_1 0 K s := Wc_region (show c24_4 = .region 1 r24_1 false from rfl)
theorem i24_1_0 : I tab ro F r24_1 0 K s = I1 tab ro F r24_1 1 K (setO s (some 6) (fieldAddrO 0 (opd s (.tmp 2)))) := I_plain rfl rfl (ev_fieldAddr.trans (congrArg (setO s _) (u_fieldAddr (off := 0) rfl rfl rfl rfl rfl rfl)))
theorem i24_1_1 : I tab ro F r24_1 1 K s = I1 tab ro F r24_1 2 K (setO s (some 7) (loadO s.heap false 1 (opd s (.tmp 6)))) := I_plain rfl rfl (ev_load.trans (congrArg (setO s _) (u_load (agg := false) (n := 1) rfl rfl rfl)))
theorem i24_1_2 : I tab ro F r24_1 2 K s = I1 tab ro F r24_1 3 K (setO s (some 8) (fieldAddrO 0 (opd s (.tmp 3)))) := I_plain rfl rfl (ev_fieldAddr.trans (congrArg (setO s _) (u_fieldAddr (off := 0) rfl rfl rfl rfl rfl rfl)))
theorem i24_1_3 : I tab ro F r24_1 3 K s = I1 tab ro F r24_1 4 K (setO s (some 9) (loadO s.heap false 1 (opd s (.tmp 8)))) := I_plain rfl rfl (ev_load.trans (congrArg (setO s _) (u_load (agg := false) (n := 1) rfl rfl rfl)))
theorem i24_1_4 : I tab ro F r24_1 4 K s = I1 tab ro F r24_1 5 K (setO s (some 10) (binO tab .neq 9 (.tmp 7) (.tmp 9) (opd s (.tmp 7)) (opd s (.tmp 9)))) := I_plain rfl rfl (ev_binOp.trans (congrArg (setO s _) u_bin))
theorem i24_1_5 : I tab ro F r24_1 5 K s = I1 tab ro F r24_1 6 K (setO s (some 11) (opd s (.tmp 10))) := I_plain rfl rfl (ev_move)
theorem i24_1_6 : I tab ro F r24_1 6 K s = IG tab ro F r24_1 7 K false (setO s (some 12) (fieldAddrO 1 (opd s (.tmp 2)))) (setT s (some 12) udef) (opd s (.tmp 11)) := I_guard (d := (some 12)) rfl rfl rfl rfl rfl (ev_fieldAddr.trans (congrArg (setO s _) (u_fieldAddr (off := 1) rfl rfl rfl rfl rfl rfl)))
theorem i24_1_7 : I tab ro F r24_1 7 K s = IG tab ro F r24_1 8 K false (setO s (some 13) (loadO s.heap false 1 (opd s (.tmp 12)))) (setT s (some 13) udef) (opd s (.tmp 11)) := I_guard (d := (some 13)) rfl rfl rfl rfl rfl (ev_load.trans (congrArg (setO s _) (u_load (agg := false) (n := 1) rfl rfl rfl)))
theorem i24_1_8 : I tab ro F r24_1 8 K s = IG tab ro F r24_1 9 K false (setO s (some 14) (lenLO (opd s (.tmp 13)))) (setT s (some 14) udef) (opd s (.tmp 11)) := I_guard (d := (some 14)) rfl rfl rfl rfl rfl (u_lenL rfl rfl)
theorem i24_1_9 : I tab ro F r24_1 9 K s = IG tab ro F r24_1 10 K false (setO s (some 15) (fieldAddrO 1 (opd s (.tmp 3)))) (setT s (some 15) udef) (opd s (.tmp 11)) := I_guard (d := (some 15)) rfl rfl rfl rfl rfl (ev_fieldAddr.trans (congrArg (setO s _) (u_fieldAddr (off := 1) rfl rfl rfl rfl rfl rfl)))
theorem i24_1_10 : I tab ro F r24_1 10 K s = IG tab ro F r24_1 11 K false (setO s (some 16) (loadO s.heap false 1 (opd s (.tmp 15)))) (setT s (some 16) udef) (opd s (.tmp 11)) := I_guard (d := (some 16)) rfl rfl rfl rfl rfl (ev_load.trans (congrArg (setO s _) (u_load (agg := false) (n := 1) rfl rfl rfl)))
theorem i24_1_11 : I tab ro F r24_1 11 K s = IG tab ro F r24_1 12 K false (setO s (some 17) (lenLO (opd s (.tmp 16)))) (setT s (some 17) udef) (opd s (.tmp 11)) := I_guard (d := (some 17)) rfl rfl rfl rfl rfl (u_lenL rfl rfl)
theorem i24_1_12 : I tab ro F r24_1 12 K s = IG tab ro F r24_1 13 K false (setO s (some 18) (binO tab .neq 3 (.tmp 14) (.tmp 17) (opd s (.tmp 14)) (opd s (.tmp 17)))) (setT s (some 18) udef) (opd s (.tmp 11)) := I_guard (d := (some 18)) rfl rfl rfl rfl rfl (ev_binOp.trans (congrArg (setO s _) u_bin))
theorem i24_1_13 : I tab ro F r24_1 13 K s = I1 tab ro F r24_1 14 K (setO s (some 19) (pickO (opd s (.tmp 11)) (opd s (.const (.bool true))) (opd s (.tmp 18)))) := I_plain rfl rfl (ev_pick.trans (congrArg (setO s _) u_pick))
theorem i24_1_e : I tab ro F r24_1 14 K s = kont tab ro F K .normal s := I_end rfl
noncomputable def c24_6 : Code := cd1 c24_5
noncomputable def c24_7 : Code := cd2 c24_5
theorem wc24_5 : W tab ro F c24_5 K s = C1 tab ro F c24_6 c24_7 K s (opd s (.tmp 19)) := Wc_cond (show c24_5 = .cond (.tmp 19) c24_6 c24_7 from rfl)
noncomputable def c24_8 : Code := sq1 c24_6
noncomputable def c24_9 : Code := sq2 c24_6
theorem wc24_6 : W tab ro F c24_6 K s = W tab ro F c24_8 (.sq c24_9 :: K) s := Wc_seq (show c24_6 = .seq c24_8 c24_9 from rfl)
noncomputable def r24_2 : Array Oper := rg1 c24_8
theorem wc24_8 : W tab ro F c24_8 K s = I tab ro F r24_2 0 K s := Wc_region (show c24_8 = .region 2 r24_2 false from rfl)
theorem i24_2_0 : I tab ro F r24_2 0 K s = I1 tab ro F r24_2 1 K (setO s (some 4) (opd s (.const (.bool false)))) := I_plain rfl rfl (ev_assign)
theorem i24_2_e : I tab ro F r24_2 1 K s = kont tab ro F K .normal s := I_end rfl
theorem wc24_9 : W tab ro F c24_9 K s = kont tab ro F K .ret s := Wc_ret (show c24_9 = .ret from rfl)
theorem wc24_7 : W tab ro F c24_7 K s = kont tab ro F K .normal s := Wc_skip (show c24_7 = .skip from rfl)
noncomputable def c24_10 : Code := sq1 c24_3
noncomputable def c24_11 : Code := sq2 c24_3
theorem wc24_3 : W tab ro F c24_3 K s = W tab ro F c24_10 (.sq c24_11 :: K) s := Wc_seq (show c24_3 = .seq c24_10 c24_11 from rfl)
noncomputable def c24_12 : Code := sq1 c24_10
noncomputable def c24_13 : Code := sq2 c24_10
theorem wc24_10 : W tab ro F c24_10 K s = W tab ro F c24_12 (.sq c24_13 :: K) s := Wc_seq (show c24_10 = .seq c24_12 c24_13 from rfl)
noncomputable def r24_3 : Array Oper := rg1 c24_12
theorem wc24_12 : W tab ro F c24_12 K s = I tab ro F r24_3 0 K s := Wc_region (show c24_12 = .region 3 r24_3 false from rfl)
theorem i24_3_0 : I tab ro F r24_3 0 K s = I1 tab ro F r24_3 1 K (setO s (some 5) (opd s (.const (.int .i64 (0))))) := I_plain rfl rfl (ev_assign)
theorem i24_3_e : I tab ro F r24_3 1 K s = kont tab ro F K .normal s := I_end rfl
noncomputable def c24_14 : Code := bk1 c24_13
theorem wc24_13 : W tab ro F c24_13 K s = W tab ro F c24_14 (.bk 0 :: K) s := Wc_block (show c24_13 = .block 0 c24_14 from rfl)
noncomputable def c24_15 : Code := lp1 c24_14
theorem lc24_14 : W tab ro F c24_14 K s = W tab ro F c24_15 (.lp c24_15 :: K) s := Wc_loop (show c24_14 = .loop c24_15 from rfl)
theorem kc24_14 : kont tab ro F (.lp c24_15 :: K) .normal s = W tab ro F c24_14 K s := Wc_again (show c24_14 = .loop c24_15 from rfl)
noncomputable def c24_16 : Code := sq1 c24_15
noncomputable def c24_17 : Code := sq2 c24_15
theorem wc24_15 : W tab ro F c24_15 K s = W tab ro F c24_16 (.sq c24_17 :: K) s := Wc_seq (show c24_15 = .seq c24_16 c24_17 from rfl)
noncomputable def c24_18 : Code := sq1 c24_16
noncomputable def c24_19 : Code := sq2 c24_16
theorem wc24_16 : W tab ro F c24_16 K s = W tab ro F c24_18 (.sq c24_19 :: K) s := Wc_seq (show c24_16 = .seq c24_18 c24_19 from rfl)
noncomputable def r24_4 : Array Oper := rg1 c24_18
theorem wc24_18 : W tab ro F c24_18 K s = I tab ro F r24_4 0 K s := Wc_region (show c24_18 = .region 4 r24_4 false from rfl)
theorem i24_4_0 : I tab ro F r24_4 0 K s = I1 tab ro F r24_4 1 K (setO s (some 20) (opd s (.tmp 5))) := I_plain rfl rfl (ev_move)
theorem i24_4_1 : I tab ro F r24_4 1 K s = I1 tab ro F r24_4 2 K (setO s (some 21) (fieldAddrO 1 (opd s (.tmp 2)))) := I_plain rfl rfl (ev_fieldAddr.trans (congrArg (setO s _) (u_fieldAddr (off := 1) rfl rfl rfl rfl rfl rfl)))
theorem i24_4_2 : I tab ro F r24_4 2 K s = I1 tab ro F r24_4 3 K (setO s (some 22) (loadO s.heap false 1 (opd s (.tmp 21)))) := I_plain rfl rfl (ev_load.trans (congrArg (setO s _) (u_load (agg := false) (n := 1) rfl rfl rfl)))
theorem i24_4_3 : I tab ro F r24_4 3 K s = I1 tab ro F r24_4 4 K (setO s (some 23) (lenLO (opd s (.tmp 22)))) := I_plain rfl rfl (u_lenL rfl rfl)
theorem i24_4_4 : I tab ro F r24_4 4 K s = I1 tab ro F r24_4 5 K (setO s (some 24) (binO tab .lss 3 (.tmp 20) (.tmp 23) (opd s (.tmp 20)) (opd s (.tmp 23)))) := I_plain rfl rfl (ev_binOp.trans (congrArg (setO s _) u_bin))
theorem i24_4_e : I tab ro F r24_4 5 K s = kont tab ro F K .normal s := I_end rfl
noncomputable def c24_20 : Code := cd1 c24_19
noncomputable def c24_21 : Code := cd2 c24_19
theorem wc24_19 : W tab ro F c24_19 K s = C1 tab ro F c24_20 c24_21 K s (opd s (.tmp 24)) := Wc_cond (show c24_19 = .cond (.tmp 24) c24_20 c24_21 from rfl)
theorem wc24_20 : W tab ro F c24_20 K s = kont tab ro F K .normal s := Wc_skip (show c24_20 = .skip from rfl)
theorem wc24_21 : W tab ro F c24_21 K s = kont tab ro F K (.exit 0) s := Wc_exit (show c24_21 = .exit 0 from rfl)
noncomputable def c24_22 : Code := sq1 c24_17
noncomputable def c24_23 : Code := sq2 c24_17
theorem wc24_17 : W tab ro F c24_17 K s = W tab ro F c24_22 (.sq c24_23 :: K) s := Wc_seq (show c24_17 = .seq c24_22 c24_23 from rfl)
noncomputable def c24_24 : Code := bk1 c24_22
theorem wc24_22 : W tab ro F c24_22 K s = W tab ro F c24_24 (.bk 1 :: K) s := Wc_block (show c24_22 = .block 1 c24_24 from rfl)
noncomputable def c24_25 : Code := sq1 c24_24
noncomputable def c24_26 : Code := sq2 c24_24
theorem wc24_24 : W tab ro F c24_24 K s = W tab ro F c24_25 (.sq c24_26 :: K) s := Wc_seq (show c24_24 = .seq c24_25 c24_26 from rfl)
noncomputable def r24_6 : Array Oper := rg1 c24_25
theorem wc24_25 : W tab ro F c24_25 K s = D1 tab ro F K (evDr tab (evw tab) r24_6 s) := Wc_draw (show c24_25 = .region 6 r24_6 true from rfl)
def ms24_6 : Tr Nat := (.nd 0 (.nd 1 (.nd 7 (.nd 0 .lf .lf) .lf) (.nd 0 (.nd 480 .lf .lf) .lf)) (.nd 0 (.nd 15 (.nd 224 .lf .lf) .lf) (.nd 32 (.nd 1023 .lf .lf) .lf)))
def wt24_6 : Tr Nat := (.nd 0 (.nd 0 (.nd 0 (.nd 0 (.nd 0 (.nd 5 .lf .lf) .lf) .lf) (.nd 0 (.nd 0 (.nd 9 .lf .lf) .lf) (.nd 1 .lf .lf))) (.nd 0 (.nd 0 (.nd 0 (.nd 7 .lf .lf) .lf) .lf) (.nd 0 (.nd 0 (.nd 11 .lf .lf) .lf) (.nd 3 .lf .lf)))) (.nd 0 (.nd 0 (.nd 0 (.nd 0 (.nd 6 .lf .lf) .lf) .lf) (.nd 0 (.nd 0 (.nd 10 .lf .lf) .lf) (.nd 2 .lf .lf))) (.nd 0 (.nd 0 (.nd 0 (.nd 8 .lf .lf) .lf) .lf) (.nd 0 .lf (.nd 4 .lf .lf)))))
theorem xm24_6 : masks r24_6.toList 0 .lf = some ms24_6 := by kernel_rfl
theorem xw24_6 : writers r24_6.toList 0 .lf = some wt24_6 := by kernel_rfl
theorem xe24_6 : effIdx r24_6.toList 0 = [] := by kernel_rfl
theorem xc24_6 : (useJ true r24_6.toList && chain ms24_6 [] && dstsOk 38 r24_6.toList) = true := by kernel_rfl
noncomputable def D24_6 (t : Tr AV) (H0 : Tr AO) (hs0 : Nat) (ds : List Nat) : DI := ⟨r24_6, ms24_6, wt24_6, [], ⟨t, 38, H0, hs0, ds, true⟩⟩
theorem e24_6 {t : Tr AV} {H : Tr AO} {hs : Nat} {ds : List Nat} : evDr tab (evw tab) r24_6 ⟨t, 38, H, hs, ds, true⟩ = JE tab (D24_6 t H hs ds) t 38 ds (JR tab (evw tab) (D24_6 t H hs ds) 0 ⟨.lf, H, hs, [(H, hs)], []⟩) := evDr_J xm24_6 xw24_6 xe24_6 xc24_6
theorem y24_6 {t : Tr AV} {H0 : Tr AO} {hs0 : Nat} {ds : List Nat} : (D24_6 t H0 hs0 ds).es = [] := rfl
theorem z24_6 {t : Tr AV} {H0 : Tr AO} {hs0 : Nat} {ds : List Nat} {V : Tr AV} {t' : Tr AV} : putsD V (D24_6 t H0 hs0 ds).ops.toList 0 t' = (Tr.put .any (Tr.put .any (Tr.put .any (Tr.put .any (Tr.put .any (Tr.put .any (Tr.put .any (Tr.put .any (Tr.put .any (Tr.put .any (Tr.put .any t' 27 (V.get .any 0)) 28 (V.get .any 1)) 29 (V.get .any 2)) 30 (V.get .any 3)) 31 (V.get .any 4)) 32 (V.get .any 5)) 33 (V.get .any 6)) 34 (V.get .any 7)) 35 (V.get .any 8)) 36 (V.get .any 9)) 37 (V.get .any 10)) := rfl
theorem j24_6_0 {t : Tr AV} {H0 H : Tr AO} {hs0 hs : Nat} {ds : List Nat} {V : Tr AV} {hps : List (Tr AO × Nat)} {fs : List EffR} : JR tab (evw tab) (D24_6 t H0 hs0 ds) 0 ⟨V, H, hs, hps, fs⟩ = J1 tab (evw tab) (D24_6 t H0 hs0 ds) 1 (jput ⟨V, H, hs, hps, fs⟩ 0 (fieldAddrO 1 (some (t.get .any 2)))) := jr_plain (q := ⟨V, H, hs, hps, fs⟩) (rv := [(2, (t.get .any 2))]) (e := fieldAddrO 1 (some (t.get .any 2))) rfl rfl rfl (by kernel_rfl) ((ne_pure rfl).trans ((u_fieldAddr (off := 1) rfl rfl rfl rfl rfl rfl).trans rfl))
theorem q24_6_0 : hbB ms24_6 [] 0 = true := by kernel_rfl
theorem a24_6_0 {t : Tr AV} {H0 : Tr AO} {hs0 : Nat} {ds : List Nat} {V : Tr AV} {hps : List (Tr AO × Nat)} : CA tab (D24_6 t H0 hs0 ds) hps V 0 = (vchk (V.get .any 0) (fieldAddrO 1 (some (t.get .any 2))) && CA tab (D24_6 t H0 hs0 ds) hps V 1) := ca_p (rv := [(2, (t.get .any 2))]) (e := fieldAddrO 1 (some (t.get .any 2))) rfl rfl rfl (by kernel_rfl) q24_6_0 ((u_fieldAddr (off := 1) rfl rfl rfl rfl rfl rfl).trans rfl)
theorem j24_6_1 {t : Tr AV} {H0 H : Tr AO} {hs0 hs : Nat} {ds : List Nat} {V : Tr AV} {hps : List (Tr AO × Nat)} {fs : List EffR} : JR tab (evw tab) (D24_6 t H0 hs0 ds) 1 ⟨V, H, hs, hps, fs⟩ = J1 tab (evw tab) (D24_6 t H0 hs0 ds) 2 (jput ⟨V, H, hs, hps, fs⟩ 1 (loadO H false 1 (some (V.get .any 0)))) := jr_plain (q := ⟨V, H, hs, hps, fs⟩) (rv := [(27, (V.get .any 0))]) (e := loadO H false 1 (some (V.get .any 0))) rfl rfl rfl (by kernel_rfl) ((ne_read rfl).trans ((u_load (agg := false) (n := 1) rfl rfl rfl).trans rfl))
theorem q24_6_1 : hbB ms24_6 [] 1 = true := by kernel_rfl
theorem a24_6_1 {t : Tr AV} {H0 : Tr AO} {hs0 : Nat} {ds : List Nat} {V : Tr AV} {hps : List (Tr AO × Nat)} : CA tab (D24_6 t H0 hs0 ds) hps V 1 = (hchk 0 0 (fun H => loadO H false 1 (some (V.get .any 0))) (V.get .any 1) hps 0 && CA tab (D24_6 t H0 hs0 ds) hps V 2) := ca_h (rv := [(27, (V.get .any 0))]) (n := 1) (lo := 0) (hi := 0) (f := fun H => loadO H false 1 (some (V.get .any 0))) rfl rfl rfl rfl (by kernel_rfl) q24_6_1 (by kernel_rfl) (by kernel_rfl) (fun H => (ne_read rfl).trans ((u_load (agg := false) (n := 1) rfl rfl rfl).trans rfl))
theorem j24_6_2 {t : Tr AV} {H0 H : Tr AO} {hs0 hs : Nat} {ds : List Nat} {V : Tr AV} {hps : List (Tr AO × Nat)} {fs : List EffR} : JR tab (evw tab) (D24_6 t H0 hs0 ds) 2 ⟨V, H, hs, hps, fs⟩ = J1 tab (evw tab) (D24_6 t H0 hs0 ds) 3 (jput ⟨V, H, hs, hps, fs⟩ 2 ((some (t.get .any 5)))) := jr_plain (q := ⟨V, H, hs, hps, fs⟩) (rv := [(5, (t.get .any 5))]) (e := (some (t.get .any 5))) rfl rfl rfl (by kernel_rfl) ((ne_pure rfl).trans ((rfl).trans rfl))
theorem q24_6_2 : hbB ms24_6 [] 2 = true := by kernel_rfl
theorem a24_6_2 {t : Tr AV} {H0 : Tr AO} {hs0 : Nat} {ds : List Nat} {V : Tr AV} {hps : List (Tr AO × Nat)} : CA tab (D24_6 t H0 hs0 ds) hps V 2 = (vchk (V.get .any 2) ((some (t.get .any 5))) && CA tab (D24_6 t H0 hs0 ds) hps V 3) := ca_p (rv := [(5, (t.get .any 5))]) (e := (some (t.get .any 5))) rfl rfl rfl (by kernel_rfl) q24_6_2 ((rfl).trans rfl)
theorem j24_6_3 {t : Tr AV} {H0 H : Tr AO} {hs0 hs : Nat} {ds : List Nat} {V : Tr AV} {hps : List (Tr AO × Nat)} {fs : List EffR} : JR tab (evw tab) (D24_6 t H0 hs0 ds) 3 ⟨V, H, hs, hps, fs⟩ = J1 tab (evw tab) (D24_6 t H0 hs0 ds) 4 (jput ⟨V, H, hs, hps, fs⟩ 3 (indexAddrO 3 (some (V.get .any 1)) (some (V.get .any 2)))) := jr_plain (q := ⟨V, H, hs, hps, fs⟩) (rv := [(28, (V.get .any 1)), (29, (V.get .any 2))]) (e := indexAddrO 3 (some (V.get .any 1)) (some (V.get .any 2))) rfl rfl rfl (by kernel_rfl) ((ne_pure rfl).trans ((u_indexAddr (n := 3) rfl rfl rfl rfl).trans rfl))
theorem q24_6_3 : hbB ms24_6 [] 3 = true := by kernel_rfl
theorem a24_6_3 {t : Tr AV} {H0 : Tr AO} {hs0 : Nat} {ds : List Nat} {V : Tr AV} {hps : List (Tr AO × Nat)} : CA tab (D24_6 t H0 hs0 ds) hps V 3 = (vchk (V.get .any 3) (indexAddrO 3 (some (V.get .any 1)) (some (V.get .any 2))) && CA tab (D24_6 t H0 hs0 ds) hps V 4) := ca_p (rv := [(28, (V.get .any 1)), (29, (V.get .any 2))]) (e := indexAddrO 3 (some (V.get .any 1)) (some (V.get .any 2))) rfl rfl rfl (by kernel_rfl) q24_6_3 ((u_indexAddr (n := 3) rfl rfl rfl rfl).trans rfl)
theorem j24_6_4 {t : Tr AV} {H0 H : Tr AO} {hs0 hs : Nat} {ds : List Nat} {V : Tr AV} {hps : List (Tr AO × Nat)} {fs : List EffR} : JR tab (evw tab) (D24_6 t H0 hs0 ds) 4 ⟨V, H, hs, hps, fs⟩ = J1 tab (evw tab) (D24_6 t H0 hs0 ds) 5 (jput ⟨V, H, hs, hps, fs⟩ 4 (loadO H true 3 (some (V.get .any 3)))) := jr_plain (q := ⟨V, H, hs, hps, fs⟩) (rv := [(30, (V.get .any 3))]) (e := loadO H true 3 (some (V.get .any 3))) rfl rfl rfl (by kernel_rfl) ((ne_read rfl).trans ((u_load (agg := true) (n := 3) rfl rfl rfl).trans rfl))
theorem q24_6_4 : hbB ms24_6 [] 4 = true := by kernel_rfl
theorem a24_6_4 {t : Tr AV} {H0 : Tr AO} {hs0 : Nat} {ds : List Nat} {V : Tr AV} {hps : List (Tr AO × Nat)} : CA tab (D24_6 t H0 hs0 ds) hps V 4 = (hchk 0 0 (fun H => loadO H true 3 (some (V.get .any 3))) (V.get .any 4) hps 0 && CA tab (D24_6 t H0 hs0 ds) hps V 5) := ca_h (rv := [(30, (V.get .any 3))]) (n := 1) (lo := 0) (hi := 0) (f := fun H => loadO H true 3 (some (V.get .any 3))) rfl rfl rfl rfl (by kernel_rfl) q24_6_4 (by kernel_rfl) (by kernel_rfl) (fun H => (ne_read rfl).trans ((u_load (agg := true) (n := 3) rfl rfl rfl).trans rfl))
theorem j24_6_5 {t : Tr AV} {H0 H : Tr AO} {hs0 hs : Nat} {ds : List Nat} {V : Tr AV} {hps : List (Tr AO × Nat)} {fs : List EffR} : JR tab (evw tab) (D24_6 t H0 hs0 ds) 5 ⟨V, H, hs, hps, fs⟩ = J1 tab (evw tab) (D24_6 t H0 hs0 ds) 6 (jput ⟨V, H, hs, hps, fs⟩ 5 (fieldAddrO 1 (some (t.get .any 3)))) := jr_plain (q := ⟨V, H, hs, hps, fs⟩) (rv := [(3, (t.get .any 3))]) (e := fieldAddrO 1 (some (t.get .any 3))) rfl rfl rfl (by kernel_rfl) ((ne_pure rfl).trans ((u_fieldAddr (off := 1) rfl rfl rfl rfl rfl rfl).trans rfl))
theorem q24_6_5 : hbB ms24_6 [] 5 = true := by kernel_rfl
theorem a24_6_5 {t : Tr AV} {H0 : Tr AO} {hs0 : Nat} {ds : List Nat} {V : Tr AV} {hps : List (Tr AO × Nat)} : CA tab (D24_6 t H0 hs0 ds) hps V 5 = (vchk (V.get .any 5) (fieldAddrO 1 (some (t.get .any 3))) && CA tab (D24_6 t H0 hs0 ds) hps V 6) := ca_p (rv := [(3, (t.get .any 3))]) (e := fieldAddrO 1 (some (t.get .any 3))) rfl rfl rfl (by kernel_rfl) q24_6_5 ((u_fieldAddr (off := 1) rfl rfl rfl rfl rfl rfl).trans rfl)
theorem j24_6_6 {t : Tr AV} {H0 H : Tr AO} {hs0 hs : Nat} {ds : List Nat} {V : Tr AV} {hps : List (Tr AO × Nat)} {fs : List EffR} : JR tab (evw tab) (D24_6 t H0 hs0 ds) 6 ⟨V, H, hs, hps, fs⟩ = J1 tab (evw tab) (D24_6 t H0 hs0 ds) 7 (jput ⟨V, H, hs, hps, fs⟩ 6 (loadO H false 1 (some (V.get .any 5)))) := jr_plain (q := ⟨V, H, hs, hps, fs⟩) (rv := [(32, (V.get .any 5))]) (e := loadO H false 1 (some (V.get .any 5))) rfl rfl rfl (by kernel_rfl) ((ne_read rfl).trans ((u_load (agg := false) (n := 1) rfl rfl rfl).trans rfl))
theorem q24_6_6 : hbB ms24_6 [] 6 = true := by kernel_rfl
theorem a24_6_6 {t : Tr AV} {H0 : Tr AO} {hs0 : Nat} {ds : List Nat} {V : Tr AV} {hps : List (Tr AO × Nat)} : CA tab (D24_6 t H0 hs0 ds) hps V 6 = (hchk 0 0 (fun H => loadO H false 1 (some (V.get .any 5))) (V.get .any 6) hps 0 && CA tab (D24_6 t H0 hs0 ds) hps V 7) := ca_h (rv := [(32, (V.get .any 5))]) (n := 1) (lo := 0) (hi := 0) (f := fun H => loadO H false 1 (some (V.get .any 5))) rfl rfl rfl rfl (by kernel_rfl) q24_6_6 (by kernel_rfl) (by kernel_rfl) (fun H => (ne_read rfl).trans ((u_load (agg := false) (n := 1) rfl rfl rfl).trans rfl))
theorem j24_6_7 {t : Tr AV} {H0 H : Tr AO} {hs0 hs : Nat} {ds : List Nat} {V : Tr AV} {hps : List (Tr AO × Nat)} {fs : List EffR} : JR tab (evw tab) (D24_6 t H0 hs0 ds) 7 ⟨V, H, hs, hps, fs⟩ = J1 tab (evw tab) (D24_6 t H0 hs0 ds) 8 (jput ⟨V, H, hs, hps, fs⟩ 7 ((some (t.get .any 5)))) := jr_plain (q := ⟨V, H, hs, hps, fs⟩) (rv := [(5, (t.get .any 5))]) (e := (some (t.get .any 5))) rfl rfl rfl (by kernel_rfl) ((ne_pure rfl).trans ((rfl).trans rfl))
theorem q24_6_7 : hbB ms24_6 [] 7 = true := by kernel_rfl
theorem a24_6_7 {t : Tr AV} {H0 : Tr AO} {hs0 : Nat} {ds : List Nat} {V : Tr AV} {hps : List (Tr AO × Nat)} : CA tab (D24_6 t H0 hs0 ds) hps V 7 = (vchk (V.get .any 7) ((some (t.get .any 5))) && CA tab (D24_6 t H0 hs0 ds) hps V 8) := ca_p (rv := [(5, (t.get .any 5))]) (e := (some (t.get .any 5))) rfl rfl rfl (by kernel_rfl) q24_6_7 ((rfl).trans rfl)
theorem j24_6_8 {t : Tr AV} {H0 H : Tr AO} {hs0 hs : Nat} {ds : List Nat} {V : Tr AV} {hps : List (Tr AO × Nat)} {fs : List EffR} : JR tab (evw tab) (D24_6 t H0 hs0 ds) 8 ⟨V, H, hs, hps, fs⟩ = J1 tab (evw tab) (D24_6 t H0 hs0 ds) 9 (jput ⟨V, H, hs, hps, fs⟩ 8 (indexAddrO 3 (some (V.get .any 6)) (some (V.get .any 7)))) := jr_plain (q := ⟨V, H, hs, hps, fs⟩) (rv := [(33, (V.get .any 6)), (34, (V.get .any 7))]) (e := indexAddrO 3 (some (V.get .any 6)) (some (V.get .any 7))) rfl rfl rfl (by kernel_rfl) ((ne_pure rfl).trans ((u_indexAddr (n := 3) rfl rfl rfl rfl).trans rfl))
theorem q24_6_8 : hbB ms24_6 [] 8 = true := by kernel_rfl
theorem a24_6_8 {t : Tr AV} {H0 : Tr AO} {hs0 : Nat} {ds : List Nat} {V : Tr AV} {hps : List (Tr AO × Nat)} : CA tab (D24_6 t H0 hs0 ds) hps V 8 = (vchk (V.get .any 8) (indexAddrO 3 (some (V.get .any 6)) (some (V.get .any 7))) && CA tab (D24_6 t H0 hs0 ds) hps V 9) := ca_p (rv := [(33, (V.get .any 6)), (34, (V.get .any 7))]) (e := indexAddrO 3 (some (V.get .any 6)) (some (V.get .any 7))) rfl rfl rfl (by kernel_rfl) q24_6_8 ((u_indexAddr (n := 3) rfl rfl rfl rfl).trans rfl)
theorem j24_6_9 {t : Tr AV} {H0 H : Tr AO} {hs0 hs : Nat} {ds : List Nat} {V : Tr AV} {hps : List (Tr AO × Nat)} {fs : List EffR} : JR tab (evw tab) (D24_6 t H0 hs0 ds) 9 ⟨V, H, hs, hps, fs⟩ = J1 tab (evw tab) (D24_6 t H0 hs0 ds) 10 (jput ⟨V, H, hs, hps, fs⟩ 9 (loadO H true 3 (some (V.get .any 8)))) := jr_plain (q := ⟨V, H, hs, hps, fs⟩) (rv := [(35, (V.get .any 8))]) (e := loadO H true 3 (some (V.get .any 8))) rfl rfl rfl (by kernel_rfl) ((ne_read rfl).trans ((u_load (agg := true) (n := 3) rfl rfl rfl).trans rfl))
theorem q24_6_9 : hbB ms24_6 [] 9 = true := by kernel_rfl
theorem a24_6_9 {t : Tr AV} {H0 : Tr AO} {hs0 : Nat} {ds : List Nat} {V : Tr AV} {hps : List (Tr AO × Nat)} : CA tab (D24_6 t H0 hs0 ds) hps V 9 = (hchk 0 0 (fun H => loadO H true 3 (some (V.get .any 8))) (V.get .any 9) hps 0 && CA tab (D24_6 t H0 hs0 ds) hps V 10) := ca_h (rv := [(35, (V.get .any 8))]) (n := 1) (lo := 0) (hi := 0) (f := fun H => loadO H true 3 (some (V.get .any 8))) rfl rfl rfl rfl (by kernel_rfl) q24_6_9 (by kernel_rfl) (by kernel_rfl) (fun H => (ne_read rfl).trans ((u_load (agg := true) (n := 3) rfl rfl rfl).trans rfl))
theorem j24_6_10 {t : Tr AV} {H0 H : Tr AO} {hs0 hs : Nat} {ds : List Nat} {V : Tr AV} {hps : List (Tr AO × Nat)} {fs : List EffR} : JR tab (evw tab) (D24_6 t H0 hs0 ds) 10 ⟨V, H, hs, hps, fs⟩ = J1 tab (evw tab) (D24_6 t H0 hs0 ds) 11 (jput ⟨V, H, hs, hps, fs⟩ 10 (binO tab .neq 93 (.tmp 31) (.tmp 36) (some (V.get .any 4)) (some (V.get .any 9)))) := jr_plain (q := ⟨V, H, hs, hps, fs⟩) (rv := [(31, (V.get .any 4)), (36, (V.get .any 9))]) (e := binO tab .neq 93 (.tmp 31) (.tmp 36) (some (V.get .any 4)) (some (V.get .any 9))) rfl rfl rfl (by kernel_rfl) ((ne_pure rfl).trans ((u_bin).trans rfl))
theorem q24_6_10 : hbB ms24_6 [] 10 = true := by kernel_rfl
theorem a24_6_10 {t : Tr AV} {H0 : Tr AO} {hs0 : Nat} {ds : List Nat} {V : Tr AV} {hps : List (Tr AO × Nat)} : CA tab (D24_6 t H0 hs0 ds) hps V 10 = (vchk (V.get .any 10) (binO tab .neq 93 (.tmp 31) (.tmp 36) (some (V.get .any 4)) (some (V.get .any 9))) && CA tab (D24_6 t H0 hs0 ds) hps V 11) := ca_p (rv := [(31, (V.get .any 4)), (36, (V.get .any 9))]) (e := binO tab .neq 93 (.tmp 31) (.tmp 36) (some (V.get .any 4)) (some (V.get .any 9))) rfl rfl rfl (by kernel_rfl) q24_6_10 ((u_bin).trans rfl)
theorem j24_6_e {t : Tr AV} {H0 H : Tr AO} {hs0 hs : Nat} {ds : List Nat} {V : Tr AV} {hps : List (Tr AO × Nat)} {fs : List EffR} : JR tab (evw tab) (D24_6 t H0 hs0 ds) 11 ⟨V, H, hs, hps, fs⟩ = some ⟨V, H, hs, hps, fs⟩ := jr_end rfl
theorem a24_6_e {t : Tr AV} {H0 : Tr AO} {hs0 : Nat} {ds : List Nat} {V : Tr AV} {hps : List (Tr AO × Nat)} : CA tab (D24_6 t H0 hs0 ds) hps V 11 = true := ca_end rfl
noncomputable def c24_27 : Code := cd1 c24_26
noncomputable def c24_28 : Code := cd2 c24_26
theorem wc24_26 : W tab ro F c24_26 K s = C1 tab ro F c24_27 c24_28 K s (opd s (.tmp 37)) := Wc_cond (show c24_26 = .cond (.tmp 37) c24_27 c24_28 from rfl)
noncomputable def c24_29 : Code := sq1 c24_27
noncomputable def c24_30 : Code := sq2 c24_27
theorem wc24_27 : W tab ro F c24_27 K s = W tab ro F c24_29 (.sq c24_30 :: K) s := Wc_seq (show c24_27 = .seq c24_29 c24_30 from rfl)
noncomputable def r24_7 : Array Oper := rg1 c24_29
theorem wc24_29 : W tab ro F c24_29 K s = I tab ro F r24_7 0 K s := Wc_region (show c24_29 = .region 7 r24_7 false from rfl)
theorem i24_7_0 : I tab ro F r24_7 0 K s = I1 tab ro F r24_7 1 K (setO s (some 4) (opd s (.const (.bool false)))) := I_plain rfl rfl (ev_assign)
theorem i24_7_e : I tab ro F r24_7 1 K s = kont tab ro F K .normal s := I_end rfl
theorem wc24_30 : W tab ro F c24_30 K s = kont tab ro F K .ret s := Wc_ret (show c24_30 = .ret from rfl)
theorem wc24_28 : W tab ro F c24_28 K s = kont tab ro F K .normal s := Wc_skip (show c24_28 = .skip from rfl)
noncomputable def r24_5 : Array Oper := rg1 c24_23
theorem wc24_23 : W tab ro F c24_23 K s = I tab ro F r24_5 0 K s := Wc_region (show c24_23 = .region 5 r24_5 false from rfl)
theorem i24_5_0 : I tab ro F r24_5 0 K s = I1 tab ro F r24_5 1 K (setO s (some 25) (opd s (.tmp 5))) := I_plain rfl rfl (ev_move)
theorem i24_5_1 : I tab ro F r24_5 1 K s = I1 tab ro F r24_5 2 K (setO s (some 26) (binO tab .add 3 (.tmp 25) (.const (.int .i64 (1))) (opd s (.tmp 25)) (opd s (.const (.int .i64 (1)))))) := I_plain rfl rfl (ev_binOp.trans (congrArg (setO s _) u_bin))
theorem i24_5_2 : I tab ro F r24_5 2 K s = I1 tab ro F r24_5 3 K (setO s (some 5) (opd s (.tmp 26))) := I_plain rfl rfl (ev_assign)
theorem i24_5_e : I tab ro F r24_5 3 K s = kont tab ro F K .normal s := I_end rfl
noncomputable def c24_31 : Code := sq1 c24_11
noncomputable def c24_32 : Code := sq2 c24_11
theorem wc24_11 : W tab ro F c24_11 K s = W tab ro F c24_31 (.sq c24_32 :: K) s := Wc_seq (show c24_11 = .seq c24_31 c24_32 from rfl)
noncomputable def r24_8 : Array Oper := rg1 c24_31
theorem wc24_31 : W tab ro F c24_31 K s = I tab ro F r24_8 0 K s := Wc_region (show c24_31 = .region 8 r24_8 false from rfl)
theorem i24_8_0 : I tab ro F r24_8 0 K s = I1 tab ro F r24_8 1 K (setO s (some 4) (opd s (.const (.bool true)))) := I_plain rfl rfl (ev_assign)
theorem i24_8_e : I tab ro F r24_8 1 K s = kont tab ro F K .normal s := I_end rfl
theorem wc24_32 : W tab ro F c24_32 K s = kont tab ro F K .ret s := Wc_ret (show c24_32 = .ret from rfl)
theorem n24 : fi24.ntmps = 38 := rfl
theorem q24 : fi24.results = [.tmp 4] := rfl
theorem f24 : tab.f 24 = some fi24 := rfl
theorem b24 : fi24.body = c24 := rfl
theorem m24 : fi24.lm = 1 := rfl
-- NAMES 24 n24 q24 b24 m24  wc24 wc24_0 i24_0_0 i24_0_1 i24_0_2 i24_0_e wc24_1 wc24_2 wc24_4 i24_1_0 i24_1_1 i24_1_2 i24_1_3 i24_1_4 i24_1_5 i24_1_6 i24_1_7 i24_1_8 i24_1_9 i24_1_10 i24_1_11 i24_1_12 i24_1_13 i24_1_e wc24_5 wc24_6 wc24_8 i24_2_0 i24_2_e wc24_9 wc24_7 wc24_3 wc24_10 wc24_12 i24_3_0 i24_3_e wc24_13 kc24_14 wc24_15 wc24_16 wc24_18 i24_4_0 i24_4_1 i24_4_2 i24_4_3 i24_4_4 i24_4_e wc24_19 wc24_20 wc24_21 wc24_17 wc24_22 wc24_24 wc24_25 e24_6 y24_6 z24_6 j24_6_0 a24_6_0 j24_6_1 a24_6_1 j24_6_2 a24_6_2 j24_6_3 a24_6_3 j24_6_4 a24_6_4 j24_6_5 a24_6_5 j24_6_6 a24_6_6 j24_6_7 a24_6_7 j24_6_8 a24_6_8 j24_6_9 a24_6_9 j24_6_10 a24_6_10 j24_6_e a24_6_e wc24_26 wc24_27 wc24_29 i24_7_0 i24_7_e wc24_30 wc24_28 wc24_23 i24_5_0 i24_5_1 i24_5_2 i24_5_e wc24_11 wc24_31 i24_8_0 i24_8_e wc24_32
/-! 35: verderer/verdererref02.Equal -/
noncomputable def c35 : Code := fi35.body
noncomputable def c35_0 : Code := sq1 c35
noncomputable def c35_1 : Code := sq2 c35
theorem wc35 : W tab ro F c35 K s = W tab ro F c35_0 (.sq c35_1 :: K) s := Wc_seq (show c35 = .seq c35_0 c35_1 from rfl)
noncomputable def r35_0 : Array Oper := rg1 c35_0
theorem wc35_0 : W tab ro F c35_0 K s = I tab ro F r35_0 0 K s := Wc_region (show c35_0 = .region 0 r35_0 false from rfl)
theorem i35_0_0 : I tab ro F r35_0 0 K s = I1 tab ro F r35_0 1 K (setO s (some 4) (opd s (.const (.bool false)))) := I_plain rfl rfl (ev_assign)
theorem i35_0_e : I tab ro F r35_0 1 K s = kont tab ro F K .normal s := I_end rfl
noncomputable def c35_2 : Code := sq1 c35_1
noncomputable def c35_3 : Code := sq2 c35_1
theorem wc35_1 : W tab ro F c35_1 K s = W tab ro F c35_2 (.sq c35_3 :: K) s := Wc_seq (show c35_1 = .seq c35_2 c35_3 from rfl)
noncomputable def c35_4 : Code := sq1 c35_2
noncomputable def c35_5 : Code := sq2 c35_2
theorem wc35_2 : W tab ro F c35_2 K s = W tab ro F c35_4 (.sq c35_5 :: K) s := Wc_seq (show c35_2 = .seq c35_4 c35_5 from rfl)
noncomputable def r35_1 : Array Oper := rg1 c35_4
theorem wc35_4 : W tab ro F c35_4 K s = I tab ro F r35_1 0 K s := Wc_region (show c35_4 = .region 1 r35_1 false from rfl)
theorem i35_1_0 : I tab ro F r35_1 0 K s = I1 tab ro F r35_1 1 K (setO s (some 6) (opd s (.tmp 0))) := I_plain rfl rfl (ev_move)
theorem i35_1_1 : I tab ro F r35_1 1 K s = I1 tab ro F r35_1 2 K (setO s (some 7) (lenLO (opd s (.tmp 6)))) := I_plain rfl rfl (u_lenL rfl rfl)
theorem i35_1_2 : I tab ro F r35_1 2 K s = I1 tab ro F r35_1 3 K (setO s (some 8) (opd s (.tmp 1))) := I_plain rfl rfl (ev_move)
theorem i35_1_3 : I tab ro F r35_1 3 K s = I1 tab ro F r35_1 4 K (setO s (some 9) (lenLO (opd s (.tmp 8)))) := I_plain rfl rfl (u_lenL rfl rfl)
theorem i35_1_4 : I tab ro F r35_1 4 K s = I1 tab ro F r35_1 5 K (setO s (some 10) (binO tab .neq 3 (.tmp 7) (.tmp 9) (opd s (.tmp 7)) (opd s (.tmp 9)))) := I_plain rfl rfl (ev_binOp.trans (congrArg (setO s _) u_bin))
theorem i35_1_e : I tab ro F r35_1 5 K s = kont tab ro F K .normal s := I_end rfl
noncomputable def c35_6 : Code := cd1 c35_5
noncomputable def c35_7 : Code := cd2 c35_5
theorem wc35_5 : W tab ro F c35_5 K s = C1 tab ro F c35_6 c35_7 K s (opd s (.tmp 10)) := Wc_cond (show c35_5 = .cond (.tmp 10) c35_6 c35_7 from rfl)
noncomputable def c35_8 : Code := sq1 c35_6
noncomputable def c35_9 : Code := sq2 c35_6
theorem wc35_6 : W tab ro F c35_6 K s = W tab ro F c35_8 (.sq c35_9 :: K) s := Wc_seq (show c35_6 = .seq c35_8 c35_9 from rfl)
noncomputable def r35_2 : Array Oper := rg1 c35_8
theorem wc35_8 : W tab ro F c35_8 K s = I tab ro F r35_2 0 K s := Wc_region (show c35_8 = .region 2 r35_2 false from rfl)
theorem i35_2_0 : I tab ro F r35_2 0 K s = I1 tab ro F r35_2 1 K (setO s (some 4) (opd s (.const (.bool false)))) := I_plain rfl rfl (ev_assign)
theorem i35_2_e : I tab ro F r35_2 1 K s = kont tab ro F K .normal s := I_end rfl
theorem wc35_9 : W tab ro F c35_9 K s = kont tab ro F K .ret s := Wc_ret (show c35_9 = .ret from rfl)
theorem wc35_7 : W tab ro F c35_7 K s = kont tab ro F K .normal s := Wc_skip (show c35_7 = .skip from rfl)
noncomputable def c35_10 : Code := sq1 c35_3
noncomputable def c35_11 : Code := sq2 c35_3
theorem wc35_3 : W tab ro F c35_3 K s = W tab ro F c35_10 (.sq c35_11 :: K) s := Wc_seq (show c35_3 = .seq c35_10 c35_11 from rfl)
noncomputable def c35_12 : Code := sq1 c35_10
noncomputable def c35_13 : Code := sq2 c35_10
theorem wc35_10 : W tab ro F c35_10 K s = W tab ro F c35_12 (.sq c35_13 :: K) s := Wc_seq (show c35_10 = .seq c35_12 c35_13 from rfl)
noncomputable def r35_3 : Array Oper := rg1 c35_12
theorem wc35_12 : W tab ro F c35_12 K s = I tab ro F r35_3 0 K s := Wc_region (show c35_12 = .region 3 r35_3 false from rfl)
theorem i35_3_0 : I tab ro F r35_3 0 K s = I1 tab ro F r35_3 1 K (setO s (some 5) (opd s (.const (.int .i64 (0))))) := I_plain rfl rfl (ev_assign)
theorem i35_3_e : I tab ro F r35_3 1 K s = kont tab ro F K .normal s := I_end rfl
noncomputable def c35_14 : Code := bk1 c35_13
theorem wc35_13 : W tab ro F c35_13 K s = W tab ro F c35_14 (.bk 0 :: K) s := Wc_block (show c35_13 = .block 0 c35_14 from rfl)
noncomputable def c35_15 : Code := lp1 c35_14
theorem lc35_14 : W tab ro F c35_14 K s = W tab ro F c35_15 (.lp c35_15 :: K) s := Wc_loop (show c35_14 = .loop c35_15 from rfl)
theorem kc35_14 : kont tab ro F (.lp c35_15 :: K) .normal s = W tab ro F c35_14 K s := Wc_again (show c35_14 = .loop c35_15 from rfl)
noncomputable def c35_16 : Code := sq1 c35_15
noncomputable def c35_17 : Code := sq2 c35_15
theorem wc35_15 : W tab ro F c35_15 K s = W tab ro F c35_16 (.sq c35_17 :: K) s := Wc_seq (show c35_15 = .seq c35_16 c35_17 from rfl)
noncomputable def c35_18 : Code := sq1 c35_16
noncomputable def c35_19 : Code := sq2 c35_16
theorem wc35_16 : W tab ro F c35_16 K s = W tab ro F c35_18 (.sq c35_19 :: K) s := Wc_seq (show c35_16 = .seq c35_18 c35_19 from rfl)
noncomputable def r35_4 : Array Oper := rg1 c35_18
theorem wc35_18 : W tab ro F c35_18 K s = I tab ro F r35_4 0 K s := Wc_region (show c35_18 = .region 4 r35_4 false from rfl)
theorem i35_4_0 : I tab ro F r35_4 0 K s = I1 tab ro F r35_4 1 K (setO s (some 11) (opd s (.tmp 5))) := I_plain rfl rfl (ev_move)
theorem i35_4_1 : I tab ro F r35_4 1 K s = I1 tab ro F r35_4 2 K (setO s (some 12) (opd s (.tmp 0))) := I_plain rfl rfl (ev_move)
theorem i35_4_2 : I tab ro F r35_4 2 K s = I1 tab ro F r35_4 3 K (setO s (some 13) (lenLO (opd s (.tmp 12)))) := I_plain rfl rfl (u_lenL rfl rfl)
theorem i35_4_3 : I tab ro F r35_4 3 K s = I1 tab ro F r35_4 4 K (setO s (some 14) (binO tab .lss 3 (.tmp 11) (.tmp 13) (opd s (.tmp 11)) (opd s (.tmp 13)))) := I_plain rfl rfl (ev_binOp.trans (congrArg (setO s _) u_bin))
theorem i35_4_e : I tab ro F r35_4 4 K s = kont tab ro F K .normal s := I_end rfl
noncomputable def c35_20 : Code := cd1 c35_19
noncomputable def c35_21 : Code := cd2 c35_19
theorem wc35_19 : W tab ro F c35_19 K s = C1 tab ro F c35_20 c35_21 K s (opd s (.tmp 14)) := Wc_cond (show c35_19 = .cond (.tmp 14) c35_20 c35_21 from rfl)
theorem wc35_20 : W tab ro F c35_20 K s = kont tab ro F K .normal s := Wc_skip (show c35_20 = .skip from rfl)
theorem wc35_21 : W tab ro F c35_21 K s = kont tab ro F K (.exit 0) s := Wc_exit (show c35_21 = .exit 0 from rfl)
noncomputable def c35_22 : Code := sq1 c35_17
noncomputable def c35_23 : Code := sq2 c35_17
theorem wc35_17 : W tab ro F c35_17 K s = W tab ro F c35_22 (.sq c35_23 :: K) s := Wc_seq (show c35_17 = .seq c35_22 c35_23 from rfl)
noncomputable def c35_24 : Code := bk1 c35_22
theorem wc35_22 : W tab ro F c35_22 K s = W tab ro F c35_24 (.bk 1 :: K) s := Wc_block (show c35_22 = .block 1 c35_24 from rfl)
noncomputable def c35_25 : Code := sq1 c35_24
noncomputable def c35_26 : Code := sq2 c35_24
theorem wc35_24 : W tab ro F c35_24 K s = W tab ro F c35_25 (.sq c35_26 :: K) s := Wc_seq (show c35_24 = .seq c35_25 c35_26 from rfl)
noncomputable def r35_6 : Array Oper := rg1 c35_25
theorem wc35_25 : W tab ro F c35_25 K s = D1 tab ro F K (evDr tab (evw tab) r35_6 s) := Wc_draw (show c35_25 = .region 6 r35_6 true from rfl)
def ms35_6 : Tr Nat := (.nd 0 (.nd 0 (.nd 7 (.nd 112 .lf .lf) .lf) (.nd 0 .lf .lf)) (.nd 3 (.nd 0 (.nd 255 .lf .lf) .lf) (.nd 48 .lf .lf)))
def wt35_6 : Tr Nat := (.nd 0 (.nd 0 (.nd 0 (.nd 0 .lf (.nd 7 .lf .lf)) (.nd 0 (.nd 3 .lf .lf) .lf)) (.nd 0 (.nd 0 (.nd 1 .lf .lf) (.nd 9 .lf .lf)) (.nd 0 (.nd 5 .lf .lf) .lf))) (.nd 0 (.nd 0 (.nd 0 .lf (.nd 8 .lf .lf)) (.nd 0 (.nd 4 .lf .lf) .lf)) (.nd 0 (.nd 0 (.nd 2 .lf .lf) .lf) (.nd 0 (.nd 6 .lf .lf) .lf))))
theorem xm35_6 : masks r35_6.toList 0 .lf = some ms35_6 := by kernel_rfl
theorem xw35_6 : writers r35_6.toList 0 .lf = some wt35_6 := by kernel_rfl
theorem xe35_6 : effIdx r35_6.toList 0 = [] := by kernel_rfl
theorem xc35_6 : (useJ true r35_6.toList && chain ms35_6 [] && dstsOk 26 r35_6.toList) = true := by kernel_rfl
noncomputable def D35_6 (t : Tr AV) (H0 : Tr AO) (hs0 : Nat) (ds : List Nat) : DI := ⟨r35_6, ms35_6, wt35_6, [], ⟨t, 26, H0, hs0, ds, true⟩⟩
theorem e35_6 {t : Tr AV} {H : Tr AO} {hs : Nat} {ds : List Nat} : evDr tab (evw tab) r35_6 ⟨t, 26, H, hs, ds, true⟩ = JE tab (D35_6 t H hs ds) t 26 ds (JR tab (evw tab) (D35_6 t H hs ds) 0 ⟨.lf, H, hs, [(H, hs)], []⟩) := evDr_J xm35_6 xw35_6 xe35_6 xc35_6
theorem y35_6 {t : Tr AV} {H0 : Tr AO} {hs0 : Nat} {ds : List Nat} : (D35_6 t H0 hs0 ds).es = [] := rfl
theorem z35_6 {t : Tr AV} {H0 : Tr AO} {hs0 : Nat} {ds : List Nat} {V : Tr AV} {t' : Tr AV} : putsD V (D35_6 t H0 hs0 ds).ops.toList 0 t' = (Tr.put .any (Tr.put .any (Tr.put .any (Tr.put .any (Tr.put .any (Tr.put .any (Tr.put .any (Tr.put .any (Tr.put .any t' 17 (V.get .any 0)) 18 (V.get .any 1)) 19 (V.get .any 2)) 20 (V.get .any 3)) 21 (V.get .any 4)) 22 (V.get .any 5)) 23 (V.get .any 6)) 24 (V.get .any 7)) 25 (V.get .any 8)) := rfl
theorem j35_6_0 {t : Tr AV} {H0 H : Tr AO} {hs0 hs : Nat} {ds : List Nat} {V : Tr AV} {hps : List (Tr AO × Nat)} {fs : List EffR} : JR tab (evw tab) (D35_6 t H0 hs0 ds) 0 ⟨V, H, hs, hps, fs⟩ = J1 tab (evw tab) (D35_6 t H0 hs0 ds) 1 (jput ⟨V, H, hs, hps, fs⟩ 0 ((some (t.get .any 0)))) := jr_plain (q := ⟨V, H, hs, hps, fs⟩) (rv := [(0, (t.get .any 0))]) (e := (some (t.get .any 0))) rfl rfl rfl (by kernel_rfl) ((ne_pure rfl).trans ((rfl).trans rfl))
theorem q35_6_0 : hbB ms35_6 [] 0 = true := by kernel_rfl
theorem a35_6_0 {t : Tr AV} {H0 : Tr AO} {hs0 : Nat} {ds : List Nat} {V : Tr AV} {hps : List (Tr AO × Nat)} : CA tab (D35_6 t H0 hs0 ds) hps V 0 = (vchk (V.get .any 0) ((some (t.get .any 0))) && CA tab (D35_6 t H0 hs0 ds) hps V 1) := ca_p (rv := [(0, (t.get .any 0))]) (e := (some (t.get .any 0))) rfl rfl rfl (by kernel_rfl) q35_6_0 ((rfl).trans rfl)
theorem j35_6_1 {t : Tr AV} {H0 H : Tr AO} {hs0 hs : Nat} {ds : List Nat} {V : Tr AV} {hps : List (Tr AO × Nat)} {fs : List EffR} : JR tab (evw tab) (D35_6 t H0 hs0 ds) 1 ⟨V, H, hs, hps, fs⟩ = J1 tab (evw tab) (D35_6 t H0 hs0 ds) 2 (jput ⟨V, H, hs, hps, fs⟩ 1 ((some (t.get .any 5)))) := jr_plain (q := ⟨V, H, hs, hps, fs⟩) (rv := [(5, (t.get .any 5))]) (e := (some (t.get .any 5))) rfl rfl rfl (by kernel_rfl) ((ne_pure rfl).trans ((rfl).trans rfl))
theorem q35_6_1 : hbB ms35_6 [] 1 = true := by kernel_rfl
theorem a35_6_1 {t : Tr AV} {H0 : Tr AO} {hs0 : Nat} {ds : List Nat} {V : Tr AV} {hps : List (Tr AO × Nat)} : CA tab (D35_6 t H0 hs0 ds) hps V 1 = (vchk (V.get .any 1) ((some (t.get .any 5))) && CA tab (D35_6 t H0 hs0 ds) hps V 2) := ca_p (rv := [(5, (t.get .any 5))]) (e := (some (t.get .any 5))) rfl rfl rfl (by kernel_rfl) q35_6_1 ((rfl).trans rfl)
theorem j35_6_2 {t : Tr AV} {H0 H : Tr AO} {hs0 hs : Nat} {ds : List Nat} {V : Tr AV} {hps : List (Tr AO × Nat)} {fs : List EffR} : JR tab (evw tab) (D35_6 t H0 hs0 ds) 2 ⟨V, H, hs, hps, fs⟩ = J1 tab (evw tab) (D35_6 t H0 hs0 ds) 3 (jput ⟨V, H, hs, hps, fs⟩ 2 (indexAddrO 4 (some (V.get .any 0)) (some (V.get .any 1)))) := jr_plain (q := ⟨V, H, hs, hps, fs⟩) (rv := [(17, (V.get .any 0)), (18, (V.get .any 1))]) (e := indexAddrO 4 (some (V.get .any 0)) (some (V.get .any 1))) rfl rfl rfl (by kernel_rfl) ((ne_pure rfl).trans ((u_indexAddr (n := 4) rfl rfl rfl rfl).trans rfl))
theorem q35_6_2 : hbB ms35_6 [] 2 = true := by kernel_rfl
theorem a35_6_2 {t : Tr AV} {H0 : Tr AO} {hs0 : Nat} {ds : List Nat} {V : Tr AV} {hps : List (Tr AO × Nat)} : CA tab (D35_6 t H0 hs0 ds) hps V 2 = (vchk (V.get .any 2) (indexAddrO 4 (some (V.get .any 0)) (some (V.get .any 1))) && CA tab (D35_6 t H0 hs0 ds) hps V 3) := ca_p (rv := [(17, (V.get .any 0)), (18, (V.get .any 1))]) (e := indexAddrO 4 (some (V.get .any 0)) (some (V.get .any 1))) rfl rfl rfl (by kernel_rfl) q35_6_2 ((u_indexAddr (n := 4) rfl rfl rfl rfl).trans rfl)
theorem j35_6_3 {t : Tr AV} {H0 H : Tr AO} {hs0 hs : Nat} {ds : List Nat} {V : Tr AV} {hps : List (Tr AO × Nat)} {fs : List EffR} : JR tab (evw tab) (D35_6 t H0 hs0 ds) 3 ⟨V, H, hs, hps, fs⟩ = J1 tab (evw tab) (D35_6 t H0 hs0 ds) 4 (jput ⟨V, H, hs, hps, fs⟩ 3 (loadO H true 4 (some (V.get .any 2)))) := jr_plain (q := ⟨V, H, hs, hps, fs⟩) (rv := [(19, (V.get .any 2))]) (e := loadO H true 4 (some (V.get .any 2))) rfl rfl rfl (by kernel_rfl) ((ne_read rfl).trans ((u_load (agg := true) (n := 4) rfl rfl rfl).trans rfl))
theorem q35_6_3 : hbB ms35_6 [] 3 = true := by kernel_rfl
theorem a35_6_3 {t : Tr AV} {H0 : Tr AO} {hs0 : Nat} {ds : List Nat} {V : Tr AV} {hps : List (Tr AO × Nat)} : CA tab (D35_6 t H0 hs0 ds) hps V 3 = (hchk 0 0 (fun H => loadO H true 4 (some (V.get .any 2))) (V.get .any 3) hps 0 && CA tab (D35_6 t H0 hs0 ds) hps V 4) := ca_h (rv := [(19, (V.get .any 2))]) (n := 1) (lo := 0) (hi := 0) (f := fun H => loadO H true 4 (some (V.get .any 2))) rfl rfl rfl rfl (by kernel_rfl) q35_6_3 (by kernel_rfl) (by kernel_rfl) (fun H => (ne_read rfl).trans ((u_load (agg := true) (n := 4) rfl rfl rfl).trans rfl))
theorem j35_6_4 {t : Tr AV} {H0 H : Tr AO} {hs0 hs : Nat} {ds : List Nat} {V : Tr AV} {hps : List (Tr AO × Nat)} {fs : List EffR} : JR tab (evw tab) (D35_6 t H0 hs0 ds) 4 ⟨V, H, hs, hps, fs⟩ = J1 tab (evw tab) (D35_6 t H0 hs0 ds) 5 (jput ⟨V, H, hs, hps, fs⟩ 4 ((some (t.get .any 1)))) := jr_plain (q := ⟨V, H, hs, hps, fs⟩) (rv := [(1, (t.get .any 1))]) (e := (some (t.get .any 1))) rfl rfl rfl (by kernel_rfl) ((ne_pure rfl).trans ((rfl).trans rfl))
theorem q35_6_4 : hbB ms35_6 [] 4 = true := by kernel_rfl
theorem a35_6_4 {t : Tr AV} {H0 : Tr AO} {hs0 : Nat} {ds : List Nat} {V : Tr AV} {hps : List (Tr AO × Nat)} : CA tab (D35_6 t H0 hs0 ds) hps V 4 = (vchk (V.get .any 4) ((some (t.get .any 1))) && CA tab (D35_6 t H0 hs0 ds) hps V 5) := ca_p (rv := [(1, (t.get .any 1))]) (e := (some (t.get .any 1))) rfl rfl rfl (by kernel_rfl) q35_6_4 ((rfl).trans rfl)
theorem j35_6_5 {t : Tr AV} {H0 H : Tr AO} {hs0 hs : Nat} {ds : List Nat} {V : Tr AV} {hps : List (Tr AO × Nat)} {fs : List EffR} : JR tab (evw tab) (D35_6 t H0 hs0 ds) 5 ⟨V, H, hs, hps, fs⟩ = J1 tab (evw tab) (D35_6 t H0 hs0 ds) 6 (jput ⟨V, H, hs, hps, fs⟩ 5 ((some (t.get .any 5)))) := jr_plain (q := ⟨V, H, hs, hps, fs⟩) (rv := [(5, (t.get .any 5))]) (e := (some (t.get .any 5))) rfl rfl rfl (by kernel_rfl) ((ne_pure rfl).trans ((rfl).trans rfl))
theorem q35_6_5 : hbB ms35_6 [] 5 = true := by kernel_rfl
theorem a35_6_5 {t : Tr AV} {H0 : Tr AO} {hs0 : Nat} {ds : List Nat} {V : Tr AV} {hps : List (Tr AO × Nat)} : CA tab (D35_6 t H0 hs0 ds) hps V 5 = (vchk (V.get .any 5) ((some (t.get .any 5))) && CA tab (D35_6 t H0 hs0 ds) hps V 6) := ca_p (rv := [(5, (t.get .any 5))]) (e := (some (t.get .any 5))) rfl rfl rfl (by kernel_rfl) q35_6_5 ((rfl).trans rfl)
theorem j35_6_6 {t : Tr AV} {H0 H : Tr AO} {hs0 hs : Nat} {ds : List Nat} {V : Tr AV} {hps : List (Tr AO × Nat)} {fs : List EffR} : JR tab (evw tab) (D35_6 t H0 hs0 ds) 6 ⟨V, H, hs, hps, fs⟩ = J1 tab (evw tab) (D35_6 t H0 hs0 ds) 7 (jput ⟨V, H, hs, hps, fs⟩ 6 (indexAddrO 4 (some (V.get .any 4)) (some (V.get .any 5)))) := jr_plain (q := ⟨V, H, hs, hps, fs⟩) (rv := [(21, (V.get .any 4)), (22, (V.get .any 5))]) (e := indexAddrO 4 (some (V.get .any 4)) (some (V.get .any 5))) rfl rfl rfl (by kernel_rfl) ((ne_pure rfl).trans ((u_indexAddr (n := 4) rfl rfl rfl rfl).trans rfl))
theorem q35_6_6 : hbB ms35_6 [] 6 = true := by kernel_rfl
theorem a35_6_6 {t : Tr AV} {H0 : Tr AO} {hs0 : Nat} {ds : List Nat} {V : Tr AV} {hps : List (Tr AO × Nat)} : CA tab (D35_6 t H0 hs0 ds) hps V 6 = (vchk (V.get .any 6) (indexAddrO 4 (some (V.get .any 4)) (some (V.get .any 5))) && CA tab (D35_6 t H0 hs0 ds) hps V 7) := ca_p (rv := [(21, (V.get .any 4)), (22, (V.get .any 5))]) (e := indexAddrO 4 (some (V.get .any 4)) (some (V.get .any 5))) rfl rfl rfl (by kernel_rfl) q35_6_6 ((u_indexAddr (n := 4) rfl rfl rfl rfl).trans rfl)
theorem j35_6_7 {t : Tr AV} {H0 H : Tr AO} {hs0 hs : Nat} {ds : List Nat} {V : Tr AV} {hps : List (Tr AO × Nat)} {fs : List EffR} : JR tab (evw tab) (D35_6 t H0 hs0 ds) 7 ⟨V, H, hs, hps, fs⟩ = J1 tab (evw tab) (D35_6 t H0 hs0 ds) 8 (jput ⟨V, H, hs, hps, fs⟩ 7 (loadO H true 4 (some (V.get .any 6)))) := jr_plain (q := ⟨V, H, hs, hps, fs⟩) (rv := [(23, (V.get .any 6))]) (e := loadO H true 4 (some (V.get .any 6))) rfl rfl rfl (by kernel_rfl) ((ne_read rfl).trans ((u_load (agg := true) (n := 4) rfl rfl rfl).trans rfl))
theorem q35_6_7 : hbB ms35_6 [] 7 = true := by kernel_rfl
theorem a35_6_7 {t : Tr AV} {H0 : Tr AO} {hs0 : Nat} {ds : List Nat} {V : Tr AV} {hps : List (Tr AO × Nat)} : CA tab (D35_6 t H0 hs0 ds) hps V 7 = (hchk 0 0 (fun H => loadO H true 4 (some (V.get .any 6))) (V.get .any 7) hps 0 && CA tab (D35_6 t H0 hs0 ds) hps V 8) := ca_h (rv := [(23, (V.get .any 6))]) (n := 1) (lo := 0) (hi := 0) (f := fun H => loadO H true 4 (some (V.get .any 6))) rfl rfl rfl rfl (by kernel_rfl) q35_6_7 (by kernel_rfl) (by kernel_rfl) (fun H => (ne_read rfl).trans ((u_load (agg := true) (n := 4) rfl rfl rfl).trans rfl))
theorem j35_6_8 {t : Tr AV} {H0 H : Tr AO} {hs0 hs : Nat} {ds : List Nat} {V : Tr AV} {hps : List (Tr AO × Nat)} {fs : List EffR} : JR tab (evw tab) (D35_6 t H0 hs0 ds) 8 ⟨V, H, hs, hps, fs⟩ = J1 tab (evw tab) (D35_6 t H0 hs0 ds) 9 (jput ⟨V, H, hs, hps, fs⟩ 8 (binO tab .neq 106 (.tmp 20) (.tmp 24) (some (V.get .any 3)) (some (V.get .any 7)))) := jr_plain (q := ⟨V, H, hs, hps, fs⟩) (rv := [(20, (V.get .any 3)), (24, (V.get .any 7))]) (e := binO tab .neq 106 (.tmp 20) (.tmp 24) (some (V.get .any 3)) (some (V.get .any 7))) rfl rfl rfl (by kernel_rfl) ((ne_pure rfl).trans ((u_bin).trans rfl))
theorem q35_6_8 : hbB ms35_6 [] 8 = true := by kernel_rfl
theorem a35_6_8 {t : Tr AV} {H0 : Tr AO} {hs0 : Nat} {ds : List Nat} {V : Tr AV} {hps : List (Tr AO × Nat)} : CA tab (D35_6 t H0 hs0 ds) hps V 8 = (vchk (V.get .any 8) (binO tab .neq 106 (.tmp 20) (.tmp 24) (some (V.get .any 3)) (some (V.get .any 7))) && CA tab (D35_6 t H0 hs0 ds) hps V 9) := ca_p (rv := [(20, (V.get .any 3)), (24, (V.get .any 7))]) (e := binO tab .neq 106 (.tmp 20) (.tmp 24) (some (V.get .any 3)) (some (V.get .any 7))) rfl rfl rfl (by kernel_rfl) q35_6_8 ((u_bin).trans rfl)
theorem j35_6_e {t : Tr AV} {H0 H : Tr AO} {hs0 hs : Nat} {ds : List Nat} {V : Tr AV} {hps : List (Tr AO × Nat)} {fs : List EffR} : JR tab (evw tab) (D35_6 t H0 hs0 ds) 9 ⟨V, H, hs, hps, fs⟩ = some ⟨V, H, hs, hps, fs⟩ := jr_end rfl
theorem a35_6_e {t : Tr AV} {H0 : Tr AO} {hs0 : Nat} {ds : List Nat} {V : Tr AV} {hps : List (Tr AO × Nat)} : CA tab (D35_6 t H0 hs0 ds) hps V 9 = true := ca_end rfl
noncomputable def c35_27 : Code := cd1 c35_26
noncomputable def c35_28 : Code := cd2 c35_26
theorem wc35_26 : W tab ro F c35_26 K s = C1 tab ro F c35_27 c35_28 K s (opd s (.tmp 25)) := Wc_cond (show c35_26 = .cond (.tmp 25) c35_27 c35_28 from rfl)
noncomputable def c35_29 : Code := sq1 c35_27
noncomputable def c35_30 : Code := sq2 c35_27
theorem wc35_27 : W tab ro F c35_27 K s = W tab ro F c35_29 (.sq c35_30 :: K) s := Wc_seq (show c35_27 = .seq c35_29 c35_30 from rfl)
noncomputable def r35_7 : Array Oper := rg1 c35_29
theorem wc35_29 : W tab ro F c35_29 K s = I tab ro F r35_7 0 K s := Wc_region (show c35_29 = .region 7 r35_7 false from rfl)
theorem i35_7_0 : I tab ro F r35_7 0 K s = I1 tab ro F r35_7 1 K (setO s (some 4) (opd s (.const (.bool false)))) := I_plain rfl rfl (ev_assign)
theorem i35_7_e : I tab ro F r35_7 1 K s = kont tab ro F K .normal s := I_end rfl
theorem wc35_30 : W tab ro F c35_30 K s = kont tab ro F K .ret s := Wc_ret (show c35_30 = .ret from rfl)
theorem wc35_28 : W tab ro F c35_28 K s = kont tab ro F K .normal s := Wc_skip (show c35_28 = .skip from rfl)
noncomputable def r35_5 : Array Oper := rg1 c35_23
theorem wc35_23 : W tab ro F c35_23 K s = I tab ro F r35_5 0 K s := Wc_region (show c35_23 = .region 5 r35_5 false from rfl)
theorem i35_5_0 : I tab ro F r35_5 0 K s = I1 tab ro F r35_5 1 K (setO s (some 15) (opd s (.tmp 5))) := I_plain rfl rfl (ev_move)
theorem i35_5_1 : I tab ro F r35_5 1 K s = I1 tab ro F r35_5 2 K (setO s (some 16) (binO tab .add 3 (.tmp 15) (.const (.int .i64 (1))) (opd s (.tmp 15)) (opd s (.const (.int .i64 (1)))))) := I_plain rfl rfl (ev_binOp.trans (congrArg (setO s _) u_bin))
theorem i35_5_2 : I tab ro F r35_5 2 K s = I1 tab ro F r35_5 3 K (setO s (some 5) (opd s (.tmp 16))) := I_plain rfl rfl (ev_assign)
theorem i35_5_e : I tab ro F r35_5 3 K s = kont tab ro F K .normal s := I_end rfl
noncomputable def c35_31 : Code := sq1 c35_11
noncomputable def c35_32 : Code := sq2 c35_11
theorem wc35_11 : W tab ro F c35_11 K s = W tab ro F c35_31 (.sq c35_32 :: K) s := Wc_seq (show c35_11 = .seq c35_31 c35_32 from rfl)
noncomputable def r35_8 : Array Oper := rg1 c35_31
theorem wc35_31 : W tab ro F c35_31 K s = I tab ro F r35_8 0 K s := Wc_region (show c35_31 = .region 8 r35_8 false from rfl)
theorem i35_8_0 : I tab ro F r35_8 0 K s = I1 tab ro F r35_8 1 K (setO s (some 4) (opd s (.const (.bool true)))) := I_plain rfl rfl (ev_assign)
theorem i35_8_e : I tab ro F r35_8 1 K s = kont tab ro F K .normal s := I_end rfl
theorem wc35_32 : W tab ro F c35_32 K s = kont tab ro F K .ret s := Wc_ret (show c35_32 = .ret from rfl)
theorem n35 : fi35.ntmps = 26 := rfl
theorem q35 : fi35.results = [.tmp 4] := rfl
theorem f35 : tab.f 35 = some fi35 := rfl
theorem b35 : fi35.body = c35 := rfl
theorem m35 : fi35.lm = 1 := rfl
-- NAMES 35 n35 q35 b35 m35  wc35 wc35_0 i35_0_0 i35_0_e wc35_1 wc35_2 wc35_4 i35_1_0 i35_1_1 i35_1_2 i35_1_3 i35_1_4 i35_1_e wc35_5 wc35_6 wc35_8 i35_2_0 i35_2_e wc35_9 wc35_7 wc35_3 wc35_10 wc35_12 i35_3_0 i35_3_e wc35_13 kc35_14 wc35_15 wc35_16 wc35_18 i35_4_0 i35_4_1 i35_4_2 i35_4_3 i35_4_e wc35_19 wc35_20 wc35_21 wc35_17 wc35_22 wc35_24 wc35_25 e35_6 y35_6 z35_6 j35_6_0 a35_6_0 j35_6_1 a35_6_1 j35_6_2 a35_6_2 j35_6_3 a35_6_3 j35_6_4 a35_6_4 j35_6_5 a35_6_5 j35_6_6 a35_6_6 j35_6_7 a35_6_7 j35_6_8 a35_6_8 j35_6_e a35_6_e wc35_26 wc35_27 wc35_29 i35_7_0 i35_7_e wc35_30 wc35_28 wc35_23 i35_5_0 i35_5_1 i35_5_2 i35_5_e wc35_11 wc35_31 i35_8_0 i35_8_e wc35_32
/-! 53: verderer/verdererref39.Kinds -/
noncomputable def c53 : Code := fi53.body
noncomputable def c53_0 : Code := sq1 c53
noncomputable def c53_1 : Code := sq2 c53
theorem wc53 : W tab ro F c53 K s = W tab ro F c53_0 (.sq c53_1 :: K) s := Wc_seq (show c53 = .seq c53_0 c53_1 from rfl)
noncomputable def r53_0 : Array Oper := rg1 c53_0
theorem wc53_0 : W tab ro F c53_0 K s = I tab ro F r53_0 0 K s := Wc_region (show c53_0 = .region 0 r53_0 false from rfl)
theorem i53_0_0 : I tab ro F r53_0 0 K s = I1 tab ro F r53_0 1 K (setO s (some 0) (opd s (.const (.slice none 0 0)))) := I_plain rfl rfl (ev_assign)
theorem i53_0_e : I tab ro F r53_0 1 K s = kont tab ro F K .normal s := I_end rfl
noncomputable def c53_2 : Code := sq1 c53_1
noncomputable def c53_3 : Code := sq2 c53_1
theorem wc53_1 : W tab ro F c53_1 K s = W tab ro F c53_2 (.sq c53_3 :: K) s := Wc_seq (show c53_1 = .seq c53_2 c53_3 from rfl)
noncomputable def r53_1 : Array Oper := rg1 c53_2
theorem wc53_2 : W tab ro F c53_2 K s = I tab ro F r53_1 0 K s := Wc_region (show c53_2 = .region 1 r53_1 false from rfl)
theorem i53_1_0 : I tab ro F r53_1 0 K s = I1 tab ro F r53_1 1 K (setO s (some 1) (buildO (placesL [(0, 1), (1, 1), (2, 1)]) [(.str []), (.lit (.int .i64 (0))), (.lit (.bool false))] (opdParts s [(0, (.const (.string ⟨#[105, 109, 97, 103, 101]⟩))), (1, (.const (.int .i64 (3))))]))) := I_plain rfl rfl (ev_build.trans (congrArg (setO s _) (u_build rfl rfl rfl rfl (places_eq rfl))))
theorem i53_1_1 : I tab ro F r53_1 1 K s = I1 tab ro F r53_1 2 K (setO s (some 2) (buildO (placesL [(0, 1), (1, 1), (2, 1)]) [(.str []), (.lit (.int .i64 (0))), (.lit (.bool false))] (opdParts s [(0, (.const (.string ⟨#[99, 112, 117]⟩))), (1, (.const (.int .i64 (2))))]))) := I_plain rfl rfl (ev_build.trans (congrArg (setO s _) (u_build rfl rfl rfl rfl (places_eq rfl))))
theorem i53_1_2 : I tab ro F r53_1 2 K s = I1 tab ro F r53_1 3 K (setN s (some 3) (buildSO s.lm s.hs 2 3 (.agg [(.str []), (.lit (.int .i64 (0))), (.lit (.bool false))]) (opdParts s [(0, (.tmp 1)), (1, (.tmp 2))]))) := I_plain rfl rfl (ev_buildSlice.trans (congrArg (setN s _) (u_buildSlice (n := 3) (z := (.agg [(.str []), (.lit (.int .i64 (0))), (.lit (.bool false))])) rfl rfl rfl rfl rfl rfl)))
theorem i53_1_3 : I tab ro F r53_1 3 K s = I1 tab ro F r53_1 4 K (setO s (some 4) (buildO (placesL [(0, 1), (1, 1)]) [(.str []), (.lit (.slice none 0 0))] (opdParts s [(0, (.const (.string ⟨#[112, 111, 100]⟩))), (1, (.tmp 3))]))) := I_plain rfl rfl (ev_build.trans (congrArg (setO s _) (u_build rfl rfl rfl rfl (places_eq rfl))))
theorem i53_1_4 : I tab ro F r53_1 4 K s = I1 tab ro F r53_1 5 K (setN s (some 5) (buildSO s.lm s.hs 1 2 (.agg [(.str []), (.lit (.slice none 0 0))]) (opdParts s [(0, (.tmp 4))]))) := I_plain rfl rfl (ev_buildSlice.trans (congrArg (setN s _) (u_buildSlice (n := 2) (z := (.agg [(.str []), (.lit (.slice none 0 0))])) rfl rfl rfl rfl rfl rfl)))
theorem i53_1_5 : I tab ro F r53_1 5 K s = I1 tab ro F r53_1 6 K (setO s (some 0) (opd s (.tmp 5))) := I_plain rfl rfl (ev_assign)
theorem i53_1_e : I tab ro F r53_1 6 K s = kont tab ro F K .normal s := I_end rfl
theorem wc53_3 : W tab ro F c53_3 K s = kont tab ro F K .ret s := Wc_ret (show c53_3 = .ret from rfl)
theorem n53 : fi53.ntmps = 6 := rfl
theorem q53 : fi53.results = [.tmp 0] := rfl
theorem f53 : tab.f 53 = some fi53 := rfl
theorem b53 : fi53.body = c53 := rfl
theorem m53 : fi53.lm = 1 := rfl
-- NAMES 53 n53 q53 b53 m53  wc53 wc53_0 i53_0_0 i53_0_e wc53_1 wc53_2 i53_1_0 i53_1_1 i53_1_2 i53_1_3 i53_1_4 i53_1_5 i53_1_e wc53_3
/-! 4: verderer/verdererlaw39.DrillSteps -/
noncomputable def c4 : Code := fi4.body
noncomputable def c4_0 : Code := sq1 c4
noncomputable def c4_1 : Code := sq2 c4
theorem wc4 : W tab ro F c4 K s = W tab ro F c4_0 (.sq c4_1 :: K) s := Wc_seq (show c4 = .seq c4_0 c4_1 from rfl)
noncomputable def r4_0 : Array Oper := rg1 c4_0
theorem wc4_0 : W tab ro F c4_0 K s = I tab ro F r4_0 0 K s := Wc_region (show c4_0 = .region 0 r4_0 false from rfl)
theorem i4_0_0 : I tab ro F r4_0 0 K s = I1 tab ro F r4_0 1 K (setO s (some 4) (opd s (.const (.bool false)))) := I_plain rfl rfl (ev_assign)
theorem i4_0_e : I tab ro F r4_0 1 K s = kont tab ro F K .normal s := I_end rfl
noncomputable def c4_2 : Code := sq1 c4_1
noncomputable def c4_3 : Code := sq2 c4_1
theorem wc4_1 : W tab ro F c4_1 K s = W tab ro F c4_2 (.sq c4_3 :: K) s := Wc_seq (show c4_1 = .seq c4_2 c4_3 from rfl)
noncomputable def r4_1 : Array Oper := rg1 c4_2
theorem wc4_2 : W tab ro F c4_2 K s = I tab ro F r4_1 0 K s := Wc_region (show c4_2 = .region 1 r4_1 false from rfl)
theorem i4_1_0 : I tab ro F r4_1 0 K s = I1 tab ro F r4_1 1 K (setO s (some 15) (opd s (.tmp 0))) := I_plain rfl rfl (ev_move)
theorem i4_1_1 : I tab ro F r4_1 1 K s = I1 tab ro F r4_1 2 K (setE s (some 16) (callG tab (evw tab) s 12 (opds s [(.tmp 15)]))) := I_plain rfl rfl (u_call)
theorem i4_1_2 : I tab ro F r4_1 2 K s = I1 tab ro F r4_1 3 K (setO s (some 5) (opd s (.tmp 16))) := I_plain rfl rfl (ev_assign)
theorem i4_1_e : I tab ro F r4_1 3 K s = kont tab ro F K .normal s := I_end rfl
noncomputable def c4_4 : Code := sq1 c4_3
noncomputable def c4_5 : Code := sq2 c4_3
theorem wc4_3 : W tab ro F c4_3 K s = W tab ro F c4_4 (.sq c4_5 :: K) s := Wc_seq (show c4_3 = .seq c4_4 c4_5 from rfl)
noncomputable def r4_2 : Array Oper := rg1 c4_4
theorem wc4_4 : W tab ro F c4_4 K s = I tab ro F r4_2 0 K s := Wc_region (show c4_4 = .region 2 r4_2 false from rfl)
theorem i4_2_0 : I tab ro F r4_2 0 K s = I1 tab ro F r4_2 1 K (setO s (some 17) (opd s (.tmp 0))) := I_plain rfl rfl (ev_move)
theorem i4_2_1 : I tab ro F r4_2 1 K s = I1 tab ro F r4_2 2 K (setO s (some 18) (buildO (placesL [(0, 1)]) [(.lit (.int .u64 (0)))] (opdParts s [(0, (.tmp 17))]))) := I_plain rfl rfl (ev_build.trans (congrArg (setO s _) (u_build rfl rfl rfl rfl (places_eq rfl))))
theorem i4_2_2 : I tab ro F r4_2 2 K s = I1 tab ro F r4_2 3 K (setN s (some 19) (boxO (opd s (.tmp 18)) s.hs)) := I_plain rfl rfl (ev_box.trans (congrArg (setN s _) u_box))
theorem i4_2_3 : I tab ro F r4_2 3 K s = I1 tab ro F r4_2 4 K (setO s (some 6) (opd s (.tmp 19))) := I_plain rfl rfl (ev_assign)
theorem i4_2_e : I tab ro F r4_2 4 K s = kont tab ro F K .normal s := I_end rfl
noncomputable def c4_6 : Code := sq1 c4_5
noncomputable def c4_7 : Code := sq2 c4_5
theorem wc4_5 : W tab ro F c4_5 K s = W tab ro F c4_6 (.sq c4_7 :: K) s := Wc_seq (show c4_5 = .seq c4_6 c4_7 from rfl)
noncomputable def c4_8 : Code := sq1 c4_6
noncomputable def c4_9 : Code := sq2 c4_6
theorem wc4_6 : W tab ro F c4_6 K s = W tab ro F c4_8 (.sq c4_9 :: K) s := Wc_seq (show c4_6 = .seq c4_8 c4_9 from rfl)
noncomputable def r4_3 : Array Oper := rg1 c4_8
theorem wc4_8 : W tab ro F c4_8 K s = I tab ro F r4_3 0 K s := Wc_region (show c4_8 = .region 3 r4_3 false from rfl)
theorem i4_3_0 : I tab ro F r4_3 0 K s = I1 tab ro F r4_3 1 K (setO s (some 7) (opd s (.const (.int .i64 (0))))) := I_plain rfl rfl (ev_assign)
theorem i4_3_e : I tab ro F r4_3 1 K s = kont tab ro F K .normal s := I_end rfl
noncomputable def c4_10 : Code := bk1 c4_9
theorem wc4_9 : W tab ro F c4_9 K s = W tab ro F c4_10 (.bk 0 :: K) s := Wc_block (show c4_9 = .block 0 c4_10 from rfl)
noncomputable def c4_11 : Code := lp1 c4_10
theorem lc4_10 : W tab ro F c4_10 K s = W tab ro F c4_11 (.lp c4_11 :: K) s := Wc_loop (show c4_10 = .loop c4_11 from rfl)
theorem kc4_10 : kont tab ro F (.lp c4_11 :: K) .normal s = W tab ro F c4_10 K s := Wc_again (show c4_10 = .loop c4_11 from rfl)
noncomputable def c4_12 : Code := sq1 c4_11
noncomputable def c4_13 : Code := sq2 c4_11
theorem wc4_11 : W tab ro F c4_11 K s = W tab ro F c4_12 (.sq c4_13 :: K) s := Wc_seq (show c4_11 = .seq c4_12 c4_13 from rfl)
noncomputable def c4_14 : Code := sq1 c4_12
noncomputable def c4_15 : Code := sq2 c4_12
theorem wc4_12 : W tab ro F c4_12 K s = W tab ro F c4_14 (.sq c4_15 :: K) s := Wc_seq (show c4_12 = .seq c4_14 c4_15 from rfl)
noncomputable def r4_4 : Array Oper := rg1 c4_14
theorem wc4_14 : W tab ro F c4_14 K s = I tab ro F r4_4 0 K s := Wc_region (show c4_14 = .region 4 r4_4 false from rfl)
theorem i4_4_0 : I tab ro F r4_4 0 K s = I1 tab ro F r4_4 1 K (setO s (some 20) (opd s (.tmp 7))) := I_plain rfl rfl (ev_move)
theorem i4_4_1 : I tab ro F r4_4 1 K s = I1 tab ro F r4_4 2 K (setO s (some 21) (binO tab .lss 3 (.tmp 20) (.const (.int .i64 (30))) (opd s (.tmp 20)) (opd s (.const (.int .i64 (30)))))) := I_plain rfl rfl (ev_binOp.trans (congrArg (setO s _) u_bin))
theorem i4_4_e : I tab ro F r4_4 2 K s = kont tab ro F K .normal s := I_end rfl
noncomputable def c4_16 : Code := cd1 c4_15
noncomputable def c4_17 : Code := cd2 c4_15
theorem wc4_15 : W tab ro F c4_15 K s = C1 tab ro F c4_16 c4_17 K s (opd s (.tmp 21)) := Wc_cond (show c4_15 = .cond (.tmp 21) c4_16 c4_17 from rfl)
theorem wc4_16 : W tab ro F c4_16 K s = kont tab ro F K .normal s := Wc_skip (show c4_16 = .skip from rfl)
theorem wc4_17 : W tab ro F c4_17 K s = kont tab ro F K (.exit 0) s := Wc_exit (show c4_17 = .exit 0 from rfl)
noncomputable def c4_18 : Code := sq1 c4_13
noncomputable def c4_19 : Code := sq2 c4_13
theorem wc4_13 : W tab ro F c4_13 K s = W tab ro F c4_18 (.sq c4_19 :: K) s := Wc_seq (show c4_13 = .seq c4_18 c4_19 from rfl)
noncomputable def c4_20 : Code := bk1 c4_18
theorem wc4_18 : W tab ro F c4_18 K s = W tab ro F c4_20 (.bk 1 :: K) s := Wc_block (show c4_18 = .block 1 c4_20 from rfl)
noncomputable def c4_21 : Code := sq1 c4_20
noncomputable def c4_22 : Code := sq2 c4_20
theorem wc4_20 : W tab ro F c4_20 K s = W tab ro F c4_21 (.sq c4_22 :: K) s := Wc_seq (show c4_20 = .seq c4_21 c4_22 from rfl)
noncomputable def r4_6 : Array Oper := rg1 c4_21
theorem wc4_21 : W tab ro F c4_21 K s = I tab ro F r4_6 0 K s := Wc_region (show c4_21 = .region 6 r4_6 false from rfl)
theorem i4_6_0 : I tab ro F r4_6 0 K s = I1 tab ro F r4_6 1 K (setO s (some 24) (opd s (.tmp 5))) := I_plain rfl rfl (ev_move)
theorem i4_6_1 : I tab ro F r4_6 1 K s = I1 tab ro F r4_6 2 K (setE s (some 25) (callG tab (evw tab) s 19 (opds s [(.tmp 24)]))) := I_plain rfl rfl (u_call)
theorem i4_6_2 : I tab ro F r4_6 2 K s = I1 tab ro F r4_6 3 K (setO s (some 26) (opd s (.tmp 6))) := I_plain rfl rfl (ev_move)
theorem i4_6_3 : I tab ro F r4_6 3 K s = I1 tab ro F r4_6 4 K (setE s (some 27) (callG tab (evw tab) s 20 (opds s [(.tmp 26)]))) := I_plain rfl rfl (u_call)
theorem i4_6_4 : I tab ro F r4_6 4 K s = I1 tab ro F r4_6 5 K (setE s (some 28) (callG tab (evw tab) s 18 (opds s [(.tmp 25), (.tmp 27)]))) := I_plain rfl rfl (u_call)
theorem i4_6_5 : I tab ro F r4_6 5 K s = I1 tab ro F r4_6 6 K (setO s (some 29) (unO .not (opd s (.tmp 28)))) := I_plain rfl rfl (ev_unOp.trans (congrArg (setO s _) u_un))
theorem i4_6_e : I tab ro F r4_6 6 K s = kont tab ro F K .normal s := I_end rfl
noncomputable def c4_23 : Code := cd1 c4_22
noncomputable def c4_24 : Code := cd2 c4_22
theorem wc4_22 : W tab ro F c4_22 K s = C1 tab ro F c4_23 c4_24 K s (opd s (.tmp 29)) := Wc_cond (show c4_22 = .cond (.tmp 29) c4_23 c4_24 from rfl)
noncomputable def c4_25 : Code := sq1 c4_23
noncomputable def c4_26 : Code := sq2 c4_23
theorem wc4_23 : W tab ro F c4_23 K s = W tab ro F c4_25 (.sq c4_26 :: K) s := Wc_seq (show c4_23 = .seq c4_25 c4_26 from rfl)
noncomputable def r4_7 : Array Oper := rg1 c4_25
theorem wc4_25 : W tab ro F c4_25 K s = I tab ro F r4_7 0 K s := Wc_region (show c4_25 = .region 7 r4_7 false from rfl)
theorem i4_7_0 : I tab ro F r4_7 0 K s = I1 tab ro F r4_7 1 K (setO s (some 4) (opd s (.const (.bool false)))) := I_plain rfl rfl (ev_assign)
theorem i4_7_e : I tab ro F r4_7 1 K s = kont tab ro F K .normal s := I_end rfl
theorem wc4_26 : W tab ro F c4_26 K s = kont tab ro F K .ret s := Wc_ret (show c4_26 = .ret from rfl)
theorem wc4_24 : W tab ro F c4_24 K s = kont tab ro F K .normal s := Wc_skip (show c4_24 = .skip from rfl)
noncomputable def r4_5 : Array Oper := rg1 c4_19
theorem wc4_19 : W tab ro F c4_19 K s = I tab ro F r4_5 0 K s := Wc_region (show c4_19 = .region 5 r4_5 false from rfl)
theorem i4_5_0 : I tab ro F r4_5 0 K s = I1 tab ro F r4_5 1 K (setO s (some 22) (opd s (.tmp 7))) := I_plain rfl rfl (ev_move)
theorem i4_5_1 : I tab ro F r4_5 1 K s = I1 tab ro F r4_5 2 K (setO s (some 23) (binO tab .add 3 (.tmp 22) (.const (.int .i64 (1))) (opd s (.tmp 22)) (opd s (.const (.int .i64 (1)))))) := I_plain rfl rfl (ev_binOp.trans (congrArg (setO s _) u_bin))
theorem i4_5_2 : I tab ro F r4_5 2 K s = I1 tab ro F r4_5 3 K (setO s (some 7) (opd s (.tmp 23))) := I_plain rfl rfl (ev_assign)
theorem i4_5_e : I tab ro F r4_5 3 K s = kont tab ro F K .normal s := I_end rfl
noncomputable def c4_27 : Code := sq1 c4_7
noncomputable def c4_28 : Code := sq2 c4_7
theorem wc4_7 : W tab ro F c4_7 K s = W tab ro F c4_27 (.sq c4_28 :: K) s := Wc_seq (show c4_7 = .seq c4_27 c4_28 from rfl)
noncomputable def r4_8 : Array Oper := rg1 c4_27
theorem wc4_27 : W tab ro F c4_27 K s = I tab ro F r4_8 0 K s := Wc_region (show c4_27 = .region 8 r4_8 false from rfl)
theorem i4_8_0 : I tab ro F r4_8 0 K s = I1 tab ro F r4_8 1 K (setO s (some 31) (opd s (.tmp 0))) := I_plain rfl rfl (ev_move)
theorem i4_8_1 : I tab ro F r4_8 1 K s = I1 tab ro F r4_8 2 K (setO s (some 32) (opd s (.tmp 1))) := I_plain rfl rfl (ev_move)
theorem i4_8_2 : I tab ro F r4_8 2 K s = I1 tab ro F r4_8 3 K (setE s (some 33) (callG tab (evw tab) s 21 (opds s [(.tmp 31), (.tmp 32)]))) := I_plain rfl rfl (u_call)
theorem i4_8_3 : I tab ro F r4_8 3 K s = I1 tab ro F r4_8 4 K (setO s (some 30) (opd s (.tmp 33))) := I_plain rfl rfl (ev_move)
theorem i4_8_4 : I tab ro F r4_8 4 K s = I1 tab ro F r4_8 5 K (setO s (some 34) (extractO 0 (opd s (.tmp 30)))) := I_plain rfl rfl (ev_extract.trans (congrArg (setO s _) u_extract))
theorem i4_8_5 : I tab ro F r4_8 5 K s = I1 tab ro F r4_8 6 K (setO s (some 35) (extractO 1 (opd s (.tmp 30)))) := I_plain rfl rfl (ev_extract.trans (congrArg (setO s _) u_extract))
theorem i4_8_6 : I tab ro F r4_8 6 K s = I1 tab ro F r4_8 7 K (setO s (some 36) (extractO 2 (opd s (.tmp 30)))) := I_plain rfl rfl (ev_extract.trans (congrArg (setO s _) u_extract))
theorem i4_8_7 : I tab ro F r4_8 7 K s = I1 tab ro F r4_8 8 K (setO s (some 8) (opd s (.tmp 34))) := I_plain rfl rfl (ev_assign)
theorem i4_8_8 : I tab ro F r4_8 8 K s = I1 tab ro F r4_8 9 K (setO s (some 9) (opd s (.tmp 35))) := I_plain rfl rfl (ev_assign)
theorem i4_8_9 : I tab ro F r4_8 9 K s = I1 tab ro F r4_8 10 K (setO s (some 10) (opd s (.tmp 36))) := I_plain rfl rfl (ev_assign)
theorem i4_8_e : I tab ro F r4_8 10 K s = kont tab ro F K .normal s := I_end rfl
noncomputable def c4_29 : Code := sq1 c4_28
noncomputable def c4_30 : Code := sq2 c4_28
theorem wc4_28 : W tab ro F c4_28 K s = W tab ro F c4_29 (.sq c4_30 :: K) s := Wc_seq (show c4_28 = .seq c4_29 c4_30 from rfl)
noncomputable def r4_9 : Array Oper := rg1 c4_29
theorem wc4_29 : W tab ro F c4_29 K s = I tab ro F r4_9 0 K s := Wc_region (show c4_29 = .region 9 r4_9 false from rfl)
theorem i4_9_0 : I tab ro F r4_9 0 K s = I1 tab ro F r4_9 1 K (setO s (some 38) (opd s (.tmp 0))) := I_plain rfl rfl (ev_move)
theorem i4_9_1 : I tab ro F r4_9 1 K s = I1 tab ro F r4_9 2 K (setO s (some 39) (opd s (.tmp 1))) := I_plain rfl rfl (ev_move)
theorem i4_9_2 : I tab ro F r4_9 2 K s = I1 tab ro F r4_9 3 K (setE s (some 40) (callG tab (evw tab) s 22 (opds s [(.tmp 38), (.tmp 39)]))) := I_plain rfl rfl (u_call)
theorem i4_9_3 : I tab ro F r4_9 3 K s = I1 tab ro F r4_9 4 K (setO s (some 37) (opd s (.tmp 40))) := I_plain rfl rfl (ev_move)
theorem i4_9_4 : I tab ro F r4_9 4 K s = I1 tab ro F r4_9 5 K (setO s (some 41) (extractO 0 (opd s (.tmp 37)))) := I_plain rfl rfl (ev_extract.trans (congrArg (setO s _) u_extract))
theorem i4_9_5 : I tab ro F r4_9 5 K s = I1 tab ro F r4_9 6 K (setO s (some 42) (extractO 1 (opd s (.tmp 37)))) := I_plain rfl rfl (ev_extract.trans (congrArg (setO s _) u_extract))
theorem i4_9_6 : I tab ro F r4_9 6 K s = I1 tab ro F r4_9 7 K (setO s (some 43) (extractO 2 (opd s (.tmp 37)))) := I_plain rfl rfl (ev_extract.trans (congrArg (setO s _) u_extract))
theorem i4_9_7 : I tab ro F r4_9 7 K s = I1 tab ro F r4_9 8 K (setO s (some 11) (opd s (.tmp 41))) := I_plain rfl rfl (ev_assign)
theorem i4_9_8 : I tab ro F r4_9 8 K s = I1 tab ro F r4_9 9 K (setO s (some 12) (opd s (.tmp 42))) := I_plain rfl rfl (ev_assign)
theorem i4_9_9 : I tab ro F r4_9 9 K s = I1 tab ro F r4_9 10 K (setO s (some 13) (opd s (.tmp 43))) := I_plain rfl rfl (ev_assign)
theorem i4_9_e : I tab ro F r4_9 10 K s = kont tab ro F K .normal s := I_end rfl
noncomputable def c4_31 : Code := sq1 c4_30
noncomputable def c4_32 : Code := sq2 c4_30
theorem wc4_30 : W tab ro F c4_30 K s = W tab ro F c4_31 (.sq c4_32 :: K) s := Wc_seq (show c4_30 = .seq c4_31 c4_32 from rfl)
noncomputable def c4_33 : Code := sq1 c4_31
noncomputable def c4_34 : Code := sq2 c4_31
theorem wc4_31 : W tab ro F c4_31 K s = W tab ro F c4_33 (.sq c4_34 :: K) s := Wc_seq (show c4_31 = .seq c4_33 c4_34 from rfl)
noncomputable def r4_10 : Array Oper := rg1 c4_33
theorem wc4_33 : W tab ro F c4_33 K s = I tab ro F r4_10 0 K s := Wc_region (show c4_33 = .region 10 r4_10 false from rfl)
theorem i4_10_0 : I tab ro F r4_10 0 K s = I1 tab ro F r4_10 1 K (setO s (some 44) (opd s (.tmp 8))) := I_plain rfl rfl (ev_move)
theorem i4_10_1 : I tab ro F r4_10 1 K s = I1 tab ro F r4_10 2 K (setO s (some 45) (lenLO (opd s (.tmp 44)))) := I_plain rfl rfl (u_lenL rfl rfl)
theorem i4_10_2 : I tab ro F r4_10 2 K s = I1 tab ro F r4_10 3 K (setO s (some 46) (opd s (.tmp 11))) := I_plain rfl rfl (ev_move)
theorem i4_10_3 : I tab ro F r4_10 3 K s = I1 tab ro F r4_10 4 K (setO s (some 47) (lenLO (opd s (.tmp 46)))) := I_plain rfl rfl (u_lenL rfl rfl)
theorem i4_10_4 : I tab ro F r4_10 4 K s = I1 tab ro F r4_10 5 K (setO s (some 48) (binO tab .neq 3 (.tmp 45) (.tmp 47) (opd s (.tmp 45)) (opd s (.tmp 47)))) := I_plain rfl rfl (ev_binOp.trans (congrArg (setO s _) u_bin))
theorem i4_10_5 : I tab ro F r4_10 5 K s = I1 tab ro F r4_10 6 K (setO s (some 49) (opd s (.tmp 48))) := I_plain rfl rfl (ev_move)
theorem i4_10_6 : I tab ro F r4_10 6 K s = IG tab ro F r4_10 7 K false (setO s (some 50) (opd s (.tmp 9))) (setT s (some 50) udef) (opd s (.tmp 49)) := I_guard (d := (some 50)) rfl rfl rfl rfl rfl (ev_move)
theorem i4_10_7 : I tab ro F r4_10 7 K s = IG tab ro F r4_10 8 K false (setO s (some 51) (opd s (.tmp 12))) (setT s (some 51) udef) (opd s (.tmp 49)) := I_guard (d := (some 51)) rfl rfl rfl rfl rfl (ev_move)
theorem i4_10_8 : I tab ro F r4_10 8 K s = IG tab ro F r4_10 9 K false (setE s (some 52) (callG tab (evw tab) s 23 (opds s [(.tmp 50), (.tmp 51)]))) (setT s (some 52) udef) (opd s (.tmp 49)) := I_guard (d := (some 52)) rfl rfl rfl rfl rfl (u_call)
theorem i4_10_9 : I tab ro F r4_10 9 K s = IG tab ro F r4_10 10 K false (setO s (some 53) (unO .not (opd s (.tmp 52)))) (setT s (some 53) udef) (opd s (.tmp 49)) := I_guard (d := (some 53)) rfl rfl rfl rfl rfl (ev_unOp.trans (congrArg (setO s _) u_un))
theorem i4_10_10 : I tab ro F r4_10 10 K s = I1 tab ro F r4_10 11 K (setO s (some 54) (pickO (opd s (.tmp 49)) (opd s (.const (.bool true))) (opd s (.tmp 53)))) := I_plain rfl rfl (ev_pick.trans (congrArg (setO s _) u_pick))
theorem i4_10_11 : I tab ro F r4_10 11 K s = I1 tab ro F r4_10 12 K (setO s (some 55) (opd s (.tmp 54))) := I_plain rfl rfl (ev_move)
theorem i4_10_12 : I tab ro F r4_10 12 K s = IG tab ro F r4_10 13 K false (setO s (some 56) (opd s (.tmp 10))) (setT s (some 56) udef) (opd s (.tmp 55)) := I_guard (d := (some 56)) rfl rfl rfl rfl rfl (ev_move)
theorem i4_10_13 : I tab ro F r4_10 13 K s = IG tab ro F r4_10 14 K false (setO s (some 57) (opd s (.tmp 13))) (setT s (some 57) udef) (opd s (.tmp 55)) := I_guard (d := (some 57)) rfl rfl rfl rfl rfl (ev_move)
theorem i4_10_14 : I tab ro F r4_10 14 K s = IG tab ro F r4_10 15 K false (setO s (some 58) (binO tab .neq 46 (.tmp 56) (.tmp 57) (opd s (.tmp 56)) (opd s (.tmp 57)))) (setT s (some 58) udef) (opd s (.tmp 55)) := I_guard (d := (some 58)) rfl rfl rfl rfl rfl (ev_binOp.trans (congrArg (setO s _) u_bin))
theorem i4_10_15 : I tab ro F r4_10 15 K s = I1 tab ro F r4_10 16 K (setO s (some 59) (pickO (opd s (.tmp 55)) (opd s (.const (.bool true))) (opd s (.tmp 58)))) := I_plain rfl rfl (ev_pick.trans (congrArg (setO s _) u_pick))
theorem i4_10_e : I tab ro F r4_10 16 K s = kont tab ro F K .normal s := I_end rfl
noncomputable def c4_35 : Code := cd1 c4_34
noncomputable def c4_36 : Code := cd2 c4_34
theorem wc4_34 : W tab ro F c4_34 K s = C1 tab ro F c4_35 c4_36 K s (opd s (.tmp 59)) := Wc_cond (show c4_34 = .cond (.tmp 59) c4_35 c4_36 from rfl)
noncomputable def c4_37 : Code := sq1 c4_35
noncomputable def c4_38 : Code := sq2 c4_35
theorem wc4_35 : W tab ro F c4_35 K s = W tab ro F c4_37 (.sq c4_38 :: K) s := Wc_seq (show c4_35 = .seq c4_37 c4_38 from rfl)
noncomputable def r4_11 : Array Oper := rg1 c4_37
theorem wc4_37 : W tab ro F c4_37 K s = I tab ro F r4_11 0 K s := Wc_region (show c4_37 = .region 11 r4_11 false from rfl)
theorem i4_11_0 : I tab ro F r4_11 0 K s = I1 tab ro F r4_11 1 K (setO s (some 4) (opd s (.const (.bool false)))) := I_plain rfl rfl (ev_assign)
theorem i4_11_e : I tab ro F r4_11 1 K s = kont tab ro F K .normal s := I_end rfl
theorem wc4_38 : W tab ro F c4_38 K s = kont tab ro F K .ret s := Wc_ret (show c4_38 = .ret from rfl)
theorem wc4_36 : W tab ro F c4_36 K s = kont tab ro F K .normal s := Wc_skip (show c4_36 = .skip from rfl)
noncomputable def c4_39 : Code := sq1 c4_32
noncomputable def c4_40 : Code := sq2 c4_32
theorem wc4_32 : W tab ro F c4_32 K s = W tab ro F c4_39 (.sq c4_40 :: K) s := Wc_seq (show c4_32 = .seq c4_39 c4_40 from rfl)
noncomputable def c4_41 : Code := sq1 c4_39
noncomputable def c4_42 : Code := sq2 c4_39
theorem wc4_39 : W tab ro F c4_39 K s = W tab ro F c4_41 (.sq c4_42 :: K) s := Wc_seq (show c4_39 = .seq c4_41 c4_42 from rfl)
noncomputable def r4_12 : Array Oper := rg1 c4_41
theorem wc4_41 : W tab ro F c4_41 K s = I tab ro F r4_12 0 K s := Wc_region (show c4_41 = .region 12 r4_12 false from rfl)
theorem i4_12_0 : I tab ro F r4_12 0 K s = I1 tab ro F r4_12 1 K (setO s (some 14) (opd s (.const (.int .i64 (0))))) := I_plain rfl rfl (ev_assign)
theorem i4_12_e : I tab ro F r4_12 1 K s = kont tab ro F K .normal s := I_end rfl
noncomputable def c4_43 : Code := bk1 c4_42
theorem wc4_42 : W tab ro F c4_42 K s = W tab ro F c4_43 (.bk 2 :: K) s := Wc_block (show c4_42 = .block 2 c4_43 from rfl)
noncomputable def c4_44 : Code := lp1 c4_43
theorem lc4_43 : W tab ro F c4_43 K s = W tab ro F c4_44 (.lp c4_44 :: K) s := Wc_loop (show c4_43 = .loop c4_44 from rfl)
theorem kc4_43 : kont tab ro F (.lp c4_44 :: K) .normal s = W tab ro F c4_43 K s := Wc_again (show c4_43 = .loop c4_44 from rfl)
noncomputable def c4_45 : Code := sq1 c4_44
noncomputable def c4_46 : Code := sq2 c4_44
theorem wc4_44 : W tab ro F c4_44 K s = W tab ro F c4_45 (.sq c4_46 :: K) s := Wc_seq (show c4_44 = .seq c4_45 c4_46 from rfl)
noncomputable def c4_47 : Code := sq1 c4_45
noncomputable def c4_48 : Code := sq2 c4_45
theorem wc4_45 : W tab ro F c4_45 K s = W tab ro F c4_47 (.sq c4_48 :: K) s := Wc_seq (show c4_45 = .seq c4_47 c4_48 from rfl)
noncomputable def r4_13 : Array Oper := rg1 c4_47
theorem wc4_47 : W tab ro F c4_47 K s = I tab ro F r4_13 0 K s := Wc_region (show c4_47 = .region 13 r4_13 false from rfl)
theorem i4_13_0 : I tab ro F r4_13 0 K s = I1 tab ro F r4_13 1 K (setO s (some 60) (opd s (.tmp 14))) := I_plain rfl rfl (ev_move)
theorem i4_13_1 : I tab ro F r4_13 1 K s = I1 tab ro F r4_13 2 K (setO s (some 61) (opd s (.tmp 8))) := I_plain rfl rfl (ev_move)
theorem i4_13_2 : I tab ro F r4_13 2 K s = I1 tab ro F r4_13 3 K (setO s (some 62) (lenLO (opd s (.tmp 61)))) := I_plain rfl rfl (u_lenL rfl rfl)
theorem i4_13_3 : I tab ro F r4_13 3 K s = I1 tab ro F r4_13 4 K (setO s (some 63) (binO tab .lss 3 (.tmp 60) (.tmp 62) (opd s (.tmp 60)) (opd s (.tmp 62)))) := I_plain rfl rfl (ev_binOp.trans (congrArg (setO s _) u_bin))
theorem i4_13_e : I tab ro F r4_13 4 K s = kont tab ro F K .normal s := I_end rfl
noncomputable def c4_49 : Code := cd1 c4_48
noncomputable def c4_50 : Code := cd2 c4_48
theorem wc4_48 : W tab ro F c4_48 K s = C1 tab ro F c4_49 c4_50 K s (opd s (.tmp 63)) := Wc_cond (show c4_48 = .cond (.tmp 63) c4_49 c4_50 from rfl)
theorem wc4_49 : W tab ro F c4_49 K s = kont tab ro F K .normal s := Wc_skip (show c4_49 = .skip from rfl)
theorem wc4_50 : W tab ro F c4_50 K s = kont tab ro F K (.exit 2) s := Wc_exit (show c4_50 = .exit 2 from rfl)
noncomputable def c4_51 : Code := sq1 c4_46
noncomputable def c4_52 : Code := sq2 c4_46
theorem wc4_46 : W tab ro F c4_46 K s = W tab ro F c4_51 (.sq c4_52 :: K) s := Wc_seq (show c4_46 = .seq c4_51 c4_52 from rfl)
noncomputable def c4_53 : Code := bk1 c4_51
theorem wc4_51 : W tab ro F c4_51 K s = W tab ro F c4_53 (.bk 3 :: K) s := Wc_block (show c4_51 = .block 3 c4_53 from rfl)
noncomputable def c4_54 : Code := sq1 c4_53
noncomputable def c4_55 : Code := sq2 c4_53
theorem wc4_53 : W tab ro F c4_53 K s = W tab ro F c4_54 (.sq c4_55 :: K) s := Wc_seq (show c4_53 = .seq c4_54 c4_55 from rfl)
noncomputable def r4_15 : Array Oper := rg1 c4_54
theorem wc4_54 : W tab ro F c4_54 K s = D1 tab ro F K (evDr tab (evw tab) r4_15 s) := Wc_draw (show c4_54 = .region 15 r4_15 true from rfl)
def ms4_15 : Tr Nat := (.nd 0 (.nd 0 (.nd 7 (.nd 112 .lf .lf) .lf) (.nd 0 (.nd 511 .lf .lf) .lf)) (.nd 3 (.nd 0 (.nd 255 .lf .lf) .lf) (.nd 48 .lf .lf)))
def wt4_15 : Tr Nat := (.nd 0 (.nd 0 (.nd 0 (.nd 0 .lf (.nd 0 (.nd 0 (.nd 6 .lf .lf) .lf) .lf)) (.nd 0 (.nd 0 (.nd 0 (.nd 2 .lf .lf) .lf) .lf) (.nd 0 (.nd 0 (.nd 10 .lf .lf) .lf) .lf))) (.nd 0 (.nd 0 .lf (.nd 0 (.nd 0 (.nd 8 .lf .lf) .lf) .lf)) (.nd 0 (.nd 0 (.nd 0 (.nd 4 .lf .lf) .lf) .lf) .lf))) (.nd 0 (.nd 0 (.nd 0 .lf (.nd 0 (.nd 0 (.nd 7 .lf .lf) .lf) .lf)) (.nd 0 (.nd 0 (.nd 0 (.nd 3 .lf .lf) .lf) .lf) .lf)) (.nd 0 (.nd 0 (.nd 0 (.nd 0 (.nd 1 .lf .lf) .lf) .lf) (.nd 0 (.nd 0 (.nd 9 .lf .lf) .lf) .lf)) (.nd 0 (.nd 0 (.nd 0 (.nd 5 .lf .lf) .lf) .lf) .lf))))
theorem xm4_15 : masks r4_15.toList 0 .lf = some ms4_15 := by kernel_rfl
theorem xw4_15 : writers r4_15.toList 0 .lf = some wt4_15 := by kernel_rfl
theorem xe4_15 : effIdx r4_15.toList 0 = [8] := by kernel_rfl
theorem xc4_15 : (useJ true r4_15.toList && chain ms4_15 [8] && dstsOk 77 r4_15.toList) = true := by kernel_rfl
noncomputable def D4_15 (t : Tr AV) (H0 : Tr AO) (hs0 : Nat) (ds : List Nat) : DI := ⟨r4_15, ms4_15, wt4_15, [8], ⟨t, 77, H0, hs0, ds, true⟩⟩
theorem e4_15 {t : Tr AV} {H : Tr AO} {hs : Nat} {ds : List Nat} : evDr tab (evw tab) r4_15 ⟨t, 77, H, hs, ds, true⟩ = JE tab (D4_15 t H hs ds) t 77 ds (JR tab (evw tab) (D4_15 t H hs ds) 0 ⟨.lf, H, hs, [(H, hs)], []⟩) := evDr_J xm4_15 xw4_15 xe4_15 xc4_15
theorem y4_15 {t : Tr AV} {H0 : Tr AO} {hs0 : Nat} {ds : List Nat} : (D4_15 t H0 hs0 ds).es = [8] := rfl
theorem z4_15 {t : Tr AV} {H0 : Tr AO} {hs0 : Nat} {ds : List Nat} {V : Tr AV} {t' : Tr AV} : putsD V (D4_15 t H0 hs0 ds).ops.toList 0 t' = (Tr.put .any (Tr.put .any (Tr.put .any (Tr.put .any (Tr.put .any (Tr.put .any (Tr.put .any (Tr.put .any (Tr.put .any (Tr.put .any t' 66 (V.get .any 0)) 67 (V.get .any 1)) 68 (V.get .any 2)) 69 (V.get .any 3)) 70 (V.get .any 4)) 71 (V.get .any 5)) 72 (V.get .any 6)) 73 (V.get .any 7)) 74 (V.get .any 8)) 75 (V.get .any 9)) := rfl
theorem j4_15_0 {t : Tr AV} {H0 H : Tr AO} {hs0 hs : Nat} {ds : List Nat} {V : Tr AV} {hps : List (Tr AO × Nat)} {fs : List EffR} : JR tab (evw tab) (D4_15 t H0 hs0 ds) 0 ⟨V, H, hs, hps, fs⟩ = J1 tab (evw tab) (D4_15 t H0 hs0 ds) 1 (jput ⟨V, H, hs, hps, fs⟩ 0 ((some (t.get .any 8)))) := jr_plain (q := ⟨V, H, hs, hps, fs⟩) (rv := [(8, (t.get .any 8))]) (e := (some (t.get .any 8))) rfl rfl rfl (by kernel_rfl) ((ne_pure rfl).trans ((rfl).trans rfl))
theorem q4_15_0 : hbB ms4_15 [8] 0 = true := by kernel_rfl
theorem a4_15_0 {t : Tr AV} {H0 : Tr AO} {hs0 : Nat} {ds : List Nat} {V : Tr AV} {hps : List (Tr AO × Nat)} : CA tab (D4_15 t H0 hs0 ds) hps V 0 = (vchk (V.get .any 0) ((some (t.get .any 8))) && CA tab (D4_15 t H0 hs0 ds) hps V 1) := ca_p (rv := [(8, (t.get .any 8))]) (e := (some (t.get .any 8))) rfl rfl rfl (by kernel_rfl) q4_15_0 ((rfl).trans rfl)
theorem j4_15_1 {t : Tr AV} {H0 H : Tr AO} {hs0 hs : Nat} {ds : List Nat} {V : Tr AV} {hps : List (Tr AO × Nat)} {fs : List EffR} : JR tab (evw tab) (D4_15 t H0 hs0 ds) 1 ⟨V, H, hs, hps, fs⟩ = J1 tab (evw tab) (D4_15 t H0 hs0 ds) 2 (jput ⟨V, H, hs, hps, fs⟩ 1 ((some (t.get .any 14)))) := jr_plain (q := ⟨V, H, hs, hps, fs⟩) (rv := [(14, (t.get .any 14))]) (e := (some (t.get .any 14))) rfl rfl rfl (by kernel_rfl) ((ne_pure rfl).trans ((rfl).trans rfl))
theorem q4_15_1 : hbB ms4_15 [8] 1 = true := by kernel_rfl
theorem a4_15_1 {t : Tr AV} {H0 : Tr AO} {hs0 : Nat} {ds : List Nat} {V : Tr AV} {hps : List (Tr AO × Nat)} : CA tab (D4_15 t H0 hs0 ds) hps V 1 = (vchk (V.get .any 1) ((some (t.get .any 14))) && CA tab (D4_15 t H0 hs0 ds) hps V 2) := ca_p (rv := [(14, (t.get .any 14))]) (e := (some (t.get .any 14))) rfl rfl rfl (by kernel_rfl) q4_15_1 ((rfl).trans rfl)
theorem j4_15_2 {t : Tr AV} {H0 H : Tr AO} {hs0 hs : Nat} {ds : List Nat} {V : Tr AV} {hps : List (Tr AO × Nat)} {fs : List EffR} : JR tab (evw tab) (D4_15 t H0 hs0 ds) 2 ⟨V, H, hs, hps, fs⟩ = J1 tab (evw tab) (D4_15 t H0 hs0 ds) 3 (jput ⟨V, H, hs, hps, fs⟩ 2 (indexAddrO 2 (some (V.get .any 0)) (some (V.get .any 1)))) := jr_plain (q := ⟨V, H, hs, hps, fs⟩) (rv := [(66, (V.get .any 0)), (67, (V.get .any 1))]) (e := indexAddrO 2 (some (V.get .any 0)) (some (V.get .any 1))) rfl rfl rfl (by kernel_rfl) ((ne_pure rfl).trans ((u_indexAddr (n := 2) rfl rfl rfl rfl).trans rfl))
theorem q4_15_2 : hbB ms4_15 [8] 2 = true := by kernel_rfl
theorem a4_15_2 {t : Tr AV} {H0 : Tr AO} {hs0 : Nat} {ds : List Nat} {V : Tr AV} {hps : List (Tr AO × Nat)} : CA tab (D4_15 t H0 hs0 ds) hps V 2 = (vchk (V.get .any 2) (indexAddrO 2 (some (V.get .any 0)) (some (V.get .any 1))) && CA tab (D4_15 t H0 hs0 ds) hps V 3) := ca_p (rv := [(66, (V.get .any 0)), (67, (V.get .any 1))]) (e := indexAddrO 2 (some (V.get .any 0)) (some (V.get .any 1))) rfl rfl rfl (by kernel_rfl) q4_15_2 ((u_indexAddr (n := 2) rfl rfl rfl rfl).trans rfl)
theorem j4_15_3 {t : Tr AV} {H0 H : Tr AO} {hs0 hs : Nat} {ds : List Nat} {V : Tr AV} {hps : List (Tr AO × Nat)} {fs : List EffR} : JR tab (evw tab) (D4_15 t H0 hs0 ds) 3 ⟨V, H, hs, hps, fs⟩ = J1 tab (evw tab) (D4_15 t H0 hs0 ds) 4 (jput ⟨V, H, hs, hps, fs⟩ 3 (loadO H true 2 (some (V.get .any 2)))) := jr_plain (q := ⟨V, H, hs, hps, fs⟩) (rv := [(68, (V.get .any 2))]) (e := loadO H true 2 (some (V.get .any 2))) rfl rfl rfl (by kernel_rfl) ((ne_read rfl).trans ((u_load (agg := true) (n := 2) rfl rfl rfl).trans rfl))
theorem q4_15_3 : hbB ms4_15 [8] 3 = true := by kernel_rfl
theorem a4_15_3 {t : Tr AV} {H0 : Tr AO} {hs0 : Nat} {ds : List Nat} {V : Tr AV} {hps : List (Tr AO × Nat)} : CA tab (D4_15 t H0 hs0 ds) hps V 3 = (hchk 0 0 (fun H => loadO H true 2 (some (V.get .any 2))) (V.get .any 3) hps 0 && CA tab (D4_15 t H0 hs0 ds) hps V 4) := ca_h (rv := [(68, (V.get .any 2))]) (n := 1) (lo := 0) (hi := 0) (f := fun H => loadO H true 2 (some (V.get .any 2))) rfl rfl rfl rfl (by kernel_rfl) q4_15_3 (by kernel_rfl) (by kernel_rfl) (fun H => (ne_read rfl).trans ((u_load (agg := true) (n := 2) rfl rfl rfl).trans rfl))
theorem j4_15_4 {t : Tr AV} {H0 H : Tr AO} {hs0 hs : Nat} {ds : List Nat} {V : Tr AV} {hps : List (Tr AO × Nat)} {fs : List EffR} : JR tab (evw tab) (D4_15 t H0 hs0 ds) 4 ⟨V, H, hs, hps, fs⟩ = J1 tab (evw tab) (D4_15 t H0 hs0 ds) 5 (jput ⟨V, H, hs, hps, fs⟩ 4 ((some (t.get .any 11)))) := jr_plain (q := ⟨V, H, hs, hps, fs⟩) (rv := [(11, (t.get .any 11))]) (e := (some (t.get .any 11))) rfl rfl rfl (by kernel_rfl) ((ne_pure rfl).trans ((rfl).trans rfl))
theorem q4_15_4 : hbB ms4_15 [8] 4 = true := by kernel_rfl
theorem a4_15_4 {t : Tr AV} {H0 : Tr AO} {hs0 : Nat} {ds : List Nat} {V : Tr AV} {hps : List (Tr AO × Nat)} : CA tab (D4_15 t H0 hs0 ds) hps V 4 = (vchk (V.get .any 4) ((some (t.get .any 11))) && CA tab (D4_15 t H0 hs0 ds) hps V 5) := ca_p (rv := [(11, (t.get .any 11))]) (e := (some (t.get .any 11))) rfl rfl rfl (by kernel_rfl) q4_15_4 ((rfl).trans rfl)
theorem j4_15_5 {t : Tr AV} {H0 H : Tr AO} {hs0 hs : Nat} {ds : List Nat} {V : Tr AV} {hps : List (Tr AO × Nat)} {fs : List EffR} : JR tab (evw tab) (D4_15 t H0 hs0 ds) 5 ⟨V, H, hs, hps, fs⟩ = J1 tab (evw tab) (D4_15 t H0 hs0 ds) 6 (jput ⟨V, H, hs, hps, fs⟩ 5 ((some (t.get .any 14)))) := jr_plain (q := ⟨V, H, hs, hps, fs⟩) (rv := [(14, (t.get .any 14))]) (e := (some (t.get .any 14))) rfl rfl rfl (by kernel_rfl) ((ne_pure rfl).trans ((rfl).trans rfl))
theorem q4_15_5 : hbB ms4_15 [8] 5 = true := by kernel_rfl
theorem a4_15_5 {t : Tr AV} {H0 : Tr AO} {hs0 : Nat} {ds : List Nat} {V : Tr AV} {hps : List (Tr AO × Nat)} : CA tab (D4_15 t H0 hs0 ds) hps V 5 = (vchk (V.get .any 5) ((some (t.get .any 14))) && CA tab (D4_15 t H0 hs0 ds) hps V 6) := ca_p (rv := [(14, (t.get .any 14))]) (e := (some (t.get .any 14))) rfl rfl rfl (by kernel_rfl) q4_15_5 ((rfl).trans rfl)
theorem j4_15_6 {t : Tr AV} {H0 H : Tr AO} {hs0 hs : Nat} {ds : List Nat} {V : Tr AV} {hps : List (Tr AO × Nat)} {fs : List EffR} : JR tab (evw tab) (D4_15 t H0 hs0 ds) 6 ⟨V, H, hs, hps, fs⟩ = J1 tab (evw tab) (D4_15 t H0 hs0 ds) 7 (jput ⟨V, H, hs, hps, fs⟩ 6 (indexAddrO 2 (some (V.get .any 4)) (some (V.get .any 5)))) := jr_plain (q := ⟨V, H, hs, hps, fs⟩) (rv := [(70, (V.get .any 4)), (71, (V.get .any 5))]) (e := indexAddrO 2 (some (V.get .any 4)) (some (V.get .any 5))) rfl rfl rfl (by kernel_rfl) ((ne_pure rfl).trans ((u_indexAddr (n := 2) rfl rfl rfl rfl).trans rfl))
theorem q4_15_6 : hbB ms4_15 [8] 6 = true := by kernel_rfl
theorem a4_15_6 {t : Tr AV} {H0 : Tr AO} {hs0 : Nat} {ds : List Nat} {V : Tr AV} {hps : List (Tr AO × Nat)} : CA tab (D4_15 t H0 hs0 ds) hps V 6 = (vchk (V.get .any 6) (indexAddrO 2 (some (V.get .any 4)) (some (V.get .any 5))) && CA tab (D4_15 t H0 hs0 ds) hps V 7) := ca_p (rv := [(70, (V.get .any 4)), (71, (V.get .any 5))]) (e := indexAddrO 2 (some (V.get .any 4)) (some (V.get .any 5))) rfl rfl rfl (by kernel_rfl) q4_15_6 ((u_indexAddr (n := 2) rfl rfl rfl rfl).trans rfl)
theorem j4_15_7 {t : Tr AV} {H0 H : Tr AO} {hs0 hs : Nat} {ds : List Nat} {V : Tr AV} {hps : List (Tr AO × Nat)} {fs : List EffR} : JR tab (evw tab) (D4_15 t H0 hs0 ds) 7 ⟨V, H, hs, hps, fs⟩ = J1 tab (evw tab) (D4_15 t H0 hs0 ds) 8 (jput ⟨V, H, hs, hps, fs⟩ 7 (loadO H true 2 (some (V.get .any 6)))) := jr_plain (q := ⟨V, H, hs, hps, fs⟩) (rv := [(72, (V.get .any 6))]) (e := loadO H true 2 (some (V.get .any 6))) rfl rfl rfl (by kernel_rfl) ((ne_read rfl).trans ((u_load (agg := true) (n := 2) rfl rfl rfl).trans rfl))
theorem q4_15_7 : hbB ms4_15 [8] 7 = true := by kernel_rfl
theorem a4_15_7 {t : Tr AV} {H0 : Tr AO} {hs0 : Nat} {ds : List Nat} {V : Tr AV} {hps : List (Tr AO × Nat)} : CA tab (D4_15 t H0 hs0 ds) hps V 7 = (hchk 0 0 (fun H => loadO H true 2 (some (V.get .any 6))) (V.get .any 7) hps 0 && CA tab (D4_15 t H0 hs0 ds) hps V 8) := ca_h (rv := [(72, (V.get .any 6))]) (n := 1) (lo := 0) (hi := 0) (f := fun H => loadO H true 2 (some (V.get .any 6))) rfl rfl rfl rfl (by kernel_rfl) q4_15_7 (by kernel_rfl) (by kernel_rfl) (fun H => (ne_read rfl).trans ((u_load (agg := true) (n := 2) rfl rfl rfl).trans rfl))
theorem j4_15_8 {t : Tr AV} {H0 H : Tr AO} {hs0 hs : Nat} {ds : List Nat} {V : Tr AV} {hps : List (Tr AO × Nat)} {fs : List EffR} : JR tab (evw tab) (D4_15 t H0 hs0 ds) 8 ⟨V, H, hs, hps, fs⟩ = J1 tab (evw tab) (D4_15 t H0 hs0 ds) 9 (jeff ⟨V, H, hs, hps, fs⟩ 8 [(69, (V.get .any 3)), (73, (V.get .any 7))] (callF tab (evw tab) true 24 [(V.get .any 3), (V.get .any 7)] H hs)) := jr_eff (q := ⟨V, H, hs, hps, fs⟩) (rv := [(69, (V.get .any 3)), (73, (V.get .any 7))]) (e := callF tab (evw tab) true 24 [(V.get .any 3), (V.get .any 7)] H hs) rfl rfl rfl (by kernel_rfl) ((ac_call).trans rfl)
theorem a4_15_8 {t : Tr AV} {H0 : Tr AO} {hs0 : Nat} {ds : List Nat} {V : Tr AV} {hps : List (Tr AO × Nat)} : CA tab (D4_15 t H0 hs0 ds) hps V 8 = CA tab (D4_15 t H0 hs0 ds) hps V 9 := ca_eff rfl rfl (by kernel_rfl)
theorem h4_15_8 {t : Tr AV} {H0 : Tr AO} {hs0 : Nat} {ds : List Nat} {V : Tr AV} {fs : List EffR} {rv : List (Nat × AV)} {v : AV} {es : List Nat} : chkEff (D4_15 t H0 hs0 ds) V .lf (⟨8, rv, v⟩ :: fs) (8 :: es) = (same 20 v (V.get .any 8) && sameRV rv [(69, (V.get .any 3)), (73, (V.get .any 7))] && chkEff (D4_15 t H0 hs0 ds) V .lf fs es) := ce_cons rfl (by kernel_rfl)
theorem j4_15_9 {t : Tr AV} {H0 H : Tr AO} {hs0 hs : Nat} {ds : List Nat} {V : Tr AV} {hps : List (Tr AO × Nat)} {fs : List EffR} : JR tab (evw tab) (D4_15 t H0 hs0 ds) 9 ⟨V, H, hs, hps, fs⟩ = J1 tab (evw tab) (D4_15 t H0 hs0 ds) 10 (jput ⟨V, H, hs, hps, fs⟩ 9 (unO .not (some (V.get .any 8)))) := jr_plain (q := ⟨V, H, hs, hps, fs⟩) (rv := [(74, (V.get .any 8))]) (e := unO .not (some (V.get .any 8))) rfl rfl rfl (by kernel_rfl) ((ne_pure rfl).trans ((u_un).trans rfl))
theorem q4_15_9 : hbB ms4_15 [8] 9 = true := by kernel_rfl
theorem a4_15_9 {t : Tr AV} {H0 : Tr AO} {hs0 : Nat} {ds : List Nat} {V : Tr AV} {hps : List (Tr AO × Nat)} : CA tab (D4_15 t H0 hs0 ds) hps V 9 = (vchk (V.get .any 9) (unO .not (some (V.get .any 8))) && CA tab (D4_15 t H0 hs0 ds) hps V 10) := ca_p (rv := [(74, (V.get .any 8))]) (e := unO .not (some (V.get .any 8))) rfl rfl rfl (by kernel_rfl) q4_15_9 ((u_un).trans rfl)
theorem j4_15_e {t : Tr AV} {H0 H : Tr AO} {hs0 hs : Nat} {ds : List Nat} {V : Tr AV} {hps : List (Tr AO × Nat)} {fs : List EffR} : JR tab (evw tab) (D4_15 t H0 hs0 ds) 10 ⟨V, H, hs, hps, fs⟩ = some ⟨V, H, hs, hps, fs⟩ := jr_end rfl
theorem a4_15_e {t : Tr AV} {H0 : Tr AO} {hs0 : Nat} {ds : List Nat} {V : Tr AV} {hps : List (Tr AO × Nat)} : CA tab (D4_15 t H0 hs0 ds) hps V 10 = true := ca_end rfl
noncomputable def c4_56 : Code := cd1 c4_55
noncomputable def c4_57 : Code := cd2 c4_55
theorem wc4_55 : W tab ro F c4_55 K s = C1 tab ro F c4_56 c4_57 K s (opd s (.tmp 75)) := Wc_cond (show c4_55 = .cond (.tmp 75) c4_56 c4_57 from rfl)
noncomputable def c4_58 : Code := sq1 c4_56
noncomputable def c4_59 : Code := sq2 c4_56
theorem wc4_56 : W tab ro F c4_56 K s = W tab ro F c4_58 (.sq c4_59 :: K) s := Wc_seq (show c4_56 = .seq c4_58 c4_59 from rfl)
noncomputable def r4_16 : Array Oper := rg1 c4_58
theorem wc4_58 : W tab ro F c4_58 K s = I tab ro F r4_16 0 K s := Wc_region (show c4_58 = .region 16 r4_16 false from rfl)
theorem i4_16_0 : I tab ro F r4_16 0 K s = I1 tab ro F r4_16 1 K (setO s (some 4) (opd s (.const (.bool false)))) := I_plain rfl rfl (ev_assign)
theorem i4_16_e : I tab ro F r4_16 1 K s = kont tab ro F K .normal s := I_end rfl
theorem wc4_59 : W tab ro F c4_59 K s = kont tab ro F K .ret s := Wc_ret (show c4_59 = .ret from rfl)
theorem wc4_57 : W tab ro F c4_57 K s = kont tab ro F K .normal s := Wc_skip (show c4_57 = .skip from rfl)
noncomputable def r4_14 : Array Oper := rg1 c4_52
theorem wc4_52 : W tab ro F c4_52 K s = I tab ro F r4_14 0 K s := Wc_region (show c4_52 = .region 14 r4_14 false from rfl)
theorem i4_14_0 : I tab ro F r4_14 0 K s = I1 tab ro F r4_14 1 K (setO s (some 64) (opd s (.tmp 14))) := I_plain rfl rfl (ev_move)
theorem i4_14_1 : I tab ro F r4_14 1 K s = I1 tab ro F r4_14 2 K (setO s (some 65) (binO tab .add 3 (.tmp 64) (.const (.int .i64 (1))) (opd s (.tmp 64)) (opd s (.const (.int .i64 (1)))))) := I_plain rfl rfl (ev_binOp.trans (congrArg (setO s _) u_bin))
theorem i4_14_2 : I tab ro F r4_14 2 K s = I1 tab ro F r4_14 3 K (setO s (some 14) (opd s (.tmp 65))) := I_plain rfl rfl (ev_assign)
theorem i4_14_e : I tab ro F r4_14 3 K s = kont tab ro F K .normal s := I_end rfl
noncomputable def c4_60 : Code := sq1 c4_40
noncomputable def c4_61 : Code := sq2 c4_40
theorem wc4_40 : W tab ro F c4_40 K s = W tab ro F c4_60 (.sq c4_61 :: K) s := Wc_seq (show c4_40 = .seq c4_60 c4_61 from rfl)
noncomputable def r4_17 : Array Oper := rg1 c4_60
theorem wc4_60 : W tab ro F c4_60 K s = I tab ro F r4_17 0 K s := Wc_region (show c4_60 = .region 17 r4_17 false from rfl)
theorem i4_17_0 : I tab ro F r4_17 0 K s = I1 tab ro F r4_17 1 K (setE s (some 76) (callG tab (evw tab) s 13 (opds s []))) := I_plain rfl rfl (u_call)
theorem i4_17_1 : I tab ro F r4_17 1 K s = I1 tab ro F r4_17 2 K (setO s (some 4) (opd s (.tmp 76))) := I_plain rfl rfl (ev_assign)
theorem i4_17_e : I tab ro F r4_17 2 K s = kont tab ro F K .normal s := I_end rfl
theorem wc4_61 : W tab ro F c4_61 K s = kont tab ro F K .ret s := Wc_ret (show c4_61 = .ret from rfl)
theorem n4 : fi4.ntmps = 77 := rfl
theorem q4 : fi4.results = [.tmp 4] := rfl
theorem f4 : tab.f 4 = some fi4 := rfl
theorem b4 : fi4.body = c4 := rfl
theorem m4 : fi4.lm = 1 := rfl
-- NAMES 4 n4 q4 b4 m4  wc4 wc4_0 i4_0_0 i4_0_e wc4_1 wc4_2 i4_1_0 i4_1_1 i4_1_2 i4_1_e wc4_3 wc4_4 i4_2_0 i4_2_1 i4_2_2 i4_2_3 i4_2_e wc4_5 wc4_6 wc4_8 i4_3_0 i4_3_e wc4_9 kc4_10 wc4_11 wc4_12 wc4_14 i4_4_0 i4_4_1 i4_4_e wc4_15 wc4_16 wc4_17 wc4_13 wc4_18 wc4_20 wc4_21 i4_6_0 i4_6_1 i4_6_2 i4_6_3 i4_6_4 i4_6_5 i4_6_e wc4_22 wc4_23 wc4_25 i4_7_0 i4_7_e wc4_26 wc4_24 wc4_19 i4_5_0 i4_5_1 i4_5_2 i4_5_e wc4_7 wc4_27 i4_8_0 i4_8_1 i4_8_2 i4_8_3 i4_8_4 i4_8_5 i4_8_6 i4_8_7 i4_8_8 i4_8_9 i4_8_e wc4_28 wc4_29 i4_9_0 i4_9_1 i4_9_2 i4_9_3 i4_9_4 i4_9_5 i4_9_6 i4_9_7 i4_9_8 i4_9_9 i4_9_e wc4_30 wc4_31 wc4_33 i4_10_0 i4_10_1 i4_10_2 i4_10_3 i4_10_4 i4_10_5 i4_10_6 i4_10_7 i4_10_8 i4_10_9 i4_10_10 i4_10_11 i4_10_12 i4_10_13 i4_10_14 i4_10_15 i4_10_e wc4_34 wc4_35 wc4_37 i4_11_0 i4_11_e wc4_38 wc4_36 wc4_32 wc4_39 wc4_41 i4_12_0 i4_12_e wc4_42 kc4_43 wc4_44 wc4_45 wc4_47 i4_13_0 i4_13_1 i4_13_2 i4_13_3 i4_13_e wc4_48 wc4_49 wc4_50 wc4_46 wc4_51 wc4_53 wc4_54 e4_15 y4_15 z4_15 j4_15_0 a4_15_0 j4_15_1 a4_15_1 j4_15_2 a4_15_2 j4_15_3 a4_15_3 j4_15_4 a4_15_4 j4_15_5 a4_15_5 j4_15_6 a4_15_6 j4_15_7 a4_15_7 j4_15_8 h4_15_8 a4_15_8 j4_15_9 a4_15_9 j4_15_e a4_15_e wc4_55 wc4_56 wc4_58 i4_16_0 i4_16_e wc4_59 wc4_57 wc4_52 i4_14_0 i4_14_1 i4_14_2 i4_14_e wc4_40 wc4_60 i4_17_0 i4_17_1 i4_17_e wc4_61
end
end Go.Proofs.Ytbcecenneganeaa.Ev
