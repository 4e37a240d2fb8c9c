import Derived.Test.YtbcecenneganeaaEvJ
import Derived.KernelRfl
import Derived.Test.YtbcecenneganeaaTabD
import Derived.Test.YtbcecenneganeaaEvR
set_option linter.all false
set_option maxRecDepth 100000
namespace Go.Proofs.Ytbcecenneganeaa.Ev
open Go Go.Proofs.Ytbcecenneganeaa.Ev Go.Proofs Go.Proofs.Ytbcecenneganeaa Go.Proofs.Ytbcecenneganeaa.Tab
section
variable {α : Type} {ro : Option Nat} {F : AX → AS → Option α} {K : List Fr} {s : AS}

theorem p25p1 {p q : Operand} {o k : Nat} {cs : List AV} : binO tab .eql 25 p q (some (.ptr o k)) (some (.lit (.pointer none))) = some (.lit (.bool false)) := rfl
theorem p25p2 {p q : Operand} {o k : Nat} {cs : List AV} : binO tab .neq 25 p q (some (.ptr o k)) (some (.lit (.pointer none))) = some (.lit (.bool true)) := rfl
theorem p25p3 {p q : Operand} {o k : Nat} {cs : List AV} : binO tab .eql 25 p q (some (.lit (.pointer none))) (some (.ptr o k)) = some (.lit (.bool false)) := rfl
theorem p25p4 {p q : Operand} {o k : Nat} {cs : List AV} : binO tab .neq 25 p q (some (.lit (.pointer none))) (some (.ptr o k)) = some (.lit (.bool true)) := rfl
theorem p25e1 {p q : Operand} {o k : Nat} {cs : List AV} : binO tab .eql 25 p q (some (.eptr cs)) (some (.lit (.pointer none))) = some (.lit (.bool false)) := rfl
theorem p25e2 {p q : Operand} {o k : Nat} {cs : List AV} : binO tab .neq 25 p q (some (.eptr cs)) (some (.lit (.pointer none))) = some (.lit (.bool true)) := rfl
theorem p25e3 {p q : Operand} {o k : Nat} {cs : List AV} : binO tab .eql 25 p q (some (.lit (.pointer none))) (some (.eptr cs)) = some (.lit (.bool false)) := rfl
theorem p25e4 {p q : Operand} {o k : Nat} {cs : List AV} : binO tab .neq 25 p q (some (.lit (.pointer none))) (some (.eptr cs)) = some (.lit (.bool true)) := rfl
theorem p25n1 {p q : Operand} {o k : Nat} {cs : List AV} : binO tab .eql 25 p q (some (.lit (.pointer none))) (some (.lit (.pointer none))) = some (.lit (.bool true)) := rfl
theorem p25n2 {p q : Operand} {o k : Nat} {cs : List AV} : binO tab .neq 25 p q (some (.lit (.pointer none))) (some (.lit (.pointer none))) = some (.lit (.bool false)) := rfl
-- NAMES P25 p25p1 p25p2 p25p3 p25p4 p25e1 p25e2 p25e3 p25e4 p25n1 p25n2
/-! 3: verderer/verdererlaw39.DrillRolls -/
noncomputable def c3 : Code := fi3.body
noncomputable def c3_0 : Code := sq1 c3
noncomputable def c3_1 : Code := sq2 c3
theorem wc3 : W tab ro F c3 K s = W tab ro F c3_0 (.sq c3_1 :: K) s := Wc_seq (show c3 = .seq c3_0 c3_1 from rfl)
noncomputable def r3_0 : Array Oper := rg1 c3_0
theorem wc3_0 : W tab ro F c3_0 K s = I tab ro F r3_0 0 K s := Wc_region (show c3_0 = .region 0 r3_0 false from rfl)
theorem i3_0_0 : I tab ro F r3_0 0 K s = I1 tab ro F r3_0 1 K (setO s (some 6) (opd s (.const (.bool false)))) := I_plain rfl rfl (ev_assign)
theorem i3_0_e : I tab ro F r3_0 1 K s = kont tab ro F K .normal s := I_end rfl
noncomputable def c3_2 : Code := sq1 c3_1
noncomputable def c3_3 : Code := sq2 c3_1
theorem wc3_1 : W tab ro F c3_1 K s = W tab ro F c3_2 (.sq c3_3 :: K) s := Wc_seq (show c3_1 = .seq c3_2 c3_3 from rfl)
noncomputable def r3_1 : Array Oper := rg1 c3_2
theorem wc3_2 : W tab ro F c3_2 K s = I tab ro F r3_1 0 K s := Wc_region (show c3_2 = .region 1 r3_1 false from rfl)
theorem i3_1_0 : I tab ro F r3_1 0 K s = I1 tab ro F r3_1 1 K (setO s (some 10) (opd s (.tmp 0))) := I_plain rfl rfl (ev_move)
theorem i3_1_1 : I tab ro F r3_1 1 K s = I1 tab ro F r3_1 2 K (setE s (some 11) (callG tab (evw tab) s 12 (opds s [(.tmp 10)]))) := I_plain rfl rfl (u_call)
theorem i3_1_2 : I tab ro F r3_1 2 K s = I1 tab ro F r3_1 3 K (setO s (some 7) (opd s (.tmp 11))) := I_plain rfl rfl (ev_assign)
theorem i3_1_e : I tab ro F r3_1 3 K s = kont tab ro F K .normal s := I_end rfl
noncomputable def c3_4 : Code := sq1 c3_3
noncomputable def c3_5 : Code := sq2 c3_3
theorem wc3_3 : W tab ro F c3_3 K s = W tab ro F c3_4 (.sq c3_5 :: K) s := Wc_seq (show c3_3 = .seq c3_4 c3_5 from rfl)
noncomputable def r3_2 : Array Oper := rg1 c3_4
theorem wc3_4 : W tab ro F c3_4 K s = I tab ro F r3_2 0 K s := Wc_region (show c3_4 = .region 2 r3_2 false from rfl)
theorem i3_2_0 : I tab ro F r3_2 0 K s = I1 tab ro F r3_2 1 K (setO s (some 12) (opd s (.tmp 0))) := I_plain rfl rfl (ev_move)
theorem i3_2_1 : I tab ro F r3_2 1 K s = I1 tab ro F r3_2 2 K (setO s (some 13) (buildO (placesL [(0, 1)]) [(.lit (.int .u64 (0)))] (opdParts s [(0, (.tmp 12))]))) := I_plain rfl rfl (ev_build.trans (congrArg (setO s _) (u_build rfl rfl rfl rfl (places_eq rfl))))
theorem i3_2_2 : I tab ro F r3_2 2 K s = I1 tab ro F r3_2 3 K (setN s (some 14) (boxO (opd s (.tmp 13)) s.hs)) := I_plain rfl rfl (ev_box.trans (congrArg (setN s _) u_box))
theorem i3_2_3 : I tab ro F r3_2 3 K s = I1 tab ro F r3_2 4 K (setO s (some 8) (opd s (.tmp 14))) := I_plain rfl rfl (ev_assign)
theorem i3_2_e : I tab ro F r3_2 4 K s = kont tab ro F K .normal s := I_end rfl
noncomputable def c3_6 : Code := sq1 c3_5
noncomputable def c3_7 : Code := sq2 c3_5
theorem wc3_5 : W tab ro F c3_5 K s = W tab ro F c3_6 (.sq c3_7 :: K) s := Wc_seq (show c3_5 = .seq c3_6 c3_7 from rfl)
noncomputable def c3_8 : Code := sq1 c3_6
noncomputable def c3_9 : Code := sq2 c3_6
theorem wc3_6 : W tab ro F c3_6 K s = W tab ro F c3_8 (.sq c3_9 :: K) s := Wc_seq (show c3_6 = .seq c3_8 c3_9 from rfl)
noncomputable def r3_3 : Array Oper := rg1 c3_8
theorem wc3_8 : W tab ro F c3_8 K s = I tab ro F r3_3 0 K s := Wc_region (show c3_8 = .region 3 r3_3 false from rfl)
theorem i3_3_0 : I tab ro F r3_3 0 K s = I1 tab ro F r3_3 1 K (setO s (some 15) (opd s (.tmp 2))) := I_plain rfl rfl (ev_move)
theorem i3_3_1 : I tab ro F r3_3 1 K s = I1 tab ro F r3_3 2 K (setO s (some 16) (lenLO (opd s (.tmp 15)))) := I_plain rfl rfl (u_lenL rfl rfl)
theorem i3_3_2 : I tab ro F r3_3 2 K s = I1 tab ro F r3_3 3 K (setO s (some 17) (binO tab .gtr 3 (.tmp 16) (.const (.int .i64 (100))) (opd s (.tmp 16)) (opd s (.const (.int .i64 (100)))))) := I_plain rfl rfl (ev_binOp.trans (congrArg (setO s _) u_bin))
theorem i3_3_e : I tab ro F r3_3 3 K s = kont tab ro F K .normal s := I_end rfl
noncomputable def c3_10 : Code := cd1 c3_9
noncomputable def c3_11 : Code := cd2 c3_9
theorem wc3_9 : W tab ro F c3_9 K s = C1 tab ro F c3_10 c3_11 K s (opd s (.tmp 17)) := Wc_cond (show c3_9 = .cond (.tmp 17) c3_10 c3_11 from rfl)
noncomputable def c3_12 : Code := sq1 c3_10
noncomputable def c3_13 : Code := sq2 c3_10
theorem wc3_10 : W tab ro F c3_10 K s = W tab ro F c3_12 (.sq c3_13 :: K) s := Wc_seq (show c3_10 = .seq c3_12 c3_13 from rfl)
noncomputable def r3_4 : Array Oper := rg1 c3_12
theorem wc3_12 : W tab ro F c3_12 K s = I tab ro F r3_4 0 K s := Wc_region (show c3_12 = .region 4 r3_4 false from rfl)
theorem i3_4_0 : I tab ro F r3_4 0 K s = I1 tab ro F r3_4 1 K (setE s (some 18) (callG tab (evw tab) s 13 (opds s []))) := I_plain rfl rfl (u_call)
theorem i3_4_1 : I tab ro F r3_4 1 K s = I1 tab ro F r3_4 2 K (setO s (some 6) (opd s (.tmp 18))) := I_plain rfl rfl (ev_assign)
theorem i3_4_e : I tab ro F r3_4 2 K s = kont tab ro F K .normal s := I_end rfl
theorem wc3_13 : W tab ro F c3_13 K s = kont tab ro F K .ret s := Wc_ret (show c3_13 = .ret from rfl)
theorem wc3_11 : W tab ro F c3_11 K s = kont tab ro F K .normal s := Wc_skip (show c3_11 = .skip from rfl)
noncomputable def c3_14 : Code := sq1 c3_7
noncomputable def c3_15 : Code := sq2 c3_7
theorem wc3_7 : W tab ro F c3_7 K s = W tab ro F c3_14 (.sq c3_15 :: K) s := Wc_seq (show c3_7 = .seq c3_14 c3_15 from rfl)
noncomputable def c3_16 : Code := sq1 c3_14
noncomputable def c3_17 : Code := sq2 c3_14
theorem wc3_14 : W tab ro F c3_14 K s = W tab ro F c3_16 (.sq c3_17 :: K) s := Wc_seq (show c3_14 = .seq c3_16 c3_17 from rfl)
noncomputable def r3_5 : Array Oper := rg1 c3_16
theorem wc3_16 : W tab ro F c3_16 K s = I tab ro F r3_5 0 K s := Wc_region (show c3_16 = .region 5 r3_5 false from rfl)
theorem i3_5_0 : I tab ro F r3_5 0 K s = I1 tab ro F r3_5 1 K (setO s (some 9) (opd s (.const (.int .i64 (0))))) := I_plain rfl rfl (ev_assign)
theorem i3_5_e : I tab ro F r3_5 1 K s = kont tab ro F K .normal s := I_end rfl
noncomputable def c3_18 : Code := bk1 c3_17
theorem wc3_17 : W tab ro F c3_17 K s = W tab ro F c3_18 (.bk 0 :: K) s := Wc_block (show c3_17 = .block 0 c3_18 from rfl)
noncomputable def c3_19 : Code := lp1 c3_18
theorem lc3_18 : W tab ro F c3_18 K s = W tab ro F c3_19 (.lp c3_19 :: K) s := Wc_loop (show c3_18 = .loop c3_19 from rfl)
theorem kc3_18 : kont tab ro F (.lp c3_19 :: K) .normal s = W tab ro F c3_18 K s := Wc_again (show c3_18 = .loop c3_19 from rfl)
noncomputable def c3_20 : Code := sq1 c3_19
noncomputable def c3_21 : Code := sq2 c3_19
theorem wc3_19 : W tab ro F c3_19 K s = W tab ro F c3_20 (.sq c3_21 :: K) s := Wc_seq (show c3_19 = .seq c3_20 c3_21 from rfl)
noncomputable def c3_22 : Code := sq1 c3_20
noncomputable def c3_23 : Code := sq2 c3_20
theorem wc3_20 : W tab ro F c3_20 K s = W tab ro F c3_22 (.sq c3_23 :: K) s := Wc_seq (show c3_20 = .seq c3_22 c3_23 from rfl)
noncomputable def r3_6 : Array Oper := rg1 c3_22
theorem wc3_22 : W tab ro F c3_22 K s = I tab ro F r3_6 0 K s := Wc_region (show c3_22 = .region 6 r3_6 false from rfl)
theorem i3_6_0 : I tab ro F r3_6 0 K s = I1 tab ro F r3_6 1 K (setO s (some 19) (opd s (.tmp 9))) := I_plain rfl rfl (ev_move)
theorem i3_6_1 : I tab ro F r3_6 1 K s = I1 tab ro F r3_6 2 K (setO s (some 20) (opd s (.tmp 1))) := I_plain rfl rfl (ev_move)
theorem i3_6_2 : I tab ro F r3_6 2 K s = I1 tab ro F r3_6 3 K (setO s (some 21) (lenLO (opd s (.tmp 20)))) := I_plain rfl rfl (u_lenL rfl rfl)
theorem i3_6_3 : I tab ro F r3_6 3 K s = I1 tab ro F r3_6 4 K (setO s (some 22) (binO tab .lss 3 (.tmp 19) (.tmp 21) (opd s (.tmp 19)) (opd s (.tmp 21)))) := I_plain rfl rfl (ev_binOp.trans (congrArg (setO s _) u_bin))
theorem i3_6_4 : I tab ro F r3_6 4 K s = I1 tab ro F r3_6 5 K (setO s (some 23) (opd s (.tmp 22))) := I_plain rfl rfl (ev_move)
theorem i3_6_5 : I tab ro F r3_6 5 K s = IG tab ro F r3_6 6 K true (setO s (some 24) (opd s (.tmp 9))) (setT s (some 24) udef) (opd s (.tmp 23)) := I_guard (d := (some 24)) rfl rfl rfl rfl rfl (ev_move)
theorem i3_6_6 : I tab ro F r3_6 6 K s = IG tab ro F r3_6 7 K true (setO s (some 25) (binO tab .lss 3 (.tmp 24) (.const (.int .i64 (100))) (opd s (.tmp 24)) (opd s (.const (.int .i64 (100)))))) (setT s (some 25) udef) (opd s (.tmp 23)) := I_guard (d := (some 25)) rfl rfl rfl rfl rfl (ev_binOp.trans (congrArg (setO s _) u_bin))
theorem i3_6_7 : I tab ro F r3_6 7 K s = I1 tab ro F r3_6 8 K (setO s (some 26) (pickO (opd s (.tmp 23)) (opd s (.tmp 25)) (opd s (.const (.bool false))))) := I_plain rfl rfl (ev_pick.trans (congrArg (setO s _) u_pick))
theorem i3_6_e : I tab ro F r3_6 8 K s = kont tab ro F K .normal s := I_end rfl
noncomputable def c3_24 : Code := cd1 c3_23
noncomputable def c3_25 : Code := cd2 c3_23
theorem wc3_23 : W tab ro F c3_23 K s = C1 tab ro F c3_24 c3_25 K s (opd s (.tmp 26)) := Wc_cond (show c3_23 = .cond (.tmp 26) c3_24 c3_25 from rfl)
theorem wc3_24 : W tab ro F c3_24 K s = kont tab ro F K .normal s := Wc_skip (show c3_24 = .skip from rfl)
theorem wc3_25 : W tab ro F c3_25 K s = kont tab ro F K (.exit 0) s := Wc_exit (show c3_25 = .exit 0 from rfl)
noncomputable def c3_26 : Code := sq1 c3_21
noncomputable def c3_27 : Code := sq2 c3_21
theorem wc3_21 : W tab ro F c3_21 K s = W tab ro F c3_26 (.sq c3_27 :: K) s := Wc_seq (show c3_21 = .seq c3_26 c3_27 from rfl)
noncomputable def c3_28 : Code := bk1 c3_26
theorem wc3_26 : W tab ro F c3_26 K s = W tab ro F c3_28 (.bk 1 :: K) s := Wc_block (show c3_26 = .block 1 c3_28 from rfl)
noncomputable def c3_29 : Code := sq1 c3_28
noncomputable def c3_30 : Code := sq2 c3_28
theorem wc3_28 : W tab ro F c3_28 K s = W tab ro F c3_29 (.sq c3_30 :: K) s := Wc_seq (show c3_28 = .seq c3_29 c3_30 from rfl)
noncomputable def r3_8 : Array Oper := rg1 c3_29
theorem wc3_29 : W tab ro F c3_29 K s = D1 tab ro F K (evDr tab (evw tab) r3_8 s) := Wc_draw (show c3_29 = .region 8 r3_8 true from rfl)
def ms3_8 : Tr Nat := (.nd 0 (.nd 0 (.nd 6 (.nd 0 (.nd 16383 .lf .lf) .lf) (.nd 2047 (.nd 524287 .lf .lf) .lf)) (.nd 31 (.nd 384 (.nd 16383 .lf .lf) .lf) (.nd 8191 (.nd 2097151 .lf .lf) .lf))) (.nd 0 (.nd 14 (.nd 0 (.nd 65535 .lf .lf) .lf) (.nd 4095 (.nd 1048575 .lf .lf) .lf)) (.nd 0 (.nd 896 (.nd 16383 .lf .lf) .lf) (.nd 16383 .lf .lf))))
def wt3_8 : Tr Nat := (.nd 0 (.nd 0 (.nd 0 (.nd 0 (.nd 0 (.nd 3 .lf .lf) (.nd 19 .lf .lf)) (.nd 0 (.nd 11 .lf .lf) .lf)) (.nd 0 (.nd 0 (.nd 7 .lf .lf) .lf) (.nd 0 (.nd 15 .lf .lf) .lf))) (.nd 0 (.nd 0 (.nd 0 (.nd 5 .lf .lf) (.nd 21 .lf .lf)) (.nd 0 (.nd 13 .lf .lf) .lf)) (.nd 0 (.nd 0 (.nd 9 .lf .lf) .lf) (.nd 1 (.nd 17 .lf .lf) .lf)))) (.nd 0 (.nd 0 (.nd 0 (.nd 0 (.nd 4 .lf .lf) (.nd 20 .lf .lf)) (.nd 0 (.nd 12 .lf .lf) .lf)) (.nd 0 (.nd 0 (.nd 8 .lf .lf) .lf) (.nd 0 (.nd 16 .lf .lf) .lf))) (.nd 0 (.nd 0 (.nd 0 (.nd 6 .lf .lf) (.nd 22 .lf .lf)) (.nd 0 (.nd 14 .lf .lf) .lf)) (.nd 0 (.nd 0 (.nd 10 .lf .lf) .lf) (.nd 2 (.nd 18 .lf .lf) .lf)))))
theorem xm3_8 : masks r3_8.toList 0 .lf = some ms3_8 := by kernel_rfl
theorem xw3_8 : writers r3_8.toList 0 .lf = some wt3_8 := by kernel_rfl
theorem xe3_8 : effIdx r3_8.toList 0 = [5, 11, 16, 19] := by kernel_rfl
theorem xc3_8 : (useJ true r3_8.toList && chain ms3_8 [5, 11, 16, 19] && dstsOk 52 r3_8.toList) = true := by kernel_rfl
noncomputable def D3_8 (t : Tr AV) (H0 : Tr AO) (hs0 : Nat) (ds : List Nat) : DI := ⟨r3_8, ms3_8, wt3_8, [5, 11, 16, 19], ⟨t, 52, H0, hs0, ds, true⟩⟩
theorem e3_8 {t : Tr AV} {H : Tr AO} {hs : Nat} {ds : List Nat} : evDr tab (evw tab) r3_8 ⟨t, 52, H, hs, ds, true⟩ = JE tab (D3_8 t H hs ds) t 52 ds (JR tab (evw tab) (D3_8 t H hs ds) 0 ⟨.lf, H, hs, [(H, hs)], []⟩) := evDr_J xm3_8 xw3_8 xe3_8 xc3_8
theorem y3_8 {t : Tr AV} {H0 : Tr AO} {hs0 : Nat} {ds : List Nat} : (D3_8 t H0 hs0 ds).es = [5, 11, 16, 19] := rfl
theorem z3_8 {t : Tr AV} {H0 : Tr AO} {hs0 : Nat} {ds : List Nat} {V : Tr AV} {t' : Tr AV} : putsD V (D3_8 t H0 hs0 ds).ops.toList 0 t' = (Tr.put .any (Tr.put .any (Tr.put .any (Tr.put .any (Tr.put .any (Tr.put .any (Tr.put .any (Tr.put .any (Tr.put .any (Tr.put .any (Tr.put .any (Tr.put .any (Tr.put .any (Tr.put .any (Tr.put .any (Tr.put .any (Tr.put .any (Tr.put .any (Tr.put .any (Tr.put .any (Tr.put .any (Tr.put .any t' 29 (V.get .any 0)) 30 (V.get .any 1)) 31 (V.get .any 2)) 32 (V.get .any 3)) 33 (V.get .any 4)) 34 (V.get .any 5)) 35 (V.get .any 6)) 36 (V.get .any 7)) 37 (V.get .any 8)) 38 (V.get .any 9)) 39 (V.get .any 10)) 40 (V.get .any 11)) 41 (V.get .any 12)) 42 (V.get .any 13)) 43 (V.get .any 14)) 44 (V.get .any 15)) 45 (V.get .any 16)) 46 (V.get .any 17)) 47 (V.get .any 18)) 48 (V.get .any 19)) 49 (V.get .any 20)) 50 (V.get .any 21)) := rfl
theorem j3_8_0 {t : Tr AV} {H0 H : Tr AO} {hs0 hs : Nat} {ds : List Nat} {V : Tr AV} {hps : List (Tr AO × Nat)} {fs : List EffR} : JR tab (evw tab) (D3_8 t H0 hs0 ds) 0 ⟨V, H, hs, hps, fs⟩ = J1 tab (evw tab) (D3_8 t H0 hs0 ds) 1 (jput ⟨V, H, hs, hps, fs⟩ 0 ((some (t.get .any 7)))) := jr_plain (q := ⟨V, H, hs, hps, fs⟩) (rv := [(7, (t.get .any 7))]) (e := (some (t.get .any 7))) rfl rfl rfl (by kernel_rfl) ((ne_pure rfl).trans ((rfl).trans rfl))
theorem q3_8_0 : hbB ms3_8 [5, 11, 16, 19] 0 = true := by kernel_rfl
theorem a3_8_0 {t : Tr AV} {H0 : Tr AO} {hs0 : Nat} {ds : List Nat} {V : Tr AV} {hps : List (Tr AO × Nat)} : CA tab (D3_8 t H0 hs0 ds) hps V 0 = (vchk (V.get .any 0) ((some (t.get .any 7))) && CA tab (D3_8 t H0 hs0 ds) hps V 1) := ca_p (rv := [(7, (t.get .any 7))]) (e := (some (t.get .any 7))) rfl rfl rfl (by kernel_rfl) q3_8_0 ((rfl).trans rfl)
theorem j3_8_1 {t : Tr AV} {H0 H : Tr AO} {hs0 hs : Nat} {ds : List Nat} {V : Tr AV} {hps : List (Tr AO × Nat)} {fs : List EffR} : JR tab (evw tab) (D3_8 t H0 hs0 ds) 1 ⟨V, H, hs, hps, fs⟩ = J1 tab (evw tab) (D3_8 t H0 hs0 ds) 2 (jput ⟨V, H, hs, hps, fs⟩ 1 ((some (t.get .any 1)))) := jr_plain (q := ⟨V, H, hs, hps, fs⟩) (rv := [(1, (t.get .any 1))]) (e := (some (t.get .any 1))) rfl rfl rfl (by kernel_rfl) ((ne_pure rfl).trans ((rfl).trans rfl))
theorem q3_8_1 : hbB ms3_8 [5, 11, 16, 19] 1 = true := by kernel_rfl
theorem a3_8_1 {t : Tr AV} {H0 : Tr AO} {hs0 : Nat} {ds : List Nat} {V : Tr AV} {hps : List (Tr AO × Nat)} : CA tab (D3_8 t H0 hs0 ds) hps V 1 = (vchk (V.get .any 1) ((some (t.get .any 1))) && CA tab (D3_8 t H0 hs0 ds) hps V 2) := ca_p (rv := [(1, (t.get .any 1))]) (e := (some (t.get .any 1))) rfl rfl rfl (by kernel_rfl) q3_8_1 ((rfl).trans rfl)
theorem j3_8_2 {t : Tr AV} {H0 H : Tr AO} {hs0 hs : Nat} {ds : List Nat} {V : Tr AV} {hps : List (Tr AO × Nat)} {fs : List EffR} : JR tab (evw tab) (D3_8 t H0 hs0 ds) 2 ⟨V, H, hs, hps, fs⟩ = J1 tab (evw tab) (D3_8 t H0 hs0 ds) 3 (jput ⟨V, H, hs, hps, fs⟩ 2 ((some (t.get .any 9)))) := jr_plain (q := ⟨V, H, hs, hps, fs⟩) (rv := [(9, (t.get .any 9))]) (e := (some (t.get .any 9))) rfl rfl rfl (by kernel_rfl) ((ne_pure rfl).trans ((rfl).trans rfl))
theorem q3_8_2 : hbB ms3_8 [5, 11, 16, 19] 2 = true := by kernel_rfl
theorem a3_8_2 {t : Tr AV} {H0 : Tr AO} {hs0 : Nat} {ds : List Nat} {V : Tr AV} {hps : List (Tr AO × Nat)} : CA tab (D3_8 t H0 hs0 ds) hps V 2 = (vchk (V.get .any 2) ((some (t.get .any 9))) && CA tab (D3_8 t H0 hs0 ds) hps V 3) := ca_p (rv := [(9, (t.get .any 9))]) (e := (some (t.get .any 9))) rfl rfl rfl (by kernel_rfl) q3_8_2 ((rfl).trans rfl)
theorem j3_8_3 {t : Tr AV} {H0 H : Tr AO} {hs0 hs : Nat} {ds : List Nat} {V : Tr AV} {hps : List (Tr AO × Nat)} {fs : List EffR} : JR tab (evw tab) (D3_8 t H0 hs0 ds) 3 ⟨V, H, hs, hps, fs⟩ = J1 tab (evw tab) (D3_8 t H0 hs0 ds) 4 (jput ⟨V, H, hs, hps, fs⟩ 3 (indexAddrO 1 (some (V.get .any 1)) (some (V.get .any 2)))) := jr_plain (q := ⟨V, H, hs, hps, fs⟩) (rv := [(30, (V.get .any 1)), (31, (V.get .any 2))]) (e := indexAddrO 1 (some (V.get .any 1)) (some (V.get .any 2))) rfl rfl rfl (by kernel_rfl) ((ne_pure rfl).trans ((u_indexAddr (n := 1) rfl rfl rfl rfl).trans rfl))
theorem q3_8_3 : hbB ms3_8 [5, 11, 16, 19] 3 = true := by kernel_rfl
theorem a3_8_3 {t : Tr AV} {H0 : Tr AO} {hs0 : Nat} {ds : List Nat} {V : Tr AV} {hps : List (Tr AO × Nat)} : CA tab (D3_8 t H0 hs0 ds) hps V 3 = (vchk (V.get .any 3) (indexAddrO 1 (some (V.get .any 1)) (some (V.get .any 2))) && CA tab (D3_8 t H0 hs0 ds) hps V 4) := ca_p (rv := [(30, (V.get .any 1)), (31, (V.get .any 2))]) (e := indexAddrO 1 (some (V.get .any 1)) (some (V.get .any 2))) rfl rfl rfl (by kernel_rfl) q3_8_3 ((u_indexAddr (n := 1) rfl rfl rfl rfl).trans rfl)
theorem j3_8_4 {t : Tr AV} {H0 H : Tr AO} {hs0 hs : Nat} {ds : List Nat} {V : Tr AV} {hps : List (Tr AO × Nat)} {fs : List EffR} : JR tab (evw tab) (D3_8 t H0 hs0 ds) 4 ⟨V, H, hs, hps, fs⟩ = J1 tab (evw tab) (D3_8 t H0 hs0 ds) 5 (jput ⟨V, H, hs, hps, fs⟩ 4 (loadO H false 1 (some (V.get .any 3)))) := jr_plain (q := ⟨V, H, hs, hps, fs⟩) (rv := [(32, (V.get .any 3))]) (e := loadO H false 1 (some (V.get .any 3))) rfl rfl rfl (by kernel_rfl) ((ne_read rfl).trans ((u_load (agg := false) (n := 1) rfl rfl rfl).trans rfl))
theorem q3_8_4 : hbB ms3_8 [5, 11, 16, 19] 4 = true := by kernel_rfl
theorem a3_8_4 {t : Tr AV} {H0 : Tr AO} {hs0 : Nat} {ds : List Nat} {V : Tr AV} {hps : List (Tr AO × Nat)} : CA tab (D3_8 t H0 hs0 ds) hps V 4 = (hchk 0 0 (fun H => loadO H false 1 (some (V.get .any 3))) (V.get .any 4) hps 0 && CA tab (D3_8 t H0 hs0 ds) hps V 5) := ca_h (rv := [(32, (V.get .any 3))]) (n := 1) (lo := 0) (hi := 0) (f := fun H => loadO H false 1 (some (V.get .any 3))) rfl rfl rfl rfl (by kernel_rfl) q3_8_4 (by kernel_rfl) (by kernel_rfl) (fun H => (ne_read rfl).trans ((u_load (agg := false) (n := 1) rfl rfl rfl).trans rfl))
theorem j3_8_5 {t : Tr AV} {H0 H : Tr AO} {hs0 hs : Nat} {ds : List Nat} {V : Tr AV} {hps : List (Tr AO × Nat)} {fs : List EffR} : JR tab (evw tab) (D3_8 t H0 hs0 ds) 5 ⟨V, H, hs, hps, fs⟩ = J1 tab (evw tab) (D3_8 t H0 hs0 ds) 6 (jeff ⟨V, H, hs, hps, fs⟩ 5 [(29, (V.get .any 0)), (33, (V.get .any 4))] (callF tab (evw tab) true 14 [(V.get .any 0), (V.get .any 4)] H hs)) := jr_eff (q := ⟨V, H, hs, hps, fs⟩) (rv := [(29, (V.get .any 0)), (33, (V.get .any 4))]) (e := callF tab (evw tab) true 14 [(V.get .any 0), (V.get .any 4)] H hs) rfl rfl rfl (by kernel_rfl) ((ac_call).trans rfl)
theorem a3_8_5 {t : Tr AV} {H0 : Tr AO} {hs0 : Nat} {ds : List Nat} {V : Tr AV} {hps : List (Tr AO × Nat)} : CA tab (D3_8 t H0 hs0 ds) hps V 5 = CA tab (D3_8 t H0 hs0 ds) hps V 6 := ca_eff rfl rfl (by kernel_rfl)
theorem h3_8_5 {t : Tr AV} {H0 : Tr AO} {hs0 : Nat} {ds : List Nat} {V : Tr AV} {fs : List EffR} {rv : List (Nat × AV)} {v : AV} {es : List Nat} : chkEff (D3_8 t H0 hs0 ds) V .lf (⟨5, rv, v⟩ :: fs) (5 :: es) = (same 20 v (V.get .any 5) && sameRV rv [(29, (V.get .any 0)), (33, (V.get .any 4))] && chkEff (D3_8 t H0 hs0 ds) V .lf fs es) := ce_cons rfl (by kernel_rfl)
theorem j3_8_6 {t : Tr AV} {H0 H : Tr AO} {hs0 hs : Nat} {ds : List Nat} {V : Tr AV} {hps : List (Tr AO × Nat)} {fs : List EffR} : JR tab (evw tab) (D3_8 t H0 hs0 ds) 6 ⟨V, H, hs, hps, fs⟩ = J1 tab (evw tab) (D3_8 t H0 hs0 ds) 7 (jput ⟨V, H, hs, hps, fs⟩ 6 ((some (t.get .any 8)))) := jr_plain (q := ⟨V, H, hs, hps, fs⟩) (rv := [(8, (t.get .any 8))]) (e := (some (t.get .any 8))) rfl rfl rfl (by kernel_rfl) ((ne_pure rfl).trans ((rfl).trans rfl))
theorem q3_8_6 : hbB ms3_8 [5, 11, 16, 19] 6 = true := by kernel_rfl
theorem a3_8_6 {t : Tr AV} {H0 : Tr AO} {hs0 : Nat} {ds : List Nat} {V : Tr AV} {hps : List (Tr AO × Nat)} : CA tab (D3_8 t H0 hs0 ds) hps V 6 = (vchk (V.get .any 6) ((some (t.get .any 8))) && CA tab (D3_8 t H0 hs0 ds) hps V 7) := ca_p (rv := [(8, (t.get .any 8))]) (e := (some (t.get .any 8))) rfl rfl rfl (by kernel_rfl) q3_8_6 ((rfl).trans rfl)
theorem j3_8_7 {t : Tr AV} {H0 H : Tr AO} {hs0 hs : Nat} {ds : List Nat} {V : Tr AV} {hps : List (Tr AO × Nat)} {fs : List EffR} : JR tab (evw tab) (D3_8 t H0 hs0 ds) 7 ⟨V, H, hs, hps, fs⟩ = J1 tab (evw tab) (D3_8 t H0 hs0 ds) 8 (jput ⟨V, H, hs, hps, fs⟩ 7 ((some (t.get .any 1)))) := jr_plain (q := ⟨V, H, hs, hps, fs⟩) (rv := [(1, (t.get .any 1))]) (e := (some (t.get .any 1))) rfl rfl rfl (by kernel_rfl) ((ne_pure rfl).trans ((rfl).trans rfl))
theorem q3_8_7 : hbB ms3_8 [5, 11, 16, 19] 7 = true := by kernel_rfl
theorem a3_8_7 {t : Tr AV} {H0 : Tr AO} {hs0 : Nat} {ds : List Nat} {V : Tr AV} {hps : List (Tr AO × Nat)} : CA tab (D3_8 t H0 hs0 ds) hps V 7 = (vchk (V.get .any 7) ((some (t.get .any 1))) && CA tab (D3_8 t H0 hs0 ds) hps V 8) := ca_p (rv := [(1, (t.get .any 1))]) (e := (some (t.get .any 1))) rfl rfl rfl (by kernel_rfl) q3_8_7 ((rfl).trans rfl)
theorem j3_8_8 {t : Tr AV} {H0 H : Tr AO} {hs0 hs : Nat} {ds : List Nat} {V : Tr AV} {hps : List (Tr AO × Nat)} {fs : List EffR} : JR tab (evw tab) (D3_8 t H0 hs0 ds) 8 ⟨V, H, hs, hps, fs⟩ = J1 tab (evw tab) (D3_8 t H0 hs0 ds) 9 (jput ⟨V, H, hs, hps, fs⟩ 8 ((some (t.get .any 9)))) := jr_plain (q := ⟨V, H, hs, hps, fs⟩) (rv := [(9, (t.get .any 9))]) (e := (some (t.get .any 9))) rfl rfl rfl (by kernel_rfl) ((ne_pure rfl).trans ((rfl).trans rfl))
theorem q3_8_8 : hbB ms3_8 [5, 11, 16, 19] 8 = true := by kernel_rfl
theorem a3_8_8 {t : Tr AV} {H0 : Tr AO} {hs0 : Nat} {ds : List Nat} {V : Tr AV} {hps : List (Tr AO × Nat)} : CA tab (D3_8 t H0 hs0 ds) hps V 8 = (vchk (V.get .any 8) ((some (t.get .any 9))) && CA tab (D3_8 t H0 hs0 ds) hps V 9) := ca_p (rv := [(9, (t.get .any 9))]) (e := (some (t.get .any 9))) rfl rfl rfl (by kernel_rfl) q3_8_8 ((rfl).trans rfl)
theorem j3_8_9 {t : Tr AV} {H0 H : Tr AO} {hs0 hs : Nat} {ds : List Nat} {V : Tr AV} {hps : List (Tr AO × Nat)} {fs : List EffR} : JR tab (evw tab) (D3_8 t H0 hs0 ds) 9 ⟨V, H, hs, hps, fs⟩ = J1 tab (evw tab) (D3_8 t H0 hs0 ds) 10 (jput ⟨V, H, hs, hps, fs⟩ 9 (indexAddrO 1 (some (V.get .any 7)) (some (V.get .any 8)))) := jr_plain (q := ⟨V, H, hs, hps, fs⟩) (rv := [(36, (V.get .any 7)), (37, (V.get .any 8))]) (e := indexAddrO 1 (some (V.get .any 7)) (some (V.get .any 8))) rfl rfl rfl (by kernel_rfl) ((ne_pure rfl).trans ((u_indexAddr (n := 1) rfl rfl rfl rfl).trans rfl))
theorem q3_8_9 : hbB ms3_8 [5, 11, 16, 19] 9 = true := by kernel_rfl
theorem a3_8_9 {t : Tr AV} {H0 : Tr AO} {hs0 : Nat} {ds : List Nat} {V : Tr AV} {hps : List (Tr AO × Nat)} : CA tab (D3_8 t H0 hs0 ds) hps V 9 = (vchk (V.get .any 9) (indexAddrO 1 (some (V.get .any 7)) (some (V.get .any 8))) && CA tab (D3_8 t H0 hs0 ds) hps V 10) := ca_p (rv := [(36, (V.get .any 7)), (37, (V.get .any 8))]) (e := indexAddrO 1 (some (V.get .any 7)) (some (V.get .any 8))) rfl rfl rfl (by kernel_rfl) q3_8_9 ((u_indexAddr (n := 1) rfl rfl rfl rfl).trans rfl)
theorem j3_8_10 {t : Tr AV} {H0 H : Tr AO} {hs0 hs : Nat} {ds : List Nat} {V : Tr AV} {hps : List (Tr AO × Nat)} {fs : List EffR} : JR tab (evw tab) (D3_8 t H0 hs0 ds) 10 ⟨V, H, hs, hps, fs⟩ = J1 tab (evw tab) (D3_8 t H0 hs0 ds) 11 (jput ⟨V, H, hs, hps, fs⟩ 10 (loadO H false 1 (some (V.get .any 9)))) := jr_plain (q := ⟨V, H, hs, hps, fs⟩) (rv := [(38, (V.get .any 9))]) (e := loadO H false 1 (some (V.get .any 9))) rfl rfl rfl (by kernel_rfl) ((ne_read rfl).trans ((u_load (agg := false) (n := 1) rfl rfl rfl).trans rfl))
theorem q3_8_10 : hbB ms3_8 [5, 11, 16, 19] 10 = true := by kernel_rfl
theorem a3_8_10 {t : Tr AV} {H0 : Tr AO} {hs0 : Nat} {ds : List Nat} {V : Tr AV} {hps : List (Tr AO × Nat)} : CA tab (D3_8 t H0 hs0 ds) hps V 10 = (hchk 0 1 (fun H => loadO H false 1 (some (V.get .any 9))) (V.get .any 10) hps 0 && CA tab (D3_8 t H0 hs0 ds) hps V 11) := ca_h (rv := [(38, (V.get .any 9))]) (n := 1) (lo := 0) (hi := 1) (f := fun H => loadO H false 1 (some (V.get .any 9))) rfl rfl rfl rfl (by kernel_rfl) q3_8_10 (by kernel_rfl) (by kernel_rfl) (fun H => (ne_read rfl).trans ((u_load (agg := false) (n := 1) rfl rfl rfl).trans rfl))
theorem j3_8_11 {t : Tr AV} {H0 H : Tr AO} {hs0 hs : Nat} {ds : List Nat} {V : Tr AV} {hps : List (Tr AO × Nat)} {fs : List EffR} : JR tab (evw tab) (D3_8 t H0 hs0 ds) 11 ⟨V, H, hs, hps, fs⟩ = J1 tab (evw tab) (D3_8 t H0 hs0 ds) 12 (jeff ⟨V, H, hs, hps, fs⟩ 11 [(35, (V.get .any 6)), (39, (V.get .any 10))] (callF tab (evw tab) true 15 [(V.get .any 6), (V.get .any 10)] H hs)) := jr_eff (q := ⟨V, H, hs, hps, fs⟩) (rv := [(35, (V.get .any 6)), (39, (V.get .any 10))]) (e := callF tab (evw tab) true 15 [(V.get .any 6), (V.get .any 10)] H hs) rfl rfl rfl (by kernel_rfl) ((ac_call).trans rfl)
theorem a3_8_11 {t : Tr AV} {H0 : Tr AO} {hs0 : Nat} {ds : List Nat} {V : Tr AV} {hps : List (Tr AO × Nat)} : CA tab (D3_8 t H0 hs0 ds) hps V 11 = CA tab (D3_8 t H0 hs0 ds) hps V 12 := ca_eff rfl rfl (by kernel_rfl)
theorem h3_8_11 {t : Tr AV} {H0 : Tr AO} {hs0 : Nat} {ds : List Nat} {V : Tr AV} {fs : List EffR} {rv : List (Nat × AV)} {v : AV} {es : List Nat} : chkEff (D3_8 t H0 hs0 ds) V .lf (⟨11, rv, v⟩ :: fs) (11 :: es) = (same 20 v (V.get .any 11) && sameRV rv [(35, (V.get .any 6)), (39, (V.get .any 10))] && chkEff (D3_8 t H0 hs0 ds) V .lf fs es) := ce_cons rfl (by kernel_rfl)
theorem j3_8_12 {t : Tr AV} {H0 H : Tr AO} {hs0 hs : Nat} {ds : List Nat} {V : Tr AV} {hps : List (Tr AO × Nat)} {fs : List EffR} : JR tab (evw tab) (D3_8 t H0 hs0 ds) 12 ⟨V, H, hs, hps, fs⟩ = J1 tab (evw tab) (D3_8 t H0 hs0 ds) 13 (jput ⟨V, H, hs, hps, fs⟩ 12 (binO tab .neq 3 (.tmp 34) (.tmp 40) (some (V.get .any 5)) (some (V.get .any 11)))) := jr_plain (q := ⟨V, H, hs, hps, fs⟩) (rv := [(34, (V.get .any 5)), (40, (V.get .any 11))]) (e := binO tab .neq 3 (.tmp 34) (.tmp 40) (some (V.get .any 5)) (some (V.get .any 11))) rfl rfl rfl (by kernel_rfl) ((ne_pure rfl).trans ((u_bin).trans rfl))
theorem q3_8_12 : hbB ms3_8 [5, 11, 16, 19] 12 = true := by kernel_rfl
theorem a3_8_12 {t : Tr AV} {H0 : Tr AO} {hs0 : Nat} {ds : List Nat} {V : Tr AV} {hps : List (Tr AO × Nat)} : CA tab (D3_8 t H0 hs0 ds) hps V 12 = (vchk (V.get .any 12) (binO tab .neq 3 (.tmp 34) (.tmp 40) (some (V.get .any 5)) (some (V.get .any 11))) && CA tab (D3_8 t H0 hs0 ds) hps V 13) := ca_p (rv := [(34, (V.get .any 5)), (40, (V.get .any 11))]) (e := binO tab .neq 3 (.tmp 34) (.tmp 40) (some (V.get .any 5)) (some (V.get .any 11))) rfl rfl rfl (by kernel_rfl) q3_8_12 ((u_bin).trans rfl)
theorem j3_8_13 {t : Tr AV} {H0 H : Tr AO} {hs0 hs : Nat} {ds : List Nat} {V : Tr AV} {hps : List (Tr AO × Nat)} {fs : List EffR} : JR tab (evw tab) (D3_8 t H0 hs0 ds) 13 ⟨V, H, hs, hps, fs⟩ = J1 tab (evw tab) (D3_8 t H0 hs0 ds) 14 (jput ⟨V, H, hs, hps, fs⟩ 13 ((some (V.get .any 12)))) := jr_plain (q := ⟨V, H, hs, hps, fs⟩) (rv := [(41, (V.get .any 12))]) (e := (some (V.get .any 12))) rfl rfl rfl (by kernel_rfl) ((ne_pure rfl).trans ((rfl).trans rfl))
theorem q3_8_13 : hbB ms3_8 [5, 11, 16, 19] 13 = true := by kernel_rfl
theorem a3_8_13 {t : Tr AV} {H0 : Tr AO} {hs0 : Nat} {ds : List Nat} {V : Tr AV} {hps : List (Tr AO × Nat)} : CA tab (D3_8 t H0 hs0 ds) hps V 13 = (vchk (V.get .any 13) ((some (V.get .any 12))) && CA tab (D3_8 t H0 hs0 ds) hps V 14) := ca_p (rv := [(41, (V.get .any 12))]) (e := (some (V.get .any 12))) rfl rfl rfl (by kernel_rfl) q3_8_13 ((rfl).trans rfl)
theorem j3_8_14 {t : Tr AV} {H0 H : Tr AO} {hs0 hs : Nat} {ds : List Nat} {V : Tr AV} {hps : List (Tr AO × Nat)} {fs : List EffR} : JR tab (evw tab) (D3_8 t H0 hs0 ds) 14 ⟨V, H, hs, hps, fs⟩ = J1 tab (evw tab) (D3_8 t H0 hs0 ds) 15 (jg ⟨V, H, hs, hps, fs⟩ 14 ((some (t.get .any 7))) (wantO false (V.get .any 13))) := jr_gplain (q := ⟨V, H, hs, hps, fs⟩) (rv := [(42, (V.get .any 13)), (7, (t.get .any 7))]) (e := (some (t.get .any 7))) (w := (wantO false (V.get .any 13))) rfl rfl (by kernel_rfl) ((ne_pure rfl).trans ((rfl).trans rfl)) (by kernel_rfl)
theorem q3_8_14 : hbB ms3_8 [5, 11, 16, 19] 14 = true := by kernel_rfl
theorem a3_8_14 {t : Tr AV} {H0 : Tr AO} {hs0 : Nat} {ds : List Nat} {V : Tr AV} {hps : List (Tr AO × Nat)} : CA tab (D3_8 t H0 hs0 ds) hps V 14 = (gchk (V.get .any 14) (vchk (V.get .any 14) ((some (t.get .any 7)))) (wantO false (V.get .any 13)) && CA tab (D3_8 t H0 hs0 ds) hps V 15) := ca_pg (rv := [(42, (V.get .any 13)), (7, (t.get .any 7))]) (w := (wantO false (V.get .any 13))) (e := (some (t.get .any 7))) rfl (by kernel_rfl) rfl (by kernel_rfl) q3_8_14 ((rfl).trans rfl)
theorem j3_8_15 {t : Tr AV} {H0 H : Tr AO} {hs0 hs : Nat} {ds : List Nat} {V : Tr AV} {hps : List (Tr AO × Nat)} {fs : List EffR} : JR tab (evw tab) (D3_8 t H0 hs0 ds) 15 ⟨V, H, hs, hps, fs⟩ = J1 tab (evw tab) (D3_8 t H0 hs0 ds) 16 (jg ⟨V, H, hs, hps, fs⟩ 15 ((some (t.get .any 2))) (wantO false (V.get .any 13))) := jr_gplain (q := ⟨V, H, hs, hps, fs⟩) (rv := [(42, (V.get .any 13)), (2, (t.get .any 2))]) (e := (some (t.get .any 2))) (w := (wantO false (V.get .any 13))) rfl rfl (by kernel_rfl) ((ne_pure rfl).trans ((rfl).trans rfl)) (by kernel_rfl)
theorem q3_8_15 : hbB ms3_8 [5, 11, 16, 19] 15 = true := by kernel_rfl
theorem a3_8_15 {t : Tr AV} {H0 : Tr AO} {hs0 : Nat} {ds : List Nat} {V : Tr AV} {hps : List (Tr AO × Nat)} : CA tab (D3_8 t H0 hs0 ds) hps V 15 = (gchk (V.get .any 15) (vchk (V.get .any 15) ((some (t.get .any 2)))) (wantO false (V.get .any 13)) && CA tab (D3_8 t H0 hs0 ds) hps V 16) := ca_pg (rv := [(42, (V.get .any 13)), (2, (t.get .any 2))]) (w := (wantO false (V.get .any 13))) (e := (some (t.get .any 2))) rfl (by kernel_rfl) rfl (by kernel_rfl) q3_8_15 ((rfl).trans rfl)
theorem j3_8_16 {t : Tr AV} {H0 H : Tr AO} {hs0 hs : Nat} {ds : List Nat} {V : Tr AV} {hps : List (Tr AO × Nat)} {fs : List EffR} : JR tab (evw tab) (D3_8 t H0 hs0 ds) 16 ⟨V, H, hs, hps, fs⟩ = J1 tab (evw tab) (D3_8 t H0 hs0 ds) 17 (jge ⟨V, H, hs, hps, fs⟩ 16 [(42, (V.get .any 13)), (43, (V.get .any 14)), (44, (V.get .any 15))] (callF tab (evw tab) true 16 [(V.get .any 14), (V.get .any 15)] H hs) (wantO false (V.get .any 13))) := jr_geff (q := ⟨V, H, hs, hps, fs⟩) (rv := [(42, (V.get .any 13)), (43, (V.get .any 14)), (44, (V.get .any 15))]) (e := callF tab (evw tab) true 16 [(V.get .any 14), (V.get .any 15)] H hs) (w := (wantO false (V.get .any 13))) rfl rfl (by kernel_rfl) ((ac_call).trans rfl) (by kernel_rfl)
theorem a3_8_16 {t : Tr AV} {H0 : Tr AO} {hs0 : Nat} {ds : List Nat} {V : Tr AV} {hps : List (Tr AO × Nat)} : CA tab (D3_8 t H0 hs0 ds) hps V 16 = CA tab (D3_8 t H0 hs0 ds) hps V 17 := ca_eff rfl rfl (by kernel_rfl)
theorem h3_8_16 {t : Tr AV} {H0 : Tr AO} {hs0 : Nat} {ds : List Nat} {V : Tr AV} {fs : List EffR} {rv : List (Nat × AV)} {v : AV} {es : List Nat} : chkEff (D3_8 t H0 hs0 ds) V .lf (⟨16, rv, v⟩ :: fs) (16 :: es) = (same 20 v (V.get .any 16) && sameRV rv [(42, (V.get .any 13)), (43, (V.get .any 14)), (44, (V.get .any 15))] && chkEff (D3_8 t H0 hs0 ds) V .lf fs es) := ce_cons rfl (by kernel_rfl)
theorem j3_8_17 {t : Tr AV} {H0 H : Tr AO} {hs0 hs : Nat} {ds : List Nat} {V : Tr AV} {hps : List (Tr AO × Nat)} {fs : List EffR} : JR tab (evw tab) (D3_8 t H0 hs0 ds) 17 ⟨V, H, hs, hps, fs⟩ = J1 tab (evw tab) (D3_8 t H0 hs0 ds) 18 (jg ⟨V, H, hs, hps, fs⟩ 17 ((some (t.get .any 8))) (wantO false (V.get .any 13))) := jr_gplain (q := ⟨V, H, hs, hps, fs⟩) (rv := [(42, (V.get .any 13)), (8, (t.get .any 8))]) (e := (some (t.get .any 8))) (w := (wantO false (V.get .any 13))) rfl rfl (by kernel_rfl) ((ne_pure rfl).trans ((rfl).trans rfl)) (by kernel_rfl)
theorem q3_8_17 : hbB ms3_8 [5, 11, 16, 19] 17 = true := by kernel_rfl
theorem a3_8_17 {t : Tr AV} {H0 : Tr AO} {hs0 : Nat} {ds : List Nat} {V : Tr AV} {hps : List (Tr AO × Nat)} : CA tab (D3_8 t H0 hs0 ds) hps V 17 = (gchk (V.get .any 17) (vchk (V.get .any 17) ((some (t.get .any 8)))) (wantO false (V.get .any 13)) && CA tab (D3_8 t H0 hs0 ds) hps V 18) := ca_pg (rv := [(42, (V.get .any 13)), (8, (t.get .any 8))]) (w := (wantO false (V.get .any 13))) (e := (some (t.get .any 8))) rfl (by kernel_rfl) rfl (by kernel_rfl) q3_8_17 ((rfl).trans rfl)
theorem j3_8_18 {t : Tr AV} {H0 H : Tr AO} {hs0 hs : Nat} {ds : List Nat} {V : Tr AV} {hps : List (Tr AO × Nat)} {fs : List EffR} : JR tab (evw tab) (D3_8 t H0 hs0 ds) 18 ⟨V, H, hs, hps, fs⟩ = J1 tab (evw tab) (D3_8 t H0 hs0 ds) 19 (jg ⟨V, H, hs, hps, fs⟩ 18 ((some (t.get .any 2))) (wantO false (V.get .any 13))) := jr_gplain (q := ⟨V, H, hs, hps, fs⟩) (rv := [(42, (V.get .any 13)), (2, (t.get .any 2))]) (e := (some (t.get .any 2))) (w := (wantO false (V.get .any 13))) rfl rfl (by kernel_rfl) ((ne_pure rfl).trans ((rfl).trans rfl)) (by kernel_rfl)
theorem q3_8_18 : hbB ms3_8 [5, 11, 16, 19] 18 = true := by kernel_rfl
theorem a3_8_18 {t : Tr AV} {H0 : Tr AO} {hs0 : Nat} {ds : List Nat} {V : Tr AV} {hps : List (Tr AO × Nat)} : CA tab (D3_8 t H0 hs0 ds) hps V 18 = (gchk (V.get .any 18) (vchk (V.get .any 18) ((some (t.get .any 2)))) (wantO false (V.get .any 13)) && CA tab (D3_8 t H0 hs0 ds) hps V 19) := ca_pg (rv := [(42, (V.get .any 13)), (2, (t.get .any 2))]) (w := (wantO false (V.get .any 13))) (e := (some (t.get .any 2))) rfl (by kernel_rfl) rfl (by kernel_rfl) q3_8_18 ((rfl).trans rfl)
theorem j3_8_19 {t : Tr AV} {H0 H : Tr AO} {hs0 hs : Nat} {ds : List Nat} {V : Tr AV} {hps : List (Tr AO × Nat)} {fs : List EffR} : JR tab (evw tab) (D3_8 t H0 hs0 ds) 19 ⟨V, H, hs, hps, fs⟩ = J1 tab (evw tab) (D3_8 t H0 hs0 ds) 20 (jge ⟨V, H, hs, hps, fs⟩ 19 [(42, (V.get .any 13)), (46, (V.get .any 17)), (47, (V.get .any 18))] (callF tab (evw tab) true 17 [(V.get .any 17), (V.get .any 18)] H hs) (wantO false (V.get .any 13))) := jr_geff (q := ⟨V, H, hs, hps, fs⟩) (rv := [(42, (V.get .any 13)), (46, (V.get .any 17)), (47, (V.get .any 18))]) (e := callF tab (evw tab) true 17 [(V.get .any 17), (V.get .any 18)] H hs) (w := (wantO false (V.get .any 13))) rfl rfl (by kernel_rfl) ((ac_call).trans rfl) (by kernel_rfl)
theorem a3_8_19 {t : Tr AV} {H0 : Tr AO} {hs0 : Nat} {ds : List Nat} {V : Tr AV} {hps : List (Tr AO × Nat)} : CA tab (D3_8 t H0 hs0 ds) hps V 19 = CA tab (D3_8 t H0 hs0 ds) hps V 20 := ca_eff rfl rfl (by kernel_rfl)
theorem h3_8_19 {t : Tr AV} {H0 : Tr AO} {hs0 : Nat} {ds : List Nat} {V : Tr AV} {fs : List EffR} {rv : List (Nat × AV)} {v : AV} {es : List Nat} : chkEff (D3_8 t H0 hs0 ds) V .lf (⟨19, rv, v⟩ :: fs) (19 :: es) = (same 20 v (V.get .any 19) && sameRV rv [(42, (V.get .any 13)), (46, (V.get .any 17)), (47, (V.get .any 18))] && chkEff (D3_8 t H0 hs0 ds) V .lf fs es) := ce_cons rfl (by kernel_rfl)
theorem j3_8_20 {t : Tr AV} {H0 H : Tr AO} {hs0 hs : Nat} {ds : List Nat} {V : Tr AV} {hps : List (Tr AO × Nat)} {fs : List EffR} : JR tab (evw tab) (D3_8 t H0 hs0 ds) 20 ⟨V, H, hs, hps, fs⟩ = J1 tab (evw tab) (D3_8 t H0 hs0 ds) 21 (jg ⟨V, H, hs, hps, fs⟩ 20 (binO tab .neq 9 (.tmp 45) (.tmp 48) (some (V.get .any 16)) (some (V.get .any 19))) (wantO false (V.get .any 13))) := jr_gplain (q := ⟨V, H, hs, hps, fs⟩) (rv := [(42, (V.get .any 13)), (45, (V.get .any 16)), (48, (V.get .any 19))]) (e := binO tab .neq 9 (.tmp 45) (.tmp 48) (some (V.get .any 16)) (some (V.get .any 19))) (w := (wantO false (V.get .any 13))) rfl rfl (by kernel_rfl) ((ne_pure rfl).trans ((u_bin).trans rfl)) (by kernel_rfl)
theorem q3_8_20 : hbB ms3_8 [5, 11, 16, 19] 20 = true := by kernel_rfl
theorem a3_8_20 {t : Tr AV} {H0 : Tr AO} {hs0 : Nat} {ds : List Nat} {V : Tr AV} {hps : List (Tr AO × Nat)} : CA tab (D3_8 t H0 hs0 ds) hps V 20 = (gchk (V.get .any 20) (vchk (V.get .any 20) (binO tab .neq 9 (.tmp 45) (.tmp 48) (some (V.get .any 16)) (some (V.get .any 19)))) (wantO false (V.get .any 13)) && CA tab (D3_8 t H0 hs0 ds) hps V 21) := ca_pg (rv := [(42, (V.get .any 13)), (45, (V.get .any 16)), (48, (V.get .any 19))]) (w := (wantO false (V.get .any 13))) (e := binO tab .neq 9 (.tmp 45) (.tmp 48) (some (V.get .any 16)) (some (V.get .any 19))) rfl (by kernel_rfl) rfl (by kernel_rfl) q3_8_20 ((u_bin).trans rfl)
theorem j3_8_21 {t : Tr AV} {H0 H : Tr AO} {hs0 hs : Nat} {ds : List Nat} {V : Tr AV} {hps : List (Tr AO × Nat)} {fs : List EffR} : JR tab (evw tab) (D3_8 t H0 hs0 ds) 21 ⟨V, H, hs, hps, fs⟩ = J1 tab (evw tab) (D3_8 t H0 hs0 ds) 22 (jput ⟨V, H, hs, hps, fs⟩ 21 (pickO (some (V.get .any 13)) (some (.lit (.bool true))) (some (V.get .any 20)))) := jr_plain (q := ⟨V, H, hs, hps, fs⟩) (rv := [(42, (V.get .any 13)), (49, (V.get .any 20))]) (e := pickO (some (V.get .any 13)) (some (.lit (.bool true))) (some (V.get .any 20))) rfl rfl rfl (by kernel_rfl) ((ne_pure rfl).trans ((u_pick).trans rfl))
theorem q3_8_21 : hbB ms3_8 [5, 11, 16, 19] 21 = true := by kernel_rfl
theorem a3_8_21 {t : Tr AV} {H0 : Tr AO} {hs0 : Nat} {ds : List Nat} {V : Tr AV} {hps : List (Tr AO × Nat)} : CA tab (D3_8 t H0 hs0 ds) hps V 21 = (vchk (V.get .any 21) (pickO (some (V.get .any 13)) (some (.lit (.bool true))) (some (V.get .any 20))) && CA tab (D3_8 t H0 hs0 ds) hps V 22) := ca_p (rv := [(42, (V.get .any 13)), (49, (V.get .any 20))]) (e := pickO (some (V.get .any 13)) (some (.lit (.bool true))) (some (V.get .any 20))) rfl rfl rfl (by kernel_rfl) q3_8_21 ((u_pick).trans rfl)
theorem j3_8_e {t : Tr AV} {H0 H : Tr AO} {hs0 hs : Nat} {ds : List Nat} {V : Tr AV} {hps : List (Tr AO × Nat)} {fs : List EffR} : JR tab (evw tab) (D3_8 t H0 hs0 ds) 22 ⟨V, H, hs, hps, fs⟩ = some ⟨V, H, hs, hps, fs⟩ := jr_end rfl
theorem a3_8_e {t : Tr AV} {H0 : Tr AO} {hs0 : Nat} {ds : List Nat} {V : Tr AV} {hps : List (Tr AO × Nat)} : CA tab (D3_8 t H0 hs0 ds) hps V 22 = true := ca_end rfl
noncomputable def c3_31 : Code := cd1 c3_30
noncomputable def c3_32 : Code := cd2 c3_30
theorem wc3_30 : W tab ro F c3_30 K s = C1 tab ro F c3_31 c3_32 K s (opd s (.tmp 50)) := Wc_cond (show c3_30 = .cond (.tmp 50) c3_31 c3_32 from rfl)
noncomputable def c3_33 : Code := sq1 c3_31
noncomputable def c3_34 : Code := sq2 c3_31
theorem wc3_31 : W tab ro F c3_31 K s = W tab ro F c3_33 (.sq c3_34 :: K) s := Wc_seq (show c3_31 = .seq c3_33 c3_34 from rfl)
noncomputable def r3_9 : Array Oper := rg1 c3_33
theorem wc3_33 : W tab ro F c3_33 K s = I tab ro F r3_9 0 K s := Wc_region (show c3_33 = .region 9 r3_9 false from rfl)
theorem i3_9_0 : I tab ro F r3_9 0 K s = I1 tab ro F r3_9 1 K (setO s (some 6) (opd s (.const (.bool false)))) := I_plain rfl rfl (ev_assign)
theorem i3_9_e : I tab ro F r3_9 1 K s = kont tab ro F K .normal s := I_end rfl
theorem wc3_34 : W tab ro F c3_34 K s = kont tab ro F K .ret s := Wc_ret (show c3_34 = .ret from rfl)
theorem wc3_32 : W tab ro F c3_32 K s = kont tab ro F K .normal s := Wc_skip (show c3_32 = .skip from rfl)
noncomputable def r3_7 : Array Oper := rg1 c3_27
theorem wc3_27 : W tab ro F c3_27 K s = I tab ro F r3_7 0 K s := Wc_region (show c3_27 = .region 7 r3_7 false from rfl)
theorem i3_7_0 : I tab ro F r3_7 0 K s = I1 tab ro F r3_7 1 K (setO s (some 27) (opd s (.tmp 9))) := I_plain rfl rfl (ev_move)
theorem i3_7_1 : I tab ro F r3_7 1 K s = I1 tab ro F r3_7 2 K (setO s (some 28) (binO tab .add 3 (.tmp 27) (.const (.int .i64 (1))) (opd s (.tmp 27)) (opd s (.const (.int .i64 (1)))))) := I_plain rfl rfl (ev_binOp.trans (congrArg (setO s _) u_bin))
theorem i3_7_2 : I tab ro F r3_7 2 K s = I1 tab ro F r3_7 3 K (setO s (some 9) (opd s (.tmp 28))) := I_plain rfl rfl (ev_assign)
theorem i3_7_e : I tab ro F r3_7 3 K s = kont tab ro F K .normal s := I_end rfl
noncomputable def c3_35 : Code := sq1 c3_15
noncomputable def c3_36 : Code := sq2 c3_15
theorem wc3_15 : W tab ro F c3_15 K s = W tab ro F c3_35 (.sq c3_36 :: K) s := Wc_seq (show c3_15 = .seq c3_35 c3_36 from rfl)
noncomputable def r3_10 : Array Oper := rg1 c3_35
theorem wc3_35 : W tab ro F c3_35 K s = I tab ro F r3_10 0 K s := Wc_region (show c3_35 = .region 10 r3_10 false from rfl)
theorem i3_10_0 : I tab ro F r3_10 0 K s = I1 tab ro F r3_10 1 K (setE s (some 51) (callG tab (evw tab) s 13 (opds s []))) := I_plain rfl rfl (u_call)
theorem i3_10_1 : I tab ro F r3_10 1 K s = I1 tab ro F r3_10 2 K (setO s (some 6) (opd s (.tmp 51))) := I_plain rfl rfl (ev_assign)
theorem i3_10_e : I tab ro F r3_10 2 K s = kont tab ro F K .normal s := I_end rfl
theorem wc3_36 : W tab ro F c3_36 K s = kont tab ro F K .ret s := Wc_ret (show c3_36 = .ret from rfl)
theorem n3 : fi3.ntmps = 52 := rfl
theorem q3 : fi3.results = [.tmp 6] := rfl
theorem f3 : tab.f 3 = some fi3 := rfl
theorem b3 : fi3.body = c3 := rfl
theorem m3 : fi3.lm = 1 := rfl
-- NAMES 3 n3 q3 b3 m3  wc3 wc3_0 i3_0_0 i3_0_e wc3_1 wc3_2 i3_1_0 i3_1_1 i3_1_2 i3_1_e wc3_3 wc3_4 i3_2_0 i3_2_1 i3_2_2 i3_2_3 i3_2_e wc3_5 wc3_6 wc3_8 i3_3_0 i3_3_1 i3_3_2 i3_3_e wc3_9 wc3_10 wc3_12 i3_4_0 i3_4_1 i3_4_e wc3_13 wc3_11 wc3_7 wc3_14 wc3_16 i3_5_0 i3_5_e wc3_17 kc3_18 wc3_19 wc3_20 wc3_22 i3_6_0 i3_6_1 i3_6_2 i3_6_3 i3_6_4 i3_6_5 i3_6_6 i3_6_7 i3_6_e wc3_23 wc3_24 wc3_25 wc3_21 wc3_26 wc3_28 wc3_29 e3_8 y3_8 z3_8 j3_8_0 a3_8_0 j3_8_1 a3_8_1 j3_8_2 a3_8_2 j3_8_3 a3_8_3 j3_8_4 a3_8_4 j3_8_5 h3_8_5 a3_8_5 j3_8_6 a3_8_6 j3_8_7 a3_8_7 j3_8_8 a3_8_8 j3_8_9 a3_8_9 j3_8_10 a3_8_10 j3_8_11 h3_8_11 a3_8_11 j3_8_12 a3_8_12 j3_8_13 a3_8_13 j3_8_14 a3_8_14 j3_8_15 a3_8_15 j3_8_16 h3_8_16 a3_8_16 j3_8_17 a3_8_17 j3_8_18 a3_8_18 j3_8_19 h3_8_19 a3_8_19 j3_8_20 a3_8_20 j3_8_21 a3_8_21 j3_8_e a3_8_e wc3_30 wc3_31 wc3_33 i3_9_0 i3_9_e wc3_34 wc3_32 wc3_27 i3_7_0 i3_7_1 i3_7_2 i3_7_e wc3_15 wc3_35 i3_10_0 i3_10_1 i3_10_e wc3_36
/-! 14: (*verderer/drill.Dice).Roll -/
noncomputable def c14 : Code := fi14.body
noncomputable def c14_0 : Code := sq1 c14
noncomputable def c14_1 : Code := sq2 c14
theorem wc14 : W tab ro F c14 K s = W tab ro F c14_0 (.sq c14_1 :: K) s := Wc_seq (show c14 = .seq c14_0 c14_1 from rfl)
noncomputable def r14_0 : Array Oper := rg1 c14_0
theorem wc14_0 : W tab ro F c14_0 K s = I tab ro F r14_0 0 K s := Wc_region (show c14_0 = .region 0 r14_0 false from rfl)
theorem i14_0_0 : I tab ro F r14_0 0 K s = I1 tab ro F r14_0 1 K (setO s (some 4) (opd s (.const (.int .i64 (0))))) := I_plain rfl rfl (ev_assign)
theorem i14_0_e : I tab ro F r14_0 1 K s = kont tab ro F K .normal s := I_end rfl
noncomputable def c14_2 : Code := sq1 c14_1
noncomputable def c14_3 : Code := sq2 c14_1
theorem wc14_1 : W tab ro F c14_1 K s = W tab ro F c14_2 (.sq c14_3 :: K) s := Wc_seq (show c14_1 = .seq c14_2 c14_3 from rfl)
noncomputable def c14_4 : Code := sq1 c14_2
noncomputable def c14_5 : Code := sq2 c14_2
theorem wc14_2 : W tab ro F c14_2 K s = W tab ro F c14_4 (.sq c14_5 :: K) s := Wc_seq (show c14_2 = .seq c14_4 c14_5 from rfl)
noncomputable def r14_1 : Array Oper := rg1 c14_4
theorem wc14_4 : W tab ro F c14_4 K s = I tab ro F r14_1 0 K s := Wc_region (show c14_4 = .region 1 r14_1 false from rfl)
theorem i14_1_0 : I tab ro F r14_1 0 K s = I1 tab ro F r14_1 1 K (setO s (some 5) (opd s (.tmp 0))) := I_plain rfl rfl (ev_move)
theorem i14_1_1 : I tab ro F r14_1 1 K s = I1 tab ro F r14_1 2 K (setO s (some 6) (binO tab .eql 25 (.tmp 5) (.const (.pointer none)) (opd s (.tmp 5)) (opd s (.const (.pointer none))))) := I_plain rfl rfl (ev_binOp.trans (congrArg (setO s _) u_bin))
theorem i14_1_2 : I tab ro F r14_1 2 K s = I1 tab ro F r14_1 3 K (setO s (some 7) (opd s (.tmp 6))) := I_plain rfl rfl (ev_move)
theorem i14_1_3 : I tab ro F r14_1 3 K s = IG tab ro F r14_1 4 K false (setO s (some 8) (opd s (.tmp 1))) (setT s (some 8) udef) (opd s (.tmp 7)) := I_guard (d := (some 8)) rfl rfl rfl rfl rfl (ev_move)
theorem i14_1_4 : I tab ro F r14_1 4 K s = IG tab ro F r14_1 5 K false (setO s (some 9) (binO tab .lss 3 (.tmp 8) (.const (.int .i64 (1))) (opd s (.tmp 8)) (opd s (.const (.int .i64 (1)))))) (setT s (some 9) udef) (opd s (.tmp 7)) := I_guard (d := (some 9)) rfl rfl rfl rfl rfl (ev_binOp.trans (congrArg (setO s _) u_bin))
theorem i14_1_5 : I tab ro F r14_1 5 K s = I1 tab ro F r14_1 6 K (setO s (some 10) (pickO (opd s (.tmp 7)) (opd s (.const (.bool true))) (opd s (.tmp 9)))) := I_plain rfl rfl (ev_pick.trans (congrArg (setO s _) u_pick))
theorem i14_1_6 : I tab ro F r14_1 6 K s = I1 tab ro F r14_1 7 K (setO s (some 11) (opd s (.tmp 10))) := I_plain rfl rfl (ev_move)
theorem i14_1_7 : I tab ro F r14_1 7 K s = IG tab ro F r14_1 8 K false (setO s (some 12) (opd s (.tmp 1))) (setT s (some 12) udef) (opd s (.tmp 11)) := I_guard (d := (some 12)) rfl rfl rfl rfl rfl (ev_move)
theorem i14_1_8 : I tab ro F r14_1 8 K s = IG tab ro F r14_1 9 K false (setO s (some 13) (binO tab .gtr 3 (.tmp 12) (.const (.int .i64 (2147483648))) (opd s (.tmp 12)) (opd s (.const (.int .i64 (2147483648)))))) (setT s (some 13) udef) (opd s (.tmp 11)) := I_guard (d := (some 13)) rfl rfl rfl rfl rfl (ev_binOp.trans (congrArg (setO s _) u_bin))
theorem i14_1_9 : I tab ro F r14_1 9 K s = I1 tab ro F r14_1 10 K (setO s (some 14) (pickO (opd s (.tmp 11)) (opd s (.const (.bool true))) (opd s (.tmp 13)))) := I_plain rfl rfl (ev_pick.trans (congrArg (setO s _) u_pick))
theorem i14_1_e : I tab ro F r14_1 10 K s = kont tab ro F K .normal s := I_end rfl
noncomputable def c14_6 : Code := cd1 c14_5
noncomputable def c14_7 : Code := cd2 c14_5
theorem wc14_5 : W tab ro F c14_5 K s = C1 tab ro F c14_6 c14_7 K s (opd s (.tmp 14)) := Wc_cond (show c14_5 = .cond (.tmp 14) c14_6 c14_7 from rfl)
noncomputable def c14_8 : Code := sq1 c14_6
noncomputable def c14_9 : Code := sq2 c14_6
theorem wc14_6 : W tab ro F c14_6 K s = W tab ro F c14_8 (.sq c14_9 :: K) s := Wc_seq (show c14_6 = .seq c14_8 c14_9 from rfl)
noncomputable def r14_2 : Array Oper := rg1 c14_8
theorem wc14_8 : W tab ro F c14_8 K s = I tab ro F r14_2 0 K s := Wc_region (show c14_8 = .region 2 r14_2 false from rfl)
theorem i14_2_0 : I tab ro F r14_2 0 K s = I1 tab ro F r14_2 1 K (setO s (some 4) (opd s (.const (.int .i64 (0))))) := I_plain rfl rfl (ev_assign)
theorem i14_2_e : I tab ro F r14_2 1 K s = kont tab ro F K .normal s := I_end rfl
theorem wc14_9 : W tab ro F c14_9 K s = kont tab ro F K .ret s := Wc_ret (show c14_9 = .ret from rfl)
theorem wc14_7 : W tab ro F c14_7 K s = kont tab ro F K .normal s := Wc_skip (show c14_7 = .skip from rfl)
noncomputable def c14_10 : Code := sq1 c14_3
noncomputable def c14_11 : Code := sq2 c14_3
theorem wc14_3 : W tab ro F c14_3 K s = W tab ro F c14_10 (.sq c14_11 :: K) s := Wc_seq (show c14_3 = .seq c14_10 c14_11 from rfl)
noncomputable def r14_3 : Array Oper := rg1 c14_10
theorem wc14_10 : W tab ro F c14_10 K s = I tab ro F r14_3 0 K s := Wc_region (show c14_10 = .region 3 r14_3 false from rfl)
theorem i14_3_0 : I tab ro F r14_3 0 K s = I1 tab ro F r14_3 1 K (setO s (some 15) (opd s (.tmp 0))) := I_plain rfl rfl (ev_move)
theorem i14_3_1 : I tab ro F r14_3 1 K s = I1 tab ro F r14_3 2 K (setO s (some 16) (opd s (.tmp 0))) := I_plain rfl rfl (ev_move)
theorem i14_3_2 : I tab ro F r14_3 2 K s = I1 tab ro F r14_3 3 K (setO s (some 17) (nilO (opd s (.tmp 16)))) := I_plain rfl rfl (ev_nilCheck.trans (congrArg (setO s _) u_nil))
theorem i14_3_3 : I tab ro F r14_3 3 K s = I1 tab ro F r14_3 4 K (setO s (some 18) (fieldAddrO 0 (opd s (.tmp 17)))) := I_plain rfl rfl (ev_fieldAddr.trans (congrArg (setO s _) (u_fieldAddr (off := 0) rfl rfl rfl rfl rfl rfl)))
theorem i14_3_4 : I tab ro F r14_3 4 K s = I1 tab ro F r14_3 5 K (setO s (some 19) (loadO s.heap false 1 (opd s (.tmp 18)))) := I_plain rfl rfl (ev_load.trans (congrArg (setO s _) (u_load (agg := false) (n := 1) rfl rfl rfl)))
theorem i14_3_5 : I tab ro F r14_3 5 K s = I1 tab ro F r14_3 6 K (setO s (some 20) (binO tab .mul 22 (.tmp 19) (.const (.int .u64 (2862933555777941757))) (opd s (.tmp 19)) (opd s (.const (.int .u64 (2862933555777941757)))))) := I_plain rfl rfl (ev_binOp.trans (congrArg (setO s _) u_bin))
theorem i14_3_6 : I tab ro F r14_3 6 K s = I1 tab ro F r14_3 7 K (setO s (some 21) (binO tab .add 22 (.tmp 20) (.const (.int .u64 (3037000493))) (opd s (.tmp 20)) (opd s (.const (.int .u64 (3037000493)))))) := I_plain rfl rfl (ev_binOp.trans (congrArg (setO s _) u_bin))
theorem i14_3_7 : I tab ro F r14_3 7 K s = I1 tab ro F r14_3 8 K (setO s (some 22) (nilO (opd s (.tmp 15)))) := I_plain rfl rfl (ev_nilCheck.trans (congrArg (setO s _) u_nil))
theorem i14_3_8 : I tab ro F r14_3 8 K s = I1 tab ro F r14_3 9 K (setO s (some 23) (fieldAddrO 0 (opd s (.tmp 22)))) := I_plain rfl rfl (ev_fieldAddr.trans (congrArg (setO s _) (u_fieldAddr (off := 0) rfl rfl rfl rfl rfl rfl)))
theorem i14_3_9 : I tab ro F r14_3 9 K s = I1 tab ro F r14_3 10 K (setE s none (storeO s.heap s.hs 1 (opd s (.tmp 23)) (opd s (.tmp 21)))) := I_plain rfl rfl (ev_store.trans (congrArg (setE s _) (u_store rfl rfl)))
theorem i14_3_e : I tab ro F r14_3 10 K s = kont tab ro F K .normal s := I_end rfl
noncomputable def c14_12 : Code := sq1 c14_11
noncomputable def c14_13 : Code := sq2 c14_11
theorem wc14_11 : W tab ro F c14_11 K s = W tab ro F c14_12 (.sq c14_13 :: K) s := Wc_seq (show c14_11 = .seq c14_12 c14_13 from rfl)
noncomputable def r14_4 : Array Oper := rg1 c14_12
theorem wc14_12 : W tab ro F c14_12 K s = I tab ro F r14_4 0 K s := Wc_region (show c14_12 = .region 4 r14_4 false from rfl)
theorem i14_4_0 : I tab ro F r14_4 0 K s = I1 tab ro F r14_4 1 K (setO s (some 24) (opd s (.tmp 0))) := I_plain rfl rfl (ev_move)
theorem i14_4_1 : I tab ro F r14_4 1 K s = I1 tab ro F r14_4 2 K (setO s (some 25) (nilO (opd s (.tmp 24)))) := I_plain rfl rfl (ev_nilCheck.trans (congrArg (setO s _) u_nil))
theorem i14_4_2 : I tab ro F r14_4 2 K s = I1 tab ro F r14_4 3 K (setO s (some 26) (fieldAddrO 0 (opd s (.tmp 25)))) := I_plain rfl rfl (ev_fieldAddr.trans (congrArg (setO s _) (u_fieldAddr (off := 0) rfl rfl rfl rfl rfl rfl)))
theorem i14_4_3 : I tab ro F r14_4 3 K s = I1 tab ro F r14_4 4 K (setO s (some 27) (loadO s.heap false 1 (opd s (.tmp 26)))) := I_plain rfl rfl (ev_load.trans (congrArg (setO s _) (u_load (agg := false) (n := 1) rfl rfl rfl)))
theorem i14_4_4 : I tab ro F r14_4 4 K s = I1 tab ro F r14_4 5 K (setO s (some 28) (binO tab .shr 22 (.tmp 27) (.const (.int .u64 (33))) (opd s (.tmp 27)) (opd s (.const (.int .u64 (33)))))) := I_plain rfl rfl (ev_binOp.trans (congrArg (setO s _) u_bin))
theorem i14_4_5 : I tab ro F r14_4 5 K s = I1 tab ro F r14_4 6 K (setO s (some 29) (convIO .i64 (opd s (.tmp 28)))) := I_plain rfl rfl (u_convI rfl rfl rfl)
theorem i14_4_6 : I tab ro F r14_4 6 K s = I1 tab ro F r14_4 7 K (setO s (some 30) (opd s (.tmp 1))) := I_plain rfl rfl (ev_move)
theorem i14_4_7 : I tab ro F r14_4 7 K s = I1 tab ro F r14_4 8 K (setO s (some 31) (binO tab .rem 3 (.tmp 29) (.tmp 30) (opd s (.tmp 29)) (opd s (.tmp 30)))) := I_plain rfl rfl (ev_binOp.trans (congrArg (setO s _) u_bin))
theorem i14_4_8 : I tab ro F r14_4 8 K s = I1 tab ro F r14_4 9 K (setO s (some 4) (opd s (.tmp 31))) := I_plain rfl rfl (ev_assign)
theorem i14_4_e : I tab ro F r14_4 9 K s = kont tab ro F K .normal s := I_end rfl
theorem wc14_13 : W tab ro F c14_13 K s = kont tab ro F K .ret s := Wc_ret (show c14_13 = .ret from rfl)
theorem n14 : fi14.ntmps = 32 := rfl
theorem q14 : fi14.results = [.tmp 4] := rfl
theorem f14 : tab.f 14 = some fi14 := rfl
theorem b14 : fi14.body = c14 := rfl
theorem m14 : fi14.lm = 1 := rfl
-- NAMES 14 n14 q14 b14 m14 p25p1 p25p2 p25p3 p25p4 p25e1 p25e2 p25e3 p25e4 p25n1 p25n2 wc14 wc14_0 i14_0_0 i14_0_e wc14_1 wc14_2 wc14_4 i14_1_0 i14_1_1 i14_1_2 i14_1_3 i14_1_4 i14_1_5 i14_1_6 i14_1_7 i14_1_8 i14_1_9 i14_1_e wc14_5 wc14_6 wc14_8 i14_2_0 i14_2_e wc14_9 wc14_7 wc14_3 wc14_10 i14_3_0 i14_3_1 i14_3_2 i14_3_3 i14_3_4 i14_3_5 i14_3_6 i14_3_7 i14_3_8 i14_3_9 i14_3_e wc14_11 wc14_12 i14_4_0 i14_4_1 i14_4_2 i14_4_3 i14_4_4 i14_4_5 i14_4_6 i14_4_7 i14_4_8 i14_4_e wc14_13
/-! 16: (*verderer/drill.Dice).Pick -/
noncomputable def c16 : Code := fi16.body
noncomputable def c16_0 : Code := sq1 c16
noncomputable def c16_1 : Code := sq2 c16
theorem wc16 : W tab ro F c16 K s = W tab ro F c16_0 (.sq c16_1 :: K) s := Wc_seq (show c16 = .seq c16_0 c16_1 from rfl)
noncomputable def r16_0 : Array Oper := rg1 c16_0
theorem wc16_0 : W tab ro F c16_0 K s = I tab ro F r16_0 0 K s := Wc_region (show c16_0 = .region 0 r16_0 false from rfl)
theorem i16_0_0 : I tab ro F r16_0 0 K s = I1 tab ro F r16_0 1 K (setO s (some 4) (opd s (.const (.string ⟨#[]⟩)))) := I_plain rfl rfl (ev_assign)
theorem i16_0_e : I tab ro F r16_0 1 K s = kont tab ro F K .normal s := I_end rfl
noncomputable def c16_2 : Code := sq1 c16_1
noncomputable def c16_3 : Code := sq2 c16_1
theorem wc16_1 : W tab ro F c16_1 K s = W tab ro F c16_2 (.sq c16_3 :: K) s := Wc_seq (show c16_1 = .seq c16_2 c16_3 from rfl)
noncomputable def c16_4 : Code := sq1 c16_2
noncomputable def c16_5 : Code := sq2 c16_2
theorem wc16_2 : W tab ro F c16_2 K s = W tab ro F c16_4 (.sq c16_5 :: K) s := Wc_seq (show c16_2 = .seq c16_4 c16_5 from rfl)
noncomputable def r16_1 : Array Oper := rg1 c16_4
theorem wc16_4 : W tab ro F c16_4 K s = I tab ro F r16_1 0 K s := Wc_region (show c16_4 = .region 1 r16_1 false from rfl)
theorem i16_1_0 : I tab ro F r16_1 0 K s = I1 tab ro F r16_1 1 K (setO s (some 5) (opd s (.tmp 0))) := I_plain rfl rfl (ev_move)
theorem i16_1_1 : I tab ro F r16_1 1 K s = I1 tab ro F r16_1 2 K (setO s (some 6) (binO tab .eql 25 (.tmp 5) (.const (.pointer none)) (opd s (.tmp 5)) (opd s (.const (.pointer none))))) := I_plain rfl rfl (ev_binOp.trans (congrArg (setO s _) u_bin))
theorem i16_1_2 : I tab ro F r16_1 2 K s = I1 tab ro F r16_1 3 K (setO s (some 7) (opd s (.tmp 6))) := I_plain rfl rfl (ev_move)
theorem i16_1_3 : I tab ro F r16_1 3 K s = IG tab ro F r16_1 4 K false (setO s (some 8) (opd s (.tmp 1))) (setT s (some 8) udef) (opd s (.tmp 7)) := I_guard (d := (some 8)) rfl rfl rfl rfl rfl (ev_move)
theorem i16_1_4 : I tab ro F r16_1 4 K s = IG tab ro F r16_1 5 K false (setO s (some 9) (lenLO (opd s (.tmp 8)))) (setT s (some 9) udef) (opd s (.tmp 7)) := I_guard (d := (some 9)) rfl rfl rfl rfl rfl (u_lenL rfl rfl)
theorem i16_1_5 : I tab ro F r16_1 5 K s = IG tab ro F r16_1 6 K false (setO s (some 10) (binO tab .eql 3 (.tmp 9) (.const (.int .i64 (0))) (opd s (.tmp 9)) (opd s (.const (.int .i64 (0)))))) (setT s (some 10) udef) (opd s (.tmp 7)) := I_guard (d := (some 10)) rfl rfl rfl rfl rfl (ev_binOp.trans (congrArg (setO s _) u_bin))
theorem i16_1_6 : I tab ro F r16_1 6 K s = I1 tab ro F r16_1 7 K (setO s (some 11) (pickO (opd s (.tmp 7)) (opd s (.const (.bool true))) (opd s (.tmp 10)))) := I_plain rfl rfl (ev_pick.trans (congrArg (setO s _) u_pick))
theorem i16_1_e : I tab ro F r16_1 7 K s = kont tab ro F K .normal s := I_end rfl
noncomputable def c16_6 : Code := cd1 c16_5
noncomputable def c16_7 : Code := cd2 c16_5
theorem wc16_5 : W tab ro F c16_5 K s = C1 tab ro F c16_6 c16_7 K s (opd s (.tmp 11)) := Wc_cond (show c16_5 = .cond (.tmp 11) c16_6 c16_7 from rfl)
noncomputable def c16_8 : Code := sq1 c16_6
noncomputable def c16_9 : Code := sq2 c16_6
theorem wc16_6 : W tab ro F c16_6 K s = W tab ro F c16_8 (.sq c16_9 :: K) s := Wc_seq (show c16_6 = .seq c16_8 c16_9 from rfl)
noncomputable def r16_2 : Array Oper := rg1 c16_8
theorem wc16_8 : W tab ro F c16_8 K s = I tab ro F r16_2 0 K s := Wc_region (show c16_8 = .region 2 r16_2 false from rfl)
theorem i16_2_0 : I tab ro F r16_2 0 K s = I1 tab ro F r16_2 1 K (setO s (some 4) (opd s (.const (.string ⟨#[]⟩)))) := I_plain rfl rfl (ev_assign)
theorem i16_2_e : I tab ro F r16_2 1 K s = kont tab ro F K .normal s := I_end rfl
theorem wc16_9 : W tab ro F c16_9 K s = kont tab ro F K .ret s := Wc_ret (show c16_9 = .ret from rfl)
theorem wc16_7 : W tab ro F c16_7 K s = kont tab ro F K .normal s := Wc_skip (show c16_7 = .skip from rfl)
noncomputable def c16_10 : Code := sq1 c16_3
noncomputable def c16_11 : Code := sq2 c16_3
theorem wc16_3 : W tab ro F c16_3 K s = W tab ro F c16_10 (.sq c16_11 :: K) s := Wc_seq (show c16_3 = .seq c16_10 c16_11 from rfl)
noncomputable def r16_3 : Array Oper := rg1 c16_10
theorem wc16_10 : W tab ro F c16_10 K s = I tab ro F r16_3 0 K s := Wc_region (show c16_10 = .region 3 r16_3 false from rfl)
theorem i16_3_0 : I tab ro F r16_3 0 K s = I1 tab ro F r16_3 1 K (setO s (some 12) (opd s (.tmp 1))) := I_plain rfl rfl (ev_move)
theorem i16_3_1 : I tab ro F r16_3 1 K s = I1 tab ro F r16_3 2 K (setO s (some 13) (opd s (.tmp 0))) := I_plain rfl rfl (ev_move)
theorem i16_3_2 : I tab ro F r16_3 2 K s = I1 tab ro F r16_3 3 K (setO s (some 14) (opd s (.tmp 1))) := I_plain rfl rfl (ev_move)
theorem i16_3_3 : I tab ro F r16_3 3 K s = I1 tab ro F r16_3 4 K (setO s (some 15) (lenLO (opd s (.tmp 14)))) := I_plain rfl rfl (u_lenL rfl rfl)
theorem i16_3_4 : I tab ro F r16_3 4 K s = I1 tab ro F r16_3 5 K (setE s (some 16) (callG tab (evw tab) s 14 (opds s [(.tmp 13), (.tmp 15)]))) := I_plain rfl rfl (u_call)
theorem i16_3_5 : I tab ro F r16_3 5 K s = I1 tab ro F r16_3 6 K (setO s (some 17) (indexAddrO 1 (opd s (.tmp 12)) (opd s (.tmp 16)))) := I_plain rfl rfl (ev_indexAddr.trans (congrArg (setO s _) (u_indexAddr rfl rfl rfl rfl)))
theorem i16_3_6 : I tab ro F r16_3 6 K s = I1 tab ro F r16_3 7 K (setO s (some 18) (loadO s.heap false 1 (opd s (.tmp 17)))) := I_plain rfl rfl (ev_load.trans (congrArg (setO s _) (u_load (agg := false) (n := 1) rfl rfl rfl)))
theorem i16_3_7 : I tab ro F r16_3 7 K s = I1 tab ro F r16_3 8 K (setO s (some 4) (opd s (.tmp 18))) := I_plain rfl rfl (ev_assign)
theorem i16_3_e : I tab ro F r16_3 8 K s = kont tab ro F K .normal s := I_end rfl
theorem wc16_11 : W tab ro F c16_11 K s = kont tab ro F K .ret s := Wc_ret (show c16_11 = .ret from rfl)
theorem n16 : fi16.ntmps = 19 := rfl
theorem q16 : fi16.results = [.tmp 4] := rfl
theorem f16 : tab.f 16 = some fi16 := rfl
theorem b16 : fi16.body = c16 := rfl
theorem m16 : fi16.lm = 1 := rfl
-- NAMES 16 n16 q16 b16 m16 p25p1 p25p2 p25p3 p25p4 p25e1 p25e2 p25e3 p25e4 p25n1 p25n2 wc16 wc16_0 i16_0_0 i16_0_e wc16_1 wc16_2 wc16_4 i16_1_0 i16_1_1 i16_1_2 i16_1_3 i16_1_4 i16_1_5 i16_1_6 i16_1_e wc16_5 wc16_6 wc16_8 i16_2_0 i16_2_e wc16_9 wc16_7 wc16_3 wc16_10 i16_3_0 i16_3_1 i16_3_2 i16_3_3 i16_3_4 i16_3_5 i16_3_6 i16_3_7 i16_3_e wc16_11
/-! 12: verderer/drill.New -/
noncomputable def c12 : Code := fi12.body
noncomputable def c12_0 : Code := sq1 c12
noncomputable def c12_1 : Code := sq2 c12
theorem wc12 : W tab ro F c12 K s = W tab ro F c12_0 (.sq c12_1 :: K) s := Wc_seq (show c12 = .seq c12_0 c12_1 from rfl)
noncomputable def r12_0 : Array Oper := rg1 c12_0
theorem wc12_0 : W tab ro F c12_0 K s = I tab ro F r12_0 0 K s := Wc_region (show c12_0 = .region 0 r12_0 false from rfl)
theorem i12_0_0 : I tab ro F r12_0 0 K s = I1 tab ro F r12_0 1 K (setO s (some 2) (opd s (.const (.pointer none)))) := I_plain rfl rfl (ev_assign)
theorem i12_0_e : I tab ro F r12_0 1 K s = kont tab ro F K .normal s := I_end rfl
noncomputable def c12_2 : Code := sq1 c12_1
noncomputable def c12_3 : Code := sq2 c12_1
theorem wc12_1 : W tab ro F c12_1 K s = W tab ro F c12_2 (.sq c12_3 :: K) s := Wc_seq (show c12_1 = .seq c12_2 c12_3 from rfl)
noncomputable def r12_1 : Array Oper := rg1 c12_2
theorem wc12_2 : W tab ro F c12_2 K s = I tab ro F r12_1 0 K s := Wc_region (show c12_2 = .region 1 r12_1 false from rfl)
theorem i12_1_0 : I tab ro F r12_1 0 K s = I1 tab ro F r12_1 1 K (setO s (some 3) (opd s (.tmp 0))) := I_plain rfl rfl (ev_move)
theorem i12_1_1 : I tab ro F r12_1 1 K s = I1 tab ro F r12_1 2 K (setO s (some 4) (buildO (placesL [(0, 1)]) [(.lit (.int .u64 (0)))] (opdParts s [(0, (.tmp 3))]))) := I_plain rfl rfl (ev_build.trans (congrArg (setO s _) (u_build rfl rfl rfl rfl (places_eq rfl))))
theorem i12_1_2 : I tab ro F r12_1 2 K s = I1 tab ro F r12_1 3 K (setN s (some 5) (boxO (opd s (.tmp 4)) s.hs)) := I_plain rfl rfl (ev_box.trans (congrArg (setN s _) u_box))
theorem i12_1_3 : I tab ro F r12_1 3 K s = I1 tab ro F r12_1 4 K (setO s (some 2) (opd s (.tmp 5))) := I_plain rfl rfl (ev_assign)
theorem i12_1_e : I tab ro F r12_1 4 K s = kont tab ro F K .normal s := I_end rfl
theorem wc12_3 : W tab ro F c12_3 K s = kont tab ro F K .ret s := Wc_ret (show c12_3 = .ret from rfl)
theorem n12 : fi12.ntmps = 6 := rfl
theorem q12 : fi12.results = [.tmp 2] := rfl
theorem f12 : tab.f 12 = some fi12 := rfl
theorem b12 : fi12.body = c12 := rfl
theorem m12 : fi12.lm = 1 := rfl
-- NAMES 12 n12 q12 b12 m12  wc12 wc12_0 i12_0_0 i12_0_e wc12_1 wc12_2 i12_1_0 i12_1_1 i12_1_2 i12_1_3 i12_1_e wc12_3
/-! 15: (*verderer/verdererref39.Dice).Roll -/
noncomputable def c15 : Code := fi15.body
noncomputable def c15_0 : Code := sq1 c15
noncomputable def c15_1 : Code := sq2 c15
theorem wc15 : W tab ro F c15 K s = W tab ro F c15_0 (.sq c15_1 :: K) s := Wc_seq (show c15 = .seq c15_0 c15_1 from rfl)
noncomputable def r15_0 : Array Oper := rg1 c15_0
theorem wc15_0 : W tab ro F c15_0 K s = I tab ro F r15_0 0 K s := Wc_region (show c15_0 = .region 0 r15_0 false from rfl)
theorem i15_0_0 : I tab ro F r15_0 0 K s = I1 tab ro F r15_0 1 K (setO s (some 4) (opd s (.const (.int .i64 (0))))) := I_plain rfl rfl (ev_assign)
theorem i15_0_e : I tab ro F r15_0 1 K s = kont tab ro F K .normal s := I_end rfl
noncomputable def c15_2 : Code := sq1 c15_1
noncomputable def c15_3 : Code := sq2 c15_1
theorem wc15_1 : W tab ro F c15_1 K s = W tab ro F c15_2 (.sq c15_3 :: K) s := Wc_seq (show c15_1 = .seq c15_2 c15_3 from rfl)
noncomputable def c15_4 : Code := sq1 c15_2
noncomputable def c15_5 : Code := sq2 c15_2
theorem wc15_2 : W tab ro F c15_2 K s = W tab ro F c15_4 (.sq c15_5 :: K) s := Wc_seq (show c15_2 = .seq c15_4 c15_5 from rfl)
noncomputable def r15_1 : Array Oper := rg1 c15_4
theorem wc15_4 : W tab ro F c15_4 K s = I tab ro F r15_1 0 K s := Wc_region (show c15_4 = .region 1 r15_1 false from rfl)
theorem i15_1_0 : I tab ro F r15_1 0 K s = I1 tab ro F r15_1 1 K (setO s (some 5) (opd s (.tmp 1))) := I_plain rfl rfl (ev_move)
theorem i15_1_1 : I tab ro F r15_1 1 K s = I1 tab ro F r15_1 2 K (setO s (some 6) (binO tab .lss 3 (.tmp 5) (.const (.int .i64 (1))) (opd s (.tmp 5)) (opd s (.const (.int .i64 (1)))))) := I_plain rfl rfl (ev_binOp.trans (congrArg (setO s _) u_bin))
theorem i15_1_2 : I tab ro F r15_1 2 K s = I1 tab ro F r15_1 3 K (setO s (some 7) (opd s (.tmp 6))) := I_plain rfl rfl (ev_move)
theorem i15_1_3 : I tab ro F r15_1 3 K s = IG tab ro F r15_1 4 K false (setO s (some 8) (opd s (.tmp 1))) (setT s (some 8) udef) (opd s (.tmp 7)) := I_guard (d := (some 8)) rfl rfl rfl rfl rfl (ev_move)
theorem i15_1_4 : I tab ro F r15_1 4 K s = IG tab ro F r15_1 5 K false (setO s (some 9) (binO tab .gtr 3 (.tmp 8) (.const (.int .i64 (2147483648))) (opd s (.tmp 8)) (opd s (.const (.int .i64 (2147483648)))))) (setT s (some 9) udef) (opd s (.tmp 7)) := I_guard (d := (some 9)) rfl rfl rfl rfl rfl (ev_binOp.trans (congrArg (setO s _) u_bin))
theorem i15_1_5 : I tab ro F r15_1 5 K s = I1 tab ro F r15_1 6 K (setO s (some 10) (pickO (opd s (.tmp 7)) (opd s (.const (.bool true))) (opd s (.tmp 9)))) := I_plain rfl rfl (ev_pick.trans (congrArg (setO s _) u_pick))
theorem i15_1_e : I tab ro F r15_1 6 K s = kont tab ro F K .normal s := I_end rfl
noncomputable def c15_6 : Code := cd1 c15_5
noncomputable def c15_7 : Code := cd2 c15_5
theorem wc15_5 : W tab ro F c15_5 K s = C1 tab ro F c15_6 c15_7 K s (opd s (.tmp 10)) := Wc_cond (show c15_5 = .cond (.tmp 10) c15_6 c15_7 from rfl)
noncomputable def c15_8 : Code := sq1 c15_6
noncomputable def c15_9 : Code := sq2 c15_6
theorem wc15_6 : W tab ro F c15_6 K s = W tab ro F c15_8 (.sq c15_9 :: K) s := Wc_seq (show c15_6 = .seq c15_8 c15_9 from rfl)
noncomputable def r15_2 : Array Oper := rg1 c15_8
theorem wc15_8 : W tab ro F c15_8 K s = I tab ro F r15_2 0 K s := Wc_region (show c15_8 = .region 2 r15_2 false from rfl)
theorem i15_2_0 : I tab ro F r15_2 0 K s = I1 tab ro F r15_2 1 K (setO s (some 4) (opd s (.const (.int .i64 (0))))) := I_plain rfl rfl (ev_assign)
theorem i15_2_e : I tab ro F r15_2 1 K s = kont tab ro F K .normal s := I_end rfl
theorem wc15_9 : W tab ro F c15_9 K s = kont tab ro F K .ret s := Wc_ret (show c15_9 = .ret from rfl)
theorem wc15_7 : W tab ro F c15_7 K s = kont tab ro F K .normal s := Wc_skip (show c15_7 = .skip from rfl)
noncomputable def c15_10 : Code := sq1 c15_3
noncomputable def c15_11 : Code := sq2 c15_3
theorem wc15_3 : W tab ro F c15_3 K s = W tab ro F c15_10 (.sq c15_11 :: K) s := Wc_seq (show c15_3 = .seq c15_10 c15_11 from rfl)
noncomputable def r15_3 : Array Oper := rg1 c15_10
theorem wc15_10 : W tab ro F c15_10 K s = I tab ro F r15_3 0 K s := Wc_region (show c15_10 = .region 3 r15_3 false from rfl)
theorem i15_3_0 : I tab ro F r15_3 0 K s = I1 tab ro F r15_3 1 K (setO s (some 11) (opd s (.tmp 0))) := I_plain rfl rfl (ev_move)
theorem i15_3_1 : I tab ro F r15_3 1 K s = I1 tab ro F r15_3 2 K (setO s (some 12) (opd s (.tmp 0))) := I_plain rfl rfl (ev_move)
theorem i15_3_2 : I tab ro F r15_3 2 K s = I1 tab ro F r15_3 3 K (setO s (some 13) (nilO (opd s (.tmp 12)))) := I_plain rfl rfl (ev_nilCheck.trans (congrArg (setO s _) u_nil))
theorem i15_3_3 : I tab ro F r15_3 3 K s = I1 tab ro F r15_3 4 K (setO s (some 14) (fieldAddrO 0 (opd s (.tmp 13)))) := I_plain rfl rfl (ev_fieldAddr.trans (congrArg (setO s _) (u_fieldAddr (off := 0) rfl rfl rfl rfl rfl rfl)))
theorem i15_3_4 : I tab ro F r15_3 4 K s = I1 tab ro F r15_3 5 K (setO s (some 15) (loadO s.heap false 1 (opd s (.tmp 14)))) := I_plain rfl rfl (ev_load.trans (congrArg (setO s _) (u_load (agg := false) (n := 1) rfl rfl rfl)))
theorem i15_3_5 : I tab ro F r15_3 5 K s = I1 tab ro F r15_3 6 K (setO s (some 16) (binO tab .mul 22 (.tmp 15) (.const (.int .u64 (2862933555777941757))) (opd s (.tmp 15)) (opd s (.const (.int .u64 (2862933555777941757)))))) := I_plain rfl rfl (ev_binOp.trans (congrArg (setO s _) u_bin))
theorem i15_3_6 : I tab ro F r15_3 6 K s = I1 tab ro F r15_3 7 K (setO s (some 17) (binO tab .add 22 (.tmp 16) (.const (.int .u64 (3037000493))) (opd s (.tmp 16)) (opd s (.const (.int .u64 (3037000493)))))) := I_plain rfl rfl (ev_binOp.trans (congrArg (setO s _) u_bin))
theorem i15_3_7 : I tab ro F r15_3 7 K s = I1 tab ro F r15_3 8 K (setO s (some 18) (nilO (opd s (.tmp 11)))) := I_plain rfl rfl (ev_nilCheck.trans (congrArg (setO s _) u_nil))
theorem i15_3_8 : I tab ro F r15_3 8 K s = I1 tab ro F r15_3 9 K (setO s (some 19) (fieldAddrO 0 (opd s (.tmp 18)))) := I_plain rfl rfl (ev_fieldAddr.trans (congrArg (setO s _) (u_fieldAddr (off := 0) rfl rfl rfl rfl rfl rfl)))
theorem i15_3_9 : I tab ro F r15_3 9 K s = I1 tab ro F r15_3 10 K (setE s none (storeO s.heap s.hs 1 (opd s (.tmp 19)) (opd s (.tmp 17)))) := I_plain rfl rfl (ev_store.trans (congrArg (setE s _) (u_store rfl rfl)))
theorem i15_3_e : I tab ro F r15_3 10 K s = kont tab ro F K .normal s := I_end rfl
noncomputable def c15_12 : Code := sq1 c15_11
noncomputable def c15_13 : Code := sq2 c15_11
theorem wc15_11 : W tab ro F c15_11 K s = W tab ro F c15_12 (.sq c15_13 :: K) s := Wc_seq (show c15_11 = .seq c15_12 c15_13 from rfl)
noncomputable def r15_4 : Array Oper := rg1 c15_12
theorem wc15_12 : W tab ro F c15_12 K s = I tab ro F r15_4 0 K s := Wc_region (show c15_12 = .region 4 r15_4 false from rfl)
theorem i15_4_0 : I tab ro F r15_4 0 K s = I1 tab ro F r15_4 1 K (setO s (some 20) (opd s (.tmp 0))) := I_plain rfl rfl (ev_move)
theorem i15_4_1 : I tab ro F r15_4 1 K s = I1 tab ro F r15_4 2 K (setO s (some 21) (nilO (opd s (.tmp 20)))) := I_plain rfl rfl (ev_nilCheck.trans (congrArg (setO s _) u_nil))
theorem i15_4_2 : I tab ro F r15_4 2 K s = I1 tab ro F r15_4 3 K (setO s (some 22) (fieldAddrO 0 (opd s (.tmp 21)))) := I_plain rfl rfl (ev_fieldAddr.trans (congrArg (setO s _) (u_fieldAddr (off := 0) rfl rfl rfl rfl rfl rfl)))
theorem i15_4_3 : I tab ro F r15_4 3 K s = I1 tab ro F r15_4 4 K (setO s (some 23) (loadO s.heap false 1 (opd s (.tmp 22)))) := I_plain rfl rfl (ev_load.trans (congrArg (setO s _) (u_load (agg := false) (n := 1) rfl rfl rfl)))
theorem i15_4_4 : I tab ro F r15_4 4 K s = I1 tab ro F r15_4 5 K (setO s (some 24) (binO tab .shr 22 (.tmp 23) (.const (.int .u64 (33))) (opd s (.tmp 23)) (opd s (.const (.int .u64 (33)))))) := I_plain rfl rfl (ev_binOp.trans (congrArg (setO s _) u_bin))
theorem i15_4_5 : I tab ro F r15_4 5 K s = I1 tab ro F r15_4 6 K (setO s (some 25) (opd s (.tmp 1))) := I_plain rfl rfl (ev_move)
theorem i15_4_6 : I tab ro F r15_4 6 K s = I1 tab ro F r15_4 7 K (setO s (some 26) (convIO .u64 (opd s (.tmp 25)))) := I_plain rfl rfl (u_convI rfl rfl rfl)
theorem i15_4_7 : I tab ro F r15_4 7 K s = I1 tab ro F r15_4 8 K (setO s (some 27) (binO tab .rem 22 (.tmp 24) (.tmp 26) (opd s (.tmp 24)) (opd s (.tmp 26)))) := I_plain rfl rfl (ev_binOp.trans (congrArg (setO s _) u_bin))
theorem i15_4_8 : I tab ro F r15_4 8 K s = I1 tab ro F r15_4 9 K (setO s (some 28) (convIO .i64 (opd s (.tmp 27)))) := I_plain rfl rfl (u_convI rfl rfl rfl)
theorem i15_4_9 : I tab ro F r15_4 9 K s = I1 tab ro F r15_4 10 K (setO s (some 4) (opd s (.tmp 28))) := I_plain rfl rfl (ev_assign)
theorem i15_4_e : I tab ro F r15_4 10 K s = kont tab ro F K .normal s := I_end rfl
theorem wc15_13 : W tab ro F c15_13 K s = kont tab ro F K .ret s := Wc_ret (show c15_13 = .ret from rfl)
theorem n15 : fi15.ntmps = 29 := rfl
theorem q15 : fi15.results = [.tmp 4] := rfl
theorem f15 : tab.f 15 = some fi15 := rfl
theorem b15 : fi15.body = c15 := rfl
theorem m15 : fi15.lm = 1 := rfl
-- NAMES 15 n15 q15 b15 m15  wc15 wc15_0 i15_0_0 i15_0_e wc15_1 wc15_2 wc15_4 i15_1_0 i15_1_1 i15_1_2 i15_1_3 i15_1_4 i15_1_5 i15_1_e wc15_5 wc15_6 wc15_8 i15_2_0 i15_2_e wc15_9 wc15_7 wc15_3 wc15_10 i15_3_0 i15_3_1 i15_3_2 i15_3_3 i15_3_4 i15_3_5 i15_3_6 i15_3_7 i15_3_8 i15_3_9 i15_3_e wc15_11 wc15_12 i15_4_0 i15_4_1 i15_4_2 i15_4_3 i15_4_4 i15_4_5 i15_4_6 i15_4_7 i15_4_8 i15_4_9 i15_4_e wc15_13
/-! 17: (*verderer/verdererref39.Dice).Pick -/
noncomputable def c17 : Code := fi17.body
noncomputable def c17_0 : Code := sq1 c17
noncomputable def c17_1 : Code := sq2 c17
theorem wc17 : W tab ro F c17 K s = W tab ro F c17_0 (.sq c17_1 :: K) s := Wc_seq (show c17 = .seq c17_0 c17_1 from rfl)
noncomputable def r17_0 : Array Oper := rg1 c17_0
theorem wc17_0 : W tab ro F c17_0 K s = I tab ro F r17_0 0 K s := Wc_region (show c17_0 = .region 0 r17_0 false from rfl)
theorem i17_0_0 : I tab ro F r17_0 0 K s = I1 tab ro F r17_0 1 K (setO s (some 4) (opd s (.const (.string ⟨#[]⟩)))) := I_plain rfl rfl (ev_assign)
theorem i17_0_e : I tab ro F r17_0 1 K s = kont tab ro F K .normal s := I_end rfl
noncomputable def c17_2 : Code := sq1 c17_1
noncomputable def c17_3 : Code := sq2 c17_1
theorem wc17_1 : W tab ro F c17_1 K s = W tab ro F c17_2 (.sq c17_3 :: K) s := Wc_seq (show c17_1 = .seq c17_2 c17_3 from rfl)
noncomputable def c17_4 : Code := sq1 c17_2
noncomputable def c17_5 : Code := sq2 c17_2
theorem wc17_2 : W tab ro F c17_2 K s = W tab ro F c17_4 (.sq c17_5 :: K) s := Wc_seq (show c17_2 = .seq c17_4 c17_5 from rfl)
noncomputable def r17_1 : Array Oper := rg1 c17_4
theorem wc17_4 : W tab ro F c17_4 K s = I tab ro F r17_1 0 K s := Wc_region (show c17_4 = .region 1 r17_1 false from rfl)
theorem i17_1_0 : I tab ro F r17_1 0 K s = I1 tab ro F r17_1 1 K (setO s (some 6) (opd s (.tmp 1))) := I_plain rfl rfl (ev_move)
theorem i17_1_1 : I tab ro F r17_1 1 K s = I1 tab ro F r17_1 2 K (setO s (some 7) (lenLO (opd s (.tmp 6)))) := I_plain rfl rfl (u_lenL rfl rfl)
theorem i17_1_2 : I tab ro F r17_1 2 K s = I1 tab ro F r17_1 3 K (setO s (some 8) (binO tab .eql 3 (.tmp 7) (.const (.int .i64 (0))) (opd s (.tmp 7)) (opd s (.const (.int .i64 (0)))))) := I_plain rfl rfl (ev_binOp.trans (congrArg (setO s _) u_bin))
theorem i17_1_e : I tab ro F r17_1 3 K s = kont tab ro F K .normal s := I_end rfl
noncomputable def c17_6 : Code := cd1 c17_5
noncomputable def c17_7 : Code := cd2 c17_5
theorem wc17_5 : W tab ro F c17_5 K s = C1 tab ro F c17_6 c17_7 K s (opd s (.tmp 8)) := Wc_cond (show c17_5 = .cond (.tmp 8) c17_6 c17_7 from rfl)
noncomputable def c17_8 : Code := sq1 c17_6
noncomputable def c17_9 : Code := sq2 c17_6
theorem wc17_6 : W tab ro F c17_6 K s = W tab ro F c17_8 (.sq c17_9 :: K) s := Wc_seq (show c17_6 = .seq c17_8 c17_9 from rfl)
noncomputable def r17_2 : Array Oper := rg1 c17_8
theorem wc17_8 : W tab ro F c17_8 K s = I tab ro F r17_2 0 K s := Wc_region (show c17_8 = .region 2 r17_2 false from rfl)
theorem i17_2_0 : I tab ro F r17_2 0 K s = I1 tab ro F r17_2 1 K (setO s (some 4) (opd s (.const (.string ⟨#[]⟩)))) := I_plain rfl rfl (ev_assign)
theorem i17_2_e : I tab ro F r17_2 1 K s = kont tab ro F K .normal s := I_end rfl
theorem wc17_9 : W tab ro F c17_9 K s = kont tab ro F K .ret s := Wc_ret (show c17_9 = .ret from rfl)
theorem wc17_7 : W tab ro F c17_7 K s = kont tab ro F K .normal s := Wc_skip (show c17_7 = .skip from rfl)
noncomputable def c17_10 : Code := sq1 c17_3
noncomputable def c17_11 : Code := sq2 c17_3
theorem wc17_3 : W tab ro F c17_3 K s = W tab ro F c17_10 (.sq c17_11 :: K) s := Wc_seq (show c17_3 = .seq c17_10 c17_11 from rfl)
noncomputable def r17_3 : Array Oper := rg1 c17_10
theorem wc17_10 : W tab ro F c17_10 K s = I tab ro F r17_3 0 K s := Wc_region (show c17_10 = .region 3 r17_3 false from rfl)
theorem i17_3_0 : I tab ro F r17_3 0 K s = I1 tab ro F r17_3 1 K (setO s (some 9) (opd s (.tmp 0))) := I_plain rfl rfl (ev_move)
theorem i17_3_1 : I tab ro F r17_3 1 K s = I1 tab ro F r17_3 2 K (setO s (some 10) (opd s (.tmp 1))) := I_plain rfl rfl (ev_move)
theorem i17_3_2 : I tab ro F r17_3 2 K s = I1 tab ro F r17_3 3 K (setO s (some 11) (lenLO (opd s (.tmp 10)))) := I_plain rfl rfl (u_lenL rfl rfl)
theorem i17_3_3 : I tab ro F r17_3 3 K s = I1 tab ro F r17_3 4 K (setE s (some 12) (callG tab (evw tab) s 15 (opds s [(.tmp 9), (.tmp 11)]))) := I_plain rfl rfl (u_call)
theorem i17_3_4 : I tab ro F r17_3 4 K s = I1 tab ro F r17_3 5 K (setO s (some 5) (opd s (.tmp 12))) := I_plain rfl rfl (ev_assign)
theorem i17_3_e : I tab ro F r17_3 5 K s = kont tab ro F K .normal s := I_end rfl
noncomputable def c17_12 : Code := sq1 c17_11
noncomputable def c17_13 : Code := sq2 c17_11
theorem wc17_11 : W tab ro F c17_11 K s = W tab ro F c17_12 (.sq c17_13 :: K) s := Wc_seq (show c17_11 = .seq c17_12 c17_13 from rfl)
noncomputable def r17_4 : Array Oper := rg1 c17_12
theorem wc17_12 : W tab ro F c17_12 K s = I tab ro F r17_4 0 K s := Wc_region (show c17_12 = .region 4 r17_4 false from rfl)
theorem i17_4_0 : I tab ro F r17_4 0 K s = I1 tab ro F r17_4 1 K (setO s (some 13) (opd s (.tmp 1))) := I_plain rfl rfl (ev_move)
theorem i17_4_1 : I tab ro F r17_4 1 K s = I1 tab ro F r17_4 2 K (setO s (some 14) (opd s (.tmp 5))) := I_plain rfl rfl (ev_move)
theorem i17_4_2 : I tab ro F r17_4 2 K s = I1 tab ro F r17_4 3 K (setO s (some 15) (indexAddrO 1 (opd s (.tmp 13)) (opd s (.tmp 14)))) := I_plain rfl rfl (ev_indexAddr.trans (congrArg (setO s _) (u_indexAddr rfl rfl rfl rfl)))
theorem i17_4_3 : I tab ro F r17_4 3 K s = I1 tab ro F r17_4 4 K (setO s (some 16) (loadO s.heap false 1 (opd s (.tmp 15)))) := I_plain rfl rfl (ev_load.trans (congrArg (setO s _) (u_load (agg := false) (n := 1) rfl rfl rfl)))
theorem i17_4_4 : I tab ro F r17_4 4 K s = I1 tab ro F r17_4 5 K (setO s (some 4) (opd s (.tmp 16))) := I_plain rfl rfl (ev_assign)
theorem i17_4_e : I tab ro F r17_4 5 K s = kont tab ro F K .normal s := I_end rfl
theorem wc17_13 : W tab ro F c17_13 K s = kont tab ro F K .ret s := Wc_ret (show c17_13 = .ret from rfl)
theorem n17 : fi17.ntmps = 17 := rfl
theorem q17 : fi17.results = [.tmp 4] := rfl
theorem f17 : tab.f 17 = some fi17 := rfl
theorem b17 : fi17.body = c17 := rfl
theorem m17 : fi17.lm = 1 := rfl
-- NAMES 17 n17 q17 b17 m17  wc17 wc17_0 i17_0_0 i17_0_e wc17_1 wc17_2 wc17_4 i17_1_0 i17_1_1 i17_1_2 i17_1_e wc17_5 wc17_6 wc17_8 i17_2_0 i17_2_e wc17_9 wc17_7 wc17_3 wc17_10 i17_3_0 i17_3_1 i17_3_2 i17_3_3 i17_3_4 i17_3_e wc17_11 wc17_12 i17_4_0 i17_4_1 i17_4_2 i17_4_3 i17_4_4 i17_4_e wc17_13
end
end Go.Proofs.Ytbcecenneganeaa.Ev

set_option maxRecDepth 100000
namespace Go.Proofs.Ytbcecenneganeaa.Ev
open Go Go.Proofs.Ytbcecenneganeaa.Ev Go.Proofs Go.Proofs.Ytbcecenneganeaa Go.Proofs.Ytbcecenneganeaa.Tab
section
variable {α : Type} {ro : Option Nat} {F : AX → AS → Option α} {K : List Fr} {s : AS}

/-! 21: verderer/drill.Script -/
noncomputable def c21 : Code := fi21.body
noncomputable def c21_0 : Code := sq1 c21
noncomputable def c21_1 : Code := sq2 c21
theorem wc21 : W tab ro F c21 K s = W tab ro F c21_0 (.sq c21_1 :: K) s := Wc_seq (show c21 = .seq c21_0 c21_1 from rfl)
noncomputable def r21_0 : Array Oper := rg1 c21_0
theorem wc21_0 : W tab ro F c21_0 K s = I tab ro F r21_0 0 K s := Wc_region (show c21_0 = .region 0 r21_0 false from rfl)
theorem i21_0_0 : I tab ro F r21_0 0 K s = I1 tab ro F r21_0 1 K (setO s (some 4) (opd s (.const (.slice none 0 0)))) := I_plain rfl rfl (ev_assign)
theorem i21_0_1 : I tab ro F r21_0 1 K s = I1 tab ro F r21_0 2 K (setO s (some 5) (opd s (.const (.slice none 0 0)))) := I_plain rfl rfl (ev_assign)
theorem i21_0_2 : I tab ro F r21_0 2 K s = I1 tab ro F r21_0 3 K (setO s (some 6) (opd s (.const (.int .i64 (0))))) := I_plain rfl rfl (ev_assign)
theorem i21_0_e : I tab ro F r21_0 3 K s = kont tab ro F K .normal s := I_end rfl
noncomputable def c21_2 : Code := sq1 c21_1
noncomputable def c21_3 : Code := sq2 c21_1
theorem wc21_1 : W tab ro F c21_1 K s = W tab ro F c21_2 (.sq c21_3 :: K) s := Wc_seq (show c21_1 = .seq c21_2 c21_3 from rfl)
noncomputable def c21_4 : Code := sq1 c21_2
noncomputable def c21_5 : Code := sq2 c21_2
theorem wc21_2 : W tab ro F c21_2 K s = W tab ro F c21_4 (.sq c21_5 :: K) s := Wc_seq (show c21_2 = .seq c21_4 c21_5 from rfl)
noncomputable def r21_1 : Array Oper := rg1 c21_4
theorem wc21_4 : W tab ro F c21_4 K s = I tab ro F r21_1 0 K s := Wc_region (show c21_4 = .region 1 r21_1 false from rfl)
theorem i21_1_0 : I tab ro F r21_1 0 K s = I1 tab ro F r21_1 1 K (setO s (some 10) (opd s (.tmp 1))) := I_plain rfl rfl (ev_move)
theorem i21_1_1 : I tab ro F r21_1 1 K s = I1 tab ro F r21_1 2 K (setO s (some 11) (binO tab .lss 3 (.tmp 10) (.const (.int .i64 (0))) (opd s (.tmp 10)) (opd s (.const (.int .i64 (0)))))) := I_plain rfl rfl (ev_binOp.trans (congrArg (setO s _) u_bin))
theorem i21_1_2 : I tab ro F r21_1 2 K s = I1 tab ro F r21_1 3 K (setO s (some 12) (opd s (.tmp 11))) := I_plain rfl rfl (ev_move)
theorem i21_1_3 : I tab ro F r21_1 3 K s = IG tab ro F r21_1 4 K false (setO s (some 13) (opd s (.tmp 1))) (setT s (some 13) udef) (opd s (.tmp 12)) := I_guard (d := (some 13)) rfl rfl rfl rfl rfl (ev_move)
theorem i21_1_4 : I tab ro F r21_1 4 K s = IG tab ro F r21_1 5 K false (setO s (some 14) (binO tab .gtr 3 (.tmp 13) (.const (.int .i64 (300))) (opd s (.tmp 13)) (opd s (.const (.int .i64 (300)))))) (setT s (some 14) udef) (opd s (.tmp 12)) := I_guard (d := (some 14)) rfl rfl rfl rfl rfl (ev_binOp.trans (congrArg (setO s _) u_bin))
theorem i21_1_5 : I tab ro F r21_1 5 K s = I1 tab ro F r21_1 6 K (setO s (some 15) (pickO (opd s (.tmp 12)) (opd s (.const (.bool true))) (opd s (.tmp 14)))) := I_plain rfl rfl (ev_pick.trans (congrArg (setO s _) u_pick))
theorem i21_1_e : I tab ro F r21_1 6 K s = kont tab ro F K .normal s := I_end rfl
noncomputable def c21_6 : Code := cd1 c21_5
noncomputable def c21_7 : Code := cd2 c21_5
theorem wc21_5 : W tab ro F c21_5 K s = C1 tab ro F c21_6 c21_7 K s (opd s (.tmp 15)) := Wc_cond (show c21_5 = .cond (.tmp 15) c21_6 c21_7 from rfl)
noncomputable def c21_8 : Code := sq1 c21_6
noncomputable def c21_9 : Code := sq2 c21_6
theorem wc21_6 : W tab ro F c21_6 K s = W tab ro F c21_8 (.sq c21_9 :: K) s := Wc_seq (show c21_6 = .seq c21_8 c21_9 from rfl)
noncomputable def r21_2 : Array Oper := rg1 c21_8
theorem wc21_8 : W tab ro F c21_8 K s = I tab ro F r21_2 0 K s := Wc_region (show c21_8 = .region 2 r21_2 false from rfl)
theorem i21_2_0 : I tab ro F r21_2 0 K s = I1 tab ro F r21_2 1 K (setO s (some 4) (opd s (.const (.slice none 0 0)))) := I_plain rfl rfl (ev_assign)
theorem i21_2_1 : I tab ro F r21_2 1 K s = I1 tab ro F r21_2 2 K (setO s (some 5) (opd s (.const (.slice none 0 0)))) := I_plain rfl rfl (ev_assign)
theorem i21_2_2 : I tab ro F r21_2 2 K s = I1 tab ro F r21_2 3 K (setO s (some 6) (opd s (.const (.int .i64 (2))))) := I_plain rfl rfl (ev_assign)
theorem i21_2_e : I tab ro F r21_2 3 K s = kont tab ro F K .normal s := I_end rfl
theorem wc21_9 : W tab ro F c21_9 K s = kont tab ro F K .ret s := Wc_ret (show c21_9 = .ret from rfl)
theorem wc21_7 : W tab ro F c21_7 K s = kont tab ro F K .normal s := Wc_skip (show c21_7 = .skip from rfl)
noncomputable def c21_10 : Code := sq1 c21_3
noncomputable def c21_11 : Code := sq2 c21_3
theorem wc21_3 : W tab ro F c21_3 K s = W tab ro F c21_10 (.sq c21_11 :: K) s := Wc_seq (show c21_3 = .seq c21_10 c21_11 from rfl)
noncomputable def r21_3 : Array Oper := rg1 c21_10
theorem wc21_10 : W tab ro F c21_10 K s = I tab ro F r21_3 0 K s := Wc_region (show c21_10 = .region 3 r21_3 false from rfl)
theorem i21_3_0 : I tab ro F r21_3 0 K s = I1 tab ro F r21_3 1 K (setN s (some 7) (some (.cells [(.lit (.slice none 0 0))] false, .ptr s.hs 0))) := I_plain rfl rfl (ev_alloc.trans (congrArg (setN s _) (u_alloc (cs := [(.lit (.slice none 0 0))]) rfl rfl rfl)))
theorem i21_3_e : I tab ro F r21_3 1 K s = kont tab ro F K .normal s := I_end rfl
noncomputable def c21_12 : Code := sq1 c21_11
noncomputable def c21_13 : Code := sq2 c21_11
theorem wc21_11 : W tab ro F c21_11 K s = W tab ro F c21_12 (.sq c21_13 :: K) s := Wc_seq (show c21_11 = .seq c21_12 c21_13 from rfl)
noncomputable def c21_14 : Code := sq1 c21_12
noncomputable def c21_15 : Code := sq2 c21_12
theorem wc21_12 : W tab ro F c21_12 K s = W tab ro F c21_14 (.sq c21_15 :: K) s := Wc_seq (show c21_12 = .seq c21_14 c21_15 from rfl)
noncomputable def r21_4 : Array Oper := rg1 c21_14
theorem wc21_14 : W tab ro F c21_14 K s = I tab ro F r21_4 0 K s := Wc_region (show c21_14 = .region 4 r21_4 false from rfl)
theorem i21_4_0 : I tab ro F r21_4 0 K s = I1 tab ro F r21_4 1 K (setO s (some 16) (opd s (.tmp 0))) := I_plain rfl rfl (ev_move)
theorem i21_4_1 : I tab ro F r21_4 1 K s = I1 tab ro F r21_4 2 K (setE s (some 17) (callG tab (evw tab) s 12 (opds s [(.tmp 16)]))) := I_plain rfl rfl (u_call)
theorem i21_4_2 : I tab ro F r21_4 2 K s = I1 tab ro F r21_4 3 K (setO s (some 18) (opd s (.tmp 1))) := I_plain rfl rfl (ev_move)
theorem i21_4_3 : I tab ro F r21_4 3 K s = I1 tab ro F r21_4 4 K (setE s (some 19) (callG tab (evw tab) s 52 (opds s [(.tmp 17), (.tmp 18)]))) := I_plain rfl rfl (u_call)
theorem i21_4_e : I tab ro F r21_4 4 K s = kont tab ro F K .normal s := I_end rfl
noncomputable def c21_16 : Code := bk1 c21_15
theorem wc21_15 : W tab ro F c21_15 K s = W tab ro F c21_16 (.bk 0 :: K) s := Wc_block (show c21_15 = .block 0 c21_16 from rfl)
noncomputable def c21_17 : Code := ra1 c21_16
noncomputable def c21_18 : Code := rb1 c21_16
theorem wc21_16 : W tab ro F c21_16 K s = RF tab ro F #[20] c21_17 c21_18 K s (opd s (.tmp 19)) := Wc_range (show c21_16 = .rangeFunc (.tmp 19) #[20] c21_17 c21_18 from rfl)
noncomputable def r21_5 : Array Oper := rg1 c21_17
theorem wc21_17 : W tab ro F c21_17 K s = I tab ro F r21_5 0 K s := Wc_region (show c21_17 = .region 5 r21_5 false from rfl)
theorem i21_5_0 : I tab ro F r21_5 0 K s = I1 tab ro F r21_5 1 K (setN s (some 8) (some (.cells [(.lit (.int .i64 (0))), (.lit (.int .i64 (0))), (.str []), (.str []), (.str []), (.lit (.int .i64 (0))), (.lit (.slice none 0 0)), (.str []), (.str []), (.str []), (.lit (.int .i64 (0)))] false, .ptr s.hs 0))) := I_plain rfl rfl (ev_alloc.trans (congrArg (setN s _) (u_alloc (cs := [(.lit (.int .i64 (0))), (.lit (.int .i64 (0))), (.str []), (.str []), (.str []), (.lit (.int .i64 (0))), (.lit (.slice none 0 0)), (.str []), (.str []), (.str []), (.lit (.int .i64 (0)))]) rfl rfl rfl)))
theorem i21_5_1 : I tab ro F r21_5 1 K s = I1 tab ro F r21_5 2 K (setE s none (storeO s.heap s.hs 11 (opd s (.tmp 8)) (opd s (.tmp 20)))) := I_plain rfl rfl (ev_store.trans (congrArg (setE s _) (u_store rfl rfl)))
theorem i21_5_e : I tab ro F r21_5 2 K s = kont tab ro F K .normal s := I_end rfl
noncomputable def c21_19 : Code := bk1 c21_18
theorem wc21_18 : W tab ro F c21_18 K s = W tab ro F c21_19 (.bk 1 :: K) s := Wc_block (show c21_18 = .block 1 c21_19 from rfl)
noncomputable def r21_6 : Array Oper := rg1 c21_19
theorem wc21_19 : W tab ro F c21_19 K s = I tab ro F r21_6 0 K s := Wc_region (show c21_19 = .region 6 r21_6 false from rfl)
theorem i21_6_0 : I tab ro F r21_6 0 K s = I1 tab ro F r21_6 1 K (setO s (some 21) (loadO s.heap false 1 (opd s (.tmp 7)))) := I_plain rfl rfl (ev_load.trans (congrArg (setO s _) (u_load (agg := false) (n := 1) rfl rfl rfl)))
theorem i21_6_1 : I tab ro F r21_6 1 K s = I1 tab ro F r21_6 2 K (setO s (some 22) (loadO s.heap true 11 (opd s (.tmp 8)))) := I_plain rfl rfl (ev_load.trans (congrArg (setO s _) (u_load (agg := true) (n := 11) rfl rfl rfl)))
theorem i21_6_2 : I tab ro F r21_6 2 K s = I1 tab ro F r21_6 3 K (setN s (some 23) (buildSO s.lm s.hs 1 11 (.agg [(.lit (.int .i64 (0))), (.lit (.int .i64 (0))), (.str []), (.str []), (.str []), (.lit (.int .i64 (0))), (.lit (.slice none 0 0)), (.str []), (.str []), (.str []), (.lit (.int .i64 (0)))]) (opdParts s [(0, (.tmp 22))]))) := I_plain rfl rfl (ev_buildSlice.trans (congrArg (setN s _) (u_buildSlice (n := 11) (z := (.agg [(.lit (.int .i64 (0))), (.lit (.int .i64 (0))), (.str []), (.str []), (.str []), (.lit (.int .i64 (0))), (.lit (.slice none 0 0)), (.str []), (.str []), (.str []), (.lit (.int .i64 (0)))])) rfl rfl rfl rfl rfl rfl)))
theorem i21_6_3 : I tab ro F r21_6 3 K s = I1 tab ro F r21_6 4 K (setE s (some 24) (appendO s.heap s.hs s.lm true 11 152 (opd s (.tmp 21)) (opd s (.tmp 23)))) := I_plain rfl rfl (ev_append.trans (congrArg (setE s _) (u_append (agg := true) (n := 11) (b := 152) rfl rfl rfl rfl rfl rfl rfl rfl rfl)))
theorem i21_6_4 : I tab ro F r21_6 4 K s = I1 tab ro F r21_6 5 K (setE s none (storeO s.heap s.hs 1 (opd s (.tmp 7)) (opd s (.tmp 24)))) := I_plain rfl rfl (ev_store.trans (congrArg (setE s _) (u_store rfl rfl)))
theorem i21_6_e : I tab ro F r21_6 5 K s = kont tab ro F K .normal s := I_end rfl
noncomputable def c21_20 : Code := sq1 c21_13
noncomputable def c21_21 : Code := sq2 c21_13
theorem wc21_13 : W tab ro F c21_13 K s = W tab ro F c21_20 (.sq c21_21 :: K) s := Wc_seq (show c21_13 = .seq c21_20 c21_21 from rfl)
noncomputable def r21_7 : Array Oper := rg1 c21_20
theorem wc21_20 : W tab ro F c21_20 K s = I tab ro F r21_7 0 K s := Wc_region (show c21_20 = .region 7 r21_7 false from rfl)
theorem i21_7_0 : I tab ro F r21_7 0 K s = I1 tab ro F r21_7 1 K (setO s (some 25) (buildO (placesL [(0, 1), (1, 1), (2, 1)]) [(.str []), (.lit (.int .i64 (0))), (.lit (.bool false))] (opdParts s [(0, (.const (.string ⟨#[105, 109, 97, 103, 101]⟩))), (1, (.const (.int .i64 (3))))]))) := I_plain rfl rfl (ev_build.trans (congrArg (setO s _) (u_build rfl rfl rfl rfl (places_eq rfl))))
theorem i21_7_1 : I tab ro F r21_7 1 K s = I1 tab ro F r21_7 2 K (setO s (some 26) (buildO (placesL [(0, 1), (1, 1), (2, 1)]) [(.str []), (.lit (.int .i64 (0))), (.lit (.bool false))] (opdParts s [(0, (.const (.string ⟨#[99, 112, 117]⟩))), (1, (.const (.int .i64 (2))))]))) := I_plain rfl rfl (ev_build.trans (congrArg (setO s _) (u_build rfl rfl rfl rfl (places_eq rfl))))
theorem i21_7_2 : I tab ro F r21_7 2 K s = I1 tab ro F r21_7 3 K (setN s (some 27) (buildSO s.lm s.hs 2 3 (.agg [(.str []), (.lit (.int .i64 (0))), (.lit (.bool false))]) (opdParts s [(0, (.tmp 25)), (1, (.tmp 26))]))) := I_plain rfl rfl (ev_buildSlice.trans (congrArg (setN s _) (u_buildSlice (n := 3) (z := (.agg [(.str []), (.lit (.int .i64 (0))), (.lit (.bool false))])) rfl rfl rfl rfl rfl rfl)))
theorem i21_7_3 : I tab ro F r21_7 3 K s = I1 tab ro F r21_7 4 K (setO s (some 28) (buildO (placesL [(0, 1), (1, 1)]) [(.str []), (.lit (.slice none 0 0))] (opdParts s [(0, (.const (.string ⟨#[112, 111, 100]⟩))), (1, (.tmp 27))]))) := I_plain rfl rfl (ev_build.trans (congrArg (setO s _) (u_build rfl rfl rfl rfl (places_eq rfl))))
theorem i21_7_4 : I tab ro F r21_7 4 K s = I1 tab ro F r21_7 5 K (setN s (some 9) (some (.cells [(.str []), (.lit (.slice none 0 0))] false, .ptr s.hs 0))) := I_plain rfl rfl (ev_alloc.trans (congrArg (setN s _) (u_alloc (cs := [(.str []), (.lit (.slice none 0 0))]) rfl rfl rfl)))
theorem i21_7_5 : I tab ro F r21_7 5 K s = I1 tab ro F r21_7 6 K (setE s none (storeO s.heap s.hs 2 (opd s (.tmp 9)) (opd s (.tmp 28)))) := I_plain rfl rfl (ev_store.trans (congrArg (setE s _) (u_store rfl rfl)))
theorem i21_7_e : I tab ro F r21_7 6 K s = kont tab ro F K .normal s := I_end rfl
noncomputable def c21_22 : Code := sq1 c21_21
noncomputable def c21_23 : Code := sq2 c21_21
theorem wc21_21 : W tab ro F c21_21 K s = W tab ro F c21_22 (.sq c21_23 :: K) s := Wc_seq (show c21_21 = .seq c21_22 c21_23 from rfl)
noncomputable def r21_8 : Array Oper := rg1 c21_22
theorem wc21_22 : W tab ro F c21_22 K s = D1 tab ro F K (evDr tab (evw tab) r21_8 s) := Wc_draw (show c21_22 = .region 8 r21_8 true from rfl)
def ms21_8 : Tr Nat := (.nd 0 (.nd 1 (.nd 3 .lf .lf) (.nd 31 .lf .lf)) (.nd 0 (.nd 15 .lf .lf) .lf))
def wt21_8 : Tr Nat := (.nd 0 (.nd 0 (.nd 0 (.nd 0 (.nd 0 (.nd 3 .lf .lf) .lf) .lf) .lf) (.nd 5 .lf (.nd 0 .lf (.nd 1 .lf .lf)))) (.nd 0 (.nd 4 .lf .lf) (.nd 6 .lf (.nd 0 .lf (.nd 2 .lf .lf)))))
theorem xm21_8 : masks r21_8.toList 0 .lf = some ms21_8 := by kernel_rfl
theorem xw21_8 : writers r21_8.toList 0 .lf = some wt21_8 := by kernel_rfl
theorem xe21_8 : effIdx r21_8.toList 0 = [] := by kernel_rfl
theorem xc21_8 : (useJ true r21_8.toList && chain ms21_8 [] && dstsOk 32 r21_8.toList) = true := by kernel_rfl
noncomputable def D21_8 (t : Tr AV) (H0 : Tr AO) (hs0 : Nat) (ds : List Nat) : DI := ⟨r21_8, ms21_8, wt21_8, [], ⟨t, 32, H0, hs0, ds, true⟩⟩
theorem e21_8 {t : Tr AV} {H : Tr AO} {hs : Nat} {ds : List Nat} : evDr tab (evw tab) r21_8 ⟨t, 32, H, hs, ds, true⟩ = JE tab (D21_8 t H hs ds) t 32 ds (JR tab (evw tab) (D21_8 t H hs ds) 0 ⟨.lf, H, hs, [(H, hs)], []⟩) := evDr_J xm21_8 xw21_8 xe21_8 xc21_8
theorem y21_8 {t : Tr AV} {H0 : Tr AO} {hs0 : Nat} {ds : List Nat} : (D21_8 t H0 hs0 ds).es = [] := rfl
theorem z21_8 {t : Tr AV} {H0 : Tr AO} {hs0 : Nat} {ds : List Nat} {V : Tr AV} {t' : Tr AV} : putsD V (D21_8 t H0 hs0 ds).ops.toList 0 t' = (Tr.put .any (Tr.put .any (Tr.put .any (Tr.put .any (Tr.put .any (Tr.put .any t' 29 (V.get .any 0)) 30 (V.get .any 1)) 31 (V.get .any 2)) 4 (V.get .any 3)) 5 (V.get .any 4)) 6 (V.get .any 5)) := rfl
theorem j21_8_0 {t : Tr AV} {H0 H : Tr AO} {hs0 hs : Nat} {ds : List Nat} {V : Tr AV} {hps : List (Tr AO × Nat)} {fs : List EffR} : JR tab (evw tab) (D21_8 t H0 hs0 ds) 0 ⟨V, H, hs, hps, fs⟩ = J1 tab (evw tab) (D21_8 t H0 hs0 ds) 1 (jput ⟨V, H, hs, hps, fs⟩ 0 (loadO H true 2 (some (t.get .any 9)))) := jr_plain (q := ⟨V, H, hs, hps, fs⟩) (rv := [(9, (t.get .any 9))]) (e := loadO H true 2 (some (t.get .any 9))) rfl rfl rfl (by kernel_rfl) ((ne_read rfl).trans ((u_load (agg := true) (n := 2) rfl rfl rfl).trans rfl))
theorem q21_8_0 : hbB ms21_8 [] 0 = true := by kernel_rfl
theorem a21_8_0 {t : Tr AV} {H0 : Tr AO} {hs0 : Nat} {ds : List Nat} {V : Tr AV} {hps : List (Tr AO × Nat)} : CA tab (D21_8 t H0 hs0 ds) hps V 0 = (hchk 0 0 (fun H => loadO H true 2 (some (t.get .any 9))) (V.get .any 0) hps 0 && CA tab (D21_8 t H0 hs0 ds) hps V 1) := ca_h (rv := [(9, (t.get .any 9))]) (n := 1) (lo := 0) (hi := 0) (f := fun H => loadO H true 2 (some (t.get .any 9))) rfl rfl rfl rfl (by kernel_rfl) q21_8_0 (by kernel_rfl) (by kernel_rfl) (fun H => (ne_read rfl).trans ((u_load (agg := true) (n := 2) rfl rfl rfl).trans rfl))
theorem j21_8_1 {t : Tr AV} {H0 H : Tr AO} {hs0 hs : Nat} {ds : List Nat} {V : Tr AV} {hps : List (Tr AO × Nat)} {fs : List EffR} : JR tab (evw tab) (D21_8 t H0 hs0 ds) 1 ⟨V, H, hs, hps, fs⟩ = J1 tab (evw tab) (D21_8 t H0 hs0 ds) 2 (jput ⟨V, H, hs, hps, fs⟩ 1 (deadO (buildSO true 0 1 2 (.agg [(.str []), (.lit (.slice none 0 0))]) (some [(0, (V.get .any 0))])))) := jr_plain (q := ⟨V, H, hs, hps, fs⟩) (rv := [(29, (V.get .any 0))]) (e := deadO (buildSO true 0 1 2 (.agg [(.str []), (.lit (.slice none 0 0))]) (some [(0, (V.get .any 0))]))) rfl rfl rfl (by kernel_rfl) ((ne_dead rfl).trans (congrArg deadO ((u_buildSlice (n := 2) (z := (.agg [(.str []), (.lit (.slice none 0 0))])) rfl rfl rfl rfl rfl rfl).trans rfl)))
theorem q21_8_1 : hbB ms21_8 [] 1 = true := by kernel_rfl
theorem a21_8_1 {t : Tr AV} {H0 : Tr AO} {hs0 : Nat} {ds : List Nat} {V : Tr AV} {hps : List (Tr AO × Nat)} : CA tab (D21_8 t H0 hs0 ds) hps V 1 = (dchk (V.get .any 1) (buildSO true 0 1 2 (.agg [(.str []), (.lit (.slice none 0 0))]) (some [(0, (V.get .any 0))])) && CA tab (D21_8 t H0 hs0 ds) hps V 2) := ca_d (rv := [(29, (V.get .any 0))]) (e := (buildSO true 0 1 2 (.agg [(.str []), (.lit (.slice none 0 0))]) (some [(0, (V.get .any 0))]))) rfl rfl rfl (by kernel_rfl) q21_8_1 ((u_buildSlice (n := 2) (z := (.agg [(.str []), (.lit (.slice none 0 0))])) rfl rfl rfl rfl rfl rfl).trans rfl)
theorem j21_8_2 {t : Tr AV} {H0 H : Tr AO} {hs0 hs : Nat} {ds : List Nat} {V : Tr AV} {hps : List (Tr AO × Nat)} {fs : List EffR} : JR tab (evw tab) (D21_8 t H0 hs0 ds) 2 ⟨V, H, hs, hps, fs⟩ = J1 tab (evw tab) (D21_8 t H0 hs0 ds) 3 (jput ⟨V, H, hs, hps, fs⟩ 2 (loadO H false 1 (some (t.get .any 7)))) := jr_plain (q := ⟨V, H, hs, hps, fs⟩) (rv := [(7, (t.get .any 7))]) (e := loadO H false 1 (some (t.get .any 7))) rfl rfl rfl (by kernel_rfl) ((ne_read rfl).trans ((u_load (agg := false) (n := 1) rfl rfl rfl).trans rfl))
theorem q21_8_2 : hbB ms21_8 [] 2 = true := by kernel_rfl
theorem a21_8_2 {t : Tr AV} {H0 : Tr AO} {hs0 : Nat} {ds : List Nat} {V : Tr AV} {hps : List (Tr AO × Nat)} : CA tab (D21_8 t H0 hs0 ds) hps V 2 = (hchk 0 0 (fun H => loadO H false 1 (some (t.get .any 7))) (V.get .any 2) hps 0 && CA tab (D21_8 t H0 hs0 ds) hps V 3) := ca_h (rv := [(7, (t.get .any 7))]) (n := 1) (lo := 0) (hi := 0) (f := fun H => loadO H false 1 (some (t.get .any 7))) rfl rfl rfl rfl (by kernel_rfl) q21_8_2 (by kernel_rfl) (by kernel_rfl) (fun H => (ne_read rfl).trans ((u_load (agg := false) (n := 1) rfl rfl rfl).trans rfl))
theorem j21_8_3 {t : Tr AV} {H0 H : Tr AO} {hs0 hs : Nat} {ds : List Nat} {V : Tr AV} {hps : List (Tr AO × Nat)} {fs : List EffR} : JR tab (evw tab) (D21_8 t H0 hs0 ds) 3 ⟨V, H, hs, hps, fs⟩ = J1 tab (evw tab) (D21_8 t H0 hs0 ds) 4 (jput ⟨V, H, hs, hps, fs⟩ 3 ((some (V.get .any 1)))) := jr_plain (q := ⟨V, H, hs, hps, fs⟩) (rv := [(30, (V.get .any 1))]) (e := (some (V.get .any 1))) rfl rfl rfl (by kernel_rfl) ((ne_pure rfl).trans ((rfl).trans rfl))
theorem q21_8_3 : hbB ms21_8 [] 3 = true := by kernel_rfl
theorem a21_8_3 {t : Tr AV} {H0 : Tr AO} {hs0 : Nat} {ds : List Nat} {V : Tr AV} {hps : List (Tr AO × Nat)} : CA tab (D21_8 t H0 hs0 ds) hps V 3 = (vchk (V.get .any 3) ((some (V.get .any 1))) && CA tab (D21_8 t H0 hs0 ds) hps V 4) := ca_p (rv := [(30, (V.get .any 1))]) (e := (some (V.get .any 1))) rfl rfl rfl (by kernel_rfl) q21_8_3 ((rfl).trans rfl)
theorem j21_8_4 {t : Tr AV} {H0 H : Tr AO} {hs0 hs : Nat} {ds : List Nat} {V : Tr AV} {hps : List (Tr AO × Nat)} {fs : List EffR} : JR tab (evw tab) (D21_8 t H0 hs0 ds) 4 ⟨V, H, hs, hps, fs⟩ = J1 tab (evw tab) (D21_8 t H0 hs0 ds) 5 (jput ⟨V, H, hs, hps, fs⟩ 4 ((some (V.get .any 2)))) := jr_plain (q := ⟨V, H, hs, hps, fs⟩) (rv := [(31, (V.get .any 2))]) (e := (some (V.get .any 2))) rfl rfl rfl (by kernel_rfl) ((ne_pure rfl).trans ((rfl).trans rfl))
theorem q21_8_4 : hbB ms21_8 [] 4 = true := by kernel_rfl
theorem a21_8_4 {t : Tr AV} {H0 : Tr AO} {hs0 : Nat} {ds : List Nat} {V : Tr AV} {hps : List (Tr AO × Nat)} : CA tab (D21_8 t H0 hs0 ds) hps V 4 = (vchk (V.get .any 4) ((some (V.get .any 2))) && CA tab (D21_8 t H0 hs0 ds) hps V 5) := ca_p (rv := [(31, (V.get .any 2))]) (e := (some (V.get .any 2))) rfl rfl rfl (by kernel_rfl) q21_8_4 ((rfl).trans rfl)
theorem j21_8_5 {t : Tr AV} {H0 H : Tr AO} {hs0 hs : Nat} {ds : List Nat} {V : Tr AV} {hps : List (Tr AO × Nat)} {fs : List EffR} : JR tab (evw tab) (D21_8 t H0 hs0 ds) 5 ⟨V, H, hs, hps, fs⟩ = J1 tab (evw tab) (D21_8 t H0 hs0 ds) 6 (jput ⟨V, H, hs, hps, fs⟩ 5 ((some (.lit (.int .i64 (0)))))) := jr_plain (q := ⟨V, H, hs, hps, fs⟩) (rv := []) (e := (some (.lit (.int .i64 (0))))) rfl rfl rfl (by kernel_rfl) ((ne_pure rfl).trans ((rfl).trans rfl))
theorem q21_8_5 : hbB ms21_8 [] 5 = true := by kernel_rfl
theorem a21_8_5 {t : Tr AV} {H0 : Tr AO} {hs0 : Nat} {ds : List Nat} {V : Tr AV} {hps : List (Tr AO × Nat)} : CA tab (D21_8 t H0 hs0 ds) hps V 5 = (vchk (V.get .any 5) ((some (.lit (.int .i64 (0))))) && CA tab (D21_8 t H0 hs0 ds) hps V 6) := ca_p (rv := []) (e := (some (.lit (.int .i64 (0))))) rfl rfl rfl (by kernel_rfl) q21_8_5 ((rfl).trans rfl)
theorem j21_8_e {t : Tr AV} {H0 H : Tr AO} {hs0 hs : Nat} {ds : List Nat} {V : Tr AV} {hps : List (Tr AO × Nat)} {fs : List EffR} : JR tab (evw tab) (D21_8 t H0 hs0 ds) 6 ⟨V, H, hs, hps, fs⟩ = some ⟨V, H, hs, hps, fs⟩ := jr_end rfl
theorem a21_8_e {t : Tr AV} {H0 : Tr AO} {hs0 : Nat} {ds : List Nat} {V : Tr AV} {hps : List (Tr AO × Nat)} : CA tab (D21_8 t H0 hs0 ds) hps V 6 = true := ca_end rfl
theorem wc21_23 : W tab ro F c21_23 K s = kont tab ro F K .ret s := Wc_ret (show c21_23 = .ret from rfl)
theorem n21 : fi21.ntmps = 32 := rfl
theorem q21 : fi21.results = [.tmp 4, .tmp 5, .tmp 6] := rfl
theorem f21 : tab.f 21 = some fi21 := rfl
theorem b21 : fi21.body = c21 := rfl
theorem m21 : fi21.lm = 1 := rfl
-- NAMES 21 n21 q21 b21 m21  wc21 wc21_0 i21_0_0 i21_0_1 i21_0_2 i21_0_e wc21_1 wc21_2 wc21_4 i21_1_0 i21_1_1 i21_1_2 i21_1_3 i21_1_4 i21_1_5 i21_1_e wc21_5 wc21_6 wc21_8 i21_2_0 i21_2_1 i21_2_2 i21_2_e wc21_9 wc21_7 wc21_3 wc21_10 i21_3_0 i21_3_e wc21_11 wc21_12 wc21_14 i21_4_0 i21_4_1 i21_4_2 i21_4_3 i21_4_e wc21_15 wc21_16 wc21_17 i21_5_0 i21_5_1 i21_5_e wc21_18 wc21_19 i21_6_0 i21_6_1 i21_6_2 i21_6_3 i21_6_4 i21_6_e wc21_13 wc21_20 i21_7_0 i21_7_1 i21_7_2 i21_7_3 i21_7_4 i21_7_5 i21_7_e wc21_21 wc21_22 e21_8 y21_8 z21_8 j21_8_0 a21_8_0 j21_8_1 a21_8_1 j21_8_2 a21_8_2 j21_8_3 a21_8_3 j21_8_4 a21_8_4 j21_8_5 a21_8_5 j21_8_e a21_8_e wc21_23
/-! 52: (*verderer/drill.Dice).steps -/
noncomputable def c52 : Code := fi52.body
noncomputable def c52_0 : Code := sq1 c52
noncomputable def c52_1 : Code := sq2 c52
theorem wc52 : W tab ro F c52 K s = W tab ro F c52_0 (.sq c52_1 :: K) s := Wc_seq (show c52 = .seq c52_0 c52_1 from rfl)
noncomputable def r52_0 : Array Oper := rg1 c52_0
theorem wc52_0 : W tab ro F c52_0 K s = I tab ro F r52_0 0 K s := Wc_region (show c52_0 = .region 0 r52_0 false from rfl)
theorem i52_0_0 : I tab ro F r52_0 0 K s = I1 tab ro F r52_0 1 K (setN s (some 2) (boxO (opd s (.tmp 0)) s.hs)) := I_plain rfl rfl (ev_box.trans (congrArg (setN s _) u_box))
theorem i52_0_1 : I tab ro F r52_0 1 K s = I1 tab ro F r52_0 2 K (setN s (some 3) (boxO (opd s (.tmp 1)) s.hs)) := I_plain rfl rfl (ev_box.trans (congrArg (setN s _) u_box))
theorem i52_0_2 : I tab ro F r52_0 2 K s = I1 tab ro F r52_0 3 K (setO s (some 4) (opd s (.const .nilFunc))) := I_plain rfl rfl (ev_assign)
theorem i52_0_e : I tab ro F r52_0 3 K s = kont tab ro F K .normal s := I_end rfl
noncomputable def c52_2 : Code := sq1 c52_1
noncomputable def c52_3 : Code := sq2 c52_1
theorem wc52_1 : W tab ro F c52_1 K s = W tab ro F c52_2 (.sq c52_3 :: K) s := Wc_seq (show c52_1 = .seq c52_2 c52_3 from rfl)
noncomputable def r52_1 : Array Oper := rg1 c52_2
theorem wc52_2 : W tab ro F c52_2 K s = I tab ro F r52_1 0 K s := Wc_region (show c52_2 = .region 1 r52_1 false from rfl)
theorem i52_1_0 : I tab ro F r52_1 0 K s = I1 tab ro F r52_1 1 K (setO s (some 5) (fnO (.func 90) (opds s []) (opds s [(.tmp 3), (.tmp 2)]))) := I_plain rfl rfl (ev_makeFunc.trans (congrArg (setO s _) u_fn))
theorem i52_1_1 : I tab ro F r52_1 1 K s = I1 tab ro F r52_1 2 K (setO s (some 4) (opd s (.tmp 5))) := I_plain rfl rfl (ev_assign)
theorem i52_1_e : I tab ro F r52_1 2 K s = kont tab ro F K .normal s := I_end rfl
theorem wc52_3 : W tab ro F c52_3 K s = kont tab ro F K .ret s := Wc_ret (show c52_3 = .ret from rfl)
theorem n52 : fi52.ntmps = 6 := rfl
theorem q52 : fi52.results = [.tmp 4] := rfl
theorem f52 : tab.f 52 = some fi52 := rfl
theorem b52 : fi52.body = c52 := rfl
theorem m52 : fi52.lm = 1 := rfl
-- NAMES 52 n52 q52 b52 m52  wc52 wc52_0 i52_0_0 i52_0_1 i52_0_2 i52_0_e wc52_1 wc52_2 i52_1_0 i52_1_1 i52_1_e wc52_3
/-! 90: (*verderer/drill.Dice).steps$1 -/
noncomputable def c90 : Code := fi90.body
noncomputable def c90_0 : Code := sq1 c90
noncomputable def c90_1 : Code := sq2 c90
theorem wc90 : W tab ro F c90 K s = W tab ro F c90_0 (.sq c90_1 :: K) s := Wc_seq (show c90 = .seq c90_0 c90_1 from rfl)
noncomputable def r90_0 : Array Oper := rg1 c90_0
theorem wc90_0 : W tab ro F c90_0 K s = I tab ro F r90_0 0 K s := Wc_region (show c90_0 = .region 0 r90_0 false from rfl)
theorem i90_0_0 : I tab ro F r90_0 0 K s = I1 tab ro F r90_0 1 K (setO s (some 4) (loadO s.heap false 1 (opd s (.tmp 1)))) := I_plain rfl rfl (ev_load.trans (congrArg (setO s _) (u_load (agg := false) (n := 1) rfl rfl rfl)))
theorem i90_0_1 : I tab ro F r90_0 1 K s = I1 tab ro F r90_0 2 K (setO s (some 5) (opd s (.const (.int .i64 (0))))) := I_plain rfl rfl (ev_move)
theorem i90_0_e : I tab ro F r90_0 2 K s = kont tab ro F K .normal s := I_end rfl
noncomputable def c90_2 : Code := bk1 c90_1
theorem wc90_1 : W tab ro F c90_1 K s = W tab ro F c90_2 (.bk 0 :: K) s := Wc_block (show c90_1 = .block 0 c90_2 from rfl)
noncomputable def c90_3 : Code := lp1 c90_2
theorem lc90_2 : W tab ro F c90_2 K s = W tab ro F c90_3 (.lp c90_3 :: K) s := Wc_loop (show c90_2 = .loop c90_3 from rfl)
theorem kc90_2 : kont tab ro F (.lp c90_3 :: K) .normal s = W tab ro F c90_2 K s := Wc_again (show c90_2 = .loop c90_3 from rfl)
noncomputable def c90_4 : Code := sq1 c90_3
noncomputable def c90_5 : Code := sq2 c90_3
theorem wc90_3 : W tab ro F c90_3 K s = W tab ro F c90_4 (.sq c90_5 :: K) s := Wc_seq (show c90_3 = .seq c90_4 c90_5 from rfl)
noncomputable def r90_1 : Array Oper := rg1 c90_4
theorem wc90_4 : W tab ro F c90_4 K s = I tab ro F r90_1 0 K s := Wc_region (show c90_4 = .region 1 r90_1 false from rfl)
theorem i90_1_0 : I tab ro F r90_1 0 K s = I1 tab ro F r90_1 1 K (setO s (some 6) (binO tab .lss 3 (.tmp 5) (.tmp 4) (opd s (.tmp 5)) (opd s (.tmp 4)))) := I_plain rfl rfl (ev_binOp.trans (congrArg (setO s _) u_bin))
theorem i90_1_e : I tab ro F r90_1 1 K s = kont tab ro F K .normal s := I_end rfl
noncomputable def c90_6 : Code := sq1 c90_5
noncomputable def c90_7 : Code := sq2 c90_5
theorem wc90_5 : W tab ro F c90_5 K s = W tab ro F c90_6 (.sq c90_7 :: K) s := Wc_seq (show c90_5 = .seq c90_6 c90_7 from rfl)
noncomputable def c90_8 : Code := cd1 c90_6
noncomputable def c90_9 : Code := cd2 c90_6
theorem wc90_6 : W tab ro F c90_6 K s = C1 tab ro F c90_8 c90_9 K s (opd s (.tmp 6)) := Wc_cond (show c90_6 = .cond (.tmp 6) c90_8 c90_9 from rfl)
theorem wc90_8 : W tab ro F c90_8 K s = kont tab ro F K .normal s := Wc_skip (show c90_8 = .skip from rfl)
theorem wc90_9 : W tab ro F c90_9 K s = kont tab ro F K (.exit 0) s := Wc_exit (show c90_9 = .exit 0 from rfl)
noncomputable def c90_10 : Code := sq1 c90_7
noncomputable def c90_11 : Code := sq2 c90_7
theorem wc90_7 : W tab ro F c90_7 K s = W tab ro F c90_10 (.sq c90_11 :: K) s := Wc_seq (show c90_7 = .seq c90_10 c90_11 from rfl)
noncomputable def c90_12 : Code := bk1 c90_10
theorem wc90_10 : W tab ro F c90_10 K s = W tab ro F c90_12 (.bk 1 :: K) s := Wc_block (show c90_10 = .block 1 c90_12 from rfl)
noncomputable def c90_13 : Code := sq1 c90_12
noncomputable def c90_14 : Code := sq2 c90_12
theorem wc90_12 : W tab ro F c90_12 K s = W tab ro F c90_13 (.sq c90_14 :: K) s := Wc_seq (show c90_12 = .seq c90_13 c90_14 from rfl)
noncomputable def r90_2 : Array Oper := rg1 c90_13
theorem wc90_13 : W tab ro F c90_13 K s = I tab ro F r90_2 0 K s := Wc_region (show c90_13 = .region 2 r90_2 false from rfl)
theorem i90_2_0 : I tab ro F r90_2 0 K s = I1 tab ro F r90_2 1 K (setO s (some 7) (opd s (.tmp 0))) := I_plain rfl rfl (ev_move)
theorem i90_2_1 : I tab ro F r90_2 1 K s = I1 tab ro F r90_2 2 K (setO s (some 8) (loadO s.heap false 1 (opd s (.tmp 2)))) := I_plain rfl rfl (ev_load.trans (congrArg (setO s _) (u_load (agg := false) (n := 1) rfl rfl rfl)))
theorem i90_2_2 : I tab ro F r90_2 2 K s = I1 tab ro F r90_2 3 K (setE s (some 9) (callG tab (evw tab) s 19 (opds s [(.tmp 8)]))) := I_plain rfl rfl (u_call)
theorem i90_2_3 : I tab ro F r90_2 3 K s = I1 tab ro F r90_2 4 K (setE s (some 10) (callO tab (evw tab) s (opd s (.tmp 7)) (opds s [(.tmp 9)]))) := I_plain rfl rfl (ev_call)
theorem i90_2_4 : I tab ro F r90_2 4 K s = I1 tab ro F r90_2 5 K (setO s (some 11) (unO .not (opd s (.tmp 10)))) := I_plain rfl rfl (ev_unOp.trans (congrArg (setO s _) u_un))
theorem i90_2_e : I tab ro F r90_2 5 K s = kont tab ro F K .normal s := I_end rfl
noncomputable def c90_15 : Code := cd1 c90_14
noncomputable def c90_16 : Code := cd2 c90_14
theorem wc90_14 : W tab ro F c90_14 K s = C1 tab ro F c90_15 c90_16 K s (opd s (.tmp 11)) := Wc_cond (show c90_14 = .cond (.tmp 11) c90_15 c90_16 from rfl)
theorem wc90_15 : W tab ro F c90_15 K s = kont tab ro F K .ret s := Wc_ret (show c90_15 = .ret from rfl)
theorem wc90_16 : W tab ro F c90_16 K s = kont tab ro F K .normal s := Wc_skip (show c90_16 = .skip from rfl)
noncomputable def r90_3 : Array Oper := rg1 c90_11
theorem wc90_11 : W tab ro F c90_11 K s = I tab ro F r90_3 0 K s := Wc_region (show c90_11 = .region 3 r90_3 false from rfl)
theorem i90_3_0 : I tab ro F r90_3 0 K s = I1 tab ro F r90_3 1 K (setO s (some 12) (binO tab .add 3 (.tmp 5) (.const (.int .i64 (1))) (opd s (.tmp 5)) (opd s (.const (.int .i64 (1)))))) := I_plain rfl rfl (ev_binOp.trans (congrArg (setO s _) u_bin))
theorem i90_3_1 : I tab ro F r90_3 1 K s = I1 tab ro F r90_3 2 K (setO s (some 5) (opd s (.tmp 12))) := I_plain rfl rfl (ev_move)
theorem i90_3_e : I tab ro F r90_3 2 K s = kont tab ro F K .normal s := I_end rfl
theorem n90 : fi90.ntmps = 13 := rfl
theorem q90 : fi90.results = [] := rfl
theorem f90 : tab.f 90 = some fi90 := rfl
theorem b90 : fi90.body = c90 := rfl
theorem m90 : fi90.lm = 1 := rfl
-- NAMES 90 n90 q90 b90 m90  wc90 wc90_0 i90_0_0 i90_0_1 i90_0_e wc90_1 kc90_2 wc90_3 wc90_4 i90_1_0 i90_1_e wc90_5 wc90_6 wc90_8 wc90_9 wc90_7 wc90_10 wc90_12 wc90_13 i90_2_0 i90_2_1 i90_2_2 i90_2_3 i90_2_4 i90_2_e wc90_14 wc90_15 wc90_16 wc90_11 i90_3_0 i90_3_1 i90_3_e
end
end Go.Proofs.Ytbcecenneganeaa.Ev
