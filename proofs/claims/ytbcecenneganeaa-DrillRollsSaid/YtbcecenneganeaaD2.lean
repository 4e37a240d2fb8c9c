import Derived.Test.YtbcecenneganeaaD1
set_option linter.all false
set_option maxRecDepth 10000
namespace Go.Proofs.Ytbcecenneganeaa.Ev
open Go Go.Proofs.Ytbcecenneganeaa.Ev Go.Proofs Go.Proofs.Ytbcecenneganeaa Go.Proofs.Ytbcecenneganeaa.Tab

theorem rpick_in {m : Bool} {H : Tr AO} {hs o : Nat} {x : Int} {l : List (List UInt8)} {tk : ATk} (hx : H.get .dead o = .cells [.lit (.int .u64 x)] false) (h0 : 0 < l.length) (hl : l.length ≤ 2147483648) :
    callF tab (evw tab) m 17 [.ptr o 0, .lst tk (l.map AV.str)] H hs = some (.str (pk x l), H.put .dead o (.cells [.lit (.int .u64 (nx x))] false), hs) := by
  have e1 : decide ((l.length : Int) = 0) = false := by rw [decide_eq_false_iff_not]; omega
  have h1 := Int.emod_nonneg (up x) (show (l.length : Int) ≠ 0 by omega)
  have h2 := Int.emod_lt_of_pos (up x) (show 0 < (l.length : Int) by omega)
  have e2 : decide (0 ≤ up x % (l.length : Int)) = true := by rw [decide_eq_true_iff]; exact h1
  have e3 : l[(up x % (l.length : Int)).toNat]? = some (pk x l) := by
    have : (up x % (l.length : Int)).toNat < l.length := by have h3 := Int.toNat_of_nonneg h1; generalize up x % (l.length : Int) = z at h1 h2 h3 ⊢; omega
    unfold pk
    rw [List.getD_eq_getElem?_getD, List.getElem?_eq_getElem this]; rfl
  rw [callF_in tcon f17 rfl]
  simp only [n17, q17, b17, m17, wc17, wc17_0, i17_0_0, i17_0_e, wc17_1, wc17_2, wc17_4, i17_1_0, i17_1_1, i17_1_2, i17_1_e, wc17_5, wc17_6, wc17_8, i17_2_0, i17_2_e, wc17_9, wc17_7, wc17_3, wc17_10, i17_3_0, i17_3_1, i17_3_2, i17_3_3, i17_3_4, i17_3_e, wc17_11, wc17_12, i17_4_0, i17_4_1, i17_4_2, i17_4_3, i17_4_4, i17_4_e, wc17_13, I1_some, IG_yes, IG_tf, IG_ft, IG_undef, k_sq, k_nil, k_sq_exit, k_sq_ret, k_bk, k_bk_ret, k_bk_exit, k_lp_exit, k_lp_ret, C1_true, C1_false, setO, setN, setE, setT_s, setT_n, opd_t, opd_c, opd_f, opds_n, opds_c, ofConst_int, ofConst_bool, ofConst_str, ofConst_ptr, ofConst_slice, ofConst_map, ofConst_agg, ofConst_nf, ofConst_ni, scal_int, scal_bool, scal_str, scal_slice, get_same, get_other, ne_eq, Nat.reduceLT, Nat.reduceEqDiff, not_false_eq_true, not_true_eq_false, reduceCtorEq, pickO, nilO, unO, unV, fnO, extractO, fieldO, partO, fieldAddrO, indexAddrO, indexArrO, indexStrO, one', loadO, storeO, boxO, buildO, buildSO, convIO, lenSO, lenLO, lenMO, opdParts, placesL, callG, callO_f, b_add, b_sub, b_mul, b_lss, b_leq, b_gtr, b_geq, b_eql, b_neq, b_seql, b_sneq, b_slss, cond_true, cond_false, Bool.and_true, Bool.true_and, Bool.and_false, Bool.false_and, Bool.not_true, Bool.not_false, Bool.or_true, Bool.or_false, Bool.true_or, Bool.false_or, decide_true, decide_false, bodyF_W, fin_ret, fin_nil, resOf, one, putL_nil, putL_cons, lmOf, Nat.beq, Nat.reduceAdd, Nat.zero_add, Nat.add_zero, rd, wr, splice, fillV, setEs, AV.cells, List.all_cons, List.all_nil, oneCell, one_int, one_bool, one_slice, one_ptr, one_map, one_nf, one_ni, flatOk, sizeOk, List.cons_append, List.nil_append, List.append_nil, List.drop_zero, List.drop_succ_cons, List.take_succ_cons, List.take_zero, List.length_cons, List.length_nil, List.getElem?_cons_zero, List.getElem?_cons_succ, List.map_cons, List.map_nil, List.flatten_cons, List.flatten_nil, List.replicate_succ, List.replicate_zero, Nat.ble, Nat.blt, b_rem, b_shr, Nat.max_def, Nat.reduceLeDiff, Nat.reduceMul, Nat.reduceSub, Int.cast_ofNat_Int, Int.reduceEq, Int.reduceLE, Int.reduceLT, Nat.reduceBEq, if_true, if_false, reduceIte, Option.map_some, List.length_map, e1, rroll_in hx (show 1 ≤ (l.length : Int) by omega) (by omega), e2, List.getElem?_map, e3]
theorem rpick_out {m : Bool} {H : Tr AO} {hs o : Nat} {tk : ATk} : callF tab (evw tab) m 17 [.ptr o 0, .lst tk []] H hs = some (.str [], H, hs) := by
  rw [callF_in tcon f17 rfl]
  simp only [n17, q17, b17, m17, wc17, wc17_0, i17_0_0, i17_0_e, wc17_1, wc17_2, wc17_4, i17_1_0, i17_1_1, i17_1_2, i17_1_e, wc17_5, wc17_6, wc17_8, i17_2_0, i17_2_e, wc17_9, wc17_7, wc17_3, wc17_10, i17_3_0, i17_3_1, i17_3_2, i17_3_3, i17_3_4, i17_3_e, wc17_11, wc17_12, i17_4_0, i17_4_1, i17_4_2, i17_4_3, i17_4_4, i17_4_e, wc17_13, I1_some, IG_yes, IG_tf, IG_ft, IG_undef, k_sq, k_nil, k_sq_exit, k_sq_ret, k_bk, k_bk_ret, k_bk_exit, k_lp_exit, k_lp_ret, C1_true, C1_false, setO, setN, setE, setT_s, setT_n, opd_t, opd_c, opd_f, opds_n, opds_c, ofConst_int, ofConst_bool, ofConst_str, ofConst_ptr, ofConst_slice, ofConst_map, ofConst_agg, ofConst_nf, ofConst_ni, scal_int, scal_bool, scal_str, scal_slice, get_same, get_other, ne_eq, Nat.reduceLT, Nat.reduceEqDiff, not_false_eq_true, not_true_eq_false, reduceCtorEq, pickO, nilO, unO, unV, fnO, extractO, fieldO, partO, fieldAddrO, indexAddrO, indexArrO, indexStrO, one', loadO, storeO, boxO, buildO, buildSO, convIO, lenSO, lenLO, lenMO, opdParts, placesL, callG, callO_f, b_add, b_sub, b_mul, b_lss, b_leq, b_gtr, b_geq, b_eql, b_neq, b_seql, b_sneq, b_slss, cond_true, cond_false, Bool.and_true, Bool.true_and, Bool.and_false, Bool.false_and, Bool.not_true, Bool.not_false, Bool.or_true, Bool.or_false, Bool.true_or, Bool.false_or, decide_true, decide_false, bodyF_W, fin_ret, fin_nil, resOf, one, putL_nil, putL_cons, lmOf, Nat.beq, Nat.reduceAdd, Nat.zero_add, Nat.add_zero, rd, wr, splice, fillV, setEs, AV.cells, List.all_cons, List.all_nil, oneCell, one_int, one_bool, one_slice, one_ptr, one_map, one_nf, one_ni, flatOk, sizeOk, List.cons_append, List.nil_append, List.append_nil, List.drop_zero, List.drop_succ_cons, List.take_succ_cons, List.take_zero, List.length_cons, List.length_nil, List.getElem?_cons_zero, List.getElem?_cons_succ, List.map_cons, List.map_nil, List.flatten_cons, List.flatten_nil, List.replicate_succ, List.replicate_zero, Nat.ble, Nat.blt, b_rem, b_shr, Nat.max_def, Nat.reduceLeDiff, Nat.reduceMul, Nat.reduceSub, Int.cast_ofNat_Int, Int.reduceEq, Int.reduceLE, Int.reduceLT, Nat.reduceBEq, if_true, if_false, reduceIte, Option.map_some, Int.reduceEq]
theorem new_eq {m : Bool} {H : Tr AO} {hs : Nat} {x : Int} : callF tab (evw tab) m 12 [.lit (.int .u64 x)] H hs = some (.ptr hs 0, H.put .dead hs (.cells [.lit (.int .u64 x)] false), hs + 1) := by
  rw [callF_in tcon f12 rfl]
  simp only [n12, q12, b12, m12, wc12, wc12_0, i12_0_0, i12_0_e, wc12_1, wc12_2, i12_1_0, i12_1_1, i12_1_2, i12_1_3, i12_1_e, wc12_3, I1_some, IG_yes, IG_tf, IG_ft, IG_undef, k_sq, k_nil, k_sq_exit, k_sq_ret, k_bk, k_bk_ret, k_bk_exit, k_lp_exit, k_lp_ret, C1_true, C1_false, setO, setN, setE, setT_s, setT_n, opd_t, opd_c, opd_f, opds_n, opds_c, ofConst_int, ofConst_bool, ofConst_str, ofConst_ptr, ofConst_slice, ofConst_map, ofConst_agg, ofConst_nf, ofConst_ni, scal_int, scal_bool, scal_str, scal_slice, get_same, get_other, ne_eq, Nat.reduceLT, Nat.reduceEqDiff, not_false_eq_true, not_true_eq_false, reduceCtorEq, pickO, nilO, unO, unV, fnO, extractO, fieldO, partO, fieldAddrO, indexAddrO, indexArrO, indexStrO, one', loadO, storeO, boxO, buildO, buildSO, convIO, lenSO, lenLO, lenMO, opdParts, placesL, callG, callO_f, b_add, b_sub, b_mul, b_lss, b_leq, b_gtr, b_geq, b_eql, b_neq, b_seql, b_sneq, b_slss, cond_true, cond_false, Bool.and_true, Bool.true_and, Bool.and_false, Bool.false_and, Bool.not_true, Bool.not_false, Bool.or_true, Bool.or_false, Bool.true_or, Bool.false_or, decide_true, decide_false, bodyF_W, fin_ret, fin_nil, resOf, one, putL_nil, putL_cons, lmOf, Nat.beq, Nat.reduceAdd, Nat.zero_add, Nat.add_zero, rd, wr, splice, fillV, setEs, AV.cells, List.all_cons, List.all_nil, oneCell, one_int, one_bool, one_slice, one_ptr, one_map, one_nf, one_ni, flatOk, sizeOk, List.cons_append, List.nil_append, List.append_nil, List.drop_zero, List.drop_succ_cons, List.take_succ_cons, List.take_zero, List.length_cons, List.length_nil, List.getElem?_cons_zero, List.getElem?_cons_succ, List.map_cons, List.map_nil, List.flatten_cons, List.flatten_nil, List.replicate_succ, List.replicate_zero, Nat.ble, Nat.blt, b_rem, b_shr, Nat.max_def, Nat.reduceLeDiff, Nat.reduceMul, Nat.reduceSub, Int.cast_ofNat_Int, Int.reduceEq, Int.reduceLE, Int.reduceLT, Nat.reduceBEq, if_true, if_false, reduceIte, Option.map_some]

/-- Both dice answer alike, and go on alike. -/
theorem rolls {m : Bool} {H : Tr AO} {hs : Nat} {x b : Int} (h0 : H.get .dead 0 = .cells [.lit (.int .u64 x)] false) :
    ∃ r H', callF tab (evw tab) m 14 [.ptr 0 0, .lit (.int .i64 b)] H hs = some (.lit (.int .i64 r), H', hs) ∧
      (∀ j, H'.get .dead j = if j = 0 then .cells [.lit (.int .u64 (rs x b))] false else H.get .dead j) ∧ r = rl x b := by
  by_cases hb : 1 ≤ b ∧ b ≤ 2147483648
  · refine ⟨_, _, roll_in h0 hb.1 hb.2, ?_, ?_⟩
    · intro j; rw [Tr.get_put]; simp only [rs, hb, and_self, if_true]
    · simp only [rl, hb, and_self, if_true]
  · refine ⟨_, _, roll_out (by omega), ?_, ?_⟩
    · intro j; simp only [rs, hb, if_false]
      split
      · rename_i e; subst e; exact h0
      · rfl
    · simp only [rl, hb, if_false]
theorem rrolls {m : Bool} {H : Tr AO} {hs : Nat} {x b : Int} (h0 : H.get .dead 1 = .cells [.lit (.int .u64 x)] false) :
    ∃ r H', callF tab (evw tab) m 15 [.ptr 1 0, .lit (.int .i64 b)] H hs = some (.lit (.int .i64 r), H', hs) ∧
      (∀ j, H'.get .dead j = if j = 1 then .cells [.lit (.int .u64 (rs x b))] false else H.get .dead j) ∧ r = rl x b := by
  by_cases hb : 1 ≤ b ∧ b ≤ 2147483648
  · refine ⟨_, _, rroll_in h0 hb.1 hb.2, ?_, ?_⟩
    · intro j; rw [Tr.get_put]; simp only [rs, hb, and_self, if_true]
    · simp only [rl, hb, and_self, if_true]
  · refine ⟨_, _, rroll_out (by omega), ?_, ?_⟩
    · intro j; simp only [rs, hb, if_false]
      split
      · rename_i e; subst e; exact h0
      · rfl
    · simp only [rl, hb, if_false]
def ps (x : Int) (l : List (List UInt8)) : Int := if l = [] then x else nx x
def pt (x : Int) (l : List (List UInt8)) : List UInt8 := if l = [] then [] else pk x l
theorem picks {m : Bool} {H : Tr AO} {hs : Nat} {x : Int} {l : List (List UInt8)} {tk : ATk} (hl : l.length ≤ 2147483648) (h0 : H.get .dead 0 = .cells [.lit (.int .u64 x)] false) :
    ∃ r H', callF tab (evw tab) m 16 [.ptr 0 0, .lst tk (l.map AV.str)] H hs = some (.str r, H', hs) ∧
      (∀ j, H'.get .dead j = if j = 0 then .cells [.lit (.int .u64 (ps x l))] false else H.get .dead j) ∧ r = pt x l := by
  cases l with
  | nil =>
    refine ⟨_, _, pick_out, ?_, rfl⟩
    intro j; simp only [ps, if_true]
    split
    · rename_i e; subst e; exact h0
    · rfl
  | cons a l =>
    refine ⟨_, _, pick_in h0 (by simp) hl, ?_, by simp [pt]⟩
    intro j; rw [Tr.get_put]; simp [ps]
theorem rpicks {m : Bool} {H : Tr AO} {hs : Nat} {x : Int} {l : List (List UInt8)} {tk : ATk} (hl : l.length ≤ 2147483648) (h0 : H.get .dead 1 = .cells [.lit (.int .u64 x)] false) :
    ∃ r H', callF tab (evw tab) m 17 [.ptr 1 0, .lst tk (l.map AV.str)] H hs = some (.str r, H', hs) ∧
      (∀ j, H'.get .dead j = if j = 1 then .cells [.lit (.int .u64 (ps x l))] false else H.get .dead j) ∧ r = pt x l := by
  cases l with
  | nil =>
    refine ⟨_, _, rpick_out, ?_, rfl⟩
    intro j; simp only [ps, if_true]
    split
    · rename_i e; subst e; exact h0
    · rfl
  | cons a l =>
    refine ⟨_, _, rpick_in h0 (by simp) hl, ?_, by simp [pt]⟩
    intro j; rw [Tr.get_put]; simp [ps]
end Go.Proofs.Ytbcecenneganeaa.Ev
