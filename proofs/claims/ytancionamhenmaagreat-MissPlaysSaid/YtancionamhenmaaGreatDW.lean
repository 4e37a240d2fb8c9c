import Derived.Test.YtancionamhenmaaGreatDL
set_option linter.all false
set_option maxRecDepth 100000
set_option maxHeartbeats 16000000
namespace Go.Proofs.YtancionamhenmaaGreat.Ev
open Go Go.Proofs.YtancionamhenmaaGreat.Ev Go.Proofs Go.Proofs.YtancionamhenmaaGreat Go.Proofs.YtancionamhenmaaGreat.Tab
theorem cptOut {b n : Nat} {H : Tr AO} {hs : Nat} {gl : Tr (Option AV)} {e : List Row} (hsm : n < 1000000) : ∀ (R A : List Row) (p : Row) (t : Tr AV), RowsAt H b (A ++ p :: R) -> A ++ p :: cptA p R = e -> n = (A ++ p :: R).length -> rlens (p :: R) ->
  t.get .any 0 = .slc b 0 n (.op 1) -> t.get .any 1 = .fn (.func 68) [] [] -> t.get .any 5 = .lit (.int .i64 (A.length + 1 : Nat)) ->
  ∃ H' Z, W tab none (fin tab fi67) (lpc fi67 0) (lpk fi67 0) ⟨t, 66, H, hs, [], ⟨false, true, gl⟩⟩ = some (.slc b 0 e.length (.op 1), H', hs) /\ H'.get .dead b = .cells (rc e ++ Z) false /\ ∀ q, q ≠ b -> H'.get .dead q = H.get .dead q := by
 have D := d67
 simp only [stD, stC, List.cons.injEq, b67, Tryz.f67] at D
 have IN := @cptIn
 simp only [stU, stC, b67, Tryz.f67] at IN
 simp only [stU, stC, b67, Tryz.f67]
 intro R
 induction R with
 | nil =>
  intro A p t hb he hn hr a0 a1 a5
  have hn2 := hn
  simp only [List.length_append, List.length_cons, List.length_nil] at hn2
  have he2 : e = A ++ [p] := by rw [<- he]; rfl
  have hl : e.length = n := by rw [he2]; simp; omega
  have e1 : decide (((A.length + 1 : Nat) : Int) < (n : Int)) = false := dcF (by omega)
  rw [W_loop]
  refine ⟨H, [], ?_, by rw [List.append_nil, he2]; exact hb, fun _ _ => rfl⟩
  rw [hl]
  simp only [sGA, seval, x67, a0, a5, e1]
 | cons x R ih =>
  intro A p t hb he hn hr a0 a1 a5
  have hn2 := hn
  simp only [List.length_append, List.length_cons] at hn2
  have e1 : decide (((A.length + 1 : Nat) : Int) < (n : Int)) = true := dcT (by omega)
  have e3 : decide (0 <= ((A.length + 1 : Nat) : Int)) = true := dcT (by omega)
  have w1 : IntKind.i64.wrap (((A.length + 1 : Nat) : Int) - 1) = (A.length : Int) := by rw [wS1 (by omega) (by omega)]; omega
  have w2 := wrap_succ (i := A.length + 1) (by omega)
  have i1 : decide (0 <= ((A.length + 1 : Nat) : Int) /\ ((A.length + 1 : Nat) : Int) < (n : Int)) = true := dIx (by omega)
  have i2 : decide (0 <= (A.length : Int) /\ (A.length : Int) < (n : Int)) = true := dIx (by omega)
  have g0 := hb.get
  have l1 := rcGet (k := A.length + 1) (r := x) (d := A ++ p :: x :: R) (by rw [show A ++ p :: x :: R = (A ++ [p]) ++ x :: R by simp]; exact get_mid (by simp))
  have l2 := rcGet (k := A.length) (r := p) (d := A ++ p :: x :: R) (get_mid rfl)
  have n1 := rcLen (k := A.length + 1) (d := A ++ p :: x :: R) (by rw [<- hn]; omega)
  have n2 := rcLen (k := A.length) (d := A ++ p :: x :: R) (by rw [<- hn]; omega)
  have c := fun m H hs => @call68 m .no .no x p H hs (by have := hr x (by simp); omega)
  have s1 := slT (b := b) (n := n) (k := A.length + 1) (by omega)
  simp only [encR] at l1 l2
  have hb' := hb
  generalize hd0 : rc (A ++ p :: x :: R) = d0 at *
  rw [W_loop]
  cases hc : decide (rcmp x p = 0) with
  | true =>
   simp (maxSteps := 2000000) only [sGA, seval, a0, a1, a5, e1, e3, D, w1, i1, i2, Int.toNat_natCast, Nat.mul_one, g0, l1, l2, n1, n2, c, hc, dSL, s1]
   apply IN (H0 := H) (k0 := A.length + 1) hsm R (A ++ [p]) [] x 1 _ H (by simpa using hb') (by rw [<- he]; simp [cptA, hc]) (by rw [hn]; simp) (fun r h => hr r (by simp at h ⊢; exact .inr h)) (by omega) (by simp) (fun _ _ => rfl)
   all_goals first | (simp only [sG, seval, a0, a1, a5]; done) | (simp only [sG, seval, a5, List.length_append]; done) | (simp only [sG, seval, a0, a1, a5]; rfl)
  | false =>
   simp (maxSteps := 2000000) only [sGA, seval, a0, a1, a5, e1, D, w1, w2, i1, i2, Int.toNat_natCast, Nat.mul_one, g0, l1, l2, n1, n2, c, hc]
   apply ih (A ++ [p]) x _ (by simpa using hb') (by rw [<- he]; simp [cptA, hc]) (by rw [hn]; simp) (fun r h => hr r (by simp at h ⊢; exact .inr h))
   all_goals first | (simp only [sG, seval, a0, a1]; done) | (simp only [sG, seval, List.length_append]; done)
theorem cCompact {m : Md} {d : List Row} {b : Nat} {H : Tr AO} {hs : Nat} (hd : d ≠ []) (hb : RowsAt H b d) (hsm : d.length < 1000000) (hrl : rlens d) :
  ∃ H' Z, callF tab (evw tab) m 67 [.slc b 0 d.length (.op 1), .fn (.func 68) [] []] H hs = some (.slc b 0 (cpt d).length (.op 1), H', hs) /\ H'.get .dead b = .cells (rc (cpt d) ++ Z) false /\ ∀ q, q ≠ b -> H'.get .dead q = H.get .dead q := by
 have O1 := @cptOut
 simp only [stU, stC, b67, Tryz.f67] at O1
 rw [callF_in (fi := fi67) tcon rfl rfl rfl]
 rcases d with _ | ⟨p, _ | ⟨x, R⟩⟩
 ·exact absurd rfl hd
 ·refine ⟨H, [], ?_, by rw [List.append_nil]; exact hb, fun _ _ => rfl⟩
  have e1 : decide ((([p] : List Row).length : Int) < 2) = true := rfl
  simp only [cpt, cptA]
  generalize ([p] : List Row).length = z at *
  simp (maxSteps := 2000000) only [sG, seval, x67, stU, b67, Tryz.f67, e1]
 ·have e1 : decide (((p :: x :: R).length : Int) < 2) = false := by rw [decide_eq_false_iff_not]; simp; omega
  generalize hz : (p :: x :: R).length = z at *
  simp (maxSteps := 2000000) only [sG, seval, x67, stU, b67, Tryz.f67, e1]
  apply O1 (by omega) (x :: R) [] p _ hb rfl (by rw [<- hz]; rfl) hrl
  all_goals simp only [sG, seval] <;> rfl
theorem flatR : ∀ l : List Row, (l.map encR).flatMap AV.cells = l.map encR
 | [] => rfl
 | r :: l => by rw [List.map_cons, List.flatMap_cons, flatR l]; rfl
theorem cCloneR {m : Md} {k1 : ATk} {d : List Row} {H : Tr AO} {hs : Nat} (hd : d ≠ []) (hl : d.length < 99999) : ∃ H', callF tab (evw tab) m 64 [.lst k1 (d.map encR)] H hs = some (.slc (hs + 1) 0 d.length (.op 1), H', hs + 2) /\ RowsAt H' (hs + 1) d := by
 obtain ⟨v, r, rfl⟩ : ∃ v r, d = v :: r := by
  cases d with
  | nil => exact absurd rfl hd
  | cons v r => exact ⟨v, r, rfl⟩
 have cn : ∀ {p q : Operand}, binO tab .eql 68 p q (some (.lst k1 (encR v :: r.map encR))) (some (.lit (.slice none 0 0))) = some (.lit (.bool false)) := rfl
 have h1 : srcCells (H.put .dead hs (.cells [] false)) 1 (.lst k1 (encR v :: r.map encR)) = some ((v :: r).length, rc (v :: r)) := by
  unfold srcCells
  rw [show (encR v :: r.map encR) = (v :: r).map encR from rfl]
  simp only []
  rw [show ((v :: r).map encR).all (sizeOk 1) = true from by rw [List.all_eq_true]; intro x hx; obtain ⟨y, _, rfl⟩ := List.mem_map.1 hx; rfl, cond_true, List.length_map, flatR]
  rfl
 have h2 : append' (H.put .dead hs (.cells [] false)) (hs + 1) 1 24 (.slc hs 0 0 (.ex 0)) (v :: r).length (rc (v :: r)) = some (.slc (hs + 1) 0 (v :: r).length (.op 1), (H.put .dead hs (.cells [] false)).put .dead (hs + 1) (.cells (rc (v :: r)) false), hs + 1 + 1) := by
  unfold append'
  have o1 : (rc (v :: r)).all oneCell = true := by rw [List.all_eq_true]; intro x hx; unfold rc at hx; obtain ⟨y, _, rfl⟩ := List.mem_map.1 hx; rfl
  have o2 : Nat.beq (rc (v :: r)).length ((v :: r).length * 1) = true := by unfold rc; rw [List.length_map, Nat.mul_one]; exact Nat.beq_refl _
  have o3 : Nat.beq (v :: r).length 0 = false := rfl
  have o4 : Nat.ble ((4 * (0 + (v :: r).length) + 4000) * 24) 281474976710656 = true := ble_le.2 (by omega)
  have o5 : Nat.ble (0 + (v :: r).length) 0 = false := by
   cases hx : Nat.ble (0 + (v :: r).length) 0 with
   | false => rfl
   | true => have := ble_le.1 hx; simp at this
  rw [o3, cond_false, o1, o2]
  have g : (H.put .dead hs (.cells [] false)).get .dead hs = .cells [] false := by rw [Tr.get_put, if_pos rfl]
  simp only [Bool.and_self, cond_true, g]
  rw [show Nat.ble (0 + 0 * 1) ([] : List AV).length = true from rfl, o4, o5]
  simp
  rfl
 have h3 : appendO (H.put .dead hs (.cells [] false)) (hs + 1) false false 1 24 (some (.slc hs 0 0 (.ex 0))) (some (.lst k1 (encR v :: r.map encR))) = some (.slc (hs + 1) 0 (v :: r).length (.op 1), (H.put .dead hs (.cells [] false)).put .dead (hs + 1) (.cells (rc (v :: r)) false), hs + 1 + 1) := by
  simp only [appendO, lstX, isFE, cond_false, lstOf, h1, h2]
 clear h1 h2
 refine ⟨(H.put .dead hs (.cells [] false)).put .dead (hs + 1) (.cells (rc (v :: r)) false), ?_, by unfold RowsAt; rw [Tr.get_put, if_pos rfl]⟩
 rw [callF_in (fi := fi64) tcon rfl rfl rfl]
 generalize hz : (v :: r).length = z at *
 generalize rc (v :: r) = d0 at *
 simp (maxSteps := 2000000) only [sGA, seval, x64, stU, b64, Tryz.f64, cn, h3]
theorem ttRs : ∃ i, tab.t 68 = some i /\ i.desc = .slice 43 := ⟨_, rfl, rfl⟩
theorem ttRw : ∃ i, tab.t 43 = some i /\ i.size = 1 /\ isAggD i.desc = false := ⟨_, rfl, rfl, rfl⟩
theorem chunkR : ∀ (l : List AV), chunk false 1 l.length l = l
 | [] => rfl
 | x :: l => by
  simp only [List.length_cons, chunk, cond_false, List.headD_cons, List.drop_succ_cons, List.drop_zero, chunkR l]
theorem oneRr : ∀ (R : List Row), (R.map encR).all oneCell = true
 | [] => rfl
 | r :: R => by rw [List.map_cons, List.all_cons, oneRr R]; rfl
theorem bares_Rr (R : List Row) : bares (R.map encR) = true := bares_mapf (f := encR) (fun r => by show bares (r.map encV) = true; exact bares_V r) R
theorem nrms_Rr (R : List Row) : nrms (R.map encR) = R.map encR := nrms_mapg (f := encR) (fun r => by show AV.lst .no (nrms (r.map encV)) = _; rw [nrms_V]; rfl) R
theorem frz_Rr {H : Tr AO} {e : List Row} {Z : List AV} {b : Nat} (h4 : H.get .dead b = .cells (rc e ++ Z) false) : frz tab 30 68 (.slc b 0 e.length (.op 1)) H = some (.lst .no (e.map encR), H.put .dead b (.cells (e.map encR ++ Z) true)) := by
 obtain ⟨i, i1, i2⟩ := ttRs
 obtain ⟨j, j1, j2, j3⟩ := ttRw
 unfold rc at h4
 have hrd : rd H b 0 (e.length * 1) = some (e.map encR) := by
  unfold rd
  rw [h4]
  simp only [Nat.zero_add, List.drop_zero, Nat.mul_one]
  rw [show Nat.ble e.length (e.map encR ++ Z).length = true from ble_le.2 (by simp), cond_true, List.take_left' (by simp)]
 have hl : frzL (frz tab 29) (List.replicate e.length (cellTys tab 20 43)).flatten (e.map encR) (H.put .dead b (.cells (e.map encR ++ Z) true)) = some (e.map encR, H.put .dead b (.cells (e.map encR ++ Z) true)) := by
  rw [frzL_bare (d := 28) (by rw [List.length_map, show cellTys tab 20 43 = [43] from rfl]; simp) (bares_Rr e), nrms_Rr]
 have hcp : capOk e.length (.op 1) = true := rfl
 unfold frz
 simp only [bare, cond_false, i1, i2, j1, j2, j3, h4, hrd, hcp, hl, oneRr, Bool.and_true, Bool.false_or]
 rw [show Nat.blt 0 1 = true from rfl, cond_true, show Nat.beq 1 1 = true from rfl, cond_true]
 have := chunkR (e.map encR)
 rw [List.length_map] at this
 rw [this]
theorem eqSort {m : Md} {d : List Row} (hd : d ≠ []) (hl : d.length < 99999) (hr : rlens d) : ∃ C, SrtR C /\ C.Perm d /\ iso tab fi43 m [.lst .no (d.map encR)] = some (.lst .no ((cpt C).map encR)) := by
 obtain ⟨H1, c1, r1⟩ := cCloneR (m := ⟨false, true, m.gl⟩) (k1 := .no) (H := .lf) (hs := 0) hd hl
 obtain ⟨v, H2, C, c2, s2, p2, r2, _⟩ := cSSF (m := ⟨false, true, m.gl⟩) (hs := 2) r1 (by omega) hr
 have hC : C ≠ [] := fun h => hd (List.Perm.eq_nil (by rw [h] at p2; exact p2.symm))
 obtain ⟨H3, Z, c3, r3, _⟩ := cCompact (m := ⟨false, true, m.gl⟩) (hs := 2) hC r2 (by rw [p2.length_eq]; omega) (hr.perm p2)
 rw [p2.length_eq] at c3
 refine ⟨C, s2, p2, iso_retF ?_⟩
 simp (maxSteps := 2000000) only [sG, seval, x43, stU, b43, Tryz.f43, c1, c2, c3]
 refine RetF_some.2 ?_
 show frzC tab [68] _ _ = _
 unfold frzC frzR
 simp only [bare, cond_false, frz_Rr r3, bares_Rr, nrms_Rr, cond_true, nrm]
theorem cSort {m : Md} {k1 : ATk} {d : List Row} {H : Tr AO} {hs : Nat} (hd : d ≠ []) (hl : d.length < 99999) (hr : rlens d) : ∃ C, SrtR C /\ C.Perm d /\ callF tab (evw tab) m 43 [.lst k1 (d.map encR)] H hs = some (.lst .no ((cpt C).map encR), H, hs) := by
 obtain ⟨v, r, rfl⟩ : ∃ v r, d = v :: r := by
  cases d with
  | nil => exact absurd rfl hd
  | cons v r => exact ⟨v, r, rfl⟩
 obtain ⟨C, s, p, e⟩ := eqSort (m := m) hd hl hr
 refine ⟨C, s, p, callF_spl tcon rfl rfl (by simp only [bares, bare, bares_Rr, Bool.and_self]) ?_⟩
 simp only [nrms, nrm, nrms_Rr]
 exact isoX_cons rfl rfl e
theorem cIns0 {m : Md} {X f : AV} {H : Tr AO} {hs : Nat} : callF tab (evw tab) m 100 [X, .lit (.int .i64 0), .lit (.int .i64 0), f] H hs = some (one [], H, hs) := by
 have e1 : decide ((1 : Int) < 0) = false := rfl
 have w1 : IntKind.i64.wrap (1 : Int) = 1 := rfl
 rw [callF_in (fi := fi100) tcon rfl rfl rfl]
 simp (maxSteps := 2000000) only [sG, seval, x100, stU, b100, Tryz.f100, w1]
 rw [W_loop]
 simp (maxSteps := 2000000) only [sG, seval, x100]
theorem cStable0 {m : Md} {X f : AV} {H : Tr AO} {hs : Nat} : callF tab (evw tab) m 85 [X, .lit (.int .i64 0), f] H hs = some (one [], H, hs) := by
 have c := fun m X f H hs => @cIns0 m X f H hs
 have e1 : decide ((20 : Int) <= 0) = false := rfl
 have e2 : decide ((20 : Int) < 0) = false := rfl
 rw [callF_in (fi := fi85) tcon rfl rfl rfl]
 simp (maxSteps := 2000000) only [sG, seval, x85, stU, b85, Tryz.f85]
 rw [W_loop]
 simp (maxSteps := 2000000) only [sG, seval, c]
 rw [W_loop]
 simp (maxSteps := 2000000) only [sG, seval, x85]
theorem cSSF0 {m : Md} {f : AV} {H : Tr AO} {hs : Nat} : callF tab (evw tab) m 65 [.lit (.slice none 0 0), f] H hs = some (one [], H, hs) := by
 have c := fun m X f H hs => @cStable0 m X f H hs
 have z : ((0 : Nat) : Int) = 0 := rfl
 rw [callF_in (fi := fi65) tcon rfl rfl rfl]
 simp (maxSteps := 2000000) only [sG, seval, x65, stU, b65, Tryz.f65, z, c]
theorem cSSF1 {m : Md} {f : AV} {o : Nat} {H : Tr AO} {hs : Nat} : callF tab (evw tab) m 65 [.slc o 0 0 (.ex 0), f] H hs = some (one [], H, hs) := by
 have c := fun m X f H hs => @cStable0 m X f H hs
 rw [callF_in (fi := fi65) tcon rfl rfl rfl]
 have z : ((0 : Nat) : Int) = 0 := rfl
 simp (maxSteps := 2000000) only [sG, seval, x65, stU, b65, Tryz.f65, z, c]
theorem eqSort_n {m : Md} : iso tab fi43 m [.lit (.slice none 0 0)] = some (.lst .no []) := by
 have cn : ∀ {p q : Operand}, binO tab .eql 68 p q (some (.lit (.slice none 0 0))) (some (.lit (.slice none 0 0))) = some (.lit (.bool true)) := rfl
 have c1 : ∀ m H hs, callF tab (evw tab) m 64 [.lit (.slice none 0 0)] H hs = some (.lit (.slice none 0 0), H, hs) := by
  intro m H hs
  rw [callF_in (fi := fi64) tcon rfl rfl rfl]
  simp (maxSteps := 2000000) only [sG, seval, x64, stU, b64, Tryz.f64, cn]
 have c2 := fun m f H hs => @cSSF0 m f H hs
 have c3 : ∀ m f H hs, callF tab (evw tab) m 67 [.lit (.slice none 0 0), f] H hs = some (.lit (.slice none 0 0), H, hs) := by
  intro m f H hs
  rw [callF_in (fi := fi67) tcon rfl rfl rfl]
  have e1 : decide ((0 : Int) < 2) = true := rfl
  have z : ((0 : Nat) : Int) = 0 := rfl
  simp (maxSteps := 2000000) only [sG, seval, x67, stU, b67, Tryz.f67, z]
 refine iso_retF ?_
 simp (maxSteps := 2000000) only [sG, seval, x43, stU, b43, Tryz.f43, c1, c2, c3]
 exact RetF_some.2 rfl
theorem eqSort_e {m : Md} : iso tab fi43 m [.emp] = some (.lst .no []) := by
 have cn : ∀ {p q : Operand}, binO tab .eql 68 p q (some .emp) (some (.lit (.slice none 0 0))) = some (.lit (.bool false)) := rfl
 have c1 : ∀ m H hs, callF tab (evw tab) m 64 [.emp] H hs = some (.slc hs 0 0 (.ex 0), H.put .dead hs (.cells [] false), hs + 1) := by
  intro m H hs
  have h1 : appendO (H.put .dead hs (.cells [] false)) (hs + 1) false false 1 24 (some (.slc hs 0 0 (.ex 0))) (some .emp) = some (.slc hs 0 0 (.ex 0), H.put .dead hs (.cells [] false), hs + 1) := rfl
  rw [callF_in (fi := fi64) tcon rfl rfl rfl]
  simp (maxSteps := 2000000) only [sGA, seval, x64, stU, b64, Tryz.f64, cn, h1]
 have c2 := fun m o f H hs => @cSSF1 m f o H hs
 have c3 : ∀ m o f H hs, callF tab (evw tab) m 67 [.slc o 0 0 (.ex 0), f] H hs = some (.slc o 0 0 (.ex 0), H, hs) := by
  intro m o f H hs
  rw [callF_in (fi := fi67) tcon rfl rfl rfl]
  have e1 : decide ((0 : Int) < 2) = true := rfl
  have z : ((0 : Nat) : Int) = 0 := rfl
  simp (maxSteps := 2000000) only [sG, seval, x67, stU, b67, Tryz.f67, z]
 refine iso_retF ?_
 simp (maxSteps := 2000000) only [sG, seval, x43, stU, b43, Tryz.f43, c1, c2, c3]
 exact RetF_some.2 rfl
def LstR (A : AV) (l : List Row) : Prop := (l = [] /\ A = .lit (.slice none 0 0)) ∨ ∃ tk, A = .lst tk (l.map encR)
theorem cSortA {m : Md} {A : AV} {d : List Row} {H : Tr AO} {hs : Nat} (hA : LstR A d) (hl : d.length < 99999) (hr : rlens d) : ∃ C, SrtR C /\ C.Perm d /\ callF tab (evw tab) m 43 [A] H hs = some (.lst .no ((cpt C).map encR), H, hs) := by
 cases d with
 | nil =>
  refine ⟨[], List.Pairwise.nil, List.Perm.refl _, ?_⟩
  have h1 : bares [A] = true /\ nrms [A] = [.lst .no []] := by
   rcases hA with ⟨_, rfl⟩ | ⟨tk, rfl⟩
   ·exact ⟨rfl, rfl⟩
   ·exact ⟨rfl, rfl⟩
  refine callF_spl tcon rfl rfl h1.1 ?_
  rw [h1.2]
  exact isoX_nil rfl rfl eqSort_n eqSort_e rfl
 | cons v r =>
  rcases hA with ⟨h, _⟩ | ⟨tk, rfl⟩
  ·cases h
  ·exact cSort (by simp) hl hr
def rowsOf (l : List En) : List Row := l.map fun e => e.r
theorem rowsOf_take {l : List En} {i : Nat} {e : En} (h : l[i]? = some e) : rowsOf (l.take (i + 1)) = rowsOf (l.take i) ++ [e.r] := by
 unfold rowsOf
 obtain ⟨hl, he⟩ := List.getElem?_eq_some_iff.1 h
 rw [List.take_succ_eq_append_getElem hl, he]; simp
theorem appR {lo : Nat} {H : Tr AO} {hs : Nat} {A : AV} {rs : List Row} (h : AccL lo H hs 1 A (rs.map encR)) (hlo : lo <= hs) (r : Row) (hl : rs.length < 1000000) :
  ∃ tk' H' hs', appendO H hs true false 1 24 (some A) (some (.lst .full [.lst .no (r.map encV)])) = some (.lst tk' ((rs ++ [r]).map encR), H', hs') /\ AccL lo H' hs' 1 (.lst tk' ((rs ++ [r]).map encR)) ((rs ++ [r]).map encR) /\ hs <= hs' /\ ∀ q, q < hs -> (q < lo ∨ (H.get .dead q).isRoom = false) -> H'.get .dead q = H.get .dead q := by
 obtain ⟨tk, H', hs', h1, h2, h3, h4⟩ := h.app (b := 24) (agg := false) (tk := .full) (ys := [.lst .no (r.map encV)]) hlo (by intro y hy; simp only [List.mem_singleton] at hy; rw [hy]; rfl) (by simp only [List.length_map, List.length_cons, List.length_nil]; omega)
 refine ⟨tk, H', hs', ?_, ?_, h3, h4⟩
 ·rw [h1]; simp only [List.map_append, List.map_cons, List.map_nil, encR]
 ·simpa only [List.map_append, List.map_cons, List.map_nil, encR] using h2
theorem tchA {Pp : Option (AV × Tr AO × Nat) -> Prop} {K : List Fr} {l : List En} {k1 : ATk} {X1 X2 : AV} {hs0 : Nat} {H0 : Tr AO} {gl : Tr (Option AV)} (hl : l.length < 100000)
  (hK : ∀ (t' : Tr AV) (H' : Tr AO) (hs' : Nat) (A' : AV), AccL hs0 H' hs' 1 A' ((rowsOf l).map encR) -> hs0 <= hs' -> (∀ q, q < hs0 -> H'.get .dead q = H0.get .dead q) -> t'.get .any 0 = X1 -> t'.get .any 2 = X2 -> t'.get .any 7 = A' ->
   Pp (kont tab none (fin tab fi20) K (.exit 0) ⟨t', 61, H', hs', [], ⟨true, true, gl⟩⟩)) :
  ∀ (k i : Nat) (t : Tr AV) (H : Tr AO) (hs : Nat) (A : AV), i + k = l.length -> AccL hs0 H hs 1 A ((rowsOf (l.take i)).map encR) -> hs0 <= hs -> (∀ q, q < hs0 -> H.get .dead q = H0.get .dead q) -> t.get .any 0 = X1 -> t.get .any 2 = X2 -> t.get .any 7 = A -> t.get .any 14 = .lst k1 (l.map encE) -> t.get .any 15 = .lit (.int .i64 l.length) -> t.get .any 16 = .lit (.int .i64 i) ->
  Pp (W tab none (fin tab fi20) (lpc fi20 0) K ⟨t, 61, H, hs, [], ⟨true, true, gl⟩⟩) := by
 simp only [stU, stC, b20, Tryz.f20]
 intro k
 induction k with
 | zero =>
  intro i t H hs A hi hA hh hu a0 a2 a7 a14 a15 a16
  have e1 : decide ((i : Int) < (l).length) = false := dcF (by omega)
  rw [List.take_of_length_le (by omega)] at hA
  rw [W_loop]
  simp only [sGA, seval, a15, a16, e1]
  apply hK _ H hs A hA hh hu
  all_goals simp only [sG, seval, a0, a2, a7]
 | succ k ih =>
  intro i t H hs A hi hA hh hu a0 a2 a7 a14 a15 a16
  have hlt : i < (l).length := by omega
  obtain ⟨e, hv, e1, e3, e4, e6, e7⟩ := atS hlt
  have e5 := wrap_succ (i := i) (by omega)
  have hrl : (rowsOf (l.take i)).length <= i := by unfold rowsOf; rw [List.length_map, List.length_take]; omega
  have hA1 : AccL hs0 ((H.put .dead hs (.cells [.lit (.slice none 0 0), .lit (.int .i64 0)] false)).put .dead hs (.cells [.lst .no (e.r.map encV), .lit (.int .i64 e.m)] false)) (hs + 1) 1 A ((rowsOf (l.take i)).map encR) := hA.upd (by omega) (fun q _ hq _ => by rw [Tr.get_put, if_neg (by omega), Tr.get_put, if_neg (by omega)])
  obtain ⟨tk, H2, hs2, p1, p2, p3, p4⟩ := appR hA1 (by omega) e.r (by omega)
  rw [W_loop]
  simp only [sGA, seval, stU, a7, a14, a15, a16, encE, encR, e1, e3, e4, e5, List.getElem?_map, Int.toNat_natCast, p1]
  apply ih (i + 1) _ H2 hs2 _ (by omega) (by rw [rowsOf_take e4]; exact p2) (by omega) (fun q hq => by rw [p4 q (by omega) (.inl hq), Tr.get_put, if_neg (by omega), Tr.get_put, if_neg (by omega)]; exact hu q hq)
  all_goals first | (simp only [sG, seval, a0, a2, a14, a15]; done) | (simp only [sG, seval, a0, a2, a7, a14, a15, a16, rowsOf_take e4, encR]; done)
theorem tchC {Pp : Option (AV × Tr AO × Nat) -> Prop} {K : List Fr} {l : List En} {L : AV} {X0 X26 X27 X28 : AV} {hs0 : Nat} {H0 : Tr AO} {gl : Tr (Option AV)} {out : List Row} (hL : LstE L l) (hl : out.length + l.length < 100000)
  (hK : ∀ (t' : Tr AV) (H' : Tr AO) (hs' : Nat) (A' : AV), AccL hs0 H' hs' 1 A' ((out ++ rowsOf l).map encR) -> hs0 <= hs' -> (∀ q, q < hs0 -> H'.get .dead q = H0.get .dead q) -> t'.get .any 0 = X0 -> t'.get .any 26 = X26 -> t'.get .any 27 = X27 -> t'.get .any 28 = X28 -> t'.get .any 7 = A' ->
   Pp (kont tab none (fin tab fi20) K (.exit 4) ⟨t', 61, H', hs', [], ⟨true, true, gl⟩⟩)) :
  ∀ (k i : Nat) (t : Tr AV) (H : Tr AO) (hs : Nat) (A : AV), i + k = l.length -> AccL hs0 H hs 1 A ((out ++ rowsOf (l.take i)).map encR) -> hs0 <= hs -> (∀ q, q < hs0 -> H.get .dead q = H0.get .dead q) -> t.get .any 0 = X0 -> t.get .any 26 = X26 -> t.get .any 27 = X27 -> t.get .any 28 = X28 -> t.get .any 7 = A -> t.get .any 46 = L -> t.get .any 47 = .lit (.int .i64 l.length) -> t.get .any 48 = .lit (.int .i64 i) ->
  Pp (W tab none (fin tab fi20) (lpc fi20 2) K ⟨t, 61, H, hs, [], ⟨true, true, gl⟩⟩) := by
 simp only [stU, stC, b20, Tryz.f20]
 intro k
 induction k with
 | zero =>
  intro i t H hs A hi hA hh hu a0 a26 a27 a28 a7 a46 a47 a48
  have e1 : decide ((i : Int) < (l).length) = false := dcF (by omega)
  rw [List.take_of_length_le (by omega)] at hA
  rw [W_loop]
  simp only [sGA, seval, a47, a48, e1]
  apply hK _ H hs A hA hh hu
  all_goals simp only [sG, seval, a0, a26, a27, a28, a7]
 | succ k ih =>
  intro i t H hs A hi hA hh hu a0 a26 a27 a28 a7 a46 a47 a48
  have hlt : i < (l).length := by omega
  obtain ⟨e, hv, e1, e3, e4, e6, e7⟩ := atS hlt
  have e5 := wrap_succ (i := i) (by omega)
  obtain ⟨k1, rfl⟩ : ∃ tk, L = .lst tk (l.map encE) := by
   rcases hL with ⟨h, _⟩ | h
   ·rw [h] at hlt; simp at hlt
   ·exact h
  have hrl : (out ++ rowsOf (l.take i)).length <= out.length + i := by unfold rowsOf; rw [List.length_append, List.length_map, List.length_take]; omega
  have hA1 : AccL hs0 ((H.put .dead hs (.cells [.lit (.slice none 0 0), .lit (.int .i64 0)] false)).put .dead hs (.cells [.lst .no (e.r.map encV), .lit (.int .i64 e.m)] false)) (hs + 1) 1 A ((out ++ rowsOf (l.take i)).map encR) := hA.upd (by omega) (fun q _ hq _ => by rw [Tr.get_put, if_neg (by omega), Tr.get_put, if_neg (by omega)])
  obtain ⟨tk, H2, hs2, p1, p2, p3, p4⟩ := appR hA1 (by omega) e.r (by omega)
  have hz : out ++ rowsOf (l.take (i + 1)) = out ++ rowsOf (l.take i) ++ [e.r] := by rw [rowsOf_take e4, List.append_assoc]
  rw [W_loop]
  simp only [sGA, seval, stU, a7, a46, a47, a48, encE, encR, e1, e3, e4, e5, List.getElem?_map, Int.toNat_natCast, p1]
  apply ih (i + 1) _ H2 hs2 _ (by omega) (by rw [hz]; exact p2) (by omega) (fun q hq => by rw [p4 q (by omega) (.inl hq), Tr.get_put, if_neg (by omega), Tr.get_put, if_neg (by omega)]; exact hu q hq)
  all_goals first | (simp only [sG, seval, a0, a26, a27, a28, a46, a47]; done) | (simp only [sG, seval, a0, a26, a27, a28, a7, a46, a47, a48, hz, encR]; done)
def cellsP (cols : List Int) (r : Row) : Row := (pickR r cols).getD []
def mates (cb : List Int) (fL : List UInt8 -> List En) (c : List En) : List Row := c.flatMap fun e => rowsOf (fL (keyB (cellsP cb e.r)))
def tchRows (cb : List Int) (fL : List UInt8 -> List En) (g c : List En) : List Row := rowsOf g ++ mates cb fL c
def OkP (cols : List Int) (e : En) : Prop := ∃ c, pickR e.r cols = some c /\ ∀ v ∈ c, vright v = true
theorem mates_take {cb : List Int} {fL : List UInt8 -> List En} {l : List En} {i : Nat} {e : En} (h : l[i]? = some e) : mates cb fL (l.take (i + 1)) = mates cb fL (l.take i) ++ rowsOf (fL (keyB (cellsP cb e.r))) := by
 unfold mates
 obtain ⟨hl, he⟩ := List.getElem?_eq_some_iff.1 h
 rw [List.take_succ_eq_append_getElem hl, he]; simp
theorem mates_len {cb : List Int} {fL : List UInt8 -> List En} {l : List En} {i : Nat} : (mates cb fL (l.take i)).length <= (mates cb fL l).length := by
 have : mates cb fL l = mates cb fL (l.take i) ++ mates cb fL (l.drop i) := by unfold mates; rw [<- List.flatMap_append, List.take_append_drop]
 rw [this, List.length_append]; omega
theorem tchB {Pp : Option (AV × Tr AO × Nat) -> Prop} {K : List Fr} {l g : List En} {k2 : ATk} {M SL SR TB hs0 : Nat} {a b : Int} {ca cb : List Int} {L R : List En} {fL fR : List UInt8 -> List En} {fpL fpR : List Nat} {H0 : Tr AO} {gl : Tr (Option AV)} (hlen : (tchRows cb fL g l).length < 99999) (hM : H0.get .dead M = .cells [.ptr SL 0, .ptr SR 0, .ptr TB 0] false) (hMlt : M < hs0) (h1 : SideAt H0 hs0 SL a ca L fL fpL) (h2 : SideAt H0 hs0 SR b cb R fR fpR) (hca : cb.length < 10000) (hcb : cb.length = ca.length) (hok : ∀ e ∈ l, OkP cb e) (hll : l.length < 1000000)
  (hK : ∀ (t' : Tr AV) (H' : Tr AO) (hs' : Nat) (A' : AV), AccL hs0 H' hs' 1 A' ((tchRows cb fL g l).map encR) -> hs0 <= hs' -> (∀ q, q < hs0 -> H'.get .dead q = H0.get .dead q) -> t'.get .any 7 = A' ->
   Pp (kont tab none (fin tab fi20) K (.exit 2) ⟨t', 61, H', hs', [], ⟨true, true, gl⟩⟩)) :
  ∀ (k i : Nat) (t : Tr AV) (H : Tr AO) (hs : Nat) (A : AV), i + k = l.length -> AccL hs0 H hs 1 A ((rowsOf g ++ mates cb fL (l.take i)).map encR) -> hs0 <= hs -> (∀ q, q < hs0 -> H.get .dead q = H0.get .dead q) -> t.get .any 0 = .ptr M 0 -> t.get .any 7 = A -> t.get .any 26 = .lst k2 (l.map encE) -> t.get .any 27 = .lit (.int .i64 l.length) -> t.get .any 28 = .lit (.int .i64 i) ->
  Pp (W tab none (fin tab fi20) (lpc fi20 1) K ⟨t, 61, H, hs, [], ⟨true, true, gl⟩⟩) := by
 have D := d20
 simp only [stD, stC, List.cons.injEq, b20, Tryz.f20] at D
 have IN := @tchC
 simp only [stU, stC, b20, Tryz.f20] at IN
 simp only [stU, stC, b20, Tryz.f20]
 have hlen2 := hlen
 simp only [tchRows, List.length_append] at hlen2
 intro k
 induction k with
 | zero =>
  intro i t H hs A hi hA hh hu a0 a7 a26 a27 a28
  have e1 : decide ((i : Int) < (l).length) = false := dcF (by omega)
  rw [List.take_of_length_le (by omega)] at hA
  rw [W_loop]
  simp only [sGA, seval, a27, a28, e1]
  apply hK _ H hs A hA hh hu
  all_goals simp only [sG, seval, a7]
 | succ k ih =>
  intro i t H hs A hi hA hh hu a0 a7 a26 a27 a28
  have hlt : i < (l).length := by omega
  obtain ⟨e, hv, e1, e3, e4, e6, e7⟩ := atS hlt
  have e5 := wrap_succ (i := i) (by omega)
  have hm : e ∈ l := by rw [<- hv]; exact List.getElem_mem _
  obtain ⟨c, hp, hc⟩ := hok e hm
  have hcl := (pickR_mem hp).2
  have hcP : cellsP cb e.r = c := by unfold cellsP; rw [hp]; rfl
  have hu1 : ∀ q, q < hs -> ((H.put .dead hs (.cells [.lit (.slice none 0 0), .lit (.int .i64 0)] false)).put .dead hs (.cells [.lst .no (e.r.map encV), .lit (.int .i64 e.m)] false)).get .dead q = H.get .dead q := fun q hq => by rw [Tr.get_put, if_neg (by omega), Tr.get_put, if_neg (by omega)]
  have hlt1 := h1.lt
  have hlt2 := h2.lt
  have s1 : SideAt ((H.put .dead hs (.cells [.lit (.slice none 0 0), .lit (.int .i64 0)] false)).put .dead hs (.cells [.lst .no (e.r.map encV), .lit (.int .i64 e.m)] false)) (hs + 1) SL a ca L fL fpL := h1.fr (fun q hq => by have := hlt1 q hq; rw [hu1 q (by omega), hu q this]) (by omega)
  have s2 : SideAt ((H.put .dead hs (.cells [.lit (.slice none 0 0), .lit (.int .i64 0)] false)).put .dead hs (.cells [.lst .no (e.r.map encV), .lit (.int .i64 e.m)] false)) (hs + 1) SR b cb R fR fpR := h2.fr (fun q hq => by have := hlt2 q hq; rw [hu1 q (by omega), hu q this]) (by omega)
  have gM : H.get .dead M = .cells [.ptr SL 0, .ptr SR 0, .ptr TB 0] false := by rw [hu M hMlt]; exact hM
  have c1 := fun m hs' => @cKey m SR b cb R fR fpR e.r c .no _ hs' _ s2 (by omega) hp
  obtain ⟨A1, B1, t1, I1, fpI1, x1, x2, x3, x4, x5, x6, x7, x8⟩ := s1
  have gSL : H.get .dead SL = .cells [.lit (.int .i64 a), A1, .ptr B1 0, .ptr I1 0] false := by
   have := hlt1 SL (by
    obtain ⟨_, _, _, _, _, y1, y2, y3, y4, y5, y6, y7, y8⟩ := h1
    rw [y6]; simp)
   rw [<- hu1 SL (by omega)]; exact x1
  obtain ⟨F, H1, hs1, w1, e8, l1, u1⟩ := cFindI (m := ⟨true, true, gl⟩) (k1 := .no) x5 hc (by omega) (by omega)
  have hlenF := e8.len
  have n1 : (M = hs) = False := eq_false (by omega)
  have n2 : (SL = hs) = False := eq_false (by
   have := hlt1 SL (by
    obtain ⟨_, _, _, _, _, y1, y2, y3, y4, y5, y6, y7, y8⟩ := h1
    rw [y6]; simp)
   omega)
  have hz : rowsOf g ++ mates cb fL (l.take (i + 1)) = rowsOf g ++ mates cb fL (l.take i) ++ rowsOf (fL (keyB c)) := by rw [mates_take e4, hcP, List.append_assoc]
  have hb1 := @mates_len cb fL l (i + 1)
  have hb2 : (rowsOf g ++ mates cb fL (l.take i) ++ rowsOf (fL (keyB c))).length < 99999 := by rw [<- hz, List.length_append]; omega
  have hb3 : (rowsOf g ++ mates cb fL (l.take i)).length + (fL (keyB c)).length < 100000 := by rw [List.length_append] at hb2; simp only [rowsOf, List.length_map] at hb2 ⊢; omega
  have hA1 : AccL hs0 H1 hs1 1 A ((rowsOf g ++ mates cb fL (l.take i)).map encR) := hA.upd (by omega) (fun q _ hq _ => by rw [u1 q (by omega) (by simp), hu1 q hq])
  rw [W_loop]
  simp (maxSteps := 2000000) only [sGA, seval, a0, a26, a27, a28, encE, encR, e1, e3, e4, List.getElem?_map, Int.toNat_natCast, D, gM, gSL, n1, n2, c1, w1, hlenF]
  refine IN (Pp := Pp) (L := F) (l := fL (keyB c)) (X0 := .ptr M 0) (X26 := .lst k2 (l.map encE)) (X27 := .lit (.int .i64 l.length)) (X28 := .lit (.int .i64 i)) (hs0 := hs0) (H0 := H0) (out := rowsOf g ++ mates cb fL (l.take i)) e8 hb3 ?_ (fL (keyB c)).length 0 _ H1 hs1 A (by omega) (by simpa [rowsOf] using hA1) (by omega) (fun q hq => by rw [u1 q (by omega) (by simp), hu1 q (by omega)]; exact hu q hq) ?_ ?_ ?_ ?_ ?_ ?_ ?_ ?_
  ·intro t' H' hs' A' g1 g2 g3 b0 b26 b27 b28 b7
   simp only [sGA, seval, b28, e5]
   apply ih (i + 1) _ H' hs' A' (by omega) (by rw [hz]; exact g1) g2 g3
   all_goals simp only [sG, seval, b0, b26, b27, b7]
  all_goals first | (simp only [sG, seval, a0, a7, a26, a27, a28]; done) | (simp only [sG, seval, a0, a7, a26, a27, a28, encE, encR]; done) | (simp only [sG, seval, a0, a7, a26, a27, a28]; rfl)
theorem AccL.lstR {lo : Nat} {H : Tr AO} {hs : Nat} {A : AV} {rs : List Row} (h : AccL lo H hs 1 A (rs.map encR)) : LstR A rs := by
 rcases h with ⟨h, rfl | rfl⟩ | ⟨r, rfl, _⟩
 ·exact .inl ⟨List.map_eq_nil_iff.1 h, rfl⟩
 ·exact .inr ⟨.full, by rw [h]⟩
 ·exact .inr ⟨_, rfl⟩
theorem cTouched {m : Md} {l g : List En} {k1 k2 : ATk} {M SL SR TB hs : Nat} {a b : Int} {ca cb : List Int} {L R : List En} {fL fR : List UInt8 -> List En} {fpL fpR : List Nat} {H : Tr AO} (hlen : (tchRows cb fL g l).length < 99999) (hrl : rlens (tchRows cb fL g l)) (hM : H.get .dead M = .cells [.ptr SL 0, .ptr SR 0, .ptr TB 0] false) (hMlt : M < hs) (h1 : SideAt H hs SL a ca L fL fpL) (h2 : SideAt H hs SR b cb R fR fpR) (hca : cb.length < 10000) (hcb : cb.length = ca.length) (hok : ∀ e ∈ l, OkP cb e) (hll : l.length < 1000000) :
  ∃ C H' hs', SrtR C /\ C.Perm (tchRows cb fL g l) /\ callF tab (evw tab) m 20 [.ptr M 0, .lst k1 (g.map encE), .lst k2 (l.map encE)] H hs = some (.lst .no ((cpt C).map encR), H', hs') /\ hs <= hs' /\ Upb H H' [] hs := by
 have A1 := @tchA
 simp only [stU, stC, b20, Tryz.f20] at A1
 have B1 := @tchB
 simp only [stU, stC, b20, Tryz.f20] at B1
 have hlen2 := hlen
 simp only [tchRows, List.length_append, rowsOf, List.length_map] at hlen2
 rw [callF_in (fi := fi20) tcon rfl rfl rfl]
 simp (maxSteps := 2000000) only [sGA, seval, x20, stU, b20, Tryz.f20, List.length_map]
 refine A1 (Pp := fun X => ∃ C H' hs', SrtR C /\ C.Perm (tchRows cb fL g l) /\ X = some (.lst .no ((cpt C).map encR), H', hs') /\ hs <= hs' /\ Upb H H' [] hs) (X1 := .ptr M 0) (X2 := .lst k2 (l.map encE)) (k1 := k1) (l := g) (hs0 := hs) (H0 := H) (by omega) ?_ g.length 0 _ H hs (.lit (.slice none 0 0)) (by omega) AccL.nil (Nat.le_refl _) (fun _ _ => rfl) ?_ ?_ ?_ ?_ ?_ ?_
 ·intro t' H' hs' A' g1 g2 g3 b0 b2 b7
  simp only [sGA, seval, b2, List.length_map]
  refine B1 (Pp := fun X => ∃ C H' hs', SrtR C /\ C.Perm (tchRows cb fL g l) /\ X = some (.lst .no ((cpt C).map encR), H', hs') /\ hs <= hs' /\ Upb H H' [] hs) (k2 := k2) hlen hM hMlt h1 h2 hca hcb hok hll ?_ l.length 0 _ H' hs' A' (by omega) (by simpa [mates] using g1) g2 g3 ?_ ?_ ?_ ?_ ?_
  ·intro t2 H2 hs2 A2 f1 f2 f3 c7
   obtain ⟨C, s1, s2, s3⟩ := cSortA (m := ⟨true, true, m.gl⟩) (H := H2) (hs := hs2) f1.lstR hlen hrl
   refine ⟨C, H2, hs2, s1, s2, ?_, f2, fun q hq _ => f3 q hq⟩
   simp only [sGA, seval, x20, c7, s3]
  all_goals first | (simp only [sG, seval, b0, b7]; done) | (simp only [sG, seval, b0, b2, b7]; rfl)
 all_goals simp only [sG, seval] <;> rfl
def nowV (ca : List Int) (fR : List UInt8 -> List En) (L : List En) (r : Row) : Int := aloneV fR L (cellsP ca r) r
def chB (w nw : Row -> Int) : List Row -> List En -> List En
 | [], l => l
 | r :: rs, l => chB w nw rs (badd l r (IntKind.i64.wrap (nw r - w r))).1
def stN (a b n : Int) : Int := bif decide (a = 0) && decide (0 < b) then n + 1 else bif decide (0 < a) && decide (b = 0) then n - 1 else n
def chN (w nw : Row -> Int) : List Row -> Int -> Int
 | [], n => n
 | r :: rs, n => chN w nw rs (stN (w r) (nw r) n)
def OkC (ca : List Int) (r : Row) : Prop := r.length < 1000000 /\ ∃ c, pickR r ca = some c /\ ∀ v ∈ c, vright v = true
theorem loopCh {rs0 : List Row} {k1 : ATk} {M SL SR TB hs0 B : Nat} {a b : Int} {ca cb : List Int} {L R Tl : List En} {fL fR : List UInt8 -> List En} {fpL fpR : List Nat} {tT : T} {H0 : Tr AO} {gl : Tr (Option AV)} (hM : H0.get .dead M = .cells [.ptr SL 0, .ptr SR 0, .ptr TB 0] false) (hMlt : M < hs0) (h1 : SideAt H0 hs0 SL a ca L fL fpL) (h2 : SideAt H0 hs0 SR b cb R fR fpR) (h3 : BagAt H0 hs0 TB tT) (hca : ca.length < 10000) (hcb : cb.length = ca.length) (hok : ∀ r ∈ rs0, OkC ca r) (hrl : rs0.length < 1000000) (hB : hs0 <= B) :
  ∀ (k i : Nat) (t : Tr AV) (H : Tr AO) (hs : Nat) (n : Int) (T1 : T), i + k = rs0.length -> hs0 <= hs -> (∀ q, q < hs0 -> H.get .dead q = H0.get .dead q) -> BagAt H hs B T1 -> (∀ q ∈ T1.ads, hs0 <= q) -> T1.sz + k < 90000000 -> -1000000000 <= n - k -> n + k <= 1000000000 -> chN (bmany tT.es) (nowV ca fR L) (rs0.drop i) n <= 1500 -> t.get .any 0 = .ptr M 0 -> t.get .any 6 = .ptr B 0 -> t.get .any 7 = .lit (.int .i64 n) -> t.get .any 18 = .lst k1 (rs0.map encR) -> t.get .any 19 = .lit (.int .i64 rs0.length) -> t.get .any 20 = .lit (.int .i64 i) ->
  ∃ H' hs' T2, W tab none (fin tab fi19) (lpc fi19 0) (lpk fi19 0) ⟨t, 59, H, hs, [], ⟨true, true, gl⟩⟩ = some (.tup [.ptr B 0, .lit (.int .i64 0)], H', hs') /\ hs0 <= hs' /\ (∀ q, q < hs0 -> H'.get .dead q = H0.get .dead q) /\ BagAt H' hs' B T2 /\ (∀ q ∈ T2.ads, hs0 <= q) /\ T2.es = chB (bmany tT.es) (nowV ca fR L) (rs0.drop i) T1.es := by
 simp only [stU, stC, b19, Tryz.f19]
 intro k
 induction k with
 | zero =>
  intro i t H hs n T1 hi hh hu hb hads hsz hn1 hn2 hN a0 a6 a7 a18 a19 a20
  have e1 : decide ((i : Int) < (rs0).length) = false := dcF (by omega)
  rw [List.drop_of_length_le (by omega)] at hN ⊢
  have e2 : decide ((1500 : Int) < n) = false := by rw [decide_eq_false_iff_not]; simp only [chN] at hN; omega
  rw [W_loop]
  refine ⟨H, hs, T1, ?_, hh, hu, hb, hads, rfl⟩
  simp only [sG, seval, x19, a6, a7, a19, a20, e1, e2]
 | succ k ih =>
  intro i t H hs n T1 hi hh hu hb hads hsz hn1 hn2 hN a0 a6 a7 a18 a19 a20
  have hlt : i < (rs0).length := by omega
  obtain ⟨r, hv, e1, e3, e4, e6, e7⟩ := atS hlt
  have e5 := wrap_succ (i := i) (by omega)
  have hm : r ∈ rs0 := by rw [<- hv]; exact List.getElem_mem _
  obtain ⟨hrlen, c, hp, hc⟩ := hok r hm
  have hcP : cellsP ca r = c := by unfold cellsP; rw [hp]; rfl
  have hlt1 := h1.lt
  have hlt2 := h2.lt
  have s1 : SideAt H hs SL a ca L fL fpL := h1.fr (fun q hq => hu q (hlt1 q hq)) hh
  have s2 : SideAt H hs SR b cb R fR fpR := h2.fr (fun q hq => hu q (hlt2 q hq)) hh
  have hbt : BagAt H hs TB tT := h3.fr (fun q hq => hu q (by
   rcases List.mem_cons.1 hq with rfl | hq
   ·exact h3.b
   ·exact h3.lt q hq)) hh
  have gM : H.get .dead M = .cells [.ptr SL 0, .ptr SR 0, .ptr TB 0] false := by rw [hu M hMlt]; exact hM
  have c1 := @cMany ⟨true, true, gl⟩ r TB tT H hs hs (by omega) hbt
  obtain ⟨H1, hs1, w2, l1, u1⟩ := cAlone (m := ⟨true, true, gl⟩) gM (by omega) s1 s2 hca hcb hrlen hp hc
  have hb1 : BagAt H1 hs1 B T1 := hb.upb u1 l1
  obtain ⟨H2, hs2, T2, w3, d1, d2, d3, d4, d5⟩ := cAdd (m := ⟨true, true, gl⟩) (r := r) (n := IntKind.i64.wrap (aloneV fR L c r - bmany tT.es r)) hrlen hb1 (by omega)
  have hd5 : T2.sz <= T1.sz + 1 := by rw [<- T.es_len, <- T.es_len, d1]; exact badd_len
  have had2 : ∀ q ∈ T2.ads, hs0 <= q := fun q hq => by
   rcases d5 q hq with h | h
   ·exact hads q h
   ·omega
  have hu2 : ∀ q, q < hs0 -> H2.get .dead q = H0.get .dead q := fun q hq => by
   rw [d4 q (by omega) (fun h => by
    rcases List.mem_cons.1 h with h | h
    ·omega
    ·have := hads q h; omega), u1 q (by omega) (by simp)]
   exact hu q hq
  rw [e6] at hN ⊢
  simp only [chN, chB, nowV, hcP] at hN ⊢
  rw [<- d1]
  generalize bmany tT.es r = w at *
  generalize aloneV fR L c r = v at *
  have w5 : IntKind.i64.wrap (n + 1) = n + 1 := wrap_i64 (by omega) (by omega)
  have w6 : IntKind.i64.wrap (n - 1) = n - 1 := wrap_i64 (by omega) (by omega)
  rw [W_loop]
  cases q1 : decide (w = 0) with
  | true =>
   have q0 : decide (0 < w) = false := by have := of_decide_eq_true q1; rw [decide_eq_false_iff_not]; omega
   cases q2 : decide (0 < v) with
   | true =>
    simp (maxSteps := 2000000) only [sG, seval, a0, a6, a7, a18, a19, a20, encR, e1, e3, e4, e5, List.getElem?_map, Int.toNat_natCast, gM, c1, w2, w3, w5, q1, q2]
    apply ih (i + 1) _ H2 hs2 (n + 1) T2 (by omega) (by omega) hu2 d2 had2 (by omega) (by omega) (by omega) (by simpa only [stN, q1, q2, Bool.and_true, Bool.and_false, Bool.and_self, Bool.false_and, Bool.true_and, cond_true, cond_false] using hN)
    all_goals simp only [sG, seval, a0, a6, a18, a19]
   | false =>
    simp (maxSteps := 2000000) only [sG, seval, a0, a6, a18, a19, a20, encR, e1, e3, e4, e5, List.getElem?_map, Int.toNat_natCast, gM, c1, w2, w3, q1, q2, q0]
    apply ih (i + 1) _ H2 hs2 (n) T2 (by omega) (by omega) hu2 d2 had2 (by omega) (by omega) (by omega) (by simpa only [stN, q1, q2, q0, Bool.and_true, Bool.and_false, Bool.and_self, Bool.false_and, Bool.true_and, cond_true, cond_false] using hN)
    all_goals simp only [sG, seval, a0, a6, a7, a18, a19]
  | false =>
   cases q2 : decide (0 < w) with
   | true =>
    cases q3 : decide (v = 0) with
    | true =>
     simp (maxSteps := 2000000) only [sG, seval, a0, a6, a7, a18, a19, a20, encR, e1, e3, e4, e5, List.getElem?_map, Int.toNat_natCast, gM, c1, w2, w3, w6, q1, q2, q3]
     apply ih (i + 1) _ H2 hs2 (n - 1) T2 (by omega) (by omega) hu2 d2 had2 (by omega) (by omega) (by omega) (by simpa only [stN, q1, q2, q3, Bool.and_true, Bool.and_false, Bool.and_self, Bool.false_and, Bool.true_and, cond_true, cond_false] using hN)
     all_goals simp only [sG, seval, a0, a6, a18, a19]
    | false =>
     simp (maxSteps := 2000000) only [sG, seval, a0, a6, a18, a19, a20, encR, e1, e3, e4, e5, List.getElem?_map, Int.toNat_natCast, gM, c1, w2, w3, q1, q2, q3]
     apply ih (i + 1) _ H2 hs2 (n) T2 (by omega) (by omega) hu2 d2 had2 (by omega) (by omega) (by omega) (by simpa only [stN, q1, q2, q3, Bool.and_true, Bool.and_false, Bool.and_self, Bool.false_and, Bool.true_and, cond_true, cond_false] using hN)
     all_goals simp only [sG, seval, a0, a6, a7, a18, a19]
   | false =>
    simp (maxSteps := 2000000) only [sG, seval, a0, a6, a18, a19, a20, encR, e1, e3, e4, e5, List.getElem?_map, Int.toNat_natCast, gM, c1, w2, w3, q1, q2]
    apply ih (i + 1) _ H2 hs2 (n) T2 (by omega) (by omega) hu2 d2 had2 (by omega) (by omega) (by omega) (by simpa only [stN, q1, q2, Bool.and_true, Bool.and_false, Bool.and_self, Bool.false_and, Bool.true_and, cond_true, cond_false] using hN)
    all_goals simp only [sG, seval, a0, a6, a7, a18, a19]
theorem cChanges {m : Md} {rs0 : List Row} {k1 : ATk} {M SL SR TB hs : Nat} {a b : Int} {ca cb : List Int} {L R : List En} {fL fR : List UInt8 -> List En} {fpL fpR : List Nat} {tT : T} {H : Tr AO} (hM : H.get .dead M = .cells [.ptr SL 0, .ptr SR 0, .ptr TB 0] false) (hMlt : M < hs) (h1 : SideAt H hs SL a ca L fL fpL) (h2 : SideAt H hs SR b cb R fR fpR) (h3 : BagAt H hs TB tT) (hca : ca.length < 10000) (hcb : cb.length = ca.length) (hok : ∀ r ∈ rs0, OkC ca r) (hrl : rs0.length < 1000000) (hN : chN (bmany tT.es) (nowV ca fR L) rs0 tT.sz <= 1500) :
  ∃ H' hs' T2, callF tab (evw tab) m 19 [.ptr M 0, .lst k1 (rs0.map encR)] H hs = some (.tup [.ptr hs 0, .lit (.int .i64 0)], H', hs') /\ hs + 1 <= hs' /\ (∀ q, q < hs -> H'.get .dead q = H.get .dead q) /\ BagAt H' hs' hs T2 /\ (∀ q ∈ T2.ads, hs <= q) /\ T2.es = chB (bmany tT.es) (nowV ca fR L) rs0 [] := by
 have LL := fun H0 hM hMlt h1 h2 h3 t H hs1 n T1 => @loopCh rs0 k1 M SL SR TB hs hs a b ca cb L R tT.es fL fR fpL fpR tT H0 m.gl hM hMlt h1 h2 h3 hca hcb hok hrl (Nat.le_refl _) rs0.length 0 t H hs1 n T1
 simp only [stU, stC, b19, Tryz.f19] at LL
 have hu : ∀ q, q < hs -> (H.put .dead hs (.cells [.lit (.pointer none), .lit (.int .i64 0)] false)).get .dead q = H.get .dead q := fun q hq => by rw [Tr.get_put, if_neg (by omega)]
 have gM : (H.put .dead hs (.cells [.lit (.pointer none), .lit (.int .i64 0)] false)).get .dead M = .cells [.ptr SL 0, .ptr SR 0, .ptr TB 0] false := by rw [hu M hMlt]; exact hM
 have hbt : BagAt (H.put .dead hs (.cells [.lit (.pointer none), .lit (.int .i64 0)] false)) (hs + 1) TB tT := h3.fr (fun q hq => hu q (by
   rcases List.mem_cons.1 hq with rfl | hq
   ·exact h3.b
   ·exact h3.lt q hq)) (by omega)
 have c1 := @cNew ⟨true, true, m.gl⟩ H hs
 have c2 := @cLen ⟨true, true, m.gl⟩ TB tT _ (hs + 1) _ hbt
 have n1 : (M = hs) = False := eq_false (by omega)
 have hsz := h3.sz
 have key : ∀ X : Option (AV × Tr AO × Nat), (∃ H' hs' T2, X = some (.tup [.ptr hs 0, .lit (.int .i64 0)], H', hs') /\ hs <= hs' /\ (∀ q, q < hs -> H'.get .dead q = H.get .dead q) /\ BagAt H' hs' hs T2 /\ (∀ q ∈ T2.ads, hs <= q) /\ T2.es = chB (bmany tT.es) (nowV ca fR L) rs0 T.nil.es) ->
   (∃ H' hs' T2, X = some (.tup [.ptr hs 0, .lit (.int .i64 0)], H', hs') /\ hs + 1 <= hs' /\ (∀ q, q < hs -> H'.get .dead q = H.get .dead q) /\ BagAt H' hs' hs T2 /\ (∀ q ∈ T2.ads, hs <= q) /\ T2.es = chB (bmany tT.es) (nowV ca fR L) rs0 []) := by
  rintro X ⟨H', hs', T2, x1, x2, x3, x4, x5, x6⟩
  exact ⟨H', hs', T2, x1, by have := x4.b; omega, x3, x4, x5, x6⟩
 apply key
 rw [callF_in (fi := fi19) tcon rfl rfl rfl]
 simp (maxSteps := 2000000) only [sG, seval, x19, stU, b19, Tryz.f19, c1, c2, hM, n1, List.length_map]
 apply LL H hM hMlt h1 h2 h3 _ _ (hs + 1) tT.sz .nil (by simp) (by omega) hu bagNew (fun q h => by cases h) (by show 0 + rs0.length < 90000000; omega) (by omega) (by omega) hN
 all_goals simp only [sG, seval] <;> rfl
structure MsF (H : Tr AO) (hs M : Nat) (a b : Int) (ca cb : List Int) (L R : List En) (fL fR : List UInt8 -> List En) (Tl : List En) (FP : List Nat) : Prop where
 ex : ∃ (SL SR TB : Nat) (fpL fpR : List Nat) (tT : T), H.get .dead M = .cells [.ptr SL 0, .ptr SR 0, .ptr TB 0] false /\ SideAt H hs SL a ca L fL fpL /\ SideAt H hs SR b cb R fR fpR /\ BagAt H hs TB tT /\ tT.es = Tl /\ FP = M :: (fpL ++ (fpR ++ (TB :: tT.ads))) /\ FP.Nodup /\ M < hs
theorem MsAt.f {H : Tr AO} {hs M : Nat} {a b : Int} {ca cb : List Int} {L R : List En} {fL fR : List UInt8 -> List En} {Tl : List En} (h : MsAt H hs M a b ca cb L R fL fR Tl) : ∃ FP, MsF H hs M a b ca cb L R fL fR Tl FP := by
 obtain ⟨SL, SR, TB, fpL, fpR, tT, h1, h2, h3, h4, h5, h6, h7⟩ := h
 exact ⟨_, SL, SR, TB, fpL, fpR, tT, h1, h2, h3, h4, h5, rfl, h6, h7⟩
theorem BagAt.ltf {H : Tr AO} {hs B : Nat} {t : T} (h : BagAt H hs B t) : ∀ q ∈ B :: t.ads, q < hs := fun q hq => by
 rcases List.mem_cons.1 hq with rfl | hq
 ·exact h.b
 ·exact h.lt q hq
theorem MsF.lt {H : Tr AO} {hs M : Nat} {a b : Int} {ca cb : List Int} {L R : List En} {fL fR : List UInt8 -> List En} {Tl : List En} {FP : List Nat} (h : MsF H hs M a b ca cb L R fL fR Tl FP) : ∀ q ∈ FP, q < hs := by
 obtain ⟨SL, SR, TB, fpL, fpR, tT, h1, h2, h3, h4, h5, rfl, h6, h7⟩ := h
 intro q hq
 rcases List.mem_cons.1 hq with rfl | hq
 ·exact h7
 ·rcases List.mem_append.1 hq with hq | hq
  ·exact h2.lt q hq
  ·rcases List.mem_append.1 hq with hq | hq
   ·exact h3.lt q hq
   ·exact h4.ltf q hq
theorem MsF.fr {H H' : Tr AO} {hs hs' M : Nat} {a b : Int} {ca cb : List Int} {L R : List En} {fL fR : List UInt8 -> List En} {Tl : List En} {FP : List Nat} (h : MsF H hs M a b ca cb L R fL fR Tl FP) (u : ∀ q ∈ FP, H'.get .dead q = H.get .dead q) (hh : hs <= hs') : MsF H' hs' M a b ca cb L R fL fR Tl FP := by
 obtain ⟨SL, SR, TB, fpL, fpR, tT, h1, h2, h3, h4, h5, rfl, h6, h7⟩ := h
 exact ⟨SL, SR, TB, fpL, fpR, tT, by rw [u M (by simp)]; exact h1, h2.fr (fun q hq => u q (by simp [hq])) hh, h3.fr (fun q hq => u q (by simp [hq])) hh, h4.fr (fun q hq => u q (by rcases List.mem_cons.1 hq with h | h <;> simp [h])) hh, h5, rfl, h6, by omega⟩
def actE (a b : Int) (L R l1 l2 : List En) : Int :=
 bif !decide ((bnet l1).2 = 0) then (bnet l1).2 else bif !decide ((bnet l2).2 = 0) then (bnet l2).2 else
 bif narrowB a (bnet l1).1 || narrowB b (bnet l2).1 then 2 else bif beyondB L (bnet l1).1 || beyondB R (bnet l2).1 then 10 else 0
theorem mpn {p q : Operand} {o k : Nat} : binO tab .eql 26 p q (some (.ptr o k)) (some (.lit (.pointer none))) = some (.lit (.bool false)) := rfl
theorem cApplyE {m : Md} {H : Tr AO} {hs M : Nat} {a b : Int} {ca cb : List Int} {L R : List En} {fL fR : List UInt8 -> List En} {Tl : List En} {FP : List Nat} {l1 l2 : List En} {k1 k2 : ATk} (h : MsF H hs M a b ca cb L R fL fR Tl FP) (n1 : l1.length < 10000) (n2 : l2.length < 10000) (r1 : ∀ e ∈ l1, e.r.length < 1000000) (r2 : ∀ e ∈ l2, e.r.length < 1000000) (x1 : (bnet l1).1.length < 10000) (x2 : (bnet l2).1.length < 10000) (y1 : ∀ e ∈ (bnet l1).1, e.r.length < 1000000) (y2 : ∀ e ∈ (bnet l2).1, e.r.length < 1000000) (he : actE a b L R l1 l2 ≠ 0) :
  ∃ H' hs', callF tab (evw tab) m 8 [.ptr M 0, .lst k1 (l1.map encE), .lst k2 (l2.map encE)] H hs = some (.tup [.lit (.slice none 0 0), .lit (.int .i64 (actE a b L R l1 l2))], H', hs') /\ hs <= hs' /\ Upb H H' [] hs := by
 have c1 := fun m H hs => @cNet m l1 k1 H hs (by omega) r1
 have c2 := fun m H hs => @cNet m l2 k2 H hs (by omega) r2
 have E := e8
 simp only [stX, stC, List.cons.injEq, b8, Tryz.f8] at E
 have hlt := h.lt
 obtain ⟨SL, SR, TB, fpL, fpR, tT, h1, h2, h3, h4, h5, h6, h7, h8⟩ := h
 rw [callF_in (fi := fi8) tcon rfl rfl rfl]
 unfold actE at he ⊢
 cases q1 : decide ((bnet l1).2 = 0) with
 | false =>
  refine ⟨H, hs, ?_, Nat.le_refl _, fun _ _ _ => rfl⟩
  simp (maxSteps := 2000000) only [sG, seval, x8, stU, b8, Tryz.f8, mpn, c1, q1]
 | true =>
  cases q2 : decide ((bnet l2).2 = 0) with
  | false =>
   refine ⟨H, hs, ?_, Nat.le_refl _, fun _ _ _ => rfl⟩
   simp (maxSteps := 2000000) only [sG, seval, x8, stU, b8, Tryz.f8, mpn, c1, c2, q1, q2]
  | true =>
   rw [q1, q2] at he
   simp only [Bool.not_true, cond_false] at he ⊢
   have z1 := of_decide_eq_true q1
   have z2 := of_decide_eq_true q2
   generalize (bnet l1).1 = X at *
   generalize (bnet l2).1 = Y at *
   rw [z1] at c1
   rw [z2] at c2
   obtain ⟨H1, hs1, w1, e1, u1⟩ := cNarrow (m := ⟨true, false, m.gl⟩) (l := X) (k1 := .no) h2 (by omega)
   have g1 : H1.get .dead M = .cells [.ptr SL 0, .ptr SR 0, .ptr TB 0] false := by rw [u1 M h8 (by simp)]; exact h1
   cases q3 : narrowB a X with
   | true =>
    rw [q3] at w1
    refine ⟨H1, hs1, ?_, e1, u1⟩
    simp (maxSteps := 2000000) only [sG, seval, x8, stU, b8, Tryz.f8, mpn, c1, c2, h1, w1]
   | false =>
    rw [q3] at w1 he
    have s2 := h2.fr (fun q hq => u1 q (h2.lt q hq) (by simp)) e1
    have s3 := h3.fr (fun q hq => u1 q (h3.lt q hq) (by simp)) e1
    obtain ⟨H2, hs2, w2, e2, u2⟩ := cNarrow (m := ⟨true, false, m.gl⟩) (l := Y) (k1 := .no) s3 (by omega)
    have g2 : H2.get .dead M = .cells [.ptr SL 0, .ptr SR 0, .ptr TB 0] false := by rw [u2 M (by omega) (by simp)]; exact g1
    have u12 : Upb H H2 [] hs := fun q hq hn => by rw [u2 q (by omega) hn, u1 q hq hn]
    cases q4 : narrowB b Y with
    | true =>
     rw [q4] at w2
     refine ⟨H2, hs2, ?_, by omega, u12⟩
     simp (maxSteps := 2000000) only [sG, seval, x8, stU, b8, Tryz.f8, mpn, c1, c2, h1, g1, w1, w2]
    | false =>
     rw [q4] at w2 he
     simp only [Bool.or_self, cond_false] at he
     have t2 := s2.fr (fun q hq => u2 q (s2.lt q hq) (by simp)) e2
     obtain ⟨H3, hs3, w3, e3, u3⟩ := cBeyond (m := ⟨true, false, m.gl⟩) (l := X) (k1 := .no) t2 (by omega) y1
     have g3 : H3.get .dead M = .cells [.ptr SL 0, .ptr SR 0, .ptr TB 0] false := by rw [u3 M (by omega) (by simp)]; exact g2
     have u13 : Upb H H3 [] hs := fun q hq hn => by rw [u3 q (by omega) hn, u12 q hq hn]
     cases q5 : beyondB L X with
     | true =>
      rw [q5] at w3
      refine ⟨H3, hs3, ?_, by omega, u13⟩
      simp (maxSteps := 2000000) only [sG, seval, x8, stU, b8, Tryz.f8, mpn, c1, c2, h1, g1, g2, w1, w2, w3]
     | false =>
      rw [q5] at w3 he
      have t3 := (s3.fr (fun q hq => u2 q (s3.lt q hq) (by simp)) e2)
      have t4 := (t3.fr (fun q hq => u3 q (t3.lt q hq) (by simp)) e3)
      obtain ⟨H4, hs4, w4, e4, u4⟩ := cBeyond (m := ⟨true, false, m.gl⟩) (l := Y) (k1 := .no) t4 (by omega) y2
      have u14 : Upb H H4 [] hs := fun q hq hn => by rw [u4 q (by omega) hn, u13 q hq hn]
      cases q6 : beyondB R Y with
      | true =>
       rw [q6] at w4
       refine ⟨H4, hs4, ?_, by omega, u14⟩
       simp (maxSteps := 2000000) only [sG, seval, x8, stU, b8, Tryz.f8, mpn, c1, c2, h1, g1, g2, g3, w1, w2, w3, w4]
      | false => rw [q6] at he; exact absurd rfl he
theorem cptA_mem {x : Row} : ∀ {l : List Row} {p : Row}, x ∈ cptA p l -> x ∈ l
 | [], _, h => by cases h
 | y :: l, p, h => by
  unfold cptA at h
  cases hc : decide (rcmp y p = 0) with
  | true => rw [hc, cond_true] at h; exact List.mem_cons_of_mem _ (cptA_mem h)
  | false =>
   rw [hc, cond_false] at h
   rcases List.mem_cons.1 h with rfl | h
   ·exact List.mem_cons_self
   ·exact List.mem_cons_of_mem _ (cptA_mem h)
theorem cpt_mem {x : Row} {l : List Row} (h : x ∈ cpt l) : x ∈ l := by
 cases l with
 | nil => cases h
 | cons y l =>
  rcases List.mem_cons.1 h with rfl | h
  ·exact List.mem_cons_self
  ·exact List.mem_cons_of_mem _ (cptA_mem h)
theorem cptA_len : ∀ {l : List Row} {p : Row}, (cptA p l).length <= l.length
 | [], _ => Nat.le_refl _
 | y :: l, p => by
  unfold cptA
  cases hc : decide (rcmp y p = 0) with
  | true => rw [cond_true]; have := cptA_len (l := l) (p := y); have := cptA_len (l := l) (p := y); exact Nat.le_succ_of_le cptA_len
  | false => rw [cond_false]; exact Nat.succ_le_succ cptA_len
theorem cpt_len {l : List Row} : (cpt l).length <= l.length := by
 cases l with
 | nil => exact Nat.le_refl _
 | cons y l => exact Nat.succ_le_succ cptA_len
theorem chB_len {w nw : Row -> Int} : ∀ {rs : List Row} {l : List En}, (chB w nw rs l).length <= l.length + rs.length
 | [], l => Nat.le_refl _
 | r :: rs, l => by
  have h1 := chB_len (w := w) (nw := nw) (rs := rs) (l := (badd l r (IntKind.i64.wrap (nw r - w r))).1)
  have h2 := @badd_len l r (IntKind.i64.wrap (nw r - w r))
  simp only [chB, List.length_cons]; omega
theorem nodup4 {M h4 h5 h6 : Nat} {a b c a' b' c' : List Nat} (h : (M :: (a ++ (b ++ c))).Nodup) (ha : a'.Nodup) (hb : b'.Nodup) (hc : c'.Nodup) (a1 : ∀ q ∈ a', q ∈ a ∨ h4 <= q) (a2 : ∀ q ∈ a', q < h5) (b1 : ∀ q ∈ b', q ∈ b ∨ h5 <= q) (b2 : ∀ q ∈ b', q < h6) (c1 : ∀ q ∈ c', q ∈ c ∨ h6 <= q) (hl : ∀ q ∈ M :: (a ++ (b ++ c)), q < h4) (h45 : h4 <= h5) (h56 : h5 <= h6) : (M :: (a' ++ (b' ++ c'))).Nodup := by
 obtain ⟨m1, h1⟩ := List.nodup_cons.1 h
 obtain ⟨_, h2, d1⟩ := List.nodup_append.1 h1
 obtain ⟨_, _, d2⟩ := List.nodup_append.1 h2
 have hM := hl M (by simp)
 have la : ∀ q ∈ a, q < h4 := fun q hq => hl q (by simp [hq])
 have lb : ∀ q ∈ b, q < h4 := fun q hq => hl q (by simp [hq])
 have lc : ∀ q ∈ c, q < h4 := fun q hq => hl q (by simp [hq])
 refine List.nodup_cons.2 ⟨?_, List.nodup_append.2 ⟨ha, List.nodup_append.2 ⟨hb, hc, ?_⟩, ?_⟩⟩
 ·intro hm
  rcases List.mem_append.1 hm with hm | hm
  ·rcases a1 M hm with h | h
   ·exact m1 (by simp [h])
   ·omega
  ·rcases List.mem_append.1 hm with hm | hm
   ·rcases b1 M hm with h | h
    ·exact m1 (by simp [h])
    ·omega
   ·rcases c1 M hm with h | h
    ·exact m1 (by simp [h])
    ·omega
 ·intro x hx y hy e
  subst e
  have := b2 x hx
  rcases c1 x hy with h | h
  ·rcases b1 x hx with g | g
   ·exact d2 x g x h rfl
   ·have := lc x h; omega
  ·omega
 ·intro x hx y hy e
  subst e
  have := a2 x hx
  rcases List.mem_append.1 hy with hy | hy
  ·rcases b1 x hy with h | h
   ·rcases a1 x hx with g | g
    ·exact d1 x g x (by simp [h]) rfl
    ·have := lb x h; omega
   ·omega
  ·rcases c1 x hy with h | h
   ·rcases a1 x hx with g | g
    ·exact d1 x g x (by simp [h]) rfl
    ·have := lc x h; omega
   ·omega
theorem SideAt.nd {H : Tr AO} {hs S : Nat} {w : Int} {cols : List Int} {L : List En} {f : List UInt8 -> List En} {fp : List Nat} (h : SideAt H hs S w cols L f fp) : fp.Nodup := by
 obtain ⟨A, B, t, I, fpI, h1, h2, h3, h4, h5, h6, h7, h8⟩ := h
 exact h7
theorem OkT.p {cols : List Int} {e : En} (h : OkT cols e) : OkP cols e := by
 obtain ⟨h1, c, h2⟩ := h
 exact ⟨c, h2, fun v hv => (rright_all h1).1 v ((pickR_mem h2).1 v hv)⟩
theorem cApplyS {m : Md} {H : Tr AO} {hs M n : Nat} {a b : Int} {ca cb : List Int} {L R : List En} {fL fR : List UInt8 -> List En} {Tl : List En} {FP : List Nat} {l1 l2 : List En} {k1 k2 : ATk} (h : MsF H hs M a b ca cb L R fL fR Tl FP) (n1 : l1.length < 10000) (n2 : l2.length < 10000) (r1 : ∀ e ∈ l1, e.r.length < 1000000) (r2 : ∀ e ∈ l2, e.r.length < 1000000) (x1 : (bnet l1).1.length < 10000) (x2 : (bnet l2).1.length < 10000) (y1 : ∀ e ∈ (bnet l1).1, e.r.length < 1000000) (y2 : ∀ e ∈ (bnet l2).1, e.r.length < 1000000) (he : actE a b L R l1 l2 = 0)
  (ok1 : ∀ e ∈ (bnet l1).1, OkT ca e) (ok2 : ∀ e ∈ (bnet l2).1, OkT cb e) (hca : ca.length < 10000) (hcb : cb.length = ca.length) (zL : L.length < 1000000) (zR : R.length < 1000000) (zT : Tl.length < 1000000) (sL : Small fL n) (sR : Small fR n) (zn : n < 1000000)
  (hlen : (tchRows cb (updW ca (bnet l1).1 fL) (bnet l1).1 (bnet l2).1).length < 99999) (hokC : ∀ r ∈ tchRows cb (updW ca (bnet l1).1 fL) (bnet l1).1 (bnet l2).1, OkC ca r)
  (hN : ∀ C, SrtR C -> C.Perm (tchRows cb (updW ca (bnet l1).1 fL) (bnet l1).1 (bnet l2).1) -> chN (bmany Tl) (nowV ca (updW cb (bnet l2).1 fR) (mrg 1 (bnet l1).1 L)) (cpt C) Tl.length <= 1500) :
  ∃ C A H' hs' FP', SrtR C /\ C.Perm (tchRows cb (updW ca (bnet l1).1 fL) (bnet l1).1 (bnet l2).1) /\ callF tab (evw tab) m 8 [.ptr M 0, .lst k1 (l1.map encE), .lst k2 (l2.map encE)] H hs = some (.tup [A, .lit (.int .i64 0)], H', hs') /\
   LstE A (chB (bmany Tl) (nowV ca (updW cb (bnet l2).1 fR) (mrg 1 (bnet l1).1 L)) (cpt C) []) /\
   MsF H' hs' M a b ca cb (mrg 1 (bnet l1).1 L) (mrg 1 (bnet l2).1 R) (updW ca (bnet l1).1 fL) (updW cb (bnet l2).1 fR) (mmerge 1 Tl (chB (bmany Tl) (nowV ca (updW cb (bnet l2).1 fR) (mrg 1 (bnet l1).1 L)) (cpt C) [])).1 FP' /\ hs <= hs' /\ Upb H H' FP hs /\ ∀ q ∈ FP', q ∈ FP ∨ hs <= q := by
 have c1 := fun m H hs => @cNet m l1 k1 H hs (by omega) r1
 have c2 := fun m H hs => @cNet m l2 k2 H hs (by omega) r2
 have E := e8
 simp only [stX, stC, List.cons.injEq, b8, Tryz.f8] at E
 have hlt := h.lt
 obtain ⟨SL, SR, TB, fpL, fpR, tT, h1, h2, h3, h4, h5, h6, h7, h8⟩ := h
 have z1 : (bnet l1).2 = 0 := by
  cases q1 : decide ((bnet l1).2 = 0) with
  | true => exact of_decide_eq_true q1
  | false => unfold actE at he; rw [q1] at he; exact he
 have z2 : (bnet l2).2 = 0 := by
  cases q2 : decide ((bnet l2).2 = 0) with
  | true => exact of_decide_eq_true q2
  | false => unfold actE at he; rw [z1, q2] at he; exact he
 unfold actE at he
 rw [z1, z2] at he
 rw [z1] at c1
 rw [z2] at c2
 generalize (bnet l1).1 = X at *
 generalize (bnet l2).1 = Y at *
 simp only [decide_true, Bool.not_true, cond_false] at he
 have q3 : narrowB a X = false /\ narrowB b Y = false := by
  cases p1 : narrowB a X <;> cases p2 : narrowB b Y <;> rw [p1, p2] at he <;> first | exact ⟨rfl, rfl⟩ | (simp at he)
 rw [q3.1, q3.2] at he
 have q5 : beyondB L X = false /\ beyondB R Y = false := by
  cases p1 : beyondB L X <;> cases p2 : beyondB R Y <;> rw [p1, p2] at he <;> first | exact ⟨rfl, rfl⟩ | (simp at he)
 obtain ⟨H1, hs1, w1, e1, u1⟩ := cNarrow (m := ⟨true, false, m.gl⟩) (l := X) (k1 := .no) h2 (by omega)
 have g1 : H1.get .dead M = .cells [.ptr SL 0, .ptr SR 0, .ptr TB 0] false := by rw [u1 M h8 (by simp)]; exact h1
 have s2 := h2.fr (fun q hq => u1 q (h2.lt q hq) (by simp)) e1
 have s3 := h3.fr (fun q hq => u1 q (h3.lt q hq) (by simp)) e1
 have b1 := h4.fr (fun q hq => u1 q (h4.ltf q hq) (by simp)) e1
 obtain ⟨H2, hs2, w2, e2, u2⟩ := cNarrow (m := ⟨true, false, m.gl⟩) (l := Y) (k1 := .no) s3 (by omega)
 have g2 : H2.get .dead M = .cells [.ptr SL 0, .ptr SR 0, .ptr TB 0] false := by rw [u2 M (by omega) (by simp)]; exact g1
 replace s2 := s2.fr (fun q hq => u2 q (s2.lt q hq) (by simp)) e2
 replace s3 := s3.fr (fun q hq => u2 q (s3.lt q hq) (by simp)) e2
 replace b1 := b1.fr (fun q hq => u2 q (b1.ltf q hq) (by simp)) e2
 obtain ⟨H3, hs3, w3, e3, u3⟩ := cBeyond (m := ⟨true, false, m.gl⟩) (l := X) (k1 := .no) s2 (by omega) y1
 have g3 : H3.get .dead M = .cells [.ptr SL 0, .ptr SR 0, .ptr TB 0] false := by rw [u3 M (by omega) (by simp)]; exact g2
 replace s2 := s2.fr (fun q hq => u3 q (s2.lt q hq) (by simp)) e3
 replace s3 := s3.fr (fun q hq => u3 q (s3.lt q hq) (by simp)) e3
 replace b1 := b1.fr (fun q hq => u3 q (b1.ltf q hq) (by simp)) e3
 obtain ⟨H4, hs4, w4, e4, u4⟩ := cBeyond (m := ⟨true, false, m.gl⟩) (l := Y) (k1 := .no) s3 (by omega) y2
 have g4 : H4.get .dead M = .cells [.ptr SL 0, .ptr SR 0, .ptr TB 0] false := by rw [u4 M (by omega) (by simp)]; exact g3
 replace s2 := s2.fr (fun q hq => u4 q (s2.lt q hq) (by simp)) e4
 replace s3 := s3.fr (fun q hq => u4 q (s3.lt q hq) (by simp)) e4
 replace b1 := b1.fr (fun q hq => u4 q (b1.ltf q hq) (by simp)) e4
 have u14 : ∀ q, q < hs -> H4.get .dead q = H.get .dead q := fun q hq => by
  rw [u4 q (by omega) (by simp), u3 q (by omega) (by simp), u2 q (by omega) (by simp), u1 q hq (by simp)]
 rw [q3.1] at w1
 rw [q3.2] at w2
 rw [q5.1] at w3
 rw [q5.2] at w4
 have hd := h7
 rw [h6] at hd
 have nM : ∀ q, q ∈ fpL ∨ q ∈ fpR ∨ q = TB ∨ q ∈ tT.ads -> q ≠ M := by
  intro q hq e
  subst e
  refine (List.nodup_cons.1 hd).1 ?_
  rcases hq with h | h | h | h <;> simp [h]
 obtain ⟨_, hd1⟩ := List.nodup_cons.1 hd
 obtain ⟨_, hd2, dis1⟩ := List.nodup_append.1 hd1
 obtain ⟨_, _, dis2⟩ := List.nodup_append.1 hd2
 obtain ⟨H5, hs5, fpL', w5, s5, e5, u5, a5⟩ := cTurn (m := ⟨true, false, m.gl⟩) (k1 := .no) (n := n) s2 (by omega) hca ok1 (by omega) sL (by omega)
 have g5 : H5.get .dead M = .cells [.ptr SL 0, .ptr SR 0, .ptr TB 0] false := by rw [u5 M (by omega) (fun hq => nM M (.inl hq) rfl)]; exact g4
 replace s3 := s3.fr (fun q hq => u5 q (s3.lt q hq) (fun hq2 => dis1 q hq2 q (by simp [hq]) rfl)) e5
 replace b1 := b1.fr (fun q hq => u5 q (b1.ltf q hq) (fun hq2 => dis1 q hq2 q (by rcases List.mem_cons.1 hq with h | h <;> simp [h]) rfl)) e5
 obtain ⟨H6, hs6, fpR', w6, s6, e6, u6, a6⟩ := cTurn (m := ⟨true, false, m.gl⟩) (k1 := .no) (n := n) s3 (by omega) (by omega) ok2 (by omega) sR (by omega)
 have g6 : H6.get .dead M = .cells [.ptr SL 0, .ptr SR 0, .ptr TB 0] false := by rw [u6 M (by omega) (fun hq => nM M (.inr (.inl hq)) rfl)]; exact g5
 have s5lt := s5.lt
 have s5nd := s5.nd
 replace s5 := s5.fr (fun q hq => u6 q (s5.lt q hq) (fun hq2 => by
  rcases a5 q hq with h | h
  ·exact dis1 q h q (by simp [hq2]) rfl
  ·have := h3.lt q hq2; omega)) e6
 replace b1 := b1.fr (fun q hq => u6 q (b1.ltf q hq) (fun hq2 => dis2 q hq2 q (by rcases List.mem_cons.1 hq with h | h <;> simp [h]) rfl)) e6
 obtain ⟨C, H7, hs7, sC, pC, w7, e7, u7⟩ := cTouched (m := ⟨true, false, m.gl⟩) (k1 := .no) (k2 := .no) (g := X) (l := Y) hlen (fun r hr => (hokC r hr).1) g6 (by omega) s5 s6 (by omega) hcb (fun e he => (ok2 e he).p) (by omega)
 have g7 : H7.get .dead M = .cells [.ptr SL 0, .ptr SR 0, .ptr TB 0] false := by rw [u7 M (by omega) (by simp)]; exact g6
 have s6lt := s6.lt
 have s6nd := s6.nd
 replace s5 := s5.fr (fun q hq => u7 q (s5.lt q hq) (by simp)) e7
 replace s6 := s6.fr (fun q hq => u7 q (s6.lt q hq) (by simp)) e7
 replace b1 := b1.fr (fun q hq => u7 q (b1.ltf q hq) (by simp)) e7
 have hszT : tT.sz = Tl.length := by rw [<- h5, T.es_len]
 have hCl : (cpt C).length < 99999 := by have := @cpt_len C; have := pC.length_eq; omega
 obtain ⟨H8, hs8, T2, w8, e8, u8, bg8, ad8, es8⟩ := cChanges (m := ⟨true, false, m.gl⟩) (k1 := .no) (rs0 := cpt C) g7 (by omega) s5 s6 b1 hca hcb (fun r hr => hokC r (pC.mem_iff.1 (cpt_mem hr))) (by omega) (by rw [h5, hszT]; exact hN C sC pC)
 have g8 : H8.get .dead M = .cells [.ptr SL 0, .ptr SR 0, .ptr TB 0] false := by rw [u8 M (by omega)]; exact g7
 have s7 := s5.fr (fun q hq => u8 q (s5.lt q hq)) (by omega : hs7 <= hs8)
 have s8 := s6.fr (fun q hq => u8 q (s6.lt q hq)) (by omega : hs7 <= hs8)
 replace b1 := b1.fr (fun q hq => u8 q (b1.ltf q hq)) (by omega : hs7 <= hs8)
 rw [h5] at es8
 have hl8 : T2.sz <= 99999 := by
  rw [<- T.es_len, es8]
  have := @chB_len (bmany Tl) (nowV ca (updW cb Y fR) (mrg 1 X L)) (cpt C) []
  simp only [List.length_nil] at this
  omega
 obtain ⟨H9, hs9, b', w9, d9⟩ := cMerge (m := ⟨true, false, m.gl⟩) (k := 1) b1 bg8 (by omega)
 rw [h5, es8] at w9 d9
 have g9 : H9.get .dead M = .cells [.ptr SL 0, .ptr SR 0, .ptr TB 0] false := by
  rw [d9.up M (by omega) (fun hq => by
   rcases List.mem_cons.1 hq with h | h
   ·exact nM M (.inr (.inr (.inl h))) rfl
   ·exact nM M (.inr (.inr (.inr h))) rfl)]
  exact g8
 have l9 := d9.le
 have b9 : BagAt H9 hs9 hs7 T2 := bg8.fr (fun q hq => d9.up q (bg8.ltf q hq) (fun hq2 => by
  have h1 := h4.ltf q hq2
  rcases List.mem_cons.1 hq with h | h
  ·omega
  ·have := ad8 q h; omega)) l9
 obtain ⟨H10, hs10, A, w10, l10, a10, _, u10⟩ := cRows (m := ⟨true, false, m.gl⟩) b9
 rw [es8] at a10
 have ndis : ∀ q ∈ TB :: tT.ads, q ∉ fpL' /\ q ∉ fpR' := fun q hq => by
  have hq1 := h4.ltf q hq
  refine ⟨fun h => ?_, fun h => ?_⟩
  ·rcases a5 q h with h | h
   ·exact dis1 q h q (by rcases List.mem_cons.1 hq with h | h <;> simp [h]) rfl
   ·omega
  ·rcases a6 q h with h | h
   ·exact dis2 q h q (by rcases List.mem_cons.1 hq with h | h <;> simp [h]) rfl
   ·omega
 have s9 := s7.fr (fun q hq => d9.up q (s7.lt q hq) (fun hq2 => (ndis q hq2).1 hq)) l9
 have s10 := s8.fr (fun q hq => d9.up q (s8.lt q hq) (fun hq2 => (ndis q hq2).2 hq)) l9
 have k1 : Nat.ble hs4 hs5 = true := bleT e5
 have k2 : Nat.ble hs5 hs6 = true := bleT e6
 refine ⟨C, A, H10, hs10, M :: (fpL' ++ (fpR' ++ (TB :: b'.ads))), sC, pC, ?_, a10.lstE, ⟨SL, SR, TB, fpL', fpR', b', ?_, s9.fr (fun q hq => u10 q (s9.lt q hq) (by simp)) l10, s10.fr (fun q hq => u10 q (s10.lt q hq) (by simp)) l10, d9.at_.fr (fun q hq => u10 q (d9.at_.ltf q hq) (by simp)) l10, d9.es, rfl, ?_, by omega⟩, by omega, ?_, ?_⟩
 ·rw [callF_in (fi := fi8) tcon rfl rfl rfl]
  simp (maxSteps := 2000000) only [sG, seval, x8, stU, b8, Tryz.f8, mpn, c1, c2, h1, g1, g2, g3, g4, g5, g6, g8, w1, w2, w3, w4, w5, w6, w7, w8, w9, w10, dY, E, k1, k2]
 ·rw [u10 M (by omega) (by simp)]; exact g9
 ·refine nodup4 (h4 := hs4) (h5 := hs5) (h6 := hs6) hd s5nd s6nd d9.at_.fpn a5 s5lt a6 s6lt ?_ ?_ e5 e6
  ·intro q hq
   rcases List.mem_cons.1 hq with rfl | hq
   ·exact .inl List.mem_cons_self
   ·rcases d9.ad q hq with h | h
    ·exact .inl (List.mem_cons_of_mem _ h)
    ·exact .inr (by omega)
  ·intro q hq
   have := hlt q (by rw [h6]; exact hq)
   omega
 ·intro q hq hn
  rw [h6] at hn
  simp only [List.mem_cons, List.mem_append, not_or] at hn
  obtain ⟨q0, q1, q2, q3', q4⟩ := hn
  rw [u10 q (by omega) (by simp), d9.up q (by omega) (fun hq2 => by
   rcases List.mem_cons.1 hq2 with h | h
   ·exact q3' h
   ·exact q4 h), u8 q (by omega), u7 q (by omega) (by simp), u6 q (by omega) (fun h => q2 h), u5 q (by omega) (fun h => q1 h)]
  exact u14 q hq
 ·intro q hq
  rw [h6]
  rcases List.mem_cons.1 hq with rfl | hq
  ·exact .inl List.mem_cons_self
  ·rcases List.mem_append.1 hq with hq | hq
   ·rcases a5 q hq with h | h
    ·exact .inl (by simp [h])
    ·exact .inr (by omega)
   ·rcases List.mem_append.1 hq with hq | hq
    ·rcases a6 q hq with h | h
     ·exact .inl (by simp [h])
     ·exact .inr (by omega)
    ·rcases List.mem_cons.1 hq with rfl | hq
     ·exact .inl (by simp)
     ·rcases d9.ad q hq with h | h
      ·exact .inl (by simp [h])
      ·exact .inr (by omega)
theorem mpnR {p q : Operand} {o k : Nat} : binO tab .eql 26 p q (some (.ptr o k)) (some (.lit (.pointer none))) = some (.lit (.bool false)) := rfl
theorem cMRows {m : Md} {H : Tr AO} {hs M : Nat} {a b : Int} {ca cb : List Int} {L R : List En} {fL fR : List UInt8 -> List En} {Tl : List En} {FP : List Nat} (h : MsF H hs M a b ca cb L R fL fR Tl FP) :
  ∃ A H' hs', callF tab (evw tab) m 11 [.ptr M 0] H hs = some (A, H', hs') /\ LstE A Tl /\ hs <= hs' /\ Upb H H' [] hs := by
 obtain ⟨SL, SR, TB, fpL, fpR, tT, h1, h2, h3, h4, h5, h6, h7, h8⟩ := h
 obtain ⟨H1, hs1, A, w1, l1, a1, _, u1⟩ := cRows (m := ⟨true, true, m.gl⟩) h4
 rw [h5] at a1
 refine ⟨A, H1, hs1, ?_, a1.lstE, l1, u1⟩
 rw [callF_in (fi := fi11) tcon rfl rfl rfl]
 simp (maxSteps := 2000000) only [sG, seval, x11, stU, b11, Tryz.f11, mpnR, h1, w1]
end Go.Proofs.YtancionamhenmaaGreat.Ev
