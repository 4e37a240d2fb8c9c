import Derived.Test.YtancionamhenmaaGreatFE
set_option linter.all false
set_option maxRecDepth 100000
set_option maxHeartbeats 8000000
namespace Go.Proofs.YtancionamhenmaaGreat.Ev
open Go Go.Proofs.YtancionamhenmaaGreat.Ev Go.Proofs Go.Proofs.YtancionamhenmaaGreat Go.Proofs.YtancionamhenmaaGreat.Tab
structure Both (H : Tr AO) (hs M S : Nat) (a b : Int) (l : List Pr) (L R : List En) (fL fR : List UInt8 -> List En) (FP : List Nat) (B : Nat) : Prop where
 ms : MsF H hs M a b (l.map (·.a)) (l.map (·.b)) L R fL fR (missRows l L R) FP
 sd : SdAt H S a b l L R
 sl : S < hs
 sn : S ∉ FP
 iL : InvS a (l.map (·.a)) L
 iR : InvS b (l.map (·.b)) R
 kL : Keyed (l.map (·.a)) L fL
 kR : Keyed (l.map (·.b)) R fR
 lL : L.length <= B
 lR : R.length <= B
theorem Keyed.small {cols : List Int} {L : List En} {f : List UInt8 -> List En} (h : Keyed cols L f) : Small f L.length := fun k => by rw [h k]; exact List.length_filter_le _ _
theorem mrg_len : ∀ {X L : List En} {k : Int}, (mrg k X L).length <= L.length + X.length
 | [], _, _ => Nat.le_refl _
 | e :: X, L, k => by
  have h1 := mrg_len (X := X) (L := (badd L e.r (mulw k e)).1) (k := k)
  have h2 := @badd_len L e.r (mulw k e)
  unfold mrg
  simp only [List.length_cons]; omega
theorem rows_short {l : List En} (h : GdB l) : ∀ e ∈ l, e.r.length < 1000000 := fun e he => by have := (rright_all (h.rr e he)).2; omega
theorem mates_len2 {cb : List Int} {L : List En} {f : List UInt8 -> List En} {cols : List Int} (hf : Keyed cols L f) : ∀ {Y : List En}, (mates cb f Y).length <= Y.length * L.length
 | [] => by simp [mates]
 | y :: Y => by
  have h1 := mates_len2 (cb := cb) hf (Y := Y)
  have h2 := hf.small (keyB (cellsP cb y.r))
  have h3 : mates cb f (y :: Y) = rowsOf (f (keyB (cellsP cb y.r))) ++ mates cb f Y := by unfold mates; rw [List.flatMap_cons]
  rw [h3, List.length_append, List.length_cons, Nat.add_mul, Nat.one_mul]
  have h4 : (rowsOf (f (keyB (cellsP cb y.r)))).length = (f (keyB (cellsP cb y.r))).length := List.length_map _
  omega
theorem rowsBoth {m : Md} {H : Tr AO} {hs M S : Nat} {a b : Int} {l : List Pr} {L R : List En} {fL fR : List UInt8 -> List En} {FP : List Nat} {B : Nat} (h : Both H hs M S a b l L R fL fR FP B) (hl : l.length < 1000) :
  ∃ R1 H3 hs3 R2 H4 hs4, callF tab (evw tab) m 11 [.ptr M 0] H hs = some (R1, H3, hs3) /\ callF tab (evw tab) m 12 [.ptr S 0] H3 hs3 = some (R2, H4, hs4) /\ LE R1 (missRows l L R) /\ LE R2 (missRows l L R) /\ Both H4 hs4 M S a b l L R fL fR FP B /\ hs <= hs4 := by
 obtain ⟨R1, H3, hs3, w1, e1, l1, u1⟩ := cMRows (m := m) h.ms
 have s1 : SdAt H3 S a b l L R := h.sd.upd (u1 S h.sl (by simp))
 obtain ⟨R2, H4, hs4, w2, ⟨ps, p1, p2⟩, l2, u2⟩ := cSRows (m := m) (hs := hs3) s1 (by have := h.sl; omega) (by omega)
 refine ⟨R1, H3, hs3, R2, H4, hs4, w1, w2, e1.le, by rw [<- p2]; exact p1.le, ⟨?_, ?_, ?_, h.sn, h.iL, h.iR, h.kL, h.kR, h.lL, h.lR⟩, by omega⟩
 ·exact h.ms.fr (fun q hq => by have := h.ms.lt q hq; rw [u2 q (by omega) (by simp), u1 q (by omega) (by simp)]) (by omega)
 ·exact s1.upd (u2 S (by have := h.sl; omega) (by simp))
 ·have := h.sl; omega
theorem applyBoth {m : Md} {H : Tr AO} {hs M S : Nat} {a b : Int} {l : List Pr} {L R : List En} {fL fR : List UInt8 -> List En} {FP : List Nat} {B : Nat} {l1 l2 : List En} {k1 k2 k3 k4 : ATk} (h : Both H hs M S a b l L R fL fR FP B) (hB : B <= 300) (hl : l.length < 1000) (ca : Cols a (l.map (·.a))) (cb : Cols b (l.map (·.b))) (o1 : OkL l1) (o2 : OkL l2) (n1 : l1.length <= 12) (n2 : l2.length <= 12) :
  ∃ code out A H1 hs1 A2 H2 hs2 L' R' fL' fR' FP', callF tab (evw tab) m 8 [.ptr M 0, .lst k1 (l1.map encE), .lst k2 (l2.map encE)] H hs = some (.tup [A, .lit (.int .i64 code)], H1, hs1) /\
   callF tab (evw tab) m 9 [.ptr S 0, .lst k3 (l1.map encE), .lst k4 (l2.map encE)] H1 hs1 = some (.tup [A2, .lit (.int .i64 code)], H2, hs2) /\ LE A out /\ LE A2 out /\ GdB out /\ out.length < 100000 /\ Both H2 hs2 M S a b l L' R' fL' fR' FP' (B + 12) /\ hs <= hs2 := by
 have x1 := @bnet_len l1
 have x2 := @bnet_len l2
 have sh1 : ∀ e ∈ l1, e.r.length < 1000000 := fun e he => (o1 e he).1.1
 have sh2 : ∀ e ∈ l2, e.r.length < 1000000 := fun e he => (o2 e he).1.1
 have y1 := rows_short (@bnet_good l1)
 have y2 := rows_short (@bnet_good l2)
 have hL := h.lL
 have hR := h.lR
 have hsl := h.sl
 have nT : (missRows l L R).length <= L.length := List.length_filter_le _ _
 by_cases he : actE a b L R l1 l2 = 0
 ·obtain ⟨z1, z2, z3, z4, z5, z6⟩ := act_zero he
  have iX := bnet_X o1 z3
  have iY := bnet_X o2 z4
  obtain ⟨jL, _⟩ := side_step h.iL iX ca z5
  obtain ⟨jR, _⟩ := side_step h.iR iY cb z6
  have okT : ∀ {w : Int} {cols : List Int} {Z : List En}, InvX w Z -> Cols w cols -> ∀ e ∈ Z, OkT cols e := fun hZ hc e he => ⟨(hZ.o e he).1.1, hc _ (hZ.o e he).2⟩
  have kL' := updW_keyed h.iL.g (okT iX ca) h.kL
  have kR' := updW_keyed h.iR.g (okT iY cb) h.kR
  have lL' := @mrg_len (bnet l1).1 L 1
  have lR' := @mrg_len (bnet l2).1 R 1
  have tch : ∀ r ∈ tchRows (l.map (·.b)) (updW (l.map (·.a)) (bnet l1).1 fL) (bnet l1).1 (bnet l2).1, OkRow r /\ ∃ c, pickR r (l.map (·.a)) = some c := by
   intro r hr
   rcases List.mem_append.1 hr with h | h
   ·obtain ⟨e, he, rfl⟩ := List.mem_map.1 h
    exact ⟨(iX.o e he).1, ca _ (iX.o e he).2⟩
   ·obtain ⟨y, hy, h⟩ := List.mem_flatMap.1 h
    obtain ⟨e, he, rfl⟩ := List.mem_map.1 h
    rw [kL'] at he
    have := jL.o e (List.mem_filter.1 he).1
    exact ⟨this.1, this.2.2⟩
  have hlen : (tchRows (l.map (·.b)) (updW (l.map (·.a)) (bnet l1).1 fL) (bnet l1).1 (bnet l2).1).length < 99999 := by
   unfold tchRows
   have h1 := mates_len2 (cb := l.map (·.b)) kL' (Y := (bnet l2).1)
   have h2 : (bnet l2).1.length * (mrg 1 (bnet l1).1 L).length <= 12 * 312 := Nat.mul_le_mul (by omega) (by omega)
   have h3 : (rowsOf (bnet l1).1).length = (bnet l1).1.length := List.length_map _
   rw [List.length_append]; omega
  have nT' : (missRows l (mrg 1 (bnet l1).1 L) (mrg 1 (bnet l2).1 R)).length <= (mrg 1 (bnet l1).1 L).length := List.length_filter_le _ _
  obtain ⟨C, A, H1, hs1, FP', sC, pC, w1, e1, ms', l1', u1, a1⟩ := cApplyS (m := m) (n := B) (k1 := k1) (k2 := k2) h.ms (by omega) (by omega) sh1 sh2 (by omega) (by omega) y1 y2 he (okT iX ca) (okT iY cb) (by rw [List.length_map]; omega) (by rw [List.length_map, List.length_map]) (by omega) (by omega) (by omega) (fun k => Nat.le_trans (h.kL.small k) hL) (fun k => Nat.le_trans (h.kR.small k) hR) (by omega) hlen
   (fun r hr => by
    obtain ⟨q1, c, q2⟩ := tch r hr
    exact ⟨by have := (rright_all q1.1).2; omega, c, q2, fun v hv => (rright_all q1.1).1 v ((pickR_mem q2).1 v hv)⟩)
   (fun C sC pC => by
    have hm : ∀ r ∈ cpt C, OkRow r /\ ∃ c, pickR r (l.map (·.a)) = some c := fun r hr => tch r (pC.mem_iff.1 (cpt_mem hr))
    have := told_few (w := bmany (missRows l L R)) (nw := nowV (l.map (·.a)) (updW (l.map (·.b)) (bnet l2).1 fR) (mrg 1 (bnet l1).1 L)) (n := ((missRows l L R).length : Int)) (now := missRows l (mrg 1 (bnet l1).1 L) (mrg 1 (bnet l2).1 R)) (jL.g.filter _) (cpt_lt sC) (fun r hr => (hm r hr).1.1) (fun r hr => by
     obtain ⟨q1, c, q2⟩ := hm r hr
     exact now_eq jL.g jR kR' q1 q2)
    omega)
  obtain ⟨st1, st2⟩ := act_step h.iL h.iR h.kL h.kR iX iY ca cb z5 z6 sC pC
  rw [st2] at ms'
  rw [st1] at e1
  have s1 : SdAt H1 S a b l L R := h.sd.upd (u1 S hsl h.sn)
  obtain ⟨A2, H2, hs2, w2, e2, l2', u2, s2⟩ := cSApply (m := m) (k1 := k3) (k2 := k4) (hs := hs1) s1 (by omega) (by omega) (fun e he => (o1 e he).1) (fun e he => (o2 e he).1) (by omega) (by omega) (by omega) (by omega)
  have hcode : (snext a b L R l1 l2).2 = 0 := by rw [act_code]; exact he
  have hnx := act_next he o1 o2
  have hsa : sapply a b l L R l1 l2 = ((differ (missRows l L R) (missRows l (mrg 1 (bnet l1).1 L) (mrg 1 (bnet l2).1 R)), 0), mrg 1 (bnet l1).1 L, mrg 1 (bnet l2).1 R) := by
   unfold sapply
   rw [hcode, hnx]
   have : decide ((1500 : Int) < ((missRows l (mrg 1 (bnet l1).1 L) (mrg 1 (bnet l2).1 R)).length : Int)) = false := dcF (by omega)
   simp only [this, decide_true, cond_true, cond_false]
  rw [hsa] at w2 e2 s2
  have sn' : S ∉ FP' := fun hS => by
   rcases a1 S hS with g | g
   ·exact h.sn g
   ·omega
  refine ⟨0, _, A, H1, hs1, A2, H2, hs2, _, _, _, _, FP', w1, w2, e1.le, e2, ?_, ?_, ⟨ms'.fr (fun q hq => u2 q (ms'.lt q hq) (by simp; rintro rfl; exact sn' hq)) l2', s2, by omega, sn', jL, jR, kL', kR', by omega, by omega⟩, by omega⟩
  ·exact (differ_many (h.iL.g.filter _) (jL.g.filter _) (fun e he => h.iL.p e (List.mem_filter.1 he).1) (fun e he => jL.p e (List.mem_filter.1 he).1)).1
  ·have h1 := @cpt_len C
   have h2 := pC.length_eq
   have h3 := @chB_len (bmany (missRows l L R)) (nowV (l.map (·.a)) (updW (l.map (·.b)) (bnet l2).1 fR) (mrg 1 (bnet l1).1 L)) (cpt C) []
   rw [st1] at h3
   simp only [List.length_nil] at h3
   omega
 ·obtain ⟨H1, hs1, w1, l1', u1⟩ := cApplyE (m := m) (k1 := k1) (k2 := k2) h.ms (by omega) (by omega) sh1 sh2 (by omega) (by omega) y1 y2 he
  have s1 : SdAt H1 S a b l L R := h.sd.upd (u1 S hsl (by simp))
  obtain ⟨A2, H2, hs2, w2, e2, l2', u2, s2⟩ := cSApply (m := m) (k1 := k3) (k2 := k4) (hs := hs1) s1 (by omega) (by omega) (fun e he => (o1 e he).1) (fun e he => (o2 e he).1) (by omega) (by omega) (by omega) (by omega)
  have hsa : sapply a b l L R l1 l2 = (([], actE a b L R l1 l2), L, R) := by
   unfold sapply
   rw [act_code, decide_eq_false he]; rfl
  rw [hsa] at w2 e2 s2
  have ms1 := h.ms.fr (fun q hq => u1 q (h.ms.lt q hq) (by simp)) l1'
  exact ⟨_, [], _, H1, hs1, A2, H2, hs2, L, R, fL, fR, FP, w1, w2, ⟨rfl, rfl⟩, e2, GdB.nil, by simp, ⟨ms1.fr (fun q hq => u2 q (ms1.lt q hq) (by simp; rintro rfl; exact h.sn hq)) l2', s2, by omega, h.sn, h.iL, h.iR, h.kL, h.kR, by omega, by omega⟩, by omega⟩
structure Ac where
 x : List En
 y : List En
def encAc (p : Ac) : AV := .agg [.lst .no (p.x.map encE), .lst .no (p.y.map encE)]
def okE (e : En) : Bool := !decide ((50 : Int) < (e.r.length : Int))
def okAc (p : Ac) : Bool := (!decide ((12 : Int) < (p.x.length : Int)) && !decide ((12 : Int) < (p.y.length : Int))) && (p.x.all okE && p.y.all okE)
theorem fewIn1 {K : List Fr} {l : List Ac} {p : Ac} {i : Nat} {v : AV} {H : Tr AO} {hs : Nat} {gl : Tr (Option AV)} (hi : l[i]? = some p) (hx : p.x.length < 1000) (hbad : p.x.all okE = false -> v = .lit (.bool false))
  (hR : ∀ t' : Tr AV, t'.get .any 2 = .lit (.bool false) -> RetN (kont tab none (fin tab fi4) K .ret ⟨t', 73, H, hs, [], ⟨true, true, gl⟩⟩) (.lit (.bool false)))
  (hK : p.x.all okE = true -> ∀ t' : Tr AV, t'.get .any 0 = .lst .no (l.map encAc) -> t'.get .any 3 = .lit (.int .i64 i) -> RetN (kont tab none (fin tab fi4) K (.exit 2) ⟨t', 73, H, hs, [], ⟨true, true, gl⟩⟩) v) :
  ∀ (k j : Nat) (t : Tr AV), j + k = p.x.length -> (p.x.take j).all okE = true -> t.get .any 0 = .lst .no (l.map encAc) -> t.get .any 3 = .lit (.int .i64 i) -> t.get .any 4 = .lit (.int .i64 j) ->
  RetN (W tab none (fin tab fi4) (lpc fi4 1) K ⟨t, 73, H, hs, [], ⟨true, true, gl⟩⟩) v := by
 simp only [stU, stC, b4, Tryz.f4]
 have g3 : decide (0 <= (i : Int)) = true := dcT (by omega)
 intro k
 induction k with
 | zero =>
  intro j t hj ha a0 a3 a4
  have e1 : decide ((j : Int) < (p.x.length : Int)) = false := dcF (by omega)
  rw [List.take_of_length_le (by omega)] at ha
  rw [W_loop]
  simp only [sG, seval, a0, a3, a4, g3, hi, encAc, lG, e1]
  apply hK ha
  all_goals simp only [sG, seval, a0, a3]
 | succ k ih =>
  intro j t hj ha a0 a3 a4
  have hlt : j < p.x.length := by omega
  have e1 : decide ((j : Int) < (p.x.length : Int)) = true := dcT (by omega)
  have e3 : decide (0 <= (j : Int)) = true := dcT (by omega)
  have e4 : p.x[j]? = some p.x[j] := List.getElem?_eq_getElem _
  have e5 := wrap_succ (i := j) (by omega)
  have e7 : p.x.take (j + 1) = p.x.take j ++ [p.x[j]] := List.take_succ_eq_append_getElem hlt
  have hm : p.x[j] ∈ p.x := List.getElem_mem _
  generalize p.x[j] = e at e4 e7 hm
  rw [W_loop]
  cases h1 : decide ((50 : Int) < (e.r.length : Int)) with
  | true =>
   have hv := hbad (by rw [List.all_eq_false]; exact ⟨e, hm, by unfold okE; rw [h1]; decide⟩)
   subst hv
   simp only [sG, seval, a0, a3, a4, g3, hi, encAc, encE, encR, lG, e1, e3, e4, h1]
   apply hR
   simp only [sG, seval]
  | false =>
   simp only [sG, seval, a0, a3, a4, g3, hi, encAc, encE, encR, lG, e1, e3, e4, e5, h1]
   apply ih (j + 1) _ (by omega) (by rw [e7, List.all_append, ha]; simp [okE, h1])
   all_goals simp only [sG, seval, a0, a3]
theorem fewIn2 {K : List Fr} {l : List Ac} {p : Ac} {i : Nat} {v : AV} {H : Tr AO} {hs : Nat} {gl : Tr (Option AV)} (hi : l[i]? = some p) (hx : p.y.length < 1000) (hbad : p.y.all okE = false -> v = .lit (.bool false))
  (hR : ∀ t' : Tr AV, t'.get .any 2 = .lit (.bool false) -> RetN (kont tab none (fin tab fi4) K .ret ⟨t', 73, H, hs, [], ⟨true, true, gl⟩⟩) (.lit (.bool false)))
  (hK : p.y.all okE = true -> ∀ t' : Tr AV, t'.get .any 0 = .lst .no (l.map encAc) -> t'.get .any 3 = .lit (.int .i64 i) -> RetN (kont tab none (fin tab fi4) K (.exit 4) ⟨t', 73, H, hs, [], ⟨true, true, gl⟩⟩) v) :
  ∀ (k j : Nat) (t : Tr AV), j + k = p.y.length -> (p.y.take j).all okE = true -> t.get .any 0 = .lst .no (l.map encAc) -> t.get .any 3 = .lit (.int .i64 i) -> t.get .any 5 = .lit (.int .i64 j) ->
  RetN (W tab none (fin tab fi4) (lpc fi4 2) K ⟨t, 73, H, hs, [], ⟨true, true, gl⟩⟩) v := by
 simp only [stU, stC, b4, Tryz.f4]
 have g3 : decide (0 <= (i : Int)) = true := dcT (by omega)
 intro k
 induction k with
 | zero =>
  intro j t hj ha a0 a3 a5
  have e1 : decide ((j : Int) < (p.y.length : Int)) = false := dcF (by omega)
  rw [List.take_of_length_le (by omega)] at ha
  rw [W_loop]
  simp only [sG, seval, a0, a3, a5, g3, hi, encAc, lG, e1]
  apply hK ha
  all_goals simp only [sG, seval, a0, a3]
 | succ k ih =>
  intro j t hj ha a0 a3 a5
  have hlt : j < p.y.length := by omega
  have e1 : decide ((j : Int) < (p.y.length : Int)) = true := dcT (by omega)
  have e3 : decide (0 <= (j : Int)) = true := dcT (by omega)
  have e4 : p.y[j]? = some p.y[j] := List.getElem?_eq_getElem _
  have e5 := wrap_succ (i := j) (by omega)
  have e7 : p.y.take (j + 1) = p.y.take j ++ [p.y[j]] := List.take_succ_eq_append_getElem hlt
  have hm : p.y[j] ∈ p.y := List.getElem_mem _
  generalize p.y[j] = e at e4 e7 hm
  rw [W_loop]
  cases h1 : decide ((50 : Int) < (e.r.length : Int)) with
  | true =>
   have hv := hbad (by rw [List.all_eq_false]; exact ⟨e, hm, by unfold okE; rw [h1]; decide⟩)
   subst hv
   simp only [sG, seval, a0, a3, a5, g3, hi, encAc, encE, encR, lG, e1, e3, e4, h1]
   apply hR
   simp only [sG, seval]
  | false =>
   simp only [sG, seval, a0, a3, a5, g3, hi, encAc, encE, encR, lG, e1, e3, e4, e5, h1]
   apply ih (j + 1) _ (by omega) (by rw [e7, List.all_append, ha]; simp [okE, h1])
   all_goals simp only [sG, seval, a0, a3]
theorem loopFew {l : List Ac} {gl : Tr (Option AV)} (hl : l.length < 1000000) : ∀ (k i : Nat) (t : Tr AV) (H : Tr AO) (hs : Nat), i + k = l.length ->
  t.get .any 0 = .lst .no (l.map encAc) -> t.get .any 3 = .lit (.int .i64 i) ->
  RetN (W tab none (fin tab fi4) (lpc fi4 0) (lpk fi4 0) ⟨t, 73, H, hs, [], ⟨true, true, gl⟩⟩) (.lit (.bool ((l.drop i).all okAc))) := by
 have I1 := @fewIn1
 simp only [stU, stC, b4, Tryz.f4] at I1
 have I2 := @fewIn2
 simp only [stU, stC, b4, Tryz.f4] at I2
 simp only [stU, stC, b4, Tryz.f4]
 intro k
 induction k with
 | zero =>
  intro i t H hs hi a0 a3
  have e1 : decide ((i : Int) < (l).length) = false := dcF (by omega)
  rw [W_loop, List.drop_of_length_le (by omega)]
  simp only [sG, seval, x4, a0, a3, e1, List.length_map]
 | succ k ih =>
  intro i t H hs hi a0 a3
  have hlt : i < (l).length := by omega
  obtain ⟨p, hv, e1, e3, e4, e6, e7⟩ := atS hlt
  have e5 := wrap_succ (i := i) (by omega)
  rw [W_loop, e6, List.all_cons]
  unfold okAc
  cases h1 : decide ((12 : Int) < (p.x.length : Int)) with
  | true => simp only [sG, seval, x4, a0, a3, encAc, e1, e3, e4, lG, h1]
  | false =>
   cases h2 : decide ((12 : Int) < (p.y.length : Int)) with
   | true => simp only [sG, seval, x4, a0, a3, encAc, e1, e3, e4, lG, h1, h2]
   | false =>
    have q1 := of_decide_eq_false h1
    have q2 := of_decide_eq_false h2
    simp only [sG, seval, a0, a3, encAc, e1, e3, e4, lG, h1, h2]
    refine I1 (l := l) (p := p) (i := i) e4 (by omega) (fun h => by rw [h]; rfl) ?_ ?_ p.x.length 0 _ (by omega) rfl ?_ ?_ ?_
    ·intro t' b2
     simp only [sG, seval, x4, b2]
    ·intro hx t' b0 b3
     rw [hx]
     simp only [sG, seval]
     refine I2 (l := l) (p := p) (i := i) e4 (by omega) (fun h => by rw [h]; rfl) ?_ ?_ p.y.length 0 _ (by omega) rfl ?_ ?_ ?_
     ·intro t2 c2
      simp only [sG, seval, x4, c2]
     ·intro hy t2 c0 c3
      rw [hy]
      simp only [sG, seval, c3, e5]
      apply ih (i + 1) _ _ _ (by omega)
      all_goals simp only [sG, seval, c0]
     all_goals first | (simp only [sG, seval, b0, b3]; done) | (simp only [sG, seval, b0, b3]; rfl)
    all_goals first | (simp only [sG, seval, a0, a3]; done) | (simp only [sG, seval, a0, a3, encAc]; rfl)
def fewB (l : List Ac) : Bool := !decide ((12 : Int) < (l.length : Int)) && l.all okAc
theorem bare_Ac (p : Ac) : bare (encAc p) = true := by simp only [encAc, bare, bares, bares_E, Bool.and_self]
theorem nrm_Ac (p : Ac) : nrm (encAc p) = encAc p := by simp only [encAc, nrm, nrms, nrms_E]
theorem cFewA {m : Md} {l : List Ac} {k1 : ATk} {H : Tr AO} {hs : Nat} :
  callF tab (evw tab) m 4 [.lst k1 (l.map encAc)] H hs = some (.lit (.bool (fewB l)), H, hs) := by
 refine callF_iso tcon rfl rfl (by simp only [bares, bare, bares_mapf bare_Ac l, Bool.and_self]) ?_
 simp only [nrms, nrm, nrms_mapg nrm_Ac l]
 refine iso_ret ?_
 unfold fewB
 cases h1 : decide ((12 : Int) < (l.length : Int)) with
 | true => simp (maxSteps := 2000000) only [sG, seval, x4, stU, b4, Tryz.f4, List.length_map, h1]
 | false =>
  have LL := @loopFew l m.gl (by have := of_decide_eq_false h1; omega) l.length 0
  simp only [stU, stC, b4, Tryz.f4] at LL
  simp (maxSteps := 2000000) only [sG, seval, x4, stU, b4, Tryz.f4, List.length_map, h1]
  apply LL
  ·simp
  all_goals simp only [sG, seval] <;> rfl
theorem spn {p q : Operand} {o k : Nat} : binO tab .neq 30 p q (some (.ptr o k)) (some (.lit (.pointer none))) = some (.lit (.bool true)) := rfl
def OkAcs (l : List Ac) : Prop := ∀ p ∈ l, OkL p.x /\ OkL p.y /\ p.x.length <= 12 /\ p.y.length <= 12
theorem loopLaw {acs : List Ac} {gl : Tr (Option AV)} {M S : Nat} {a b : Int} {l : List Pr} (hac : OkAcs acs) (hal : acs.length <= 12) (hl : l.length < 1000) (ca : Cols a (l.map (·.a))) (cb : Cols b (l.map (·.b))) (hkn : ∀ H hs, callF tab (evw tab) ⟨true, true, gl⟩ 5 [] H hs = some (.lit (.bool true), H, hs)) :
  ∀ (k i : Nat) (t : Tr AV) (H : Tr AO) (hs : Nat) (L R : List En) (fL fR : List UInt8 -> List En) (FP : List Nat), i + k = acs.length -> Both H hs M S a b l L R fL fR FP (12 * i) ->
  t.get .any 3 = .lst .no (acs.map encAc) -> t.get .any 9 = .ptr M 0 -> t.get .any 11 = .ptr S 0 -> t.get .any 13 = .lit (.int .i64 i) ->
  ∃ H' hs', W tab none (fin tab fi3) (lpc fi3 0) (lpk fi3 0) ⟨t, 109, H, hs, [], ⟨true, true, gl⟩⟩ = some (.lit (.bool true), H', hs') := by
 have D := d3
 simp only [stD, stC, List.cons.injEq, b3, Tryz.f3] at D
 simp only [stU, stC, b3, Tryz.f3]
 intro k
 induction k with
 | zero =>
  intro i t H hs L R fL fR FP hi hB a3 a9 a11 a13
  have e1 : decide ((i : Int) < (acs).length) = false := dcF (by omega)
  rw [W_loop]
  refine ⟨H, hs, ?_⟩
  simp only [sG, seval, x3, a3, a13, e1, hkn, List.length_map]
 | succ k ih =>
  intro i t H hs L R fL fR FP hi hB a3 a9 a11 a13
  have hlt : i < (acs).length := by omega
  obtain ⟨p, hv, e1, e3, e4, e6, e7⟩ := atS hlt
  have e5 := wrap_succ (i := i) (by omega)
  have hm : p ∈ acs := by rw [<- hv]; exact List.getElem_mem _
  obtain ⟨o1, o2, n1, n2⟩ := hac p hm
  obtain ⟨code, out, A, H1, hs1, A2, H2, hs2, L', R', fL', fR', FP', w1, w2, q1, q2, g1, g2, hB2, _⟩ := applyBoth (m := ⟨true, true, gl⟩) (k1 := .no) (k2 := .no) (k3 := .no) (k4 := .no) hB (by omega) hl ca cb o1 o2 n1 n2
  have al := fun m H hs => @cAlike m A A2 out H hs q1 q2 (by omega) (rows_short g1)
  obtain ⟨R1, H3, hs3, R2, H4, hs4, w3, w4, q3, q4, hB4, _⟩ := rowsBoth (m := ⟨true, true, gl⟩) hB2 hl
  have nT : (missRows l L' R').length <= L'.length := List.length_filter_le _ _
  have al2 := fun m H hs => @cAlike m R1 R2 (missRows l L' R') H hs q3 q4 (by have := hB4.lL; omega) (rows_short (hB4.iL.g.filter _))
  have z : decide (code = code) = true := decide_eq_true rfl
  rw [W_loop]
  simp (maxSteps := 2000000) only [sG, seval, a3, a9, a11, a13, encAc, e1, e3, e4, e5, lG, spn, D, w1, w2, w3, w4, al, al2]
  apply ih (i + 1) _ H4 hs4 L' R' fL' fR' FP' (by omega) (by rw [show 12 * (i + 1) = 12 * i + 12 by omega]; exact hB4)
  all_goals simp only [sG, seval, a3, a9, a11]
theorem mpn2 {p q : Operand} {o k : Nat} : binO tab .eql 26 p q (some (.ptr o k)) (some (.lit (.pointer none))) = some (.lit (.bool false)) := rfl
theorem mpn3 {p q : Operand} : binO tab .eql 26 p q (some (.lit (.pointer none))) (some (.lit (.pointer none))) = some (.lit (.bool true)) := rfl
theorem spn2 {p q : Operand} {o k : Nat} : binO tab .eql 30 p q (some (.ptr o k)) (some (.lit (.pointer none))) = some (.lit (.bool false)) := rfl
theorem spn3 {p q : Operand} : binO tab .eql 30 p q (some (.lit (.pointer none))) (some (.lit (.pointer none))) = some (.lit (.bool true)) := rfl
theorem spn4 {p q : Operand} : binO tab .neq 30 p q (some (.lit (.pointer none))) (some (.lit (.pointer none))) = some (.lit (.bool false)) := rfl
theorem bnqT {p q : Operand} : binO tab .neq 4 p q (some (.lit (.bool true))) (some (.lit (.bool true))) = some (.lit (.bool false)) := rfl
theorem bnqF {p q : Operand} : binO tab .neq 4 p q (some (.lit (.bool false))) (some (.lit (.bool false))) = some (.lit (.bool false)) := rfl
def OkArg (acs : List Ac) : Prop := ∀ p ∈ acs, ∀ e, e ∈ p.x ∨ e ∈ p.y -> ∀ v ∈ e.r, OkN v /\ v.s.length <= 9223372036854775807
theorem few_ok {acs : List Ac} (h : fewB acs = true) (ho : OkArg acs) : OkAcs acs /\ acs.length <= 12 := by
 unfold fewB at h
 rw [Bool.and_eq_true, Bool.not_eq_true', List.all_eq_true] at h
 obtain ⟨h1, h2⟩ := h
 have h1 := of_decide_eq_false h1
 refine ⟨fun p hp => ?_, by omega⟩
 have h3 := h2 p hp
 unfold okAc at h3
 simp only [Bool.and_eq_true, Bool.not_eq_true', List.all_eq_true] at h3
 obtain ⟨⟨h4, h5⟩, h6, h7⟩ := h3
 have h4 := of_decide_eq_false h4
 have h5 := of_decide_eq_false h5
 have len : ∀ e, okE e = true -> e.r.length < 1000000 := fun e he => by
  unfold okE at he
  rw [Bool.not_eq_true'] at he
  have := of_decide_eq_false he; omega
 exact ⟨fun e he => ⟨⟨len e (h6 e he), fun v hv => (ho p hp e (.inl he) v hv).2⟩, fun v hv => (ho p hp e (.inl he) v hv).1⟩, fun e he => ⟨⟨len e (h7 e he), fun v hv => (ho p hp e (.inr he) v hv).2⟩, fun v hv => (ho p hp e (.inr he) v hv).1⟩, by omega, by omega⟩
theorem law {m : Md} {a b : Int} {l : List Pr} {acs : List Ac} {H : Tr AO} {hs : Nat} (ho : OkArg acs) (hT : ∀ q, hs <= q -> H.get .dead q = .dead) (hkn : ∀ H hs, callF tab (evw tab) ⟨true, true, m.gl⟩ 5 [] H hs = some (.lit (.bool true), H, hs)) :
  ∃ H' hs', callF tab (evw tab) m 3 [.lit (.int .i64 a), .lit (.int .i64 b), .lst .no (l.map encP), .lst .no (acs.map encAc)] H hs = some (.lit (.bool true), H', hs') := by
 have LL := @loopLaw
 simp only [stU, stC, b3, Tryz.f3] at LL
 have cf := fun m H hs => @cFewA m acs .no H hs
 rw [callF_in (fi := fi3) tcon rfl rfl rfl]
 cases h1 : fewB acs with
 | false =>
  refine ⟨H, hs, ?_⟩
  simp (maxSteps := 2000000) only [sG, seval, x3, stU, b3, Tryz.f3, cf, h1, hkn]
 | true =>
  cases h2 : decide ((40 : Int) < (l.length : Int)) with
  | true =>
   refine ⟨H, hs, ?_⟩
   simp (maxSteps := 2000000) only [sG, seval, x3, stU, b3, Tryz.f3, cf, h1, h2, hkn, List.length_map]
  | false =>
   have hl := of_decide_eq_false h2
   obtain ⟨hac, hal2⟩ := few_ok h1 ho
   have cR := fun m H hs => @cNewR m a b l .no H hs (by omega)
   have nc := @new_code a b l
   have z : decide ((2 : Int) = 2) = true := rfl
   have z0 : decide ((0 : Int) = 0) = true := rfl
   rcases cMNew (m := ⟨true, true, m.gl⟩) (a := a) (b := b) (l := l) (kp := .no) (H := H) (hs := hs) (by omega) hT with ⟨g1, M, H1, hs1, w1, ms, l1, u1⟩ | ⟨g1, H1, hs1, w1, l1, u1⟩
   ·rw [g1] at nc
    simp only [nc, cond_true] at cR
    obtain ⟨FP, mf⟩ := ms.f
    have g2 := Bool.and_eq_true_iff.1 g1
    have ca : Cols a (l.map (·.a)) := cols_ok (by have := g2.1; unfold begOk at this; exact (Bool.and_eq_true_iff.1 this).2)
    have cb : Cols b (l.map (·.b)) := cols_ok (by have := g2.2; unfold begOk at this; exact (Bool.and_eq_true_iff.1 this).2)
    have hB : Both (H1.put .dead hs1 (.cells [.lit (.int .i64 a), .lit (.int .i64 b), .lst .no (l.map encP), .lit (.slice none 0 0), .lit (.slice none 0 0)] false)) (hs1 + 1) M hs1 a b l [] [] (fun _ => []) (fun _ => []) FP (12 * 0) := by
     refine ⟨mf.fr (fun q hq => by have := mf.lt q hq; rw [Tr.get_put, if_neg (by omega)]) (by omega), ⟨⟨.no, _, [], _, [], by rw [Tr.get_put, if_pos rfl], .inl ⟨rfl, rfl⟩, rfl, .inl ⟨rfl, rfl⟩, rfl⟩, ⟨List.Pairwise.nil, fun _ h => (by cases h), by decide⟩, ⟨List.Pairwise.nil, fun _ h => (by cases h), by decide⟩⟩, by omega, fun h => by have := mf.lt _ h; omega, ⟨GdB.nil, fun _ h => (by cases h), fun _ h => (by cases h)⟩, ⟨GdB.nil, fun _ h => (by cases h), fun _ h => (by cases h)⟩, fun _ => rfl, fun _ => rfl, Nat.zero_le _, Nat.zero_le _⟩
    simp (maxSteps := 2000000) only [sG, seval, x3, stU, b3, Tryz.f3, cf, h1, h2, List.length_map, w1, cR, mpn2, spn2, bnqF]
    apply LL hac hal2 (by omega) ca cb hkn acs.length 0 _ _ _ _ _ _ _ _ (by simp) hB
    all_goals simp only [sG, seval] <;> rfl
   ·rw [g1] at nc
    simp only [nc, cond_false] at cR
    refine ⟨H1, hs1, ?_⟩
    simp (maxSteps := 2000000) only [sG, seval, x3, stU, b3, Tryz.f3, cf, h1, h2, List.length_map, w1, cR, mpn3, spn3, bnqT]
    rw [W_loop]
    cases h3 : decide ((0 : Int) < (acs.length : Int)) with
    | true => simp (maxSteps := 2000000) only [sG, seval, x3, List.length_map, h3, spn4, hkn]
    | false => simp (maxSteps := 2000000) only [sG, seval, x3, List.length_map, h3, hkn]
end Go.Proofs.YtancionamhenmaaGreat.Ev
