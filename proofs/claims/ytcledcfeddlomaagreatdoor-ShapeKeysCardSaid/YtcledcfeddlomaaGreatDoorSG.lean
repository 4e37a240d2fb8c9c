import Derived.Test.YtcledcfeddlomaaGreatDoorSE
set_option linter.all false
set_option maxRecDepth 100000
set_option maxHeartbeats 40000000
namespace Go.Proofs.YtcledcfeddlomaaGreatDoor.Ev
open Go Go.Proofs.YtcledcfeddlomaaGreatDoor.Ev Go.Proofs Go.Proofs.YtcledcfeddlomaaGreatDoor Go.Proofs.YtcledcfeddlomaaGreatDoor.Tab
def fidxP {α : Type} (p : α -> Bool) : List α -> Nat -> Int
 | [], _ => -1
 | x :: l, i => bif p x then (i : Int) else fidxP p l (i + 1)
theorem fidxP_any {α : Type} (p : α -> Bool) : ∀ (l : List α) (i : Nat), decide (0 <= fidxP p l i) = l.any p
 | [], i => rfl
 | x :: l, i => by
  rw [fidxP, List.any_cons]
  cases h : p x with
  | true => rw [cond_true, Bool.true_or, decide_eq_true_iff]; omega
  | false => rw [cond_false, Bool.false_or]; exact fidxP_any p l (i + 1)
theorem any_not {α : Type} (p : α -> Bool) (l : List α) : (!l.any fun x => !p x) = l.all p := by
 induction l with
 | nil => rfl
 | cons x l ih => rw [List.any_cons, List.all_cons, <- ih]; cases p x <;> simp
theorem bare_Cl (l : List Cd) : bares (l.map encC) = true := bares_mapg (f := encC) (fun _ => rfl) l
theorem nrms_Cl (l : List Cd) : nrms (l.map encC) = l.map encC := nrms_mapg (f := encC) (fun _ => rfl) l
theorem bare_Pl (l : List (Int × Int)) : bares (l.map encPr) = true := bares_mapg (f := encPr) (fun _ => rfl) l
theorem nrms_Pl (l : List (Int × Int)) : nrms (l.map encPr) = l.map encPr := nrms_mapg (f := encPr) (fun _ => rfl) l
theorem bare_Il (l : List Int) : bares (l.map ci) = true := bares_mapg (f := ci) (fun _ => rfl) l
theorem nrms_Il (l : List Int) : nrms (l.map ci) = l.map ci := nrms_mapg (f := ci) (fun _ => rfl) l
def dLB := And.intro bare_Cl (And.intro nrms_Cl (And.intro bare_Pl (And.intro nrms_Pl (And.intro bare_Il nrms_Il))))
def FCd (w : Int) : AV := .fn (.func 77) [] [.eptr [.lit (.int .i64 w)]]
def GCd (w : Int) : AV := .fn (.func 117) [] [.eptr [FCd w]]
theorem cCd0 {m : Md} {x : Cd} {w : Int} {H : Tr AO} {hs : Nat} : callF tab (evw tab) m 77 [encC x, .eptr [.lit (.int .i64 w)]] H hs = some (.lit (.bool (condB x w)), H, hs) := by
 refine callF_iso tcon rfl rfl rfl (iso_ret ?_)
 show RetN (bodyF (evw tab) tab fi77 m [encC x, .eptr [.lit (.int .i64 w)]] .lf 0) _
 have c := fun m H hs => @cCond m x w H hs
 simp only [encC, ci, Vl.cs] at c
 simp (maxSteps := 2000000) only [sG, seval, x77, stU, b77, Tryz.f77, encC, ci, Vl.cs, c, ldv, tt60, isAggD]
theorem cCd1 {m : Md} {x : Cd} {w : Int} {H : Tr AO} {hs : Nat} : callF tab (evw tab) m 117 [encC x, .eptr [FCd w]] H hs = some (.lit (.bool (!(condB x w))), H, hs) := by
 refine callF_iso tcon rfl rfl rfl (iso_ret ?_)
 show RetN (bodyF (evw tab) tab fi117 m [encC x, .eptr [FCd w]] .lf 0) _
 have c := fun m H hs => @cCd0 m x w H hs
 simp (maxSteps := 2000000) only [encC, ci, Vl.cs] at c
 simp (maxSteps := 2000000) only [sG, seval, x117, stU, b117, Tryz.f117, FCd, encC, ci, Vl.cs, c, ldv, tt60, isAggD]
theorem lCd {l : List Cd} {w : Int} {gl : Tr (Option AV)} (hl : l.length < 1000000) : ∀ (k i : Nat) (t : Tr AV) (H : Tr AO) (hs : Nat), i + k = l.length ->
  t.get .any 0 = .lst .no (l.map encC) -> t.get .any 1 = GCd w -> t.get .any 7 = .lit (.int .i64 l.length) -> t.get .any 8 = .lit (.int .i64 i) ->
  RetO tab fi146 (W tab none (fin tab fi146) (lpc fi146 0) (lpk fi146 0) ⟨t, 19, H, hs, [], ⟨true, true, gl⟩⟩) (.lit (.int .i64 (fidxP (fun x => !(condB x w)) (l.drop i) i))) := by
 simp only [stU, stC, b146, Tryz.f146]
 intro k
 induction k with
 | zero =>
  intro i t H hs hi a0 a1 a7 a8
  have e1 : decide ((i : Int) < (l).length) = false := dcF (by omega)
  rw [W_loop, List.drop_of_length_le (by omega)]
  simp only [sG, seval, x146, stU, b146, Tryz.f146, a0, a1, a7, a8, e1, List.length_map]
  rfl
 | succ k ih =>
  intro i t H hs hi a0 a1 a7 a8
  have hlt : i < (l).length := by omega
  obtain ⟨x, hv, e1, e3, e4, e6, e7⟩ := atS hlt
  have e5 := wrap_succ (i := i) (by omega)
  rw [W_loop, e6, fidxP]
  have hC := fun m H hs => @cCd1 m x w H hs
  simp only [GCd] at a1
  cases h1 : (condB x w) with
  | true =>
   simp only [h1] at hC
   simp only [encC, ci, Vl.cs] at hC
   simp (maxSteps := 2000000) only [sG, seval, x146, stU, b146, Tryz.f146, encC, ci, Vl.cs, a0, a1, a7, a8, e1, e3, e4, e5, lG, hC]
   apply ih (i + 1) _ _ _ (by omega)
   all_goals simp only [sG, seval, encC, ci, Vl.cs, GCd, a0, a1, a7, a8]
  | false =>
   simp only [h1] at hC
   simp only [encC, ci, Vl.cs] at hC
   simp (maxSteps := 2000000) only [sG, seval, x146, stU, b146, Tryz.f146, encC, ci, Vl.cs, a0, a1, a7, a8, e1, e3, e4, e5, lG, hC]
   rfl
theorem eCd2 {m : Md} {l : List Cd} {w : Int} (hl : l.length < 1000000) : isoO (evw tab) tab fi146 m [.lst .no (l.map encC), GCd w] = some (.lit (.int .i64 (fidxP (fun x => !(condB x w)) l 0))) := by
 refine own_ret ?_
 have L := @lCd l w m.gl hl l.length 0
 simp only [stU, stC, b146, Tryz.f146] at L
 simp only [sG, seval, x146, stU, b146, Tryz.f146, List.length_map]
 apply L
 ·simp
 all_goals first | (simp only [sG, seval]; done) | (simp only [sG, seval]; rfl)
theorem cCd2 {m : Md} {l : List Cd} {w : Int} {H : Tr AO} {hs : Nat} (hl : l.length < 1000000) : callF tab (evw tab) m 146 [.lst .no (l.map encC), GCd w] H hs = some (.lit (.int .i64 (fidxP (fun x => !(condB x w)) l 0)), H, hs) :=
 callF_own (H1 := H) tcon rfl rfl rfl (bs := [.lst .no (l.map encC), GCd w]) (by simp only [bares, bare, dLB, GCd, FCd]; rfl) (by simp only [bares, bare, dLB, GCd, FCd]; rfl) (by have := @eCd2 m l w hl; simp only [nrms, nrm, dLB, GCd, FCd] at this ⊢; exact this)
theorem eCd3 {m : Md} {l : List Cd} {w : Int} (hl : l.length < 1000000) : isoO (evw tab) tab fi116 m [.lst .no (l.map encC), GCd w] = some (.lit (.bool (l.any fun x => !(condB x w)))) := by
 refine own_ret ?_
 have c := fun m H hs => @cCd2 m l w H hs hl
 rw [<- fidxP_any _ l 0]
 simp only [sG, seval, x116, stU, b116, Tryz.f116, c]
 rfl
theorem cCdp {m : Md} {l : List Cd} {w : Int} {o : Nat} {H : Tr AO} {hs : Nat} (hl : l.length < 1000000) (h : H.get .dead o = .cells [FCd w] false) : callF tab (evw tab) m 116 [.lst .no (l.map encC), .fn (.func 117) [] [.ptr o 0]] H hs = some (.lit (.bool (l.any fun x => !(condB x w))), H, hs) := by
 obtain ⟨i, i1, i2⟩ : ∃ i, tab.t 122 = some i /\ i.size = 1 := ⟨_, rfl, rfl⟩
 have hf : frz tab 300 122 (.fn (.func 117) [] [.ptr o 0]) H = some (GCd w, H.put .dead o (.cells [FCd w] true)) := by
  refine frz_fn (fi := fi117) (d := 299) rfl ?_ rfl
  have hp : frz tab 299 (1000000 + 122) (.ptr o 0) H = some (.eptr [FCd w], H.put .dead o (.cells [FCd w] true)) :=
   frz_ptr (d := 297) (e := 122) (l := [FCd w]) (by rfl) i1 h (by unfold rd; rw [h, i2]; rfl) (by rfl) rfl
  show frzL (frz tab 299) [1000000 + 122] [.ptr o 0] H = _
  simp only [frzL, hp]
 refine callF_own (H1 := H.put .dead o (.cells [FCd w] true)) tcon rfl rfl rfl (bs := [.lst .no (l.map encC), GCd w]) ?_ (by simp only [bares, bare, dLB, GCd, FCd]; rfl) (by have := @eCd3 m l w hl; simp only [nrms, nrm, dLB, GCd, FCd] at this ⊢; exact this)
 simp only [bares, bare, dLB, Bool.true_and, Bool.false_and, cond_false]
 show frzL (frz tab 300) [43, 122] [.lst .no (l.map encC), .fn (.func 117) [] [.ptr o 0]] H = _
 rw [frzL, frz_bare (d := 299) (v := .lst .no (l.map encC)) (by simp only [bare, dLB])]
 simp only [frzL, hf, nrm, dLB]
theorem eCd4 {m : Md} {l : List Cd} {w : Int} (hl : l.length < 1000000) : isoO (evw tab) tab fi76 m [.lst .no (l.map encC), FCd w] = some (.lit (.bool (l.all fun x => (condB x w)))) := by
 refine own_ret ?_
 have c := fun m o H hs => @cCdp m l w o H hs hl
 rw [<- any_not]
 simp (maxSteps := 2000000) only [FCd] at c ⊢
 simp (maxSteps := 2000000) only [sG, seval, x76, stU, b76, Tryz.f76, c]
 rfl
theorem cCd4 {m : Md} {l : List Cd} {w : Int} {o : Nat} {H : Tr AO} {hs : Nat} (hl : l.length < 1000000) (h : H.get .dead o = .cells [.lit (.int .i64 w)] false) : callF tab (evw tab) m 76 [.lst .no (l.map encC), .fn (.func 77) [] [.ptr o 0]] H hs = some (.lit (.bool (l.all fun x => (condB x w))), H, hs) := by
 obtain ⟨i, i1, i2⟩ : ∃ i, tab.t 3 = some i /\ i.size = 1 := ⟨_, rfl, rfl⟩
 have hf : frz tab 300 122 (.fn (.func 77) [] [.ptr o 0]) H = some (FCd w, H.put .dead o (.cells [.lit (.int .i64 w)] true)) := by
  refine frz_fn (fi := fi77) (d := 299) rfl ?_ rfl
  have hp : frz tab 299 1000003 (.ptr o 0) H = some (.eptr [.lit (.int .i64 w)], H.put .dead o (.cells [.lit (.int .i64 w)] true)) :=
   frz_ptr (d := 297) (e := 3) (l := [.lit (.int .i64 w)]) (by rfl) i1 h (by unfold rd; rw [h, i2]; rfl) (by rfl) rfl
  show frzL (frz tab 299) [1000003] [.ptr o 0] H = _
  simp only [frzL, hp]
 refine callF_own (H1 := H.put .dead o (.cells [.lit (.int .i64 w)] true)) tcon rfl rfl rfl (bs := [.lst .no (l.map encC), FCd w]) ?_ (by simp only [bares, bare, dLB, FCd]; rfl) (by have := @eCd4 m l w hl; simp only [nrms, nrm, dLB, FCd] at this ⊢; exact this)
 simp only [bares, bare, dLB, Bool.true_and, Bool.false_and, cond_false]
 show frzL (frz tab 300) [43, 122] [.lst .no (l.map encC), .fn (.func 77) [] [.ptr o 0]] H = _
 rw [frzL, frz_bare (d := 299) (v := .lst .no (l.map encC)) (by simp only [bare, dLB])]
 simp only [frzL, hf, nrm, dLB]
def FPr (a b : Int) : AV := .fn (.func 73) [] [.eptr [.lit (.int .i64 a)], .eptr [.lit (.int .i64 b)]]
def GPr (a b : Int) : AV := .fn (.func 122) [] [.eptr [FPr a b]]
def pairB (x : Int × Int) (a b : Int) : Bool := colB x.1 a && colB x.2 b
theorem cPr0 {m : Md} {x : Int × Int} {a b : Int} {H : Tr AO} {hs : Nat} : callF tab (evw tab) m 73 [encPr x, .eptr [.lit (.int .i64 a)], .eptr [.lit (.int .i64 b)]] H hs = some (.lit (.bool (pairB x a b)), H, hs) := by
 refine callF_iso tcon rfl rfl rfl (iso_ret ?_)
 show RetN (bodyF (evw tab) tab fi73 m [encPr x, .eptr [.lit (.int .i64 a)], .eptr [.lit (.int .i64 b)]] .lf 0) _
 unfold pairB colB
 cases h1 : decide (0 <= x.1) <;> cases h2 : decide (x.1 < a) <;> cases h3 : decide (0 <= x.2) <;> cases h4 : decide (x.2 < b)
 all_goals simp (maxSteps := 2000000) only [sG, seval, x73, stU, b73, Tryz.f73, encPr, ci, h1, h2, h3, h4]
theorem cPr1 {m : Md} {x : (Int × Int)} {a b : Int} {H : Tr AO} {hs : Nat} : callF tab (evw tab) m 122 [encPr x, .eptr [FPr a b]] H hs = some (.lit (.bool (!(pairB x a b))), H, hs) := by
 refine callF_iso tcon rfl rfl rfl (iso_ret ?_)
 show RetN (bodyF (evw tab) tab fi122 m [encPr x, .eptr [FPr a b]] .lf 0) _
 have c := fun m H hs => @cPr0 m x a b H hs
 simp (maxSteps := 2000000) only [encPr, ci] at c
 simp (maxSteps := 2000000) only [sG, seval, x122, stU, b122, Tryz.f122, FPr, encPr, ci, c, ldv, tt62, isAggD]
theorem lPr {l : List (Int × Int)} {a b : Int} {gl : Tr (Option AV)} (hl : l.length < 1000000) : ∀ (k i : Nat) (t : Tr AV) (H : Tr AO) (hs : Nat), i + k = l.length ->
  t.get .any 0 = .lst .no (l.map encPr) -> t.get .any 1 = GPr a b -> t.get .any 7 = .lit (.int .i64 l.length) -> t.get .any 8 = .lit (.int .i64 i) ->
  RetO tab fi147 (W tab none (fin tab fi147) (lpc fi147 0) (lpk fi147 0) ⟨t, 19, H, hs, [], ⟨true, true, gl⟩⟩) (.lit (.int .i64 (fidxP (fun x => !(pairB x a b)) (l.drop i) i))) := by
 simp only [stU, stC, b147, Tryz.f147]
 intro k
 induction k with
 | zero =>
  intro i t H hs hi a0 a1 a7 a8
  have e1 : decide ((i : Int) < (l).length) = false := dcF (by omega)
  rw [W_loop, List.drop_of_length_le (by omega)]
  simp only [sG, seval, x147, stU, b147, Tryz.f147, a0, a1, a7, a8, e1, List.length_map]
  rfl
 | succ k ih =>
  intro i t H hs hi a0 a1 a7 a8
  have hlt : i < (l).length := by omega
  obtain ⟨x, hv, e1, e3, e4, e6, e7⟩ := atS hlt
  have e5 := wrap_succ (i := i) (by omega)
  rw [W_loop, e6, fidxP]
  have hC := fun m H hs => @cPr1 m x a b H hs
  simp only [GPr] at a1
  cases h1 : (pairB x a b) with
  | true =>
   simp only [h1] at hC
   simp only [encPr, ci] at hC
   simp (maxSteps := 2000000) only [sG, seval, x147, stU, b147, Tryz.f147, encPr, ci, a0, a1, a7, a8, e1, e3, e4, e5, lG, hC]
   apply ih (i + 1) _ _ _ (by omega)
   all_goals simp only [sG, seval, encPr, ci, GPr, a0, a1, a7, a8]
  | false =>
   simp only [h1] at hC
   simp only [encPr, ci] at hC
   simp (maxSteps := 2000000) only [sG, seval, x147, stU, b147, Tryz.f147, encPr, ci, a0, a1, a7, a8, e1, e3, e4, e5, lG, hC]
   rfl
theorem ePr2 {m : Md} {l : List (Int × Int)} {a b : Int} (hl : l.length < 1000000) : isoO (evw tab) tab fi147 m [.lst .no (l.map encPr), GPr a b] = some (.lit (.int .i64 (fidxP (fun x => !(pairB x a b)) l 0))) := by
 refine own_ret ?_
 have L := @lPr l a b m.gl hl l.length 0
 simp only [stU, stC, b147, Tryz.f147] at L
 simp only [sG, seval, x147, stU, b147, Tryz.f147, List.length_map]
 apply L
 ·simp
 all_goals first | (simp only [sG, seval]; done) | (simp only [sG, seval]; rfl)
theorem cPr2 {m : Md} {l : List (Int × Int)} {a b : Int} {H : Tr AO} {hs : Nat} (hl : l.length < 1000000) : callF tab (evw tab) m 147 [.lst .no (l.map encPr), GPr a b] H hs = some (.lit (.int .i64 (fidxP (fun x => !(pairB x a b)) l 0)), H, hs) :=
 callF_own (H1 := H) tcon rfl rfl rfl (bs := [.lst .no (l.map encPr), GPr a b]) (by simp only [bares, bare, dLB, GPr, FPr]; rfl) (by simp only [bares, bare, dLB, GPr, FPr]; rfl) (by have := @ePr2 m l a b hl; simp only [nrms, nrm, dLB, GPr, FPr] at this ⊢; exact this)
theorem ePr3 {m : Md} {l : List (Int × Int)} {a b : Int} (hl : l.length < 1000000) : isoO (evw tab) tab fi121 m [.lst .no (l.map encPr), GPr a b] = some (.lit (.bool (l.any fun x => !(pairB x a b)))) := by
 refine own_ret ?_
 have c := fun m H hs => @cPr2 m l a b H hs hl
 rw [<- fidxP_any _ l 0]
 simp only [sG, seval, x121, stU, b121, Tryz.f121, c]
 rfl
theorem cPrp {m : Md} {l : List (Int × Int)} {a b : Int} {o : Nat} {H : Tr AO} {hs : Nat} (hl : l.length < 1000000) (h : H.get .dead o = .cells [FPr a b] false) : callF tab (evw tab) m 121 [.lst .no (l.map encPr), .fn (.func 122) [] [.ptr o 0]] H hs = some (.lit (.bool (l.any fun x => !(pairB x a b))), H, hs) := by
 obtain ⟨i, i1, i2⟩ : ∃ i, tab.t 118 = some i /\ i.size = 1 := ⟨_, rfl, rfl⟩
 have hf : frz tab 300 118 (.fn (.func 122) [] [.ptr o 0]) H = some (GPr a b, H.put .dead o (.cells [FPr a b] true)) := by
  refine frz_fn (fi := fi122) (d := 299) rfl ?_ rfl
  have hp : frz tab 299 (1000000 + 118) (.ptr o 0) H = some (.eptr [FPr a b], H.put .dead o (.cells [FPr a b] true)) :=
   frz_ptr (d := 297) (e := 118) (l := [FPr a b]) (by rfl) i1 h (by unfold rd; rw [h, i2]; rfl) (by rfl) rfl
  show frzL (frz tab 299) [1000000 + 118] [.ptr o 0] H = _
  simp only [frzL, hp]
 refine callF_own (H1 := H.put .dead o (.cells [FPr a b] true)) tcon rfl rfl rfl (bs := [.lst .no (l.map encPr), GPr a b]) ?_ (by simp only [bares, bare, dLB, GPr, FPr]; rfl) (by have := @ePr3 m l a b hl; simp only [nrms, nrm, dLB, GPr, FPr] at this ⊢; exact this)
 simp only [bares, bare, dLB, Bool.true_and, Bool.false_and, cond_false]
 show frzL (frz tab 300) [44, 118] [.lst .no (l.map encPr), .fn (.func 122) [] [.ptr o 0]] H = _
 rw [frzL, frz_bare (d := 299) (v := .lst .no (l.map encPr)) (by simp only [bare, dLB])]
 simp only [frzL, hf, nrm, dLB]
theorem ePr4 {m : Md} {l : List (Int × Int)} {a b : Int} (hl : l.length < 1000000) : isoO (evw tab) tab fi79 m [.lst .no (l.map encPr), FPr a b] = some (.lit (.bool (l.all fun x => (pairB x a b)))) := by
 refine own_ret ?_
 have c := fun m o H hs => @cPrp m l a b o H hs hl
 rw [<- any_not]
 simp (maxSteps := 2000000) only [FPr] at c ⊢
 simp (maxSteps := 2000000) only [sG, seval, x79, stU, b79, Tryz.f79, c]
 rfl
theorem cPr4 {m : Md} {l : List (Int × Int)} {a b : Int} {o o' : Nat} {H : Tr AO} {hs : Nat} (hl : l.length < 1000000) (ho : o ≠ o') (h : H.get .dead o = .cells [.lit (.int .i64 a)] false) (h' : H.get .dead o' = .cells [.lit (.int .i64 b)] false) : callF tab (evw tab) m 79 [.lst .no (l.map encPr), .fn (.func 73) [] [.ptr o 0, .ptr o' 0]] H hs = some (.lit (.bool (l.all fun x => (pairB x a b))), H, hs) := by
 obtain ⟨i, i1, i2⟩ : ∃ i, tab.t 3 = some i /\ i.size = 1 := ⟨_, rfl, rfl⟩
 have h2 : (H.put .dead o (.cells [.lit (.int .i64 a)] true)).get .dead o' = .cells [.lit (.int .i64 b)] false := by rw [Tr.get_put, if_neg (fun e => ho e.symm)]; exact h'
 have hf : frz tab 300 118 (.fn (.func 73) [] [.ptr o 0, .ptr o' 0]) H = some (FPr a b, (H.put .dead o (.cells [.lit (.int .i64 a)] true)).put .dead o' (.cells [.lit (.int .i64 b)] true)) := by
  refine frz_fn (fi := fi73) (d := 299) rfl ?_ rfl
  have hp : frz tab 299 1000003 (.ptr o 0) H = some (.eptr [.lit (.int .i64 a)], H.put .dead o (.cells [.lit (.int .i64 a)] true)) :=
   frz_ptr (d := 297) (e := 3) (l := [.lit (.int .i64 a)]) (by rfl) i1 h (by unfold rd; rw [h, i2]; rfl) (by rfl) rfl
  have hp' : frz tab 299 1000003 (.ptr o' 0) (H.put .dead o (.cells [.lit (.int .i64 a)] true)) = some (.eptr [.lit (.int .i64 b)], (H.put .dead o (.cells [.lit (.int .i64 a)] true)).put .dead o' (.cells [.lit (.int .i64 b)] true)) :=
   frz_ptr (d := 297) (e := 3) (l := [.lit (.int .i64 b)]) (by rfl) i1 h2 (by unfold rd; rw [h2, i2]; rfl) (by rfl) rfl
  show frzL (frz tab 299) [1000003, 1000003] [.ptr o 0, .ptr o' 0] H = _
  simp only [frzL, hp, hp']
 refine callF_own (H1 := (H.put .dead o (.cells [.lit (.int .i64 a)] true)).put .dead o' (.cells [.lit (.int .i64 b)] true)) tcon rfl rfl rfl (bs := [.lst .no (l.map encPr), FPr a b]) ?_ (by simp only [bares, bare, dLB, FPr]; rfl) (by have := @ePr4 m l a b hl; simp only [nrms, nrm, dLB, FPr] at this ⊢; exact this)
 simp only [bares, bare, dLB, Bool.true_and, Bool.false_and, cond_false]
 show frzL (frz tab 300) [44, 118] [.lst .no (l.map encPr), .fn (.func 73) [] [.ptr o 0, .ptr o' 0]] H = _
 rw [frzL, frz_bare (d := 299) (v := .lst .no (l.map encPr)) (by simp only [bare, dLB])]
 simp only [frzL, hf, nrm, dLB]
def FCi (w : Int) : AV := .fn (.func 74) [] [.eptr [.lit (.int .i64 w)]]
def GCi (w : Int) : AV := .fn (.func 124) [] [.eptr [FCi w]]
theorem cCi0 {m : Md} {x : Int} {w : Int} {H : Tr AO} {hs : Nat} : callF tab (evw tab) m 74 [ci x, .eptr [.lit (.int .i64 w)]] H hs = some (.lit (.bool (colB x w)), H, hs) := by
 rw [callF_in (fi := fi74) tcon rfl rfl rfl]
 unfold colB
 cases h1 : decide (0 <= x) <;> simp (maxSteps := 2000000) only [sG, seval, x74, stU, b74, Tryz.f74, ci, h1]
theorem cCi1 {m : Md} {x : Int} {w : Int} {H : Tr AO} {hs : Nat} : callF tab (evw tab) m 124 [ci x, .eptr [FCi w]] H hs = some (.lit (.bool (!(colB x w))), H, hs) := by
 refine callF_iso tcon rfl rfl rfl (iso_ret ?_)
 show RetN (bodyF (evw tab) tab fi124 m [ci x, .eptr [FCi w]] .lf 0) _
 have c := fun m H hs => @cCi0 m x w H hs
 simp (maxSteps := 2000000) only [ci, ci] at c
 simp (maxSteps := 2000000) only [sG, seval, x124, stU, b124, Tryz.f124, FCi, ci, ci, c, ldv, isAggD]
theorem lCi {l : List Int} {w : Int} {gl : Tr (Option AV)} (hl : l.length < 1000000) : ∀ (k i : Nat) (t : Tr AV) (H : Tr AO) (hs : Nat), i + k = l.length ->
  t.get .any 0 = .lst .no (l.map ci) -> t.get .any 1 = GCi w -> t.get .any 7 = .lit (.int .i64 l.length) -> t.get .any 8 = .lit (.int .i64 i) ->
  RetO tab fi148 (W tab none (fin tab fi148) (lpc fi148 0) (lpk fi148 0) ⟨t, 19, H, hs, [], ⟨true, true, gl⟩⟩) (.lit (.int .i64 (fidxP (fun x => !(colB x w)) (l.drop i) i))) := by
 simp only [stU, stC, b148, Tryz.f148]
 intro k
 induction k with
 | zero =>
  intro i t H hs hi a0 a1 a7 a8
  have e1 : decide ((i : Int) < (l).length) = false := dcF (by omega)
  rw [W_loop, List.drop_of_length_le (by omega)]
  simp only [sG, seval, x148, stU, b148, Tryz.f148, a0, a1, a7, a8, e1, List.length_map]
  rfl
 | succ k ih =>
  intro i t H hs hi a0 a1 a7 a8
  have hlt : i < (l).length := by omega
  obtain ⟨x, hv, e1, e3, e4, e6, e7⟩ := atS hlt
  have e5 := wrap_succ (i := i) (by omega)
  rw [W_loop, e6, fidxP]
  have hC := fun m H hs => @cCi1 m x w H hs
  simp only [GCi] at a1
  cases h1 : (colB x w) with
  | true =>
   simp only [h1] at hC
   simp only [ci, ci] at hC
   simp (maxSteps := 2000000) only [sG, seval, x148, stU, b148, Tryz.f148, ci, ci, a0, a1, a7, a8, e1, e3, e4, e5, lG, hC]
   apply ih (i + 1) _ _ _ (by omega)
   all_goals simp only [sG, seval, ci, ci, GCi, a0, a1, a7, a8]
  | false =>
   simp only [h1] at hC
   simp only [ci, ci] at hC
   simp (maxSteps := 2000000) only [sG, seval, x148, stU, b148, Tryz.f148, ci, ci, a0, a1, a7, a8, e1, e3, e4, e5, lG, hC]
   rfl
theorem eCi2 {m : Md} {l : List Int} {w : Int} (hl : l.length < 1000000) : isoO (evw tab) tab fi148 m [.lst .no (l.map ci), GCi w] = some (.lit (.int .i64 (fidxP (fun x => !(colB x w)) l 0))) := by
 refine own_ret ?_
 have L := @lCi l w m.gl hl l.length 0
 simp only [stU, stC, b148, Tryz.f148] at L
 simp only [sG, seval, x148, stU, b148, Tryz.f148, List.length_map]
 apply L
 ·simp
 all_goals first | (simp only [sG, seval]; done) | (simp only [sG, seval]; rfl)
theorem cCi2 {m : Md} {l : List Int} {w : Int} {H : Tr AO} {hs : Nat} (hl : l.length < 1000000) : callF tab (evw tab) m 148 [.lst .no (l.map ci), GCi w] H hs = some (.lit (.int .i64 (fidxP (fun x => !(colB x w)) l 0)), H, hs) :=
 callF_own (H1 := H) tcon rfl rfl rfl (bs := [.lst .no (l.map ci), GCi w]) (by simp only [bares, bare, dLB, GCi, FCi]; rfl) (by simp only [bares, bare, dLB, GCi, FCi]; rfl) (by have := @eCi2 m l w hl; simp only [nrms, nrm, dLB, GCi, FCi] at this ⊢; exact this)
theorem eCi3 {m : Md} {l : List Int} {w : Int} (hl : l.length < 1000000) : isoO (evw tab) tab fi123 m [.lst .no (l.map ci), GCi w] = some (.lit (.bool (l.any fun x => !(colB x w)))) := by
 refine own_ret ?_
 have c := fun m H hs => @cCi2 m l w H hs hl
 rw [<- fidxP_any _ l 0]
 simp only [sG, seval, x123, stU, b123, Tryz.f123, c]
 rfl
theorem cCip {m : Md} {l : List Int} {w : Int} {o : Nat} {H : Tr AO} {hs : Nat} (hl : l.length < 1000000) (h : H.get .dead o = .cells [FCi w] false) : callF tab (evw tab) m 123 [.lst .no (l.map ci), .fn (.func 124) [] [.ptr o 0]] H hs = some (.lit (.bool (l.any fun x => !(colB x w))), H, hs) := by
 obtain ⟨i, i1, i2⟩ : ∃ i, tab.t 119 = some i /\ i.size = 1 := ⟨_, rfl, rfl⟩
 have hf : frz tab 300 119 (.fn (.func 124) [] [.ptr o 0]) H = some (GCi w, H.put .dead o (.cells [FCi w] true)) := by
  refine frz_fn (fi := fi124) (d := 299) rfl ?_ rfl
  have hp : frz tab 299 (1000000 + 119) (.ptr o 0) H = some (.eptr [FCi w], H.put .dead o (.cells [FCi w] true)) :=
   frz_ptr (d := 297) (e := 119) (l := [FCi w]) (by rfl) i1 h (by unfold rd; rw [h, i2]; rfl) (by rfl) rfl
  show frzL (frz tab 299) [1000000 + 119] [.ptr o 0] H = _
  simp only [frzL, hp]
 refine callF_own (H1 := H.put .dead o (.cells [FCi w] true)) tcon rfl rfl rfl (bs := [.lst .no (l.map ci), GCi w]) ?_ (by simp only [bares, bare, dLB, GCi, FCi]; rfl) (by have := @eCi3 m l w hl; simp only [nrms, nrm, dLB, GCi, FCi] at this ⊢; exact this)
 simp only [bares, bare, dLB, Bool.true_and, Bool.false_and, cond_false]
 show frzL (frz tab 300) [45, 119] [.lst .no (l.map ci), .fn (.func 124) [] [.ptr o 0]] H = _
 rw [frzL, frz_bare (d := 299) (v := .lst .no (l.map ci)) (by simp only [bare, dLB])]
 simp only [frzL, hf, nrm, dLB]
theorem eCi4 {m : Md} {l : List Int} {w : Int} (hl : l.length < 1000000) : isoO (evw tab) tab fi80 m [.lst .no (l.map ci), FCi w] = some (.lit (.bool (l.all fun x => (colB x w)))) := by
 refine own_ret ?_
 have c := fun m o H hs => @cCip m l w o H hs hl
 rw [<- any_not]
 simp (maxSteps := 2000000) only [FCi] at c ⊢
 simp (maxSteps := 2000000) only [sG, seval, x80, stU, b80, Tryz.f80, c]
 rfl
theorem cCi4 {m : Md} {l : List Int} {w : Int} {o : Nat} {H : Tr AO} {hs : Nat} (hl : l.length < 1000000) (h : H.get .dead o = .cells [.lit (.int .i64 w)] false) : callF tab (evw tab) m 80 [.lst .no (l.map ci), .fn (.func 74) [] [.ptr o 0]] H hs = some (.lit (.bool (l.all fun x => (colB x w))), H, hs) := by
 obtain ⟨i, i1, i2⟩ : ∃ i, tab.t 3 = some i /\ i.size = 1 := ⟨_, rfl, rfl⟩
 have hf : frz tab 300 119 (.fn (.func 74) [] [.ptr o 0]) H = some (FCi w, H.put .dead o (.cells [.lit (.int .i64 w)] true)) := by
  refine frz_fn (fi := fi74) (d := 299) rfl ?_ rfl
  have hp : frz tab 299 1000003 (.ptr o 0) H = some (.eptr [.lit (.int .i64 w)], H.put .dead o (.cells [.lit (.int .i64 w)] true)) :=
   frz_ptr (d := 297) (e := 3) (l := [.lit (.int .i64 w)]) (by rfl) i1 h (by unfold rd; rw [h, i2]; rfl) (by rfl) rfl
  show frzL (frz tab 299) [1000003] [.ptr o 0] H = _
  simp only [frzL, hp]
 refine callF_own (H1 := H.put .dead o (.cells [.lit (.int .i64 w)] true)) tcon rfl rfl rfl (bs := [.lst .no (l.map ci), FCi w]) ?_ (by simp only [bares, bare, dLB, FCi]; rfl) (by have := @eCi4 m l w hl; simp only [nrms, nrm, dLB, FCi] at this ⊢; exact this)
 simp only [bares, bare, dLB, Bool.true_and, Bool.false_and, cond_false]
 show frzL (frz tab 300) [45, 119] [.lst .no (l.map ci), .fn (.func 74) [] [.ptr o 0]] H = _
 rw [frzL, frz_bare (d := 299) (v := .lst .no (l.map ci)) (by simp only [bare, dLB])]
 simp only [frzL, hf, nrm, dLB]
def isNil : Nd -> Bool
 | .nil => true
 | _ => false
def bareB (k : Int) (nm : List UInt8) (w : Int) (cs : List Cd) (ps : List (Int × Int)) (cl : List Int) (ag of : Int) (l r : Nd) : Bool :=
 bif !decide (k = 1) && (!(nm == []) || !decide (w = 0)) then false else
 bif !decide (k = 2) && decide ((0 : Int) < cs.length) then false else
 bif !(decide (k = 3) || decide (k = 4)) && decide ((0 : Int) < ps.length) then false else
 bif !(decide (k = 5) || decide (k = 7)) && decide ((0 : Int) < cl.length) then false else
 bif !decide (k = 7) && (!decide (ag = 0) || !decide (of = 0)) then false else
 bif decide (k = 1) then isNil l && isNil r else !isNil l && ((decide (k = 3) || decide (k = 4)) == !isNil r)
theorem bEq {p q : Operand} {a b : Bool} : binO tab .eql 4 p q (some (.lit (.bool a))) (some (.lit (.bool b))) = some (.lit (.bool (a == b))) := rfl
theorem eqBare1 {m : Md} {nm : List UInt8} {w : Int} {cs : List Cd} {ps : List (Int × Int)} {cl : List Int} {ag of : Int} {l r : Nd} : iso tab fi43 m [encN (.mk 1 nm w cs ps cl ag of l r)] = some (.lit (.bool (bareB 1 nm w cs ps cl ag of l r))) := by
 have D := d43
 simp only [stD, stC, List.cons.injEq, b43, Tryz.f43] at D
 refine iso_ret ?_
 unfold bareB
 cases a3 : decide ((0 : Int) < cs.length) with
 | true =>
  simp (maxSteps := 4000000) only [sG, seval, x43, stU, b43, Tryz.f43, encN, ci, isNil, D, dPN, bEq, List.length_map, Bool.not_true, Bool.not_false, a3]
  try rfl
 | false =>
  cases a4 : decide ((0 : Int) < ps.length) with
  | true =>
   simp (maxSteps := 4000000) only [sG, seval, x43, stU, b43, Tryz.f43, encN, ci, isNil, D, dPN, bEq, List.length_map, Bool.not_true, Bool.not_false, a3, a4]
   try rfl
  | false =>
   cases a5 : decide ((0 : Int) < cl.length) with
   | true =>
    simp (maxSteps := 4000000) only [sG, seval, x43, stU, b43, Tryz.f43, encN, ci, isNil, D, dPN, bEq, List.length_map, Bool.not_true, Bool.not_false, a3, a4, a5]
    try rfl
   | false =>
    cases a6 : decide (ag = 0) with
    | false =>
     simp (maxSteps := 4000000) only [sG, seval, x43, stU, b43, Tryz.f43, encN, ci, isNil, D, dPN, bEq, List.length_map, Bool.not_true, Bool.not_false, a3, a4, a5, a6]
     try rfl
    | true =>
     cases a7 : decide (of = 0) with
     | false =>
      simp (maxSteps := 4000000) only [sG, seval, x43, stU, b43, Tryz.f43, encN, ci, isNil, D, dPN, bEq, List.length_map, Bool.not_true, Bool.not_false, a3, a4, a5, a6, a7]
      try rfl
     | true =>
      cases l <;> cases r
      all_goals simp (maxSteps := 4000000) only [sG, seval, x43, stU, b43, Tryz.f43, encN, ci, isNil, D, dPN, bEq, List.length_map, Bool.not_true, Bool.not_false, a3, a4, a5, a6, a7]
      all_goals try rfl
theorem eqBare2 {m : Md} {nm : List UInt8} {w : Int} {cs : List Cd} {ps : List (Int × Int)} {cl : List Int} {ag of : Int} {l r : Nd} : iso tab fi43 m [encN (.mk 2 nm w cs ps cl ag of l r)] = some (.lit (.bool (bareB 2 nm w cs ps cl ag of l r))) := by
 have D := d43
 simp only [stD, stC, List.cons.injEq, b43, Tryz.f43] at D
 refine iso_ret ?_
 unfold bareB
 cases a1 : (nm == []) with
 | false =>
  simp (maxSteps := 4000000) only [sG, seval, x43, stU, b43, Tryz.f43, encN, ci, isNil, D, dPN, bEq, List.length_map, Bool.not_true, Bool.not_false, a1]
  try rfl
 | true =>
  cases a2 : decide (w = 0) with
  | false =>
   simp (maxSteps := 4000000) only [sG, seval, x43, stU, b43, Tryz.f43, encN, ci, isNil, D, dPN, bEq, List.length_map, Bool.not_true, Bool.not_false, a1, a2]
   try rfl
  | true =>
   cases a4 : decide ((0 : Int) < ps.length) with
   | true =>
    simp (maxSteps := 4000000) only [sG, seval, x43, stU, b43, Tryz.f43, encN, ci, isNil, D, dPN, bEq, List.length_map, Bool.not_true, Bool.not_false, a1, a2, a4]
    try rfl
   | false =>
    cases a5 : decide ((0 : Int) < cl.length) with
    | true =>
     simp (maxSteps := 4000000) only [sG, seval, x43, stU, b43, Tryz.f43, encN, ci, isNil, D, dPN, bEq, List.length_map, Bool.not_true, Bool.not_false, a1, a2, a4, a5]
     try rfl
    | false =>
     cases a6 : decide (ag = 0) with
     | false =>
      simp (maxSteps := 4000000) only [sG, seval, x43, stU, b43, Tryz.f43, encN, ci, isNil, D, dPN, bEq, List.length_map, Bool.not_true, Bool.not_false, a1, a2, a4, a5, a6]
      try rfl
     | true =>
      cases a7 : decide (of = 0) with
      | false =>
       simp (maxSteps := 4000000) only [sG, seval, x43, stU, b43, Tryz.f43, encN, ci, isNil, D, dPN, bEq, List.length_map, Bool.not_true, Bool.not_false, a1, a2, a4, a5, a6, a7]
       try rfl
      | true =>
       cases l <;> cases r
       all_goals simp (maxSteps := 4000000) only [sG, seval, x43, stU, b43, Tryz.f43, encN, ci, isNil, D, dPN, bEq, List.length_map, Bool.not_true, Bool.not_false, a1, a2, a4, a5, a6, a7]
       all_goals try rfl
theorem eqBare3 {m : Md} {nm : List UInt8} {w : Int} {cs : List Cd} {ps : List (Int × Int)} {cl : List Int} {ag of : Int} {l r : Nd} : iso tab fi43 m [encN (.mk 3 nm w cs ps cl ag of l r)] = some (.lit (.bool (bareB 3 nm w cs ps cl ag of l r))) := by
 have D := d43
 simp only [stD, stC, List.cons.injEq, b43, Tryz.f43] at D
 refine iso_ret ?_
 unfold bareB
 cases a1 : (nm == []) with
 | false =>
  simp (maxSteps := 4000000) only [sG, seval, x43, stU, b43, Tryz.f43, encN, ci, isNil, D, dPN, bEq, List.length_map, Bool.not_true, Bool.not_false, a1]
  try rfl
 | true =>
  cases a2 : decide (w = 0) with
  | false =>
   simp (maxSteps := 4000000) only [sG, seval, x43, stU, b43, Tryz.f43, encN, ci, isNil, D, dPN, bEq, List.length_map, Bool.not_true, Bool.not_false, a1, a2]
   try rfl
  | true =>
   cases a3 : decide ((0 : Int) < cs.length) with
   | true =>
    simp (maxSteps := 4000000) only [sG, seval, x43, stU, b43, Tryz.f43, encN, ci, isNil, D, dPN, bEq, List.length_map, Bool.not_true, Bool.not_false, a1, a2, a3]
    try rfl
   | false =>
    cases a5 : decide ((0 : Int) < cl.length) with
    | true =>
     simp (maxSteps := 4000000) only [sG, seval, x43, stU, b43, Tryz.f43, encN, ci, isNil, D, dPN, bEq, List.length_map, Bool.not_true, Bool.not_false, a1, a2, a3, a5]
     try rfl
    | false =>
     cases a6 : decide (ag = 0) with
     | false =>
      simp (maxSteps := 4000000) only [sG, seval, x43, stU, b43, Tryz.f43, encN, ci, isNil, D, dPN, bEq, List.length_map, Bool.not_true, Bool.not_false, a1, a2, a3, a5, a6]
      try rfl
     | true =>
      cases a7 : decide (of = 0) with
      | false =>
       simp (maxSteps := 4000000) only [sG, seval, x43, stU, b43, Tryz.f43, encN, ci, isNil, D, dPN, bEq, List.length_map, Bool.not_true, Bool.not_false, a1, a2, a3, a5, a6, a7]
       try rfl
      | true =>
       cases l <;> cases r
       all_goals simp (maxSteps := 4000000) only [sG, seval, x43, stU, b43, Tryz.f43, encN, ci, isNil, D, dPN, bEq, List.length_map, Bool.not_true, Bool.not_false, a1, a2, a3, a5, a6, a7]
       all_goals try rfl
theorem eqBare4 {m : Md} {nm : List UInt8} {w : Int} {cs : List Cd} {ps : List (Int × Int)} {cl : List Int} {ag of : Int} {l r : Nd} : iso tab fi43 m [encN (.mk 4 nm w cs ps cl ag of l r)] = some (.lit (.bool (bareB 4 nm w cs ps cl ag of l r))) := by
 have D := d43
 simp only [stD, stC, List.cons.injEq, b43, Tryz.f43] at D
 refine iso_ret ?_
 unfold bareB
 cases a1 : (nm == []) with
 | false =>
  simp (maxSteps := 4000000) only [sG, seval, x43, stU, b43, Tryz.f43, encN, ci, isNil, D, dPN, bEq, List.length_map, Bool.not_true, Bool.not_false, a1]
  try rfl
 | true =>
  cases a2 : decide (w = 0) with
  | false =>
   simp (maxSteps := 4000000) only [sG, seval, x43, stU, b43, Tryz.f43, encN, ci, isNil, D, dPN, bEq, List.length_map, Bool.not_true, Bool.not_false, a1, a2]
   try rfl
  | true =>
   cases a3 : decide ((0 : Int) < cs.length) with
   | true =>
    simp (maxSteps := 4000000) only [sG, seval, x43, stU, b43, Tryz.f43, encN, ci, isNil, D, dPN, bEq, List.length_map, Bool.not_true, Bool.not_false, a1, a2, a3]
    try rfl
   | false =>
    cases a5 : decide ((0 : Int) < cl.length) with
    | true =>
     simp (maxSteps := 4000000) only [sG, seval, x43, stU, b43, Tryz.f43, encN, ci, isNil, D, dPN, bEq, List.length_map, Bool.not_true, Bool.not_false, a1, a2, a3, a5]
     try rfl
    | false =>
     cases a6 : decide (ag = 0) with
     | false =>
      simp (maxSteps := 4000000) only [sG, seval, x43, stU, b43, Tryz.f43, encN, ci, isNil, D, dPN, bEq, List.length_map, Bool.not_true, Bool.not_false, a1, a2, a3, a5, a6]
      try rfl
     | true =>
      cases a7 : decide (of = 0) with
      | false =>
       simp (maxSteps := 4000000) only [sG, seval, x43, stU, b43, Tryz.f43, encN, ci, isNil, D, dPN, bEq, List.length_map, Bool.not_true, Bool.not_false, a1, a2, a3, a5, a6, a7]
       try rfl
      | true =>
       cases l <;> cases r
       all_goals simp (maxSteps := 4000000) only [sG, seval, x43, stU, b43, Tryz.f43, encN, ci, isNil, D, dPN, bEq, List.length_map, Bool.not_true, Bool.not_false, a1, a2, a3, a5, a6, a7]
       all_goals try rfl
theorem eqBare5 {m : Md} {nm : List UInt8} {w : Int} {cs : List Cd} {ps : List (Int × Int)} {cl : List Int} {ag of : Int} {l r : Nd} : iso tab fi43 m [encN (.mk 5 nm w cs ps cl ag of l r)] = some (.lit (.bool (bareB 5 nm w cs ps cl ag of l r))) := by
 have D := d43
 simp only [stD, stC, List.cons.injEq, b43, Tryz.f43] at D
 refine iso_ret ?_
 unfold bareB
 cases a1 : (nm == []) with
 | false =>
  simp (maxSteps := 4000000) only [sG, seval, x43, stU, b43, Tryz.f43, encN, ci, isNil, D, dPN, bEq, List.length_map, Bool.not_true, Bool.not_false, a1]
  try rfl
 | true =>
  cases a2 : decide (w = 0) with
  | false =>
   simp (maxSteps := 4000000) only [sG, seval, x43, stU, b43, Tryz.f43, encN, ci, isNil, D, dPN, bEq, List.length_map, Bool.not_true, Bool.not_false, a1, a2]
   try rfl
  | true =>
   cases a3 : decide ((0 : Int) < cs.length) with
   | true =>
    simp (maxSteps := 4000000) only [sG, seval, x43, stU, b43, Tryz.f43, encN, ci, isNil, D, dPN, bEq, List.length_map, Bool.not_true, Bool.not_false, a1, a2, a3]
    try rfl
   | false =>
    cases a4 : decide ((0 : Int) < ps.length) with
    | true =>
     simp (maxSteps := 4000000) only [sG, seval, x43, stU, b43, Tryz.f43, encN, ci, isNil, D, dPN, bEq, List.length_map, Bool.not_true, Bool.not_false, a1, a2, a3, a4]
     try rfl
    | false =>
     cases a6 : decide (ag = 0) with
     | false =>
      simp (maxSteps := 4000000) only [sG, seval, x43, stU, b43, Tryz.f43, encN, ci, isNil, D, dPN, bEq, List.length_map, Bool.not_true, Bool.not_false, a1, a2, a3, a4, a6]
      try rfl
     | true =>
      cases a7 : decide (of = 0) with
      | false =>
       simp (maxSteps := 4000000) only [sG, seval, x43, stU, b43, Tryz.f43, encN, ci, isNil, D, dPN, bEq, List.length_map, Bool.not_true, Bool.not_false, a1, a2, a3, a4, a6, a7]
       try rfl
      | true =>
       cases l <;> cases r
       all_goals simp (maxSteps := 4000000) only [sG, seval, x43, stU, b43, Tryz.f43, encN, ci, isNil, D, dPN, bEq, List.length_map, Bool.not_true, Bool.not_false, a1, a2, a3, a4, a6, a7]
       all_goals try rfl
theorem eqBare6 {m : Md} {nm : List UInt8} {w : Int} {cs : List Cd} {ps : List (Int × Int)} {cl : List Int} {ag of : Int} {l r : Nd} : iso tab fi43 m [encN (.mk 6 nm w cs ps cl ag of l r)] = some (.lit (.bool (bareB 6 nm w cs ps cl ag of l r))) := by
 have D := d43
 simp only [stD, stC, List.cons.injEq, b43, Tryz.f43] at D
 refine iso_ret ?_
 unfold bareB
 cases a1 : (nm == []) with
 | false =>
  simp (maxSteps := 4000000) only [sG, seval, x43, stU, b43, Tryz.f43, encN, ci, isNil, D, dPN, bEq, List.length_map, Bool.not_true, Bool.not_false, a1]
  try rfl
 | true =>
  cases a2 : decide (w = 0) with
  | false =>
   simp (maxSteps := 4000000) only [sG, seval, x43, stU, b43, Tryz.f43, encN, ci, isNil, D, dPN, bEq, List.length_map, Bool.not_true, Bool.not_false, a1, a2]
   try rfl
  | true =>
   cases a3 : decide ((0 : Int) < cs.length) with
   | true =>
    simp (maxSteps := 4000000) only [sG, seval, x43, stU, b43, Tryz.f43, encN, ci, isNil, D, dPN, bEq, List.length_map, Bool.not_true, Bool.not_false, a1, a2, a3]
    try rfl
   | false =>
    cases a4 : decide ((0 : Int) < ps.length) with
    | true =>
     simp (maxSteps := 4000000) only [sG, seval, x43, stU, b43, Tryz.f43, encN, ci, isNil, D, dPN, bEq, List.length_map, Bool.not_true, Bool.not_false, a1, a2, a3, a4]
     try rfl
    | false =>
     cases a5 : decide ((0 : Int) < cl.length) with
     | true =>
      simp (maxSteps := 4000000) only [sG, seval, x43, stU, b43, Tryz.f43, encN, ci, isNil, D, dPN, bEq, List.length_map, Bool.not_true, Bool.not_false, a1, a2, a3, a4, a5]
      try rfl
     | false =>
      cases a6 : decide (ag = 0) with
      | false =>
       simp (maxSteps := 4000000) only [sG, seval, x43, stU, b43, Tryz.f43, encN, ci, isNil, D, dPN, bEq, List.length_map, Bool.not_true, Bool.not_false, a1, a2, a3, a4, a5, a6]
       try rfl
      | true =>
       cases a7 : decide (of = 0) with
       | false =>
        simp (maxSteps := 4000000) only [sG, seval, x43, stU, b43, Tryz.f43, encN, ci, isNil, D, dPN, bEq, List.length_map, Bool.not_true, Bool.not_false, a1, a2, a3, a4, a5, a6, a7]
        try rfl
       | true =>
        cases l <;> cases r
        all_goals simp (maxSteps := 4000000) only [sG, seval, x43, stU, b43, Tryz.f43, encN, ci, isNil, D, dPN, bEq, List.length_map, Bool.not_true, Bool.not_false, a1, a2, a3, a4, a5, a6, a7]
        all_goals try rfl
theorem eqBare7 {m : Md} {nm : List UInt8} {w : Int} {cs : List Cd} {ps : List (Int × Int)} {cl : List Int} {ag of : Int} {l r : Nd} : iso tab fi43 m [encN (.mk 7 nm w cs ps cl ag of l r)] = some (.lit (.bool (bareB 7 nm w cs ps cl ag of l r))) := by
 have D := d43
 simp only [stD, stC, List.cons.injEq, b43, Tryz.f43] at D
 refine iso_ret ?_
 unfold bareB
 cases a1 : (nm == []) with
 | false =>
  simp (maxSteps := 4000000) only [sG, seval, x43, stU, b43, Tryz.f43, encN, ci, isNil, D, dPN, bEq, List.length_map, Bool.not_true, Bool.not_false, a1]
  try rfl
 | true =>
  cases a2 : decide (w = 0) with
  | false =>
   simp (maxSteps := 4000000) only [sG, seval, x43, stU, b43, Tryz.f43, encN, ci, isNil, D, dPN, bEq, List.length_map, Bool.not_true, Bool.not_false, a1, a2]
   try rfl
  | true =>
   cases a3 : decide ((0 : Int) < cs.length) with
   | true =>
    simp (maxSteps := 4000000) only [sG, seval, x43, stU, b43, Tryz.f43, encN, ci, isNil, D, dPN, bEq, List.length_map, Bool.not_true, Bool.not_false, a1, a2, a3]
    try rfl
   | false =>
    cases a4 : decide ((0 : Int) < ps.length) with
    | true =>
     simp (maxSteps := 4000000) only [sG, seval, x43, stU, b43, Tryz.f43, encN, ci, isNil, D, dPN, bEq, List.length_map, Bool.not_true, Bool.not_false, a1, a2, a3, a4]
     try rfl
    | false =>
     cases l <;> cases r
     all_goals simp (maxSteps := 4000000) only [sG, seval, x43, stU, b43, Tryz.f43, encN, ci, isNil, D, dPN, bEq, List.length_map, Bool.not_true, Bool.not_false, a1, a2, a3, a4]
     all_goals try rfl
theorem eqBare0 {m : Md} {k : Int} {nm : List UInt8} {w : Int} {cs : List Cd} {ps : List (Int × Int)} {cl : List Int} {ag of : Int} {l r : Nd} (z1 : decide (k = 1) = false) (z2 : decide (k = 2) = false) (z3 : decide (k = 3) = false) (z4 : decide (k = 4) = false) (z5 : decide (k = 5) = false) (z6 : decide (k = 6) = false) (z7 : decide (k = 7) = false) : iso tab fi43 m [encN (.mk k nm w cs ps cl ag of l r)] = some (.lit (.bool (bareB k nm w cs ps cl ag of l r))) := by
 have D := d43
 simp only [stD, stC, List.cons.injEq, b43, Tryz.f43] at D
 refine iso_ret ?_
 unfold bareB
 cases a1 : (nm == []) with
 | false =>
  simp (maxSteps := 4000000) only [sG, seval, x43, stU, b43, Tryz.f43, encN, ci, isNil, D, dPN, bEq, List.length_map, Bool.not_true, Bool.not_false, z1, z2, z3, z4, z5, z6, z7, a1]
  try rfl
 | true =>
  cases a2 : decide (w = 0) with
  | false =>
   simp (maxSteps := 4000000) only [sG, seval, x43, stU, b43, Tryz.f43, encN, ci, isNil, D, dPN, bEq, List.length_map, Bool.not_true, Bool.not_false, z1, z2, z3, z4, z5, z6, z7, a1, a2]
   try rfl
  | true =>
   cases a3 : decide ((0 : Int) < cs.length) with
   | true =>
    simp (maxSteps := 4000000) only [sG, seval, x43, stU, b43, Tryz.f43, encN, ci, isNil, D, dPN, bEq, List.length_map, Bool.not_true, Bool.not_false, z1, z2, z3, z4, z5, z6, z7, a1, a2, a3]
    try rfl
   | false =>
    cases a4 : decide ((0 : Int) < ps.length) with
    | true =>
     simp (maxSteps := 4000000) only [sG, seval, x43, stU, b43, Tryz.f43, encN, ci, isNil, D, dPN, bEq, List.length_map, Bool.not_true, Bool.not_false, z1, z2, z3, z4, z5, z6, z7, a1, a2, a3, a4]
     try rfl
    | false =>
     cases a5 : decide ((0 : Int) < cl.length) with
     | true =>
      simp (maxSteps := 4000000) only [sG, seval, x43, stU, b43, Tryz.f43, encN, ci, isNil, D, dPN, bEq, List.length_map, Bool.not_true, Bool.not_false, z1, z2, z3, z4, z5, z6, z7, a1, a2, a3, a4, a5]
      try rfl
     | false =>
      cases a6 : decide (ag = 0) with
      | false =>
       simp (maxSteps := 4000000) only [sG, seval, x43, stU, b43, Tryz.f43, encN, ci, isNil, D, dPN, bEq, List.length_map, Bool.not_true, Bool.not_false, z1, z2, z3, z4, z5, z6, z7, a1, a2, a3, a4, a5, a6]
       try rfl
      | true =>
       cases a7 : decide (of = 0) with
       | false =>
        simp (maxSteps := 4000000) only [sG, seval, x43, stU, b43, Tryz.f43, encN, ci, isNil, D, dPN, bEq, List.length_map, Bool.not_true, Bool.not_false, z1, z2, z3, z4, z5, z6, z7, a1, a2, a3, a4, a5, a6, a7]
        try rfl
       | true =>
        cases l <;> cases r
        all_goals simp (maxSteps := 4000000) only [sG, seval, x43, stU, b43, Tryz.f43, encN, ci, isNil, D, dPN, bEq, List.length_map, Bool.not_true, Bool.not_false, z1, z2, z3, z4, z5, z6, z7, a1, a2, a3, a4, a5, a6, a7]
        all_goals try rfl
theorem cBare {m : Md} {k : Int} {nm : List UInt8} {w : Int} {cs : List Cd} {ps : List (Int × Int)} {cl : List Int} {ag of : Int} {l r : Nd} {H : Tr AO} {hs : Nat} : callF tab (evw tab) m 43 [encN (.mk k nm w cs ps cl ag of l r)] H hs = some (.lit (.bool (bareB k nm w cs ps cl ag of l r)), H, hs) := by
 refine callF_iso tcon rfl rfl (by simp only [bares, bare_N]; rfl) ?_
 simp only [nrms, nrm_N]
 by_cases h1 : k = 1; · subst h1; exact eqBare1
 by_cases h2 : k = 2; · subst h2; exact eqBare2
 by_cases h3 : k = 3; · subst h3; exact eqBare3
 by_cases h4 : k = 4; · subst h4; exact eqBare4
 by_cases h5 : k = 5; · subst h5; exact eqBare5
 by_cases h6 : k = 6; · subst h6; exact eqBare6
 by_cases h7 : k = 7; · subst h7; exact eqBare7
 exact eqBare0 (decide_eq_false h1) (decide_eq_false h2) (decide_eq_false h3) (decide_eq_false h4) (decide_eq_false h5) (decide_eq_false h6) (decide_eq_false h7)
end Go.Proofs.YtcledcfeddlomaaGreatDoor.Ev
