import Derived.Test.YtcledcfeddlomaaGreatDoorT3
set_option linter.all false
set_option maxRecDepth 100000
set_option maxHeartbeats 8000000
namespace Go.Proofs.YtcledcfeddlomaaGreatDoor.Ev
open Go Go.Proofs.YtcledcfeddlomaaGreatDoor.Ev Go.Proofs Go.Proofs.YtcledcfeddlomaaGreatDoor Go.Proofs.YtcledcfeddlomaaGreatDoor.Tab
/-! ### text -/
def textA (n : Nd) : AV := .lst .no ((textN n).map AV.str)
theorem bare_tA (n : Nd) : bare (textA n) = true := bares_S _
theorem nrm_tA (n : Nd) : nrm (textA n) = textA n := by show AV.lst .no (nrms _) = _; rw [nrms_S]; rfl
theorem cells_tA (n : Nd) : (textA n).cells = [textA n] := rfl
theorem one_tA (n : Nd) : oneCell (textA n) = true := rfl
theorem flat_tA (n : Nd) : flatOk (textA n) = true := rfl
def dTA := And.intro bare_tA (And.intro one_tA (And.intro flat_tA cells_tA))
theorem bare_ci (n : Int) : bare (ci n) = true := rfl
theorem nrm_ci (n : Int) : nrm (ci n) = ci n := rfl
theorem okW_of {k : Int} {nm : List UInt8} {w : Int} {cs : List Cd} {ps : List (Int × Int)} {cl : List Int} {ag of : Int} {l r : Nd} (he : eachB (.mk k nm w cs ps cl ag of l r) = true) (ho : okNd (.mk k nm w cs ps cl ag of l r)) (hs : smallN (.mk k nm w cs ps cl ag of l r)) : okW k w cs ps cl ag of := by
  obtain ⟨el, er, ba, ka, ca, na⟩ := each_inv he
  obtain ⟨o1, o2, o3, o4, o5, o6, o7, ol, or⟩ := ho
  obtain ⟨s1, s2, s3, s4, sl, sr⟩ := hs
  refine ⟨ka, o2, o3, o4, by omega, by omega, by omega, fun hk c hc => ?_, o6, o7⟩
  obtain ⟨p1, p2, p3, p4⟩ := o5 c hc
  refine ⟨p1, p2, p3, fun hr => ?_⟩
  rcases ca hk c hc with ⟨_, h⟩ | ⟨h, _⟩
  · exact h
  · exact absurd hr h
theorem eqText {q : Int} : ∀ (n : Nd) (lm tx : Bool), eachB n = true → okNd n → smallN n → cntN n ≤ 1000 → iso tab fi23 ⟨lm, tx, glK q⟩ [encN n] = some (textA n) := by
  have D := d23
  simp only [stD, stC, List.cons.injEq, b23, Tryz.f23] at D
  intro n
  induction n with
  | nil =>
    intro lm tx _ _ _ _
    refine iso_ret ?_
    simp only [sG, sevalprocAttr, x23, stU, b23, Tryz.f23, encN, D, dPN, textA, textN, List.map_nil]
  | mk k nm w cs ps cl ag of l r ihl ihr =>
    intro lm tx he ho hs hc
    have c0 := fun lm tx H hs => @cWords q k nm w cs ps cl ag of l r lm tx H hs (okW_of he ho (by assumption))
    have hlen := textN_len hs
    obtain ⟨el, er, ba, ka, ca, na⟩ := each_inv he
    obtain ⟨o1, o2, o3, o4, o5, o6, o7, ol, or⟩ := ho
    obtain ⟨s1, s2, s3, s4, sl, sr⟩ := hs
    have hc' : 1 + cntN l + cntN r ≤ 1000 := hc
    simp only [textA] at ihl ihr ⊢
    have c1 : ∀ lm' tx' H hs, callF tab (evw tab) ⟨lm', tx', glK q⟩ 23 [encN l] H hs = some (.lst .no ((textN l).map AV.str), H, hs) := fun lm' tx' H hs =>
      callF_iso tcon rfl rfl (by simp only [bares, bare_N]; rfl) (by simp only [nrms, nrm_N]; exact ihl lm' tx' el ol sl (by omega))
    have c2 : ∀ lm' tx' H hs, callF tab (evw tab) ⟨lm', tx', glK q⟩ 23 [encN r] H hs = some (.lst .no ((textN r).map AV.str), H, hs) := fun lm' tx' H hs =>
      callF_iso tcon rfl rfl (by simp only [bares, bare_N]; rfl) (by simp only [nrms, nrm_N]; exact ihr lm' tx' er or sr (by omega))
    have c3 := fun m H hs => @cConcat m .full [ownW k nm w cs ps cl ag of, textN l, textN r] H hs (by simp) (by simp only [List.flatten_cons, ownW_kw]; simp) (by
        have : [ownW k nm w cs ps cl ag of, textN l, textN r].flatten = textN (.mk k nm w cs ps cl ag of l r) := by simp [textN]
        rw [this]; have : cntN (.mk k nm w cs ps cl ag of l r) ≤ 1000 := hc; omega)
    have ef : [ownW k nm w cs ps cl ag of, textN l, textN r].flatten = textN (.mk k nm w cs ps cl ag of l r) := by simp [textN]
    rw [ef] at c3
    simp only [List.map_cons, List.map_nil, encSl] at c3
    refine iso_ret ?_
    simp only [encN] at c0
    simp (maxSteps := 4000000) only [sG, sevalprocAttr, x23, stU, b23, Tryz.f23, encN, D, dPN, dN, dLB, bare_ci, nrm_ci, textA, c0, c1, c2, c3, bares_S, nrms_S]
theorem cTextN {q : Int} {n : Nd} {lm tx : Bool} {H : Tr AO} {hs : Nat} (he : eachB n = true) (ho : okNd n) (hs' : smallN n) (hc : cntN n ≤ 1000) : callF tab (evw tab) ⟨lm, tx, glK q⟩ 23 [encN n] H hs = some (textA n, H, hs) :=
  callF_iso tcon rfl rfl (by simp only [bares, bare_N]; rfl) (by simp only [nrms, nrm_N]; exact eqText n lm tx he ho hs' hc)
/-! ### Key -/
def keyN (n : Nd) : List UInt8 := bif rightN n then joinS [32] (textN n) else []
theorem eqKey {q : Int} {n : Nd} {lm tx : Bool} (ho : okNd n) (hs' : smallN n) (hc : cntN n ≤ 1000) : isoO (evw tab) tab fi10 ⟨lm, tx, glK q⟩ [encN n] = some (.str (keyN n)) := by
  refine own_ret ?_
  have c1 := fun m H hs => @cRightN m n H hs hs'.short
  unfold keyN
  cases hr : rightN n with
  | false =>
    simp only [hr] at c1
    simp (maxSteps := 4000000) only [sG, sevalprocAttr, x10, stU, b10, Tryz.f10, c1]
    rfl
  | true =>
    simp only [hr] at c1
    obtain ⟨hn, he⟩ := right_inv hr
    have c2 := fun lm tx H hs => @cTextN q n lm tx H hs he ho hs' hc
    have hl := textN_len hs'
    have hw := textN_ok he hs'
    have hj := joinS_len [32] (B := 400) (textN n) (fun w h => (hw w h).2)
    have c3 := fun H hs => @natO_join (glK q) .no (textN n) [32] H hs (by omega) (by simp only [List.length_cons, List.length_nil] at hj; omega)
    simp (maxSteps := 4000000) only [sG, sevalprocAttr, x10, stU, b10, Tryz.f10, c1, c2, c3, textA, cond_true]
    rfl
theorem cKeyP {q : Int} {n : Nd} {lm tx : Bool} {o : Nat} {H H1 : Tr AO} {hs : Nat} (ho : okNd n) (hs' : smallN n) (hc : cntN n ≤ 1000) (hf : frz tab 300 23 (.ptr o 0) H = some (encN n, H1)) : callF tab (evw tab) ⟨lm, tx, glK q⟩ 10 [.ptr o 0] H hs = some (.str (keyN n), H, hs) :=
  callF_own (H1 := H1) tcon rfl rfl rfl (bs := [encN n]) (by show frzL (frz tab 300) [23] [.ptr o 0] H = _; simp only [frzL, hf]) (by simp only [bares, bare_N, Bool.and_self]) (by simp only [nrms, nrm_N]; exact eqKey ho hs' hc)
/-! ### Plans in cells -/
structure Pc where
  k : Int
  nm : List UInt8
  w : Int
  cs : List Cd
  ps : List (Int × Int)
  cl : List Int
  ag : Int
  of : Int
  l : Int
  r : Int
def encP (p : Pc) : AV := .agg [ci p.k, .str p.nm, ci p.w, .lst .no (p.cs.map encC), .lst .no (p.ps.map encPr), .lst .no (p.cl.map ci), ci p.ag, ci p.of, ci p.l, ci p.r]
def lk (acc : List Nd) (x : Int) : Nd := bif decide (0 ≤ x) && decide (x < acc.length) then acc.getD x.toNat .nil else .nil
def mkN (acc : List Nd) (p : Pc) : Nd := .mk p.k p.nm p.w p.cs p.ps p.cl p.ag p.of (lk acc p.l) (lk acc p.r)
def treeL : List Nd → List Pc → List Nd
  | acc, [] => acc
  | acc, p :: l => treeL (acc ++ [mkN acc p]) l
def treeN (l : List Pc) : Nd := (treeL [] l).getLastD .nil
def nodeC (k : Int) (nm : List UInt8) (w : Int) (cs : List Cd) (ps : List (Int × Int)) (cl : List Int) (ag of : Int) (la ra : AV) : List AV := [ci k, .str nm, ci w, .lst .no (cs.map encC), .lst .no (ps.map encPr), .lst .no (cl.map ci), ci ag, ci of, la, ra]
/-- A plan lies in memory, below hs. -/
def NdAt (H : Tr AO) (hs : Nat) : AV → Nd → Prop
  | a, .nil => a = .lit (.pointer none)
  | a, .mk k nm w cs ps cl ag of l r => ∃ o ro la ra, a = .ptr o 0 ∧ o < hs ∧ H.get .dead o = .cells (nodeC k nm w cs ps cl ag of la ra) ro ∧ NdAt H hs la l ∧ NdAt H hs ra r
def depN : Nd → Nat
  | .nil => 0
  | .mk _ _ _ _ _ _ _ _ l r => 1 + max (depN l) (depN r)
/-- All cells stand; some may be frozen. -/
def Sm (H H1 : Tr AO) : Prop := ∀ o c ro, H.get .dead o = .cells c ro → ∃ ro', H1.get .dead o = .cells c ro'
theorem Sm.refl (H : Tr AO) : Sm H H := fun o c ro h => ⟨ro, h⟩
theorem Sm.trans {A B C : Tr AO} (h : Sm A B) (g : Sm B C) : Sm A C := fun o c ro e => by
  obtain ⟨r1, e1⟩ := h o c ro e
  exact g o c r1 e1
theorem Sm.frz {H : Tr AO} {o : Nat} {c : List AV} {ro ro' : Bool} (h : H.get .dead o = .cells c ro) : Sm H (H.put .dead o (.cells c ro')) := fun p d r e => by
  rw [Tr.get_put]
  by_cases hp : p = o
  · subst hp; rw [h] at e; cases e; exact ⟨ro', by rw [if_pos rfl]⟩
  · rw [if_neg hp]; exact ⟨r, e⟩
theorem NdAt.sm {H H1 : Tr AO} {hs : Nat} (hS : Sm H H1) : ∀ {n : Nd} {a : AV}, NdAt H hs a n → NdAt H1 hs a n
  | .nil, a, h => h
  | .mk .., a, ⟨o, ro, la, ra, h1, h2, h3, h4, h5⟩ => by
    obtain ⟨ro', h6⟩ := hS o _ ro h3
    exact ⟨o, ro', la, ra, h1, h2, h6, NdAt.sm hS h4, NdAt.sm hS h5⟩
theorem NdAt.keep {H H1 : Tr AO} {hs hs1 : Nat} (hh : hs ≤ hs1) (hS : ∀ p, p < hs → (H.get .dead p).isRoom = false → H1.get .dead p = H.get .dead p) : ∀ {n : Nd} {a : AV}, NdAt H hs a n → NdAt H1 hs1 a n
  | .nil, a, h => h
  | .mk .., a, ⟨o, ro, la, ra, h1, h2, h3, h4, h5⟩ => ⟨o, ro, la, ra, h1, by omega, by rw [hS o h2 (by rw [h3]; rfl)]; exact h3, NdAt.keep hh hS h4, NdAt.keep hh hS h5⟩
theorem cellTys49 : ∃ i, tab.t 23 = some i ∧ ∃ j, tab.t 49 = some j ∧ ptrE tab 23 = some 49 ∧ j.size = 10 ∧ cellTys tab 20 49 = [3, 9, 3, 43, 44, 45, 3, 3, 23, 23] := ⟨_, rfl, _, rfl, rfl, rfl, rfl⟩
theorem frz_N : ∀ (n : Nd) (d : Nat) (a : AV) (H : Tr AO) (hs : Nat), NdAt H hs a n → depN n ≤ d → ∃ H1, frz tab (d + 1) 23 a H = some (encN n, H1) ∧ Sm H H1
  | .nil, d, a, H, hs, h, hd => by
    have h : a = .lit (.pointer none) := h
    subst h
    exact ⟨H, frz_bare rfl, Sm.refl _⟩
  | .mk k nm w cs ps cl ag of l r, 0, a, H, hs, _, hd => by
    have hd : 1 + max (depN l) (depN r) ≤ 0 := hd
    omega
  | .mk k nm w cs ps cl ag of l r, d + 1, a, H, hs, ⟨o, ro, la, ra, h1, h2, h3, h4, h5⟩, hd => by
    have hd : 1 + max (depN l) (depN r) ≤ d + 1 := hd
    have s0 : Sm H (H.put .dead o (.cells (nodeC k nm w cs ps cl ag of la ra) true)) := Sm.frz h3
    obtain ⟨H2, f2, s2⟩ := frz_N l d la _ hs (h4.sm s0) (by omega)
    obtain ⟨H3, f3, s3⟩ := frz_N r d ra _ hs (h5.sm (s0.trans s2)) (by omega)
    obtain ⟨i, hi, j, hj, hp, hz, hc⟩ := cellTys49
    refine ⟨H3, ?_, (s0.trans s2).trans s3⟩
    subst h1
    have hrd : rd H o 0 10 = some (nodeC k nm w cs ps cl ag of la ra) := by
      unfold rd
      rw [h3]; rfl
    have b1 := bare_Cl cs
    have b2 := bare_Pl ps
    have b3 := bare_Il cl
    have m1 := nrms_Cl cs
    have m2 := nrms_Pl ps
    have m3 := nrms_Il cl
    unfold frz
    simp only [bare, cond_false, hp, h3, hrd, hj, hz, hc]
    unfold nodeC at f2
    simp only [nodeC, frzL, frz_bare (d := d) (show bare (ci k) = true from rfl), frz_bare (d := d) (show bare (AV.str nm) = true from rfl), frz_bare (d := d) (show bare (ci w) = true from rfl), frz_bare (d := d) (show bare (AV.lst .no (cs.map encC)) = true from b1), frz_bare (d := d) (show bare (AV.lst .no (ps.map encPr)) = true from b2), frz_bare (d := d) (show bare (AV.lst .no (cl.map ci)) = true from b3), frz_bare (d := d) (show bare (ci ag) = true from rfl), frz_bare (d := d) (show bare (ci of) = true from rfl), f2, f3]
    simp only [nrm, m1, m2, m3, encN, nrm_ci]
theorem getD_mem {l : List Nd} {i : Nat} {P : Nd → Prop} (h : ∀ x ∈ l, P x) (h0 : P .nil) : P (l.getD i .nil) := by
  rw [List.getD_eq_getElem?_getD]
  cases hi : l[i]? with
  | none => exact h0
  | some x => exact h x (List.mem_of_getElem? hi)
theorem lk_P {acc : List Nd} {x : Int} {P : Nd → Prop} (h : ∀ x ∈ acc, P x) (h0 : P .nil) : P (lk acc x) := by
  unfold lk
  cases (decide (0 ≤ x) && decide (x < acc.length)) with
  | true => exact getD_mem h h0
  | false => exact h0
theorem treeL_len : ∀ (l : List Pc) (acc : List Nd), (treeL acc l).length = acc.length + l.length
  | [], acc => by simp [treeL]
  | p :: l, acc => by rw [treeL, treeL_len l]; simp; omega
theorem treeL_dep : ∀ (l : List Pc) (acc : List Nd), (∀ n ∈ acc, depN n ≤ acc.length) → ∀ n ∈ treeL acc l, depN n ≤ acc.length + l.length
  | [], acc, h, n, hn => h n hn
  | p :: l, acc, h, n, hn => by
    have := treeL_dep l (acc ++ [mkN acc p]) (fun m hm => by
      rw [List.length_append, List.length_singleton]
      rcases List.mem_append.1 hm with hm | hm
      · have := h m hm; omega
      · rw [List.mem_singleton] at hm
        subst hm
        have h1 := @lk_P acc p.l (fun n => depN n ≤ acc.length) h (Nat.zero_le _)
        have h2 := @lk_P acc p.r (fun n => depN n ≤ acc.length) h (Nat.zero_le _)
        show 1 + max (depN (lk acc p.l)) (depN (lk acc p.r)) ≤ _
        omega) n hn
    rw [List.length_append, List.length_singleton] at this
    rw [List.length_cons]; omega
theorem treeN_dep (l : List Pc) : depN (treeN l) ≤ l.length := by
  unfold treeN
  have h := treeL_dep l [] (fun n h => by cases h)
  rw [List.getLastD_eq_getLast?]
  cases hl : (treeL [] l).getLast? with
  | none => exact Nat.zero_le _
  | some n => have := h n (List.mem_of_getLast? hl); simpa using this
theorem treeL_ok : ∀ (l : List Pc) (acc : List Nd), (∀ n ∈ acc, okNd n) → (∀ p ∈ l, okNd (mkN [] p)) → ∀ n ∈ treeL acc l, okNd n
  | [], acc, h, _, n, hn => h n hn
  | p :: l, acc, h, hp, n, hn => treeL_ok l (acc ++ [mkN acc p]) (fun m hm => by
      rcases List.mem_append.1 hm with hm | hm
      · exact h m hm
      · rw [List.mem_singleton] at hm
        subst hm
        obtain ⟨o1, o2, o3, o4, o5, o6, o7, _, _⟩ := hp p (by simp)
        exact ⟨o1, o2, o3, o4, o5, o6, o7, lk_P h trivial, lk_P h trivial⟩) (fun q hq => hp q (by simp [hq])) n hn
theorem treeN_ok {l : List Pc} (hp : ∀ p ∈ l, okNd (mkN [] p)) : okNd (treeN l) := by
  unfold treeN
  rw [List.getLastD_eq_getLast?]
  cases hl : (treeL [] l).getLast? with
  | none => exact trivial
  | some n => exact treeL_ok l [] (fun n h => by cases h) hp n (List.mem_of_getLast? hl)
/-! ### Tree -/
def encO (o : Nat) : AV := .ptr o 0
theorem lk_in {acc : List Nd} {j : Nat} {n : Nd} (h : acc[j]? = some n) : lk acc (j : Int) = n := by
  have hj : j < acc.length := (List.getElem?_eq_some_iff.1 h).1
  unfold lk
  rw [decide_eq_true (show (0 : Int) ≤ (j : Int) by omega), decide_eq_true (show (j : Int) < acc.length by omega), Bool.and_self, cond_true, Int.toNat_natCast, List.getD_eq_getElem?_getD, h]; rfl
theorem lk_neg {acc : List Nd} {x : Int} (h : decide (0 ≤ x) = false) : lk acc x = .nil := by
  unfold lk; rw [h]; rfl
theorem lk_out {acc : List Nd} {x : Int} {i : Nat} (hi : acc.length = i) (h : decide (x < (i : Int)) = false) : lk acc x = .nil := by
  unfold lk; rw [hi, h, Bool.and_false]; rfl
theorem loopTree {l : List Pc} {gl : Tr (Option AV)} (hL : l.length ≤ 1100000000000) : ∀ (k i : Nat) (t : Tr AV) (H : Tr AO) (hs : Nat) (A : AV) (es : List Nat) (ns : List Nd), i + k = l.length → es.length = i → ns.length = i → Acc H hs 1 A (es.map encO) →
    (∀ (j : Nat) (o : Nat) (n : Nd), es[j]? = some o → ns[j]? = some n → NdAt H hs (.ptr o 0) n) →
    t.get .any 0 = .lst .no (l.map encP) → t.get .any 3 = A → t.get .any 4 = .lit (.int .i64 i) →
    ∃ H' hs' a, W tab none (fin tab fi7) (lpc fi7 0) (lpk fi7 0) ⟨t, 82, H, hs, [], ⟨true, true, gl⟩⟩ = some (a, H', hs') ∧ NdAt H' hs' a ((treeL ns (l.drop i)).getLastD .nil) ∧ hs ≤ hs' ∧ ∀ p, p < hs → (H.get .dead p).isRoom = false → H'.get .dead p = H.get .dead p := by
  simp only [stU, stC, b7, Tryz.f7]
  intro k
  induction k with
  | zero =>
    intro i t H hs A es ns hi he hn hA hN a0 a3 a4
    have e1 : decide ((i : Int) < l.length) = false := by rw [decide_eq_false_iff_not]; omega
    have hlen := hA.len
    rw [List.length_map] at hlen
    rw [List.drop_of_length_le (by omega), treeL]
    cases hes : es with
    | nil =>
      subst hes
      obtain rfl : ns = [] := List.eq_nil_of_length_eq_zero (by rw [hn, ← he]; rfl)
      refine ⟨H, hs, .lit (.pointer none), ?_, rfl, Nat.le_refl _, fun _ _ _ => rfl⟩
      rw [W_loop]
      simp only [List.length_nil] at hlen
      have e2 : decide (((0 : Nat) : Int) = 0) = true := rfl
      simp (maxSteps := 4000000) only [sG, sevalprocAttr, x7, stU, b7, Tryz.f7, a0, a3, a4, e1, e2, hlen, List.length_map]
    | cons o0 es0 =>
      have hne : es ≠ [] := by rw [hes]; exact fun h => by cases h
      obtain ⟨es', o, rfl⟩ : ∃ A' x, es = A' ++ [x] := ⟨es.dropLast, es.getLast hne, (List.dropLast_concat_getLast hne).symm⟩
      clear hes o0 es0
      have hnn : ns ≠ [] := by rintro rfl; rw [← he] at hn; simp at hn
      obtain ⟨ns', n, rfl⟩ : ∃ A' x, ns = A' ++ [x] := ⟨ns.dropLast, ns.getLast hnn, (List.dropLast_concat_getLast hnn).symm⟩
      rw [List.length_append, List.length_singleton] at he hn hlen
      have hlast : (ns' ++ [n]).getLastD .nil = n := by rw [List.getLastD_eq_getLast?]; simp
      rw [hlast]
      have g1 : (es' ++ [o])[es'.length]? = some o := by simp
      have g2 : (ns' ++ [n])[es'.length]? = some n := by rw [show es'.length = ns'.length by omega]; simp
      refine ⟨H, hs, .ptr o 0, ?_, hN es'.length o n g1 g2, Nat.le_refl _, fun _ _ _ => rfl⟩
      rcases hA with ⟨h, _⟩ | ⟨r, rfl, _, _⟩
      · simp at h
      rw [W_loop]
      have e2 : decide (((es'.length + 1 : Nat) : Int) = 0) = false := by rw [decide_eq_false_iff_not]; omega
      have w1 : IntKind.i64.wrap (((es'.length + 1 : Nat) : Int) - 1) = (es'.length : Int) := by rw [wrap_i64 (by omega) (by omega)]; omega
      have e3 : decide (0 ≤ (es'.length : Int)) = true := by rw [decide_eq_true_iff]; omega
      simp (maxSteps := 4000000) only [sG, sevalprocAttr, x7, stU, b7, Tryz.f7, a0, a3, a4, e1, e2, e3, w1, g1, hlen, List.getElem?_map, List.length_map, Int.toNat_natCast, encO, Option.map_some]
  | succ k ih =>
    intro i t H hs A es ns hi he hn hA hN a0 a3 a4
    have hlt : i < (l).length := by omega
    have e1 : decide ((i : Int) < (l).length) = true := by rw [decide_eq_true_iff]; omega
    have e3 : decide (0 ≤ (i : Int)) = true := by rw [decide_eq_true_iff]; omega
    have e4 : (l)[i]? = some (l)[i] := List.getElem?_eq_getElem _
    have e6 : (l).drop i = (l)[i] :: (l).drop (i + 1) := List.drop_eq_getElem_cons hlt
    have e7 : (l).take (i + 1) = (l).take i ++ [(l)[i]] := List.take_succ_eq_append_getElem hlt
    generalize hv : (l)[i] = p at e4 e6 e7
    have e5 := wrap_succ (i := i) (by omega)
    have key : ∀ (t' : Tr AV) (H2 : Tr AO) (la ra : AV), NdAt H hs la (lk ns p.l) → NdAt H hs ra (lk ns p.r) → H2.get .dead (hs + 1) = .cells (nodeC p.k p.nm p.w p.cs p.ps p.cl p.ag p.of la ra) false → (∀ q, q < hs → H2.get .dead q = H.get .dead q) →
        t'.get .any 0 = .lst .no (l.map encP) → t'.get .any 3 = .lst (.room (hs + 1 + 1)) ((es ++ [hs + 1]).map encO) → t'.get .any 4 = .lit (.int .i64 ((i + 1 : Nat) : Int)) →
        ∃ H' hs' a, W tab none (fin tab fi7) (lpc fi7 0) (lpk fi7 0) ⟨t', 82, accH H2 (hs + 1 + 1) 1 A, hs + 1 + 1 + 1, [], ⟨true, true, gl⟩⟩ = some (a, H', hs') ∧ NdAt H' hs' a ((treeL ns (l.drop i)).getLastD .nil) ∧ hs ≤ hs' ∧ ∀ p, p < hs → (H.get .dead p).isRoom = false → H'.get .dead p = H.get .dead p := by
      intro t' H2 la ra hla hra h1 h2 b0 b3 b4
      simp only [stU, stC, b7, Tryz.f7]
      have hA2 : Acc H2 (hs + 1 + 1) 1 A (es.map encO) := by
        rcases hA with h | ⟨r, rfl, g1, g2⟩
        · exact .inl h
        · exact .inr ⟨r, rfl, by rw [h2 r g2]; exact g1, by omega⟩
      have hkeep : ∀ q, q < hs → (H.get .dead q).isRoom = false → (accH H2 (hs + 1 + 1) 1 A).get .dead q = H.get .dead q := fun q q1 q2 => by
        rw [hA2.get (by omega) (by rw [h2 q q1]; exact q2), h2 q q1]
      have hnode : (accH H2 (hs + 1 + 1) 1 A).get .dead (hs + 1) = .cells (nodeC p.k p.nm p.w p.cs p.ps p.cl p.ag p.of la ra) false := by
        rw [hA2.get (by omega) (by rw [h1]; rfl), h1]
      obtain ⟨H', hs', a, r1, r2, r3, r4⟩ := ih (i + 1) t' (accH H2 (hs + 1 + 1) 1 A) (hs + 1 + 1 + 1) (.lst (.room (hs + 1 + 1)) ((es ++ [hs + 1]).map encO)) (es ++ [hs + 1]) (ns ++ [mkN ns p]) (by omega) (by simp; omega) (by simp; omega) accN (fun j o n g1 g2 => by
        by_cases hj : j < i
        · rw [List.getElem?_append_left (by omega)] at g1 g2
          exact (hN j o n g1 g2).keep (by omega) hkeep
        · have hj2 : j = i := by
            have := (List.getElem?_eq_some_iff.1 g1).1
            rw [List.length_append, List.length_singleton] at this
            omega
          subst hj2
          rw [List.getElem?_append_right (by omega), he] at g1
          rw [List.getElem?_append_right (by omega), hn] at g2
          simp at g1 g2
          subst g1 g2
          exact ⟨hs + 1, false, la, ra, rfl, by omega, hnode, hla.keep (by omega) hkeep, hra.keep (by omega) hkeep⟩) b0 b3 b4
      refine ⟨H', hs', a, r1, ?_, by omega, fun q q1 q2 => ?_⟩
      · rw [e6, treeL]; exact r2
      · have := hkeep q q1 q2
        rw [r4 q (by omega) (by rw [this]; exact q2), this]
    simp only [stU, stC, b7, Tryz.f7] at key
    have hP : ∀ H2, Acc H2 hs 1 A (es.map encO) → appendO H2 (hs + 1 + 1) true false 1 8 (some A) (some (.lst .full [.ptr (hs + 1) 0])) = some (.lst (.room (hs + 1 + 1)) ((es ++ [hs + 1]).map encO), accH H2 (hs + 1 + 1) 1 A, hs + 1 + 1 + 1) := fun H2 h => accApp (f := encO) (hs + 1) (h.mono (by omega)) rfl (by omega)
    have hQ : ∀ (H2 : Tr AO) (o : Nat) (X : AO), hs ≤ o → Acc H2 hs 1 A (es.map encO) → Acc (H2.put .dead o X) hs 1 A (es.map encO) := fun H2 o X h g => g.put' h
    have pick : ∀ x : Int, (decide (0 ≤ x) = false ∧ lk ns x = .nil) ∨ (decide (0 ≤ x) = true ∧ decide (x < (i : Int)) = false ∧ lk ns x = .nil) ∨ ∃ (j o : Nat), x = (j : Int) ∧ decide ((j : Int) < (i : Int)) = true ∧ decide (0 ≤ (j : Int)) = true ∧ es[j]? = some o ∧ NdAt H hs (.ptr o 0) (lk ns x) := fun x => by
      cases h1 : decide (0 ≤ x) with
      | false => exact .inl ⟨rfl, lk_neg h1⟩
      | true =>
        cases h2 : decide (x < (i : Int)) with
        | false => exact .inr (.inl ⟨rfl, rfl, lk_out hn h2⟩)
        | true =>
          have h1 := of_decide_eq_true h1
          have h2 := of_decide_eq_true h2
          obtain ⟨j, rfl⟩ : ∃ j : Nat, x = (j : Int) := ⟨x.toNat, by omega⟩
          have hj : j < i := by omega
          have g1 : es[j]? = some (es[j]'(by omega)) := List.getElem?_eq_getElem _
          have g2 : ns[j]? = some (ns[j]'(by omega)) := List.getElem?_eq_getElem _
          refine .inr (.inr ⟨j, _, rfl, by rw [decide_eq_true_iff]; omega, by rw [decide_eq_true_iff]; omega, g1, ?_⟩)
          rw [lk_in g2]
          exact hN _ _ _ g1 g2
    have hroom : ∀ (j o : Nat), es[j]? = some o → ∃ r, A = .lst (.room r) (es.map encO) := fun j o h => by
      rcases hA with ⟨h2, _⟩ | ⟨r, h2, _⟩
      · rw [List.map_eq_nil_iff] at h2; subst h2; cases h
      · exact ⟨r, h2⟩
    have hle1 : hs ≤ hs + 1 := by omega
    obtain ⟨pk, pnm, pw, pcs, pps, pcl, pag, pof, pl, pr⟩ := p
    simp only at key
    rw [W_loop]
    rcases pick pl with ⟨l1, l2⟩ | ⟨l1, l2, l3⟩ | ⟨j, o, rfl, l1, l2, l3, l4⟩
    · rcases pick pr with ⟨r1, r2⟩ | ⟨r1, r2, r3⟩ | ⟨j1, o1, rfl, r1, r2, r3, r4⟩
      · simp (maxSteps := 4000000) (maxDischargeDepth := 20) only [sGA, sevalprocAttr, x7, stU, b7, Tryz.f7, a0, a3, a4, e1, e3, e4, e5, List.getElem?_map, List.length_map, Int.toNat_natCast, encP, ci, l1, r1, hP, hQ, hA, hle1, Nat.le_refl, encO, Option.map_some]
        refine key _ _ (.lit (.pointer none)) (.lit (.pointer none)) (by rw [l2]; rfl) (by rw [r2]; rfl) (by rw [Tr.get_put, if_pos rfl]; rfl) (fun q q1 => by repeat rw [Tr.get_put, if_neg (by omega)]) ?_ ?_ ?_
        all_goals simp only [sG, sevalprocAttr, a0, a3, a4, encO]
      · simp (maxSteps := 4000000) (maxDischargeDepth := 20) only [sGA, sevalprocAttr, x7, stU, b7, Tryz.f7, a0, a3, a4, e1, e3, e4, e5, List.getElem?_map, List.length_map, Int.toNat_natCast, encP, ci, l1, r1, r2, hP, hQ, hA, hle1, Nat.le_refl, encO, Option.map_some]
        refine key _ _ (.lit (.pointer none)) (.lit (.pointer none)) (by rw [l2]; rfl) (by rw [r3]; rfl) (by rw [Tr.get_put, if_pos rfl]; rfl) (fun q q1 => by repeat rw [Tr.get_put, if_neg (by omega)]) ?_ ?_ ?_
        all_goals simp only [sG, sevalprocAttr, a0, a3, a4, encO]
      · obtain ⟨r0, hr0⟩ := hroom j1 o1 r3
        subst hr0
        simp (maxSteps := 4000000) (maxDischargeDepth := 20) only [sGA, sevalprocAttr, x7, stU, b7, Tryz.f7, a0, a3, a4, e1, e3, e4, e5, List.getElem?_map, List.length_map, Int.toNat_natCast, encP, ci, l1, r1, r2, r3, hP, hQ, hA, hle1, Nat.le_refl, encO, Option.map_some]
        refine key _ _ (.lit (.pointer none)) (.ptr o1 0) (by rw [l2]; rfl) r4 (by rw [Tr.get_put, if_pos rfl]; rfl) (fun q q1 => by repeat rw [Tr.get_put, if_neg (by omega)]) ?_ ?_ ?_
        all_goals simp only [sG, sevalprocAttr, a0, a3, a4, encO]
    · rcases pick pr with ⟨r1, r2⟩ | ⟨r1, r2, r3⟩ | ⟨j1, o1, rfl, r1, r2, r3, r4⟩
      · simp (maxSteps := 4000000) (maxDischargeDepth := 20) only [sGA, sevalprocAttr, x7, stU, b7, Tryz.f7, a0, a3, a4, e1, e3, e4, e5, List.getElem?_map, List.length_map, Int.toNat_natCast, encP, ci, l1, l2, r1, hP, hQ, hA, hle1, Nat.le_refl, encO, Option.map_some]
        refine key _ _ (.lit (.pointer none)) (.lit (.pointer none)) (by rw [l3]; rfl) (by rw [r2]; rfl) (by rw [Tr.get_put, if_pos rfl]; rfl) (fun q q1 => by repeat rw [Tr.get_put, if_neg (by omega)]) ?_ ?_ ?_
        all_goals simp only [sG, sevalprocAttr, a0, a3, a4, encO]
      · simp (maxSteps := 4000000) (maxDischargeDepth := 20) only [sGA, sevalprocAttr, x7, stU, b7, Tryz.f7, a0, a3, a4, e1, e3, e4, e5, List.getElem?_map, List.length_map, Int.toNat_natCast, encP, ci, l1, l2, r1, r2, hP, hQ, hA, hle1, Nat.le_refl, encO, Option.map_some]
        refine key _ _ (.lit (.pointer none)) (.lit (.pointer none)) (by rw [l3]; rfl) (by rw [r3]; rfl) (by rw [Tr.get_put, if_pos rfl]; rfl) (fun q q1 => by repeat rw [Tr.get_put, if_neg (by omega)]) ?_ ?_ ?_
        all_goals simp only [sG, sevalprocAttr, a0, a3, a4, encO]
      · obtain ⟨r0, hr0⟩ := hroom j1 o1 r3
        subst hr0
        simp (maxSteps := 4000000) (maxDischargeDepth := 20) only [sGA, sevalprocAttr, x7, stU, b7, Tryz.f7, a0, a3, a4, e1, e3, e4, e5, List.getElem?_map, List.length_map, Int.toNat_natCast, encP, ci, l1, l2, r1, r2, r3, hP, hQ, hA, hle1, Nat.le_refl, encO, Option.map_some]
        refine key _ _ (.lit (.pointer none)) (.ptr o1 0) (by rw [l3]; rfl) r4 (by rw [Tr.get_put, if_pos rfl]; rfl) (fun q q1 => by repeat rw [Tr.get_put, if_neg (by omega)]) ?_ ?_ ?_
        all_goals simp only [sG, sevalprocAttr, a0, a3, a4, encO]
    · rcases pick pr with ⟨r1, r2⟩ | ⟨r1, r2, r3⟩ | ⟨j1, o1, rfl, r1, r2, r3, r4⟩
      · obtain ⟨r0, hr0⟩ := hroom j o l3
        subst hr0
        simp (maxSteps := 4000000) (maxDischargeDepth := 20) only [sGA, sevalprocAttr, x7, stU, b7, Tryz.f7, a0, a3, a4, e1, e3, e4, e5, List.getElem?_map, List.length_map, Int.toNat_natCast, encP, ci, l1, l2, l3, r1, hP, hQ, hA, hle1, Nat.le_refl, encO, Option.map_some]
        refine key _ _ (.ptr o 0) (.lit (.pointer none)) l4 (by rw [r2]; rfl) (by rw [Tr.get_put, if_pos rfl]; rfl) (fun q q1 => by repeat rw [Tr.get_put, if_neg (by omega)]) ?_ ?_ ?_
        all_goals simp only [sG, sevalprocAttr, a0, a3, a4, encO]
      · obtain ⟨r0, hr0⟩ := hroom j o l3
        subst hr0
        simp (maxSteps := 4000000) (maxDischargeDepth := 20) only [sGA, sevalprocAttr, x7, stU, b7, Tryz.f7, a0, a3, a4, e1, e3, e4, e5, List.getElem?_map, List.length_map, Int.toNat_natCast, encP, ci, l1, l2, l3, r1, r2, hP, hQ, hA, hle1, Nat.le_refl, encO, Option.map_some]
        refine key _ _ (.ptr o 0) (.lit (.pointer none)) l4 (by rw [r3]; rfl) (by rw [Tr.get_put, if_pos rfl]; rfl) (fun q q1 => by repeat rw [Tr.get_put, if_neg (by omega)]) ?_ ?_ ?_
        all_goals simp only [sG, sevalprocAttr, a0, a3, a4, encO]
      · obtain ⟨r0, hr0⟩ := hroom j o l3
        subst hr0
        simp (maxSteps := 4000000) (maxDischargeDepth := 20) only [sGA, sevalprocAttr, x7, stU, b7, Tryz.f7, a0, a3, a4, e1, e3, e4, e5, List.getElem?_map, List.length_map, Int.toNat_natCast, encP, ci, l1, l2, l3, r1, r2, r3, hP, hQ, hA, hle1, Nat.le_refl, encO, Option.map_some]
        refine key _ _ (.ptr o 0) (.ptr o1 0) l4 r4 (by rw [Tr.get_put, if_pos rfl]; rfl) (fun q q1 => by repeat rw [Tr.get_put, if_neg (by omega)]) ?_ ?_ ?_
        all_goals simp only [sG, sevalprocAttr, a0, a3, a4, encO]
theorem cTree {l : List Pc} {m : Md} {H : Tr AO} {hs : Nat} (hL : l.length ≤ 1100000000000) :
    ∃ H' hs' a, callF tab (evw tab) m 7 [.lst .no (l.map encP)] H hs = some (a, H', hs') ∧ NdAt H' hs' a (treeN l) ∧ hs ≤ hs' ∧ ∀ p, p < hs → (H.get .dead p).isRoom = false → H'.get .dead p = H.get .dead p := by
  have L := @loopTree l m.gl hL l.length 0
  simp only [stU, stC, b7, Tryz.f7, List.drop_zero] at L
  rw [callF_in (fi := fi7) tcon rfl rfl rfl]
  simp (maxSteps := 4000000) only [sG, sevalprocAttr, x7, stU, b7, Tryz.f7, List.length_map]
  apply L _ _ _ (.lit (.slice none 0 0)) [] [] (by trivial) rfl rfl .nil (fun j o n h _ => by cases h)
  all_goals simp only [sG, sevalprocAttr]
  all_goals rfl
theorem nd_ptr {H : Tr AO} {hs : Nat} {a : AV} {n : Nd} (h : NdAt H hs a n) : (n = .nil ∧ a = .lit (.pointer none)) ∨ ∃ o, a = .ptr o 0 := by
  cases n with
  | nil => exact .inl ⟨rfl, h⟩
  | mk => obtain ⟨o, _, _, _, h, _⟩ := h; exact .inr ⟨o, h⟩
theorem frz_A {H : Tr AO} {hs : Nat} {a : AV} {n : Nd} (h : NdAt H hs a n) (hd : depN n ≤ 250) : ∃ H1, frz tab 300 23 a H = some (encN n, H1) ∧ Sm H H1 := frz_N n 299 a H hs h (by omega)
theorem cDeepA {m : Md} {n : Nd} {x : Int} {a : AV} {H : Tr AO} {hs h0 : Nat} (h1 : -1 ≤ x) (h2 : x ≤ 1000) (h : NdAt H h0 a n) (hd : depN n ≤ 250) : callF tab (evw tab) m 8 [a, .lit (.int .i64 x)] H hs = some (.lit (.int .i64 (deepN n x)), H, hs) := by
  obtain ⟨H1, hf, _⟩ := frz_A h hd
  rcases nd_ptr h with ⟨rfl, rfl⟩ | ⟨o, rfl⟩
  · exact cDeep0 h1 h2
  · exact cDeepP h1 h2 hf
theorem cRightA {m : Md} {n : Nd} {a : AV} {H : Tr AO} {hs h0 : Nat} (hs' : smallN n) (h : NdAt H h0 a n) (hd : depN n ≤ 250) : callF tab (evw tab) m 11 [a] H hs = some (.lit (.bool (rightN n)), H, hs) := by
  obtain ⟨H1, hf, _⟩ := frz_A h hd
  rcases nd_ptr h with ⟨rfl, rfl⟩ | ⟨o, rfl⟩
  · exact cRightN hs'.short
  · exact cRightP hs'.short hf
theorem cKeyA {q : Int} {n : Nd} {lm tx : Bool} {a : AV} {H : Tr AO} {hs h0 : Nat} (ho : okNd n) (hs' : smallN n) (hc : cntN n ≤ 1000) (hn : n ≠ .nil) (h : NdAt H h0 a n) (hd : depN n ≤ 250) : callF tab (evw tab) ⟨lm, tx, glK q⟩ 10 [a] H hs = some (.str (keyN n), H, hs) := by
  obtain ⟨H1, hf, _⟩ := frz_A h hd
  rcases nd_ptr h with ⟨rfl, rfl⟩ | ⟨o, rfl⟩
  · exact (hn rfl).elim
  · exact cKeyP ho hs' hc hf
theorem cSameA {m : Md} {a b : Nd} {u v : AV} {H : Tr AO} {hs h0 : Nat} (hs' : smallN a) (hn : a ≠ .nil) (h : NdAt H h0 u a) (g : NdAt H h0 v b) (hd : depN a ≤ 250) (ge : depN b ≤ 250) : callF tab (evw tab) m 15 [u, v] H hs = some (.lit (.bool (sameN a b)), H, hs) := by
  obtain ⟨H1, hf, s1⟩ := frz_A h hd
  obtain ⟨H2, gf, _⟩ := frz_A (g.sm s1) ge
  rcases nd_ptr h with ⟨rfl, rfl⟩ | ⟨o, rfl⟩
  · exact (hn rfl).elim
  · refine cSameP hs'.short (H1 := H2) ?_
    show frzL (frz tab 300) [23, 23] [.ptr o 0, v] H = _
    simp only [frzL, hf, gf]
theorem cKnown {q : Int} {H : Tr AO} {hs : Nat} : callF tab (evw tab) ⟨true, true, glK q⟩ 9 [] H hs = some (.lit (.bool true), H, hs) := by
  refine callF_iso tcon rfl rfl rfl ?_
  exact (good_isoF fi9 ⟨true, true, glK q⟩ []).1 _ _ _ (fun ro c s r h => evw_of (ev_mono tab) h) (kn9 q)
/-- The law ShapeAlike on the machine. -/
theorem lawAlike {k l : List Pc} {q : Int} (hk : k.length ≤ 1100000000000) (hl : l.length ≤ 1100000000000) (ok : ∀ p ∈ k, okNd (mkN [] p)) (ol : ∀ p ∈ l, okNd (mkN [] p)) :
    ∃ H' hs', callF tab (evw tab) ⟨true, true, glK q⟩ 6 [.lst .no (k.map encP), .lst .no (l.map encP)] .lf 0 = some (.lit (.bool true), H', hs') := by
  obtain ⟨H1, h1, a, ca, na, _, _⟩ := @cTree k ⟨true, true, glK q⟩ .lf 0 hk
  obtain ⟨H2, h2, b, cb, nb, hh, hfr⟩ := @cTree l ⟨true, true, glK q⟩ H1 h1 hl
  have na2 := na.keep hh hfr
  have oa := treeN_ok ok
  have ob := treeN_ok ol
  have da := treeN_dep k
  have db := treeN_dep l
  have kn := fun H hs => @cKnown q H hs
  generalize treeN k = x at *
  generalize treeN l = y at *
  rw [callF_in (fi := fi6) tcon rfl rfl rfl]
  cases e1 : decide ((200 : Int) < k.length) with
  | true => exact ⟨H2, h2, by simp (maxSteps := 4000000) only [sG, sevalprocAttr, x6, stU, b6, Tryz.f6, ca, cb, e1, kn, List.length_map]⟩
  | false =>
  cases e2 : decide ((200 : Int) < l.length) with
  | true => exact ⟨H2, h2, by simp (maxSteps := 4000000) only [sG, sevalprocAttr, x6, stU, b6, Tryz.f6, ca, cb, e1, e2, kn, List.length_map]⟩
  | false =>
  have e1' := of_decide_eq_false e1
  have e2' := of_decide_eq_false e2
  have c1 := fun m hs => @cDeepA m x 100 a H2 hs h2 (by omega) (by omega) na2 (by omega)
  have c2 := fun m hs => @cDeepA m y 100 b H2 hs h2 (by omega) (by omega) nb (by omega)
  cases e3 : decide ((100 : Int) < deepN x 100) with
  | true => exact ⟨H2, h2, by simp (maxSteps := 4000000) only [sG, sevalprocAttr, x6, stU, b6, Tryz.f6, ca, cb, e1, e2, e3, c1, kn, List.length_map]⟩
  | false =>
  cases e4 : decide ((100 : Int) < deepN y 100) with
  | true => exact ⟨H2, h2, by simp (maxSteps := 4000000) only [sG, sevalprocAttr, x6, stU, b6, Tryz.f6, ca, cb, e1, e2, e3, e4, c1, c2, kn, List.length_map]⟩
  | false =>
  have e3' := of_decide_eq_false e3
  have e4' := of_decide_eq_false e4
  obtain ⟨sx, nx⟩ := deepN_small x 100 (by omega) (by omega)
  obtain ⟨sy, ny⟩ := deepN_small y 100 (by omega) (by omega)
  have c3 := fun m hs => @cRightA m x a H2 hs h2 sx na2 (by omega)
  have c4 := fun m hs => @cRightA m y b H2 hs h2 sy nb (by omega)
  cases e5 : rightN x with
  | false =>
    simp only [e5] at c3
    exact ⟨H2, h2, by simp (maxSteps := 4000000) only [sG, sevalprocAttr, x6, stU, b6, Tryz.f6, ca, cb, e1, e2, e3, e4, c1, c2, c3, kn, List.length_map, Bool.not_false]⟩
  | true =>
  cases e6 : rightN y with
  | false =>
    simp only [e5] at c3
    simp only [e6] at c4
    exact ⟨H2, h2, by simp (maxSteps := 4000000) only [sG, sevalprocAttr, x6, stU, b6, Tryz.f6, ca, cb, e1, e2, e3, e4, c1, c2, c3, c4, kn, List.length_map, Bool.not_false, Bool.not_true]⟩
  | true =>
  have key := key_same e5 e6 oa ob sx sy
  have c5 := fun lm tx hs => @cKeyA q x lm tx a H2 hs h2 oa sx (by omega) (right_inv e5).1 na2 (by omega)
  have c6 := fun lm tx hs => @cKeyA q y lm tx b H2 hs h2 ob sy (by omega) (right_inv e6).1 nb (by omega)
  have c7 := fun m hs => @cSameA m x y a b H2 hs h2 sx (right_inv e5).1 na2 nb (by omega) (by omega)
  simp only [keyN, e5, e6, cond_true] at c5 c6
  simp only [e5] at c3
  simp only [e6] at c4
  have kk : ∀ p q' t, binO tab .eql t p q' (some (.lit (.bool (joinS [32] (textN x) == joinS [32] (textN y))))) (some (.lit (.bool (sameN x y)))) = binO tab .eql t p q' (some (.lit (.bool (sameN x y)))) (some (.lit (.bool (sameN x y)))) := fun p q' t => by rw [key]
  have k2 : ∀ b : Bool, (b == b) = true := fun b => beq_self_eq_true b
  exact ⟨H2, h2, by simp (maxSteps := 4000000) only [sG, sevalprocAttr, x6, stU, b6, Tryz.f6, ca, cb, e1, e2, e3, e4, c1, c2, c3, c4, c5, c6, c7, key, k2, bEq, kn, List.length_map, Bool.not_false, Bool.not_true]⟩
end Go.Proofs.YtcledcfeddlomaaGreatDoor.Ev
