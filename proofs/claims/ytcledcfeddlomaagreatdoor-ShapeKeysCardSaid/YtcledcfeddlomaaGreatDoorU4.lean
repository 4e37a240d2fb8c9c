import Derived.Test.YtcledcfeddlomaaGreatDoorT3
set_option linter.all false
set_option maxRecDepth 100000
set_option maxHeartbeats 8000000
namespace Go.Proofs.YtcledcfeddlomaaGreatDoor.Ev
open Go Go.Proofs.YtcledcfeddlomaaGreatDoor.Ev Go.Proofs Go.Proofs.YtcledcfeddlomaaGreatDoor Go.Proofs.YtcledcfeddlomaaGreatDoor.Tab
def textA (n : Nd) : AV := .lst .no ((textN n).map AV.str)
theorem bare_ci (n : Int) : bare (ci n) = true := rfl
theorem nrm_ci (n : Int) : nrm (ci n) = ci n := rfl
theorem okW_of {k : Int} {nm : List UInt8} {w : Int} {cs : List Cd} {ps : List (Int × Int)} {cl : List Int} {ag of : Int} {l r : Nd} (he : eachB (.mk k nm w cs ps cl ag of l r) = true) (ho : okNd (.mk k nm w cs ps cl ag of l r)) (hs : smallN (.mk k nm w cs ps cl ag of l r)) : okW k w cs ps cl ag of := by
 obtain ⟨el, er, ba, ka, ca, na⟩ := each_inv he
 obtain ⟨o1, o2, o3, o4, o5, o6, o7, ol, or⟩ := ho
 obtain ⟨s1, s2, s3, s4, sl, sr⟩ := hs
 refine ⟨ka, o2, o3, o4, by omega, by omega, by omega, fun hk c hc => ?_, o6, o7⟩
 obtain ⟨p1, p2, p3, p4⟩ := o5 c hc
 refine ⟨p1, p2, p3, fun hr => ?_⟩
 rcases ca hk c hc with ⟨_, h⟩ | ⟨h, _⟩
 ·exact h
 ·exact absurd hr h
theorem eqText {q : Int} : ∀ (n : Nd) (lm tx : Bool), eachB n = true -> okNd n -> smallN n -> cntN n <= 1000 -> iso tab fi23 ⟨lm, tx, glK q⟩ [encN n] = some (textA n) := by
 have D := d23
 simp only [stD, stC, List.cons.injEq, b23, Tryz.f23] at D
 intro n
 induction n with
 | nil =>
  intro lm tx _ _ _ _
  refine iso_ret ?_
  simp only [sG, seval, x23, stU, b23, Tryz.f23, encN, D, dPN, textA, textN, List.map_nil]
 | mk k nm w cs ps cl ag of l r ihl ihr =>
  intro lm tx he ho hs hc
  have c0 := fun lm tx H hs => @cWords q k nm w cs ps cl ag of l r lm tx H hs (okW_of he ho (by assumption))
  have hlen := textN_len hs
  obtain ⟨el, er, ba, ka, ca, na⟩ := each_inv he
  obtain ⟨o1, o2, o3, o4, o5, o6, o7, ol, or⟩ := ho
  obtain ⟨s1, s2, s3, s4, sl, sr⟩ := hs
  have hc' : 1 + cntN l + cntN r <= 1000 := hc
  simp only [textA] at ihl ihr ⊢
  have c1 : ∀ lm' tx' H hs, callF tab (evw tab) ⟨lm', tx', glK q⟩ 23 [encN l] H hs = some (.lst .no ((textN l).map AV.str), H, hs) := fun lm' tx' H hs =>
   callF_iso tcon rfl rfl (by simp only [bares, bare_N]; rfl) (by simp only [nrms, nrm_N]; exact ihl lm' tx' el ol sl (by omega))
  have c2 : ∀ lm' tx' H hs, callF tab (evw tab) ⟨lm', tx', glK q⟩ 23 [encN r] H hs = some (.lst .no ((textN r).map AV.str), H, hs) := fun lm' tx' H hs =>
   callF_iso tcon rfl rfl (by simp only [bares, bare_N]; rfl) (by simp only [nrms, nrm_N]; exact ihr lm' tx' er or sr (by omega))
  have c3 := fun m H hs => @cConcat m .full [ownW k nm w cs ps cl ag of, textN l, textN r] H hs (by simp) (by simp only [List.flatten_cons, ownW_kw]; simp) (by
    have : [ownW k nm w cs ps cl ag of, textN l, textN r].flatten = textN (.mk k nm w cs ps cl ag of l r) := by simp [textN]
    rw [this]; have : cntN (.mk k nm w cs ps cl ag of l r) <= 1000 := hc; omega)
  have ef : [ownW k nm w cs ps cl ag of, textN l, textN r].flatten = textN (.mk k nm w cs ps cl ag of l r) := by simp [textN]
  rw [ef] at c3
  simp only [List.map_cons, List.map_nil, encSl] at c3
  refine iso_ret ?_
  simp only [encN] at c0
  simp (maxSteps := 4000000) only [sG, seval, x23, stU, b23, Tryz.f23, encN, D, dPN, dN, dLB, bare_ci, nrm_ci, textA, c0, c1, c2, c3, bares_S, nrms_S]
theorem cTextN {q : Int} {n : Nd} {lm tx : Bool} {H : Tr AO} {hs : Nat} (he : eachB n = true) (ho : okNd n) (hs' : smallN n) (hc : cntN n <= 1000) : callF tab (evw tab) ⟨lm, tx, glK q⟩ 23 [encN n] H hs = some (textA n, H, hs) :=
 callF_iso tcon rfl rfl (by simp only [bares, bare_N]; rfl) (by simp only [nrms, nrm_N]; exact eqText n lm tx he ho hs' hc)
def keyN (n : Nd) : List UInt8 := bif rightN n then joinS [32] (textN n) else []
theorem eqKey {q : Int} {n : Nd} {lm tx : Bool} (ho : okNd n) (hs' : smallN n) (hc : cntN n <= 1000) : isoO (evw tab) tab fi10 ⟨lm, tx, glK q⟩ [encN n] = some (.str (keyN n)) := by
 refine own_ret ?_
 have c1 := fun m H hs => @cRightN m n H hs hs'.short
 unfold keyN
 cases hr : rightN n with
 | false =>
  simp only [hr] at c1
  simp (maxSteps := 4000000) only [sG, seval, x10, stU, b10, Tryz.f10, c1]
  rfl
 | true =>
  simp only [hr] at c1
  obtain ⟨hn, he⟩ := right_inv hr
  have c2 := fun lm tx H hs => @cTextN q n lm tx H hs he ho hs' hc
  have hl := textN_len hs'
  have hw := textN_ok he hs'
  have hj := joinS_len [32] (B := 400) (textN n) (fun w h => (hw w h).2)
  have c3 := fun H hs => @natO_join (glK q) .no (textN n) [32] H hs (by omega) (by simp only [List.length_cons, List.length_nil] at hj; omega)
  simp (maxSteps := 4000000) only [sG, seval, x10, stU, b10, Tryz.f10, c1, c2, c3, textA, cond_true]
  rfl
theorem cKeyP {q : Int} {n : Nd} {lm tx : Bool} {o : Nat} {H H1 : Tr AO} {hs : Nat} (ho : okNd n) (hs' : smallN n) (hc : cntN n <= 1000) (hf : frz tab 300 23 (.ptr o 0) H = some (encN n, H1)) : callF tab (evw tab) ⟨lm, tx, glK q⟩ 10 [.ptr o 0] H hs = some (.str (keyN n), H, hs) :=
 callF_own (H1 := H1) tcon rfl rfl rfl (bs := [encN n]) (by show frzL (frz tab 300) [23] [.ptr o 0] H = _; simp only [frzL, hf]) (by simp only [bares, bare_N, Bool.and_self]) (by simp only [nrms, nrm_N]; exact eqKey ho hs' hc)
structure Pc where
 k : Int
 nm : List UInt8
 w : Int
 cs : List Cd
 ps : List (Int × Int)
 cl : List Int
 ag : Int
 of : Int
 l : Int
 r : Int
def encP (p : Pc) : AV := .agg [ci p.k, .str p.nm, ci p.w, .lst .no (p.cs.map encC), .lst .no (p.ps.map encPr), .lst .no (p.cl.map ci), ci p.ag, ci p.of, ci p.l, ci p.r]
def lk (acc : List Nd) (x : Int) : Nd := bif decide (0 <= x) && decide (x < acc.length) then acc.getD x.toNat .nil else .nil
def mkN (acc : List Nd) (p : Pc) : Nd := .mk p.k p.nm p.w p.cs p.ps p.cl p.ag p.of (lk acc p.l) (lk acc p.r)
def treeL : List Nd -> List Pc -> List Nd
 | acc, [] => acc
 | acc, p :: l => treeL (acc ++ [mkN acc p]) l
def treeN (l : List Pc) : Nd := (treeL [] l).getLastD .nil
def nodeC (k : Int) (nm : List UInt8) (w : Int) (X Y Z : AV) (ag of : Int) (la ra : AV) : List AV := [ci k, .str nm, ci w, X, Y, Z, ci ag, ci of, la, ra]
def LsN (X : AV) (l : List AV) : Prop := bare X = true /\ nrm X = .lst .no l
def NdAt (H : Tr AO) (hs : Nat) : AV -> Nd -> Prop
 | a, .nil => a = .lit (.pointer none)
 | a, .mk k nm w cs ps cl ag of l r => ∃ o ro la ra X Y Z, a = .ptr o 0 /\ o < hs /\ H.get .dead o = .cells (nodeC k nm w X Y Z ag of la ra) ro /\ LsN X (cs.map encC) /\ LsN Y (ps.map encPr) /\ LsN Z (cl.map ci) /\ NdAt H hs la l /\ NdAt H hs ra r
def depN : Nd -> Nat
 | .nil => 0
 | .mk _ _ _ _ _ _ _ _ l r => 1 + max (depN l) (depN r)
def Sm (H H1 : Tr AO) : Prop := ∀ o c ro, H.get .dead o = .cells c ro -> ∃ ro', H1.get .dead o = .cells c ro'
theorem Sm.refl (H : Tr AO) : Sm H H := fun o c ro h => ⟨ro, h⟩
theorem Sm.trans {A B C : Tr AO} (h : Sm A B) (g : Sm B C) : Sm A C := fun o c ro e => by
 obtain ⟨r1, e1⟩ := h o c ro e
 exact g o c r1 e1
theorem Sm.frz {H : Tr AO} {o : Nat} {c : List AV} {ro ro' : Bool} (h : H.get .dead o = .cells c ro) : Sm H (H.put .dead o (.cells c ro')) := fun p d r e => by
 rw [Tr.get_put]
 by_cases hp : p = o
 ·subst hp; rw [h] at e; cases e; exact ⟨ro', by rw [if_pos rfl]⟩
 ·rw [if_neg hp]; exact ⟨r, e⟩
theorem NdAt.sm {H H1 : Tr AO} {hs : Nat} (hS : Sm H H1) : ∀ {n : Nd} {a : AV}, NdAt H hs a n -> NdAt H1 hs a n
 | .nil, a, h => h
 | .mk .., a, ⟨o, ro, la, ra, X, Y, Z, h1, h2, h3, x1, x2, x3, h4, h5⟩ => by
  obtain ⟨ro', h6⟩ := hS o _ ro h3
  exact ⟨o, ro', la, ra, X, Y, Z, h1, h2, h6, x1, x2, x3, NdAt.sm hS h4, NdAt.sm hS h5⟩
theorem NdAt.keep {H H1 : Tr AO} {hs hs1 : Nat} (hh : hs <= hs1) (hS : ∀ p, p < hs -> (H.get .dead p).isRoom = false -> H1.get .dead p = H.get .dead p) : ∀ {n : Nd} {a : AV}, NdAt H hs a n -> NdAt H1 hs1 a n
 | .nil, a, h => h
 | .mk .., a, ⟨o, ro, la, ra, X, Y, Z, h1, h2, h3, x1, x2, x3, h4, h5⟩ => ⟨o, ro, la, ra, X, Y, Z, h1, by omega, by rw [hS o h2 (by rw [h3]; rfl)]; exact h3, x1, x2, x3, NdAt.keep hh hS h4, NdAt.keep hh hS h5⟩
theorem ls_no {l : List AV} (hb : bares l = true) (hn : nrms l = l) : LsN (.lst .no l) l := ⟨hb, by show AV.lst .no (nrms l) = _; rw [hn]⟩
theorem ls_C (l : List Cd) : LsN (.lst .no (l.map encC)) (l.map encC) := ls_no (bare_Cl l) (nrms_Cl l)
theorem ls_P (l : List (Int × Int)) : LsN (.lst .no (l.map encPr)) (l.map encPr) := ls_no (bare_Pl l) (nrms_Pl l)
theorem ls_I (l : List Int) : LsN (.lst .no (l.map ci)) (l.map ci) := ls_no (bare_Il l) (nrms_Il l)
theorem ls_nil : LsN (.lit (.slice none 0 0)) [] := ⟨rfl, rfl⟩
theorem cellTys49 : ∃ i, tab.t 23 = some i /\ ∃ j, tab.t 49 = some j /\ ptrE tab 23 = some 49 /\ j.size = 10 /\ cellTys tab 20 49 = [3, 9, 3, 43, 44, 45, 3, 3, 23, 23] := ⟨_, rfl, _, rfl, rfl, rfl, rfl⟩
theorem frz_N : ∀ (n : Nd) (d : Nat) (a : AV) (H : Tr AO) (hs : Nat), NdAt H hs a n -> depN n <= d -> ∃ H1, frz tab (d + 1) 23 a H = some (encN n, H1) /\ Sm H H1
 | .nil, d, a, H, hs, h, hd => by
  have h : a = .lit (.pointer none) := h
  subst h
  exact ⟨H, frz_bare rfl, Sm.refl _⟩
 | .mk k nm w cs ps cl ag of l r, 0, a, H, hs, _, hd => by
  have hd : 1 + max (depN l) (depN r) <= 0 := hd
  omega
 | .mk k nm w cs ps cl ag of l r, d + 1, a, H, hs, ⟨o, ro, la, ra, X, Y, Z, h1, h2, h3, x1, x2, x3, h4, h5⟩, hd => by
  have hd : 1 + max (depN l) (depN r) <= d + 1 := hd
  have s0 : Sm H (H.put .dead o (.cells (nodeC k nm w X Y Z ag of la ra) true)) := Sm.frz h3
  obtain ⟨H2, f2, s2⟩ := frz_N l d la _ hs (h4.sm s0) (by omega)
  obtain ⟨H3, f3, s3⟩ := frz_N r d ra _ hs (h5.sm (s0.trans s2)) (by omega)
  obtain ⟨i, hi, j, hj, hp, hz, hc⟩ := cellTys49
  refine ⟨H3, ?_, (s0.trans s2).trans s3⟩
  subst h1
  have hrd : rd H o 0 10 = some (nodeC k nm w X Y Z ag of la ra) := by
   unfold rd
   rw [h3]; rfl
  unfold frz
  simp only [bare, cond_false, hp, h3, hrd, hj, hz, hc]
  unfold nodeC at f2
  simp only [nodeC, frzL, frz_bare (d := d) (show bare (ci k) = true from rfl), frz_bare (d := d) (show bare (AV.str nm) = true from rfl), frz_bare (d := d) (show bare (ci w) = true from rfl), frz_bare (d := d) x1.1, frz_bare (d := d) x2.1, frz_bare (d := d) x3.1, frz_bare (d := d) (show bare (ci ag) = true from rfl), frz_bare (d := d) (show bare (ci of) = true from rfl), f2, f3]
  simp only [nrm, x1.2, x2.2, x3.2, encN, nrm_ci]
theorem getD_mem {l : List Nd} {i : Nat} {P : Nd -> Prop} (h : ∀ x ∈ l, P x) (h0 : P .nil) : P (l.getD i .nil) := by
 rw [List.getD_eq_getElem?_getD]
 cases hi : l[i]? with
 | none => exact h0
 | some x => exact h x (List.mem_of_getElem? hi)
theorem lk_P {acc : List Nd} {x : Int} {P : Nd -> Prop} (h : ∀ x ∈ acc, P x) (h0 : P .nil) : P (lk acc x) := by
 unfold lk
 cases (decide (0 <= x) && decide (x < acc.length)) with
 | true => exact getD_mem h h0
 | false => exact h0
theorem treeL_dep : ∀ (l : List Pc) (acc : List Nd), (∀ n ∈ acc, depN n <= acc.length) -> ∀ n ∈ treeL acc l, depN n <= acc.length + l.length
 | [], acc, h, n, hn => h n hn
 | p :: l, acc, h, n, hn => by
  have := treeL_dep l (acc ++ [mkN acc p]) (fun m hm => by
   rw [List.length_append, List.length_singleton]
   rcases List.mem_append.1 hm with hm | hm
   ·have := h m hm; omega
   ·rw [List.mem_singleton] at hm
    subst hm
    have h1 := @lk_P acc p.l (fun n => depN n <= acc.length) h (Nat.zero_le _)
    have h2 := @lk_P acc p.r (fun n => depN n <= acc.length) h (Nat.zero_le _)
    show 1 + max (depN (lk acc p.l)) (depN (lk acc p.r)) <= _
    omega) n hn
  rw [List.length_append, List.length_singleton] at this
  rw [List.length_cons]; omega
theorem treeN_dep (l : List Pc) : depN (treeN l) <= l.length := by
 unfold treeN
 have h := treeL_dep l [] (fun n h => by cases h)
 rw [List.getLastD_eq_getLast?]
 cases hl : (treeL [] l).getLast? with
 | none => exact Nat.zero_le _
 | some n => have := h n (List.mem_of_getLast? hl); simpa using this
theorem treeL_ok : ∀ (l : List Pc) (acc : List Nd), (∀ n ∈ acc, okNd n) -> (∀ p ∈ l, okNd (mkN [] p)) -> ∀ n ∈ treeL acc l, okNd n
 | [], acc, h, _, n, hn => h n hn
 | p :: l, acc, h, hp, n, hn => treeL_ok l (acc ++ [mkN acc p]) (fun m hm => by
   rcases List.mem_append.1 hm with hm | hm
   ·exact h m hm
   ·rw [List.mem_singleton] at hm
    subst hm
    obtain ⟨o1, o2, o3, o4, o5, o6, o7, _, _⟩ := hp p (by simp)
    exact ⟨o1, o2, o3, o4, o5, o6, o7, lk_P h trivial, lk_P h trivial⟩) (fun q hq => hp q (by simp [hq])) n hn
theorem treeN_ok {l : List Pc} (hp : ∀ p ∈ l, okNd (mkN [] p)) : okNd (treeN l) := by
 unfold treeN
 rw [List.getLastD_eq_getLast?]
 cases hl : (treeL [] l).getLast? with
 | none => exact trivial
 | some n => exact treeL_ok l [] (fun n h => by cases h) hp n (List.mem_of_getLast? hl)
def encO (o : Nat) : AV := .ptr o 0
theorem lk_in {acc : List Nd} {j : Nat} {n : Nd} (h : acc[j]? = some n) : lk acc (j : Int) = n := by
 have hj : j < acc.length := (List.getElem?_eq_some_iff.1 h).1
 unfold lk
 rw [decide_eq_true (show (0 : Int) <= (j : Int) by omega), decide_eq_true (show (j : Int) < acc.length by omega), Bool.and_self, cond_true, Int.toNat_natCast, List.getD_eq_getElem?_getD, h]; rfl
theorem lk_neg {acc : List Nd} {x : Int} (h : decide (0 <= x) = false) : lk acc x = .nil := by
 unfold lk; rw [h]; rfl
theorem lk_out {acc : List Nd} {x : Int} {i : Nat} (hi : acc.length = i) (h : decide (x < (i : Int)) = false) : lk acc x = .nil := by
 unfold lk; rw [hi, h, Bool.and_false]; rfl
theorem loopTree {l : List Pc} {gl : Tr (Option AV)} (hL : l.length <= 1100000000000) : ∀ (k i : Nat) (t : Tr AV) (H : Tr AO) (hs : Nat) (A : AV) (es : List Nat) (ns : List Nd), i + k = l.length -> es.length = i -> ns.length = i -> Acc H hs 1 A (es.map encO) ->
  (∀ (j : Nat) (o : Nat) (n : Nd), es[j]? = some o -> ns[j]? = some n -> NdAt H hs (.ptr o 0) n) ->
  t.get .any 0 = .lst .no (l.map encP) -> t.get .any 3 = A -> t.get .any 4 = .lit (.int .i64 i) ->
  ∃ H' hs' a, W tab none (fin tab fi7) (lpc fi7 0) (lpk fi7 0) ⟨t, 82, H, hs, [], ⟨true, true, gl⟩⟩ = some (a, H', hs') /\ NdAt H' hs' a ((treeL ns (l.drop i)).getLastD .nil) /\ hs <= hs' /\ ∀ p, p < hs -> (H.get .dead p).isRoom = false -> H'.get .dead p = H.get .dead p := by
 simp only [stU, stC, b7, Tryz.f7]
 intro k
 induction k with
 | zero =>
  intro i t H hs A es ns hi he hn hA hN a0 a3 a4
  have e1 : decide ((i : Int) < l.length) = false := dcF (by omega)
  have hlen := hA.len
  rw [List.length_map] at hlen
  rw [List.drop_of_length_le (by omega), treeL]
  cases hes : es with
  | nil =>
   subst hes
   obtain rfl : ns = [] := List.eq_nil_of_length_eq_zero (by rw [hn, <- he]; rfl)
   refine ⟨H, hs, .lit (.pointer none), ?_, rfl, Nat.le_refl _, fun _ _ _ => rfl⟩
   rw [W_loop]
   simp only [List.length_nil] at hlen
   have e2 : decide (((0 : Nat) : Int) = 0) = true := rfl
   simp (maxSteps := 4000000) only [sG, seval, x7, stU, b7, Tryz.f7, a0, a3, a4, e1, e2, hlen, List.length_map]
  | cons o0 es0 =>
   have hne : es ≠ [] := by rw [hes]; exact fun h => by cases h
   obtain ⟨es', o, rfl⟩ : ∃ A' x, es = A' ++ [x] := ⟨es.dropLast, es.getLast hne, (List.dropLast_concat_getLast hne).symm⟩
   clear hes o0 es0
   have hnn : ns ≠ [] := by rintro rfl; rw [<- he] at hn; simp at hn
   obtain ⟨ns', n, rfl⟩ : ∃ A' x, ns = A' ++ [x] := ⟨ns.dropLast, ns.getLast hnn, (List.dropLast_concat_getLast hnn).symm⟩
   rw [List.length_append, List.length_singleton] at he hn hlen
   have hlast : (ns' ++ [n]).getLastD .nil = n := by rw [List.getLastD_eq_getLast?]; simp
   rw [hlast]
   have g1 : (es' ++ [o])[es'.length]? = some o := by simp
   have g2 : (ns' ++ [n])[es'.length]? = some n := by rw [show es'.length = ns'.length by omega]; simp
   refine ⟨H, hs, .ptr o 0, ?_, hN es'.length o n g1 g2, Nat.le_refl _, fun _ _ _ => rfl⟩
   rcases hA with ⟨h, _⟩ | ⟨r, rfl, _, _⟩
   ·simp at h
   rw [W_loop]
   have e2 : decide (((es'.length + 1 : Nat) : Int) = 0) = false := dcF (by omega)
   have w1 : IntKind.i64.wrap (((es'.length + 1 : Nat) : Int) - 1) = (es'.length : Int) := by rw [wrap_i64 (by omega) (by omega)]; omega
   have e3 : decide (0 <= (es'.length : Int)) = true := dcT (by omega)
   simp (maxSteps := 4000000) only [sG, seval, x7, stU, b7, Tryz.f7, a0, a3, a4, e1, e2, e3, w1, g1, hlen, lG, encO, Option.map_some]
 | succ k ih =>
  intro i t H hs A es ns hi he hn hA hN a0 a3 a4
  have hlt : i < (l).length := by omega
  obtain ⟨p, hv, e1, e3, e4, e6, e7⟩ := atS hlt
  have e5 := wrap_succ (i := i) (by omega)
  have key : ∀ (t' : Tr AV) (H2 : Tr AO) (la ra : AV), NdAt H hs la (lk ns p.l) -> NdAt H hs ra (lk ns p.r) -> H2.get .dead (hs + 1) = .cells (nodeC p.k p.nm p.w (.lst .no (p.cs.map encC)) (.lst .no (p.ps.map encPr)) (.lst .no (p.cl.map ci)) p.ag p.of la ra) false -> (∀ q, q < hs -> H2.get .dead q = H.get .dead q) ->
    t'.get .any 0 = .lst .no (l.map encP) -> t'.get .any 3 = .lst (.room (hs + 1 + 1)) ((es ++ [hs + 1]).map encO) -> t'.get .any 4 = .lit (.int .i64 ((i + 1 : Nat) : Int)) ->
    ∃ H' hs' a, W tab none (fin tab fi7) (lpc fi7 0) (lpk fi7 0) ⟨t', 82, accH H2 (hs + 1 + 1) 1 A, hs + 1 + 1 + 1, [], ⟨true, true, gl⟩⟩ = some (a, H', hs') /\ NdAt H' hs' a ((treeL ns (l.drop i)).getLastD .nil) /\ hs <= hs' /\ ∀ p, p < hs -> (H.get .dead p).isRoom = false -> H'.get .dead p = H.get .dead p := by
   intro t' H2 la ra hla hra h1 h2 b0 b3 b4
   simp only [stU, stC, b7, Tryz.f7]
   have hA2 : Acc H2 (hs + 1 + 1) 1 A (es.map encO) := by
    rcases hA with h | ⟨r, rfl, g1, g2⟩
    ·exact .inl h
    ·exact .inr ⟨r, rfl, by rw [h2 r g2]; exact g1, by omega⟩
   have hkeep : ∀ q, q < hs -> (H.get .dead q).isRoom = false -> (accH H2 (hs + 1 + 1) 1 A).get .dead q = H.get .dead q := fun q q1 q2 => by
    rw [hA2.get (by omega) (by rw [h2 q q1]; exact q2), h2 q q1]
   have hnode : (accH H2 (hs + 1 + 1) 1 A).get .dead (hs + 1) = .cells (nodeC p.k p.nm p.w (.lst .no (p.cs.map encC)) (.lst .no (p.ps.map encPr)) (.lst .no (p.cl.map ci)) p.ag p.of la ra) false := by
    rw [hA2.get (by omega) (by rw [h1]; rfl), h1]
   obtain ⟨H', hs', a, r1, r2, r3, r4⟩ := ih (i + 1) t' (accH H2 (hs + 1 + 1) 1 A) (hs + 1 + 1 + 1) (.lst (.room (hs + 1 + 1)) ((es ++ [hs + 1]).map encO)) (es ++ [hs + 1]) (ns ++ [mkN ns p]) (by omega) (by simp; omega) (by simp; omega) accN (fun j o n g1 g2 => by
    by_cases hj : j < i
    ·rw [List.getElem?_append_left (by omega)] at g1 g2
     exact (hN j o n g1 g2).keep (by omega) hkeep
    ·have hj2 : j = i := by
      have := (List.getElem?_eq_some_iff.1 g1).1
      rw [List.length_append, List.length_singleton] at this
      omega
     subst hj2
     rw [List.getElem?_append_right (by omega), he] at g1
     rw [List.getElem?_append_right (by omega), hn] at g2
     simp at g1 g2
     subst g1 g2
     exact ⟨hs + 1, false, la, ra, _, _, _, rfl, by omega, hnode, ls_C _, ls_P _, ls_I _, hla.keep (by omega) hkeep, hra.keep (by omega) hkeep⟩) b0 b3 b4
   refine ⟨H', hs', a, r1, ?_, by omega, fun q q1 q2 => ?_⟩
   ·rw [e6, treeL]; exact r2
   ·have := hkeep q q1 q2
    rw [r4 q (by omega) (by rw [this]; exact q2), this]
  simp only [stU, stC, b7, Tryz.f7] at key
  have hP : ∀ H2, Acc H2 hs 1 A (es.map encO) -> appendO H2 (hs + 1 + 1) true false 1 8 (some A) (some (.lst .full [.ptr (hs + 1) 0])) = some (.lst (.room (hs + 1 + 1)) ((es ++ [hs + 1]).map encO), accH H2 (hs + 1 + 1) 1 A, hs + 1 + 1 + 1) := fun H2 h => accApp (f := encO) (hs + 1) (h.mono (by omega)) rfl (by omega)
  have hQ : ∀ (H2 : Tr AO) (o : Nat) (X : AO), hs <= o -> Acc H2 hs 1 A (es.map encO) -> Acc (H2.put .dead o X) hs 1 A (es.map encO) := fun H2 o X h g => g.put' h
  have pick : ∀ x : Int, (decide (0 <= x) = false /\ lk ns x = .nil) ∨ (decide (0 <= x) = true /\ decide (x < (i : Int)) = false /\ lk ns x = .nil) ∨ ∃ (j o : Nat), x = (j : Int) /\ decide ((j : Int) < (i : Int)) = true /\ decide (0 <= (j : Int)) = true /\ es[j]? = some o /\ NdAt H hs (.ptr o 0) (lk ns x) := fun x => by
   cases h1 : decide (0 <= x) with
   | false => exact .inl ⟨rfl, lk_neg h1⟩
   | true =>
    cases h2 : decide (x < (i : Int)) with
    | false => exact .inr (.inl ⟨rfl, rfl, lk_out hn h2⟩)
    | true =>
     have h1 := of_decide_eq_true h1
     have h2 := of_decide_eq_true h2
     obtain ⟨j, rfl⟩ : ∃ j : Nat, x = (j : Int) := ⟨x.toNat, by omega⟩
     have hj : j < i := by omega
     have g1 : es[j]? = some (es[j]'(by omega)) := List.getElem?_eq_getElem _
     have g2 : ns[j]? = some (ns[j]'(by omega)) := List.getElem?_eq_getElem _
     refine .inr (.inr ⟨j, _, rfl, dcT (by omega), dcT (by omega), g1, ?_⟩)
     rw [lk_in g2]
     exact hN _ _ _ g1 g2
  have hroom : ∀ (j o : Nat), es[j]? = some o -> ∃ r, A = .lst (.room r) (es.map encO) := fun j o h => by
   rcases hA with ⟨h2, _⟩ | ⟨r, h2, _⟩
   ·rw [List.map_eq_nil_iff] at h2; subst h2; cases h
   ·exact ⟨r, h2⟩
  have hle1 : hs <= hs + 1 := by omega
  obtain ⟨pk, pnm, pw, pcs, pps, pcl, pag, pof, pl, pr⟩ := p
  simp only at key
  rw [W_loop]
  rcases pick pl with ⟨l1, l2⟩ | ⟨l1, l2, l3⟩ | ⟨j, o, rfl, l1, l2, l3, l4⟩
  ·rcases pick pr with ⟨r1, r2⟩ | ⟨r1, r2, r3⟩ | ⟨j1, o1, rfl, r1, r2, r3, r4⟩
   ·simp (maxSteps := 4000000) (maxDischargeDepth := 20) only [sGA, seval, x7, stU, b7, Tryz.f7, a0, a3, a4, e1, e3, e4, e5, lG, encP, ci, l1, r1, hP, hQ, hA, hle1, Nat.le_refl, encO, Option.map_some]
    refine key _ _ (.lit (.pointer none)) (.lit (.pointer none)) (by rw [l2]; rfl) (by rw [r2]; rfl) (by rw [Tr.get_put, if_pos rfl]; rfl) (fun q q1 => by repeat rw [Tr.get_put, if_neg (by omega)]) ?_ ?_ ?_
    all_goals simp only [sG, seval, a0, a3, a4, encO]
   ·simp (maxSteps := 4000000) (maxDischargeDepth := 20) only [sGA, seval, x7, stU, b7, Tryz.f7, a0, a3, a4, e1, e3, e4, e5, lG, encP, ci, l1, r1, r2, hP, hQ, hA, hle1, Nat.le_refl, encO, Option.map_some]
    refine key _ _ (.lit (.pointer none)) (.lit (.pointer none)) (by rw [l2]; rfl) (by rw [r3]; rfl) (by rw [Tr.get_put, if_pos rfl]; rfl) (fun q q1 => by repeat rw [Tr.get_put, if_neg (by omega)]) ?_ ?_ ?_
    all_goals simp only [sG, seval, a0, a3, a4, encO]
   ·obtain ⟨r0, hr0⟩ := hroom j1 o1 r3
    subst hr0
    simp (maxSteps := 4000000) (maxDischargeDepth := 20) only [sGA, seval, x7, stU, b7, Tryz.f7, a0, a3, a4, e1, e3, e4, e5, lG, encP, ci, l1, r1, r2, r3, hP, hQ, hA, hle1, Nat.le_refl, encO, Option.map_some]
    refine key _ _ (.lit (.pointer none)) (.ptr o1 0) (by rw [l2]; rfl) r4 (by rw [Tr.get_put, if_pos rfl]; rfl) (fun q q1 => by repeat rw [Tr.get_put, if_neg (by omega)]) ?_ ?_ ?_
    all_goals simp only [sG, seval, a0, a3, a4, encO]
  ·rcases pick pr with ⟨r1, r2⟩ | ⟨r1, r2, r3⟩ | ⟨j1, o1, rfl, r1, r2, r3, r4⟩
   ·simp (maxSteps := 4000000) (maxDischargeDepth := 20) only [sGA, seval, x7, stU, b7, Tryz.f7, a0, a3, a4, e1, e3, e4, e5, lG, encP, ci, l1, l2, r1, hP, hQ, hA, hle1, Nat.le_refl, encO, Option.map_some]
    refine key _ _ (.lit (.pointer none)) (.lit (.pointer none)) (by rw [l3]; rfl) (by rw [r2]; rfl) (by rw [Tr.get_put, if_pos rfl]; rfl) (fun q q1 => by repeat rw [Tr.get_put, if_neg (by omega)]) ?_ ?_ ?_
    all_goals simp only [sG, seval, a0, a3, a4, encO]
   ·simp (maxSteps := 4000000) (maxDischargeDepth := 20) only [sGA, seval, x7, stU, b7, Tryz.f7, a0, a3, a4, e1, e3, e4, e5, lG, encP, ci, l1, l2, r1, r2, hP, hQ, hA, hle1, Nat.le_refl, encO, Option.map_some]
    refine key _ _ (.lit (.pointer none)) (.lit (.pointer none)) (by rw [l3]; rfl) (by rw [r3]; rfl) (by rw [Tr.get_put, if_pos rfl]; rfl) (fun q q1 => by repeat rw [Tr.get_put, if_neg (by omega)]) ?_ ?_ ?_
    all_goals simp only [sG, seval, a0, a3, a4, encO]
   ·obtain ⟨r0, hr0⟩ := hroom j1 o1 r3
    subst hr0
    simp (maxSteps := 4000000) (maxDischargeDepth := 20) only [sGA, seval, x7, stU, b7, Tryz.f7, a0, a3, a4, e1, e3, e4, e5, lG, encP, ci, l1, l2, r1, r2, r3, hP, hQ, hA, hle1, Nat.le_refl, encO, Option.map_some]
    refine key _ _ (.lit (.pointer none)) (.ptr o1 0) (by rw [l3]; rfl) r4 (by rw [Tr.get_put, if_pos rfl]; rfl) (fun q q1 => by repeat rw [Tr.get_put, if_neg (by omega)]) ?_ ?_ ?_
    all_goals simp only [sG, seval, a0, a3, a4, encO]
  ·rcases pick pr with ⟨r1, r2⟩ | ⟨r1, r2, r3⟩ | ⟨j1, o1, rfl, r1, r2, r3, r4⟩
   ·obtain ⟨r0, hr0⟩ := hroom j o l3
    subst hr0
    simp (maxSteps := 4000000) (maxDischargeDepth := 20) only [sGA, seval, x7, stU, b7, Tryz.f7, a0, a3, a4, e1, e3, e4, e5, lG, encP, ci, l1, l2, l3, r1, hP, hQ, hA, hle1, Nat.le_refl, encO, Option.map_some]
    refine key _ _ (.ptr o 0) (.lit (.pointer none)) l4 (by rw [r2]; rfl) (by rw [Tr.get_put, if_pos rfl]; rfl) (fun q q1 => by repeat rw [Tr.get_put, if_neg (by omega)]) ?_ ?_ ?_
    all_goals simp only [sG, seval, a0, a3, a4, encO]
   ·obtain ⟨r0, hr0⟩ := hroom j o l3
    subst hr0
    simp (maxSteps := 4000000) (maxDischargeDepth := 20) only [sGA, seval, x7, stU, b7, Tryz.f7, a0, a3, a4, e1, e3, e4, e5, lG, encP, ci, l1, l2, l3, r1, r2, hP, hQ, hA, hle1, Nat.le_refl, encO, Option.map_some]
    refine key _ _ (.ptr o 0) (.lit (.pointer none)) l4 (by rw [r3]; rfl) (by rw [Tr.get_put, if_pos rfl]; rfl) (fun q q1 => by repeat rw [Tr.get_put, if_neg (by omega)]) ?_ ?_ ?_
    all_goals simp only [sG, seval, a0, a3, a4, encO]
   ·obtain ⟨r0, hr0⟩ := hroom j o l3
    subst hr0
    simp (maxSteps := 4000000) (maxDischargeDepth := 20) only [sGA, seval, x7, stU, b7, Tryz.f7, a0, a3, a4, e1, e3, e4, e5, lG, encP, ci, l1, l2, l3, r1, r2, r3, hP, hQ, hA, hle1, Nat.le_refl, encO, Option.map_some]
    refine key _ _ (.ptr o 0) (.ptr o1 0) l4 r4 (by rw [Tr.get_put, if_pos rfl]; rfl) (fun q q1 => by repeat rw [Tr.get_put, if_neg (by omega)]) ?_ ?_ ?_
    all_goals simp only [sG, seval, a0, a3, a4, encO]
theorem cTree {l : List Pc} {m : Md} {H : Tr AO} {hs : Nat} (hL : l.length <= 1100000000000) :
  ∃ H' hs' a, callF tab (evw tab) m 7 [.lst .no (l.map encP)] H hs = some (a, H', hs') /\ NdAt H' hs' a (treeN l) /\ hs <= hs' /\ ∀ p, p < hs -> (H.get .dead p).isRoom = false -> H'.get .dead p = H.get .dead p := by
 have L := @loopTree l m.gl hL l.length 0
 simp only [stU, stC, b7, Tryz.f7, List.drop_zero] at L
 rw [callF_in (fi := fi7) tcon rfl rfl rfl]
 simp (maxSteps := 4000000) only [sG, seval, x7, stU, b7, Tryz.f7, List.length_map]
 apply L _ _ _ (.lit (.slice none 0 0)) [] [] (by trivial) rfl rfl .nil (fun j o n h _ => by cases h)
 all_goals simp only [sG, seval]
 all_goals rfl
theorem nd_ptr {H : Tr AO} {hs : Nat} {a : AV} {n : Nd} (h : NdAt H hs a n) : (n = .nil /\ a = .lit (.pointer none)) ∨ ∃ o, a = .ptr o 0 := by
 cases n with
 | nil => exact .inl ⟨rfl, h⟩
 | mk => obtain ⟨o, _, _, _, _, _, _, h, _⟩ := h; exact .inr ⟨o, h⟩
theorem frz_A {H : Tr AO} {hs : Nat} {a : AV} {n : Nd} (h : NdAt H hs a n) (hd : depN n <= 250) : ∃ H1, frz tab 300 23 a H = some (encN n, H1) /\ Sm H H1 := frz_N n 299 a H hs h (by omega)
theorem cDeepA {m : Md} {n : Nd} {x : Int} {a : AV} {H : Tr AO} {hs h0 : Nat} (h1 : -1 <= x) (h2 : x <= 1000) (h : NdAt H h0 a n) (hd : depN n <= 250) : callF tab (evw tab) m 8 [a, .lit (.int .i64 x)] H hs = some (.lit (.int .i64 (deepN n x)), H, hs) := by
 obtain ⟨H1, hf, _⟩ := frz_A h hd
 rcases nd_ptr h with ⟨rfl, rfl⟩ | ⟨o, rfl⟩
 ·exact cDeep0 h1 h2
 ·exact cDeepP h1 h2 hf
theorem cRightA {m : Md} {n : Nd} {a : AV} {H : Tr AO} {hs h0 : Nat} (hs' : smallN n) (h : NdAt H h0 a n) (hd : depN n <= 250) : callF tab (evw tab) m 11 [a] H hs = some (.lit (.bool (rightN n)), H, hs) := by
 obtain ⟨H1, hf, _⟩ := frz_A h hd
 rcases nd_ptr h with ⟨rfl, rfl⟩ | ⟨o, rfl⟩
 ·exact cRightN hs'.short
 ·exact cRightP hs'.short hf
theorem cSameA {m : Md} {a b : Nd} {u v : AV} {H : Tr AO} {hs h0 : Nat} (hs' : smallN a) (hn : a ≠ .nil) (h : NdAt H h0 u a) (g : NdAt H h0 v b) (hd : depN a <= 250) (ge : depN b <= 250) : callF tab (evw tab) m 15 [u, v] H hs = some (.lit (.bool (sameN a b)), H, hs) := by
 obtain ⟨H1, hf, s1⟩ := frz_A h hd
 obtain ⟨H2, gf, _⟩ := frz_A (g.sm s1) ge
 rcases nd_ptr h with ⟨rfl, rfl⟩ | ⟨o, rfl⟩
 ·exact (hn rfl).elim
 ·refine cSameP hs'.short (H1 := H2) ?_
  show frzL (frz tab 300) [23, 23] [.ptr o 0, v] H = _
  simp only [frzL, hf, gf]
theorem cKnown {q : Int} {H : Tr AO} {hs : Nat} : callF tab (evw tab) ⟨true, true, glK q⟩ 9 [] H hs = some (.lit (.bool true), H, hs) := by
 refine callF_iso tcon rfl rfl rfl ?_
 exact (good_isoF fi9 ⟨true, true, glK q⟩ []).1 _ _ _ (fun ro c s r h => evw_of (ev_mono tab) h) (kn9 q)
end Go.Proofs.YtcledcfeddlomaaGreatDoor.Ev
