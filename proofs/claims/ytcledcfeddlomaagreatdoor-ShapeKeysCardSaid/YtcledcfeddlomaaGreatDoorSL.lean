import Derived.Test.YtcledcfeddlomaaGreatDoorSJ
set_option linter.all false
set_option maxRecDepth 100000
set_option maxHeartbeats 40000000
namespace Go.Proofs.YtcledcfeddlomaaGreatDoor.Ev
open Go Go.Proofs.YtcledcfeddlomaaGreatDoor.Ev Go.Proofs Go.Proofs.YtcledcfeddlomaaGreatDoor Go.Proofs.YtcledcfeddlomaaGreatDoor.Tab
theorem nCd {p q : Operand} {a b : Cd} : binO tab .neq 60 p q (some (.agg (ci a.l :: ci a.op :: ci a.r :: a.v.cs))) (some (.agg (ci b.l :: ci b.op :: ci b.r :: b.v.cs))) = some (.lit (.bool (!cdeq a b))) := by
 have key : eqv tab 20 60 (.agg (ci a.l :: ci a.op :: ci a.r :: a.v.cs)) (.agg (ci b.l :: ci b.op :: ci b.r :: b.v.cs)) = (match (some (decide (a.l = b.l)) : Option Bool) with
   | some true => (match (some (decide (a.op = b.op)) : Option Bool) with
    | some true => (match (some (decide (a.r = b.r)) : Option Bool) with
     | some true => (match eqv tab 19 58 (.agg a.v.cs) (.agg b.v.cs) with
      | some true => some true
      | some false => some false
      | none => none)
     | some false => some false
     | none => none)
    | some false => some false
    | none => none)
   | some false => some false
   | none => none) := rfl
 have h2 : eqv tab 20 60 (.agg (ci a.l :: ci a.op :: ci a.r :: a.v.cs)) (.agg (ci b.l :: ci b.op :: ci b.r :: b.v.cs)) = some (cdeq a b) := by
  rw [key, eqv_V]
  unfold cdeq
  cases decide (a.l = b.l) <;> cases decide (a.op = b.op) <;> cases decide (a.r = b.r) <;> cases veq a.v b.v <;> rfl
 have h3 : binV tab .neq 60 (.agg (ci a.l :: ci a.op :: ci a.r :: a.v.cs)) (.agg (ci b.l :: ci b.op :: ci b.r :: b.v.cs)) = some (.lit (.bool (!cdeq a b))) := by
  show (match eqv tab 20 60 (.agg (ci a.l :: ci a.op :: ci a.r :: a.v.cs)) (.agg (ci b.l :: ci b.op :: ci b.r :: b.v.cs)) with | some b => some (AV.lit (.bool (!b))) | none => none) = _
  rw [h2]
 unfold binO
 simp only [h3]
def preq (a b : Int × Int) : Bool := decide (a.1 = b.1) && decide (a.2 = b.2)
theorem nPr {p q : Operand} {a b : Int × Int} : binO tab .neq 62 p q (some (.agg [ci a.1, ci a.2])) (some (.agg [ci b.1, ci b.2])) = some (.lit (.bool (!preq a b))) := by
 have key : eqv tab 20 62 (.agg [ci a.1, ci a.2]) (.agg [ci b.1, ci b.2]) = some (preq a b) := by
  have : eqv tab 20 62 (.agg [ci a.1, ci a.2]) (.agg [ci b.1, ci b.2]) = (match (some (decide (a.1 = b.1)) : Option Bool) with
   | some true => (match (some (decide (a.2 = b.2)) : Option Bool) with
    | some true => some true
    | some false => some false
    | none => none)
   | some false => some false
   | none => none) := rfl
  rw [this]; unfold preq
  cases decide (a.1 = b.1) <;> cases decide (a.2 = b.2) <;> rfl
 have h3 : binV tab .neq 62 (.agg [ci a.1, ci a.2]) (.agg [ci b.1, ci b.2]) = some (.lit (.bool (!preq a b))) := by
  show (match eqv tab 20 62 (.agg [ci a.1, ci a.2]) (.agg [ci b.1, ci b.2]) with | some b => some (AV.lit (.bool (!b))) | none => none) = _
  rw [key]
 unfold binO
 simp only [h3]
def eqL {α : Type} (f : α -> α -> Bool) : List α -> List α -> Bool
 | [], _ => true
 | x :: l, y :: r => bif f x y then eqL f l r else false
 | _ :: _, [] => false
def ieq (a b : Int) : Bool := decide (a = b)
section
variable {k w ag of k' w' ag' of' : Int} {nm nm' : List UInt8} {cs cs' : List Cd} {ps ps' : List (Int × Int)} {cl cl' : List Int} {l r l' r' : Nd} {A B : Bool} {gl : Tr (Option AV)}
theorem loopSc (c1 : ∀ m H hs, callF tab (evw tab) m 15 [encN l, encN l'] H hs = some (.lit (.bool A), H, hs)) (c2 : ∀ m H hs, callF tab (evw tab) m 15 [encN r, encN r'] H hs = some (.lit (.bool B), H, hs)) (hc : cl.length = cl'.length) (hn : cl.length < 1000000) : ∀ (j i : Nat) (t : Tr AV) (H : Tr AO) (hs : Nat), i + j = cl.length ->
  t.get .any 0 = encN (.mk k nm w cs ps cl ag of l r) -> t.get .any 1 = encN (.mk k' nm' w' cs' ps' cl' ag' of' l' r') -> t.get .any 7 = .lit (.int .i64 i) ->
  RetO tab fi15 (W tab none (fin tab fi15) (lpc fi15 2) (lpk fi15 2) ⟨t, 204, H, hs, [], ⟨true, true, gl⟩⟩) (.lit (.bool (eqL ieq (cl.drop i) (cl'.drop i) && (A && B)))) := by
 have D := d15
 simp only [stD, stC, List.cons.injEq, b15, Tryz.f15] at D
 simp only [stU, stC, b15, Tryz.f15]
 intro j
 induction j with
 | zero =>
  intro i t H hs hi a0 a1 a7
  simp only [encN, ci] at a0 a1
  have e1 : decide ((i : Int) < cl.length) = false := dcF (by omega)
  rw [W_loop, List.drop_of_length_le (by omega), eqL, Bool.true_and]
  cases A with
  | false => simp (maxSteps := 4000000) only [sG, seval, x15, stU, b15, Tryz.f15, a0, a1, a7, e1, List.length_map, D, dN, c1, c2]; rfl
  | true => simp (maxSteps := 4000000) only [sG, seval, x15, stU, b15, Tryz.f15, a0, a1, a7, e1, List.length_map, D, dN, c1, c2]; rfl
 | succ j ih =>
  intro i t H hs hi a0 a1 a7
  have a0' := a0
  have a1' := a1
  simp only [encN, ci] at a0 a1
  have hlt : i < (cl).length := by omega
  obtain ⟨x, hv, e1, e3, e4, e6, e7⟩ := atS hlt
  have e5 := wrap_succ (i := i) (by omega)
  obtain ⟨y, hy⟩ : ∃ y, cl'[i]? = some y := ⟨_, List.getElem?_eq_getElem (show i < cl'.length by omega)⟩
  have hd' : cl'.drop i = y :: cl'.drop (i + 1) := by
   rw [List.drop_eq_getElem_cons (show i < cl'.length by omega)]
   rw [List.getElem?_eq_getElem (show i < cl'.length by omega)] at hy
   cases hy; rfl
  rw [W_loop, e6, hd', eqL]
  have nb := True.intro
  skip
  cases h1 : ieq x y with
  | false =>
   have h2 : decide (x = y) = false := h1
   simp (maxSteps := 4000000) only [sG, seval, x15, stU, b15, Tryz.f15, ci, a0, a1, a7, e1, e3, e4, e5, lG, hy, D, nb, h2, Bool.not_false]
   rfl
  | true =>
   have h2 : decide (x = y) = true := h1
   rw [cond_true]
   simp (maxSteps := 4000000) only [sG, seval, x15, stU, b15, Tryz.f15, ci, a0, a1, a7, e1, e3, e4, e5, lG, hy, D, nb, h2, Bool.not_true]
   apply ih (i + 1) _ _ _ (by omega)
   all_goals simp only [sG, seval, ci, encN, a0, a1, a7]
theorem loopSp (c1 : ∀ m H hs, callF tab (evw tab) m 15 [encN l, encN l'] H hs = some (.lit (.bool A), H, hs)) (c2 : ∀ m H hs, callF tab (evw tab) m 15 [encN r, encN r'] H hs = some (.lit (.bool B), H, hs)) (hp : ps.length = ps'.length) (hq : ps.length < 1000000) (hc : cl.length = cl'.length) (hn : cl.length < 1000000) : ∀ (j i : Nat) (t : Tr AV) (H : Tr AO) (hs : Nat), i + j = ps.length ->
  t.get .any 0 = encN (.mk k nm w cs ps cl ag of l r) -> t.get .any 1 = encN (.mk k' nm' w' cs' ps' cl' ag' of' l' r') -> t.get .any 6 = .lit (.int .i64 i) ->
  RetO tab fi15 (W tab none (fin tab fi15) (lpc fi15 1) (lpk fi15 1) ⟨t, 204, H, hs, [], ⟨true, true, gl⟩⟩) (.lit (.bool (eqL preq (ps.drop i) (ps'.drop i) && (eqL ieq cl cl' && (A && B))))) := by
 have D := d15
 simp only [stD, stC, List.cons.injEq, b15, Tryz.f15] at D
 have L := @loopSc k w ag of k' w' ag' of' nm nm' cs cs' ps ps' cl cl' l r l' r' A B gl c1 c2 hc hn cl.length 0
 simp only [stU, stC, b15, Tryz.f15] at L
 simp only [stU, stC, b15, Tryz.f15]
 intro j
 induction j with
 | zero =>
  intro i t H hs hi a0 a1 a7
  simp only [encN, ci] at a0 a1
  have e1 : decide ((i : Int) < ps.length) = false := dcF (by omega)
  rw [W_loop, List.drop_of_length_le (by omega), eqL, Bool.true_and]
  simp (maxSteps := 4000000) only [sG, seval, x15, stU, b15, Tryz.f15, a0, a1, a7, e1, List.length_map, D]
  apply L
  ·simp
  all_goals simp only [sG, seval, a0, a1, a7, encN, ci]
  all_goals rfl
 | succ j ih =>
  intro i t H hs hi a0 a1 a7
  have a0' := a0
  have a1' := a1
  simp only [encN, ci] at a0 a1
  have hlt : i < (ps).length := by omega
  obtain ⟨x, hv, e1, e3, e4, e6, e7⟩ := atS hlt
  have e5 := wrap_succ (i := i) (by omega)
  obtain ⟨y, hy⟩ : ∃ y, ps'[i]? = some y := ⟨_, List.getElem?_eq_getElem (show i < ps'.length by omega)⟩
  have hd' : ps'.drop i = y :: ps'.drop (i + 1) := by
   rw [List.drop_eq_getElem_cons (show i < ps'.length by omega)]
   rw [List.getElem?_eq_getElem (show i < ps'.length by omega)] at hy
   cases hy; rfl
  rw [W_loop, e6, hd', eqL]
  have nb := fun p q => @nPr p q x y
  simp only [ci] at nb
  cases h1 : preq x y with
  | false =>
   simp only [h1, Bool.not_false] at nb
   simp (maxSteps := 4000000) only [sG, seval, x15, stU, b15, Tryz.f15, ci, encPr, a0, a1, a7, e1, e3, e4, e5, lG, hy, D, nb]
   rfl
  | true =>
   simp only [h1, Bool.not_true] at nb
   rw [cond_true]
   simp (maxSteps := 4000000) only [sG, seval, x15, stU, b15, Tryz.f15, ci, encPr, a0, a1, a7, e1, e3, e4, e5, lG, hy, D, nb]
   apply ih (i + 1) _ _ _ (by omega)
   all_goals simp only [sG, seval, ci, encPr, encN, a0, a1, a7]
theorem loopSd (c1 : ∀ m H hs, callF tab (evw tab) m 15 [encN l, encN l'] H hs = some (.lit (.bool A), H, hs)) (c2 : ∀ m H hs, callF tab (evw tab) m 15 [encN r, encN r'] H hs = some (.lit (.bool B), H, hs)) (hs1 : cs.length = cs'.length) (hs2 : cs.length < 1000000) (hp : ps.length = ps'.length) (hq : ps.length < 1000000) (hc : cl.length = cl'.length) (hn : cl.length < 1000000) : ∀ (j i : Nat) (t : Tr AV) (H : Tr AO) (hs : Nat), i + j = cs.length ->
  t.get .any 0 = encN (.mk k nm w cs ps cl ag of l r) -> t.get .any 1 = encN (.mk k' nm' w' cs' ps' cl' ag' of' l' r') -> t.get .any 5 = .lit (.int .i64 i) ->
  RetO tab fi15 (W tab none (fin tab fi15) (lpc fi15 0) (lpk fi15 0) ⟨t, 204, H, hs, [], ⟨true, true, gl⟩⟩) (.lit (.bool (eqL cdeq (cs.drop i) (cs'.drop i) && (eqL preq ps ps' && (eqL ieq cl cl' && (A && B)))))) := by
 have D := d15
 simp only [stD, stC, List.cons.injEq, b15, Tryz.f15] at D
 have L := @loopSp k w ag of k' w' ag' of' nm nm' cs cs' ps ps' cl cl' l r l' r' A B gl c1 c2 hp hq hc hn ps.length 0
 simp only [stU, stC, b15, Tryz.f15] at L
 simp only [stU, stC, b15, Tryz.f15]
 intro j
 induction j with
 | zero =>
  intro i t H hs hi a0 a1 a7
  simp only [encN, ci] at a0 a1
  have e1 : decide ((i : Int) < cs.length) = false := dcF (by omega)
  rw [W_loop, List.drop_of_length_le (by omega), eqL, Bool.true_and]
  simp (maxSteps := 4000000) only [sG, seval, x15, stU, b15, Tryz.f15, a0, a1, a7, e1, List.length_map, D]
  apply L
  ·simp
  all_goals simp only [sG, seval, a0, a1, a7, encN, ci]
  all_goals rfl
 | succ j ih =>
  intro i t H hs hi a0 a1 a7
  have a0' := a0
  have a1' := a1
  simp only [encN, ci] at a0 a1
  have hlt : i < (cs).length := by omega
  obtain ⟨x, hv, e1, e3, e4, e6, e7⟩ := atS hlt
  have e5 := wrap_succ (i := i) (by omega)
  obtain ⟨y, hy⟩ : ∃ y, cs'[i]? = some y := ⟨_, List.getElem?_eq_getElem (show i < cs'.length by omega)⟩
  have hd' : cs'.drop i = y :: cs'.drop (i + 1) := by
   rw [List.drop_eq_getElem_cons (show i < cs'.length by omega)]
   rw [List.getElem?_eq_getElem (show i < cs'.length by omega)] at hy
   cases hy; rfl
  rw [W_loop, e6, hd', eqL]
  have nb := fun p q => @nCd p q x y
  simp only [ci, Vl.cs] at nb
  cases h1 : cdeq x y with
  | false =>
   simp only [h1, Bool.not_false] at nb
   simp (maxSteps := 4000000) only [sG, seval, x15, stU, b15, Tryz.f15, ci, Vl.cs, encC, a0, a1, a7, e1, e3, e4, e5, lG, hy, D, nb]
   rfl
  | true =>
   simp only [h1, Bool.not_true] at nb
   rw [cond_true]
   simp (maxSteps := 4000000) only [sG, seval, x15, stU, b15, Tryz.f15, ci, Vl.cs, encC, a0, a1, a7, e1, e3, e4, e5, lG, hy, D, nb]
   apply ih (i + 1) _ _ _ (by omega)
   all_goals simp only [sG, seval, ci, Vl.cs, encC, encN, a0, a1, a7]
end
def sameN : Nd -> Nd -> Bool
 | .nil, b => isNil b
 | .mk .., .nil => false
 | .mk k nm w cs ps cl ag of l r, .mk k' nm' w' cs' ps' cl' ag' of' l' r' =>
  bif decide (k = k') then bif nm == nm' then bif decide (w = w') then bif decide (ag = ag') then bif decide (of = of') then
  bif decide ((cs.length : Int) = cs'.length) then bif decide ((ps.length : Int) = ps'.length) then bif decide ((cl.length : Int) = cl'.length) then
   (eqL cdeq cs cs' && (eqL preq ps ps' && (eqL ieq cl cl' && (sameN l l' && sameN r r'))))
  else false else false else false else false else false else false else false else false
theorem eqSame : ∀ (a b : Nd) (m : Md), shortN a -> isoO (evw tab) tab fi15 m [encN a, encN b] = some (.lit (.bool (sameN a b))) := by
 have D := d15
 simp only [stD, stC, List.cons.injEq, b15, Tryz.f15, List.append_eq, List.cons_append, List.nil_append] at D
 intro a
 induction a with
 | nil =>
  intro b m _
  refine own_ret ?_
  cases b <;> simp (maxSteps := 4000000) only [sG, seval, x15, stU, b15, Tryz.f15, encN, sameN, isNil, dPN, D] <;> rfl
 | mk k nm w cs ps cl ag of l r ihl ihr =>
  intro b m ⟨s1, s2, s3, s4, sl, sr⟩
  cases b with
  | nil => exact own_ret (by simp (maxSteps := 4000000) only [sG, seval, x15, stU, b15, Tryz.f15, encN, sameN, isNil, dPN, D]; rfl)
  | mk k' nm' w' cs' ps' cl' ag' of' l' r' =>
   have cS : ∀ {x y : Nd}, (∀ m, isoO (evw tab) tab fi15 m [encN x, encN y] = some (.lit (.bool (sameN x y)))) -> ∀ m H hs, callF tab (evw tab) m 15 [encN x, encN y] H hs = some (.lit (.bool (sameN x y)), H, hs) := fun {x y} h m H hs =>
    callF_own (H1 := H) tcon rfl rfl rfl (bs := [encN x, encN y]) (by simp only [bares, bare_N, Bool.and_self, cond_true]) (by simp only [bares, bare_N, Bool.and_self]) (by simp only [nrms, nrm_N]; exact h m)
   have c1 := cS (fun m => ihl l' m sl)
   have c2 := cS (fun m => ihr r' m sr)
   refine own_ret ?_
   rw [sameN]
   cases g1 : decide (k = k') with
   | false => simp (maxSteps := 4000000) only [sG, seval, x15, stU, b15, Tryz.f15, encN, ci, dPN, D, List.append_eq, List.length_map, Bool.not_true, Bool.not_false, g1]; rfl
   | true =>
    simp only [cond_true]
    cases g2 : (nm == nm') with
    | false => simp (maxSteps := 4000000) only [sG, seval, x15, stU, b15, Tryz.f15, encN, ci, dPN, D, List.append_eq, List.length_map, Bool.not_true, Bool.not_false, g1, g2]; rfl
    | true =>
     simp only [cond_true]
     cases g3 : decide (w = w') with
     | false => simp (maxSteps := 4000000) only [sG, seval, x15, stU, b15, Tryz.f15, encN, ci, dPN, D, List.append_eq, List.length_map, Bool.not_true, Bool.not_false, g1, g2, g3]; rfl
     | true =>
      simp only [cond_true]
      cases g4 : decide (ag = ag') with
      | false => simp (maxSteps := 4000000) only [sG, seval, x15, stU, b15, Tryz.f15, encN, ci, dPN, D, List.append_eq, List.length_map, Bool.not_true, Bool.not_false, g1, g2, g3, g4]; rfl
      | true =>
       simp only [cond_true]
       cases g5 : decide (of = of') with
       | false => simp (maxSteps := 4000000) only [sG, seval, x15, stU, b15, Tryz.f15, encN, ci, dPN, D, List.append_eq, List.length_map, Bool.not_true, Bool.not_false, g1, g2, g3, g4, g5]; rfl
       | true =>
        simp only [cond_true]
        cases g6 : decide ((cs.length : Int) = cs'.length) with
        | false => simp (maxSteps := 4000000) only [sG, seval, x15, stU, b15, Tryz.f15, encN, ci, dPN, D, List.append_eq, List.length_map, Bool.not_true, Bool.not_false, g1, g2, g3, g4, g5, g6]; rfl
        | true =>
         simp only [cond_true]
         cases g7 : decide ((ps.length : Int) = ps'.length) with
         | false => simp (maxSteps := 4000000) only [sG, seval, x15, stU, b15, Tryz.f15, encN, ci, dPN, D, List.append_eq, List.length_map, Bool.not_true, Bool.not_false, g1, g2, g3, g4, g5, g6, g7]; rfl
         | true =>
          simp only [cond_true]
          cases g8 : decide ((cl.length : Int) = cl'.length) with
          | false => simp (maxSteps := 4000000) only [sG, seval, x15, stU, b15, Tryz.f15, encN, ci, dPN, D, List.append_eq, List.length_map, Bool.not_true, Bool.not_false, g1, g2, g3, g4, g5, g6, g7, g8]; rfl
          | true =>
           simp only [cond_true]
           have n1 := of_decide_eq_true g6
           have n2 := of_decide_eq_true g7
           have n3 := of_decide_eq_true g8
           have L := @loopSd k w ag of k' w' ag' of' nm nm' cs cs' ps ps' cl cl' l r l' r' (sameN l l') (sameN r r') m.gl c1 c2 (by omega) s2 (by omega) s3 (by omega) s4 cs.length 0
           simp only [stU, stC, b15, Tryz.f15] at L
           simp (maxSteps := 4000000) only [sG, seval, x15, stU, b15, Tryz.f15, encN, ci, dPN, D, List.append_eq, List.length_map, Bool.not_true, g1, g2, g3, g4, g5, g6, g7, g8]
           apply L
           ·simp
           all_goals simp only [sG, seval, encN, ci]
           all_goals rfl
theorem cSameP {m : Md} {a b : Nd} {u v : AV} {H H1 : Tr AO} {hs : Nat} (h : shortN a) (hb : (bif bares [u, v] then some ([u, v], H) else frzL (frz tab 300) [23, 23] [u, v] H) = some ([encN a, encN b], H1)) : callF tab (evw tab) m 15 [u, v] H hs = some (.lit (.bool (sameN a b)), H, hs) :=
 callF_own (H1 := H1) tcon rfl rfl rfl (bs := [encN a, encN b]) hb (by simp only [bares, bare_N, Bool.and_self]) (by simp only [nrms, nrm_N]; exact eqSame a b m h)
end Go.Proofs.YtcledcfeddlomaaGreatDoor.Ev
