import Derived.Test.YtcledcfeddlomaaGreatDoorWS
import Derived.Test.YtcledcfeddlomaaGreatDoorP1
set_option linter.all false
set_option maxRecDepth 100000
set_option maxHeartbeats 4000000
namespace Go.Proofs.YtcledcfeddlomaaGreatDoor.Ev
open Go Go.Proofs.YtcledcfeddlomaaGreatDoor.Ev Go.Proofs Go.Proofs.YtcledcfeddlomaaGreatDoor Go.Proofs.YtcledcfeddlomaaGreatDoor.Tab
def v0 : Vl := ⟨0, false, 0, []⟩
def veq (a b : Vl) : Bool := decide (a.k = b.k) && (a.b == b.b && (decide (a.n = b.n) && a.s == b.s))
theorem cVeq {p q : Operand} {a b : Vl} : binO tab .eql 58 p q (some (.agg a.cs)) (some (.agg b.cs)) = some (.lit (.bool (veq a b))) := by
 have key : eqv tab 20 58 (.agg a.cs) (.agg b.cs) = (match (some (decide (a.k = b.k)) : Option Bool) with
   | some true => (match (some (a.b == b.b) : Option Bool) with
    | some true => (match (some (decide (a.n = b.n)) : Option Bool) with
     | some true => (match (some (a.s == b.s) : Option Bool) with
      | some true => some true
      | some false => some false
      | none => none)
     | some false => some false
     | none => none)
    | some false => some false
    | none => none)
   | some false => some false
   | none => none) := rfl
 have h2 : eqv tab 20 58 (.agg a.cs) (.agg b.cs) = some (veq a b) := by
  rw [key]
  unfold veq
  cases decide (a.k = b.k) <;> cases (a.b == b.b) <;> cases decide (a.n = b.n) <;> cases (a.s == b.s) <;> rfl
 have h3 : binV tab .eql 58 (.agg a.cs) (.agg b.cs) = some (.lit (.bool (veq a b))) := by
  show (match eqv tab 20 58 (.agg a.cs) (.agg b.cs) with | some b => some (AV.lit (.bool b)) | none => none) = _
  rw [h2]
 unfold binO
 simp only [h3]
theorem cNull {m : Md} {H : Tr AO} {hs : Nat} : callF tab (evw tab) m 120 [] H hs = some (encV v0, H, hs) := by
 refine callF_iso tcon rfl rfl rfl ?_
 refine iso_ret ?_
 simp only [sG, seval, x120, stU, b120, Tryz.f120, ldv, tt58, isAggD]
 rfl
theorem cBool {m : Md} {b : Bool} {H : Tr AO} {hs : Nat} : callF tab (evw tab) m 143 [.lit (.bool b)] H hs = some (encV ⟨1, b, 0, []⟩, H, hs) := by
 refine callF_iso tcon rfl rfl rfl ?_
 refine iso_ret ?_
 simp only [sG, seval, x143, stU, b143, Tryz.f143, ldv, tt58, isAggD]
 rfl
theorem cInt {m : Md} {n : Int} {H : Tr AO} {hs : Nat} : callF tab (evw tab) m 144 [.lit (.int .i64 n)] H hs = some (encV ⟨2, false, n, []⟩, H, hs) := by
 refine callF_iso tcon rfl rfl rfl ?_
 refine iso_ret ?_
 simp only [sG, seval, x144, stU, b144, Tryz.f144, ldv, tt58, isAggD]
 rfl
theorem cText {m : Md} {s : List UInt8} {H : Tr AO} {hs : Nat} : callF tab (evw tab) m 145 [.str s] H hs = some (encV ⟨3, false, 0, s⟩, H, hs) := by
 refine callF_iso tcon rfl rfl rfl ?_
 refine iso_ret ?_
 simp only [sG, seval, x145, stU, b145, Tryz.f145, ldv, tt58, isAggD]
 rfl
def vright (v : Vl) : Bool := bif decide (v.k = 0) then veq v v0 else bif decide (v.k = 1) then veq v ⟨1, v.b, 0, []⟩ else bif decide (v.k = 2) then veq v ⟨2, false, v.n, []⟩ else bif decide (v.k = 3) then veq v ⟨3, false, 0, v.s⟩ && decide ((v.s.length : Int) <= 60) else false
theorem eqRight {m : Md} {v : Vl} : iso tab fi114 m [encV v] = some (.lit (.bool (vright v))) := by
 have D := d114
 simp only [stD, stC, List.cons.injEq, b114, Tryz.f114] at D
 refine iso_ret ?_
 unfold vright
 have c0 := fun m H hs => @cNull m H hs
 have c1 := fun m H hs => @cBool m v.b H hs
 have c2 := fun m H hs => @cInt m v.n H hs
 have c3 := fun m H hs => @cText m v.s H hs
 have e0 := fun p q => @cVeq p q v v0
 have e1 := fun p q => @cVeq p q v ⟨1, v.b, 0, []⟩
 have e2 := fun p q => @cVeq p q v ⟨2, false, v.n, []⟩
 have e3 := fun p q => @cVeq p q v ⟨3, false, 0, v.s⟩
 simp only [encV, Vl.cs, v0] at c0 c1 c2 c3 e0 e1 e2 e3
 cases h0 : decide (v.k = 0) with
 | true => simp (maxSteps := 2000000) only [sG, seval, x114, stU, b114, Tryz.f114, encV, Vl.cs, v0, c0, e0, h0, D]
 | false =>
  cases h1 : decide (v.k = 1) with
  | true => simp (maxSteps := 2000000) only [sG, seval, x114, stU, b114, Tryz.f114, encV, Vl.cs, c1, e1, h0, h1, D]
  | false =>
   cases h2 : decide (v.k = 2) with
   | true => simp (maxSteps := 2000000) only [sG, seval, x114, stU, b114, Tryz.f114, encV, Vl.cs, c2, e2, h0, h1, h2, D]
   | false =>
    cases h3 : decide (v.k = 3) with
    | true =>
     cases h4 : veq v ⟨3, false, 0, v.s⟩ with
     | true =>
      simp only [h4] at e3
      simp (maxSteps := 2000000) only [sG, seval, x114, stU, b114, Tryz.f114, encV, Vl.cs, c3, e3, h0, h1, h2, h3, D]
     | false =>
      simp only [h4] at e3
      simp (maxSteps := 2000000) only [sG, seval, x114, stU, b114, Tryz.f114, encV, Vl.cs, c3, e3, h0, h1, h2, h3, D]
    | false => simp (maxSteps := 2000000) only [sG, seval, x114, stU, b114, Tryz.f114, encV, Vl.cs, h0, h1, h2, h3, D]
theorem cRight {m : Md} {v : Vl} {H : Tr AO} {hs : Nat} : callF tab (evw tab) m 114 [encV v] H hs = some (.lit (.bool (vright v)), H, hs) := callF_iso tcon rfl rfl rfl eqRight
def ci (n : Int) : AV := .lit (.int .i64 n)
structure Cd where
 l : Int
 op : Int
 r : Int
 v : Vl
def encC (c : Cd) : AV := .agg (ci c.l :: ci c.op :: ci c.r :: c.v.cs)
def encPr (p : Int × Int) : AV := .agg [ci p.1, ci p.2]
inductive Nd where
 | nil
 | mk (k : Int) (nm : List UInt8) (w : Int) (cs : List Cd) (ps : List (Int × Int)) (cl : List Int) (ag of : Int) (l r : Nd)
def encN : Nd -> AV
 | .nil => .lit (.pointer none)
 | .mk k nm w cs ps cl ag of l r => .eptr [ci k, .str nm, ci w, .lst .no (cs.map encC), .lst .no (ps.map encPr), .lst .no (cl.map ci), ci ag, ci of, encN l, encN r]
theorem pn1 {p q : Operand} {l : List AV} : binO tab .eql 23 p q (some (.eptr l)) (some (.lit (.pointer none))) = some (.lit (.bool false)) := rfl
theorem pn2 {p q : Operand} : binO tab .eql 23 p q (some (.lit (.pointer none))) (some (.lit (.pointer none))) = some (.lit (.bool true)) := rfl
theorem pn3 {p q : Operand} {l : List AV} : binO tab .neq 23 p q (some (.eptr l)) (some (.lit (.pointer none))) = some (.lit (.bool true)) := rfl
theorem pn4 {p q : Operand} : binO tab .neq 23 p q (some (.lit (.pointer none))) (some (.lit (.pointer none))) = some (.lit (.bool false)) := rfl
def dPN := an @pn1 (an @pn2 (an @pn3 @pn4))
theorem bares_mapg {α : Type} {f : α -> AV} (h : ∀ x, bare (f x) = true) : ∀ l : List α, bares (l.map f) = true
 | [] => rfl
 | x :: l => by rw [List.map_cons, bares, h, bares_mapg h l]; rfl
theorem bare_N : ∀ n : Nd, bare (encN n) = true
 | .nil => rfl
 | .mk k nm w cs ps cl ag of l r => by
  have h1 := bares_mapg (f := encC) (fun _ => rfl) cs
  have h2 := bares_mapg (f := encPr) (fun _ => rfl) ps
  have h3 := bares_mapg (f := ci) (fun _ => rfl) cl
  have hl := bare_N l
  have hr := bare_N r
  simp only [encN, bare, bares, h1, h2, h3, hl, hr, ci, Bool.and_self, Bool.and_true]
theorem nrm_N : ∀ n : Nd, nrm (encN n) = encN n
 | .nil => rfl
 | .mk k nm w cs ps cl ag of l r => by
  have h1 := nrms_mapg (f := encC) (fun _ => rfl) cs
  have h2 := nrms_mapg (f := encPr) (fun _ => rfl) ps
  have h3 := nrms_mapg (f := ci) (fun _ => rfl) cl
  have hl := nrm_N l
  have hr := nrm_N r
  simp only [encN, nrm, nrms, h1, h2, h3, hl, hr, ci]
theorem one_N (n : Nd) : oneCell (encN n) = true := by cases n <;> rfl
theorem flat_N (n : Nd) : flatOk (encN n) = true := by cases n <;> rfl
theorem cells_N (n : Nd) : (encN n).cells = [encN n] := by cases n <;> rfl
def dN := And.intro bare_N (And.intro one_N (And.intro flat_N cells_N))
def fewN : Nd -> Int -> Int
 | .nil, x => x
 | .mk _ _ _ _ _ _ _ _ l r, x => bif decide (x < 0) then x else fewN r (fewN l (x - 1))
theorem eqFew : ∀ (n : Nd) (m : Md) (x : Int), -1 <= x -> x <= 1000 -> iso tab fi24 m [encN n, ci x] = some (ci (fewN n x)) /\ -1 <= fewN n x /\ fewN n x <= x := by
 have D := d24
 simp only [stD, stC, List.cons.injEq, b24, Tryz.f24] at D
 intro n
 induction n with
 | nil =>
  intro m x h1 h2
  refine ⟨?_, h1, Int.le_refl _⟩
  refine iso_ret ?_
  simp only [sG, seval, x24, stU, b24, Tryz.f24, encN, ci, fewN, D, dPN]
 | mk k nm w cs ps cl ag of l r ihl ihr =>
  intro m x h1 h2
  cases hx : decide (x < 0) with
  | true =>
   refine ⟨iso_ret ?_, ?_⟩
   ·simp only [sG, seval, x24, stU, b24, Tryz.f24, encN, ci, fewN, D, dPN, hx]
   ·simp only [fewN, hx, cond_true]; exact ⟨h1, Int.le_refl _⟩
  | false =>
   have hx' := of_decide_eq_false hx
   have w1 : IntKind.i64.wrap (x - 1) = x - 1 := wrap_i64 (by omega) (by omega)
   obtain ⟨l1, l2, l3⟩ : (∀ m, iso tab fi24 m [encN l, ci (x - 1)] = some (ci (fewN l (x - 1)))) /\ -1 <= fewN l (x - 1) /\ fewN l (x - 1) <= x - 1 := ⟨fun m => (ihl m (x - 1) (by omega) (by omega)).1, (ihl m (x - 1) (by omega) (by omega)).2⟩
   generalize hy : fewN l (x - 1) = y at l1 l2 l3
   obtain ⟨r1, r2, r3⟩ : (∀ m, iso tab fi24 m [encN r, ci y] = some (ci (fewN r y))) /\ -1 <= fewN r y /\ fewN r y <= y := ⟨fun m => (ihr m y (by omega) (by omega)).1, (ihr m y (by omega) (by omega)).2⟩
   have c1 : ∀ m' H hs, callF tab (evw tab) m' 24 [encN l, .lit (.int .i64 (x - 1))] H hs = some (.lit (.int .i64 y), H, hs) := fun m' H hs =>
    callF_iso tcon rfl rfl (by simp only [bares, bare_N]; rfl) (by show iso tab fi24 m' [nrm (encN l), ci (x - 1)] = _; rw [nrm_N]; exact l1 m')
   have c2 : ∀ m' H hs, callF tab (evw tab) m' 24 [encN r, .lit (.int .i64 y)] H hs = some (.lit (.int .i64 (fewN r y)), H, hs) := fun m' H hs =>
    callF_iso tcon rfl rfl (by simp only [bares, bare_N]; rfl) (by show iso tab fi24 m' [nrm (encN r), ci y] = _; rw [nrm_N]; exact r1 m')
   have e : fewN (.mk k nm w cs ps cl ag of l r) x = fewN r y := by simp only [fewN, hx, cond_false, hy]
   rw [e]
   refine ⟨iso_ret ?_, r2, by omega⟩
   simp only [sG, seval, x24, stU, b24, Tryz.f24, encN, ci, D, dPN, dN, hx, w1, c1, c2]
theorem cFew {n : Nd} {m : Md} {x : Int} {H : Tr AO} {hs : Nat} (h1 : -1 <= x) (h2 : x <= 1000) : callF tab (evw tab) m 24 [encN n, .lit (.int .i64 x)] H hs = some (.lit (.int .i64 (fewN n x)), H, hs) :=
 callF_iso tcon rfl rfl (by simp only [bares, bare_N]; rfl) (by show iso tab fi24 m [nrm (encN n), ci x] = _; rw [nrm_N]; exact (eqFew n m x h1 h2).1)
def letB (c : UInt8) : Bool := decide ((97 : Int) <= (c.toNat : Int)) && decide ((c.toNat : Int) <= 122)
theorem cLet {m : Md} {c : UInt8} {H : Tr AO} {hs : Nat} : callF tab (evw tab) m 115 [.lit (.int .u8 (c.toNat : Int))] H hs = some (.lit (.bool (letB c)), H, hs) := by
 refine callF_iso tcon rfl rfl rfl (iso_ret ?_)
 show RetN (bodyF (evw tab) tab fi115 m [.lit (.int .u8 (c.toNat : Int))] .lf 0) _
 unfold letB
 cases h1 : decide ((97 : Int) <= (c.toNat : Int)) with
 | false => simp only [sG, seval, x115, stU, b115, Tryz.f115, h1]
 | true => simp only [sG, seval, x115, stU, b115, Tryz.f115, h1]
def okc (c : UInt8) : Bool := letB c || (decide ((48 : Int) <= (c.toNat : Int)) && decide ((c.toNat : Int) <= 57)) || decide ((c.toNat : Int) = 95)
def nameB (s : List UInt8) : Bool := bif decide (s.length = 0) then false else bif decide ((16 : Int) < s.length) then false else bif letB (s.headD 0) then s.all okc else false
theorem loopName {s : List UInt8} {gl : Tr (Option AV)} (hs0 : s.length < 1000000) : ∀ (k i : Nat) (t : Tr AV) (H : Tr AO) (hs : Nat), i + k = s.length ->
  t.get .any 0 = .str s -> t.get .any 19 = .lit (.int .i64 s.length) -> t.get .any 20 = .lit (.int .i64 i) ->
  RetN (W tab none (fin tab fi75) (lpc fi75 0) (lpk fi75 0) ⟨t, 42, H, hs, [], ⟨true, true, gl⟩⟩) (.lit (.bool ((s.drop i).all okc))) := by
 simp only [stU, stC, b75, Tryz.f75]
 intro k
 induction k with
 | zero =>
  intro i t H hs hi a0 a19 a20
  have e1 : decide ((i : Int) < (s).length) = false := dcF (by omega)
  rw [W_loop, List.drop_of_length_le (by omega)]
  simp only [sG, seval, x75, stU, b75, Tryz.f75, a0, a19, a20, e1, List.all_nil]
 | succ k ih =>
  intro i t H hs hi a0 a19 a20
  have hlt : i < (s).length := by omega
  obtain ⟨c, hv, e1, e3, e4, e6, e7⟩ := atS hlt
  have e5 := wrap_succ (i := i) (by omega)
  rw [W_loop, e6]
  have cl := fun m H hs => @cLet m c H hs
  have hk : okc c = (letB c || (decide ((48 : Int) <= (c.toNat : Int)) && decide ((c.toNat : Int) <= 57)) || decide ((c.toNat : Int) = 95)) := rfl
  have g1 : decide ((c.toNat : Int) < 48) = !decide ((48 : Int) <= (c.toNat : Int)) := by rw [Bool.eq_iff_iff]; simp
  have g2 : decide ((57 : Int) < (c.toNat : Int)) = !decide ((c.toNat : Int) <= 57) := by rw [Bool.eq_iff_iff]; simp
  rw [List.all_cons, hk]
  cases h1 : letB c <;> cases h2 : decide ((48 : Int) <= (c.toNat : Int)) <;> cases h3 : decide ((c.toNat : Int) <= 57) <;> cases h4 : decide ((c.toNat : Int) = 95) <;> rw [h1] at cl <;> rw [h2] at g1 <;> rw [h3] at g2
  all_goals simp (maxSteps := 2000000) only [sG, seval, x75, stU, b75, Tryz.f75, a0, a19, a20, e1, e3, e4, e5, lG, cl, g1, g2, h4, Bool.false_or, Bool.or_false]
  all_goals first | done | (apply ih (i + 1) _ _ _ (by omega) <;> simp only [sG, seval, a0, a19, a20])
theorem eqName {m : Md} {s : List UInt8} (hs0 : s.length < 1000000) : iso tab fi75 m [.str s] = some (.lit (.bool (nameB s))) := by
 refine iso_ret ?_
 have L := @loopName s m.gl hs0 s.length 0
 simp only [stU, stC, b75, Tryz.f75] at L
 unfold nameB
 cases s with
 | nil => simp (maxSteps := 2000000) only [sG, seval, x75, stU, b75, Tryz.f75]
 | cons c s =>
  have cl := fun m H hs => @cLet m c H hs
  have z0 : decide ((c :: s).length = 0) = false := rfl
  have e2 : ((c :: s) == []) = false := rfl
  rw [z0, cond_false]
  show RetN _ (.lit (.bool (bif decide ((16 : Int) < ((s.length + 1 : Nat) : Int)) then false else bif letB c then (c :: s).all okc else false)))
  cases h1 : decide ((16 : Int) < ((s.length + 1 : Nat) : Int)) with
  | true =>
   simp (maxSteps := 2000000) only [sG, seval, x75, stU, b75, Tryz.f75, cl, h1, e2]
  | false =>
   rw [cond_false]
   cases h2 : letB c with
   | false =>
    rw [h2] at cl
    simp (maxSteps := 2000000) only [sG, seval, x75, stU, b75, Tryz.f75, cl, h1, e2]
   | true =>
    rw [h2] at cl
    simp (maxSteps := 2000000) only [sG, seval, x75, stU, b75, Tryz.f75, cl, h1, e2]
    apply L
    ·trivial
    all_goals simp only [sG, seval]
theorem cName {m : Md} {s : List UInt8} {H : Tr AO} {hs : Nat} (hs0 : s.length < 1000000) : callF tab (evw tab) m 75 [.str s] H hs = some (.lit (.bool (nameB s)), H, hs) :=
 callF_iso tcon rfl rfl rfl (eqName hs0)
def wideN : Nd -> Int
 | .nil => 0
 | .mk k _ w _ _ cl _ _ l r => bif decide (k = 1) then w else bif decide (k = 3) then IntKind.i64.wrap (wideN l + wideN r) else bif decide (k = 5) then cl.length else bif decide (k = 7) then IntKind.i64.wrap ((cl.length : Int) + 1) else wideN l
theorem eqWide : ∀ (n : Nd) (m : Md), iso tab fi72 m [encN n] = some (ci (wideN n)) := by
 have D := d72
 simp only [stD, stC, List.cons.injEq, b72, Tryz.f72] at D
 intro n
 induction n with
 | nil =>
  intro m
  refine iso_ret ?_
  simp only [sG, seval, x72, stU, b72, Tryz.f72, encN, ci, wideN, D, dPN]
 | mk k nm w cs ps cl ag of l r ihl ihr =>
  intro m
  refine iso_ret ?_
  have c1 : ∀ m' H hs, callF tab (evw tab) m' 72 [encN l] H hs = some (.lit (.int .i64 (wideN l)), H, hs) := fun m' H hs =>
   callF_iso tcon rfl rfl (by simp only [bares, bare_N]; rfl) (by simp only [nrms, nrm_N]; exact ihl m')
  have c2 : ∀ m' H hs, callF tab (evw tab) m' 72 [encN r] H hs = some (.lit (.int .i64 (wideN r)), H, hs) := fun m' H hs =>
   callF_iso tcon rfl rfl (by simp only [bares, bare_N]; rfl) (by simp only [nrms, nrm_N]; exact ihr m')
  rw [wideN]
  cases h1 : decide (k = 1) with
  | true => simp only [sG, seval, x72, stU, b72, Tryz.f72, encN, ci, D, dPN, dN, h1]
  | false =>
   cases h3 : decide (k = 3) with
   | true => simp only [sG, seval, x72, stU, b72, Tryz.f72, encN, ci, D, dPN, dN, h1, h3, c1, c2]
   | false =>
    cases h5 : decide (k = 5) with
    | true => simp only [sG, seval, x72, stU, b72, Tryz.f72, encN, ci, D, dPN, dN, h1, h3, h5, List.length_map]
    | false =>
     cases h7 : decide (k = 7) with
     | true => simp only [sG, seval, x72, stU, b72, Tryz.f72, encN, ci, D, dPN, dN, h1, h3, h5, h7, List.length_map]
     | false => simp only [sG, seval, x72, stU, b72, Tryz.f72, encN, ci, D, dPN, dN, h1, h3, h5, h7, c1]
theorem cWide {n : Nd} {m : Md} {H : Tr AO} {hs : Nat} : callF tab (evw tab) m 72 [encN n] H hs = some (.lit (.int .i64 (wideN n)), H, hs) :=
 callF_iso tcon rfl rfl (by simp only [bares, bare_N]; rfl) (by simp only [nrms, nrm_N]; exact eqWide n m)
def v0C : Cd := ⟨-1, 1, -1, v0⟩
theorem cNever {m : Md} {H : Tr AO} {hs : Nat} : callF tab (evw tab) m 119 [] H hs = some (encC v0C, H, hs) := by
 refine callF_iso tcon rfl rfl rfl ?_
 refine iso_ret ?_
 simp only [sG, seval, x119, stU, b119, Tryz.f119, ldv, tt60, isAggD]
 rfl
def colB (n w : Int) : Bool := decide (0 <= n) && decide (n < w)
def cdeq (a b : Cd) : Bool := decide (a.l = b.l) && (decide (a.op = b.op) && (decide (a.r = b.r) && veq a.v b.v))
theorem eqv_V {a b : Vl} : eqv tab 19 58 (.agg a.cs) (.agg b.cs) = some (veq a b) := by
 have key : eqv tab 19 58 (.agg a.cs) (.agg b.cs) = (match (some (decide (a.k = b.k)) : Option Bool) with
   | some true => (match (some (a.b == b.b) : Option Bool) with
    | some true => (match (some (decide (a.n = b.n)) : Option Bool) with
     | some true => (match (some (a.s == b.s) : Option Bool) with
      | some true => some true
      | some false => some false
      | none => none)
     | some false => some false
     | none => none)
    | some false => some false
    | none => none)
   | some false => some false
   | none => none) := rfl
 rw [key]
 unfold veq
 cases decide (a.k = b.k) <;> cases (a.b == b.b) <;> cases decide (a.n = b.n) <;> cases (a.s == b.s) <;> rfl
theorem cCdeq {p q : Operand} {a b : Cd} : binO tab .eql 60 p q (some (.agg (ci a.l :: ci a.op :: ci a.r :: a.v.cs))) (some (.agg (ci b.l :: ci b.op :: ci b.r :: b.v.cs))) = some (.lit (.bool (cdeq a b))) := by
 have key : eqv tab 20 60 (.agg (ci a.l :: ci a.op :: ci a.r :: a.v.cs)) (.agg (ci b.l :: ci b.op :: ci b.r :: b.v.cs)) = (match (some (decide (a.l = b.l)) : Option Bool) with
   | some true => (match (some (decide (a.op = b.op)) : Option Bool) with
    | some true => (match (some (decide (a.r = b.r)) : Option Bool) with
     | some true => (match eqv tab 19 58 (.agg a.v.cs) (.agg b.v.cs) with
      | some true => some true
      | some false => some false
      | none => none)
     | some false => some false
     | none => none)
    | some false => some false
    | none => none)
   | some false => some false
   | none => none) := rfl
 have h2 : eqv tab 20 60 (.agg (ci a.l :: ci a.op :: ci a.r :: a.v.cs)) (.agg (ci b.l :: ci b.op :: ci b.r :: b.v.cs)) = some (cdeq a b) := by
  rw [key, eqv_V]
  unfold cdeq
  cases decide (a.l = b.l) <;> cases decide (a.op = b.op) <;> cases decide (a.r = b.r) <;> cases veq a.v b.v <;> rfl
 have h3 : binV tab .eql 60 (.agg (ci a.l :: ci a.op :: ci a.r :: a.v.cs)) (.agg (ci b.l :: ci b.op :: ci b.r :: b.v.cs)) = some (.lit (.bool (cdeq a b))) := by
  show (match eqv tab 20 60 (.agg (ci a.l :: ci a.op :: ci a.r :: a.v.cs)) (.agg (ci b.l :: ci b.op :: ci b.r :: b.v.cs)) with | some b => some (AV.lit (.bool b)) | none => none) = _
  rw [h2]
 unfold binO
 simp only [h3]
theorem cCol {m : Md} {n w : Int} {o : Nat} {H : Tr AO} {hs : Nat} (h : H.get .dead o = .cells [.lit (.int .i64 w)] false) : callF tab (evw tab) m 118 [.lit (.int .i64 n), .ptr o 0] H hs = some (.lit (.bool (colB n w)), H, hs) := by
 rw [callF_in (fi := fi118) tcon rfl rfl rfl]
 unfold colB
 cases h1 : decide (0 <= n) with
 | false => simp only [sG, seval, x118, stU, b118, Tryz.f118, h, h1]
 | true => simp only [sG, seval, x118, stU, b118, Tryz.f118, h, h1]
def condB (c : Cd) (w : Int) : Bool := bif decide (c.l = -1) then cdeq c v0C else
 bif !colB c.l w || decide (c.op < 1) || decide (6 < c.op) then false else
 bif decide (c.r = -1) then vright c.v else colB c.r w && veq c.v v0
theorem eqCond {m : Md} {c : Cd} {w : Int} : iso tab fi78 m [encC c, .lit (.int .i64 w)] = some (.lit (.bool (condB c w))) := by
 have D := d78
 simp only [stD, stC, List.cons.injEq, b78, Tryz.f78] at D
 refine iso_ret ?_
 unfold condB
 have c0 := fun m H hs => @cNever m H hs
 have c1 := fun m n o H hs => @cCol m n w o H hs
 have e0 : v0C = ⟨-1, 1, -1, v0⟩ := rfl
 have ec : ∀ p q, binO tab .eql 60 p q (some (.agg [.lit (.int .i64 c.l), .lit (.int .i64 c.op), .lit (.int .i64 c.r), .lit (.int .i64 c.v.k), .lit (.bool c.v.b), .lit (.int .i64 c.v.n), .str c.v.s])) (some (.agg [.lit (.int .i64 (-1)), .lit (.int .i64 1), .lit (.int .i64 (-1)), .lit (.int .i64 0), .lit (.bool false), .lit (.int .i64 0), .str []])) = some (.lit (.bool (cdeq c v0C))) := fun p q => @cCdeq p q c v0C
 cases h1 : decide (c.l = -1) with
 | true =>
  simp (maxSteps := 2000000) only [sG, seval, x78, stU, b78, Tryz.f78, encC, v0C, v0, ci, Vl.cs, D, h1, c0, ec, ldv, tt60, isAggD]
 | false =>
  rw [cond_false]
  have er := fun m H hs => @cRight m c.v H hs
  have en := fun m H hs => @cNull m H hs
  have ev : ∀ p q, binO tab .eql 58 p q (some (.agg [.lit (.int .i64 c.v.k), .lit (.bool c.v.b), .lit (.int .i64 c.v.n), .str c.v.s])) (some (.agg [.lit (.int .i64 0), .lit (.bool false), .lit (.int .i64 0), .str []])) = some (.lit (.bool (veq c.v v0))) := fun p q => @cVeq p q c.v v0
  simp only [encV, Vl.cs, v0] at er en
  cases h2 : colB c.l w with
  | false => simp (maxSteps := 2000000) only [sG, seval, x78, stU, b78, Tryz.f78, encC, ci, Vl.cs, D, h1, h2, c1]
  | true =>
   cases h3 : decide (c.op < 1) with
   | true => simp (maxSteps := 2000000) only [sG, seval, x78, stU, b78, Tryz.f78, encC, ci, Vl.cs, D, h1, h2, h3, c1]
   | false =>
    cases h4 : decide (6 < c.op) with
    | true => simp (maxSteps := 2000000) only [sG, seval, x78, stU, b78, Tryz.f78, encC, ci, Vl.cs, D, h1, h2, h3, h4, c1]
    | false =>
     cases h5 : decide (c.r = -1) with
     | true => simp (maxSteps := 2000000) only [sG, seval, x78, stU, b78, Tryz.f78, encC, ci, Vl.cs, D, h1, h2, h3, h4, h5, c1, er, ldv, tt58, isAggD]
     | false =>
      cases h6 : colB c.r w with
      | false => simp (maxSteps := 2000000) only [sG, seval, x78, stU, b78, Tryz.f78, encC, ci, Vl.cs, D, h1, h2, h3, h4, h5, h6, c1]
      | true => simp (maxSteps := 2000000) only [sG, seval, x78, stU, b78, Tryz.f78, encC, ci, Vl.cs, D, h1, h2, h3, h4, h5, h6, c1, en, ev, v0, ldv, tt58, isAggD]
theorem cCond {m : Md} {c : Cd} {w : Int} {H : Tr AO} {hs : Nat} : callF tab (evw tab) m 78 [encC c, .lit (.int .i64 w)] H hs = some (.lit (.bool (condB c w)), H, hs) :=
 callF_iso tcon rfl rfl rfl eqCond
end Go.Proofs.YtcledcfeddlomaaGreatDoor.Ev
