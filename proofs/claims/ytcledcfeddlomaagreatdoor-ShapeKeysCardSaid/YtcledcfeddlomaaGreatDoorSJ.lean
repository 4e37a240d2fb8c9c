import Derived.Test.YtcledcfeddlomaaGreatDoorSG
set_option linter.all false
set_option maxRecDepth 100000
set_option maxHeartbeats 40000000
namespace Go.Proofs.YtcledcfeddlomaaGreatDoor.Ev
open Go Go.Proofs.YtcledcfeddlomaaGreatDoor.Ev Go.Proofs Go.Proofs.YtcledcfeddlomaaGreatDoor Go.Proofs.YtcledcfeddlomaaGreatDoor.Tab
theorem cCic {m : Md} {n w : Int} {o : Nat} {H : Tr AO} {hs : Nat} (h : H.get .dead o = .cells [.lit (.int .i64 w)] false) : callF tab (evw tab) m 74 [.lit (.int .i64 n), .ptr o 0] H hs = some (.lit (.bool (colB n w)), H, hs) := by
 rw [callF_in (fi := fi74) tcon rfl rfl rfl]
 unfold colB
 cases h1 : decide (0 <= n) with
 | false => simp only [sG, seval, x74, stU, b74, Tryz.f74, h, h1]
 | true => simp only [sG, seval, x74, stU, b74, Tryz.f74, h, h1]
def fitsB (k : Int) (nm : List UInt8) (w : Int) (cs : List Cd) (ps : List (Int × Int)) (cl : List Int) (ag of : Int) (l r : Nd) : Bool :=
 bif decide (k = 1) then nameB nm && (decide (1 <= w) && decide (w <= 40)) else
 bif decide (k = 2) then decide ((0 : Int) < cs.length) && cs.all (fun x => condB x (wideN l)) else
 bif decide (k = 3) then ps.all (fun x => pairB x (wideN l) (wideN r)) && decide (IntKind.i64.wrap (wideN l + wideN r) <= 40) else
 bif decide (k = 4) then ps.all (fun x => pairB x (wideN l) (wideN r)) else
 bif decide (k = 5) then decide ((0 : Int) < cl.length) && (decide ((cl.length : Int) <= 40) && cl.all (fun x => colB x (wideN l))) else
 bif decide (k = 6) then true else
 bif decide (k = 7) then decide ((cl.length : Int) < 40) && (cl.all (fun x => colB x (wideN l)) && (decide (ag = 1) && decide (of = 0) || (decide (1 < ag) && (decide (ag <= 4) && colB of (wideN l))))) else false
variable {m : Md} {k : Int} {nm : List UInt8} {w : Int} {cs : List Cd} {ps : List (Int × Int)} {cl : List Int} {ag of : Int} {l r : Nd}
theorem eqFits1 (hn : nm.length < 1000000) : iso tab fi44 m [encN (.mk 1 nm w cs ps cl ag of l r)] = some (.lit (.bool (fitsB 1 nm w cs ps cl ag of l r))) := by
 have D := d44
 simp only [stD, stC, List.cons.injEq, b44, Tryz.f44] at D
 refine iso_ret ?_
 have cl1 := fun m H hs => @cWide l m H hs
 have cr1 := fun m H hs => @cWide r m H hs
 have cn := fun m H hs => @cName m nm H hs hn
 unfold fitsB
 cases h1 : nameB nm with
 | false =>
  rw [h1] at cn
  simp (maxSteps := 4000000) only [sG, seval, x44, stU, b44, Tryz.f44, encN, ci, D, dN, cl1, cr1, cn]
 | true =>
  rw [h1] at cn
  cases h2 : decide (1 <= w) <;> simp (maxSteps := 4000000) only [sG, seval, x44, stU, b44, Tryz.f44, encN, ci, D, dN, cl1, cr1, cn, h2]
theorem eqFits2 (hc : cs.length < 1000000) : iso tab fi44 m [encN (.mk 2 nm w cs ps cl ag of l r)] = some (.lit (.bool (fitsB 2 nm w cs ps cl ag of l r))) := by
 have D := d44
 simp only [stD, stC, List.cons.injEq, b44, Tryz.f44] at D
 refine iso_ret ?_
 have cl1 := fun m H hs => @cWide l m H hs
 have cr1 := fun m H hs => @cWide r m H hs
 have cc := fun m o H hs => @cCd4 m cs (wideN l) o H hs hc
 unfold fitsB
 cases h1 : decide ((0 : Int) < cs.length) with
 | false => simp (maxSteps := 4000000) only [sG, seval, x44, stU, b44, Tryz.f44, encN, ci, D, dN, dLB, List.length_map, cl1, cr1, h1]
 | true =>
  cases h2 : cs.all (fun x => condB x (wideN l)) <;> simp only [h2] at cc <;> simp (maxSteps := 4000000) only [sG, seval, x44, stU, b44, Tryz.f44, encN, ci, D, dN, dLB, List.length_map, cl1, cr1, h1, h2, cc]
theorem eqFits3 (hp : ps.length < 1000000) : iso tab fi44 m [encN (.mk 3 nm w cs ps cl ag of l r)] = some (.lit (.bool (fitsB 3 nm w cs ps cl ag of l r))) := by
 have D := d44
 simp only [stD, stC, List.cons.injEq, b44, Tryz.f44] at D
 refine iso_ret ?_
 have cl1 := fun m H hs => @cWide l m H hs
 have cr1 := fun m H hs => @cWide r m H hs
 have cp := fun m o o' H hs ho h h' => @cPr4 m ps (wideN l) (wideN r) o o' H hs hp ho h h'
 unfold fitsB
 cases h1 : ps.all (fun x => pairB x (wideN l) (wideN r)) <;> simp only [h1] at cp <;> simp (maxSteps := 4000000) only [sG, seval, x44, stU, b44, Tryz.f44, encN, ci, D, dN, dLB, List.length_map, cl1, cr1, h1, cp]
theorem eqFits4 (hp : ps.length < 1000000) : iso tab fi44 m [encN (.mk 4 nm w cs ps cl ag of l r)] = some (.lit (.bool (fitsB 4 nm w cs ps cl ag of l r))) := by
 have D := d44
 simp only [stD, stC, List.cons.injEq, b44, Tryz.f44] at D
 refine iso_ret ?_
 have cl1 := fun m H hs => @cWide l m H hs
 have cr1 := fun m H hs => @cWide r m H hs
 have cp := fun m o o' H hs ho h h' => @cPr4 m ps (wideN l) (wideN r) o o' H hs hp ho h h'
 unfold fitsB
 cases h1 : ps.all (fun x => pairB x (wideN l) (wideN r)) <;> simp only [h1] at cp <;> simp (maxSteps := 4000000) only [sG, seval, x44, stU, b44, Tryz.f44, encN, ci, D, dN, dLB, List.length_map, cl1, cr1, h1, cp]
theorem eqFits5 (hc : cl.length < 1000000) : iso tab fi44 m [encN (.mk 5 nm w cs ps cl ag of l r)] = some (.lit (.bool (fitsB 5 nm w cs ps cl ag of l r))) := by
 have D := d44
 simp only [stD, stC, List.cons.injEq, b44, Tryz.f44] at D
 refine iso_ret ?_
 have cl1 := fun m H hs => @cWide l m H hs
 have cr1 := fun m H hs => @cWide r m H hs
 have cc := fun m o H hs => @cCi4 m cl (wideN l) o H hs hc
 unfold fitsB
 cases h1 : decide ((0 : Int) < cl.length) with
 | false => simp (maxSteps := 4000000) only [sG, seval, x44, stU, b44, Tryz.f44, encN, ci, D, dN, dLB, List.length_map, cl1, cr1, h1]
 | true =>
  cases h3 : decide ((cl.length : Int) <= 40) with
  | false => simp (maxSteps := 4000000) only [sG, seval, x44, stU, b44, Tryz.f44, encN, ci, D, dN, dLB, List.length_map, cl1, cr1, h1, h3]
  | true =>
   cases h2 : cl.all (fun x => colB x (wideN l)) <;> simp only [h2] at cc <;> simp (maxSteps := 4000000) only [sG, seval, x44, stU, b44, Tryz.f44, encN, ci, D, dN, dLB, List.length_map, cl1, cr1, h1, h2, h3, cc]
theorem eqFits6 : iso tab fi44 m [encN (.mk 6 nm w cs ps cl ag of l r)] = some (.lit (.bool (fitsB 6 nm w cs ps cl ag of l r))) := by
 have D := d44
 simp only [stD, stC, List.cons.injEq, b44, Tryz.f44] at D
 refine iso_ret ?_
 have cl1 := fun m H hs => @cWide l m H hs
 have cr1 := fun m H hs => @cWide r m H hs
 unfold fitsB
 simp (maxSteps := 4000000) only [sG, seval, x44, stU, b44, Tryz.f44, encN, ci, D, dN, dLB, List.length_map, cl1, cr1]
theorem eqFits7 (hc : cl.length < 1000000) : iso tab fi44 m [encN (.mk 7 nm w cs ps cl ag of l r)] = some (.lit (.bool (fitsB 7 nm w cs ps cl ag of l r))) := by
 have D := d44
 simp only [stD, stC, List.cons.injEq, b44, Tryz.f44] at D
 refine iso_ret ?_
 have cl1 := fun m H hs => @cWide l m H hs
 have cr1 := fun m H hs => @cWide r m H hs
 have cc := fun m o H hs => @cCi4 m cl (wideN l) o H hs hc
 have ck := fun m n o H hs => @cCic m n (wideN l) o H hs
 unfold fitsB
 cases g1 : decide (ag = 1) with
 | true =>
  have e1 : ag = 1 := of_decide_eq_true g1
  subst e1
  cases g2 : decide (of = 0) with
  | true =>
   cases h3 : decide ((cl.length : Int) < 40) with
   | false => simp (maxSteps := 4000000) only [sG, seval, x44, stU, b44, Tryz.f44, encN, ci, D, dN, dLB, List.length_map, cl1, cr1, h3, g2, ck]
   | true => cases h2 : cl.all (fun x => colB x (wideN l)) <;> simp only [h2] at cc <;> simp (maxSteps := 4000000) only [sG, seval, x44, stU, b44, Tryz.f44, encN, ci, D, dN, dLB, List.length_map, cl1, cr1, h2, h3, cc, g2, ck]
  | false =>
   cases h3 : decide ((cl.length : Int) < 40) with
   | false => simp (maxSteps := 4000000) only [sG, seval, x44, stU, b44, Tryz.f44, encN, ci, D, dN, dLB, List.length_map, cl1, cr1, h3, g2, ck]
   | true => cases h2 : cl.all (fun x => colB x (wideN l)) <;> simp only [h2] at cc <;> simp (maxSteps := 4000000) only [sG, seval, x44, stU, b44, Tryz.f44, encN, ci, D, dN, dLB, List.length_map, cl1, cr1, h2, h3, cc, g2, ck]
 | false =>
  cases g3 : decide (1 < ag) with
  | false =>
   cases h3 : decide ((cl.length : Int) < 40) with
   | false => simp (maxSteps := 4000000) only [sG, seval, x44, stU, b44, Tryz.f44, encN, ci, D, dN, dLB, List.length_map, cl1, cr1, h3, g1, g3, ck]
   | true => cases h2 : cl.all (fun x => colB x (wideN l)) <;> simp only [h2] at cc <;> simp (maxSteps := 4000000) only [sG, seval, x44, stU, b44, Tryz.f44, encN, ci, D, dN, dLB, List.length_map, cl1, cr1, h2, h3, cc, g1, g3, ck]
  | true =>
   cases g4 : decide (ag <= 4) with
   | false =>
    cases h3 : decide ((cl.length : Int) < 40) with
    | false => simp (maxSteps := 4000000) only [sG, seval, x44, stU, b44, Tryz.f44, encN, ci, D, dN, dLB, List.length_map, cl1, cr1, h3, g1, g3, g4, ck]
    | true => cases h2 : cl.all (fun x => colB x (wideN l)) <;> simp only [h2] at cc <;> simp (maxSteps := 4000000) only [sG, seval, x44, stU, b44, Tryz.f44, encN, ci, D, dN, dLB, List.length_map, cl1, cr1, h2, h3, cc, g1, g3, g4, ck]
   | true =>
    cases g5 : colB of (wideN l) with
    | false =>
     cases h3 : decide ((cl.length : Int) < 40) with
     | false => simp (maxSteps := 4000000) only [sG, seval, x44, stU, b44, Tryz.f44, encN, ci, D, dN, dLB, List.length_map, cl1, cr1, h3, g1, g3, g4, g5, ck]
     | true => cases h2 : cl.all (fun x => colB x (wideN l)) <;> simp only [h2] at cc <;> simp (maxSteps := 4000000) only [sG, seval, x44, stU, b44, Tryz.f44, encN, ci, D, dN, dLB, List.length_map, cl1, cr1, h2, h3, cc, g1, g3, g4, g5, ck]
    | true =>
     cases h3 : decide ((cl.length : Int) < 40) with
     | false => simp (maxSteps := 4000000) only [sG, seval, x44, stU, b44, Tryz.f44, encN, ci, D, dN, dLB, List.length_map, cl1, cr1, h3, g1, g3, g4, g5, ck]
     | true => cases h2 : cl.all (fun x => colB x (wideN l)) <;> simp only [h2] at cc <;> simp (maxSteps := 4000000) only [sG, seval, x44, stU, b44, Tryz.f44, encN, ci, D, dN, dLB, List.length_map, cl1, cr1, h2, h3, cc, g1, g3, g4, g5, ck]
theorem eqFits0 (z1 : decide (k = 1) = false) (z2 : decide (k = 2) = false) (z3 : decide (k = 3) = false) (z4 : decide (k = 4) = false) (z5 : decide (k = 5) = false) (z6 : decide (k = 6) = false) (z7 : decide (k = 7) = false) : iso tab fi44 m [encN (.mk k nm w cs ps cl ag of l r)] = some (.lit (.bool (fitsB k nm w cs ps cl ag of l r))) := by
 have D := d44
 simp only [stD, stC, List.cons.injEq, b44, Tryz.f44] at D
 refine iso_ret ?_
 have cl1 := fun m H hs => @cWide l m H hs
 have cr1 := fun m H hs => @cWide r m H hs
 unfold fitsB
 simp (maxSteps := 4000000) only [sG, seval, x44, stU, b44, Tryz.f44, encN, ci, D, dN, dLB, List.length_map, cl1, cr1, z1, z2, z3, z4, z5, z6, z7]
theorem cFits {H : Tr AO} {hs : Nat} (hn : nm.length < 1000000) (hcs : cs.length < 1000000) (hp : ps.length < 1000000) (hc : cl.length < 1000000) : callF tab (evw tab) m 44 [encN (.mk k nm w cs ps cl ag of l r)] H hs = some (.lit (.bool (fitsB k nm w cs ps cl ag of l r)), H, hs) := by
 refine callF_iso tcon rfl rfl (by simp only [bares, bare_N]; rfl) ?_
 simp only [nrms, nrm_N]
 by_cases h1 : k = 1; · subst h1; exact eqFits1 hn
 by_cases h2 : k = 2; · subst h2; exact eqFits2 hcs
 by_cases h3 : k = 3; · subst h3; exact eqFits3 hp
 by_cases h4 : k = 4; · subst h4; exact eqFits4 hp
 by_cases h5 : k = 5; · subst h5; exact eqFits5 hc
 by_cases h6 : k = 6; · subst h6; exact eqFits6
 by_cases h7 : k = 7; · subst h7; exact eqFits7 hc
 exact eqFits0 (decide_eq_false h1) (decide_eq_false h2) (decide_eq_false h3) (decide_eq_false h4) (decide_eq_false h5) (decide_eq_false h6) (decide_eq_false h7)
end Go.Proofs.YtcledcfeddlomaaGreatDoor.Ev
namespace Go.Proofs.YtcledcfeddlomaaGreatDoor.Ev
open Go Go.Proofs.YtcledcfeddlomaaGreatDoor.Ev Go.Proofs Go.Proofs.YtcledcfeddlomaaGreatDoor Go.Proofs.YtcledcfeddlomaaGreatDoor.Tab
def shortN : Nd -> Prop
 | .nil => True
 | .mk _ nm _ cs ps cl _ _ l r => nm.length < 1000000 /\ cs.length < 1000000 /\ ps.length < 1000000 /\ cl.length < 1000000 /\ shortN l /\ shortN r
def eachB : Nd -> Bool
 | .nil => true
 | .mk k nm w cs ps cl ag of l r => eachB l && (eachB r && (bareB k nm w cs ps cl ag of l r && fitsB k nm w cs ps cl ag of l r))
theorem eqEach : ∀ (n : Nd) (m : Md), shortN n -> iso tab fi25 m [encN n] = some (.lit (.bool (eachB n))) := by
 intro n
 induction n with
 | nil =>
  intro m _
  refine iso_ret ?_
  simp only [sG, seval, x25, stU, b25, Tryz.f25, encN, eachB, dPN]
 | mk k nm w cs ps cl ag of l r ihl ihr =>
  intro m ⟨s1, s2, s3, s4, sl, sr⟩
  refine iso_ret ?_
  have c1 : ∀ m' H hs, callF tab (evw tab) m' 25 [encN l] H hs = some (.lit (.bool (eachB l)), H, hs) := fun m' H hs =>
   callF_iso tcon rfl rfl (by simp only [bares, bare_N]; rfl) (by simp only [nrms, nrm_N]; exact ihl m' sl)
  have c2 : ∀ m' H hs, callF tab (evw tab) m' 25 [encN r] H hs = some (.lit (.bool (eachB r)), H, hs) := fun m' H hs =>
   callF_iso tcon rfl rfl (by simp only [bares, bare_N]; rfl) (by simp only [nrms, nrm_N]; exact ihr m' sr)
  have c3 := fun m H hs => @cBare m k nm w cs ps cl ag of l r H hs
  have c4 := fun m H hs => @cFits m k nm w cs ps cl ag of l r H hs s1 s2 s3 s4
  simp only [encN] at c3 c4
  rw [eachB]
  cases h1 : eachB l with
  | false => simp only [h1] at c1; simp (maxSteps := 4000000) only [sG, seval, x25, stU, b25, Tryz.f25, encN, dPN, dN, c1]
  | true =>
   simp only [h1] at c1
   cases h2 : eachB r with
   | false => simp only [h2] at c2; simp (maxSteps := 4000000) only [sG, seval, x25, stU, b25, Tryz.f25, encN, dPN, dN, c1, c2]
   | true =>
    simp only [h2] at c2
    cases h3 : bareB k nm w cs ps cl ag of l r with
    | false => simp only [h3] at c3; simp (maxSteps := 4000000) only [sG, seval, x25, stU, b25, Tryz.f25, encN, dPN, dN, c1, c2, c3]
    | true =>
     simp only [h3] at c3
     simp (maxSteps := 4000000) only [sG, seval, x25, stU, b25, Tryz.f25, encN, dPN, dN, c1, c2, c3, c4]
theorem cEach {n : Nd} {m : Md} {H : Tr AO} {hs : Nat} (h : shortN n) : callF tab (evw tab) m 25 [encN n] H hs = some (.lit (.bool (eachB n)), H, hs) :=
 callF_iso tcon rfl rfl (by simp only [bares, bare_N]; rfl) (by simp only [nrms, nrm_N]; exact eqEach n m h)
def rightN (n : Nd) : Bool := !isNil n && (decide (0 <= fewN n 400) && eachB n)
theorem eqRightN {m : Md} {n : Nd} (h : shortN n) : isoO (evw tab) tab fi11 m [encN n] = some (.lit (.bool (rightN n))) := by
 refine own_ret ?_
 unfold rightN
 have c1 := fun m H hs => @cFew n m 400 H hs (by omega) (by omega)
 have c2 := fun m H hs => @cEach n m H hs h
 cases n with
 | nil =>
  simp (maxSteps := 4000000) only [sG, seval, x11, stU, b11, Tryz.f11, encN, isNil, dPN]
  rfl
 | mk k nm w cs ps cl ag of l r =>
  generalize hx : fewN (.mk k nm w cs ps cl ag of l r) 400 = x at c1
  generalize hy : eachB (.mk k nm w cs ps cl ag of l r) = y at c2
  simp only [encN] at c1 c2
  cases h1 : decide (0 <= x) <;> simp (maxSteps := 4000000) only [sG, seval, x11, stU, b11, Tryz.f11, encN, isNil, dPN, h1, c1, c2, Bool.not_false] <;> rfl
theorem cRightN {m : Md} {n : Nd} {H : Tr AO} {hs : Nat} (h : shortN n) : callF tab (evw tab) m 11 [encN n] H hs = some (.lit (.bool (rightN n)), H, hs) :=
 callF_own (H1 := H) tcon rfl rfl rfl (bs := [encN n]) (by simp only [bares, bare_N, Bool.and_self, cond_true]) (by simp only [bares, bare_N, Bool.and_self]) (by simp only [nrms, nrm_N]; exact eqRightN h)
theorem cRightP {m : Md} {n : Nd} {o : Nat} {H H1 : Tr AO} {hs : Nat} (h : shortN n) (hf : frz tab 300 23 (.ptr o 0) H = some (encN n, H1)) : callF tab (evw tab) m 11 [.ptr o 0] H hs = some (.lit (.bool (rightN n)), H, hs) :=
 callF_own (H1 := H1) tcon rfl rfl rfl (bs := [encN n]) (by show frzL (frz tab 300) [23] [.ptr o 0] H = _; simp only [frzL, hf]) (by simp only [bares, bare_N, Bool.and_self]) (by simp only [nrms, nrm_N]; exact eqRightN h)
def bigN (nm : List UInt8) (cs : List Cd) (ps : List (Int × Int)) (cl : List Int) : Bool := decide ((60 : Int) < cs.length) || (decide ((60 : Int) < ps.length) || (decide ((60 : Int) < cl.length) || decide ((300 : Int) < nm.length)))
def deepN : Nd -> Int -> Int
 | .nil, _ => 0
 | .mk _ nm _ cs ps cl _ _ l r, x => bif decide (x < 0) then 0 else bif bigN nm cs ps cl then x + 1 else (1 + deepN l (x - 1)) + deepN r (x - (1 + deepN l (x - 1)))
theorem eqDeep : ∀ (n : Nd) (m : Md) (x : Int), -1 <= x -> x <= 1000 -> isoO (evw tab) tab fi8 m [encN n, ci x] = some (ci (deepN n x)) /\ 0 <= deepN n x /\ deepN n x <= x + 1 := by
 intro n
 induction n with
 | nil =>
  intro m x h1 h2
  refine ⟨own_ret ?_, Int.le_refl _, by show (0 : Int) <= _; omega⟩
  simp only [sG, seval, x8, stU, b8, Tryz.f8, encN, ci, deepN, dPN]
  rfl
 | mk k nm w cs ps cl ag of l r ihl ihr =>
  intro m x h1 h2
  cases hx : decide (x < 0) with
  | true =>
   refine ⟨own_ret ?_, ?_⟩
   ·simp only [sG, seval, x8, stU, b8, Tryz.f8, encN, ci, deepN, dPN, hx]
    rfl
   ·simp only [deepN, hx, cond_true]; omega
  | false =>
   have hx' := of_decide_eq_false hx
   have w0 : IntKind.i64.wrap (x + 1) = x + 1 := wrap_i64 (by omega) (by omega)
   cases hb : bigN nm cs ps cl with
   | true =>
    refine ⟨own_ret ?_, ?_⟩
    ·have e : deepN (.mk k nm w cs ps cl ag of l r) x = x + 1 := by simp only [deepN, hx, hb, cond_true, cond_false]
     rw [e]
     unfold bigN at hb
     cases g1 : decide ((60 : Int) < cs.length) with
     | true => simp (maxSteps := 4000000) only [sG, seval, x8, stU, b8, Tryz.f8, encN, ci, dPN, hx, w0, g1, List.length_map]; rfl
     | false =>
      cases g2 : decide ((60 : Int) < ps.length) with
      | true => simp (maxSteps := 4000000) only [sG, seval, x8, stU, b8, Tryz.f8, encN, ci, dPN, hx, w0, g1, g2, List.length_map]; rfl
      | false =>
       cases g3 : decide ((60 : Int) < cl.length) with
       | true => simp (maxSteps := 4000000) only [sG, seval, x8, stU, b8, Tryz.f8, encN, ci, dPN, hx, w0, g1, g2, g3, List.length_map]; rfl
       | false =>
        have g4 : decide ((300 : Int) < nm.length) = true := by simpa only [g1, g2, g3, Bool.false_or] using hb
        simp (maxSteps := 4000000) only [sG, seval, x8, stU, b8, Tryz.f8, encN, ci, dPN, hx, w0, g1, g2, g3, g4, List.length_map]; rfl
    ·simp only [deepN, hx, hb, cond_true, cond_false]; omega
   | false =>
    obtain ⟨l1, l2, l3⟩ : (∀ m, isoO (evw tab) tab fi8 m [encN l, ci (x - 1)] = some (ci (deepN l (x - 1)))) /\ 0 <= deepN l (x - 1) /\ deepN l (x - 1) <= x - 1 + 1 := ⟨fun m => (ihl m (x - 1) (by omega) (by omega)).1, (ihl m (x - 1) (by omega) (by omega)).2⟩
    have e : deepN (.mk k nm w cs ps cl ag of l r) x = (1 + deepN l (x - 1)) + deepN r (x - (1 + deepN l (x - 1))) := by simp only [deepN, hx, hb, cond_false]
    rw [e]
    generalize hy : deepN l (x - 1) = y at l1 l2 l3
    have w1 : IntKind.i64.wrap (x - 1) = x - 1 := wrap_i64 (by omega) (by omega)
    have w2 : IntKind.i64.wrap (1 + y) = 1 + y := wrap_i64 (by omega) (by omega)
    have w3 : IntKind.i64.wrap (x - (1 + y)) = x - (1 + y) := wrap_i64 (by omega) (by omega)
    obtain ⟨r1, r2, r3⟩ : (∀ m, isoO (evw tab) tab fi8 m [encN r, ci (x - (1 + y))] = some (ci (deepN r (x - (1 + y))))) /\ 0 <= deepN r (x - (1 + y)) /\ deepN r (x - (1 + y)) <= x - (1 + y) + 1 := ⟨fun m => (ihr m _ (by omega) (by omega)).1, (ihr m _ (by omega) (by omega)).2⟩
    generalize hz : deepN r (x - (1 + y)) = z at r1 r2 r3
    have w4 : IntKind.i64.wrap (1 + y + z) = 1 + y + z := wrap_i64 (by omega) (by omega)
    have c1 : ∀ m' H hs, callF tab (evw tab) m' 8 [encN l, .lit (.int .i64 (x - 1))] H hs = some (.lit (.int .i64 y), H, hs) := fun m' H hs =>
     callF_own (H1 := H) tcon rfl rfl rfl (bs := [encN l, ci (x - 1)]) (by simp only [bares, bare_N, ci, bare, Bool.and_self, cond_true]) (by simp only [bares, bare_N, ci, bare, Bool.and_self]) (by show isoO (evw tab) tab fi8 m' [nrm (encN l), ci (x - 1)] = _; rw [nrm_N]; exact l1 m')
    have c2 : ∀ m' H hs, callF tab (evw tab) m' 8 [encN r, .lit (.int .i64 (x - (1 + y)))] H hs = some (.lit (.int .i64 z), H, hs) := fun m' H hs =>
     callF_own (H1 := H) tcon rfl rfl rfl (bs := [encN r, ci (x - (1 + y))]) (by simp only [bares, bare_N, ci, bare, Bool.and_self, cond_true]) (by simp only [bares, bare_N, ci, bare, Bool.and_self]) (by show isoO (evw tab) tab fi8 m' [nrm (encN r), ci (x - (1 + y))] = _; rw [nrm_N]; exact r1 m')
    unfold bigN at hb
    rw [Bool.or_eq_false_iff, Bool.or_eq_false_iff, Bool.or_eq_false_iff] at hb
    obtain ⟨g1, g2, g3, g4⟩ := hb
    refine ⟨own_ret ?_, by omega, by omega⟩
    simp (maxSteps := 4000000) only [sG, seval, x8, stU, b8, Tryz.f8, encN, ci, dPN, dN, hx, g1, g2, g3, g4, List.length_map, w1, w2, w3, w4, c1, c2]
    rfl
theorem cDeepP {m : Md} {n : Nd} {x : Int} {o : Nat} {H H1 : Tr AO} {hs : Nat} (h1 : -1 <= x) (h2 : x <= 1000) (hf : frz tab 300 23 (.ptr o 0) H = some (encN n, H1)) : callF tab (evw tab) m 8 [.ptr o 0, .lit (.int .i64 x)] H hs = some (.lit (.int .i64 (deepN n x)), H, hs) :=
 callF_own (H1 := H1) tcon rfl rfl rfl (bs := [encN n, ci x]) (by
  show frzL (frz tab 300) [23, 3] [.ptr o 0, .lit (.int .i64 x)] H = _
  rw [frzL, hf]
  rfl) (by simp only [bares, bare_N, ci, bare, Bool.and_self]) (by show isoO (evw tab) tab fi8 m [nrm (encN n), ci x] = _; rw [nrm_N]; exact (eqDeep n m x h1 h2).1)
theorem cDeep0 {m : Md} {x : Int} {H : Tr AO} {hs : Nat} (h1 : -1 <= x) (h2 : x <= 1000) : callF tab (evw tab) m 8 [.lit (.pointer none), .lit (.int .i64 x)] H hs = some (.lit (.int .i64 0), H, hs) :=
 callF_own (H1 := H) tcon rfl rfl rfl (bs := [encN .nil, ci x]) rfl rfl (eqDeep .nil m x h1 h2).1
end Go.Proofs.YtcledcfeddlomaaGreatDoor.Ev
