import Derived.Test.YtancionamhenmaaGreatCV
set_option linter.all false
set_option maxRecDepth 100000
set_option maxHeartbeats 8000000
namespace Go.Proofs.YtancionamhenmaaGreat.Ev
open Go Go.Proofs.YtancionamhenmaaGreat.Ev Go.Proofs Go.Proofs.YtancionamhenmaaGreat Go.Proofs.YtancionamhenmaaGreat.Tab
structure MsAt (H : Tr AO) (hs M : Nat) (a b : Int) (ca cb : List Int) (L R : List En) (fL fR : List UInt8 -> List En) (Tl : List En) : Prop where
 ex : ∃ (SL SR TB : Nat) (fpL fpR : List Nat) (tT : T), H.get .dead M = .cells [.ptr SL 0, .ptr SR 0, .ptr TB 0] false /\ SideAt H hs SL a ca L fL fpL /\ SideAt H hs SR b cb R fR fpR /\ BagAt H hs TB tT /\ tT.es = Tl /\ (M :: (fpL ++ (fpR ++ (TB :: tT.ads)))).Nodup /\ M < hs
def AB (lo : Nat) (H : Tr AO) (hs : Nat) (A B : AV) (xs ys : List Int) : Prop := (xs = [] /\ ys = [] /\ A = .lit (.slice none 0 0) /\ B = .lit (.slice none 0 0)) ∨ ∃ ra rb, A = .lst (.room ra) (xs.map encN) /\ B = .lst (.room rb) (ys.map encN) /\ H.get .dead ra = .room 1 /\ H.get .dead rb = .room 1 /\ ra ≠ rb /\ lo <= ra /\ lo <= rb /\ ra < hs /\ rb < hs
theorem AB.lstA {lo : Nat} {H : Tr AO} {hs : Nat} {A B : AV} {xs ys : List Int} (h : AB lo H hs A B xs ys) : LstN A xs /\ LstN B ys := by
 rcases h with ⟨rfl, rfl, rfl, rfl⟩ | ⟨ra, rb, rfl, rfl, _⟩
 ·exact ⟨.inl ⟨rfl, rfl⟩, .inl ⟨rfl, rfl⟩⟩
 ·exact ⟨.inr ⟨_, rfl⟩, .inr ⟨_, rfl⟩⟩
theorem LstN.quiet {A : AV} {l : List Int} (h : LstN A l) : quietP true .dead (some 1) (some A) = true := by rcases h with ⟨_, rfl⟩ | ⟨_, rfl⟩ <;> rfl
theorem app1N {H : Tr AO} {hs : Nat} {A : AV} {es : List Int} (h : Acc H hs 1 A (es.map encN)) (hl : es.length < 1000000) (x : Int) : appendO H hs true false 1 8 (some A) (some (.lst .full [.lit (.int .i64 x)])) = some (.lst (.room hs) ((es ++ [x]).map encN), accH H hs 1 A, hs + 1) := accApp x h rfl (by omega)
theorem AB.step {lo : Nat} {H : Tr AO} {hs : Nat} {A B : AV} {xs ys : List Int} (h : AB lo H hs A B xs ys) (hlo : lo <= hs) (hT : ∀ q, hs <= q -> H.get .dead q = .dead) (hla : xs.length < 1000000) (hlb : ys.length < 1000000) (x y : Int) :
  ∃ H1 H2, appendO H hs true false 1 8 (some A) (some (.lst .full [.lit (.int .i64 x)])) = some (.lst (.room hs) ((xs ++ [x]).map encN), H1, hs + 1) /\ appendO H1 (hs + 1) true false 1 8 (some B) (some (.lst .full [.lit (.int .i64 y)])) = some (.lst (.room (hs + 1)) ((ys ++ [y]).map encN), H2, hs + 2) /\
   AB lo H2 (hs + 2) (.lst (.room hs) ((xs ++ [x]).map encN)) (.lst (.room (hs + 1)) ((ys ++ [y]).map encN)) (xs ++ [x]) (ys ++ [y]) /\ (∀ q, hs + 1 <= q -> H1.get .dead q = .dead) /\ (∀ q, hs + 2 <= q -> H2.get .dead q = .dead) /\ (∀ q, q < hs -> (q < lo ∨ (H.get .dead q).isRoom = false) -> H1.get .dead q = H.get .dead q /\ H2.get .dead q = H.get .dead q) := by
 rcases h with ⟨rfl, rfl, rfl, rfl⟩ | ⟨ra, rb, rfl, rfl, h1, h2, h3, h4, h5, h6, h7⟩
 ·refine ⟨_, _, app1N (es := []) Acc.nil (by simp) x, app1N (es := []) Acc.nil (by simp) y, .inr ⟨hs, hs + 1, rfl, rfl, ?_, ?_, by omega, hlo, by omega, by omega, by omega⟩, fun q hq => ?_, fun q hq => ?_, fun q hq _ => ⟨?_, ?_⟩⟩
  ·simp only [accH]; rw [Tr.get_put, if_neg (by omega), Tr.get_put, if_pos rfl]
  ·simp only [accH]; rw [Tr.get_put, if_pos rfl]
  ·simp only [accH]; rw [Tr.get_put, if_neg (by omega)]; exact hT q (by omega)
  ·simp only [accH]; rw [Tr.get_put, if_neg (by omega), Tr.get_put, if_neg (by omega)]; exact hT q (by omega)
  ·simp only [accH]; rw [Tr.get_put, if_neg (by omega)]
  ·simp only [accH]; rw [Tr.get_put, if_neg (by omega), Tr.get_put, if_neg (by omega)]
 ·have a1 : Acc H hs 1 (.lst (.room ra) (xs.map encN)) (xs.map encN) := .inr ⟨ra, rfl, h1, h6⟩
  have a2 : Acc (accH H hs 1 (.lst (.room ra) (xs.map encN))) (hs + 1) 1 (.lst (.room rb) (ys.map encN)) (ys.map encN) := by
   refine .inr ⟨rb, rfl, ?_, by omega⟩
   simp only [accH]
   rw [Tr.get_put, if_neg (by omega), Tr.get_put, if_neg (fun e => h3 e.symm)]; exact h2
  have old : ∀ q, q < hs -> (q < lo ∨ (H.get .dead q).isRoom = false) -> q ≠ ra /\ q ≠ rb := fun q hq hr => by
   refine ⟨fun e => ?_, fun e => ?_⟩
   ·subst e; rcases hr with h | h
    ·omega
    ·rw [h1] at h; cases h
   ·subst e; rcases hr with h | h
    ·omega
    ·rw [h2] at h; cases h
  refine ⟨_, _, app1N a1 hla x, app1N a2 hlb y, .inr ⟨hs, hs + 1, rfl, rfl, ?_, ?_, by omega, hlo, by omega, by omega, by omega⟩, fun q hq => ?_, fun q hq => ?_, fun q hq hr => ⟨?_, ?_⟩⟩
  ·simp only [accH]; rw [Tr.get_put, if_neg (by omega), Tr.get_put, if_neg (by omega), Tr.get_put, if_pos rfl]
  ·simp only [accH]; rw [Tr.get_put, if_pos rfl]
  ·simp only [accH]; rw [Tr.get_put, if_neg (by omega), Tr.get_put, if_neg (by omega)]; exact hT q (by omega)
  ·simp only [accH]; rw [Tr.get_put, if_neg (by omega), Tr.get_put, if_neg (by omega), Tr.get_put, if_neg (by omega), Tr.get_put, if_neg (by omega)]; exact hT q (by omega)
  ·simp only [accH]; rw [Tr.get_put, if_neg (by omega), Tr.get_put, if_neg (old q hq hr).1]
  ·simp only [accH]; rw [Tr.get_put, if_neg (by omega), Tr.get_put, if_neg (old q hq hr).2, Tr.get_put, if_neg (by omega), Tr.get_put, if_neg (old q hq hr).1]
def NewS (a b : Int) (l : List Pr) (H0 : Tr AO) (hs0 : Nat) (x : Option (AV × Tr AO × Nat)) : Prop :=
 ((begOk a (l.map (·.a)) && begOk b (l.map (·.b))) = true /\ ∃ M H' hs', x = some (.tup [.ptr M 0, .lit (.int .i64 0)], H', hs') /\ MsAt H' hs' M a b (l.map (·.a)) (l.map (·.b)) [] [] (fun _ => []) (fun _ => []) [] /\ hs0 <= hs' /\ (∀ q, q < hs0 -> H'.get .dead q = H0.get .dead q)) ∨
 ((begOk a (l.map (·.a)) && begOk b (l.map (·.b))) = false /\ ∃ H' hs', x = some (.tup [.lit (.pointer none), .lit (.int .i64 2)], H', hs') /\ hs0 <= hs' /\ (∀ q, q < hs0 -> H'.get .dead q = H0.get .dead q))
theorem begH_old {H : Tr AO} {hs : Nat} {w : Int} {A : AV} {l : List Int} {q : Nat} (hq : q < hs) : (begH H hs w A l).get .dead q = H.get .dead q := by
 simp only [begH]
 rw [Tr.get_put, if_neg (by omega), Tr.get_put, if_neg (by omega), Tr.get_put, if_neg (by omega), Tr.get_put, if_neg (by omega), Tr.get_put, if_neg (by omega)]
theorem begH_side {H H' : Tr AO} {hs hs' : Nat} {w : Int} {A : AV} {l : List Int} (hA : LstN A l) (hh : hs + 5 <= hs') (hu : ∀ q, hs <= q -> q < hs + 5 -> H'.get .dead q = (begH H hs w A l).get .dead q) : SideAt H' hs' (hs + 4) w l [] (fun _ => []) [hs + 4, hs + 3, hs + 2, hs + 1] := by
 have g4 : H'.get .dead (hs + 4) = .cells [.lit (.int .i64 w), A, .ptr (hs + 3) 0, .ptr (hs + 2) 0] false := by rw [hu _ (by omega) (by omega)]; simp only [begH]; rw [Tr.get_put, if_pos rfl]
 have g3 : H'.get .dead (hs + 3) = .cells [.lit (.pointer none), .lit (.int .i64 0)] false := by rw [hu _ (by omega) (by omega)]; simp only [begH]; rw [Tr.get_put, if_neg (by omega), Tr.get_put, if_pos rfl]
 have g2 : H'.get .dead (hs + 2) = .cells [.lst .no (l.map encN), .mp (hs + 1), .lit (.int .i64 0)] false := by rw [hu _ (by omega) (by omega)]; simp only [begH]; rw [Tr.get_put, if_neg (by omega), Tr.get_put, if_neg (by omega), Tr.get_put, if_pos rfl]
 have g1 : H'.get .dead (hs + 1) = .map [] 0 := by rw [hu _ (by omega) (by omega)]; simp only [begH]; rw [Tr.get_put, if_neg (by omega), Tr.get_put, if_neg (by omega), Tr.get_put, if_neg (by omega), Tr.get_put, if_pos rfl]
 refine ⟨A, hs + 3, .nil, hs + 2, [hs + 2, hs + 1], g4, hA, ⟨g3, ⟨trivial, List.nodup_nil, trivial, by decide⟩, fun q h => (by cases h), by omega, fun h => (by cases h), List.Pairwise.nil, by decide, fun e h => (by cases h)⟩, rfl, IxAt.new (hs := hs + 1) (by omega) g2 g1, rfl, by simp, by omega⟩
theorem loopMNew {a b : Int} {l : List Pr} {kp : ATk} {gl : Tr (Option AV)} {hs0 : Nat} {H0 : Tr AO} (hl : l.length < 900000) :
  ∀ (k i : Nat) (t : Tr AV) (H : Tr AO) (hs : Nat) (A B : AV), i + k = l.length -> hs0 <= hs -> (∀ q, q < hs0 -> H.get .dead q = H0.get .dead q) -> (∀ q, hs <= q -> H.get .dead q = .dead) -> AB hs0 H hs A B ((l.take i).map (·.a)) ((l.take i).map (·.b)) ->
  t.get .any 0 = .lit (.int .i64 a) -> t.get .any 1 = .lit (.int .i64 b) -> t.get .any 8 = A -> t.get .any 9 = B -> t.get .any 15 = .lst kp (l.map encP) -> t.get .any 16 = .lit (.int .i64 l.length) -> t.get .any 17 = .lit (.int .i64 i) ->
  NewS a b l H0 hs0 (W tab none (fin tab fi6) (lpc fi6 0) (lpk fi6 0) ⟨t, 55, H, hs, [], ⟨true, true, gl⟩⟩) := by
 have D := d6
 simp only [stD, stC, List.cons.injEq, b6, Tryz.f6] at D
 simp only [stU, stC, b6, Tryz.f6]
 intro k
 induction k with
 | zero =>
  intro i t H hs A B hi hh hu hT hAB a0 a1 a8 a9 a15 a16 a17
  have e1 : decide ((i : Int) < (l).length) = false := dcF (by omega)
  rw [List.take_of_length_le (by omega)] at hAB
  obtain ⟨hA, hB⟩ := hAB.lstA
  have c1 := fun m => @cBegin m A a (l.map (·.a)) H hs hA (by simp; omega)
  rw [W_loop]
  cases h1 : begOk a (l.map (·.a)) with
  | false =>
   simp only [h1] at c1
   refine Or.inr ⟨by rw [h1]; rfl, H.put .dead hs (.cells [.lit (.int .i64 a)] false), hs + 1, ?_, by omega, fun q hq => by rw [Tr.get_put, if_neg (by omega)]; exact hu q hq⟩
   simp (maxSteps := 2000000) only [sG, seval, x6, a0, a8, a16, a17, e1, c1]
  | true =>
   simp only [h1] at c1
   have c2 := fun m => @cBegin m B b (l.map (·.b)) (begH H hs a A (l.map (·.a))) (hs + 5) hB (by simp; omega)
   cases h2 : begOk b (l.map (·.b)) with
   | false =>
    simp only [h2] at c2
    refine Or.inr ⟨by rw [h1, h2]; rfl, (begH H hs a A (l.map (·.a))).put .dead (hs + 5) (.cells [.lit (.int .i64 b)] false), hs + 6, ?_, by omega, fun q hq => by rw [Tr.get_put, if_neg (by omega), begH_old (by omega)]; exact hu q hq⟩
    simp only [cond_true, cond_false] at c1 c2
    simp (maxSteps := 2000000) only [sG, seval, x6, a0, a1, a8, a9, a16, a17, e1, c1, c2]
   | true =>
    simp only [h2] at c2
    simp only [cond_true] at c1 c2
    have cN := fun m H hs => @cNew m H hs
    have e4 : ∀ X Y q, hs + 5 <= q -> q < hs + 10 -> (((begH (begH H hs a A (l.map (·.a))) (hs + 5) b B (l.map (·.b))).put .dead (hs + 10) X).put .dead (hs + 11) Y).get .dead q = (begH (begH H hs a A (l.map (·.a))) (hs + 5) b B (l.map (·.b))).get .dead q := fun X Y q h1 h2 => by rw [Tr.get_put, if_neg (by omega), Tr.get_put, if_neg (by omega)]
    refine Or.inl ⟨by rw [h1, h2]; rfl, hs + 11, ((begH (begH H hs a A (l.map (·.a))) (hs + 5) b B (l.map (·.b))).put .dead (hs + 10) (.cells [.lit (.pointer none), .lit (.int .i64 0)] false)).put .dead (hs + 11) (.cells [.ptr (hs + 4) 0, .ptr (hs + 9) 0, .ptr (hs + 10) 0] false), hs + 12, ?_, ⟨hs + 4, hs + 5 + 4, hs + 10, [hs + 4, hs + 3, hs + 2, hs + 1], [hs + 5 + 4, hs + 5 + 3, hs + 5 + 2, hs + 5 + 1], .nil, by rw [Tr.get_put, if_pos rfl], begH_side (H := H) hA (by omega) (fun q h1 h2 => by rw [Tr.get_put, if_neg (by omega), Tr.get_put, if_neg (by omega), begH_old (by omega)]), begH_side hB (by omega) (e4 _ _), ?_, rfl, ?_, by omega⟩, by omega, fun q hq => by rw [Tr.get_put, if_neg (by omega), Tr.get_put, if_neg (by omega), begH_old (by omega), begH_old (by omega)]; exact hu q hq⟩
    ·simp (maxSteps := 2000000) only [sG, seval, x6, stU, a0, a1, a8, a9, a16, a17, e1, c1, c2, cN, Nat.add_assoc]
    ·exact ⟨by rw [Tr.get_put, if_neg (by omega), Tr.get_put, if_pos rfl]; rfl, ⟨trivial, List.nodup_nil, trivial, by decide⟩, fun q h => (by cases h), by omega, fun h => (by cases h), List.Pairwise.nil, by decide, fun e h => (by cases h)⟩
    ·simp [T.ads]
 | succ k ih =>
  intro i t H hs A B hi hh hu hT hAB a0 a1 a8 a9 a15 a16 a17
  have hlt : i < (l).length := by omega
  obtain ⟨p, hv, e1, e3, e4, e6, e7⟩ := atS hlt
  have e5 := wrap_succ (i := i) (by omega)
  have q1 : ∀ q, hs + 1 <= q -> ((H.put .dead hs (.cells [.lit (.int .i64 0), .lit (.int .i64 0)] false)).put .dead hs (.cells [.lit (.int .i64 p.a), .lit (.int .i64 p.b)] false)).get .dead q = .dead := fun q hq => by rw [Tr.get_put, if_neg (by omega), Tr.get_put, if_neg (by omega)]; exact hT q (by omega)
  have q2 : AB hs0 ((H.put .dead hs (.cells [.lit (.int .i64 0), .lit (.int .i64 0)] false)).put .dead hs (.cells [.lit (.int .i64 p.a), .lit (.int .i64 p.b)] false)) (hs + 1) A B ((l.take i).map (·.a)) ((l.take i).map (·.b)) := by
   rcases hAB with h | ⟨ra, rb, h1, h2, h3, h4, h5, h6, h7, h8, h9⟩
   ·exact .inl h
   ·exact .inr ⟨ra, rb, h1, h2, by rw [Tr.get_put, if_neg (by omega), Tr.get_put, if_neg (by omega)]; exact h3, by rw [Tr.get_put, if_neg (by omega), Tr.get_put, if_neg (by omega)]; exact h4, h5, h6, h7, by omega, by omega⟩
  obtain ⟨H1, H2, w1, w2, s1, s2, s3, s4⟩ := q2.step (by omega) q1 (by simp; omega) (by simp; omega) p.a p.b
  have g1 := s4 hs (by omega) (.inr (by rw [Tr.get_put, if_pos rfl]; rfl))
  rw [Tr.get_put, if_pos rfl] at g1
  have d0 := q1 (hs + 1) (Nat.le_refl _)
  have d1 := s2 (hs + 1 + 1) (by omega)
  rw [W_loop]
  simp (maxSteps := 2000000) only [sGA, seval, stU, a8, a9, a15, a16, a17, encP, e1, e3, e4, e5, List.getElem?_map, Int.toNat_natCast, D, w1, w2, g1.1, d0, hAB.lstA.1.quiet]
  apply ih (i + 1) _ _ _ _ _ (by omega) (by omega) (fun q hq => by rw [(s4 q (by omega) (.inl hq)).2, Tr.get_put, if_neg (by omega), Tr.get_put, if_neg (by omega)]; exact hu q hq) s3
  ·rw [e7, List.map_append, List.map_append]; exact s1
  all_goals first | (simp only [sG, seval, a0, a1, a15, a16]; done) | (simp only [sG, seval, a0, a1, a8, a9, a15, a16, a17, encP]; rfl)
theorem cMNew {m : Md} {a b : Int} {l : List Pr} {kp : ATk} {H : Tr AO} {hs : Nat} (hl : l.length < 900000) (hT : ∀ q, hs <= q -> H.get .dead q = .dead) : NewS a b l H hs (callF tab (evw tab) m 6 [.lit (.int .i64 a), .lit (.int .i64 b), .lst kp (l.map encP)] H hs) := by
 have L := @loopMNew a b l kp m.gl hs H hl l.length 0
 simp only [stU, stC, b6, Tryz.f6] at L
 rw [callF_in (fi := fi6) tcon rfl rfl rfl]
 simp (maxSteps := 2000000) only [sG, seval, x6, stU, b6, Tryz.f6, List.length_map]
 apply L _ _ _ _ _ (by simp) (Nat.le_refl _) (fun _ _ => rfl) hT (.inl ⟨rfl, rfl, rfl, rfl⟩)
 all_goals simp only [sG, seval] <;> rfl
def idxE (p : En -> Bool) : List En -> Nat -> Int
 | [], _ => -1
 | c :: l, i => bif p c then (i : Int) else idxE p l (i + 1)
theorem idxE_any {p : En -> Bool} : ∀ {l : List En} {i : Nat}, decide (0 <= idxE p l i) = l.any p
 | [], i => rfl
 | c :: l, i => by
  rw [idxE, List.any_cons]
  cases h : p c with
  | true => rw [cond_true, decide_eq_true_iff.2 (by omega)]; rfl
  | false => rw [cond_false, idxE_any (l := l)]; rfl
def ClosE (gf : Nat) (caps : List AV) (p : En -> Bool) (l : List En) (lo : Nat) (H0 : Tr AO) : Prop := ∀ (m : Md) (e : En) (H : Tr AO) (hs : Nat), e ∈ l -> lo <= hs -> (∀ q, q < lo -> H.get .dead q = H0.get .dead q) -> callF tab (evw tab) m gf (encE e :: caps) H hs = some (.lit (.bool (p e)), H.put .dead hs (.cells [.lst .no (e.r.map encV), .lit (.int .i64 e.m)] false), hs + 1)
theorem loopIdxE {p : En -> Bool} {gf : Nat} {caps : List AV} {l : List En} {k1 : ATk} {gl : Tr (Option AV)} {lo : Nat} {H0 : Tr AO} (hn : tab.n gf = none) (hc : ClosE gf caps p l lo H0) (hl : l.length < 1000000) : ∀ (k i : Nat) (t : Tr AV) (H : Tr AO) (hs : Nat), i + k = l.length -> lo <= hs -> (∀ q, q < lo -> H.get .dead q = H0.get .dead q) ->
  t.get .any 0 = .lst k1 (l.map encE) -> t.get .any 1 = .fn (.func gf) [] caps -> t.get .any 7 = .lit (.int .i64 l.length) -> t.get .any 8 = .lit (.int .i64 i) ->
  ∃ H' hs', W tab none (fin tab fi56) (lpc fi56 0) (lpk fi56 0) ⟨t, 19, H, hs, [], ⟨true, true, gl⟩⟩ = some (.lit (.int .i64 (idxE p (l.drop i) i)), H', hs') /\ hs <= hs' /\ (∀ q, q < lo -> H'.get .dead q = H0.get .dead q) := by
 simp only [stU, stC, b56, Tryz.f56]
 intro k
 induction k with
 | zero =>
  intro i t H hs hi hh hu a0 a1 a7 a8
  have e1 : decide ((i : Int) < (l).length) = false := dcF (by omega)
  rw [W_loop, List.drop_of_length_le (by omega)]
  refine ⟨H, hs, ?_, Nat.le_refl _, hu⟩
  simp only [sG, seval, x56, a7, a8, e1, idxE]
 | succ k ih =>
  intro i t H hs hi hh hu a0 a1 a7 a8
  have hlt : i < (l).length := by omega
  obtain ⟨e, hv, e1, e3, e4, e6, e7⟩ := atS hlt
  have e5 := wrap_succ (i := i) (by omega)
  have hm : e ∈ l := by rw [<- hv]; exact List.getElem_mem _
  have hC := fun m => hc m e H hs hm hh hu
  simp only [encE, encR] at hC
  rw [W_loop, e6, idxE]
  cases h1 : p e with
  | true =>
   simp only [h1] at hC
   refine ⟨H.put .dead hs (.cells [.lst .no (e.r.map encV), .lit (.int .i64 e.m)] false), hs + 1, ?_, Nat.le_succ hs, fun q hq => by rw [Tr.get_put, if_neg (by omega)]; exact hu q hq⟩
   simp only [sG, seval, x56, stU, encE, encR, a0, a1, a7, a8, e1, e3, e4, List.getElem?_map, Int.toNat_natCast, hC, hn]
  | false =>
   simp only [h1] at hC
   simp only [sG, seval, stU, encE, encR, a0, a1, a7, a8, e1, e3, e4, e5, List.getElem?_map, Int.toNat_natCast, hC, hn]
   have key : ∀ Z : Option (AV × Tr AO × Nat), (∃ H' hs', Z = some (.lit (.int .i64 (idxE p (l.drop (i + 1)) (i + 1))), H', hs') /\ hs + 1 <= hs' /\ (∀ q, q < lo -> H'.get .dead q = H0.get .dead q)) -> (∃ H' hs', Z = some (.lit (.int .i64 (idxE p (l.drop (i + 1)) (i + 1))), H', hs') /\ hs <= hs' /\ (∀ q, q < lo -> H'.get .dead q = H0.get .dead q)) := by
    rintro Z ⟨H', hs', x1, x2, x3⟩; exact ⟨H', hs', x1, by omega, x3⟩
   apply key
   apply ih (i + 1) _ _ _ (by omega) (by omega) (fun q hq => by rw [Tr.get_put, if_neg (by omega)]; exact hu q hq)
   all_goals simp only [sG, seval, a0, a1, a7]
theorem cAnyE {m : Md} {p : En -> Bool} {gf : Nat} {caps : List AV} {l : List En} {k1 : ATk} {H : Tr AO} {hs lo : Nat} (hn : tab.n gf = none) (hc : ClosE gf caps p l lo H) (hl : l.length < 1000000) (hlo : lo <= hs) :
  ∃ H' hs', callF tab (evw tab) m 31 [.lst k1 (l.map encE), .fn (.func gf) [] caps] H hs = some (.lit (.bool (l.any p)), H', hs') /\ hs <= hs' /\ (∀ q, q < lo -> H'.get .dead q = H.get .dead q) := by
 have c1 : ∃ H' hs', callF tab (evw tab) ⟨true, true, m.gl⟩ 56 [.lst k1 (l.map encE), .fn (.func gf) [] caps] H hs = some (.lit (.int .i64 (idxE p l 0)), H', hs') /\ hs <= hs' /\ (∀ q, q < lo -> H'.get .dead q = H.get .dead q) := by
  have L := @loopIdxE p gf caps l k1 m.gl lo H hn hc hl l.length 0
  simp only [stU, stC, b56, Tryz.f56] at L
  rw [callF_in (fi := fi56) tcon rfl rfl rfl]
  simp only [sG, seval, x56, stU, b56, Tryz.f56, List.length_map]
  apply L _ _ _ (by simp) hlo (fun _ _ => rfl)
  all_goals simp only [sG, seval] <;> rfl
 obtain ⟨H1, hs1, w1, l1, u1⟩ := c1
 have h2 := @idxE_any p l 0
 rw [callF_in (fi := fi31) tcon rfl rfl rfl]
 refine ⟨H1, hs1, ?_, l1, u1⟩
 simp only [sG, seval, x31, stU, b31, Tryz.f31, w1, h2]
def narrowB (w : Int) (l : List En) : Bool := l.any fun e => !decide ((e.r.length : Int) = w)
theorem cNarrow {m : Md} {S : Nat} {w : Int} {cols : List Int} {L : List En} {f : List UInt8 -> List En} {fp : List Nat} {l : List En} {k1 : ATk} {H : Tr AO} {hs : Nat} (h : SideAt H hs S w cols L f fp) (hl : l.length < 1000000) :
  ∃ H' hs', callF tab (evw tab) m 16 [.ptr S 0, .lst k1 (l.map encE)] H hs = some (.lit (.bool (narrowB w l)), H', hs') /\ hs <= hs' /\ Upb H H' [] hs := by
 obtain ⟨A, B, t, I, fpI, h1, h2, h3, h4, h5, h6, h7, h8⟩ := h
 have D := d32
 simp only [stD, stC, List.cons.injEq, b32, Tryz.f32] at D
 have hc : ClosE 32 [.ptr hs 0] (fun e => !decide ((e.r.length : Int) = w)) l (hs + 1) (H.put .dead hs (.cells [.ptr S 0] false)) := by
  intro m e H' hs' he hh hu
  have g1 : H'.get .dead hs = .cells [.ptr S 0] false := by rw [hu hs (by omega), Tr.get_put, if_pos rfl]
  have g2 : H'.get .dead S = .cells [.lit (.int .i64 w), A, .ptr B 0, .ptr I 0] false := by rw [hu S (by omega), Tr.get_put, if_neg (by omega)]; exact h1
  have n1 : (hs = hs') = False := eq_false (by omega)
  have n2 : (S = hs') = False := eq_false (by omega)
  rw [callF_in (fi := fi32) tcon rfl rfl rfl]
  simp (maxSteps := 2000000) only [sG, seval, x32, stU, b32, Tryz.f32, encE, encR, g1, g2, n1, n2, D, List.length_map]
 obtain ⟨H1, hs1, w1, l1, u1⟩ := cAnyE (m := ⟨true, true, m.gl⟩) (k1 := k1) (hs := hs + 1) rfl hc hl (Nat.le_refl _)
 rw [callF_in (fi := fi16) tcon rfl rfl rfl]
 refine ⟨H1, hs1, ?_, by omega, fun q hq _ => by rw [u1 q (by omega), Tr.get_put, if_neg (by omega)]⟩
 unfold narrowB
 simp (maxSteps := 2000000) only [sG, seval, x16, stU, b16, Tryz.f16, w1]
def beyondB (L l : List En) : Bool := l.any fun e => decide (IntKind.i64.wrap (bmany L e.r + e.m) < 0) || decide (1073741824 < IntKind.i64.wrap (bmany L e.r + e.m))
theorem cBeyond {m : Md} {S : Nat} {w : Int} {cols : List Int} {L : List En} {f : List UInt8 -> List En} {fp : List Nat} {l : List En} {k1 : ATk} {H : Tr AO} {hs : Nat} (h : SideAt H hs S w cols L f fp) (hl : l.length < 1000000) (he : ∀ e ∈ l, e.r.length < 1000000) :
  ∃ H' hs', callF tab (evw tab) m 17 [.ptr S 0, .lst k1 (l.map encE)] H hs = some (.lit (.bool (beyondB L l)), H', hs') /\ hs <= hs' /\ Upb H H' [] hs := by
 obtain ⟨A, B, t, I, fpI, h1, h2, h3, h4, h5, h6, h7, h8⟩ := h
 have D := d33
 simp only [stD, stC, List.cons.injEq, b33, Tryz.f33] at D
 have hc : ClosE 33 [.ptr hs 0] (fun e => decide (IntKind.i64.wrap (bmany L e.r + e.m) < 0) || decide (1073741824 < IntKind.i64.wrap (bmany L e.r + e.m))) l (hs + 1) (H.put .dead hs (.cells [.ptr S 0] false)) := by
  intro m e H' hs' hee hh hu
  have g1 : H'.get .dead hs = .cells [.ptr S 0] false := by rw [hu hs (by omega), Tr.get_put, if_pos rfl]
  have g2 : H'.get .dead S = .cells [.lit (.int .i64 w), A, .ptr B 0, .ptr I 0] false := by rw [hu S (by omega), Tr.get_put, if_neg (by omega)]; exact h1
  have n1 : (hs = hs') = False := eq_false (by omega)
  have n2 : (S = hs') = False := eq_false (by omega)
  have hb : BagAt (H'.put .dead hs' (.cells [.lst .no (e.r.map encV), .lit (.int .i64 e.m)] false)) (hs' + 1) B t := h3.fr (fun q hq => by
   have : q < hs := by
    rcases List.mem_cons.1 hq with rfl | hq
    ·exact h3.b
    ·exact h3.lt q hq
   rw [Tr.get_put, if_neg (by omega), hu q (by omega), Tr.get_put, if_neg (by omega)]) (by omega)
  have c := fun m hs2 => @cMany m e.r B t _ hs2 (hs' + 1) (by have := he e hee; omega) hb
  rw [h4] at c
  rw [callF_in (fi := fi33) tcon rfl rfl rfl]
  cases h9 : decide (IntKind.i64.wrap (bmany L e.r + e.m) < 0) with
  | true => simp (maxSteps := 2000000) only [sG, seval, x33, stU, b33, Tryz.f33, encE, encR, g1, g2, n1, n2, D, c, h9]
  | false =>
   cases h10 : decide (1073741824 < IntKind.i64.wrap (bmany L e.r + e.m)) <;> simp (maxSteps := 2000000) only [sG, seval, x33, stU, b33, Tryz.f33, encE, encR, g1, g2, n1, n2, D, c, h9, h10]
 obtain ⟨H1, hs1, w1, l1, u1⟩ := cAnyE (m := ⟨true, true, m.gl⟩) (k1 := k1) (hs := hs + 1) rfl hc hl (Nat.le_refl _)
 rw [callF_in (fi := fi17) tcon rfl rfl rfl]
 refine ⟨H1, hs1, ?_, by omega, fun q hq _ => by rw [u1 q (by omega), Tr.get_put, if_neg (by omega)]⟩
 unfold beyondB
 simp (maxSteps := 2000000) only [sG, seval, x17, stU, b17, Tryz.f17, w1]
theorem cPickN {m : Md} {r : Row} {A : AV} {cols : List Int} {k1 : ATk} {H : Tr AO} {hs : Nat} (hA : LstN A cols) (hc : cols.length < 1000000) : callF tab (evw tab) m 61 [.lst k1 (r.map encV), A] H hs = some (pickA r (pickR r cols), H, hs) := by
 rcases hA with ⟨rfl, rfl⟩ | ⟨tk, rfl⟩
 ·exact callF_iso tcon rfl rfl (by simp only [bares, bare, bares_V, Bool.and_self]) (by simp only [nrms, nrm, nrms_V]; exact eqPick hc)
 ·exact cPick hc
theorem cKey {m : Md} {S : Nat} {w : Int} {cols : List Int} {L : List En} {f : List UInt8 -> List En} {fp : List Nat} {r cells : Row} {k1 : ATk} {H : Tr AO} {hs hs0 : Nat} (h : SideAt H hs0 S w cols L f fp) (hc : cols.length < 1000000) (hp : pickR r cols = some cells) :
  callF tab (evw tab) m 42 [.ptr S 0, .lst k1 (r.map encV)] H hs = some (.lst .no (cells.map encV), H, hs) := by
 obtain ⟨A, B, t, I, fpI, h1, h2, h3, h4, h5, h6, h7, h8⟩ := h
 have c := fun m H hs => @cPickN m r A cols k1 H hs h2 hc
 rw [hp] at c
 simp only [pickA] at c
 rw [callF_in (fi := fi42) tcon rfl rfl rfl]
 simp (maxSteps := 2000000) only [sG, seval, x42, stU, b42, Tryz.f42, h1, c]
def aloneV (fR : List UInt8 -> List En) (L : List En) (cells r : Row) : Int := bif decide ((0 : Int) < ((fR (keyB cells)).length : Int)) then 0 else bmany L r
theorem cAlone {m : Md} {M SL SR TB : Nat} {a b : Int} {ca cb : List Int} {L R : List En} {fL fR : List UInt8 -> List En} {fpL fpR : List Nat} {r cells : Row} {H : Tr AO} {hs : Nat} (hM : H.get .dead M = .cells [.ptr SL 0, .ptr SR 0, .ptr TB 0] false) (hMlt : M < hs) (h1 : SideAt H hs SL a ca L fL fpL) (h2 : SideAt H hs SR b cb R fR fpR)
  (hca : ca.length < 10000) (hcb : cb.length = ca.length) (hr : r.length < 1000000) (hp : pickR r ca = some cells) (hcv : ∀ v ∈ cells, vright v = true) :
  ∃ H' hs', callF tab (evw tab) m 40 [.ptr M 0, .lst .no (r.map encV)] H hs = some (.lit (.int .i64 (aloneV fR L cells r)), H', hs') /\ hs <= hs' /\ Upb H H' [] hs := by
 have hpl := (pickR_mem hp).2
 have c1 := fun m hs => @cKey m SL a ca L fL fpL r cells .no H hs _ h1 (by omega) hp
 have h1' := h1
 have h2' := h2
 obtain ⟨A1, B1, t1, I1, fpI1, x1, x2, x3, x4, x5, x6, x7, x8⟩ := h1
 obtain ⟨A2, B2, t2, I2, fpI2, y1, y2, y3, y4, y5, y6, y7, y8⟩ := h2
 obtain ⟨A, H1, hs1, w1, e1, l1, u1⟩ := cFindI (m := ⟨true, true, m.gl⟩) (k1 := .no) y5 hcv (by omega) (by omega)
 have hlen := e1.len
 have D := d40
 simp only [stD, stC, List.cons.injEq, b40, Tryz.f40] at D
 have g1 : H1.get .dead M = .cells [.ptr SL 0, .ptr SR 0, .ptr TB 0] false := by rw [u1 M hMlt (by simp)]; exact hM
 have g2 : H1.get .dead SL = .cells [.lit (.int .i64 a), A1, .ptr B1 0, .ptr I1 0] false := by rw [u1 SL x8 (by simp)]; exact x1
 have hb : BagAt H1 hs1 B1 t1 := x3.fr (fun q hq => u1 q (by
  rcases List.mem_cons.1 hq with rfl | hq
  ·exact x3.b
  ·exact x3.lt q hq) (by simp)) l1
 have c2 := fun m hs2 => @cMany m r B1 t1 H1 hs2 hs1 (by omega) hb
 rw [x4] at c2
 rw [callF_in (fi := fi40) tcon rfl rfl rfl]
 refine ⟨H1, hs1, ?_, l1, u1⟩
 unfold aloneV
 cases h0 : decide ((0 : Int) < ((fR (keyB cells)).length : Int)) with
 | true => simp (maxSteps := 2000000) only [sG, seval, x40, stU, b40, Tryz.f40, hM, y1, c1, w1, hlen, h0, D]
 | false => simp (maxSteps := 2000000) only [sG, seval, x40, stU, b40, Tryz.f40, hM, y1, c1, w1, hlen, h0, D, g1, g2, c2]
def updW (cols : List Int) : List En -> (List UInt8 -> List En) -> List UInt8 -> List En
 | [], f => f
 | e :: l, f => match pickR e.r cols with
  | some c => updW cols l (updK f (keyB c) (badd (f (keyB c)) e.r (mulw 1 e)).1)
  | none => f
def OkT (cols : List Int) (e : En) : Prop := rright e.r = true /\ ∃ c, pickR e.r cols = some c
def Small (f : List UInt8 -> List En) (n : Nat) : Prop := ∀ k, (f k).length <= n
theorem Small.upd {f : List UInt8 -> List En} {n : Nat} {k : List UInt8} {r : Row} {m : Int} (h : Small f n) : Small (updK f k (badd (f k) r m).1) (n + 1) := by
 intro k'
 unfold updK
 split
 ·have := @badd_len (f k) r m; have := h k; omega
 ·have := h k'; omega
theorem sideStep {S : Nat} {w : Int} {cols : List Int} {L : List En} {f : List UInt8 -> List En} {fp : List Nat} {e : En} {n : Int} {c : Row} {H : Tr AO} {hs : Nat} {m : Md} (h : SideAt H hs S w cols L f fp) (hr : rright e.r = true) (hc : cols.length < 10000) (hp : pickR e.r cols = some c) (hz : L.length + 1 < 100000000) (hf : (f (keyB c)).length + 1 < 100000000) :
  ∃ A B I, H.get .dead S = .cells [.lit (.int .i64 w), A, .ptr B 0, .ptr I 0] false /\ ∃ H1 hs1 er1, callF tab (evw tab) m 36 [.ptr B 0, .lst .no (e.r.map encV), .lit (.int .i64 n)] H hs = some (.lit (.int .i64 er1), H1, hs1) /\ hs <= hs1 /\ H1.get .dead S = .cells [.lit (.int .i64 w), A, .ptr B 0, .ptr I 0] false /\ Upb H H1 fp hs /\
   ∃ H2 hs2 er2 fp', callF tab (evw tab) m 37 [.ptr I 0, .lst .no (e.r.map encV), .lit (.int .i64 n)] H1 hs1 = some (.lit (.int .i64 er2), H2, hs2) /\ hs1 <= hs2 /\ SideAt H2 hs2 S w cols (badd L e.r n).1 (updK f (keyB c) (badd (f (keyB c)) e.r n).1) fp' /\ Upb H H2 fp hs /\ ∀ q ∈ fp', q ∈ fp ∨ hs <= q := by
 have hlt := h.lt
 obtain ⟨A, B, t, I, fpI, h1, h2, h3, h4, h5, rfl, h7, h8⟩ := h
 have hrl := (rright_all hr).2
 rw [<- h4] at hz ⊢
 rw [T.es_len] at hz
 obtain ⟨H1, hs1, t1, w1, s1⟩ := cAdd (m := m) (r := e.r) (n := n) (by omega) h3 hz
 rw [List.nodup_cons, List.nodup_append] at h7
 obtain ⟨hS, hn1, hn2, hn3⟩ := h7
 have nSB : S ∉ B :: t.ads := fun hq => hS (List.mem_append_left _ hq)
 have nSI : S ∉ fpI := fun hq => hS (List.mem_append_right _ hq)
 have hltI := h5.lt
 have ix1 : IxAt H1 hs1 I cols f fpI := h5.fr (fun q hq => s1.up q (hltI q hq) (fun hb => hn3 q hb q hq rfl)) s1.le
 obtain ⟨H2, hs2, fpI2, er, w2, ix2, l2, u2, a2⟩ := cAddI (m := m) (n := n) ix1 hr hc hp hf
 have hle := s1.le
 have ad1 : ∀ q ∈ B :: t1.ads, q ∈ B :: t.ads ∨ hs <= q := fun q hq => by
  rcases List.mem_cons.1 hq with rfl | hq
  ·exact .inl (List.mem_cons_self)
  ·rcases s1.ad q hq with h | h
   ·exact .inl (List.mem_cons_of_mem _ h)
   ·exact .inr h
 have lt1 : ∀ q ∈ B :: t1.ads, q < hs1 := fun q hq => by
  rcases List.mem_cons.1 hq with rfl | hq
  ·exact s1.at_.b
  ·exact s1.at_.lt q hq
 have dis : ∀ q ∈ B :: t1.ads, q ∉ fpI := fun q hq hi => by
  rcases ad1 q hq with h | h
  ·exact hn3 q h q hi rfl
  ·have := hltI q hi; omega
 have up1 : Upb H H1 (S :: ((B :: t.ads) ++ fpI)) hs := fun q hq hn => s1.up q hq (fun hb => hn (List.mem_cons_of_mem _ (List.mem_append_left _ hb)))
 refine ⟨A, B, I, h1, H1, hs1, _, w1, hle, by rw [s1.up S h8 nSB]; exact h1, up1, H2, hs2, er, S :: ((B :: t1.ads) ++ fpI2), w2, l2, ⟨A, B, t1, I, fpI2, ?_, h2, s1.at_.fr (fun q hq => u2 q (lt1 q hq) (dis q hq)) l2, s1.es, ix2, rfl, ?_, by omega⟩, fun q hq hn => ?_, fun q hq => ?_⟩
 ·rw [u2 S (by omega) nSI, s1.up S h8 nSB]; exact h1
 ·rw [List.nodup_cons, List.nodup_append]
  refine ⟨fun hq => ?_, s1.at_.fpn, by obtain ⟨_, _, _, _, _, _, _, _, _, _, x, _⟩ := ix2; exact x, fun p hp1 q hq e => ?_⟩
  ·rcases List.mem_append.1 hq with hq | hq
   ·rcases ad1 S hq with h | h
    ·exact nSB h
    ·omega
   ·rcases a2 S hq with h | h
    ·exact nSI h
    ·omega
  ·subst e
   rcases a2 p hq with h | h
   ·exact dis p hp1 h
   ·have := lt1 p hp1; omega
 ·rw [u2 q (by omega) (fun hi => hn (List.mem_cons_of_mem _ (List.mem_append_right _ hi))), up1 q hq hn]
 ·rcases List.mem_cons.1 hq with rfl | hq
  ·exact .inl (List.mem_cons_self)
  ·rcases List.mem_append.1 hq with hq | hq
   ·rcases ad1 q hq with h | h
    ·exact .inl (List.mem_cons_of_mem _ (List.mem_append_left _ h))
    ·exact .inr h
   ·rcases a2 q hq with h | h
    ·exact .inl (List.mem_cons_of_mem _ (List.mem_append_right _ h))
    ·exact .inr (by omega)
theorem loopTurn {l : List En} {k1 : ATk} {gl : Tr (Option AV)} {S sb lb hs0 : Nat} {w : Int} {cols : List Int} {fp0 : List Nat} {H0 : Tr AO} (hl : l.length < 1000000) (hc : cols.length < 10000) (hok : ∀ e ∈ l, OkT cols e) (hsb : sb < hs0) (hlb : lb < hs0) (nsb : sb ∉ fp0) (nlb : lb ∉ fp0)
  (gsb : H0.get .dead sb = .cells [.ptr S 0] false) (hfp : ∀ q ∈ fp0, q < hs0) :
  ∀ (k i : Nat) (t : Tr AV) (H : Tr AO) (hs : Nat) (L : List En) (f : List UInt8 -> List En) (fp : List Nat) (n : Nat), i + k = l.length -> hs0 <= hs -> (∀ q, q < hs0 -> q ∉ fp0 -> H.get .dead q = H0.get .dead q) -> SideAt H hs S w cols L f fp -> (∀ q ∈ fp, q ∈ fp0 ∨ hs0 <= q) -> L.length + k < 90000000 -> Small f n -> n + k < 90000000 ->
  t.get .any 0 = .lit (.int .i64 1) -> t.get .any 1 = .ptr lb 0 -> t.get .any 2 = .ptr sb 0 -> t.get .any 6 = .lst k1 (l.map encE) -> t.get .any 7 = .lit (.int .i64 l.length) -> t.get .any 8 = .lit (.int .i64 i) ->
  ∃ v H' hs' fp', W tab none (fin tab fi35) (lpc fi35 0) (lpk fi35 0) ⟨t, 35, H, hs, [], ⟨true, true, gl⟩⟩ = some (v, H', hs') /\ SideAt H' hs' S w cols (mrg 1 (l.drop i) L) (updW cols (l.drop i) f) fp' /\ hs <= hs' /\ (∀ q, q < hs0 -> q ∉ fp0 -> H'.get .dead q = H0.get .dead q) /\ (∀ q ∈ fp', q ∈ fp0 ∨ hs0 <= q) := by
 have D := d35
 simp only [stD, stC, List.cons.injEq, b35, Tryz.f35] at D
 simp only [stU, stC, b35, Tryz.f35]
 intro k
 induction k with
 | zero =>
  intro i t H hs L f fp n hi hh hu hS hfp1 hz hsm hnk a0 a1 a2 a6 a7 a8
  have e1 : decide ((i : Int) < (l).length) = false := dcF (by omega)
  rw [W_loop, List.drop_of_length_le (by omega)]
  refine ⟨one [], H, hs, fp, ?_, hS, Nat.le_refl _, hu, hfp1⟩
  simp only [sG, seval, x35, a7, a8, e1]
 | succ k ih =>
  intro i t H hs L f fp n hi hh hu hS hfp1 hz hsm hnk a0 a1 a2 a6 a7 a8
  have hlt : i < (l).length := by omega
  obtain ⟨e, hv, e1, e3, e4, e6, e7⟩ := atS hlt
  have e5 := wrap_succ (i := i) (by omega)
  have hm : e ∈ l := by rw [<- hv]; exact List.getElem_mem _
  obtain ⟨hr, c, hp⟩ := hok e hm
  have hlt := hS.lt
  have hSc : SideAt ((H.put .dead hs (.cells [.lit (.slice none 0 0), .lit (.int .i64 0)] false)).put .dead hs (.cells [.lst .no (e.r.map encV), .lit (.int .i64 e.m)] false)) (hs + 1) S w cols L f fp := hS.fr (fun q hq => by have := hlt q hq; rw [Tr.get_put, if_neg (by omega), Tr.get_put, if_neg (by omega)]) (by omega)
  obtain ⟨A, B, I, g0, H1, hs1, er1, w1, l1, g1, u1, H2, hs2, er2, fp', w2, l2, hS2, u2, a2'⟩ := sideStep (m := ⟨true, true, gl⟩) (n := IntKind.i64.wrap (e.m * 1)) hSc hr hc hp (by omega) (by have := hsm (keyB c); omega)
  have nfp : ∀ q, q < hs0 -> q ∉ fp0 -> q ∉ fp := fun q h1 h2 h3 => by
   rcases hfp1 q h3 with h | h
   ·exact h2 h
   ·omega
  have gsH : ((H.put .dead hs (.cells [.lit (.slice none 0 0), .lit (.int .i64 0)] false)).put .dead hs (.cells [.lst .no (e.r.map encV), .lit (.int .i64 e.m)] false)).get .dead sb = .cells [.ptr S 0] false := by rw [Tr.get_put, if_neg (by omega), Tr.get_put, if_neg (by omega), hu sb hsb nsb]; exact gsb
  have gs1 : H1.get .dead sb = .cells [.ptr S 0] false := by rw [u1 sb (by omega) (nfp sb hsb nsb)]; exact gsH
  have gc1 : H1.get .dead hs = .cells [.lst .no (e.r.map encV), .lit (.int .i64 e.m)] false := by
   rw [u1 hs (by omega) (fun hq => by have := hlt hs hq; omega), Tr.get_put, if_pos rfl]
  have gsH' : H.get .dead sb = .cells [.ptr S 0] false := by rw [hu sb hsb nsb]; exact gsb
  have gS' : H.get .dead S = .cells [.lit (.int .i64 w), A, .ptr B 0, .ptr I 0] false := by
   obtain ⟨_, _, _, _, _, y1, _, _, _, _, _, _, y8⟩ := hS
   rw [<- g0, Tr.get_put, if_neg (by omega), Tr.get_put, if_neg (by omega)]
  have n1 : (sb = hs) = False := eq_false (by omega)
  have n2 : (S = hs) = False := by
   obtain ⟨_, _, _, _, _, y1, _, _, _, _, _, _, y8⟩ := hS
   exact eq_false (by omega)
  rw [W_loop, e6, mrg]
  simp only [updW, hp]
  simp (maxSteps := 2000000) only [sG, seval, a0, a2, a6, a7, a8, encE, encR, e1, e3, e4, e5, List.getElem?_map, Int.toNat_natCast, D, gsH', gS', n1, n2, w1, g1, gs1, gc1, w2]
  have key : ∀ Z : Option (AV × Tr AO × Nat), (∃ v H' hs' fp', Z = some (v, H', hs') /\ SideAt H' hs' S w cols (mrg 1 (l.drop (i + 1)) (badd L e.r (mulw 1 e)).1) (updW cols (l.drop (i + 1)) (updK f (keyB c) (badd (f (keyB c)) e.r (mulw 1 e)).1)) fp' /\ hs2 <= hs' /\ (∀ q, q < hs0 -> q ∉ fp0 -> H'.get .dead q = H0.get .dead q) /\ (∀ q ∈ fp', q ∈ fp0 ∨ hs0 <= q)) ->
    (∃ v H' hs' fp', Z = some (v, H', hs') /\ SideAt H' hs' S w cols (mrg 1 (l.drop (i + 1)) (badd L e.r (mulw 1 e)).1) (updW cols (l.drop (i + 1)) (updK f (keyB c) (badd (f (keyB c)) e.r (mulw 1 e)).1)) fp' /\ hs <= hs' /\ (∀ q, q < hs0 -> q ∉ fp0 -> H'.get .dead q = H0.get .dead q) /\ (∀ q ∈ fp', q ∈ fp0 ∨ hs0 <= q)) := by
   rintro Z ⟨v, H', hs', fp', x1, x2, x3, x4⟩
   exact ⟨v, H', hs', fp', x1, x2, by omega, x4⟩
  apply key
  have hbl := @badd_len L e.r (IntKind.i64.wrap (e.m * 1))
  apply ih (i + 1) _ H2 hs2 _ _ _ (n + 1) (by omega) (by omega) (fun q hq hn => by rw [u2 q (by omega) (nfp q hq hn), Tr.get_put, if_neg (by omega), Tr.get_put, if_neg (by omega)]; exact hu q hq hn) hS2 (fun q hq => by
   rcases a2' q hq with h | h
   ·exact hfp1 q h
   ·exact .inr (by omega)) (by omega) hsm.upd (by omega)
  all_goals first | (simp only [sG, seval, a0, a1, a2, a6, a7]; done) | (simp only [sG, seval, a0, a1, a2, a6, a7, a8, encE, encR]; rfl)
theorem cTurn {m : Md} {S : Nat} {w : Int} {cols : List Int} {L : List En} {f : List UInt8 -> List En} {fp : List Nat} {l : List En} {k1 : ATk} {H : Tr AO} {hs n : Nat} (h : SideAt H hs S w cols L f fp) (hl : l.length < 1000000) (hc : cols.length < 10000) (hok : ∀ e ∈ l, OkT cols e) (hz : L.length + l.length < 90000000) (hsm : Small f n) (hn : n + l.length < 90000000) :
  ∃ H' hs' fp', callF tab (evw tab) m 18 [.ptr S 0, .lst k1 (l.map encE)] H hs = some (.fn (.func 38) [] [.ptr (hs + 2) 0], H', hs') /\ SideAt H' hs' S w cols (mrg 1 l L) (updW cols l f) fp' /\ hs <= hs' /\ Upb H H' fp hs /\ (∀ q ∈ fp', q ∈ fp ∨ hs <= q) := by
 have hlt := h.lt
 have e3 : ∀ q, q < hs -> (((((H.put .dead hs (.cells [.ptr S 0] false)).put .dead (hs + 1) (.cells [.lst k1 (l.map encE)] false)).put .dead (hs + 2) (.cells [.lit .nilFunc] false)).put .dead (hs + 2) (.cells [.fn (.func 35) [] [.ptr (hs + 1) 0, .ptr hs 0]] false))).get .dead q = H.get .dead q := fun q hq => by
  rw [Tr.get_put, if_neg (by omega), Tr.get_put, if_neg (by omega), Tr.get_put, if_neg (by omega), Tr.get_put, if_neg (by omega)]
 have hS := h.fr (H' := ((((H.put .dead hs (.cells [.ptr S 0] false)).put .dead (hs + 1) (.cells [.lst k1 (l.map encE)] false)).put .dead (hs + 2) (.cells [.lit .nilFunc] false)).put .dead (hs + 2) (.cells [.fn (.func 35) [] [.ptr (hs + 1) 0, .ptr hs 0]] false))) (hs' := hs + 3) (fun q hq => e3 q (hlt q hq)) (by omega)
 have L1 := @loopTurn l k1 m.gl S hs (hs + 1) (hs + 3) w cols fp ((((H.put .dead hs (.cells [.ptr S 0] false)).put .dead (hs + 1) (.cells [.lst k1 (l.map encE)] false)).put .dead (hs + 2) (.cells [.lit .nilFunc] false)).put .dead (hs + 2) (.cells [.fn (.func 35) [] [.ptr (hs + 1) 0, .ptr hs 0]] false)) hl hc hok (by omega) (by omega) (fun hq => by have := hlt _ hq; omega) (fun hq => by have := hlt _ hq; omega) (by rw [Tr.get_put, if_neg (by omega), Tr.get_put, if_neg (by omega), Tr.get_put, if_neg (by omega), Tr.get_put, if_pos rfl]) (fun q hq => by have := hlt q hq; omega) l.length 0
 simp only [stU, stC, b35, Tryz.f35] at L1
 have c1 : ∃ v H' hs' fp', callF tab (evw tab) ⟨true, true, m.gl⟩ 35 [.lit (.int .i64 1), .ptr (hs + 1) 0, .ptr hs 0] ((((H.put .dead hs (.cells [.ptr S 0] false)).put .dead (hs + 1) (.cells [.lst k1 (l.map encE)] false)).put .dead (hs + 2) (.cells [.lit .nilFunc] false)).put .dead (hs + 2) (.cells [.fn (.func 35) [] [.ptr (hs + 1) 0, .ptr hs 0]] false)) (hs + 3) = some (v, H', hs') /\ SideAt H' hs' S w cols (mrg 1 l L) (updW cols l f) fp' /\ hs + 3 <= hs' /\ (∀ q, q < hs + 3 -> q ∉ fp -> H'.get .dead q = ((((H.put .dead hs (.cells [.ptr S 0] false)).put .dead (hs + 1) (.cells [.lst k1 (l.map encE)] false)).put .dead (hs + 2) (.cells [.lit .nilFunc] false)).put .dead (hs + 2) (.cells [.fn (.func 35) [] [.ptr (hs + 1) 0, .ptr hs 0]] false)).get .dead q) /\ (∀ q ∈ fp', q ∈ fp ∨ hs + 3 <= q) := by
  rw [callF_in (fi := fi35) tcon rfl rfl rfl]
  simp (maxSteps := 2000000) only [sG, seval, x35, stU, b35, Tryz.f35, List.length_map]
  apply L1 _ _ _ _ _ _ n (by simp) (Nat.le_refl _) (fun _ _ _ => rfl) hS (fun q hq => .inl hq) hz hsm hn
  all_goals simp only [sG, seval] <;> rfl
 obtain ⟨v, H1, hs1, fp1, w1, s1, l1, u1, a1⟩ := c1
 have g2 : H1.get .dead (hs + 2) = .cells [.fn (.func 35) [] [.ptr (hs + 1) 0, .ptr hs 0]] false := by rw [u1 (hs + 2) (by omega) (fun hq => by have := hlt _ hq; omega), Tr.get_put, if_pos rfl]
 rw [callF_in (fi := fi18) tcon rfl rfl rfl]
 refine ⟨H1, hs1, fp1, ?_, s1, by omega, fun q hq hn => by rw [u1 q (by omega) hn]; exact e3 q hq, fun q hq => (a1 q hq).imp id (fun h => by omega)⟩
 simp (maxSteps := 2000000) only [sG, seval, x18, stU, b18, Tryz.f18, Nat.add_assoc, w1]
def rc (d : List Row) : List AV := d.map encR
def RowsAt (H : Tr AO) (b : Nat) (d : List Row) : Prop := H.get .dead b = .cells (rc d) false
theorem set_mid {P S : List Row} {u v : Row} {k : Nat} (hk : k = P.length) : (P ++ u :: S).set k v = P ++ v :: S := by subst hk; simp
theorem get_mid {P S : List Row} {u : Row} {k : Nat} (hk : k = P.length) : (P ++ u :: S)[k]? = some u := by subst hk; simp
theorem rcLen {d : List Row} {k : Nat} (h : k < d.length) : Nat.ble (k + 1) (rc d).length = true := ble_le.2 (by unfold rc; rw [List.length_map]; omega)
theorem rcGet {d : List Row} {k : Nat} {r : Row} (hk : d[k]? = some r) : List.take 1 (List.drop k (rc d)) = [encR r] := by
 obtain ⟨hl, he⟩ := List.getElem?_eq_some_iff.1 hk
 unfold rc
 rw [<- List.map_drop, <- List.map_take, List.drop_eq_getElem_cons hl, he]; rfl
theorem rcSet {d : List Row} {k : Nat} {r : Row} (hk : k < d.length) : List.take k (rc d) ++ encR r :: List.drop (k + 1) (rc d) = rc (d.set k r) := by
 unfold rc
 rw [<- List.map_take, <- List.map_drop, List.set_eq_take_append_cons_drop, if_pos hk]
 simp
theorem wA {a b : Nat} (h : a + b < 1000000000000) : IntKind.i64.wrap ((a : Int) + (b : Int)) = ((a + b : Nat) : Int) := by rw [wrap_i64 (by omega) (by omega)]; omega
theorem wS {a b : Nat} (h : b <= a) (h2 : a < 1000000000000) : IntKind.i64.wrap ((a : Int) - (b : Int)) = ((a - b : Nat) : Int) := by rw [wrap_i64 (by omega) (by omega)]; omega
theorem wS1 {a : Nat} (h : 1 <= a) (h2 : a < 1000000000000) : IntKind.i64.wrap ((a : Int) - 1) = ((a - 1 : Nat) : Int) := by rw [wrap_i64 (by omega) (by omega)]; omega
theorem dIx {a n : Nat} (h : a < n) : decide (0 <= (a : Int) /\ (a : Int) < (n : Int)) = true := dcT (by omega)
theorem RowsAt.get {H : Tr AO} {b : Nat} {d : List Row} (h : RowsAt H b d) : H.get .dead b = .cells (rc d) false := h
theorem RowsAt.put {H : Tr AO} {b : Nat} {d : List Row} : RowsAt (H.put .dead b (.cells (rc d) false)) b d := by unfold RowsAt; rw [Tr.get_put, if_pos rfl]
theorem loopSwap {P M S : List Row} {b n c cap : Nat} {k3 : AV} {gl : Tr (Option AV)} : ∀ (U2 V2 U1 V1 : List Row) (t : Tr AV) (H : Tr AO) (hs : Nat), U2.length = V2.length -> U1.length = V1.length -> n = U1.length + U2.length -> c = P.length + n + M.length -> cap = c + n + S.length -> cap < 1000000 ->
  RowsAt H b (P ++ (V1 ++ (U2 ++ (M ++ (U1 ++ (V2 ++ S)))))) -> t.get .any 0 = .slc b 0 cap (.op 1) -> t.get .any 1 = .lit (.int .i64 P.length) -> t.get .any 2 = .lit (.int .i64 c) -> t.get .any 3 = .lit (.int .i64 n) -> t.get .any 10 = .lit (.int .i64 U1.length) ->
  ∃ v H', W tab none (fin tab fi111) (lpc fi111 0) (lpk fi111 0) ⟨t, 38, H, hs, [], ⟨false, true, gl⟩⟩ = some (v, H', hs) /\ RowsAt H' b (P ++ (V1 ++ (V2 ++ (M ++ (U1 ++ (U2 ++ S)))))) /\ ∀ q, q ≠ b -> H'.get .dead q = H.get .dead q := by
 have D := d111
 simp only [stD, stC, List.cons.injEq, b111, Tryz.f111] at D
 simp only [stU, stC, b111, Tryz.f111]
 intro U2
 induction U2 with
 | nil =>
  intro V2 U1 V1 t H hs h1 h2 hn hc hcap hsm hb a0 a1 a2 a3 a10
  cases V2 with
  | cons v l => simp at h1
  | nil =>
   have e1 : decide ((U1.length : Int) < (n : Int)) = false := by rw [decide_eq_false_iff_not]; simp only [List.length_nil] at hn; omega
   rw [W_loop]
   refine ⟨one [], H, ?_, by simpa using hb, fun _ _ => rfl⟩
   simp only [sG, seval, x111, a3, a10, e1]
 | cons u U2 ih =>
  intro V2 U1 V1 t H hs h1 h2 hn hc hcap hsm hb a0 a1 a2 a3 a10
  cases V2 with
  | nil => simp at h1
  | cons v V2 =>
   simp only [List.length_cons] at h1 hn
   have e1 : decide ((U1.length : Int) < (n : Int)) = true := dcT (by omega)
   have w1 : IntKind.i64.wrap ((P.length : Int) + (U1.length : Int)) = ((P.length + U1.length : Nat) : Int) := wA (by omega)
   have w2 : IntKind.i64.wrap ((c : Int) + (U1.length : Int)) = ((c + U1.length : Nat) : Int) := wA (by omega)
   have w3 := wrap_succ (i := U1.length) (by omega)
   have i1 : decide (0 <= ((P.length + U1.length : Nat) : Int) /\ ((P.length + U1.length : Nat) : Int) < (cap : Int)) = true := dIx (by omega)
   have i2 : decide (0 <= ((c + U1.length : Nat) : Int) /\ ((c + U1.length : Nat) : Int) < (cap : Int)) = true := dIx (by omega)
   have g0 := hb.get
   have l1 := rcGet (k := P.length + U1.length) (r := u) (d := P ++ (V1 ++ (u :: U2 ++ (M ++ (U1 ++ (v :: V2 ++ S)))))) (by rw [<- List.append_assoc]; exact get_mid (by simp; omega))
   have l2 := rcGet (k := c + U1.length) (r := v) (d := P ++ (V1 ++ (u :: U2 ++ (M ++ (U1 ++ (v :: V2 ++ S)))))) (by rw [<- List.append_assoc, <- List.append_assoc, <- List.append_assoc, <- List.append_assoc]; exact get_mid (by simp; omega))
   have n1 := rcLen (k := P.length + U1.length) (d := P ++ (V1 ++ (u :: U2 ++ (M ++ (U1 ++ (v :: V2 ++ S)))))) (by simp; omega)
   have n2 := rcLen (k := c + U1.length) (d := P ++ (V1 ++ (u :: U2 ++ (M ++ (U1 ++ (v :: V2 ++ S)))))) (by simp; omega)
   have n3 := rcLen (k := c + U1.length) (d := P ++ (V1 ++ (v :: U2 ++ (M ++ (U1 ++ (v :: V2 ++ S)))))) (by simp; omega)
   have s1 := rcSet (k := P.length + U1.length) (r := v) (d := P ++ (V1 ++ (u :: U2 ++ (M ++ (U1 ++ (v :: V2 ++ S)))))) (by simp; omega)
   have z1 : ((P ++ (V1 ++ (u :: U2 ++ (M ++ (U1 ++ (v :: V2 ++ S)))))).set (P.length + U1.length) v) = P ++ (V1 ++ (v :: U2 ++ (M ++ (U1 ++ (v :: V2 ++ S))))) := by
    rw [<- List.append_assoc, List.cons_append, set_mid (by simp; omega)]; simp
   rw [z1] at s1
   have s2 := rcSet (k := c + U1.length) (r := u) (d := P ++ (V1 ++ (v :: U2 ++ (M ++ (U1 ++ (v :: V2 ++ S)))))) (by simp; omega)
   have z2 : ((P ++ (V1 ++ (v :: U2 ++ (M ++ (U1 ++ (v :: V2 ++ S)))))).set (c + U1.length) u) = P ++ ((V1 ++ [v]) ++ (U2 ++ (M ++ ((U1 ++ [u]) ++ (V2 ++ S))))) := by
    rw [<- List.append_assoc, <- List.append_assoc, <- List.append_assoc, <- List.append_assoc, List.cons_append, set_mid (by simp; omega)]; simp
   rw [z2] at s2
   simp only [encR] at l1 l2 s1 s2
   generalize hd0 : rc (P ++ (V1 ++ (u :: U2 ++ (M ++ (U1 ++ (v :: V2 ++ S)))))) = d0 at *
   generalize hd1 : rc (P ++ (V1 ++ (v :: U2 ++ (M ++ (U1 ++ (v :: V2 ++ S)))))) = d1 at *
   rw [W_loop]
   simp only [sG, seval, stU, a0, a1, a2, a3, a10, e1, D, w1, w2, w3, i1, i2, Int.toNat_natCast, Nat.mul_one, g0, l1, l2, n1, n2, n3, s1, s2]
   subst hd0 hd1
   have key : ∀ Z : Option (AV × Tr AO × Nat), (∃ v' H', Z = some (v', H', hs) /\ RowsAt H' b (P ++ ((V1 ++ [v]) ++ (V2 ++ (M ++ ((U1 ++ [u]) ++ (U2 ++ S)))))) /\ ∀ q, q ≠ b -> H'.get .dead q = ((H.put .dead b (.cells (rc (P ++ (V1 ++ (v :: U2 ++ (M ++ (U1 ++ (v :: V2 ++ S))))))) false)).put .dead b (.cells (rc (P ++ ((V1 ++ [v]) ++ (U2 ++ (M ++ ((U1 ++ [u]) ++ (V2 ++ S))))))) false)).get .dead q) ->
     (∃ v' H', Z = some (v', H', hs) /\ RowsAt H' b (P ++ (V1 ++ (v :: V2 ++ (M ++ (U1 ++ (u :: U2 ++ S)))))) /\ ∀ q, q ≠ b -> H'.get .dead q = H.get .dead q) := by
    rintro Z ⟨v', H', x1, x2, x3⟩
    exact ⟨v', H', x1, by simpa using x2, fun q hq => by rw [x3 q hq, Tr.get_put, if_neg hq, Tr.get_put, if_neg hq]⟩
   apply key
   apply ih V2 (U1 ++ [u]) (V1 ++ [v]) _ _ hs (by omega) (by simp; omega) (by simp; omega) hc hcap hsm RowsAt.put
   all_goals first | (simp only [sG, seval, a0, a1, a2, a3]; done) | (simp only [sG, seval, List.length_append]; done)
theorem cSwap {m : Md} {P U M V S : List Row} {b cap : Nat} {k3 : AV} {H : Tr AO} {hs : Nat} (hb : RowsAt H b (P ++ (U ++ (M ++ (V ++ S))))) (h : U.length = V.length) (hcap : cap = (P ++ (U ++ (M ++ (V ++ S)))).length) (hsm : cap < 1000000) :
  ∃ v H', callF tab (evw tab) m 111 [.slc b 0 cap (.op 1), .lit (.int .i64 P.length), .lit (.int .i64 (P.length + (U.length + M.length) : Nat)), .lit (.int .i64 U.length), k3] H hs = some (v, H', hs) /\ RowsAt H' b (P ++ (V ++ (M ++ (U ++ S)))) /\ ∀ q, q ≠ b -> H'.get .dead q = H.get .dead q := by
 simp only [List.length_append] at hcap
 have LL := @loopSwap P M S b U.length (P.length + (U.length + M.length)) cap k3 m.gl U V
 simp only [stU, stC, b111, Tryz.f111] at LL
 rw [callF_in (fi := fi111) tcon rfl rfl rfl]
 simp (maxSteps := 2000000) only [sG, seval, x111, stU, b111, Tryz.f111]
 apply LL [] [] _ H hs h rfl (by simp) (by omega) (by omega) hsm hb
 all_goals simp only [sG, seval] <;> rfl
abbrev rle (a b : Row) : Prop := rcmp a b <= 0
abbrev SrtR (l : List Row) : Prop := l.Pairwise rle
theorem rle_tr {a b d : Row} : rle a b -> rle b d -> rle a d := rcmp_ord.tr a b d
theorem rle_nlt {a b : Row} (h : ¬ rcmp a b < 0) : rle b a := by have := rcmp_ord.sw a b; unfold rle; omega
theorem rle_rf (a : Row) : rle a a := by have := rcmp_ord.rf a; unfold rle; omega
theorem srtR_le {A B : List Row} (hA : SrtR A) (hB : SrtR B) (h : ∀ x, A.getLast? = some x -> ∀ y, B.head? = some y -> rle x y) : ∀ a ∈ A, ∀ b ∈ B, rle a b := by
 intro a ha b hb
 cases B with
 | nil => cases hb
 | cons y B =>
  have hne : A ≠ [] := by rintro rfl; cases ha
  obtain ⟨A', x, rfl⟩ : ∃ A' x, A = A' ++ [x] := ⟨A.dropLast, A.getLast hne, (List.dropLast_concat_getLast hne).symm⟩
  have hxy := h x (by simp) y rfl
  have hax : rle a x := by
   rcases List.mem_append.1 ha with h | h
   ·exact (List.pairwise_append.1 hA).2.2 a h x (by simp)
   ·simp only [List.mem_singleton] at h; rw [h]; exact rle_rf x
  have hyb : rle y b := by
   rcases List.mem_cons.1 hb with h | h
   ·rw [h]; exact rle_rf y
   ·exact (List.pairwise_cons.1 hB).1 b h
  exact rle_tr hax (rle_tr hxy hyb)
theorem srtR_app {A B : List Row} (hA : SrtR A) (hB : SrtR B) (h : ∀ a ∈ A, ∀ b ∈ B, rle a b) : SrtR (A ++ B) := List.pairwise_append.2 ⟨hA, hB, h⟩
def rlens (l : List Row) : Prop := ∀ r ∈ l, r.length < 1000000
theorem insIn {Pp : Option (AV × Tr AO × Nat) -> Prop} {K : List Fr} {P S L0 : List Row} {x : Row} {b cap i be : Nat} {H0 : Tr AO} {hs : Nat} {gl : Tr (Option AV)} (hcap : cap = P.length + L0.length + S.length) (hsm : cap < 1000000) (hrl : rlens L0) (hi : P.length <= i) (hi2 : i < be)
  (hK : ∀ (t' : Tr AV) (H' : Tr AO) (C : List Row), SrtR C -> C.Perm L0 -> RowsAt H' b (P ++ (C ++ S)) -> (∀ q, q ≠ b -> H'.get .dead q = H0.get .dead q) -> t'.get .any 0 = .slc b 0 cap (.op 1) -> t'.get .any 1 = .lit (.int .i64 P.length) -> t'.get .any 2 = .lit (.int .i64 be) -> t'.get .any 3 = .fn (.func 66) [] [] -> t'.get .any 8 = .lit (.int .i64 i) ->
   Pp (kont tab none (fin tab fi100) K (.exit 2) ⟨t', 53, H', hs, [], ⟨false, true, gl⟩⟩)) :
  ∀ (k : Nat) (X Y : List Row) (t : Tr AV) (H : Tr AO), X.length = k -> SrtR (X ++ Y) -> (∀ y ∈ Y, rle x y) -> (X ++ x :: Y).Perm L0 -> RowsAt H b (P ++ ((X ++ x :: Y) ++ S)) -> (∀ q, q ≠ b -> H.get .dead q = H0.get .dead q) -> t.get .any 0 = .slc b 0 cap (.op 1) -> t.get .any 1 = .lit (.int .i64 P.length) -> t.get .any 2 = .lit (.int .i64 be) -> t.get .any 3 = .fn (.func 66) [] [] -> t.get .any 8 = .lit (.int .i64 i) -> t.get .any 9 = .lit (.int .i64 (P.length + X.length : Nat)) ->
  Pp (W tab none (fin tab fi100) (lpc fi100 1) K ⟨t, 53, H, hs, [], ⟨false, true, gl⟩⟩) := by
 have D := d100
 simp only [stD, stC, List.cons.injEq, b100, Tryz.f100] at D
 simp only [stU, stC, b100, Tryz.f100]
 intro k
 induction k with
 | zero =>
  intro X Y t H hk hs1 hxy hp hb hq a0 a1 a2 a3 a8 a9
  obtain rfl := List.eq_nil_of_length_eq_zero hk
  simp only [List.length_nil, Nat.add_zero] at a9
  have e1 : decide ((P.length : Int) < (P.length : Int)) = false := dcF (by omega)
  rw [W_loop]
  simp only [sGA, seval, a1, a9, e1, D]
  apply hK _ H ([] ++ x :: Y) (List.pairwise_cons.2 ⟨hxy, by simpa using hs1⟩) hp hb hq
  all_goals simp only [sG, seval, a0, a1, a2, a3, a8]
 | succ k ih =>
  intro X Y t H hk hs1 hxy hp hb hq a0 a1 a2 a3 a8 a9
  have hne : X ≠ [] := by rintro rfl; cases hk
  obtain ⟨X, z, rfl⟩ : ∃ A' x, X = A' ++ [x] := ⟨X.dropLast, X.getLast hne, (List.dropLast_concat_getLast hne).symm⟩
  simp only [List.length_append, List.length_singleton] at hk a9
  have hpl := hp.length_eq
  simp only [List.length_append, List.length_cons, List.length_nil] at hpl
  have e1 : decide ((P.length : Int) < ((P.length + (X.length + 1) : Nat) : Int)) = true := dcT (by omega)
  have w1 : IntKind.i64.wrap (((P.length + (X.length + 1) : Nat) : Int) - 1) = ((P.length + X.length : Nat) : Int) := by rw [wS1 (by omega) (by omega)]; rfl
  have i1 : decide (0 <= ((P.length + (X.length + 1) : Nat) : Int) /\ ((P.length + (X.length + 1) : Nat) : Int) < (cap : Int)) = true := dIx (by omega)
  have i2 : decide (0 <= ((P.length + X.length : Nat) : Int) /\ ((P.length + X.length : Nat) : Int) < (cap : Int)) = true := dIx (by omega)
  have g0 := hb.get
  have l1 := rcGet (k := P.length + (X.length + 1)) (r := x) (d := P ++ (((X ++ [z]) ++ x :: Y) ++ S)) (by rw [List.append_assoc, <- List.append_assoc, List.cons_append]; exact get_mid (by simp))
  have n1 := rcLen (k := P.length + (X.length + 1)) (d := P ++ (((X ++ [z]) ++ x :: Y) ++ S)) (by simp <;> omega)
  have n2 := rcLen (k := P.length + X.length) (d := P ++ (((X ++ [z]) ++ x :: Y) ++ S)) (by simp <;> omega)
  have l2 := rcGet (k := P.length + X.length) (r := z) (d := P ++ (((X ++ [z]) ++ x :: Y) ++ S)) (by simp only [List.append_assoc, List.singleton_append]; rw [<- List.append_assoc]; exact get_mid (by simp))
  have hx : x ∈ L0 := hp.mem_iff.1 (by simp)
  have c := fun m H hs => @call66 m .no .no x z H hs (by have := hrl x hx; omega)
  cases hc : decide (rcmp x z < 0) with
  | false =>
   rw [W_loop]
   simp only [encR] at l1 l2
   generalize hd0 : rc (P ++ (((X ++ [z]) ++ x :: Y) ++ S)) = d0 at *
   simp only [sGA, seval, a0, a1, a3, a9, e1, D, w1, i1, i2, Int.toNat_natCast, Nat.mul_one, g0, l1, l2, n1, n2, c, hc]
   subst hd0
   apply hK _ H ((X ++ [z]) ++ x :: Y) ?_ hp hb hq
   ·simp only [sG, seval, a0]
   ·simp only [sG, seval, a1]
   ·simp only [sG, seval, a2]
   ·simp only [sG, seval, a3]
   ·simp only [sG, seval, a8]
   ·obtain ⟨h1, h2, _⟩ := List.pairwise_append.1 hs1
    refine srtR_app h1 (List.pairwise_cons.2 ⟨hxy, h2⟩) (srtR_le h1 (List.pairwise_cons.2 ⟨hxy, h2⟩) ?_)
    intro u hu v hv
    simp at hu hv
    subst hu hv
    exact rle_nlt (of_decide_eq_false hc)
  | true =>
   have s1 := rcSet (k := P.length + (X.length + 1)) (r := z) (d := P ++ (((X ++ [z]) ++ x :: Y) ++ S)) (by simp <;> omega)
   have n3 := rcLen (k := P.length + X.length) (d := P ++ ((X ++ [z]) ++ z :: Y ++ S)) (by simp <;> omega)
   have z1 : (P ++ ((X ++ [z] ++ x :: Y) ++ S)).set (P.length + (X.length + 1)) z = P ++ ((X ++ [z]) ++ z :: Y ++ S) := by
    rw [List.append_assoc, <- List.append_assoc, List.cons_append, set_mid (by simp)]; simp
   rw [z1] at s1
   have s2 := rcSet (k := P.length + X.length) (r := x) (d := P ++ ((X ++ [z]) ++ z :: Y ++ S)) (by simp <;> omega)
   have z2 : (P ++ ((X ++ [z]) ++ z :: Y ++ S)).set (P.length + X.length) x = P ++ ((X ++ x :: z :: Y) ++ S) := by
    simp only [List.append_assoc, List.cons_append]
    rw [<- List.append_assoc, set_mid (by simp)]; simp
   rw [z2] at s2
   rw [W_loop]
   simp only [encR] at l1 l2 s1 s2
   generalize hd0 : rc (P ++ (((X ++ [z]) ++ x :: Y) ++ S)) = d0 at *
   generalize hd1 : rc (P ++ ((X ++ [z]) ++ z :: Y ++ S)) = d1 at *
   simp only [sGA, seval, stU, a0, a1, a3, a9, e1, D, w1, i1, i2, Int.toNat_natCast, Nat.mul_one, g0, l1, l2, n1, n2, n3, c, hc, s1, s2]
   subst hd0 hd1
   have hz : rle x z := Int.le_of_lt (of_decide_eq_true hc)
   apply ih X (z :: Y) _ _ (by omega) (by simpa using hs1) (fun y hy => by
    rcases List.mem_cons.1 hy with h | h
    ·rw [h]; exact hz
    ·exact hxy y h) ?_ RowsAt.put (fun q hq1 => by rw [Tr.get_put, if_neg hq1, Tr.get_put, if_neg hq1]; exact hq q hq1)
   all_goals first | (simp only [sG, seval, a0, a1, a2, a3, a8]; done) | skip
   refine List.Perm.trans ?_ hp
   simp only [List.append_assoc, List.singleton_append]
   exact List.Perm.append_left _ (List.Perm.swap _ _ _)
theorem loopIns {P S L0 : List Row} {b cap be : Nat} {H0 : Tr AO} {hs : Nat} {gl : Tr (Option AV)} (hcap : cap = P.length + L0.length + S.length) (hsm : cap < 1000000) (hrl : rlens L0) (hbe : be = P.length + L0.length) :
  ∀ (R C : List Row) (x : Row) (t : Tr AV) (H : Tr AO), SrtR C -> (C ++ R).Perm L0 -> (R = [] ∨ C ≠ []) -> RowsAt H b (P ++ ((C ++ R) ++ S)) -> (∀ q, q ≠ b -> H.get .dead q = H0.get .dead q) -> t.get .any 0 = .slc b 0 cap (.op 1) -> t.get .any 1 = .lit (.int .i64 P.length) -> t.get .any 2 = .lit (.int .i64 be) -> t.get .any 3 = .fn (.func 66) [] [] -> t.get .any 8 = .lit (.int .i64 (P.length + C.length : Nat)) ->
  ∃ v H' C', W tab none (fin tab fi100) (lpc fi100 0) (lpk fi100 0) ⟨t, 53, H, hs, [], ⟨false, true, gl⟩⟩ = some (v, H', hs) /\ SrtR C' /\ C'.Perm L0 /\ RowsAt H' b (P ++ (C' ++ S)) /\ (∀ q, q ≠ b -> H'.get .dead q = H0.get .dead q) := by
 have D := d100
 simp only [stD, stC, List.cons.injEq, b100, Tryz.f100] at D
 have IN := @insIn
 simp only [stU, stC, b100, Tryz.f100] at IN
 simp only [stU, stC, b100, Tryz.f100]
 intro R
 induction R with
 | nil =>
  intro C x t H hs1 hp hne hb hq a0 a1 a2 a3 a8
  rw [List.append_nil] at hp hb
  have hl := hp.length_eq
  have e1 : decide (((P.length + C.length : Nat) : Int) < (be : Int)) = false := dcF (by omega)
  rw [W_loop]
  refine ⟨one [], H, C, ?_, hs1, hp, hb, hq⟩
  simp only [sGA, seval, x100, a2, a8, e1]
 | cons r R ih =>
  intro C x t H hs1 hp hne hb hq a0 a1 a2 a3 a8
  have hl := hp.length_eq
  simp only [List.length_append, List.length_cons] at hl
  have e1 : decide (((P.length + C.length : Nat) : Int) < (be : Int)) = true := dcT (by omega)
  have w3 := wrap_succ (i := P.length + C.length) (by omega)
  have hrl2 : rlens (C ++ [r]) := fun y hy => hrl y (hp.mem_iff.1 (by
   rcases List.mem_append.1 hy with h | h
   ·exact List.mem_append_left _ h
   ·simp at h; subst h; simp))
  rw [W_loop]
  simp only [sGA, seval, a2, a8, e1]
  refine IN (Pp := fun x => ∃ v H' C', x = some (v, H', hs) /\ SrtR C' /\ C'.Perm L0 /\ RowsAt H' b (P ++ (C' ++ S)) /\ (∀ q, q ≠ b -> H'.get .dead q = H0.get .dead q)) (P := P) (S := R ++ S) (L0 := C ++ [r]) (x := r) (H0 := H0) (i := P.length + C.length) (be := be) (cap := cap) (b := b) (by simp; omega) hsm hrl2 (by omega) (by omega) ?_ C.length C [] _ H rfl (by simpa using hs1) (by simp) (List.Perm.refl _) (by simpa using hb) hq ?_ ?_ ?_ ?_ ?_ ?_
  ·intro t' H' C' g1 g2 g3 g4 b0 b1 b2 b3 b8
   have hl2 := g2.length_eq
   simp only [List.length_append, List.length_singleton] at hl2
   simp only [sGA, seval, b8, w3]
   apply ih C' x _ H' g1 ?_ ?_ (by simpa using g3) g4
   ·simp only [sG, seval, b0]
   ·simp only [sG, seval, b1]
   ·simp only [sG, seval, b2]
   ·simp only [sG, seval, b3]
   ·simp only [sG, seval, hl2]; rfl
   ·refine List.Perm.trans ?_ hp
    have := g2.append_right R
    simpa using this
   ·exact .inr (by intro h; rw [h] at hl2; simp at hl2)
  all_goals first | (simp only [sG, seval, a0, a1, a2, a3, a8]; done) | (simp only [sG, seval, a0, a1, a2, a3, a8]; rfl)
theorem cIns {m : Md} {P S L : List Row} {b cap : Nat} {H : Tr AO} {hs : Nat} (hb : RowsAt H b (P ++ (L ++ S))) (hcap : cap = P.length + L.length + S.length) (hsm : cap < 1000000) (hrl : rlens L) :
  ∃ v H' C, callF tab (evw tab) m 100 [.slc b 0 cap (.op 1), .lit (.int .i64 P.length), .lit (.int .i64 (P.length + L.length : Nat)), .fn (.func 66) [] []] H hs = some (v, H', hs) /\ SrtR C /\ C.Perm L /\ RowsAt H' b (P ++ (C ++ S)) /\ ∀ q, q ≠ b -> H'.get .dead q = H.get .dead q := by
 have LL := @loopIns P S L b cap (P.length + L.length) H hs m.gl hcap hsm hrl rfl
 simp only [stU, stC, b100, Tryz.f100] at LL
 rw [callF_in (fi := fi100) tcon rfl rfl rfl]
 have w3 := wrap_succ (i := P.length) (by omega)
 cases L with
 | nil =>
  have e1 : decide (((P.length + 1 : Nat) : Int) < (P.length : Int)) = false := dcF (by omega)
  refine ⟨one [], H, [], ?_, List.Pairwise.nil, List.Perm.refl _, hb, fun _ _ => rfl⟩
  simp only [sG, seval, x100, stU, b100, Tryz.f100, w3]
  rw [W_loop]
  simp only [sG, seval, x100, e1]
 | cons x R =>
  simp (maxSteps := 2000000) only [sG, seval, x100, stU, b100, Tryz.f100, w3]
  apply LL R [x] x _ H (List.pairwise_singleton _ _) (List.Perm.refl _) (.inr (by simp)) hb (fun _ _ => rfl)
  all_goals simp only [sG, seval] <;> rfl
theorem loopRot {b m cap : Nat} {k3 : AV} {gl : Tr (Option AV)} (hsm : cap < 1000000) : ∀ (n : Nat) (U V P S : List Row) (t : Tr AV) (H : Tr AO) (hs : Nat), U.length + V.length <= n -> 0 < U.length -> 0 < V.length -> m = P.length + U.length -> cap = (P ++ (U ++ (V ++ S))).length ->
  RowsAt H b (P ++ (U ++ (V ++ S))) -> t.get .any 0 = .slc b 0 cap (.op 1) -> t.get .any 2 = .lit (.int .i64 m) -> t.get .any 4 = k3 -> t.get .any 10 = .lit (.int .i64 U.length) -> t.get .any 11 = .lit (.int .i64 V.length) ->
  ∃ v H', W tab none (fin tab fi107) (lpc fi107 0) (lpk fi107 0) ⟨t, 58, H, hs, [], ⟨false, true, gl⟩⟩ = some (v, H', hs) /\ RowsAt H' b (P ++ (V ++ (U ++ S))) /\ ∀ q, q ≠ b -> H'.get .dead q = H.get .dead q := by
 simp only [stU, stC, b107, Tryz.f107]
 intro n
 induction n with
 | zero => intro U V P S t H hs h1 h2; omega
 | succ n ih =>
  intro U V P S t H hs h1 h2 h3 hm hcap hb a0 a2 a4 a10 a11
  have hcap' := hcap
  simp only [List.length_append] at hcap
  have wm : IntKind.i64.wrap ((m : Int) - (U.length : Int)) = (P.length : Int) := by rw [wS (by omega) (by omega)]; omega
  by_cases hij : U.length = V.length
  ·have e1 : decide ((U.length : Int) = (V.length : Int)) = true := dcT (by omega)
   obtain ⟨v, H', x1, x2, x3⟩ := cSwap (m := ⟨false, true, gl⟩) (P := P) (U := U) (M := []) (V := V) (S := S) (hs := hs) (k3 := k3) hb hij hcap' hsm
   rw [show (P.length + (U.length + ([] : List Row).length) : Nat) = m from by simp; omega] at x1
   rw [W_loop]
   refine ⟨one [], H', ?_, x2, x3⟩
   simp only [sGA, seval, x107, a0, a2, a4, a10, a11, e1, wm, x1]
  ·have e1 : decide ((U.length : Int) = (V.length : Int)) = false := dcF (by omega)
   rw [W_loop]
   by_cases hlt : V.length < U.length
   ·have e2 : decide ((V.length : Int) < (U.length : Int)) = true := dcT (by omega)
    obtain ⟨U1, U2, rfl, hU1⟩ : ∃ U1 U2, U = U1 ++ U2 /\ U1.length = V.length := ⟨U.take V.length, U.drop V.length, (List.take_append_drop _ _).symm, by simp; omega⟩
    rw [List.length_append] at hm h1 h2 hcap hlt a10 e1 e2 wm
    have hb' : RowsAt H b (P ++ (U1 ++ (U2 ++ (V ++ S)))) := by simpa using hb
    obtain ⟨v, H', x1, x2, x3⟩ := cSwap (m := ⟨false, true, gl⟩) (P := P) (U := U1) (M := U2) (V := V) (S := S) (hs := hs) (k3 := k3) hb' hU1 (by rw [hcap']; simp) hsm
    rw [<- hm, hU1] at x1
    have w2 : IntKind.i64.wrap (((U1.length + U2.length : Nat) : Int) - (V.length : Int)) = (U2.length : Int) := by rw [wS (by omega) (by omega)]; omega
    simp only [sGA, seval, a0, a2, a4, a10, a11, e1, e2, wm, w2, x1]
    have key : ∀ Z : Option (AV × Tr AO × Nat), (∃ v' H'', Z = some (v', H'', hs) /\ RowsAt H'' b ((P ++ V) ++ (U1 ++ (U2 ++ S))) /\ ∀ q, q ≠ b -> H''.get .dead q = H'.get .dead q) -> (∃ v' H'', Z = some (v', H'', hs) /\ RowsAt H'' b (P ++ (V ++ (U1 ++ U2 ++ S))) /\ ∀ q, q ≠ b -> H''.get .dead q = H.get .dead q) := by
     rintro Z ⟨v', H'', y1, y2, y3⟩
     exact ⟨v', H'', y1, by simpa using y2, fun q hq => (y3 q hq).trans (x3 q hq)⟩
    apply key
    apply ih U2 U1 (P ++ V) S _ H' hs (by omega) (by omega) (by omega) (by simp; omega) (by rw [hcap']; simp; omega) (by simpa using x2)
    all_goals first | (simp only [sG, seval, a0, a2, a4, a11]; done) | (simp only [sG, seval, a11, hU1]; done)
   ·have e2 : decide ((V.length : Int) < (U.length : Int)) = false := dcF (by omega)
    obtain ⟨V1, V2, rfl, hV2⟩ : ∃ V1 V2, V = V1 ++ V2 /\ V2.length = U.length := ⟨V.take (V.length - U.length), V.drop (V.length - U.length), (List.take_append_drop _ _).symm, by simp; omega⟩
    rw [List.length_append] at h1 h3 hcap hlt a11 e1 e2 hij
    have hb' : RowsAt H b (P ++ (U ++ (V1 ++ (V2 ++ S)))) := by simpa using hb
    obtain ⟨v, H', x1, x2, x3⟩ := cSwap (m := ⟨false, true, gl⟩) (P := P) (U := U) (M := V1) (V := V2) (S := S) (hs := hs) (k3 := k3) hb' hV2.symm (by rw [hcap']; simp) hsm
    have w2 : IntKind.i64.wrap (((V1.length + V2.length : Nat) : Int) - (U.length : Int)) = (V1.length : Int) := by rw [wS (by omega) (by omega)]; omega
    have w3 : IntKind.i64.wrap ((m : Int) + ((V1.length + V2.length : Nat) : Int)) = ((m + (V1.length + V2.length) : Nat) : Int) := wA (by omega)
    have w4 : IntKind.i64.wrap (((m + (V1.length + V2.length) : Nat) : Int) - (U.length : Int)) = ((P.length + (U.length + V1.length) : Nat) : Int) := by rw [wS (by omega) (by omega)]; omega
    simp only [sGA, seval, a0, a2, a4, a10, a11, e1, e2, wm, w2, w3, w4, x1]
    have key : ∀ Z : Option (AV × Tr AO × Nat), (∃ v' H'', Z = some (v', H'', hs) /\ RowsAt H'' b (P ++ (V1 ++ (V2 ++ (U ++ S)))) /\ ∀ q, q ≠ b -> H''.get .dead q = H'.get .dead q) -> (∃ v' H'', Z = some (v', H'', hs) /\ RowsAt H'' b (P ++ (V1 ++ V2 ++ (U ++ S))) /\ ∀ q, q ≠ b -> H''.get .dead q = H.get .dead q) := by
     rintro Z ⟨v', H'', y1, y2, y3⟩
     exact ⟨v', H'', y1, by simpa using y2, fun q hq => (y3 q hq).trans (x3 q hq)⟩
    apply key
    apply ih V2 V1 P (U ++ S) _ H' hs (by omega) (by omega) (by omega) (by omega) (by rw [hcap']; simp; omega) x2
    all_goals first | (simp only [sG, seval, a0, a2, a4, a10]; done) | (simp only [sG, seval, a10, hV2]; done)
theorem cRot {m : Md} {P U V S : List Row} {b cap : Nat} {k3 : AV} {H : Tr AO} {hs : Nat} (hb : RowsAt H b (P ++ (U ++ (V ++ S)))) (hU : 0 < U.length) (hV : 0 < V.length) (hcap : cap = (P ++ (U ++ (V ++ S))).length) (hsm : cap < 1000000) :
  ∃ v H', callF tab (evw tab) m 107 [.slc b 0 cap (.op 1), .lit (.int .i64 P.length), .lit (.int .i64 (P.length + U.length : Nat)), .lit (.int .i64 (P.length + U.length + V.length : Nat)), k3] H hs = some (v, H', hs) /\ RowsAt H' b (P ++ (V ++ (U ++ S))) /\ ∀ q, q ≠ b -> H'.get .dead q = H.get .dead q := by
 have LL := @loopRot b (P.length + U.length) cap k3 m.gl hsm (U.length + V.length) U V P S
 simp only [stU, stC, b107, Tryz.f107] at LL
 rw [callF_in (fi := fi107) tcon rfl rfl rfl]
 have hcap2 := hcap
 simp only [List.length_append] at hcap2
 have w1 : IntKind.i64.wrap (((P.length + U.length : Nat) : Int) - (P.length : Int)) = (U.length : Int) := by rw [wS (by omega) (by omega)]; omega
 have w2 : IntKind.i64.wrap (((P.length + U.length + V.length : Nat) : Int) - ((P.length + U.length : Nat) : Int)) = (V.length : Int) := by rw [wS (by omega) (by omega)]; omega
 simp (maxSteps := 2000000) only [sG, seval, x107, stU, b107, Tryz.f107, w1, w2]
 apply LL _ H hs (Nat.le_refl _) hU hV trivial hcap hb
 all_goals simp only [sG, seval] <;> rfl
end Go.Proofs.YtancionamhenmaaGreat.Ev
