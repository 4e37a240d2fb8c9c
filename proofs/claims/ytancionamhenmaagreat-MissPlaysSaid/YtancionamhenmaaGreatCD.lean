import Derived.Test.YtancionamhenmaaGreatBK
import Derived.Test.YtancionamhenmaaGreatEvQ4
set_option linter.all false
set_option maxRecDepth 100000
set_option maxHeartbeats 8000000
namespace Go.Proofs.YtancionamhenmaaGreat.Ev
open Go Go.Proofs.YtancionamhenmaaGreat.Ev Go.Proofs Go.Proofs.YtancionamhenmaaGreat Go.Proofs.YtancionamhenmaaGreat.Tab
theorem fin_def {T : Tab} {fi : FI} {t : Tr AV} {nt hs o : Nat} {H : Tr AO} {lm : Md} (h : H.get .dead o = .defd true) : fin T fi .normal ⟨t, nt, H, hs, [o], lm⟩ = (match resOf T ⟨t, nt, H.put .dead o (.defd false), hs, [o], lm⟩ fi.results with | some l => some (one l, H.put .dead o (.defd false), hs) | none => none) := by
 simp only [fin, shut, h]; rfl
theorem RE_rows {α : Type} {P : Option α -> Prop} {F : AX -> AS -> Option α} {K : List Fr} {s : AS} {hs : Nat} {H0 : Tr AO} {t : T} {m : Md} (g3 : s.tmps.get .any 3 = .ptr hs 0)
  (hy : H0.get .dead (hs + 1 + 1 + 1) = .loop .ready none ((List.range 29).map (s.tmps.get .any)) #[12] (rgA fi22 0) (rgB fi22 0) (hs + 1 + 1) true) (hc : H0.get .dead hs = .cells [.lit (.slice none 0 0)] false) (hx : H0.get .dead (hs + 1) = .cells [t.val] false)
  (hm : Mt H0 t) (hl : ∀ q ∈ t.ads, q < hs) (hn : t.es.length < 100000000) (he : ∀ e ∈ t.es, e.r.length < 1000000)
  (hk : ∀ H' hs' A, RInv (s.tmps.get .any) (hs + 1 + 1) hs H0 t.es H' hs' A -> P (kont tab none F K .normal { s with heap := H'.put .dead (hs + 1 + 1 + 1) (.loop .exhausted none ((List.range 29).map (s.tmps.get .any)) #[12] (rgA fi22 0) (rgB fi22 0) (hs + 1 + 1) true), hs := hs', defs := [hs + 1 + 1] })) :
  P (RE tab none F K s (hs + 1 + 1 + 1) [hs + 1 + 1] (callF tab (evw tab) m 69 [.yld (hs + 1 + 1 + 1), .ptr (hs + 1) 0] H0 (hs + 1 + 1 + 1 + 1))) := by
 obtain ⟨H', hs', A, w, i⟩ := rowsWalk (m := ⟨true, true, m.gl⟩) g3 hm hl hn he ⟨Nat.le_refl _, hy, hc, .inl ⟨rfl, rfl⟩, fun q l e => (by cases e), fun _ => rfl, fun _ _ _ _ => rfl⟩
 have c := cAll1 (m := m) hx w
 have hy' : H'.get .dead (hs + 1 + 1 + 1) = _ := i.y
 have := hk H' hs' A i
 rw [show callF tab (evw tab) m 69 [.yld (hs + 1 + 1 + 1), .ptr (hs + 1) 0] H0 (hs + 1 + 1 + 1 + 1) = some (one [], H', hs') from c]
 simp only [RE, hy']
 exact this
theorem cRows {m : Md} {H : Tr AO} {hs B : Nat} {t : T} (h : BagAt H hs B t) :
  ∃ H' hs' A, callF tab (evw tab) m 22 [.ptr B 0] H hs = some (A, H', hs') /\ hs <= hs' /\ Acc H' hs' 2 A (t.es.map encE) /\ (t.es = [] -> A = .lit (.slice none 0 0)) /\ Upb H H' [] hs := by
 have hc := h.c
 have f1 : (B = hs) = False := eq_false (by have := h.b; omega)
 have f2 : (hs = B) = False := eq_false (by have := h.b; omega)
 rw [callF_in (fi := fi22) tcon rfl rfl rfl]
 simp (maxSteps := 2000000) only [sG, seval, x22, stU, b22, Tryz.f22, dBPN, hc, f1, cAll, W_range, RF, enter0]
 refine RE_rows (t := t) (P := fun x => ∃ H' hs' A, x = some (A, H', hs') /\ hs <= hs' /\ Acc H' hs' 2 A (t.es.map encE) /\ (t.es = [] -> A = .lit (.slice none 0 0)) /\ Upb H H' [] hs) ?g3 ?hy ?hc ?hx ?hm h.lt ?hn (fun e he => (h.en e he).1) ?hk
 case hy =>
  rw [Tr.get_put, if_pos rfl]
  simp only [rgA, rgB, rgs, stU, stC, b22, Tryz.f22]
 case g3 => rfl
 case hc => simp only [Tr.get_put]; rw [if_neg (by omega), if_neg (by omega), if_neg (by omega), if_pos trivial]
 case hx => simp only [Tr.get_put]; rw [if_neg (by omega), if_neg (by omega), if_pos trivial]
 case hm =>
  refine h.g.m.frame fun q hq => ?_
  have := h.lt q hq
  simp only [Tr.get_put]; rw [if_neg (by omega), if_neg (by omega), if_neg (by omega), if_neg (by omega)]
 case hn => have := h.sz; rw [<- T.es_len] at this; exact this
 case hk =>
  intro H' hs' A i
  have c1 := i.c
  have c2 := i.fr (hs + 1 + 1) (by omega) (by omega) (by omega)
  have c3 := i.y
  simp only [Tr.get_put] at c2
  rw [if_neg (by omega), if_pos trivial] at c2
  have n1 : (hs = hs + 1 + 1 + 1) = False := eq_false (by omega)
  have n2 : (hs + 1 + 1 = hs + 1 + 1 + 1) = False := eq_false (by omega)
  have n3 : (hs + 1 + 1 + 1 = hs) = False := eq_false (by omega)
  have n4 : (hs + 1 + 1 + 1 = hs + 1 + 1) = False := eq_false (by omega)
  have c4 := i.le
  have c5 := i.acc
  have c6 := i.nz
  have c7 := fun q hq => i.fr q hq
  have c8 : AO.isRoom (H'.get .dead (hs + 1 + 1 + 1)) = false := by rw [show H'.get .dead (hs + 1 + 1 + 1) = _ from i.y]; rfl
  clear i c3
  generalize AO.loop LoopState.exhausted none _ _ _ _ _ _ = X
  refine ⟨(H'.put .dead (hs + 1 + 1 + 1) X).put .dead (hs + 1 + 1) (.defd false), hs', A, ?_, by omega, ?_, c6, ?_⟩
  rotate_left
  ·exact Acc.set (Acc.set c5 c8) (by rw [Tr.get_put, if_neg (by omega), c2]; rfl)
  ·intro q q1 _
   rw [Tr.get_put, if_neg (by omega), Tr.get_put, if_neg (by omega)]
   by_cases hq : q = hs
   ·omega
   ·rw [c7 q (by omega) hq (by omega)]
    simp only [Tr.get_put]
    rw [if_neg (by omega), if_neg (by omega), if_neg (by omega), if_neg (by omega)]
  simp (maxSteps := 2000000) only [sG, seval, c1, n1]
  rw [fin_def (by rw [Tr.get_put, if_neg (by omega)]; exact c2)]
  simp (maxSteps := 2000000) only [sG, seval, x22]
theorem cRows0 {m : Md} {H : Tr AO} {hs : Nat} : callF tab (evw tab) m 22 [.lit (.pointer none)] H hs = some (.lit (.slice none 0 0), H, hs) := by
 rw [callF_in (fi := fi22) tcon rfl rfl rfl]
 simp (maxSteps := 2000000) only [sG, seval, x22, stU, b22, Tryz.f22, dBPN]
def bof : List En -> List En -> List En × Int
 | [], a => (a, 0)
 | e :: l, a => bif decide ((badd a e.r e.m).2 = 0) then bof l (badd a e.r e.m).1 else (a, (badd a e.r e.m).2)
theorem bset_len {l : List En} {r : Row} {m : Int} : (bset l r m).length <= l.length + 1 := by
 induction l with
 | nil => unfold bset; cases decide (m = 0) <;> simp
 | cons e l ih =>
  unfold bset
  cases decide (rcmp e.r r < 0) with
  | true => simp only [cond_true, List.length_cons]; omega
  | false =>
   cases decide (rcmp e.r r = 0) <;> cases decide (m = 0) <;> simp only [cond_true, cond_false, List.length_cons] <;> omega
theorem badd_len {l : List En} {r : Row} {n : Int} : (badd l r n).1.length <= l.length + 1 := by
 unfold badd
 have := @bset_len l r (bsum l r n).1
 cases rright r <;> cases (bsum l r n).2 <;> simp <;> omega
theorem BagAt.new {H : Tr AO} {hs B : Nat} {t : T} {X : AO} (h : BagAt H hs B t) : BagAt (H.put .dead hs X) (hs + 1) B t :=
 ⟨by rw [Tr.get_put, if_neg (by have := h.b; omega)]; exact h.c, ⟨h.g.m.put (fun hq => by have := h.lt _ hq; omega), h.g.nd, h.g.ok, h.g.sz⟩, fun q hq => by have := h.lt q hq; omega, by have := h.b; omega, h.nb, h.srt, h.sz, h.en⟩
theorem BagAt.new2 {H : Tr AO} {hs B : Nat} {t : T} {X Y : AO} (h : BagAt H hs B t) : BagAt ((H.put .dead hs X).put .dead hs Y) (hs + 1) B t :=
 ⟨by rw [Tr.get_put, if_neg (by have := h.b; omega)]; exact h.new.c, ⟨h.new.g.m.put (fun hq => by have := h.lt _ hq; omega), h.g.nd, h.g.ok, h.g.sz⟩, (h.new (X := X)).lt, (h.new (X := X)).b, h.nb, h.srt, h.sz, h.en⟩
structure OfS (H : Tr AO) (hs B : Nat) (a : List Nat) (l : List En × Int) (v : AV) (H' : Tr AO) (hs' : Nat) (t' : T) : Prop where
 le : hs <= hs'
 up : Upb H H' (B :: a) hs
 bad : l.2 ≠ 0 -> v = .tup [.lit (.pointer none), .lit (.int .i64 l.2)]
 ok : l.2 = 0 -> v = .tup [.ptr B 0, .lit (.int .i64 0)] /\ t'.es = l.1 /\ BagAt H' hs' B t' /\ ∀ q ∈ t'.ads, q ∈ a ∨ hs <= q
theorem loopOf {l : List En} {tk : ATk} {gl : Tr (Option AV)} (hl : l.length < 10000000) (he : ∀ e ∈ l, e.r.length < 1000000) : ∀ (k i : Nat) (t : Tr AV) (H : Tr AO) (hs B : Nat) (b : T), i + k = l.length -> BagAt H hs B b -> b.sz + k < 90000000 ->
  t.get .any 2 = .lit (.pointer none) -> t.get .any 3 = .lit (.int .i64 0) -> t.get .any 4 = .ptr B 0 -> t.get .any 9 = .lst tk (l.map encE) -> t.get .any 10 = .lit (.int .i64 l.length) -> t.get .any 11 = .lit (.int .i64 i) ->
  ∃ v H' hs' b', W tab none (fin tab fi30) (lpc fi30 0) (lpk fi30 0) ⟨t, 26, H, hs, [], ⟨true, true, gl⟩⟩ = some (v, H', hs') /\ OfS H hs B b.ads (bof (l.drop i) b.es) v H' hs' b' := by
 simp only [stU, stC, b30, Tryz.f30]
 intro k
 induction k with
 | zero =>
  intro i t H hs B b hi hb hz a2 a3 a4 a9 a10 a11
  have e1 : decide ((i : Int) < (l).length) = false := dcF (by omega)
  rw [List.drop_of_length_le (by omega)]
  refine ⟨_, H, hs, b, ?_, Nat.le_refl _, fun _ _ _ => rfl, fun h => absurd rfl h, fun _ => ⟨rfl, rfl, hb, fun q hq => .inl hq⟩⟩
  rw [W_loop]
  simp only [sG, seval, x30, a4, a10, a11, e1]
 | succ k ih =>
  intro i t H hs B b hi hb hz a2 a3 a4 a9 a10 a11
  have hlt : i < (l).length := by omega
  obtain ⟨e, hv, e1, e3, e4, e6, e7⟩ := atS hlt
  have e5 := wrap_succ (i := i) (by omega)
  have hm : e ∈ l := by rw [<- hv]; exact List.getElem_mem _
  have hb1 : BagAt ((H.put .dead hs (.cells [.lit (.slice none 0 0), .lit (.int .i64 0)] false)).put .dead hs (.cells [.lst .no (e.r.map encV), .lit (.int .i64 e.m)] false)) (hs + 1) B b := hb.new2
  obtain ⟨H1, hs1, b1, w1, s1⟩ := cAdd (m := ⟨true, true, gl⟩) (r := e.r) (n := e.m) (he e hm) hb1 (by omega)
  have q1 : Upb H H1 (B :: b.ads) hs := fun q h2 h3 => by rw [s1.up q (by omega) h3, Tr.get_put, if_neg (by omega), Tr.get_put, if_neg (by omega)]
  have q2 := s1.le
  rw [e6, bof]
  cases h1 : decide ((badd b.es e.r e.m).2 = 0) with
  | false =>
   have hne := of_decide_eq_false h1
   refine ⟨_, H1, hs1, b1, ?_, by omega, q1, fun _ => rfl, fun h => absurd h hne⟩
   rw [W_loop]
   simp only [sG, seval, x30, a4, a9, a10, a11, encE, encR, e1, e3, e4, List.getElem?_map, Int.toNat_natCast, w1, h1]
  | true =>
   have hz0 := of_decide_eq_true h1
   have key : ∀ X : Option (AV × Tr AO × Nat), (∃ v H' hs' b', X = some (v, H', hs') /\ OfS H1 hs1 B b1.ads (bof (l.drop (i + 1)) b1.es) v H' hs' b') -> (∃ v H' hs' b', X = some (v, H', hs') /\ OfS H hs B b.ads (bof (l.drop (i + 1)) (badd b.es e.r e.m).1) v H' hs' b') := by
    rintro X ⟨v, H', hs', b', x1, x2⟩
    rw [s1.es] at x2
    refine ⟨v, H', hs', b', x1, by have := x2.le; omega, fun q h2 h3 => ?_, x2.bad, fun h => ?_⟩
    ·rw [x2.up q (by omega) ?_, q1 q h2 h3]
     simp only [List.mem_cons, not_or] at h3 ⊢
     refine ⟨h3.1, fun h4 => ?_⟩
     rcases s1.ad q h4 with h5 | h5
     ·exact h3.2 h5
     ·omega
    ·obtain ⟨y1, y2, y3, y4⟩ := x2.ok h
     refine ⟨y1, y2, y3, fun q hq => ?_⟩
     rcases y4 q hq with h5 | h5
     ·rcases s1.ad q h5 with h6 | h6
      ·exact .inl h6
      ·exact .inr (by omega)
     ·exact .inr (by omega)
   have hsz : b1.sz <= b.sz + 1 := by
    have := @badd_len b.es e.r e.m
    rw [<- s1.es, T.es_len, T.es_len] at this
    exact this
   rw [cond_true, W_loop]
   simp only [sG, seval, a4, a9, a10, a11, encE, encR, e1, e3, e4, e5, List.getElem?_map, Int.toNat_natCast, w1, hz0]
   apply key
   apply ih (i + 1) _ _ _ _ _ (by omega) s1.at_ (by omega)
   all_goals simp only [sG, seval, a2, a3, a4, a9, a10]
theorem cOf {m : Md} {l : List En} {tk : ATk} {H : Tr AO} {hs : Nat} (hl : l.length < 10000000) (he : ∀ e ∈ l, e.r.length < 1000000) :
  ∃ v H' hs' b', callF tab (evw tab) m 30 [.lst tk (l.map encE)] H hs = some (v, H', hs') /\ OfS H (hs + 1) hs [] (bof l []) v H' hs' b' /\ hs < hs' := by
 have c := fun m H hs => @cNew m H hs
 have L := @loopOf l tk m.gl hl he l.length 0
 simp only [stU, stC, b30, Tryz.f30] at L
 have key : ∀ X : Option (AV × Tr AO × Nat), (∃ v H' hs' b', X = some (v, H', hs') /\ OfS (H.put .dead hs (.cells [.lit (.pointer none), .lit (.int .i64 0)] false)) (hs + 1) hs T.nil.ads (bof (l.drop 0) T.nil.es) v H' hs' b') -> (∃ v H' hs' b', X = some (v, H', hs') /\ OfS H (hs + 1) hs [] (bof l []) v H' hs' b' /\ hs < hs') := by
  rintro X ⟨v, H', hs', b', x1, x2⟩
  have := x2.le
  refine ⟨v, H', hs', b', x1, ⟨x2.le, fun q h1 h2 => ?_, x2.bad, x2.ok⟩, by omega⟩
  rw [x2.up q h1 h2, Tr.get_put, if_neg (by rintro rfl; exact h2 (by simp))]
 rw [callF_in (fi := fi30) tcon rfl rfl rfl]
 simp (maxSteps := 2000000) only [sG, seval, x30, stU, b30, Tryz.f30, c, List.length_map]
 apply key
 apply L _ _ _ _ _ (by simp) bagNew (by simp [T.sz]; omega)
 all_goals simp only [sG, seval] <;> rfl
def bnet (l : List En) : List En × Int := bif decide ((bof l []).2 = 0) then ((bof l []).1, 0) else ([], (bof l []).2)
theorem cNet {m : Md} {l : List En} {tk : ATk} {H : Tr AO} {hs : Nat} (hl : l.length < 10000000) (he : ∀ e ∈ l, e.r.length < 1000000) :
  callF tab (evw tab) m 15 [.lst tk (l.map encE)] H hs = some (.tup [.lst .no ((bnet l).1.map encE), .lit (.int .i64 (bnet l).2)], H, hs) := by
 refine callF_iso tcon rfl rfl (by simp only [bares, bare, bares_E, Bool.and_self]) ?_
 simp only [nrms, nrm, nrms_E]
 refine iso_ret ?_
 obtain ⟨v, H1, hs1, b, w, s, _⟩ := cOf (m := ⟨true, true, m.gl⟩) (tk := .no) (H := .lf) (hs := 0) hl he
 unfold bnet
 cases h0 : decide ((bof l []).2 = 0) with
 | false =>
  have := s.bad (of_decide_eq_false h0)
  subst this
  have c := fun m H hs => @cRows0 m H hs
  simp (maxSteps := 2000000) only [sG, seval, x15, stU, b15, Tryz.f15, w, c]
 | true =>
  obtain ⟨y1, y2, y3, _⟩ := s.ok (of_decide_eq_true h0)
  rw [y1] at w
  obtain ⟨H2, hs2, A, w2, _, a1, _, _⟩ := cRows (m := ⟨true, true, m.gl⟩) y3
  have a2 := a1.bare (bares_E _)
  have a3 : nrm A = .lst .no ((bof l []).1.map encE) := by rw [a1.nrm, nrms_E, y2]
  simp (maxSteps := 2000000) only [sG, seval, x15, stU, b15, Tryz.f15, w, w2]
  refine ⟨by simp only [a2], by simp only [a3]⟩
def mulw (k : Int) (e : En) : Int := IntKind.i64.wrap (e.m * k)
def sumsOk (k : Int) (a l : List En) : Bool := l.all fun e => (bsum a e.r (mulw k e)).2
theorem loopM1 {l : List En} {tk : ATk} {k0 : Int} {gl : Tr (Option AV)} {P : Option (AV × Tr AO × Nat) -> Prop} {B : Nat} {b : T} (hl : l.length < 100000000) (he : ∀ e ∈ l, e.r.length < 1000000) : ∀ (k i : Nat) (t : Tr AV) (H : Tr AO) (hs : Nat), i + k = l.length -> BagAt H hs B b ->
  t.get .any 0 = .ptr B 0 -> t.get .any 2 = .lit (.int .i64 k0) -> t.get .any 7 = .lst tk (l.map encE) -> t.get .any 27 = .lst tk (l.map encE) -> t.get .any 28 = .lit (.int .i64 l.length) -> t.get .any 29 = .lit (.int .i64 i) ->
  (sumsOk k0 b.es (l.drop i) = false -> ∀ H' hs', hs <= hs' -> Upb H H' [] hs -> P (some (.lit (.int .i64 10), H', hs'))) ->
  (sumsOk k0 b.es (l.drop i) = true -> ∀ (t' : Tr AV) H' hs', hs <= hs' -> Upb H H' [] hs -> BagAt H' hs' B b ->
   t'.get .any 0 = .ptr B 0 -> t'.get .any 2 = .lit (.int .i64 k0) -> t'.get .any 47 = .lst tk (l.map encE) -> t'.get .any 48 = .lit (.int .i64 l.length) -> t'.get .any 49 = .lit (.int .i64 0) ->
   P (W tab none (fin tab fi21) (lpc fi21 1) (lpk fi21 1) ⟨t', 62, H', hs', [], ⟨true, true, gl⟩⟩)) ->
  P (W tab none (fin tab fi21) (lpc fi21 0) (lpk fi21 0) ⟨t, 62, H, hs, [], ⟨true, true, gl⟩⟩) := by
 simp only [stU, stC, b21, Tryz.f21]
 intro k
 induction k with
 | zero =>
  intro i t H hs hi hb a0 a2 a7 a27 a28 a29 hF hT
  have e1 : decide ((i : Int) < (l).length) = false := dcF (by omega)
  rw [List.drop_of_length_le (by omega)] at hT
  rw [W_loop]
  simp only [sG, seval, a7, a28, a29, e1, List.length_map]
  apply hT rfl _ _ _ (Nat.le_refl _) (fun _ _ _ => rfl) hb
  all_goals simp only [sG, seval, a0, a2]
 | succ k ih =>
  intro i t H hs hi hb a0 a2 a7 a27 a28 a29 hF hT
  have hlt : i < (l).length := by omega
  obtain ⟨e, hv, e1, e3, e4, e6, e7⟩ := atS hlt
  have e5 := wrap_succ (i := i) (by omega)
  have hm : e ∈ l := by rw [<- hv]; exact List.getElem_mem _
  have her := he e hm
  have hb1 : BagAt ((H.put .dead hs (.cells [.lit (.slice none 0 0), .lit (.int .i64 0)] false)).put .dead hs (.cells [.lst .no (e.r.map encV), .lit (.int .i64 e.m)] false)) (hs + 1) B b := hb.new2
  have c := fun m hs1 => @cSum m e.r (mulw k0 e) B b _ hs1 _ (by omega) hb1
  have q1 : Upb H ((H.put .dead hs (.cells [.lit (.slice none 0 0), .lit (.int .i64 0)] false)).put .dead hs (.cells [.lst .no (e.r.map encV), .lit (.int .i64 e.m)] false)) [] hs := fun q h2 h3 => by rw [Tr.get_put, if_neg (by omega), Tr.get_put, if_neg (by omega)]
  rw [e6] at hF hT
  simp only [sumsOk, List.all_cons] at hF hT
  simp only [mulw] at c
  cases h1 : (bsum b.es e.r (IntKind.i64.wrap (e.m * k0))).2 with
  | false =>
   simp only [mulw, h1, Bool.false_and] at hF
   simp only [h1] at c
   rw [W_loop]
   simp only [sG, seval, x21, a0, a2, a27, a28, a29, encE, encR, e1, e3, e4, List.getElem?_map, Int.toNat_natCast, c]
   exact hF trivial _ _ (by omega) q1
  | true =>
   simp only [mulw, h1, Bool.true_and] at hF hT
   simp only [h1] at c
   rw [W_loop]
   simp only [sG, seval, a0, a2, a27, a28, a29, encE, encR, e1, e3, e4, e5, List.getElem?_map, Int.toNat_natCast, c]
   apply ih (i + 1) _ _ _ (by omega) hb1
   all_goals first
    | (simp only [sG, seval, a0, a2, a7, a27, a28]; done)
    | exact fun x H' hs' x1 x2 => hF x H' hs' (by omega) (fun q h2 h3 => (x2 q (by omega) h3).trans (q1 q h2 h3))
    | exact fun x t' H' hs' x1 x2 => hT x t' H' hs' (by omega) (fun q h2 h3 => (x2 q (by omega) h3).trans (q1 q h2 h3))
def mrg (k : Int) : List En -> List En -> List En
 | [], a => a
 | e :: l, a => mrg k l (badd a e.r (mulw k e)).1
theorem AddS.trans {H H1 H2 : Tr AO} {hs hs1 hs2 B : Nat} {t t1 t2 : T} {l l2 : List En} (h : AddS H hs B t l H1 hs1 t1) (g : AddS H1 hs1 B t1 l2 H2 hs2 t2) : AddS H hs B t l2 H2 hs2 t2 := by
 have h1 := h.le
 refine ⟨g.es, g.at_, by have := g.le; omega, fun q q1 q2 => ?_, fun q hq => ?_⟩
 ·rw [g.up q (by omega) ?_, h.up q q1 q2]
  simp only [List.mem_cons, not_or] at q2 ⊢
  refine ⟨q2.1, fun h4 => ?_⟩
  rcases h.ad q h4 with h5 | h5
  ·exact q2.2 h5
  ·omega
 ·rcases g.ad q hq with h5 | h5
  ·exact h.ad q h5
  ·exact .inr (by omega)
theorem AddS.pre {H H1 : Tr AO} {hs hs1 B : Nat} {t t1 : T} {l : List En} {X Y : AO} (h : AddS ((H.put .dead hs X).put .dead hs Y) (hs + 1) B t l H1 hs1 t1) : AddS H hs B t l H1 hs1 t1 := by
 refine ⟨h.es, h.at_, by have := h.le; omega, fun q q1 q2 => ?_, fun q hq => ?_⟩
 ·rw [h.up q (by omega) q2, Tr.get_put, if_neg (by omega), Tr.get_put, if_neg (by omega)]
 ·rcases h.ad q hq with h5 | h5
  ·exact .inl h5
  ·exact .inr (by omega)
theorem loopM2 {l : List En} {tk : ATk} {k0 : Int} {gl : Tr (Option AV)} {B : Nat} (hl : l.length < 100000000) (he : ∀ e ∈ l, e.r.length < 1000000) : ∀ (k i : Nat) (t : Tr AV) (H : Tr AO) (hs : Nat) (b : T), i + k = l.length -> BagAt H hs B b -> b.sz + k < 90000000 ->
  t.get .any 0 = .ptr B 0 -> t.get .any 2 = .lit (.int .i64 k0) -> t.get .any 47 = .lst tk (l.map encE) -> t.get .any 48 = .lit (.int .i64 l.length) -> t.get .any 49 = .lit (.int .i64 i) ->
  ∃ H' hs' b', W tab none (fin tab fi21) (lpc fi21 1) (lpk fi21 1) ⟨t, 62, H, hs, [], ⟨true, true, gl⟩⟩ = some (.lit (.int .i64 0), H', hs') /\ AddS H hs B b (mrg k0 (l.drop i) b.es) H' hs' b' := by
 simp only [stU, stC, b21, Tryz.f21]
 intro k
 induction k with
 | zero =>
  intro i t H hs b hi hb hz a0 a2 a47 a48 a49
  have e1 : decide ((i : Int) < (l).length) = false := dcF (by omega)
  rw [List.drop_of_length_le (by omega)]
  refine ⟨H, hs, b, ?_, hb.same (Nat.le_refl _)⟩
  rw [W_loop]
  simp only [sG, seval, x21, a48, a49, e1]
 | succ k ih =>
  intro i t H hs b hi hb hz a0 a2 a47 a48 a49
  have hlt : i < (l).length := by omega
  obtain ⟨e, hv, e1, e3, e4, e6, e7⟩ := atS hlt
  have e5 := wrap_succ (i := i) (by omega)
  have hm : e ∈ l := by rw [<- hv]; exact List.getElem_mem _
  have hb1 : BagAt ((H.put .dead hs (.cells [.lit (.slice none 0 0), .lit (.int .i64 0)] false)).put .dead hs (.cells [.lst .no (e.r.map encV), .lit (.int .i64 e.m)] false)) (hs + 1) B b := hb.new2
  obtain ⟨H1, hs1, b1, w1, s1⟩ := cAdd (m := ⟨true, true, gl⟩) (r := e.r) (n := mulw k0 e) (he e hm) hb1 (by omega)
  have s2 := s1.pre
  have hsz : b1.sz <= b.sz + 1 := by
   have := @badd_len b.es e.r (mulw k0 e)
   rw [<- s1.es, T.es_len, T.es_len] at this
   exact this
  have key : ∀ X : Option (AV × Tr AO × Nat), (∃ H' hs' b', X = some (.lit (.int .i64 0), H', hs') /\ AddS H1 hs1 B b1 (mrg k0 (l.drop (i + 1)) b1.es) H' hs' b') -> (∃ H' hs' b', X = some (.lit (.int .i64 0), H', hs') /\ AddS H hs B b (mrg k0 (e :: l.drop (i + 1)) b.es) H' hs' b') := by
   rintro X ⟨H', hs', b', x1, x2⟩
   rw [s1.es] at x2
   exact ⟨H', hs', b', x1, s2.trans x2⟩
  rw [e6]
  apply key
  simp only [mulw] at w1
  rw [W_loop]
  simp only [sG, seval, a0, a2, a47, a48, a49, encE, encR, e1, e3, e4, e5, List.getElem?_map, Int.toNat_natCast, w1]
  apply ih (i + 1) _ _ _ _ (by omega) s1.at_ (by omega)
  all_goals simp only [sG, seval, a0, a2, a47, a48]
def mmerge (k : Int) (a l : List En) : List En × Int := bif fewI k then (bif sumsOk k a l then (mrg k l a, 0) else (a, 10)) else (a, 2)
theorem BagAt.upb {H H' : Tr AO} {hs hs' B : Nat} {t : T} (h : BagAt H hs B t) (u : Upb H H' [] hs) (hh : hs <= hs') : BagAt H' hs' B t :=
 ⟨by rw [u B h.b (by simp)]; exact h.c, ⟨h.g.m.frame fun q hq => u q (h.lt q hq) (by simp), h.g.nd, h.g.ok, h.g.sz⟩, fun q hq => by have := h.lt q hq; omega, by have := h.b; omega, h.nb, h.srt, h.sz, h.en⟩
theorem AddS.pre2 {H H0 H1 : Tr AO} {hs hs0 hs1 B : Nat} {t t1 : T} {l : List En} (u : Upb H H0 [] hs) (hh : hs <= hs0) (h : AddS H0 hs0 B t l H1 hs1 t1) : AddS H hs B t l H1 hs1 t1 := by
 refine ⟨h.es, h.at_, by have := h.le; omega, fun q q1 q2 => ?_, fun q hq => ?_⟩
 ·rw [h.up q (by omega) q2, u q q1 (by simp)]
 ·rcases h.ad q hq with h5 | h5
  ·exact .inl h5
  ·exact .inr (by omega)
theorem cMerge {m : Md} {k : Int} {B B2 : Nat} {b b2 : T} {H : Tr AO} {hs : Nat} (h : BagAt H hs B b) (h2 : BagAt H hs B2 b2) (hz : b.sz + b2.sz < 90000000) :
  ∃ H' hs' b', callF tab (evw tab) m 21 [.ptr B 0, .ptr B2 0, .lit (.int .i64 k)] H hs = some (.lit (.int .i64 (mmerge k b.es b2.es).2), H', hs') /\ AddS H hs B b (mmerge k b.es b2.es).1 H' hs' b' := by
 have c1 := fun m H hs => @cFew m k H hs
 obtain ⟨H1, hs1, A, w, l1, a1, a2, u1⟩ := cRows (m := ⟨true, true, m.gl⟩) h2
 have hb := h.upb u1 l1
 rw [callF_in (fi := fi21) tcon rfl rfl rfl]
 unfold mmerge
 cases hf : fewI k with
 | false =>
  simp only [hf] at c1
  refine ⟨H, hs, b, ?_, h.same (Nat.le_refl _)⟩
  simp (maxSteps := 2000000) only [sG, seval, x21, stU, b21, Tryz.f21, dBPN, c1]
 | true =>
  simp only [hf] at c1
  rw [cond_true]
  have hl : b2.es.length < 100000000 := by rw [T.es_len]; exact h2.sz
  have hlz : b2.es.length = b2.sz := T.es_len b2
  rcases a1 with ⟨e1, rfl⟩ | ⟨r, rfl, _, _⟩
  ·have e2 : b2.es = [] := List.map_eq_nil_iff.1 e1
   rw [e2]
   refine ⟨H1, hs1, b, ?_, hb.same (Nat.le_refl _) |>.pre2 u1 l1⟩
   have z1 : decide ((0 : Int) < ((0 : Nat) : Int)) = false := rfl
   have z2 : sumsOk k b.es [] = true := rfl
   simp (maxSteps := 2000000) only [sG, seval, x21, stU, b21, Tryz.f21, dBPN, c1, w, W_loop, z2]
  ·have L := @loopM1 b2.es (.room r) k m.gl (fun x => ∃ H' hs' b', x = some (.lit (.int .i64 (bif sumsOk k b.es b2.es then (mrg k b2.es b.es, (0 : Int)) else (b.es, 10)).2), H', hs') /\ AddS H hs B b (bif sumsOk k b.es b2.es then (mrg k b2.es b.es, (0 : Int)) else (b.es, 10)).1 H' hs' b') B b hl (fun e he => (h2.en e he).1) b2.es.length 0
   have M := @loopM2 b2.es (.room r) k m.gl B hl (fun e he => (h2.en e he).1) b2.es.length 0
   simp only [stU, stC, b21, Tryz.f21] at L M
   simp (maxSteps := 2000000) only [sG, seval, x21, stU, b21, Tryz.f21, dBPN, c1, w, List.length_map]
   apply L _ _ _ (by simp) hb
   rotate_right 2
   ·intro hs0 H' hs' x1 x2
    rw [hs0]
    exact ⟨H', hs', b, rfl, ((hb.upb x2 x1).same (Nat.le_refl _)).pre2 (fun q q1 q2 => (x2 q (by omega) (by simp)).trans (u1 q q1 q2)) (by omega)⟩
   ·intro hs0 t' H' hs' x1 x2 x3 y0 y2 y47 y48 y49
    rw [hs0]
    obtain ⟨H2, hs2, b', z1, z2⟩ := M t' H' hs' b (by simp) x3 (by omega) y0 y2 y47 y48 y49
    exact ⟨H2, hs2, b', z1, z2.pre2 (fun q q1 q2 => (x2 q (by omega) (by simp)).trans (u1 q q1 q2)) (by omega)⟩
   all_goals simp only [sG, seval] <;> rfl
theorem cmpB_drop {a b : List UInt8} {i : Nat} : i < a.length -> i < b.length -> ∃ x y, a[i]? = some x /\ b[i]? = some y /\ Lib.compareBytes (a.drop i) (b.drop i) = if x < y then -1 else if y < x then 1 else Lib.compareBytes (a.drop (i + 1)) (b.drop (i + 1)) := by
 intro h1 h2
 refine ⟨a[i], b[i], List.getElem?_eq_getElem _, List.getElem?_eq_getElem _, ?_⟩
 rw [List.drop_eq_getElem_cons h1, List.drop_eq_getElem_cons h2]
 rfl
theorem cmpB_end {a b : List UInt8} {i : Nat} (h1 : i <= a.length) (h2 : i <= b.length) (h : ¬ (i < a.length /\ i < b.length)) : Lib.compareBytes (a.drop i) (b.drop i) = cmpI a.length b.length := by
 unfold cmpI
 by_cases h3 : i < b.length
 ·have h4 : i = a.length := by omega
  rw [h4, List.drop_length, List.drop_eq_getElem_cons (by omega)]
  have e : decide ((a.length : Int) < b.length) = true := dcT (by omega)
  rw [e]; rfl
 ·have h4 : i = b.length := by omega
  have e : decide ((a.length : Int) < b.length) = false := dcF (by omega)
  rw [e]
  by_cases h5 : i < a.length
  ·have e2 : decide ((b.length : Int) < a.length) = true := dcT (by omega)
   rw [e2, List.drop_of_length_le (l := b) (by omega), List.drop_eq_getElem_cons h5]; rfl
  ·have e2 : decide ((b.length : Int) < a.length) = false := dcF (by omega)
   rw [e2, List.drop_of_length_le (by omega), List.drop_of_length_le (by omega)]; rfl
theorem u8_lt {x y : UInt8} : decide ((x.toNat : Int) < (y.toNat : Int)) = decide (x < y) := by
 by_cases h : x < y
 ·rw [decide_eq_true h, decide_eq_true_iff]; have := UInt8.lt_iff_toNat_lt.1 h; omega
 ·rw [decide_eq_false h, decide_eq_false_iff_not]; intro h2; exact h (UInt8.lt_iff_toNat_lt.2 (by omega))
theorem loop77 {a b : List UInt8} {gl : Tr (Option AV)} (hl : a.length <= 9223372036854775807) : ∀ (k i : Nat) (t : Tr AV) (H : Tr AO) (hs : Nat), i + k = a.length -> i <= b.length ->
  t.get .any 0 = .str a -> t.get .any 1 = .str b -> t.get .any 5 = .lit (.int .i64 i) ->
  RetN (W tab none (fin tab fi77) (lpc fi77 0) (lpk fi77 0) ⟨t, 42, H, hs, [], ⟨true, true, gl⟩⟩) (.lit (.int .i64 (Lib.compareBytes (a.drop i) (b.drop i)))) := by
 have D := d77
 simp only [stD, stC, List.cons.injEq, b77, Tryz.f77] at D
 simp only [stU, stC, b77, Tryz.f77]
 intro k
 have stop : ∀ (i : Nat) (t : Tr AV) (H : Tr AO) (hs : Nat), i <= a.length -> i <= b.length -> ¬ (i < a.length /\ i < b.length) -> t.get .any 0 = .str a -> t.get .any 1 = .str b -> t.get .any 5 = .lit (.int .i64 i) ->
  RetN (W tab none (fin tab fi77) (lpc fi77 0) (lpk fi77 0) ⟨t, 42, H, hs, [], ⟨true, true, gl⟩⟩) (.lit (.int .i64 (Lib.compareBytes (a.drop i) (b.drop i)))) := by
  simp only [stU, stC, b77, Tryz.f77]
  intro i t H hs h1 h2 h3 a0 a1 a5
  rw [W_loop, cmpB_end h1 h2 h3]
  unfold cmpI
  cases e1 : decide ((i : Int) < a.length) with
  | false => cases e3 : decide ((a.length : Int) < b.length) with
   | true => simp only [sG, seval, x77, a0, a1, a5, e1, e3]
   | false => cases e4 : decide ((b.length : Int) < a.length) <;> simp only [sG, seval, x77, a0, a1, a5, e1, e3, e4]
  | true =>
   have e2 : decide ((i : Int) < b.length) = false := by rw [decide_eq_false_iff_not]; rw [decide_eq_true_iff] at e1; omega
   cases e3 : decide ((a.length : Int) < b.length) with
   | true => simp only [sG, seval, x77, a0, a1, a5, e1, e2, e3]
   | false => cases e4 : decide ((b.length : Int) < a.length) <;> simp only [sG, seval, x77, a0, a1, a5, e1, e2, e3, e4]
 simp only [stU, stC, b77, Tryz.f77] at stop
 induction k with
 | zero => intro i t H hs hi hb a0 a1 a5; exact stop i t H hs (by omega) hb (by omega) a0 a1 a5
 | succ k ih =>
  intro i t H hs hi hb a0 a1 a5
  by_cases hx : i < b.length
  ·obtain ⟨x, y, e6, e7, e8⟩ := cmpB_drop (a := a) (b := b) (i := i) (by omega) hx
   have e1 : decide ((i : Int) < a.length) = true := dcT (by omega)
   have e2 : decide ((i : Int) < b.length) = true := dcT (by omega)
   have e3 : decide (0 <= (i : Int)) = true := dcT (by omega)
   have e5 := wrap_succ (i := i) (by omega)
   rw [W_loop, e8]
   by_cases h1 : x < y
   ·have u1 := decide_eq_true h1
    simp only [sG, seval, x77, a0, a1, a5, e1, e2, e3, e6, e7, D, u8_lt, h1, Int.toNat_natCast]
   ·have u1 := decide_eq_false h1
    by_cases h2 : y < x
    ·have u2 := decide_eq_true h2
     simp only [sG, seval, x77, a0, a1, a5, e1, e2, e3, e6, e7, D, u8_lt, h1, h2, Int.toNat_natCast]
    ·have u2 := decide_eq_false h2
     simp only [sG, seval, a0, a1, a5, e1, e2, e3, e5, e6, e7, D, u8_lt, h1, h2, Int.toNat_natCast]
     apply ih (i + 1) _ _ _ (by omega) (by omega)
     all_goals simp only [sG, seval, a0, a1]
  ·exact stop i t H hs (by omega) hb (by omega) a0 a1 a5
theorem eq77 {m : Md} {a b : List UInt8} (hl : a.length <= 9223372036854775807) : iso tab fi77 m [.str a, .str b] = some (.lit (.int .i64 (Lib.compareBytes a b))) := by
 refine iso_ret ?_
 have L := @loop77 a b m.gl hl a.length 0
 simp only [stU, stC, b77, Tryz.f77] at L
 simp only [sG, seval, x77, stU, b77, Tryz.f77]
 apply L
 ·simp
 ·simp
 all_goals simp only [sG, seval]
 all_goals rfl
theorem call77 {m : Md} {a b : List UInt8} {H : Tr AO} {hs : Nat} (hl : a.length <= 9223372036854775807) : callF tab (evw tab) m 77 [.str a, .str b] H hs = some (.lit (.int .i64 (Lib.compareBytes a b)), H, hs) := callF_iso tcon rfl rfl rfl (eq77 hl)
theorem bool_cmp (a b : Bool) : cmpI (tr a) (tr b) = bif a == b then 0 else bif b then -1 else 1 := by cases a <;> cases b <;> rfl
theorem eq52 {m : Md} {a b : Vl} (hl : a.s.length <= 9223372036854775807) : iso tab fi52 m [encV a, encV b] = some (.lit (.int .i64 (vcmp a b))) := by
 refine iso_ret ?_
 unfold vcmp
 cases h1 : decide (a.k < b.k) with
 | true =>
  have h0 : decide (a.k = b.k) = false := by rw [decide_eq_false_iff_not]; rw [decide_eq_true_iff] at h1; omega
  simp only [sG, seval, x52, stU, b52, Tryz.f52, encV, cmpI, h0, h1]
 | false =>
  cases h2 : decide (b.k < a.k) with
  | true =>
   have h0 : decide (a.k = b.k) = false := by rw [decide_eq_false_iff_not]; rw [decide_eq_true_iff] at h2; omega
   simp only [sG, seval, x52, stU, b52, Tryz.f52, encV, cmpI, h0, h1, h2]
  | false =>
   have h0 : decide (a.k = b.k) = true := by rw [decide_eq_true_iff]; rw [decide_eq_false_iff_not] at h1 h2; omega
   cases h3 : decide (a.k = 1) with
   | true =>
    rw [bool_cmp]
    cases h4 : a.b == b.b with
    | true => simp only [sG, seval, x52, stU, b52, Tryz.f52, encV, h0, h1, h2, h3, h4, bb1]
    | false => cases h5 : b.b <;> rw [h5] at h4 <;> simp only [sG, seval, x52, stU, b52, Tryz.f52, encV, h0, h1, h2, h3, h4, h5, bb1]
   | false =>
    cases h4 : decide (a.k = 2) with
    | true =>
     unfold cmpI
     cases h5 : decide (a.n < b.n) with
     | true => simp only [sG, seval, x52, stU, b52, Tryz.f52, encV, h0, h1, h2, h3, h4, h5]
     | false => cases h6 : decide (b.n < a.n) <;> simp only [sG, seval, x52, stU, b52, Tryz.f52, encV, h0, h1, h2, h3, h4, h5, h6]
    | false => cases h5 : decide (a.k = 3) <;> simp only [sG, seval, x52, stU, b52, Tryz.f52, encV, h0, h1, h2, h3, h4, h5, call77 hl]
theorem call52 {m : Md} {a b : Vl} {H : Tr AO} {hs : Nat} (hl : a.s.length <= 9223372036854775807) : callF tab (evw tab) m 52 [encV a, encV b] H hs = some (.lit (.int .i64 (vcmp a b)), H, hs) := callF_iso tcon rfl rfl rfl (eq52 hl)
theorem vne {p q : Operand} {k n : Int} {b : Bool} {s : List UInt8} : binO tab .neq 47 p q (some (.agg [.lit (.int .i64 k), .lit (.bool b), .lit (.int .i64 n), .str s])) (some (.agg [.lit (.int .i64 k), .lit (.bool b), .lit (.int .i64 n), .str s])) = some (.lit (.bool false)) := by
 simp [binO, binV, eqv, eqFields, part', isAggD, tt47, tt3, tt4, tt2, tt9]
theorem loop25 {a : Row} {gl : Tr (Option AV)} (hl : a.length < 9223372036854775807) : ∀ (k i : Nat) (t : Tr AV) (H : Tr AO) (hs : Nat), i + k = a.length ->
  t.get .any 0 = encR a -> t.get .any 1 = encR a -> t.get .any 5 = .lit (.int .i64 i) ->
  RetN (W tab none (fin tab fi25) (lpc fi25 0) (lpk fi25 0) ⟨t, 26, H, hs, [], ⟨true, true, gl⟩⟩) (.lit (.bool true)) := by
 have D := d25
 simp only [stD, stC, List.cons.injEq, b25, Tryz.f25] at D
 simp only [stU, stC, b25, Tryz.f25]
 intro k
 induction k with
 | zero =>
  intro i t H hs hi a0 a1 a5
  have e1 : decide ((i : Int) < (a).length) = false := dcF (by omega)
  rw [W_loop]
  simp only [sG, seval, x25, encR, a0, a5, e1, List.length_map]
 | succ k ih =>
  intro i t H hs hi a0 a1 a5
  have hlt : i < (a).length := by omega
  obtain ⟨x, hv, e1, e3, e4, e6, e7⟩ := atS hlt
  have e5 := wrap_succ (i := i) (by omega)
  rw [W_loop]
  simp only [sG, seval, encR, encV, Vl.cs, a0, a1, a5, e1, e3, e4, e5, lG, vne, D]
  apply ih (i + 1) _ _ _ (by omega)
  all_goals simp only [sG, seval, encR, a0, a1]
theorem eq25 {m : Md} {a : Row} (hl : a.length < 9223372036854775807) : iso tab fi25 m [encR a, encR a] = some (.lit (.bool true)) := by
 refine iso_ret ?_
 have L := @loop25 a m.gl hl a.length 0
 simp only [stU, stC, b25, Tryz.f25] at L
 simp only [sG, seval, x25, stU, b25, Tryz.f25, encR, List.length_map]
 apply L
 ·simp
 all_goals simp only [sG, seval, encR]
 all_goals rfl
theorem call25 {m : Md} {k1 k2 : ATk} {a : Row} {H : Tr AO} {hs : Nat} (hl : a.length < 9223372036854775807) : callF tab (evw tab) m 25 [.lst k1 (a.map encV), .lst k2 (a.map encV)] H hs = some (.lit (.bool true), H, hs) :=
 callF_iso tcon rfl rfl (by simp only [sG, seval, dBN]) (by have := @eq25 m a hl; simp only [sG, seval, dBN, encR] at this ⊢; exact this)
theorem loop89 {a b : Row} {gl : Tr (Option AV)} (hl : a.length < 9223372036854775807) (ha : ∀ v ∈ a, v.s.length <= 9223372036854775807) : ∀ (k i : Nat) (t : Tr AV) (H : Tr AO) (hs : Nat), i + k = a.length -> i <= b.length ->
  t.get .any 0 = encR a -> t.get .any 1 = encR b -> t.get .any 5 = .lit (.int .i64 i) ->
  RetN (W tab none (fin tab fi89) (lpc fi89 0) (lpk fi89 0) ⟨t, 41, H, hs, [], ⟨true, true, gl⟩⟩) (.lit (.int .i64 (rcmp (a.drop i) (b.drop i)))) := by
 have C : ∀ (a b : Vl) (m : Md) (H : Tr AO) (hs : Nat), a.s.length <= 9223372036854775807 -> callF tab (evw tab) m 52 [.agg a.cs, .agg b.cs] H hs = some (.lit (.int .i64 (vcmp a b)), H, hs) := fun _ _ _ _ _ h => call52 h
 simp only [Vl.cs] at C
 have D := d89
 simp only [stD, stC, List.cons.injEq, b89, Tryz.f89] at D
 simp only [stU, stC, b89, Tryz.f89]
 intro k
 induction k with
 | zero =>
  intro i t H hs hi hb a0 a1 a5
  have e1 : decide ((i : Int) < (a).length) = false := dcF (by omega)
  rw [W_loop, List.drop_of_length_le (l := a) (by omega), rcmp_l]
  have e2 : decide ((0 : Int) < ((b.drop i).length : Nat)) = decide ((a.length : Int) < b.length) := by
   rw [List.length_drop, Bool.eq_iff_iff, decide_eq_true_iff, decide_eq_true_iff]; omega
  rw [e2]
  cases e3 : decide ((a.length : Int) < b.length) with
  | true => simp only [sG, seval, x89, encR, a0, a1, a5, e1, e3, List.length_map]
  | false =>
   have e4 : decide ((b.length : Int) < a.length) = false := dcF (by omega)
   simp only [sG, seval, x89, encR, a0, a1, a5, e1, e3, e4, List.length_map]
 | succ k ih =>
  intro i t H hs hi hb a0 a1 a5
  have hlt : i < (a).length := by omega
  obtain ⟨x, hv, e1, e3, e4, e6, e7⟩ := atS hlt
  have e5 := wrap_succ (i := i) (by omega)
  have hx0 : x.s.length <= 9223372036854775807 := by rw [<- hv]; exact ha _ (List.getElem_mem _)
  rw [W_loop, e6]
  by_cases hx : i < b.length
  ·have g1 : decide ((i : Int) < b.length) = true := dcT (by omega)
   have g4 : b[i]? = some b[i] := List.getElem?_eq_getElem _
   rw [List.drop_eq_getElem_cons hx, rcmp]
   generalize b[i] = y at g4
   cases hc : decide (vcmp x y = 0) with
   | true =>
    simp only [sG, seval, encR, encV, Vl.cs, C _ _ _ _ _ hx0, a0, a1, a5, e1, e3, e4, e5, lG, g1, g4, hc, D]
    apply ih (i + 1) _ _ _ (by omega) (by omega)
    all_goals simp only [sG, seval, encR, a0, a1]
   | false => simp only [sG, seval, x89, encR, encV, Vl.cs, C _ _ _ _ _ hx0, a0, a1, a5, e1, e3, e4, lG, g1, g4, hc, D]
  ·have g1 : decide ((i : Int) < b.length) = false := dcF (by omega)
   have g2 : decide ((a.length : Int) < b.length) = false := dcF (by omega)
   have g3 : decide ((b.length : Int) < a.length) = true := dcT (by omega)
   rw [List.drop_of_length_le (l := b) (by omega), rcmp]
   simp only [sG, seval, x89, encR, a0, a1, a5, e1, List.length_map, g1, g2, g3]
theorem eq89 {m : Md} {a b : Row} (hl : a.length < 9223372036854775807) (ha : ∀ v ∈ a, v.s.length <= 9223372036854775807) : iso tab fi89 m [encR a, encR b] = some (.lit (.int .i64 (rcmp a b))) := by
 refine iso_ret ?_
 have L := @loop89 a b m.gl hl ha a.length 0
 simp only [stU, stC, b89, Tryz.f89] at L
 simp only [sG, seval, x89, stU, b89, Tryz.f89, encR]
 apply L
 ·simp
 ·simp
 all_goals simp only [sG, seval, encR]
 all_goals rfl
theorem call89 {m : Md} {k1 k2 : ATk} {a b : Row} {H : Tr AO} {hs : Nat} (hl : a.length < 9223372036854775807) (ha : ∀ v ∈ a, v.s.length <= 9223372036854775807) : callF tab (evw tab) m 89 [.lst k1 (a.map encV), .lst k2 (b.map encV)] H hs = some (.lit (.int .i64 (rcmp a b)), H, hs) :=
 callF_iso tcon rfl rfl (by simp only [sG, seval, dBN]) (by have := @eq89 m a b hl ha; simp only [sG, seval, dBN, encR] at this ⊢; exact this)
theorem eq90 {m : Md} {a b : Row} (hl : a.length < 9223372036854775807) (ha : ∀ v ∈ a, v.s.length <= 9223372036854775807) : iso tab fi90 m [encR a, encR b] = some (.lit (.bool (decide (rcmp a b = 0)))) := by
 refine iso_ret ?_
 simp only [sG, seval, x90, stU, b90, Tryz.f90, encR, call89 hl ha]
theorem call90 {m : Md} {k1 k2 : ATk} {a b : Row} {H : Tr AO} {hs : Nat} (hl : a.length < 9223372036854775807) (ha : ∀ v ∈ a, v.s.length <= 9223372036854775807) : callF tab (evw tab) m 90 [.lst k1 (a.map encV), .lst k2 (b.map encV)] H hs = some (.lit (.bool (decide (rcmp a b = 0))), H, hs) :=
 callF_iso tcon rfl rfl (by simp only [sG, seval, dBN]) (by have := @eq90 m a b hl ha; simp only [sG, seval, dBN, encR] at this ⊢; exact this)
def encK (p : ATk × En) : AV := .agg [.lst p.1 (p.2.r.map encV), .lit (.int .i64 p.2.m)]
def LstV (A : AV) (es : List AV) : Prop := (es = [] /\ A = .lit (.slice none 0 0)) ∨ ∃ tk, A = .lst tk es
def pos : List En -> Row -> Nat
 | [], _ => 0
 | e :: l, r => bif decide (rcmp e.r r < 0) then pos l r + 1 else 0
def isAt : List En -> Row -> Bool
 | [], _ => false
 | e :: l, r => bif decide (rcmp e.r r < 0) then isAt l r else decide (rcmp e.r r = 0)
def rmany : List En -> Row -> Int
 | [], _ => 0
 | e :: l, r => bif decide (rcmp e.r r < 0) then rmany l r else bif decide (rcmp e.r r = 0) then e.m else 0
def OkE (e : En) : Prop := e.r.length < 1000000 /\ ∀ v ∈ e.r, v.s.length <= 9223372036854775807
theorem isAt_get : ∀ {l : List En} {r : Row}, isAt l r = true -> ∃ e, l[pos l r]? = some e /\ rmany l r = e.m /\ rcmp e.r r = 0
 | [], _, h => by cases h
 | e :: l, r, h => by
  unfold isAt at h
  unfold pos rmany
  cases h1 : decide (rcmp e.r r < 0) with
  | true =>
   rw [h1, cond_true] at h
   obtain ⟨x, a, b, c⟩ := isAt_get h
   exact ⟨x, by simpa using a, b, c⟩
  | false =>
   rw [h1, cond_false] at h
   rw [cond_false, cond_false, h, cond_true]
   exact ⟨e, rfl, rfl, of_decide_eq_true h⟩
theorem isAt_no : ∀ {l : List En} {r : Row}, isAt l r = false -> rmany l r = 0
 | [], _, _ => rfl
 | e :: l, r, h => by
  unfold isAt at h
  unfold rmany
  cases h1 : decide (rcmp e.r r < 0) with
  | true => rw [h1, cond_true] at h; rw [cond_true]; exact isAt_no h
  | false => rw [h1, cond_false] at h; rw [cond_false, h, cond_false]
theorem pos_le : ∀ {l : List En} {r : Row}, pos l r <= l.length
 | [], _ => Nat.zero_le _
 | e :: l, r => by
  unfold pos
  cases decide (rcmp e.r r < 0) with
  | true => have := pos_le (l := l) (r := r); simp only [cond_true, List.length_cons]; omega
  | false => exact Nat.zero_le _
theorem encK_map {ps : List (ATk × En)} : (ps.map encK).length = ps.length := List.length_map _
def ents (ps : List (ATk × En)) : List En := ps.map (·.2)
theorem loopFind {ps : List (ATk × En)} {tk k1 : ATk} {r : Row} {gl : Tr (Option AV)} {H : Tr AO} {hs B : Nat} {w : Bool} (hl : ps.length < 1000000) (he : ∀ p ∈ ps, OkE p.2) (hB : H.get .dead B = .cells [.lst tk (ps.map encK)] w) : ∀ (k i : Nat) (t : Tr AV), i + k = ps.length ->
  t.get .any 0 = .ptr B 0 -> t.get .any 1 = .lst k1 (r.map encV) -> t.get .any 6 = .lit (.int .i64 i) ->
  W tab none (fin tab fi76) (lpc fi76 0) (lpk fi76 0) ⟨t, 49, H, hs, [], ⟨true, true, gl⟩⟩ = some (.tup [.lit (.int .i64 ((i + pos (ents (ps.drop i)) r : Nat) : Int)), .lit (.bool (isAt (ents (ps.drop i)) r))], H, hs) := by
 simp only [stU, stC, b76, Tryz.f76]
 intro k
 induction k with
 | zero =>
  intro i t hi a0 a1 a6
  have e1 : decide ((i : Int) < (ps).length) = false := dcF (by omega)
  rw [W_loop, List.drop_of_length_le (l := ps) (by omega)]
  simp only [sG, seval, x76, a0, a6, hB, e1, List.length_map, ents, pos, isAt]
 | succ k ih =>
  intro i t hi a0 a1 a6
  have hlt : i < (ps).length := by omega
  obtain ⟨p, hv, e1, e3, e4, e6, e7⟩ := atS hlt
  have e5 := wrap_succ (i := i) (by omega)
  have hp : p ∈ ps := by rw [<- hv]; exact List.getElem_mem _
  obtain ⟨tp, e⟩ := p
  have ho : OkE e := he _ hp
  have c89 := fun m H hs => @call89 m tp k1 e.r r H hs (by have := ho.1; omega) ho.2
  have c90 := fun m H hs => @call90 m tp k1 e.r r H hs (by have := ho.1; omega) ho.2
  rw [W_loop, e6]
  simp only [ents, List.map_cons, pos, isAt]
  cases h1 : decide (rcmp e.r r < 0) with
  | true =>
   rw [cond_true, cond_true]
   have := ih (i + 1)
   rw [show i + (pos (List.map (fun x => x.2) (ps.drop (i + 1))) r + 1) = i + 1 + pos (List.map (fun x => x.2) (ps.drop (i + 1))) r by omega]
   simp (maxSteps := 2000000) only [sG, seval, a0, a1, a6, hB, encK, e1, e3, e4, e5, lG, c89, h1]
   apply this _ (by omega)
   all_goals simp only [sG, seval, a0, a1]
  | false =>
   rw [cond_false, cond_false]
   simp (maxSteps := 2000000) only [sG, seval, x76, a0, a1, a6, hB, encK, e1, e3, e4, lG, c89, c90, h1]
theorem cRFind {m : Md} {ps : List (ATk × En)} {A : AV} {k1 : ATk} {r : Row} {H : Tr AO} {hs B : Nat} {w : Bool} (hl : ps.length < 1000000) (he : ∀ p ∈ ps, OkE p.2) (hB : H.get .dead B = .cells [A] w) (hA : LstV A (ps.map encK)) :
  callF tab (evw tab) m 76 [.ptr B 0, .lst k1 (r.map encV)] H hs = some (.tup [.lit (.int .i64 ((pos (ents ps) r : Nat) : Int)), .lit (.bool (isAt (ents ps) r))], H, hs) := by
 rw [callF_in (fi := fi76) tcon rfl rfl rfl]
 rcases hA with ⟨e0, rfl⟩ | ⟨tk, rfl⟩
 ·have e1 : ps = [] := List.map_eq_nil_iff.1 e0
  subst e1
  have z1 : decide ((0 : Int) < ((0 : Nat) : Int)) = false := rfl
  have z2 : decide ((0 : Int) < 0) = false := rfl
  simp only [sG, seval, x76, stU, b76, Tryz.f76, hB, W_loop, ents, pos, isAt]
  all_goals rfl
 ·have L := @loopFind ps tk k1 r m.gl H hs B w hl he hB ps.length 0
  simp only [stU, stC, b76, Tryz.f76] at L
  simp only [sG, seval, x76, stU, b76, Tryz.f76]
  apply L
  ·trivial
  all_goals simp only [sG, seval]
  all_goals rfl
theorem ents_get {ps : List (ATk × En)} {n : Nat} {e : En} (h : (ents ps)[n]? = some e) : ∃ tk, ps[n]? = some (tk, e) := by
 unfold ents at h
 rw [List.getElem?_map] at h
 cases hp : ps[n]? with
 | none => rw [hp] at h; cases h
 | some p => rw [hp] at h; cases h; exact ⟨p.1, rfl⟩
theorem cRMany {m : Md} {ps : List (ATk × En)} {A : AV} {k1 : ATk} {r : Row} {H : Tr AO} {hs B : Nat} {w : Bool} (hl : ps.length < 1000000) (he : ∀ p ∈ ps, OkE p.2) (hB : H.get .dead B = .cells [A] w) (hA : LstV A (ps.map encK)) :
  callF tab (evw tab) m 73 [.ptr B 0, .lst k1 (r.map encV)] H hs = some (.lit (.int .i64 (rmany (ents ps) r)), H, hs) := by
 rw [callF_in (fi := fi73) tcon rfl rfl rfl]
 have c := fun m hs => @cRFind m ps A k1 r H hs B w hl he hB hA
 cases h1 : isAt (ents ps) r with
 | false =>
  rw [isAt_no h1]
  simp only [h1] at c
  simp only [sG, seval, x73, stU, b73, Tryz.f73, c]
 | true =>
  simp only [h1] at c
  obtain ⟨e, g1, g2, g3⟩ := isAt_get h1
  obtain ⟨tk, g4⟩ := ents_get g1
  have d1 : decide (0 <= ((pos (ents ps) r : Nat) : Int)) = true := dcT (by omega)
  rcases hA with ⟨e0, rfl⟩ | ⟨tk2, rfl⟩
  ·have e1 : ps = [] := List.map_eq_nil_iff.1 e0
   subst e1; cases h1
  ·rw [g2]
   simp only [sG, seval, x73, stU, b73, Tryz.f73, hB, c, d1, g4, List.getElem?_map, Int.toNat_natCast, encK]
theorem cRFew {m : Md} {n : Int} {H : Tr AO} {hs : Nat} : callF tab (evw tab) m 75 [.lit (.int .i64 n)] H hs = some (.lit (.bool (fewI n)), H, hs) := by
 rw [callF_in (fi := fi75) tcon rfl rfl rfl]
 unfold fewI
 cases h1 : decide (-1073741824 <= n) with
 | false => simp only [sG, seval, x75, stU, b75, Tryz.f75, h1]
 | true => cases h2 : decide (n <= 1073741824) <;> simp only [sG, seval, x75, stU, b75, Tryz.f75, h1, h2]
def vr2 (v : Vl) : Bool := !(decide (v.k < 0) || (decide (3 < v.k) || ((!decide (v.k = 1) && v.b) || ((!decide (v.k = 2) && !decide (v.n = 0)) || (!decide (v.k = 3) && !(v.s == [])))))) && decide ((v.s.length : Int) <= 60)
theorem vr2_eq (v : Vl) : vr2 v = vright v := by
 obtain ⟨k, b, n, s⟩ := v
 unfold vr2 vright veq v0
 simp only
 by_cases h0 : k = 0
 ·subst h0; cases b <;> cases hs : s == [] <;> simp_all
 ·by_cases h1 : k = 1
  ·subst h1; cases hs : s == [] <;> simp_all
  ·by_cases h2 : k = 2
   ·subst h2; cases b <;> cases hs : s == [] <;> simp_all
   ·by_cases h3 : k = 3
    ·subst h3; cases b <;> simp_all
    ·have : (decide (k < 0) || decide (3 < k)) = true := by
      rw [Bool.or_eq_true, decide_eq_true_iff, decide_eq_true_iff]; omega
     simp only [h0, h1, h2, h3, decide_false, cond_false]
     rw [Bool.or_eq_true] at this
     rcases this with h | h <;> simp [h]
theorem eqRRight {m : Md} {v : Vl} : iso tab fi88 m [encV v] = some (.lit (.bool (vright v))) := by
 rw [<- vr2_eq]
 refine iso_ret ?_
 unfold vr2
 cases h0 : decide (v.k < 0) with
 | true => simp only [sG, seval, x88, stU, b88, Tryz.f88, encV, Vl.cs, h0]
 | false =>
  cases h1 : decide (3 < v.k) with
  | true => simp only [sG, seval, x88, stU, b88, Tryz.f88, encV, Vl.cs, h0, h1]
  | false =>
   have e1 : ∀ a b : Bool, (a = true /\ True) ∨ (a = false /\ b = true) ∨ (a = false /\ b = false) := by decide
   rcases e1 (decide (v.k = 1)) v.b with ⟨h2, h3⟩ | ⟨h2, h3⟩ | ⟨h2, h3⟩ <;> rcases e1 (decide (v.k = 2)) (decide (v.n = 0)) with ⟨h4, h5⟩ | ⟨h4, h5⟩ | ⟨h4, h5⟩ <;> rcases e1 (decide (v.k = 3)) (v.s == []) with ⟨h6, h7⟩ | ⟨h6, h7⟩ | ⟨h6, h7⟩ <;>
    simp only [sG, seval, x88, stU, b88, Tryz.f88, encV, Vl.cs, h0, h1, h2, h3, h4, h5, h6, h7]
theorem cRRight1 {m : Md} {v : Vl} {H : Tr AO} {hs : Nat} : callF tab (evw tab) m 88 [encV v] H hs = some (.lit (.bool (vright v)), H, hs) := callF_iso tcon rfl rfl rfl eqRRight
theorem loopRR {r : Row} {gl : Tr (Option AV)} (hl : r.length < 1000000) : ∀ (k i : Nat) (t : Tr AV) (H : Tr AO) (hs : Nat), i + k = r.length ->
  t.get .any 0 = .lst .no (r.map encV) -> t.get .any 3 = .lit (.int .i64 i) ->
  RetN (W tab none (fin tab fi74) (lpc fi74 0) (lpk fi74 0) ⟨t, 19, H, hs, [], ⟨true, true, gl⟩⟩) (.lit (.bool ((r.drop i).all vright))) := by
 simp only [stU, stC, b74, Tryz.f74]
 intro k
 induction k with
 | zero =>
  intro i t H hs hi a0 a3
  have e1 : decide ((i : Int) < (r).length) = false := dcF (by omega)
  rw [W_loop, List.drop_of_length_le (by omega)]
  simp only [sG, seval, x74, a0, a3, e1, List.length_map]
 | succ k ih =>
  intro i t H hs hi a0 a3
  have hlt : i < (r).length := by omega
  obtain ⟨v, hv, e1, e3, e4, e6, e7⟩ := atS hlt
  have e5 := wrap_succ (i := i) (by omega)
  have c := fun m H hs => @cRRight1 m v H hs
  simp only [encV, Vl.cs] at c
  rw [W_loop, e6, List.all_cons]
  cases h1 : vright v with
  | false =>
   simp only [h1] at c
   simp only [sG, seval, x74, a0, a3, encV, Vl.cs, e1, e3, e4, lG, c]
  | true =>
   simp only [h1] at c
   rw [Bool.true_and]
   simp only [sG, seval, a0, a3, encV, Vl.cs, e1, e3, e4, e5, lG, c]
   apply ih (i + 1) _ _ _ (by omega)
   all_goals simp only [sG, seval, a0]
theorem cRRight {m : Md} {tk : ATk} {r : Row} {H : Tr AO} {hs : Nat} (hl : r.length < 1000000) : callF tab (evw tab) m 74 [.lst tk (r.map encV)] H hs = some (.lit (.bool (rright r)), H, hs) := by
 refine callF_iso tcon rfl rfl (by simp only [sG, seval, dBN]) ?_
 simp only [nrms, nrm, nrms_V]
 refine iso_ret ?_
 unfold rright
 have L := @loopRR r m.gl hl r.length 0
 simp only [stU, stC, b74, Tryz.f74] at L
 cases h0 : decide ((r.length : Int) <= 40) with
 | false =>
  have h1 : decide ((40 : Int) < r.length) = true := by rw [decide_eq_true_iff]; have := of_decide_eq_false h0; omega
  simp only [sG, seval, x74, stU, b74, Tryz.f74, h1, List.length_map]
 | true =>
  have h1 : decide ((40 : Int) < r.length) = false := by rw [decide_eq_false_iff_not]; have := of_decide_eq_true h0; omega
  simp only [sG, seval, x74, stU, b74, Tryz.f74, h1, List.length_map]
  apply L
  ·simp
  all_goals simp only [sG, seval]
  all_goals rfl
def AccL (lo : Nat) (H : Tr AO) (hs sz : Nat) (A : AV) (es : List AV) : Prop := (es = [] /\ (A = .lit (.slice none 0 0) ∨ A = .lst .full [])) ∨ ∃ r, A = .lst (.room r) es /\ H.get .dead r = .room sz /\ lo <= r /\ r < hs
theorem AccL.app {lo : Nat} {H : Tr AO} {hs sz b : Nat} {agg : Bool} {A : AV} {tk : ATk} {es ys : List AV} (h : AccL lo H hs sz A es) (hlo : lo <= hs) (hy : ∀ y ∈ ys, elOk sz y = true) (hb : (4 * (es.length + ys.length) + 4000) * b <= 281474976710656) :
  ∃ tk' H' hs', appendO H hs true agg sz b (some A) (some (.lst tk ys)) = some (.lst tk' (es ++ ys), H', hs') /\ AccL lo H' hs' sz (.lst tk' (es ++ ys)) (es ++ ys) /\ hs <= hs' /\ ∀ q, q < hs -> (q < lo ∨ (H.get .dead q).isRoom = false) -> H'.get .dead q = H.get .dead q := by
 have hall : ys.all (fun e => sizeOk sz e && flatOk e && e.cells.all oneCell) = true := by
  rw [List.all_eq_true]; exact fun y hm => hy y hm
 have hall2 : ys.all (sizeOk sz) = true := by
  rw [List.all_eq_true]; intro y hm; have := hy y hm; unfold elOk at this; simp only [Bool.and_eq_true] at this; exact this.1.1
 have hble : Nat.ble ((4 * (es.length + ys.length) + 4000) * b) 281474976710656 = true := ble_le.2 hb
 cases ys with
 | nil =>
  rcases h with ⟨rfl, rfl | rfl⟩ | ⟨r, rfl, h1, h2, h3⟩
  ·exact ⟨.full, H, hs, rfl, .inl ⟨rfl, .inr rfl⟩, Nat.le_refl _, fun _ _ _ => rfl⟩
  ·exact ⟨.full, H, hs, rfl, .inl ⟨rfl, .inr rfl⟩, Nat.le_refl _, fun _ _ _ => rfl⟩
  ·rw [List.append_nil]
   exact ⟨.room r, H, hs, rfl, .inr ⟨r, rfl, h1, h2, h3⟩, Nat.le_refl _, fun _ _ _ => rfl⟩
 | cons y ys =>
  rcases h with ⟨rfl, rfl | rfl⟩ | ⟨r, rfl, h1, h2, h3⟩
  ·refine ⟨.room hs, H.put .dead hs (.room sz), hs + 1, ?_, .inr ⟨hs, rfl, by rw [Tr.get_put, if_pos rfl], hlo, Nat.lt_succ_self _⟩, Nat.le_succ _, fun q h1 h2 => by rw [Tr.get_put, if_neg (by omega)]⟩
   simp only [appendO, lstX, lstOf, cond_true, srcElems, hall2, appendL, hall, hble, Bool.and_self, List.all_nil, List.nil_append]
  ·refine ⟨.room hs, H.put .dead hs (.room sz), hs + 1, ?_, .inr ⟨hs, rfl, by rw [Tr.get_put, if_pos rfl], hlo, Nat.lt_succ_self _⟩, Nat.le_succ _, fun q h1 h2 => by rw [Tr.get_put, if_neg (by omega)]⟩
   simp only [appendO, lstX, lstOf, cond_true, srcElems, hall2, appendL, hall, hble, Bool.and_self, List.all_nil, List.nil_append]
  ·refine ⟨.room hs, (H.put .dead r .dead).put .dead hs (.room sz), hs + 1, ?_, .inr ⟨hs, rfl, by rw [Tr.get_put, if_pos rfl], hlo, Nat.lt_succ_self _⟩, Nat.le_succ _, fun q h4 h5 => ?_⟩
   ·simp only [appendO, lstX, lstOf, cond_true, srcElems, hall2, appendL, hall, hble, Bool.and_self, h1, Nat.beq_refl]
   ·rw [Tr.get_put, if_neg (by omega), Tr.get_put, if_neg]
    rintro rfl
    rw [h1] at h5
    rcases h5 with h5 | h5
    ·omega
    ·cases h5
theorem AccL.upd {lo : Nat} {H H' : Tr AO} {hs hs' sz : Nat} {A : AV} {es : List AV} (h : AccL lo H hs sz A es) (hh : hs <= hs') (hu : ∀ q, lo <= q -> q < hs -> (H.get .dead q).isRoom = true -> H'.get .dead q = H.get .dead q) : AccL lo H' hs' sz A es := by
 rcases h with h | ⟨r, rfl, h1, h2, h3⟩
 ·exact .inl h
 ·exact .inr ⟨r, rfl, by rw [hu r h2 h3 (by rw [h1]; rfl)]; exact h1, h2, by omega⟩
theorem AccL.nil {lo : Nat} {H : Tr AO} {hs sz : Nat} : AccL lo H hs sz (.lit (.slice none 0 0)) [] := .inl ⟨rfl, .inl rfl⟩
def rowAt (l : List En) (r : Row) : Row := match l[pos l r]? with | some e => bif isAt l r then e.r else r | none => r
theorem bset_pos : ∀ (l : List En) (r : Row) (m : Int), bset l r m = l.take (pos l r) ++ ((bif decide (m = 0) then [] else [⟨rowAt l r, m⟩]) ++ l.drop (bif isAt l r then pos l r + 1 else pos l r))
 | [], r, m => by
  unfold bset pos isAt rowAt
  cases decide (m = 0) <;> rfl
 | e :: l, r, m => by
  unfold bset
  have ih := bset_pos l r m
  cases h1 : decide (rcmp e.r r < 0) with
  | true =>
   have p1 : pos (e :: l) r = pos l r + 1 := by rw [pos, h1]; rfl
   have p2 : isAt (e :: l) r = isAt l r := by rw [isAt, h1]; rfl
   have p3 : rowAt (e :: l) r = rowAt l r := by unfold rowAt; rw [p1, p2]; rfl
   rw [cond_true, ih, p1, p2, p3]
   cases isAt l r <;> rfl
  | false =>
   have p1 : pos (e :: l) r = 0 := by rw [pos, h1]; rfl
   have p2 : isAt (e :: l) r = decide (rcmp e.r r = 0) := by rw [isAt, h1]; rfl
   have p3 : rowAt (e :: l) r = bif decide (rcmp e.r r = 0) then e.r else r := by unfold rowAt; rw [p1, p2]; rfl
   rw [cond_false, p1, p2, p3]
   cases decide (rcmp e.r r = 0) <;> cases decide (m = 0) <;> rfl
theorem rmany_bmany : ∀ {l : List En} {r : Row}, Srt l -> rmany l r = bmany l r
 | [], _, _ => rfl
 | e :: l, r, h => by
  obtain ⟨h4, h5⟩ := h.cons
  unfold rmany bmany
  rw [bget_cons]
  cases h1 : decide (rcmp e.r r < 0) with
  | true =>
   have h2 : decide (rcmp e.r r = 0) = false := by have := of_decide_eq_true h1; rw [decide_eq_false_iff_not]; omega
   rw [h2, cond_true, cond_false, rmany_bmany h4]; rfl
  | false =>
   rw [cond_false]
   cases h2 : decide (rcmp e.r r = 0) with
   | true => rfl
   | false =>
    rw [cond_false, cond_false, bget_ahead]
    intro x hx
    have := h5 x hx
    have h6 := of_decide_eq_false h1
    have h7 := of_decide_eq_false h2
    exact rcmp_ord.lt (rc_gt.1 (by omega)) this
theorem elK (p : ATk × En) : elOk 2 (encK p) = true := rfl
theorem elV (v : Vl) : elOk 4 (encV v) = true := rfl
theorem sizeK (ps : List (ATk × En)) : (ps.map encK).all (sizeOk 2) = true := all_map (fun _ => rfl) ps
structure RbAt (H : Tr AO) (B : Nat) (l : List En) : Prop where
 ex : ∃ A ps, H.get .dead B = .cells [A] false /\ LstV A (ps.map encK) /\ ents ps = l
 srt : Srt l
 en : ∀ e ∈ l, OkE e /\ -1073741824 <= e.m /\ e.m <= 1073741824
 sz : l.length < 900000
theorem rchain {H : Tr AO} {hs n : Nat} {a b : List AV} {y : AV} (ha : ∀ z ∈ a, elOk 2 z = true) (hy : elOk 2 y = true) (hb : ∀ z ∈ b, elOk 2 z = true) (hl : a.length + b.length < 1900000) :
  ∃ t2 H5 hs5 t3 H6 hs6 t4 H7 hs7,
   appendO H hs true true 2 32 (some (.lit (.slice none 0 0))) (some (.lst .no a)) = some (.lst t2 a, H5, hs5) /\ (∀ q, q < hs -> H5.get .dead q = H.get .dead q) /\
   appendO H5 hs5 true true 2 32 (some (.lst t2 a)) (some (.lst .full [y])) = some (.lst t3 (a ++ [y]), H6, hs6) /\ (∀ q, q < hs -> H6.get .dead q = H.get .dead q) /\
   appendO H6 hs6 true true 2 32 (some (.lst t3 (a ++ [y]))) (some (.lst .no b)) = some (.lst t4 (a ++ [y] ++ b), H7, hs7) /\ (∀ q, q < hs -> H7.get .dead q = H.get .dead q) /\ hs <= hs7 := by
 obtain ⟨t2, H5, hs5, e1, a1, l1, u1⟩ := (AccL.nil (lo := hs) (H := H) (hs := hs) (sz := 2)).app (b := 32) (agg := true) (tk := .no) (ys := a) (Nat.le_refl _) ha (by simp only [List.length_nil]; omega)
 rw [List.nil_append] at e1 a1
 obtain ⟨t3, H6, hs6, e2, a2, l2, u2⟩ := a1.app (b := 32) (agg := true) (tk := .full) (ys := [y]) (by omega) (by simpa using hy) (by simp only [List.length_cons, List.length_nil]; omega)
 obtain ⟨t4, H7, hs7, e3, a3, l3, u3⟩ := a2.app (b := 32) (agg := true) (tk := .no) (ys := b) (by omega) hb (by simp only [List.length_append, List.length_cons, List.length_nil]; omega)
 have k1 : ∀ q, q < hs -> H5.get .dead q = H.get .dead q := fun q hq => u1 q hq (.inl hq)
 have k2 : ∀ q, q < hs -> H6.get .dead q = H.get .dead q := fun q hq => (u2 q (by omega) (.inl hq)).trans (k1 q hq)
 exact ⟨t2, H5, hs5, t3, H6, hs6, t4, H7, hs7, e1, k1, e2, k2, e3, fun q hq => (u3 q (by omega) (.inl hq)).trans (k2 q hq), by omega⟩
theorem rchain0 {H : Tr AO} {hs n : Nat} {a b : List AV} (ha : ∀ z ∈ a, elOk 2 z = true) (hb : ∀ z ∈ b, elOk 2 z = true) (hl : a.length + b.length < 1900000) :
  ∃ t2 H5 hs5 t4 H7 hs7,
   appendO H hs true true 2 32 (some (.lit (.slice none 0 0))) (some (.lst .no a)) = some (.lst t2 a, H5, hs5) /\ (∀ q, q < hs -> H5.get .dead q = H.get .dead q) /\
   appendO H5 hs5 true true 2 32 (some (.lst t2 a)) (some (.lst .no b)) = some (.lst t4 (a ++ b), H7, hs7) /\ (∀ q, q < hs -> H7.get .dead q = H.get .dead q) /\ hs <= hs7 := by
 obtain ⟨t2, H5, hs5, e1, a1, l1, u1⟩ := (AccL.nil (lo := hs) (H := H) (hs := hs) (sz := 2)).app (b := 32) (agg := true) (tk := .no) (ys := a) (Nat.le_refl _) ha (by simp only [List.length_nil]; omega)
 rw [List.nil_append] at e1 a1
 obtain ⟨t4, H7, hs7, e3, a3, l3, u3⟩ := a1.app (b := 32) (agg := true) (tk := .no) (ys := b) (by omega) hb (by omega)
 have k1 : ∀ q, q < hs -> H5.get .dead q = H.get .dead q := fun q hq => u1 q hq (.inl hq)
 exact ⟨t2, H5, hs5, t4, H7, hs7, e1, k1, e3, fun q hq => (u3 q (by omega) (.inl hq)).trans (k1 q hq), by omega⟩
def OkR (r : Row) : Prop := r.length < 1000000 /\ ∀ v ∈ r, v.s.length <= 9223372036854775807
theorem RbAt.add {H H' : Tr AO} {B : Nat} {l : List En} {r : Row} {m : Int} (h : RbAt H B l) (hr : OkR r) (h1 : -1073741824 <= m) (h2 : m <= 1073741824) (hz : l.length + 1 < 900000)
  (he : ∃ A ps, H'.get .dead B = .cells [A] false /\ LstV A (ps.map encK) /\ ents ps = bset l r m) : RbAt H' B (bset l r m) := by
 refine ⟨he, bset_srt h.srt, fun e hm => ?_, by have := bset_len (l := l) (r := r) (m := m); omega⟩
 rcases bset_row e hm with hm | ⟨q1, _, q2 | ⟨y, hy, q3, _⟩⟩
 ·exact h.en e hm
 ·exact ⟨by unfold OkE; rw [q2]; exact hr, by omega, by omega⟩
 ·exact ⟨by unfold OkE; rw [q3]; exact (h.en y hy).1, by omega, by omega⟩
theorem cRAdd {m : Md} {r : Row} {n : Int} {B : Nat} {l : List En} {k1 : ATk} {H : Tr AO} {hs : Nat} (h : RbAt H B l) (hr : OkR r) (hz : l.length + 1 < 900000) (hb : B < hs) :
  ∃ H' hs', callF tab (evw tab) m 51 [.ptr B 0, .lst k1 (r.map encV), .lit (.int .i64 n)] H hs = some (.lit (.int .i64 (badd l r n).2), H', hs') /\ RbAt H' B (badd l r n).1 /\ hs <= hs' /\ Upb H H' [B] hs := by
 have h0 := h
 obtain ⟨⟨A, ps, hB, hA, rfl⟩, hS, hE, hZ⟩ := h
 have hpl : (ents ps).length = ps.length := List.length_map _
 have hok : ∀ p ∈ ps, OkE p.2 := fun p hp => (hE p.2 (List.mem_map.2 ⟨p, hp, rfl⟩)).1
 have c1 := fun m H hs => @cRRight m k1 r H hs hr.1
 have c2 := fun m hs => @cRMany m ps A k1 r H hs B false (by omega) hok hB hA
 have c3 := fun m hs => @cRFind m ps A k1 r H hs B false (by omega) hok hB hA
 have c4 := fun m n H hs => @cRFew m n H hs
 rw [rmany_bmany hS] at c2
 have hbm := bmany_le (x := r) (l := ents ps) (fun e he => ⟨(hE e he).1.1, (hE e he).2⟩)
 rw [callF_in (fi := fi51) tcon rfl rfl rfl]
 unfold badd bsum
 cases hr1 : rright r with
 | false =>
  simp only [hr1] at c1
  refine ⟨H, hs, ?_, h0, Nat.le_refl _, fun _ _ _ => rfl⟩
  simp (maxSteps := 2000000) only [sG, seval, x51, stU, b51, Tryz.f51, c1]
 | true =>
  simp only [hr1] at c1
  rw [cond_true]
  cases hn1 : decide (n < -2147483648) with
  | true =>
   refine ⟨H, hs, ?_, h0, Nat.le_refl _, fun _ _ _ => rfl⟩
   simp (maxSteps := 2000000) only [sG, seval, x51, stU, b51, Tryz.f51, c1, c2, hn1]
  | false =>
   cases hn2 : decide (2147483648 < n) with
   | true =>
    refine ⟨H, hs, ?_, h0, Nat.le_refl _, fun _ _ _ => rfl⟩
    simp (maxSteps := 2000000) only [sG, seval, x51, stU, b51, Tryz.f51, c1, c2, hn1, hn2]
   | false =>
    have hn1' := of_decide_eq_false hn1
    have hn2' := of_decide_eq_false hn2
    have hw : IntKind.i64.wrap (bmany (ents ps) r + n) = bmany (ents ps) r + n := wrap_i64 (by omega) (by omega)
    generalize hm : bmany (ents ps) r + n = s at hw
    rw [Bool.or_self, cond_false]
    cases hf : fewI s with
    | false =>
     simp only
     refine ⟨H, hs, ?_, h0, Nat.le_refl _, fun _ _ _ => rfl⟩
     simp (maxSteps := 2000000) only [sG, seval, x51, stU, b51, Tryz.f51, c1, c2, hn1, hn2, hm, hw, c4, hf]
    | true =>
     simp only [cond_true]
     have hfs := fewI_iff.1 hf
     have hbset := bset_pos (ents ps) r s
     have f1 : (B = hs) = False := eq_false (by omega)
     have f2 : (hs = B) = False := eq_false (by omega)
     have f3 : (B = hs + 1) = False := eq_false (by omega)
     have f4 : (hs = hs + 1) = False := eq_false (by omega)
     obtain ⟨t1, H2, hs2, o1, a1, l1, u1⟩ := (AccL.nil (lo := hs + 1) (H := (H.put .dead hs (.cells [.lit (.slice none 0 0), .lit (.int .i64 0)] false)).put .dead hs (.cells [.lit (.slice none 0 0), .lit (.int .i64 s)] false)) (hs := hs + 1) (sz := 4)).app (b := 40) (agg := true) (tk := k1) (ys := r.map encV) (Nat.le_refl _) (by intro y hy; obtain ⟨v, _, rfl⟩ := List.mem_map.1 hy; exact elV v) (by have := hr.1; simp only [List.length_nil, List.length_map]; omega)
     rw [List.nil_append] at o1 a1
     have g1 : ∀ q, q < hs -> H2.get .dead q = H.get .dead q := fun q hq => by
      rw [u1 q (by omega) (.inl (by omega)), Tr.get_put, if_neg (by omega), Tr.get_put, if_neg (by omega)]
     have g2 : H2.get .dead hs = .cells [.lit (.slice none 0 0), .lit (.int .i64 s)] false := by
      rw [u1 hs (by omega) (.inl (by omega)), Tr.get_put, if_pos rfl]
     have f5 : (hs = hs2) = False := eq_false (by omega)
     have f6 : (B = hs2) = False := eq_false (by omega)
     have gB : H2.get .dead B = .cells [A] false := by rw [g1 B hb, hB]
     have hpos : pos (ents ps) r <= ps.length := by have := pos_le (l := ents ps) (r := r); omega
     have d1 : decide (0 <= ((pos (ents ps) r : Nat) : Int)) = true := dcT (by omega)
     have q1 : Nat.ble (pos (ents ps) r) ps.length = true := bleT hpos
     have q2 : ∀ k, Nat.ble 0 k = true := fun k => rfl
     have q3 : Nat.ble ps.length ps.length = true := bleT (Nat.le_refl _)
     have z5 : (ps.map encK).take ps.length = ps.map encK := by rw [<- encK_map (ps := ps), List.take_length]
     have hsK := sizeK ps
     have okT : ∀ n, ∀ z ∈ (ps.map encK).take n, elOk 2 z = true := fun n z hz => by
      obtain ⟨p, _, rfl⟩ := List.mem_map.1 (List.mem_of_mem_take hz); exact elK p
     have okD : ∀ n, ∀ z ∈ (ps.map encK).drop n, elOk 2 z = true := fun n z hz => by
      obtain ⟨p, _, rfl⟩ := List.mem_map.1 (List.mem_of_mem_drop hz); exact elK p
     have lenTD : ∀ b, ((ps.map encK).take (pos (ents ps) r)).length + ((ps.map encK).drop b).length < 1900000 := fun b => by
      simp only [List.length_take, List.length_drop, List.length_map]; omega
     have upB : ∀ (H4 H7 : Tr AO) (X : AO), (∀ q, q < hs -> H4.get .dead q = H2.get .dead q) -> (∀ q, q < hs2 -> H7.get .dead q = H4.get .dead q) -> Upb H (H7.put .dead B X) [B] hs := fun H4 H7 X k1 k2 q hq hm => by
      rw [Tr.get_put, if_neg (by simpa using hm), k2 q (by omega), k1 q hq, g1 q hq]
     have h4 : ∀ X q, q < hs -> (H2.put .dead hs X).get .dead q = H2.get .dead q := fun X q hq => by rw [Tr.get_put, if_neg (by omega)]
     have h44 : ∀ X Y q, q < hs -> ((H2.put .dead hs X).put .dead hs Y).get .dead q = H2.get .dead q := fun X Y q hq => by rw [Tr.get_put, if_neg (by omega), Tr.get_put, if_neg (by omega)]
     cases hia : isAt (ents ps) r with
     | false =>
      simp only [hia] at c3
      have hra : rowAt (ents ps) r = r := by unfold rowAt; rw [hia]; split <;> rfl
      rw [hia, hra, cond_false] at hbset
      rcases hA with ⟨e0, rfl⟩ | ⟨tk, rfl⟩
      ·have e1 : ps = [] := List.map_eq_nil_iff.1 e0
       subst e1
       have an1 : ∀ H hs, appendO H hs true true 2 32 (some (.lit (.slice none 0 0))) (some (.lit (.slice none 0 0))) = some (.lst .full [], H, hs) := fun _ _ => rfl
       have an2 : ∀ H hs tk l, appendO H hs true true 2 32 (some (.lst tk l)) (some (.lit (.slice none 0 0))) = some (.lst tk l, H, hs) := fun _ _ _ _ => rfl
       have p0 : pos (ents []) r = 0 := rfl
       have w0 : decide ((0 : Int) <= ((0 : Nat) : Int)) = true := rfl
       have w1 : ((0 : Nat) : Int).toNat = 0 := rfl
       simp only [p0] at c3 hbset
       cases hs0 : decide (s = 0) with
       | true =>
        rw [hs0] at hbset
        refine ⟨(H2.put .dead hs (.cells [.lst t1 (r.map encV), .lit (.int .i64 s)] false)).put .dead B (.cells [.lst .full []] false), hs2, ?_, h0.add hr hfs.1 hfs.2 hz ⟨.lst .full [], [], by rw [Tr.get_put, if_pos rfl], .inr ⟨_, rfl⟩, by rw [hbset]; rfl⟩, by omega, upB _ _ _ (h4 _) (fun _ _ => rfl)⟩
        simp (maxSteps := 4000000) only [sGA, seval, x51, stU, b51, Tryz.f51, c1, c2, c3, hn1, hn2, hm, hw, c4, hf, o1, gB, g2, f1, hs0, dSL, an1, an2, Int.toNat_zero]
       | false =>
        rw [hs0] at hbset
        have hy : elOk 2 (.agg [.lst t1 (r.map encV), .lit (.int .i64 s)]) = true := rfl
        have p1 : appendO (H2.put .dead hs (.cells [.lst t1 (r.map encV), .lit (.int .i64 s)] false)) hs2 true true 2 32 (some (.lst .full [])) (some (.lst .full [.agg [.lst t1 (r.map encV), .lit (.int .i64 s)]])) = some (.lst (.room hs2) [.agg [.lst t1 (r.map encV), .lit (.int .i64 s)]], (H2.put .dead hs (.cells [.lst t1 (r.map encV), .lit (.int .i64 s)] false)).put .dead hs2 (.room 2), hs2 + 1) := by
         simp only [sG, seval]
        refine ⟨((H2.put .dead hs (.cells [.lst t1 (r.map encV), .lit (.int .i64 s)] false)).put .dead hs2 (.room 2)).put .dead B (.cells [.lst (.room hs2) [.agg [.lst t1 (r.map encV), .lit (.int .i64 s)]]] false), hs2 + 1, ?_, h0.add hr hfs.1 hfs.2 hz ⟨.lst (.room hs2) [.agg [.lst t1 (r.map encV), .lit (.int .i64 s)]], [(t1, ⟨r, s⟩)], by rw [Tr.get_put, if_pos rfl], .inr ⟨_, rfl⟩, by rw [hbset]; rfl⟩, by omega, upB (H2.put .dead hs (.cells [.lst t1 (r.map encV), .lit (.int .i64 s)] false)) _ _ (h4 _) (fun q hq => by rw [Tr.get_put, if_neg (by omega)])⟩
        simp (maxSteps := 4000000) only [sGA, seval, x51, stU, b51, Tryz.f51, c1, c2, c3, hn1, hn2, hm, hw, c4, hf, o1, gB, g2, f1, f6, hs0, dSL, an1, an2, Int.toNat_zero, p1]
      ·cases hs0 : decide (s = 0) with
       | true =>
        rw [hs0, cond_true, List.nil_append] at hbset
        obtain ⟨t2, H5, hs5, t4, H7, hs7, p1, p2, p3, p4, p5⟩ := @rchain0 (H2.put .dead hs (.cells [.lst t1 (r.map encV), .lit (.int .i64 s)] false)) hs2 0 ((ps.map encK).take (pos (ents ps) r)) ((ps.map encK).drop (pos (ents ps) r)) (okT _) (okD _) (lenTD _)
        have b5 : H5.get .dead B = .cells [.lst tk (ps.map encK)] false := by rw [p2 B (by omega), h4 _ B hb, gB]
        have b7 : H7.get .dead B = .cells [.lst tk (ps.map encK)] false := by rw [p4 B (by omega), h4 _ B hb, gB]
        have c5 : H5.get .dead hs = .cells [.lst t1 (r.map encV), .lit (.int .i64 s)] false := by rw [p2 hs (by omega), Tr.get_put, if_pos rfl]
        refine ⟨H7.put .dead B (.cells [.lst t4 ((ps.map encK).take (pos (ents ps) r) ++ (ps.map encK).drop (pos (ents ps) r))] false), hs7, ?_, h0.add hr hfs.1 hfs.2 hz ⟨_, ps.take (pos (ents ps) r) ++ ps.drop (pos (ents ps) r), by rw [Tr.get_put, if_pos rfl], .inr ⟨t4, by rw [List.map_append, List.map_take, List.map_drop]⟩, by rw [hbset]; simp only [ents, List.map_append, List.map_take, List.map_drop]⟩, by omega, upB _ _ _ (h4 _) p4⟩
        simp (maxSteps := 4000000) only [sGA, seval, x51, stU, b51, Tryz.f51, c1, c2, c3, hn1, hn2, hm, hw, c4, hf, o1, gB, g2, f1, hs0, d1, q1, q2, q3, z5, hsK, dSL, List.length_map, Int.toNat_natCast, p1, p3, b5, b7, c5]
       | false =>
        rw [hs0, cond_false] at hbset
        obtain ⟨t2, H5, hs5, t3, H6, hs6, t4, H7, hs7, p1, p2, p3, p4, p5, p6, p7⟩ := @rchain (H2.put .dead hs (.cells [.lst t1 (r.map encV), .lit (.int .i64 s)] false)) hs2 0 ((ps.map encK).take (pos (ents ps) r)) ((ps.map encK).drop (pos (ents ps) r)) (.agg [.lst t1 (r.map encV), .lit (.int .i64 s)]) (okT _) rfl (okD _) (lenTD _)
        have b5 : H5.get .dead B = .cells [.lst tk (ps.map encK)] false := by rw [p2 B (by omega), h4 _ B hb, gB]
        have b6 : H6.get .dead B = .cells [.lst tk (ps.map encK)] false := by rw [p4 B (by omega), h4 _ B hb, gB]
        have b7 : H7.get .dead B = .cells [.lst tk (ps.map encK)] false := by rw [p6 B (by omega), h4 _ B hb, gB]
        have c5 : H5.get .dead hs = .cells [.lst t1 (r.map encV), .lit (.int .i64 s)] false := by rw [p2 hs (by omega), Tr.get_put, if_pos rfl]
        refine ⟨H7.put .dead B (.cells [.lst t4 ((ps.map encK).take (pos (ents ps) r) ++ [.agg [.lst t1 (r.map encV), .lit (.int .i64 s)]] ++ (ps.map encK).drop (pos (ents ps) r))] false), hs7, ?_, h0.add hr hfs.1 hfs.2 hz ⟨_, ps.take (pos (ents ps) r) ++ [(t1, ⟨r, s⟩)] ++ ps.drop (pos (ents ps) r), by rw [Tr.get_put, if_pos rfl], .inr ⟨t4, by simp only [List.map_append, List.map_take, List.map_drop]; rfl⟩, by rw [hbset]; simp only [ents, List.map_append, List.map_take, List.map_drop, List.append_assoc]; rfl⟩, by omega, upB _ _ _ (h4 _) p6⟩
        simp (maxSteps := 4000000) only [sGA, seval, x51, stU, b51, Tryz.f51, c1, c2, c3, hn1, hn2, hm, hw, c4, hf, o1, gB, g2, f1, hs0, d1, q1, q2, q3, z5, hsK, dSL, List.length_map, Int.toNat_natCast, p1, p3, p5, b6, b7, c5]
     | true =>
      simp only [hia] at c3
      obtain ⟨e, g5, g6, g7⟩ := isAt_get hia
      obtain ⟨te, g8⟩ := ents_get g5
      have hra : rowAt (ents ps) r = e.r := by unfold rowAt; rw [hia, g5]; rfl
      rw [hia, hra, cond_true] at hbset
      have hlt : pos (ents ps) r < ps.length := (List.getElem?_eq_some_iff.1 g8).1
      have e5 := wrap_succ (i := pos (ents ps) r) (by omega)
      have d2 : decide (0 <= ((pos (ents ps) r + 1 : Nat) : Int)) = true := dcT (by omega)
      have q4 : Nat.ble (pos (ents ps) r + 1) ps.length = true := bleT hlt
      have g9 : (ps.map encK)[pos (ents ps) r]? = some (.agg [.lst te (e.r.map encV), .lit (.int .i64 e.m)]) := by rw [List.getElem?_map, g8]; rfl
      rcases hA with ⟨e0, rfl⟩ | ⟨tk, rfl⟩
      ·have e1 : ps = [] := List.map_eq_nil_iff.1 e0
       subst e1; cases hia
      ·cases hs0 : decide (s = 0) with
       | true =>
        rw [hs0, cond_true, List.nil_append] at hbset
        obtain ⟨t2, H5, hs5, t4, H7, hs7, p1, p2, p3, p4, p5⟩ := @rchain0 ((H2.put .dead hs (.cells [.lst t1 (r.map encV), .lit (.int .i64 s)] false)).put .dead hs (.cells [.lst te (e.r.map encV), .lit (.int .i64 s)] false)) hs2 0 ((ps.map encK).take (pos (ents ps) r)) ((ps.map encK).drop (pos (ents ps) r + 1)) (okT _) (okD _) (lenTD _)
        have b5 : H5.get .dead B = .cells [.lst tk (ps.map encK)] false := by rw [p2 B (by omega), h44 _ _ B hb, gB]
        have b7 : H7.get .dead B = .cells [.lst tk (ps.map encK)] false := by rw [p4 B (by omega), h44 _ _ B hb, gB]
        have c5 : H5.get .dead hs = .cells [.lst te (e.r.map encV), .lit (.int .i64 s)] false := by rw [p2 hs (by omega), Tr.get_put, if_pos rfl]
        refine ⟨H7.put .dead B (.cells [.lst t4 ((ps.map encK).take (pos (ents ps) r) ++ (ps.map encK).drop (pos (ents ps) r + 1))] false), hs7, ?_, h0.add hr hfs.1 hfs.2 hz ⟨_, ps.take (pos (ents ps) r) ++ ps.drop (pos (ents ps) r + 1), by rw [Tr.get_put, if_pos rfl], .inr ⟨t4, by rw [List.map_append, List.map_take, List.map_drop]⟩, by rw [hbset]; simp only [ents, List.map_append, List.map_take, List.map_drop]⟩, by omega, upB _ _ _ (h44 _ _) p4⟩
        simp (maxSteps := 4000000) only [sGA, seval, x51, stU, b51, Tryz.f51, c1, c2, c3, hn1, hn2, hm, hw, c4, hf, o1, gB, g2, f1, hs0, d1, q1, q2, q3, z5, hsK, dSL, List.length_map, Int.toNat_natCast, p1, p3, b5, b7, c5, g9, e5, d2, q4]
       | false =>
        rw [hs0, cond_false] at hbset
        obtain ⟨t2, H5, hs5, t3, H6, hs6, t4, H7, hs7, p1, p2, p3, p4, p5, p6, p7⟩ := @rchain ((H2.put .dead hs (.cells [.lst t1 (r.map encV), .lit (.int .i64 s)] false)).put .dead hs (.cells [.lst te (e.r.map encV), .lit (.int .i64 s)] false)) hs2 0 ((ps.map encK).take (pos (ents ps) r)) ((ps.map encK).drop (pos (ents ps) r + 1)) (.agg [.lst te (e.r.map encV), .lit (.int .i64 s)]) (okT _) rfl (okD _) (lenTD _)
        have b5 : H5.get .dead B = .cells [.lst tk (ps.map encK)] false := by rw [p2 B (by omega), h44 _ _ B hb, gB]
        have b6 : H6.get .dead B = .cells [.lst tk (ps.map encK)] false := by rw [p4 B (by omega), h44 _ _ B hb, gB]
        have b7 : H7.get .dead B = .cells [.lst tk (ps.map encK)] false := by rw [p6 B (by omega), h44 _ _ B hb, gB]
        have c5 : H5.get .dead hs = .cells [.lst te (e.r.map encV), .lit (.int .i64 s)] false := by rw [p2 hs (by omega), Tr.get_put, if_pos rfl]
        refine ⟨H7.put .dead B (.cells [.lst t4 ((ps.map encK).take (pos (ents ps) r) ++ [.agg [.lst te (e.r.map encV), .lit (.int .i64 s)]] ++ (ps.map encK).drop (pos (ents ps) r + 1))] false), hs7, ?_, h0.add hr hfs.1 hfs.2 hz ⟨_, ps.take (pos (ents ps) r) ++ [(te, ⟨e.r, s⟩)] ++ ps.drop (pos (ents ps) r + 1), by rw [Tr.get_put, if_pos rfl], .inr ⟨t4, by simp only [List.map_append, List.map_take, List.map_drop]; rfl⟩, by rw [hbset]; simp only [ents, List.map_append, List.map_take, List.map_drop, List.append_assoc]; rfl⟩, by omega, upB _ _ _ (h44 _ _) p6⟩
        simp (maxSteps := 4000000) only [sGA, seval, x51, stU, b51, Tryz.f51, c1, c2, c3, hn1, hn2, hm, hw, c4, hf, o1, gB, g2, f1, hs0, d1, q1, q2, q3, z5, hsK, dSL, List.length_map, Int.toNat_natCast, p1, p3, p5, b6, b7, c5, g9, e5, d2, q4]
end Go.Proofs.YtancionamhenmaaGreat.Ev
