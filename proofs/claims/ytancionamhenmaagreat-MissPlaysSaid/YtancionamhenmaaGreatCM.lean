import Derived.Test.YtancionamhenmaaGreatCD
set_option linter.all false
set_option maxRecDepth 100000
set_option maxHeartbeats 8000000
namespace Go.Proofs.YtancionamhenmaaGreat.Ev
open Go Go.Proofs.YtancionamhenmaaGreat.Ev Go.Proofs Go.Proofs.YtancionamhenmaaGreat Go.Proofs.YtancionamhenmaaGreat.Tab
def LE (A : AV) (l : List En) : Prop := bare A = true /\ nrm A = .lst .no (l.map encE)
theorem LstV.le {A : AV} {ps : List (ATk × En)} (h : LstV A (ps.map encK)) : LE A (ents ps) := by
 rcases h with ⟨e0, rfl⟩ | ⟨tk2, rfl⟩
 ·have e1 : ps = [] := List.map_eq_nil_iff.1 e0
  subst e1; exact ⟨rfl, rfl⟩
 ·exact ⟨bares_mapf (fun p => by simp only [encK, bare, bares, bares_V, Bool.and_self]) ps, by simp only [nrm, nrms_map, List.map_map, ents]; congr 1; apply List.map_congr_left; intro p _; simp only [Function.comp, encK, encE, encR, nrm, nrms, nrms_V]⟩
theorem LE.lst (tk : ATk) (l : List En) : LE (.lst tk (l.map encE)) l := ⟨by simp only [bare, bares_E], by simp only [nrm, nrms_E]⟩
theorem RbAt.new1 {H : Tr AO} {hs : Nat} : RbAt (H.put .dead hs (.cells [.lit (.slice none 0 0)] false)) hs [] :=
 ⟨⟨_, [], by rw [Tr.get_put, if_pos rfl], .inl ⟨rfl, rfl⟩, rfl⟩, List.Pairwise.nil, fun _ h => (by cases h), by decide⟩
theorem loopROf {l : List En} {tk : ATk} {gl : Tr (Option AV)} (hl : l.length < 800000) (he : ∀ e ∈ l, OkR e.r) : ∀ (k i : Nat) (t : Tr AV) (H : Tr AO) (hs B : Nat) (b : List En), i + k = l.length -> RbAt H B b -> b.length + k < 850000 -> B < hs ->
  t.get .any 0 = .lst tk (l.map encE) -> t.get .any 4 = .ptr B 0 -> t.get .any 5 = .lit (.int .i64 i) ->
  ∃ v H' hs', W tab none (fin tab fi71) (lpc fi71 0) (lpk fi71 0) ⟨t, 31, H, hs, [], ⟨true, true, gl⟩⟩ = some (v, H', hs') /\ hs <= hs' /\ Upb H H' [B] hs /\
   ((bof (l.drop i) b).2 ≠ 0 -> v = .tup [.lit (.pointer none), .lit (.int .i64 (bof (l.drop i) b).2)]) /\ ((bof (l.drop i) b).2 = 0 -> v = .tup [.ptr B 0, .lit (.int .i64 0)] /\ RbAt H' B (bof (l.drop i) b).1) := by
 have D := d71
 simp only [stD, stC, List.cons.injEq, b71, Tryz.f71] at D
 simp only [stU, stC, b71, Tryz.f71]
 intro k
 induction k with
 | zero =>
  intro i t H hs B b hi hb hz hB a0 a4 a5
  have e1 : decide ((i : Int) < (l).length) = false := dcF (by omega)
  rw [List.drop_of_length_le (by omega)]
  refine ⟨_, H, hs, ?_, Nat.le_refl _, fun _ _ _ => rfl, fun h => absurd rfl h, fun _ => ⟨rfl, hb⟩⟩
  rw [W_loop]
  simp only [sG, seval, x71, a0, a4, a5, e1, List.length_map]
 | succ k ih =>
  intro i t H hs B b hi hb hz hB a0 a4 a5
  have hlt : i < (l).length := by omega
  obtain ⟨e, hv, e1, e3, e4, e6, e7⟩ := atS hlt
  have e5 := wrap_succ (i := i) (by omega)
  have hm : e ∈ l := by rw [<- hv]; exact List.getElem_mem _
  obtain ⟨H1, hs1, w1, s1, l1, u1⟩ := cRAdd (m := ⟨true, true, gl⟩) (r := e.r) (n := e.m) (k1 := .no) hb (he e hm) (by omega) hB
  rw [e6, bof]
  cases h1 : decide ((badd b e.r e.m).2 = 0) with
  | false =>
   have hne := of_decide_eq_false h1
   refine ⟨_, H1, hs1, ?_, l1, u1, fun _ => rfl, fun h => absurd h hne⟩
   rw [W_loop]
   simp only [sG, seval, x71, a0, a4, a5, encE, encR, e1, e3, e4, lG, w1, h1, D]
  | true =>
   have hz0 := of_decide_eq_true h1
   have hbl := @badd_len b e.r e.m
   have key : ∀ X : Option (AV × Tr AO × Nat), (∃ v H' hs', X = some (v, H', hs') /\ hs1 <= hs' /\ Upb H1 H' [B] hs1 /\ ((bof (l.drop (i + 1)) (badd b e.r e.m).1).2 ≠ 0 -> v = .tup [.lit (.pointer none), .lit (.int .i64 (bof (l.drop (i + 1)) (badd b e.r e.m).1).2)]) /\ ((bof (l.drop (i + 1)) (badd b e.r e.m).1).2 = 0 -> v = .tup [.ptr B 0, .lit (.int .i64 0)] /\ RbAt H' B (bof (l.drop (i + 1)) (badd b e.r e.m).1).1)) ->
     (∃ v H' hs', X = some (v, H', hs') /\ hs <= hs' /\ Upb H H' [B] hs /\ ((bof (l.drop (i + 1)) (badd b e.r e.m).1).2 ≠ 0 -> v = .tup [.lit (.pointer none), .lit (.int .i64 (bof (l.drop (i + 1)) (badd b e.r e.m).1).2)]) /\ ((bof (l.drop (i + 1)) (badd b e.r e.m).1).2 = 0 -> v = .tup [.ptr B 0, .lit (.int .i64 0)] /\ RbAt H' B (bof (l.drop (i + 1)) (badd b e.r e.m).1).1)) := by
    rintro X ⟨v, H', hs', x1, x2, x3, x4⟩
    exact ⟨v, H', hs', x1, by omega, fun q h2 h3 => (x3 q (by omega) h3).trans (u1 q h2 h3), x4⟩
   rw [W_loop, cond_true]
   simp only [sG, seval, a0, a4, a5, encE, encR, e1, e3, e4, e5, lG, w1, hz0, D]
   apply key
   apply ih (i + 1) _ _ _ _ _ (by omega) s1 (by omega) (by omega)
   all_goals simp only [sG, seval, a0, a4]
theorem cROf {m : Md} {l : List En} {tk : ATk} {H : Tr AO} {hs : Nat} (hl : l.length < 800000) (he : ∀ e ∈ l, OkR e.r) :
  ∃ v H' hs', callF tab (evw tab) m 71 [.lst tk (l.map encE)] H hs = some (v, H', hs') /\ hs < hs' /\ Upb H H' [] hs /\
   ((bof l []).2 ≠ 0 -> v = .tup [.lit (.pointer none), .lit (.int .i64 (bof l []).2)]) /\ ((bof l []).2 = 0 -> v = .tup [.ptr hs 0, .lit (.int .i64 0)] /\ RbAt H' hs (bof l []).1) := by
 have L := @loopROf l tk m.gl hl he l.length 0
 simp only [stU, stC, b71, Tryz.f71] at L
 have key : ∀ X : Option (AV × Tr AO × Nat), (∃ v H' hs', X = some (v, H', hs') /\ hs + 1 <= hs' /\ Upb (H.put .dead hs (.cells [.lit (.slice none 0 0)] false)) H' [hs] (hs + 1) /\ ((bof l []).2 ≠ 0 -> v = .tup [.lit (.pointer none), .lit (.int .i64 (bof l []).2)]) /\ ((bof l []).2 = 0 -> v = .tup [.ptr hs 0, .lit (.int .i64 0)] /\ RbAt H' hs (bof l []).1)) ->
   (∃ v H' hs', X = some (v, H', hs') /\ hs < hs' /\ Upb H H' [] hs /\ ((bof l []).2 ≠ 0 -> v = .tup [.lit (.pointer none), .lit (.int .i64 (bof l []).2)]) /\ ((bof l []).2 = 0 -> v = .tup [.ptr hs 0, .lit (.int .i64 0)] /\ RbAt H' hs (bof l []).1)) := by
  rintro X ⟨v, H', hs', x1, x2, x3, x4⟩
  exact ⟨v, H', hs', x1, by omega, fun q h2 h3 => by rw [x3 q (by omega) (by simp; omega), Tr.get_put, if_neg (by omega)], x4⟩
 rw [callF_in (fi := fi71) tcon rfl rfl rfl]
 simp (maxSteps := 2000000) only [sG, seval, x71, stU, b71, Tryz.f71]
 apply key
 apply L _ _ _ _ _ (by simp) RbAt.new1 (by simp; omega) (by omega)
 all_goals simp only [sG, seval] <;> rfl
theorem cRNet {m : Md} {l : List En} {tk : ATk} {H : Tr AO} {hs : Nat} (hl : l.length < 800000) (he : ∀ e ∈ l, OkR e.r) :
  callF tab (evw tab) m 48 [.lst tk (l.map encE)] H hs = some (.tup [.lst .no ((bnet l).1.map encE), .lit (.int .i64 (bnet l).2)], H, hs) := by
 refine callF_iso tcon rfl rfl (by simp only [bares, bare, bares_E, Bool.and_self]) ?_
 simp only [nrms, nrm, nrms_E]
 refine iso_ret ?_
 obtain ⟨v, H1, hs1, w, l1, u1, hbad, hok⟩ := cROf (m := ⟨true, true, m.gl⟩) (tk := .no) (H := .lf) (hs := 0) hl he
 unfold bnet
 cases h0 : decide ((bof l []).2 = 0) with
 | false =>
  have h1 := of_decide_eq_false h0
  obtain rfl := hbad h1
  simp (maxSteps := 2000000) only [sG, seval, x48, stU, b48, Tryz.f48, w, h0]
 | true =>
  obtain ⟨rfl, y2⟩ := hok (of_decide_eq_true h0)
  obtain ⟨⟨A, ps, z1, z2, z3⟩, _, _, _⟩ := y2
  have hz := of_decide_eq_true h0
  have a1 := z2.le
  rw [z3] at a1
  simp (maxSteps := 2000000) only [sG, seval, x48, stU, b48, Tryz.f48, w, z1]
  refine ⟨by simp only [a1.1], by simp only [a1.2]⟩
def add1 : List En -> List En -> List En
 | [], b => b
 | e :: l, b => add1 l (badd b e.r e.m).1
def sub1 : List En -> List En -> List En
 | [], b => b
 | e :: l, b => sub1 l (badd b e.r (IntKind.i64.wrap (0 - e.m))).1
def differ (was now : List En) : List En := sub1 was (add1 now [])
theorem loopD2 {was : List En} {gl : Tr (Option AV)} {B : Nat} (hl : was.length < 400000) (he : ∀ e ∈ was, OkR e.r) : ∀ (k i : Nat) (t : Tr AV) (H : Tr AO) (hs : Nat) (b : List En), i + k = was.length -> RbAt H B b -> b.length + k < 850000 -> B < hs ->
  t.get .any 0 = .lst .no (was.map encE) -> t.get .any 5 = .ptr B 0 -> t.get .any 7 = .lit (.int .i64 i) ->
  RetN (W tab none (fin tab fi24) (lpc fi24 1) (lpk fi24 1) ⟨t, 51, H, hs, [], ⟨true, true, gl⟩⟩) (.lst .no ((sub1 (was.drop i) b).map encE)) := by
 have D := d24
 simp only [stD, stC, List.cons.injEq, b24, Tryz.f24] at D
 simp only [stU, stC, b24, Tryz.f24]
 intro k
 induction k with
 | zero =>
  intro i t H hs b hi hb hz hB a0 a5 a7
  have e1 : decide ((i : Int) < (was).length) = false := dcF (by omega)
  rw [List.drop_of_length_le (by omega)]
  obtain ⟨⟨A, ps, z1, z2, z3⟩, _, _, _⟩ := hb
  have a1 := z2.le
  rw [z3] at a1
  rw [W_loop]
  simp only [sG, seval, x24, a0, a5, a7, e1, List.length_map, z1, sub1]
  exact a1
 | succ k ih =>
  intro i t H hs b hi hb hz hB a0 a5 a7
  have hlt : i < (was).length := by omega
  obtain ⟨e, hv, e1, e3, e4, e6, e7⟩ := atS hlt
  have e5 := wrap_succ (i := i) (by omega)
  have hm : e ∈ was := by rw [<- hv]; exact List.getElem_mem _
  obtain ⟨H1, hs1, w1, s1, l1, u1⟩ := cRAdd (m := ⟨true, true, gl⟩) (r := e.r) (n := IntKind.i64.wrap (0 - e.m)) (k1 := .no) hb (he e hm) (by omega) hB
  have hbl := @badd_len b e.r (IntKind.i64.wrap (0 - e.m))
  rw [e6, sub1, W_loop]
  simp only [sG, seval, a0, a5, a7, encE, encR, e1, e3, e4, e5, lG, w1, D]
  apply ih (i + 1) _ _ _ _ (by omega) s1 (by omega) (by omega)
  all_goals simp only [sG, seval, a0, a5]
theorem loopD1 {was now : List En} {gl : Tr (Option AV)} {B : Nat} {u : AV} (hl : now.length < 400000) (he : ∀ e ∈ now, OkR e.r)
  (h2 : ∀ t H hs, RbAt H B (add1 now []) -> B < hs -> t.get .any 0 = .lst .no (was.map encE) -> t.get .any 5 = .ptr B 0 -> t.get .any 7 = .lit (.int .i64 (0 : Nat)) -> RetN (W tab none (fin tab fi24) (lpc fi24 1) (lpk fi24 1) ⟨t, 51, H, hs, [], ⟨true, true, gl⟩⟩) u) :
  ∀ (k i : Nat) (t : Tr AV) (H : Tr AO) (hs : Nat) (b : List En), i + k = now.length -> RbAt H B b -> b.length + k < 850000 -> B < hs -> add1 (now.drop i) b = add1 now [] ->
  t.get .any 0 = .lst .no (was.map encE) -> t.get .any 1 = .lst .no (now.map encE) -> t.get .any 5 = .ptr B 0 -> t.get .any 6 = .lit (.int .i64 i) ->
  RetN (W tab none (fin tab fi24) (lpc fi24 0) (lpk fi24 0) ⟨t, 51, H, hs, [], ⟨true, true, gl⟩⟩) u := by
 have D := d24
 simp only [stD, stC, List.cons.injEq, b24, Tryz.f24] at D
 simp only [stU, stC, b24, Tryz.f24] at h2 ⊢
 intro k
 induction k with
 | zero =>
  intro i t H hs b hi hb hz hB hq a0 a1 a5 a6
  have e1 : decide ((i : Int) < (now).length) = false := dcF (by omega)
  rw [List.drop_of_length_le (by omega)] at hq
  rw [W_loop]
  simp only [sG, seval, a1, a6, e1, List.length_map]
  apply h2 _ _ _ (by rw [<- hq]; exact hb) hB
  all_goals first | (simp only [sG, seval, a0, a5]; done) | (simp only [sG, seval]; rfl)
 | succ k ih =>
  intro i t H hs b hi hb hz hB hq a0 a1 a5 a6
  have hlt : i < (now).length := by omega
  obtain ⟨e, hv, e1, e3, e4, e6, e7⟩ := atS hlt
  have e5 := wrap_succ (i := i) (by omega)
  have hm : e ∈ now := by rw [<- hv]; exact List.getElem_mem _
  obtain ⟨H1, hs1, w1, s1, l1, u1⟩ := cRAdd (m := ⟨true, true, gl⟩) (r := e.r) (n := e.m) (k1 := .no) hb (he e hm) (by omega) hB
  have hbl := @badd_len b e.r e.m
  rw [e6, add1] at hq
  rw [W_loop]
  simp only [sG, seval, a1, a5, a6, encE, encR, e1, e3, e4, e5, lG, w1, D]
  apply ih (i + 1) _ _ _ _ (by omega) s1 (by omega) (by omega) hq
  all_goals simp only [sG, seval, a0, a1, a5]
theorem add1_len : ∀ {l b : List En}, (add1 l b).length <= l.length + b.length
 | [], b => by simp [add1]
 | e :: l, b => by
  have h1 := add1_len (l := l) (b := (badd b e.r e.m).1)
  have h2 := @badd_len b e.r e.m
  simp only [add1, List.length_cons]; omega
theorem eqDiffer {m : Md} {was now : List En} (hw : was.length < 400000) (hn : now.length < 400000) (h1 : ∀ e ∈ was, OkR e.r) (h2 : ∀ e ∈ now, OkR e.r) :
  iso tab fi24 m [.lst .no (was.map encE), .lst .no (now.map encE)] = some (.lst .no ((differ was now).map encE)) := by
 refine iso_ret ?_
 have L2 := @loopD2 was m.gl 0 hw h1 was.length 0
 have L1 := @loopD1 was now m.gl 0 (.lst .no ((differ was now).map encE)) hn h2
 have hal := add1_len (l := now) (b := [])
 simp only [stU, stC, b24, Tryz.f24] at L1 L2
 simp (maxSteps := 2000000) only [sG, seval, x24, stU, b24, Tryz.f24]
 apply L1 (fun t H hs g1 g2 g3 g4 g5 => L2 t H hs _ (by simp) g1 (by simp at hal; omega) g2 g3 g4 g5) now.length 0 _ _ _ [] (by simp) RbAt.new1 (by simp; omega) (by omega) rfl
 all_goals simp only [sG, seval] <;> rfl
theorem LE.two {A B : AV} {a b : List En} (h1 : LE A a) (h2 : LE B b) : bares [A, B] = true /\ nrms [A, B] = [.lst .no (a.map encE), .lst .no (b.map encE)] := by
 obtain ⟨x1, x2⟩ := h1
 obtain ⟨y1, y2⟩ := h2
 exact ⟨by simp only [bares, x1, y1, Bool.and_self], by simp only [nrms, x2, y2]⟩
theorem cDiffer {m : Md} {A B : AV} {was now : List En} {H : Tr AO} {hs : Nat} (hA : LE A was) (hB : LE B now) (hw : was.length < 400000) (hn : now.length < 400000) (h1 : ∀ e ∈ was, OkR e.r) (h2 : ∀ e ∈ now, OkR e.r) :
  callF tab (evw tab) m 24 [A, B] H hs = some (.lst .no ((differ was now).map encE), H, hs) :=
 callF_iso tcon rfl rfl (hA.two hB).1 (by rw [(hA.two hB).2]; exact eqDiffer hw hn h1 h2)
theorem loopAlike {l : List En} {gl : Tr (Option AV)} (hl : l.length < 1000000) (he : ∀ e ∈ l, e.r.length < 1000000) : ∀ (k i : Nat) (t : Tr AV) (H : Tr AO) (hs : Nat), i + k = l.length ->
  t.get .any 0 = .lst .no (l.map encE) -> t.get .any 1 = .lst .no (l.map encE) -> t.get .any 5 = .lit (.int .i64 i) ->
  RetN (W tab none (fin tab fi10) (lpc fi10 0) (lpk fi10 0) ⟨t, 42, H, hs, [], ⟨true, true, gl⟩⟩) (.lit (.bool true)) := by
 have D := d10
 simp only [stD, stC, List.cons.injEq, b10, Tryz.f10] at D
 simp only [stU, stC, b10, Tryz.f10]
 intro k
 induction k with
 | zero =>
  intro i t H hs hi a0 a1 a5
  have e1 : decide ((i : Int) < (l).length) = false := dcF (by omega)
  rw [W_loop]
  simp only [sG, seval, x10, a0, a5, e1, List.length_map]
 | succ k ih =>
  intro i t H hs hi a0 a1 a5
  have hlt : i < (l).length := by omega
  obtain ⟨e, hv, e1, e3, e4, e6, e7⟩ := atS hlt
  have e5 := wrap_succ (i := i) (by omega)
  have hm : e ∈ l := by rw [<- hv]; exact List.getElem_mem _
  have c := fun m H hs => @call25 m .no .no e.r H hs (by have := he e hm; omega)
  have z : decide (e.m = e.m) = true := decide_eq_true rfl
  rw [W_loop]
  simp only [sG, seval, a0, a1, a5, encE, encR, e1, e3, e4, e5, lG, c, D]
  apply ih (i + 1) _ _ _ (by omega)
  all_goals simp only [sG, seval, a0, a1]
theorem cAlike {m : Md} {A B : AV} {l : List En} {H : Tr AO} {hs : Nat} (hA : LE A l) (hB : LE B l) (hl : l.length < 1000000) (he : ∀ e ∈ l, e.r.length < 1000000) :
  callF tab (evw tab) m 10 [A, B] H hs = some (.lit (.bool true), H, hs) := by
 refine callF_iso tcon rfl rfl (hA.two hB).1 ?_
 rw [(hA.two hB).2]
 refine iso_ret ?_
 have L := @loopAlike l m.gl hl he l.length 0
 simp only [stU, stC, b10, Tryz.f10] at L
 have z : decide ((l.length : Int) = l.length) = true := decide_eq_true rfl
 simp (maxSteps := 2000000) only [sG, seval, x10, stU, b10, Tryz.f10, List.length_map]
 apply L
 ·simp
 all_goals simp only [sG, seval] <;> rfl
structure Pr where
 a : Int
 b : Int
def encP (p : Pr) : AV := .agg [.lit (.int .i64 p.a), .lit (.int .i64 p.b)]
theorem bare_P (p : Pr) : bare (encP p) = true := rfl
theorem nrm_P (p : Pr) : nrm (encP p) = encP p := rfl
def cellAt (r : Row) (n : Int) : Option Vl := bif decide (n < 0) then none else r[n.toNat]?
def prOk (a b : Row) (p : Pr) : Bool := match cellAt a p.a, cellAt b p.b with
 | some x, some y => decide (vcmp x y = 0)
 | _, _ => false
theorem cellAt_lt {r : Row} {n : Int} (h1 : decide (n < 0) = false) (h2 : decide ((r.length : Int) <= n) = false) : ∃ x, r[n.toNat]? = some x /\ x ∈ r := by
 have h1 := of_decide_eq_false h1
 have h2 := of_decide_eq_false h2
 have h3 : n.toNat < r.length := by omega
 exact ⟨r[n.toNat], List.getElem?_eq_getElem h3, List.getElem_mem _⟩
theorem cellAt_ge {r : Row} {n : Int} (h2 : decide ((r.length : Int) <= n) = true) : r[n.toNat]? = none := by
 have h2 := of_decide_eq_true h2
 exact List.getElem?_eq_none (by omega)
theorem loopPairs {a b : Row} {l : List Pr} {gl : Tr (Option AV)} (hl : l.length < 1000000) (ha : ∀ v ∈ a, v.s.length <= 9223372036854775807) : ∀ (k i : Nat) (t : Tr AV) (H : Tr AO) (hs : Nat), i + k = l.length ->
  t.get .any 0 = .lst .no (a.map encV) -> t.get .any 1 = .lst .no (b.map encV) -> t.get .any 2 = .lst .no (l.map encP) -> t.get .any 7 = .lit (.int .i64 i) ->
  RetN (W tab none (fin tab fi26) (lpc fi26 0) (lpk fi26 0) ⟨t, 55, H, hs, [], ⟨true, true, gl⟩⟩) (.lit (.bool ((l.drop i).all (prOk a b)))) := by
 have D := d26
 simp only [stD, stC, List.cons.injEq, b26, Tryz.f26] at D
 simp only [stU, stC, b26, Tryz.f26]
 intro k
 induction k with
 | zero =>
  intro i t H hs hi a0 a1 a2 a7
  have e1 : decide ((i : Int) < (l).length) = false := dcF (by omega)
  rw [W_loop, List.drop_of_length_le (by omega)]
  simp only [sG, seval, x26, a2, a7, e1, List.length_map]
 | succ k ih =>
  intro i t H hs hi a0 a1 a2 a7
  have hlt : i < (l).length := by omega
  obtain ⟨p, hv, e1, e3, e4, e6, e7⟩ := atS hlt
  have e5 := wrap_succ (i := i) (by omega)
  rw [W_loop, e6, List.all_cons]
  cases h1 : decide (p.a < 0) with
  | true =>
   have hp : prOk a b p = false := by unfold prOk cellAt; rw [h1]; rfl
   rw [hp]
   simp only [sG, seval, x26, a2, a7, encP, e1, e3, e4, lG, D, h1]
  | false =>
   cases h2 : decide ((a.length : Int) <= p.a) with
   | true =>
    have hp : prOk a b p = false := by unfold prOk cellAt; rw [h1, cond_false, cellAt_ge h2]
    rw [hp]
    simp only [sG, seval, x26, a0, a2, a7, encP, e1, e3, e4, lG, D, h1, h2]
   | false =>
    obtain ⟨x, hx, hxm⟩ := cellAt_lt h1 h2
    have d1 : decide (0 <= p.a) = true := by rw [decide_eq_true_iff]; have := of_decide_eq_false h1; omega
    cases h3 : decide (p.b < 0) with
    | true =>
     have hp : prOk a b p = false := by unfold prOk cellAt; rw [h1, h3, cond_false, hx]; rfl
     rw [hp]
     simp only [sG, seval, x26, a0, a2, a7, encP, e1, e3, e4, lG, D, h1, h2, h3]
    | false =>
     cases h4 : decide ((b.length : Int) <= p.b) with
     | true =>
      have hp : prOk a b p = false := by unfold prOk cellAt; rw [h1, h3, cond_false, cond_false, hx, cellAt_ge h4]
      rw [hp]
      simp only [sG, seval, x26, a0, a1, a2, a7, encP, e1, e3, e4, lG, D, h1, h2, h3, h4]
     | false =>
      obtain ⟨y, hy, _⟩ := cellAt_lt h3 h4
      have d2 : decide (0 <= p.b) = true := by rw [decide_eq_true_iff]; have := of_decide_eq_false h3; omega
      have hp : prOk a b p = decide (vcmp x y = 0) := by unfold prOk cellAt; rw [h1, h3, cond_false, cond_false, hx, hy]
      have c := fun m H hs => @call52 m x y H hs (ha x hxm)
      simp only [encV, Vl.cs] at c
      rw [hp]
      cases h5 : decide (vcmp x y = 0) with
      | false => simp only [sG, seval, x26, a0, a1, a2, a7, encP, encV, Vl.cs, e1, e3, e4, lG, D, h1, h2, h3, h4, hx, hy, d1, d2, c, h5]
      | true =>
       simp only [sG, seval, a0, a1, a2, a7, encP, encV, Vl.cs, e1, e3, e4, e5, lG, D, h1, h2, h3, h4, hx, hy, d1, d2, c, h5]
       apply ih (i + 1) _ _ _ (by omega)
       all_goals simp only [sG, seval, a0, a1, a2]
theorem cPairs {m : Md} {a b : Row} {l : List Pr} {k1 k2 k3 : ATk} {H : Tr AO} {hs : Nat} (hl : l.length < 1000000) (ha : ∀ v ∈ a, v.s.length <= 9223372036854775807) :
  callF tab (evw tab) m 26 [.lst k1 (a.map encV), .lst k2 (b.map encV), .lst k3 (l.map encP)] H hs = some (.lit (.bool (l.all (prOk a b))), H, hs) := by
 have hP := bares_mapf bare_P l
 have hP2 := nrms_mapg nrm_P l
 refine callF_iso tcon rfl rfl (by simp only [bares, bare, bares_V, hP, Bool.and_self]) ?_
 simp only [nrms, nrm, nrms_V, hP2]
 refine iso_ret ?_
 have L := @loopPairs a b l m.gl hl ha l.length 0
 simp only [stU, stC, b26, Tryz.f26] at L
 simp (maxSteps := 2000000) only [sG, seval, x26, stU, b26, Tryz.f26]
 apply L
 ·simp
 all_goals simp only [sG, seval] <;> rfl
theorem loopCells {l : List En} {w : Int} {gl : Tr (Option AV)} (hl : l.length < 1000000) : ∀ (k i : Nat) (t : Tr AV) (H : Tr AO) (hs : Nat), i + k = l.length ->
  t.get .any 0 = .lst .no (l.map encE) -> t.get .any 1 = .lit (.int .i64 w) -> t.get .any 5 = .lit (.int .i64 i) ->
  RetN (W tab none (fin tab fi49) (lpc fi49 0) (lpk fi49 0) ⟨t, 20, H, hs, [], ⟨true, true, gl⟩⟩) (.lit (.bool ((l.drop i).all fun e => decide ((e.r.length : Int) = w)))) := by
 simp only [stU, stC, b49, Tryz.f49]
 intro k
 induction k with
 | zero =>
  intro i t H hs hi a0 a1 a5
  have e1 : decide ((i : Int) < (l).length) = false := dcF (by omega)
  rw [W_loop, List.drop_of_length_le (by omega)]
  simp only [sG, seval, x49, a0, a5, e1, List.length_map]
 | succ k ih =>
  intro i t H hs hi a0 a1 a5
  have hlt : i < (l).length := by omega
  obtain ⟨e, hv, e1, e3, e4, e6, e7⟩ := atS hlt
  have e5 := wrap_succ (i := i) (by omega)
  rw [W_loop, e6, List.all_cons]
  cases h1 : decide ((e.r.length : Int) = w) with
  | false => simp only [sG, seval, x49, a0, a1, a5, encE, encR, e1, e3, e4, lG, h1]
  | true =>
   simp only [sG, seval, a0, a1, a5, encE, encR, e1, e3, e4, e5, lG, h1]
   apply ih (i + 1) _ _ _ (by omega)
   all_goals simp only [sG, seval, a0, a1]
theorem cCells {m : Md} {l : List En} {w : Int} {tk : ATk} {H : Tr AO} {hs : Nat} (hl : l.length < 1000000) :
  callF tab (evw tab) m 49 [.lst tk (l.map encE), .lit (.int .i64 w)] H hs = some (.lit (.bool (l.all fun e => decide ((e.r.length : Int) = w))), H, hs) := by
 refine callF_iso tcon rfl rfl (by simp only [bares, bare, bares_E, Bool.and_self]) ?_
 simp only [nrms, nrm, nrms_E]
 refine iso_ret ?_
 have L := @loopCells l w m.gl hl l.length 0
 simp only [stU, stC, b49, Tryz.f49] at L
 simp (maxSteps := 2000000) only [sG, seval, x49, stU, b49, Tryz.f49]
 apply L
 ·simp
 all_goals simp only [sG, seval] <;> rfl
structure BgI (l : List En) : Prop where
 srt : Srt l
 en : ∀ e ∈ l, OkE e /\ -1073741824 <= e.m /\ e.m <= 1073741824
 sz : l.length < 900000
theorem cRCopy {m : Md} {B : Nat} {A : AV} {ps : List (ATk × En)} {w : Bool} {H : Tr AO} {hs : Nat} (hB : H.get .dead B = .cells [A] w) (hA : LstV A (ps.map encK)) (hI : BgI (ents ps)) (hb : B < hs) :
  ∃ H' hs', callF tab (evw tab) m 72 [.ptr B 0] H hs = some (.ptr hs 0, H', hs') /\ RbAt H' hs (ents ps) /\ hs < hs' /\ Upb H H' [] hs := by
 have D := d72
 simp only [stD, stC, List.cons.injEq, b72, Tryz.f72] at D
 have f1 : (B = hs) = False := eq_false (by omega)
 have f2 : (hs = B) = False := eq_false (by omega)
 have hpl : (ents ps).length = ps.length := List.length_map _
 have hsz := hI.sz
 rw [callF_in (fi := fi72) tcon rfl rfl rfl]
 rcases hA with ⟨e0, rfl⟩ | ⟨tk, rfl⟩
 ·have e1 : ps = [] := List.map_eq_nil_iff.1 e0
  subst e1
  refine ⟨(H.put .dead hs (.cells [.lit (.slice none 0 0)] false)).put .dead hs (.cells [.lst .full []] false), hs + 1, ?_, ⟨⟨.lst .full [], [], by rw [Tr.get_put, if_pos rfl], .inr ⟨_, rfl⟩, rfl⟩, hI.srt, hI.en, hI.sz⟩, Nat.lt_succ_self _, fun q h1 h2 => by rw [Tr.get_put, if_neg (by omega), Tr.get_put, if_neg (by omega)]⟩
  have an1 : ∀ H hs, appendO H hs true true 2 32 (some (.lit (.slice none 0 0))) (some (.lit (.slice none 0 0))) = some (.lst .full [], H, hs) := fun _ _ => rfl
  simp (maxSteps := 2000000) only [sGA, seval, x72, stU, b72, Tryz.f72, hB, f1, an1, D]
 ·obtain ⟨t2, H5, hs5, e1, a1, l1, u1⟩ := (AccL.nil (lo := hs + 1) (H := H.put .dead hs (.cells [.lit (.slice none 0 0)] false)) (hs := hs + 1) (sz := 2)).app (b := 32) (agg := true) (tk := tk) (ys := ps.map encK) (Nat.le_refl _) (by intro y hy; obtain ⟨v, _, rfl⟩ := List.mem_map.1 hy; exact elK v) (by simp only [List.length_nil, List.length_map]; omega)
  rw [List.nil_append] at e1
  have g5 : H5.get .dead hs = .cells [.lit (.slice none 0 0)] false := by rw [u1 hs (by omega) (.inl (by omega)), Tr.get_put, if_pos rfl]
  refine ⟨H5.put .dead hs (.cells [.lst t2 (ps.map encK)] false), hs5, ?_, ⟨⟨_, ps, by rw [Tr.get_put, if_pos rfl], .inr ⟨_, rfl⟩, rfl⟩, hI.srt, hI.en, hI.sz⟩, by omega, fun q h1 h2 => by rw [Tr.get_put, if_neg (by omega), u1 q (by omega) (.inl (by omega)), Tr.get_put, if_neg (by omega)]⟩
  simp (maxSteps := 2000000) only [sGA, seval, x72, stU, b72, Tryz.f72, hB, f1, e1, g5, D]
def sideL (b0 : List En) : List En -> List En -> List En × Int
 | [], c => (c, 0)
 | e :: l, c => bif decide (IntKind.i64.wrap (bmany b0 e.r + e.m) < 0) || decide (1073741824 < IntKind.i64.wrap (bmany b0 e.r + e.m)) then ([], 10) else sideL b0 l (badd c e.r e.m).1
theorem loopSide {l b0 : List En} {ps : List (ATk × En)} {A : AV} {tk : ATk} {gl : Tr (Option AV)} {X B : Nat} (hl : l.length < 400000) (he : ∀ e ∈ l, OkR e.r) (hA : LstV A (ps.map encK)) (hb0 : ents ps = b0) (hI : BgI b0) : ∀ (k i : Nat) (t : Tr AV) (H : Tr AO) (hs : Nat) (c : List En), i + k = l.length -> RbAt H B c -> c.length + k < 850000 -> B < hs -> X < B -> H.get .dead X = .cells [A] false ->
  t.get .any 1 = .lst tk (l.map encE) -> t.get .any 2 = .ptr X 0 -> t.get .any 6 = .ptr B 0 -> t.get .any 7 = .lit (.int .i64 i) ->
  ∃ v H' hs', W tab none (fin tab fi50) (lpc fi50 0) (lpk fi50 0) ⟨t, 47, H, hs, [], ⟨true, true, gl⟩⟩ = some (v, H', hs') /\ hs <= hs' /\ Upb H H' [B] hs /\
   ((sideL b0 (l.drop i) c).2 ≠ 0 -> v = .tup [.lit (.pointer none), .lit (.int .i64 10)] /\ (sideL b0 (l.drop i) c).2 = 10) /\ ((sideL b0 (l.drop i) c).2 = 0 -> v = .tup [.ptr B 0, .lit (.int .i64 0)] /\ RbAt H' B (sideL b0 (l.drop i) c).1) := by
 have D := d50
 simp only [stD, stC, List.cons.injEq, b50, Tryz.f50] at D
 simp only [stU, stC, b50, Tryz.f50]
 have hpl : (ents ps).length = ps.length := List.length_map _
 have hsz := hI.sz
 rw [<- hb0, hpl] at hsz
 have hok : ∀ p ∈ ps, OkE p.2 := fun p hp => (hI.en p.2 (by rw [<- hb0]; exact List.mem_map.2 ⟨p, hp, rfl⟩)).1
 intro k
 induction k with
 | zero =>
  intro i t H hs c hi hb hz hB hXB hX a1 a2 a6 a7
  have e1 : decide ((i : Int) < (l).length) = false := dcF (by omega)
  rw [List.drop_of_length_le (by omega)]
  refine ⟨_, H, hs, ?_, Nat.le_refl _, fun _ _ _ => rfl, fun h => absurd rfl h, fun _ => ⟨rfl, hb⟩⟩
  rw [W_loop]
  simp only [sG, seval, x50, a1, a6, a7, e1, List.length_map]
 | succ k ih =>
  intro i t H hs c hi hb hz hB hXB hX a1 a2 a6 a7
  have hlt : i < (l).length := by omega
  obtain ⟨e, hv, e1, e3, e4, e6, e7⟩ := atS hlt
  have e5 := wrap_succ (i := i) (by omega)
  have hm : e ∈ l := by rw [<- hv]; exact List.getElem_mem _
  have cm := fun m hs => @cRMany m ps A .no e.r H hs X false (by omega) hok hX hA
  rw [hb0, rmany_bmany hI.srt] at cm
  rw [e6, sideL]
  cases h1 : decide (IntKind.i64.wrap (bmany b0 e.r + e.m) < 0) with
  | true =>
   refine ⟨_, H, hs, ?_, Nat.le_refl _, fun _ _ _ => rfl, fun _ => ⟨rfl, rfl⟩, fun h => by cases h⟩
   rw [W_loop]
   simp only [sG, seval, x50, a1, a2, a7, encE, encR, e1, e3, e4, lG, cm, h1, D]
  | false =>
   cases h2 : decide (1073741824 < IntKind.i64.wrap (bmany b0 e.r + e.m)) with
   | true =>
    refine ⟨_, H, hs, ?_, Nat.le_refl _, fun _ _ _ => rfl, fun _ => ⟨rfl, rfl⟩, fun h => by cases h⟩
    rw [W_loop]
    simp only [sG, seval, x50, a1, a2, a7, encE, encR, e1, e3, e4, lG, cm, h1, h2, D]
   | false =>
    obtain ⟨H1, hs1, w1, s1, l1, u1⟩ := cRAdd (m := ⟨true, true, gl⟩) (r := e.r) (n := e.m) (k1 := .no) hb (he e hm) (by omega) hB
    have hbl := @badd_len c e.r e.m
    have key : ∀ (R : List En × Int) (Z : Option (AV × Tr AO × Nat)), (∃ v H' hs', Z = some (v, H', hs') /\ hs1 <= hs' /\ Upb H1 H' [B] hs1 /\ (R.2 ≠ 0 -> v = .tup [.lit (.pointer none), .lit (.int .i64 10)] /\ R.2 = 10) /\ (R.2 = 0 -> v = .tup [.ptr B 0, .lit (.int .i64 0)] /\ RbAt H' B R.1)) ->
      (∃ v H' hs', Z = some (v, H', hs') /\ hs <= hs' /\ Upb H H' [B] hs /\ (R.2 ≠ 0 -> v = .tup [.lit (.pointer none), .lit (.int .i64 10)] /\ R.2 = 10) /\ (R.2 = 0 -> v = .tup [.ptr B 0, .lit (.int .i64 0)] /\ RbAt H' B R.1)) := by
     rintro R Z ⟨v, H', hs', x1, x2, x3, x4⟩
     exact ⟨v, H', hs', x1, by omega, fun q h2 h3 => (x3 q (by omega) h3).trans (u1 q h2 h3), x4⟩
    rw [W_loop, Bool.or_self, cond_false]
    simp only [sG, seval, a1, a2, a6, a7, encE, encR, e1, e3, e4, e5, lG, cm, h1, h2, w1, D]
    apply key
    apply ih (i + 1) _ _ _ _ (by omega) s1 (by omega) (by omega) hXB (by rw [u1 X (by omega) (by simp; omega)]; exact hX)
    all_goals simp only [sG, seval, a1, a2, a6]
theorem cSide {m : Md} {l : List En} {ps : List (ATk × En)} {A : AV} {tk : ATk} {H : Tr AO} {hs : Nat} (hl : l.length < 400000) (he : ∀ e ∈ l, OkR e.r) (hA : LstV A (ps.map encK)) (hI : BgI (ents ps)) (hz : ps.length + l.length < 850000) :
  ∃ v H' hs' B, callF tab (evw tab) m 50 [.agg [A], .lst tk (l.map encE)] H hs = some (v, H', hs') /\ hs <= B /\ B < hs' /\ Upb H H' [] hs /\
   ((sideL (ents ps) l (ents ps)).2 ≠ 0 -> v = .tup [.lit (.pointer none), .lit (.int .i64 10)] /\ (sideL (ents ps) l (ents ps)).2 = 10) /\ ((sideL (ents ps) l (ents ps)).2 = 0 -> v = .tup [.ptr B 0, .lit (.int .i64 0)] /\ RbAt H' B (sideL (ents ps) l (ents ps)).1) := by
 have hpl : (ents ps).length = ps.length := List.length_map _
 have g0 : (H.put .dead hs (.cells [A] false)).get .dead hs = .cells [A] false := by rw [Tr.get_put, if_pos rfl]
 obtain ⟨H1, hs1, w, s1, l1, u1⟩ := cRCopy (m := ⟨true, true, m.gl⟩) g0 hA hI (Nat.lt_succ_self hs)
 have L := @loopSide l (ents ps) ps A tk m.gl hs (hs + 1) hl he hA rfl hI l.length 0
 simp only [stU, stC, b50, Tryz.f50] at L
 have o1 : A.cells = [A] /\ oneCell A = true := by rcases hA with ⟨_, rfl⟩ | ⟨_, rfl⟩ <;> exact ⟨rfl, rfl⟩
 have key : ∀ (Z : Option (AV × Tr AO × Nat)), (∃ v H' hs', Z = some (v, H', hs') /\ hs1 <= hs' /\ Upb H1 H' [hs + 1] hs1 /\ ((sideL (ents ps) l (ents ps)).2 ≠ 0 -> v = .tup [.lit (.pointer none), .lit (.int .i64 10)] /\ (sideL (ents ps) l (ents ps)).2 = 10) /\ ((sideL (ents ps) l (ents ps)).2 = 0 -> v = .tup [.ptr (hs + 1) 0, .lit (.int .i64 0)] /\ RbAt H' (hs + 1) (sideL (ents ps) l (ents ps)).1)) ->
   (∃ v H' hs' B, Z = some (v, H', hs') /\ hs <= B /\ B < hs' /\ Upb H H' [] hs /\ ((sideL (ents ps) l (ents ps)).2 ≠ 0 -> v = .tup [.lit (.pointer none), .lit (.int .i64 10)] /\ (sideL (ents ps) l (ents ps)).2 = 10) /\ ((sideL (ents ps) l (ents ps)).2 = 0 -> v = .tup [.ptr B 0, .lit (.int .i64 0)] /\ RbAt H' B (sideL (ents ps) l (ents ps)).1)) := by
  rintro Z ⟨v, H', hs', x1, x2, x3, x4⟩
  exact ⟨v, H', hs', hs + 1, x1, by omega, by omega, fun q h2 h3 => by rw [x3 q (by omega) (by simp; omega), u1 q (by omega) (by simp), Tr.get_put, if_neg (by omega)], x4⟩
 rw [callF_in (fi := fi50) tcon rfl rfl rfl]
 simp (maxSteps := 2000000) only [sG, seval, x50, stU, b50, Tryz.f50, w]
 apply key
 apply L _ _ _ _ (by simp) s1 (by omega) (by omega) (by omega) (by rw [u1 hs (by omega) (by simp)]; exact g0)
 all_goals simp only [sG, seval] <;> rfl
structure Bg0 (l : List En) : Prop where
 srt : Srt l
 en : ∀ e ∈ l, OkE e /\ -1073741824 <= e.m /\ e.m <= 1073741824
theorem Bg0.nil : Bg0 [] := ⟨List.Pairwise.nil, fun _ h => by cases h⟩
theorem Bg0.set {l : List En} {r : Row} {m : Int} (h : Bg0 l) (hr : OkR r) (h1 : -1073741824 <= m) (h2 : m <= 1073741824) : Bg0 (bset l r m) := by
 refine ⟨bset_srt h.srt, fun e hm => ?_⟩
 rcases bset_row e hm with hm | ⟨q1, _, q2 | ⟨y, hy, q3, _⟩⟩
 ·exact h.en e hm
 ·exact ⟨by unfold OkE; rw [q2]; exact hr, by omega, by omega⟩
 ·exact ⟨by unfold OkE; rw [q3]; exact (h.en y hy).1, by omega, by omega⟩
theorem Bg0.add {l : List En} {r : Row} {m : Int} (h : Bg0 l) (hr : OkR r) : Bg0 (badd l r m).1 := by
 unfold badd
 cases rright r with
 | false => exact h
 | true =>
  cases hs : (bsum l r m).2 with
  | false => exact h
  | true =>
   have := bsum_few hs
   exact h.set hr this.1 this.2
theorem Bg0.bof : ∀ {l b : List En}, Bg0 b -> (∀ e ∈ l, OkR e.r) -> Bg0 (bof l b).1
 | [], b, h, _ => h
 | e :: l, b, h, hr => by
  unfold Go.Proofs.YtancionamhenmaaGreat.Ev.bof
  cases decide ((badd b e.r e.m).2 = 0) with
  | false => exact h
  | true => exact (h.add (hr e (List.mem_cons_self ..))).bof fun x hx => hr x (List.mem_cons_of_mem _ hx)
theorem bof_len : ∀ {l b : List En}, (bof l b).1.length <= l.length + b.length
 | [], b => by simp [bof]
 | e :: l, b => by
  unfold bof
  cases decide ((badd b e.r e.m).2 = 0) with
  | false => simp only [cond_false, List.length_cons]; omega
  | true =>
   have h1 := bof_len (l := l) (b := (badd b e.r e.m).1)
   have h2 := @badd_len b e.r e.m
   simp only [cond_true, List.length_cons]; omega
theorem bnet_len {l : List En} : (bnet l).1.length <= l.length := by
 have := bof_len (l := l) (b := [])
 unfold bnet
 cases decide ((bof l []).2 = 0) with
 | false => exact Nat.zero_le _
 | true => simpa using this
theorem bnet_I {l : List En} (h : ∀ e ∈ l, OkR e.r) : Bg0 (bnet l).1 := by
 unfold bnet
 cases decide ((bof l []).2 = 0) with
 | false => exact Bg0.nil
 | true => exact Bg0.nil.bof h
theorem sideL_I {b0 : List En} : ∀ {l c : List En}, Bg0 c -> (∀ e ∈ l, OkR e.r) -> Bg0 (sideL b0 l c).1
 | [], c, h, _ => h
 | e :: l, c, h, hr => by
  unfold sideL
  cases decide (IntKind.i64.wrap (bmany b0 e.r + e.m) < 0) || decide (1073741824 < IntKind.i64.wrap (bmany b0 e.r + e.m)) with
  | true => exact Bg0.nil
  | false => exact sideL_I (h.add (hr e (List.mem_cons_self ..))) fun x hx => hr x (List.mem_cons_of_mem _ hx)
theorem sideL_len {b0 : List En} : ∀ {l c : List En}, (sideL b0 l c).1.length <= l.length + c.length
 | [], c => by simp [sideL]
 | e :: l, c => by
  unfold sideL
  cases decide (IntKind.i64.wrap (bmany b0 e.r + e.m) < 0) || decide (1073741824 < IntKind.i64.wrap (bmany b0 e.r + e.m)) with
  | true => exact Nat.zero_le _
  | false =>
   have h1 := sideL_len (b0 := b0) (l := l) (c := (badd c e.r e.m).1)
   have h2 := @badd_len c e.r e.m
   simp only [cond_false, List.length_cons]; omega
structure SdAt (H : Tr AO) (S : Nat) (a b : Int) (l : List Pr) (L R : List En) : Prop where
 ex : ∃ kp LA ps RA qs, H.get .dead S = .cells [.lit (.int .i64 a), .lit (.int .i64 b), .lst kp (l.map encP), LA, RA] false /\ LstV LA (ps.map encK) /\ ents ps = L /\ LstV RA (qs.map encK) /\ ents qs = R
 iL : BgI L
 iR : BgI R
theorem SdAt.upd {H H' : Tr AO} {S : Nat} {a b : Int} {l : List Pr} {L R : List En} (h : SdAt H S a b l L R) (hu : H'.get .dead S = H.get .dead S) : SdAt H' S a b l L R := by
 obtain ⟨⟨kp, LA, ps, RA, qs, h1, h2⟩, h3, h4⟩ := h
 exact ⟨⟨kp, LA, ps, RA, qs, by rw [hu]; exact h1, h2⟩, h3, h4⟩
def cellsOk (w : Int) (l : List En) : Bool := l.all fun e => decide ((e.r.length : Int) = w)
def snext (a b : Int) (L R x y : List En) : (List En × List En) × Int :=
 bif decide ((bnet x).2 = 0) then (bif decide ((bnet y).2 = 0) then (bif cellsOk a (bnet x).1 && cellsOk b (bnet y).1 then
  (bif decide ((sideL L (bnet x).1 L).2 = 0) then (bif decide ((sideL R (bnet y).1 R).2 = 0) then (((sideL L (bnet x).1 L).1, (sideL R (bnet y).1 R).1), 0) else (([], []), 10)) else (([], []), 10)) else (([], []), 2)) else (([], []), (bnet y).2)) else (([], []), (bnet x).2)
theorem LstV.one {A : AV} {es : List AV} (h : LstV A es) : A.cells = [A] /\ oneCell A = true /\ flatOk A = true := by rcases h with ⟨_, rfl⟩ | ⟨_, rfl⟩ <;> exact ⟨rfl, rfl, rfl⟩
theorem sv_K (p : ATk × En) : sameV (encK p) (encK p) = true := by
 simp only [encK, sv_agg, sv_cons, sv_nil, sv_lst, sv_int, Bool.and_true]
 exact sv_map (fun v => by simp only [encV, Vl.cs, sv_agg, sv_cons, sv_nil, sv_int, sv_bool, sv_str, Bool.and_true]) _
theorem sP (l : List Pr) : sameVs (l.map encP) (l.map encP) = true := sv_map (fun p => by simp only [encP, sv_agg, sv_cons, sv_nil, sv_int, Bool.and_true]) l
theorem LstV.sv {A : AV} {ps : List (ATk × En)} (h : LstV A (ps.map encK)) : sameV A A = true := by
 rcases h with ⟨_, rfl⟩ | ⟨_, rfl⟩
 ·rfl
 ·rw [sv_lst]; exact sv_map sv_K ps
theorem cNext {m : Md} {S : Nat} {a b : Int} {l : List Pr} {L R x y : List En} {k1 k2 : ATk} {H : Tr AO} {hs : Nat} (h : SdAt H S a b l L R) (hS : S < hs) (hx : ∀ e ∈ x, OkR e.r) (hy : ∀ e ∈ y, OkR e.r) (lx : x.length < 100000) (ly : y.length < 100000) (lL : L.length < 400000) (lR : R.length < 400000) :
  ∃ v H' hs' S', callF tab (evw tab) m 23 [.ptr S 0, .lst k1 (x.map encE), .lst k2 (y.map encE)] H hs = some (v, H', hs') /\ hs <= hs' /\ Upb H H' [] hs /\
   ((snext a b L R x y).2 ≠ 0 -> v = .tup [.lit (.pointer none), .lit (.int .i64 (snext a b L R x y).2)]) /\
   ((snext a b L R x y).2 = 0 -> v = .tup [.ptr S' 0, .lit (.int .i64 0)] /\ hs <= S' /\ S' < hs' /\ SdAt H' S' a b l (snext a b L R x y).1.1 (snext a b L R x y).1.2) := by
 obtain ⟨⟨kp, LA, ps, RA, qs, hc, h1, rfl, h3, rfl⟩, hL, hR⟩ := h
 have D := d23
 simp only [stD, stC, List.cons.injEq, b23, Tryz.f23] at D
 have E := e23
 simp only [stX, stC, List.cons.injEq, b23, Tryz.f23] at E
 have c1 := fun m H hs => @cRNet m x k1 H hs (by omega) hx
 have c2 := fun m H hs => @cRNet m y k2 H hs (by omega) hy
 have hpl : (ents ps).length = ps.length := List.length_map _
 have hql : (ents qs).length = qs.length := List.length_map _
 have nx := @bnet_len x
 have ny := @bnet_len y
 have c3 := fun m H hs => @cCells m (bnet x).1 a .no H hs (by omega)
 have c4 := fun m H hs => @cCells m (bnet y).1 b .no H hs (by omega)
 have ix := bnet_I hx
 have iy := bnet_I hy
 rw [callF_in (fi := fi23) tcon rfl rfl rfl]
 unfold snext
 cases e1 : decide ((bnet x).2 = 0) with
 | false =>
  have e1' := of_decide_eq_false e1
  refine ⟨_, H, hs, 0, ?_, Nat.le_refl _, fun _ _ _ => rfl, fun _ => rfl, fun h => absurd h e1'⟩
  simp (maxSteps := 2000000) only [sG, seval, x23, stU, b23, Tryz.f23, c1, e1]
 | true =>
  have e1' := of_decide_eq_true e1
  rw [cond_true]
  cases e2 : decide ((bnet y).2 = 0) with
  | false =>
   have e2' := of_decide_eq_false e2
   refine ⟨_, H, hs, 0, ?_, Nat.le_refl _, fun _ _ _ => rfl, fun _ => rfl, fun h => absurd h e2'⟩
   simp (maxSteps := 2000000) only [sG, seval, x23, stU, b23, Tryz.f23, c1, c2, e1, e2]
  | true =>
   have e2' := of_decide_eq_true e2
   rw [cond_true]
   cases e3 : cellsOk a (bnet x).1 with
   | false =>
    have e3' := e3
    unfold cellsOk at e3'
    simp only [e3'] at c3
    refine ⟨_, H, hs, 0, ?_, Nat.le_refl _, fun _ _ _ => rfl, fun _ => rfl, fun h => by cases h⟩
    simp (maxSteps := 2000000) only [sG, seval, x23, stU, b23, Tryz.f23, c1, c2, e1, e2, c3, hc]
   | true =>
    have e3' := e3
    unfold cellsOk at e3'
    simp only [e3'] at c3
    cases e4 : cellsOk b (bnet y).1 with
    | false =>
     have e4' := e4
     unfold cellsOk at e4'
     simp only [e4'] at c4
     refine ⟨_, H, hs, 0, ?_, Nat.le_refl _, fun _ _ _ => rfl, fun _ => rfl, fun h => by cases h⟩
     simp (maxSteps := 2000000) only [sG, seval, x23, stU, b23, Tryz.f23, c1, c2, e1, e2, c3, c4, hc]
    | true =>
     have e4' := e4
     unfold cellsOk at e4'
     simp only [e4'] at c4
     rw [Bool.and_self, cond_true]
     obtain ⟨v1, H1, hs1, B1, w1, l1, l1', u1, bad1, ok1⟩ := cSide (m := ⟨true, true, m.gl⟩) (tk := .no) (H := H) (hs := hs) (l := (bnet x).1) (by omega) (fun e he => (ix.en e he).1) h1 hL (by omega)
     have hc1 : H1.get .dead S = .cells [.lit (.int .i64 a), .lit (.int .i64 b), .lst kp (l.map encP), LA, RA] false := by rw [u1 S hS (by simp)]; exact hc
     cases e5 : decide ((sideL (ents ps) (bnet x).1 (ents ps)).2 = 0) with
     | false =>
      obtain ⟨rfl, _⟩ := bad1 (of_decide_eq_false e5)
      refine ⟨_, H1, hs1, 0, ?_, by omega, u1, fun _ => rfl, fun h => by cases h⟩
      simp (maxSteps := 2000000) only [sG, seval, x23, stU, b23, Tryz.f23, c1, c2, e1, e2, c3, c4, hc, w1]
     | true =>
      obtain ⟨rfl, r1⟩ := ok1 (of_decide_eq_true e5)
      rw [cond_true]
      obtain ⟨v2, H2, hs2, B2, w2, l2, l2', u2, bad2, ok2⟩ := cSide (m := ⟨true, true, m.gl⟩) (tk := .no) (H := H1) (hs := hs1) (l := (bnet y).1) (by omega) (fun e he => (iy.en e he).1) h3 hR (by omega)
      have u12 : Upb H H2 [] hs := fun q q1 q2 => by rw [u2 q (by omega) q2, u1 q q1 q2]
      cases e6 : decide ((sideL (ents qs) (bnet y).1 (ents qs)).2 = 0) with
      | false =>
       obtain ⟨rfl, _⟩ := bad2 (of_decide_eq_false e6)
       refine ⟨_, H2, hs2, 0, ?_, by omega, u12, fun _ => rfl, fun h => by cases h⟩
       simp (maxSteps := 2000000) only [sG, seval, x23, stU, b23, Tryz.f23, c1, c2, e1, e2, c3, c4, hc, w1, hc1, w2]
      | true =>
       obtain ⟨rfl, r2⟩ := ok2 (of_decide_eq_true e6)
       have hc2 : H2.get .dead S = .cells [.lit (.int .i64 a), .lit (.int .i64 b), .lst kp (l.map encP), LA, RA] false := by rw [u12 S hS (by simp)]; exact hc
       obtain ⟨A1, ps1, g1, g2, g3⟩ := r1.ex
       obtain ⟨A2, ps2, g4, g5, g6⟩ := r2.ex
       have n1 : (S = hs2) = False := eq_false (by omega)
       have n2 : (B1 = hs2) = False := eq_false (by omega)
       have n3 : (B2 = hs2) = False := eq_false (by omega)
       have g1' : H2.get .dead B1 = .cells [A1] false := by rw [u2 B1 l1' (by simp)]; exact g1
       refine ⟨_, H2.put .dead hs2 (.cells [.lit (.int .i64 a), .lit (.int .i64 b), .lst kp (l.map encP), A1, A2] false), hs2 + 1, hs2, ?_, by omega, fun q q1 q2 => by rw [Tr.get_put, if_neg (by omega), u12 q q1 q2], fun h => absurd rfl h, fun _ => ⟨rfl, by omega, Nat.lt_succ_self _, ⟨kp, A1, ps1, A2, ps2, by rw [Tr.get_put, if_pos rfl], g2, g3, g5, g6⟩, ⟨r1.srt, r1.en, r1.sz⟩, ⟨r2.srt, r2.en, r2.sz⟩⟩⟩
       simp (maxSteps := 2000000) only [sG, seval, x23, stU, b23, Tryz.f23, c1, c2, e1, e2, c3, c4, hc, w1, hc1, w2, hc2, g1', g4, D, E, dY, sP, g2.sv, g5.sv, n1, n2, n3]
def goesR (l : List Pr) (R : List En) (r : Row) : Bool := R.any fun f => l.all (prOk r f.r)
def missRows (l : List Pr) (L R : List En) : List En := L.filter fun e => !goesR l R e.r
theorem LstV.len {A : AV} {ps : List (ATk × En)} (h : LstV A (ps.map encK)) : lenLO (some A) = some (.lit (.int .i64 ps.length)) := by
 rcases h with ⟨e0, rfl⟩ | ⟨tk, rfl⟩
 ·have e1 : ps = [] := List.map_eq_nil_iff.1 e0
  subst e1; rfl
 ·simp only [lenLO, List.length_map]
theorem LstV.lst {A : AV} {ps : List (ATk × En)} (h : LstV A (ps.map encK)) (hn : 0 < ps.length) : ∃ tk, A = .lst tk (ps.map encK) := by
 rcases h with ⟨e0, rfl⟩ | h
 ·have e1 : ps = [] := List.map_eq_nil_iff.1 e0
  subst e1; cases hn
 ·exact h
theorem inRows {P : Option (AV × Tr AO × Nat) -> Prop} {K : List Fr} {S : Nat} {a b : Int} {kp : ATk} {l : List Pr} {LA RA : AV} {ps qs : List (ATk × En)} {tp : ATk} {e : En} {i : Nat} {H : Tr AO} {hs : Nat} {gl : Tr (Option AV)} {A : AV} (hl : l.length < 1000000) (hqs : qs.length < 1000000)
  (hS : H.get .dead S = .cells [.lit (.int .i64 a), .lit (.int .i64 b), .lst kp (l.map encP), LA, RA] false) (hL : LstV LA (ps.map encK)) (hR : LstV RA (qs.map encK)) (hi : ps[i]? = some (tp, e)) (ho : OkE e)
  (hK : ∀ t' : Tr AV, t'.get .any 0 = .ptr S 0 -> t'.get .any 3 = A -> t'.get .any 4 = .lit (.int .i64 i) -> t'.get .any 5 = .lit (.bool (goesR l (ents qs) e.r)) -> P (kont tab none (fin tab fi12) K (.exit 2) ⟨t', 67, H, hs, [], ⟨true, true, gl⟩⟩)) :
  ∀ (k j : Nat) (t : Tr AV) (bb : Bool), j + k = qs.length -> (bb || goesR l (ents (qs.drop j)) e.r) = goesR l (ents qs) e.r -> t.get .any 0 = .ptr S 0 -> t.get .any 3 = A -> t.get .any 4 = .lit (.int .i64 i) -> t.get .any 5 = .lit (.bool bb) -> t.get .any 6 = .lit (.int .i64 j) ->
  P (W tab none (fin tab fi12) (lpc fi12 1) K ⟨t, 67, H, hs, [], ⟨true, true, gl⟩⟩) := by
 have D := d12
 simp only [stD, stC, List.cons.injEq, b12, Tryz.f12] at D
 simp only [stU, stC, b12, Tryz.f12]
 have g3 : decide (0 <= (i : Int)) = true := dcT (by omega)
 have hlt : i < ps.length := (List.getElem?_eq_some_iff.1 hi).1
 obtain ⟨tkL, rfl⟩ := hL.lst (by omega)
 have hlen := hR.len
 intro k
 induction k with
 | zero =>
  intro j t bb hj hb a0 a3 a4 a5 a6
  have e1 : decide ((j : Int) < qs.length) = false := dcF (by omega)
  rw [List.drop_of_length_le (by omega)] at hb
  have hb : bb = goesR l (ents qs) e.r := by rw [<- hb]; simp [ents, goesR]
  rw [W_loop]
  simp only [sG, seval, a0, a6, hS, hlen, e1]
  apply hK
  all_goals first | (simp only [sG, seval, a0, a3, a4]; done) | (simp only [sG, seval, a5, hb]; done)
 | succ k ih =>
  intro i1 t bb hj hb a0 a3 a4 a5 a6
  have e1 : decide ((i1 : Int) < qs.length) = true := dcT (by omega)
  have e3 : decide (0 <= (i1 : Int)) = true := dcT (by omega)
  have hq1 : i1 < qs.length := by omega
  have e4 : qs[i1]? = some qs[i1] := List.getElem?_eq_getElem _
  have e5 := wrap_succ (i := i1) (by omega)
  have e6 : qs.drop i1 = qs[i1] :: qs.drop (i1 + 1) := List.drop_eq_getElem_cons hq1
  generalize qs[i1] = q at e4 e6
  obtain ⟨tq, f⟩ := q
  obtain ⟨tkR, hRR⟩ := hR.lst (by omega)
  have c := fun m H hs => @cPairs m e.r f.r l tp tq kp H hs hl ho.2
  rw [e6] at hb
  have hb2 : (bb || (l.all (prOk e.r f.r) || goesR l (ents (qs.drop (i1 + 1))) e.r)) = goesR l (ents qs) e.r := by rw [<- hb]; simp [ents, goesR]
  rw [W_loop]
  cases bb with
  | true =>
   simp (maxSteps := 2000000) only [sG, seval, a0, a5, a6, hS, hlen, e1, e5, D]
   apply ih (i1 + 1) _ true (by omega) (by rw [<- hb2]; rfl)
   all_goals simp only [sG, seval, a0, a3, a4]
  | false =>
   subst hRR
   simp (maxSteps := 2000000) only [sG, seval, a0, a4, a5, a6, hS, hlen, e1, e3, e4, e5, g3, hi, D, c, encK, List.getElem?_map, Int.toNat_natCast]
   apply ih (i1 + 1) _ (l.all (prOk e.r f.r)) (by omega) (by rw [<- hb2]; rfl)
   all_goals simp only [sG, seval, a0, a3, a4]
theorem loopRows {S : Nat} {a b : Int} {kp : ATk} {l : List Pr} {LA RA : AV} {ps qs : List (ATk × En)} {gl : Tr (Option AV)} {lo : Nat} (hl : l.length < 1000000) (hps : ps.length < 1000000) (hqs : qs.length < 1000000)
  (hL : LstV LA (ps.map encK)) (hR : LstV RA (qs.map encK)) (ho : ∀ p ∈ ps, OkE p.2) (hSl : S < lo) : ∀ (k i : Nat) (t : Tr AV) (H : Tr AO) (hs : Nat) (A : AV) (out : List (ATk × En)), i + k = ps.length -> out.length <= i ->
  H.get .dead S = .cells [.lit (.int .i64 a), .lit (.int .i64 b), .lst kp (l.map encP), LA, RA] false -> AccL lo H hs 2 A (out.map encK) -> lo <= hs -> t.get .any 0 = .ptr S 0 -> t.get .any 3 = A -> t.get .any 4 = .lit (.int .i64 i) ->
  ∃ A' H' hs' out', W tab none (fin tab fi12) (lpc fi12 0) (lpk fi12 0) ⟨t, 67, H, hs, [], ⟨true, true, gl⟩⟩ = some (A', H', hs') /\ LstV A' (out'.map encK) /\ ents out' = ents out ++ missRows l (ents (ps.drop i)) (ents qs) /\ hs <= hs' /\ ∀ q, q < lo -> H'.get .dead q = H.get .dead q := by
 have D := d12
 simp only [stD, stC, List.cons.injEq, b12, Tryz.f12] at D
 have IN := @inRows
 simp only [stU, stC, b12, Tryz.f12] at IN
 simp only [stU, stC, b12, Tryz.f12]
 have hlen := hL.len
 intro k
 induction k with
 | zero =>
  intro i t H hs A out hi hoi hS hA hlo a0 a3 a4
  have e1 : decide ((i : Int) < (ps).length) = false := dcF (by omega)
  refine ⟨A, H, hs, out, ?_, ?_, ?_, Nat.le_refl _, fun _ _ => rfl⟩
  ·rw [W_loop]
   simp only [sG, seval, x12, a0, a3, a4, hS, hlen, e1]
  ·rcases hA with ⟨e0, rfl | rfl⟩ | ⟨r, rfl, _⟩
   ·exact .inl ⟨e0, rfl⟩
   ·rw [e0]; exact .inr ⟨_, rfl⟩
   ·exact .inr ⟨_, rfl⟩
  ·rw [List.drop_of_length_le (by omega)]; simp [ents, missRows]
 | succ k ih =>
  intro i t H hs A out hi hoi hS hA hlo a0 a3 a4
  have hlt : i < (ps).length := by omega
  obtain ⟨p, hv, e1, e3, e4, e6, e7⟩ := atS hlt
  have e5 := wrap_succ (i := i) (by omega)
  have hm : p ∈ ps := by rw [<- hv]; exact List.getElem_mem _
  have hop := ho p hm
  obtain ⟨tp, e⟩ := p
  obtain ⟨tkL, hLL⟩ := hL.lst (by omega)
  rw [e6, W_loop]
  simp (maxSteps := 2000000) only [sG, seval, a0, a4, hS, hlen, e1]
  refine IN (P := fun x => ∃ A' H' hs' out', x = some (A', H', hs') /\ LstV A' (out'.map encK) /\ ents out' = ents out ++ missRows l (ents ((tp, e) :: ps.drop (i + 1))) (ents qs) /\ hs <= hs' /\ ∀ q, q < lo -> H'.get .dead q = H.get .dead q) (A := A) hl hqs hS hL hR e4 hop ?_ qs.length 0 _ false (by omega) (by simp) ?_ ?_ ?_ ?_ ?_
  ·intro t' b0 b3 b4 b5
   cases hg : goesR l (ents qs) e.r with
   | true =>
    rw [hg] at b5
    have hmr : missRows l (ents ((tp, e) :: ps.drop (i + 1))) (ents qs) = missRows l (ents (ps.drop (i + 1))) (ents qs) := by simp [ents, missRows] at hg ⊢; simp [hg]
    rw [hmr]
    simp (maxSteps := 2000000) only [sG, seval, b4, b5, e5]
    apply ih (i + 1) _ H hs A out (by omega) (by omega) hS hA hlo
    all_goals simp only [sG, seval, b0, b3]
   | false =>
    rw [hg] at b5
    have hmr : missRows l (ents ((tp, e) :: ps.drop (i + 1))) (ents qs) = e :: missRows l (ents (ps.drop (i + 1))) (ents qs) := by simp [ents, missRows] at hg ⊢; simp [hg]
    obtain ⟨t2, H5, hs5, p1, p2, p3, p4⟩ := hA.app (b := 32) (agg := true) (tk := .full) (ys := [.agg [.lst tp (e.r.map encV), .lit (.int .i64 e.m)]]) hlo (by intro y hy; simp only [List.mem_singleton] at hy; rw [hy]; rfl) (by simp only [List.length_map, List.length_cons, List.length_nil]; omega)
    subst hLL
    have g3 : decide (0 <= (i : Int)) = true := dcT (by omega)
    have key : ∀ X : Option (AV × Tr AO × Nat), (∃ A' H' hs' out', X = some (A', H', hs') /\ LstV A' (out'.map encK) /\ ents out' = ents (out ++ [(tp, e)]) ++ missRows l (ents (ps.drop (i + 1))) (ents qs) /\ hs5 <= hs' /\ ∀ q, q < lo -> H'.get .dead q = H5.get .dead q) ->
      (∃ A' H' hs' out', X = some (A', H', hs') /\ LstV A' (out'.map encK) /\ ents out' = ents out ++ missRows l (ents ((tp, e) :: ps.drop (i + 1))) (ents qs) /\ hs <= hs' /\ ∀ q, q < lo -> H'.get .dead q = H.get .dead q) := by
     rintro X ⟨A', H', hs', out', x1, x2, x3, x4, x5⟩
     refine ⟨A', H', hs', out', x1, x2, ?_, by omega, fun q hq => (x5 q hq).trans (p4 q (by omega) (.inl hq))⟩
     rw [x3, hmr]; simp [ents]
    simp (maxSteps := 2000000) only [sGA, seval, stU, b0, b3, b4, b5, e4, e5, hS, g3, p1, encK, List.getElem?_map, Int.toNat_natCast]
    apply key
    apply ih (i + 1) _ H5 hs5 _ (out ++ [(tp, e)]) (by omega) (by simp; omega) (by rw [p4 S (by omega) (.inl hSl)]; exact hS) (by rw [List.map_append]; exact p2) (by omega)
    all_goals first | (simp only [sG, seval, b0]; done) | (simp only [sG, seval, List.map_append]; rfl)
  all_goals first | (simp only [sG, seval, a0, a3, a4]; done) | (simp only [sG, seval, a0, a3, a4]; rfl)
theorem cSRows {m : Md} {S : Nat} {a b : Int} {l : List Pr} {L R : List En} {H : Tr AO} {hs : Nat} (h : SdAt H S a b l L R) (hS : S < hs) (hl : l.length < 1000000) :
  ∃ A H' hs', callF tab (evw tab) m 12 [.ptr S 0] H hs = some (A, H', hs') /\ (∃ ps', LstV A (ps'.map encK) /\ ents ps' = missRows l L R) /\ hs <= hs' /\ Upb H H' [] hs := by
 obtain ⟨⟨kp, LA, ps, RA, qs, hc, h1, rfl, h3, rfl⟩, hL, hR⟩ := h
 have hpl : (ents ps).length = ps.length := List.length_map _
 have hql : (ents qs).length = qs.length := List.length_map _
 have z1 := hL.sz
 have z2 := hR.sz
 have LL := @loopRows S a b kp l LA RA ps qs m.gl hs hl (by omega) (by omega) h1 h3 (fun p hp => (hL.en p.2 (List.mem_map.2 ⟨p, hp, rfl⟩)).1) hS ps.length 0
 simp only [stU, stC, b12, Tryz.f12] at LL
 have key : ∀ X : Option (AV × Tr AO × Nat), (∃ A' H' hs' out', X = some (A', H', hs') /\ LstV A' (out'.map encK) /\ ents out' = ents [] ++ missRows l (ents (ps.drop 0)) (ents qs) /\ hs <= hs' /\ ∀ q, q < hs -> H'.get .dead q = H.get .dead q) ->
   (∃ A H' hs', X = some (A, H', hs') /\ (∃ ps', LstV A (ps'.map encK) /\ ents ps' = missRows l (ents ps) (ents qs)) /\ hs <= hs' /\ Upb H H' [] hs) := by
  rintro X ⟨A', H', hs', out', x1, x2, x3, x4, x5⟩
  exact ⟨A', H', hs', x1, ⟨out', x2, x3⟩, x4, fun q hq _ => x5 q hq⟩
 rw [callF_in (fi := fi12) tcon rfl rfl rfl]
 simp (maxSteps := 2000000) only [sG, seval, x12, stU, b12, Tryz.f12]
 apply key
 apply LL _ H hs _ [] (by simp) (by simp) hc AccL.nil (Nat.le_refl _)
 all_goals simp only [sG, seval] <;> rfl
theorem missRows_sub {l : List Pr} {L R : List En} : (missRows l L R).Sublist L := List.filter_sublist
theorem snext_I {a b : Int} {L R x y : List En} (hL : BgI L) (hR : BgI R) (hx : ∀ e ∈ x, OkR e.r) (hy : ∀ e ∈ y, OkR e.r) : Bg0 (snext a b L R x y).1.1 /\ Bg0 (snext a b L R x y).1.2 := by
 have ix := bnet_I hx
 have iy := bnet_I hy
 have q1 := sideL_I (b0 := L) (l := (bnet x).1) ⟨hL.srt, hL.en⟩ (fun e he => (ix.en e he).1)
 have q2 := sideL_I (b0 := R) (l := (bnet y).1) ⟨hR.srt, hR.en⟩ (fun e he => (iy.en e he).1)
 unfold snext
 cases decide ((bnet x).2 = 0) with
 | false => exact ⟨Bg0.nil, Bg0.nil⟩
 | true =>
  cases decide ((bnet y).2 = 0) with
  | false => exact ⟨Bg0.nil, Bg0.nil⟩
  | true =>
   cases cellsOk a (bnet x).1 && cellsOk b (bnet y).1 with
   | false => exact ⟨Bg0.nil, Bg0.nil⟩
   | true =>
    cases decide ((sideL L (bnet x).1 L).2 = 0) with
    | false => exact ⟨Bg0.nil, Bg0.nil⟩
    | true =>
     cases decide ((sideL R (bnet y).1 R).2 = 0) with
     | false => exact ⟨Bg0.nil, Bg0.nil⟩
     | true => exact ⟨q1, q2⟩
theorem snext_len {a b : Int} {L R x y : List En} : (snext a b L R x y).1.1.length <= x.length + L.length /\ (snext a b L R x y).1.2.length <= y.length + R.length := by
 have q1 := @sideL_len L (bnet x).1 L
 have q2 := @sideL_len R (bnet y).1 R
 have q3 := @bnet_len x
 have q4 := @bnet_len y
 unfold snext
 cases decide ((bnet x).2 = 0) with
 | false => exact ⟨Nat.zero_le _, Nat.zero_le _⟩
 | true =>
  cases decide ((bnet y).2 = 0) with
  | false => exact ⟨Nat.zero_le _, Nat.zero_le _⟩
  | true =>
   cases cellsOk a (bnet x).1 && cellsOk b (bnet y).1 with
   | false => exact ⟨Nat.zero_le _, Nat.zero_le _⟩
   | true =>
    cases decide ((sideL L (bnet x).1 L).2 = 0) with
    | false => exact ⟨Nat.zero_le _, Nat.zero_le _⟩
    | true =>
     cases decide ((sideL R (bnet y).1 R).2 = 0) with
     | false => exact ⟨Nat.zero_le _, Nat.zero_le _⟩
     | true => simp only [cond_true]; omega
def sapply (a b : Int) (l : List Pr) (L R x y : List En) : (List En × Int) × List En × List En :=
 bif decide ((snext a b L R x y).2 = 0) then (bif decide (1500 < ((missRows l (snext a b L R x y).1.1 (snext a b L R x y).1.2).length : Int)) then (([], 6), L, R) else ((differ (missRows l L R) (missRows l (snext a b L R x y).1.1 (snext a b L R x y).1.2), 0), (snext a b L R x y).1.1, (snext a b L R x y).1.2)) else (([], (snext a b L R x y).2), L, R)
theorem cSApply {m : Md} {S : Nat} {a b : Int} {l : List Pr} {L R x y : List En} {k1 k2 : ATk} {H : Tr AO} {hs : Nat} (h : SdAt H S a b l L R) (hS : S < hs) (hl : l.length < 1000000) (hx : ∀ e ∈ x, OkR e.r) (hy : ∀ e ∈ y, OkR e.r) (lx : x.length < 100000) (ly : y.length < 100000) (lL : L.length < 200000) (lR : R.length < 200000) :
  ∃ A H' hs', callF tab (evw tab) m 9 [.ptr S 0, .lst k1 (x.map encE), .lst k2 (y.map encE)] H hs = some (.tup [A, .lit (.int .i64 (sapply a b l L R x y).1.2)], H', hs') /\ LE A (sapply a b l L R x y).1.1 /\ hs <= hs' /\ Upb H H' [S] hs /\ SdAt H' S a b l (sapply a b l L R x y).2.1 (sapply a b l L R x y).2.2 := by
 obtain ⟨v, H1, hs1, S', w1, l1, u1, bad, ok⟩ := cNext (m := ⟨true, true, m.gl⟩) (k1 := k1) (k2 := k2) h hS hx hy lx ly (by omega) (by omega)
 have h1 : SdAt H1 S a b l L R := h.upd (u1 S hS (by simp))
 have sI := snext_I (a := a) (b := b) h.iL h.iR hx hy
 have sl := @snext_len a b L R x y
 rw [callF_in (fi := fi9) tcon rfl rfl rfl]
 unfold sapply
 cases e1 : decide ((snext a b L R x y).2 = 0) with
 | false =>
  obtain rfl := bad (of_decide_eq_false e1)
  refine ⟨.lit (.slice none 0 0), H1, hs1, ?_, ⟨rfl, rfl⟩, l1, fun q q1 q2 => u1 q q1 (by simp), h1⟩
  simp (maxSteps := 2000000) only [sG, seval, x9, stU, b9, Tryz.f9, w1, e1]
 | true =>
  obtain ⟨rfl, k1', k2', h2⟩ := ok (of_decide_eq_true e1)
  rw [cond_true]
  obtain ⟨A1, H2, hs2, w2, ⟨ps1, a1, a1'⟩, l2, u2⟩ := cSRows (m := ⟨true, true, m.gl⟩) (hs := hs1) h1 (by omega) hl
  have h2' := h2.upd (u2 S' (by omega) (by simp))
  obtain ⟨A2, H3, hs3, w3, ⟨ps2, a2, a2'⟩, l3, u3⟩ := cSRows (m := ⟨true, true, m.gl⟩) (hs := hs2) h2' (by omega) hl
  have hlen := a2.len
  have hpl : (ents ps2).length = ps2.length := List.length_map _
  have u13 : Upb H H3 [] hs := fun q q1 q2 => by rw [u3 q (by omega) q2, u2 q (by omega) q2, u1 q q1 q2]
  have h3 : SdAt H3 S a b l L R := h.upd (u13 S hS (by simp))
  have h3' := h2'.upd (u3 S' (by omega) (by simp))
  cases e2 : decide (1500 < ((missRows l (snext a b L R x y).1.1 (snext a b L R x y).1.2).length : Int)) with
  | true =>
   rw [<- a2', hpl] at e2
   refine ⟨.lit (.slice none 0 0), H3, hs3, ?_, ⟨rfl, rfl⟩, by omega, fun q q1 q2 => u13 q q1 (by simp), h3⟩
   simp (maxSteps := 2000000) only [sG, seval, x9, stU, b9, Tryz.f9, w1, w2, w3, hlen, e2]
  | false =>
   rw [<- a2', hpl] at e2
   obtain ⟨⟨kp, LA, ps, RA, qs, g1, g2, g3, g4, g5⟩, iL', iR'⟩ := h3'
   obtain ⟨⟨kp0, LA0, ps0, RA0, qs0, g10, g20, g30, g40, g50⟩, _, _⟩ := h3
   have n1 : (S' = S) = False := eq_false (by omega)
   have n2 : (S = S') = False := eq_false (by omega)
   have z1 := (missRows_sub (l := l) (L := L) (R := R)).length_le
   have z2 := (missRows_sub (l := l) (L := (snext a b L R x y).1.1) (R := (snext a b L R x y).1.2)).length_le
   have cD := fun m H hs => @cDiffer m A1 A2 (missRows l L R) (missRows l (snext a b L R x y).1.1 (snext a b L R x y).1.2) H hs (by rw [<- a1']; exact a1.le) (by rw [<- a2']; exact a2.le) (by omega) (by omega)
    (fun e he => (h.iL.en e (missRows_sub.subset he)).1) (fun e he => (sI.1.en e (missRows_sub.subset he)).1)
   refine ⟨.lst .no ((differ (missRows l L R) (missRows l (snext a b L R x y).1.1 (snext a b L R x y).1.2)).map encE), H3.put .dead S (.cells [.lit (.int .i64 a), .lit (.int .i64 b), .lst kp (l.map encP), LA, RA] false), hs3, ?_, LE.lst _ _, by omega, fun q q1 q2 => by rw [Tr.get_put, if_neg (by simpa using q2)]; exact u13 q q1 (by simp), ⟨kp, LA, ps, RA, qs, by rw [Tr.get_put, if_pos rfl], g2, g3, g4, g5⟩, iL', iR'⟩
   simp (maxSteps := 2000000) only [sG, seval, x9, stU, b9, Tryz.f9, w1, w2, w3, hlen, e2, g1, g10, cD, g2.one.2.1, g4.one.2.1]
def pin (a b : Int) (p : Pr) : Bool := !(decide (p.a < 0) || (decide (a <= p.a) || (decide (p.b < 0) || decide (b <= p.b))))
def wOk (a b : Int) : Bool := !(decide (a < 1) || (decide (b < 1) || (decide (40 < a) || decide (40 < b))))
theorem loopNewR {a b : Int} {l : List Pr} {kp : ATk} {gl : Tr (Option AV)} (hl : l.length < 1000000) : ∀ (k i : Nat) (t : Tr AV) (H : Tr AO) (hs : Nat), i + k = l.length ->
  t.get .any 0 = .lit (.int .i64 a) -> t.get .any 1 = .lit (.int .i64 b) -> t.get .any 2 = .lst kp (l.map encP) -> t.get .any 8 = .lit (.int .i64 i) ->
  W tab none (fin tab fi7) (lpc fi7 0) (lpk fi7 0) ⟨t, 66, H, hs, [], ⟨true, true, gl⟩⟩ =
   (bif (l.drop i).all (pin a b) then some (.tup [.ptr hs 0, .lit (.int .i64 0)], H.put .dead hs (.cells [.lit (.int .i64 a), .lit (.int .i64 b), .lst kp (l.map encP), .lit (.slice none 0 0), .lit (.slice none 0 0)] false), hs + 1) else some (.tup [.lit (.pointer none), .lit (.int .i64 2)], H, hs)) := by
 simp only [stU, stC, b7, Tryz.f7]
 intro k
 induction k with
 | zero =>
  intro i t H hs hi a0 a1 a2 a8
  have e1 : decide ((i : Int) < (l).length) = false := dcF (by omega)
  rw [W_loop, List.drop_of_length_le (by omega)]
  simp only [sG, seval, x7, stU, a0, a1, a2, a8, e1, List.length_map]
 | succ k ih =>
  intro i t H hs hi a0 a1 a2 a8
  have hlt : i < (l).length := by omega
  obtain ⟨p, hv, e1, e3, e4, e6, e7⟩ := atS hlt
  have e5 := wrap_succ (i := i) (by omega)
  rw [W_loop, e6, List.all_cons]
  unfold pin
  cases h1 : decide (p.a < 0) with
  | true => simp only [sG, seval, x7, a2, a8, encP, e1, e3, e4, lG, h1]
  | false =>
   cases h2 : decide (a <= p.a) with
   | true => simp only [sG, seval, x7, a0, a2, a8, encP, e1, e3, e4, lG, h1, h2]
   | false =>
    cases h3 : decide (p.b < 0) with
    | true => simp only [sG, seval, x7, a0, a2, a8, encP, e1, e3, e4, lG, h1, h2, h3]
    | false =>
     cases h4 : decide (b <= p.b) with
     | true => simp only [sG, seval, x7, a0, a1, a2, a8, encP, e1, e3, e4, lG, h1, h2, h3, h4]
     | false =>
      simp only [sG, seval, a0, a1, a2, a8, encP, e1, e3, e4, e5, lG, h1, h2, h3, h4]
      apply ih (i + 1) _ _ _ (by omega)
      all_goals simp only [sG, seval, a0, a1, a2]
def newE (a b : Int) (l : List Pr) : Bool := wOk a b && l.all (pin a b)
theorem cNewR {m : Md} {a b : Int} {l : List Pr} {kp : ATk} {H : Tr AO} {hs : Nat} (hl : l.length < 1000000) :
  callF tab (evw tab) m 7 [.lit (.int .i64 a), .lit (.int .i64 b), .lst kp (l.map encP)] H hs = (bif newE a b l then some (.tup [.ptr hs 0, .lit (.int .i64 0)], H.put .dead hs (.cells [.lit (.int .i64 a), .lit (.int .i64 b), .lst kp (l.map encP), .lit (.slice none 0 0), .lit (.slice none 0 0)] false), hs + 1) else some (.tup [.lit (.pointer none), .lit (.int .i64 2)], H, hs)) := by
 have L := @loopNewR a b l kp m.gl hl l.length 0
 simp only [stU, stC, b7, Tryz.f7] at L
 rw [callF_in (fi := fi7) tcon rfl rfl rfl]
 unfold newE wOk
 cases h1 : decide (a < 1) with
 | true => simp only [sG, seval, x7, stU, b7, Tryz.f7, h1]
 | false =>
  cases h2 : decide (b < 1) with
  | true => simp only [sG, seval, x7, stU, b7, Tryz.f7, h1, h2]
  | false =>
   cases h3 : decide (40 < a) with
   | true => simp only [sG, seval, x7, stU, b7, Tryz.f7, h1, h2, h3]
   | false =>
    cases h4 : decide (40 < b) with
    | true => simp only [sG, seval, x7, stU, b7, Tryz.f7, h1, h2, h3, h4]
    | false =>
     simp only [sG, seval, x7, stU, b7, Tryz.f7, h1, h2, h3, h4]
     apply L
     ·simp
     all_goals simp only [sG, seval] <;> rfl
def encN (n : Int) : AV := .lit (.int .i64 n)
theorem bare_N (n : Int) : bare (encN n) = true := rfl
theorem nrm_N (n : Int) : nrm (encN n) = encN n := rfl
def oc (x : Vl) : Option Row -> Option Row
 | some l => some (x :: l)
 | none => none
def oa (es : Row) : Option Row -> Option Row
 | some l => some (es ++ l)
 | none => none
theorem oa_oc (es : Row) (x : Vl) (o : Option Row) : oa es (oc x o) = oa (es ++ [x]) o := by cases o <;> simp [oa, oc]
theorem oa_nil (o : Option Row) : oa [] o = o := by cases o <;> simp [oa]
def pickR (r : Row) : List Int -> Option Row
 | [] => some []
 | c :: cs => match cellAt r c with
  | some v => oc v (pickR r cs)
  | none => none
def pickA (r : Row) (x : Option Row) : AV := match x with
 | some l => .tup [.lst .no (l.map encV), .lit (.int .i64 0)]
 | none => .tup [.lst .no [], .lit (.int .i64 2)]
theorem appV {H : Tr AO} {hs : Nat} {A : AV} {es : List Vl} (v : Vl) (h : Acc H hs 4 A (es.map encV)) (hl : es.length < 100000000) : appendO H hs true true 4 40 (some A) (some (.lst .full [.agg v.cs])) = some (.lst (.room hs) ((es ++ [v]).map encV), accH H hs 4 A, hs + 1) := accApp v h rfl (by omega)
theorem loopPick {r : Row} {cols : List Int} {gl : Tr (Option AV)} (hc : cols.length < 1000000) : ∀ (k i : Nat) (t : Tr AV) (H : Tr AO) (hs : Nat) (A : AV) (es : Row), i + k = cols.length -> es.length <= i -> Acc H hs 4 A (es.map encV) ->
  t.get .any 0 = .lst .no (r.map encV) -> t.get .any 6 = A -> t.get .any 12 = .lst .no (cols.map encN) -> t.get .any 13 = .lit (.int .i64 cols.length) -> t.get .any 14 = .lit (.int .i64 i) ->
  RetN (W tab none (fin tab fi61) (lpc fi61 0) (lpk fi61 0) ⟨t, 35, H, hs, [], ⟨true, true, gl⟩⟩) (pickA r (oa es (pickR r (cols.drop i)))) := by
 simp only [stU, stC, b61, Tryz.f61]
 intro k
 induction k with
 | zero =>
  intro i t H hs A es hi hes hA a0 a6 a12 a13 a14
  have e1 : decide ((i : Int) < (cols).length) = false := dcF (by omega)
  rw [W_loop, List.drop_of_length_le (by omega)]
  simp only [sG, seval, x61, a6, a13, a14, e1, pickR, pickA, oa]
  have h1 := accBare bare_V hA
  have h2 := accNrm nrm_V hA
  refine ⟨by simp only [h1], by simp only [h2]⟩
 | succ k ih =>
  intro i t H hs A es hi hes hA a0 a6 a12 a13 a14
  have hlt : i < (cols).length := by omega
  obtain ⟨c, hv, e1, e3, e4, e6, e7⟩ := atS hlt
  have e5 := wrap_succ (i := i) (by omega)
  rw [W_loop, e6]
  cases h1 : decide (c < 0) with
  | true =>
   have hp : cellAt r c = none := by unfold cellAt; rw [h1]; rfl
   simp only [pickR, hp]
   simp only [sG, seval, x61, a12, a13, a14, encN, e1, e3, e4, List.getElem?_map, Int.toNat_natCast, h1, pickA, oa]
  | false =>
   cases h2 : decide ((r.length : Int) <= c) with
   | true =>
    have hp : cellAt r c = none := by unfold cellAt; rw [h1, cond_false, cellAt_ge h2]
    simp only [pickR, hp]
    simp only [sG, seval, x61, a0, a12, a13, a14, encN, e1, e3, e4, lG, h1, h2, pickA, oa]
   | false =>
    obtain ⟨x, hx, hxm⟩ := cellAt_lt h1 h2
    have d1 : decide (0 <= c) = true := by rw [decide_eq_true_iff]; have := of_decide_eq_false h1; omega
    have hp : cellAt r c = some x := by unfold cellAt; rw [h1, cond_false, hx]
    have hP := appV x hA (by omega)
    have ih' := ih (i + 1)
    simp only [pickR, hp]
    rw [oa_oc]
    simp only [Vl.cs] at hP
    simp only [sGA, seval, stU, a0, a6, a12, a13, a14, encN, encV, Vl.cs, e1, e3, e4, e5, lG, h1, h2, hx, d1, hP]
    apply ih' _ _ _ _ (es ++ [x]) (by omega) (by simp; omega) accN
    all_goals first | (simp only [sG, seval, a0, a12, a13]; done) | (simp only [sG, seval, a0, a6, a12, a13, a14]; rfl)
theorem eqPick {m : Md} {r : Row} {cols : List Int} (hc : cols.length < 1000000) : iso tab fi61 m [.lst .no (r.map encV), .lst .no (cols.map encN)] = some (pickA r (pickR r cols)) := by
 refine iso_ret ?_
 have L := @loopPick r cols m.gl hc cols.length 0
 simp only [stU, stC, b61, Tryz.f61] at L
 have q1 : decide ((0 : Int) <= (cols.length : Int)) = true := dcT (by omega)
 have q2 : decide ((cols.length : Int) * (40 : Nat) <= 281474976710656) = true := dcT (by omega)
 have q3 : decide ((cols.length : Int) <= 9223372036854775807) = true := dcT (by omega)
 have mk := fun hs z => @mkSO_l hs 4 40 z (cols.length : Int) q1 q2 q3
 simp (maxSteps := 2000000) only [sG, seval, x61, stU, b61, Tryz.f61, List.length_map, dMO, mk]
 rw [<- oa_nil (pickR r cols)]
 apply L _ _ _ _ [] (by simp) (by simp)
 ·exact .inr ⟨0, rfl, by simp only [sG, seval], by omega⟩
 all_goals simp only [sG, seval] <;> rfl
theorem cPick {m : Md} {r : Row} {cols : List Int} {k1 k2 : ATk} {H : Tr AO} {hs : Nat} (hc : cols.length < 1000000) : callF tab (evw tab) m 61 [.lst k1 (r.map encV), .lst k2 (cols.map encN)] H hs = some (pickA r (pickR r cols), H, hs) :=
 callF_iso tcon rfl rfl (by simp only [bares, bare, bares_V, bares_mapf bare_N cols, Bool.and_self]) (by simp only [nrms, nrm, nrms_V, nrms_mapg nrm_N cols]; exact eqPick hc)
end Go.Proofs.YtancionamhenmaaGreat.Ev
