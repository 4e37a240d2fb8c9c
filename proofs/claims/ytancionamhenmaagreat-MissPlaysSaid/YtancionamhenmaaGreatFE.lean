import Derived.Test.YtancionamhenmaaGreatDW
set_option linter.all false
set_option maxRecDepth 100000
set_option maxHeartbeats 4000000
namespace Go.Proofs.YtancionamhenmaaGreat.Ev
open Go Go.Proofs.YtancionamhenmaaGreat.Ev Go.Proofs Go.Proofs.YtancionamhenmaaGreat Go.Proofs.YtancionamhenmaaGreat.Tab
theorem bget_mem {l : List En} {e : En} (h : Srt l) (he : e ∈ l) : bget l e.r = some e := by
 obtain ⟨a, b, rfl⟩ := List.append_of_mem he
 exact bget_mid h (rcmp_ord.rf _)
theorem bmany_mem {l : List En} {e : En} (h : Srt l) (he : e ∈ l) : bmany l e.r = e.m := by unfold bmany; rw [bget_mem h he]
theorem bget_some {l : List En} {r : Row} {e : En} (h : bget l r = some e) : e ∈ l /\ rcmp e.r r = 0 := by
 unfold bget at h
 exact ⟨List.mem_of_find?_eq_some h, by have := List.find?_some h; exact of_decide_eq_true this⟩
theorem bmany_ne {l : List En} {r : Row} (h : bmany l r ≠ 0) : ∃ e ∈ l, rcmp e.r r = 0 /\ e.m = bmany l r := by
 unfold bmany at h ⊢
 cases hb : bget l r with
 | none => rw [hb] at h; exact absurd rfl h
 | some e => exact ⟨e, (bget_some hb).1, (bget_some hb).2, rfl⟩
theorem rcmp_tr0 {a b c : Row} (h1 : rcmp a b = 0) (h2 : rcmp b c = 0) : rcmp a c = 0 := by
 have x1 := rcmp_ord.tr a b c (by omega) (by omega)
 have x2 := rcmp_ord.tr c b a (by have := rcmp_ord.sw b c; omega) (by have := rcmp_ord.sw a b; omega)
 have := rcmp_ord.sw a c
 omega
theorem bget_bset {l : List En} (h : Srt l) (r x : Row) (m : Int) : bmany (bset l r m) x = if rcmp r x = 0 then m else bmany l x := by
 induction l with
 | nil =>
  unfold bset
  by_cases hm : m = 0
  ·simp [hm, bmany, bget]
  ·by_cases hx : rcmp r x = 0 <;> simp [hm, hx, bmany, bget]
 | cons e l ih =>
  obtain ⟨hs, hl⟩ := h.cons
  have ih := ih hs
  unfold bset
  have hc : ∀ (y : En) (k : List En), bmany (y :: k) x = if rcmp y.r x = 0 then y.m else bmany k x := by
   intro y k
   unfold bmany; rw [bget_cons]
   by_cases hy : rcmp y.r x = 0 <;> simp [hy]
  cases h1 : decide (rcmp e.r r < 0) with
  | true =>
   have h1 := of_decide_eq_true h1
   rw [cond_true, hc, hc, ih]
   by_cases hx : rcmp e.r x = 0
   ·rw [if_pos hx, if_pos hx, if_neg]
    intro h2
    have := rcmp_tr0 hx (rc_eq.1 h2)
    omega
   ·rw [if_neg hx, if_neg hx]
  | false =>
   rw [cond_false]
   cases h2 : decide (rcmp e.r r = 0) with
   | true =>
    have h2 := of_decide_eq_true h2
    rw [cond_true]
    have key : (rcmp e.r x = 0) ↔ (rcmp r x = 0) := ⟨fun h => rcmp_tr0 (rc_eq.1 h2) h, fun h => rcmp_tr0 h2 h⟩
    cases h3 : decide (m = 0) with
    | true =>
     have h3 := of_decide_eq_true h3
     rw [cond_true, hc]
     by_cases hx : rcmp r x = 0
     ·rw [if_pos hx, h3]
      unfold bmany
      rw [bget_ahead]
      intro y hy
      have := hl y hy
      have hx' := key.2 hx
      exact rcmp_ord.le_lt (by have := rc_eq.1 hx'; omega) this
     ·rw [if_neg hx, if_neg (fun h => hx (key.1 h))]
    | false =>
     rw [cond_false, hc, hc]
     by_cases hx : rcmp r x = 0
     ·rw [if_pos hx, if_pos (key.2 hx)]
     ·rw [if_neg hx, if_neg (fun h => hx (key.1 h)), if_neg (fun h => hx (key.1 h))]
   | false =>
    rw [cond_false]
    have h1 := of_decide_eq_false h1
    have h2 := of_decide_eq_false h2
    have h4 : rcmp r e.r < 0 := by have := rcmp_ord.sw e.r r; omega
    cases h3 : decide (m = 0) with
    | true =>
     have h3 := of_decide_eq_true h3
     rw [cond_true]
     by_cases hx : rcmp r x = 0
     ·rw [if_pos hx, h3]
      unfold bmany
      rw [bget_ahead]
      intro y hy
      have hxe : rcmp x e.r < 0 := rcmp_ord.le_lt (by have := rc_eq.1 hx; omega) h4
      rcases List.mem_cons.1 hy with rfl | hy
      ·exact hxe
      ·exact rcmp_ord.lt_le hxe (Int.le_of_lt (hl y hy))
     ·rw [if_neg hx]
    | false => rw [cond_false, hc]
theorem compareBytes_eq : ∀ {a b : List UInt8}, Lib.compareBytes a b = 0 -> a = b
 | [], [], _ => rfl
 | [], _ :: _, h => by cases h
 | _ :: _, [], h => by cases h
 | x :: a, y :: b, h => by
  unfold Lib.compareBytes at h
  split at h
  ·cases h
  ·split at h
   ·cases h
   ·rename_i h1 h2
    have : x = y := by
     apply UInt8.toNat_inj.1
     rw [UInt8.lt_iff_toNat_lt] at h1 h2
     omega
    rw [this, compareBytes_eq h]
theorem cmpI_eq {a b : Int} (h : cmpI a b = 0) : a = b := by
 unfold cmpI at h
 by_cases h1 : a < b
 ·simp [h1] at h
 ·by_cases h2 : b < a
  ·simp [h1, h2] at h
  ·omega
theorem vcmp_k {a b : Vl} (h : vcmp a b = 0) : a.k = b.k := by
 unfold vcmp at h
 by_cases hk : a.k = b.k
 ·exact hk
 ·simp only [hk, decide_false, cond_false] at h; exact cmpI_eq h
theorem vl_ext {a b : Vl} (h1 : a.k = b.k) (h2 : a.b = b.b) (h3 : a.n = b.n) (h4 : a.s = b.s) : a = b := by
 obtain ⟨k, c, n, s⟩ := a
 obtain ⟨k', c', n', s'⟩ := b
 simp only at h1 h2 h3 h4
 subst h1 h2 h3 h4
 rfl
theorem vright_form {v : Vl} (h : vright v = true) : (v.k = 0 /\ v.b = false /\ v.n = 0 /\ v.s = []) ∨ (v.k = 1 /\ v.n = 0 /\ v.s = []) ∨ (v.k = 2 /\ v.b = false /\ v.s = []) ∨ (v.k = 3 /\ v.b = false /\ v.n = 0) := by
 rcases vright_cases h with e | e | e | ⟨e, _⟩
 ·exact .inl ⟨congrArg Vl.k e, congrArg Vl.b e, congrArg Vl.n e, congrArg Vl.s e⟩
 ·exact .inr (.inl ⟨congrArg Vl.k e, congrArg Vl.n e, congrArg Vl.s e⟩)
 ·exact .inr (.inr (.inl ⟨congrArg Vl.k e, congrArg Vl.b e, congrArg Vl.s e⟩))
 ·exact .inr (.inr (.inr ⟨congrArg Vl.k e, congrArg Vl.b e, congrArg Vl.n e⟩))
theorem vcmp_eq {a b : Vl} (ha : vright a = true) (hb : vright b = true) (h : vcmp a b = 0) : a = b := by
 have hk := vcmp_k h
 unfold vcmp at h
 simp only [hk, decide_true, cond_true] at h
 rcases vright_form ha with ⟨e1, e2, e3, e4⟩ | ⟨e1, e3, e4⟩ | ⟨e1, e2, e4⟩ | ⟨e1, e2, e3⟩ <;> rcases vright_form hb with ⟨f1, f2, f3, f4⟩ | ⟨f1, f3, f4⟩ | ⟨f1, f2, f4⟩ | ⟨f1, f2, f3⟩
 all_goals (first | (rw [e1, f1] at hk; exact absurd hk (by decide)) | skip)
 ·exact vl_ext hk (by rw [e2, f2]) (by rw [e3, f3]) (by rw [e4, f4])
 ·rw [f1] at h
  simp only [decide_true, cond_true] at h
  have := cmpI_eq h
  refine vl_ext hk ?_ (by rw [e3, f3]) (by rw [e4, f4])
  cases ha : a.b <;> cases hb : b.b <;> rw [ha, hb] at this <;> first | rfl | (exact absurd this (by decide))
 ·rw [f1] at h
  simp only [show decide ((2 : Int) = 1) = false from rfl, decide_true, cond_true, cond_false] at h
  exact vl_ext hk (by rw [e2, f2]) (cmpI_eq h) (by rw [e4, f4])
 ·rw [f1] at h
  simp only [show decide ((3 : Int) = 1) = false from rfl, show decide ((3 : Int) = 2) = false from rfl, decide_true, cond_true, cond_false] at h
  exact vl_ext hk (by rw [e2, f2]) (by rw [e3, f3]) (compareBytes_eq h)
theorem rcmp_eqL : ∀ {a b : Row}, (∀ v ∈ a, vright v = true) -> (∀ v ∈ b, vright v = true) -> rcmp a b = 0 -> a = b
 | [], [], _, _, _ => rfl
 | [], _ :: _, _, _, h => by cases h
 | _ :: _, [], _, _, h => by cases h
 | x :: a, y :: b, ha, hb, h => by
  unfold rcmp at h
  cases hc : decide (vcmp x y = 0) with
  | true =>
   rw [hc, cond_true] at h
   rw [vcmp_eq (ha x (by simp)) (hb y (by simp)) (of_decide_eq_true hc), rcmp_eqL (fun v hv => ha v (by simp [hv])) (fun v hv => hb v (by simp [hv])) h]
  | false =>
   rw [hc, cond_false] at h
   exact absurd h (of_decide_eq_false hc)
theorem rcmp_eqR {a b : Row} (ha : rright a = true) (hb : rright b = true) (h : rcmp a b = 0) : a = b := rcmp_eqL (rright_all ha).1 (rright_all hb).1 h
structure GdB (l : List En) : Prop where
 srt : Srt l
 rr : ∀ e ∈ l, rright e.r = true
 nz : ∀ e ∈ l, e.m ≠ 0
theorem GdB.nil : GdB [] := ⟨List.Pairwise.nil, fun _ h => (by cases h), fun _ h => (by cases h)⟩
theorem GdB.tail {e : En} {l : List En} (h : GdB (e :: l)) : GdB l := ⟨h.srt.cons.1, fun x hx => h.rr x (by simp [hx]), fun x hx => h.nz x (by simp [hx])⟩
theorem bmany_cons {y : En} {k : List En} {x : Row} : bmany (y :: k) x = if rcmp y.r x = 0 then y.m else bmany k x := by
 unfold bmany; rw [bget_cons]
 by_cases hy : rcmp y.r x = 0 <;> simp [hy]
theorem bmany_ahead {l : List En} {r : Row} (h : ∀ x ∈ l, rcmp r x.r < 0) : bmany l r = 0 := by unfold bmany; rw [bget_ahead h]
theorem bmany_ext : ∀ {l k : List En}, GdB l -> GdB k -> (∀ r, rright r = true -> bmany l r = bmany k r) -> l = k
 | [], [], _, _, _ => rfl
 | [], y :: k, _, hk, h => by
  have := h y.r (hk.rr y (by simp))
  rw [bmany_mem hk.srt (by simp)] at this
  exact absurd this.symm (hk.nz y (by simp))
 | x :: l, [], hl, _, h => by
  have := h x.r (hl.rr x (by simp))
  rw [bmany_mem hl.srt (by simp)] at this
  exact absurd this (hl.nz x (by simp))
 | x :: l, y :: k, hl, hk, h => by
  have sl := hl.srt.cons
  have sk := hk.srt.cons
  have h1 : rcmp x.r y.r = 0 := by
   rcases Int.lt_trichotomy (rcmp x.r y.r) 0 with g | g | g
   ·have e := h x.r (hl.rr x (by simp))
    rw [bmany_mem hl.srt (by simp), bmany_ahead (l := y :: k)] at e
    ·exact absurd e (hl.nz x (by simp))
    ·intro z hz
     rcases List.mem_cons.1 hz with rfl | hz
     ·exact g
     ·exact rcmp_ord.lt g (sk.2 z hz)
   ·exact g
   ·have g := rc_gt.1 g
    have e := h y.r (hk.rr y (by simp))
    rw [bmany_mem hk.srt (by simp), bmany_ahead (l := x :: l)] at e
    ·exact absurd e.symm (hk.nz y (by simp))
    ·intro z hz
     rcases List.mem_cons.1 hz with rfl | hz
     ·exact g
     ·exact rcmp_ord.lt g (sl.2 z hz)
  have h2 := rcmp_eqR (hl.rr x (by simp)) (hk.rr y (by simp)) h1
  have h3 := h x.r (hl.rr x (by simp))
  rw [bmany_mem hl.srt (by simp), bmany_cons, if_pos (by rw [<- h2]; exact rcmp_ord.rf _)] at h3
  have h4 : x = y := by
   obtain ⟨r, m⟩ := x
   obtain ⟨r', m'⟩ := y
   simp only at h2 h3
   rw [h2, h3]
  subst h4
  rw [bmany_ext hl.tail hk.tail fun r hr => ?_]
  have h5 := h r hr
  rw [bmany_cons, bmany_cons] at h5
  by_cases h6 : rcmp x.r r = 0
  ·have h7 := rcmp_eqR (hl.rr x (by simp)) hr h6
   rw [<- h7, bmany_ahead sl.2, bmany_ahead sk.2]
  ·rw [if_neg h6, if_neg h6] at h5; exact h5
theorem GdB.set {l : List En} {r : Row} {m : Int} (h : GdB l) (hr : rright r = true) : GdB (bset l r m) := by
 refine ⟨bset_srt h.srt, fun e he => ?_, fun e he => ?_⟩
 ·rcases bset_row e he with g | ⟨_, _, g | ⟨x, g1, g2, _⟩⟩
  ·exact h.rr e g
  ·rw [g]; exact hr
  ·rw [g2]; exact h.rr x g1
 ·rcases bset_row e he with g | ⟨g1, g2, _⟩
  ·exact h.nz e g
  ·rw [g1]; exact g2
theorem badd_set {l : List En} {r : Row} {n : Int} (hr : rright r = true) (h1 : -2147483648 <= n) (h2 : n <= 2147483648) (h3 : -1073741824 <= bmany l r + n) (h4 : bmany l r + n <= 1073741824) : badd l r n = (bset l r (bmany l r + n), 0) := by
 unfold badd bsum
 have e1 : (decide (n < -2147483648) || decide (2147483648 < n)) = false := by simp; omega
 rw [hr, e1, cond_true, cond_false, fewI_iff.2 ⟨h3, h4⟩]
 rfl
theorem badd_or {l : List En} {r : Row} {n : Int} : (badd l r n).1 = l ∨ (rright r = true /\ ∃ m, (badd l r n).1 = bset l r m) := by
 unfold badd
 cases h1 : rright r with
 | false => exact .inl rfl
 | true =>
  cases h2 : (bsum l r n).2 with
  | false => exact .inl rfl
  | true => exact .inr ⟨rfl, _, rfl⟩
theorem GdB.badd {l : List En} {r : Row} {n : Int} (h : GdB l) : GdB (badd l r n).1 := by
 rcases @badd_or l r n with e | ⟨hr, m, e⟩
 ·rw [e]; exact h
 ·rw [e]; exact h.set hr
theorem GdB.filter {l : List En} (h : GdB l) (p : En -> Bool) : GdB (l.filter p) :=
 ⟨h.srt.sublist List.filter_sublist, fun e he => h.rr e (List.mem_filter.1 he).1, fun e he => h.nz e (List.mem_filter.1 he).1⟩
theorem bmany_filter {l : List En} (h : GdB l) (p : Row -> Bool) {r : Row} (hr : rright r = true) : bmany (l.filter fun e => p e.r) r = if p r = true then bmany l r else 0 := by
 induction l with
 | nil => simp [bmany, bget]
 | cons e l ih =>
  have ih := ih h.tail
  rw [List.filter_cons, bmany_cons]
  by_cases h1 : rcmp e.r r = 0
  ·have h2 := rcmp_eqR (h.rr e (by simp)) hr h1
   rw [if_pos h1, h2]
   by_cases h3 : p r = true
   ·rw [if_pos h3, if_pos h3, bmany_cons, if_pos h1]
   ·rw [if_neg h3, if_neg h3, ih, if_neg h3]
  ·rw [if_neg h1]
   by_cases h3 : p e.r = true
   ·rw [if_pos h3, bmany_cons, if_neg h1, ih]
   ·rw [if_neg h3, ih]
theorem bset_filter {l : List En} (h : GdB l) (p : Row -> Bool) {r : Row} {m : Int} (hr : rright r = true) : (bset l r m).filter (fun e => p e.r) = if p r = true then bset (l.filter fun e => p e.r) r m else l.filter fun e => p e.r := by
 have g1 := (h.set (m := m) hr).filter (fun e => p e.r)
 have g2 := h.filter (fun e => p e.r)
 by_cases h1 : p r = true
 ·rw [if_pos h1]
  refine bmany_ext g1 (g2.set hr) fun x hx => ?_
  rw [bmany_filter (h.set hr) p hx, bget_bset h.srt, bget_bset g2.srt, bmany_filter h p hx]
  by_cases h2 : rcmp r x = 0
  ·have := rcmp_eqR hr hx h2
   subst this
   simp [h1, h2]
  ·simp [h2]
 ·rw [if_neg h1]
  refine bmany_ext g1 g2 fun x hx => ?_
  rw [bmany_filter (h.set hr) p hx, bget_bset h.srt, bmany_filter h p hx]
  by_cases h2 : rcmp r x = 0
  ·have := rcmp_eqR hr hx h2
   subst this
   simp [h1]
  ·simp [h2]
theorem badd_filter {l : List En} (h : GdB l) (p : Row -> Bool) {r : Row} {n : Int} (hr : rright r = true) : ((badd l r n).1).filter (fun e => p e.r) = if p r = true then (badd (l.filter fun e => p e.r) r n).1 else l.filter fun e => p e.r := by
 by_cases h1 : p r = true
 ·rw [if_pos h1]
  have e : bmany (l.filter fun e => p e.r) r = bmany l r := by rw [bmany_filter h p hr, if_pos h1]
  unfold badd bsum
  rw [e, hr]
  cases decide (n < -2147483648) || decide (2147483648 < n) with
  | true => rfl
  | false =>
   simp only [cond_true, cond_false]
   cases fewI (bmany l r + n) with
   | false => rfl
   | true =>
    simp only [cond_true]
    rw [bset_filter h p hr, if_pos h1]
 ·rw [if_neg h1]
  rcases @badd_or l r n with e | ⟨_, m, e⟩
  ·rw [e]
  ·rw [e, bset_filter h p hr, if_neg h1]
def keyOf (cols : List Int) (r : Row) : List UInt8 := keyB (cellsP cols r)
def Keyed (cols : List Int) (L : List En) (f : List UInt8 -> List En) : Prop := ∀ k, f k = L.filter fun e => keyOf cols e.r == k
theorem updW_keyed {cols : List Int} : ∀ {X L : List En} {f : List UInt8 -> List En}, GdB L -> (∀ e ∈ X, OkT cols e) -> Keyed cols L f -> Keyed cols (mrg 1 X L) (updW cols X f)
 | [], L, f, _, _, hf => hf
 | e :: X, L, f, hL, hX, hf => by
  obtain ⟨hr, c, hp⟩ := hX e (by simp)
  have hc : keyOf cols e.r = keyB c := by unfold keyOf cellsP; rw [hp]; rfl
  unfold mrg updW
  rw [hp]
  refine updW_keyed hL.badd (fun x hx => hX x (by simp [hx])) fun k => ?_
  rw [badd_filter hL (fun r => keyOf cols r == k) hr]
  unfold updK
  by_cases h1 : k = keyB c
  ·subst h1
   rw [if_pos rfl, if_pos (by rw [hc]; exact beq_self_eq_true _), hf]
  ·rw [if_neg h1, if_neg (by rw [hc]; simp; exact fun h => h1 h.symm), hf]
theorem mrg_good : ∀ {X L : List En} {k : Int}, GdB L -> GdB (mrg k X L)
 | [], _, _, h => h
 | e :: X, L, k, h => mrg_good (X := X) h.badd
theorem sideL_err {b0 : List En} : ∀ {X c : List En}, (sideL b0 X c).2 = bif beyondB b0 X then 10 else 0
 | [], c => rfl
 | e :: X, c => by
  unfold sideL
  have h : beyondB b0 (e :: X) = ((decide (IntKind.i64.wrap (bmany b0 e.r + e.m) < 0) || decide (1073741824 < IntKind.i64.wrap (bmany b0 e.r + e.m))) || beyondB b0 X) := by unfold beyondB; rw [List.any_cons]
  rw [h]
  cases decide (IntKind.i64.wrap (bmany b0 e.r + e.m) < 0) || decide (1073741824 < IntKind.i64.wrap (bmany b0 e.r + e.m)) with
  | true => rfl
  | false => rw [cond_false, Bool.false_or]; exact sideL_err
theorem sideL_mrg {b0 : List En} : ∀ {X c : List En}, (∀ e ∈ X, -1073741824 <= e.m /\ e.m <= 1073741824) -> beyondB b0 X = false -> (sideL b0 X c).1 = mrg 1 X c
 | [], c, _, _ => rfl
 | e :: X, c, hm, h => by
  have h1 : beyondB b0 (e :: X) = ((decide (IntKind.i64.wrap (bmany b0 e.r + e.m) < 0) || decide (1073741824 < IntKind.i64.wrap (bmany b0 e.r + e.m))) || beyondB b0 X) := by unfold beyondB; rw [List.any_cons]
  rw [h1, Bool.or_eq_false_iff] at h
  unfold sideL mrg
  have hw : mulw 1 e = e.m := by unfold mulw; rw [Int.mul_one, wrap_i64 (by have := hm e (by simp); omega) (by have := hm e (by simp); omega)]
  rw [h.1, cond_false, hw]
  exact sideL_mrg (fun x hx => hm x (by simp [hx])) h.2
theorem narrow_cells {w : Int} {X : List En} : narrowB w X = !cellsOk w X := by
 unfold narrowB cellsOk
 induction X with
 | nil => rfl
 | cons e X ih => rw [List.any_cons, List.all_cons, ih, Bool.not_and]
theorem mulw1 {e : En} (h1 : -2147483648 <= e.m) (h2 : e.m <= 2147483648) : mulw 1 e = e.m := by unfold mulw; rw [Int.mul_one, wrap_i64 (by omega) (by omega)]
def Fits (L X : List En) : Prop := ∀ e ∈ X, (-2147483648 <= e.m /\ e.m <= 2147483648) /\ -1073741824 <= bmany L e.r + e.m /\ bmany L e.r + e.m <= 1073741824
theorem mrg_many : ∀ {X L : List En}, GdB X -> GdB L -> Fits L X -> ∀ r, rright r = true -> bmany (mrg 1 X L) r = bmany L r + bmany X r
 | [], L, _, _, _, r, _ => by simp [mrg, bmany, bget]
 | e :: X, L, hX, hL, hf, r, hr => by
  obtain ⟨⟨f1, f2⟩, f3, f4⟩ := hf e (by simp)
  have hre := hX.rr e (by simp)
  have hs := hX.srt.cons
  unfold mrg
  rw [mulw1 f1 f2, badd_set hre f1 f2 f3 f4]
  have key : ∀ x, bmany (bset L e.r (bmany L e.r + e.m)) x = if rcmp e.r x = 0 then bmany L e.r + e.m else bmany L x := fun x => bget_bset hL.srt _ _ _
  rw [mrg_many hX.tail (hL.set hre) (fun x hx => ?_) r hr, key, bmany_cons]
  ·by_cases h1 : rcmp e.r r = 0
   ·have := rcmp_eqR hre hr h1
    subst this
    rw [if_pos h1, if_pos h1, bmany_ahead hs.2]
    omega
   ·rw [if_neg h1, if_neg h1]
  ·obtain ⟨g1, g2⟩ := hf x (by simp [hx])
   refine ⟨g1, ?_⟩
   rw [key, if_neg (by have := hs.2 x hx; omega)]
   exact g2
theorem sums_ok {X L : List En} (h : Fits L X) : sumsOk 1 L X = true := by
 unfold sumsOk
 rw [List.all_eq_true]
 intro e he
 obtain ⟨⟨f1, f2⟩, f3, f4⟩ := h e he
 rw [mulw1 f1 f2]
 unfold bsum
 rw [show (decide (e.m < -2147483648) || decide (2147483648 < e.m)) = false by simp; omega, cond_false]
 exact fewI_iff.2 ⟨f3, f4⟩
theorem mmerge_many {X L : List En} (h : Fits L X) : mmerge 1 L X = (mrg 1 X L, 0) := by
 unfold mmerge
 rw [show fewI 1 = true from rfl, cond_true, sums_ok h, cond_true]
def Pos (l : List En) : Prop := ∀ e ∈ l, 0 < e.m /\ e.m <= 1073741824
theorem Pos.b {l : List En} (h : Pos l) (r : Row) : 0 <= bmany l r /\ bmany l r <= 1073741824 := by
 by_cases h1 : bmany l r = 0
 ·omega
 ·obtain ⟨e, he, _, hm⟩ := bmany_ne h1
  have := h e he
  omega
theorem add1_mrg : ∀ {l b : List En}, Pos l -> add1 l b = mrg 1 l b
 | [], _, _ => rfl
 | e :: l, b, h => by
  have := h e (by simp)
  unfold add1 mrg
  rw [mulw1 (by omega) (by omega)]
  exact add1_mrg fun x hx => h x (by simp [hx])
def negL (l : List En) : List En := l.map fun e => ⟨e.r, -e.m⟩
theorem sub1_mrg : ∀ {l b : List En}, Pos l -> sub1 l b = mrg 1 (negL l) b
 | [], _, _ => rfl
 | e :: l, b, h => by
  have := h e (by simp)
  show sub1 l (badd b e.r (IntKind.i64.wrap (0 - e.m))).1 = mrg 1 (negL l) (badd b e.r (mulw 1 ⟨e.r, -e.m⟩)).1
  rw [mulw1 (e := ⟨e.r, -e.m⟩) (by show _ <= -e.m; omega) (by show -e.m <= _; omega), wrap_i64 (by omega) (by omega), Int.zero_sub]
  exact sub1_mrg fun x hx => h x (by simp [hx])
theorem negL_many {l : List En} (r : Row) : bmany (negL l) r = - bmany l r := by
 induction l with
 | nil => rfl
 | cons e l ih =>
  show bmany (⟨e.r, -e.m⟩ :: negL l) r = _
  rw [bmany_cons, bmany_cons, ih]
  by_cases h : rcmp e.r r = 0 <;> simp [h]
theorem GdB.neg {l : List En} (h : GdB l) : GdB (negL l) := by
 refine ⟨?_, fun e he => ?_, fun e he => ?_⟩
 ·unfold negL Srt
  rw [List.pairwise_map]
  exact h.srt
 ·obtain ⟨x, hx, rfl⟩ := List.mem_map.1 he; exact h.rr x hx
 ·obtain ⟨x, hx, rfl⟩ := List.mem_map.1 he
  have := h.nz x hx
  show -x.m ≠ 0
  omega
theorem differ_many {was now : List En} (hw : GdB was) (hn : GdB now) (pw : Pos was) (pn : Pos now) : GdB (differ was now) /\ ∀ r, rright r = true -> bmany (differ was now) r = bmany now r - bmany was r := by
 have f1 : Fits [] now := fun e he => by
  have := pn e he
  have h0 : bmany [] e.r = 0 := rfl
  rw [h0]; omega
 have m1 := mrg_many hn GdB.nil f1
 have m2 : ∀ r, rright r = true -> bmany (mrg 1 now []) r = bmany now r := fun r hr => by rw [m1 r hr]; show (0 : Int) + _ = _; omega
 unfold differ
 rw [sub1_mrg pw, add1_mrg pn]
 have f2 : Fits (mrg 1 now []) (negL was) := fun e he => by
  obtain ⟨x, hx, rfl⟩ := List.mem_map.1 he
  have h1 := pw x hx
  have h2 := pn.b x.r
  rw [m2 _ (hw.rr x hx)]
  show (-2147483648 <= -x.m /\ -x.m <= 2147483648) /\ -1073741824 <= bmany now x.r + -x.m /\ bmany now x.r + -x.m <= 1073741824
  omega
 refine ⟨mrg_good (mrg_good GdB.nil), fun r hr => ?_⟩
 rw [mrg_many hw.neg (mrg_good GdB.nil) f2 r hr, m2 r hr, negL_many]
 omega
theorem chB_good {w nw : Row -> Int} : ∀ {rs : List Row} {l : List En}, GdB l -> GdB (chB w nw rs l)
 | [], _, h => h
 | r :: rs, l, h => chB_good (rs := rs) h.badd
theorem chB_many {w nw : Row -> Int} : ∀ {rs : List Row} {l : List En}, GdB l -> rs.Pairwise (fun a b => rcmp a b ≠ 0) -> (∀ x ∈ rs, rright x = true /\ bmany l x = 0 /\ -1073741824 <= nw x - w x /\ nw x - w x <= 1073741824) -> ∀ r, rright r = true -> (r ∈ rs -> bmany (chB w nw rs l) r = nw r - w r) /\ (r ∉ rs -> bmany (chB w nw rs l) r = bmany l r)
 | [], l, _, _, _, r, _ => ⟨fun h => (by cases h), fun _ => rfl⟩
 | x :: rs, l, hl, hp, hx, r, hr => by
  obtain ⟨p1, p2⟩ := List.pairwise_cons.1 hp
  obtain ⟨x1, x2, x3, x4⟩ := hx x (by simp)
  have hw : IntKind.i64.wrap (nw x - w x) = nw x - w x := wrap_i64 (by omega) (by omega)
  have key : ∀ y, bmany (bset l x (bmany l x + (nw x - w x))) y = if rcmp x y = 0 then bmany l x + (nw x - w x) else bmany l y := fun y => bget_bset hl.srt _ _ _
  unfold chB
  rw [hw, badd_set x1 (by omega) (by omega) (by omega) (by omega)]
  have ih := chB_many (w := w) (nw := nw) (rs := rs) (l := bset l x (bmany l x + (nw x - w x))) (hl.set x1) p2 (fun y hy => by
   obtain ⟨y1, y2, y3⟩ := hx y (by simp [hy])
   refine ⟨y1, ?_, y3⟩
   rw [key, if_neg (p1 y hy)]; exact y2) r hr
  by_cases hm : r ∈ rs
  ·exact ⟨fun _ => ih.1 hm, fun h => absurd (List.mem_cons_of_mem _ hm) h⟩
  ·by_cases hxr : r = x
   ·subst hxr
    refine ⟨fun _ => ?_, fun h => absurd List.mem_cons_self h⟩
    rw [ih.2 hm, key, if_pos (rcmp_ord.rf _), x2]; omega
   ·refine ⟨fun h => ?_, fun _ => ?_⟩
    ·rcases List.mem_cons.1 h with h | h
     ·exact absurd h hxr
     ·exact absurd h hm
    ·rw [ih.2 hm, key, if_neg (fun h => hxr (rcmp_eqR x1 hr h).symm)]
theorem told_step {was now : List En} {rs : List Row} (hw : GdB was) (hn : GdB now) (pw : Pos was) (pn : Pos now) (hp : rs.Pairwise (fun a b => rcmp a b ≠ 0)) (hr : ∀ r ∈ rs, rright r = true) {nw : Row -> Int} (hnw : ∀ r ∈ rs, nw r = bmany now r) (hu : ∀ r, rright r = true -> r ∉ rs -> bmany now r = bmany was r) :
  chB (bmany was) nw rs [] = differ was now /\ (mmerge 1 was (chB (bmany was) nw rs [])).1 = now := by
 obtain ⟨d1, d2⟩ := differ_many hw hn pw pn
 have c := chB_many (w := bmany was) (nw := nw) (rs := rs) (l := []) GdB.nil hp (fun x hx => ⟨hr x hx, rfl, by
  have := pw.b x; have := pn.b x; rw [hnw x hx]; omega⟩)
 have e1 : chB (bmany was) nw rs [] = differ was now := by
  refine bmany_ext (chB_good GdB.nil) d1 fun r h => ?_
  rw [d2 r h]
  by_cases hm : r ∈ rs
  ·rw [(c r h).1 hm, hnw r hm]
  ·rw [(c r h).2 hm, hu r h hm]
   show (0 : Int) = _
   omega
 refine ⟨e1, ?_⟩
 rw [e1]
 have f : Fits was (differ was now) := fun e he => by
  have h1 := bmany_mem d1.srt he
  have h2 := d2 e.r (d1.rr e he)
  have := pw.b e.r; have := pn.b e.r
  omega
 rw [mmerge_many f]
 refine bmany_ext (mrg_good hw) hn fun r h => ?_
 rw [mrg_many d1 hw f r h, d2 r h]
 omega
theorem packS_inj : ∀ {s t : List UInt8} {A B : List Int}, packS s ++ 0 :: 1 :: A = packS t ++ 0 :: 1 :: B -> s = t /\ A = B
 | [], [], A, B, h => by simp [packS] at h; exact ⟨rfl, h⟩
 | [], d :: t, A, B, h => by
  exfalso
  unfold packS at h
  cases hd : decide ((d.toNat : Int) = 0) with
  | true => rw [hd] at h; simp at h
  | false =>
   have := of_decide_eq_false hd
   rw [hd] at h; simp at h; omega
 | c :: s, [], A, B, h => by
  exfalso
  unfold packS at h
  cases hd : decide ((c.toNat : Int) = 0) with
  | true => rw [hd] at h; simp at h
  | false =>
   have := of_decide_eq_false hd
   rw [hd] at h; simp at h; omega
 | c :: s, d :: t, A, B, h => by
  unfold packS at h
  cases hc : decide ((c.toNat : Int) = 0) with
  | true =>
   have hc' := of_decide_eq_true hc
   cases hd : decide ((d.toNat : Int) = 0) with
   | true =>
    have hd' := of_decide_eq_true hd
    rw [hc, hd] at h
    simp only [cond_true, List.cons_append, List.cons.injEq, true_and] at h
    obtain ⟨h1, h2⟩ := packS_inj h.2
    have : c = d := by apply UInt8.toNat_inj.1; omega
    rw [this, h1]; exact ⟨rfl, h2⟩
   | false =>
    have hd' := of_decide_eq_false hd
    rw [hc, hd] at h
    simp only [cond_true, cond_false, List.cons_append, List.cons.injEq] at h
    exact absurd (h.1.symm.trans hc') hd'
  | false =>
   have hc' := of_decide_eq_false hc
   cases hd : decide ((d.toNat : Int) = 0) with
   | true =>
    have hd' := of_decide_eq_true hd
    rw [hc, hd] at h
    simp only [cond_true, cond_false, List.cons_append, List.cons.injEq] at h
    exact absurd (h.1.trans hd') hc'
   | false =>
    rw [hc, hd] at h
    simp only [cond_false, List.cons_append, List.cons.injEq] at h
    obtain ⟨h1, h2⟩ := packS_inj h.2
    have : c = d := by apply UInt8.toNat_inj.1; omega
    rw [this, h1]; exact ⟨rfl, h2⟩
theorem u64_wrap (n : Int) : IntKind.u64.wrap n = n % 18446744073709551616 := by
 unfold IntKind.wrap
 simp [IntKind.signed, IntKind.bits]
theorem u8_wrap (n : Int) : IntKind.u8.wrap n = n % 256 := by
 unfold IntKind.wrap
 simp [IntKind.signed, IntKind.bits]
theorem uOf_b (n : Int) : 0 <= uOf n /\ uOf n < 18446744073709551616 := by
 unfold uOf; rw [u64_wrap]; omega
theorem byteI_eq (n : Int) (i : Nat) : byteI n i = (uOf n / (2 ^ (min i 64))) % 256 := by
 unfold byteI
 rw [u8_wrap, Int.fdiv_eq_ediv_of_nonneg _ (by
  have : (0 : Int) < 2 ^ (min i IntKind.u64.bits) := Int.pow_pos (by decide)
  omega)]
 rfl
theorem byteI_b (n : Int) (i : Nat) : 0 <= byteI n i /\ byteI n i < 256 := by rw [byteI_eq]; omega
theorem uOf_inj {n k : Int} (h1 : -9223372036854775808 <= n) (h2 : n <= 9223372036854775807) (h3 : -9223372036854775808 <= k) (h4 : k <= 9223372036854775807) (h : uOf n = uOf k) : n = k := by
 unfold uOf at h
 rw [u64_wrap, u64_wrap, u64_wrap, u64_wrap] at h
 generalize hx : BitVec.ofInt IntKind.u64.bits (n % 18446744073709551616) = x at h
 generalize hy : BitVec.ofInt IntKind.u64.bits (k % 18446744073709551616) = y at h
 have e : (x ^^^ BitVec.ofInt IntKind.u64.bits 9223372036854775808) = (y ^^^ BitVec.ofInt IntKind.u64.bits 9223372036854775808) := by
  apply BitVec.eq_of_toNat_eq
  have b1 := (x ^^^ BitVec.ofInt IntKind.u64.bits 9223372036854775808).isLt
  have b2 := (y ^^^ BitVec.ofInt IntKind.u64.bits 9223372036854775808).isLt
  have hb : (2 : Nat) ^ IntKind.u64.bits = 18446744073709551616 := rfl
  rw [hb] at b1 b2
  omega
 have e2 : x = y := by
  have := congrArg (fun z => z ^^^ BitVec.ofInt IntKind.u64.bits 9223372036854775808) e
  simpa [BitVec.xor_assoc] using this
 rw [<- hx, <- hy] at e2
 have e3 := congrArg BitVec.toNat e2
 rw [BitVec.toNat_ofInt, BitVec.toNat_ofInt] at e3
 have hb : ((2 ^ IntKind.u64.bits : Nat) : Int) = 18446744073709551616 := rfl
 rw [hb] at e3
 omega
theorem uOf_bytes {n k : Int} (h0 : byteI n 56 = byteI k 56) (h1 : byteI n 48 = byteI k 48) (h2 : byteI n 40 = byteI k 40) (h3 : byteI n 32 = byteI k 32) (h4 : byteI n 24 = byteI k 24) (h5 : byteI n 16 = byteI k 16) (h6 : byteI n 8 = byteI k 8) (h7 : byteI n 0 = byteI k 0) : uOf n = uOf k := by
 rw [byteI_eq, byteI_eq] at h0 h1 h2 h3 h4 h5 h6 h7
 have b1 := uOf_b n
 have b2 := uOf_b k
 generalize uOf n = u at *
 generalize uOf k = v at *
 rw [show (2 : Int) ^ (min 56 64) = 72057594037927936 from rfl] at h0
 rw [show (2 : Int) ^ (min 48 64) = 281474976710656 from rfl] at h1
 rw [show (2 : Int) ^ (min 40 64) = 1099511627776 from rfl] at h2
 rw [show (2 : Int) ^ (min 32 64) = 4294967296 from rfl] at h3
 rw [show (2 : Int) ^ (min 24 64) = 16777216 from rfl] at h4
 rw [show (2 : Int) ^ (min 16 64) = 65536 from rfl] at h5
 rw [show (2 : Int) ^ (min 8 64) = 256 from rfl] at h6
 rw [show (2 : Int) ^ (min 0 64) = 1 from rfl] at h7
 omega
def OkN (v : Vl) : Prop := -9223372036854775808 <= v.n /\ v.n <= 9223372036854775807
theorem packV_inj {a b : Vl} {A B : List Int} (ha : vright a = true) (hb : vright b = true) (na : OkN a) (nb : OkN b) (h : packV a ++ A = packV b ++ B) : a = b /\ A = B := by
 unfold packV at h
 rcases vright_form ha with ⟨e1, e2, e3, e4⟩ | ⟨e1, e3, e4⟩ | ⟨e1, e2, e4⟩ | ⟨e1, e2, e3⟩ <;> rcases vright_form hb with ⟨f1, f2, f3, f4⟩ | ⟨f1, f3, f4⟩ | ⟨f1, f2, f4⟩ | ⟨f1, f2, f3⟩
 all_goals rw [e1, f1] at h
 all_goals simp only [show decide ((0 : Int) = 1) = false from rfl, show decide ((0 : Int) = 2) = false from rfl, show decide ((0 : Int) = 3) = false from rfl, show decide ((2 : Int) = 1) = false from rfl, show decide ((3 : Int) = 1) = false from rfl, show decide ((3 : Int) = 2) = false from rfl, decide_true, cond_true, cond_false] at h
 ·simp only [List.cons_append, List.nil_append, List.cons.injEq, true_and] at h
  exact ⟨vl_ext (by omega) (by rw [e2, f2]) (by rw [e3, f3]) (by rw [e4, f4]), h⟩
 ·cases hbb : b.b <;> rw [hbb] at h <;> simp at h
 ·simp at h
 ·simp at h
 ·cases hbb : a.b <;> rw [hbb] at h <;> simp at h
 ·cases hab : a.b <;> cases hbb : b.b <;> rw [hab, hbb] at h <;> simp at h
  ·exact ⟨vl_ext (by omega) (by rw [hab, hbb]) (by rw [e3, f3]) (by rw [e4, f4]), h⟩
  ·exact ⟨vl_ext (by omega) (by rw [hab, hbb]) (by rw [e3, f3]) (by rw [e4, f4]), h⟩
 ·cases hbb : a.b <;> rw [hbb] at h <;> simp at h
 ·cases hbb : a.b <;> rw [hbb] at h <;> simp at h
 ·simp at h
 ·cases hbb : b.b <;> rw [hbb] at h <;> simp at h
 ·simp only [List.cons_append, List.nil_append, List.cons.injEq, true_and] at h
  exact ⟨vl_ext (by omega) (by rw [e2, f2]) (uOf_inj na.1 na.2 nb.1 nb.2 (uOf_bytes h.1 h.2.1 h.2.2.1 h.2.2.2.1 h.2.2.2.2.1 h.2.2.2.2.2.1 h.2.2.2.2.2.2.1 h.2.2.2.2.2.2.2.1)) (by rw [e4, f4]), h.2.2.2.2.2.2.2.2⟩
 ·simp at h
 ·simp at h
 ·cases hbb : b.b <;> rw [hbb] at h <;> simp at h
 ·simp at h
 ·simp only [List.cons_append, List.append_assoc, List.nil_append, List.cons.injEq, true_and] at h
  obtain ⟨h0, h1⟩ := packS_inj h
  exact ⟨vl_ext (by omega) (by rw [e2, f2]) (by rw [e3, f3]) h0, h1⟩
theorem packR_inj : ∀ {c d : Row} {A B : List Int}, c.length = d.length -> (∀ v ∈ c, vright v = true /\ OkN v) -> (∀ v ∈ d, vright v = true /\ OkN v) -> c.flatMap packV ++ A = d.flatMap packV ++ B -> c = d
 | [], [], _, _, _, _, _, _ => rfl
 | [], _ :: _, _, _, h, _, _, _ => by cases h
 | _ :: _, [], _, _, h, _, _, _ => by cases h
 | a :: c, b :: d, A, B, hl, hc, hd, h => by
  simp only [List.flatMap_cons, List.append_assoc] at h
  obtain ⟨h1, h2⟩ := packV_inj (hc a (by simp)).1 (hd b (by simp)).1 (hc a (by simp)).2 (hd b (by simp)).2 h
  rw [h1, packR_inj (by simpa using hl) (fun v hv => hc v (by simp [hv])) (fun v hv => hd v (by simp [hv])) h2]
theorem packS_b : ∀ {s : List UInt8}, ∀ n ∈ packS s, (0 : Int) <= n /\ n < 256
 | [], n, h => by cases h
 | c :: s, n, h => by
  have hc : (c.toNat : Int) < 256 := by have := c.toNat_lt; omega
  unfold packS at h
  cases hd : decide ((c.toNat : Int) = 0) with
  | true =>
   rw [hd, cond_true] at h
   rcases List.mem_cons.1 h with rfl | h
   ·omega
   ·rcases List.mem_cons.1 h with rfl | h
    ·omega
    ·exact packS_b n h
  | false =>
   rw [hd, cond_false] at h
   rcases List.mem_cons.1 h with rfl | h
   ·omega
   ·exact packS_b n h
theorem packV_b {v : Vl} : ∀ n ∈ packV v, (0 : Int) <= n /\ n < 256 := by
 intro n h
 unfold packV at h
 cases h1 : decide (v.k = 1) with
 | true => rw [h1] at h; cases h2 : v.b <;> rw [h2] at h <;> simp at h <;> omega
 | false =>
  cases h2 : decide (v.k = 2) with
  | true =>
   rw [h1, h2] at h
   simp only [cond_true, cond_false, List.mem_cons, List.not_mem_nil, or_false] at h
   rcases h with rfl | rfl | rfl | rfl | rfl | rfl | rfl | rfl | rfl
   ·omega
   all_goals exact byteI_b _ _
  | false =>
   cases h3 : decide (v.k = 3) with
   | true =>
    rw [h1, h2, h3] at h
    simp only [cond_true, cond_false, List.cons_append, List.mem_cons, List.mem_append, List.not_mem_nil, or_false] at h
    rcases h with rfl | h | rfl | rfl
    ·omega
    ·exact packS_b n h
    ·omega
    ·omega
   | false => rw [h1, h2, h3] at h; simp at h; omega
theorem keyB_inj {c d : Row} (hl : c.length = d.length) (hc : ∀ v ∈ c, vright v = true /\ OkN v) (hd : ∀ v ∈ d, vright v = true /\ OkN v) (h : keyB c = keyB d) : c = d := by
 have hb : ∀ r : Row, ∀ n ∈ packR r, (0 : Int) <= n /\ n < 256 := fun r n hn => by
  unfold packR at hn
  rcases List.mem_append.1 hn with hn | hn
  ·obtain ⟨v, _, hv⟩ := List.mem_flatMap.1 hn
   exact packV_b n hv
  ·simp at hn; omega
 have inj : ∀ (x y : List Int), (∀ n ∈ x, (0 : Int) <= n /\ n < 256) -> (∀ n ∈ y, (0 : Int) <= n /\ n < 256) -> (x.map fun n => UInt8.ofNat n.toNat) = (y.map fun n => UInt8.ofNat n.toNat) -> x = y := by
  intro x
  induction x with
  | nil => intro y _ _ e; cases y with
   | nil => rfl
   | cons b y => cases e
  | cons a x ih =>
   intro y hx hy e
   cases y with
   | nil => cases e
   | cons b y =>
    simp only [List.map_cons, List.cons.injEq] at e
    have h1 := hx a (by simp)
    have h2 := hy b (by simp)
    have h3 := congrArg UInt8.toNat e.1
    simp only [UInt8.toNat_ofNat'] at h3
    rw [ih y (fun n hn => hx n (by simp [hn])) (fun n hn => hy n (by simp [hn])) e.2]
    congr 1
    omega
 unfold keyB at h
 have h1 := inj _ _ (hb c) (hb d) h
 unfold packR at h1
 exact packR_inj hl hc hd h1
def OkRow (r : Row) : Prop := rright r = true /\ ∀ v ∈ r, OkN v
theorem vcmp_rf (x : Vl) : vcmp x x = 0 := vcmp_ord.rf x
theorem prs_cells : ∀ {l : List Pr} {r f c d : Row}, (∀ v ∈ r, vright v = true) -> (∀ v ∈ f, vright v = true) -> pickR r (l.map (·.a)) = some c -> pickR f (l.map (·.b)) = some d -> (l.all (prOk r f) = true ↔ c = d)
 | [], r, f, c, d, _, _, h1, h2 => by
  simp only [List.map_nil, pickR, Option.some.injEq] at h1 h2
  subst h1 h2
  simp
 | p :: l, r, f, c, d, hr, hf, h1, h2 => by
  simp only [List.map_cons, pickR] at h1 h2
  cases e1 : cellAt r p.a with
  | none => rw [e1] at h1; cases h1
  | some x =>
   cases e2 : cellAt f p.b with
   | none => rw [e2] at h2; cases h2
   | some y =>
    rw [e1] at h1
    rw [e2] at h2
    simp only at h1 h2
    cases e3 : pickR r (l.map (·.a)) with
    | none => rw [e3] at h1; cases h1
    | some c' =>
     cases e4 : pickR f (l.map (·.b)) with
     | none => rw [e4] at h2; cases h2
     | some d' =>
      rw [e3] at h1
      rw [e4] at h2
      simp only [oc, Option.some.injEq] at h1 h2
      subst h1 h2
      have hx : x ∈ r := by
       unfold cellAt at e1
       cases hd : decide (p.a < 0) with
       | true => rw [hd] at e1; cases e1
       | false => rw [hd] at e1; exact List.mem_of_getElem? e1
      have hy : y ∈ f := by
       unfold cellAt at e2
       cases hd : decide (p.b < 0) with
       | true => rw [hd] at e2; cases e2
       | false => rw [hd] at e2; exact List.mem_of_getElem? e2
      rw [List.all_cons, Bool.and_eq_true, prs_cells hr hf e3 e4]
      have hp : prOk r f p = decide (vcmp x y = 0) := by unfold prOk; rw [e1, e2]
      rw [hp, decide_eq_true_iff, List.cons.injEq]
      constructor
      ·rintro ⟨h1, h2⟩
       exact ⟨vcmp_eq (hr x hx) (hf y hy) h1, h2⟩
      ·rintro ⟨h1, h2⟩
       exact ⟨by rw [h1]; exact vcmp_rf y, h2⟩
structure InvS (w : Int) (cols : List Int) (L : List En) : Prop where
 g : GdB L
 p : Pos L
 o : ∀ e ∈ L, OkRow e.r /\ (e.r.length : Int) = w /\ ∃ c, pickR e.r cols = some c
theorem key_iff {l : List Pr} {r f : Row} {c d : Row} (hr : OkRow r) (hf : OkRow f) (h1 : pickR r (l.map (·.a)) = some c) (h2 : pickR f (l.map (·.b)) = some d) : l.all (prOk r f) = true ↔ keyOf (l.map (·.b)) f = keyOf (l.map (·.a)) r := by
 rw [prs_cells (rright_all hr.1).1 (rright_all hf.1).1 h1 h2]
 unfold keyOf cellsP
 rw [h1, h2]
 have m1 := pickR_mem h1
 have m2 := pickR_mem h2
 constructor
 ·intro h; rw [h]
 ·intro h
  refine (keyB_inj (by rw [m1.2, m2.2, List.length_map, List.length_map]) (fun v hv => ⟨(rright_all hf.1).1 v (m2.1 v hv), hf.2 v (m2.1 v hv)⟩) (fun v hv => ⟨(rright_all hr.1).1 v (m1.1 v hv), hr.2 v (m1.1 v hv)⟩) h).symm
theorem goes_iff {l : List Pr} {b : Int} {R : List En} {r c : Row} (hR : InvS b (l.map (·.b)) R) (hr : OkRow r) (h1 : pickR r (l.map (·.a)) = some c) : goesR l R r = true ↔ ∃ f ∈ R, keyOf (l.map (·.b)) f.r = keyOf (l.map (·.a)) r := by
 unfold goesR
 rw [List.any_eq_true]
 constructor
 ·rintro ⟨f, hf, h⟩
  obtain ⟨o1, _, d, o2⟩ := hR.o f hf
  exact ⟨f, hf, (key_iff hr o1 h1 o2).1 h⟩
 ·rintro ⟨f, hf, h⟩
  obtain ⟨o1, _, d, o2⟩ := hR.o f hf
  exact ⟨f, hf, (key_iff hr o1 h1 o2).2 h⟩
theorem miss_many {l : List Pr} {L R : List En} (hL : GdB L) {r : Row} (hr : rright r = true) : bmany (missRows l L R) r = if goesR l R r = true then 0 else bmany L r := by
 unfold missRows
 rw [bmany_filter hL (fun r => !goesR l R r) hr]
 by_cases h : goesR l R r = true
 ·simp [h]
 ·simp [h]
theorem now_eq {l : List Pr} {b : Int} {L R : List En} {fR : List UInt8 -> List En} {r c : Row} (hL : GdB L) (hR : InvS b (l.map (·.b)) R) (hf : Keyed (l.map (·.b)) R fR) (hr : OkRow r) (h1 : pickR r (l.map (·.a)) = some c) : nowV (l.map (·.a)) fR L r = bmany (missRows l L R) r := by
 rw [miss_many hL hr.1]
 unfold nowV aloneV
 have hk : keyB (cellsP (l.map (·.a)) r) = keyOf (l.map (·.a)) r := rfl
 rw [hk, hf]
 have key : (0 : Int) < ((R.filter fun e => keyOf (l.map (·.b)) e.r == keyOf (l.map (·.a)) r).length : Int) ↔ goesR l R r = true := by
  rw [goes_iff hR hr h1]
  constructor
  ·intro h
   have : 0 < (R.filter fun e => keyOf (l.map (·.b)) e.r == keyOf (l.map (·.a)) r).length := by omega
   obtain ⟨f, hf⟩ := List.exists_mem_of_length_pos this
   obtain ⟨f1, f2⟩ := List.mem_filter.1 hf
   exact ⟨f, f1, by simpa using f2⟩
  ·rintro ⟨f, f1, f2⟩
   have : 0 < (R.filter fun e => keyOf (l.map (·.b)) e.r == keyOf (l.map (·.a)) r).length := List.length_pos_of_mem (List.mem_filter.2 ⟨f1, by simpa using f2⟩)
   omega
 by_cases h : goesR l R r = true
 ·rw [if_pos h, decide_eq_true (key.2 h)]; rfl
 ·rw [if_neg h, decide_eq_false (fun g => h (key.1 g))]; rfl
theorem mrg_filter {p : Row -> Bool} : ∀ {Y R : List En} {k : Int}, GdB R -> (∀ y ∈ Y, rright y.r = true /\ p y.r = false) -> (mrg k Y R).filter (fun e => p e.r) = R.filter fun e => p e.r
 | [], R, k, _, _ => rfl
 | y :: Y, R, k, hR, hY => by
  obtain ⟨y1, y2⟩ := hY y (by simp)
  unfold mrg
  rw [mrg_filter hR.badd (fun z hz => hY z (by simp [hz])), badd_filter hR p y1, if_neg (by rw [y2]; decide)]
theorem cptA_all : ∀ {l : List Row} {p x : Row}, x ∈ l -> rcmp x p = 0 ∨ ∃ y ∈ cptA p l, rcmp x y = 0
 | [], _, _, h => by cases h
 | z :: l, p, x, h => by
  unfold cptA
  cases hc : decide (rcmp z p = 0) with
  | true =>
   have hc := of_decide_eq_true hc
   rw [cond_true]
   rcases List.mem_cons.1 h with rfl | h
   ·exact .inl hc
   ·rcases cptA_all (p := z) h with g | g
    ·exact .inl (rcmp_tr0 g hc)
    ·exact .inr g
  | false =>
   rw [cond_false]
   rcases List.mem_cons.1 h with rfl | h
   ·exact .inr ⟨x, List.mem_cons_self, rcmp_ord.rf x⟩
   ·rcases cptA_all (p := z) h with g | ⟨y, g1, g2⟩
    ·exact .inr ⟨z, List.mem_cons_self, g⟩
    ·exact .inr ⟨y, List.mem_cons_of_mem _ g1, g2⟩
theorem cpt_all {l : List Row} {x : Row} (h : x ∈ l) : ∃ y ∈ cpt l, rcmp x y = 0 := by
 cases l with
 | nil => cases h
 | cons z l =>
  unfold cpt
  rcases List.mem_cons.1 h with rfl | h
  ·exact ⟨x, List.mem_cons_self, rcmp_ord.rf x⟩
  ·rcases cptA_all (p := z) h with g | ⟨y, g1, g2⟩
   ·exact ⟨z, List.mem_cons_self, g⟩
   ·exact ⟨y, List.mem_cons_of_mem _ g1, g2⟩
theorem cptA_lt : ∀ {l : List Row} {p : Row}, SrtR (p :: l) -> (cptA p l).Pairwise (fun a b => rcmp a b < 0) /\ ∀ y ∈ cptA p l, rcmp p y < 0
 | [], _, _ => ⟨List.Pairwise.nil, fun _ h => (by cases h)⟩
 | z :: l, p, h => by
  obtain ⟨h1, h2⟩ := List.pairwise_cons.1 h
  obtain ⟨i1, i2⟩ := cptA_lt h2
  have hpz : rle p z := h1 z (by simp)
  unfold cptA
  cases hc : decide (rcmp z p = 0) with
  | true => rw [cond_true]; exact ⟨i1, fun y hy => rcmp_ord.le_lt hpz (i2 y hy)⟩
  | false =>
   have hc := of_decide_eq_false hc
   have hlt : rcmp p z < 0 := by have := rcmp_ord.sw p z; unfold rle at hpz; omega
   rw [cond_false]
   refine ⟨List.pairwise_cons.2 ⟨i2, i1⟩, fun y hy => ?_⟩
   rcases List.mem_cons.1 hy with rfl | hy
   ·exact hlt
   ·exact rcmp_ord.lt hlt (i2 y hy)
theorem cpt_lt {l : List Row} (h : SrtR l) : (cpt l).Pairwise (fun a b => rcmp a b < 0) := by
 cases l with
 | nil => exact List.Pairwise.nil
 | cons z l =>
  obtain ⟨i1, i2⟩ := cptA_lt h
  exact List.pairwise_cons.2 ⟨i2, i1⟩
theorem badd_rows {l : List En} {r : Row} {n : Int} : ∀ e ∈ (badd l r n).1, (∃ x ∈ l, x.r = e.r) ∨ e.r = r := by
 intro e he
 rcases @badd_or l r n with h | ⟨_, m, h⟩
 ·rw [h] at he; exact .inl ⟨e, he, rfl⟩
 ·rw [h] at he
  rcases bset_row e he with g | ⟨_, _, g | ⟨x, g1, g2, _⟩⟩
  ·exact .inl ⟨e, g, rfl⟩
  ·exact .inr g
  ·exact .inl ⟨x, g1, g2.symm⟩
theorem mrg_rows : ∀ {X L : List En} {k : Int}, ∀ e ∈ mrg k X L, (∃ x ∈ L, x.r = e.r) ∨ ∃ x ∈ X, x.r = e.r
 | [], L, k, e, he => .inl ⟨e, he, rfl⟩
 | y :: X, L, k, e, he => by
  unfold mrg at he
  rcases mrg_rows (X := X) e he with ⟨x, h1, h2⟩ | ⟨x, h1, h2⟩
  ·rcases badd_rows x h1 with ⟨z, g1, g2⟩ | g
   ·exact .inl ⟨z, g1, g2.trans h2⟩
   ·exact .inr ⟨y, by simp, by rw [<- h2, g]⟩
  ·exact .inr ⟨x, by simp [h1], h2⟩
structure InvX (w : Int) (X : List En) : Prop where
 g : GdB X
 o : ∀ e ∈ X, OkRow e.r /\ (e.r.length : Int) = w
 b : ∀ e ∈ X, -1073741824 <= e.m /\ e.m <= 1073741824
def Cols (w : Int) (cols : List Int) : Prop := ∀ r : Row, (r.length : Int) = w -> ∃ c, pickR r cols = some c
theorem beyond_no {L X : List En} (h : beyondB L X = false) (hL : Pos L) (hb : ∀ e ∈ X, -1073741824 <= e.m /\ e.m <= 1073741824) : ∀ e ∈ X, 0 <= bmany L e.r + e.m /\ bmany L e.r + e.m <= 1073741824 := by
 intro e he
 unfold beyondB at h
 rw [List.any_eq_false] at h
 have h1 := h e he
 have h2 := hL.b e.r
 have h3 := hb e he
 rw [wrap_i64 (by omega) (by omega)] at h1
 simp at h1
 omega
theorem side_step {w : Int} {cols : List Int} {L X : List En} (hL : InvS w cols L) (hX : InvX w X) (hc : Cols w cols) (hb : beyondB L X = false) : InvS w cols (mrg 1 X L) /\ ∀ r, rright r = true -> bmany (mrg 1 X L) r = bmany L r + bmany X r := by
 have h0 := beyond_no hb hL.p hX.b
 have hf : Fits L X := fun e he => by have := h0 e he; have := hX.b e he; omega
 have hm := mrg_many hX.g hL.g hf
 have hg := mrg_good (X := X) (k := 1) hL.g
 refine ⟨⟨hg, fun e he => ?_, fun e he => ?_⟩, hm⟩
 ·have h1 := hm e.r (hg.rr e he)
  rw [bmany_mem hg.srt he] at h1
  have h2 := hg.nz e he
  by_cases h3 : bmany X e.r = 0
  ·have := hL.p.b e.r; omega
  ·obtain ⟨x, hx, h4, h5⟩ := bmany_ne h3
   have h6 := rcmp_eqR (hX.g.rr x hx) (hg.rr e he) h4
   have := h0 x hx
   rw [h6] at this
   omega
 ·rcases mrg_rows e he with ⟨x, h1, h2⟩ | ⟨x, h1, h2⟩
  ·rw [<- h2]; exact hL.o x h1
  ·rw [<- h2]; exact ⟨(hX.o x h1).1, (hX.o x h1).2, hc _ (hX.o x h1).2⟩
theorem act_step {l : List Pr} {a b : Int} {L R X Y : List En} {fL fR : List UInt8 -> List En} {C : List Row} (hL : InvS a (l.map (·.a)) L) (hR : InvS b (l.map (·.b)) R) (kL : Keyed (l.map (·.a)) L fL) (kR : Keyed (l.map (·.b)) R fR) (hX : InvX a X) (hY : InvX b Y) (ca : Cols a (l.map (·.a))) (cb : Cols b (l.map (·.b))) (bL : beyondB L X = false) (bR : beyondB R Y = false)
  (sC : SrtR C) (pC : C.Perm (tchRows (l.map (·.b)) (updW (l.map (·.a)) X fL) X Y)) :
  chB (bmany (missRows l L R)) (nowV (l.map (·.a)) (updW (l.map (·.b)) Y fR) (mrg 1 X L)) (cpt C) [] = differ (missRows l L R) (missRows l (mrg 1 X L) (mrg 1 Y R)) /\
  (mmerge 1 (missRows l L R) (chB (bmany (missRows l L R)) (nowV (l.map (·.a)) (updW (l.map (·.b)) Y fR) (mrg 1 X L)) (cpt C) [])).1 = missRows l (mrg 1 X L) (mrg 1 Y R) := by
 obtain ⟨iL, mL⟩ := side_step hL hX ca bL
 obtain ⟨iR, mR⟩ := side_step hR hY cb bR
 have okT : ∀ {w : Int} {cols : List Int} {Z : List En}, InvX w Z -> Cols w cols -> ∀ e ∈ Z, OkT cols e := fun hZ hc e he => ⟨(hZ.o e he).1.1, hc _ (hZ.o e he).2⟩
 have kL' := updW_keyed hL.g (okT hX ca) kL
 have kR' := updW_keyed hR.g (okT hY cb) kR
 have tch : ∀ r ∈ tchRows (l.map (·.b)) (updW (l.map (·.a)) X fL) X Y, OkRow r /\ ∃ c, pickR r (l.map (·.a)) = some c := by
  intro r hr
  rcases List.mem_append.1 hr with h | h
  ·obtain ⟨e, he, rfl⟩ := List.mem_map.1 h
   exact ⟨(hX.o e he).1, ca _ (hX.o e he).2⟩
  ·obtain ⟨y, hy, h⟩ := List.mem_flatMap.1 h
   obtain ⟨e, he, rfl⟩ := List.mem_map.1 h
   rw [kL'] at he
   have := iL.o e (List.mem_filter.1 he).1
   exact ⟨this.1, this.2.2⟩
 have mem : ∀ r ∈ cpt C, OkRow r /\ ∃ c, pickR r (l.map (·.a)) = some c := fun r hr => tch r (pC.mem_iff.1 (cpt_mem hr))
 have gm : ∀ {L R : List En}, GdB L -> GdB (missRows l L R) := fun h => h.filter _
 have pm : ∀ {L R : List En}, Pos L -> Pos (missRows l L R) := fun h e he => h e (List.mem_filter.1 he).1
 refine told_step (gm hL.g) (gm iL.g) (pm hL.p) (pm iL.p) ((cpt_lt sC).imp fun h => by omega) (fun r hr => (mem r hr).1.1) (fun r hr => ?_) fun r hr hn => ?_
 ·obtain ⟨h1, c, h2⟩ := mem r hr
  exact now_eq iL.g iR kR' h1 h2
 ·
  have hn2 : r ∉ tchRows (l.map (·.b)) (updW (l.map (·.a)) X fL) X Y := fun h => by
   obtain ⟨y, hy, h0⟩ := cpt_all (pC.mem_iff.2 h)
   exact hn (by rw [rcmp_eqR hr (mem y hy).1.1 h0]; exact hy)
  have hx0 : bmany X r = 0 := by
   by_cases h : bmany X r = 0
   ·exact h
   ·obtain ⟨e, he, h1, _⟩ := bmany_ne h
    have := rcmp_eqR (hX.g.rr e he) hr h1
    exact absurd (List.mem_append_left _ (List.mem_map.2 ⟨e, he, this⟩)) hn2
  have hm : bmany (mrg 1 X L) r = bmany L r := by rw [mL r hr, hx0]; omega
  rw [miss_many iL.g hr, miss_many hL.g hr, hm]
  by_cases h0 : bmany L r = 0
  ·rw [h0]; simp
  ·obtain ⟨e, he, h1, _⟩ := bmany_ne (l := mrg 1 X L) (r := r) (by rw [hm]; exact h0)
   have her := rcmp_eqR (iL.g.rr e he) hr h1
   have ho := iL.o e he
   rw [her] at ho
   obtain ⟨o1, _, c, o2⟩ := ho
   have hY0 : ∀ y ∈ Y, rright y.r = true /\ (keyOf (l.map (·.b)) y.r == keyOf (l.map (·.a)) r) = false := fun y hy => by
    refine ⟨hY.g.rr y hy, ?_⟩
    cases hk : keyOf (l.map (·.b)) y.r == keyOf (l.map (·.a)) r with
    | false => rfl
    | true =>
     exfalso
     apply hn2
     refine List.mem_append_right _ (List.mem_flatMap.2 ⟨y, hy, List.mem_map.2 ⟨e, ?_, her⟩⟩)
     show e ∈ updW (l.map (·.a)) X fL (keyOf (l.map (·.b)) y.r)
     rw [kL']
     refine List.mem_filter.2 ⟨he, ?_⟩
     rw [her]
     have := eq_of_beq hk
     rw [this]; exact beq_self_eq_true _
   have hR0 := mrg_filter (p := fun z => keyOf (l.map (·.b)) z == keyOf (l.map (·.a)) r) (Y := Y) (R := R) (k := 1) hR.g hY0
   have hgo : goesR l (mrg 1 Y R) r = true ↔ goesR l R r = true := by
    rw [goes_iff iR o1 o2, goes_iff hR o1 o2]
    have tr : ∀ Z : List En, (∃ f ∈ Z, keyOf (l.map (·.b)) f.r = keyOf (l.map (·.a)) r) ↔ ∃ f, f ∈ Z.filter fun e => keyOf (l.map (·.b)) e.r == keyOf (l.map (·.a)) r := fun Z => by
     constructor
     ·rintro ⟨f, h1, h2⟩; exact ⟨f, List.mem_filter.2 ⟨h1, by simpa using h2⟩⟩
     ·rintro ⟨f, h⟩; exact ⟨f, (List.mem_filter.1 h).1, by simpa using (List.mem_filter.1 h).2⟩
    rw [tr, tr, hR0]
   by_cases hg : goesR l R r = true
   ·rw [if_pos (hgo.2 hg), if_pos hg]
   ·rw [if_neg (fun h => hg (hgo.1 h)), if_neg hg]
theorem bof_good : ∀ {l b : List En}, GdB b -> GdB (bof l b).1
 | [], b, h => h
 | e :: l, b, h => by
  unfold bof
  cases decide ((badd b e.r e.m).2 = 0) with
  | true => exact bof_good h.badd
  | false => exact h
theorem bof_rows : ∀ {l b : List En}, ∀ e ∈ (bof l b).1, (∃ x ∈ b, x.r = e.r) ∨ ∃ x ∈ l, x.r = e.r
 | [], b, e, he => .inl ⟨e, he, rfl⟩
 | y :: l, b, e, he => by
  unfold bof at he
  cases h : decide ((badd b y.r y.m).2 = 0) with
  | true =>
   rw [h, cond_true] at he
   rcases bof_rows e he with ⟨x, h1, h2⟩ | ⟨x, h1, h2⟩
   ·rcases badd_rows x h1 with ⟨z, g1, g2⟩ | g
    ·exact .inl ⟨z, g1, g2.trans h2⟩
    ·exact .inr ⟨y, by simp, by rw [<- h2, g]⟩
   ·exact .inr ⟨x, by simp [h1], h2⟩
  | false => rw [h, cond_false] at he; exact .inl ⟨e, he, rfl⟩
theorem bnet_good {l : List En} : GdB (bnet l).1 := by
 unfold bnet
 cases decide ((bof l []).2 = 0) with
 | true => exact bof_good GdB.nil
 | false => exact GdB.nil
theorem bnet_rows {l : List En} : ∀ e ∈ (bnet l).1, ∃ x ∈ l, x.r = e.r := by
 intro e he
 unfold bnet at he
 cases h : decide ((bof l []).2 = 0) with
 | true =>
  rw [h, cond_true] at he
  rcases bof_rows e he with ⟨x, h1, _⟩ | h
  ·cases h1
  ·exact h
 | false => rw [h, cond_false] at he; cases he
def OkL (l : List En) : Prop := ∀ e ∈ l, OkR e.r /\ ∀ v ∈ e.r, OkN v
theorem bnet_X {w : Int} {l : List En} (h : OkL l) (hc : cellsOk w (bnet l).1 = true) : InvX w (bnet l).1 := by
 refine ⟨bnet_good, fun e he => ?_, fun e he => ((bnet_I fun e he => (h e he).1).en e he).2⟩
 obtain ⟨x, h1, h2⟩ := bnet_rows e he
 refine ⟨⟨bnet_good.rr e he, by rw [<- h2]; exact (h x h1).2⟩, ?_⟩
 unfold cellsOk at hc
 rw [List.all_eq_true] at hc
 exact of_decide_eq_true (hc e he)
theorem act_code {a b : Int} {L R l1 l2 : List En} : (snext a b L R l1 l2).2 = actE a b L R l1 l2 := by
 unfold snext actE
 rw [narrow_cells, narrow_cells, sideL_err, sideL_err]
 cases decide ((bnet l1).2 = 0) with
 | false => rfl
 | true =>
  cases decide ((bnet l2).2 = 0) with
  | false => rfl
  | true =>
   cases cellsOk a (bnet l1).1 <;> cases cellsOk b (bnet l2).1 <;> cases beyondB L (bnet l1).1 <;> cases beyondB R (bnet l2).1 <;> rfl
theorem act_zero {a b : Int} {L R l1 l2 : List En} (h : actE a b L R l1 l2 = 0) : (bnet l1).2 = 0 /\ (bnet l2).2 = 0 /\ cellsOk a (bnet l1).1 = true /\ cellsOk b (bnet l2).1 = true /\ beyondB L (bnet l1).1 = false /\ beyondB R (bnet l2).1 = false := by
 unfold actE at h
 rw [narrow_cells, narrow_cells] at h
 cases h1 : decide ((bnet l1).2 = 0) with
 | false => rw [h1] at h; exact absurd h (of_decide_eq_false h1)
 | true =>
  cases h2 : decide ((bnet l2).2 = 0) with
  | false => rw [h1, h2] at h; exact absurd h (of_decide_eq_false h2)
  | true =>
   rw [h1, h2] at h
   refine ⟨of_decide_eq_true h1, of_decide_eq_true h2, ?_⟩
   cases p1 : cellsOk a (bnet l1).1 <;> cases p2 : cellsOk b (bnet l2).1 <;> cases p3 : beyondB L (bnet l1).1 <;> cases p4 : beyondB R (bnet l2).1 <;> rw [p1, p2, p3, p4] at h <;> first | exact ⟨rfl, rfl, rfl, rfl⟩ | (simp at h)
theorem act_next {a b : Int} {L R l1 l2 : List En} (h : actE a b L R l1 l2 = 0) (o1 : OkL l1) (o2 : OkL l2) : (snext a b L R l1 l2).1 = (mrg 1 (bnet l1).1 L, mrg 1 (bnet l2).1 R) := by
 obtain ⟨z1, z2, z3, z4, z5, z6⟩ := act_zero h
 have m1 := sideL_mrg (b0 := L) (c := L) (X := (bnet l1).1) (bnet_X o1 z3).b z5
 have m2 := sideL_mrg (b0 := R) (c := R) (X := (bnet l2).1) (bnet_X o2 z4).b z6
 have e1 := @sideL_err L (bnet l1).1 L
 have e2 := @sideL_err R (bnet l2).1 R
 rw [z5] at e1
 rw [z6] at e2
 unfold snext
 rw [z1, z2, z3, z4, e1, e2, m1, m2]
 rfl
theorem new_code {a b : Int} {l : List Pr} : newE a b l = (begOk a (l.map (·.a)) && begOk b (l.map (·.b))) := by
 have h1 : l.all (pin a b) = (colOk a (l.map (·.a)) && colOk b (l.map (·.b))) := by
  induction l with
  | nil => rfl
  | cons p l ih =>
   unfold colOk at ih ⊢
   rw [List.all_cons, ih, List.map_cons, List.map_cons, List.any_cons, List.any_cons]
   unfold pin
   cases decide (p.a < 0) <;> cases decide (a <= p.a) <;> cases decide (p.b < 0) <;> cases decide (b <= p.b) <;> simp
 unfold newE wOk begOk
 rw [h1]
 cases decide (a < 1) <;> cases decide (b < 1) <;> cases decide (40 < a) <;> cases decide (40 < b) <;> cases colOk a (l.map (·.a)) <;> cases colOk b (l.map (·.b)) <;> rfl
theorem cols_ok {w : Int} : ∀ {cols : List Int}, colOk w cols = true -> Cols w cols
 | [], _ => fun r _ => ⟨[], rfl⟩
 | c :: cols, h => fun r hr => by
  have h1 : (decide (c < 0) || decide (w <= c)) = false /\ colOk w cols = true := by
   unfold colOk at h ⊢
   rw [List.any_cons] at h
   cases h2 : (decide (c < 0) || decide (w <= c)) <;> rw [h2] at h
   ·exact ⟨rfl, by simpa using h⟩
   ·simp at h
  obtain ⟨d, hd⟩ := cols_ok h1.2 r hr
  obtain ⟨h3, h4⟩ := Bool.or_eq_false_iff.1 h1.1
  have h3' := of_decide_eq_false h3
  have h4' := of_decide_eq_false h4
  have hl : c.toNat < r.length := by omega
  have hx : cellAt r c = some r[c.toNat] := by unfold cellAt; rw [h3]; exact List.getElem?_eq_getElem hl
  exact ⟨r[c.toNat] :: d, by unfold pickR; rw [hx, hd]; rfl⟩
theorem nodup_le : ∀ {x y : List Row}, x.Nodup -> (∀ a ∈ x, a ∈ y) -> x.length <= y.length
 | [], _, _, _ => Nat.zero_le _
 | a :: x, y, h, hs => by
  obtain ⟨h1, h2⟩ := List.nodup_cons.1 h
  obtain ⟨p, q, rfl⟩ := List.append_of_mem (hs a (by simp))
  have := nodup_le (x := x) (y := p ++ q) h2 fun b hb => by
   rcases List.mem_append.1 (hs b (by simp [hb])) with g | g
   ·exact List.mem_append_left _ g
   ·rcases List.mem_cons.1 g with rfl | g
    ·exact absurd hb h1
    ·exact List.mem_append_right _ g
  simp only [List.length_append, List.length_cons] at this ⊢
  omega
theorem chN_le {w nw : Row -> Int} : ∀ {rs : List Row} {n : Int}, chN w nw rs n <= n + (rs.filter fun r => decide (0 < nw r)).length
 | [], n => by simp [chN]
 | r :: rs, n => by
  have ih := chN_le (w := w) (nw := nw) (rs := rs) (n := stN (w r) (nw r) n)
  simp only [chN]
  rw [List.filter_cons]
  unfold stN at ih ⊢
  cases h1 : decide (w r = 0) <;> cases h2 : decide (0 < nw r) <;> cases h3 : decide (0 < w r) <;> cases h4 : decide (nw r = 0) <;> rw [h1, h2, h3, h4] at ih <;> simp only [Bool.and_true, Bool.and_false, cond_true, cond_false, if_true, if_false, List.length_cons, Bool.false_eq_true] at ih ⊢ <;> omega
theorem told_few {now : List En} {w nw : Row -> Int} {rs : List Row} {n : Int} (hn : GdB now) (hp : rs.Pairwise (fun a b => rcmp a b < 0)) (hr : ∀ r ∈ rs, rright r = true) (hnw : ∀ r ∈ rs, nw r = bmany now r) : chN w nw rs n <= n + now.length := by
 refine Int.le_trans chN_le ?_
 have h1 : (rs.filter fun r => decide (0 < nw r)).length <= (now.map fun e => e.r).length := by
  refine nodup_le ?_ fun r h => ?_
  ·refine List.Nodup.sublist List.filter_sublist (hp.imp fun {a b} h e => ?_)
   subst e
   have := rcmp_ord.rf a
   omega
  ·obtain ⟨h1, h2⟩ := List.mem_filter.1 h
   have h2 := of_decide_eq_true h2
   rw [hnw r h1] at h2
   obtain ⟨e, he, h3, _⟩ := bmany_ne (l := now) (r := r) (by omega)
   exact List.mem_map.2 ⟨e, he, rcmp_eqR (hn.rr e he) (hr r h1) h3⟩
 rw [List.length_map] at h1
 omega
end Go.Proofs.YtancionamhenmaaGreat.Ev
