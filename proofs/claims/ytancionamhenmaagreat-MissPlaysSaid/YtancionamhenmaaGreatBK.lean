import Derived.Test.YtancionamhenmaaGreatBX
import Derived.Test.YtancionamhenmaaGreatP5
set_option linter.all false
set_option maxRecDepth 100000
set_option maxHeartbeats 4000000
namespace Go.Proofs.YtancionamhenmaaGreat.Ev
open Go Go.Proofs.YtancionamhenmaaGreat.Ev Go.Proofs Go.Proofs.YtancionamhenmaaGreat Go.Proofs.YtancionamhenmaaGreat.Tab
theorem pn1 {p q : Operand} {o k : Nat} : binO tab .eql 82 p q (some (.ptr o k)) (some (.lit (.pointer none))) = some (.lit (.bool false)) := rfl
theorem pn2 {p q : Operand} : binO tab .eql 82 p q (some (.lit (.pointer none))) (some (.lit (.pointer none))) = some (.lit (.bool true)) := rfl
theorem pn3 {p q : Operand} {o k : Nat} : binO tab .neq 82 p q (some (.ptr o k)) (some (.lit (.pointer none))) = some (.lit (.bool true)) := rfl
theorem pn4 {p q : Operand} : binO tab .neq 82 p q (some (.lit (.pointer none))) (some (.lit (.pointer none))) = some (.lit (.bool false)) := rfl
theorem T.val_nil : T.val .nil = .lit (.pointer none) := rfl
theorem T.val_nd {o : Nat} {l : T} {e : En} {r : T} {h : Int} : T.val (.nd o l e r h) = .ptr o 0 := rfl
theorem T.val_cells (t : T) : t.val.cells = [t.val] := by cases t <;> rfl
theorem T.val_flat (t : T) : flatOk t.val = true := by cases t <;> rfl
theorem T.val_one (t : T) : oneCell t.val = true := by cases t <;> rfl
def dTV := And.intro T.val_nil (an @T.val_nd (And.intro T.val_cells (And.intro T.val_flat T.val_one)))
def dPN := an @pn1 (an @pn2 (an @pn3 @pn4))
structure Gn (H : Tr AO) (o : Nat) (l : T) (e : En) (r : T) (k : Int) : Prop where
 c : H.get .dead o = .cells (ncs l e r k) false
 ml : Mt H l
 mr : Mt H r
 nd : (o :: (l.ads ++ r.ads)).Nodup
 okl : l.ok
 okr : r.ok
 sz : l.sz + r.sz < 1000000000
structure Gt (H : Tr AO) (t : T) : Prop where
 m : Mt H t
 nd : t.ads.Nodup
 ok : t.ok
 sz : t.sz <= 1000000000
def Up (H H' : Tr AO) (A : List Nat) : Prop := ∀ q, q ∉ A -> H'.get .dead q = H.get .dead q
theorem Up.refl {H : Tr AO} {A : List Nat} : Up H H A := fun _ _ => rfl
theorem Up.trans {H H' K : Tr AO} {A : List Nat} (h : Up H H' A) (g : Up H' K A) : Up H K A := fun q hq => (g q hq).trans (h q hq)
theorem Up.mono {H H' : Tr AO} {A B : List Nat} (h : Up H H' A) (hs : ∀ q, q ∈ A -> q ∈ B) : Up H H' B := fun q hq => h q fun h2 => hq (hs q h2)
theorem Gn.ol {H : Tr AO} {o : Nat} {l : T} {e : En} {r : T} {k : Int} (h : Gn H o l e r k) : o ∉ l.ads := fun h2 => by have := (List.nodup_cons.1 h.nd).1; exact this (List.mem_append_left _ h2)
theorem Gn.or {H : Tr AO} {o : Nat} {l : T} {e : En} {r : T} {k : Int} (h : Gn H o l e r k) : o ∉ r.ads := fun h2 => by have := (List.nodup_cons.1 h.nd).1; exact this (List.mem_append_right _ h2)
theorem Gn.ndl {H : Tr AO} {o : Nat} {l : T} {e : En} {r : T} {k : Int} (h : Gn H o l e r k) : l.ads.Nodup := (List.nodup_append.1 (List.nodup_cons.1 h.nd).2).1
theorem Gn.ndr {H : Tr AO} {o : Nat} {l : T} {e : En} {r : T} {k : Int} (h : Gn H o l e r k) : r.ads.Nodup := (List.nodup_append.1 (List.nodup_cons.1 h.nd).2).2.1
theorem Gn.lr {H : Tr AO} {o : Nat} {l : T} {e : En} {r : T} {k : Int} (h : Gn H o l e r k) {q : Nat} (h1 : q ∈ l.ads) (h2 : q ∈ r.ads) : False := (List.nodup_append.1 (List.nodup_cons.1 h.nd).2).2.2 q h1 q h2 rfl
theorem Gt.n {H : Tr AO} {o : Nat} {l : T} {e : En} {r : T} {k : Int} (h : Gt H (.nd o l e r k)) : Gn H o l e r k := ⟨h.m.1, h.m.2.1, h.m.2.2, h.nd, h.ok.2.2.1, h.ok.2.2.2, by have := h.sz; simp only [T.sz] at this; omega⟩
theorem Gn.gl {H : Tr AO} {o : Nat} {l : T} {e : En} {r : T} {k : Int} (h : Gn H o l e r k) : Gt H l := ⟨h.ml, h.ndl, h.okl, by have := h.sz; omega⟩
theorem Gn.gr {H : Tr AO} {o : Nat} {l : T} {e : En} {r : T} {k : Int} (h : Gn H o l e r k) : Gt H r := ⟨h.mr, h.ndr, h.okr, by have := h.sz; omega⟩
theorem Gn.put {H : Tr AO} {o : Nat} {l : T} {e : En} {r : T} {k : Int} (h : Gn H o l e r k) (k2 : Int) : Gn (H.put .dead o (.cells (ncs l e r k2) false)) o l e r k2 :=
 ⟨by rw [Tr.get_put, if_pos rfl], h.ml.put h.ol, h.mr.put h.or, h.nd, h.okl, h.okr, h.sz⟩
theorem up_put {H : Tr AO} {o : Nat} {X : AO} {A : List Nat} (h : o ∈ A) : Up H (H.put .dead o X) A := fun q hq => by rw [Tr.get_put, if_neg]; rintro rfl; exact hq h
theorem Mt.up {H H' : Tr AO} {t : T} {A : List Nat} (h : Mt H t) (hu : Up H H' A) (hd : ∀ q ∈ t.ads, q ∉ A) : Mt H' t := h.frame fun q hq => hu q (hd q hq)
theorem cHeight {m : Md} {t : T} {H : Tr AO} {hs : Nat} (h : Mt H t) : callF tab (evw tab) m 106 [t.val] H hs = some (.lit (.int .i64 t.hgt), H, hs) := by
 rw [callF_in (fi := fi106) tcon rfl rfl rfl]
 cases t with
 | nil => simp only [sG, seval, x106, stU, b106, Tryz.f106, dTV, T.hgt, dPN]
 | nd o l e r k =>
  obtain ⟨h1, _, _⟩ := h
  simp only [sG, seval, x106, stU, b106, Tryz.f106, dTV, T.hgt, dPN, h1]
theorem wrapM {a b : Int} (h1 : 0 <= a) (h2 : a <= 1000000000) (h3 : 0 <= b) (h4 : b <= 1000000000) : IntKind.i64.wrap (1 + bif decide (a < b) then b else a) = 1 + max a b := by
 by_cases h : a < b
 ·simp only [h, decide_true, cond_true]
  rw [Int.max_eq_right (by omega)]
  exact wrap_i64 (by omega) (by omega)
 ·simp only [h, decide_false, cond_false]
  rw [Int.max_eq_left (by omega)]
  exact wrap_i64 (by omega) (by omega)
theorem Gn.hb {H : Tr AO} {o : Nat} {l : T} {e : En} {r : T} {k : Int} (h : Gn H o l e r k) : (0 <= l.hgt /\ l.hgt <= 1000000000) /\ 0 <= r.hgt /\ r.hgt <= 1000000000 := by
 have h1 := T.ok_h h.okl
 have h2 := T.ok_h h.okr
 have h3 := h.sz
 omega
theorem cSet {m : Md} {o : Nat} {l : T} {e : En} {r : T} {k : Int} {H : Tr AO} {hs : Nat} (h : Gn H o l e r k) : ∃ v, callF tab (evw tab) m 96 [.ptr o 0] H hs = some (v, H.put .dead o (.cells (ncs l e r (1 + max l.hgt r.hgt)) false), hs) := by
 have D := d96
 simp only [stD, stC, List.cons.injEq, b96, Tryz.f96] at D
 rw [callF_in (fi := fi96) tcon rfl rfl rfl]
 have c1 := fun m hs => @cHeight m l H hs h.ml
 have c2 := fun m hs => @cHeight m r H hs h.mr
 have h1 := h.c
 obtain ⟨⟨b1, b2⟩, b3, b4⟩ := h.hb
 have hw := wrapM b1 b2 b3 b4
 simp only [sG, seval, x96, stU, b96, Tryz.f96, h1, c1, c2, hw, D]
 exact ⟨_, rfl⟩
theorem cLean {m : Md} {o : Nat} {l : T} {e : En} {r : T} {k : Int} {H : Tr AO} {hs : Nat} (h : Gn H o l e r k) : callF tab (evw tab) m 97 [.ptr o 0] H hs = some (.lit (.int .i64 (l.hgt - r.hgt)), H, hs) := by
 have D := d97
 simp only [stD, stC, List.cons.injEq, b97, Tryz.f97] at D
 rw [callF_in (fi := fi97) tcon rfl rfl rfl]
 have c1 := fun m hs => @cHeight m l H hs h.ml
 have c2 := fun m hs => @cHeight m r H hs h.mr
 have h1 := h.c
 obtain ⟨⟨b1, b2⟩, b3, b4⟩ := h.hb
 have hw : IntKind.i64.wrap (l.hgt - r.hgt) = l.hgt - r.hgt := wrap_i64 (by omega) (by omega)
 simp only [sG, seval, x97, stU, b97, Tryz.f97, h1, c1, c2, hw, D]
theorem cTurnR {m : Md} {o p : Nat} {a b c : T} {x e : En} {hp k : Int} {H : Tr AO} {hs : Nat} (h : Gn H o (.nd p a x b hp) e c k) :
  ∃ H', callF tab (evw tab) m 99 [.ptr o 0] H hs = some (.ptr p 0, H', hs) /\ Gt H' (mk p a x (mk o b e c)) /\ Up H H' [o, p] := by
 have hnd := h.nd
 simp only [T.ads, List.cons_append, List.nodup_cons, List.nodup_append, List.mem_cons, List.mem_append] at hnd
 have hop : o ≠ p := by grind
 have hsz := h.sz
 simp only [T.sz] at hsz
 obtain ⟨q1, qa, qb⟩ := h.ml
 obtain ⟨_, _, oka, okb⟩ := h.okl
 have c1 := h.c
 simp only [ncs, dTV] at c1
 have hG1 : Gn ((H.put .dead o (.cells (ncs b e c k) false)).put .dead p (.cells (ncs a x (.nd o b e c k) hp) false)) o b e c k := by
  refine ⟨by rw [Tr.get_put, if_neg hop, Tr.get_put, if_pos rfl], (qb.put ?_).put ?_, (h.mr.put ?_).put ?_, ?_, okb, h.okr, by omega⟩
  all_goals first | (simp only [List.nodup_cons, List.nodup_append, List.mem_append]; grind) | grind
 obtain ⟨v1, s1⟩ := cSet (m := ⟨true, true, m.gl⟩) (hs := hs) hG1
 have hG2 : Gn (((H.put .dead o (.cells (ncs b e c k) false)).put .dead p (.cells (ncs a x (.nd o b e c k) hp) false)).put .dead o (.cells (ncs b e c (1 + max b.hgt c.hgt)) false)) p a x (mk o b e c) hp := by
  refine ⟨by rw [Tr.get_put, if_neg hop.symm, Tr.get_put, if_pos rfl]; rfl, ((qa.put ?_).put ?_).put ?_, ⟨by rw [Tr.get_put, if_pos rfl], (hG1.ml.put ?_), (hG1.mr.put ?_)⟩, ?_, oka, mk_ok okb h.okr, by simp only [mk, T.sz]; omega⟩
  all_goals first | (simp only [mk, T.ads, List.nodup_cons, List.nodup_append, List.mem_append, List.mem_cons]; grind) | grind
 obtain ⟨v2, s2⟩ := cSet (m := ⟨true, true, m.gl⟩) (hs := hs) hG2
 have hU : Up H ((((H.put .dead o (.cells (ncs b e c k) false)).put .dead p (.cells (ncs a x (.nd o b e c k) hp) false)).put .dead o (.cells (ncs b e c (1 + max b.hgt c.hgt)) false)).put .dead p (.cells (ncs a x (mk o b e c) (1 + max a.hgt (mk o b e c).hgt)) false)) [o, p] :=
  (((up_put (by simp)).trans (up_put (by simp))).trans (up_put (by simp))).trans (up_put (by simp))
 have hF := hG2.put (1 + max a.hgt (mk o b e c).hgt)
 have hT : Gt ((((H.put .dead o (.cells (ncs b e c k) false)).put .dead p (.cells (ncs a x (.nd o b e c k) hp) false)).put .dead o (.cells (ncs b e c (1 + max b.hgt c.hgt)) false)).put .dead p (.cells (ncs a x (mk o b e c) (1 + max a.hgt (mk o b e c).hgt)) false)) (mk p a x (mk o b e c)) :=
  ⟨⟨hF.c, hF.ml, hF.mr⟩, hF.nd, mk_ok oka (mk_ok okb h.okr), by simp only [mk, T.sz]; omega⟩
 refine ⟨_, ?_, hT, hU⟩
 rw [callF_in (fi := fi99) tcon rfl rfl rfl]
 simp only [ncs, dTV, mk] at s1 s2
 simp only [sG, seval, x99, stU, b99, Tryz.f99, dTV, c1, q1, hop.symm, s1, s2, ncs, mk]
theorem cTurnL {m : Md} {o p : Nat} {a b c : T} {x e : En} {hp k : Int} {H : Tr AO} {hs : Nat} (h : Gn H o a e (.nd p b x c hp) k) :
  ∃ H', callF tab (evw tab) m 98 [.ptr o 0] H hs = some (.ptr p 0, H', hs) /\ Gt H' (mk p (mk o a e b) x c) /\ Up H H' [o, p] := by
 have hnd := h.nd
 simp only [T.ads, List.nodup_cons, List.nodup_append, List.mem_cons, List.mem_append] at hnd
 have hop : o ≠ p := by grind
 have hsz := h.sz
 simp only [T.sz] at hsz
 obtain ⟨q1, qb, qc⟩ := h.mr
 obtain ⟨_, _, okb, okc⟩ := h.okr
 have c1 := h.c
 simp only [ncs, dTV] at c1
 have hG1 : Gn ((H.put .dead o (.cells (ncs a e b k) false)).put .dead p (.cells (ncs (.nd o a e b k) x c hp) false)) o a e b k := by
  refine ⟨by rw [Tr.get_put, if_neg hop, Tr.get_put, if_pos rfl], (h.ml.put ?_).put ?_, (qb.put ?_).put ?_, ?_, h.okl, okb, by omega⟩
  all_goals first | (simp only [List.nodup_cons, List.nodup_append, List.mem_append]; grind) | grind
 obtain ⟨v1, s1⟩ := cSet (m := ⟨true, true, m.gl⟩) (hs := hs) hG1
 have hG2 : Gn (((H.put .dead o (.cells (ncs a e b k) false)).put .dead p (.cells (ncs (.nd o a e b k) x c hp) false)).put .dead o (.cells (ncs a e b (1 + max a.hgt b.hgt)) false)) p (mk o a e b) x c hp := by
  refine ⟨by rw [Tr.get_put, if_neg hop.symm, Tr.get_put, if_pos rfl]; rfl, ⟨by rw [Tr.get_put, if_pos rfl], (hG1.ml.put ?_), (hG1.mr.put ?_)⟩, ((qc.put ?_).put ?_).put ?_, ?_, mk_ok h.okl okb, okc, by simp only [mk, T.sz]; omega⟩
  all_goals first | (simp only [mk, T.ads, List.nodup_cons, List.nodup_append, List.mem_append, List.mem_cons]; grind) | grind
 obtain ⟨v2, s2⟩ := cSet (m := ⟨true, true, m.gl⟩) (hs := hs) hG2
 have hU : Up H ((((H.put .dead o (.cells (ncs a e b k) false)).put .dead p (.cells (ncs (.nd o a e b k) x c hp) false)).put .dead o (.cells (ncs a e b (1 + max a.hgt b.hgt)) false)).put .dead p (.cells (ncs (mk o a e b) x c (1 + max (mk o a e b).hgt c.hgt)) false)) [o, p] :=
  (((up_put (by simp)).trans (up_put (by simp))).trans (up_put (by simp))).trans (up_put (by simp))
 have hF := hG2.put (1 + max (mk o a e b).hgt c.hgt)
 have hT : Gt ((((H.put .dead o (.cells (ncs a e b k) false)).put .dead p (.cells (ncs (.nd o a e b k) x c hp) false)).put .dead o (.cells (ncs a e b (1 + max a.hgt b.hgt)) false)).put .dead p (.cells (ncs (mk o a e b) x c (1 + max (mk o a e b).hgt c.hgt)) false)) (mk p (mk o a e b) x c) :=
  ⟨⟨hF.c, hF.ml, hF.mr⟩, hF.nd, mk_ok (mk_ok h.okl okb) okc, by simp only [mk, T.sz]; omega⟩
 refine ⟨_, ?_, hT, hU⟩
 rw [callF_in (fi := fi98) tcon rfl rfl rfl]
 simp only [ncs, dTV, mk] at s1 s2
 simp only [sG, seval, x98, stU, b98, Tryz.f98, dTV, c1, q1, hop.symm, s1, s2, ncs, mk]
theorem Up.to {H H' : Tr AO} {A B : List Nat} (h : Up H H' A) (hs : ∀ q ∈ A, q ∈ B) : Up H H' B := h.mono hs
theorem cEven {m : Md} {o : Nat} {l : T} {e : En} {r : T} {k : Int} {H : Tr AO} {hs : Nat} (h : Gn H o l e r k) :
  ∃ H', callF tab (evw tab) m 81 [.ptr o 0] H hs = some ((evenN o l e r).val, H', hs) /\ Gt H' (evenN o l e r) /\ Up H H' (o :: (l.ads ++ r.ads)) := by
 obtain ⟨v1, s1⟩ := cSet (m := ⟨true, true, m.gl⟩) (hs := hs) h
 have hG1 := h.put (1 + max l.hgt r.hgt)
 have hU1 : Up H (H.put .dead o (.cells (ncs l e r (1 + max l.hgt r.hgt)) false)) (o :: (l.ads ++ r.ads)) := up_put (List.mem_cons_self ..)
 have hM : Gt (H.put .dead o (.cells (ncs l e r (1 + max l.hgt r.hgt)) false)) (mk o l e r) := ⟨⟨hG1.c, hG1.ml, hG1.mr⟩, hG1.nd, mk_ok h.okl h.okr, by have := h.sz; simp only [mk, T.sz]; omega⟩
 generalize H.put .dead o (.cells (ncs l e r (1 + max l.hgt r.hgt)) false) = H1 at s1 hG1 hU1 hM
 generalize hk1 : 1 + max l.hgt r.hgt = k1 at hG1
 have s2 := cLean (m := ⟨true, true, m.gl⟩) (hs := hs) hG1
 obtain ⟨⟨z1, z2⟩, z3, z4⟩ := h.hb
 have hc1 := hG1.c
 have hnd := h.nd
 have hsz := h.sz
 rw [callF_in (fi := fi81) tcon rfl rfl rfl]
 unfold evenN
 rw [hk1]
 cases hA : decide (1 < l.hgt - r.hgt) with
 | true =>
  have hA' := of_decide_eq_true hA
  rw [cond_true]
  cases l with
  | nil => simp only [T.hgt] at hA' z3; omega
  | nd p a x b hp =>
   have hGp := hG1.gl.n
   have s3 := cLean (m := ⟨true, true, m.gl⟩) (hs := hs) hGp
   have hop : o ≠ p := fun e => h.ol (by rw [e]; exact List.mem_cons_self ..)
   simp only [T.ads, List.cons_append, List.nodup_cons, List.nodup_append, List.mem_cons, List.mem_append] at hnd
   simp only [T.sz] at hsz
   cases hB : decide (leanT (.nd p a x b hp) < 0) with
   | true =>
    have hB2 : decide (a.hgt - b.hgt < 0) = true := hB
    have hB3 := of_decide_eq_true hB2
    rw [cond_true]
    cases b with
    | nil =>
     have := T.ok_h hGp.okl
     have hB4 : a.hgt - (0 : Int) < 0 := hB3
     omega
    | nd q c1 y c2 hb =>
     obtain ⟨H2, t1, t2, t3⟩ := cTurnL (m := ⟨true, true, m.gl⟩) (hs := hs) hGp
     simp only [T.ads, List.mem_cons, List.mem_append, List.nodup_cons, List.nodup_append] at hnd
     simp only [T.sz] at hsz
     have hoq : o ≠ q := by grind
     have ho2 : H2.get .dead o = H1.get .dead o := t3 o (by simp [hop, hoq])
     have hG3 : Gn (H2.put .dead o (.cells (ncs (mk q (mk p a x c1) y c2) e r k1) false)) o (mk q (mk p a x c1) y c2) e r k1 := by
      refine ⟨by rw [Tr.get_put, if_pos rfl], t2.m.put ?_, (hG1.mr.up t3 ?_).put h.or, ?_, t2.ok, h.okr, ?_⟩
      ·simp only [mk, T.ads, List.mem_cons, List.mem_append]; grind
      ·intro z hz; simp only [List.mem_cons, List.not_mem_nil]; grind
      ·simp only [mk, T.ads, List.cons_append, List.nodup_cons, List.nodup_append, List.mem_append, List.mem_cons]; grind
      ·simp only [mk, T.sz]; omega
     obtain ⟨H4, u1, u2, u3⟩ := cTurnR (m := ⟨true, true, m.gl⟩) (hs := hs) hG3
     refine ⟨H4, ?_, u2, ((hU1.trans (t3.to ?_)).trans (up_put (List.mem_cons_self ..))).trans (u3.to ?_)⟩
     ·simp only [ncs, dTV, mk] at s1 hc1 t1 u1 s3
      rw [ho2.symm] at hc1
      simp only [sG, seval, x81, stU, b81, Tryz.f81, dTV, s1, s2, s3, hA, hB2, hc1, ho2.symm, t1, u1, mk, rotL, rotR]
     ·intro z hz; simp only [T.ads, List.mem_cons, List.not_mem_nil, List.mem_append, or_false] at hz ⊢; grind
     ·intro z hz; simp only [T.ads, List.mem_cons, List.not_mem_nil, List.mem_append, or_false] at hz ⊢; grind
   | false =>
    have hB2 : decide (a.hgt - b.hgt < 0) = false := hB
    rw [cond_false]
    obtain ⟨H2, t1, t2, t3⟩ := cTurnR (m := ⟨true, true, m.gl⟩) (hs := hs) hG1
    refine ⟨H2, ?_, t2, hU1.trans (t3.to ?_)⟩
    ·simp only [ncs, dTV] at s1 hc1 t1 s3
     simp only [sG, seval, x81, stU, b81, Tryz.f81, dTV, s1, s2, s3, hA, hB2, hc1, t1, mk, rotR]
    ·intro z hz; simp only [T.ads, List.mem_cons, List.not_mem_nil, List.mem_append, or_false] at hz ⊢; grind
 | false =>
  rw [cond_false]
  cases hC : decide (l.hgt - r.hgt < -1) with
  | true =>
   have hC' := of_decide_eq_true hC
   rw [cond_true]
   cases r with
   | nil => simp only [T.hgt] at hC' z1; omega
   | nd p b x c hp =>
    have hGp := hG1.gr.n
    have s3 := cLean (m := ⟨true, true, m.gl⟩) (hs := hs) hGp
    have hop : o ≠ p := fun e => h.or (by rw [e]; exact List.mem_cons_self ..)
    simp only [T.ads, List.nodup_cons, List.nodup_append, List.mem_cons, List.mem_append] at hnd
    simp only [T.sz] at hsz
    cases hB : decide (0 < leanT (.nd p b x c hp)) with
    | true =>
     have hB2 : decide (0 < b.hgt - c.hgt) = true := hB
     have hB3 := of_decide_eq_true hB2
     rw [cond_true]
     cases b with
     | nil =>
      have := T.ok_h hGp.okr
      have hB4 : 0 < (0 : Int) - c.hgt := hB3
      omega
     | nd q c1 y c2 hb =>
      obtain ⟨H2, t1, t2, t3⟩ := cTurnR (m := ⟨true, true, m.gl⟩) (hs := hs) hGp
      simp only [T.ads, List.mem_cons, List.mem_append, List.nodup_cons, List.nodup_append] at hnd
      simp only [T.sz] at hsz
      have hoq : o ≠ q := by grind
      have ho2 : H2.get .dead o = H1.get .dead o := t3 o (by simp [hop, hoq])
      have hG3 : Gn (H2.put .dead o (.cells (ncs l e (mk q c1 y (mk p c2 x c)) k1) false)) o l e (mk q c1 y (mk p c2 x c)) k1 := by
       refine ⟨by rw [Tr.get_put, if_pos rfl], (hG1.ml.up t3 ?_).put h.ol, t2.m.put ?_, ?_, h.okl, t2.ok, ?_⟩
       ·intro z hz; simp only [List.mem_cons, List.not_mem_nil]; grind
       ·simp only [mk, T.ads, List.mem_cons, List.mem_append]; grind
       ·simp only [mk, T.ads, List.nodup_cons, List.nodup_append, List.mem_append, List.mem_cons]; grind
       ·simp only [mk, T.sz]; omega
      obtain ⟨H4, u1, u2, u3⟩ := cTurnL (m := ⟨true, true, m.gl⟩) (hs := hs) hG3
      refine ⟨H4, ?_, u2, ((hU1.trans (t3.to ?_)).trans (up_put (List.mem_cons_self ..))).trans (u3.to ?_)⟩
      ·simp only [ncs, dTV, mk] at s1 hc1 t1 u1 s3
       rw [ho2.symm] at hc1
       simp only [sG, seval, x81, stU, b81, Tryz.f81, dTV, s1, s2, s3, hA, hB2, hC, hc1, ho2.symm, t1, u1, mk, rotL, rotR]
      ·intro z hz; simp only [T.ads, List.mem_cons, List.not_mem_nil, List.mem_append, or_false] at hz ⊢; grind
      ·intro z hz; simp only [T.ads, List.mem_cons, List.not_mem_nil, List.mem_append, or_false] at hz ⊢; grind
    | false =>
     have hB2 : decide (0 < b.hgt - c.hgt) = false := hB
     rw [cond_false]
     obtain ⟨H2, t1, t2, t3⟩ := cTurnL (m := ⟨true, true, m.gl⟩) (hs := hs) hG1
     refine ⟨H2, ?_, t2, hU1.trans (t3.to ?_)⟩
     ·simp only [ncs, dTV] at s1 hc1 t1 s3
      simp only [sG, seval, x81, stU, b81, Tryz.f81, dTV, s1, s2, s3, hA, hB2, hC, hc1, t1, mk, rotL]
     ·intro z hz; simp only [T.ads, List.mem_cons, List.not_mem_nil, List.mem_append, or_false] at hz ⊢; grind
  | false =>
   refine ⟨H1, ?_, hM, hU1⟩
   simp only [sG, seval, x81, stU, b81, Tryz.f81, dTV, s1, s2, hA, hC, mk]
def Upb (H H' : Tr AO) (A : List Nat) (n : Nat) : Prop := ∀ q, q < n -> q ∉ A -> H'.get .dead q = H.get .dead q
theorem upb_new {H : Tr AO} {n : Nat} {X : AO} : Upb H (H.put .dead n X) [] n := fun q hq _ => by rw [Tr.get_put, if_neg (by omega)]
theorem Mt.upb {H H' : Tr AO} {t : T} {A : List Nat} {n : Nat} (h : Mt H t) (hu : Upb H H' A n) (hn : ∀ q ∈ t.ads, q < n) (hd : ∀ q ∈ t.ads, q ∉ A) : Mt H' t := h.frame fun q hq => hu q (hn q hq) (hd q hq)
theorem cPut {e : En} (he : e.r.length < 9223372036854775807) : ∀ {t : T} {m : Md} {H : Tr AO} {hs : Nat}, Gt H t -> t.sz < 1000000000 -> (∀ q ∈ t.ads, q < hs) ->
  ∃ q H' hs', callF tab (evw tab) m 59 [t.val, .agg [.lst .no (e.r.map encV), .lit (.int .i64 e.m)]] H hs = some ((putT t e q).val, H', hs') /\ hs <= q /\ q < hs' /\ Gt H' (putT t e q) /\ Upb H H' t.ads hs := by
 have D := d59
 simp only [stD, stC, List.cons.injEq, b59, Tryz.f59] at D
 intro t
 induction t with
 | nil =>
  intro m H hs hG hz hb
  refine ⟨hs + 1, (H.put .dead hs (.cells [.lst .no (e.r.map encV), .lit (.int .i64 e.m)] false)).put .dead (hs + 1) (.cells (ncs .nil e .nil 1) false), hs + 2, ?_, by omega, by omega, ⟨⟨by rw [Tr.get_put, if_pos rfl], trivial, trivial⟩, by simp [putT, T.ads], putT_ok (t := .nil) trivial, by simp [putT, T.sz]⟩, ?_⟩
  ·rw [callF_in (fi := fi59) tcon rfl rfl rfl]
   simp only [sG, seval, x59, stU, b59, Tryz.f59, dTV, dPN, putT, ncs]
  ·intro q hq hm
   rw [Tr.get_put, if_neg (by omega), Tr.get_put, if_neg (by omega)]
 | nd o l x r h ihl ihr =>
  intro m H hs hG hz hb
  have hN := hG.n
  have hc := hN.c
  have ho : o < hs := hb o (List.mem_cons_self ..)
  have hbl : ∀ q ∈ l.ads, q < hs := fun q hq => hb q (by simp [T.ads, hq])
  have hbr : ∀ q ∈ r.ads, q < hs := fun q hq => hb q (by simp [T.ads, hq])
  have hnd := hN.nd
  simp only [List.nodup_cons, List.nodup_append, List.mem_append] at hnd
  have hzl : l.sz + r.sz + 1 < 1000000000 := hz
  have c66 := fun m H hs => @call66 m .no .no e.r x.r H hs he
  have hno : (o = hs) = False := eq_false (by omega)
  have hno2 : (hs = o) = False := eq_false (by omega)
  have hB := @upb_new H hs (.cells [.lst .no (e.r.map encV), .lit (.int .i64 e.m)] false)
  have hc1 : (H.put .dead hs (.cells [.lst .no (e.r.map encV), .lit (.int .i64 e.m)] false)).get .dead o = .cells (ncs l x r h) false := by rw [Tr.get_put, if_neg (by omega)]; exact hc
  have hGl : Gt (H.put .dead hs (.cells [.lst .no (e.r.map encV), .lit (.int .i64 e.m)] false)) l := ⟨hN.gl.m.put (fun h => by have := hbl _ h; omega), hN.gl.nd, hN.gl.ok, hN.gl.sz⟩
  have hGr : Gt (H.put .dead hs (.cells [.lst .no (e.r.map encV), .lit (.int .i64 e.m)] false)) r := ⟨hN.gr.m.put (fun h => by have := hbr _ h; omega), hN.gr.nd, hN.gr.ok, hN.gr.sz⟩
  rw [callF_in (fi := fi59) tcon rfl rfl rfl]
  cases hC : decide (rcmp e.r x.r < 0) with
  | true =>
   obtain ⟨q, H2, hs2, t1, t2, t3, t4, t5⟩ := ihl (m := ⟨true, true, m.gl⟩) (hs := hs + 1) hGl (by omega) (fun q hq => by have := hbl q hq; omega)
   have pm : ∀ z, z ∈ (putT l e q).ads ↔ z = q ∨ z ∈ l.ads := fun z => by rw [putT_ads.mem_iff, List.mem_cons]
   have hc2 : H2.get .dead o = .cells (ncs l x r h) false := by rw [t5 o (by omega) hN.ol]; exact hc1
   have hsz2 : (putT l e q).sz = l.sz + 1 := by rw [<- T.ads_len, putT_ads.length_eq, List.length_cons, T.ads_len]
   have hN3 : Gn (H2.put .dead o (.cells (ncs (putT l e q) x r h) false)) o (putT l e q) x r h := by
    refine ⟨by rw [Tr.get_put, if_pos rfl], t4.m.put ?_, (hGr.m.upb t5 ?_ ?_).put hN.or, ?_, t4.ok, hN.okr, by omega⟩
    ·rw [pm]; rintro (h1 | h1)
     ·omega
     ·exact hN.ol h1
    ·intro z hz; have := hbr z hz; omega
    ·intro z hz h1; exact hN.lr h1 hz
    ·have h1 := t4.nd
     simp only [List.nodup_cons, List.nodup_append, List.mem_append, pm]
     refine ⟨?_, h1, hnd.2.2.1, ?_⟩
     ·rintro ((h2 | h2) | h2)
      ·omega
      ·exact hN.ol h2
      ·exact hN.or h2
     ·rintro a (h2 | h2) b hb2 rfl
      ·have := hbr a hb2; omega
      ·exact hN.lr h2 hb2
   obtain ⟨H4, u1, u2, u3⟩ := cEven (m := ⟨true, true, m.gl⟩) (hs := hs2) hN3
   refine ⟨q, H4, hs2, ?_, by omega, t3, ?_, ?_⟩
   ·simp only [ncs] at hc hc1 hc2 u1 t1
    simp (maxSteps := 2000000) only [sG, seval, x59, stU, b59, Tryz.f59, dTV, dPN, hc1, c66, hC, hc2, t1, u1, D, putT, evenT]
   ·rw [show putT (.nd o l x r h) e q = evenN o (putT l e q) x r by show evenT (bif decide (rcmp e.r x.r < 0) then T.nd o (putT l e q) x r h else T.nd o l x (putT r e q) h) = _; rw [hC]; rfl]; exact u2
   ·intro z hz hm
    simp only [T.ads, List.mem_cons, List.mem_append, not_or] at hm
    rw [u3 z (by simp only [List.mem_cons, List.mem_append, pm, not_or]; exact ⟨hm.1, ⟨by omega, hm.2.1⟩, hm.2.2⟩), Tr.get_put, if_neg hm.1, t5 z (by omega) hm.2.1]
    exact hB z hz (by simp)
  | false =>
   obtain ⟨q, H2, hs2, t1, t2, t3, t4, t5⟩ := ihr (m := ⟨true, true, m.gl⟩) (hs := hs + 1) hGr (by omega) (fun q hq => by have := hbr q hq; omega)
   have pm : ∀ z, z ∈ (putT r e q).ads ↔ z = q ∨ z ∈ r.ads := fun z => by rw [putT_ads.mem_iff, List.mem_cons]
   have hc2 : H2.get .dead o = .cells (ncs l x r h) false := by rw [t5 o (by omega) hN.or]; exact hc1
   have hsz2 : (putT r e q).sz = r.sz + 1 := by rw [<- T.ads_len, putT_ads.length_eq, List.length_cons, T.ads_len]
   have hN3 : Gn (H2.put .dead o (.cells (ncs l x (putT r e q) h) false)) o l x (putT r e q) h := by
    refine ⟨by rw [Tr.get_put, if_pos rfl], (hGl.m.upb t5 ?_ ?_).put hN.ol, t4.m.put ?_, ?_, hN.okl, t4.ok, by omega⟩
    ·intro z hz; have := hbl z hz; omega
    ·intro z hz h1; exact hN.lr hz h1
    ·rw [pm]; rintro (h1 | h1)
     ·omega
     ·exact hN.or h1
    ·have h1 := t4.nd
     simp only [List.nodup_cons, List.nodup_append, List.mem_append, pm]
     refine ⟨?_, hnd.2.1, h1, ?_⟩
     ·rintro (h2 | h2 | h2)
      ·exact hN.ol h2
      ·omega
      ·exact hN.or h2
     ·rintro a ha b (h2 | h2) rfl
      ·have := hbl a ha; omega
      ·exact hN.lr ha h2
   obtain ⟨H4, u1, u2, u3⟩ := cEven (m := ⟨true, true, m.gl⟩) (hs := hs2) hN3
   refine ⟨q, H4, hs2, ?_, by omega, t3, ?_, ?_⟩
   ·simp only [ncs] at hc hc1 hc2 u1 t1
    simp (maxSteps := 2000000) only [sG, seval, x59, stU, b59, Tryz.f59, dTV, dPN, hc1, c66, hC, hc2, t1, u1, D, putT, evenT]
   ·rw [show putT (.nd o l x r h) e q = evenN o l x (putT r e q) by show evenT (bif decide (rcmp e.r x.r < 0) then T.nd o (putT l e q) x r h else T.nd o l x (putT r e q) h) = _; rw [hC]; rfl]; exact u2
   ·intro z hz hm
    simp only [T.ads, List.mem_cons, List.mem_append, not_or] at hm
    rw [u3 z (by simp only [List.mem_cons, List.mem_append, pm, not_or]; exact ⟨hm.1, hm.2.1, by omega, hm.2.2⟩), Tr.get_put, if_neg hm.1, t5 z (by omega) hm.2.2]
    exact hB z hz (by simp)
theorem cFind {x : Row} (hx : x.length < 9223372036854775807) {gl : Tr (Option AV)} {H : Tr AO} {hs : Nat} : ∀ (t : T) (tm : Tr AV), Mt H t ->
  tm.get .any 0 = t.val -> tm.get .any 1 = .lst .no (x.map encV) ->
  W tab none (fin tab fi57) (lpc fi57 0) (lpk fi57 0) ⟨tm, 30, H, hs, [], ⟨true, true, gl⟩⟩ = some ((findT t x).val, H, hs) := by
 simp only [stU, stC, b57, Tryz.f57]
 intro t
 induction t with
 | nil =>
  intro tm hM a0 a1
  rw [W_loop]
  simp only [sG, seval, x57, a0, dTV, dPN, findT]
 | nd o l e r h ihl ihr =>
  intro tm hM a0 a1
  obtain ⟨hc, hl, hr⟩ := hM
  have c66 := fun m H hs => @call66 m .no .no x e.r H hs hx
  simp only [dTV] at a0
  rw [W_loop]
  unfold findT
  cases h1 : decide (rcmp x e.r < 0) with
  | true =>
   rw [cond_true]
   simp (maxSteps := 2000000) only [sG, seval, a0, a1, hc, c66, h1, dPN]
   apply ihl _ hl
   all_goals simp only [sG, seval, a1]
  | false =>
   rw [cond_false]
   cases h2 : decide (0 < rcmp x e.r) with
   | true =>
    rw [cond_true]
    simp (maxSteps := 2000000) only [sG, seval, a0, a1, hc, c66, h1, h2, dPN]
    apply ihr _ hr
    all_goals simp only [sG, seval, a1]
   | false => simp (maxSteps := 2000000) only [sG, seval, x57, a0, a1, hc, c66, h1, h2, dTV, dPN]
theorem callFind {m : Md} {x : Row} (hx : x.length < 9223372036854775807) {t : T} {H : Tr AO} {hs : Nat} (h : Mt H t) : callF tab (evw tab) m 57 [t.val, .lst .no (x.map encV)] H hs = some ((findT t x).val, H, hs) := by
 have L := @cFind x hx m.gl H hs t
 simp only [stU, stC, b57, Tryz.f57] at L
 rw [callF_in (fi := fi57) tcon rfl rfl rfl]
 simp only [sG, seval, x57, stU, b57, Tryz.f57]
 apply L _ h
 all_goals simp only [sG, seval]
def firstN : T -> T
 | .nil => .nil
 | .nd o .nil e r h => .nd o .nil e r h
 | .nd _ (.nd p a x b k) _ _ _ => firstN (.nd p a x b k)
theorem firstN_mt {H : Tr AO} : ∀ {t : T}, Mt H t -> t ≠ .nil -> ∃ o l e r h, firstN t = .nd o l e r h /\ H.get .dead o = .cells (ncs l e r h) false /\ firstT t = some e
 | .nil, _, h => absurd rfl h
 | .nd o .nil e r h, hM, _ => ⟨o, .nil, e, r, h, rfl, hM.1, rfl⟩
 | .nd o (.nd p a x b k) e r h, hM, _ => by
  obtain ⟨o', l', e', r', h', q1, q2, q3⟩ := firstN_mt hM.2.1 (by simp)
  refine ⟨o', l', e', r', h', q1, q2, ?_⟩
  rw [firstT, q3]
theorem cFirst {gl : Tr (Option AV)} {H : Tr AO} {hs : Nat} : ∀ (t : T) (tm : Tr AV), Mt H t -> t ≠ .nil ->
  tm.get .any 0 = t.val ->
  W tab none (fin tab fi82) (lpc fi82 0) (lpk fi82 0) ⟨tm, 13, H, hs, [], ⟨true, true, gl⟩⟩ = some ((firstN t).val, H, hs) := by
 simp only [stU, stC, b82, Tryz.f82]
 intro t
 induction t with
 | nil => intro tm _ h; exact absurd rfl h
 | nd o l e r h ihl ihr =>
  intro tm hM _ a0
  obtain ⟨hc, hl, hr⟩ := hM
  simp only [dTV] at a0
  rw [W_loop]
  cases l with
  | nil =>
   simp only [ncs, dTV] at hc
   simp (maxSteps := 2000000) only [sG, seval, x82, a0, hc, dTV, dPN, firstN]
  | nd p a x b k =>
   simp only [ncs, dTV] at hc
   simp (maxSteps := 2000000) only [sG, seval, a0, hc, dPN, firstN]
   apply ihl _ hl (by simp)
   all_goals simp only [sG, seval, dTV]
theorem callFirst {m : Md} {t : T} {H : Tr AO} {hs : Nat} (h : Mt H t) (hn : t ≠ .nil) : callF tab (evw tab) m 82 [t.val] H hs = some ((firstN t).val, H, hs) := by
 have L := @cFirst m.gl H hs t
 simp only [stU, stC, b82, Tryz.f82] at L
 rw [callF_in (fi := fi82) tcon rfl rfl rfl]
 simp only [sG, seval, x82, stU, b82, Tryz.f82]
 apply L _ h hn
 all_goals simp only [sG, seval]
theorem cDrop : ∀ {n : Nat} {t : T} {x : Row} {m : Md} {H : Tr AO} {hs : Nat}, x.length < 9223372036854775807 -> (∀ e ∈ t.es, e.r.length < 9223372036854775807) -> t.sz <= n -> Srt t.es -> bget t.es x ≠ none -> Gt H t ->
  ∃ H' hs', callF tab (evw tab) m 60 [t.val, .lst .no (x.map encV)] H hs = some ((dropT n t x).val, H', hs') /\ hs' = hs /\ Gt H' (dropT n t x) /\ Up H H' t.ads := by
 have D := d60
 simp only [stD, stC, List.cons.injEq, b60, Tryz.f60] at D
 intro n
 induction n with
 | zero =>
  intro t x m H hs hx hes hz hs2 hb hG
  cases t with
  | nil => exact absurd rfl hb
  | nd o l e r h => simp [T.sz] at hz
 | succ n ih =>
  intro t x m H hs hx hes hz hsr hb hG
  cases t with
  | nil => exact absurd rfl hb
  | nd o l e r h =>
   have hN := hG.n
   have hc := hN.c
   obtain ⟨_, _, sl, sr⟩ := hsr.mid
   have zl : l.sz <= n := by simp only [T.sz] at hz; omega
   have zr : r.sz <= n := by simp only [T.sz] at hz; omega
   have c66 := fun m H hs => @call66 m .no .no x e.r H hs hx
   have hsl : ∀ e ∈ l.es, e.r.length < 9223372036854775807 := fun e he => hes e (by simp [T.es, he])
   have hsr2 : ∀ e ∈ r.es, e.r.length < 9223372036854775807 := fun e he => hes e (by simp [T.es, he])
   have hnd := hN.nd
   simp only [List.nodup_cons, List.nodup_append, List.mem_append] at hnd
   have hbb : bget (l.es ++ e :: r.es) x ≠ none := hb
   have hsz := hN.sz
   unfold dropT
   rw [callF_in (fi := fi60) tcon rfl rfl rfl]
   cases h1 : decide (rcmp x e.r < 0) with
   | true =>
    rw [cond_true]
    have h1' := of_decide_eq_true h1
    rw [bget_lt hsr h1'] at hbb
    obtain ⟨H2, hs2, t1, rfl, t3, t4⟩ := ih (m := ⟨true, true, m.gl⟩) (hs := hs) hx hsl zl sl hbb hN.gl
    obtain ⟨_, ⟨q, pq⟩, _⟩ := dropT_s zl sl hN.okl hbb
    have pm : ∀ z, z ∈ (dropT n l x).ads -> z ∈ l.ads := fun z hz => pq.mem_iff.2 (List.mem_cons_of_mem _ hz)
    have hsz2 : (dropT n l x).sz <= l.sz := by have := pq.length_eq; rw [List.length_cons, T.ads_len, T.ads_len] at this; omega
    have hc2 : H2.get .dead o = .cells (ncs l e r h) false := by rw [t4 o hN.ol]; exact hc
    have hN3 : Gn (H2.put .dead o (.cells (ncs (dropT n l x) e r h) false)) o (dropT n l x) e r h := by
     refine ⟨by rw [Tr.get_put, if_pos rfl], t3.m.put (fun h2 => hN.ol (pm _ h2)), (hN.mr.up t4 fun z hz h2 => hN.lr h2 hz).put hN.or, ?_, t3.ok, hN.okr, by omega⟩
     simp only [List.nodup_cons, List.nodup_append, List.mem_append]
     refine ⟨fun h2 => h2.elim (fun h3 => hN.ol (pm _ h3)) hN.or, t3.nd, hnd.2.2.1, fun a ha b hb2 e => ?_⟩
     subst e
     exact hN.lr (pm _ ha) hb2
    obtain ⟨H4, u1, u2, u3⟩ := cEven (m := ⟨true, true, m.gl⟩) (hs := hs2) hN3
    refine ⟨H4, hs2, ?_, rfl, u2, ?_⟩
    ·simp only [ncs] at hc hc2 u1 t1
     simp (maxSteps := 2000000) only [sG, seval, x60, stU, b60, Tryz.f60, dTV, hc, c66, h1, hc2, t1, u1, evenT]
    ·intro z hm
     simp only [T.ads, List.mem_cons, List.mem_append, not_or] at hm
     rw [u3 z (by simp only [List.mem_cons, List.mem_append, not_or]; exact ⟨hm.1, fun h2 => hm.2.1 (pm _ h2), hm.2.2⟩), Tr.get_put, if_neg hm.1, t4 z hm.2.1]
   | false =>
    rw [cond_false]
    have h1' := of_decide_eq_false h1
    cases h2 : decide (0 < rcmp x e.r) with
    | true =>
     rw [cond_true]
     have h2' := of_decide_eq_true h2
     rw [bget_gt hsr h2'] at hbb
     obtain ⟨H2, hs2, t1, rfl, t3, t4⟩ := ih (m := ⟨true, true, m.gl⟩) (hs := hs) hx hsr2 zr sr hbb hN.gr
     obtain ⟨_, ⟨q, pq⟩, _⟩ := dropT_s zr sr hN.okr hbb
     have pm : ∀ z, z ∈ (dropT n r x).ads -> z ∈ r.ads := fun z hz => pq.mem_iff.2 (List.mem_cons_of_mem _ hz)
     have hsz2 : (dropT n r x).sz <= r.sz := by have := pq.length_eq; rw [List.length_cons, T.ads_len, T.ads_len] at this; omega
     have hc2 : H2.get .dead o = .cells (ncs l e r h) false := by rw [t4 o hN.or]; exact hc
     have hN3 : Gn (H2.put .dead o (.cells (ncs l e (dropT n r x) h) false)) o l e (dropT n r x) h := by
      refine ⟨by rw [Tr.get_put, if_pos rfl], (hN.ml.up t4 fun z hz h2 => hN.lr hz h2).put hN.ol, t3.m.put (fun h2 => hN.or (pm _ h2)), ?_, hN.okl, t3.ok, by omega⟩
      simp only [List.nodup_cons, List.nodup_append, List.mem_append]
      refine ⟨fun h2 => h2.elim hN.ol (fun h3 => hN.or (pm _ h3)), hnd.2.1, t3.nd, fun a ha b hb2 e => ?_⟩
      subst e
      exact hN.lr ha (pm _ hb2)
     obtain ⟨H4, u1, u2, u3⟩ := cEven (m := ⟨true, true, m.gl⟩) (hs := hs2) hN3
     refine ⟨H4, hs2, ?_, rfl, u2, ?_⟩
     ·simp only [ncs] at hc hc2 u1 t1
      simp (maxSteps := 2000000) only [sG, seval, x60, stU, b60, Tryz.f60, dTV, hc, c66, h1, h2, hc2, t1, u1, evenT]
     ·intro z hm
      simp only [T.ads, List.mem_cons, List.mem_append, not_or] at hm
      rw [u3 z (by simp only [List.mem_cons, List.mem_append, not_or]; exact ⟨hm.1, hm.2.1, fun h2 => hm.2.2 (pm _ h2)⟩), Tr.get_put, if_neg hm.1, t4 z hm.2.2]
    | false =>
     rw [cond_false]
     cases l with
     | nil =>
      refine ⟨H, hs, ?_, rfl, hN.gr, .refl⟩
      simp only [ncs, dTV] at hc
      simp (maxSteps := 2000000) only [sG, seval, x60, stU, b60, Tryz.f60, dTV, dPN, hc, c66, h1, h2]
     | nd lo ll le lr lh =>
      cases r with
      | nil =>
       refine ⟨H, hs, ?_, rfl, hN.gl, .refl⟩
       simp only [ncs, dTV] at hc
       simp (maxSteps := 2000000) only [sG, seval, x60, stU, b60, Tryz.f60, dTV, dPN, hc, c66, h1, h2]
      | nd ro rl re rr rh =>
       obtain ⟨o', l', f, r', h', q1, q2, q3⟩ := firstN_mt hN.mr (by simp)
       simp only [q3]
       have cf := fun m hs => @callFirst m (.nd ro rl re rr rh) H hs hN.mr (by simp)
       rw [q1] at cf
       rcases firstT_es (t := .nd ro rl re rr rh) with ⟨h4, _⟩ | ⟨f', tl, h4, h5⟩
       ·cases h4
       ·rw [q3] at h4; cases h4
        have hbf : bget (T.es (.nd ro rl re rr rh)) f.r ≠ none := by rw [h5, bget_first]; simp
        have hfl : f.r.length < 9223372036854775807 := hsr2 f (by rw [h5]; exact List.mem_cons_self ..)
        have hG1 : Gt (H.put .dead o (.cells (ncs (.nd lo ll le lr lh) f (.nd ro rl re rr rh) h) false)) (.nd ro rl re rr rh) := ⟨hN.mr.put hN.or, hN.gr.nd, hN.gr.ok, hN.gr.sz⟩
        have hml : Mt (H.put .dead o (.cells (ncs (.nd lo ll le lr lh) f (.nd ro rl re rr rh) h) false)) (.nd lo ll le lr lh) := hN.ml.put hN.ol
        have hc1 : (H.put .dead o (.cells (ncs (.nd lo ll le lr lh) f (.nd ro rl re rr rh) h) false)).get .dead o = .cells (ncs (.nd lo ll le lr lh) f (.nd ro rl re rr rh) h) false := by rw [Tr.get_put, if_pos rfl]
        obtain ⟨H2, hs2, t1, rfl, t3, t4⟩ := ih (m := ⟨true, true, m.gl⟩) (hs := hs) hfl hsr2 zr sr hbf hG1
        obtain ⟨_, ⟨q, pq⟩, _⟩ := dropT_s zr sr hN.okr hbf
        have pm : ∀ z, z ∈ (dropT n (.nd ro rl re rr rh) f.r).ads -> z ∈ T.ads (.nd ro rl re rr rh) := fun z hz => pq.mem_iff.2 (List.mem_cons_of_mem _ hz)
        have hsz2 : (dropT n (.nd ro rl re rr rh) f.r).sz <= T.sz (.nd ro rl re rr rh) := by have := pq.length_eq; rw [List.length_cons, T.ads_len, T.ads_len] at this; omega
        have hc2 : H2.get .dead o = .cells (ncs (.nd lo ll le lr lh) f (.nd ro rl re rr rh) h) false := by rw [t4 o hN.or]; exact hc1
        have hN3 : Gn (H2.put .dead o (.cells (ncs (.nd lo ll le lr lh) f (dropT n (.nd ro rl re rr rh) f.r) h) false)) o (.nd lo ll le lr lh) f (dropT n (.nd ro rl re rr rh) f.r) h := by
         refine ⟨by rw [Tr.get_put, if_pos rfl], (hml.up t4 fun z hz h2 => hN.lr hz h2).put hN.ol, t3.m.put (fun h2 => hN.or (pm _ h2)), ?_, hN.okl, t3.ok, by omega⟩
         simp only [List.nodup_cons, List.nodup_append, List.mem_append]
         refine ⟨fun h2 => h2.elim hN.ol (fun h3 => hN.or (pm _ h3)), hnd.2.1, t3.nd, fun a ha b hb2 e => ?_⟩
         subst e
         exact hN.lr ha (pm _ hb2)
        obtain ⟨H4, u1, u2, u3⟩ := cEven (m := ⟨true, true, m.gl⟩) (hs := hs2) hN3
        refine ⟨H4, hs2, ?_, rfl, u2, ?_⟩
        ·generalize dropT n (.nd ro rl re rr rh) f.r = T2 at t1 u1
         simp only [ncs, dTV] at hc hc1 hc2 u1 t1 q2 cf
         simp (maxSteps := 2000000) only [sG, seval, x60, stU, b60, Tryz.f60, dTV, dPN, hc, c66, h1, h2, cf, q2, hc1, hc2, t1, u1, D, evenT]
        ·intro z hm
         have hm0 := hm
         rw [T.ads, List.mem_cons, List.mem_append] at hm
         have hz1 : z ≠ o := fun e => hm (.inl e)
         have hz2 : z ∉ T.ads (.nd lo ll le lr lh) := fun e => hm (.inr (.inl e))
         have hz3 : z ∉ T.ads (.nd ro rl re rr rh) := fun e => hm (.inr (.inr e))
         rw [u3 z (by rw [List.mem_cons, List.mem_append]; rintro (e | e | e); exact hz1 e; exact hz2 e; exact hz3 (pm _ e)), Tr.get_put, if_neg hz1, t4 z hz3, Tr.get_put, if_neg hz1]
structure BagAt (H : Tr AO) (hs B : Nat) (t : T) : Prop where
 c : H.get .dead B = .cells [t.val, .lit (.int .i64 t.sz)] false
 g : Gt H t
 lt : ∀ q ∈ t.ads, q < hs
 b : B < hs
 nb : B ∉ t.ads
 srt : Srt t.es
 sz : t.sz < 100000000
 en : ∀ e ∈ t.es, e.r.length < 1000000 /\ -1073741824 <= e.m /\ e.m <= 1073741824
theorem bmany_le {l : List En} {x : Row} (h : ∀ e ∈ l, e.r.length < 1000000 /\ -1073741824 <= e.m /\ e.m <= 1073741824) : -1073741824 <= bmany l x /\ bmany l x <= 1073741824 := by
 unfold bmany
 cases hb : bget l x with
 | none => simp
 | some e => exact (h e (List.mem_of_find?_eq_some hb)).2
theorem findT_mt {H : Tr AO} : ∀ {t : T} {x : Row} {o : Nat} {l : T} {e : En} {r : T} {h : Int}, Mt H t -> findT t x = .nd o l e r h -> H.get .dead o = .cells (ncs l e r h) false /\ o ∈ t.ads
 | .nil, x, o, l, e, r, h, _, hf => by cases hf
 | .nd p a y b k, x, o, l, e, r, h, ⟨h1, h2, h3⟩, hf => by
  unfold findT at hf
  cases c1 : decide (rcmp x y.r < 0) with
  | true =>
   rw [c1, cond_true] at hf
   obtain ⟨q1, q2⟩ := findT_mt h2 hf
   exact ⟨q1, by simp [T.ads, q2]⟩
  | false =>
   rw [c1, cond_false] at hf
   cases c2 : decide (0 < rcmp x y.r) with
   | true =>
    rw [c2, cond_true] at hf
    obtain ⟨q1, q2⟩ := findT_mt h3 hf
    exact ⟨q1, by simp [T.ads, q2]⟩
   | false =>
    rw [c2, cond_false] at hf
    cases hf
    exact ⟨h1, by simp [T.ads]⟩
theorem bpn1 {p q : Operand} {o k : Nat} : binO tab .eql 54 p q (some (.ptr o k)) (some (.lit (.pointer none))) = some (.lit (.bool false)) := rfl
theorem bpn2 {p q : Operand} : binO tab .eql 54 p q (some (.lit (.pointer none))) (some (.lit (.pointer none))) = some (.lit (.bool true)) := rfl
def dBPN := an @bpn1 @bpn2
theorem cMany {m : Md} {x : Row} {B : Nat} {t : T} {H : Tr AO} {hs hs0 : Nat} (hx : x.length < 9223372036854775807) (h : BagAt H hs0 B t) : callF tab (evw tab) m 34 [.ptr B 0, .lst .no (x.map encV)] H hs = some (.lit (.int .i64 (bmany t.es x)), H, hs) := by
 have hc := h.c
 have cf := fun m hs => @callFind m x hx t H hs h.g.m
 have hg := findT_get (x := x) h.srt
 rw [callF_in (fi := fi34) tcon rfl rfl rfl]
 unfold bmany
 rw [hg]
 cases hf : findT t x with
 | nil =>
  simp only [hf, dTV] at cf
  simp (maxSteps := 2000000) only [sG, seval, x34, stU, b34, Tryz.f34, dPN, dBPN, hc, cf]
 | nd o l e r k =>
  obtain ⟨q1, q2⟩ := findT_mt h.g.m hf
  simp only [hf, dTV] at cf
  simp (maxSteps := 2000000) only [sG, seval, x34, stU, b34, Tryz.f34, dPN, dBPN, hc, cf, q1]
theorem cLen {m : Md} {B : Nat} {t : T} {H : Tr AO} {hs hs0 : Nat} (h : BagAt H hs0 B t) : callF tab (evw tab) m 39 [.ptr B 0] H hs = some (.lit (.int .i64 t.sz), H, hs) := by
 have hc := h.c
 rw [callF_in (fi := fi39) tcon rfl rfl rfl]
 simp (maxSteps := 2000000) only [sG, seval, x39, stU, b39, Tryz.f39, dBPN, hc]
def fewI (n : Int) : Bool := decide (-1073741824 <= n) && decide (n <= 1073741824)
theorem cFew {m : Md} {n : Int} {H : Tr AO} {hs : Nat} : callF tab (evw tab) m 44 [.lit (.int .i64 n)] H hs = some (.lit (.bool (fewI n)), H, hs) := by
 refine callF_own (H1 := H) tcon rfl rfl rfl (bs := [.lit (.int .i64 n)]) rfl rfl ?_
 refine own_ret ?_
 unfold fewI
 cases h1 : decide (-1073741824 <= n) <;> cases h2 : decide (n <= 1073741824) <;> (simp only [sG, seval, x44, stU, b44, Tryz.f44, nrms, nrm, h1, h2]; rfl)
def bsum (l : List En) (x : Row) (n : Int) : Int × Bool := bif decide (n < -2147483648) || decide (2147483648 < n) then (0, false) else (bmany l x + n, fewI (bmany l x + n))
theorem cSum {m : Md} {x : Row} {n : Int} {B : Nat} {t : T} {H : Tr AO} {hs hs0 : Nat} (hx : x.length < 9223372036854775807) (h : BagAt H hs0 B t) : callF tab (evw tab) m 45 [.ptr B 0, .lst .no (x.map encV), .lit (.int .i64 n)] H hs = some (.tup [.lit (.int .i64 (bsum t.es x n).1), .lit (.bool (bsum t.es x n).2)], H, hs) := by
 have c1 := fun m hs => @cMany m x B t H hs hs0 hx h
 have c2 := fun m n H hs => @cFew m n H hs
 have hb := bmany_le (x := x) h.en
 rw [callF_in (fi := fi45) tcon rfl rfl rfl]
 unfold bsum
 generalize bmany t.es x = b at c1 hb
 cases h1 : decide (n < -2147483648) with
 | true => simp (maxSteps := 2000000) only [sG, seval, x45, stU, b45, Tryz.f45, c1, h1]
 | false =>
  cases h2 : decide (2147483648 < n) with
  | true => simp (maxSteps := 2000000) only [sG, seval, x45, stU, b45, Tryz.f45, c1, h1, h2]
  | false =>
   have h1' := of_decide_eq_false h1
   have h2' := of_decide_eq_false h2
   have hw : IntKind.i64.wrap (b + n) = b + n := wrap_i64 (by omega) (by omega)
   simp (maxSteps := 2000000) only [sG, seval, x45, stU, b45, Tryz.f45, c1, c2, h1, h2, hw]
def v0 : Vl := ⟨0, false, 0, []⟩
def veq (a b : Vl) : Bool := decide (a.k = b.k) && (a.b == b.b && (decide (a.n = b.n) && a.s == b.s))
theorem cVeq {p q : Operand} {a b : Vl} : binO tab .eql 47 p q (some (.agg a.cs)) (some (.agg b.cs)) = some (.lit (.bool (veq a b))) := by
 have key : eqv tab 20 47 (.agg a.cs) (.agg b.cs) = (match (some (decide (a.k = b.k)) : Option Bool) with
   | some true => (match (some (a.b == b.b) : Option Bool) with
    | some true => (match (some (decide (a.n = b.n)) : Option Bool) with
     | some true => (match (some (a.s == b.s) : Option Bool) with
      | some true => some true
      | some false => some false
      | none => none)
     | some false => some false
     | none => none)
    | some false => some false
    | none => none)
   | some false => some false
   | none => none) := rfl
 have h2 : eqv tab 20 47 (.agg a.cs) (.agg b.cs) = some (veq a b) := by
  rw [key]
  unfold veq
  cases decide (a.k = b.k) <;> cases (a.b == b.b) <;> cases decide (a.n = b.n) <;> cases (a.s == b.s) <;> rfl
 have h3 : binV tab .eql 47 (.agg a.cs) (.agg b.cs) = some (.lit (.bool (veq a b))) := by
  show (match eqv tab 20 47 (.agg a.cs) (.agg b.cs) with | some b => some (AV.lit (.bool b)) | none => none) = _
  rw [h2]
 unfold binO
 simp only [h3]
theorem cNull {m : Md} {H : Tr AO} {hs : Nat} : callF tab (evw tab) m 92 [] H hs = some (encV v0, H, hs) := by
 refine callF_iso tcon rfl rfl rfl ?_
 refine iso_ret ?_
 simp only [sG, seval, x92, stU, b92, Tryz.f92, ldv, tt47, isAggD]
 rfl
theorem cBool {m : Md} {b : Bool} {H : Tr AO} {hs : Nat} : callF tab (evw tab) m 93 [.lit (.bool b)] H hs = some (encV ⟨1, b, 0, []⟩, H, hs) := by
 refine callF_iso tcon rfl rfl rfl ?_
 refine iso_ret ?_
 simp only [sG, seval, x93, stU, b93, Tryz.f93, ldv, tt47, isAggD]
 rfl
theorem cInt {m : Md} {n : Int} {H : Tr AO} {hs : Nat} : callF tab (evw tab) m 94 [.lit (.int .i64 n)] H hs = some (encV ⟨2, false, n, []⟩, H, hs) := by
 refine callF_iso tcon rfl rfl rfl ?_
 refine iso_ret ?_
 simp only [sG, seval, x94, stU, b94, Tryz.f94, ldv, tt47, isAggD]
 rfl
theorem cText {m : Md} {s : List UInt8} {H : Tr AO} {hs : Nat} : callF tab (evw tab) m 95 [.str s] H hs = some (encV ⟨3, false, 0, s⟩, H, hs) := by
 refine callF_iso tcon rfl rfl rfl ?_
 refine iso_ret ?_
 simp only [sG, seval, x95, stU, b95, Tryz.f95, ldv, tt47, isAggD]
 rfl
def vright (v : Vl) : Bool := bif decide (v.k = 0) then veq v v0 else bif decide (v.k = 1) then veq v ⟨1, v.b, 0, []⟩ else bif decide (v.k = 2) then veq v ⟨2, false, v.n, []⟩ else bif decide (v.k = 3) then veq v ⟨3, false, 0, v.s⟩ && decide ((v.s.length : Int) <= 60) else false
theorem eqRight {m : Md} {v : Vl} : iso tab fi80 m [encV v] = some (.lit (.bool (vright v))) := by
 have D := d80
 simp only [stD, stC, List.cons.injEq, b80, Tryz.f80] at D
 refine iso_ret ?_
 unfold vright
 have c0 := fun m H hs => @cNull m H hs
 have c1 := fun m H hs => @cBool m v.b H hs
 have c2 := fun m H hs => @cInt m v.n H hs
 have c3 := fun m H hs => @cText m v.s H hs
 have e0 := fun p q => @cVeq p q v v0
 have e1 := fun p q => @cVeq p q v ⟨1, v.b, 0, []⟩
 have e2 := fun p q => @cVeq p q v ⟨2, false, v.n, []⟩
 have e3 := fun p q => @cVeq p q v ⟨3, false, 0, v.s⟩
 simp only [encV, Vl.cs, v0] at c0 c1 c2 c3 e0 e1 e2 e3
 cases h0 : decide (v.k = 0) with
 | true => simp (maxSteps := 2000000) only [sG, seval, x80, stU, b80, Tryz.f80, encV, Vl.cs, v0, c0, e0, h0, D]
 | false =>
  cases h1 : decide (v.k = 1) with
  | true => simp (maxSteps := 2000000) only [sG, seval, x80, stU, b80, Tryz.f80, encV, Vl.cs, c1, e1, h0, h1, D]
  | false =>
   cases h2 : decide (v.k = 2) with
   | true => simp (maxSteps := 2000000) only [sG, seval, x80, stU, b80, Tryz.f80, encV, Vl.cs, c2, e2, h0, h1, h2, D]
   | false =>
    cases h3 : decide (v.k = 3) with
    | true =>
     cases h4 : veq v ⟨3, false, 0, v.s⟩ with
     | true =>
      simp only [h4] at e3
      simp (maxSteps := 2000000) only [sG, seval, x80, stU, b80, Tryz.f80, encV, Vl.cs, c3, e3, h0, h1, h2, h3, D]
     | false =>
      simp only [h4] at e3
      simp (maxSteps := 2000000) only [sG, seval, x80, stU, b80, Tryz.f80, encV, Vl.cs, c3, e3, h0, h1, h2, h3, D]
    | false => simp (maxSteps := 2000000) only [sG, seval, x80, stU, b80, Tryz.f80, encV, Vl.cs, h0, h1, h2, h3]
theorem cRight {m : Md} {v : Vl} {H : Tr AO} {hs : Nat} : callF tab (evw tab) m 80 [encV v] H hs = some (.lit (.bool (vright v)), H, hs) := callF_iso tcon rfl rfl rfl eqRight
theorem cRight1 {m : Md} {v : Vl} {H : Tr AO} {hs : Nat} : callF tab (evw tab) m 79 [.agg v.cs] H hs = some (.lit (.bool (!vright v)), H.put .dead hs (.cells v.cs false), hs + 1) := by
 rw [callF_in (fi := fi79) tcon rfl rfl rfl]
 have c := fun m H hs => @cRight m v H hs
 simp only [encV, Vl.cs] at c
 simp only [sG, seval, x79, stU, b79, Tryz.f79, c]
def vidx : List Vl -> Nat -> Int
 | [], _ => -1
 | v :: l, i => bif vright v then vidx l (i + 1) else (i : Int)
theorem vidx_all : ∀ {l : List Vl} {i : Nat}, decide (0 <= vidx l i) = !l.all vright
 | [], i => rfl
 | v :: l, i => by
  rw [vidx, List.all_cons]
  cases h : vright v with
  | false => rw [cond_false, decide_eq_true_iff.2 (by omega)]; rfl
  | true => rw [cond_true, vidx_all (l := l)]; rfl
theorem loopV {l : Row} {gl : Tr (Option AV)} (hl : l.length < 1000000) : ∀ (k i : Nat) (t : Tr AV) (H : Tr AO) (hs : Nat), i + k = l.length ->
  t.get .any 0 = .lst .no (l.map encV) -> t.get .any 1 = .fn (.func 79) [] [] -> t.get .any 7 = .lit (.int .i64 l.length) -> t.get .any 8 = .lit (.int .i64 i) ->
  RetO tab fi91 (W tab none (fin tab fi91) (lpc fi91 0) (lpk fi91 0) ⟨t, 19, H, hs, [], ⟨true, true, gl⟩⟩) (.lit (.int .i64 (vidx (l.drop i) i))) := by
 simp only [stU, stC, b91, Tryz.f91]
 intro k
 induction k with
 | zero =>
  intro i t H hs hi a0 a1 a7 a8
  have e1 : decide ((i : Int) < (l).length) = false := dcF (by omega)
  rw [W_loop, List.drop_of_length_le (by omega)]
  simp only [sG, seval, x91, a7, a8, e1]
  rfl
 | succ k ih =>
  intro i t H hs hi a0 a1 a7 a8
  have hlt : i < (l).length := by omega
  obtain ⟨v, hv, e1, e3, e4, e6, e7⟩ := atS hlt
  have e5 := wrap_succ (i := i) (by omega)
  rw [W_loop, e6, vidx]
  have hC := fun m H hs => @cRight1 m v H hs
  simp only [Vl.cs] at hC
  cases h1 : vright v with
  | false =>
   simp only [h1] at hC
   simp only [sG, seval, x91, encV, Vl.cs, a0, a1, a7, a8, e1, e3, e4, List.getElem?_map, Int.toNat_natCast, hC]
   rfl
  | true =>
   simp only [h1] at hC
   simp only [sG, seval, encV, Vl.cs, a0, a1, a7, a8, e1, e3, e4, e5, List.getElem?_map, Int.toNat_natCast, hC]
   apply ih (i + 1) _ _ _ (by omega)
   all_goals simp only [sG, seval, a0, a1, a7]
theorem cIdxV {m : Md} {l : Row} {H : Tr AO} {hs : Nat} (hl : l.length < 1000000) : callF tab (evw tab) m 91 [.lst .no (l.map encV), .fn (.func 79) [] []] H hs = some (.lit (.int .i64 (vidx l 0)), H, hs) := by
 refine callF_own (H1 := H) tcon rfl rfl rfl (bs := [.lst .no (l.map encV), .fn (.func 79) [] []]) (by simp only [sG, seval, dBN]) (by simp only [sG, seval, dBN]) ?_
 simp only [sG, seval, dBN]
 refine own_ret ?_
 have L := @loopV l m.gl hl l.length 0
 simp only [stU, stC, b91, Tryz.f91] at L
 simp only [sG, seval, x91, stU, b91, Tryz.f91, List.length_map]
 have L2 := fun t H hs => L t H hs (by simp)
 apply L2
 all_goals simp only [sG, seval] <;> rfl
theorem cAnyV {m : Md} {l : Row} {H : Tr AO} {hs : Nat} (hl : l.length < 1000000) : callF tab (evw tab) m 78 [.lst .no (l.map encV), .fn (.func 79) [] []] H hs = some (.lit (.bool (!l.all vright)), H, hs) := by
 refine callF_own (H1 := H) tcon rfl rfl rfl (bs := [.lst .no (l.map encV), .fn (.func 79) [] []]) (by simp only [sG, seval, dBN]) (by simp only [sG, seval, dBN]) ?_
 simp only [sG, seval, dBN]
 refine own_ret ?_
 have c := fun m H hs => @cIdxV m l H hs hl
 have h2 := @vidx_all l 0
 simp only [sG, seval, x78, stU, b78, Tryz.f78, c, h2]
 rfl
def rright (r : Row) : Bool := decide ((r.length : Int) <= 40) && r.all vright
theorem cRowRight {m : Md} {tk : ATk} {r : Row} {H : Tr AO} {hs : Nat} (hl : r.length < 1000000) : callF tab (evw tab) m 58 [.lst tk (r.map encV)] H hs = some (.lit (.bool (rright r)), H, hs) := by
 refine callF_iso tcon rfl rfl (by simp only [sG, seval, dBN]) ?_
 simp only [sG, seval, dBN]
 refine iso_ret ?_
 have c := fun m H hs => @cAnyV m r H hs hl
 unfold rright
 cases h1 : decide ((r.length : Int) <= 40) with
 | false => simp (maxSteps := 2000000) only [sG, seval, x58, stU, b58, Tryz.f58, h1, List.length_map]
 | true =>
  cases h2 : r.all vright with
  | true =>
   simp only [h2] at c
   simp (maxSteps := 2000000) only [sG, seval, x58, stU, b58, Tryz.f58, c, h1, List.length_map]
  | false =>
   simp only [h2] at c
   simp (maxSteps := 2000000) only [sG, seval, x58, stU, b58, Tryz.f58, c, h1, List.length_map]
def badd (l : List En) (r : Row) (n : Int) : List En × Int :=
 bif rright r then (bif (bsum l r n).2 then (bset l r (bsum l r n).1, 0) else (l, 10)) else (l, 2)
theorem fewI_iff {n : Int} : fewI n = true ↔ -1073741824 <= n /\ n <= 1073741824 := by unfold fewI; simp
theorem bsum_few {l : List En} {r : Row} {n : Int} (h : (bsum l r n).2 = true) : -1073741824 <= (bsum l r n).1 /\ (bsum l r n).1 <= 1073741824 := by
 unfold bsum at h ⊢
 cases hc : decide (n < -2147483648) || decide (2147483648 < n) with
 | true => rw [hc] at h; cases h
 | false => rw [hc] at h; exact fewI_iff.1 h
theorem bset_none {l : List En} {r : Row} (h : bget l r = none) (hs : Srt l) : bset l r 0 = l := by
 induction l with
 | nil => rfl
 | cons e l ih =>
  obtain ⟨h4, h5⟩ := hs.cons
  rw [bget_cons] at h
  unfold bset
  cases h1 : decide (rcmp e.r r < 0) with
  | true =>
   have h2 : decide (rcmp e.r r = 0) = false := by have := of_decide_eq_true h1; rw [decide_eq_false_iff_not]; omega
   rw [h2, cond_false] at h
   rw [cond_true, ih h h4]
  | false =>
   cases h2 : decide (rcmp e.r r = 0) with
   | true => rw [h2] at h; cases h
   | false => rfl
theorem bset_en {l : List En} {r : Row} {m : Int} (h : ∀ e ∈ l, e.r.length < 1000000 /\ -1073741824 <= e.m /\ e.m <= 1073741824) (hr : r.length < 1000000) (h1 : -1073741824 <= m) (h2 : m <= 1073741824) : ∀ e ∈ bset l r m, e.r.length < 1000000 /\ -1073741824 <= e.m /\ e.m <= 1073741824 := by
 intro e he
 rcases bset_row e he with he | ⟨q1, _, q2 | ⟨y, hy, q3, _⟩⟩
 ·exact h e he
 ·rw [q1, q2]; exact ⟨hr, h1, h2⟩
 ·rw [q1, q3]; exact ⟨(h y hy).1, h1, h2⟩
structure AddS (H : Tr AO) (hs B : Nat) (t : T) (l : List En) (H' : Tr AO) (hs' : Nat) (t' : T) : Prop where
 es : t'.es = l
 at_ : BagAt H' hs' B t'
 le : hs <= hs'
 up : Upb H H' (B :: t.ads) hs
 ad : ∀ q ∈ t'.ads, q ∈ t.ads ∨ hs <= q
theorem BagAt.same {H : Tr AO} {hs hs0 B : Nat} {t : T} (h : BagAt H hs0 B t) (hh : hs0 <= hs) : AddS H hs B t t.es H hs t :=
 ⟨rfl, ⟨h.c, h.g, fun q hq => by have := h.lt q hq; omega, by have := h.b; omega, h.nb, h.srt, h.sz, h.en⟩, Nat.le_refl _, fun _ _ _ => rfl, fun q hq => .inl hq⟩
theorem cAdd {m : Md} {r : Row} {n : Int} {B : Nat} {t : T} {H : Tr AO} {hs : Nat} (hr : r.length < 1000000) (h : BagAt H hs B t) (hz : t.sz + 1 < 100000000) :
  ∃ H' hs' t', callF tab (evw tab) m 36 [.ptr B 0, .lst .no (r.map encV), .lit (.int .i64 n)] H hs = some (.lit (.int .i64 (badd t.es r n).2), H', hs') /\ AddS H hs B t (badd t.es r n).1 H' hs' t' := by
 have D := d36
 simp only [stD, stC, List.cons.injEq, b36, Tryz.f36] at D
 have hc := h.c
 have hr9 : r.length < 9223372036854775807 := by omega
 have c1 := fun m H hs => @cRowRight m .no r H hs hr
 have c2 := fun m hs1 => @cSum m r n B t H hs1 hs hr9 h
 have c3 := fun m hs => @callFind m r hr9 t H hs h.g.m
 have hg := findT_get (x := r) h.srt
 have hbz := h.sz
 rw [callF_in (fi := fi36) tcon rfl rfl rfl]
 unfold badd
 cases h1 : rright r with
 | false =>
  simp only [h1] at c1
  refine ⟨H, hs, t, ?_, h.same (Nat.le_refl _)⟩
  simp (maxSteps := 2000000) only [sG, seval, x36, stU, b36, Tryz.f36, dBPN, c1]
 | true =>
  simp only [h1] at c1
  rw [cond_true]
  cases h2 : (bsum t.es r n).2 with
  | false =>
   simp only [h2] at c2
   refine ⟨H, hs, t, ?_, h.same (Nat.le_refl _)⟩
   simp (maxSteps := 2000000) only [sG, seval, x36, stU, b36, Tryz.f36, dBPN, hc, c1, c2, c3]
  | true =>
   obtain ⟨b1, b2⟩ := bsum_few h2
   simp only [h2] at c2
   rw [cond_true]
   generalize (bsum t.es r n).1 = s at c2 b1 b2
   cases hf : findT t r with
   | nil =>
    rw [hf] at hg
    simp only [hf, dTV] at c3
    cases h4 : decide (s = 0) with
    | true =>
     have := of_decide_eq_true h4
     subst this
     refine ⟨H, hs, t, ?_, ?_⟩
     ·simp (maxSteps := 2000000) only [sG, seval, x36, stU, b36, Tryz.f36, dPN, dBPN, hc, c1, c2, c3]
     ·rw [bset_none hg h.srt]; exact h.same (Nat.le_refl _)
    | false =>
     have h4' := of_decide_eq_false h4
     have c4 := fun m H hs => @call47 m .no r H hs hr
     obtain ⟨q, H2, hs2, t1, t2, t3, t4, t5⟩ := cPut (e := ⟨r, s⟩) hr9 (m := ⟨true, true, m.gl⟩) (hs := hs) h.g (by omega) h.lt
     have pm : ∀ z, z ∈ (putT t ⟨r, s⟩ q).ads ↔ z = q ∨ z ∈ t.ads := fun z => by rw [putT_ads.mem_iff, List.mem_cons]
     have hBq : B ∉ (putT t ⟨r, s⟩ q).ads := by rw [pm]; rintro (e | e); have := h.b; omega; exact h.nb e
     have hc2 : H2.get .dead B = .cells [t.val, .lit (.int .i64 t.sz)] false := by rw [t5 B h.b h.nb]; exact hc
     have hsz2 : (putT t ⟨r, s⟩ q).sz = t.sz + 1 := by rw [<- T.ads_len, putT_ads.length_eq, List.length_cons, T.ads_len]
     have hes : (putT t ⟨r, s⟩ q).es = bset t.es r s := putT_es h.srt hg h4'
     have hw := wrap_succ (i := t.sz) (by omega)
     refine ⟨(H2.put .dead B (.cells [(putT t ⟨r, s⟩ q).val, .lit (.int .i64 t.sz)] false)).put .dead B (.cells [(putT t ⟨r, s⟩ q).val, .lit (.int .i64 (t.sz + 1 : Nat))] false), hs2, putT t ⟨r, s⟩ q, ?_, hes, ?_, by omega, ?_, ?_⟩
     ·simp only at t1
      simp only [encR] at c4
      simp (maxSteps := 2000000) only [sG, seval, x36, stU, b36, Tryz.f36, dTV, dPN, dBPN, hc, hc2, c1, c2, c3, c4, h4, t1, hw, bares_V, D]
     ·refine ⟨by rw [Tr.get_put, if_pos rfl, hsz2], ⟨(t4.m.put hBq).put hBq, t4.nd, t4.ok, t4.sz⟩, ?_, by have := h.b; omega, hBq, by rw [hes]; exact bset_srt h.srt, by omega, by rw [hes]; exact bset_en h.en hr b1 b2⟩
      intro z hz
      rcases (pm z).1 hz with rfl | hz
      ·exact t3
      ·have := h.lt z hz; omega
     ·intro z hz hm
      simp only [List.mem_cons, not_or] at hm
      rw [Tr.get_put, if_neg hm.1, Tr.get_put, if_neg hm.1, t5 z hz hm.2]
     ·intro z hz
      rcases (pm z).1 hz with rfl | hz
      ·exact .inr t2
      ·exact .inl hz
   | nd o l e r' k =>
    rw [hf] at hg
    simp only [hf, dTV] at c3
    obtain ⟨q1, q2⟩ := findT_mt h.g.m hf
    have hbn : bget t.es r ≠ none := by rw [hg]; simp
    have hoB : o ≠ B := fun e => h.nb (e ▸ q2)
    cases h4 : decide (s = 0) with
    | true =>
     have := of_decide_eq_true h4
     subst this
     obtain ⟨H2, hs2, t1, rfl, t3, t4⟩ := @cDrop t.sz t r ⟨true, true, m.gl⟩ H hs hr9 (fun e he => by have := (h.en e he).1; omega) (Nat.le_refl _) h.srt hbn h.g
     obtain ⟨q3, ⟨q, pq⟩, _⟩ := dropT_s (Nat.le_refl _) h.srt h.g.ok hbn
     have pm : ∀ z, z ∈ (dropT t.sz t r).ads -> z ∈ t.ads := fun z hz => pq.mem_iff.2 (List.mem_cons_of_mem _ hz)
     have hsz2 : (dropT t.sz t r).sz + 1 = t.sz := by have := pq.length_eq; rw [List.length_cons, T.ads_len, T.ads_len] at this; omega
     have hBq : B ∉ (dropT t.sz t r).ads := fun e => h.nb (pm _ e)
     have hc2 : H2.get .dead B = .cells [t.val, .lit (.int .i64 t.sz)] false := by rw [t4 B h.nb]; exact hc
     have hw : IntKind.i64.wrap ((t.sz : Int) - 1) = ((dropT t.sz t r).sz : Int) := by rw [wrap_i64 (by omega) (by omega)]; omega
     refine ⟨(H2.put .dead B (.cells [(dropT t.sz t r).val, .lit (.int .i64 t.sz)] false)).put .dead B (.cells [(dropT t.sz t r).val, .lit (.int .i64 (dropT t.sz t r).sz)] false), hs2, dropT t.sz t r, ?_, q3, ?_, Nat.le_refl _, ?_, fun z hz => .inl (pm z hz)⟩
     ·generalize dropT t.sz t r = t2 at t1 hw
      simp (maxSteps := 2000000) only [sG, seval, x36, stU, b36, Tryz.f36, dTV, dPN, dBPN, hc, hc2, c1, c2, c3, t1, hw]
     ·exact ⟨by rw [Tr.get_put, if_pos rfl], ⟨(t3.m.put hBq).put hBq, t3.nd, t3.ok, t3.sz⟩, fun z hz => h.lt z (pm z hz), h.b, hBq, by rw [q3]; exact bset_srt h.srt, by omega, by rw [q3]; exact bset_en h.en hr b1 b2⟩
     ·intro z hz hm
      simp only [List.mem_cons, not_or] at hm
      rw [Tr.get_put, if_neg hm.1, Tr.get_put, if_neg hm.1, t4 z hm.2]
    | false =>
     have h4' := of_decide_eq_false h4
     obtain ⟨_, hM⟩ := setM_mt (s := s) h.g.m h.g.nd hf
     have hes : (setM t r s).es = bset t.es r s := setM_es h.srt hbn h4'
     refine ⟨H.put .dead o (.cells (ncs l ⟨e.r, s⟩ r' k) false), hs, setM t r s, ?_, hes, ?_, Nat.le_refl _, ?_, fun z hz => by rw [setM_ads] at hz; exact .inl hz⟩
     ·simp (maxSteps := 2000000) only [sG, seval, x36, stU, b36, Tryz.f36, dPN, dBPN, hc, c1, c2, c3, h4, q1, ncs]
     ·exact ⟨by rw [Tr.get_put, if_neg hoB.symm, setM_val, setM_sz]; exact hc, ⟨hM, by rw [setM_ads]; exact h.g.nd, setM_ok h.g.ok, by rw [setM_sz]; exact h.g.sz⟩, fun z hz => by rw [setM_ads] at hz; exact h.lt z hz, h.b, by rw [setM_ads]; exact h.nb, by rw [hes]; exact bset_srt h.srt, by rw [setM_sz]; exact h.sz, by rw [hes]; exact bset_en h.en hr b1 b2⟩
     ·intro z hz hm
      simp only [List.mem_cons, not_or] at hm
      rw [Tr.get_put, if_neg]
      rintro rfl; exact hm.2 q2
theorem cNew {m : Md} {H : Tr AO} {hs : Nat} : callF tab (evw tab) m 14 [] H hs = some (.ptr hs 0, H.put .dead hs (.cells [.lit (.pointer none), .lit (.int .i64 0)] false), hs + 1) := by
 rw [callF_in (fi := fi14) tcon rfl rfl rfl]
 simp only [sG, seval, x14, stU, b14, Tryz.f14]
theorem bagNew {H : Tr AO} {hs : Nat} : BagAt (H.put .dead hs (.cells [.lit (.pointer none), .lit (.int .i64 0)] false)) (hs + 1) hs .nil :=
 ⟨by rw [Tr.get_put, if_pos rfl]; rfl, ⟨trivial, List.nodup_nil, trivial, by decide⟩, fun q h => (by cases h), Nat.lt_succ_self _, fun h => (by cases h), List.Pairwise.nil, by decide, fun e h => (by cases h)⟩
theorem cAll {m : Md} {t : T} {H : Tr AO} {hs : Nat} : callF tab (evw tab) m 46 [t.val] H hs = some (.fn (.func 69) [] [.ptr hs 0], H.put .dead hs (.cells [t.val] false), hs + 1) := by
 rw [callF_in (fi := fi46) tcon rfl rfl rfl]
 simp only [sG, seval, x46, stU, b46, Tryz.f46, dTV]
theorem enter0 {s : AS} : enterF none s = some (s.hs, s.heap.put .dead s.hs (.defd true), s.hs + 1, s.hs :: s.defs) := rfl
def rgs : Code -> List (Code × Code)
 | .seq a b => rgs a ++ rgs b
 | .cond _ a b => rgs a ++ rgs b
 | .block _ a => rgs a
 | .loop a => rgs a
 | .scope a => rgs a
 | .rangeFunc _ _ a b => (a, b) :: rgs b
 | _ => []
def rgA (fi : FI) (n : Nat) : Code := match (rgs fi.body)[n]? with | some p => p.1 | none => .skip
def rgB (fi : FI) (n : Nat) : Code := match (rgs fi.body)[n]? with | some p => p.2 | none => .skip
theorem appE {H : Tr AO} {hs : Nat} {A : AV} {es : List En} (e : En) (h : Acc H hs 2 A (es.map encE)) (hl : es.length < 100000000) : appendO H hs true true 2 32 (some A) (some (.lst .full [.agg [.lst .no (e.r.map encV), .lit (.int .i64 e.m)]])) = some (.lst (.room hs) ((es ++ [e]).map encE), accH H hs 2 A, hs + 1) := accApp e h rfl (by omega)
theorem Acc.get2 {H : Tr AO} {hs sz : Nat} {A : AV} {es : List AV} (h : Acc H hs sz A es) {o : Nat} (ho : o < hs) (hr : ∀ l, A ≠ .lst (.room o) l) : (accH H hs sz A).get .dead o = H.get .dead o := by
 rcases h with ⟨_, rfl⟩ | ⟨r, rfl, _, _⟩
 ·simp only [accH, Tr.get_put]
  rw [if_neg (by omega)]
 ·simp only [accH, Tr.get_put]
  rw [if_neg (by omega), if_neg (by rintro rfl; exact hr _ rfl)]
theorem rowRound {g : Nat -> AV} {a3 y d o : Nat} {H : Tr AO} {hs : Nat} {A : AV} {es : List En} {l : T} {e : En} {r : T} {k : Int} {gl : Tr (Option AV)} (g3 : g 3 = .ptr a3 0)
  (hy : H.get .dead y = .loop .ready none ((List.range 29).map g) #[12] (rgA fi22 0) (rgB fi22 0) d true) (h3 : H.get .dead a3 = .cells [A] false) (hA : Acc H hs 2 A (es.map encE)) (hc : H.get .dead o = .cells (ncs l e r k) false)
  (he : e.r.length < 1000000) (hl : es.length < 100000000) (l1 : a3 < hs) (l2 : y < hs) (l3 : o < hs) (n1 : a3 ≠ y) :
  ∃ H', rnd tab ⟨true, true, gl⟩ y [.ptr o 0] H hs (H.get .dead y) = some (.lit (.bool true), H', hs + 1) /\ H'.get .dead y = H.get .dead y /\
   (H'.get .dead a3 = .cells [.lst (.room hs) ((es ++ [e]).map encE)] false /\ Acc H' (hs + 1) 2 (.lst (.room hs) ((es ++ [e]).map encE)) ((es ++ [e]).map encE)) /\ ∀ q, q < hs -> q ≠ y -> q ≠ a3 -> (∀ l, A ≠ .lst (.room q) l) -> H'.get .dead q = H.get .dead q := by
 have D := d22
 simp only [stD, stC, List.cons.injEq, b22, Tryz.f22] at D
 have hy0 := hy
 simp only [rgA, rgB, rgs, stU, stC, b22, Tryz.f22] at hy
 have hoy : o ≠ y := fun e => by rw [e, hy] at hc; cases hc
 have ho3 : o ≠ a3 := fun e => by
  rw [e, h3] at hc; simp only [AO.cells.injEq, ncs, List.cons.injEq] at hc; exact absurd hc.1.2 (by simp)
 have c47 := fun m H hs => @call47 m .no e.r H hs he
 simp only [encR] at c47
 simp only [ncs] at hc
 have f1 : (a3 = y) = False := eq_false n1
 have f2 : (y = a3) = False := eq_false n1.symm
 have f3 : (o = y) = False := eq_false hoy
 have f4 : (y = o) = False := eq_false hoy.symm
 have hS : ∀ X, Acc (H.put .dead y X) hs 2 A (es.map encE) := fun X => hA.set (by rw [hy]; rfl)
 have hP := fun X => @appE (H.put .dead y X) hs A es e (hS X) hl
 have hg : ∀ X q, q < hs -> q ≠ y -> (H.get .dead q).isRoom = false -> (accH (H.put .dead y X) hs 2 A).get .dead q = H.get .dead q := fun X q h1 h2 h5 => by
  have e1 : (H.put .dead y X).get .dead q = H.get .dead q := by rw [Tr.get_put, if_neg h2]
  rw [(hS X).get h1 (by rw [e1]; exact h5), e1]
 have hg3 : ∀ X, (accH (H.put .dead y X) hs 2 A).get .dead a3 = .cells [A] false := fun X => by rw [hg X a3 l1 n1 (by rw [h3]; rfl), h3]
 have hgy : ∀ st p tm ps a b d' lm, (accH (H.put .dead y (.loop st p tm ps a b d' lm)) hs 2 A).get .dead y = .loop st p tm ps a b d' lm := fun st p tm ps a b d' lm => by
  have e1 : (H.put .dead y (.loop st p tm ps a b d' lm)).get .dead y = .loop st p tm ps a b d' lm := by rw [Tr.get_put, if_pos rfl]
  rw [(hS _).get l2 (by rw [e1]; rfl), e1]
 have E : rnd tab ⟨true, true, gl⟩ y [.ptr o 0] H hs (H.get .dead y) = some (.lit (.bool true), ((accH (H.put .dead y (.loop .busy none ((List.range 29).map g) #[12] (rgA fi22 0) (rgB fi22 0) d true)) hs 2 A).put .dead a3 (.cells [.lst (.room hs) ((es ++ [e]).map encE)] false)).put .dead y (.loop .ready none ((List.range 29).map g) #[12] (rgA fi22 0) (rgB fi22 0) d true), hs + 1) := by
  simp only [rgA, rgB, rgs, stU, stC, b22, Tryz.f22]
  rw [hy]
  simp (maxSteps := 2000000) only [sGA, seval, stU, rnd, rA, rB, rnd_get, rnd_len, List.size_toArray, List.zip_cons_cons, List.zip_nil_right, g3, hy, h3, hc, c47, bares_V, f1, f2, f3, hP, hg3, hgy, D]
 refine ⟨_, E, ?_, ⟨by rw [Tr.get_put, if_neg n1, Tr.get_put, if_pos rfl], ?_⟩, ?_⟩
 ·rw [Tr.get_put, if_pos rfl, hy0]
 ·refine (Acc.set (Acc.set accN ?_) ?_)
  ·rw [hg3]; rfl
  ·rw [Tr.get_put, if_neg n1.symm, hgy]; rfl
 ·intro q q1 q2 q3 q4
  rw [Tr.get_put, if_neg q2, Tr.get_put, if_neg q3, (hS _).get2 q1 q4, Tr.get_put, if_neg q2]
theorem cWalk2 {y : Nat} {T0 : T} {Inv : List En -> Tr AO -> Nat -> Prop} {gl : Tr (Option AV)} (hM : ∀ es H hs, Inv es H hs -> Mt H T0)
  (hY : ∀ es H hs o l e r k, Inv es H hs -> H.get .dead o = .cells (ncs l e r k) false -> o ∈ T0.ads -> (∃ p, T0.es = es ++ e :: p) -> ∃ H' hs', rnd tab ⟨true, true, gl⟩ y [.ptr o 0] H hs (H.get .dead y) = some (.lit (.bool true), H', hs') /\ Inv (es ++ [e]) H' hs') :
  ∀ (t : T) (m : Md) (es : List En) (H : Tr AO) (hs : Nat), m.gl = gl -> (∀ H, Mt H T0 -> Mt H t) -> (∀ q ∈ t.ads, q ∈ T0.ads) -> (∃ p, T0.es = es ++ t.es ++ p) -> Inv es H hs ->
  ∃ H' hs', callF tab (evw tab) m 70 [t.val, .yld y] H hs = some (.lit (.bool true), H', hs') /\ Inv (es ++ t.es) H' hs' := by
 intro t
 induction t with
 | nil =>
  intro m es H hs hm _ _ _ hI
  refine ⟨H, hs, ?_, by simpa [T.es] using hI⟩
  rw [callF_in (fi := fi70) tcon rfl rfl rfl]
  simp (maxSteps := 2000000) only [sG, seval, x70, stU, b70, Tryz.f70, dTV, dPN]
 | nd o l e r k ihl ihr =>
  intro m es H hs hm hS hA hP hI
  obtain ⟨p, hP⟩ := hP
  simp only [T.es] at hP
  have hc := (hS H (hM _ _ _ hI)).1
  obtain ⟨H1, hs1, t1, i1⟩ := ihl ⟨true, true, m.gl⟩ es H hs hm (fun H h => (hS H h).2.1) (fun q hq => hA q (by simp [T.ads, hq])) ⟨e :: r.es ++ p, by rw [hP]; simp⟩ hI
  have hc1 := (hS H1 (hM _ _ _ i1)).1
  rw [callF_in (fi := fi70) tcon rfl rfl rfl]
  obtain ⟨H2, hs2, y1, i2⟩ := hY _ _ _ _ _ _ _ _ i1 hc1 (hA o (by simp [T.ads])) ⟨r.es ++ p, by rw [hP]; simp⟩
  have hc2 := (hS H2 (hM _ _ _ i2)).1
  obtain ⟨H3, hs3, t3, i3⟩ := ihr ⟨true, true, m.gl⟩ _ H2 hs2 hm (fun H h => (hS H h).2.2) (fun q hq => hA q (by simp [T.ads, hq])) ⟨p, by rw [hP]; simp⟩ i2
  rw [<- hm] at y1
  refine ⟨H3, hs3, ?_, by simpa [T.es] using i3⟩
  simp (maxSteps := 2000000) only [sG, seval, x70, stU, b70, Tryz.f70, dTV, dPN, hc, t1, callO_y, y1, hc2, t3]
theorem cAll1 {m : Md} {y x : Nat} {t : T} {H H' : Tr AO} {hs hs' : Nat} (hx : H.get .dead x = .cells [t.val] false)
  (hw : callF tab (evw tab) ⟨true, true, m.gl⟩ 70 [t.val, .yld y] H hs = some (.lit (.bool true), H', hs')) :
  callF tab (evw tab) m 69 [.yld y, .ptr x 0] H hs = some (one [], H', hs') := by
 rw [callF_in (fi := fi69) tcon rfl rfl rfl]
 simp (maxSteps := 2000000) only [sG, seval, x69, stU, b69, Tryz.f69, hx, hw]
structure RInv (g : Nat -> AV) (d h0 : Nat) (H0 : Tr AO) (es : List En) (H : Tr AO) (hs : Nat) (A : AV) : Prop where
 le : h0 + 4 <= hs
 y : H.get .dead (h0 + 3) = .loop .ready none ((List.range 29).map g) #[12] (rgA fi22 0) (rgB fi22 0) d true
 c : H.get .dead h0 = .cells [A] false
 acc : Acc H hs 2 A (es.map encE)
 rm : ∀ q l, A = .lst (.room q) l -> h0 + 4 <= q
 nz : es = [] -> A = .lit (.slice none 0 0)
 fr : ∀ q, q < h0 + 4 -> q ≠ h0 -> q ≠ h0 + 3 -> H.get .dead q = H0.get .dead q
theorem rowsWalk {g : Nat -> AV} {d h0 : Nat} {H0 : Tr AO} {t : T} {m : Md} (g3 : g 3 = .ptr h0 0) (hm : Mt H0 t) (hl : ∀ q ∈ t.ads, q < h0) (hn : t.es.length < 100000000) (he : ∀ e ∈ t.es, e.r.length < 1000000)
  (hI : RInv g d h0 H0 [] H0 (h0 + 4) (.lit (.slice none 0 0))) :
  ∃ H' hs' A, callF tab (evw tab) m 70 [t.val, .yld (h0 + 3)] H0 (h0 + 4) = some (.lit (.bool true), H', hs') /\ RInv g d h0 H0 t.es H' hs' A := by
 have hM : ∀ es H hs, (∃ A, RInv g d h0 H0 es H hs A) -> Mt H t := fun es H hs ⟨A, h⟩ => hm.frame fun q hq => h.fr q (by have := hl q hq; omega) (by have := hl q hq; omega) (by have := hl q hq; omega)
 have hY : ∀ es H hs o l e r k, (∃ A, RInv g d h0 H0 es H hs A) -> H.get .dead o = .cells (ncs l e r k) false -> o ∈ t.ads -> (∃ p, t.es = es ++ e :: p) -> ∃ H' hs', rnd tab ⟨true, true, m.gl⟩ (h0 + 3) [.ptr o 0] H hs (H.get .dead (h0 + 3)) = some (.lit (.bool true), H', hs') /\ (∃ A, RInv g d h0 H0 (es ++ [e]) H' hs' A) := by
  intro es H hs o l e r k ⟨A, i⟩ hc ho ⟨p, hp⟩
  have h1 := hl o ho
  have h2 : e ∈ t.es := by rw [hp]; simp
  have h3 : es.length < 100000000 := by rw [hp] at hn; simp at hn; omega
  have h4 := i.le
  obtain ⟨H', r1, r2, r3, r4⟩ := rowRound (gl := m.gl) g3 i.y i.c i.acc hc (he e h2) h3 (by omega) (by omega) (by omega) (by omega)
  refine ⟨H', hs + 1, r1, _, by omega, by rw [r2]; exact i.y, r3.1, r3.2, fun q l e => by cases e; omega, fun h => by simp at h, fun q q1 q2 q3 => ?_⟩
  rw [r4 q (by omega) q3 q2 (fun l e => by have := i.rm q l e; omega), i.fr q q1 q2 q3]
 obtain ⟨H', hs', w, A, i⟩ := @cWalk2 (h0 + 3) t (fun es H hs => ∃ A, RInv g d h0 H0 es H hs A) m.gl hM hY t m [] H0 (h0 + 4) rfl (fun _ h => h) (fun _ h => h) ⟨[], by simp⟩ ⟨_, hI⟩
 exact ⟨H', hs', A, w, by simpa using i⟩
end Go.Proofs.YtancionamhenmaaGreat.Ev
