import Derived.Test.YtcledcfeddlomaaGreatDoorSL
set_option linter.all false
set_option maxRecDepth 100000
set_option maxHeartbeats 8000000
namespace Go.Proofs.YtcledcfeddlomaaGreatDoor.Ev
open Go Go.Proofs.YtcledcfeddlomaaGreatDoor.Ev Go.Proofs Go.Proofs.YtcledcfeddlomaaGreatDoor Go.Proofs.YtcledcfeddlomaaGreatDoor.Tab
theorem appendN {H : Tr AO} {hs sz b : Nat} {agg : Bool} {tk : ATk} {A y : AV} {es ys : List AV} (h : Acc H hs sz A es) (hy : ∀ z ∈ y :: ys, elOk sz z = true) (hb : (4 * (es.length + (y :: ys).length) + 4000) * b <= 281474976710656) :
  appendO H hs true agg sz b (some A) (some (.lst tk (y :: ys))) = some (.lst (.room hs) (es ++ y :: ys), accH H hs sz A, hs + 1) := by
 have hall : (y :: ys).all (fun e => sizeOk sz e && flatOk e && e.cells.all oneCell) = true := by
  rw [List.all_eq_true]; exact fun y hm => hy y hm
 have hall2 : (y :: ys).all (sizeOk sz) = true := by
  rw [List.all_eq_true]; intro y hm; have := hy y hm; unfold elOk at this; simp only [Bool.and_eq_true] at this; exact this.1.1
 have hble : Nat.ble ((4 * (es.length + (y :: ys).length) + 4000) * b) 281474976710656 = true := ble_le.2 hb
 rcases h with ⟨rfl, rfl⟩ | ⟨r, rfl, h1, h2⟩
 ·simp only [appendO, lstX, lstOf, cond_true, srcElems, hall2, appendL, hall, hble, Bool.and_self, List.all_nil, List.nil_append, accH]
 ·simp only [appendO, lstX, lstOf, cond_true, srcElems, hall2, appendL, hall, hble, Bool.and_self, h1, Nat.beq_refl, accH]
def AccF (H : Tr AO) (hs sz : Nat) (A : AV) (es : List AV) : Prop := Acc H hs sz A es ∨ A = .lst .full es
theorem appF {H : Tr AO} {hs sz : Nat} {A : AV} {es : List AV} (h : AccF H hs sz A es) (hes : ∀ z ∈ es, elOk sz z = true) (b : Nat) (agg : Bool) (tk : ATk) (y : AV) (ys : List AV) (hy : ∀ z ∈ y :: ys, elOk sz z = true) (hb : (4 * (es.length + (y :: ys).length) + 4000) * b <= 281474976710656) :
  ∃ H', appendO H hs true agg sz b (some A) (some (.lst tk (y :: ys))) = some (.lst (.room hs) (es ++ y :: ys), H', hs + 1) /\ Acc H' (hs + 1) sz (.lst (.room hs) (es ++ y :: ys)) (es ++ y :: ys) /\ ∀ q, q < hs -> (H.get .dead q).isRoom = false -> H'.get .dead q = H.get .dead q := by
 rcases h with h | rfl
 ·refine ⟨accH H hs sz A, appendN h hy hb, ?_, fun q h1 h2 => h.get h1 h2⟩
  refine .inr ⟨hs, rfl, ?_, Nat.lt_succ_self _⟩
  unfold accH; split <;> rw [Tr.get_put, if_pos rfl]
 ·refine ⟨H.put .dead hs (.room sz), ?_, .inr ⟨hs, rfl, by rw [Tr.get_put, if_pos rfl], Nat.lt_succ_self _⟩, fun q h1 h2 => by rw [Tr.get_put, if_neg (by omega)]⟩
  have hall : (y :: ys).all (fun e => sizeOk sz e && flatOk e && e.cells.all oneCell) = true := by
   rw [List.all_eq_true]; exact fun y hm => hy y hm
  have sz1 : ∀ l : List AV, (∀ z ∈ l, elOk sz z = true) -> l.all (sizeOk sz) = true := fun l hl => by
   rw [List.all_eq_true]; intro y hm; have := hl y hm; unfold elOk at this; simp only [Bool.and_eq_true] at this; exact this.1.1
  have hble : Nat.ble ((4 * (es.length + (y :: ys).length) + 4000) * b) 281474976710656 = true := ble_le.2 hb
  simp only [appendO, lstX, lstOf, cond_true, srcElems, sz1 _ hy, sz1 _ hes, appendL, hall, hble, Bool.and_self]
theorem AccF.bn {H : Tr AO} {hs sz : Nat} {A : AV} {α : Type} {f : α -> AV} (hb : ∀ x, bare (f x) = true) (hn : ∀ x, nrm (f x) = f x) {es : List α} (h : AccF H hs sz A (es.map f)) : bare A = true /\ nrm A = .lst .no (es.map f) := by
 rcases h with h | rfl
 ·exact ⟨accBare hb h, accNrm hn h⟩
 ·exact ⟨bares_mapf hb es, by show AV.lst .no (nrms _) = _; rw [nrms_mapg hn]⟩
def encI (x : Int) : AV := .lit (.int .u8 x)
theorem bare_I (n : Int) : bare (encI n) = true := rfl
theorem nrm_I (n : Int) : nrm (encI n) = encI n := rfl
theorem elI (n : Int) : elOk 1 (encI n) = true := rfl
theorem elIs (l : List Int) : ∀ z ∈ l.map encI, elOk 1 z = true := fun z hz => by obtain ⟨n, _, rfl⟩ := List.mem_map.1 hz; exact elI n
def uOf (n : Int) : Int := IntKind.u64.wrap (BitVec.ofInt IntKind.u64.bits (IntKind.u64.wrap n) ^^^ BitVec.ofInt IntKind.u64.bits 9223372036854775808).toNat
def byteI (n : Int) (i : Nat) : Int := IntKind.u8.wrap ((uOf n).fdiv (2 ^ (min i IntKind.u64.bits)))
def packS : List UInt8 -> List Int
 | [] => []
 | c :: l => bif decide ((c.toNat : Int) = 0) then (c.toNat : Int) :: 255 :: packS l else (c.toNat : Int) :: packS l
def packV (v : Vl) : List Int := bif decide (v.k = 1) then (bif v.b then [2, 1] else [2, 0]) else bif decide (v.k = 2) then [3, byteI v.n 56, byteI v.n 48, byteI v.n 40, byteI v.n 32, byteI v.n 24, byteI v.n 16, byteI v.n 8, byteI v.n 0] else bif decide (v.k = 3) then 4 :: packS v.s ++ [0, 1] else [1]
theorem packS_len : ∀ s : List UInt8, (packS s).length <= 2 * s.length
 | [] => Nat.le_refl _
 | c :: l => by
  have := packS_len l
  unfold packS
  cases decide ((c.toNat : Int) = 0) <;> simp only [cond_true, cond_false, List.length_cons] <;> omega
theorem appI {H : Tr AO} {hs : Nat} {A : AV} {es : List Int} (h : AccF H hs 1 A (es.map encI)) (hl : es.length < 100000000) (x : Int) : ∃ H', appendO H hs true false 1 1 (some A) (some (.lst .full [.lit (.int .u8 x)])) = some (.lst (.room hs) ((es ++ [x]).map encI), H', hs + 1) /\ AccF H' (hs + 1) 1 (.lst (.room hs) ((es ++ [x]).map encI)) ((es ++ [x]).map encI) /\ ∀ q, q < hs -> (H.get .dead q).isRoom = false -> H'.get .dead q = H.get .dead q := by
 obtain ⟨H', h1, h2, h3⟩ := appF h (elIs es) 1 false .full (encI x) [] (elIs [x]) (by simp only [List.length_map, List.length_cons, List.length_nil]; omega)
 rw [List.map_append]
 exact ⟨H', h1, .inl h2, h3⟩
theorem loopText {v : Vl} {gl : Tr (Option AV)} {B : Nat} (hs0 : v.s.length < 1000000) : ∀ (k i : Nat) (t : Tr AV) (H : Tr AO) (hs : Nat) (A : AV) (es : List Int), i + k = v.s.length -> es.length <= 10 + 2 * i -> AccF H hs 1 A (es.map encI) -> H.get .dead B = .cells v.cs false -> B < hs ->
  t.get .any 1 = .ptr B 0 -> t.get .any 5 = A -> t.get .any 42 = .lit (.int .i64 v.s.length) -> t.get .any 43 = .lit (.int .i64 i) ->
  RetN (W tab none (fin tab fi71) (lpc fi71 1) (lpk fi71 1) ⟨t, 66, H, hs, [], ⟨true, true, gl⟩⟩) (.lst .no ((es ++ packS (v.s.drop i) ++ [0, 1]).map encI)) := by
 simp only [stU, stC, b71, Tryz.f71]
 intro k
 induction k with
 | zero =>
  intro i t H hs A es hi hes hA hB hb a1 a5 a42 a43
  have e1 : decide ((i : Int) < v.s.length) = false := dcF (by omega)
  rw [W_loop, List.drop_of_length_le (by omega)]
  obtain ⟨H1, hP, _, _⟩ := appF hA (elIs es) 1 false .full (.lit (.int .u8 0)) [.lit (.int .u8 1)] (elIs [0, 1]) (by simp only [List.length_map, List.length_cons, List.length_nil]; omega)
  simp only [sGA, seval, x71, stU, b71, Tryz.f71, a1, a5, a42, a43, e1, hP]
  refine ⟨?_, ?_⟩
  ·have := bares_mapf bare_I (es ++ [0, 1])
   simp only [List.map_append, List.map_cons, List.map_nil, encI] at this
   exact this
  ·have := nrms_mapg nrm_I (es ++ [0, 1])
   simp only [List.map_append, List.map_cons, List.map_nil, encI] at this
   show AV.lst .no (nrms _) = _
   rw [this]
   simp [packS, encI]
 | succ k ih =>
  intro i t H hs A es hi hes hA hB hb a1 a5 a42 a43
  have hlt : i < (v.s).length := by omega
  obtain ⟨c, hv, e1, e3, e4, e6, e7⟩ := atS hlt
  have e5 := wrap_succ (i := i) (by omega)
  rw [W_loop, e6]
  simp only [Vl.cs] at hB
  obtain ⟨H1, hP, hA2, g0⟩ := appI hA (by omega) (c.toNat : Int)
  have g1 := g0 B hb (by rw [hB]; rfl)
  rw [hB] at g1
  cases h0 : decide ((c.toNat : Int) = 0) with
  | false =>
   simp only [packS, h0, cond_true, cond_false]
   rw [show es ++ ((c.toNat : Int) :: packS (v.s.drop (i + 1))) ++ [0, 1] = (es ++ [(c.toNat : Int)]) ++ packS (v.s.drop (i + 1)) ++ [0, 1] by simp]
   simp (maxSteps := 2000000) only [sGA, seval, x71, stU, b71, Tryz.f71, a1, a5, a42, a43, hB, e1, e3, e4, e5, lG, hP, g1, h0]
   apply ih (i + 1) _ _ _ _ (es ++ [(c.toNat : Int)]) (by omega) (by simp; omega) hA2 (by simp only [Vl.cs]; exact g1) (by omega)
   all_goals simp only [sG, seval, a1, a5, a42, a43]
  | true =>
   simp only [packS, h0, cond_true, cond_false]
   obtain ⟨H2, hP2, hA3, g00⟩ := appI hA2 (by simp; omega) 255
   have g2 := g00 B (by omega) (by rw [g1]; rfl)
   rw [g1] at g2
   rw [show es ++ ((c.toNat : Int) :: 255 :: packS (v.s.drop (i + 1))) ++ [0, 1] = ((es ++ [(c.toNat : Int)]) ++ [255]) ++ packS (v.s.drop (i + 1)) ++ [0, 1] by simp]
   simp (maxSteps := 2000000) only [sGA, seval, x71, stU, b71, Tryz.f71, a1, a5, a42, a43, hB, e1, e3, e4, e5, lG, hP, g1, h0, hP2]
   apply ih (i + 1) _ _ _ _ ((es ++ [(c.toNat : Int)]) ++ [255]) (by omega) (by simp; omega) hA3 (by simp only [Vl.cs]; exact g2) (by omega)
   all_goals simp only [sG, seval, a1, a5, a42, a43]
theorem fold_byte {n : Int} {i : Nat} : IntKind.u8.wrap ((uOf n).fdiv (2 ^ (min i IntKind.u64.bits))) = byteI n i := rfl
theorem fold_u {n : Int} : IntKind.u64.wrap (BitVec.ofInt IntKind.u64.bits (IntKind.u64.wrap n) ^^^ BitVec.ofInt IntKind.u64.bits 9223372036854775808).toNat = uOf n := rfl
def byteL (n : Int) : Nat -> List Int
 | 0 => []
 | k + 1 => byteI n (8 * k) :: byteL n k
theorem loopInt {v : Vl} {gl : Tr (Option AV)} {B : Nat} : ∀ (k : Nat) (t : Tr AV) (H : Tr AO) (hs : Nat) (A : AV) (es : List Int), k <= 8 -> es.length + k <= 100 -> AccF H hs 1 A (es.map encI) -> H.get .dead B = .cells v.cs false -> B < hs ->
  t.get .any 1 = .ptr B 0 -> t.get .any 3 = A -> t.get .any 4 = .lit (.int .i64 ((k : Int) - 1)) ->
  RetN (W tab none (fin tab fi71) (lpc fi71 0) (lpk fi71 0) ⟨t, 66, H, hs, [], ⟨true, true, gl⟩⟩) (.lst .no ((es ++ byteL v.n k).map encI)) := by
 simp only [stU, stC, b71, Tryz.f71]
 intro k
 induction k with
 | zero =>
  intro t H hs A es hk hes hA hB hb a1 a3 a4
  have e1 : decide ((0 : Int) <= ((0 : Nat) : Int) - 1) = false := by decide
  obtain ⟨h1, h2⟩ := hA.bn bare_I nrm_I
  rw [W_loop]
  simp only [sGA, seval, x71, stU, b71, Tryz.f71, a1, a3, a4, e1, byteL]
  exact ⟨h1, h2⟩
 | succ k ih =>
  intro t H hs A es hk hes hA hB hb a1 a3 a4
  simp only [Vl.cs] at hB
  have q0 : ((k + 1 : Nat) : Int) - 1 = (k : Int) := by omega
  have e1 : decide ((0 : Int) <= (k : Int)) = true := dcT (by omega)
  have q1 : IntKind.i64.wrap (8 * (k : Int)) = ((8 * k : Nat) : Int) := by rw [wrap_i64 (by omega) (by omega)]; omega
  have q2 : (0 : Int) <= ((8 * k : Nat) : Int) := by omega
  have q3 : IntKind.i64.wrap ((k : Int) - 1) = (k : Int) - 1 := wrap_i64 (by omega) (by omega)
  obtain ⟨H1, hP, hA2, g0⟩ := appI hA (by omega) (byteI v.n (8 * k))
  have g1 := g0 B hb (by rw [hB]; rfl)
  rw [hB] at g1
  rw [q0] at a4
  rw [W_loop]
  rw [show es ++ byteL v.n (k + 1) = (es ++ [byteI v.n (8 * k)]) ++ byteL v.n k by simp [byteL]]
  simp (maxSteps := 2000000) only [sGA, seval, x71, stU, b71, Tryz.f71, a1, a3, a4, hB, e1, q1, q2, q3, dMO, convIO, fold_u, Int.toNat_natCast, fold_byte, hP, g1]
  apply ih _ _ _ _ (es ++ [byteI v.n (8 * k)]) (by omega) (by simp; omega) hA2 (by simp only [Vl.cs]; exact g1) (by omega)
  all_goals simp only [sG, seval, a1, a3, a4]
theorem vright_k {v : Vl} (h : vright v = true) (h1 : decide (v.k = 1) = false) (h2 : decide (v.k = 2) = false) : (decide (v.k = 3) = true /\ v.s.length <= 60) ∨ decide (v.k = 3) = false := by
 unfold vright at h
 rw [h1, h2] at h
 cases h3 : decide (v.k = 3) with
 | false => exact .inr rfl
 | true =>
  have h0 : decide (v.k = 0) = false := by have := of_decide_eq_true h3; rw [decide_eq_false_iff_not]; omega
  rw [h0, h3] at h
  simp only [cond_false, cond_true, Bool.and_eq_true, decide_eq_true_iff] at h
  exact .inl ⟨rfl, by omega⟩
theorem eqPackV {m : Md} {v : Vl} (hv : vright v = true) : iso tab fi71 m [encV v] = some (.lst .no ((packV v).map encI)) := by
 refine iso_ret ?_
 have c := fun m H hs => @cRight m v H hs
 simp only [encV, Vl.cs, hv] at c
 unfold packV
 cases h1 : decide (v.k = 1) with
 | true =>
  cases hb : v.b with
  | true =>
   simp only [hb] at c
   simp (maxSteps := 2000000) only [sG, seval, x71, stU, b71, Tryz.f71, encV, Vl.cs, c, h1, hb, encI]
  | false =>
   simp only [hb] at c
   simp (maxSteps := 2000000) only [sG, seval, x71, stU, b71, Tryz.f71, encV, Vl.cs, c, h1, hb, encI]
 | false =>
  cases h2 : decide (v.k = 2) with
  | true =>
   have L := @loopInt v m.gl 0 8
   simp only [stU, stC, b71, Tryz.f71, Vl.cs] at L
   simp (maxSteps := 2000000) only [sG, seval, x71, stU, b71, Tryz.f71, encV, Vl.cs, c, h1, h2]
   apply L _ _ _ (.lst .full [.lit (.int .u8 3)]) [3] (by omega) (by simp) (.inr rfl)
   all_goals first | (simp only [sG, seval]; done) | (simp only [sG, seval]; rfl) | omega
  | false =>
   rcases vright_k hv h1 h2 with ⟨h3, hl⟩ | h3
   ·have L := @loopText v m.gl 0 (by omega) v.s.length 0
    simp only [stU, stC, b71, Tryz.f71, Vl.cs] at L
    simp (maxSteps := 2000000) only [sG, seval, x71, stU, b71, Tryz.f71, encV, Vl.cs, c, h1, h2, h3]
    apply L _ _ _ (.lst .full [.lit (.int .u8 4)]) [4] (by simp) (by simp) (.inr rfl)
    all_goals first | (simp only [sG, seval]; done) | (simp only [sG, seval]; rfl) | omega
   ·simp (maxSteps := 2000000) only [sG, seval, x71, stU, b71, Tryz.f71, encV, Vl.cs, c, h1, h2, h3, encI]
theorem cPackV {m : Md} {v : Vl} {H : Tr AO} {hs : Nat} (hv : vright v = true) : callF tab (evw tab) m 71 [encV v] H hs = some (.lst .no ((packV v).map encI), H, hs) := callF_iso tcon rfl rfl rfl (eqPackV hv)
theorem packV_len {v : Vl} (hv : vright v = true) : (packV v).length <= 200 := by
 unfold packV
 cases h1 : decide (v.k = 1) with
 | true => cases v.b <;> simp
 | false => cases h2 : decide (v.k = 2) with
  | true => simp
  | false =>
   rcases vright_k hv h1 h2 with ⟨h3, hl⟩ | h3
   ·rw [h3]
    have := packS_len v.s
    simp; omega
   ·rw [h3]; simp
theorem veq_iff {a b : Vl} : veq a b = true ↔ a = b := by
 obtain ⟨k, c, n, s⟩ := a
 obtain ⟨k', c', n', s'⟩ := b
 unfold veq
 simp only [Bool.and_eq_true, decide_eq_true_iff, beq_iff_eq, Vl.mk.injEq]
theorem vright_cases {v : Vl} (h : vright v = true) : v = v0 ∨ v = ⟨1, v.b, 0, []⟩ ∨ v = ⟨2, false, v.n, []⟩ ∨ (v = ⟨3, false, 0, v.s⟩ /\ v.s.length <= 60) := by
 unfold vright at h
 cases h0 : decide (v.k = 0) with
 | true => rw [h0] at h; exact .inl (veq_iff.1 h)
 | false =>
  cases h1 : decide (v.k = 1) with
  | true => rw [h0, h1] at h; exact .inr (.inl (veq_iff.1 h))
  | false =>
   cases h2 : decide (v.k = 2) with
   | true => rw [h0, h1, h2] at h; exact .inr (.inr (.inl (veq_iff.1 h)))
   | false =>
    cases h3 : decide (v.k = 3) with
    | true =>
     rw [h0, h1, h2, h3] at h
     simp only [cond_false, cond_true, Bool.and_eq_true, decide_eq_true_iff] at h
     exact .inr (.inr (.inr ⟨veq_iff.1 h.1, by omega⟩))
    | false => rw [h0, h1, h2, h3] at h; cases h
end Go.Proofs.YtcledcfeddlomaaGreatDoor.Ev
