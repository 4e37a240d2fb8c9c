import Derived.Test.YtancionamhenmaaGreatCM
set_option linter.all false
set_option maxRecDepth 100000
set_option maxHeartbeats 8000000
namespace Go.Proofs.YtancionamhenmaaGreat.Ev
open Go Go.Proofs.YtancionamhenmaaGreat.Ev Go.Proofs Go.Proofs.YtancionamhenmaaGreat Go.Proofs.YtancionamhenmaaGreat.Tab
theorem appendN {H : Tr AO} {hs sz b : Nat} {agg : Bool} {tk : ATk} {A y : AV} {es ys : List AV} (h : Acc H hs sz A es) (hy : ∀ z ∈ y :: ys, elOk sz z = true) (hb : (4 * (es.length + (y :: ys).length) + 4000) * b <= 281474976710656) :
  appendO H hs true agg sz b (some A) (some (.lst tk (y :: ys))) = some (.lst (.room hs) (es ++ y :: ys), accH H hs sz A, hs + 1) := by
 have hall : (y :: ys).all (fun e => sizeOk sz e && flatOk e && e.cells.all oneCell) = true := by
  rw [List.all_eq_true]; exact fun y hm => hy y hm
 have hall2 : (y :: ys).all (sizeOk sz) = true := by
  rw [List.all_eq_true]; intro y hm; have := hy y hm; unfold elOk at this; simp only [Bool.and_eq_true] at this; exact this.1.1
 have hble : Nat.ble ((4 * (es.length + (y :: ys).length) + 4000) * b) 281474976710656 = true := ble_le.2 hb
 rcases h with ⟨rfl, rfl⟩ | ⟨r, rfl, h1, h2⟩
 ·simp only [appendO, lstX, lstOf, cond_true, srcElems, hall2, appendL, hall, hble, Bool.and_self, List.all_nil, List.nil_append, accH]
 ·simp only [appendO, lstX, lstOf, cond_true, srcElems, hall2, appendL, hall, hble, Bool.and_self, h1, Nat.beq_refl, accH]
def AccF (H : Tr AO) (hs sz : Nat) (A : AV) (es : List AV) : Prop := Acc H hs sz A es ∨ A = .lst .full es
theorem appF {H : Tr AO} {hs sz : Nat} {A : AV} {es : List AV} (h : AccF H hs sz A es) (hes : ∀ z ∈ es, elOk sz z = true) (b : Nat) (agg : Bool) (tk : ATk) (y : AV) (ys : List AV) (hy : ∀ z ∈ y :: ys, elOk sz z = true) (hb : (4 * (es.length + (y :: ys).length) + 4000) * b <= 281474976710656) :
  ∃ H', appendO H hs true agg sz b (some A) (some (.lst tk (y :: ys))) = some (.lst (.room hs) (es ++ y :: ys), H', hs + 1) /\ Acc H' (hs + 1) sz (.lst (.room hs) (es ++ y :: ys)) (es ++ y :: ys) /\ ∀ q, q < hs -> (H.get .dead q).isRoom = false -> H'.get .dead q = H.get .dead q := by
 rcases h with h | rfl
 ·refine ⟨accH H hs sz A, appendN h hy hb, ?_, fun q h1 h2 => h.get h1 h2⟩
  refine .inr ⟨hs, rfl, ?_, Nat.lt_succ_self _⟩
  unfold accH; split <;> rw [Tr.get_put, if_pos rfl]
 ·refine ⟨H.put .dead hs (.room sz), ?_, .inr ⟨hs, rfl, by rw [Tr.get_put, if_pos rfl], Nat.lt_succ_self _⟩, fun q h1 h2 => by rw [Tr.get_put, if_neg (by omega)]⟩
  have hall : (y :: ys).all (fun e => sizeOk sz e && flatOk e && e.cells.all oneCell) = true := by
   rw [List.all_eq_true]; exact fun y hm => hy y hm
  have sz1 : ∀ l : List AV, (∀ z ∈ l, elOk sz z = true) -> l.all (sizeOk sz) = true := fun l hl => by
   rw [List.all_eq_true]; intro y hm; have := hl y hm; unfold elOk at this; simp only [Bool.and_eq_true] at this; exact this.1.1
  have hble : Nat.ble ((4 * (es.length + (y :: ys).length) + 4000) * b) 281474976710656 = true := ble_le.2 hb
  simp only [appendO, lstX, lstOf, cond_true, srcElems, sz1 _ hy, sz1 _ hes, appendL, hall, hble, Bool.and_self]
theorem AccF.bn {H : Tr AO} {hs sz : Nat} {A : AV} {α : Type} {f : α -> AV} (hb : ∀ x, bare (f x) = true) (hn : ∀ x, nrm (f x) = f x) {es : List α} (h : AccF H hs sz A (es.map f)) : bare A = true /\ nrm A = .lst .no (es.map f) := by
 rcases h with h | rfl
 ·exact ⟨accBare hb h, accNrm hn h⟩
 ·exact ⟨bares_mapf hb es, by show AV.lst .no (nrms _) = _; rw [nrms_mapg hn]⟩
def encI (x : Int) : AV := .lit (.int .u8 x)
theorem bare_I (n : Int) : bare (encI n) = true := rfl
theorem nrm_I (n : Int) : nrm (encI n) = encI n := rfl
theorem elI (n : Int) : elOk 1 (encI n) = true := rfl
theorem elIs (l : List Int) : ∀ z ∈ l.map encI, elOk 1 z = true := fun z hz => by obtain ⟨n, _, rfl⟩ := List.mem_map.1 hz; exact elI n
def uOf (n : Int) : Int := IntKind.u64.wrap (BitVec.ofInt IntKind.u64.bits (IntKind.u64.wrap n) ^^^ BitVec.ofInt IntKind.u64.bits 9223372036854775808).toNat
def byteI (n : Int) (i : Nat) : Int := IntKind.u8.wrap ((uOf n).fdiv (2 ^ (min i IntKind.u64.bits)))
def packS : List UInt8 -> List Int
 | [] => []
 | c :: l => bif decide ((c.toNat : Int) = 0) then (c.toNat : Int) :: 255 :: packS l else (c.toNat : Int) :: packS l
def packV (v : Vl) : List Int := bif decide (v.k = 1) then (bif v.b then [2, 1] else [2, 0]) else bif decide (v.k = 2) then [3, byteI v.n 56, byteI v.n 48, byteI v.n 40, byteI v.n 32, byteI v.n 24, byteI v.n 16, byteI v.n 8, byteI v.n 0] else bif decide (v.k = 3) then 4 :: packS v.s ++ [0, 1] else [1]
theorem packS_len : ∀ s : List UInt8, (packS s).length <= 2 * s.length
 | [] => Nat.le_refl _
 | c :: l => by
  have := packS_len l
  unfold packS
  cases decide ((c.toNat : Int) = 0) <;> simp only [cond_true, cond_false, List.length_cons] <;> omega
theorem appI {H : Tr AO} {hs : Nat} {A : AV} {es : List Int} (h : AccF H hs 1 A (es.map encI)) (hl : es.length < 100000000) (x : Int) : ∃ H', appendO H hs true false 1 1 (some A) (some (.lst .full [.lit (.int .u8 x)])) = some (.lst (.room hs) ((es ++ [x]).map encI), H', hs + 1) /\ AccF H' (hs + 1) 1 (.lst (.room hs) ((es ++ [x]).map encI)) ((es ++ [x]).map encI) /\ ∀ q, q < hs -> (H.get .dead q).isRoom = false -> H'.get .dead q = H.get .dead q := by
 obtain ⟨H', h1, h2, h3⟩ := appF h (elIs es) 1 false .full (encI x) [] (elIs [x]) (by simp only [List.length_map, List.length_cons, List.length_nil]; omega)
 rw [List.map_append]
 exact ⟨H', h1, .inl h2, h3⟩
theorem loopText {v : Vl} {gl : Tr (Option AV)} {B : Nat} (hs0 : v.s.length < 1000000) : ∀ (k i : Nat) (t : Tr AV) (H : Tr AO) (hs : Nat) (A : AV) (es : List Int), i + k = v.s.length -> es.length <= 10 + 2 * i -> AccF H hs 1 A (es.map encI) -> H.get .dead B = .cells v.cs false -> B < hs ->
  t.get .any 1 = .ptr B 0 -> t.get .any 5 = A -> t.get .any 42 = .lit (.int .i64 v.s.length) -> t.get .any 43 = .lit (.int .i64 i) ->
  RetN (W tab none (fin tab fi83) (lpc fi83 1) (lpk fi83 1) ⟨t, 66, H, hs, [], ⟨true, true, gl⟩⟩) (.lst .no ((es ++ packS (v.s.drop i) ++ [0, 1]).map encI)) := by
 simp only [stU, stC, b83, Tryz.f83]
 intro k
 induction k with
 | zero =>
  intro i t H hs A es hi hes hA hB hb a1 a5 a42 a43
  have e1 : decide ((i : Int) < v.s.length) = false := dcF (by omega)
  rw [W_loop, List.drop_of_length_le (by omega)]
  obtain ⟨H1, hP, _, _⟩ := appF hA (elIs es) 1 false .full (.lit (.int .u8 0)) [.lit (.int .u8 1)] (elIs [0, 1]) (by simp only [List.length_map, List.length_cons, List.length_nil]; omega)
  simp only [sGA, seval, x83, stU, a5, a42, a43, e1, hP]
  refine ⟨?_, ?_⟩
  ·have := bares_mapf bare_I (es ++ [0, 1])
   simp only [List.map_append, List.map_cons, List.map_nil, encI] at this
   exact this
  ·have := nrms_mapg nrm_I (es ++ [0, 1])
   simp only [List.map_append, List.map_cons, List.map_nil, encI] at this
   show AV.lst .no (nrms _) = _
   rw [this]
   simp [packS, encI]
 | succ k ih =>
  intro i t H hs A es hi hes hA hB hb a1 a5 a42 a43
  have hlt : i < (v.s).length := by omega
  obtain ⟨c, hv, e1, e3, e4, e6, e7⟩ := atS hlt
  have e5 := wrap_succ (i := i) (by omega)
  rw [W_loop, e6]
  simp only [Vl.cs] at hB
  obtain ⟨H1, hP, hA2, g0⟩ := appI hA (by omega) (c.toNat : Int)
  have g1 := g0 B hb (by rw [hB]; rfl)
  rw [hB] at g1
  cases h0 : decide ((c.toNat : Int) = 0) with
  | false =>
   simp only [packS, h0, cond_false]
   rw [show es ++ ((c.toNat : Int) :: packS (v.s.drop (i + 1))) ++ [0, 1] = (es ++ [(c.toNat : Int)]) ++ packS (v.s.drop (i + 1)) ++ [0, 1] by simp]
   simp (maxSteps := 2000000) only [sGA, seval, stU, a1, a5, a42, a43, hB, e1, e3, e4, e5, Int.toNat_natCast, hP, g1, h0]
   apply ih (i + 1) _ _ _ _ (es ++ [(c.toNat : Int)]) (by omega) (by simp; omega) hA2 (by simp only [Vl.cs]; exact g1) (by omega)
   all_goals simp only [sG, seval, a1, a42]
  | true =>
   simp only [packS, h0, cond_true]
   obtain ⟨H2, hP2, hA3, g00⟩ := appI hA2 (by simp; omega) 255
   have g2 := g00 B (by omega) (by rw [g1]; rfl)
   rw [g1] at g2
   rw [show es ++ ((c.toNat : Int) :: 255 :: packS (v.s.drop (i + 1))) ++ [0, 1] = ((es ++ [(c.toNat : Int)]) ++ [255]) ++ packS (v.s.drop (i + 1)) ++ [0, 1] by simp]
   simp (maxSteps := 2000000) only [sGA, seval, stU, a1, a5, a42, a43, hB, e1, e3, e4, e5, Int.toNat_natCast, hP, g1, h0, hP2]
   apply ih (i + 1) _ _ _ _ ((es ++ [(c.toNat : Int)]) ++ [255]) (by omega) (by simp; omega) hA3 (by simp only [Vl.cs]; exact g2) (by omega)
   all_goals simp only [sG, seval, a1, a42]
theorem fold_byte {n : Int} {i : Nat} : IntKind.u8.wrap ((uOf n).fdiv (2 ^ (min i IntKind.u64.bits))) = byteI n i := rfl
theorem fold_u {n : Int} : IntKind.u64.wrap (BitVec.ofInt IntKind.u64.bits (IntKind.u64.wrap n) ^^^ BitVec.ofInt IntKind.u64.bits 9223372036854775808).toNat = uOf n := rfl
def byteL (n : Int) : Nat -> List Int
 | 0 => []
 | k + 1 => byteI n (8 * k) :: byteL n k
theorem loopInt {v : Vl} {gl : Tr (Option AV)} {B : Nat} : ∀ (k : Nat) (t : Tr AV) (H : Tr AO) (hs : Nat) (A : AV) (es : List Int), k <= 8 -> es.length + k <= 100 -> AccF H hs 1 A (es.map encI) -> H.get .dead B = .cells v.cs false -> B < hs ->
  t.get .any 1 = .ptr B 0 -> t.get .any 3 = A -> t.get .any 4 = .lit (.int .i64 ((k : Int) - 1)) ->
  RetN (W tab none (fin tab fi83) (lpc fi83 0) (lpk fi83 0) ⟨t, 66, H, hs, [], ⟨true, true, gl⟩⟩) (.lst .no ((es ++ byteL v.n k).map encI)) := by
 simp only [stU, stC, b83, Tryz.f83]
 intro k
 induction k with
 | zero =>
  intro t H hs A es hk hes hA hB hb a1 a3 a4
  have e1 : decide ((0 : Int) <= ((0 : Nat) : Int) - 1) = false := by decide
  obtain ⟨h1, h2⟩ := hA.bn bare_I nrm_I
  rw [W_loop]
  simp only [sGA, sevalprocAttr, x83, a3, a4, byteL]
  exact ⟨h1, h2⟩
 | succ k ih =>
  intro t H hs A es hk hes hA hB hb a1 a3 a4
  simp only [Vl.cs] at hB
  have q0 : ((k + 1 : Nat) : Int) - 1 = (k : Int) := by omega
  have e1 : decide ((0 : Int) <= (k : Int)) = true := dcT (by omega)
  have q1 : IntKind.i64.wrap (8 * (k : Int)) = ((8 * k : Nat) : Int) := by rw [wrap_i64 (by omega) (by omega)]; omega
  have q2 : (0 : Int) <= ((8 * k : Nat) : Int) := by omega
  have q3 : IntKind.i64.wrap ((k : Int) - 1) = (k : Int) - 1 := wrap_i64 (by omega) (by omega)
  obtain ⟨H1, hP, hA2, g0⟩ := appI hA (by omega) (byteI v.n (8 * k))
  have g1 := g0 B hb (by rw [hB]; rfl)
  rw [hB] at g1
  rw [q0] at a4
  rw [W_loop]
  rw [show es ++ byteL v.n (k + 1) = (es ++ [byteI v.n (8 * k)]) ++ byteL v.n k by simp [byteL]]
  simp (maxSteps := 2000000) only [sGA, sevalprocAttr, stU, a1, a3, a4, hB, e1, q1, q2, q3, dMO, convIO, fold_u, Int.toNat_natCast, fold_byte, hP]
  apply ih _ _ _ _ (es ++ [byteI v.n (8 * k)]) (by omega) (by simp; omega) hA2 (by simp only [Vl.cs]; exact g1) (by omega)
  all_goals simp only [sG, sevalprocAttr, a1]
theorem vright_k {v : Vl} (h : vright v = true) (h1 : decide (v.k = 1) = false) (h2 : decide (v.k = 2) = false) : (decide (v.k = 3) = true /\ v.s.length <= 60) ∨ decide (v.k = 3) = false := by
 unfold vright at h
 rw [h1, h2] at h
 cases h3 : decide (v.k = 3) with
 | false => exact .inr rfl
 | true =>
  have h0 : decide (v.k = 0) = false := by have := of_decide_eq_true h3; rw [decide_eq_false_iff_not]; omega
  rw [h0, h3] at h
  simp only [cond_false, cond_true, Bool.and_eq_true, decide_eq_true_iff] at h
  exact .inl ⟨rfl, by omega⟩
theorem eqPackV {m : Md} {v : Vl} (hv : vright v = true) : iso tab fi83 m [encV v] = some (.lst .no ((packV v).map encI)) := by
 refine iso_ret ?_
 have c := fun m H hs => @cRight m v H hs
 simp only [encV, Vl.cs, hv] at c
 unfold packV
 cases h1 : decide (v.k = 1) with
 | true =>
  cases hb : v.b with
  | true =>
   simp only [hb] at c
   simp (maxSteps := 2000000) only [sG, sevalprocAttr, x83, stU, b83, Tryz.f83, encV, Vl.cs, c, h1, hb, encI]
  | false =>
   simp only [hb] at c
   simp (maxSteps := 2000000) only [sG, sevalprocAttr, x83, stU, b83, Tryz.f83, encV, Vl.cs, c, h1, hb, encI]
 | false =>
  cases h2 : decide (v.k = 2) with
  | true =>
   have L := @loopInt v m.gl 0 8
   simp only [stU, stC, b83, Tryz.f83, Vl.cs] at L
   simp (maxSteps := 2000000) only [sG, sevalprocAttr, x83, stU, b83, Tryz.f83, encV, Vl.cs, c, h1, h2]
   apply L _ _ _ (.lst .full [.lit (.int .u8 3)]) [3] (by omega) (by simp) (.inr rfl)
   all_goals first | (simp only [sG, sevalprocAttr]; done) | (simp only [sG, sevalprocAttr]; rfl) | omega
  | false =>
   rcases vright_k hv h1 h2 with ⟨h3, hl⟩ | h3
   ·have L := @loopText v m.gl 0 (by omega) v.s.length 0
    simp only [stU, stC, b83, Tryz.f83, Vl.cs] at L
    simp (maxSteps := 2000000) only [sG, sevalprocAttr, x83, stU, b83, Tryz.f83, encV, Vl.cs, c, h1, h2, h3]
    apply L _ _ _ (.lst .full [.lit (.int .u8 4)]) [4] (by simp) (by simp) (.inr rfl)
    all_goals first | (simp only [sG, sevalprocAttr]; done) | (simp only [sG, sevalprocAttr]; rfl) | omega
   ·simp (maxSteps := 2000000) only [sG, sevalprocAttr, x83, stU, b83, Tryz.f83, encV, Vl.cs, c, h1, h2, h3, encI]
theorem AccF.put2 {H : Tr AO} {hs sz : Nat} {A : AV} {es : List AV} {X Y : AO} (h : AccF H hs sz A es) : AccF ((H.put .dead hs X).put .dead hs Y) (hs + 1) sz A es := by
 rcases h with h | h
 ·exact .inl ((h.put' (Nat.le_refl _)).put' (Nat.le_refl _)).up
 ·exact .inr h
theorem cPackV {m : Md} {v : Vl} {H : Tr AO} {hs : Nat} (hv : vright v = true) : callF tab (evw tab) m 83 [encV v] H hs = some (.lst .no ((packV v).map encI), H, hs) := callF_iso tcon rfl rfl rfl (eqPackV hv)
theorem packV_cons (v : Vl) : ∃ y ys, packV v = y :: ys := by
 unfold packV
 cases decide (v.k = 1) with
 | true => cases v.b <;> exact ⟨_, _, rfl⟩
 | false => cases decide (v.k = 2) with
  | true => exact ⟨_, _, rfl⟩
  | false => cases decide (v.k = 3) <;> exact ⟨_, _, rfl⟩
theorem packV_len {v : Vl} (hv : vright v = true) : (packV v).length <= 200 := by
 unfold packV
 cases h1 : decide (v.k = 1) with
 | true => cases v.b <;> simp
 | false => cases h2 : decide (v.k = 2) with
  | true => simp
  | false =>
   rcases vright_k hv h1 h2 with ⟨h3, hl⟩ | h3
   ·rw [h3]
    have := packS_len v.s
    simp; omega
   ·rw [h3]; simp
def packR (r : Row) : List Int := r.flatMap packV ++ [0]
theorem nlB {p q : Operand} {tk : ATk} {e : AV} {l : List AV} : binO tab .eql 120 p q (some (.lst tk (e :: l))) (some (.lit (.slice none 0 0))) = some (.lit (.bool false)) := rfl
theorem loopPackR {r : Row} {gl : Tr (Option AV)} (hr : ∀ v ∈ r, vright v = true) (hl : r.length < 10000) : ∀ (k i : Nat) (t : Tr AV) (H : Tr AO) (hs : Nat) (A : AV) (es : List Int), i + k = r.length -> es.length <= 200 * i -> AccF H hs 1 A (es.map encI) ->
  t.get .any 3 = A -> t.get .any 7 = .lst .no (r.map encV) -> t.get .any 8 = .lit (.int .i64 r.length) -> t.get .any 9 = .lit (.int .i64 i) ->
  RetN (W tab none (fin tab fi62) (lpc fi62 0) (lpk fi62 0) ⟨t, 24, H, hs, [], ⟨true, true, gl⟩⟩) (.lst .no ((es ++ (r.drop i).flatMap packV ++ [0]).map encI)) := by
 simp only [stU, stC, b62, Tryz.f62]
 intro k
 induction k with
 | zero =>
  intro i t H hs A es hi hes hA a3 a7 a8 a9
  have e1 : decide ((i : Int) < (r).length) = false := dcF (by omega)
  obtain ⟨H1, hP, hA2, _⟩ := appI hA (by omega) 0
  obtain ⟨h1, h2⟩ := hA2.bn bare_I nrm_I
  rw [W_loop, List.drop_of_length_le (by omega)]
  simp only [sGA, seval, x62, stU, a3, a8, a9, e1, hP, List.flatMap_nil]
  exact ⟨h1, h2⟩
 | succ k ih =>
  intro i t H hs A es hi hes hA a3 a7 a8 a9
  have hlt : i < (r).length := by omega
  obtain ⟨v, hv, e1, e3, e4, e6, e7⟩ := atS hlt
  have e5 := wrap_succ (i := i) (by omega)
  have hm : v ∈ r := by rw [<- hv]; exact List.getElem_mem _
  have c := fun m H hs => @cPackV m v H hs (hr v hm)
  obtain ⟨y, ys, hy⟩ := packV_cons v
  have hlen := packV_len (hr v hm)
  rw [hy] at c hlen
  simp only [encV, Vl.cs, List.map_cons] at c
  obtain ⟨H1, hP, hA2, g0⟩ := appF (hA.put2 (X := .cells [.lit (.int .i64 0), .lit (.bool false), .lit (.int .i64 0), .str []] false) (Y := .cells v.cs false)) (elIs es) 1 false .no (encI y) (ys.map encI) (elIs (y :: ys)) (by simp only [List.length_map, List.length_cons] at hlen ⊢; omega)
  simp only [Vl.cs] at hP
  have e8 : es.map encI ++ encI y :: ys.map encI = (es ++ y :: ys).map encI := by simp
  rw [e8] at hP hA2
  rw [W_loop, e6, List.flatMap_cons, hy, show es ++ ((y :: ys) ++ (r.drop (i + 1)).flatMap packV) ++ [0] = (es ++ y :: ys) ++ (r.drop (i + 1)).flatMap packV ++ [0] by simp]
  simp (maxSteps := 2000000) only [sGA, seval, a3, a7, a8, a9, encV, Vl.cs, e1, e3, e4, e5, List.getElem?_map, Int.toNat_natCast, c, nlB, hP]
  apply ih (i + 1) _ _ _ _ (es ++ y :: ys) (by omega) (by simp only [List.length_append, List.length_cons] at hlen ⊢; omega) (.inl hA2)
  all_goals first | (simp only [sG, seval, a7, a8]; done) | (simp only [sG, seval, a3, a7, a8, a9, encV]; rfl)
theorem eqPackR {m : Md} {r : Row} (hr : ∀ v ∈ r, vright v = true) (hl : r.length < 10000) : iso tab fi62 m [.lst .no (r.map encV)] = some (.lst .no ((packR r).map encI)) := by
 refine iso_ret ?_
 have L := @loopPackR r m.gl hr hl r.length 0
 simp only [stU, stC, b62, Tryz.f62] at L
 simp (maxSteps := 2000000) only [sG, seval, x62, stU, b62, Tryz.f62, List.length_map]
 apply L _ _ _ _ [] (by simp) (by simp) (.inl Acc.nil)
 all_goals simp only [sG, seval] <;> rfl
theorem cPackR {m : Md} {r : Row} {tk : ATk} {H : Tr AO} {hs : Nat} (hr : ∀ v ∈ r, vright v = true) (hl : r.length < 10000) : callF tab (evw tab) m 62 [.lst tk (r.map encV)] H hs = some (.lst .no ((packR r).map encI), H, hs) :=
 callF_iso tcon rfl rfl (by simp only [bares, bare, bares_V, Bool.and_self]) (by simp only [nrms, nrm, nrms_V]; exact eqPackR hr hl)
theorem veq_iff {a b : Vl} : veq a b = true ↔ a = b := by
 obtain ⟨k, c, n, s⟩ := a
 obtain ⟨k', c', n', s'⟩ := b
 unfold veq
 simp only [Bool.and_eq_true, decide_eq_true_iff, beq_iff_eq, Vl.mk.injEq]
theorem vright_cases {v : Vl} (h : vright v = true) : v = v0 ∨ v = ⟨1, v.b, 0, []⟩ ∨ v = ⟨2, false, v.n, []⟩ ∨ (v = ⟨3, false, 0, v.s⟩ /\ v.s.length <= 60) := by
 unfold vright at h
 cases h0 : decide (v.k = 0) with
 | true => rw [h0] at h; exact .inl (veq_iff.1 h)
 | false =>
  cases h1 : decide (v.k = 1) with
  | true => rw [h0, h1] at h; exact .inr (.inl (veq_iff.1 h))
  | false =>
   cases h2 : decide (v.k = 2) with
   | true => rw [h0, h1, h2] at h; exact .inr (.inr (.inl (veq_iff.1 h)))
   | false =>
    cases h3 : decide (v.k = 3) with
    | true =>
     rw [h0, h1, h2, h3] at h
     simp only [cond_false, cond_true, Bool.and_eq_true, decide_eq_true_iff] at h
     exact .inr (.inr (.inr ⟨veq_iff.1 h.1, by omega⟩))
    | false => rw [h0, h1, h2, h3] at h; cases h
theorem cClean {m : Md} {v : Vl} {H : Tr AO} {hs : Nat} (hv : vright v = true) : callF tab (evw tab) m 84 [encV v] H hs = some (encV v, H, hs) := by
 have c0 := fun m H hs => @cNull m H hs
 have c1 := fun m H hs => @cBool m v.b H hs
 have c2 := fun m H hs => @cInt m v.n H hs
 have c3 := fun m H hs => @cText m v.s H hs
 refine callF_iso tcon rfl rfl rfl ?_
 refine iso_ret ?_
 rcases vright_cases hv with h | h | h | ⟨h, _⟩
 ·rw [h]
  simp only [encV, Vl.cs, v0] at c0
  simp (maxSteps := 2000000) only [sG, seval, x84, stU, b84, Tryz.f84, nrms, nrm, encV, Vl.cs, v0, c0, ldv, tt47, isAggD]
 ·rw [h]
  simp only [encV, Vl.cs] at c1
  simp (maxSteps := 2000000) only [sG, seval, x84, stU, b84, Tryz.f84, nrms, nrm, encV, Vl.cs, c1, ldv, tt47, isAggD]
 ·rw [h]
  simp only [encV, Vl.cs] at c2
  simp (maxSteps := 2000000) only [sG, seval, x84, stU, b84, Tryz.f84, nrms, nrm, encV, Vl.cs, c2, ldv, tt47, isAggD]
 ·rw [h]
  simp only [encV, Vl.cs] at c3
  simp (maxSteps := 2000000) only [sG, seval, x84, stU, b84, Tryz.f84, nrms, nrm, encV, Vl.cs, c3, ldv, tt47, isAggD]
structure Gb where
 k : List UInt8
 b : Nat
 t : T
def gkv (g : Gb) : AV × AV := (.str g.k, .ptr g.b 0)
def gfp (g : Gb) : List Nat := g.b :: g.t.ads
def gents (G : List Gb) (k : List UInt8) : List En := match G.find? (fun g => g.k == k) with
 | some g => g.t.es
 | none => []
abbrev kvs (es : List (AV × AV × Nat)) : List (AV × AV) := es.map fun e => (e.1, e.2.1)
theorem findE_G {key : List UInt8} : ∀ {G : List Gb} {es : List (AV × AV × Nat)} {i : Nat}, kvs es = G.map gkv ->
  (∃ j g, G[j]? = some g /\ g.k = key /\ G.find? (fun g => g.k == key) = some g /\ findE .string (.str key) es i = some (some (i + j, .ptr g.b 0))) ∨ ((∀ g ∈ G, g.k ≠ key) /\ G.find? (fun g => g.k == key) = none /\ findE .string (.str key) es i = some none)
 | [], [], i, _ => .inr ⟨fun _ h => (by cases h), rfl, rfl⟩
 | [], e :: es, i, h => by cases h
 | g :: G, [], i, h => by cases h
 | g :: G, (a, b, n) :: es, i, h => by
  simp only [kvs, List.map_cons, List.cons.injEq] at h
  obtain ⟨h1, h2⟩ := h
  unfold gkv at h1
  cases h1
  simp only [findE, keyEq, beq_comm' key g.k, List.find?_cons]
  cases hk : g.k == key with
  | true => exact .inl ⟨0, g, rfl, by simpa using hk, rfl, rfl⟩
  | false =>
   rcases findE_G (key := key) (i := i + 1) h2 with ⟨j, g', q1, q2, q3, q4⟩ | ⟨q1, q2, q3⟩
   ·exact .inl ⟨j + 1, g', by simpa using q1, q2, q3, by rw [q4, show i + 1 + j = i + (j + 1) by omega]⟩
   ·refine .inr ⟨fun g' hg' => ?_, q2, q3⟩
    rcases List.mem_cons.1 hg' with rfl | hg'
    ·intro e; rw [e, beq_self_eq_true] at hk; cases hk
    ·exact q1 g' hg'
structure IxAt (H : Tr AO) (hs I : Nat) (cols : List Int) (f : List UInt8 -> List En) (fp : List Nat) : Prop where
 ex : ∃ (M : Nat) (n : Int) (es : List (AV × AV × Nat)) (clk : Nat) (G : List Gb), H.get .dead I = .cells [.lst .no (cols.map encN), .mp M, .lit (.int .i64 n)] false /\ H.get .dead M = .map es clk /\ kvs es = G.map gkv /\
  (∀ g ∈ G, BagAt H hs g.b g.t) /\ fp = I :: M :: G.flatMap gfp /\ fp.Nodup /\ (G.map (·.k)).Nodup /\ (∀ k, gents G k = f k) /\ I < hs /\ M < hs
theorem BagAt.fr {H H' : Tr AO} {hs hs' B : Nat} {t : T} (h : BagAt H hs B t) (u : ∀ q, q ∈ B :: t.ads -> H'.get .dead q = H.get .dead q) (hh : hs <= hs') : BagAt H' hs' B t :=
 ⟨by rw [u B (by simp)]; exact h.c, ⟨h.g.m.frame fun q hq => u q (List.mem_cons_of_mem _ hq), h.g.nd, h.g.ok, h.g.sz⟩, fun q hq => by have := h.lt q hq; omega, by have := h.b; omega, h.nb, h.srt, h.sz, h.en⟩
theorem IxAt.fr {H H' : Tr AO} {hs hs' I : Nat} {cols : List Int} {f : List UInt8 -> List En} {fp : List Nat} (h : IxAt H hs I cols f fp) (u : ∀ q ∈ fp, H'.get .dead q = H.get .dead q) (hh : hs <= hs') : IxAt H' hs' I cols f fp := by
 obtain ⟨M, n, es, clk, G, h1, h2, h3, h4, rfl, h6, h7, h8, h9, h10⟩ := h
 refine ⟨M, n, es, clk, G, by rw [u I (by simp)]; exact h1, by rw [u M (by simp)]; exact h2, h3, fun g hg => (h4 g hg).fr (fun q hq => u q ?_) hh, rfl, h6, h7, h8, by omega, by omega⟩
 exact List.mem_cons_of_mem _ (List.mem_cons_of_mem _ (List.mem_flatMap.2 ⟨g, hg, hq⟩))
theorem IxAt.lt {H : Tr AO} {hs I : Nat} {cols : List Int} {f : List UInt8 -> List En} {fp : List Nat} (h : IxAt H hs I cols f fp) : ∀ q ∈ fp, q < hs := by
 obtain ⟨M, n, es, clk, G, h1, h2, h3, h4, rfl, h6, h7, h8, h9, h10⟩ := h
 intro q hq
 rcases List.mem_cons.1 hq with rfl | hq
 ·exact h9
 ·rcases List.mem_cons.1 hq with rfl | hq
  ·exact h10
  ·obtain ⟨g, hg, hq⟩ := List.mem_flatMap.1 hq
   rcases List.mem_cons.1 hq with rfl | hq
   ·exact (h4 g hg).b
   ·exact (h4 g hg).lt q hq
def keyB (r : Row) : List UInt8 := (packR r).map fun n => UInt8.ofNat n.toNat
theorem bytesOf_I : ∀ l : List Int, bytesOf (l.map encI) = some (l.map fun n => UInt8.ofNat n.toNat)
 | [] => rfl
 | n :: l => by
  have := bytesOf_I l
  show (match bytesOf (l.map encI) with | some r => some (UInt8.ofNat n.toNat :: r) | none => none) = _
  rw [this]; rfl
theorem ipn {p q : Operand} {o k : Nat} : binO tab .eql 77 p q (some (.ptr o k)) (some (.lit (.pointer none))) = some (.lit (.bool false)) := rfl
theorem packR_ne (r : Row) : decide (((packR r).length : Int) = 0) = false := by
 rw [decide_eq_false_iff_not]; unfold packR; simp; omega
theorem cPackRL {m : Md} {r : Row} {A : AV} {H : Tr AO} {hs : Nat} (hA : LstV A (r.map encV)) (hr : ∀ v ∈ r, vright v = true) (hl : r.length < 10000) : callF tab (evw tab) m 62 [A] H hs = some (.lst .no ((packR r).map encI), H, hs) := by
 rcases hA with ⟨e0, rfl⟩ | ⟨tk, rfl⟩
 ·have e1 : r = [] := List.map_eq_nil_iff.1 e0
  subst e1
  exact callF_iso tcon rfl rfl rfl (eqPackR hr hl)
 ·exact cPackR hr hl
theorem loopOfI {r : Row} {k1 : ATk} {gl : Tr (Option AV)} {H0 : Tr AO} {hs0 I M : Nat} {cols : List Int} {n : Int} {es : List (AV × AV × Nat)} {clk : Nat} {v : AV} (hr : ∀ v ∈ r, vright v = true) (hl : r.length < 10000) (hI : I < hs0) (hM : M < hs0)
  (h1 : H0.get .dead I = .cells [.lst .no (cols.map encN), .mp M, .lit (.int .i64 n)] false) (h2 : H0.get .dead M = .map es clk)
  (hv : ∀ H', H'.get .dead M = .map es clk -> lookupO .string (.lit (.pointer none)) false H' (some (.mp M)) (some (.str (keyB r))) = some v) :
  ∀ (k i : Nat) (t : Tr AV) (H : Tr AO) (hs : Nat) (A : AV), i + k = r.length -> hs0 <= hs -> (∀ q, q < hs0 -> H.get .dead q = H0.get .dead q) -> AccL hs0 H hs 4 A ((r.take i).map encV) ->
  t.get .any 0 = .ptr I 0 -> t.get .any 5 = A -> t.get .any 21 = .lst k1 (r.map encV) -> t.get .any 22 = .lit (.int .i64 r.length) -> t.get .any 23 = .lit (.int .i64 i) ->
  ∃ H' hs', W tab none (fin tab fi63) (lpc fi63 0) (lpk fi63 0) ⟨t, 45, H, hs, [], ⟨true, true, gl⟩⟩ = some (v, H', hs') /\ hs <= hs' /\ ∀ q, q < hs0 -> H'.get .dead q = H0.get .dead q := by
 have D := d63
 simp only [stD, stC, List.cons.injEq, b63, Tryz.f63] at D
 simp only [stU, stC, b63, Tryz.f63]
 simp only [keyB] at hv
 intro k
 induction k with
 | zero =>
  intro i t H hs A hi hh hu hA a0 a5 a21 a22 a23
  have e1 : decide ((i : Int) < (r).length) = false := dcF (by omega)
  rw [List.take_of_length_le (by omega)] at hA
  have hA' : LstV A (r.map encV) := by
   rcases hA with ⟨e0, rfl | rfl⟩ | ⟨r', rfl, _⟩
   ·exact .inl ⟨e0, rfl⟩
   ·rw [e0]; exact .inr ⟨_, rfl⟩
   ·exact .inr ⟨_, rfl⟩
  have c := fun m H hs => @cPackRL m r A H hs hA' hr hl
  have g1 : H.get .dead I = .cells [.lst .no (cols.map encN), .mp M, .lit (.int .i64 n)] false := by rw [hu I hI]; exact h1
  have hv' := hv H (by rw [hu M hM]; exact h2)
  have z := packR_ne r
  refine ⟨H, hs, ?_, Nat.le_refl _, hu⟩
  rw [W_loop]
  simp (maxSteps := 2000000) only [sGM, seval, x63, a0, a5, a22, a23, e1, c, z, D, g1, List.length_map, dMO, bytesOf_I, hv']
 | succ k ih =>
  intro i t H hs A hi hh hu hA a0 a5 a21 a22 a23
  have hlt : i < r.length := by omega
  have e1 : decide ((i : Int) < r.length) = true := dcT (by omega)
  have e3 : decide (0 <= (i : Int)) = true := dcT (by omega)
  have e4 : r[i]? = some r[i] := List.getElem?_eq_getElem _
  have e7 : r.take (i + 1) = r.take i ++ [r[i]] := List.take_succ_eq_append_getElem hlt
  generalize hvx : r[i] = x at e4 e7
  have e5 := wrap_succ (i := i) (by omega)
  have hm : x ∈ r := by rw [<- hvx]; exact List.getElem_mem _
  have c := fun m H hs => @cClean m x H hs (hr x hm)
  simp only [encV, Vl.cs] at c
  obtain ⟨t2, H5, hs5, p1, p2, p3, p4⟩ := (hA.upd (H' := (H.put .dead hs (.cells [.lit (.int .i64 0), .lit (.bool false), .lit (.int .i64 0), .str []] false)).put .dead hs (.cells x.cs false)) (Nat.le_succ hs) (fun q q1 q2 _ => by rw [Tr.get_put, if_neg (by omega), Tr.get_put, if_neg (by omega)])).app (b := 40) (agg := true) (tk := .full) (ys := [encV x]) (by omega) (by intro y hy; simp only [List.mem_singleton] at hy; rw [hy]; exact elV x) (by simp only [List.length_map, List.length_take, List.length_cons, List.length_nil]; omega)
  rw [show (r.take i).map encV ++ [encV x] = (r.take (i + 1)).map encV by rw [e7, List.map_append]; rfl] at p1 p2
  simp only [encV, Vl.cs] at p1
  have hg5 : H5.get .dead hs = .cells x.cs false := by
   rw [p4 hs (by omega) (.inr (by rw [Tr.get_put, if_pos rfl]; rfl)), Tr.get_put, if_pos rfl]
  rw [W_loop]
  simp (maxSteps := 2000000) only [sGAM, seval, stU, a5, a21, a22, a23, encV, Vl.cs, e1, e3, e4, e5, List.getElem?_map, Int.toNat_natCast, c, p1]
  have key : ∀ Z : Option (AV × Tr AO × Nat), (∃ H' hs', Z = some (v, H', hs') /\ hs5 <= hs' /\ ∀ q, q < hs0 -> H'.get .dead q = H0.get .dead q) -> (∃ H' hs', Z = some (v, H', hs') /\ hs <= hs' /\ ∀ q, q < hs0 -> H'.get .dead q = H0.get .dead q) := by
   rintro Z ⟨H', hs', x1, x2, x3⟩
   exact ⟨H', hs', x1, by omega, x3⟩
  apply key
  apply ih (i + 1) _ _ _ _ (by omega) (by omega) (fun q hq => by rw [p4 q (by omega) (.inl hq), Tr.get_put, if_neg (by omega), Tr.get_put, if_neg (by omega)]; exact hu q hq) p2
  all_goals first | (simp only [sG, seval, a0, a21, a22]; done) | (simp only [sG, seval, a0, a5, a21, a22, a23, encV]; rfl)
def LstE (A : AV) (l : List En) : Prop := (l = [] /\ A = .lit (.slice none 0 0)) ∨ ∃ tk, A = .lst tk (l.map encE)
theorem LstE.le {A : AV} {l : List En} (h : LstE A l) : LE A l := by
 rcases h with ⟨rfl, rfl⟩ | ⟨tk, rfl⟩
 ·exact ⟨rfl, rfl⟩
 ·exact LE.lst _ _
theorem LstE.len {A : AV} {l : List En} (h : LstE A l) : lenLO (some A) = some (.lit (.int .i64 l.length)) := by
 rcases h with ⟨rfl, rfl⟩ | ⟨tk, rfl⟩
 ·rfl
 ·simp only [lenLO, List.length_map]
theorem Acc.lstE {H : Tr AO} {hs : Nat} {A : AV} {l : List En} (h : Acc H hs 2 A (l.map encE)) : LstE A l := by
 rcases h with ⟨e0, rfl⟩ | ⟨r, rfl, _⟩
 ·exact .inl ⟨List.map_eq_nil_iff.1 e0, rfl⟩
 ·exact .inr ⟨_, rfl⟩
theorem cOfI {m : Md} {I : Nat} {cols : List Int} {f : List UInt8 -> List En} {fp : List Nat} {r : Row} {k1 : ATk} {H : Tr AO} {hs : Nat} (h : IxAt H hs I cols f fp) (hr : ∀ v ∈ r, vright v = true) (hl : r.length < 10000) (hlc : r.length = cols.length) :
  ∃ v H' hs', callF tab (evw tab) m 63 [.ptr I 0, .lst k1 (r.map encV)] H hs = some (v, H', hs') /\ hs <= hs' /\ Upb H H' [] hs /\ ((v = .lit (.pointer none) /\ f (keyB r) = []) ∨ ∃ B t, v = .ptr B 0 /\ BagAt H' hs' B t /\ t.es = f (keyB r)) := by
 obtain ⟨M, n, es, clk, G, h1, h2, h3, h4, h5, h6, h7, h8, h9, h10⟩ := h
 have z1 : decide ((r.length : Int) = (cols.length : Int)) = true := by rw [decide_eq_true_iff, hlc]
 have hlen : (cols.map encN).length = cols.length := List.length_map _
 have go : ∀ v, (∀ H', H'.get .dead M = .map es clk -> lookupO .string (.lit (.pointer none)) false H' (some (.mp M)) (some (.str (keyB r))) = some v) -> ∃ H' hs', callF tab (evw tab) m 63 [.ptr I 0, .lst k1 (r.map encV)] H hs = some (v, H', hs') /\ hs <= hs' /\ ∀ q, q < hs -> H'.get .dead q = H.get .dead q := by
  intro v hv
  have L := @loopOfI r k1 m.gl H hs I M cols n es clk v hr hl h9 h10 h1 h2 hv r.length 0
  simp only [stU, stC, b63, Tryz.f63] at L
  rw [callF_in (fi := fi63) tcon rfl rfl rfl]
  simp (maxSteps := 2000000) only [sG, seval, x63, stU, b63, Tryz.f63, ipn, h1, z1, List.length_map]
  apply L _ _ _ _ (by simp) (Nat.le_refl _) (fun _ _ => rfl) AccL.nil
  all_goals simp only [sG, seval] <;> rfl
 rcases findE_G (key := keyB r) (i := 0) h3 with ⟨j, g, q1, q2, q3, q4⟩ | ⟨q1, q2, q3⟩
 ·obtain ⟨H', hs', w1, w2, w3⟩ := go (.ptr g.b 0) (fun H' hH => by simp only [lookupO, hH, q4]; rfl)
  have hg : g ∈ G := List.mem_of_getElem? q1
  have hb := h4 g hg
  refine ⟨_, H', hs', w1, w2, fun q hq _ => w3 q hq, .inr ⟨g.b, g.t, rfl, hb.fr (fun q hq => w3 q ?_) w2, ?_⟩⟩
  ·rcases List.mem_cons.1 hq with rfl | hq
   ·exact hb.b
   ·exact hb.lt q hq
  ·rw [<- h8]; unfold gents; rw [q3]
 ·obtain ⟨H', hs', w1, w2, w3⟩ := go (.lit (.pointer none)) (fun H' hH => by simp only [lookupO, hH, q3]; rfl)
  refine ⟨_, H', hs', w1, w2, fun q hq _ => w3 q hq, .inl ⟨rfl, ?_⟩⟩
  rw [<- h8]; unfold gents; rw [q2]
theorem cFindI {m : Md} {I : Nat} {cols : List Int} {f : List UInt8 -> List En} {fp : List Nat} {r : Row} {k1 : ATk} {H : Tr AO} {hs : Nat} (h : IxAt H hs I cols f fp) (hr : ∀ v ∈ r, vright v = true) (hl : r.length < 10000) (hlc : r.length = cols.length) :
  ∃ A H' hs', callF tab (evw tab) m 41 [.ptr I 0, .lst k1 (r.map encV)] H hs = some (A, H', hs') /\ LstE A (f (keyB r)) /\ hs <= hs' /\ Upb H H' [] hs := by
 obtain ⟨v, H1, hs1, w1, l1, u1, hv⟩ := cOfI (m := ⟨true, true, m.gl⟩) (k1 := k1) h hr hl hlc
 rw [callF_in (fi := fi41) tcon rfl rfl rfl]
 rcases hv with ⟨rfl, h0⟩ | ⟨B, t, rfl, hb, ht⟩
 ·have c := fun m H hs => @cRows0 m H hs
  refine ⟨.lit (.slice none 0 0), H1, hs1, ?_, .inl ⟨h0, rfl⟩, l1, u1⟩
  simp (maxSteps := 2000000) only [sG, seval, x41, stU, b41, Tryz.f41, w1, c]
 ·obtain ⟨H2, hs2, A, w2, l2, a1, a2, u2⟩ := cRows (m := ⟨true, true, m.gl⟩) hb
  refine ⟨A, H2, hs2, ?_, by rw [<- ht]; exact a1.lstE, by omega, fun q q1 q2 => by rw [u2 q (by omega) q2, u1 q q1 q2]⟩
  simp (maxSteps := 2000000) only [sG, seval, x41, stU, b41, Tryz.f41, w1, w2]
theorem split_G {key : List UInt8} : ∀ {G : List Gb} {es : List (AV × AV × Nat)} {i : Nat}, kvs es = G.map gkv ->
  (∃ G1 g G2 es1 e es2, G = G1 ++ g :: G2 /\ es = es1 ++ e :: es2 /\ kvs es1 = G1.map gkv /\ kvs es2 = G2.map gkv /\ (e.1, e.2.1) = gkv g /\ (∀ g' ∈ G1, g'.k ≠ key) /\ g.k = key /\ findE .string (.str key) es i = some (some (i + es1.length, .ptr g.b 0))) ∨ ((∀ g ∈ G, g.k ≠ key) /\ findE .string (.str key) es i = some none)
 | [], [], i, _ => .inr ⟨fun _ h => (by cases h), rfl⟩
 | [], e :: es, i, h => by cases h
 | g :: G, [], i, h => by cases h
 | g :: G, (a, b, n) :: es, i, h => by
  simp only [kvs, List.map_cons, List.cons.injEq] at h
  obtain ⟨h1, h2⟩ := h
  unfold gkv at h1
  cases h1
  simp only [findE, keyEq, beq_comm' key g.k]
  cases hk : g.k == key with
  | true => exact .inl ⟨[], g, G, [], _, es, rfl, rfl, rfl, h2, rfl, fun _ h => (by cases h), by simpa using hk, rfl⟩
  | false =>
   have hne : g.k ≠ key := fun e => by rw [e, beq_self_eq_true] at hk; cases hk
   rcases split_G (key := key) (i := i + 1) h2 with ⟨G1, g', G2, es1, e, es2, q1, q2, q3, q4, q5, q6, q7, q8⟩ | ⟨q1, q3⟩
   ·refine .inl ⟨g :: G1, g', G2, _ :: es1, e, es2, by rw [q1]; rfl, by rw [q2]; rfl, ?_, q4, q5, fun g2 hg2 => ?_, q7, ?_⟩
    ·simp only [kvs, List.map_cons, List.cons.injEq]; exact ⟨rfl, q3⟩
    ·rcases List.mem_cons.1 hg2 with rfl | hg2
     ·exact hne
     ·exact q6 g2 hg2
    ·rw [q8]; simp only [List.length_cons]; rw [show i + 1 + es1.length = i + (es1.length + 1) by omega]
   ·refine .inr ⟨fun g' hg' => ?_, q3⟩
    rcases List.mem_cons.1 hg' with rfl | hg'
    ·exact hne
    ·exact q1 g' hg'
theorem modE_app {f : AV × AV × Nat -> AV × AV × Nat} : ∀ (a : List (AV × AV × Nat)) (e : AV × AV × Nat) (b : List (AV × AV × Nat)), modE f (a ++ e :: b) a.length = a ++ f e :: b
 | [], e, b => rfl
 | x :: a, e, b => by simp only [List.cons_append, List.length_cons, modE, modE_app a e b]
theorem erase_app {α : Type} : ∀ (a : List α) (e : α) (b : List α), (a ++ e :: b).eraseIdx a.length = a ++ b
 | [], e, b => rfl
 | x :: a, e, b => by simp only [List.cons_append, List.length_cons, List.eraseIdx_cons_succ, erase_app a e b]
theorem find_no {G : List Gb} {k : List UInt8} (h : ∀ g ∈ G, g.k ≠ k) : G.find? (fun g => g.k == k) = none := by
 rw [List.find?_eq_none]; intro g hg; have := h g hg; simpa using this
theorem gents_mid {G1 G2 : List Gb} {g : Gb} {k : List UInt8} (h : ∀ g' ∈ G1, g'.k ≠ g.k) : gents (G1 ++ g :: G2) k = if k = g.k then g.t.es else gents (G1 ++ G2) k := by
 unfold gents
 rw [List.find?_append, List.find?_append, List.find?_cons]
 by_cases e : k = g.k
 ·subst e
  rw [if_pos rfl, find_no h]
  simp
 ·rw [if_neg e]
  have : (g.k == k) = false := by cases hk : g.k == k with | false => rfl | true => exact absurd (by simpa using hk : g.k = k).symm e
  simp only [this]
theorem gents_no {G : List Gb} {k : List UInt8} (h : ∀ g ∈ G, g.k ≠ k) : gents G k = [] := by unfold gents; rw [find_no h]
theorem nodup_mid {x a b b' c : List Nat} {n : Nat} (h : (x ++ (a ++ (b ++ c))).Nodup) (hb : b'.Nodup) (hs : ∀ q ∈ b', q ∈ b ∨ n <= q) (hl : ∀ q ∈ x ++ (a ++ (b ++ c)), q < n) : (x ++ (a ++ (b' ++ c))).Nodup := by
 simp only [List.nodup_append, List.mem_append] at h hl ⊢
 obtain ⟨h1, ⟨h2, ⟨h3, h4, h5⟩, h6⟩, h7⟩ := h
 refine ⟨h1, ⟨h2, ⟨hb, h4, fun q hq r hr e => ?_⟩, fun q hq r hr e => ?_⟩, fun q hq r hr e => ?_⟩
 ·rcases hs q hq with h | h
  ·exact h5 q h r hr e
  ·have := hl r (.inr (.inr (.inr hr))); omega
 ·rcases hr with hr | hr
  ·rcases hs r hr with h | h
   ·exact h6 q hq r (.inl h) e
   ·have := hl q (.inr (.inl hq)); omega
  ·exact h6 q hq r (.inr hr) e
 ·rcases hr with hr | hr | hr
  ·exact h7 q hq r (.inl hr) e
  ·rcases hs r hr with h | h
   ·exact h7 q hq r (.inr (.inl h)) e
   ·have := hl q (.inl hq); omega
  ·exact h7 q hq r (.inr (.inr hr)) e
theorem BagAt.fpn {H : Tr AO} {hs B : Nat} {t : T} (h : BagAt H hs B t) : (B :: t.ads).Nodup := List.nodup_cons.2 ⟨h.nb, h.g.nd⟩
theorem pickR_mem {r : Row} : ∀ {cols : List Int} {l : Row}, pickR r cols = some l -> (∀ v ∈ l, v ∈ r) /\ l.length = cols.length
 | [], l, h => by cases h; exact ⟨fun _ h => (by cases h), rfl⟩
 | c :: cols, l, h => by
  unfold pickR at h
  cases hc : cellAt r c with
  | none => rw [hc] at h; cases h
  | some x =>
   rw [hc] at h
   simp only at h
   cases hp : pickR r cols with
   | none => rw [hp] at h; cases h
   | some l' =>
    rw [hp] at h
    cases h
    obtain ⟨h1, h2⟩ := pickR_mem hp
    refine ⟨fun v hv => ?_, by simp [h2]⟩
    rcases List.mem_cons.1 hv with rfl | hv
    ·unfold cellAt at hc
     cases hd : decide (c < 0) with
     | true => rw [hd] at hc; cases hc
     | false => rw [hd, cond_false] at hc; exact List.mem_of_getElem? hc
    ·exact h1 v hv
def updK (f : List UInt8 -> List En) (key : List UInt8) (l : List En) : List UInt8 -> List En := fun k => if k = key then l else f k
theorem rright_all {r : Row} (h : rright r = true) : (∀ v ∈ r, vright v = true) /\ r.length <= 40 := by
 unfold rright at h
 rw [Bool.and_eq_true, decide_eq_true_iff, List.all_eq_true] at h
 exact ⟨h.2, by omega⟩
theorem badd_err {l : List En} {r : Row} {m : Int} (h : (badd l r m).2 ≠ 0) : (badd l r m).1 = l := by
 unfold badd at h ⊢
 cases hr : rright r with
 | false => rfl
 | true =>
  rw [hr] at h
  cases hb : (bsum l r m).2 with
  | false => rfl
  | true => rw [hb] at h; exact absurd rfl h
theorem cAddI {m : Md} {I : Nat} {cols : List Int} {f : List UInt8 -> List En} {fp : List Nat} {r cells : Row} {n : Int} {H : Tr AO} {hs : Nat} (h : IxAt H hs I cols f fp) (hr : rright r = true) (hc : cols.length < 10000) (hp : pickR r cols = some cells) (hz : (f (keyB cells)).length + 1 < 100000000) :
  ∃ H' hs' fp' e, callF tab (evw tab) m 37 [.ptr I 0, .lst .no (r.map encV), .lit (.int .i64 n)] H hs = some (.lit (.int .i64 e), H', hs') /\ IxAt H' hs' I cols (updK f (keyB cells) (badd (f (keyB cells)) r n).1) fp' /\ hs <= hs' /\ Upb H H' fp hs /\ ∀ q ∈ fp', q ∈ fp ∨ hs <= q := by
 have h0 := h
 have hlt := h.lt
 obtain ⟨M, cnt, es, clk, G, h1, h2, h3, h4, h5, h6, h7, h8, h9, h10⟩ := h
 obtain ⟨hra, hrl⟩ := rright_all hr
 obtain ⟨pm, pl⟩ := pickR_mem hp
 have hcv : ∀ v ∈ cells, vright v = true := fun v hv => hra v (pm v hv)
 have D := d37
 simp only [stD, stC, List.cons.injEq, b37, Tryz.f37] at D
 have c1 := fun m H hs => @cPick m r cols .no .no H hs (by omega)
 rw [hp] at c1
 simp only [pickA] at c1
 have c2 := fun m H hs => @cRowRight m .no r H hs (by omega)
 simp only [hr] at c2
 have c3 := fun m H hs => @cPackR m cells .no H hs hcv (by omega)
 have hkb : (packR cells).map (fun n => UInt8.ofNat n.toNat) = keyB cells := rfl
 have nIM : I ≠ M := by rw [h5] at h6; exact fun e => (List.nodup_cons.1 h6).1 (by rw [e]; exact List.mem_cons_self)
 have f1 : (I = M) = False := eq_false nIM
 have f2 : (M = I) = False := eq_false nIM.symm
 have nI : ∀ q ∈ G.flatMap gfp, q ≠ I := by rw [h5] at h6; exact fun q hq e => (List.nodup_cons.1 h6).1 (by rw [<- e]; exact List.mem_cons_of_mem _ hq)
 have nM : ∀ q ∈ G.flatMap gfp, q ≠ M := by rw [h5] at h6; exact fun q hq e => (List.nodup_cons.1 (List.nodup_cons.1 h6).2).1 (by rw [<- e]; exact hq)
 rw [callF_in (fi := fi37) tcon rfl rfl rfl]
 have memL : ∀ (Ga : List Gb) (ga : Gb), ga ∈ Ga -> ∀ q ∈ gfp ga, q ∈ Ga.flatMap gfp := fun Ga ga hg q hq => List.mem_flatMap.2 ⟨ga, hg, hq⟩
 have hltG : ∀ q ∈ G.flatMap gfp, q < hs := fun q hq => hlt q (by rw [h5]; exact List.mem_cons_of_mem _ (List.mem_cons_of_mem _ hq))
 rcases split_G (key := keyB cells) (i := 0) h3 with ⟨G1, g, G2, es1, e, es2, rfl, rfl, q3, q4, q5, q6, q7, q8⟩ | ⟨q1, q3⟩
 ·
  have hg : g ∈ G1 ++ g :: G2 := by simp
  have hb := h4 g hg
  have hf0 : f (keyB cells) = g.t.es := by rw [<- h8, <- q7, gents_mid (by rw [q7]; exact q6), if_pos rfl]
  rw [hf0] at hz ⊢
  rw [T.es_len] at hz
  obtain ⟨H1, hs1, t1, w1, s1⟩ := cAdd (m := ⟨true, true, m.gl⟩) (r := r) (n := n) (by omega) hb hz
  have cL0 := fun m hs' => @cLen m g.b g.t H hs' hs hb
  have inI : I ∉ g.b :: g.t.ads := fun hq => nI I (memL _ g hg I hq) rfl
  have inM : M ∉ g.b :: g.t.ads := fun hq => nM M (memL _ g hg M hq) rfl
  have gI : H1.get .dead I = .cells [.lst .no (cols.map encN), .mp M, .lit (.int .i64 cnt)] false := by rw [s1.up I h9 inI]; exact h1
  have gM : H1.get .dead M = .map (es1 ++ e :: es2) clk := by rw [s1.up M h10 inM]; exact h2
  have lk : lookupO .string (.lit (.pointer none)) true H (some (.mp M)) (some (.str (keyB cells))) = some (.tup [.ptr g.b 0, .lit (.bool true)]) := by simp only [lookupO, h2, q8]; rfl
  have ad1 : ∀ q ∈ g.b :: t1.ads, q ∈ gfp g ∨ hs <= q := fun q hq => by
   rcases List.mem_cons.1 hq with rfl | hq
   ·exact .inl (by simp [gfp])
   ·rcases s1.ad q hq with h | h
    ·exact .inl (List.mem_cons_of_mem _ h)
    ·exact .inr h
  have inI1 : ∀ q ∈ g.b :: t1.ads, q ≠ I /\ q ≠ M := fun q hq => by
   rcases ad1 q hq with h | h
   ·exact ⟨nI q (memL _ g hg q h), nM q (memL _ g hg q h)⟩
   ·exact ⟨by omega, by omega⟩
  have fl : ∀ ga : Gb, (G1 ++ ga :: G2).flatMap gfp = G1.flatMap gfp ++ (gfp ga ++ G2.flatMap gfp) := fun ga => by simp
  have nd1 : ((I :: M :: []) ++ (G1.flatMap gfp ++ (gfp ⟨g.k, g.b, t1⟩ ++ G2.flatMap gfp))).Nodup := by
   refine nodup_mid (n := hs) (b := gfp g) (by rw [h5, fl] at h6; exact h6) s1.at_.fpn ad1 (fun q hq => hlt q (by rw [h5, fl]; exact hq))
  have sub1 : ∀ q ∈ I :: M :: (G1 ++ ⟨g.k, g.b, t1⟩ :: G2).flatMap gfp, q ∈ fp ∨ hs <= q := fun q hq => by
   rw [fl] at hq
   rw [h5, fl]
   simp only [List.mem_cons, List.mem_append] at hq ⊢
   rcases hq with rfl | rfl | hq | hq | hq
   ·simp
   ·simp
   ·exact .inl (.inr (.inr (.inl hq)))
   ·rcases ad1 q (by simpa [gfp] using hq) with h | h
    ·exact .inl (.inr (.inr (.inr (.inl h))))
    ·exact .inr h
   ·exact .inl (.inr (.inr (.inr (.inr hq))))
  have oth : ∀ ga ∈ G1 ++ G2, ∀ q ∈ gfp ga, q < hs /\ q ∉ g.b :: g.t.ads /\ q ≠ I /\ q ≠ M := fun ga hga q hq => by
   have hin : ga ∈ G1 ++ g :: G2 := by
    rcases List.mem_append.1 hga with h | h
    ·exact List.mem_append_left _ h
    ·exact List.mem_append_right _ (List.mem_cons_of_mem _ h)
   have hqf := memL _ ga hin q hq
   refine ⟨hltG q hqf, fun hq2 => ?_, nI q hqf, nM q hqf⟩
   rw [h5, fl] at h6
   have hnd := (List.nodup_cons.1 (List.nodup_cons.1 h6).2).2
   rw [List.nodup_append] at hnd
   obtain ⟨_, hn2, hn3⟩ := hnd
   rw [List.nodup_append] at hn2
   rcases List.mem_append.1 hga with h | h
   ·exact hn3 q (memL _ ga h q hq) q (List.mem_append_left _ hq2) rfl
   ·exact hn2.2.2 q hq2 q (memL _ ga h q hq) rfl
  have bags : ∀ H2 : Tr AO, (∀ q, q ≠ I -> q ≠ M -> H2.get .dead q = H1.get .dead q) -> (∀ ga ∈ G1 ++ G2, BagAt H2 hs1 ga.b ga.t) /\ BagAt H2 hs1 g.b t1 := fun H2 hu => by
   refine ⟨fun ga hga => ?_, s1.at_.fr (fun q hq => hu q (inI1 q hq).1 (inI1 q hq).2) (Nat.le_refl _)⟩
   have hin : ga ∈ G1 ++ g :: G2 := by
    rcases List.mem_append.1 hga with h | h
    ·exact List.mem_append_left _ h
    ·exact List.mem_append_right _ (List.mem_cons_of_mem _ h)
   refine (h4 ga hin).fr (fun q hq => ?_) s1.le
   obtain ⟨o1, o2, o3, o4⟩ := oth ga hga q hq
   rw [hu q o3 o4, s1.up q o1 o2]
  have upF : ∀ H2 : Tr AO, (∀ q, q ≠ I -> q ≠ M -> H2.get .dead q = H1.get .dead q) -> Upb H H2 fp hs := fun H2 hu q hq hn => by
   rw [h5, fl] at hn
   simp only [List.mem_cons, List.mem_append, not_or] at hn
   rw [hu q hn.1 hn.2.1, s1.up q hq (by simpa [gfp] using hn.2.2.2.1)]
  have hle := s1.le
  have mid : ∀ H2 : Tr AO, (∀ q, q ≠ I -> q ≠ M -> H2.get .dead q = H1.get .dead q) -> ∀ ga ∈ G1 ++ (⟨g.k, g.b, t1⟩ : Gb) :: G2, BagAt H2 hs1 ga.b ga.t := fun H2 hu ga hga => by
   rcases List.mem_append.1 hga with h | h
   ·exact (bags H2 hu).1 ga (List.mem_append_left _ h)
   ·rcases List.mem_cons.1 h with rfl | h
    ·exact (bags H2 hu).2
    ·exact (bags H2 hu).1 ga (List.mem_append_right _ h)
  have keys1 : ((G1 ++ (⟨g.k, g.b, t1⟩ : Gb) :: G2).map (·.k)).Nodup := by simpa using h7
  have gen1 : ∀ k, gents (G1 ++ (⟨g.k, g.b, t1⟩ : Gb) :: G2) k = updK f (keyB cells) (badd g.t.es r n).1 k := fun k => by
   rw [gents_mid (g := ⟨g.k, g.b, t1⟩) (by simpa [q7] using q6)]
   unfold updK
   show (if k = g.k then t1.es else _) = _
   rw [q7, s1.es]
   by_cases ek : k = keyB cells
   ·rw [if_pos ek, if_pos ek]
   ·rw [if_neg ek, if_neg ek, <- h8, gents_mid (by rw [q7]; exact q6), if_neg (by rw [q7]; exact ek)]
  cases e1 : decide ((badd g.t.es r n).2 = 0) with
  | false =>
   refine ⟨H1, hs1, I :: M :: (G1 ++ ⟨g.k, g.b, t1⟩ :: G2).flatMap gfp, (badd g.t.es r n).2, ?_, ⟨M, cnt, es1 ++ e :: es2, clk, G1 ++ ⟨g.k, g.b, t1⟩ :: G2, gI, gM, by simpa [gkv] using h3, mid H1 (fun _ _ _ => rfl), rfl, by rw [fl]; exact nd1, keys1, gen1, by omega, by omega⟩, hle, upF H1 (fun _ _ _ => rfl), sub1⟩
   simp (maxSteps := 2000000) only [sGAM, seval, x37, stU, b37, Tryz.f37, ipn, h1, c1, c2, c3, dMO, bytesOf_I, hkb, lk, cL0, w1, e1]
  | true =>
   have e1' := of_decide_eq_true e1
   have fI : ∀ X, ∀ q, q ≠ I -> q ≠ M -> (H1.put .dead I X).get .dead q = H1.get .dead q := fun X q q1 q2 => by rw [Tr.get_put, if_neg q1]
   have cL1 := fun m hs' X => @cLen m g.b t1 (H1.put .dead I X) hs' hs1 (bags _ (fI X)).2
   have cL2 := fun m hs' => @cLen m g.b t1 H1 hs' hs1 s1.at_
   have fIM : ∀ X Y, ∀ q, q ≠ I -> q ≠ M -> ((H1.put .dead I X).put .dead M Y).get .dead q = H1.get .dead q := fun X Y q q1 q2 => by rw [Tr.get_put, if_neg q2, Tr.get_put, if_neg q1]
   cases e2 : decide ((t1.sz : Int) = 0) with
   | true =>
    have ht0 : t1.es = [] := by
     have := of_decide_eq_true e2
     have h := T.es_len t1
     cases hx : t1.es with
     | nil => rfl
     | cons a l => rw [hx] at h; simp at h; omega
    refine ⟨(H1.put .dead I (.cells [.lst .no (cols.map encN), .mp M, .lit (.int .i64 (IntKind.i64.wrap (cnt + IntKind.i64.wrap ((t1.sz : Int) - (g.t.sz : Int)))))] false)).put .dead M (.map (es1 ++ es2) clk), hs1, I :: M :: (G1 ++ G2).flatMap gfp, 0, ?_, ⟨M, IntKind.i64.wrap (cnt + IntKind.i64.wrap ((t1.sz : Int) - (g.t.sz : Int))), es1 ++ es2, clk, G1 ++ G2, by rw [Tr.get_put, if_neg nIM, Tr.get_put, if_pos rfl], by rw [Tr.get_put, if_pos rfl], by simp [kvs] at q3 q4 ⊢; rw [q3, q4], (bags _ (fIM _ _)).1, rfl, ?_, ?_, ?_, by omega, by omega⟩, hle, upF _ (fIM _ _), ?_⟩
    ·simp (maxSteps := 2000000) only [sGAM, seval, x37, stU, b37, Tryz.f37, ipn, h1, c1, c2, c3, D, dMO, bytesOf_I, hkb, f2, lk, cL0, cL1, cL2, w1, e1', e2, gI, gM, q8, erase_app]
    ·rw [h5, fl] at h6
     have : ((I :: M :: []) ++ (G1.flatMap gfp ++ (gfp g ++ G2.flatMap gfp))).Nodup := h6
     have := nodup_mid (n := hs) (b' := []) this List.nodup_nil (fun _ h => by cases h) (fun q hq => hlt q (by rw [h5, fl]; exact hq))
     simpa using this
    ·have := h7
     simp only [List.map_append, List.map_cons, List.nodup_append, List.nodup_cons] at this ⊢
     exact ⟨this.1, this.2.1.2, fun a ha b hb => this.2.2 a ha b (List.mem_cons_of_mem _ hb)⟩
    ·intro k
     unfold updK
     by_cases ek : k = keyB cells
     ·rw [if_pos ek, <- s1.es, ht0]
      refine gents_no fun ga hga => ?_
      rw [ek]
      rcases List.mem_append.1 hga with h | h
      ·exact q6 ga h
      ·intro ee
       simp only [List.map_append, List.map_cons, List.nodup_append, List.nodup_cons] at h7
       exact h7.2.1.1 (List.mem_map.2 ⟨ga, h, by rw [ee, q7]⟩)
     ·rw [if_neg ek, <- h8, gents_mid (by rw [q7]; exact q6), if_neg (by rw [q7]; exact ek)]
    ·intro q hq
     refine .inl ?_
     rw [h5, fl]
     simp only [List.mem_cons, List.flatMap_append, List.mem_append] at hq ⊢
     rcases hq with h | h | h | h
     ·exact .inl h
     ·exact .inr (.inl h)
     ·exact .inr (.inr (.inl h))
     ·exact .inr (.inr (.inr (.inr h)))
   | false =>
    refine ⟨(H1.put .dead I (.cells [.lst .no (cols.map encN), .mp M, .lit (.int .i64 (IntKind.i64.wrap (cnt + IntKind.i64.wrap ((t1.sz : Int) - (g.t.sz : Int)))))] false)).put .dead M (.map (es1 ++ (.str (keyB cells), .ptr g.b 0, e.2.2) :: es2) clk), hs1, I :: M :: (G1 ++ ⟨g.k, g.b, t1⟩ :: G2).flatMap gfp, 0, ?_, ⟨M, IntKind.i64.wrap (cnt + IntKind.i64.wrap ((t1.sz : Int) - (g.t.sz : Int))), _, clk, G1 ++ ⟨g.k, g.b, t1⟩ :: G2, by rw [Tr.get_put, if_neg nIM, Tr.get_put, if_pos rfl], by rw [Tr.get_put, if_pos rfl], by simp [kvs, gkv, q7] at q3 q4 ⊢; rw [q3, q4], mid _ (fIM _ _), rfl, by rw [fl]; exact nd1, keys1, gen1, by omega, by omega⟩, hle, upF _ (fIM _ _), sub1⟩
    simp (maxSteps := 2000000) only [sGAM, seval, x37, stU, b37, Tryz.f37, ipn, h1, c1, c2, c3, D, dMO, bytesOf_I, hkb, f2, lk, cL0, cL1, cL2, w1, e1', e2, gI, gM, q8, mapUpdO, modE_app]
 ·
  have hf0 : f (keyB cells) = [] := by rw [<- h8]; exact gents_no q1
  rw [hf0]
  have cN := fun m H hs => @cNew m H hs
  have hbag := @bagNew H hs
  obtain ⟨H1, hs1, t1, w1, s1⟩ := cAdd (m := ⟨true, true, m.gl⟩) (r := r) (n := n) (by omega) hbag (by simp [T.sz])
  rw [show T.nil.es = ([] : List En) from rfl] at w1 s1
  have cL0 := fun m hs' => @cLen m hs .nil (H.put .dead hs (.cells [.lit (.pointer none), .lit (.int .i64 0)] false)) hs' (hs + 1) hbag
  have hle := s1.le
  have old : ∀ q, q < hs -> H1.get .dead q = H.get .dead q := fun q hq => by
   rw [s1.up q (by omega) (by simp [T.ads]; omega), Tr.get_put, if_neg (by omega)]
  have gI : H1.get .dead I = .cells [.lst .no (cols.map encN), .mp M, .lit (.int .i64 cnt)] false := by rw [old I h9]; exact h1
  have gM : H1.get .dead M = .map es clk := by rw [old M h10]; exact h2
  have lk : lookupO .string (.lit (.pointer none)) true H (some (.mp M)) (some (.str (keyB cells))) = some (.tup [.lit (.pointer none), .lit (.bool false)]) := by simp only [lookupO, h2, q3]; rfl
  have n1 : (I = hs) = False := eq_false (by omega)
  have n2 : (M = hs) = False := eq_false (by omega)
  have adN : ∀ q ∈ hs :: t1.ads, hs <= q := fun q hq => by
   rcases List.mem_cons.1 hq with rfl | hq
   ·exact Nat.le_refl _
   ·rcases s1.ad q hq with h | h
    ·cases h
    ·omega
  have fr2 : ∀ H2 : Tr AO, (∀ q, q ≠ I -> q ≠ M -> H2.get .dead q = H1.get .dead q) -> (∀ ga ∈ G, BagAt H2 hs1 ga.b ga.t) /\ BagAt H2 hs1 hs t1 := fun H2 hu => by
   refine ⟨fun ga hga => (h4 ga hga).fr (fun q hq => ?_) (by omega), s1.at_.fr (fun q hq => hu q (by have := adN q hq; omega) (by have := adN q hq; omega)) (Nat.le_refl _)⟩
   have hqf := memL G ga hga q hq
   rw [hu q (nI q hqf) (nM q hqf), old q (hltG q hqf)]
  have upF : ∀ H2 : Tr AO, (∀ q, q ≠ I -> q ≠ M -> H2.get .dead q = H1.get .dead q) -> Upb H H2 fp hs := fun H2 hu q hq hn => by
   rw [h5] at hn
   simp only [List.mem_cons, not_or] at hn
   rw [hu q hn.1 hn.2.1, old q hq]
  have fIM : ∀ X Y, ∀ q, q ≠ I -> q ≠ M -> ((H1.put .dead I X).put .dead M Y).get .dead q = H1.get .dead q := fun X Y q q1 q2 => by rw [Tr.get_put, if_neg q2, Tr.get_put, if_neg q1]
  have fI : ∀ X, ∀ q, q ≠ I -> q ≠ M -> (H1.put .dead I X).get .dead q = H1.get .dead q := fun X q q1 q2 => by rw [Tr.get_put, if_neg q1]
  have cL1 := fun m hs' X => @cLen m hs t1 (H1.put .dead I X) hs' hs1 (fr2 _ (fI X)).2
  have cL2 := fun m hs' => @cLen m hs t1 H1 hs' hs1 s1.at_
  have same : ∀ l : List En, l = [] -> ∀ k, gents G k = updK f (keyB cells) l k := fun l hl k => by
   unfold updK
   by_cases ek : k = keyB cells
   ·rw [if_pos ek, ek, gents_no q1, hl]
   ·rw [if_neg ek, h8]
  cases e1 : decide ((badd [] r n).2 = 0) with
  | false =>
   refine ⟨H1, hs1, fp, (badd [] r n).2, ?_, ⟨M, cnt, es, clk, G, gI, gM, h3, (fr2 H1 (fun _ _ _ => rfl)).1, h5, h6, h7, same _ (badd_err (of_decide_eq_false e1)), by omega, by omega⟩, by omega, upF H1 (fun _ _ _ => rfl), fun q hq => .inl hq⟩
   simp (maxSteps := 2000000) only [sGAM, seval, x37, stU, b37, Tryz.f37, ipn, h1, c1, c2, c3, dMO, bytesOf_I, hkb, lk, cN, cL0, w1, e1]
  | true =>
   have e1' := of_decide_eq_true e1
   cases e2 : decide ((t1.sz : Int) = 0) with
   | true =>
    have ht0 : t1.es = [] := by
     have := of_decide_eq_true e2
     have h := T.es_len t1
     cases hx : t1.es with
     | nil => rfl
     | cons a l => rw [hx] at h; simp at h; omega
    refine ⟨H1.put .dead I (.cells [.lst .no (cols.map encN), .mp M, .lit (.int .i64 (IntKind.i64.wrap (cnt + IntKind.i64.wrap ((t1.sz : Int) - (T.nil.sz : Int)))))] false), hs1, fp, 0, ?_, ⟨M, IntKind.i64.wrap (cnt + IntKind.i64.wrap ((t1.sz : Int) - (T.nil.sz : Int))), es, clk, G, by rw [Tr.get_put, if_pos rfl], by rw [Tr.get_put, if_neg nIM.symm]; exact gM, h3, (fr2 _ (fI _)).1, h5, h6, h7, same _ (by rw [<- s1.es]; exact ht0), by omega, by omega⟩, by omega, upF _ (fI _), fun q hq => .inl hq⟩
    simp (maxSteps := 2000000) only [sGAM, seval, x37, stU, b37, Tryz.f37, ipn, h1, c1, c2, c3, D, dMO, bytesOf_I, hkb, f2, lk, cN, cL0, cL1, cL2, w1, e1', e2, gI, gM, q3]
   | false =>
    refine ⟨(H1.put .dead I (.cells [.lst .no (cols.map encN), .mp M, .lit (.int .i64 (IntKind.i64.wrap (cnt + IntKind.i64.wrap ((t1.sz : Int) - (T.nil.sz : Int)))))] false)).put .dead M (.map (es ++ [(.str (keyB cells), .ptr hs 0, clk)]) (clk + 1)), hs1, I :: M :: (G ++ [(⟨keyB cells, hs, t1⟩ : Gb)]).flatMap gfp, 0, ?_, ⟨M, IntKind.i64.wrap (cnt + IntKind.i64.wrap ((t1.sz : Int) - (T.nil.sz : Int))), _, clk + 1, G ++ [(⟨keyB cells, hs, t1⟩ : Gb)], by rw [Tr.get_put, if_neg nIM, Tr.get_put, if_pos rfl], by rw [Tr.get_put, if_pos rfl], by simp [kvs, gkv] at h3 ⊢; rw [h3], fun ga hga => ?_, rfl, ?_, ?_, ?_, by omega, by omega⟩, by omega, upF _ (fIM _ _), ?_⟩
    ·simp (maxSteps := 2000000) only [sGAM, seval, x37, stU, b37, Tryz.f37, ipn, h1, c1, c2, c3, D, dMO, bytesOf_I, hkb, f2, lk, cN, cL0, cL1, cL2, w1, e1', e2, gI, gM, q3, mapUpdO]
    ·rcases List.mem_append.1 hga with h | h
     ·exact (fr2 _ (fIM _ _)).1 ga h
     ·simp only [List.mem_singleton] at h; subst h; exact (fr2 _ (fIM _ _)).2
    ·rw [h5] at h6
     have h6' : ((I :: M :: []) ++ (G.flatMap gfp ++ ([] ++ []))).Nodup := by simpa using h6
     have := nodup_mid (n := hs) (b' := hs :: t1.ads) h6' s1.at_.fpn (fun q hq => .inr (adN q hq)) (fun q hq => hlt q (by rw [h5]; simpa using hq))
     simpa [gfp] using this
    ·rw [List.map_append, List.nodup_append]
     refine ⟨h7, by simp, fun a ha b hb => ?_⟩
     simp only [List.map_cons, List.map_nil, List.mem_singleton] at hb
     obtain ⟨ga, hga, rfl⟩ := List.mem_map.1 ha
     rw [hb]; exact q1 ga hga
    ·intro k
     rw [gents_mid (g := ⟨keyB cells, hs, t1⟩) q1]
     unfold updK
     show (if k = keyB cells then t1.es else _) = _
     rw [s1.es, List.append_nil, h8]
    ·intro q hq
     simp only [List.mem_cons, List.flatMap_append, List.mem_append] at hq
     rw [h5]
     rcases hq with h | h | h | h
     ·exact .inl (by simp [h])
     ·exact .inl (by simp [h])
     ·exact .inl (List.mem_cons_of_mem _ (List.mem_cons_of_mem _ h))
     ·exact .inr (adN q (by simpa [gfp] using h))
def idxI (p : Int -> Bool) : List Int -> Nat -> Int
 | [], _ => -1
 | c :: l, i => bif p c then (i : Int) else idxI p l (i + 1)
theorem idxI_any {p : Int -> Bool} : ∀ {l : List Int} {i : Nat}, decide (0 <= idxI p l i) = l.any p
 | [], i => rfl
 | c :: l, i => by
  rw [idxI, List.any_cons]
  cases h : p c with
  | true => rw [cond_true, decide_eq_true_iff.2 (by omega)]; rfl
  | false => rw [cond_false, idxI_any (l := l)]; rfl
theorem loopIdxN {p : Int -> Bool} {gf : Nat} {caps : List AV} {l : List Int} {k1 : ATk} {gl : Tr (Option AV)} {H : Tr AO} {hs : Nat} (hn : tab.n gf = none) (hc : ∀ m c, callF tab (evw tab) m gf (.lit (.int .i64 c) :: caps) H hs = some (.lit (.bool (p c)), H, hs)) (hl : l.length < 1000000) : ∀ (k i : Nat) (t : Tr AV), i + k = l.length ->
  t.get .any 0 = .lst k1 (l.map encN) -> t.get .any 1 = .fn (.func gf) [] caps -> t.get .any 7 = .lit (.int .i64 l.length) -> t.get .any 8 = .lit (.int .i64 i) ->
  W tab none (fin tab fi53) (lpc fi53 0) (lpk fi53 0) ⟨t, 19, H, hs, [], ⟨true, true, gl⟩⟩ = some (.lit (.int .i64 (idxI p (l.drop i) i)), H, hs) := by
 simp only [stU, stC, b53, Tryz.f53]
 intro k
 induction k with
 | zero =>
  intro i t hi a0 a1 a7 a8
  have e1 : decide ((i : Int) < (l).length) = false := dcF (by omega)
  rw [W_loop, List.drop_of_length_le (by omega)]
  simp only [sG, seval, x53, a7, a8, e1, idxI]
 | succ k ih =>
  intro i t hi a0 a1 a7 a8
  have hlt : i < (l).length := by omega
  obtain ⟨c, hv, e1, e3, e4, e6, e7⟩ := atS hlt
  have e5 := wrap_succ (i := i) (by omega)
  rw [W_loop, e6, idxI]
  cases h1 : p c with
  | true =>
   have hC := fun m => hc m c
   simp only [h1] at hC
   simp only [sG, seval, x53, stU, encN, a0, a1, a7, a8, e1, e3, e4, List.getElem?_map, Int.toNat_natCast, hC, hn]
  | false =>
   have hC := fun m => hc m c
   simp only [h1] at hC
   simp only [sG, seval, stU, encN, a0, a1, a7, a8, e1, e3, e4, e5, List.getElem?_map, Int.toNat_natCast, hC, hn]
   apply ih (i + 1) _ (by omega)
   all_goals simp only [sG, seval, a0, a1, a7]
theorem cAnyN {m : Md} {p : Int -> Bool} {gf : Nat} {caps : List AV} {l : List Int} {k1 : ATk} {H : Tr AO} {hs : Nat} (hn : tab.n gf = none) (hc : ∀ m c, callF tab (evw tab) m gf (.lit (.int .i64 c) :: caps) H hs = some (.lit (.bool (p c)), H, hs)) (hl : l.length < 1000000) :
  callF tab (evw tab) m 27 [.lst k1 (l.map encN), .fn (.func gf) [] caps] H hs = some (.lit (.bool (l.any p)), H, hs) := by
 have c1 : ∀ m, callF tab (evw tab) m 53 [.lst k1 (l.map encN), .fn (.func gf) [] caps] H hs = some (.lit (.int .i64 (idxI p l 0)), H, hs) := by
  intro m
  have L := @loopIdxN p gf caps l k1 m.gl H hs hn hc hl l.length 0
  simp only [stU, stC, b53, Tryz.f53] at L
  rw [callF_in (fi := fi53) tcon rfl rfl rfl]
  simp only [sG, seval, x53, stU, b53, Tryz.f53, List.length_map]
  apply L
  ·simp
  all_goals simp only [sG, seval] <;> rfl
 have h2 := @idxI_any p l 0
 rw [callF_in (fi := fi27) tcon rfl rfl rfl]
 simp only [sG, seval, x27, stU, b27, Tryz.f27, c1, h2]
theorem cAnyN0 {m : Md} {f : AV} {H : Tr AO} {hs : Nat} : callF tab (evw tab) m 27 [.lit (.slice none 0 0), f] H hs = some (.lit (.bool false), H, hs) := by
 have c1 : ∀ m, callF tab (evw tab) m 53 [.lit (.slice none 0 0), f] H hs = some (.lit (.int .i64 (-1)), H, hs) := by
  intro m
  have z : decide ((0 : Int) < ((0 : Nat) : Int)) = false := rfl
  have z2 : decide ((0 : Int) < 0) = false := rfl
  rw [callF_in (fi := fi53) tcon rfl rfl rfl]
  simp only [sG, seval, x53, stU, b53, Tryz.f53, W_loop]
 have z3 : decide ((0 : Int) <= -1) = false := rfl
 rw [callF_in (fi := fi27) tcon rfl rfl rfl]
 simp only [sG, seval, x27, stU, b27, Tryz.f27, c1]
theorem cNew1 {m : Md} {c : Int} {H : Tr AO} {hs : Nat} : callF tab (evw tab) m 54 [.lit (.int .i64 c)] H hs = some (.lit (.bool (decide (c < 0) || decide (40 <= c))), H, hs) := by
 rw [callF_in (fi := fi54) tcon rfl rfl rfl]
 cases h1 : decide (c < 0) with
 | true => simp only [sG, seval, x54, stU, b54, Tryz.f54, h1]
 | false => cases h2 : decide (40 <= c) <;> simp only [sG, seval, x54, stU, b54, Tryz.f54, h1, h2]
theorem cBegin1 {m : Md} {c w : Int} {o : Nat} {H : Tr AO} {hs : Nat} (h : H.get .dead o = .cells [.lit (.int .i64 w)] false) : callF tab (evw tab) m 28 [.lit (.int .i64 c), .ptr o 0] H hs = some (.lit (.bool (decide (c < 0) || decide (w <= c))), H, hs) := by
 rw [callF_in (fi := fi28) tcon rfl rfl rfl]
 cases h1 : decide (c < 0) with
 | true => simp only [sG, seval, x28, stU, b28, Tryz.f28, h1]
 | false => cases h2 : decide (w <= c) <;> simp only [sG, seval, x28, stU, b28, Tryz.f28, h1, h2, h]
def LstN (A : AV) (l : List Int) : Prop := (l = [] /\ A = .lit (.slice none 0 0)) ∨ ∃ tk, A = .lst tk (l.map encN)
theorem cn1 {p q : Operand} : binO tab .eql 48 p q (some (.lit (.slice none 0 0))) (some (.lit (.slice none 0 0))) = some (.lit (.bool true)) := rfl
theorem cn2 {p q : Operand} : binO tab .eql 48 p q (some .emp) (some (.lit (.slice none 0 0))) = some (.lit (.bool false)) := rfl
theorem cn3 {p q : Operand} {tk : ATk} {e : AV} {l : List AV} : binO tab .eql 48 p q (some (.lst tk (e :: l))) (some (.lit (.slice none 0 0))) = some (.lit (.bool false)) := rfl
theorem eqCN_n {m : Md} : iso tab fi55 m [.lit (.slice none 0 0)] = some (.lst .no []) := by
 refine iso_ret ?_
 simp only [sG, seval, x55, stU, b55, Tryz.f55, cn1]
theorem eqCN_e {m : Md} : iso tab fi55 m [.emp] = some (.lst .no []) := by
 refine iso_ret ?_
 simp only [sG, seval, x55, stU, b55, Tryz.f55, cn2]
theorem eqCN {m : Md} {v : Int} {r : List Int} (hl : r.length < 999999) : iso tab fi55 m [.lst .no ((v :: r).map encN)] = some (.lst .no ((v :: r).map encN)) := by
 refine iso_ret ?_
 obtain ⟨H', h1, h2, h3⟩ := appF (H := .lf) (hs := 0) (sz := 1) (A := .lst .full []) (es := []) (.inr rfl) (fun _ h => by cases h) 8 false .no (encN v) (r.map encN) (fun z hz => by obtain ⟨n, _, rfl⟩ := List.mem_map.1 (show z ∈ (v :: r).map encN from hz); rfl) (by simp only [List.length_nil, List.length_cons, List.length_map]; omega)
 simp only [List.nil_append] at h1 h2
 have h4 : AccF H' 1 1 (.lst (.room 0) ((v :: r).map encN)) ((v :: r).map encN) := .inl h2
 obtain ⟨g1, g2⟩ := h4.bn bare_N nrm_N
 simp only [sGA, seval, x55, stU, b55, Tryz.f55, cn3, h1]
 exact ⟨g1, g2⟩
theorem cCloneN {m : Md} {A : AV} {l : List Int} {H : Tr AO} {hs : Nat} (hA : LstN A l) (hl : l.length < 999999) : callF tab (evw tab) m 55 [A] H hs = some (.lst .no (l.map encN), H, hs) := by
 have h1 : bares [A] = true /\ nrms [A] = [.lst .no (l.map encN)] := by
  rcases hA with ⟨rfl, rfl⟩ | ⟨tk, rfl⟩
  ·exact ⟨rfl, rfl⟩
  ·exact ⟨by simp only [bares, bare, bares_mapf bare_N l, Bool.and_self], by simp only [nrms, nrm, nrms_mapg nrm_N l]⟩
 refine callF_spl tcon rfl rfl h1.1 ?_
 rw [h1.2]
 cases l with
 | nil => exact isoX_nil rfl rfl eqCN_n eqCN_e rfl
 | cons v r => exact isoX_cons rfl rfl (eqCN (by simp at hl; omega))
theorem LstN.any {m : Md} {A : AV} {l : List Int} {p : Int -> Bool} {gf : Nat} {caps : List AV} {H : Tr AO} {hs : Nat} (hA : LstN A l) (hn : tab.n gf = none) (hc : ∀ m c, callF tab (evw tab) m gf (.lit (.int .i64 c) :: caps) H hs = some (.lit (.bool (p c)), H, hs)) (hl : l.length < 1000000) : callF tab (evw tab) m 27 [A, .fn (.func gf) [] caps] H hs = some (.lit (.bool (l.any p)), H, hs) := by
 rcases hA with ⟨rfl, rfl⟩ | ⟨tk, rfl⟩
 ·exact cAnyN0
 ·exact cAnyN hn hc hl
def colOk (w : Int) (l : List Int) : Bool := !l.any fun c => decide (c < 0) || decide (w <= c)
theorem cIxNew {m : Md} {A : AV} {l : List Int} {H : Tr AO} {hs : Nat} (hA : LstN A l) (hl : l.length < 999999) (hc : colOk 40 l = true) :
  callF tab (evw tab) m 29 [A] H hs = some (.tup [.ptr (hs + 1) 0, .lit (.int .i64 0)], (H.put .dead hs (.map [] 0)).put .dead (hs + 1) (.cells [.lst .no (l.map encN), .mp hs, .lit (.int .i64 0)] false), hs + 2) := by
 have c1 := fun m => @LstN.any m A l (fun c => decide (c < 0) || decide (40 <= c)) 54 [] H hs hA rfl (fun m c => cNew1) (by omega)
 have c2 := fun m H hs => @cCloneN m A l H hs hA hl
 have h1 : (l.any fun c => decide (c < 0) || decide (40 <= c)) = false := by unfold colOk at hc; simpa using hc
 simp only [h1] at c1
 rw [callF_in (fi := fi29) tcon rfl rfl rfl]
 simp (maxSteps := 2000000) only [sG, seval, x29, stU, b29, Tryz.f29, c1, c2]
theorem IxAt.new {H : Tr AO} {hs hs' : Nat} {cols : List Int} (hh : hs + 2 <= hs') (h1 : H.get .dead (hs + 1) = .cells [.lst .no (cols.map encN), .mp hs, .lit (.int .i64 0)] false) (h2 : H.get .dead hs = .map [] 0) : IxAt H hs' (hs + 1) cols (fun _ => []) [hs + 1, hs] :=
 ⟨hs, 0, [], 0, [], h1, h2, rfl, fun _ h => (by cases h), rfl, by simp, List.nodup_nil, fun _ => rfl, by omega, by omega⟩
structure SideAt (H : Tr AO) (hs S : Nat) (w : Int) (cols : List Int) (L : List En) (f : List UInt8 -> List En) (fp : List Nat) : Prop where
 ex : ∃ (A : AV) (B : Nat) (t : T) (I : Nat) (fpI : List Nat), H.get .dead S = .cells [.lit (.int .i64 w), A, .ptr B 0, .ptr I 0] false /\ LstN A cols /\ BagAt H hs B t /\ t.es = L /\ IxAt H hs I cols f fpI /\ fp = S :: ((B :: t.ads) ++ fpI) /\ fp.Nodup /\ S < hs
theorem SideAt.fr {H H' : Tr AO} {hs hs' S : Nat} {w : Int} {cols : List Int} {L : List En} {f : List UInt8 -> List En} {fp : List Nat} (h : SideAt H hs S w cols L f fp) (u : ∀ q ∈ fp, H'.get .dead q = H.get .dead q) (hh : hs <= hs') : SideAt H' hs' S w cols L f fp := by
 obtain ⟨A, B, t, I, fpI, h1, h2, h3, h4, h5, rfl, h7, h8⟩ := h
 refine ⟨A, B, t, I, fpI, by rw [u S (by simp)]; exact h1, h2, h3.fr (fun q hq => u q ?_) hh, h4, h5.fr (fun q hq => u q ?_) hh, rfl, h7, by omega⟩
 ·exact List.mem_cons_of_mem _ (List.mem_append_left _ hq)
 ·exact List.mem_cons_of_mem _ (List.mem_append_right _ hq)
theorem SideAt.lt {H : Tr AO} {hs S : Nat} {w : Int} {cols : List Int} {L : List En} {f : List UInt8 -> List En} {fp : List Nat} (h : SideAt H hs S w cols L f fp) : ∀ q ∈ fp, q < hs := by
 obtain ⟨A, B, t, I, fpI, h1, h2, h3, h4, h5, rfl, h7, h8⟩ := h
 intro q hq
 rcases List.mem_cons.1 hq with rfl | hq
 ·exact h8
 ·rcases List.mem_append.1 hq with hq | hq
  ·rcases List.mem_cons.1 hq with rfl | hq
   ·exact h3.b
   ·exact h3.lt q hq
  ·exact h5.lt q hq
theorem LstN.one {A : AV} {l : List Int} (h : LstN A l) : A.cells = [A] /\ oneCell A = true /\ flatOk A = true := by rcases h with ⟨_, rfl⟩ | ⟨_, rfl⟩ <;> exact ⟨rfl, rfl, rfl⟩
def begOk (w : Int) (l : List Int) : Bool := !(decide (w < 1) || decide (40 < w)) && colOk w l
theorem colOk_40 {w : Int} {l : List Int} (h : colOk w l = true) (hw : w <= 40) : colOk 40 l = true := by
 unfold colOk at h ⊢
 simp only [Bool.not_eq_true', List.any_eq_false, Bool.or_eq_true, decide_eq_true_iff, not_or] at h ⊢
 intro c hc
 have := h c hc
 omega
abbrev begH (H : Tr AO) (hs : Nat) (w : Int) (A : AV) (l : List Int) : Tr AO := ((((H.put .dead hs (.cells [.lit (.int .i64 w)] false)).put .dead (hs + 1) (.map [] 0)).put .dead (hs + 2) (.cells [.lst .no (l.map encN), .mp (hs + 1), .lit (.int .i64 0)] false)).put .dead (hs + 3) (.cells [.lit (.pointer none), .lit (.int .i64 0)] false)).put .dead (hs + 4) (.cells [.lit (.int .i64 w), A, .ptr (hs + 3) 0, .ptr (hs + 2) 0] false)
theorem cBegin {m : Md} {A : AV} {w : Int} {l : List Int} {H : Tr AO} {hs : Nat} (hA : LstN A l) (hl : l.length < 999999) :
  callF tab (evw tab) m 13 [.lit (.int .i64 w), A] H hs = (bif begOk w l then some (.tup [.ptr (hs + 4) 0, .lit (.int .i64 0)], begH H hs w A l, hs + 5) else some (.tup [.lit (.pointer none), .lit (.int .i64 2)], H.put .dead hs (.cells [.lit (.int .i64 w)] false), hs + 1)) := by
 have E := e13
 simp only [stX, stC, List.cons.injEq, b13, Tryz.f13] at E
 have g0 : (H.put .dead hs (.cells [.lit (.int .i64 w)] false)).get .dead hs = .cells [.lit (.int .i64 w)] false := by rw [Tr.get_put, if_pos rfl]
 have c1 := fun m => @LstN.any m A l (fun c => decide (c < 0) || decide (w <= c)) 28 [.ptr hs 0] (H.put .dead hs (.cells [.lit (.int .i64 w)] false)) (hs + 1) hA rfl (fun m c => cBegin1 g0) (by omega)
 have cN := fun m H hs => @cNew m H hs
 rw [callF_in (fi := fi13) tcon rfl rfl rfl]
 unfold begOk
 cases h1 : decide (w < 1) with
 | true => simp (maxSteps := 2000000) only [sG, seval, x13, stU, b13, Tryz.f13, h1]
 | false =>
  cases h2 : decide (40 < w) with
  | true => simp (maxSteps := 2000000) only [sG, seval, x13, stU, b13, Tryz.f13, h1, h2]
  | false =>
   have hw := of_decide_eq_false h2
   cases h3 : colOk w l with
   | false =>
    have h4 : (l.any fun c => decide (c < 0) || decide (w <= c)) = true := by unfold colOk at h3; simpa using h3
    simp only [h4] at c1
    simp (maxSteps := 2000000) only [sG, seval, x13, stU, b13, Tryz.f13, h1, h2, c1]
   | true =>
    have h4 : (l.any fun c => decide (c < 0) || decide (w <= c)) = false := by unfold colOk at h3; simpa using h3
    simp only [h4] at c1
    have c2 := fun m => @cIxNew m A l (H.put .dead hs (.cells [.lit (.int .i64 w)] false)) (hs + 1) hA hl (colOk_40 h3 (by omega))
    have q1 : Nat.ble (hs + 3) (hs + 4) = true := bleT (by omega)
    have nn : ∀ a b : Nat, a < b -> (hs + a = hs + b) = False := fun a b h => eq_false (by omega)
    simp (maxSteps := 2000000) only [sG, seval, x13, stU, b13, Tryz.f13, h1, h2, c1, c2, cN, dY, E, hA.one.1, hA.one.2.2, q1, Nat.add_assoc]
end Go.Proofs.YtancionamhenmaaGreat.Ev
