import Derived.Test.YtcledcfeddlomaaGreatDoorSO
set_option linter.all false
set_option maxRecDepth 100000
set_option maxHeartbeats 8000000
namespace Go.Proofs.YtcledcfeddlomaaGreatDoor.Ev
open Go Go.Proofs.YtcledcfeddlomaaGreatDoor.Ev Go.Proofs Go.Proofs.YtcledcfeddlomaaGreatDoor Go.Proofs.YtcledcfeddlomaaGreatDoor.Tab
def zS (n : Nat) : List AV := List.replicate n (.str [])
theorem flat_zS (n : Nat) : (List.replicate n (AV.cells (.str []))).flatten = zS n := by
 induction n with
 | zero => rfl
 | succ n ih => rw [List.replicate_succ, List.flatten_cons, ih]; rfl
theorem all_zS (n : Nat) : (zS n).all oneCell = true := by
 rw [List.all_eq_true]; intro x hx; rw [(List.mem_replicate.1 hx).2]; rfl
theorem len_zS (n : Nat) : (zS n).length = n := List.length_replicate
theorem q_capN {d : Option Tmp} {ty : TypeId} {pos : String} {after : Array Edge} {g : Option (Nat × Bool)} {x : Operand} {s : AS} (h : opd s x = some (.lit (.slice none 0 0))) : evOp tab (evw tab) ⟨d, .call ⟨.builtin .cap, #[x], #[39]⟩, ty, pos, after, g⟩ s = setT s d (.lit (.int .i64 0)) := by
 rw [ev_cap]
 have : pureOp tab s (.call ⟨.builtin .cap, #[x], #[39]⟩) = some (.lit (.int .i64 0)) := by
  show (match opd s x, tab.t 39 with
   | some (.slc _ _ _ (.ex c)), some ti => (match ti.desc with | .slice _ => some (AV.lit (.int .i64 c)) | _ => none)
   | some (.lit (.slice none _ c)), some ti => (match ti.desc with | .slice _ => some (AV.lit (.int .i64 c)) | _ => none)
   | _, _ => none) = _
  rw [h]; rfl
 rw [this]; rfl
theorem q_appN {d : Option Tmp} {ty : TypeId} {pos : String} {after : Array Edge} {g : Option (Nat × Bool)} {x y : Operand} {s : AS} {n : Nat} (h : opd s x = some (.lit (.slice none 0 0))) (h' : opd s y = some (.lit (.int .i64 (n : Int)))) (h0 : 0 < n) (h1 : n <= 1000000) :
  evOp tab (evw tab) ⟨d, .call ⟨.builtin .append, #[x, y], #[39, 3]⟩, ty, pos, after, g⟩ s = setE s d (some (.slc s.hs 0 n (.op 1), s.heap.put .dead s.hs (.cells (zS n) false), s.hs + 1)) := by
 have e : effOp tab s (.call ⟨.builtin .append, #[x, y], #[39, 3]⟩) = some (.slc s.hs 0 n (.op 1), s.heap.put .dead s.hs (.cells (zS n) false), s.hs + 1) := by
  have e1 : effOp tab s (.call ⟨.builtin .append, #[x, y], #[39, 3]⟩) = (match opd s x, opd s y with
   | some u, some (.lit (.int .i64 k)) => (bif Nat.blt 0 16 && Nat.blt 0 1 && decide ((AV.str []).cells.length = 1) && flatOk (.str []) && decide (0 < k /\ k <= 1000000 /\ k * ((16 : Nat) : Int) <= 281474976710656) then
     append' s.heap s.hs 1 16 u k.toNat (List.replicate k.toNat (AV.str []).cells).flatten else none)
   | _, _ => none) := by
   show (match opd s x, opd s y, tab.t 39, tab.t 3 with
    | some u, some v, some si, some yi => _
    | _, _, _, _ => none) = _
   rw [h, h']
   rfl
  rw [e1, h, h']
  have hd : decide (0 < (n : Int) /\ (n : Int) <= 1000000 /\ (n : Int) * ((16 : Nat) : Int) <= 281474976710656) = true := decide_eq_true (by omega)
  simp only [hd]
  show append' s.heap s.hs 1 16 (.lit (.slice none 0 0)) n (List.replicate n (AV.str []).cells).flatten = _
  rw [flat_zS]
  unfold append'
  rw [show Nat.beq n 0 = false from beqF (by omega), cond_false, all_zS, len_zS, Nat.mul_one, Nat.beq_refl]
  show (bif Nat.ble ((4 * n + 4000) * 16) 281474976710656 then _ else none) = _
  rw [bleT (by omega)]
  rfl
 rw [ev_append, e]
theorem q_appN' {d : Option Tmp} {ty : TypeId} {pos : String} {after : Array Edge} {g : Option (Nat × Bool)} {x y : Operand} {s s2 : AS} {d2 : Option Tmp} {n : Nat} {H : Tr AO} {hs a c : Nat} {p q : Bool} (h : opd s x = some (.lit (.slice none 0 0))) (h' : opd s y = some (.lit (.int .i64 (n : Int)))) (h0 : 0 < n) (h1 : n <= 1000000) :
  qI tab (evw tab) ⟨d, .call ⟨.builtin .append, #[x, y], #[39, 3]⟩, ty, pos, after, g⟩ s (fun _ => setE s2 d2 (appendO H hs p q a c (some (.lit (.slice none 0 0))) (some (.lit (.int .i64 (n : Int)))))) (lInf tab 3) = setE s d (some (.slc s.hs 0 n (.op 1), s.heap.put .dead s.hs (.cells (zS n) false), s.hs + 1)) := by
 rw [show lInf tab 3 = none from rfl]
 exact q_appN (d := d) (ty := ty) (pos := pos) (after := after) (g := g) h h' h0 h1
theorem cGrow {m : Md} {n : Nat} {H : Tr AO} {hs : Nat} (h0 : 0 < n) (h1 : n <= 1000000) : callF tab (evw tab) m 67 [.lit (.slice none 0 0), .lit (.int .i64 (n : Int))] H hs = some (.slc hs 0 0 (.op 1), H.put .dead hs (.cells (zS n) false), hs + 1) := by
 rw [callF_in (fi := fi67) tcon rfl rfl rfl]
 have g1 : decide ((n : Int) < 0) = false := decide_eq_false (by omega)
 have g2 : decide ((0 : Int) < (n : Int)) = true := decide_eq_true (by omega)
 have w1 : IntKind.i64.wrap ((n : Int) - 0) = n := by rw [Int.sub_zero]; exact wrap_i64 (by omega) (by omega)
 have w0 : IntKind.i64.wrap (0 : Int) = 0 := rfl
 have w2 : IntKind.i64.wrap (n : Int) = n := wrap_i64 (by omega) (by omega)
 have s1 : slcV hs 0 n (.op 1) 1 0 0 none = some (.slc hs 0 0 (.op 1)) := by
  show (bif Nat.ble 0 0 && Nat.ble 0 n && Nat.beq 1 1 then (bif Nat.blt 0 n || Nat.beq 0 0 then some (AV.slc hs (0 + 0 * 1) (0 - 0) (.op 1)) else some .emp) else none) = _
  rw [bleT (Nat.zero_le n), bltT h0]; rfl
 simp (maxSteps := 4000000) only [sGA, seval, x67, stU, b67, Tryz.f67, g1, g2, w0, w2, q_capN, q_appN', h0, h1, Int.sub_zero, dSL, s1]
theorem ttSs : ∃ i, tab.t 39 = some i /\ i.desc = .slice 9 := ⟨_, rfl, rfl⟩
theorem ttSw : ∃ i, tab.t 9 = some i /\ i.size = 1 /\ isAggD i.desc = false := ⟨_, rfl, rfl, rfl⟩
theorem chunkR : ∀ (l : List AV), chunk false 1 l.length l = l
 | [] => rfl
 | x :: l => by
  simp only [List.length_cons, chunk, cond_false, List.headD_cons, List.drop_succ_cons, List.drop_zero, chunkR l]
theorem oneSs : ∀ (R : List (List UInt8)), (R.map AV.str).all oneCell = true
 | [] => rfl
 | r :: R => by rw [List.map_cons, List.all_cons, oneSs R]; rfl
theorem frz_Ss {H : Tr AO} {e : List (List UInt8)} {Z : List AV} {b : Nat} (h4 : H.get .dead b = .cells (e.map AV.str ++ Z) false) : frz tab 300 39 (.slc b 0 e.length (.op 1)) H = some (.lst .no (e.map AV.str), H.put .dead b (.cells (e.map AV.str ++ Z) true)) := by
 obtain ⟨i, i1, i2⟩ := ttSs
 obtain ⟨j, j1, j2, j3⟩ := ttSw
 have hrd : rd H b 0 (e.length * 1) = some (e.map AV.str) := by
  unfold rd
  rw [h4]
  simp only [Nat.zero_add, List.drop_zero, Nat.mul_one]
  rw [show Nat.ble e.length (e.map AV.str ++ Z).length = true from ble_le.2 (by simp), cond_true, List.take_left' (by simp)]
 have hl : frzL (frz tab 299) (List.replicate e.length (cellTys tab 20 9)).flatten (e.map AV.str) (H.put .dead b (.cells (e.map AV.str ++ Z) true)) = some (e.map AV.str, H.put .dead b (.cells (e.map AV.str ++ Z) true)) := by
  rw [frzL_bare (d := 298) (by rw [List.length_map, show cellTys tab 20 9 = [9] from rfl]; simp) (bares_S e), nrms_S]
 have hcp : capOk e.length (.op 1) = true := rfl
 unfold frz
 simp only [bare, cond_false, i1, i2, j1, j2, j3, h4, hrd, hcp, hl, oneSs, Bool.and_true, Bool.false_or, Bool.true_and]
 rw [show Nat.blt 0 1 = true from rfl, cond_true, show Nat.beq 1 1 = true from rfl, cond_true]
 have := chunkR (e.map AV.str)
 rw [List.length_map] at this
 rw [this]
theorem appS {H : Tr AO} {hs o : Nat} {acc x : List (List UInt8)} {Z : Nat} (h : H.get .dead o = .cells (acc.map AV.str ++ zS Z) false) (hx : x ≠ []) (hl : x.length <= Z) (hb : acc.length + Z <= 1000000) :
  append' H hs 1 16 (.slc o 0 acc.length (.op 1)) x.length (x.map AV.str) = some (.slc o 0 (acc ++ x).length (.op 1), H.put .dead o (.cells ((acc ++ x).map AV.str ++ zS (Z - x.length)) false), hs) := by
 have hx0 : 0 < x.length := List.length_pos_iff.2 hx
 unfold append'
 rw [show Nat.beq x.length 0 = false from beqF (by omega), cond_false, oneSs, List.length_map, Nat.mul_one, Nat.beq_refl, Bool.and_self, cond_true]
 simp only [h]
 rw [show Nat.ble (0 + acc.length * 1) (acc.map AV.str ++ zS Z).length = true from bleT (by simp), show Nat.ble ((4 * (acc.length + x.length) + 4000) * 16) 281474976710656 = true from bleT (by omega), Bool.and_self, cond_true]
 rw [show Nat.beq 1 1 = true from rfl, Bool.not_false, Bool.and_self, cond_true, show Nat.ble (0 + (acc.length + x.length) * 1) (acc.map AV.str ++ zS Z).length = true from bleT (by simp [len_zS]; omega), cond_true]
 have hw : wr H o (0 + acc.length * 1) (x.map AV.str) = some (H.put .dead o (.cells ((acc ++ x).map AV.str ++ zS (Z - x.length)) false)) := by
  unfold wr
  rw [h]
  have e0 : 0 + acc.length * 1 = acc.length := by omega
  simp only [e0]
  rw [show Nat.ble (acc.length + (x.map AV.str).length) (acc.map AV.str ++ zS Z).length = true from bleT (by simp [len_zS]; omega), oneSs, Bool.and_self, cond_true]
  have e1 : splice (acc.map AV.str ++ zS Z) acc.length (x.map AV.str) = (acc ++ x).map AV.str ++ zS (Z - x.length) := by
   unfold splice
   rw [List.take_left' (by simp), List.drop_append, List.drop_of_length_le (by simp), List.nil_append, List.map_append, List.append_assoc]
   congr 2
   simp [zS]
  rw [e1]
 rw [hw, List.length_append]
theorem flat_S (x : List (List UInt8)) : (x.map AV.str).flatMap AV.cells = x.map AV.str := by
 induction x with
 | nil => rfl
 | cons a x ih => rw [List.map_cons, List.flatMap_cons, ih]; rfl
theorem size_S (x : List (List UInt8)) : (x.map AV.str).all (sizeOk 1) = true := by
 induction x with
 | nil => rfl
 | cons a x ih => rw [List.map_cons, List.all_cons, ih]; rfl
theorem appSO {H : Tr AO} {hs o : Nat} {acc x : List (List UInt8)} {Z : Nat} (h : H.get .dead o = .cells (acc.map AV.str ++ zS Z) false) (hl : x.length <= Z) (hb : acc.length + Z <= 1000000) :
  ∃ H', appendO H hs true false 1 16 (some (.slc o 0 acc.length (.op 1))) (some (.lst .no (x.map AV.str))) = some (.slc o 0 (acc ++ x).length (.op 1), H', hs) /\ H'.get .dead o = .cells ((acc ++ x).map AV.str ++ zS (Z - x.length)) false := by
 have e : appendO H hs true false 1 16 (some (.slc o 0 acc.length (.op 1))) (some (.lst .no (x.map AV.str))) = append' H hs 1 16 (.slc o 0 acc.length (.op 1)) x.length (x.map AV.str) := by
  show (match srcCells H 1 (.lst .no (x.map AV.str)) with
   | some (n, cs) => append' H hs 1 16 (.slc o 0 acc.length (.op 1)) n cs
   | none => none) = _
  have : srcCells H 1 (.lst .no (x.map AV.str)) = some (x.length, x.map AV.str) := by
   show (bif (x.map AV.str).all (sizeOk 1) then some ((x.map AV.str).length, (x.map AV.str).flatMap AV.cells) else none) = _
   rw [size_S, cond_true, flat_S, List.length_map]
  rw [this]
 rw [e]
 by_cases hx : x = []
 ·subst hx
  exact ⟨H, by rw [List.append_nil]; rfl, by simpa using h⟩
 ·exact ⟨_, appS h hx hl hb, by rw [Tr.get_put, if_pos rfl]⟩
def encSl (a : List (List UInt8)) : AV := .lst .no (a.map AV.str)
theorem loopCc2 {L : List (List (List UInt8))} {gl : Tr (Option AV)} {N o : Nat} (hL : L.length < 1000000) (hN : L.flatten.length = N) (hN1 : N <= 1000000) : ∀ (k i : Nat) (t : Tr AV) (H : Tr AO) (hs : Nat), i + k = L.length -> H.get .dead o = .cells ((L.take i).flatten.map AV.str ++ zS (N - (L.take i).flatten.length)) false ->
  t.get .any 25 = .lst .no (L.map encSl) -> t.get .any 26 = .lit (.int .i64 L.length) -> t.get .any 27 = .lit (.int .i64 i) -> t.get .any 6 = .slc o 0 (L.take i).flatten.length (.op 1) ->
  RetF tab fi41 (W tab none (fin tab fi41) (lpc fi41 1) (lpk fi41 1) ⟨t, 36, H, hs, [], ⟨true, true, gl⟩⟩) (.lst .no (L.flatten.map AV.str)) := by
 simp only [stU, stC, b41, Tryz.f41]
 intro k
 induction k with
 | zero =>
  intro i t H hs hi hH a25 a26 a27 a6
  have e1 : decide ((i : Int) < L.length) = false := dcF (by omega)
  have ht : L.take i = L := List.take_of_length_le (by omega)
  rw [ht] at hH a6
  rw [W_loop]
  simp (maxSteps := 4000000) only [sGA, seval, x41, stU, b41, Tryz.f41, a25, a26, a27, a6, e1]
  refine RetF_some.2 ?_
  show frzC tab [39] _ _ = _
  unfold frzC frzR
  simp only [bare, cond_false, frz_Ss hH, bares_S, nrms_S, cond_true, nrm]
 | succ k ih =>
  intro i t H hs hi hH a25 a26 a27 a6
  have hlt : i < (L).length := by omega
  obtain ⟨x, hv, e1, e3, e4, e6, e7⟩ := atS hlt
  have e5 := wrap_succ (i := i) (by omega)
  have hf : (L.take (i + 1)).flatten = (L.take i).flatten ++ x := by rw [e7]; simp
  have hle : (L.take i).flatten.length + x.length <= N := by
   have h2 : L = L.take (i + 1) ++ L.drop (i + 1) := (List.take_append_drop _ _).symm
   have h3 : L.flatten.length = (L.take (i + 1)).flatten.length + (L.drop (i + 1)).flatten.length := by
    rw [<- List.length_append, <- List.flatten_append, List.take_append_drop]
   rw [hf, List.length_append] at h3
   omega
  obtain ⟨H', hA, hH'⟩ := appSO (hs := hs) (x := x) hH (by omega) (by omega)
  rw [W_loop]
  simp (maxSteps := 4000000) only [sGA, seval, x41, stU, b41, Tryz.f41, encSl, a25, a26, a27, a6, e1, e3, e4, e5, lG, hA]
  apply ih (i + 1) _ _ _ (by omega) (by rw [hf, hH', List.length_append]; congr 3; omega)
  all_goals simp only [sG, seval, encSl, a25, a26, a27, a6, hf]
theorem loopCc1 {L : List (List (List UInt8))} {gl : Tr (Option AV)} {N : Nat} (hL : L.length < 1000000) (hN : L.flatten.length = N) (hN0 : 0 < N) (hN1 : N <= 1000000) : ∀ (k i : Nat) (t : Tr AV) (H : Tr AO) (hs : Nat), i + k = L.length ->
  t.get .any 0 = .lst .no (L.map encSl) -> t.get .any 9 = .lst .no (L.map encSl) -> t.get .any 10 = .lit (.int .i64 L.length) -> t.get .any 11 = .lit (.int .i64 i) -> t.get .any 3 = .lit (.int .i64 ((L.take i).flatten.length : Nat)) ->
  RetF tab fi41 (W tab none (fin tab fi41) (lpc fi41 0) (lpk fi41 0) ⟨t, 36, H, hs, [], ⟨true, true, gl⟩⟩) (.lst .no (L.flatten.map AV.str)) := by
 simp only [stU, stC, b41, Tryz.f41]
 intro k
 induction k with
 | zero =>
  intro i t H hs hi a0 a9 a10 a11 a3
  have e1 : decide ((i : Int) < L.length) = false := dcF (by omega)
  have ht : L.take i = L := List.take_of_length_le (by omega)
  rw [ht, hN] at a3
  have cg := fun m H hs => @cGrow m N H hs hN0 hN1
  have L2 := @loopCc2 L gl N hs hL hN hN1 L.length 0
  simp only [stU, stC, b41, Tryz.f41] at L2
  rw [W_loop]
  simp (maxSteps := 4000000) only [sGA, seval, x41, stU, b41, Tryz.f41, a0, a9, a10, a11, a3, e1, cg, List.length_map]
  apply L2
  ·simp
  ·simp only [sG, seval]
   simp
  all_goals simp only [sG, seval, a0]
  all_goals rfl
 | succ k ih =>
  intro i t H hs hi a0 a9 a10 a11 a3
  have hlt : i < (L).length := by omega
  obtain ⟨x, hv, e1, e3, e4, e6, e7⟩ := atS hlt
  have e5 := wrap_succ (i := i) (by omega)
  have hf : (L.take (i + 1)).flatten = (L.take i).flatten ++ x := by rw [e7]; simp
  have hle : (L.take i).flatten.length + x.length <= N := by
   have h3 : L.flatten.length = (L.take (i + 1)).flatten.length + (L.drop (i + 1)).flatten.length := by
    rw [<- List.length_append, <- List.flatten_append, List.take_append_drop]
   rw [hf, List.length_append] at h3
   omega
  generalize hq : (L.take i).flatten.length = q at a3 hle
  have w1 : IntKind.i64.wrap ((q : Int) + x.length) = (q : Int) + x.length := wrap_i64 (by omega) (by omega)
  have g1 : decide ((q : Int) + x.length < 0) = false := decide_eq_false (by omega)
  rw [W_loop]
  simp (maxSteps := 4000000) only [sGA, seval, x41, stU, b41, Tryz.f41, encSl, a0, a9, a10, a11, a3, e1, e3, e4, e5, lG, w1, g1]
  apply ih (i + 1) _ _ _ (by omega)
  all_goals simp only [sG, seval, encSl, a0, a9, a10, a11, a3, hf, hq, List.length_append]
  all_goals try rfl
theorem bares_Sl (L : List (List (List UInt8))) : bares (L.map encSl) = true := bares_mapg (f := encSl) (fun a => by show bares (a.map AV.str) = true; exact bares_S a) L
theorem nrms_Sl (L : List (List (List UInt8))) : nrms (L.map encSl) = L.map encSl := nrms_mapg (f := encSl) (fun a => by show AV.lst .no (nrms (a.map AV.str)) = _; rw [nrms_S]; rfl) L
theorem eqConcat {m : Md} {L : List (List (List UInt8))} (hL : L.length < 1000000) (h0 : 0 < L.flatten.length) (h1 : L.flatten.length <= 1000000) : iso tab fi41 m [.lst .no (L.map encSl)] = some (.lst .no (L.flatten.map AV.str)) := by
 refine iso_retF ?_
 have L1 := @loopCc1 L m.gl _ hL rfl h0 h1 L.length 0
 simp only [stU, stC, b41, Tryz.f41] at L1
 simp (maxSteps := 4000000) only [sGA, seval, x41, stU, b41, Tryz.f41, List.length_map]
 apply L1
 ·simp
 all_goals simp only [sG, seval]
 all_goals try rfl
theorem cConcat {m : Md} {k1 : ATk} {L : List (List (List UInt8))} {H : Tr AO} {hs : Nat} (hL : L.length < 1000000) (h0 : 0 < L.flatten.length) (h1 : L.flatten.length <= 1000000) : callF tab (evw tab) m 41 [.lst k1 (L.map encSl)] H hs = some (.lst .no (L.flatten.map AV.str), H, hs) :=
 callF_iso tcon rfl rfl (by simp only [bares, bare, bares_Sl, Bool.and_self]) (by simp only [nrms, nrm, nrms_Sl]; exact eqConcat hL h0 h1)
end Go.Proofs.YtcledcfeddlomaaGreatDoor.Ev
