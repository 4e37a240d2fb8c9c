import Derived.Test.YtcledcfeddlomaaGreatDoorB8
set_option linter.all false
set_option maxRecDepth 100000
set_option maxHeartbeats 8000000
namespace Go.Proofs.YtcledcfeddlomaaGreatDoor.Ev
open Go Go.Proofs.YtcledcfeddlomaaGreatDoor.Ev Go.Proofs Go.Proofs.YtcledcfeddlomaaGreatDoor Go.Proofs.YtcledcfeddlomaaGreatDoor.Tab
def NodeR (q : Int) (n : Nd) : Prop := ∀ (B : Nat) (ws : List (List UInt8)) (left : Int) (H : Tr AO) (hs : Nat), (textN n ++ ws).length < 700000 -> (cntN n : Int) <= left -> left <= 1000 -> B < hs -> H.get .dead B = RdC (textN n ++ ws) left ->
 ∃ H' hs' a, callF tab (evw tab) ⟨true, true, glK q⟩ 30 [.ptr B 0] H hs = some (a, H', hs') /\ NdB H' hs hs' a n /\ RdQ H hs B ws (left - cntN n) H' hs'
theorem ls_cells {X : AV} {l : List AV} (h : LsN X l) : X.cells = [X] /\ flatOk X = true /\ oneCell X = true := by
 obtain ⟨_, h⟩ := h
 cases X with
 | lst tk es => exact ⟨rfl, rfl, rfl⟩
 | emp => exact ⟨rfl, rfl, rfl⟩
 | lit v => cases v with
  | slice a n c => exact ⟨rfl, rfl, rfl⟩
  | _ => simp [nrm] at h
 | _ => simp [nrm] at h
theorem nd_cells {H : Tr AO} {lo hs : Nat} {a : AV} {n : Nd} (h : NdB H lo hs a n) : a.cells = [a] /\ flatOk a = true /\ oneCell a = true := by
 cases n with
 | nil => have h : a = .lit (.pointer none) := h; subst h; exact ⟨rfl, rfl, rfl⟩
 | mk => obtain ⟨o, _, _, _, _, _, _, rfl, _⟩ := h; exact ⟨rfl, rfl, rfl⟩
theorem node1 {q : Int} {nm : List UInt8} {w : Int} (hw : okNum w) : NodeR q (.mk 1 nm w [] [] [] 0 0 .nil .nil) := by
 intro B ws left H hs hlen hleft hl2 hBh hB
 have ht : textN (.mk 1 nm w [] [] [] 0 0 .nil .nil) ++ ws = kw 1 :: nm :: numT w :: ws := rfl
 have hc : (cntN (.mk 1 nm w [] [] [] 0 0 .nil .nil) : Int) = 1 := rfl
 rw [hc] at hleft ⊢
 rw [ht] at hB hlen
 simp only [List.length_cons] at hlen
 have n0 : (hs = B) = False := eq_false (by omega)
 have n1 : (B = hs) = False := eq_false (by omega)
 have w0 : IntKind.i64.wrap (left - 1) = left - 1 := wrap_i64 (by omega) (by omega)
 have e0 : decide (left - 1 < 0) = false := dcF (by omega)
 have cn := fun m H hs => @cNames m H hs
 have cx := fun H hs => @cIndexK q 1 (.inl rfl) H hs
 have c1 := fun m H hs h => @cWord m B (kw 1) (nm :: numT w :: ws) (left - 1) H hs (by simp; omega) h
 have c2 := fun m H hs h => @cWord m B nm (numT w :: ws) (left - 1) H hs (by simp; omega) h
 have c3 := fun lm tx H hs h => @cNumber q B w ws (left - 1) H hs lm tx hw.1 hw.2 (by omega) h
 simp only [RdC] at hB c1 c2 c3
 rw [callF_in (fi := fi30) tcon rfl rfl rfl]
 refine ⟨?xx, ?yy, ?zz, ?aa, ?bb⟩
 case aa =>
  simp (maxSteps := 4000000) only [sG, seval, x30, stU, b30, Tryz.f30, hB, n0, n1, w0, e0, cn, c1, c2, c3, cx]
  rfl
 case bb =>
  refine ⟨⟨hs, false, .lit (.pointer none), .lit (.pointer none), .lit (.slice none 0 0), .lit (.slice none 0 0), .lit (.slice none 0 0), rfl, Nat.le_refl _, Nat.lt_succ_self _, ?_, ls_nil, ls_nil, ls_nil, rfl, rfl⟩, ?_, Nat.le_succ _, fun p p1 p2 p3 => ?_⟩
  ·simp only [Tr.get_put, n0, n1, if_true, if_false]; rfl
  ·simp only [Tr.get_put, n0, n1, if_true, if_false]; rfl
  ·repeat rw [Tr.get_put, if_neg (by omega)]
theorem node2 {q : Int} {cs : List Cd} {l : Nd} (hn : ∀ c ∈ cs, okNum c.l /\ okNum c.op /\ okNum c.r /\ okV c) (hlen0 : cs.length <= 60) (ihl : NodeR q l) : NodeR q (.mk 2 [] 0 cs [] [] 0 0 l .nil) := by
 intro B ws left H hs hlen hleft hl2 hBh hB
 have ht : textN (.mk 2 [] 0 cs [] [] 0 0 l .nil) ++ ws = kw 2 :: numT (cs.length : Int) :: (cwL cs ++ (textN l ++ ws)) := by
  rw [textN, ownW_kw, ownX]
  simp [textN]
 have hc : (cntN (.mk 2 [] 0 cs [] [] 0 0 l .nil) : Int) = 1 + (cntN l : Int) := by simp [cntN]
 rw [hc] at hleft ⊢
 rw [ht] at hB hlen
 simp only [List.length_cons, List.length_append] at hlen
 have n0 : (hs = B) = False := eq_false (by omega)
 have n1 : (B = hs) = False := eq_false (by omega)
 have w0 : IntKind.i64.wrap (left - 1) = left - 1 := wrap_i64 (by omega) (by omega)
 have e0 : decide (left - 1 < 0) = false := dcF (by omega)
 have cn := fun m H hs => @cNames m H hs
 have cx := fun H hs => @cIndexK q 2 (.inr (.inl rfl)) H hs
 have c1 := fun m H hs h => @cWord m B (kw 2) (numT (cs.length : Int) :: (cwL cs ++ (textN l ++ ws))) (left - 1) H hs (by simp only [List.length_cons, List.length_append]; omega) h
 obtain ⟨M1, hM1⟩ : ∃ M1 : Tr AO, M1 = ((H.put .dead B (RdC (kw 2 :: numT (cs.length : Int) :: (cwL cs ++ (textN l ++ ws))) (left - 1))).put .dead B (RdC (numT (cs.length : Int) :: (cwL cs ++ (textN l ++ ws))) (left - 1))).put .dead hs (.cells (nodeC 2 [] 0 (.lit (.slice none 0 0)) (.lit (.slice none 0 0)) (.lit (.slice none 0 0)) 0 0 (.lit (.pointer none)) (.lit (.pointer none))) false) := ⟨_, rfl⟩
 have m1B : M1.get .dead B = RdC (numT (cs.length : Int) :: (cwL cs ++ (textN l ++ ws))) (left - 1) := by rw [hM1, Tr.get_put, if_neg (by omega), Tr.get_put, if_pos rfl]
 have m1h : M1.get .dead hs = (.cells (nodeC 2 [] 0 (.lit (.slice none 0 0)) (.lit (.slice none 0 0)) (.lit (.slice none 0 0)) 0 0 (.lit (.pointer none)) (.lit (.pointer none))) false) := by rw [hM1, Tr.get_put, if_pos rfl]
 have m1p : ∀ p, p < hs -> p ≠ B -> M1.get .dead p = H.get .dead p := fun p p1 p2 => by rw [hM1, Tr.get_put, if_neg (by omega), Tr.get_put, if_neg p2, Tr.get_put, if_neg p2]
 obtain ⟨H2, hs2, X, e1, x1, y1, y2, y3⟩ := @cSomeCd q B cs (textN l ++ ws) (left - 1) M1 (hs + 1) hn (by omega) (by simp only [List.length_cons, List.length_append]; omega) (by omega) m1B
 have g1 : H2.get .dead hs = (.cells (nodeC 2 [] 0 (.lit (.slice none 0 0)) (.lit (.slice none 0 0)) (.lit (.slice none 0 0)) 0 0 (.lit (.pointer none)) (.lit (.pointer none))) false) := by rw [y3 hs (by omega) (by omega) (by rw [m1h]; rfl), m1h]
 have p1 : ∀ p, p < hs -> p ≠ B -> (H.get .dead p).isRoom = false -> H2.get .dead p = H.get .dead p := fun p a1 a2 a3 => by
  have := m1p p a1 a2
  rw [y3 p (by omega) a2 (by rw [this]; exact a3), this]
 obtain ⟨M2, hM2⟩ : ∃ M2 : Tr AO, M2 = H2.put .dead hs (.cells (nodeC 2 [] 0 X (.lit (.slice none 0 0)) (.lit (.slice none 0 0)) 0 0 (.lit (.pointer none)) (.lit (.pointer none))) false) := ⟨_, rfl⟩
 have m2B : M2.get .dead B = RdC (textN l ++ ws) (left - 1) := by rw [hM2, Tr.get_put, if_neg (by omega), y1]
 have m2h : M2.get .dead hs = (.cells (nodeC 2 [] 0 X (.lit (.slice none 0 0)) (.lit (.slice none 0 0)) 0 0 (.lit (.pointer none)) (.lit (.pointer none))) false) := by rw [hM2, Tr.get_put, if_pos rfl]
 have m2p : ∀ p, p < hs -> p ≠ B -> (H.get .dead p).isRoom = false -> M2.get .dead p = H.get .dead p := fun p a1 a2 a3 => by rw [hM2, Tr.get_put, if_neg (by omega), p1 p a1 a2 a3]
 obtain ⟨H3, hs3, la, e2, z1, z2, z3, z4⟩ := ihl B ws (left - 1) M2 hs2 (by simp only [List.length_append]; omega) (by omega) (by omega) (by omega) m2B
 have g2 : H3.get .dead hs = (.cells (nodeC 2 [] 0 X (.lit (.slice none 0 0)) (.lit (.slice none 0 0)) 0 0 (.lit (.pointer none)) (.lit (.pointer none))) false) := by rw [z4 hs (by omega) (by omega) (by rw [m2h]; rfl), m2h]
 have p3 : ∀ p, p < hs -> p ≠ B -> (H.get .dead p).isRoom = false -> H3.get .dead p = H.get .dead p := fun p a1 a2 a3 => by
  have := m2p p a1 a2 a3
  rw [z4 p (by omega) a2 (by rw [this]; exact a3), this]
 obtain ⟨l1, l2, l3⟩ := nd_cells z1
 obtain ⟨k1, k2, k3⟩ := ls_cells x1
 have zl : NdB (H3.put .dead hs (.cells (nodeC 2 [] 0 X (.lit (.slice none 0 0)) (.lit (.slice none 0 0)) 0 0 la (.lit (.pointer none))) false)) hs hs3 la l := z1.keep (by omega) (by omega) fun p a1 a2 a3 => by rw [Tr.get_put, if_neg (by omega)]
 subst hM2
 subst hM1
 refine ⟨H3.put .dead hs (.cells (nodeC 2 [] 0 X (.lit (.slice none 0 0)) (.lit (.slice none 0 0)) 0 0 la (.lit (.pointer none))) false), hs3, .ptr hs 0, ?aa, ⟨hs, false, la, (.lit (.pointer none)), X, (.lit (.slice none 0 0)), (.lit (.slice none 0 0)), rfl, Nat.le_refl _, by omega, by rw [Tr.get_put, if_pos rfl], x1, ls_nil, ls_nil, zl, rfl⟩, ?bb, by omega, fun p a1 a2 a3 => by rw [Tr.get_put, if_neg (by omega), p3 p a1 a2 a3]⟩
 case bb => rw [Tr.get_put, if_neg (by omega), z2]; congr 1; omega
 case aa =>
  simp only [RdC, nodeC, ci, List.map_cons] at hB c1 e1 g1 y1 e2 g2 z2
  rw [callF_in (fi := fi30) tcon rfl rfl rfl]
  simp (maxSteps := 4000000) only [sG, seval, x30, stU, b30, Tryz.f30, nodeC, ci, hB, n0, n1, w0, e0, cn, c1, cx, e1, g1, y1, e2, g2, z2, l1, l2, l3, k1, k2, k3]
theorem node3 {q : Int} {ps : List (Int × Int)} {l r : Nd} (hn : ∀ c ∈ ps, okNum c.1 /\ okNum c.2) (hlen0 : ps.length <= 60) (ihl : NodeR q l) (ihr : NodeR q r) : NodeR q (.mk 3 [] 0 [] ps [] 0 0 l r) := by
 intro B ws left H hs hlen hleft hl2 hBh hB
 have ht : textN (.mk 3 [] 0 [] ps [] 0 0 l r) ++ ws = kw 3 :: numT (ps.length : Int) :: (pwL ps ++ (textN l ++ (textN r ++ ws))) := by
  rw [textN, ownW_kw, ownX]
  simp [textN]
 have hc : (cntN (.mk 3 [] 0 [] ps [] 0 0 l r) : Int) = 1 + (cntN l : Int) + (cntN r : Int) := by simp [cntN]
 rw [hc] at hleft ⊢
 rw [ht] at hB hlen
 simp only [List.length_cons, List.length_append] at hlen
 have n0 : (hs = B) = False := eq_false (by omega)
 have n1 : (B = hs) = False := eq_false (by omega)
 have w0 : IntKind.i64.wrap (left - 1) = left - 1 := wrap_i64 (by omega) (by omega)
 have e0 : decide (left - 1 < 0) = false := dcF (by omega)
 have cn := fun m H hs => @cNames m H hs
 have cx := fun H hs => @cIndexK q 3 (.inr (.inr (.inl rfl))) H hs
 have c1 := fun m H hs h => @cWord m B (kw 3) (numT (ps.length : Int) :: (pwL ps ++ (textN l ++ (textN r ++ ws)))) (left - 1) H hs (by simp only [List.length_cons, List.length_append]; omega) h
 obtain ⟨M1, hM1⟩ : ∃ M1 : Tr AO, M1 = ((H.put .dead B (RdC (kw 3 :: numT (ps.length : Int) :: (pwL ps ++ (textN l ++ (textN r ++ ws)))) (left - 1))).put .dead B (RdC (numT (ps.length : Int) :: (pwL ps ++ (textN l ++ (textN r ++ ws)))) (left - 1))).put .dead hs (.cells (nodeC 3 [] 0 (.lit (.slice none 0 0)) (.lit (.slice none 0 0)) (.lit (.slice none 0 0)) 0 0 (.lit (.pointer none)) (.lit (.pointer none))) false) := ⟨_, rfl⟩
 have m1B : M1.get .dead B = RdC (numT (ps.length : Int) :: (pwL ps ++ (textN l ++ (textN r ++ ws)))) (left - 1) := by rw [hM1, Tr.get_put, if_neg (by omega), Tr.get_put, if_pos rfl]
 have m1h : M1.get .dead hs = (.cells (nodeC 3 [] 0 (.lit (.slice none 0 0)) (.lit (.slice none 0 0)) (.lit (.slice none 0 0)) 0 0 (.lit (.pointer none)) (.lit (.pointer none))) false) := by rw [hM1, Tr.get_put, if_pos rfl]
 have m1p : ∀ p, p < hs -> p ≠ B -> M1.get .dead p = H.get .dead p := fun p p1 p2 => by rw [hM1, Tr.get_put, if_neg (by omega), Tr.get_put, if_neg p2, Tr.get_put, if_neg p2]
 obtain ⟨H2, hs2, X, e1, x1, y1, y2, y3⟩ := @cSomePr q B ps (textN l ++ (textN r ++ ws)) (left - 1) M1 (hs + 1) hn (by omega) (by simp only [List.length_cons, List.length_append]; omega) (by omega) m1B
 have g1 : H2.get .dead hs = (.cells (nodeC 3 [] 0 (.lit (.slice none 0 0)) (.lit (.slice none 0 0)) (.lit (.slice none 0 0)) 0 0 (.lit (.pointer none)) (.lit (.pointer none))) false) := by rw [y3 hs (by omega) (by omega) (by rw [m1h]; rfl), m1h]
 have p1 : ∀ p, p < hs -> p ≠ B -> (H.get .dead p).isRoom = false -> H2.get .dead p = H.get .dead p := fun p a1 a2 a3 => by
  have := m1p p a1 a2
  rw [y3 p (by omega) a2 (by rw [this]; exact a3), this]
 obtain ⟨M2, hM2⟩ : ∃ M2 : Tr AO, M2 = H2.put .dead hs (.cells (nodeC 3 [] 0 (.lit (.slice none 0 0)) X (.lit (.slice none 0 0)) 0 0 (.lit (.pointer none)) (.lit (.pointer none))) false) := ⟨_, rfl⟩
 have m2B : M2.get .dead B = RdC (textN l ++ (textN r ++ ws)) (left - 1) := by rw [hM2, Tr.get_put, if_neg (by omega), y1]
 have m2h : M2.get .dead hs = (.cells (nodeC 3 [] 0 (.lit (.slice none 0 0)) X (.lit (.slice none 0 0)) 0 0 (.lit (.pointer none)) (.lit (.pointer none))) false) := by rw [hM2, Tr.get_put, if_pos rfl]
 have m2p : ∀ p, p < hs -> p ≠ B -> (H.get .dead p).isRoom = false -> M2.get .dead p = H.get .dead p := fun p a1 a2 a3 => by rw [hM2, Tr.get_put, if_neg (by omega), p1 p a1 a2 a3]
 obtain ⟨H3, hs3, la, e2, z1, z2, z3, z4⟩ := ihl B (textN r ++ ws) (left - 1) M2 hs2 (by simp only [List.length_append]; omega) (by omega) (by omega) (by omega) m2B
 have g2 : H3.get .dead hs = (.cells (nodeC 3 [] 0 (.lit (.slice none 0 0)) X (.lit (.slice none 0 0)) 0 0 (.lit (.pointer none)) (.lit (.pointer none))) false) := by rw [z4 hs (by omega) (by omega) (by rw [m2h]; rfl), m2h]
 have p3 : ∀ p, p < hs -> p ≠ B -> (H.get .dead p).isRoom = false -> H3.get .dead p = H.get .dead p := fun p a1 a2 a3 => by
  have := m2p p a1 a2 a3
  rw [z4 p (by omega) a2 (by rw [this]; exact a3), this]
 obtain ⟨l1, l2, l3⟩ := nd_cells z1
 obtain ⟨k1, k2, k3⟩ := ls_cells x1
 obtain ⟨M3, hM3⟩ : ∃ M3 : Tr AO, M3 = H3.put .dead hs (.cells (nodeC 3 [] 0 (.lit (.slice none 0 0)) X (.lit (.slice none 0 0)) 0 0 la (.lit (.pointer none))) false) := ⟨_, rfl⟩
 have m3B : M3.get .dead B = RdC (textN r ++ ws) (left - 1 - (cntN l : Int)) := by rw [hM3, Tr.get_put, if_neg (by omega), z2]
 have m3h : M3.get .dead hs = (.cells (nodeC 3 [] 0 (.lit (.slice none 0 0)) X (.lit (.slice none 0 0)) 0 0 la (.lit (.pointer none))) false) := by rw [hM3, Tr.get_put, if_pos rfl]
 have m3p : ∀ p, p < hs -> p ≠ B -> (H.get .dead p).isRoom = false -> M3.get .dead p = H.get .dead p := fun p a1 a2 a3 => by rw [hM3, Tr.get_put, if_neg (by omega), p3 p a1 a2 a3]
 obtain ⟨H4, hs4, ra, e3, u1, u2, u3, u4⟩ := ihr B ws (left - 1 - (cntN l : Int)) M3 hs3 (by simp only [List.length_append]; omega) (by omega) (by omega) (by omega) m3B
 have g3 : H4.get .dead hs = (.cells (nodeC 3 [] 0 (.lit (.slice none 0 0)) X (.lit (.slice none 0 0)) 0 0 la (.lit (.pointer none))) false) := by rw [u4 hs (by omega) (by omega) (by rw [m3h]; rfl), m3h]
 have p4 : ∀ p, p < hs -> p ≠ B -> (H.get .dead p).isRoom = false -> H4.get .dead p = H.get .dead p := fun p a1 a2 a3 => by
  have := m3p p a1 a2 a3
  rw [u4 p (by omega) a2 (by rw [this]; exact a3), this]
 have zl : NdB (H4.put .dead hs (.cells (nodeC 3 [] 0 (.lit (.slice none 0 0)) X (.lit (.slice none 0 0)) 0 0 la ra) false)) hs hs4 la l := z1.keep (by omega) (by omega) fun p a1 a2 a3 => by
  have hp : M3.get .dead p = H3.get .dead p := by rw [hM3, Tr.get_put, if_neg (by omega)]
  have hpB : p ≠ B := by omega
  rw [Tr.get_put, if_neg (by omega), u4 p (by omega) hpB (by rw [hp]; exact a3), hp]
 have zr : NdB (H4.put .dead hs (.cells (nodeC 3 [] 0 (.lit (.slice none 0 0)) X (.lit (.slice none 0 0)) 0 0 la ra) false)) hs hs4 ra r := u1.keep (by omega) (by omega) fun p a1 a2 a3 => by rw [Tr.get_put, if_neg (by omega)]
 obtain ⟨r1, r2, r3⟩ := nd_cells u1
 subst hM3
 subst hM2
 subst hM1
 refine ⟨H4.put .dead hs (.cells (nodeC 3 [] 0 (.lit (.slice none 0 0)) X (.lit (.slice none 0 0)) 0 0 la ra) false), hs4, .ptr hs 0, ?aa, ⟨hs, false, la, ra, (.lit (.slice none 0 0)), X, (.lit (.slice none 0 0)), rfl, Nat.le_refl _, by omega, by rw [Tr.get_put, if_pos rfl], ls_nil, x1, ls_nil, zl, zr⟩, ?bb, by omega, fun p a1 a2 a3 => by rw [Tr.get_put, if_neg (by omega), p4 p a1 a2 a3]⟩
 case bb => rw [Tr.get_put, if_neg (by omega), u2]; congr 1; omega
 case aa =>
  simp only [RdC, nodeC, ci, List.map_cons] at hB c1 e1 g1 y1 e2 g2 z2 e3 g3 u2
  rw [callF_in (fi := fi30) tcon rfl rfl rfl]
  simp (maxSteps := 4000000) only [sG, seval, x30, stU, b30, Tryz.f30, nodeC, ci, hB, n0, n1, w0, e0, cn, c1, cx, e1, g1, y1, e2, g2, z2, e3, g3, u2, l1, l2, l3, k1, k2, k3, r1, r2, r3]
theorem node4 {q : Int} {ps : List (Int × Int)} {l r : Nd} (hn : ∀ c ∈ ps, okNum c.1 /\ okNum c.2) (hlen0 : ps.length <= 60) (ihl : NodeR q l) (ihr : NodeR q r) : NodeR q (.mk 4 [] 0 [] ps [] 0 0 l r) := by
 intro B ws left H hs hlen hleft hl2 hBh hB
 have ht : textN (.mk 4 [] 0 [] ps [] 0 0 l r) ++ ws = kw 4 :: numT (ps.length : Int) :: (pwL ps ++ (textN l ++ (textN r ++ ws))) := by
  rw [textN, ownW_kw, ownX]
  simp [textN]
 have hc : (cntN (.mk 4 [] 0 [] ps [] 0 0 l r) : Int) = 1 + (cntN l : Int) + (cntN r : Int) := by simp [cntN]
 rw [hc] at hleft ⊢
 rw [ht] at hB hlen
 simp only [List.length_cons, List.length_append] at hlen
 have n0 : (hs = B) = False := eq_false (by omega)
 have n1 : (B = hs) = False := eq_false (by omega)
 have w0 : IntKind.i64.wrap (left - 1) = left - 1 := wrap_i64 (by omega) (by omega)
 have e0 : decide (left - 1 < 0) = false := dcF (by omega)
 have cn := fun m H hs => @cNames m H hs
 have cx := fun H hs => @cIndexK q 4 (.inr (.inr (.inr (.inl rfl)))) H hs
 have c1 := fun m H hs h => @cWord m B (kw 4) (numT (ps.length : Int) :: (pwL ps ++ (textN l ++ (textN r ++ ws)))) (left - 1) H hs (by simp only [List.length_cons, List.length_append]; omega) h
 obtain ⟨M1, hM1⟩ : ∃ M1 : Tr AO, M1 = ((H.put .dead B (RdC (kw 4 :: numT (ps.length : Int) :: (pwL ps ++ (textN l ++ (textN r ++ ws)))) (left - 1))).put .dead B (RdC (numT (ps.length : Int) :: (pwL ps ++ (textN l ++ (textN r ++ ws)))) (left - 1))).put .dead hs (.cells (nodeC 4 [] 0 (.lit (.slice none 0 0)) (.lit (.slice none 0 0)) (.lit (.slice none 0 0)) 0 0 (.lit (.pointer none)) (.lit (.pointer none))) false) := ⟨_, rfl⟩
 have m1B : M1.get .dead B = RdC (numT (ps.length : Int) :: (pwL ps ++ (textN l ++ (textN r ++ ws)))) (left - 1) := by rw [hM1, Tr.get_put, if_neg (by omega), Tr.get_put, if_pos rfl]
 have m1h : M1.get .dead hs = (.cells (nodeC 4 [] 0 (.lit (.slice none 0 0)) (.lit (.slice none 0 0)) (.lit (.slice none 0 0)) 0 0 (.lit (.pointer none)) (.lit (.pointer none))) false) := by rw [hM1, Tr.get_put, if_pos rfl]
 have m1p : ∀ p, p < hs -> p ≠ B -> M1.get .dead p = H.get .dead p := fun p p1 p2 => by rw [hM1, Tr.get_put, if_neg (by omega), Tr.get_put, if_neg p2, Tr.get_put, if_neg p2]
 obtain ⟨H2, hs2, X, e1, x1, y1, y2, y3⟩ := @cSomePr q B ps (textN l ++ (textN r ++ ws)) (left - 1) M1 (hs + 1) hn (by omega) (by simp only [List.length_cons, List.length_append]; omega) (by omega) m1B
 have g1 : H2.get .dead hs = (.cells (nodeC 4 [] 0 (.lit (.slice none 0 0)) (.lit (.slice none 0 0)) (.lit (.slice none 0 0)) 0 0 (.lit (.pointer none)) (.lit (.pointer none))) false) := by rw [y3 hs (by omega) (by omega) (by rw [m1h]; rfl), m1h]
 have p1 : ∀ p, p < hs -> p ≠ B -> (H.get .dead p).isRoom = false -> H2.get .dead p = H.get .dead p := fun p a1 a2 a3 => by
  have := m1p p a1 a2
  rw [y3 p (by omega) a2 (by rw [this]; exact a3), this]
 obtain ⟨M2, hM2⟩ : ∃ M2 : Tr AO, M2 = H2.put .dead hs (.cells (nodeC 4 [] 0 (.lit (.slice none 0 0)) X (.lit (.slice none 0 0)) 0 0 (.lit (.pointer none)) (.lit (.pointer none))) false) := ⟨_, rfl⟩
 have m2B : M2.get .dead B = RdC (textN l ++ (textN r ++ ws)) (left - 1) := by rw [hM2, Tr.get_put, if_neg (by omega), y1]
 have m2h : M2.get .dead hs = (.cells (nodeC 4 [] 0 (.lit (.slice none 0 0)) X (.lit (.slice none 0 0)) 0 0 (.lit (.pointer none)) (.lit (.pointer none))) false) := by rw [hM2, Tr.get_put, if_pos rfl]
 have m2p : ∀ p, p < hs -> p ≠ B -> (H.get .dead p).isRoom = false -> M2.get .dead p = H.get .dead p := fun p a1 a2 a3 => by rw [hM2, Tr.get_put, if_neg (by omega), p1 p a1 a2 a3]
 obtain ⟨H3, hs3, la, e2, z1, z2, z3, z4⟩ := ihl B (textN r ++ ws) (left - 1) M2 hs2 (by simp only [List.length_append]; omega) (by omega) (by omega) (by omega) m2B
 have g2 : H3.get .dead hs = (.cells (nodeC 4 [] 0 (.lit (.slice none 0 0)) X (.lit (.slice none 0 0)) 0 0 (.lit (.pointer none)) (.lit (.pointer none))) false) := by rw [z4 hs (by omega) (by omega) (by rw [m2h]; rfl), m2h]
 have p3 : ∀ p, p < hs -> p ≠ B -> (H.get .dead p).isRoom = false -> H3.get .dead p = H.get .dead p := fun p a1 a2 a3 => by
  have := m2p p a1 a2 a3
  rw [z4 p (by omega) a2 (by rw [this]; exact a3), this]
 obtain ⟨l1, l2, l3⟩ := nd_cells z1
 obtain ⟨k1, k2, k3⟩ := ls_cells x1
 obtain ⟨M3, hM3⟩ : ∃ M3 : Tr AO, M3 = H3.put .dead hs (.cells (nodeC 4 [] 0 (.lit (.slice none 0 0)) X (.lit (.slice none 0 0)) 0 0 la (.lit (.pointer none))) false) := ⟨_, rfl⟩
 have m3B : M3.get .dead B = RdC (textN r ++ ws) (left - 1 - (cntN l : Int)) := by rw [hM3, Tr.get_put, if_neg (by omega), z2]
 have m3h : M3.get .dead hs = (.cells (nodeC 4 [] 0 (.lit (.slice none 0 0)) X (.lit (.slice none 0 0)) 0 0 la (.lit (.pointer none))) false) := by rw [hM3, Tr.get_put, if_pos rfl]
 have m3p : ∀ p, p < hs -> p ≠ B -> (H.get .dead p).isRoom = false -> M3.get .dead p = H.get .dead p := fun p a1 a2 a3 => by rw [hM3, Tr.get_put, if_neg (by omega), p3 p a1 a2 a3]
 obtain ⟨H4, hs4, ra, e3, u1, u2, u3, u4⟩ := ihr B ws (left - 1 - (cntN l : Int)) M3 hs3 (by simp only [List.length_append]; omega) (by omega) (by omega) (by omega) m3B
 have g3 : H4.get .dead hs = (.cells (nodeC 4 [] 0 (.lit (.slice none 0 0)) X (.lit (.slice none 0 0)) 0 0 la (.lit (.pointer none))) false) := by rw [u4 hs (by omega) (by omega) (by rw [m3h]; rfl), m3h]
 have p4 : ∀ p, p < hs -> p ≠ B -> (H.get .dead p).isRoom = false -> H4.get .dead p = H.get .dead p := fun p a1 a2 a3 => by
  have := m3p p a1 a2 a3
  rw [u4 p (by omega) a2 (by rw [this]; exact a3), this]
 have zl : NdB (H4.put .dead hs (.cells (nodeC 4 [] 0 (.lit (.slice none 0 0)) X (.lit (.slice none 0 0)) 0 0 la ra) false)) hs hs4 la l := z1.keep (by omega) (by omega) fun p a1 a2 a3 => by
  have hp : M3.get .dead p = H3.get .dead p := by rw [hM3, Tr.get_put, if_neg (by omega)]
  have hpB : p ≠ B := by omega
  rw [Tr.get_put, if_neg (by omega), u4 p (by omega) hpB (by rw [hp]; exact a3), hp]
 have zr : NdB (H4.put .dead hs (.cells (nodeC 4 [] 0 (.lit (.slice none 0 0)) X (.lit (.slice none 0 0)) 0 0 la ra) false)) hs hs4 ra r := u1.keep (by omega) (by omega) fun p a1 a2 a3 => by rw [Tr.get_put, if_neg (by omega)]
 obtain ⟨r1, r2, r3⟩ := nd_cells u1
 subst hM3
 subst hM2
 subst hM1
 refine ⟨H4.put .dead hs (.cells (nodeC 4 [] 0 (.lit (.slice none 0 0)) X (.lit (.slice none 0 0)) 0 0 la ra) false), hs4, .ptr hs 0, ?aa, ⟨hs, false, la, ra, (.lit (.slice none 0 0)), X, (.lit (.slice none 0 0)), rfl, Nat.le_refl _, by omega, by rw [Tr.get_put, if_pos rfl], ls_nil, x1, ls_nil, zl, zr⟩, ?bb, by omega, fun p a1 a2 a3 => by rw [Tr.get_put, if_neg (by omega), p4 p a1 a2 a3]⟩
 case bb => rw [Tr.get_put, if_neg (by omega), u2]; congr 1; omega
 case aa =>
  simp only [RdC, nodeC, ci, List.map_cons] at hB c1 e1 g1 y1 e2 g2 z2 e3 g3 u2
  rw [callF_in (fi := fi30) tcon rfl rfl rfl]
  simp (maxSteps := 4000000) only [sG, seval, x30, stU, b30, Tryz.f30, nodeC, ci, hB, n0, n1, w0, e0, cn, c1, cx, e1, g1, y1, e2, g2, z2, e3, g3, u2, l1, l2, l3, k1, k2, k3, r1, r2, r3]
theorem node5 {q : Int} {cl : List Int} {l : Nd} (hn : ∀ c ∈ cl, okNum c) (hlen0 : cl.length <= 60) (ihl : NodeR q l) : NodeR q (.mk 5 [] 0 [] [] cl 0 0 l .nil) := by
 intro B ws left H hs hlen hleft hl2 hBh hB
 have ht : textN (.mk 5 [] 0 [] [] cl 0 0 l .nil) ++ ws = kw 5 :: numT (cl.length : Int) :: (numL cl ++ (textN l ++ ws)) := by
  rw [textN, ownW_kw, ownX]
  simp [textN, numL]
 have hc : (cntN (.mk 5 [] 0 [] [] cl 0 0 l .nil) : Int) = 1 + (cntN l : Int) := by simp [cntN]
 rw [hc] at hleft ⊢
 rw [ht] at hB hlen
 simp only [List.length_cons, List.length_append] at hlen
 have n0 : (hs = B) = False := eq_false (by omega)
 have n1 : (B = hs) = False := eq_false (by omega)
 have w0 : IntKind.i64.wrap (left - 1) = left - 1 := wrap_i64 (by omega) (by omega)
 have e0 : decide (left - 1 < 0) = false := dcF (by omega)
 have cn := fun m H hs => @cNames m H hs
 have cx := fun H hs => @cIndexK q 5 (.inr (.inr (.inr (.inr (.inl rfl))))) H hs
 have c1 := fun m H hs h => @cWord m B (kw 5) (numT (cl.length : Int) :: (numL cl ++ (textN l ++ ws))) (left - 1) H hs (by simp only [List.length_cons, List.length_append]; omega) h
 obtain ⟨M1, hM1⟩ : ∃ M1 : Tr AO, M1 = ((H.put .dead B (RdC (kw 5 :: numT (cl.length : Int) :: (numL cl ++ (textN l ++ ws))) (left - 1))).put .dead B (RdC (numT (cl.length : Int) :: (numL cl ++ (textN l ++ ws))) (left - 1))).put .dead hs (.cells (nodeC 5 [] 0 (.lit (.slice none 0 0)) (.lit (.slice none 0 0)) (.lit (.slice none 0 0)) 0 0 (.lit (.pointer none)) (.lit (.pointer none))) false) := ⟨_, rfl⟩
 have m1B : M1.get .dead B = RdC (numT (cl.length : Int) :: (numL cl ++ (textN l ++ ws))) (left - 1) := by rw [hM1, Tr.get_put, if_neg (by omega), Tr.get_put, if_pos rfl]
 have m1h : M1.get .dead hs = (.cells (nodeC 5 [] 0 (.lit (.slice none 0 0)) (.lit (.slice none 0 0)) (.lit (.slice none 0 0)) 0 0 (.lit (.pointer none)) (.lit (.pointer none))) false) := by rw [hM1, Tr.get_put, if_pos rfl]
 have m1p : ∀ p, p < hs -> p ≠ B -> M1.get .dead p = H.get .dead p := fun p p1 p2 => by rw [hM1, Tr.get_put, if_neg (by omega), Tr.get_put, if_neg p2, Tr.get_put, if_neg p2]
 obtain ⟨H2, hs2, X, e1, x1, y1, y2, y3⟩ := @cSomeIn q B cl (textN l ++ ws) (left - 1) M1 (hs + 1) hn (by omega) (by simp only [List.length_cons, List.length_append]; omega) (by omega) m1B
 have g1 : H2.get .dead hs = (.cells (nodeC 5 [] 0 (.lit (.slice none 0 0)) (.lit (.slice none 0 0)) (.lit (.slice none 0 0)) 0 0 (.lit (.pointer none)) (.lit (.pointer none))) false) := by rw [y3 hs (by omega) (by omega) (by rw [m1h]; rfl), m1h]
 have p1 : ∀ p, p < hs -> p ≠ B -> (H.get .dead p).isRoom = false -> H2.get .dead p = H.get .dead p := fun p a1 a2 a3 => by
  have := m1p p a1 a2
  rw [y3 p (by omega) a2 (by rw [this]; exact a3), this]
 obtain ⟨M2, hM2⟩ : ∃ M2 : Tr AO, M2 = H2.put .dead hs (.cells (nodeC 5 [] 0 (.lit (.slice none 0 0)) (.lit (.slice none 0 0)) X 0 0 (.lit (.pointer none)) (.lit (.pointer none))) false) := ⟨_, rfl⟩
 have m2B : M2.get .dead B = RdC (textN l ++ ws) (left - 1) := by rw [hM2, Tr.get_put, if_neg (by omega), y1]
 have m2h : M2.get .dead hs = (.cells (nodeC 5 [] 0 (.lit (.slice none 0 0)) (.lit (.slice none 0 0)) X 0 0 (.lit (.pointer none)) (.lit (.pointer none))) false) := by rw [hM2, Tr.get_put, if_pos rfl]
 have m2p : ∀ p, p < hs -> p ≠ B -> (H.get .dead p).isRoom = false -> M2.get .dead p = H.get .dead p := fun p a1 a2 a3 => by rw [hM2, Tr.get_put, if_neg (by omega), p1 p a1 a2 a3]
 obtain ⟨H3, hs3, la, e2, z1, z2, z3, z4⟩ := ihl B ws (left - 1) M2 hs2 (by simp only [List.length_append]; omega) (by omega) (by omega) (by omega) m2B
 have g2 : H3.get .dead hs = (.cells (nodeC 5 [] 0 (.lit (.slice none 0 0)) (.lit (.slice none 0 0)) X 0 0 (.lit (.pointer none)) (.lit (.pointer none))) false) := by rw [z4 hs (by omega) (by omega) (by rw [m2h]; rfl), m2h]
 have p3 : ∀ p, p < hs -> p ≠ B -> (H.get .dead p).isRoom = false -> H3.get .dead p = H.get .dead p := fun p a1 a2 a3 => by
  have := m2p p a1 a2 a3
  rw [z4 p (by omega) a2 (by rw [this]; exact a3), this]
 obtain ⟨l1, l2, l3⟩ := nd_cells z1
 obtain ⟨k1, k2, k3⟩ := ls_cells x1
 have zl : NdB (H3.put .dead hs (.cells (nodeC 5 [] 0 (.lit (.slice none 0 0)) (.lit (.slice none 0 0)) X 0 0 la (.lit (.pointer none))) false)) hs hs3 la l := z1.keep (by omega) (by omega) fun p a1 a2 a3 => by rw [Tr.get_put, if_neg (by omega)]
 subst hM2
 subst hM1
 refine ⟨H3.put .dead hs (.cells (nodeC 5 [] 0 (.lit (.slice none 0 0)) (.lit (.slice none 0 0)) X 0 0 la (.lit (.pointer none))) false), hs3, .ptr hs 0, ?aa, ⟨hs, false, la, (.lit (.pointer none)), (.lit (.slice none 0 0)), (.lit (.slice none 0 0)), X, rfl, Nat.le_refl _, by omega, by rw [Tr.get_put, if_pos rfl], ls_nil, ls_nil, x1, zl, rfl⟩, ?bb, by omega, fun p a1 a2 a3 => by rw [Tr.get_put, if_neg (by omega), p3 p a1 a2 a3]⟩
 case bb => rw [Tr.get_put, if_neg (by omega), z2]; congr 1; omega
 case aa =>
  simp only [RdC, nodeC, ci, List.map_cons] at hB c1 e1 g1 y1 e2 g2 z2
  rw [callF_in (fi := fi30) tcon rfl rfl rfl]
  simp (maxSteps := 4000000) only [sG, seval, x30, stU, b30, Tryz.f30, nodeC, ci, hB, n0, n1, w0, e0, cn, c1, cx, e1, g1, y1, e2, g2, z2, l1, l2, l3, k1, k2, k3]
theorem node6 {q : Int}  {l : Nd} (ihl : NodeR q l) : NodeR q (.mk 6 [] 0 [] [] [] 0 0 l .nil) := by
 intro B ws left H hs hlen hleft hl2 hBh hB
 have ht : textN (.mk 6 [] 0 [] [] [] 0 0 l .nil) ++ ws = kw 6 :: (textN l ++ ws) := by
  rw [textN, ownW_kw, ownX]
  simp [textN]
 have hc : (cntN (.mk 6 [] 0 [] [] [] 0 0 l .nil) : Int) = 1 + (cntN l : Int) := by simp [cntN]
 rw [hc] at hleft ⊢
 rw [ht] at hB hlen
 simp only [List.length_cons, List.length_append] at hlen
 have n0 : (hs = B) = False := eq_false (by omega)
 have n1 : (B = hs) = False := eq_false (by omega)
 have w0 : IntKind.i64.wrap (left - 1) = left - 1 := wrap_i64 (by omega) (by omega)
 have e0 : decide (left - 1 < 0) = false := dcF (by omega)
 have cn := fun m H hs => @cNames m H hs
 have cx := fun H hs => @cIndexK q 6 (.inr (.inr (.inr (.inr (.inr (.inl rfl)))))) H hs
 have c1 := fun m H hs h => @cWord m B (kw 6) ((textN l ++ ws)) (left - 1) H hs (by simp only [List.length_cons, List.length_append]; omega) h
 obtain ⟨M1, hM1⟩ : ∃ M1 : Tr AO, M1 = ((H.put .dead B (RdC (kw 6 :: (textN l ++ ws)) (left - 1))).put .dead B (RdC ((textN l ++ ws)) (left - 1))).put .dead hs (.cells (nodeC 6 [] 0 (.lit (.slice none 0 0)) (.lit (.slice none 0 0)) (.lit (.slice none 0 0)) 0 0 (.lit (.pointer none)) (.lit (.pointer none))) false) := ⟨_, rfl⟩
 have m1B : M1.get .dead B = RdC ((textN l ++ ws)) (left - 1) := by rw [hM1, Tr.get_put, if_neg (by omega), Tr.get_put, if_pos rfl]
 have m1h : M1.get .dead hs = (.cells (nodeC 6 [] 0 (.lit (.slice none 0 0)) (.lit (.slice none 0 0)) (.lit (.slice none 0 0)) 0 0 (.lit (.pointer none)) (.lit (.pointer none))) false) := by rw [hM1, Tr.get_put, if_pos rfl]
 have m1p : ∀ p, p < hs -> p ≠ B -> M1.get .dead p = H.get .dead p := fun p p1 p2 => by rw [hM1, Tr.get_put, if_neg (by omega), Tr.get_put, if_neg p2, Tr.get_put, if_neg p2]
 have m2p : ∀ p, p < hs -> p ≠ B -> (H.get .dead p).isRoom = false -> M1.get .dead p = H.get .dead p := fun p a1 a2 _ => m1p p a1 a2
 obtain ⟨H3, hs3, la, e2, z1, z2, z3, z4⟩ := ihl B ws (left - 1) M1 (hs + 1) (by simp only [List.length_append]; omega) (by omega) (by omega) (by omega) m1B
 have g2 : H3.get .dead hs = (.cells (nodeC 6 [] 0 (.lit (.slice none 0 0)) (.lit (.slice none 0 0)) (.lit (.slice none 0 0)) 0 0 (.lit (.pointer none)) (.lit (.pointer none))) false) := by rw [z4 hs (by omega) (by omega) (by rw [m1h]; rfl), m1h]
 have p3 : ∀ p, p < hs -> p ≠ B -> (H.get .dead p).isRoom = false -> H3.get .dead p = H.get .dead p := fun p a1 a2 a3 => by
  have := m2p p a1 a2 a3
  rw [z4 p (by omega) a2 (by rw [this]; exact a3), this]
 obtain ⟨l1, l2, l3⟩ := nd_cells z1
 have zl : NdB (H3.put .dead hs (.cells (nodeC 6 [] 0 (.lit (.slice none 0 0)) (.lit (.slice none 0 0)) (.lit (.slice none 0 0)) 0 0 la (.lit (.pointer none))) false)) hs hs3 la l := z1.keep (by omega) (by omega) fun p a1 a2 a3 => by rw [Tr.get_put, if_neg (by omega)]
 subst hM1
 refine ⟨H3.put .dead hs (.cells (nodeC 6 [] 0 (.lit (.slice none 0 0)) (.lit (.slice none 0 0)) (.lit (.slice none 0 0)) 0 0 la (.lit (.pointer none))) false), hs3, .ptr hs 0, ?aa, ⟨hs, false, la, (.lit (.pointer none)), (.lit (.slice none 0 0)), (.lit (.slice none 0 0)), (.lit (.slice none 0 0)), rfl, Nat.le_refl _, by omega, by rw [Tr.get_put, if_pos rfl], ls_nil, ls_nil, ls_nil, zl, rfl⟩, ?bb, by omega, fun p a1 a2 a3 => by rw [Tr.get_put, if_neg (by omega), p3 p a1 a2 a3]⟩
 case bb => rw [Tr.get_put, if_neg (by omega), z2]; congr 1; omega
 case aa =>
  simp only [RdC, nodeC, ci, List.map_cons] at hB c1 e2 g2 z2
  rw [callF_in (fi := fi30) tcon rfl rfl rfl]
  simp (maxSteps := 4000000) only [sG, seval, x30, stU, b30, Tryz.f30, nodeC, ci, hB, n0, n1, w0, e0, cn, c1, cx, e2, g2, z2, l1, l2, l3]
theorem node7 {q : Int} {cl : List Int} {ag of : Int} {l : Nd} (hn : ∀ c ∈ cl, okNum c) (hlen0 : cl.length <= 60) (ha : okNum ag) (ho : okNum of) (ihl : NodeR q l) : NodeR q (.mk 7 [] 0 [] [] cl ag of l .nil) := by
 intro B ws left H hs hlen hleft hl2 hBh hB
 have ht : textN (.mk 7 [] 0 [] [] cl ag of l .nil) ++ ws = kw 7 :: numT (cl.length : Int) :: (numL cl ++ (numT ag :: numT of :: (textN l ++ ws))) := by
  rw [textN, ownW_kw, ownX]
  simp [textN, numL]
 have hc : (cntN (.mk 7 [] 0 [] [] cl ag of l .nil) : Int) = 1 + (cntN l : Int) := by simp [cntN]
 rw [hc] at hleft ⊢
 rw [ht] at hB hlen
 simp only [List.length_cons, List.length_append] at hlen
 have n0 : (hs = B) = False := eq_false (by omega)
 have n1 : (B = hs) = False := eq_false (by omega)
 have w0 : IntKind.i64.wrap (left - 1) = left - 1 := wrap_i64 (by omega) (by omega)
 have e0 : decide (left - 1 < 0) = false := dcF (by omega)
 have cn := fun m H hs => @cNames m H hs
 have cx := fun H hs => @cIndexK q 7 (.inr (.inr (.inr (.inr (.inr (.inr rfl)))))) H hs
 have c1 := fun m H hs h => @cWord m B (kw 7) (numT (cl.length : Int) :: (numL cl ++ (numT ag :: numT of :: (textN l ++ ws)))) (left - 1) H hs (by simp only [List.length_cons, List.length_append]; omega) h
 obtain ⟨M1, hM1⟩ : ∃ M1 : Tr AO, M1 = ((H.put .dead B (RdC (kw 7 :: numT (cl.length : Int) :: (numL cl ++ (numT ag :: numT of :: (textN l ++ ws)))) (left - 1))).put .dead B (RdC (numT (cl.length : Int) :: (numL cl ++ (numT ag :: numT of :: (textN l ++ ws)))) (left - 1))).put .dead hs (.cells (nodeC 7 [] 0 (.lit (.slice none 0 0)) (.lit (.slice none 0 0)) (.lit (.slice none 0 0)) 0 0 (.lit (.pointer none)) (.lit (.pointer none))) false) := ⟨_, rfl⟩
 have m1B : M1.get .dead B = RdC (numT (cl.length : Int) :: (numL cl ++ (numT ag :: numT of :: (textN l ++ ws)))) (left - 1) := by rw [hM1, Tr.get_put, if_neg (by omega), Tr.get_put, if_pos rfl]
 have m1h : M1.get .dead hs = (.cells (nodeC 7 [] 0 (.lit (.slice none 0 0)) (.lit (.slice none 0 0)) (.lit (.slice none 0 0)) 0 0 (.lit (.pointer none)) (.lit (.pointer none))) false) := by rw [hM1, Tr.get_put, if_pos rfl]
 have m1p : ∀ p, p < hs -> p ≠ B -> M1.get .dead p = H.get .dead p := fun p p1 p2 => by rw [hM1, Tr.get_put, if_neg (by omega), Tr.get_put, if_neg p2, Tr.get_put, if_neg p2]
 obtain ⟨H2, hs2, X, e1, x1, y1, y2, y3⟩ := @cSomeIn q B cl (numT ag :: numT of :: (textN l ++ ws)) (left - 1) M1 (hs + 1) hn (by omega) (by simp only [List.length_cons, List.length_append]; omega) (by omega) m1B
 have g1 : H2.get .dead hs = (.cells (nodeC 7 [] 0 (.lit (.slice none 0 0)) (.lit (.slice none 0 0)) (.lit (.slice none 0 0)) 0 0 (.lit (.pointer none)) (.lit (.pointer none))) false) := by rw [y3 hs (by omega) (by omega) (by rw [m1h]; rfl), m1h]
 have p1 : ∀ p, p < hs -> p ≠ B -> (H.get .dead p).isRoom = false -> H2.get .dead p = H.get .dead p := fun p a1 a2 a3 => by
  have := m1p p a1 a2
  rw [y3 p (by omega) a2 (by rw [this]; exact a3), this]
 have c2 := fun lm tx H hs h => @cNumber q B ag (numT of :: (textN l ++ ws)) (left - 1) H hs lm tx ha.1 ha.2 (by simp only [List.length_cons, List.length_append]; omega) h
 have c3 := fun lm tx H hs h => @cNumber q B of (textN l ++ ws) (left - 1) H hs lm tx ho.1 ho.2 (by simp only [List.length_append]; omega) h
 obtain ⟨M2, hM2⟩ : ∃ M2 : Tr AO, M2 = ((((H2.put .dead hs (.cells (nodeC 7 [] 0 (.lit (.slice none 0 0)) (.lit (.slice none 0 0)) X 0 0 (.lit (.pointer none)) (.lit (.pointer none))) false)).put .dead B (RdC (numT of :: (textN l ++ ws)) (left - 1))).put .dead B (RdC (textN l ++ ws) (left - 1))).put .dead hs (.cells (nodeC 7 [] 0 (.lit (.slice none 0 0)) (.lit (.slice none 0 0)) X ag 0 (.lit (.pointer none)) (.lit (.pointer none))) false)).put .dead hs (.cells (nodeC 7 [] 0 (.lit (.slice none 0 0)) (.lit (.slice none 0 0)) X ag of (.lit (.pointer none)) (.lit (.pointer none))) false) := ⟨_, rfl⟩
 have m2B : M2.get .dead B = RdC (textN l ++ ws) (left - 1) := by rw [hM2, Tr.get_put, if_neg (by omega), Tr.get_put, if_neg (by omega), Tr.get_put, if_pos rfl]
 have m2h : M2.get .dead hs = (.cells (nodeC 7 [] 0 (.lit (.slice none 0 0)) (.lit (.slice none 0 0)) X ag of (.lit (.pointer none)) (.lit (.pointer none))) false) := by rw [hM2, Tr.get_put, if_pos rfl]
 have m2p : ∀ p, p < hs -> p ≠ B -> (H.get .dead p).isRoom = false -> M2.get .dead p = H.get .dead p := fun p a1 a2 a3 => by rw [hM2, Tr.get_put, if_neg (by omega), Tr.get_put, if_neg (by omega), Tr.get_put, if_neg a2, Tr.get_put, if_neg a2, Tr.get_put, if_neg (by omega), p1 p a1 a2 a3]
 obtain ⟨H3, hs3, la, e2, z1, z2, z3, z4⟩ := ihl B ws (left - 1) M2 hs2 (by simp only [List.length_append]; omega) (by omega) (by omega) (by omega) m2B
 have g2 : H3.get .dead hs = (.cells (nodeC 7 [] 0 (.lit (.slice none 0 0)) (.lit (.slice none 0 0)) X ag of (.lit (.pointer none)) (.lit (.pointer none))) false) := by rw [z4 hs (by omega) (by omega) (by rw [m2h]; rfl), m2h]
 have p3 : ∀ p, p < hs -> p ≠ B -> (H.get .dead p).isRoom = false -> H3.get .dead p = H.get .dead p := fun p a1 a2 a3 => by
  have := m2p p a1 a2 a3
  rw [z4 p (by omega) a2 (by rw [this]; exact a3), this]
 obtain ⟨l1, l2, l3⟩ := nd_cells z1
 obtain ⟨k1, k2, k3⟩ := ls_cells x1
 have zl : NdB (H3.put .dead hs (.cells (nodeC 7 [] 0 (.lit (.slice none 0 0)) (.lit (.slice none 0 0)) X ag of la (.lit (.pointer none))) false)) hs hs3 la l := z1.keep (by omega) (by omega) fun p a1 a2 a3 => by rw [Tr.get_put, if_neg (by omega)]
 subst hM2
 subst hM1
 refine ⟨H3.put .dead hs (.cells (nodeC 7 [] 0 (.lit (.slice none 0 0)) (.lit (.slice none 0 0)) X ag of la (.lit (.pointer none))) false), hs3, .ptr hs 0, ?aa, ⟨hs, false, la, (.lit (.pointer none)), (.lit (.slice none 0 0)), (.lit (.slice none 0 0)), X, rfl, Nat.le_refl _, by omega, by rw [Tr.get_put, if_pos rfl], ls_nil, ls_nil, x1, zl, rfl⟩, ?bb, by omega, fun p a1 a2 a3 => by rw [Tr.get_put, if_neg (by omega), p3 p a1 a2 a3]⟩
 case bb => rw [Tr.get_put, if_neg (by omega), z2]; congr 1; omega
 case aa =>
  simp only [RdC, nodeC, ci, List.map_cons] at hB c1 e1 g1 y1 c2 c3 e2 g2 z2
  rw [callF_in (fi := fi30) tcon rfl rfl rfl]
  simp (maxSteps := 4000000) only [sG, seval, x30, stU, b30, Tryz.f30, nodeC, ci, hB, n0, n1, w0, e0, cn, c1, cx, e1, g1, y1, c2, c3, e2, g2, z2, l1, l2, l3, k1, k2, k3]
theorem node_all {q : Int} : ∀ {n : Nd}, n ≠ .nil -> eachB n = true -> okNd n -> smallN n -> NodeR q n
 | .nil, h, _, _, _ => (h rfl).elim
 | .mk k nm w cs ps cl ag of l r, _, he, ho, hs => by
  obtain ⟨el, er, ba, ka, ca, na⟩ := each_inv he
  have nn := num_ok he ho
  obtain ⟨o1, o2, o3, o4, o5, o6, o7, ol, or⟩ := ho
  obtain ⟨s1, s2, s3, s4, sl, sr⟩ := hs
  have hl : k ≠ 1 -> NodeR q l := fun h => node_all (ba.bl h) el ol sl
  have hr : (k = 3 ∨ k = 4) -> NodeR q r := fun h => node_all (ba.br h) er or sr
  rcases ka with rfl | rfl | rfl | rfl | rfl | rfl | rfl
  ·obtain rfl := ba.b2 (by decide)
   obtain rfl := ba.b3 (by decide) (by decide)
   obtain rfl := ba.b5 (by decide) (by decide)
   obtain ⟨rfl, rfl⟩ := ba.b7 (by decide)
   obtain rfl := ba.bl1 rfl
   obtain rfl := ba.br1 (by decide) (by decide)
   exact node1 (nn.n1 rfl)
  ·obtain ⟨rfl, rfl⟩ := ba.b1 (by decide)
   obtain rfl := ba.b3 (by decide) (by decide)
   obtain rfl := ba.b5 (by decide) (by decide)
   obtain ⟨rfl, rfl⟩ := ba.b7 (by decide)
   obtain rfl := ba.br1 (by decide) (by decide)
   exact node2 (nn.n2 rfl) s2 (hl (by decide))
  ·obtain ⟨rfl, rfl⟩ := ba.b1 (by decide)
   obtain rfl := ba.b2 (by decide)
   obtain rfl := ba.b5 (by decide) (by decide)
   obtain ⟨rfl, rfl⟩ := ba.b7 (by decide)
   exact node3 (nn.n3 (.inl rfl)) s3 (hl (by decide)) (hr (.inl rfl))
  ·obtain ⟨rfl, rfl⟩ := ba.b1 (by decide)
   obtain rfl := ba.b2 (by decide)
   obtain rfl := ba.b5 (by decide) (by decide)
   obtain ⟨rfl, rfl⟩ := ba.b7 (by decide)
   exact node4 (nn.n3 (.inr rfl)) s3 (hl (by decide)) (hr (.inr rfl))
  ·obtain ⟨rfl, rfl⟩ := ba.b1 (by decide)
   obtain rfl := ba.b2 (by decide)
   obtain rfl := ba.b3 (by decide) (by decide)
   obtain ⟨rfl, rfl⟩ := ba.b7 (by decide)
   obtain rfl := ba.br1 (by decide) (by decide)
   exact node5 (nn.n5 (.inl rfl)) s4 (hl (by decide))
  ·obtain ⟨rfl, rfl⟩ := ba.b1 (by decide)
   obtain rfl := ba.b2 (by decide)
   obtain rfl := ba.b3 (by decide) (by decide)
   obtain rfl := ba.b5 (by decide) (by decide)
   obtain ⟨rfl, rfl⟩ := ba.b7 (by decide)
   obtain rfl := ba.br1 (by decide) (by decide)
   exact node6 (hl (by decide))
  ·obtain ⟨rfl, rfl⟩ := ba.b1 (by decide)
   obtain rfl := ba.b2 (by decide)
   obtain rfl := ba.b3 (by decide) (by decide)
   obtain rfl := ba.br1 (by decide) (by decide)
   exact node7 (nn.n5 (.inr rfl)) s4 (nn.n7 rfl).1 (nn.n7 rfl).2 (hl (by decide))
theorem splitT_app (r : List UInt8) : ∀ (w acc : List UInt8), noB w -> splitT 32 acc (w ++ 32 :: r) = (acc.reverse ++ w) :: splitT 32 [] r
 | [], acc, _ => by simp [splitT]
 | c :: w, acc, h => by
  have h1 : (c == 32) = false := by rw [beq_eq_false_iff_ne]; exact fun e => h (by simp [e])
  have h2 : noB w := fun e => h (by simp [e])
  rw [List.cons_append, splitT, h1, cond_false, splitT_app r w (c :: acc) h2]; simp
theorem splitT_one : ∀ (w acc : List UInt8), noB w -> splitT 32 acc w = [acc.reverse ++ w]
 | [], acc, _ => by simp [splitT]
 | c :: w, acc, h => by
  have h1 : (c == 32) = false := by rw [beq_eq_false_iff_ne]; exact fun e => h (by simp [e])
  have h2 : noB w := fun e => h (by simp [e])
  rw [splitT, h1, cond_false, splitT_one w (c :: acc) h2]; simp
theorem splitT_join : ∀ xs : List (List UInt8), xs ≠ [] -> (∀ w ∈ xs, noB w) -> splitT 32 [] (joinS [32] xs) = xs
 | [], h, _ => (h rfl).elim
 | [a], _, h => by rw [joinS, splitT_one a [] (h a (by simp))]; rfl
 | a :: b :: l, _, h => by
  rw [joinS, List.singleton_append, splitT_app _ a [] (h a (by simp)), splitT_join (b :: l) (by simp) (fun w hw => h w (by simp at hw ⊢; exact .inr hw))]; rfl
theorem natO_split {q : Int} {s : List UInt8} {H : Tr AO} {hs : Nat} (h : s.length <= 1000000000) : natO (glK q) H hs 7 (some [.str s, .str [32]]) = some (.lst .no ((splitT 32 [] s).map AV.str), H, hs) := by
 have hg : (glK q).get none 0 = some (.eptr [.lit (.int .i64 q)]) := rfl
 have : natW (glK q) 7 [.str s, .str [32]] = some (.lst .no ((splitT 32 [] s).map AV.str)) := by
  show nSplit ((glK q).get none 0) [.str s, .str [32]] = _
  rw [hg]
  show (bif Nat.ble s.length 1000000000 then some (AV.lst .no ((splitT 32 [] s).map AV.str)) else none) = _
  rw [bleT h]; rfl
 dsimp only [natO]; rw [this]
theorem jT_ne {n : Nd} (h : n ≠ .nil) (he : eachB n = true) : (jT n == []) = false := by
 cases n with
 | nil => exact (h rfl).elim
 | mk k nm w cs ps cl ag of l r =>
  obtain ⟨_, _, _, ka, _⟩ := each_inv he
  rw [jT_mk]
  rcases ka with rfl | rfl | rfl | rfl | rfl | rfl | rfl <;> rfl
theorem right_cnt {n : Nd} (h : rightN n = true) : cntN n <= 400 := by
 unfold rightN at h
 rw [Bool.and_eq_true, Bool.and_eq_true, decide_eq_true_iff, fewN_eq n 400 (by omega)] at h
 have := h.2.1
 omega
theorem cKey0 {q : Int} {lm tx : Bool} {H : Tr AO} {hs : Nat} : callF tab (evw tab) ⟨lm, tx, glK q⟩ 10 [.lit (.pointer none)] H hs = some (.str (keyN .nil), H, hs) :=
 callF_own (H1 := H) tcon rfl rfl rfl (bs := [encN .nil]) rfl rfl (eqKey (n := .nil) trivial trivial (Nat.zero_le _))
theorem cKeyB {q : Int} {n : Nd} {lm tx : Bool} {a : AV} {H : Tr AO} {hs h0 : Nat} (ho : okNd n) (hs' : smallN n) (hc : cntN n <= 1000) (h : NdAt H h0 a n) (hd : depN n <= 250) : callF tab (evw tab) ⟨lm, tx, glK q⟩ 10 [a] H hs = some (.str (keyN n), H, hs) := by
 rcases nd_ptr h with ⟨rfl, rfl⟩ | ⟨o, rfl⟩
 ·exact cKey0
 ·obtain ⟨H1, hf, _⟩ := frz_A h hd
  exact cKeyP ho hs' hc hf
theorem cRead {q : Int} {n : Nd} {H : Tr AO} {hs : Nat} (hr : rightN n = true) (ho : okNd n) (hs' : smallN n) (hd : depN n <= 250) :
  ∃ H' hs' a, callF tab (evw tab) ⟨true, true, glK q⟩ 14 [.str (jT n)] H hs = some (.tup [a, .lit (.int .i64 0)], H', hs') /\ NdAt H' hs' a n /\ hs <= hs' /\ ∀ p, p < hs -> (H.get .dead p).isRoom = false -> H'.get .dead p = H.get .dead p := by
 obtain ⟨hn, he⟩ := right_inv hr
 have hc := right_cnt hr
 have hlen := jT_len he hs' (by omega)
 have htl := textN_len hs'
 have cs := fun H hs => @natO_split q (jT n) H hs (by omega)
 have hsp : splitT 32 [] (jT n) = textN n := splitT_join _ (textN_ne hn) (fun w hw => (textN_ok he hs' w hw).1)
 rw [hsp] at cs
 obtain ⟨H2, hs2, a, e1, z1, z2, z3, z4⟩ := node_all (q := q) hn he ho hs' hs [] 400 (H.put .dead hs (RdC (textN n) 400)) (hs + 1) (by simp; omega) (by omega) (by omega) (by omega) (by rw [Tr.get_put, if_pos rfl, List.append_nil])
 have ck := fun lm tx hs => @cKeyB q n lm tx a H2 hs hs2 ho hs' (by omega) z1.at hd
 have hk : keyN n = jT n := by unfold keyN jT; rw [hr]; rfl
 rw [hk] at ck
 have q1 : (jT n == jT n) = true := beq_self_eq_true _
 have q2 := jT_ne hn he
 refine ⟨H2, hs2, a, ?_, z1.at, by omega, fun p p1 p2 => ?_⟩
 ·simp only [RdC] at e1 z2
  rw [callF_in (fi := fi14) tcon rfl rfl rfl]
  simp (maxSteps := 4000000) only [sG, seval, x14, stU, b14, Tryz.f14, cs, e1, z2, ck, q1, q2, Bool.not_true]
 ·have : (H.put .dead hs (RdC (textN n) 400)).get .dead p = H.get .dead p := by rw [Tr.get_put, if_neg (by omega)]
  rw [z4 p (by omega) (by omega) (by rw [this]; exact p2), this]
theorem callF_isoF {T : Tab} {m : Md} {f : Nat} {fi : FI} {args bs : List AV} {H H1 : Tr AO} {hs : Nat} (hc : ∀ f args H hs, T.con f args H hs = none) (hf : T.f f = some fi) (hi : fi.iso = true) (ho : fi.own = false) (hn : bares args = false) (ha : frzL (frz T 300) fi.pts args H = some (bs, H1)) (hb : bares bs = true) {v : AV} (h : iso T fi m (nrms bs) = some v) (hsp : fi.spl = none := by rfl) :
  callF T (evw T) m f args H hs = some (v, H1, hs) := by
 unfold callF
 rw [hc]
 unfold iso at h
 unfold isoX
 simp only [hf, hi, ho, hn, cond_true, cond_false, ha, hb, hsp, h]
theorem cRRightA {m : Md} {n : Nd} {a : AV} {H : Tr AO} {h0 : Nat} (hs' : smallN n) (h : NdAt H h0 a n) (hd : depN n <= 250) : ∃ H1, Sm H H1 /\ ∀ hs, callF tab (evw tab) m 12 [a] H hs = some (.lit (.bool (rightN n)), H1, hs) := by
 obtain ⟨H1, hf, sm⟩ := frz_A h hd
 have e := @eqRRightN m n hs'.short
 rw [right_eq] at e
 rcases nd_ptr h with ⟨rfl, rfl⟩ | ⟨o, rfl⟩
 ·refine ⟨H, Sm.refl _, fun hs => ?_⟩
  have := @cRRightN m .nil H hs trivial
  rw [right_eq] at this
  exact this
 ·exact ⟨H1, sm, fun hs => callF_isoF tcon rfl rfl rfl rfl (bs := [encN n]) (by show frzL (frz tab 300) [23] [.ptr o 0] H = _; simp only [frzL, hf]) (by simp only [bares, bare_N, Bool.and_self]) (by simp only [nrms, nrm_N]; exact e)⟩
theorem cRKeyA {m : Md} {n : Nd} {a : AV} {H : Tr AO} {h0 : Nat} (ho : okNd n) (hs' : smallN n) (hc : cntN n <= 1000) (h : NdAt H h0 a n) (hd : depN n <= 250) : ∃ H1, Sm H H1 /\ ∀ hs, callF tab (evw tab) m 13 [a] H hs = some (.str (keyN n), H1, hs) := by
 obtain ⟨H1, hf, sm⟩ := frz_A h hd
 have e := @eqRKey n m ho hs' hc
 rcases nd_ptr h with ⟨rfl, rfl⟩ | ⟨o, rfl⟩
 ·exact ⟨H, Sm.refl _, fun hs => callF_iso tcon rfl rfl rfl (@eqRKey .nil m trivial trivial (Nat.zero_le _))⟩
 ·exact ⟨H1, sm, fun hs => callF_isoF tcon rfl rfl rfl rfl (bs := [encN n]) (by show frzL (frz tab 300) [23] [.ptr o 0] H = _; simp only [frzL, hf]) (by simp only [bares, bare_N, Bool.and_self]) (by simp only [nrms, nrm_N]; exact e)⟩
theorem bNe {p q : Operand} {a b : Bool} : binO tab .neq 4 p q (some (.lit (.bool a))) (some (.lit (.bool b))) = some (.lit (.bool (!(a == b)))) := rfl
theorem lawKeys {l : List Pc} {q : Int} (hl : l.length <= 1100000000000) (ol : ∀ p ∈ l, okNd (mkN [] p)) :
  ∃ H' hs', callF tab (evw tab) ⟨true, true, glK q⟩ 3 [.lst .no (l.map encP)] .lf 0 = some (.lit (.bool true), H', hs') := by
 obtain ⟨H1, h1, a, ca, na, _, _⟩ := @cTree l ⟨true, true, glK q⟩ .lf 0 hl
 have oa := treeN_ok ol
 have da := treeN_dep l
 have kn := fun H hs => @cKnown q H hs
 generalize treeN l = x at *
 rw [callF_in (fi := fi3) tcon rfl rfl rfl]
 cases e1 : decide ((200 : Int) < l.length) with
 | true => exact ⟨H1, h1, by simp (maxSteps := 4000000) only [sG, seval, x3, stU, b3, Tryz.f3, ca, e1, kn, List.length_map]⟩
 | false =>
 have e1' := of_decide_eq_false e1
 have c1 := fun m hs => @cDeepA m x 120 a H1 hs h1 (by omega) (by omega) na (by omega)
 cases e3 : decide ((120 : Int) < deepN x 120) with
 | true => exact ⟨H1, h1, by simp (maxSteps := 4000000) only [sG, seval, x3, stU, b3, Tryz.f3, ca, e1, e3, c1, kn, List.length_map]⟩
 | false =>
 have e3' := of_decide_eq_false e3
 obtain ⟨sx, nx⟩ := deepN_small x 120 (by omega) (by omega)
 have c2 := fun lm tx hs => @cKeyB q x lm tx a H1 hs h1 oa sx (by omega) na (by omega)
 have c3 := fun m hs => @cRightA m x a H1 hs h1 sx na (by omega)
 obtain ⟨H2, s2, c4⟩ := @cRRightA ⟨true, true, glK q⟩ x a H1 h1 sx na (by omega)
 have na2 := na.sm s2
 obtain ⟨H3, s3, c5⟩ := @cRKeyA ⟨true, true, glK q⟩ x a H2 h1 oa sx (by omega) na2 (by omega)
 have na3 := na2.sm s3
 have zz1 : (rightN x == rightN x) = true := beq_self_eq_true _
 have zz2 : (keyN x == keyN x) = true := beq_self_eq_true _
 cases hr : rightN x with
 | false =>
  obtain ⟨H4, s4, c6⟩ := @cRRightA ⟨true, true, glK q⟩ x a H3 h1 sx na3 (by omega)
  have hk : keyN x = [] := by unfold keyN; rw [hr]; rfl
  have zz3 : (([] : List UInt8) == []) = true := rfl
  simp only [hr] at c3 c4 c6
  rw [hk] at c2 c5
  exact ⟨H4, h1, by simp (maxSteps := 4000000) only [sG, seval, x3, stU, b3, Tryz.f3, ca, e1, e3, c1, c2, c3, c4, c5, c6, zz3, bNe, kn, List.length_map, Bool.not_true, Bool.not_false, beq_self_eq_true]⟩
 | true =>
  have hk : keyN x = jT x := by unfold keyN jT; rw [hr]; rfl
  obtain ⟨hn, he⟩ := right_inv hr
  obtain ⟨H4, h4, m, c6, nm, hh, hfr⟩ := @cRead q x H3 h1 hr oa sx (by omega)
  have na4 := na3.keep hh hfr
  have c7 := fun md hs => @cSameA md x x a m H4 hs h4 sx hn na4 nm (by omega) (by omega)
  have zz3 := jT_ne hn he
  have zz4 : sameN x x = true := sameN_iff.2 rfl
  rw [zz4] at c7
  rw [hk] at c2 c5 zz2
  simp only [hr] at c3 c4
  exact ⟨H4, h4, by simp (maxSteps := 4000000) only [sG, seval, x3, stU, b3, Tryz.f3, ca, e1, e3, c1, c2, c3, c4, c5, c6, c7, zz2, zz3, bNe, kn, List.length_map, Bool.not_true, Bool.not_false, beq_self_eq_true]⟩
end Go.Proofs.YtcledcfeddlomaaGreatDoor.Ev
