import Derived.Test.YtcledcfeddlomaaGreatDoorSZ
set_option linter.all false
set_option maxRecDepth 100000
set_option maxHeartbeats 8000000
namespace Go.Proofs.YtcledcfeddlomaaGreatDoor.Ev
open Go Go.Proofs.YtcledcfeddlomaaGreatDoor.Ev Go.Proofs Go.Proofs.YtcledcfeddlomaaGreatDoor Go.Proofs.YtcledcfeddlomaaGreatDoor.Tab
theorem byteI_rng (n : Int) (i : Nat) : 0 <= byteI n i /\ byteI n i < 256 := by
 unfold byteI
 rw [IntKind.wrap_u8]; omega
theorem packS_rng : ∀ (l : List UInt8), ∀ n ∈ packS l, 0 <= n /\ n < 256
 | [], n, h => by cases h
 | c :: l, n, h => by
  have hc := c.toNat_lt
  unfold packS at h
  cases h0 : decide ((c.toNat : Int) = 0) <;> rw [h0] at h <;> simp only [cond_true, cond_false, List.mem_cons] at h
  ·rcases h with rfl | h
   ·omega
   ·exact packS_rng l n h
  ·rcases h with rfl | rfl | h
   ·omega
   ·omega
   ·exact packS_rng l n h
theorem packV_rng (v : Vl) : ∀ n ∈ packV v, 0 <= n /\ n < 256 := by
 intro n h
 unfold packV at h
 cases h1 : decide (v.k = 1) <;> rw [h1] at h
 ·cases h2 : decide (v.k = 2) <;> rw [h2] at h
  ·cases h3 : decide (v.k = 3) <;> rw [h3] at h <;> simp only [cond_true, cond_false, List.mem_cons, List.mem_append, List.not_mem_nil, or_false] at h
   ·omega
   ·rcases h with (h | h) | h | h
    ·omega
    ·exact packS_rng _ n h
    ·omega
    ·omega
  ·simp only [cond_true, cond_false, List.mem_cons, List.not_mem_nil, or_false] at h
   rcases h with rfl | rfl | rfl | rfl | rfl | rfl | rfl | rfl | rfl <;> first | exact byteI_rng _ _ | omega
 ·cases hb : v.b <;> rw [hb] at h <;> simp only [cond_true, cond_false, List.mem_cons, List.not_mem_nil, or_false] at h <;> omega
def cw (c : Cd) : List (List UInt8) := [c.l, c.op, c.r].map numT ++ (bif decide (c.r = -1) then [hexI (packV c.v)] else [])
def cwL : List Cd -> List (List UInt8)
 | [] => []
 | c :: l => cw c ++ cwL l
def okC (c : Cd) : Prop := i64B c.l /\ i64B c.op /\ i64B c.r /\ (c.r = -1 -> vright c.v = true)
theorem loopCs {cs : List Cd} {q : Int} (hL : cs.length < 100000) (hn : ∀ c ∈ cs, okC c) : ∀ (k i : Nat) (t : Tr AV) (H : Tr AO) (hs : Nat) (A : AV) (es : List (List UInt8)), i + k = cs.length -> es.length <= 10 + 4 * i -> AccF H hs 1 A (es.map AV.str) -> H.get .dead 0 = .cells [A] false -> 0 < hs ->
  t.get .any 3 = .ptr 0 0 -> t.get .any 4 = .fn (.func 68) [] [.ptr 0 0] -> t.get .any 51 = .lst .no (cs.map encC) -> t.get .any 52 = .lit (.int .i64 cs.length) -> t.get .any 53 = .lit (.int .i64 i) ->
  RetN (W tab none (fin tab fi42) (lpc fi42 0) (lpk fi42 0) ⟨t, 139, H, hs, [], ⟨true, true, glK q⟩⟩) (.lst .no ((es ++ cwL (cs.drop i)).map AV.str)) := by
 have D := d42
 simp only [stD, stC, List.cons.injEq, b42, Tryz.f42] at D
 simp only [stU, stC, b42, Tryz.f42]
 intro k
 induction k with
 | zero =>
  intro i t H hs A es hi hes hA hB hb a3 a4 a51 a52 a53
  have e1 : decide ((i : Int) < cs.length) = false := dcF (by omega)
  obtain ⟨o1, o2⟩ := hA.out
  rw [W_loop, List.drop_of_length_le (by omega)]
  simp (maxSteps := 4000000) only [sG, seval, x42, stU, b42, Tryz.f42, a3, a4, a51, a52, a53, e1, hB, o1, o2, cwL, List.append_nil]
 | succ k ih =>
  intro i t H hs A es hi hes hA hB hb a3 a4 a51 a52 a53
  have hlt : i < (cs).length := by omega
  obtain ⟨c, hv, e1, e3, e4, e6, e7⟩ := atS hlt
  have e5 := wrap_succ (i := i) (by omega)
  obtain ⟨x0, x1, x2, x3⟩ := hn c (by rw [<- hv]; exact List.getElem_mem _)
  rw [W_loop, e6]
  simp (maxSteps := 4000000) only [sG, seval, x42, stU, b42, Tryz.f42, encC, ci, a3, a4, a51, a52, a53, e1, e3, e4, e5, lG, hB, D]
  obtain ⟨H', hs', A', c0, hA', hB', hb', hl, hF⟩ := @cPutF [c.l, c.op, c.r] q 0 .full ((H.put .dead hs (.cells [.lit (.int .i64 0), .lit (.int .i64 0), .lit (.int .i64 0), .lit (.int .i64 0), .lit (.bool false), .lit (.int .i64 0), .str []] false)).put .dead hs (.cells [.lit (.int .i64 c.l), .lit (.int .i64 c.op), .lit (.int .i64 c.r), .lit (.int .i64 c.v.k), .lit (.bool c.v.b), .lit (.int .i64 c.v.n), .str c.v.s] false)) (hs + 1) A es true true (by simp) (by intro n hm; simp only [List.mem_cons, List.not_mem_nil, or_false] at hm; rcases hm with rfl | rfl | rfl <;> assumption) (by omega) hA.put2' (by rw [Tr.get_put, if_neg (by omega), Tr.get_put, if_neg (by omega)]; exact hB) (by omega)
  have c' : callF tab (evw tab) ⟨true, true, glK q⟩ 68 [.lst .full [.lit (.int .i64 c.l), .lit (.int .i64 c.op), .lit (.int .i64 c.r)], .ptr 0 0] ((H.put .dead hs (.cells [.lit (.int .i64 0), .lit (.int .i64 0), .lit (.int .i64 0), .lit (.int .i64 0), .lit (.bool false), .lit (.int .i64 0), .str []] false)).put .dead hs (.cells [.lit (.int .i64 c.l), .lit (.int .i64 c.op), .lit (.int .i64 c.r), .lit (.int .i64 c.v.k), .lit (.bool c.v.b), .lit (.int .i64 c.v.n), .str c.v.s] false)) (hs + 1) = some (one [], H', hs') := c0
  have hF1 : H'.get .dead hs = .cells [.lit (.int .i64 c.l), .lit (.int .i64 c.op), .lit (.int .i64 c.r), .lit (.int .i64 c.v.k), .lit (.bool c.v.b), .lit (.int .i64 c.v.n), .str c.v.s] false := by
   have := hF hs (by omega) (by omega) (by rw [Tr.get_put, if_pos rfl]; rfl)
   rw [this, Tr.get_put, if_pos rfl]
  clear c0 hF
  rw [show es ++ cwL (c :: cs.drop (i + 1)) = (es ++ cw c) ++ cwL (cs.drop (i + 1)) by simp [cwL]]
  cases hr : decide (c.r = -1) with
  | false =>
   have hw : cw c = [c.l, c.op, c.r].map numT := by unfold cw; rw [hr]; exact List.append_nil _
   rw [hw]
   have hr' := of_decide_eq_false hr
   simp (maxSteps := 4000000) only [sG, seval, x42, stU, b42, Tryz.f42, c', a53, e1, e3, e4, e5, lG, D, hF1, hr]
   apply ih (i + 1) _ _ _ A' _ (by omega) (by simp; omega) hA' hB' hb'
   all_goals simp only [sG, seval, a3, a4, a51, a52, a53]
  | true =>
   have hr' := of_decide_eq_true hr
   have hw : cw c = [c.l, c.op, c.r].map numT ++ [hexI (packV c.v)] := by unfold cw; rw [hr]; rfl
   rw [hw, <- List.append_assoc]
   have cP := fun m H hs => @cPackV m c.v H hs (x3 hr')
   have cH := fun m k1 H hs => @cHex m k1 (packV c.v) H hs (by have := packV_len (x3 hr'); omega) (packV_rng c.v)
   simp only [encV, Vl.cs] at cP
   obtain ⟨H2, hP, g1, g2⟩ := appTx hA' (by simp; omega) (hexI (packV c.v))
   have g3 := g2 0 hb' (by rw [hB']; rfl)
   rw [hB'] at g3
   simp (maxSteps := 4000000) only [sGA, seval, x42, stU, b42, Tryz.f42, c', a3, a4, a53, e1, e3, e4, e5, lG, D, hF1, hr, cP, cH, hP, g3, hB', bares_I, nrms_I]
   apply ih (i + 1) _ _ _ _ _ (by omega) (by simp; omega) (.inl (.inr ⟨hs', rfl, by rw [Tr.get_put, if_neg (by omega)]; exact g1, by omega⟩)) (by rw [Tr.get_put, if_pos rfl]) (by omega)
   all_goals simp only [sG, seval, a3, a4, a51, a52, a53]
theorem eqWords2 {q : Int} {nm : List UInt8} {w : Int} {cs : List Cd} {ps : List (Int × Int)} {cl : List Int} {ag of : Int} {l r : Nd} {lm tx : Bool} (hL : cs.length < 100000) (hn : ∀ c ∈ cs, okC c) : iso tab fi42 ⟨lm, tx, glK q⟩ [encN (.mk 2 nm w cs ps cl ag of l r)] = some (.lst .no ((([[119, 104, 101, 114, 101]] ++ [(cs.length : Int)].map numT) ++ cwL cs).map AV.str)) := by
 have D := d42
 simp only [stD, stC, List.cons.injEq, b42, Tryz.f42] at D
 refine iso_ret ?_
 have cn := fun m H hs => @cNames m H hs
 have L := @loopCs cs q hL hn cs.length 0
 simp only [stU, stC, b42, Tryz.f42] at L
 simp (maxSteps := 4000000) only [sG, seval, x42, stU, b42, Tryz.f42, encN, ci, D, cn, List.length_map]
 obtain ⟨H', hs', A', c, hA, hB, hb⟩ := @cPutN [(cs.length : Int)] q 0 .full (Tr.put AO.dead (Tr.put AO.dead Tr.lf 0 (AO.cells [AV.lit (Value.slice none 0 0)] false)) 0 (AO.cells [AV.lst ATk.full [AV.str [119, 104, 101, 114, 101]]] false)) 1 (AV.lst ATk.full [AV.str [119, 104, 101, 114, 101]]) [[119, 104, 101, 114, 101]] true true (by simp) (by intro n hm; rw [List.mem_singleton.1 hm]; omega) (by simp) (.inr rfl) rfl (by omega)
 simp only [List.map_cons, List.map_nil, ci] at c
 simp (maxSteps := 4000000) only [sG, seval, x42, stU, b42, Tryz.f42, c, hB, D, List.length_map]
 apply L _ _ _ A' _ (by trivial) (by simp) hA hB hb
 all_goals simp only [sG, seval]
 all_goals try rfl
def ownW (k : Int) (nm : List UInt8) (w : Int) (cs : List Cd) (ps : List (Int × Int)) (cl : List Int) (ag of : Int) : List (List UInt8) :=
 bif decide (k = 1) then [[115, 99, 97, 110], nm, numT w] else
 bif decide (k = 2) then [119, 104, 101, 114, 101] :: numT cs.length :: cwL cs else
 bif decide (k = 3) then [109, 101, 101, 116] :: numT ps.length :: pwL ps else
 bif decide (k = 4) then [109, 105, 115, 115] :: numT ps.length :: pwL ps else
 bif decide (k = 5) then [116, 97, 107, 101] :: numT cl.length :: cl.map numT else
 bif decide (k = 6) then [[111, 110, 99, 101]] else
 [103, 114, 111, 117, 112] :: numT cl.length :: (cl.map numT ++ [numT ag, numT of])
def okW (k : Int) (w : Int) (cs : List Cd) (ps : List (Int × Int)) (cl : List Int) (ag of : Int) : Prop :=
 (k = 1 ∨ k = 2 ∨ k = 3 ∨ k = 4 ∨ k = 5 ∨ k = 6 ∨ k = 7) /\ i64B w /\ i64B ag /\ i64B of /\ cs.length < 100000 /\ ps.length < 100000 /\ cl.length < 100000 /\ (k = 2 -> ∀ c ∈ cs, okC c) /\ (∀ p ∈ ps, i64B p.1 /\ i64B p.2) /\ (∀ n ∈ cl, i64B n)
theorem cWords {q : Int} {k : Int} {nm : List UInt8} {w : Int} {cs : List Cd} {ps : List (Int × Int)} {cl : List Int} {ag of : Int} {l r : Nd} {lm tx : Bool} {H : Tr AO} {hs : Nat} (h : okW k w cs ps cl ag of) : callF tab (evw tab) ⟨lm, tx, glK q⟩ 42 [encN (.mk k nm w cs ps cl ag of l r)] H hs = some (.lst .no ((ownW k nm w cs ps cl ag of).map AV.str), H, hs) := by
 obtain ⟨hk, h1, h2, h3, h4, h5, h6, h7, h8, h9⟩ := h
 refine callF_iso tcon rfl rfl (by simp only [bares, bare_N, Bool.and_self]) ?_
 rw [nrms, nrms, nrm_N]
 rcases hk with rfl | rfl | rfl | rfl | rfl | rfl | rfl
 ·exact eqWords1 h1
 ·exact eqWords2 h4 (h7 rfl)
 ·exact eqWords3 h5 h8
 ·exact eqWords4 h5 h8
 ·exact eqWords5 h6 h9
 ·exact eqWords6
 ·rw [eqWords7 h6 h2 h3 h9]; simp [ownW]
end Go.Proofs.YtcledcfeddlomaaGreatDoor.Ev
