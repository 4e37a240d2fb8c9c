import Derived.Test.YtbcecenneganeaaEv20
set_option linter.all false
namespace Go.Proofs.Ytbcecenneganeaa.Ev
open Go.RowKit Go.Builtin

theorem setL_length : ∀ (ps : List (Nat × AV)) (t : List AV), (setL t ps).length = t.length
  | [], t => rfl
  | (i, a) :: ps, t => by simp [setL, setL_length ps]

theorem setL_rel {β : Env} : ∀ {ps : List Nat} {as : List AV} {xs : List Value} {t : List AV} {x : Array Value}, VRs β as xs → VRs β t x.toList →
    VRs β (setL t (ps.zip as)) ((ps.zip xs).foldl (fun tmps (q : Nat × Value) => tmps.setIfInBounds q.1 q.2) x).toList
  | [], as, xs, t, x, h, ht => by simpa [setL] using ht
  | p :: ps, [], _, t, x, .nil, ht => by simpa [setL] using ht
  | p :: ps, _, _, t, x, .cons a v as xs hv h, ht => by
    simp only [List.zip_cons_cons, setL, List.foldl_cons]
    exact setL_rel h (by simpa using ht.set p hv)

/-- A loop's record turns. -/
theorem loop_put {β : Env} {B : Gd} {W : World} {H : Tr AO} {hs : Nat} (hw : WR β B H hs W) {o : Nat} {k : Bk} (hk : β.b o = some k) (hown : (H.get .dead o).own = true) (hnr : (H.get .dead o).isRoom = false) (hB : ¬ B.pr k.blk) {st : LoopState} {pend : Option Code} {tmps : List AV} {ps : Array Tmp} {assign body : Code} {d : Nat} {lm : Bool} {L : Loop}
    (hL : ORel β B.pr (.loop st pend tmps ps assign body d lm) k (some (.loop L))) : WR β B (H.put .dead o (.loop st pend tmps ps assign body d lm)) hs (W.putObj k.blk (.loop L)) := by
  have hu := Upd.putObj W k.blk (.loop L)
  refine hw.write hk _ hown hnr (hu.below hB) hu.size hu.oth ?_ (fun _ => hown)
  rw [World.putObj_heap_same (hw.blk o k hk)]
  exact hL

section
variable {P : Program} {T : Tab} (hT : TSnd P T) {rec : Rec} (hR : Snd P rec)
include hT hR

theorem roundF_rel {o : Nat} {args : List AV} {H H' : Tr AO} {hs hs' : Nat} {v : AV} (h : roundF rec o args H hs = some (v, H', hs')) {β : Env} {B : Gd} {W : World} (hw : WR β B H hs W) {xs : List Value} (hx : VRs β args xs) {k : Bk} (hk : β.b o = some k) (n : Nat) (r : Option Nat) :
    ∃ L : Loop, (Instr.yield k.blk xs.toArray).run P W = .ok (.round k.blk L.fn ((L.params.zip xs.toArray).foldl (fun tmps (t, a) => tmps.setIfInBounds t a) L.tmps) L.assign L.body) W ∧
      RoundIn (FW r) n P k.blk L.fn ((L.params.zip xs.toArray).foldl (fun tmps (t, a) => tmps.setIfInBounds t a) L.tmps) L.assign L.body W (EndR β B hs v H' hs') := by
  unfold roundF at h
  split at h
  · rename_i x0 p0 tmps ps assign body d lm hg
    have ho := hw.obj o k hk
    rw [hg] at ho
    obtain ⟨fn, tm, dk, o1, o2, o3, o4⟩ := ho
    rw [Bool.cond_decide] at h
    split at h
    · rename_i hlen
      have hxl : xs.toArray.size = ps.size := by simp [hx.length, hlen]
      refine ⟨_, run_yield o1 (by simpa using hxl), ?_⟩
      -- the temporaries of the round
      have htm : VRs β (setL tmps (ps.toList.zip args)) ((ps.zip xs.toArray).foldl (fun tmps (t, a) => tmps.setIfInBounds t a) tm).toList := by
        have := setL_rel (ps := ps.toList) hx o2
        rw [← Array.foldl_toList, Array.toList_zip]
        simpa using this
      generalize htt : (ps.zip xs.toArray).foldl (fun tmps (t, a) => tmps.setIfInBounds t a) tm = tt at htm
      refine roundIn_of_wpIn (F := FW r) trivial ?_
      have hfi : ((FW r).inRound k.blk) = FW (some k.blk) := rfl
      rw [hfi]
      generalize hlt : setL tmps (ps.toList.zip args) = lt at h htm
      simp only at h
      split at h
      · rename_i s1 hrec1
        split at h
        · rename_i p1 t1 ps1 a1 b1 d1 lm1 hg1
          split at h
          · rename_i x2 s2 hrec2
            have hsr : SR β B ⟨putL .lf 0 lt, lt.length, H, hs, [], lm⟩ { tmps := tt, defers := [] } W := by
              refine ⟨hw, ?_, .nil⟩
              have := enter_rel htm lt.length H hs lm
              have hl := htm.length
              simp only [Array.length_toList] at hl
              have e1 : max lt.length lt.length = lt.length := Nat.max_self _
              have e2 : (tt.toList.toArray ++ Array.replicate (lt.length - tt.toList.toArray.size) undef) = tt := by simp [hl]
              rw [e1] at this
              rw [e2] at this
              exact this
            refine hR (some o) _ _ _ _ hrec1 β B _ W n (some k.blk) ⟨k, hk, rfl⟩ hsr _ fun β1 a' W1 hon1 hs1 _ => ?_
            have hk1 := hon1.le.b _ _ hk
            have ho1 := hs1.w.obj o k hk1
            rw [hg1] at ho1
            obtain ⟨fn1, tm1, dk1, q1, q2, q3, q4⟩ := ho1
            refine ⟨_, run_beginRound q1 rfl, ?_⟩
            have hwb := loop_put (lm := lm1) hs1.w hk1 (by rw [hg1]; rfl) (by rw [hg1]; rfl) q4 (L := ⟨.busy, p1, fn1, tm1, ps1, a1, b1, dk1⟩) ⟨fn1, tm1, dk1, rfl, q2, q3, q4⟩
            refine hR (some o) _ _ _ _ hrec2 β1 B a' _ n (some k.blk) ⟨k, hk1, rfl⟩ ⟨hwb, ⟨hs1.f.size, hs1.f.get⟩, hs1.d⟩ _ fun β2 a2 W2 hon2 hs2 _ => ?_
            have hk2 := hon2.le.b _ _ hk1
            have ho2 := hs2.w.obj o k hk2
            split at h
            · rename_i st2 p2 t2 ps2 a2' b2 d2 lm2 hg2
              rw [hg2] at ho2
              obtain ⟨fn2, tm2, dk2, z1, z2, z3, z4⟩ := ho2
              have hon := hon1.trans hon2
              have fin : ∀ (j : Option Code) (H3 : Tr AO), H3 = s2.heap.put .dead o (.loop (if j.isNone then .ready else .done) j t2 ps2 a2' b2 d2 lm2) →
                  ∃ v' w', (Instr.endRound k.blk j).run P W2 = .ok v' w' ∧ EndR β B hs (.lit (.bool j.isNone)) H3 s2.hs (.returned v') w' := by
                intro j H3 e3
                subst e3
                refine ⟨_, _, run_endRound j z1, β2, ⟨hon.le, hon.old, hon.hs⟩, ?_, VR.lit _⟩
                exact loop_put (lm := lm2) hs2.w hk2 (by rw [hg2]; rfl) (by rw [hg2]; rfl) z4 ⟨fn2, tm2, dk2, rfl, z2, z3, z4⟩
              cases x2 with
              | normal => simp only at h; cases h; exact fin none _ rfl
              | ret => simp only at h; cases h; exact fin (some .ret) _ rfl
              | exit i => simp only at h; cases h; exact fin (some (.exit i)) _ rfl
              | goto i => simp only at h; cases h; exact fin (some (.goto i)) _ rfl
            · cases h
          · cases h
        · cases h
      · cases h
    · cases h
  · cases h

end
end Go.Proofs.Ytbcecenneganeaa.Ev
