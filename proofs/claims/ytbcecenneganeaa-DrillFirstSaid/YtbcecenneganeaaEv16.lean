import Derived.Test.YtbcecenneganeaaEv15
set_option linter.all false
namespace Go.Proofs.Ytbcecenneganeaa.Ev
open Go.RowKit Go.Builtin

/-- What an append of n elements, whose cells are 'new', comes to at any slice. -/
structure App (P : Program) (W : World) (e : TypeId) (size bytes n : Nat) (new : Array Value) (m : Value → Sem Value) : Prop where
  len : new.size = n * size
  pos : 0 < size
  inn : ∀ base sLen sCap W', sLen + n ≤ sCap → PutAt P W W' base (sLen * size) new.toList → (m (.slice base sLen sCap)).run P W = .ok (.slice base (sLen + n) sCap) W'
  out : n ≠ 0 → ∀ base sLen sCap old, (∀ d, (firstCells size sLen (.slice base sLen sCap)).run P { W with drawn := d } = .ok old { W with drawn := d }) → ¬ sLen + n ≤ sCap → (4 * (sLen + n) + 4000) * bytes ≤ 281474976710656 →
    ∃ c rest, sLen + n ≤ c ∧ rest.size = (c - (sLen + n)) * size ∧ (m (.slice base sLen sCap)).run P W = .ok (.slice (some ⟨W.heap.size, 0, none⟩) (sLen + n) c) (({ W with drawn := W.drawn + 1 } : World).alloc (.cells (old ++ new ++ rest) e))

/-- A new row behind a draw. -/
theorem WR.grown {β : Env} {B : Gd} {W : World} {H : Tr AO} {hs : Nat} (hw : WR β B H hs W) {c : List AV} {old rest : Array Value} {e : TypeId} {size need cap : Nat} (hc : VRs β c old.toList) (hl : old.size = need * size) (hr : rest.size = (cap - need) * size) (hn : need ≤ cap) :
    ∃ β', β.le β' ∧ (∀ o, o < hs → β'.b o = β.b o) ∧ WR β' B (H.put .dead hs (.cells c false)) (hs + 1) (({ W with drawn := W.drawn + 1 } : World).alloc (.cells (old ++ rest) e)) ∧
      VR β' (.slc hs 0 need (.op size)) (.slice (some ⟨W.heap.size, 0, none⟩) need cap) := by
  have hw' := hw.drew (W.drawn + 1)
  have hd := hw.dom hs (Nat.le_refl _)
  have hle := Env.le_add (k := ⟨W.heap.size, 0, (old ++ rest).size, size⟩) hd
  refine ⟨β.add hs ⟨W.heap.size, 0, (old ++ rest).size, size⟩, hle, fun o ho => Env.add_other _ _ (by omega), ?_, ?_⟩
  · refine hw'.alloc (.cells (old ++ rest) e) (.cells c false) _ size ?_
    refine ⟨old ++ rest, e, (0, 0), rfl, rfl, ?_, .inl (Nat.le_refl _), ⟨fun _ => hw.new, fun x => by cases x⟩, fun i x hx => ?_⟩
    · have := hc.length; simp at this; simp; omega
    · obtain ⟨v, hv, hvr⟩ := (hc.mono hle).get i x hx
      refine ⟨v, ?_, hvr⟩
      have hlt : i < old.size := by simpa using (List.getElem?_eq_some_iff.1 hv).1
      rw [Nat.zero_add, Array.getElem?_append_left hlt]
      simpa using hv
  · have := VR.slcO (β := β.add hs ⟨W.heap.size, 0, (old ++ rest).size, size⟩) hs 0 need cap size _ (Env.add_self _ _ _) rfl (by
      simp only [Array.size_append, hl, hr, Nat.zero_add]
      rw [← Nat.add_mul]; congr 1; omega) hn
    simpa using this

section
variable {P : Program} {β : Env} {B : Gd} {W : World} {H : Tr AO} {hs : Nat} (hw : WR β B H hs W)
include hw

theorem append_rel {e : TypeId} {size bytes n : Nat} {u v : AV} {x : Value} {cs : List AV} {new : Array Value} {m : Value → Sem Value} {H' : Tr AO} {hs' : Nat} (hu : VR β u x) (h : append' H hs size bytes u n cs = some (v, H', hs'))
    (hcs : VRs β cs new.toList) (hA : App P W e size bytes n new m) :
    ∃ v' W' β', β.le β' ∧ (∀ o, o < hs → β'.b o = β.b o) ∧ WR β' B H' hs' W' ∧ hs ≤ hs' ∧ VR β' v v' ∧ (m x).run P W = .ok v' W' := by
  unfold append' at h
  rw [beq_if] at h
  split at h
  · rename_i hn
    subst hn
    have hnew : new = #[] := by
      have := hA.len; simp at this; exact this
    have hin : ∀ base sLen sCap, sLen ≤ sCap → (m (.slice base sLen sCap)).run P W = .ok (.slice base sLen sCap) W := fun base sLen sCap hle => by
      refine hA.inn base sLen sCap W (by simpa using hle) ?_
      cases base with
      | none => rfl
      | some ad => simp [PutAt, hnew, storeCells]
    split at h
    · rename_i o off len c
      cases hb : Nat.ble len c with
      | false => rw [hb] at h; cases h
      | true =>
        rw [hb, cond_true] at h; cases h
        obtain ⟨k, c', hk, rfl, hX, _⟩ := hu.of_slc
        obtain rfl := hX _ rfl
        exact ⟨_, W, β, Env.le.refl _, fun _ _ => rfl, hw, Nat.le_refl _, hu, hin _ _ _ (ble_le.1 hb)⟩
    · rename_i o off len z
      cases h
      obtain ⟨k, c', hk, rfl, _, hO⟩ := hu.of_slc
      exact ⟨_, W, β, Env.le.refl _, fun _ _ => rfl, hw, Nat.le_refl _, hu, hin _ _ _ (hO _ rfl).2.2⟩
    · cases h
      obtain rfl := hu.of_lit
      exact ⟨_, W, β, Env.le.refl _, fun _ _ => rfl, hw, Nat.le_refl _, hu, hin _ _ _ (Nat.le_refl _)⟩
    · cases h
      have ev : ∃ p q, x = .slice (some p) 0 q := by cases hu; exact ⟨_, _, rfl⟩
      obtain ⟨p, q, rfl⟩ := ev
      exact ⟨_, W, β, Env.le.refl _, fun _ _ => rfl, hw, Nat.le_refl _, hu, hin _ _ _ (Nat.zero_le _)⟩
    · cases h
  · rename_i hn0
    cases hb0 : (cs.all oneCell && Nat.beq cs.length (n * size)) with
    | false => rw [hb0] at h; cases h
    | true =>
      rw [hb0, cond_true] at h
      simp only [Bool.and_eq_true] at hb0
      have hcl : cs.length = n * size := Nat.eq_of_beq_eq_true hb0.2
      split at h
      · -- onto nil
        obtain rfl := hu.of_lit
        cases hb : Nat.ble ((4 * n + 4000) * bytes) 281474976710656 with
        | false => rw [hb] at h; cases h
        | true =>
          rw [hb, cond_true] at h; cases h
          obtain ⟨c, rest, q1, q2, q3⟩ := hA.out hn0 none 0 0 #[] (fun d => by simp [firstCells]) (by omega) (by simpa using ble_le.1 hb)
          obtain ⟨β', g1, g2, g3, g4⟩ := hw.grown (rest := rest) (e := e) (size := size) (need := n) (cap := c) hcs hA.len (by simpa using q2) (by omega)
          refine ⟨_, _, β', g1, g2, g3, Nat.le_succ _, g4, ?_⟩
          rw [q3]
          simp
      · rename_i o off len cap
        obtain ⟨k, c, hk, rfl, hX, hO⟩ := hu.of_slc
        have ho := hw.obj o k hk
        split at h
        · rename_i cc ro hg
          rw [hg] at ho
          cases hb : (Nat.ble (off + len * size) cc.length && Nat.ble ((4 * (len + n) + 4000) * bytes) 281474976710656) with
          | false => rw [hb] at h; cases h
          | true =>
            rw [hb, cond_true] at h
            simp only [Bool.and_eq_true, ble_le] at hb
            obtain ⟨arr, ae, fz, o1, o2, o3, o4, o5, o6⟩ := ho
            -- the elder elements
            have hrd : rd H o off (len * size) = some ((cc.drop off).take (len * size)) := by
              unfold rd; rw [hg]; simp only; rw [ble_le.2 hb.1, cond_true]
            obtain ⟨arr', ae', fz', r1, r2, r3⟩ := rd_rel hw hrd hk
            rw [o1] at r1; cases r1
            have hold : ∀ d, (firstCells size len (.slice (some ⟨k.blk, k.sh + off, none⟩) len c)).run P { W with drawn := d } = .ok ((arr.toList.drop (k.sh + off)).take (len * size)).toArray { W with drawn := d } := fun d => by
              unfold firstCells
              exact run_loadCells (W := { W with drawn := d }) (e := ae) (fz := fz) o1 r2
            have hout : ¬ len + n ≤ c → ∃ v' W' β', β.le β' ∧ (∀ o, o < hs → β'.b o = β.b o) ∧ WR β' B (H.put .dead hs (.cells ((cc.drop off).take (len * size) ++ cs) false)) (hs + 1) W' ∧ VR β' (.slc hs 0 (len + n) (.op size)) v' ∧ (m (.slice (some ⟨k.blk, k.sh + off, none⟩) len c)).run P W = .ok v' W' := by
              intro hgt
              obtain ⟨c2, rest, q1, q2, q3⟩ := hA.out hn0 _ len c _ hold hgt hb.2
              have hall : VRs β ((cc.drop off).take (len * size) ++ cs) (((arr.toList.drop (k.sh + off)).take (len * size)).toArray ++ new).toList := by simpa using r3.append hcs
              have hlen : (((arr.toList.drop (k.sh + off)).take (len * size)).toArray ++ new).size = (len + n) * size := by
                have := hall.length
                simp only [Array.length_toList] at this
                rw [this, List.length_append, hcl, List.length_take, List.length_drop, Nat.add_mul]
                omega
              obtain ⟨β', g1, g2, g3, g4⟩ := hw.grown (rest := rest) (e := e) (size := size) (need := len + n) (cap := c2) hall hlen q2 q1
              exact ⟨_, _, β', g1, g2, g3, g4, q3⟩
            have hinn : ∀ (hle : len + n ≤ c) (H2 : Tr AO), wr H o (off + len * size) cs = some H2 → ∃ W', WR β B H2 hs W' ∧ (m (.slice (some ⟨k.blk, k.sh + off, none⟩) len c)).run P W = .ok (.slice (some ⟨k.blk, k.sh + off, none⟩) (len + n) c) W' := by
              intro hle H2 hwr
              obtain ⟨W', w1, w2⟩ := wr_rel hw (P := P) hwr hk hcs
              refine ⟨W', w2, hA.inn _ _ _ W' hle ?_⟩
              simp only [PutAt, add_addr, Nat.add_assoc]
              simpa [Nat.add_assoc] using w1
            split at h
            · rename_i kc
              obtain rfl := hX _ rfl
              cases hb2 : Nat.ble (len + n) c with
              | true =>
                rw [hb2, cond_true] at h
                split at h
                · rename_i H2 hwr
                  cases h
                  obtain ⟨W', w1, w2⟩ := hinn (ble_le.1 hb2) _ hwr
                  exact ⟨_, W', β, Env.le.refl _, fun _ _ => rfl, w1, Nat.le_refl _, VR.slcX _ _ _ _ k hk, w2⟩
                · cases h
              | false =>
                rw [hb2, cond_false] at h
                cases hb3 : Nat.ble len c with
                | false => rw [hb3] at h; cases h
                | true =>
                  rw [hb3, cond_true] at h; cases h
                  obtain ⟨v', W', β', g1, g2, g3, g4, g5⟩ := hout (fun hle => by rw [ble_le.2 hle] at hb2; cases hb2)
                  exact ⟨v', W', β', g1, g2, g3, Nat.le_succ _, g4, g5⟩
            · rename_i z
              obtain ⟨hz, hsz, hlc⟩ := hO _ rfl
              cases hb2 : (Nat.beq z size && !ro) with
              | false => rw [hb2] at h; cases h
              | true =>
                rw [hb2, cond_true] at h
                simp only [Bool.and_eq_true, Bool.not_eq_true'] at hb2
                have hzs : z = size := Nat.eq_of_beq_eq_true hb2.1
                subst hzs
                have hro := hb2.2
                subst hro
                cases hb3 : Nat.ble (off + (len + n) * z) cc.length with
                | true =>
                  rw [hb3, cond_true] at h
                  split at h
                  · rename_i H2 hwr
                    cases h
                    have hle : len + n ≤ c := by
                      have h3 := ble_le.1 hb3
                      have hzpos : 0 < z := hA.pos
                      have : (len + n) * z ≤ c * z := by omega
                      exact Nat.le_of_mul_le_mul_right this hzpos
                    obtain ⟨W', w1, w2⟩ := hinn hle _ hwr
                    exact ⟨_, W', β, Env.le.refl _, fun _ _ => rfl, w1, Nat.le_refl _, VR.slcO _ _ _ _ _ k hk hz hsz hle, w2⟩
                  · cases h
                | false =>
                  rw [hb3, cond_false] at h; cases h
                  by_cases hle : len + n ≤ c
                  · -- there is room: the same block
                    have hol := hcs.length
                    simp only [Array.length_toList] at hol
                    have hend : k.sh + off + len * z + new.toList.length ≤ arr.size := by
                      have : (len + n) * z ≤ c * z := Nat.mul_le_mul_right z hle
                      rw [Nat.add_mul] at this
                      simp only [Array.length_toList]
                      omega
                    obtain ⟨W', arr2, s1, s2, s3, s4, s5⟩ := run_storeCells (P := P) (o := k.sh + off + len * z) new.toList 0 W arr o1 (by rw [o2]; exact o4) (oneCells_rel hcs hb0.1) (by simpa using hend)
                    have hd := hw.dom hs (Nat.le_refl _)
                    have hle' := Env.le_add (k := ⟨k.blk, k.sh + off, k.sz, k.esz⟩) hd
                    have hall : VRs β ((cc.drop off).take (len * z) ++ cs) ((arr.toList.drop (k.sh + off)).take (len * z) ++ new.toList) := r3.append hcs
                    have hwr' := hw.rename (W' := W') hk (by rw [hg]; rfl) (by rw [hg]; rfl) (s2.below (o5.1 rfl)) s2.size s2.oth ⟨k.blk, k.sh + off, k.sz, k.esz⟩ rfl (.cells ((cc.drop off).take (len * z) ++ cs) false) (by
                      rw [s3]
                      have hal := hall.length
                      refine ⟨arr2, ae, fz, rfl, by rw [s5, o2], ?_, o4, ⟨fun _ => o5.1 rfl, fun x => by cases x⟩, fun i x hx => ?_⟩
                      · rw [← hal]; simp only [List.length_append, List.length_take, List.length_drop, Array.length_toList]
                        simp only [Array.length_toList] at hend
                        omega
                      · obtain ⟨v, hv, hr⟩ := (hall.mono hle').get i x hx
                        refine ⟨v, ?_, hr⟩
                        have ha2 : arr2[k.sh + off + i]? = arr2.toList[k.sh + off + i]? := by simp
                        rw [ha2, s4]
                        have hl1 : ((arr.toList.drop (k.sh + off)).take (len * z)).length = len * z := by simp; omega
                        have hl2 : (arr.toList.take (k.sh + off + len * z + 0)).length = k.sh + off + len * z := by simp; omega
                        by_cases c1 : i < len * z
                        · rw [List.getElem?_append_left (by omega)] at hv
                          rw [List.getElem?_append_left (by omega), List.getElem?_take, if_pos (by omega)]
                          rw [List.getElem?_take, if_pos c1, List.getElem?_drop] at hv
                          exact hv
                        · rw [List.getElem?_append_right (by omega), hl1] at hv
                          rw [List.getElem?_append_right (by omega), hl2, show k.sh + off + i - (k.sh + off + len * z) = i - len * z from by omega]
                          have hlt : i - len * z < new.toList.length := (List.getElem?_eq_some_iff.1 hv).1
                          rw [List.getElem?_append_left hlt]
                          exact hv)
                    refine ⟨_, W', _, hle', fun j hj => Env.add_other _ _ (by omega), hwr', Nat.le_succ _, ?_, hA.inn _ _ _ W' hle ?_⟩
                    · have := VR.slcO (β := β.add hs ⟨k.blk, k.sh + off, k.sz, k.esz⟩) hs 0 (len + n) c z _ (Env.add_self _ _ _) hz (by simpa using hsz) hle
                      simpa using this
                    · simp only [PutAt, add_addr]
                      simpa using s1
                  · -- there is none: a new one; the elder one may be read no more
                    obtain ⟨v', W', β', g1, g2, g3, g4, g5⟩ := hout hle
                    refine ⟨v', W', β', g1, g2, ?_, Nat.le_succ _, g4, g5⟩
                    have hne : o ≠ hs := fun e => by have := hw.dom hs (Nat.le_refl _); rw [← e, hk] at this; cases this
                    refine (g3.kill o).congr fun j => ?_
                    simp only [Tr.get_put]
                    by_cases e1 : j = o
                    · subst e1; rw [if_neg hne, if_pos rfl, if_pos rfl]
                    · rw [if_neg e1, if_neg e1]
        · cases h
      · cases h

end
end Go.Proofs.Ytbcecenneganeaa.Ev
