import Derived.Test.YtbcecenneganeaaEv8
set_option linter.all false
namespace Go.Proofs.Ytbcecenneganeaa.Ev
open Go.RowKit

def szOf (T : Tab) (t : Nat) : Nat := match T.t t with | some i => i.size | none => 0

theorem run_places' {P : Program} {T : Tab} (hT : TOk P T) (W : World) : ∀ (fs : List Field), (∀ f ∈ fs, (T.t f.type).isSome = true) →
    (fs.mapM fun f => do pure (f.offset, ← sizeOf f.type) : Sem (List (Nat × Nat))).run P W = .ok (fs.map fun f => (f.offset, szOf T f.type)) W
  | [], _ => by simp
  | f :: fs, h => by
    obtain ⟨i, hi⟩ := Option.isSome_iff_exists.1 (h f (by simp))
    have ih := run_places' hT W fs (fun g hg => h g (by simp [hg]))
    have hs := run_size hT hi W
    have e : szOf T f.type = i.size := by simp [szOf, hi]
    rw [List.mapM_cons]
    simp only [Sem.run_bind, hs, Result.andThen_ok, Sem.run_pure, ih, List.map_cons, e]

section
variable {P : Program} {T : Tab} (hT : TOk P T) {β : Env} {s : AS} {a : Act} (hf : FR β s a)
include hT hf

theorem build_rel {t : TypeId} {parts : Array (Nat × Operand)} {v : AV} (h : pureOp T s (.build t parts) = some v) : ∃ v', VR β v v' ∧ Yl P a (.build t parts) v' := by
  simp only [pureOp] at h
  split at h
  · rename_i ps ti h1 h2
    have hps := opdParts_rel hf h1
    have epr : (parts.map fun (i, x) => (i, a.eval x)).toList = parts.toList.map fun p => (p.1, a.eval p.2) := by simp
    split at h
    · rename_i fs z hd hz
      split at h
      · rename_i cs hfill
        cases hc : ((fs.toList.all fun f => (T.t f.type).isSome) && ps.all fun p => flatOk p.2) with
        | false => rw [hc] at h; cases h
        | true =>
          rw [hc, cond_true] at h; cases h
          simp only [Bool.and_eq_true, List.all_eq_true] at hc
          obtain ⟨zv, hzr, hzv⟩ := run_zero hT h2 (default : World)
          have hzv' := hzv β
          rw [hz] at hzv'
          obtain ⟨X, rfl, hX⟩ := hzv'.of_agg
          have hpl : ∀ i p, places T fs i = some p → (fs.toList.map fun f : Field => (f.offset, szOf T f.type)).toArray[i]? = some p := by
            intro i p hp
            unfold places at hp
            split at hp
            · rename_i f hfi
              split at hp
              · rename_i fi hfi2
                cases hp
                have hlt : i < fs.size := (Array.getElem?_eq_some_iff.1 hfi).1
                simp [hfi, szOf, hfi2]
              · cases hp
            · cases hp
          obtain ⟨y, hy, hyr⟩ := fillV_rel hpl (fun p hp => hc.2 p hp) hfill hps hX
          refine ⟨.agg y, by simpa using VR.agg _ _ hyr, Yl.of (m := Instr.build t (parts.map fun (i, x) => (i, a.eval x))) (fun _ _ _ _ _ => rfl) fun W => ?_⟩
          have hz0 : (zeroValue t).run P W = .ok (.agg X) W := by
            obtain ⟨inf, q1, _, _, z', q2, _⟩ := (hT.ty t ti h2).2.1
            have : (zeroValue t).run P (default : World) = .ok z' default := by simp [zeroValue, typeInfo, q1, q2]
            rw [this] at hzr; cases hzr
            simp [zeroValue, typeInfo, q1, q2]
          have hm : (fs.mapM fun f => do pure (f.offset, ← sizeOf f.type) : Sem (Array (Nat × Nat))).run P W = .ok (fs.toList.map fun f : Field => (f.offset, szOf T f.type)).toArray W := by
            rw [Array.mapM_eq_mapM_toList]
            rw [Sem.run_map, run_places' hT W fs.toList hc.1]
            rfl
          simp only [Instr.build, Sem.run_bind, hz0, Result.andThen_ok, run_und hT h2, hd, hm, Value.cells, epr, hy, Sem.run_pure]
      · cases h
    · rename_i n e z hd hz
      split at h
      · rename_i ei he
        split at h
        · rename_i cs hfill
          cases hc : (ps.all fun p => flatOk p.2) with
          | false => rw [hc] at h; cases h
          | true =>
            rw [hc, cond_true] at h; cases h
            simp only [List.all_eq_true] at hc
            obtain ⟨zv, hzr, hzv⟩ := run_zero hT h2 (default : World)
            have hzv' := hzv β
            rw [hz] at hzv'
            obtain ⟨X, rfl, hX⟩ := hzv'.of_agg
            obtain ⟨y, hy, hyr⟩ := fillV_rel (place' := fun i => some (i * ei.size, ei.size)) (fun i p hp => hp) (fun p hp => hc p hp) hfill hps hX
            refine ⟨.agg y, by simpa using VR.agg _ _ hyr, Yl.of (m := Instr.build t (parts.map fun (i, x) => (i, a.eval x))) (fun _ _ _ _ _ => rfl) fun W => ?_⟩
            have hz0 : (zeroValue t).run P W = .ok (.agg X) W := by
              obtain ⟨inf, q1, _, _, z', q2, _⟩ := (hT.ty t ti h2).2.1
              have : (zeroValue t).run P (default : World) = .ok z' default := by simp [zeroValue, typeInfo, q1, q2]
              rw [this] at hzr; cases hzr
              simp [zeroValue, typeInfo, q1, q2]
            simp only [Instr.build, Sem.run_bind, hz0, Result.andThen_ok, run_und hT h2, hd, run_size hT he, Value.cells, epr, hy, Sem.run_pure]
        · cases h
      · cases h
    · cases h
  · cases h

end
end Go.Proofs.Ytbcecenneganeaa.Ev
