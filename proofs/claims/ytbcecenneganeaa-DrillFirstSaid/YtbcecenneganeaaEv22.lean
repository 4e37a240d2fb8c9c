import Derived.Test.YtbcecenneganeaaEv21
set_option linter.all false
namespace Go.Proofs.Ytbcecenneganeaa.Ev
open Go.RowKit Go.Builtin

/-- What an operation does, its value being put in its place. -/
def OpDoes (P : Program) (o : Oper) (β : Env) (B : Gd) (hs : Nat) (v : AV) (H' : Tr AO) (hs' : Nat) (a : Act) (W : World) (n : Nat) (r : Option Nat) : Prop :=
  ∀ (next : Act → World → Prop) (Q : Exit → Act → World → Prop), (∀ β' v' W', Env.on β β' hs hs' → WR β' B H' hs' W' → VR β' v v' → next (a.put o.dst v') W') → o.wpIn (FW r) n P a W next Q

theorem OpDoes.of_run {P : Program} {o : Oper} {β β' : Env} {B : Gd} {hs : Nat} {v : AV} {H' : Tr AO} {hs' : Nat} {a : Act} {W W' : World} {n : Nat} {r : Option Nat} {v' : Value} (hd : ∀ c, o.op ≠ .defer c)
    (hrun : (execOp a.eval o).run P W = .ok (.value v') W' ∨ ((execOp a.eval o).run P W = .ok .skip W' ∧ v' = undef)) (hon : Env.on β β' hs hs') (hw : WR β' B H' hs' W') (hv : VR β' v v') : OpDoes P o β B hs v H' hs' a W n r := by
  intro next Q hnext
  refine ⟨fun _ _ => trivial, ?_⟩
  rw [Oper.semAt_eq _ _ _ hd]
  rcases hrun with hrun | ⟨hrun, rfl⟩
  · rw [hrun]; exact hnext β' v' W' hon hw hv
  · rw [hrun]; exact hnext β' undef W' hon hw hv

section
variable {P : Program} {T : Tab} (hT : TSnd P T) {rec : Rec} (hR : Snd P rec)
include hT hR

theorem pureD {o : Oper} {s : AS} {β : Env} {B : Gd} {a : Act} {W : World} {v : AV} (h : pureOp T s o.op = some v) (hf : FR β s a) {H : Tr AO} {hs : Nat} (hw : WR β B H hs W) (n : Nat) (r : Option Nat) :
    OpDoes P o β B hs v H hs a W n r := by
  obtain ⟨v', hv, hy⟩ := pureOp_rel hT.toTOk hf h
  obtain ⟨dst, op, ty, pos, after, guard⟩ := o
  exact .of_run (fun c e => by simp only at e; subst e; simp [pureOp] at h) (.inl (hy dst ty pos after guard W)) (Env.on.refl _ _) hw hv

theorem readD {o : Oper} {s : AS} {β : Env} {B : Gd} {a : Act} {W : World} {v : AV} {H : Tr AO} {hs : Nat} (h : readOp T s H o.op = some v) (hf : FR β s a) (hw : WR β B H hs W) (n : Nat) (r : Option Nat) :
    OpDoes P o β B hs v H hs a W n r := by
  obtain ⟨v', hv, hy⟩ := readOp_rel hT.toTOk hw hf h
  obtain ⟨dst, op, ty, pos, after, guard⟩ := o
  exact .of_run (fun c e => by simp only at e; subst e; simp [readOp] at h) (.inl (hy dst ty pos after guard)) (Env.on.refl _ _) hw hv

theorem newD {o : Oper} {s : AS} {β : Env} {B : Gd} {a : Act} {W : World} {v : AV} {A : AO} {H : Tr AO} {hs : Nat} (h : newOp T s hs o.op = some (A, v)) (hf : FR β s a) (hw : WR β B H hs W) (n : Nat) (r : Option Nat) :
    OpDoes P o β B hs v (H.put .dead hs A) (hs + 1) a W n r := by
  have hn := hw.dom hs (Nat.le_refl _)
  obtain ⟨obj, sz, esz, v', hy, ho, hv⟩ := newOp_rel hT.toTOk hf hn hw.new (fun off => hw.fz_new _ off (Nat.le_refl _)) h
  obtain ⟨dst, op, ty, pos, after, guard⟩ := o
  obtain ⟨g1, g2, g3⟩ := hw.newN hn (A := A) (by rw [Tr.get_put, if_pos rfl]) (hw.alloc obj A sz esz ho)
  exact .of_run (fun c e => by simp only at e; subst e; simp [newOp] at h) (.inl (hy dst ty pos after guard)) ⟨g2, fun j hj => by rw [g3, Env.add_other _ _ (by omega)], Nat.le_succ _⟩ g1 hv

theorem deadD {o : Oper} {s : AS} {β : Env} {B : Gd} {a : Act} {W : World} {v : AV} {H : Tr AO} {hs id : Nat} (h : newOp T s id o.op = some (.dead, v)) (hf : FR β s a) (hw : WR β B H hs W) (n : Nat) (r : Option Nat) :
    OpDoes P o β B hs v H hs a W n r := by
  obtain ⟨arr, e, v', hy, hv⟩ := newDead_rel hT.toTOk hf (fun off => hw.fz_new _ off (Nat.le_refl _)) h
  obtain ⟨dst, op, ty, pos, after, guard⟩ := o
  exact .of_run (fun c e => by simp only at e; subst e; simp [newOp] at h) (.inl (hy dst ty pos after guard)) ⟨envF_le (fun off => hw.fz_new _ off (Nat.le_refl _)), fun _ _ => rfl, Nat.le_refl _⟩ (hw.deadN arr e) hv

theorem effD {o : Oper} {s : AS} {β : Env} {B : Gd} {a : Act} {W : World} {v : AV} {H' : Tr AO} {hs' : Nat} (h : effOp T s o.op = some (v, H', hs')) (hf : FR β s a) (hw : WR β B s.heap s.hs W) (n : Nat) (r : Option Nat) :
    OpDoes P o β B s.hs v H' hs' a W n r := by
  obtain ⟨v', W', ⟨β', g1, g2, g3, g4, g5⟩, hd⟩ := effOp_rel hT.toTOk hw hf h
  obtain ⟨dst, op, ty, pos, after, guard⟩ := o
  exact .of_run (fun c e => by simp only at e; subst e; simp [effOp] at h) (hd dst ty pos after guard) ⟨g1, g2, g4⟩ g3 g5

theorem upon_end {o : Oper} {β : Env} {B : Gd} {hs : Nat} {v : AV} {H' : Tr AO} {hs' : Nat} {a : Act} {next : Act → World → Prop} {Q : Exit → Act → World → Prop}
    (hnext : ∀ β' v' W', Env.on β β' hs hs' → WR β' B H' hs' W' → VR β' v v' → next (a.put o.dst v') W') : ∀ e w', EndR β B hs v H' hs' e w' →
    (match e, w' with
      | .returned v, w'' => next (a.put o.dst v) w''
      | .panicked chain, w'' => Q (.panic chain) a w''
      | .outgrown, _ => LetsOut Q) := by
  intro e w' he
  cases e with
  | returned v' => obtain ⟨β', h1, h2, h3⟩ := he; exact hnext β' v' w' h1 h2 h3
  | panicked c => exact he.elim
  | outgrown => exact he.elim

theorem callD {o : Oper} {c : Call} {f : Operand} {s : AS} {β : Env} {B : Gd} {a : Act} {W : World} {v g : AV} {as : List AV} {H' : Tr AO} {hs' : Nat} (ho : o.op = .call c) (hc : c.callee = .value f) (h1 : opd s f = some g) (h2 : opds s c.args.toList = some as)
    (h : callV T rec s.lm g as s.heap s.hs = some (v, H', hs')) (hf : FR β s a) (hw : WR β B s.heap s.hs W) (n : Nat) (r : Option Nat) : OpDoes P o β B s.hs v H' hs' a W n r := by
  have hg := opd_rel hf h1
  have ha := opds_rel hf h2
  have hargs : (c.args.map a.eval) = (c.args.toList.map a.eval).toArray := by apply Array.ext'; simp
  obtain ⟨dst, op, ty, pos, after, guard⟩ := o
  obtain ⟨callee, args, tys⟩ := c
  simp only at ho hc; subst ho; subst hc
  simp only at hargs h2 ha
  intro next Q hnext
  refine ⟨fun _ _ => trivial, ?_⟩
  rw [Oper.semAt_eq _ _ _ (fun c e => by cases e)]
  unfold callV at h
  split at h
  · rename_i g' b1 b2
    generalize hev : a.eval f = fv at hg
    cases hg with
    | fn _ _ _ x y hx hy =>
      obtain ⟨hcall, fn, cd, q1, q2, q3⟩ := callF_rel hT hR h hw ((hx.append ha).append hy) (n - 1)
      have hrun : (execOp a.eval ⟨dst, .call ⟨.value f, args, tys⟩, ty, pos, after, guard⟩).run P W = .ok (.enter g' (x ++ args.toList.map a.eval ++ y).toArray) W := by
        have e1 : (x.toArray ++ args.map a.eval ++ y.toArray) = (x ++ args.toList.map a.eval ++ y).toArray := by rw [hargs]; simp
        simp only [execOp, resolve, hev, Deferred.ofValue, Sem.run_bind, Sem.run_pure, Result.andThen_ok, invoke, pure_bind]
        rw [e1]
        exact run_callFunc q1 q2 q3
      rw [hrun, Oper.uponIn_enter]
      refine ⟨fun e => by simp [FW, Fence.wide] at e, ?_⟩
      exact (calls_any r hcall).mono fun e w' he => by
        cases e with
        | returned v' => obtain ⟨β', h1, h2, h3⟩ := he; exact hnext β' v' w' h1 h2 h3
        | panicked c => exact he.elim
        | outgrown => exact he.elim
  · rename_i o2
    generalize hev : a.eval f = fv at hg
    cases hg with
    | yld _ k hk =>
      obtain ⟨L, hy, hround⟩ := roundF_rel hT hR h hw ha hk (n - 1) r
      have hrun : (execOp a.eval ⟨dst, .call ⟨.value f, args, tys⟩, ty, pos, after, guard⟩).run P W = .ok (.round k.blk L.fn ((L.params.zip (args.toList.map a.eval).toArray).foldl (fun tmps (t, a) => tmps.setIfInBounds t a) L.tmps) L.assign L.body) W := by
        simp only [execOp, resolve, hev, Deferred.ofValue, Sem.run_bind, Sem.run_pure, Result.andThen_ok, invoke, pure_bind]
        rw [hargs]
        simpa using hy
      rw [hrun, Oper.uponIn_round]
      refine ⟨fun e => by simp [FW, Fence.wide] at e, ?_⟩
      exact hround.mono fun e w' he => by
        cases e with
        | returned v' => obtain ⟨β', h1, h2, h3⟩ := he; exact hnext β' v' w' h1 h2 h3
        | panicked c => exact he.elim
        | outgrown => exact he.elim
  · cases h

theorem actD {o : Oper} {s : AS} {β : Env} {B : Gd} {a : Act} {W : World} {v : AV} {H' : Tr AO} {hs' : Nat} (h : actOp T rec s o.op = some (v, H', hs')) (hf : FR β s a) (hw : WR β B s.heap s.hs W) (n : Nat) (r : Option Nat) :
    OpDoes P o β B s.hs v H' hs' a W n r := by
  unfold actOp at h
  split at h
  · rename_i c hop
    split at h
    · rename_i f hcal
      split at h
      · rename_i g as h1 h2
        exact callD hT hR hop hcal h1 h2 h hf hw n r
      · cases h
    · exact effD hT hR h hf hw n r
  · exact effD hT hR h hf hw n r

/-- One operation. -/
theorem evOp_rel {o : Oper} {s s' : AS} (h : evOp T rec o s = some s') {β : Env} {B : Gd} {a : Act} {W : World} (hs : SR β B s a W) (n : Nat) (r : Option Nat) (next : Act → World → Prop) (Q : Exit → Act → World → Prop)
    (hnext : ∀ β' a' W', Env.on β β' s.hs s'.hs → SR β' B s' a' W' → s'.nt = s.nt → next a' W') : o.wpIn (FW r) n P a W next Q := by
  have fin : ∀ {v : AV} {H' : Tr AO} {hs' : Nat}, setT { s with heap := H', hs := hs' } o.dst v = some s' → OpDoes P o β B s.hs v H' hs' a W n r → o.wpIn (FW r) n P a W next Q := by
    intro v H' hs' hset hod
    refine hod next Q fun β' v' W' hon hw hv => ?_
    obtain ⟨g1, g2, g3, g4, g5, g6⟩ := setT_rel hset (⟨hs.f.size, (hs.f.mono hon.le).get⟩ : FR β' { s with heap := H', hs := hs' } a) hv
    refine hnext β' _ W' ?_ ⟨?_, g1, ?_⟩ g5
    · rw [g3]; exact hon
    · rw [g2, g3]; exact hw
    · rw [g4, g6]; exact hs.d.mono hon.le
  unfold evOp at h
  split at h
  · split at h
    · rename_i v hv
      exact fin (H' := s.heap) (hs' := s.hs) h (pureD hT hR hv hs.f hs.w n r)
    · cases h
  · split at h
    · rename_i v hv
      exact fin (H' := s.heap) (hs' := s.hs) h (readD hT hR hv hs.f hs.w n r)
    · cases h
  · split at h
    · rename_i v hv
      exact fin (H' := s.heap) (hs' := s.hs) h (deadD hT hR hv hs.f hs.w n r)
    · rename_i A v _ hv
      exact fin h (newD hT hR hv hs.f hs.w n r)
    · cases h
  · split at h
    · rename_i v H hs2 hv
      exact fin h (actD hT hR hv hs.f hs.w n r)
    · cases h
  · split at h
    · rename_i v hv
      split at hv
      · rename_i v2 hv2
        cases hv
        exact fin (H' := s.heap) (hs' := s.hs) h (pureD hT hR hv2 hs.f hs.w n r)
      · exact fin (H' := s.heap) (hs' := s.hs) h (readD hT hR hv hs.f hs.w n r)
    · split at h
      · rename_i v H hs2 hv
        exact fin h (effD hT hR hv hs.f hs.w n r)
      · cases h

end
end Go.Proofs.Ytbcecenneganeaa.Ev
