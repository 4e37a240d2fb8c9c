import Derived.Test.YtbcecenneganeaaEv5
set_option linter.all false
namespace Go.Proofs.Ytbcecenneganeaa.Ev
open Go.RowKit
theorem eqGuard_ok {P : Program} {op : BinOp} {t : TypeId} {x y : Operand} {a b : Value} (h : P.eqGuardType P.depth t = false) (W : World) (hn : a = .nilIface → b = .nilIface → False) :
    (eqGuard op t x y a b).run P W = .ok () W := by
  cases op <;> first
    | rfl
    | (cases a <;> cases b <;> first | rfl | exact (hn rfl rfl).elim | (simp [eqGuard, h]; done))

theorem eqGuard_plain {P : Program} {op : BinOp} {t : TypeId} {x y : Operand} {a b : Value} (W : World) (hn : a = .nilIface → b = .nilIface → False) (hg : ∀ c d, a = .agg c → b = .agg d → False) :
    (eqGuard op t x y a b).run P W = .ok () W := by
  cases op <;> first
    | rfl
    | (cases a <;> cases b <;> first | rfl | exact (hn rfl rfl).elim | exact (hg _ _ rfl rfl).elim)
theorem eqv_noIface {P : Program} {T : Tab} {β : Env} {d t : Nat} {x y : AV} {b : Bool} {u v : Value} (h : eqv T d t x y = some b) (hu : VR β x u) (hv : VR β y v) : u = .nilIface → v = .nilIface → False := by
  intro e1 e2
  subst e1; subst e2
  cases d with
  | zero => simp [eqv] at h
  | succ d =>
    unfold eqv at h
    cases ht : T.t t with
    | none => simp [ht] at h
    | some i =>
      simp only [ht] at h
      split at h
      all_goals first | (cases h; done) | (cases hu; done) | (cases hv; done) | skip

theorem eqv_forms {T : Tab} {β : Env} {d t : Nat} {x y : AV} {b : Bool} {u v : Value} (h : eqv T d t x y = some b) (hu : VR β x u) (hv : VR β y v)
    (n1 : ∀ k a k' b, x = .lit (.int k a) → y = .lit (.int k' b) → False) (n2 : ∀ a b, x = .str a → y = .str b → False) :
    Go.binOp .eql t u v = (do pure (.bool (← Op.equal t u v))) ∧ Go.binOp .neq t u v = (do pure (.bool (!(← Op.equal t u v)))) := by
  cases d with
  | zero => simp [eqv] at h
  | succ d =>
    unfold eqv at h
    cases ht : T.t t with
    | none => simp [ht] at h
    | some i =>
      simp only [ht] at h
      split at h
      all_goals first
        | (cases h; done)
        | exact (n1 _ _ _ _ rfl rfl).elim
        | exact (n2 _ _ rfl rfl).elim
        | (cases hu <;> cases hv <;> exact ⟨rfl, rfl⟩)

theorem binV_rel {P : Program} {T : Tab} (hT : TOk P T) {β : Env} {op : BinOp} {t : Nat} {x y : AV} {r : AV} {u v : Value} (h : binV T op t x y = some r) (hu : VR β x u) (hv : VR β y v) (p q : Operand) :
    ∃ r', VR β r r' ∧ ∀ W, (do eqGuard op t p q u v; Go.binOp op t u v : Sem Value).run P W = .ok r' W := by
  unfold binV at h
  split at h
  · rename_i k a k' b
    obtain rfl := hu.of_int
    obtain rfl := hv.of_int
    have hg : ∀ W, (eqGuard op t p q (.int k a) (.int k' b)).run P W = .ok () W := fun W => eqGuard_plain W (fun e => by cases e) (fun _ _ e => by cases e)
    by_cases hs : op = .shl ∨ op = .shr
    · have h' : shiftBin op k a b = some r := by rcases hs with rfl | rfl <;> simpa using h
      obtain ⟨r', h1, h2⟩ := shiftBin_rel (P := P) (β := β) (k' := k') h' t
      exact ⟨r', h1, fun W => by rw [Sem.run_bind, hg]; exact h2 W⟩
    · have h' : k = k' ∧ intBin op k a b = some r := by
        cases op <;> simp only [Bool.cond_decide] at h <;> first | exact (hs (.inl rfl)).elim | exact (hs (.inr rfl)).elim | (split at h; exact ⟨by assumption, h⟩; cases h)
      obtain ⟨rfl, h'⟩ := h'
      obtain ⟨r', h1, h2⟩ := intBin_rel (P := P) (β := β) h' ⟨fun e => hs (.inl e), fun e => hs (.inr e)⟩ t
      exact ⟨r', h1, fun W => by rw [Sem.run_bind, hg]; exact h2 W⟩
  · obtain rfl := hu.of_str
    obtain rfl := hv.of_str
    obtain ⟨r', h1, h2⟩ := strBin_rel (P := P) (β := β) h t
    exact ⟨r', h1, fun W => by rw [Sem.run_bind, eqGuard_plain W (fun e => by cases e) (fun _ _ e => by cases e)]; exact h2 W⟩
  · rename_i hn1 hn2
    cases ht : T.t t with
    | none => simp [ht] at h
    | some i =>
      simp only [ht] at h
      cases hp : i.plain with
      | false => rw [hp] at h; cases h
      | true =>
        rw [hp, cond_true] at h
        have hgt := ((hT.ty t i ht).2.2 hp).2
        cases he : eqv T 20 t x y with
        | none => cases op <;> simp [he] at h
        | some b =>
          have hq := fun W => eqv_rel hT Op.maxDepth 20 t x y b u v (by simp [Op.maxDepth]) he hu hv W
          have hg : ∀ W, (eqGuard op t p q u v).run P W = .ok () W := fun W => eqGuard_ok hgt W (eqv_noIface (P := P) he hu hv)
          have hF := eqv_forms he hu hv (fun k a k' b e1 e2 => hn1 k a k' b e1 e2) (fun a b e1 e2 => hn2 a b e1 e2)
          cases op <;> simp only [he, reduceCtorEq, Option.some.injEq] at h
          all_goals (subst h; refine ⟨_, VR.lit _, fun W => ?_⟩; rw [Sem.run_bind, hg]; simp only [Result.andThen_ok])
          all_goals ((first | rw [hF.1] | rw [hF.2]); simp only [Sem.run_bind, Op.equal, hq, Result.andThen_ok, Sem.run_pure])

theorem ifcBin_rel {P : Program} {T : Tab} (hT : TOk P T) {β : Env} {op : BinOp} {t : Nat} {x y : AV} {r : AV} {u v : Value} {p q : Operand} (h : ifcBin T op t p q x y = some r) (hu : VR β x u) (hv : VR β y v) :
    ∃ r', VR β r r' ∧ ∀ W, (do eqGuard op t p q u v; Go.binOp op t u v : Sem Value).run P W = .ok r' W := by
  unfold ifcBin at h
  cases ht : T.t t with
  | none => simp [ht] at h
  | some i =>
    simp only [ht] at h
    have hun := run_und hT ht
    split at h
    · rename_i ms hd
      rw [hd] at hun
      have hm : Op.maxDepth = (Op.maxDepth - 1) + 1 := by decide
      have E1 : ∀ W a b, (Op.equal t (.iface a b) .nilIface).run P W = .ok false W := fun W a b => by
        have e : ∀ n, (Op.equalIn (n + 1) t (.iface a b) .nilIface).run P W = .ok false W := fun n => by
          simp only [Op.equalIn, Sem.run_bind, hun, Result.andThen_ok, Sem.run_pure]
        unfold Op.equal; rw [hm]; exact e _
      have E2 : ∀ W a b, (Op.equal t .nilIface (.iface a b)).run P W = .ok false W := fun W a b => by
        have e : ∀ n, (Op.equalIn (n + 1) t .nilIface (.iface a b)).run P W = .ok false W := fun n => by
          simp only [Op.equalIn, Sem.run_bind, hun, Result.andThen_ok, Sem.run_pure]
        unfold Op.equal; rw [hm]; exact e _
      have E3 : ∀ W, (Op.equal t .nilIface .nilIface).run P W = .ok true W := fun W => by
        have e : ∀ n, (Op.equalIn (n + 1) t .nilIface .nilIface).run P W = .ok true W := fun n => by
          simp only [Op.equalIn, Sem.run_bind, hun, Result.andThen_ok, Sem.run_pure]
        unfold Op.equal; rw [hm]; exact e _
      split at h
      · cases hu with
        | ifc _ _ w _ =>
          obtain rfl := hv.of_lit
          split at h
          · cases h; exact ⟨_, .lit _, fun W => by rw [Sem.run_bind, eqGuard_plain W (fun e => by cases e) (fun _ _ e => by cases e)]; simp only [Result.andThen_ok, Go.binOp, Sem.run_bind, E1, Sem.run_pure, Bool.not_false]⟩
          · cases h; exact ⟨_, .lit _, fun W => by rw [Sem.run_bind, eqGuard_plain W (fun e => by cases e) (fun _ _ e => by cases e)]; simp only [Result.andThen_ok, Go.binOp, Sem.run_bind, E1, Sem.run_pure, Bool.not_false]⟩
          · cases h
      · obtain rfl := hu.of_lit
        cases hv with
        | ifc _ _ w _ =>
          split at h
          · cases h; exact ⟨_, .lit _, fun W => by rw [Sem.run_bind, eqGuard_plain W (fun _ e => by cases e) (fun _ _ e => by cases e)]; simp only [Result.andThen_ok, Go.binOp, Sem.run_bind, E2, Sem.run_pure, Bool.not_false]⟩
          · cases h; exact ⟨_, .lit _, fun W => by rw [Sem.run_bind, eqGuard_plain W (fun _ e => by cases e) (fun _ _ e => by cases e)]; simp only [Result.andThen_ok, Go.binOp, Sem.run_bind, E2, Sem.run_pure, Bool.not_false]⟩
          · cases h
      · rename_i tx vx ty vy
        cases hu with
        | ifc _ _ xv hx =>
          cases hv with
          | ifc _ _ yv hy =>
            have hg : ∀ (o : BinOp) W, (eqGuard o t p q (.iface tx xv) (.iface ty yv)).run P W = .ok () W := fun o W => eqGuard_plain W (fun e => by cases e) (fun _ _ e => by cases e)
            rw [beq_if] at h
            split at h
            · rename_i e; subst e
              split at h
              · rename_i j hj
                cases hcm : j.comp with
                | false => rw [hcm] at h; cases h
                | true =>
                  rw [hcm, cond_true] at h
                  obtain ⟨inf, hinf, _⟩ := (hT.ty tx j hj).2.1
                  have hco := hT.cmp tx j hj hcm inf hinf
                  have hti : ∀ W, (typeInfo tx).run P W = .ok inf W := fun W => by simp [typeInfo, hinf]
                  have E : ∀ b, eqv T 19 tx vx vy = some b → ∀ W, (Op.equal t (.iface tx xv) (.iface tx yv)).run P W = .ok b W := fun b hb W => by
                    have e : ∀ n, 19 ≤ n → (Op.equalIn (n + 1) t (.iface tx xv) (.iface tx yv)).run P W = .ok b W := fun n hn => by
                      simp only [Op.equalIn, Sem.run_bind, hun, Result.andThen_ok, ne_eq, not_true_eq_false, if_false, hti, hco, Bool.not_true, Bool.false_eq_true]
                      exact eqv_rel hT n 19 tx vx vy b xv yv hn hb hx hy W
                    unfold Op.equal; rw [hm]; exact e _ (by decide)
                  split at h
                  · rename_i b hb _ _
                    cases h; exact ⟨_, .lit _, fun W => by rw [Sem.run_bind, hg]; simp only [Result.andThen_ok, Go.binOp, Sem.run_bind, E _ ‹_›, Sem.run_pure]⟩
                  · rename_i b hb _ _
                    cases h; exact ⟨_, .lit _, fun W => by rw [Sem.run_bind, hg]; simp only [Result.andThen_ok, Go.binOp, Sem.run_bind, E _ ‹_›, Sem.run_pure]⟩
                  · cases h
              · cases h
            · rename_i hne
              have E : ∀ W, (Op.equal t (.iface tx xv) (.iface ty yv)).run P W = .ok false W := fun W => by
                have e : ∀ n, (Op.equalIn (n + 1) t (.iface tx xv) (.iface ty yv)).run P W = .ok false W := fun n => by
                  simp only [Op.equalIn, Sem.run_bind, hun, Result.andThen_ok, ne_eq, hne, not_false_eq_true, if_true, Sem.run_pure]
                unfold Op.equal; rw [hm]; exact e _
              split at h
              · cases h; exact ⟨_, .lit _, fun W => by rw [Sem.run_bind, hg]; simp only [Result.andThen_ok, Go.binOp, Sem.run_bind, E, Sem.run_pure]⟩
              · cases h; exact ⟨_, .lit _, fun W => by rw [Sem.run_bind, hg]; simp only [Result.andThen_ok, Go.binOp, Sem.run_bind, E, Sem.run_pure, Bool.not_false]⟩
              · cases h
      · obtain rfl := hu.of_lit
        obtain rfl := hv.of_lit
        cases hc : (isConst p || isConst q) with
        | false => rw [hc] at h; cases h
        | true =>
          rw [hc, cond_true] at h
          have hg : ∀ (o : BinOp) W, (eqGuard o t p q .nilIface .nilIface).run P W = .ok () W := by
            intro o W
            cases o <;> first | rfl | (cases p <;> cases q <;> simp [isConst] at hc <;> simp [eqGuard])
          split at h
          · cases h; exact ⟨_, .lit _, fun W => by rw [Sem.run_bind, hg]; simp only [Result.andThen_ok, Go.binOp, Sem.run_bind, E3, Sem.run_pure, Bool.not_true]⟩
          · cases h; exact ⟨_, .lit _, fun W => by rw [Sem.run_bind, hg]; simp only [Result.andThen_ok, Go.binOp, Sem.run_bind, E3, Sem.run_pure, Bool.not_true]⟩
          · cases h
      · cases h
    · cases h

end Go.Proofs.Ytbcecenneganeaa.Ev
