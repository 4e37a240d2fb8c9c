import Derived.Test.YtnmlgekgbmlgjaaGreatEv5
set_option linter.all false
namespace Go.Proofs.YtnmlgekgbmlgjaaGreat.Ev
open Go.RowKit
theorem eqGuard_ok {P : Program} {op : BinOp} {t : TypeId} {x y : Operand} {a b : Value} (h : P.eqGuardType P.depth t = false) (W : World) (hn : a = .nilIface → b = .nilIface → False) :
    (eqGuard op t x y a b).run P W = .ok () W := by
  cases op <;> first
    | rfl
    | (cases a <;> cases b <;> first | rfl | exact (hn rfl rfl).elim | (simp [eqGuard, h]; done))

theorem eqGuard_plain {P : Program} {op : BinOp} {t : TypeId} {x y : Operand} {a b : Value} (W : World) (hn : a = .nilIface → b = .nilIface → False) (hg : ∀ c d, a = .agg c → b = .agg d → False) :
    (eqGuard op t x y a b).run P W = .ok () W := by
  cases op <;> first
    | rfl
    | (cases a <;> cases b <;> first | rfl | exact (hn rfl rfl).elim | exact (hg _ _ rfl rfl).elim)
theorem eqv_noIface {P : Program} {T : Tab} {β : Env} {d t : Nat} {x y : AV} {b : Bool} {u v : Value} (h : eqv T d t x y = some b) (hu : VR β x u) (hv : VR β y v) : u = .nilIface → v = .nilIface → False := by
  intro e1 e2
  subst e1; subst e2
  cases d with
  | zero => simp [eqv] at h
  | succ d =>
    unfold eqv at h
    cases ht : T.t t with
    | none => simp [ht] at h
    | some i =>
      simp only [ht] at h
      split at h
      all_goals first | (cases h; done) | (cases hu; done) | (cases hv; done) | skip

theorem eqv_forms {T : Tab} {β : Env} {d t : Nat} {x y : AV} {b : Bool} {u v : Value} (h : eqv T d t x y = some b) (hu : VR β x u) (hv : VR β y v)
    (n1 : ∀ k a k' b, x = .lit (.int k a) → y = .lit (.int k' b) → False) (n2 : ∀ a b, x = .str a → y = .str b → False) :
    Go.binOp .eql t u v = (do pure (.bool (← Op.equal t u v))) ∧ Go.binOp .neq t u v = (do pure (.bool (!(← Op.equal t u v)))) := by
  cases d with
  | zero => simp [eqv] at h
  | succ d =>
    unfold eqv at h
    cases ht : T.t t with
    | none => simp [ht] at h
    | some i =>
      simp only [ht] at h
      split at h
      all_goals first
        | (cases h; done)
        | exact (n1 _ _ _ _ rfl rfl).elim
        | exact (n2 _ _ rfl rfl).elim
        | (cases hu <;> cases hv <;> exact ⟨rfl, rfl⟩)

theorem binV_rel {P : Program} {T : Tab} (hT : TOk P T) {β : Env} {op : BinOp} {t : Nat} {x y : AV} {r : AV} {u v : Value} (h : binV T op t x y = some r) (hu : VR β x u) (hv : VR β y v) (p q : Operand) :
    ∃ r', VR β r r' ∧ ∀ W, (do eqGuard op t p q u v; Go.binOp op t u v : Sem Value).run P W = .ok r' W := by
  unfold binV at h
  split at h
  · rename_i k a k' b
    obtain rfl := hu.of_int
    obtain rfl := hv.of_int
    have hg : ∀ W, (eqGuard op t p q (.int k a) (.int k' b)).run P W = .ok () W := fun W => eqGuard_plain W (fun e => by cases e) (fun _ _ e => by cases e)
    by_cases hs : op = .shl ∨ op = .shr
    · have h' : shiftBin op k a b = some r := by rcases hs with rfl | rfl <;> simpa using h
      obtain ⟨r', h1, h2⟩ := shiftBin_rel (P := P) (β := β) (k' := k') h' t
      exact ⟨r', h1, fun W => by rw [Sem.run_bind, hg]; exact h2 W⟩
    · have h' : k = k' ∧ intBin op k a b = some r := by
        cases op <;> simp only [Bool.cond_decide] at h <;> first | exact (hs (.inl rfl)).elim | exact (hs (.inr rfl)).elim | (split at h; exact ⟨by assumption, h⟩; cases h)
      obtain ⟨rfl, h'⟩ := h'
      obtain ⟨r', h1, h2⟩ := intBin_rel (P := P) (β := β) h' ⟨fun e => hs (.inl e), fun e => hs (.inr e)⟩ t
      exact ⟨r', h1, fun W => by rw [Sem.run_bind, hg]; exact h2 W⟩
  · obtain rfl := hu.of_str
    obtain rfl := hv.of_str
    obtain ⟨r', h1, h2⟩ := strBin_rel (P := P) (β := β) h t
    exact ⟨r', h1, fun W => by rw [Sem.run_bind, eqGuard_plain W (fun e => by cases e) (fun _ _ e => by cases e)]; exact h2 W⟩
  · rename_i hn1 hn2
    cases ht : T.t t with
    | none => simp [ht] at h
    | some i =>
      simp only [ht] at h
      cases hp : i.plain with
      | false => rw [hp] at h; cases h
      | true =>
        rw [hp, cond_true] at h
        have hgt := ((hT.ty t i ht).2.2 hp).2
        cases he : eqv T 20 t x y with
        | none => cases op <;> simp [he] at h
        | some b =>
          have hq := fun W => eqv_rel hT Op.maxDepth 20 t x y b u v (by simp [Op.maxDepth]) he hu hv W
          have hg : ∀ W, (eqGuard op t p q u v).run P W = .ok () W := fun W => eqGuard_ok hgt W (eqv_noIface (P := P) he hu hv)
          have hF := eqv_forms he hu hv (fun k a k' b e1 e2 => hn1 k a k' b e1 e2) (fun a b e1 e2 => hn2 a b e1 e2)
          cases op <;> simp only [he, reduceCtorEq, Option.some.injEq] at h
          all_goals (subst h; refine ⟨_, VR.lit _, fun W => ?_⟩; rw [Sem.run_bind, hg]; simp only [Result.andThen_ok])
          all_goals ((first | rw [hF.1] | rw [hF.2]); simp only [Sem.run_bind, Op.equal, hq, Result.andThen_ok, Sem.run_pure])

end Go.Proofs.YtnmlgekgbmlgjaaGreat.Ev
