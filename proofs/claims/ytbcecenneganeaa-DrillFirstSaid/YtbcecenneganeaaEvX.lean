import Derived.Test.YtbcecenneganeaaEvW
set_option linter.all false
namespace Go.Proofs.Ytbcecenneganeaa.Ev
open Go.RowKit

/-! ### Equations for walks -/

inductive Fr where
  | sq (c : Code)
  | bk (i : Nat)
  | lp (c : Code)

section
variable {T : Tab} {α : Type}

/-- What stands behind a piece of code. -/
noncomputable def kont (T : Tab) (ro : Option Nat) (F : AX → AS → Option α) : List Fr → AX → AS → Option α
  | [], x, s => F x s
  | .sq c :: K, .normal, s => match evw T ro c s with
    | some (x, s') => kont T ro F K x s'
    | none => none
  | .sq _ :: K, x, s => kont T ro F K x s
  | .bk i :: K, .exit j, s => bif Nat.beq j i then kont T ro F K .normal s else kont T ro F K (.exit j) s
  | .bk _ :: K, x, s => kont T ro F K x s
  | .lp c :: K, .normal, s => match evw T ro (.loop c) s with
    | some (x, s') => kont T ro F K x s'
    | none => none
  | .lp _ :: K, x, s => kont T ro F K x s

/-- Code, and what stands behind it. -/
noncomputable def W (T : Tab) (ro : Option Nat) (F : AX → AS → Option α) (c : Code) (K : List Fr) (s : AS) : Option α :=
  match evw T ro c s with
  | some (x, s') => kont T ro F K x s'
  | none => none

/-- Operations, and what stands behind them. -/
noncomputable def O (T : Tab) (ro : Option Nat) (F : AX → AS → Option α) (ops : Array Oper) (l : List Oper) (K : List Fr) (s : AS) : Option α :=
  match evOps T (evw T) ops l s with
  | some (x, s') => kont T ro F K x s'
  | none => none

noncomputable def O1 (T : Tab) (ro : Option Nat) (F : AX → AS → Option α) (ops : Array Oper) (l : List Oper) (K : List Fr) : Option AS → Option α
  | some s => O T ro F ops l K s
  | none => none

noncomputable def C1 (T : Tab) (ro : Option Nat) (F : AX → AS → Option α) (a b : Code) (K : List Fr) (s : AS) : Option AV → Option α
  | some (.lit (.bool true)) => W T ro F a K s
  | some (.lit (.bool false)) => W T ro F b K s
  | _ => none

noncomputable def D1 (T : Tab) (ro : Option Nat) (F : AX → AS → Option α) (K : List Fr) : Option (AX × AS) → Option α
  | some (x, s) => kont T ro F K x s
  | none => none

variable {ro : Option Nat} {F : AX → AS → Option α} {K : List Fr} {s : AS} {ops : Array Oper} {l : List Oper}

theorem W_skip : W T ro F .skip K s = kont T ro F K .normal s := by unfold W; rw [evw_step]; rfl
theorem W_label {i : Nat} : W T ro F (.label i) K s = kont T ro F K .normal s := by unfold W; rw [evw_step]; rfl
theorem W_exit {i : Nat} : W T ro F (.exit i) K s = kont T ro F K (.exit i) s := by unfold W; rw [evw_step]; rfl
theorem W_goto {i : Nat} : W T ro F (.goto i) K s = kont T ro F K (.goto i) s := by unfold W; rw [evw_step]; rfl
theorem W_ret : W T ro F .ret K s = kont T ro F K .ret s := by unfold W; rw [evw_step]; rfl
theorem W_seq {a b : Code} : W T ro F (.seq a b) K s = W T ro F a (.sq b :: K) s := by
  unfold W; rw [evw_step]
  show (match (match evw T ro a s with | some (.normal, s') => evw T ro b s' | r => r) with | some (x, s') => kont T ro F K x s' | none => none) = _
  cases h : evw T ro a s with
  | none => rfl
  | some p => obtain ⟨x, s'⟩ := p; cases x <;> rfl
theorem W_block {i : Nat} {a : Code} : W T ro F (.block i a) K s = W T ro F a (.bk i :: K) s := by
  unfold W; rw [evw_step]
  show (match (match evw T ro a s with | some (.exit j, s') => some (bif Nat.beq j i then .normal else .exit j, s') | r => r) with | some (x, s') => kont T ro F K x s' | none => none) = _
  cases h : evw T ro a s with
  | none => rfl
  | some p =>
    obtain ⟨x, s'⟩ := p
    cases x with
    | exit j =>
      simp only [kont]
      cases Nat.beq j i <;> rfl
    | _ => rfl
/-- One round of a loop. -/
theorem W_loop {a : Code} : W T ro F (.loop a) K s = W T ro F a (.lp a :: K) s := by
  unfold W; rw [evw_step]
  show (match (match evw T ro a s with | some (.normal, s') => evw T ro (.loop a) s' | r => r) with | some (x, s') => kont T ro F K x s' | none => none) = _
  cases h : evw T ro a s with
  | none => rfl
  | some p => obtain ⟨x, s'⟩ := p; cases x <;> rfl
theorem W_cond {c : Operand} {a b : Code} : W T ro F (.cond c a b) K s = C1 T ro F a b K s (opd s c) := by
  unfold W; rw [evw_step]
  show (match (match opd s c with | some (.lit (.bool true)) => evw T ro a s | some (.lit (.bool false)) => evw T ro b s | _ => none) with | some (x, s') => kont T ro F K x s' | none => none) = _
  unfold C1
  split <;> first | rfl | (rename_i h; split at h <;> first | (unfold W; rw [h]) | (simp_all [W]; done) | rfl) | skip
  all_goals (split <;> simp_all [W])
theorem W_region {i : Nat} : W T ro F (.region i ops false) K s = O T ro F ops ops.toList K s := by
  unfold W O; rw [evw_step]; rfl
theorem W_draw {i : Nat} : W T ro F (.region i ops true) K s = D1 T ro F K (evDr T (evw T) ops s) := by
  unfold W D1; rw [evw_step]; rfl
theorem D1_some {x : AX} : D1 T ro F K (some (x, s)) = kont T ro F K x s := rfl

theorem C1_true {a b : Code} : C1 T ro F a b K s (some (.lit (.bool true))) = W T ro F a K s := rfl
theorem C1_false {a b : Code} : C1 T ro F a b K s (some (.lit (.bool false))) = W T ro F b K s := rfl
theorem C1_bool {a b : Code} {p : Bool} : C1 T ro F a b K s (some (.lit (.bool p))) = if p = true then W T ro F a K s else W T ro F b K s := by cases p <;> rfl

theorem k_nil {x : AX} : kont T ro F [] x s = F x s := rfl
theorem k_sq {c : Code} : kont T ro F (.sq c :: K) .normal s = W T ro F c K s := rfl
theorem k_sq_exit {c : Code} {i : Nat} : kont T ro F (.sq c :: K) (.exit i) s = kont T ro F K (.exit i) s := rfl
theorem k_sq_ret {c : Code} : kont T ro F (.sq c :: K) .ret s = kont T ro F K .ret s := rfl
theorem k_sq_goto {c : Code} {i : Nat} : kont T ro F (.sq c :: K) (.goto i) s = kont T ro F K (.goto i) s := rfl
theorem k_bk {i : Nat} : kont T ro F (.bk i :: K) .normal s = kont T ro F K .normal s := rfl
theorem k_bk_ret {i : Nat} : kont T ro F (.bk i :: K) .ret s = kont T ro F K .ret s := rfl
theorem k_bk_goto {i j : Nat} : kont T ro F (.bk i :: K) (.goto j) s = kont T ro F K (.goto j) s := rfl
theorem k_bk_exit {i : Nat} : kont T ro F (.bk i :: K) (.exit i) s = kont T ro F K .normal s := by
  show (bif Nat.beq i i then _ else _) = _
  rw [Nat.beq_refl]; rfl
theorem k_bk_other {i j : Nat} (h : j ≠ i) : kont T ro F (.bk i :: K) (.exit j) s = kont T ro F K (.exit j) s := by
  show (bif Nat.beq j i then _ else _) = _
  rw [beq_if, if_neg h]
theorem k_lp {c : Code} : kont T ro F (.lp c :: K) .normal s = W T ro F (.loop c) K s := rfl
theorem k_lp_exit {c : Code} {i : Nat} : kont T ro F (.lp c :: K) (.exit i) s = kont T ro F K (.exit i) s := rfl
theorem k_lp_ret {c : Code} : kont T ro F (.lp c :: K) .ret s = kont T ro F K .ret s := rfl
theorem k_lp_goto {c : Code} {i : Nat} : kont T ro F (.lp c :: K) (.goto i) s = kont T ro F K (.goto i) s := rfl

theorem O_nil : O T ro F ops [] K s = kont T ro F K .normal s := rfl
theorem O1_some : O1 T ro F ops l K (some s) = O T ro F ops l K s := rfl
theorem O_cons {d : Option Tmp} {op : Op} {ty : TypeId} {pos : String} {after : Array Edge} :
    O T ro F ops (⟨d, op, ty, pos, after, none⟩ :: l) K s = O1 T ro F ops l K (evOp T (evw T) ⟨d, op, ty, pos, after, none⟩ s) := by
  unfold O
  show (match (match evOp T (evw T) ⟨d, op, ty, pos, after, none⟩ s with | some s' => evOps T (evw T) ops l s' | none => none) with | some (x, s') => kont T ro F K x s' | none => none) = _
  cases evOp T (evw T) ⟨d, op, ty, pos, after, none⟩ s <;> rfl

/-- A guarded operation, its guard being known. -/
noncomputable def G1 (T : Tab) (ro : Option Nat) (F : AX → AS → Option α) (ops : Array Oper) (o : Oper) (l : List Oper) (K : List Fr) (s : AS) (w : Bool) : Option AV → Option α
  | some (.lit (.bool b)) => if b = w then O1 T ro F ops l K (evOp T (evw T) o s) else O1 T ro F ops l K (setT s o.dst udef)
  | some (.tup []) => O1 T ro F ops l K (setT s o.dst udef)
  | _ => none

noncomputable def G0 (T : Tab) (ro : Option Nat) (F : AX → AS → Option α) (ops : Array Oper) (o : Oper) (l : List Oper) (K : List Fr) (s : AS) (w : Bool) : Option Tmp → Option α
  | some g => G1 T ro F ops o l K s w (opd s (.tmp g))
  | none => none

theorem O_guard {o : Oper} {j : Nat} {w : Bool} (ho : o.guard = some (j, w)) : O T ro F ops (o :: l) K s = G0 T ro F ops o l K s w ((ops[j]?).bind (·.dst)) := by
  unfold O
  simp only [evOps, wantd, ho]
  cases hg : (ops[j]?).bind (·.dst) with
  | none => rfl
  | some g =>
    simp only [G0, opd]
    cases hb : Nat.blt g s.nt with
    | false => simp only [cond_false]; rfl
    | true =>
      simp only [cond_true]
      cases h : s.tmps.get .any g with
      | lit v =>
        cases v with
        | bool b =>
          simp only [G1]
          generalize evOp T (evw T) o s = e1
          generalize setT s o.dst udef = e2
          cases b <;> cases w <;> cases e1 <;> cases e2 <;> rfl
        | _ => rfl
      | tup vs =>
        cases vs with
        | nil => simp only [G1]; cases setT s o.dst udef <;> rfl
        | cons _ _ => rfl
      | _ => rfl
theorem O_plain {o : Oper} (ho : o.guard = none) : O T ro F ops (o :: l) K s = O1 T ro F ops l K (evOp T (evw T) o s) := by
  obtain ⟨d, op, ty, pos, after, g⟩ := o
  cases ho
  exact O_cons

theorem G0_some {o : Oper} {w : Bool} {g : Nat} : G0 T ro F ops o l K s w (some g) = G1 T ro F ops o l K s w (opd s (.tmp g)) := rfl
theorem G1_bool {o : Oper} {w b : Bool} : G1 T ro F ops o l K s w (some (.lit (.bool b))) = if b = w then O1 T ro F ops l K (evOp T (evw T) o s) else O1 T ro F ops l K (setT s o.dst udef) := rfl
theorem G1_yes {o : Oper} {w : Bool} : G1 T ro F ops o l K s w (some (.lit (.bool w))) = O1 T ro F ops l K (evOp T (evw T) o s) := by simp [G1]
theorem G1_tf {o : Oper} : G1 T ro F ops o l K s true (some (.lit (.bool false))) = O1 T ro F ops l K (setT s o.dst udef) := rfl
theorem G1_ft {o : Oper} : G1 T ro F ops o l K s false (some (.lit (.bool true))) = O1 T ro F ops l K (setT s o.dst udef) := rfl
theorem G1_undef {o : Oper} {w : Bool} : G1 T ro F ops o l K s w (some (.tup [])) = O1 T ro F ops l K (setT s o.dst udef) := rfl
end

end Go.Proofs.Ytbcecenneganeaa.Ev
