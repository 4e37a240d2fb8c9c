import Derived.Test.YtcledcfeddlomaaGreatDoorEvK
set_option linter.all false
namespace Go.Proofs.YtcledcfeddlomaaGreatDoor.Ev
open Go.RowKit

/-! ### Loops over functions, as equations -/
section
variable {T : Tab} {α : Type}

/-- Behind the call of a loop's function. -/
noncomputable def RE (T : Tab) (ro : Option Nat) (F : AX → AS → Option α) (K : List Fr) (s : AS) (o : Nat) (defs : List Nat) : Option (AV × Tr AO × Nat) → Option α
  | some (_, H', hs') => (match H'.get .dead o with
    | .loop st pend t2 ps2 a2 b2 d2 lm2 => bif decide (st = LoopState.busy) then none else (match pend with
      | none => kont T ro F K .normal { s with heap := H'.put .dead o (.loop .exhausted pend t2 ps2 a2 b2 d2 lm2), hs := hs', defs := defs }
      | some c => W T ro F c K { s with heap := H'.put .dead o (.loop .exhausted pend t2 ps2 a2 b2 d2 lm2), hs := hs', defs := defs })
    | _ => none)
  | none => none
noncomputable def RF (T : Tab) (ro : Option Nat) (F : AX → AS → Option α) (ps : Array Tmp) (a b : Code) (K : List Fr) (s : AS) : Option AV → Option α
  | some (.fn (.func g) x y) => (match enterF ro s with
    | some (d, H, hs, defs) => RE T ro F K s hs defs (callF T (evw T) s.md g (x ++ [.yld hs] ++ y) (H.put .dead hs (.loop .ready none ((List.range s.nt).map (s.tmps.get .any)) ps a b d s.md.lm)) (hs + 1))
    | none => none)
  | _ => none
variable {ro : Option Nat} {F : AX → AS → Option α} {K : List Fr} {s : AS}
theorem W_range {g : Operand} {ps : Array Tmp} {a b : Code} : W T ro F (.rangeFunc g ps a b) K s = RF T ro F ps a b K s (opd s g) := by
  unfold W
  rw [evw_step]
  simp only [step]
  cases opd s g with
  | none => rfl
  | some v =>
    cases v with
    | fn f x y =>
      cases f with
      | func g =>
        simp only [RF]
        cases enterF ro s with
        | none => rfl
        | some p =>
          obtain ⟨d, H, hs, defs⟩ := p
          simp only
          cases callF T (evw T) s.md g (x ++ [.yld hs] ++ y) (H.put .dead hs (.loop .ready none ((List.range s.nt).map (s.tmps.get .any)) ps a b d s.md.lm)) (hs + 1) with
          | none => rfl
          | some q =>
            obtain ⟨v, H', hs'⟩ := q
            simp only [RE]
            cases H'.get .dead hs with
            | loop st pend t2 ps2 a2 b2 d2 lm2 =>
              simp only
              cases decide (st = LoopState.busy) with
              | true => rfl
              | false =>
                simp only [cond_false]
                cases pend with
                | none => rfl
                | some c => rfl
            | _ => rfl
      | _ => rfl
    | _ => rfl
theorem Wc_range {c : Code} {g : Operand} {ps : Array Tmp} {a b : Code} (h : c = .rangeFunc g ps a b) : W T ro F c K s = RF T ro F ps a b K s (opd s g) := by subst h; exact W_range

/-- The end of a round. -/
def rB (o : Nat) (x : AX) (s2 : AS) : Option (AV × Tr AO × Nat) :=
  match s2.heap.get .dead o with
  | .loop _ _ t2 ps2 a2 b2 d2 lm2 =>
    (match x with
    | .normal => some (.lit (.bool true), s2.heap.put .dead o (.loop .ready none t2 ps2 a2 b2 d2 lm2), s2.hs)
    | .ret => some (.lit (.bool false), s2.heap.put .dead o (.loop .done (some .ret) t2 ps2 a2 b2 d2 lm2), s2.hs)
    | .exit i => some (.lit (.bool false), s2.heap.put .dead o (.loop .done (some (.exit i)) t2 ps2 a2 b2 d2 lm2), s2.hs)
    | .goto i => some (.lit (.bool false), s2.heap.put .dead o (.loop .done (some (.goto i)) t2 ps2 a2 b2 d2 lm2), s2.hs))
  | _ => none
noncomputable def rA (T : Tab) (o : Nat) (body : Code) (x : AX) (s1 : AS) : Option (AV × Tr AO × Nat) :=
  match x with
  | .normal => (match s1.heap.get .dead o with
    | .loop .ready p1 t1 ps1 a1 b1 d1 lm1 => W T (some o) (rB o) body [] { s1 with heap := s1.heap.put .dead o (.loop .busy p1 t1 ps1 a1 b1 d1 lm1) }
    | _ => none)
  | _ => none
noncomputable def rnd (T : Tab) (m : Md) (o : Nat) (args : List AV) (H : Tr AO) (hs : Nat) : AO → Option (AV × Tr AO × Nat)
  | .loop .ready _ tmps ps assign body d lm => bif decide (args.length = ps.size) then
      W T (some o) (rA T o body) assign [] ⟨putL .lf 0 (setL tmps (ps.toList.zip args)), (setL tmps (ps.toList.zip args)).length, H, hs, [], ⟨lm, m.tx, m.gl⟩⟩ else none
  | _ => none
theorem round_W {m : Md} {o : Nat} {args : List AV} {H : Tr AO} {hs : Nat} : roundF (evw T) m o args H hs = rnd T m o args H hs (H.get .dead o) := by
  unfold roundF
  cases H.get .dead o with
  | loop st p tmps ps assign body d lm =>
    cases st with
    | ready =>
      simp only [rnd]
      cases decide (args.length = ps.size) with
      | false => rfl
      | true =>
        simp only [cond_true]
        unfold W
        cases evw T (some o) assign ⟨putL .lf 0 (setL tmps (ps.toList.zip args)), (setL tmps (ps.toList.zip args)).length, H, hs, [], ⟨lm, m.tx, m.gl⟩⟩ with
        | none => rfl
        | some r =>
          obtain ⟨x, s1⟩ := r
          cases x with
          | normal =>
            simp only [kont, rA]
            cases s1.heap.get .dead o with
            | loop st1 p1 t1 ps1 a1 b1 d1 lm1 =>
              cases st1 with
              | ready =>
                simp only
                unfold W
                cases evw T (some o) body { s1 with heap := s1.heap.put .dead o (.loop .busy p1 t1 ps1 a1 b1 d1 lm1) } with
                | none => rfl
                | some r2 => obtain ⟨x2, s2⟩ := r2; rfl
              | _ => rfl
            | _ => rfl
          | _ => rfl
    | _ => rfl
  | _ => rfl
theorem callO_y {o : Nat} {args : List AV} {s : AS} : callO T (evw T) s (some (.yld o)) (some args) = rnd T s.md o args s.heap s.hs (s.heap.get .dead o) := by
  rw [← round_W]; rfl
theorem callV_y {o : Nat} {m : Md} {args : List AV} {H : Tr AO} {hs : Nat} : callV T (evw T) m (.yld o) args H hs = rnd T m o args H hs (H.get .dead o) := round_W

theorem putL_gt {l : List AV} : ∀ {i j : Nat} {t : Tr AV}, (putL t i l).get .any j = if j < i then t.get .any j else (match l[j - i]? with | some v => v | none => t.get .any j) := by
  induction l with
  | nil => intro i j t; simp [putL]
  | cons a l ih =>
    intro i j t
    rw [putL_cons, ih, Tr.get_put]
    by_cases h1 : j < i
    · rw [if_pos (by omega), if_pos h1, if_neg (by omega)]
    · rw [if_neg h1]
      by_cases h2 : j = i
      · subst h2
        rw [if_pos (by omega)]; simp
      · rw [if_neg (by omega)]
        have : j - i = (j - (i + 1)) + 1 := by omega
        rw [this, List.getElem?_cons_succ, if_neg h2]
/-- What a round's names hold. -/
theorem rnd_get {n p j : Nat} {v : AV} {g : Nat → AV} (hj : j < n) : (putL .lf 0 (setL ((List.range n).map g) [(p, v)])).get .any j = if j = p then v else g j := by
  rw [putL_gt, if_neg (by omega)]
  simp only [setL, Nat.sub_zero]
  by_cases h : j = p
  · subst h
    rw [List.getElem?_set, if_pos rfl, if_pos (by simpa using hj), if_pos rfl]
  · rw [List.getElem?_set, if_neg (fun e => h e.symm), if_neg h]
    simp [hj]
theorem rnd_len {n p : Nat} {v : AV} {g : Nat → AV} : (setL ((List.range n).map g) [(p, v)]).length = n := by simp [setL]
end
end Go.Proofs.YtcledcfeddlomaaGreatDoor.Ev
