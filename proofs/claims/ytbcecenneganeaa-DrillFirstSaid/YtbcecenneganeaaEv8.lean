import Derived.Test.YtbcecenneganeaaEv7
import Derived.Laws.Tables
set_option linter.all false
namespace Go.Proofs.Ytbcecenneganeaa.Ev
open Go.RowKit

/-- The model's way to put cells into a row: one after another. -/
theorem foldl_put (off : Nat) : ∀ (vs : List Value) (j : Nat) (cs : Array Value), off + j + vs.length ≤ cs.size →
    ((vs.zipIdx j).foldl (fun cs (x : Value × Nat) => cs.setIfInBounds (off + x.2) x.1) cs).toList = cs.toList.take (off + j) ++ (vs ++ cs.toList.drop (off + j + vs.length))
  | [], j, cs, h => by simp
  | v :: vs, j, cs, h => by
    simp only [List.length_cons] at h
    rw [List.zipIdx_cons, List.foldl_cons, foldl_put off vs (j + 1) _ (by simp; omega)]
    have hlt : off + j < cs.toList.length := by simp; omega
    simp only [Array.toList_setIfInBounds, List.length_cons]
    rw [show off + (j + 1) = off + j + 1 from by omega, show off + j + 1 + vs.length = off + j + (vs.length + 1) from by omega]
    rw [List.take_set, List.drop_set, if_pos (by omega), List.take_succ_eq_append_getElem hlt]
    rw [List.set_append_right _ _ (by simp; omega)]
    have hm : min (off + j) cs.size = off + j := by simp at hlt; omega
    simp [hm]

theorem fill_step (off : Nat) (vs : Array Value) (cs : Array Value) (h : off + vs.size ≤ cs.size) :
    (vs.zipIdx.foldl (fun cs (c, j) => cs.setIfInBounds (off + j) c) cs).toList = cs.toList.take off ++ (vs.toList ++ cs.toList.drop (off + vs.toList.length)) := by
  have := foldl_put off vs.toList 0 cs (by simpa using h)
  rw [← Array.foldl_toList, Array.toList_zipIdx]
  simpa using this

theorem VR.cells_rel {β : Env} {v : AV} {u : Value} (h : VR β v u) (hq : ∀ k, v ≠ .opq k) (hy : v ≠ .any) (hl : ∀ c, v ≠ .lit (.agg c)) : VRs β v.cells u.cells.toList := by
  cases h with
  | agg a x hx => simpa [AV.cells, Value.cells] using hx
  | opq k => exact (hq k rfl).elim
  | any => exact (hy rfl).elim
  | lit =>
    cases u with
    | agg c => exact (hl c rfl).elim
    | _ => exact .cons _ _ _ _ (.lit _) .nil
  | str l => exact .cons _ _ _ _ (.str l) .nil
  | ptr o off k hk => exact .cons _ _ _ _ (.ptr o off k hk) .nil
  | slcX o off len c k hk => exact .cons _ _ _ _ (.slcX o off len c k hk) .nil
  | slcO o off len c z k hk hz h1 h2 => exact .cons _ _ _ _ (.slcO o off len c z k hk hz h1 h2) .nil
  | emp p q => exact .cons _ _ _ _ (.emp p q) .nil
  | mp o k hk => exact .cons _ _ _ _ (.mp o k hk) .nil
  | yld o k hk => exact .cons _ _ _ _ (.yld o k hk) .nil
  | fn f a b x y h1 h2 => exact .cons _ _ _ _ (.fn f a b x y h1 h2) .nil
  | ifc t a w hw => exact .cons _ _ _ _ (.ifc t a w hw) .nil
  | tup a x hx => exact .cons _ _ _ _ (.tup a x hx) .nil
  | lstN tk => exact .cons _ _ _ _ (.lstN tk) .nil
  | lstE tk a c h1 h2 => exact .cons _ _ _ _ (.lstE tk a c h1 h2) .nil
  | lst tk sz es vs b o c h1 h2 h3 h4 h5 h6 => exact .cons _ _ _ _ (.lst tk sz es vs b o c h1 h2 h3 h4 h5 h6) .nil
  | eptr cs vs b o h1 h2 => exact .cons _ _ _ _ (.eptr cs vs b o h1 h2) .nil
  | fmpN => exact .cons _ _ _ _ .fmpN .nil
  | fmp es es' clk r h1 h2 => exact .cons _ _ _ _ (.fmp es es' clk r h1 h2) .nil

theorem VR.cells_ok {β : Env} {v : AV} {u : Value} (h : VR β v u) (hq : flatOk v = true) : VRs β v.cells u.cells.toList :=
  h.cells_rel (fun k e => by subst e; cases hq) (fun e => by subst e; cases hq) (fun c e => by subst e; cases hq)

inductive PR (β : Env) : List (Nat × AV) → List (Nat × Value) → Prop where
  | nil : PR β [] []
  | cons (i : Nat) (a : AV) (v : Value) (l : List (Nat × AV)) (x : List (Nat × Value)) (h : VR β a v) (t : PR β l x) : PR β ((i, a) :: l) ((i, v) :: x)

theorem opdParts_rel {β : Env} {s : AS} {a : Act} (h : FR β s a) : ∀ {l : List (Nat × Operand)} {vs : List (Nat × AV)}, opdParts s l = some vs → PR β vs (l.map fun p => (p.1, a.eval p.2))
  | [], vs, hx => by simp [opdParts] at hx; subst hx; exact .nil
  | (i, x) :: l, vs, hx => by
    simp only [opdParts] at hx
    cases h1 : opd s x with
    | none => simp [h1] at hx
    | some v =>
      cases h2 : opdParts s l with
      | none => simp [h1, h2] at hx
      | some ws =>
        simp [h1, h2] at hx; subst hx
        exact .cons _ _ _ _ _ (opd_rel h h1) (opdParts_rel h h2)

theorem splice_rel {β : Env} {c vs : List AV} {x y : List Value} (h : VRs β c x) (h' : VRs β vs y) (off : Nat) : VRs β (splice c off vs) (x.take off ++ (y ++ x.drop (off + y.length))) := by
  unfold splice
  rw [h'.length]
  exact (h.take off).append (h'.append (h.drop _))

theorem splice_length {c vs : List AV} {off : Nat} (h : off + vs.length ≤ c.length) : (splice c off vs).length = c.length := by
  unfold splice; simp; omega

theorem fillV_rel {β : Env} {place place' : Nat → Option (Nat × Nat)} (hp : ∀ i p, place i = some p → place' i = some p) : ∀ {ps : List (Nat × AV)} {qs : List (Nat × Value)} {cells cs : List AV} {x : Array Value},
    (∀ p ∈ ps, flatOk p.2 = true) → fillV place cells ps = some cs → PR β ps qs → VRs β cells x.toList → ∃ y, Instr.fill place' x qs = some y ∧ VRs β cs y.toList
  | [], _, cells, cs, x, _, h, .nil, hx => by simp only [fillV, Option.some.injEq] at h; subst h; exact ⟨x, rfl, hx⟩
  | (i, v) :: rest, _, cells, cs, x, hfl, h, .cons _ _ u _ qs hv ht, hx => by
    simp only [fillV] at h
    cases hpl : place i with
    | none => simp [hpl] at h
    | some q =>
      obtain ⟨off, size⟩ := q
      simp only [hpl] at h
      cases hb : (decide (v.cells.length = size) && Nat.ble (off + v.cells.length) cells.length) with
      | false => rw [hb] at h; cases h
      | true =>
        rw [hb, cond_true] at h
        simp only [Bool.and_eq_true, decide_eq_true_eq, Nat.ble_eq] at hb
        have hc := hv.cells_ok (hfl (i, v) (by simp))
        have hlen := hc.length
        have hxl := hx.length
        simp only [Array.length_toList] at hlen hxl
        have hstep := fill_step off u.cells x (by omega)
        obtain ⟨y, hy, hr⟩ := fillV_rel hp (fun p hpm => hfl p (by simp [hpm])) h ht (x := u.cells.zipIdx.foldl (fun cs (c, j) => cs.setIfInBounds (off + j) c) x) (by
          rw [hstep]; simpa using splice_rel hx hc off)
        refine ⟨y, ?_, hr⟩
        simp only [Instr.fill, hp i _ hpl]
        rw [if_neg]
        · exact hy
        · simp only [Bool.or_eq_true, decide_eq_true_eq, not_or]
          constructor
          · simp; omega
          · omega

end Go.Proofs.Ytbcecenneganeaa.Ev
