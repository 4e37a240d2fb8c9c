import Derived.Test.YtnmlgekgbmlgjaaGreatEv1
set_option linter.all false
namespace Go.Proofs.YtnmlgekgbmlgjaaGreat.Ev
open Go.RowKit

/-- A thing in memory: a row of cells (its block may have more behind them; 'ro': it is only read) · a map · an iterator over a string · the record of a loop over a function, and its block of deferred calls · nothing that is known. -/
inductive AO where
  | dead
  | cells (c : List AV) (ro : Bool)
  | map (es : List (AV × AV × Nat)) (clock : Nat)
  | siter (s : List UInt8) (pos : Nat)
  | loop (st : LoopState) (pending : Option Code) (tmps : List AV) (params : Array Tmp) (assign body : Code) (dblk : Nat)
  | defd (open_ : Bool)
  deriving Inhabited

inductive ERel (β : Env) : List (AV × AV × Nat) → List MapEntry → Prop where
  | nil : ERel β [] []
  | cons (a b : AV) (n : Nat) (k v : Value) (l : List (AV × AV × Nat)) (x : List MapEntry) (hk : VR β a k) (hv : VR β b v) (t : ERel β l x) : ERel β ((a, b, n) :: l) (⟨k, v, n⟩ :: x)

theorem ERel.mono {β β' : Env} (h : β.le β') : ∀ {l : List (AV × AV × Nat)} {x : List MapEntry}, ERel β l x → ERel β' l x
  | _, _, .nil => .nil
  | _, _, .cons a b n k v l x hk hv t => .cons a b n k v l x (hk.mono h) (hv.mono h) (ERel.mono h t)

def ORel (β : Env) (B : Nat) : AO → Bk → Option Obj → Prop
  | .dead, _, _ => True
  | .cells c ro, k, x => ∃ arr e fz, x = some (.cells arr e fz) ∧ arr.size = k.sz ∧ k.sh + c.length ≤ k.sz ∧
      (fz.2 ≤ fz.1 ∨ k.sz ≤ fz.1) ∧ (ro = false → B ≤ k.blk) ∧ (∀ i a, c[i]? = some a → ∃ v, arr[k.sh + i]? = some v ∧ VR β a v)
  | .map es clock, k, x => ∃ es', x = some (.map es' clock) ∧ ERel β es es'.toList ∧ B ≤ k.blk
  | .siter s pos, k, x => x = some (.stringIter ⟨s.toArray⟩ pos) ∧ B ≤ k.blk
  | .loop st pending tmps params assign body dblk, k, x => ∃ fn tm dk, x = some (.loop ⟨st, pending, fn, tm, params, assign, body, dk⟩) ∧ VRs β tmps tm.toList ∧ (∃ kd, β.b dblk = some kd ∧ kd.blk = dk) ∧ B ≤ k.blk
  | .defd o, k, x => x = some (.deferred (if o then some [] else none)) ∧ B ≤ k.blk

theorem ORel.mono {β β' : Env} (h : β.le β') {B : Nat} : ∀ {A : AO} {k : Bk} {x : Option Obj}, ORel β B A k x → ORel β' B A k x
  | .dead, _, _, _ => trivial
  | .cells .., _, _, ⟨arr, e, fz, h1, h2, h3, h5, h6, h7⟩ => ⟨arr, e, fz, h1, h2, h3, h5, h6, fun i a ha => let ⟨v, hv, hr⟩ := h7 i a ha; ⟨v, hv, hr.mono h⟩⟩
  | .map .., _, _, ⟨es', h1, h2, h3⟩ => ⟨es', h1, h2.mono h, h3⟩
  | .siter .., _, _, g => g
  | .loop .., _, _, ⟨fn, tm, dk, h1, h2, ⟨kd, h3, h4⟩, h5⟩ => ⟨fn, tm, dk, h1, h2.mono h, ⟨kd, h.b _ _ h3, h4⟩, h5⟩
  | .defd _, _, _, g => g

/-- May it be written? Is anything known of it? -/
def AO.own : AO → Bool
  | .dead => false
  | .cells _ ro => !ro
  | _ => true
def AO.live : AO → Bool
  | .dead => false
  | _ => true

structure WR (β : Env) (B : World) (H : Tr AO) (hs : Nat) (W : World) : Prop where
  below : Below B.heap.size B W
  dom : ∀ o, hs ≤ o → β.b o = none
  obj : ∀ o k, β.b o = some k → ORel β B.heap.size (H.get .dead o) k W.heap[k.blk]?
  blk : ∀ o k, β.b o = some k → k.blk < W.heap.size
  inj : ∀ o o' k k', o ≠ o' → β.b o = some k → β.b o' = some k' → (H.get .dead o).own = true → (H.get .dead o').live = true → k.blk ≠ k'.blk

/-- One thing more. -/
def Env.add (β : Env) (o : Nat) (k : Bk) : Env := { β with b := fun j => if j = o then some k else β.b j }

theorem Env.le_add {β : Env} {o : Nat} {k : Bk} (h : β.b o = none) : β.le (β.add o k) := by
  refine ⟨fun j x hj => ?_, rfl⟩
  simp only [Env.add]
  split
  · rename_i e; subst e; rw [h] at hj; cases hj
  · exact hj

theorem Env.add_self (β : Env) (o : Nat) (k : Bk) : (β.add o k).b o = some k := by simp [Env.add]
theorem Env.add_other (β : Env) {o j : Nat} (k : Bk) (h : j ≠ o) : (β.add o k).b j = β.b j := by simp [Env.add, h]

theorem heap_alloc_old {W : World} {o : Obj} {k : Nat} (h : k < W.heap.size) : (W.alloc o).heap[k]? = W.heap[k]? := Below.heap_alloc W o k h
theorem heap_alloc_new (W : World) (o : Obj) : (W.alloc o).heap[W.heap.size]? = some o := World.alloc_heap_new W o

/-- A new block, and a thing that lies there. -/
theorem WR.alloc {β : Env} {B W : World} {H : Tr AO} {hs : Nat} (h : WR β B H hs W) (o : Obj) (A : AO) (sz esz : Nat)
    (hA : ORel (β.add hs ⟨W.heap.size, 0, sz, esz⟩) B.heap.size A ⟨W.heap.size, 0, sz, esz⟩ (some o)) :
    WR (β.add hs ⟨W.heap.size, 0, sz, esz⟩) B (H.put .dead hs A) (hs + 1) (W.alloc o) := by
  have hle := Env.le_add (k := ⟨W.heap.size, 0, sz, esz⟩) (h.dom hs (Nat.le_refl _))
  refine ⟨h.below.alloc h.below.size o, ?_, ?_, ?_, ?_⟩
  · intro j hj; rw [Env.add_other _ _ (by omega)]; exact h.dom j (by omega)
  · intro j k hk
    rw [Tr.get_put]
    by_cases e : j = hs
    · subst e; rw [Env.add_self] at hk; cases hk; rw [if_pos rfl, heap_alloc_new]; exact hA
    · rw [Env.add_other _ _ e] at hk; rw [if_neg e, heap_alloc_old (h.blk j k hk)]; exact (h.obj j k hk).mono hle
  · intro j k hk
    have : (W.alloc o).heap.size = W.heap.size + 1 := World.size_alloc W o
    by_cases e : j = hs
    · subst e; rw [Env.add_self] at hk; cases hk; rw [this]; exact Nat.lt_succ_self _
    · rw [Env.add_other _ _ e] at hk; have := h.blk j k hk; omega
  · intro j j' k k' hne hk hk' ho hl
    rw [Tr.get_put] at ho hl
    by_cases e : j = hs
    · subst e; rw [Env.add_self] at hk; cases hk
      rw [Env.add_other _ _ (fun x => hne x.symm)] at hk'; have := h.blk j' k' hk'; simp only; omega
    · rw [Env.add_other _ _ e] at hk; rw [if_neg e] at ho
      by_cases e' : j' = hs
      · subst e'; rw [Env.add_self] at hk'; cases hk'; have := h.blk j k hk; simp only; omega
      · rw [Env.add_other _ _ e'] at hk'; rw [if_neg e'] at hl; exact h.inj j j' k k' hne hk hk' ho hl

/-- A thing is written: its block alone has turned. -/
theorem WR.write {β : Env} {B W W' : World} {H : Tr AO} {hs : Nat} (h : WR β B H hs W) {o : Nat} {k : Bk} (hk : β.b o = some k) (A : AO) (hown : (H.get .dead o).own = true)
    (hb : Below B.heap.size W W') (hsz : W'.heap.size = W.heap.size) (hoth : ∀ j, j ≠ k.blk → W'.heap[j]? = W.heap[j]?)
    (hA : ORel β B.heap.size A k W'.heap[k.blk]?) (hAo : A.own = true → (H.get .dead o).own = true) :
    WR β B (H.put .dead o A) hs W' := by
  refine ⟨h.below.trans hb, h.dom, ?_, ?_, ?_⟩
  · intro j kj hj
    rw [Tr.get_put]
    by_cases e : j = o
    · subst e; rw [hk] at hj; cases hj; rw [if_pos rfl]; exact hA
    · rw [if_neg e]
      by_cases hlive : (H.get .dead j).live = true
      · rw [hoth kj.blk (fun x => h.inj o j k kj (Ne.symm e) hk hj hown hlive x.symm)]; exact h.obj j kj hj
      · have : H.get .dead j = .dead := by
          cases hx : H.get .dead j <;> simp [hx, AO.live] at hlive
          rfl
        rw [this]; trivial
  · intro j kj hj; rw [hsz]; exact h.blk j kj hj
  · intro j j' kj kj' hne hj hj' ho hl
    rw [Tr.get_put] at ho hl
    have ho' : (H.get .dead j).own = true := by
      by_cases e : j = o
      · subst e; exact hown
      · rw [if_neg e] at ho; exact ho
    have hl' : (H.get .dead j').live = true := by
      by_cases e : j' = o
      · subst e
        cases hx : H.get .dead j' <;> simp [hx, AO.own] at hown <;> rfl
      · rw [if_neg e] at hl; exact hl
    exact h.inj j j' kj kj' hne hj hj' ho' hl'

/-- A thing of which no more is known. -/
theorem WR.kill {β : Env} {B W : World} {H : Tr AO} {hs : Nat} (h : WR β B H hs W) (o : Nat) : WR β B (H.put .dead o .dead) hs W := by
  refine ⟨h.below, h.dom, ?_, h.blk, ?_⟩
  · intro j kj hj
    rw [Tr.get_put]
    by_cases e : j = o
    · rw [if_pos e]; trivial
    · rw [if_neg e]; exact h.obj j kj hj
  · intro j j' kj kj' hne hj hj' ho hl
    rw [Tr.get_put] at ho hl
    by_cases e : j = o
    · rw [if_pos e] at ho; simp [AO.own] at ho
    · by_cases e' : j' = o
      · rw [if_pos e'] at hl; simp [AO.live] at hl
      · rw [if_neg e] at ho; rw [if_neg e'] at hl; exact h.inj j j' kj kj' hne hj hj' ho hl

/-- The same block under another name, and written; the elder name is dead. -/
theorem WR.rename {β : Env} {B W W' : World} {H : Tr AO} {hs : Nat} (h : WR β B H hs W) {o : Nat} {k : Bk} (hk : β.b o = some k) (hown : (H.get .dead o).own = true)
    (hb : Below B.heap.size W W') (hsz : W'.heap.size = W.heap.size) (hoth : ∀ j, j ≠ k.blk → W'.heap[j]? = W.heap[j]?)
    (k' : Bk) (hkb : k'.blk = k.blk) (A : AO) (hA : ORel (β.add hs k') B.heap.size A k' W'.heap[k.blk]?) :
    WR (β.add hs k') B ((H.put .dead o .dead).put .dead hs A) (hs + 1) W' := by
  have hle := Env.le_add (k := k') (h.dom hs (Nat.le_refl _))
  have hne : o ≠ hs := fun e => by have := h.dom hs (Nat.le_refl _); rw [← e, hk] at this; cases this
  refine ⟨h.below.trans hb, ?_, ?_, ?_, ?_⟩
  · intro j hj; rw [Env.add_other _ _ (by omega)]; exact h.dom j (by omega)
  · intro j kj hj
    rw [Tr.get_put, Tr.get_put]
    by_cases e : j = hs
    · subst e; rw [Env.add_self] at hj; cases hj; rw [if_pos rfl, hkb]; exact hA
    · rw [Env.add_other _ _ e] at hj; rw [if_neg e]
      by_cases e' : j = o
      · rw [if_pos e']; trivial
      · rw [if_neg e']
        by_cases hlive : (H.get .dead j).live = true
        · rw [hoth kj.blk (fun x => h.inj o j k kj (Ne.symm e') hk hj hown hlive x.symm)]; exact (h.obj j kj hj).mono hle
        · have : H.get .dead j = .dead := by
            cases hx : H.get .dead j <;> simp [hx, AO.live] at hlive
            rfl
          rw [this]; trivial
  · intro j kj hj
    rw [hsz]
    by_cases e : j = hs
    · subst e; rw [Env.add_self] at hj; cases hj; rw [hkb]; exact h.blk o k hk
    · rw [Env.add_other _ _ e] at hj; exact h.blk j kj hj
  · intro j j' kj kj' hne' hj hj' ho hl
    rw [Tr.get_put, Tr.get_put] at ho hl
    by_cases e : j = hs
    · subst e; rw [Env.add_self] at hj; cases hj
      have e' : j' ≠ j := fun x => hne' x.symm
      rw [Env.add_other _ _ e'] at hj'; rw [if_neg e'] at hl
      by_cases e2 : j' = o
      · rw [if_pos e2] at hl; simp [AO.live] at hl
      · rw [if_neg e2] at hl; rw [hkb]; exact h.inj o j' k kj' (Ne.symm e2) hk hj' hown hl
    · rw [Env.add_other _ _ e] at hj; rw [if_neg e] at ho
      by_cases e2 : j = o
      · rw [if_pos e2] at ho; simp [AO.own] at ho
      · rw [if_neg e2] at ho
        by_cases e' : j' = hs
        · subst e'; rw [Env.add_self] at hj'; cases hj'; rw [hkb]
          refine h.inj j o kj k e2 hj hk ho ?_
          cases hx : H.get .dead o <;> simp [hx, AO.own] at hown <;> rfl
        · rw [Env.add_other _ _ e'] at hj'; rw [if_neg e'] at hl
          by_cases e3 : j' = o
          · rw [if_pos e3] at hl; simp [AO.live] at hl
          · rw [if_neg e3] at hl; exact h.inj j j' kj kj' hne' hj hj' ho hl

theorem WR.congr {β : Env} {B W : World} {H H' : Tr AO} {hs : Nat} (h : WR β B H hs W) (e : ∀ j, H'.get .dead j = H.get .dead j) : WR β B H' hs W :=
  ⟨h.below, h.dom, fun o k hk => by rw [e]; exact h.obj o k hk, h.blk, fun o o' k k' hne hk hk' ho hl => by rw [e] at ho hl; exact h.inj o o' k k' hne hk hk' ho hl⟩

theorem WR.drew {β : Env} {B W : World} {H : Tr AO} {hs : Nat} (h : WR β B H hs W) (n : Nat) : WR β B H hs { W with drawn := n } :=
  ⟨⟨h.below.os, h.below.tape, h.below.output, h.below.size, h.below.block⟩, h.dom, h.obj, h.blk, h.inj⟩

end Go.Proofs.YtnmlgekgbmlgjaaGreat.Ev
