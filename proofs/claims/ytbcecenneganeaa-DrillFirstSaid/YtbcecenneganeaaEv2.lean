import Derived.Test.YtbcecenneganeaaEv1
set_option linter.all false
namespace Go.Proofs.Ytbcecenneganeaa.Ev
open Go.RowKit

/-- A thing in memory: a row of cells (its block may have more behind them; 'ro': it is only read) · a map · an iterator over a string · the record of a loop over a function, and its block of deferred calls · the room behind a slice's cells · nothing that is known. -/
inductive AO where
  | dead
  | cells (c : List AV) (ro : Bool)
  | map (es : List (AV × AV × Nat)) (clock : Nat)
  | siter (s : List UInt8) (pos : Nat)
  | loop (st : LoopState) (pending : Option Code) (tmps : List AV) (params : Array Tmp) (assign body : Code) (dblk : Nat) (lm : Bool)
  | defd (open_ : Bool)
  | room (sz : Nat)
  deriving Inhabited

def ORel (β : Env) (pr : Nat → Prop) : AO → Bk → Option Obj → Prop
  | .dead, _, _ => True
  | .cells c ro, k, x => ∃ arr e fz, x = some (.cells arr e fz) ∧ arr.size = k.sz ∧ k.sh + c.length ≤ k.sz ∧
      (fz.2 ≤ fz.1 ∨ k.sz ≤ fz.1) ∧ ((ro = false → ¬ pr k.blk) ∧ (ro = true → ∀ i v, i < c.length → arr[k.sh + i]? = some v → β.fz k.blk (k.sh + i) = some v)) ∧ (∀ i a, c[i]? = some a → ∃ v, arr[k.sh + i]? = some v ∧ VR β a v)
  | .map es clock, k, x => ∃ es', x = some (.map es' clock) ∧ ERel β es es'.toList ∧ ¬ pr k.blk
  | .siter s pos, k, x => x = some (.stringIter ⟨s.toArray⟩ pos) ∧ ¬ pr k.blk
  | .loop st pending tmps params assign body dblk _, k, x => ∃ fn tm dk, x = some (.loop ⟨st, pending, fn, tm, params, assign, body, dk⟩) ∧ VRs β tmps tm.toList ∧ (∃ kd, β.b dblk = some kd ∧ kd.blk = dk) ∧ ¬ pr k.blk
  | .defd o, k, x => x = some (.deferred (if o then some [] else none)) ∧ ¬ pr k.blk
  | .room z, k, x => k.esz = z ∧ ∃ arr e fz, x = some (.cells arr e fz) ∧ arr.size = k.sz ∧ k.sh ≤ k.sz ∧ (fz.2 ≤ fz.1 ∨ k.sz ≤ fz.1) ∧ ¬ pr k.blk

theorem ORel.mono {β β' : Env} (h : β.le β') {pr : Nat → Prop} : ∀ {A : AO} {k : Bk} {x : Option Obj}, ORel β pr A k x → ORel β' pr A k x
  | .dead, _, _, _ => trivial
  | .cells .., _, _, ⟨arr, e, fz, h1, h2, h3, h5, ⟨h6, h6'⟩, h7⟩ => ⟨arr, e, fz, h1, h2, h3, h5, ⟨h6, fun hr i v hi hv => h.fz _ _ _ (h6' hr i v hi hv)⟩, fun i a ha => let ⟨v, hv, hr⟩ := h7 i a ha; ⟨v, hv, hr.mono h⟩⟩
  | .map .., _, _, ⟨es', h1, h2, h3⟩ => ⟨es', h1, h2.mono h, h3⟩
  | .siter .., _, _, g => g
  | .loop .., _, _, ⟨fn, tm, dk, h1, h2, ⟨kd, h3, h4⟩, h5⟩ => ⟨fn, tm, dk, h1, h2.mono h, ⟨kd, h.b _ _ h3, h4⟩, h5⟩
  | .defd _, _, _, g => g
  | .room _, _, _, g => g

/-- May it be written? Is anything known of it? -/
def AO.own : AO → Bool
  | .dead => false
  | .cells _ ro => !ro
  | _ => true
def AO.live : AO → Bool
  | .dead => false
  | _ => true
def AO.isRoom : AO → Bool
  | .room _ => true
  | _ => false

/-- What must not turn: some blocks of a world. -/
structure Gd where
  w : World
  pr : Nat → Prop
  lt : ∀ k, pr k → k < w.heap.size
  fz : Nat → Nat → Option Value
  fm : Nat → Option Obj

structure Keep (pr : Nat → Prop) (w w' : World) : Prop where
  os : w'.os = w.os
  tape : w'.tape = w.tape
  output : w'.output = w.output
  size : w.heap.size ≤ w'.heap.size
  block : ∀ k, pr k → w'.heap[k]? = w.heap[k]?

theorem Keep.refl (pr : Nat → Prop) (w : World) : Keep pr w w := ⟨rfl, rfl, rfl, Nat.le_refl _, fun _ _ => rfl⟩
theorem Keep.trans {pr : Nat → Prop} {a b c : World} (h : Keep pr a b) (k : Keep pr b c) : Keep pr a c :=
  ⟨k.os.trans h.os, k.tape.trans h.tape, k.output.trans h.output, Nat.le_trans h.size k.size, fun i hi => (k.block i hi).trans (h.block i hi)⟩
theorem Keep.alloc {G : Gd} {w : World} (h : Keep G.pr G.w w) (o : Obj) : Keep G.pr G.w (w.alloc o) :=
  h.trans ⟨rfl, rfl, rfl, by simp, fun k hk => Below.heap_alloc _ _ _ (Nat.lt_of_lt_of_le (G.lt k hk) h.size)⟩

structure WR (β : Env) (B : Gd) (H : Tr AO) (hs : Nat) (W : World) : Prop where
  below : Keep B.pr B.w W
  dom : ∀ o, hs ≤ o → β.b o = none
  obj : ∀ o k, β.b o = some k → ORel β B.pr (H.get .dead o) k W.heap[k.blk]?
  blk : ∀ o k, β.b o = some k → k.blk < W.heap.size
  inj : ∀ o o' k k', o ≠ o' → β.b o = some k → β.b o' = some k' → (H.get .dead o).own = true → (H.get .dead o').live = true → k.blk ≠ k'.blk
  fz : ∀ b o v, β.fz b o = some v → ∃ arr e f, W.heap[b]? = some (.cells arr e f) ∧ arr[o]? = some v
  fm : ∀ r x, β.fm r = some x → W.heap[r]? = some x
  apart : ∀ o k, β.b o = some k → (H.get .dead o).own = true → (∀ off, ((H.get .dead o).isRoom = true → k.sh ≤ off) → β.fz k.blk off = none) ∧ β.fm k.blk = none
  gfz : ∀ b o v, B.pr b → β.fz b o = some v → B.fz b o = some v
  gfm : ∀ b x, B.pr b → β.fm b = some x → B.fm b = some x

theorem heap_lt {W : World} {b : Nat} {x : Obj} (h : W.heap[b]? = some x) : b < W.heap.size := (Array.getElem?_eq_some_iff.1 h).1

theorem WR.fz_lt {β : Env} {B : Gd} {H : Tr AO} {hs : Nat} {W : World} (h : WR β B H hs W) {b o : Nat} {v : Value} (hb : β.fz b o = some v) : b < W.heap.size := by
  obtain ⟨_, _, _, g, _⟩ := h.fz b o v hb; exact heap_lt g
theorem WR.fz_new {β : Env} {B : Gd} {H : Tr AO} {hs : Nat} {W : World} (h : WR β B H hs W) (b off : Nat) (hb : W.heap.size ≤ b) : β.fz b off = none := by
  cases hx : β.fz b off with
  | none => rfl
  | some v => have := h.fz_lt hx; omega
theorem WR.fm_new {β : Env} {B : Gd} {H : Tr AO} {hs : Nat} {W : World} (h : WR β B H hs W) (b : Nat) (hb : W.heap.size ≤ b) : β.fm b = none := by
  cases hx : β.fm b with
  | none => rfl
  | some v => have := heap_lt (h.fm _ _ hx); omega

theorem WR.new {β : Env} {B : Gd} {H : Tr AO} {hs : Nat} {W : World} (h : WR β B H hs W) : ¬ B.pr W.heap.size := fun hp => by
  have := B.lt _ hp
  have := h.below.size
  omega

/-- One thing more. -/
def Env.add (β : Env) (o : Nat) (k : Bk) : Env := { β with b := fun j => if j = o then some k else β.b j }

theorem Env.le_add {β : Env} {o : Nat} {k : Bk} (h : β.b o = none) : β.le (β.add o k) := by
  refine ⟨fun j x hj => ?_, rfl, fun _ _ _ h => h, fun _ _ h => h⟩
  simp only [Env.add]
  split
  · rename_i e; subst e; rw [h] at hj; cases hj
  · exact hj

theorem Env.add_self (β : Env) (o : Nat) (k : Bk) : (β.add o k).b o = some k := by simp [Env.add]
theorem Env.add_other (β : Env) {o j : Nat} (k : Bk) (h : j ≠ o) : (β.add o k).b j = β.b j := by simp [Env.add, h]

theorem heap_alloc_old {W : World} {o : Obj} {k : Nat} (h : k < W.heap.size) : (W.alloc o).heap[k]? = W.heap[k]? := Below.heap_alloc W o k h
theorem heap_alloc_new (W : World) (o : Obj) : (W.alloc o).heap[W.heap.size]? = some o := World.alloc_heap_new W o

/-- A new block, and a thing that lies there. -/
theorem WR.alloc {β : Env} {B : Gd} {W : World} {H : Tr AO} {hs : Nat} (h : WR β B H hs W) (o : Obj) (A : AO) (sz esz : Nat)
    (hA : ORel (β.add hs ⟨W.heap.size, 0, sz, esz⟩) B.pr A ⟨W.heap.size, 0, sz, esz⟩ (some o)) :
    WR (β.add hs ⟨W.heap.size, 0, sz, esz⟩) B (H.put .dead hs A) (hs + 1) (W.alloc o) := by
  have hle := Env.le_add (k := ⟨W.heap.size, 0, sz, esz⟩) (h.dom hs (Nat.le_refl _))
  refine ⟨h.below.alloc o, ?_, ?_, ?_, ?_, fun b i v hv => (by rw [heap_alloc_old (h.fz_lt hv)]; exact h.fz b i v hv), fun r x hx => (by rw [heap_alloc_old (heap_lt (h.fm r x hx))]; exact h.fm r x hx), ?_, h.gfz, h.gfm⟩
  · intro j hj; rw [Env.add_other _ _ (by omega)]; exact h.dom j (by omega)
  · intro j k hk
    rw [Tr.get_put]
    by_cases e : j = hs
    · subst e; rw [Env.add_self] at hk; cases hk; rw [if_pos rfl, heap_alloc_new]; exact hA
    · rw [Env.add_other _ _ e] at hk; rw [if_neg e, heap_alloc_old (h.blk j k hk)]; exact (h.obj j k hk).mono hle
  · intro j k hk
    have : (W.alloc o).heap.size = W.heap.size + 1 := World.size_alloc W o
    by_cases e : j = hs
    · subst e; rw [Env.add_self] at hk; cases hk; rw [this]; exact Nat.lt_succ_self _
    · rw [Env.add_other _ _ e] at hk; have := h.blk j k hk; omega
  · intro j j' k k' hne hk hk' ho hl
    rw [Tr.get_put] at ho hl
    by_cases e : j = hs
    · subst e; rw [Env.add_self] at hk; cases hk
      rw [Env.add_other _ _ (fun x => hne x.symm)] at hk'; have := h.blk j' k' hk'; simp only; omega
    · rw [Env.add_other _ _ e] at hk; rw [if_neg e] at ho
      by_cases e' : j' = hs
      · subst e'; rw [Env.add_self] at hk'; cases hk'; have := h.blk j k hk; simp only; omega
      · rw [Env.add_other _ _ e'] at hk'; rw [if_neg e'] at hl; exact h.inj j j' k k' hne hk hk' ho hl
  · intro j k hk ho
    rw [Tr.get_put] at ho
    by_cases e : j = hs
    · subst e; rw [Env.add_self] at hk; cases hk
      exact ⟨fun off _ => h.fz_new _ _ (Nat.le_refl _), h.fm_new _ (Nat.le_refl _)⟩
    · rw [Env.add_other _ _ e] at hk; rw [if_neg e] at ho
      rw [Tr.get_put, if_neg e]; exact h.apart j k hk ho

/-- A thing is written: its block alone has turned. -/
theorem WR.write {β : Env} {B : Gd} {W W' : World} {H : Tr AO} {hs : Nat} (h : WR β B H hs W) {o : Nat} {k : Bk} (hk : β.b o = some k) (A : AO) (hown : (H.get .dead o).own = true) (hnr : (H.get .dead o).isRoom = false)
    (hb : Keep B.pr W W') (hsz : W'.heap.size = W.heap.size) (hoth : ∀ j, j ≠ k.blk → W'.heap[j]? = W.heap[j]?)
    (hA : ORel β B.pr A k W'.heap[k.blk]?) (hAo : A.own = true → (H.get .dead o).own = true) :
    WR β B (H.put .dead o A) hs W' := by
  have hap := h.apart o k hk hown
  have hfz : ∀ off, β.fz k.blk off = none := fun off => hap.1 off (fun e => by rw [hnr] at e; cases e)
  have hb1 : ∀ b i v, β.fz b i = some v → b ≠ k.blk := fun b i v hv e => by subst e; rw [hfz] at hv; cases hv
  have hb2 : ∀ b x, β.fm b = some x → b ≠ k.blk := fun b x hv e => by subst e; rw [hap.2] at hv; cases hv
  refine ⟨h.below.trans hb, h.dom, ?_, ?_, ?_, fun b i v hv => (by rw [hoth b (hb1 b i v hv)]; exact h.fz b i v hv), fun r x hx => (by rw [hoth r (hb2 r x hx)]; exact h.fm r x hx), ?_, h.gfz, h.gfm⟩
  · intro j kj hj
    rw [Tr.get_put]
    by_cases e : j = o
    · subst e; rw [hk] at hj; cases hj; rw [if_pos rfl]; exact hA
    · rw [if_neg e]
      by_cases hlive : (H.get .dead j).live = true
      · rw [hoth kj.blk (fun x => h.inj o j k kj (Ne.symm e) hk hj hown hlive x.symm)]; exact h.obj j kj hj
      · have : H.get .dead j = .dead := by
          cases hx : H.get .dead j <;> simp [hx, AO.live] at hlive
          rfl
        rw [this]; trivial
  · intro j kj hj; rw [hsz]; exact h.blk j kj hj
  · intro j j' kj kj' hne hj hj' ho hl
    rw [Tr.get_put] at ho hl
    have ho' : (H.get .dead j).own = true := by
      by_cases e : j = o
      · subst e; exact hown
      · rw [if_neg e] at ho; exact ho
    have hl' : (H.get .dead j').live = true := by
      by_cases e : j' = o
      · subst e
        cases hx : H.get .dead j' <;> simp [hx, AO.own] at hown <;> rfl
      · rw [if_neg e] at hl; exact hl
    exact h.inj j j' kj kj' hne hj hj' ho' hl'
  · intro j kj hj ho
    rw [Tr.get_put] at ho
    by_cases e : j = o
    · subst e; rw [hk] at hj; cases hj
      exact ⟨fun off _ => hfz off, hap.2⟩
    · rw [if_neg e] at ho; rw [Tr.get_put, if_neg e]; exact h.apart j kj hj ho

/-- A thing of which no more is known. -/
theorem WR.kill {β : Env} {B : Gd} {W : World} {H : Tr AO} {hs : Nat} (h : WR β B H hs W) (o : Nat) : WR β B (H.put .dead o .dead) hs W := by
  refine ⟨h.below, h.dom, ?_, h.blk, ?_, h.fz, h.fm, ?_, h.gfz, h.gfm⟩
  · intro j kj hj
    rw [Tr.get_put]
    by_cases e : j = o
    · rw [if_pos e]; trivial
    · rw [if_neg e]; exact h.obj j kj hj
  · intro j j' kj kj' hne hj hj' ho hl
    rw [Tr.get_put] at ho hl
    by_cases e : j = o
    · rw [if_pos e] at ho; simp [AO.own] at ho
    · by_cases e' : j' = o
      · rw [if_pos e'] at hl; simp [AO.live] at hl
      · rw [if_neg e] at ho; rw [if_neg e'] at hl; exact h.inj j j' kj kj' hne hj hj' ho hl
  · intro j kj hj ho
    rw [Tr.get_put] at ho
    by_cases e : j = o
    · rw [if_pos e] at ho; simp [AO.own] at ho
    · rw [if_neg e] at ho; rw [Tr.get_put, if_neg e]; exact h.apart j kj hj ho

/-- The same block under another name, and written; the elder name is dead. -/
theorem WR.rename {β : Env} {B : Gd} {W W' : World} {H : Tr AO} {hs : Nat} (h : WR β B H hs W) {o : Nat} {k : Bk} (hk : β.b o = some k) (hown : (H.get .dead o).own = true) (hnr : (H.get .dead o).isRoom = false)
    (hb : Keep B.pr W W') (hsz : W'.heap.size = W.heap.size) (hoth : ∀ j, j ≠ k.blk → W'.heap[j]? = W.heap[j]?)
    (k' : Bk) (hkb : k'.blk = k.blk) (A : AO) (hA : ORel (β.add hs k') B.pr A k' W'.heap[k.blk]?) :
    WR (β.add hs k') B ((H.put .dead o .dead).put .dead hs A) (hs + 1) W' := by
  have hle := Env.le_add (k := k') (h.dom hs (Nat.le_refl _))
  have hne : o ≠ hs := fun e => by have := h.dom hs (Nat.le_refl _); rw [← e, hk] at this; cases this
  have hap := h.apart o k hk hown
  have hfz : ∀ off, β.fz k.blk off = none := fun off => hap.1 off (fun e => by rw [hnr] at e; cases e)
  have hb1 : ∀ b i v, β.fz b i = some v → b ≠ k.blk := fun b i v hv e => by subst e; rw [hfz] at hv; cases hv
  have hb2 : ∀ b x, β.fm b = some x → b ≠ k.blk := fun b x hv e => by subst e; rw [hap.2] at hv; cases hv
  refine ⟨h.below.trans hb, ?_, ?_, ?_, ?_, fun b i v hv => (by rw [hoth b (hb1 b i v hv)]; exact h.fz b i v hv), fun r x hx => (by rw [hoth r (hb2 r x hx)]; exact h.fm r x hx), ?_, h.gfz, h.gfm⟩
  · intro j hj; rw [Env.add_other _ _ (by omega)]; exact h.dom j (by omega)
  · intro j kj hj
    rw [Tr.get_put, Tr.get_put]
    by_cases e : j = hs
    · subst e; rw [Env.add_self] at hj; cases hj; rw [if_pos rfl, hkb]; exact hA
    · rw [Env.add_other _ _ e] at hj; rw [if_neg e]
      by_cases e' : j = o
      · rw [if_pos e']; trivial
      · rw [if_neg e']
        by_cases hlive : (H.get .dead j).live = true
        · rw [hoth kj.blk (fun x => h.inj o j k kj (Ne.symm e') hk hj hown hlive x.symm)]; exact (h.obj j kj hj).mono hle
        · have : H.get .dead j = .dead := by
            cases hx : H.get .dead j <;> simp [hx, AO.live] at hlive
            rfl
          rw [this]; trivial
  · intro j kj hj
    rw [hsz]
    by_cases e : j = hs
    · subst e; rw [Env.add_self] at hj; cases hj; rw [hkb]; exact h.blk o k hk
    · rw [Env.add_other _ _ e] at hj; exact h.blk j kj hj
  · intro j j' kj kj' hne' hj hj' ho hl
    rw [Tr.get_put, Tr.get_put] at ho hl
    by_cases e : j = hs
    · subst e; rw [Env.add_self] at hj; cases hj
      have e' : j' ≠ j := fun x => hne' x.symm
      rw [Env.add_other _ _ e'] at hj'; rw [if_neg e'] at hl
      by_cases e2 : j' = o
      · rw [if_pos e2] at hl; simp [AO.live] at hl
      · rw [if_neg e2] at hl; rw [hkb]; exact h.inj o j' k kj' (Ne.symm e2) hk hj' hown hl
    · rw [Env.add_other _ _ e] at hj; rw [if_neg e] at ho
      by_cases e2 : j = o
      · rw [if_pos e2] at ho; simp [AO.own] at ho
      · rw [if_neg e2] at ho
        by_cases e' : j' = hs
        · subst e'; rw [Env.add_self] at hj'; cases hj'; rw [hkb]
          refine h.inj j o kj k e2 hj hk ho ?_
          cases hx : H.get .dead o <;> simp [hx, AO.own] at hown <;> rfl
        · rw [Env.add_other _ _ e'] at hj'; rw [if_neg e'] at hl
          by_cases e3 : j' = o
          · rw [if_pos e3] at hl; simp [AO.live] at hl
          · rw [if_neg e3] at hl; exact h.inj j j' kj kj' hne' hj hj' ho hl
  · intro j kj hj ho
    rw [Tr.get_put, Tr.get_put] at ho
    by_cases e : j = hs
    · subst e; rw [Env.add_self] at hj; cases hj
      rw [hkb]; exact ⟨fun off _ => hfz off, hap.2⟩
    · rw [Env.add_other _ _ e] at hj; rw [if_neg e] at ho
      by_cases e2 : j = o
      · rw [if_pos e2] at ho; simp [AO.own] at ho
      · rw [if_neg e2] at ho; rw [Tr.get_put, Tr.get_put, if_neg e, if_neg e2]; exact h.apart j kj hj ho

theorem WR.congr {β : Env} {B : Gd} {W : World} {H H' : Tr AO} {hs : Nat} (h : WR β B H hs W) (e : ∀ j, H'.get .dead j = H.get .dead j) : WR β B H' hs W :=
  ⟨h.below, h.dom, fun o k hk => by rw [e]; exact h.obj o k hk, h.blk, fun o o' k k' hne hk hk' ho hl => (by rw [e] at ho hl; exact h.inj o o' k k' hne hk hk' ho hl), h.fz, h.fm, fun o k hk ho => (by rw [e] at ho ⊢; exact h.apart o k hk ho), h.gfz, h.gfm⟩

theorem WR.drew {β : Env} {B : Gd} {W : World} {H : Tr AO} {hs : Nat} (h : WR β B H hs W) (n : Nat) : WR β B H hs { W with drawn := n } :=
  ⟨⟨h.below.os, h.below.tape, h.below.output, h.below.size, h.below.block⟩, h.dom, h.obj, h.blk, h.inj, h.fz, h.fm, h.apart, h.gfz, h.gfm⟩

/-- Cells that are never written any more. -/
theorem WR.freeze {β : Env} {B : Gd} {W : World} {H : Tr AO} {hs : Nat} (h : WR β B H hs W) {o : Nat} {k : Bk} {c : List AV} (hk : β.b o = some k) (hg : H.get .dead o = .cells c false) :
    ∃ β', β.le β' ∧ β'.b = β.b ∧ WR β' B (H.put .dead o (.cells c true)) hs W := by
  have ho := h.obj o k hk
  rw [hg] at ho
  obtain ⟨arr, e, fz, h1, h2, h3, h4, ⟨h5, _⟩, h6⟩ := ho
  have hap := h.apart o k hk (by rw [hg]; rfl)
  have hfz : ∀ off, β.fz k.blk off = none := fun off => hap.1 off (fun x => by rw [hg] at x; cases x)
  have hpr := h5 rfl
  refine ⟨{ β with fz := fun b i => if b = k.blk then arr[i]? else β.fz b i }, ⟨fun _ _ x => x, rfl, fun b i v hv => ?_, fun _ _ x => x⟩, rfl, ?_⟩
  · simp only
    by_cases e1 : b = k.blk
    · subst e1; rw [hfz] at hv; cases hv
    · rw [if_neg e1]; exact hv
  have hle : β.le { β with fz := fun b i => if b = k.blk then arr[i]? else β.fz b i } := ⟨fun _ _ x => x, rfl, fun b i v hv => by
    simp only
    by_cases e1 : b = k.blk
    · subst e1; rw [hfz] at hv; cases hv
    · rw [if_neg e1]; exact hv, fun _ _ x => x⟩
  refine ⟨h.below, h.dom, ?_, h.blk, ?_, ?_, h.fm, ?_, ?_, h.gfm⟩
  · intro j kj hj
    rw [Tr.get_put]
    by_cases e1 : j = o
    · subst e1; rw [hk] at hj; cases hj; rw [if_pos rfl]
      refine ⟨arr, e, fz, h1, h2, h3, h4, ⟨fun x => (by cases x), fun _ i v hi hv => ?_⟩, fun i a ha => ?_⟩
      · simp only [if_true]; exact hv
      · obtain ⟨v, hv, hr⟩ := h6 i a ha
        exact ⟨v, hv, hr.mono hle⟩
    · rw [if_neg e1]; exact (h.obj j kj hj).mono hle
  · intro j j' kj kj' hne hj hj' ho' hl
    rw [Tr.get_put] at ho' hl
    by_cases e1 : j = o
    · rw [if_pos e1] at ho'; simp [AO.own] at ho'
    · rw [if_neg e1] at ho'
      refine h.inj j j' kj kj' hne hj hj' ho' ?_
      by_cases e2 : j' = o
      · subst e2; rw [hg]; rfl
      · rw [if_neg e2] at hl; exact hl
  · intro b i v hv
    simp only at hv
    by_cases e1 : b = k.blk
    · rw [if_pos e1] at hv; subst e1; exact ⟨arr, e, fz, h1, hv⟩
    · rw [if_neg e1] at hv; exact h.fz b i v hv
  · intro j kj hj ho'
    rw [Tr.get_put] at ho'
    by_cases e1 : j = o
    · rw [if_pos e1] at ho'; simp [AO.own] at ho'
    · rw [if_neg e1] at ho'
      rw [Tr.get_put, if_neg e1]
      have hne : kj.blk ≠ k.blk := h.inj j o kj k e1 hj hk ho' (by rw [hg]; rfl)
      obtain ⟨a1, a2⟩ := h.apart j kj hj ho'
      exact ⟨fun off hoff => by simp only; rw [if_neg hne]; exact a1 off hoff, a2⟩
  · intro b i v hb hv
    simp only at hv
    rw [if_neg (show ¬ b = k.blk from fun e1 => hpr (e1 ▸ hb))] at hv
    exact h.gfz b i v hb hv

/-- A map that is never written any more. -/
theorem WR.freezeMap {β : Env} {B : Gd} {W : World} {H : Tr AO} {hs : Nat} (h : WR β B H hs W) {o : Nat} {k : Bk} {es : List (AV × AV × Nat)} {clk : Nat} (hk : β.b o = some k) (hg : H.get .dead o = .map es clk) :
    ∃ β' es', β.le β' ∧ β'.b = β.b ∧ WR β' B (H.put .dead o .dead) hs W ∧ ERel β' es es'.toList ∧ β'.fm k.blk = some (.map es' clk) := by
  have ho := h.obj o k hk
  rw [hg] at ho
  obtain ⟨es', h1, h2, h3⟩ := ho
  have hap := h.apart o k hk (by rw [hg]; rfl)
  have hfm : β.fm k.blk = none := hap.2
  have hle : β.le { β with fm := fun b => if b = k.blk then some (.map es' clk) else β.fm b } := ⟨fun _ _ x => x, rfl, fun _ _ _ x => x, fun b x hv => by
    simp only
    by_cases e1 : b = k.blk
    · subst e1; rw [hfm] at hv; cases hv
    · rw [if_neg e1]; exact hv⟩
  refine ⟨_, es', hle, rfl, ?_, h2.mono hle, by simp⟩
  have hkl := h.kill o
  refine ⟨h.below, h.dom, fun j kj hj => (hkl.obj j kj hj).mono hle, h.blk, hkl.inj, h.fz, ?_, ?_, h.gfz, ?_⟩
  · intro b x hv
    simp only at hv
    by_cases e1 : b = k.blk
    · rw [if_pos e1] at hv; subst e1; cases hv; exact h1
    · rw [if_neg e1] at hv; exact h.fm b x hv
  · intro j kj hj ho'
    obtain ⟨a1, a2⟩ := hkl.apart j kj hj ho'
    refine ⟨a1, ?_⟩
    rw [Tr.get_put] at ho'
    by_cases e1 : j = o
    · rw [if_pos e1] at ho'; simp [AO.own] at ho'
    · rw [if_neg e1] at ho'
      have hne : kj.blk ≠ k.blk := h.inj j o kj k e1 hj hk ho' (by rw [hg]; rfl)
      simp only; rw [if_neg hne]; exact a2
  · intro b x hb hv
    simp only at hv
    rw [if_neg (show ¬ b = k.blk from fun e1 => h3 (e1 ▸ hb))] at hv
    exact h.gfm b x hb hv

end Go.Proofs.Ytbcecenneganeaa.Ev
