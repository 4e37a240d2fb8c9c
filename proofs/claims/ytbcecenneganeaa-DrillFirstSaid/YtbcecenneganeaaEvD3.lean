import Derived.Test.YtbcecenneganeaaEvD2
set_option linter.all false
namespace Go.Proofs.Ytbcecenneganeaa.Ev
open Go.RowKit

/-- What temporary t holds when just the operations of S have been done. -/
def tmL (wt : Tr Nat) (s0 : AS) (vals : Tr AV) (S : Nat → Bool) (t : Nat) : AV :=
  match wt.get 0 t with
  | 0 => s0.tmps.get .any t
  | w + 1 => if S w = true then vals.get .any w else s0.tmps.get .any t

/-- All that was looked at. -/
structure DCert (T : Tab) (rec : Rec) (D : DI) (ls : List Lay) (fs : List EffR) (vals : Tr AV) (aid own : Tr Nat) : Prop where
  m : MOk D.ops D.ms
  w : WOk D.ops D.wt
  runs : Runs T rec D D.es ls fs
  ch : chain D.ms D.es = true
  eff : chkEff D vals aid fs D.es = true
  all : chkAll T D ls vals aid own D.ops.toList 0 = true
  first : ∃ L, ls[0]? = some L ∧ L.h0 = D.s0.heap ∧ L.n0 = D.s0.hs
  dst : ∀ (i : Nat) (o : Oper) (d : Nat), D.ops[i]? = some o → o.dst = some d → d < D.s0.nt

theorem rvals_mem {D : DI} {vals : Tr AV} {i : Nat} : ∀ {l : List Nat} {rv : List (Nat × AV)}, rvals D vals i l = some rv → ∀ p ∈ rv, opv D vals i p.1 = some p.2 ∧ p.1 < D.s0.nt
  | [], rv, h, p, hp => by simp only [rvals, Option.some.injEq] at h; subst h; cases hp
  | t :: l, rv, h, p, hp => by
    simp only [rvals] at h
    split at h
    · rename_i v r h1 h2
      cases hb : Nat.blt t D.s0.nt with
      | false => rw [hb] at h; cases h
      | true =>
        rw [hb, cond_true] at h; cases h
        rcases List.mem_cons.1 hp with rfl | hp
        · exact ⟨h1, blt_lt.1 hb⟩
        · exact rvals_mem h2 p hp
    · cases h

theorem putsT_get : ∀ (rv : List (Nat × AV)) (t : Nat), (putsT rv).get .any t = .any ∨ (t, (putsT rv).get .any t) ∈ rv
  | [], t => .inl rfl
  | (u, v) :: l, t => by
    simp only [putsT, Tr.get_put]
    split
    · rename_i e; subst e; exact .inr (by simp)
    · rcases putsT_get l t with h | h
      · exact .inl h
      · exact .inr (by simp [h])

/-- How it stands when the operations of S have been done, j of those that write among them. -/
structure DInv (D : DI) (ls : List Lay) (vals : Tr AV) (aid : Tr Nat) (β0 : Env) (B : Gd) (listed : Array Bool) (a : Act) (W : World) (j : Nat) (L : Lay) (β : Env) : Prop where
  lay : ls[j]? = some L
  on : Env.on β0 β D.s0.hs (lN L)
  w : WR β B (lH L) (lN L) W
  size : listed.size = D.ops.size
  cl : Cl D.ops fun i => listed.getD i false = true
  es : ∀ k e, D.es[k]? = some e → (listed.getD e false = true ↔ k < j)
  tsz : a.tmps.size = D.s0.nt
  tm : ∀ t, t < D.s0.nt → VR β (tmL D.wt D.s0 vals (fun i => listed.getD i false) t) (a.tmps.getD t undef)
  defs : DR β D.s0.defs a.defers
  ids : ∀ i o id, D.ops[i]? = some o → aid.get 0 i = id + 1 → listed.getD i false = false → β.b id = none

section
variable {P : Program} {T : Tab} (hT : TSnd P T) {rec : Rec} (hR : Snd P rec) {D : DI} {ls : List Lay} {fs : List EffR} {vals : Tr AV} {aid own : Tr Nat} (hD : DCert T rec D ls fs vals aid own)
include hT hR hD

theorem Runs.length : ls.length = D.es.length + 1 ∧ fs.length = D.es.length := by
  have : ∀ {es : List Nat} {ls : List Lay} {fs : List EffR}, Runs T rec D es ls fs → ls.length = es.length + 1 ∧ fs.length = es.length := by
    intro es ls fs h
    induction h with
    | nil L => simp
    | skip e o rv es L L' ls fs ho hw h0 n0 t ih => simp at ih ⊢; omega
    | act e o rv v es L L' ls fs ho hw ha t ih => simp at ih ⊢; omega
  exact this hD.runs

/-- What the temporaries that an operation looks at hold, when all ahead of it has been done and it hasn't. -/
theorem reads_rel {β0 β : Env} {B : Gd} {W : World} {listed : Array Bool} {a : Act} {j : Nat} {L : Lay} (hI : DInv D ls vals aid β0 B listed a W j L β) {i : Nat} {o : Oper} (ho : D.ops[i]? = some o)
    (hdeps : ∀ e ∈ o.after, Region.binds .any e = true → listed.getD e.on false = true) (hun : listed.getD i false = false) {rv : List (Nat × AV)} (hrv : rvals D vals i (readsOf D.ops o) = some rv) (H : Tr AO) (hs : Nat) :
    FR β (stOf D rv H hs) a := by
  have hS : ∀ i, listed.getD i false = true → ∃ o, D.ops[i]? = some o := by
    intro i hi
    have : i < listed.size := by
      rcases Nat.lt_or_ge i listed.size with h | h
      · exact h
      · simp [Array.getElem?_eq_none h] at hi
    rw [hI.size] at this
    exact ⟨D.ops[i], by simp [this]⟩
  refine ⟨hI.tsz, fun t ht => ?_⟩
  simp only [stOf] at ht ⊢
  rcases putsT_get rv t with h | h
  · rw [h]; exact .any _
  · obtain ⟨h1, _⟩ := rvals_mem hrv _ h
    have htm := hI.tm t ht
    simp only [opv] at h1
    unfold tmL at htm
    split at h1
    · rename_i h0
      rw [h0] at htm
      have e1 := Option.some.inj h1
      rw [← e1]; exact htm
    · rename_i w hw
      rw [hw] at htm
      simp only at htm
      cases hb : (D.ms.get 0 i).testBit w with
      | true =>
        rw [hb, cond_true] at h1
        have hlw := bef hD.m hI.cl hS i o ho hdeps w hb
        rw [if_pos hlw] at htm
        have e1 := Option.some.inj h1
        rw [← e1]; exact htm
      | false =>
        rw [hb, cond_false] at h1
        cases hb2 : (D.ms.get 0 w).testBit i with
        | false => rw [hb2] at h1; cases h1
        | true =>
          rw [hb2, cond_true] at h1
          have hnw : listed.getD w false = false := by
            cases hx : listed.getD w false with
            | false => rfl
            | true =>
              obtain ⟨o', ho'⟩ := hS w hx
              have := bef hD.m hI.cl hS w o' ho' (fun e he hbd => hI.cl w o' hx ho' e he hbd) i hb2
              rw [hun] at this; cases this
          have hc : ¬ (listed.getD w false = true) := by rw [hnw]; simp
          rw [if_neg hc] at htm
          have e1 := Option.some.inj h1
          rw [← e1]; exact htm

end
end Go.Proofs.Ytbcecenneganeaa.Ev
