import Derived.Test.YtbcecenneganeaaEv18
set_option linter.all false
namespace Go.Proofs.Ytbcecenneganeaa.Ev
open Go.RowKit Go.Builtin

inductive DR (β : Env) : List Nat → List Deferred → Prop where
  | nil : DR β [] []
  | cons (o : Nat) (k : Bk) (l : List Nat) (ds : List Deferred) (h : β.b o = some k) (t : DR β l ds) : DR β (o :: l) ({ target := .collected k.blk, args := #[] } :: ds)

theorem DR.mono {β β' : Env} (h : β.le β') : ∀ {l : List Nat} {ds : List Deferred}, DR β l ds → DR β' l ds
  | _, _, .nil => .nil
  | _, _, .cons o k l ds hk t => .cons o k l ds (h.b o k hk) (t.mono h)

/-- How an activation stands to the model's. -/
structure SR (β : Env) (B : Gd) (s : AS) (a : Act) (W : World) : Prop where
  w : WR β B s.heap s.hs W
  f : FR β s a
  d : DR β s.defs a.defers

/-- Later, and no elder thing has got another place. -/
structure Env.on (β β' : Env) (hs hs' : Nat) : Prop where
  le : β.le β'
  old : ∀ o, o < hs → β'.b o = β.b o
  hs : hs ≤ hs'

theorem Env.on.refl (β : Env) (hs : Nat) : Env.on β β hs hs := ⟨Env.le.refl _, fun _ _ => rfl, Nat.le_refl _⟩
theorem Env.on.trans {a b c : Env} {x y z : Nat} (h : Env.on a b x y) (g : Env.on b c y z) : Env.on a c x z :=
  ⟨h.le.trans g.le, fun o ho => (g.old o (Nat.lt_of_lt_of_le ho h.hs)).trans (h.old o ho), Nat.le_trans h.hs g.hs⟩

def XR : AX → Exit
  | .normal => .normal
  | .exit i => .exit i
  | .goto l => .goto l
  | .ret => .ret

def FW (r : Option Nat) : Fence := { Fence.wide with round := r }

def RoR (β : Env) : Option Nat → Option Nat → Prop
  | none, none => True
  | some o, some l => ∃ k, β.b o = some k ∧ k.blk = l
  | _, _ => False

theorem RoR.mono {β β' : Env} (h : β.le β') : ∀ {ro r : Option Nat}, RoR β ro r → RoR β' ro r
  | none, none, _ => trivial
  | some o, some l, ⟨k, h1, h2⟩ => ⟨k, h.b _ _ h1, h2⟩

/-- The code does what the small machine tells. -/
def Snd (P : Program) (rec : Rec) : Prop :=
  ∀ (ro : Option Nat) (c : Code) (s : AS) (x : AX) (s' : AS), rec ro c s = some (x, s') → ∀ (β : Env) (B : Gd) (a : Act) (W : World) (n : Nat) (r : Option Nat), RoR β ro r → SR β B s a W →
    ∀ Q : Exit → Act → World → Prop, (∀ β' a' W', Env.on β β' s.hs s'.hs → SR β' B s' a' W' → s'.nt = s.nt → Q (XR x) a' W') → c.wpIn (FW r) n P Q a W

theorem put_getD (a : Act) (d : Nat) (v : Value) (i : Nat) (hd : d < a.tmps.size) : (a.put (some d) v).tmps.getD i undef = if i = d then v else a.tmps.getD i undef := by
  simp only [Act.put, Array.getD_eq_getD_getElem?, Array.getElem?_setIfInBounds]
  by_cases h : d = i
  · subst h; simp [hd]
  · rw [if_neg h, if_neg (fun e => h e.symm)]

theorem setT_rel {β : Env} {s s' : AS} {a : Act} {d : Option Nat} {v : AV} {v' : Value} (h : setT s d v = some s') (hf : FR β s a) (hv : VR β v v') :
    FR β s' (a.put d v') ∧ s'.heap = s.heap ∧ s'.hs = s.hs ∧ s'.defs = s.defs ∧ s'.nt = s.nt ∧ (a.put d v').defers = a.defers := by
  cases d with
  | none => simp only [setT, Option.some.injEq] at h; subst h; exact ⟨hf, rfl, rfl, rfl, rfl, rfl⟩
  | some i =>
    simp only [setT] at h
    cases hb : Nat.blt i s.nt with
    | false => rw [hb] at h; cases h
    | true =>
      rw [hb, cond_true] at h; cases h
      have hi := blt_lt.1 hb
      refine ⟨⟨by simp [Act.put, hf.size], fun j hj => ?_⟩, rfl, rfl, rfl, rfl, rfl⟩
      rw [put_getD a i v' j (by rw [hf.size]; exact hi), Tr.get_put]
      split
      · exact hv
      · exact hf.get j hj

theorem calls_any {n : Nat} {P : Program} {f : FuncId} {args : Array Value} {w : World} {R : Ending → World → Prop} (r : Option Nat) (h : CallsIn (FW none) n P f args w R) : CallsIn (FW r) n P f args w R := by
  cases r with
  | none => exact h
  | some l => exact h

/-- What is told of a call, or a round, behind it. -/
def EndR (β : Env) (B : Gd) (hs : Nat) (v : AV) (H' : Tr AO) (hs' : Nat) : Ending → World → Prop
  | .returned v', W' => ∃ β', Env.on β β' hs hs' ∧ WR β' B H' hs' W' ∧ VR β' v v'
  | _, _ => False

/-- What is told of a call of function f. -/
def Con (P : Program) (f : Nat) (args : List AV) (H : Tr AO) (hs : Nat) (v : AV) (H' : Tr AO) (hs' : Nat) : Prop :=
  ∀ (β : Env) (B : Gd) (W : World), WR β B H hs W → ∀ xs : List Value, VRs β args xs → ∀ n, CallsIn (FW none) n P f xs.toArray W (EndR β B hs v H' hs')

/-- A table that stands, and what it tells of calls, too. -/
structure TSnd (P : Program) (T : Tab) : Prop extends TOk P T where
  con : ∀ f args H hs v H' hs', T.con f args H hs = some (v, H', hs') → (∃ fn c, P.funcs[f]? = some fn ∧ fn.body = some c ∧ fn.name ≠ "runtime.NumGoroutine") ∧ Con P f args H hs v H' hs'

theorem run_callFunc {P : Program} {f : FuncId} {fn : Func} {c : Code} {args : Array Value} {W : World} (hf : P.funcs[f]? = some fn) (hb : fn.body = some c) (hn : fn.name ≠ "runtime.NumGoroutine") :
    (callFunc f args).run P W = .ok (.enter f args) W := by
  unfold callFunc
  simp [hf, hn, hb]

def resF (tmps : Array Value) : ResultVar → Sem Value
  | .tmp t => pure (tmps.getD t undef)
  | .cell a t => do loadVar t (← asAddr (tmps.getD a undef))

theorem results_eq (fn : Func) (tmps : Array Value) : results fn tmps = (do let vs ← fn.results.mapM (resF tmps); pure (if h : vs.size = 1 then vs[0] else .tuple vs)) := rfl

section
variable {P : Program} {T : Tab} (hT : TOk P T) {rec : Rec} (hR : Snd P rec)
include hT

theorem resOf_rel {β : Env} {B : Gd} {W : World} {s : AS} {tmps : Array Value} (hw : WR β B s.heap s.hs W) (hsz : tmps.size = s.nt) (hg : ∀ i, i < s.nt → VR β (s.tmps.get .any i) (tmps.getD i undef)) :
    ∀ {rs : List ResultVar} {l : List AV}, resOf T s rs = some l → ∃ vs, (rs.mapM (resF tmps)).run P W = .ok vs W ∧ VRs β l vs
  | [], l, h => by simp only [resOf, Option.some.injEq] at h; subst h; exact ⟨[], by simp, .nil⟩
  | .tmp t :: rs, l, h => by
    simp only [resOf] at h
    cases hb : Nat.blt t s.nt with
    | false => rw [hb] at h; simp at h
    | true =>
      rw [hb, cond_true] at h
      split at h
      · rename_i a as h1 h2
        cases h; cases h1
        obtain ⟨vs, q1, q2⟩ := resOf_rel hw hsz hg h2
        refine ⟨tmps.getD t undef :: vs, ?_, .cons _ _ _ _ (hg t (blt_lt.1 hb)) q2⟩
        rw [List.mapM_cons]
        simp only [resF, Sem.run_bind, Sem.run_pure, Result.andThen_ok, q1]
      · cases h
  | .cell t ty :: rs, l, h => by
    simp only [resOf] at h
    cases hb : Nat.blt t s.nt with
    | false => rw [hb] at h; simp at h
    | true =>
      rw [hb, cond_true] at h
      split at h
      · rename_i a as h1 h2
        cases h
        obtain ⟨vs, q1, q2⟩ := resOf_rel hw hsz hg h2
        obtain ⟨v', r1, _, ad, r2, r3⟩ := ldv_rel hT hw h1 (hg t (blt_lt.1 hb))
        refine ⟨v' :: vs, ?_, .cons _ _ _ _ r1 q2⟩
        rw [List.mapM_cons]
        have hA : (asAddr (tmps.getD t undef)).run P W = .ok ad W := by rw [r2]; rfl
        simp only [resF, Sem.run_bind, hA, Result.andThen_ok, r3]
        rw [q1]
        rfl
      · cases h

theorem results_rel {β : Env} {B : Gd} {W : World} {s : AS} {fn : Func} {tmps : Array Value} {l : List AV} (hw : WR β B s.heap s.hs W) (hsz : tmps.size = s.nt) (hg : ∀ i, i < s.nt → VR β (s.tmps.get .any i) (tmps.getD i undef))
    (h : resOf T s fn.results.toList = some l) : ∃ v, (results fn tmps).run P W = .ok v W ∧ VR β (one l) v := by
  obtain ⟨vs, q1, q2⟩ := resOf_rel hT hw hsz hg h
  rw [results_eq, Array.mapM_eq_mapM_toList]
  refine ⟨if h : vs.toArray.size = 1 then vs.toArray[0] else .tuple vs.toArray, ?_, ?_⟩
  · simp only [Sem.run_bind, Sem.run_map]
    rw [q1]
    simp only [Result.andThen_ok, Sem.run_pure]
  · cases q2 with
    | nil => exact VR.tup [] [] .nil
    | cons a v l x hv t =>
      cases t with
      | nil => exact hv
      | cons a2 v2 l2 x2 hv2 t2 => exact VR.tup _ _ (.cons _ _ _ _ hv (.cons _ _ _ _ hv2 t2))

end
end Go.Proofs.Ytbcecenneganeaa.Ev
