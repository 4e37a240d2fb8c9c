import Derived.Test.YtcledcfeddlomaaGreatDoorEvSc
import Derived.TacticsIn
import Derived.LoopNIn
set_option linter.all false
namespace Go.Proofs.YtcledcfeddlomaaGreatDoor.Ev
open Go.RowKit
section
variable {P : Program} {T : Tab} (hT : TSnd P T) {rec : Rec} (hR : Snd P rec)
include hT hR
def SndL (P : Program) (m : Nat) (rec : Rec) : Prop :=
 ∀ (ro : Option Nat) (c : Code) (s : AS) (x : AX) (s' : AS), rec ro (.loop c) s = some (x, s') -> ∀ (β : Env) (B : Gd) (a : Act) (W : World) (n : Nat) (r : Option Nat), RoR β ro r -> SR β B s a W ->
  ∀ Q : Exit -> Act -> World -> Prop, (∀ β' a' W', Env.on β β' s.hs s'.hs -> SR β' B s' a' W' -> s'.nt = s.nt -> Q (XR x) a' W') -> Code.roundsIn (FW r) n P c Q m a W
omit hT in
theorem loop_rel {m : Nat} (hL : SndL P m rec) : SndL P (m + 1) (step T rec) := by
 intro ro c s x s' h β B a W n r hro hs Q hQ
 have h : (match rec ro c s with
  | some (.normal, s') => rec ro (.loop c) s'
  | r => r) = some (x, s') := h
 rw [roundsIn_succ]
 split at h
 ·rename_i s1 h1
  refine hR ro c s .normal s1 h1 β B a W n r hro hs _ fun β1 a1 W1 hon1 hs1 hn1 => ?_
  refine hL ro c s1 x s' h β1 B a1 W1 n r (hro.mono hon1.le) hs1 Q fun β2 a2 W2 hon2 hs2 hn2 => ?_
  exact hQ β2 a2 W2 (hon1.trans hon2) hs2 (hn2.trans hn1)
 ·rename_i hne
  refine hR ro c s x s' h β B a W n r hro hs _ fun β1 a1 W1 hon1 hs1 hn1 => ?_
  have := hQ β1 a1 W1 hon1 hs1 hn1
  cases x with
  | normal => exact (hne s' h).elim
  | exit i => exact this
  | goto l => exact this
  | ret => exact this
theorem scope_rel {ro : Option Nat} {c : Code} : ∀ (m : Nat) (y : Code) (s : AS) (x : AX) (s' : AS), scopeGo rec ro c m y s = some (x, s') -> ∀ (β : Env) (B : Gd) (a : Act) (W : World) (n : Nat) (r : Option Nat), RoR β ro r -> SR β B s a W ->
  ∀ Q : Exit -> Act -> World -> Prop, (∀ β' a' W', Env.on β β' s.hs s'.hs -> SR β' B s' a' W' -> s'.nt = s.nt -> Q (XR x) a' W') -> passesIn (FW r) n P c Q m y a W := by
 intro m
 induction m with
 | zero => intro y s x s' h; cases h
 | succ m ih =>
  intro y s x s' h β B a W n r hro hs Q hQ
  have h : (match rec ro y s with
   | some (.goto l, s') => (match findLabel c l with
    | some rest => scopeGo rec ro c m rest s'
    | none => some (.goto l, s'))
   | r => r) = some (x, s') := h
  unfold passesIn
  split at h
  ·rename_i l s1 h1
   refine hR ro y s _ s1 h1 β B a W n r hro hs _ fun β1 a1 W1 hon1 hs1 hn1 => ?_
   simp only [XR]
   split at h
   ·rename_i rest hf
    rw [hf]
    exact ih rest s1 x s' h β1 B a1 W1 n r (hro.mono hon1.le) hs1 Q fun β2 a2 W2 hon2 hs2 hn2 => hQ β2 a2 W2 (hon1.trans hon2) hs2 (hn2.trans hn1)
   ·rename_i hf
    rw [hf]
    cases h
    exact hQ β1 a1 W1 hon1 hs1 hn1
  ·rename_i hne
   refine hR ro y s x s' h β B a W n r hro hs _ fun β1 a1 W1 hon1 hs1 hn1 => ?_
   have := hQ β1 a1 W1 hon1 hs1 hn1
   cases x with
   | normal => exact this
   | exit i => exact this
   | goto l => exact (hne l s' h).elim
   | ret => exact this
theorem ops_rel {ops : Array Oper} (n : Nat) (r : Option Nat) (B : Gd) (Q : Exit -> Act -> World -> Prop) : ∀ (l : List Oper) (s : AS) (x : AX) (s' : AS), evOps T rec ops l s = some (x, s') -> ∀ (β : Env) (a : Act) (W : World), SR β B s a W ->
  (∀ β' a' W', Env.on β β' s.hs s'.hs -> SR β' B s' a' W' -> s'.nt = s.nt -> Q (XR x) a' W') -> wpListIn (FW r) n P ops Q l a W
 | [], s, x, s', h, β, a, W, hs, hQ => by
  simp only [evOps, Option.some.injEq, Prod.mk.injEq] at h
  obtain ⟨rfl, rfl⟩ := h
  exact hQ β a W (Env.on.refl _ _) hs rfl
 | o :: l, s, x, s', h, β, a, W, hs, hQ => by
  simp only [evOps] at h
  unfold wpListIn
  split at h
  ·rename_i hw
   rw [wanted_rel hs.f hw]
   simp only [if_true]
   split at h
   ·rename_i s1 h1
    refine evOp_rel hT hR h1 hs n r _ _ fun β1 a1 W1 hon1 hs1 hn1 => ?_
    exact ops_rel n r B Q l s1 x s' h β1 a1 W1 hs1 fun β2 a2 W2 hon2 hs2 hn2 => hQ β2 a2 W2 (hon1.trans hon2) hs2 (hn2.trans hn1)
   ·cases h
  ·rename_i hw
   rw [wanted_rel hs.f hw]
   simp only [Bool.false_eq_true, if_false]
   refine ⟨fun _ _ => trivial, ?_⟩
   split at h
   ·rename_i s1 h1
    obtain ⟨g1, g2, g3, g4, g5, g6⟩ := setT_rel h1 hs.f (udef_rel β)
    refine ops_rel n r B Q l s1 x s' h β _ W ⟨by rw [g2, g3]; exact hs.w, g1, by rw [g4, g6]; exact hs.d⟩ fun β2 a2 W2 hon2 hs2 hn2 => hQ β2 a2 W2 ?_ hs2 (hn2.trans g5)
    rw [<- g3]; exact hon2
   ·cases h
  ·cases h
omit hT hR in
theorem tmps_rel {β : Env} {s : AS} {a : Act} (hf : FR β s a) : VRs β ((List.range s.nt).map (s.tmps.get .any)) a.tmps.toList := by
 have hsz := hf.size
 refine VRs.of_get (by simp [hsz]) fun (i : Nat) av v h1 h2 => ?_
 have hi : i < s.nt := by
  have := (List.getElem?_eq_some_iff.1 h1).1
  simpa using this
 have h1 : (List.range s.nt)[i]?.map (s.tmps.get .any) = some av := by simpa using h1
 rw [List.getElem?_range hi] at h1
 have e1 : s.tmps.get .any i = av := by simpa using h1
 have h2 : a.tmps[i]? = some v := by simpa using h2
 have e2 : a.tmps.getD i undef = v := by
  rw [Array.getD_eq_getD_getElem?, h2]; rfl
 rw [<- e1, <- e2]
 exact hf.get i hi
omit hT hR in
theorem enter_loop_rel (lm : Bool) {ro r : Option Nat} {s : AS} {d : Nat} {H : Tr AO} {hs0 : Nat} {defs : List Nat} (h : enterF ro s = some (d, H, hs0, defs)) {β : Env} {B : Gd} {W : World} {a : Act} (hro : RoR β ro r) (hs : SR β B s a W) (fn : FuncId) (ps : Array Tmp) (assign body : Code) :
  ∃ l mark w₁ β₁, (Instr.enterLoop fn a.tmps ps assign body r).run P W = .ok (l, mark) w₁ /\ Env.on β β₁ s.hs (hs0 + 1) /\
   WR β₁ B (H.put .dead hs0 (.loop .ready none ((List.range s.nt).map (s.tmps.get .any)) ps assign body d lm)) (hs0 + 1) w₁ /\ (∃ k, β₁.b hs0 = some k /\ k.blk = l) /\ DR β₁ defs (mark ++ a.defers) /\ s.hs <= hs0 := by
 have htm := tmps_rel hs.f
 have hn := hs.w.dom s.hs (Nat.le_refl _)
 unfold enterF at h
 cases ro with
 | none =>
  cases r with
  | some l => exact hro.elim
  | none =>
   simp only [Option.some.injEq, Prod.mk.injEq] at h
   obtain ⟨rfl, rfl, rfl, rfl⟩ := h
   have w1 := hs.w.alloc (.deferred (some [])) (.defd true) 0 0 ⟨by simp, hs.w.new⟩
   have hn1 := w1.dom (s.hs + 1) (Nat.le_refl _)
   have hsz1 : (W.alloc (.deferred (some []))).heap.size = W.heap.size + 1 := World.size_alloc W _
   have hk0 : ((β.add s.hs ⟨W.heap.size, 0, 0, 0⟩).add (s.hs + 1) ⟨(W.alloc (.deferred (some []))).heap.size, 0, 0, 0⟩).b s.hs = some ⟨W.heap.size, 0, 0, 0⟩ := by
    rw [Env.add_other _ _ (by omega), Env.add_self]
   have w2 := w1.alloc (.loop { state := .ready, pending := none, fn, tmps := a.tmps, params := ps, assign, body, defers := W.heap.size }) (.loop .ready none ((List.range s.nt).map (s.tmps.get .any)) ps assign body s.hs lm) 0 0
    ⟨fn, a.tmps, W.heap.size, rfl, htm.mono ((Env.le_add hn).trans (Env.le_add hn1)), ⟨_, hk0, rfl⟩, w1.new⟩
   refine ⟨_, _, _, _, run_enterLoop_outer fn a.tmps ps assign body, ⟨(Env.le_add hn).trans (Env.le_add hn1), fun o ho => ?_, by omega⟩, w2, ⟨_, Env.add_self _ _ _, hsz1⟩, ?_, Nat.le_succ _⟩
   ·rw [Env.add_other _ _ (by omega), Env.add_other _ _ (by omega)]
   ·exact .cons s.hs _ _ _ hk0 (hs.d.mono ((Env.le_add hn).trans (Env.le_add hn1)))
 | some o =>
  cases r with
  | none => exact hro.elim
  | some l0 =>
   obtain ⟨k, hk, hkl⟩ := hro
   simp only at h
   split at h
   ·rename_i st pend t2 ps2 a2 b2 d2 lm2 hget
    simp only [Option.some.injEq, Prod.mk.injEq] at h
    obtain ⟨rfl, rfl, rfl, rfl⟩ := h
    have ho := hs.w.obj o k hk
    rw [hget] at ho
    obtain ⟨fn1, tm1, dk1, q1, q2, ⟨kd, q3, q4⟩, q5⟩ := ho
    rw [hkl] at q1
    have w2 := hs.w.alloc (.loop { state := .ready, pending := none, fn, tmps := a.tmps, params := ps, assign, body, defers := dk1 }) (.loop .ready none ((List.range s.nt).map (s.tmps.get .any)) ps assign body d2 lm) 0 0
     ⟨fn, a.tmps, dk1, rfl, htm.mono (Env.le_add hn), ⟨kd, (Env.le_add hn).b _ _ q3, q4⟩, hs.w.new⟩
    exact ⟨_, _, _, _, run_enterLoop_inner q1 fn a.tmps ps assign body, ⟨Env.le_add hn, fun o ho => Env.add_other _ _ (by omega), Nat.le_succ _⟩, w2, ⟨_, Env.add_self _ _ _, rfl⟩, hs.d.mono (Env.le_add hn), Nat.le_refl _⟩
   ·cases h
theorem step_rel (hRd : RdS T rec) {m : Nat} (hL : SndL P m rec) : Snd P (step T rec) := by
 intro ro c s x s' h β B a W n r hro hs Q hQ
 unfold step at h
 split at h
 ·cases h; exact wpIn_skip (hQ β a W (Env.on.refl _ _) hs rfl)
 ·cases h; exact wpIn_label (hQ β a W (Env.on.refl _ _) hs rfl)
 ·cases h; exact wpIn_exit (hQ β a W (Env.on.refl _ _) hs rfl)
 ·cases h; exact wpIn_goto (hQ β a W (Env.on.refl _ _) hs rfl)
 ·cases h; exact wpIn_ret (hQ β a W (Env.on.refl _ _) hs rfl)
 ·rename_i c1 c2
  refine wpIn_seq ?_
  split at h
  ·rename_i s1 h1
   refine hR ro _ s .normal s1 h1 β B a W n r hro hs _ fun β1 a1 W1 hon1 hs1 hn1 => ?_
   exact hR ro _ s1 x s' h β1 B a1 W1 n r (hro.mono hon1.le) hs1 Q fun β2 a2 W2 hon2 hs2 hn2 => hQ β2 a2 W2 (hon1.trans hon2) hs2 (hn2.trans hn1)
  ·rename_i hne
   refine hR ro _ s x s' h β B a W n r hro hs _ fun β1 a1 W1 hon1 hs1 hn1 => ?_
   have := hQ β1 a1 W1 hon1 hs1 hn1
   cases x with
   | normal => exact (hne s' h).elim
   | exit i => exact this
   | goto l => exact this
   | ret => exact this
 ·split at h
  ·rename_i hc
   exact wpIn_cond_true ((opd_rel hs.f hc).of_lit) (hR ro _ s x s' h β B a W n r hro hs Q hQ)
  ·rename_i hc
   exact wpIn_cond_false ((opd_rel hs.f hc).of_lit) (hR ro _ s x s' h β B a W n r hro hs Q hQ)
  ·cases h
 ·rename_i i c1
  refine wpIn_block ?_
  split at h
  ·rename_i j s1 h1
   cases h
   refine hR ro _ s _ _ h1 β B a W n r hro hs _ fun β1 a1 W1 hon1 hs1 hn1 => ?_
   have := hQ β1 a1 W1 hon1 hs1 hn1
   simp only [XR, Exit.inBlock]
   rw [beq_if] at this
   split
   ·rename_i e; rw [if_pos e] at this; exact this
   ·rename_i e; rw [if_neg e] at this; exact this
  ·rename_i hne
   refine hR ro _ s x s' h β B a W n r hro hs _ fun β1 a1 W1 hon1 hs1 hn1 => ?_
   have := hQ β1 a1 W1 hon1 hs1 hn1
   cases x with
   | normal => exact this
   | exit i => exact (hne _ _ h).elim
   | goto l => exact this
   | ret => exact this
 ·exact wpIn_loop_rounds _ (loop_rel (T := T) hR hL ro _ s x s' h β B a W n r hro hs Q hQ)
 ·exact wpIn_scope_passes _ (scope_rel hT hR _ _ s x s' h β B a W n r hro hs Q hQ)
 ·rename_i id ops d
  cases d with
  | true => rw [cond_true] at h; exact evDr_rel hT hR hRd h hs id n r Q hQ
  | false => rw [cond_false] at h; exact wpIn_region_list (ops_rel hT hR n r B Q ops.toList s x s' h β a W hs hQ)
 ·rename_i g ps assign body
  split at h
  ·rename_i gf x1 y1 hg
   split at h
   ·rename_i d H hs0 defs hent
    simp only at h
    split at h
    ·rename_i v0 H' hs' hcall
     split at h
     ·rename_i st pend t2 ps2 a2 b2 d2 lm2 hget
      rw [Bool.cond_decide] at h
      split at h
      ·cases h
      ·rename_i hbusy
       have hgv := opd_rel hs.f hg
       refine wpIn_rangeFunc fun fn _ => ?_
       obtain ⟨l, mark, w₁, β₁, e1, e2, e3, ⟨k, e4, e5⟩, e6, e7⟩ := enter_loop_rel (P := P) s.md.lm hent hro hs fn ps assign body
       generalize hev : a.eval g = fv at hgv
       cases hgv with
       | fn _ _ _ x2 y2 hx hy =>
        have hargs : VRs β₁ (x1 ++ [.yld hs0] ++ y1) (x2 ++ [.func (.yield l) #[] #[]] ++ y2) := by
         refine ((hx.mono e2.le).append (.cons _ _ _ _ ?_ .nil)).append (hy.mono e2.le)
         rw [<- e5]; exact VR.yld hs0 k e4
        obtain ⟨hcl, fn', cd, q1, q2, q3⟩ := callF_rel hT hR hcall e3 (hs.f.gl.mono e2.le) hargs (n - 1)
        refine ⟨l, mark, w₁, ⟨.fn (.func gf) y2.toArray, x2.toArray ++ #[.func (.yield l) #[] #[]]⟩, w₁, gf, _, w₁, e1, ?_, fun _ _ => trivial, ?_, fun e => by simp [FW, Fence.wide] at e, (calls_any r hcl).mono fun e w' he => ?_⟩
        ·have e8 : Array.map a.eval #[Operand.const (Value.func (Fn.yield l) #[] #[])] = #[Value.func (Fn.yield l) #[] #[]] := by simp; rfl
         simp only [resolve, rangeCall, hev, Deferred.ofValue, Sem.run_pure]
         rw [e8]
        ·have e9 : (x2.toArray ++ #[Value.func (.yield l) #[] #[]]) ++ y2.toArray = (x2 ++ [Value.func (.yield l) #[] #[]] ++ y2).toArray := by simp
         simp only [invoke]
         rw [e9]
         exact run_callFunc q1 q2 q3
        ·cases e with
         | panicked c => exact he.elim
         | outgrown => exact he.elim
         | returned v' =>
          obtain ⟨β₂, h1, h2, h3⟩ := he
          have hk2 := h1.le.b _ _ e4
          have ho := h2.obj hs0 k hk2
          rw [hget] at ho
          obtain ⟨fn2, tm2, dk2, z1, z2, z3, z4⟩ := ho
          rw [e5] at z1
          have hwp := loop_put (lm := lm2) h2 hk2 (by rw [hget]; rfl) (by rw [hget]; rfl) z4 (L := ⟨.exhausted, pend, fn2, tm2, ps2, a2, b2, dk2⟩) ⟨fn2, tm2, dk2, rfl, z2, z3, z4⟩
          rw [e5] at hwp
          have hon := e2.trans h1
          have hsr : SR β₂ B { s with heap := H'.put .dead hs0 (.loop .exhausted pend t2 ps2 a2 b2 d2 lm2), hs := hs', defs := defs } { a with defers := mark ++ a.defers } (w'.putObj l (.loop ⟨.exhausted, pend, fn2, tm2, ps2, a2, b2, dk2⟩)) :=
           ⟨hwp, ⟨hs.f.size, (hs.f.mono hon.le).get, (hs.f.mono hon.le).gl⟩, e6.mono h1.le⟩
          refine ⟨pend, _, run_endLoop z1 hbusy, ?_⟩
          split at h
          ·cases h
           exact hQ β₂ _ _ hon hsr rfl
          ·rename_i c2
           exact hR ro _ _ x s' h β₂ B _ _ n r (hro.mono hon.le) hsr Q fun β3 a3 W3 hon3 hs3 hn3 => hQ β3 a3 W3 (hon.trans hon3) hs3 hn3
     ·cases h
    ·cases h
   ·cases h
  ·cases h
 ·cases h
end
theorem ev_sound2 {P : Program} {T : Tab} (hT : TSnd P T) : ∀ n, Snd P (ev T n) /\ SndL P n (ev T n)
 | 0 => ⟨fun _ _ _ _ _ h => (by cases h), fun _ _ _ _ _ h => (by cases h)⟩
 | n + 1 => ⟨step_rel hT (ev_sound2 hT n).1 (rdS_ev hT.con0 n) (ev_sound2 hT n).2, loop_rel (ev_sound2 hT n).1 (ev_sound2 hT n).2⟩
theorem ev_sound {P : Program} {T : Tab} (hT : TSnd P T) (n : Nat) : Snd P (ev T n) := (ev_sound2 hT n).1
def fzOf (W : World) (b o : Nat) : Option Value := match W.heap[b]? with
 | some (.cells arr _ _) => arr[o]?
 | _ => none
def fmOf (W : World) (b : Nat) : Option Obj := W.heap[b]?
def Gd.all (W : World) : Gd := ⟨W, fun k => k < W.heap.size, fun _ h => h, fzOf W, fmOf W⟩
def env0 (q : Nat -> Value) (W : World) : Env := ⟨fun _ => none, q, fzOf W, fmOf W⟩
theorem WR.start (q : Nat -> Value) (W : World) : WR (env0 q W) (Gd.all W) .lf 0 W :=
 ⟨Keep.refl _ _, fun _ _ => rfl, fun o k hk => (by cases hk), fun o k hk => (by cases hk), fun o o' k k' _ hk => (by cases hk), fun b o v hv => (by
  have hv : fzOf W b o = some v := hv
  unfold fzOf at hv
  split at hv
  ·rename_i arr e f hb; exact ⟨arr, e, f, hb, hv⟩
  ·cases hv), fun r x hx => hx, fun o k hk => (by cases hk), fun _ _ _ _ h => h, fun _ _ _ h => h⟩
theorem run_sound {P : Program} {T : Tab} (hT : TSnd P T) {n f : Nat} {args : List AV} {v : AV} {H : Tr AO} {hs : Nat} {m : Md} (h : run T m n f args = some (v, H, hs)) (q : Nat -> Value) (W : World) (hgl : GlOk (env0 q W) m.gl) {xs : List Value} (hx : VRs (env0 q W) args xs) :
  Calls P f xs.toArray W fun e W' => match e with
   | .returned v' => ∃ β, (env0 q W).le β /\ WR β (Gd.all W) H hs W' /\ VR β v v'
   | _ => False := by
 obtain ⟨hc, _⟩ := callF_rel hT (ev_sound hT n) h (WR.start q W) hgl hx 0
 have hc' : CallsIn Fence.wide 0 P f xs.toArray W _ := hc
 refine Calls.mono (callsIn_wide.1 hc') fun e w' he => ?_
 cases e with
 | returned v' => obtain ⟨β, h1, h2, h3⟩ := he; exact ⟨β, h1.le, h2, h3⟩
 | panicked c => exact he
 | outgrown => exact he
end Go.Proofs.YtcledcfeddlomaaGreatDoor.Ev
