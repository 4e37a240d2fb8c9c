import Derived.Test.YtbcecenneganeaaEv6
set_option linter.all false
namespace Go.Proofs.Ytbcecenneganeaa.Ev
open Go.RowKit

theorem add_addr (b o n : Nat) : (⟨b, o, none⟩ : Addr).add n = ⟨b, o + n, none⟩ := by
  unfold Addr.add; split
  · rename_i e; subst e; rfl
  · rfl

section
variable {P : Program} {T : Tab} (hT : TOk P T) {β : Env} {s : AS} {a : Act} (hf : FR β s a)
include hf

theorem move_rel {x : Operand} {v : AV} (h : opd s x = some v) : ∃ v', VR β v v' ∧ Yl P a (.move x) v' := ⟨_, opd_rel hf h, fun _ _ _ _ _ W => rfl⟩
theorem assign_rel {x : Operand} {v : AV} (h : opd s x = some v) : ∃ v', VR β v v' ∧ Yl P a (.assign x) v' := ⟨_, opd_rel hf h, fun _ _ _ _ _ W => rfl⟩

theorem pick_rel {c x y : Operand} {v : AV} (h : pureOp T s (.pick c x y) = some v) : ∃ v', VR β v v' ∧ Yl P a (.pick c x y) v' := by
  simp only [pureOp] at h
  split at h
  · rename_i t u w h1 h2 h3
    have e := (opd_rel hf h1).of_lit
    cases t with
    | true =>
      cases h
      refine ⟨_, opd_rel hf h2, fun _ _ _ _ _ W => ?_⟩
      simp [execOp, e, asBool]
    | false =>
      cases h
      refine ⟨_, opd_rel hf h3, fun _ _ _ _ _ W => ?_⟩
      simp [execOp, e, asBool]
  · cases h

theorem nilCheck_rel {x : Operand} {v : AV} (h : pureOp T s (.nilCheck x) = some v) : ∃ v', VR β v v' ∧ Yl P a (.nilCheck x) v' := by
  simp only [pureOp] at h
  split at h
  · rename_i o off h1
    cases h
    have hr := opd_rel hf h1
    obtain ⟨k, _, e⟩ := hr.of_ptr
    refine ⟨_, hr, fun _ _ _ _ _ W => ?_⟩
    simp [execOp, e]
  · rename_i cs h1
    cases h
    have hr := opd_rel hf h1
    obtain ⟨_, _, _, e, _⟩ := hr.of_eptr
    refine ⟨_, hr, fun _ _ _ _ _ W => ?_⟩
    simp [execOp, e]
  · rename_i f x1 x2 h1
    cases h
    have hr := opd_rel hf h1
    have e : ∃ p q, a.eval x = .func (.func f) p q := by
      generalize a.eval x = w at hr
      cases hr
      exact ⟨_, _, rfl⟩
    obtain ⟨p, q, e⟩ := e
    refine ⟨_, hr, fun _ _ _ _ _ W => ?_⟩
    simp [execOp, e]
  · cases h

include hT
theorem binOp_rel {op : BinOp} {t ty : TypeId} {x y : Operand} {v : AV} (h : pureOp T s (.binOp op t x y ty) = some v) : ∃ v', VR β v v' ∧ Yl P a (.binOp op t x y ty) v' := by
  simp only [pureOp] at h
  split at h
  · rename_i u w h1 h2
    split at h
    · rename_i r hb
      cases h
      obtain ⟨r', hr, he⟩ := binV_rel hT hb (opd_rel hf h1) (opd_rel hf h2) x y
      exact ⟨r', hr, Yl.of (m := do eqGuard op t x y (a.eval x) (a.eval y); Go.binOp op t (a.eval x) (a.eval y)) (fun _ _ _ _ _ => rfl) he⟩
    · obtain ⟨r', hr, he⟩ := ifcBin_rel hT h (opd_rel hf h1) (opd_rel hf h2)
      exact ⟨r', hr, Yl.of (m := do eqGuard op t x y (a.eval x) (a.eval y); Go.binOp op t (a.eval x) (a.eval y)) (fun _ _ _ _ _ => rfl) he⟩
  · cases h
omit hT

theorem unOp_rel {op : UnOp} {t : TypeId} {x : Operand} {v : AV} (h : pureOp T s (.unOp op t x) = some v) : ∃ v', VR β v v' ∧ Yl P a (.unOp op t x) v' := by
  simp only [pureOp] at h
  split at h
  · rename_i u h1
    unfold unV at h
    split at h
    · rename_i k n
      cases h
      have e := (opd_rel hf h1).of_lit
      refine ⟨_, VR.lit _, Yl.of (m := Op.unary .neg (a.eval x)) (fun _ _ _ _ _ => rfl) fun W => ?_⟩
      rw [e]; simp [Op.unary, Op.intArith]
    · rename_i b
      cases h
      have e := (opd_rel hf h1).of_lit
      refine ⟨_, VR.lit _, Yl.of (m := Op.unary .not (a.eval x)) (fun _ _ _ _ _ => rfl) fun W => ?_⟩
      rw [e]; simp [Op.unary]
    · cases h
  · cases h

include hT
theorem convP_rel {src dst : TypeId} {x : Operand} {v : AV} (h : pureOp T s (.convert src dst x) = some v) : ∃ v', VR β v v' ∧ Yl P a (.convert src dst x) v' := by
  simp only [pureOp] at h
  split at h
  · rename_i u h1
    have hu := opd_rel hf h1
    unfold convV at h
    split at h
    · rename_i i j hi hj
      split at h
      · rename_i k kk n hd
        cases h
        have e := hu.of_lit
        refine ⟨_, VR.lit _, Yl.of (m := Go.convert src dst (a.eval x)) (fun _ _ _ _ _ => rfl) fun W => ?_⟩
        rw [e]
        simp only [Go.convert, Sem.run_bind, run_und hT hi, run_und hT hj, hd, Result.andThen_ok]
        rfl
      · rename_i l hd
        cases h
        have e := hu.of_str
        refine ⟨_, VR.str _, Yl.of (m := Go.convert src dst (a.eval x)) (fun _ _ _ _ _ => rfl) fun W => ?_⟩
        rw [e]
        simp only [Go.convert, Sem.run_bind, run_und hT hi, run_und hT hj, hd, Result.andThen_ok]
        rfl
      · cases h
    · cases h
  · cases h
omit hT

theorem makeFunc_rel {f : Fn} {x y : Array Operand} {v : AV} (h : pureOp T s (.makeFunc f x y) = some v) : ∃ v', VR β v v' ∧ Yl P a (.makeFunc f x y) v' := by
  simp only [pureOp] at h
  split at h
  · rename_i u w h1 h2
    cases h
    refine ⟨_, VR.fn f _ _ _ _ (opds_rel hf h1) (opds_rel hf h2), fun _ _ _ _ _ W => ?_⟩
    simp only [execOp, Instr.makeFunc, Sem.run_bind, Sem.run_pure, Result.andThen_ok]
    congr 3 <;> (apply Array.ext'; simp)
  · cases h

theorem extract_rel {x : Operand} {i : Nat} {v : AV} (h : pureOp T s (.extract x i) = some v) : ∃ v', VR β v v' ∧ Yl P a (.extract x i) v' := by
  simp only [pureOp] at h
  split at h
  · rename_i vs h1
    obtain ⟨X, e, hX⟩ := (opd_rel hf h1).of_tup
    obtain ⟨v', hv, hr⟩ := hX.get i v h
    refine ⟨v', hr, Yl.of (m := Instr.extract (a.eval x) i) (fun _ _ _ _ _ => rfl) fun W => ?_⟩
    have hv' : X[i]? = some v' := by simpa using hv
    rw [e]; simp [Instr.extract, hv']
  · cases h

include hT
theorem field_rel {t : TypeId} {x : Operand} {i : Nat} {v : AV} (h : pureOp T s (.field t x i) = some v) : ∃ v', VR β v v' ∧ Yl P a (.field t x i) v' := by
  simp only [pureOp] at h
  split at h
  · rename_i cs ti h1 h2
    split at h
    · rename_i fs hd
      split at h
      · rename_i f hfi
        obtain ⟨X, e, hX⟩ := (opd_rel hf h1).of_agg
        obtain ⟨v', hr, hp⟩ := part_rel hT h hX
        refine ⟨v', hr, Yl.of (m := Instr.field t (a.eval x) i) (fun _ _ _ _ _ => rfl) fun W => ?_⟩
        rw [e]
        simp only [Instr.field, Sem.run_bind, run_und hT h2, hd, Result.andThen_ok, hfi, asAgg, Sem.run_pure]
        exact hp W
      · cases h
    · cases h
  · cases h

theorem fieldAddr_rel {t : TypeId} {x : Operand} {i : Nat} {v : AV} (h : pureOp T s (.fieldAddr t x i) = some v) : ∃ v', VR β v v' ∧ Yl P a (.fieldAddr t x i) v' := by
  simp only [pureOp] at h
  split at h
  · rename_i o off ti h1 h2
    split at h
    · rename_i fs hd
      split at h
      · rename_i f hfi
        split at h
        · rename_i fi hft
          rw [beq_if] at h
          split at h
          · cases h
          · rename_i hne
            cases h
            obtain ⟨k, hk, e⟩ := (opd_rel hf h1).of_ptr
            refine ⟨_, VR.ptr _ _ k hk, Yl.of (m := Instr.fieldAt t (a.eval x) i) (fun _ _ _ _ _ => rfl) fun W => ?_⟩
            rw [e]
            simp only [Instr.fieldAt, Sem.run_bind, run_und hT h2, hd, Result.andThen_ok, hfi, Instr.sureAddr, Sem.run_pure, fieldPlace, run_size hT hft, hne, if_false, add_addr, Nat.add_assoc]
        · cases h
      · cases h
    · cases h
  · rename_i cs ti h1 h2
    split at h
    · rename_i fs hd
      split at h
      · rename_i f hfi
        split at h
        · rename_i fi hft
          rw [beq_if] at h
          split at h
          · cases h
          · rename_i hne
            cases h
            obtain ⟨vs, b, o, e, hr, hz⟩ := (opd_rel hf h1).of_eptr
            refine ⟨_, VR.eptr _ _ b _ (hr.drop f.offset) (fz_drop hz f.offset), Yl.of (m := Instr.fieldAt t (a.eval x) i) (fun _ _ _ _ _ => rfl) fun W => ?_⟩
            rw [e]
            simp only [Instr.fieldAt, Sem.run_bind, run_und hT h2, hd, Result.andThen_ok, hfi, Instr.sureAddr, Sem.run_pure, fieldPlace, run_size hT hft, hne, if_false, add_addr, Nat.add_assoc]
        · cases h
      · cases h
    · cases h
  · cases h

theorem indexAddr_rel {t : TypeId} {x y : Operand} {v : AV} (h : pureOp T s (.indexAddr t x y) = some v) : ∃ v', VR β v v' ∧ Yl P a (.indexAddr t x y) v' := by
  simp only [pureOp] at h
  split at h
  · rename_i o off len cap k n ti h1 h2 h3
    split at h
    · rename_i e hd
      split at h
      · rename_i ei hei
        rw [Bool.cond_decide] at h
        split at h
        · rename_i hb
          cases h
          obtain ⟨kb, c, hk, ev, _⟩ := (opd_rel hf h1).of_slc
          have en := (opd_rel hf h2).of_lit
          refine ⟨_, VR.ptr _ _ kb hk, Yl.of (m := Instr.indexAt t (a.eval x) (a.eval y)) (fun _ _ _ _ _ => rfl) fun W => ?_⟩
          rw [ev, en]
          simp only [Instr.indexAt, asIntOf, Sem.run_bind, Sem.run_pure, Result.andThen_ok, run_und hT h3, hd, hb, and_self, if_true, run_size hT hei, add_addr, Nat.add_assoc]
        · cases h
      · cases h
    · cases h
  · rename_i o off k n ti h1 h2 h3
    split at h
    · rename_i len e hd
      split at h
      · rename_i ei hei
        rw [Bool.cond_decide] at h
        split at h
        · rename_i hb
          cases h
          obtain ⟨kb, hk, ev⟩ := (opd_rel hf h1).of_ptr
          have en := (opd_rel hf h2).of_lit
          refine ⟨_, VR.ptr _ _ kb hk, Yl.of (m := Instr.indexAt t (a.eval x) (a.eval y)) (fun _ _ _ _ _ => rfl) fun W => ?_⟩
          rw [ev, en]
          simp only [Instr.indexAt, asIntOf, Instr.sureAddr, Sem.run_bind, Sem.run_pure, Result.andThen_ok, run_und hT h3, hd, hb, and_self, if_true, run_size hT hei, add_addr, Nat.add_assoc]
        · cases h
      · cases h
    · cases h
  · rename_i tk es k n ti h1 h2 h3
    split at h
    · rename_i e hd
      split at h
      · rename_i ei hei
        rw [Bool.cond_decide] at h
        split at h
        · rename_i hb0
          split at h
          · rename_i x0 hx0
            cases hso : sizeOk ei.size x0 with
            | false => rw [hso] at h; cases h
            | true =>
              rw [hso, cond_true] at h
              cases h
              have hso := sizeOk_iff.1 hso
              have hlt := (List.getElem?_eq_some_iff.1 hx0).1
              have hb : 0 ≤ n ∧ n < (es.length : Int) := ⟨hb0, by omega⟩
              rcases (opd_rel hf h1).of_lst with ⟨rfl, _⟩ | ⟨rfl, _⟩ | ⟨sz, vs, b, o, c, ev, g1, g2, g3, g4, g5, g6⟩
              · simp at hx0
              · simp at hx0
              · have en := (opd_rel hf h2).of_lit
                have hsz : sz = ei.size := by rw [← hso]; exact (g2 x0 (List.mem_of_getElem? hx0)).symm
                have hc := flat_at g2 hx0
                have hr := (g1.drop (n.toNat * sz)).take sz
                rw [hc] at hr
                refine ⟨_, VR.eptr _ _ b _ hr (fz_sub g4 _ _), Yl.of (m := Instr.indexAt t (a.eval x) (a.eval y)) (fun _ _ _ _ _ => rfl) fun W => ?_⟩
                rw [ev, en]
                simp only [Instr.indexAt, asIntOf, Sem.run_bind, Sem.run_pure, Result.andThen_ok, run_und hT h3, hd, hb, and_self, if_true, run_size hT hei, add_addr, Nat.add_assoc, hsz]
          · cases h
        · cases h
      · cases h
    · cases h
  · rename_i cs k n ti h1 h2 h3
    split at h
    · rename_i len e hd
      split at h
      · rename_i ei hei
        rw [Bool.cond_decide] at h
        split at h
        · rename_i hb
          cases h
          obtain ⟨vs, b, o, ev, hr, hz⟩ := (opd_rel hf h1).of_eptr
          have en := (opd_rel hf h2).of_lit
          refine ⟨_, VR.eptr _ _ b _ (hr.drop _) (fz_drop hz _), Yl.of (m := Instr.indexAt t (a.eval x) (a.eval y)) (fun _ _ _ _ _ => rfl) fun W => ?_⟩
          rw [ev, en]
          simp only [Instr.indexAt, asIntOf, Instr.sureAddr, Sem.run_bind, Sem.run_pure, Result.andThen_ok, run_und hT h3, hd, hb, and_self, if_true, run_size hT hei, add_addr, Nat.add_assoc]
        · cases h
      · cases h
    · cases h
  · cases h

theorem index_rel {t : TypeId} {x y : Operand} {v : AV} (h : pureOp T s (.index t x y) = some v) : ∃ v', VR β v v' ∧ Yl P a (.index t x y) v' := by
  simp only [pureOp] at h
  split at h
  · rename_i l k n ti h1 h2 h3
    split at h
    · rename_i hd
      rw [Bool.cond_decide] at h
      split at h
      · rename_i hb
        split at h
        · rename_i b hb2
          cases h
          have ev := (opd_rel hf h1).of_str
          have en := (opd_rel hf h2).of_lit
          refine ⟨_, VR.lit _, Yl.of (m := Instr.index t (a.eval x) (a.eval y)) (fun _ _ _ _ _ => rfl) fun W => ?_⟩
          rw [ev, en]
          have hg : (⟨l.toArray⟩ : ByteArray)[n.toNat]? = some b := by
            have hlt : n.toNat < l.length := (List.getElem?_eq_some_iff.1 hb2).1
            have hl2 : n.toNat < (⟨l.toArray⟩ : ByteArray).size := by rw [str_size]; exact hlt
            rw [getElem?_pos (⟨l.toArray⟩ : ByteArray) n.toNat hl2]
            have : l[n.toNat] = b := by simpa [hlt] using hb2
            rw [← this]; rfl
          simp only [Instr.index, asIntOf, Sem.run_bind, Sem.run_pure, Result.andThen_ok, run_und hT h3, hd, hb, if_true, hg]
        · cases h
      · cases h
    · cases h
  · cases h

omit hT
theorem makeInterface_rel (hT : TOk P T) {t : TypeId} {x : Operand} {v : AV} (h : pureOp T s (.makeInterface t x) = some v) : ∃ v', VR β v v' ∧ Yl P a (.makeInterface t x) v' := by
  simp only [pureOp] at h
  split at h
  · rename_i u ti h1 h2
    have hr := opd_rel hf h1
    have key : ∀ d, ti.desc = d → (∀ ms, d ≠ .interface ms) → ∀ W, (Instr.makeInterface t (a.eval x)).run P W = .ok (.iface t (a.eval x)) W := by
      intro d hd hn W
      simp only [Instr.makeInterface, Sem.run_bind, run_und hT h2, hd, Result.andThen_ok]
      cases d <;> first | rfl | exact (hn _ rfl).elim
    split at h
    · cases h
    · rename_i hn
      cases h
      exact ⟨_, VR.ifc t _ _ hr, Yl.of (m := Instr.makeInterface t (a.eval x)) (fun _ _ _ _ _ => rfl) (key _ rfl (fun ms e => hn ms e))⟩
  · cases h

theorem len_rel (hT : TOk P T) {c : Call} {v : AV} (h : pureOp T s (.call c) = some v) : ∃ v', VR β v v' ∧ Yl P a (.call c) v' := by
  obtain ⟨callee, args, argTypes⟩ := c
  simp only [pureOp] at h
  split at h
  · rename_i x t ha ht
    have ea : args = #[x] := by apply Array.ext'; simpa using ha
    have et : argTypes = #[t] := by apply Array.ext'; simpa using ht
    subst ea; subst et
    have key : ∀ (u : Value) (n : Nat), a.eval x = u → (∀ ty W, (Builtin.len_ #[t] ty #[u]).run P W = .ok (goInt n) W) → Yl P a (.call ⟨.builtin .len, #[x], #[t]⟩) (goInt n) := by
      intro u n e hl dst ty pos after guard W
      simp only [execOp, resolve, invoke, builtin, Sem.run_bind, Sem.run_pure, Result.andThen_ok, pure_bind]
      have : (#[x].map a.eval : Array Value) = #[u] := by simp [e]
      simp only [this, hl, Result.andThen_ok]
    split at h
    · rename_i l ti h1 h2
      split at h
      · rename_i hd
        cases h
        have e := (opd_rel hf h1).of_str
        refine ⟨_, VR.lit _, key _ l.length e fun ty W => ?_⟩
        simp [Builtin.len_, run_und hT h2, hd, str_size]
      · cases h
    · rename_i o off len cap ti h1 h2
      split at h
      · rename_i e hd
        cases h
        obtain ⟨k, c, _, e, _⟩ := (opd_rel hf h1).of_slc
        refine ⟨_, VR.lit _, key _ len e fun ty W => ?_⟩
        simp [Builtin.len_, run_und hT h2, hd]
      · cases h
    · rename_i n c ti h1 h2
      split at h
      · rename_i e hd
        cases h
        have e := (opd_rel hf h1).of_lit
        refine ⟨_, VR.lit _, key _ n e fun ty W => ?_⟩
        simp [Builtin.len_, run_und hT h2, hd]
      · cases h
    · rename_i tk es ti h1 h2
      split at h
      · rename_i e hd
        cases h
        obtain ⟨ad, c, e, _⟩ := (opd_rel hf h1).len_lst
        refine ⟨_, VR.lit _, key _ es.length e fun ty W => ?_⟩
        simp [Builtin.len_, run_und hT h2, hd]
      · cases h
    · rename_i ti h1 h2
      split at h
      · rename_i e hd
        cases h
        have hr := opd_rel hf h1
        have e : ∃ p q, a.eval x = .slice (some p) 0 q := by
          generalize a.eval x = w at hr
          cases hr
          exact ⟨_, _, rfl⟩
        obtain ⟨p, q, e⟩ := e
        refine ⟨_, VR.lit _, key _ 0 e fun ty W => ?_⟩
        simp [Builtin.len_, run_und hT h2, hd]
      · cases h
    · cases h
  · rename_i x t ha ht
    have ea : args = #[x] := by apply Array.ext'; simpa using ha
    have et : argTypes = #[t] := by apply Array.ext'; simpa using ht
    subst ea; subst et
    have key : ∀ (u : Value) (n : Nat), a.eval x = u → (∀ ty W, (Builtin.cap_ #[t] ty #[u]).run P W = .ok (goInt n) W) → Yl P a (.call ⟨.builtin .cap, #[x], #[t]⟩) (goInt n) := by
      intro u n e hl dst ty pos after guard W
      simp only [execOp, resolve, invoke, builtin, Sem.run_bind, Sem.run_pure, Result.andThen_ok, pure_bind]
      have : (#[x].map a.eval : Array Value) = #[u] := by simp [e]
      simp only [this, hl, Result.andThen_ok]
    split at h
    · rename_i o off len c ti h1 h2
      split at h
      · rename_i e hd
        cases h
        obtain ⟨k, c', _, e, hc', _⟩ := (opd_rel hf h1).of_slc
        obtain rfl := hc' c rfl
        refine ⟨_, VR.lit _, key _ c' e fun ty W => ?_⟩
        simp [Builtin.cap_, run_und hT h2, hd]
      · cases h
    · rename_i n c ti h1 h2
      split at h
      · rename_i e hd
        cases h
        have e := (opd_rel hf h1).of_lit
        refine ⟨_, VR.lit _, key _ c e fun ty W => ?_⟩
        simp [Builtin.cap_, run_und hT h2, hd]
      · cases h
    · cases h
  · cases h

end
end Go.Proofs.Ytbcecenneganeaa.Ev
