import Derived.Test.YtcledcfeddlomaaGreatDoorEvQ3
set_option linter.all false
namespace Go.Proofs.YtcledcfeddlomaaGreatDoor.Ev
open Go.RowKit

/-! ### A slice of a slice -/
def sliceLO (s : AS) (size : Nat) (lo hi mx : Option Operand) : Option AV → Option AV
  | some (.lst _ es) => (match bnd s lo 0, bnd s hi es.length, mxb s hi mx with
    | some a, some b, some none => bif Nat.ble a b && Nat.ble b es.length && es.all (sizeOk size) then some (.lst .no ((es.take b).drop a)) else none
    | some a, some b, some (some m) => bif Nat.ble a b && Nat.ble b m && Nat.ble m es.length && es.all (sizeOk size) then some (.lst (bif Nat.beq b m then .full else .no) ((es.take b).drop a)) else none
    | _, _, _ => none)
  | some (.slc o off len cap) => (match bnd s lo 0, bnd s hi len, mxb s hi mx with
    | some a, some b, some m => slcV o off len cap size a b m
    | _, _, _ => none)
  | some (.lit (.slice none 0 0)) => (match mx, bnd s lo 0, bnd s hi 0 with
    | none, some 0, some 0 => some (.lit (.slice none 0 0))
    | _, _, _ => none)
  | some .emp => (match mx, bnd s lo 0, bnd s hi 0 with
    | none, some 0, some 0 => some .emp
    | _, _, _ => none)
  | _ => none
def sliceS (T : Tab) (s : AS) (t : TypeId) (x : Operand) (lo hi mx : Option Operand) : Option AV := pureOp T s (.slice t x lo hi mx)
def sliceW (T : Tab) (s : AS) (t : TypeId) (x : Operand) (lo hi mx : Option Operand) : Option (Nat × Nat × Bool × AV) → Option AV
  | some (size, _, _, _) => sliceLO s size lo hi mx (opd s x)
  | none => sliceS T s t x lo hi mx
theorem q_sliceL {T : Tab} {s : AS} {t : TypeId} {x : Operand} {lo hi mx : Option Operand} : pureOp T s (.slice t x lo hi mx) = sliceW T s t x lo hi mx (eInf T t) := by
  cases h : eInf T t with
  | none => rfl
  | some p =>
    obtain ⟨size, b, agg, z⟩ := p
    obtain ⟨ti, e, ei, h1, h2, h3, h4⟩ : ∃ ti e ei, T.t t = some ti ∧ ti.desc = .slice e ∧ T.t e = some ei ∧ ei.size = size := by
      unfold eInf at h
      split at h
      · rename_i ti h1
        split at h
        · rename_i e h2
          split at h
          · rename_i ei h3
            cases hb : (Nat.blt 0 ei.bytes && Nat.blt 0 ei.size && decide (ei.zero.cells.length = ei.size) && flatOk ei.zero) with
            | false => rw [hb] at h; cases h
            | true => rw [hb] at h; cases h; exact ⟨ti, e, ei, h1, h2, h3, rfl⟩
          · cases h
        · cases h
      · cases h
    show _ = sliceLO s size lo hi mx (opd s x)
    subst h4
    simp only [pureOp, h1]
    cases hx : opd s x with
    | none => rfl
    | some v =>
      cases v with
      | lst tk es =>
        simp only [h2, h3, sliceLO]
        rcases bnd s lo 0 with _ | a <;> rcases bnd s hi es.length with _ | c <;> rcases mxb s hi mx with _ | _ | m <;> rfl
      | slc o off len cap =>
        simp only [h2, h3, sliceLO]
        rcases bnd s lo 0 with _ | a <;> rcases bnd s hi len with _ | c <;> rcases mxb s hi mx with _ | _ | m <;> rfl
      | emp =>
        simp only [h2, h3, sliceLO]
        cases mx with
        | some m => rfl
        | none => rcases bnd s lo 0 with _ | _ | a <;> rcases bnd s hi 0 with _ | _ | b <;> first | rfl | simp only [h2, h3]
      | lit w =>
        cases w with
        | slice a n c =>
          cases a with
          | none =>
            cases n with
            | zero => cases c with
              | zero =>
                simp only [h2, h3, sliceLO]
                cases mx with
                | some m => rfl
                | none => rcases bnd s lo 0 with _ | _ | a <;> rcases bnd s hi 0 with _ | _ | b <;> first | rfl | simp only [h2, h3]
              | succ c => simp only [sliceLO]
            | succ n => simp only [sliceLO]
          | some a => simp only [sliceLO]
        | _ => simp only [sliceLO]
      | _ => first | (simp only [h2, sliceLO]; done) | (simp only [sliceLO]; done)
theorem sliceW_some {T : Tab} {s : AS} {t : TypeId} {x : Operand} {lo hi mx : Option Operand} {size b : Nat} {agg : Bool} {z : AV} : sliceW T s t x lo hi mx (some (size, b, agg, z)) = sliceLO s size lo hi mx (opd s x) := rfl
def dSL := And.intro @q_sliceL (And.intro @sliceW_some (And.intro @sliceLO.eq_1 (And.intro @sliceLO.eq_2 (And.intro @sliceLO.eq_3 @sliceLO.eq_4))))

/-! ### More operations -/
theorem b_xor {T : Tab} {t : Nat} {p q : Operand} {k : IntKind} {a b : Int} : binO T .xor t p q (some (.lit (.int k a))) (some (.lit (.int k b))) = some (.lit (.int k (k.wrap (BitVec.ofInt k.bits a ^^^ BitVec.ofInt k.bits b).toNat))) := by cases k <;> rfl
def mkSO (lm : Bool) (hs sz b : Nat) (z : AV) : Option AV → Option AV → Option (AO × AV)
  | some (.lit (.int .i64 n)), some (.lit (.int .i64 m)) => bif decide (0 ≤ n) && (decide (n ≤ m) && (decide (m * b ≤ 281474976710656) && decide (m ≤ 9223372036854775807))) then
      (bif lm && decide (n = 0) then some (.room sz, .lst (.room hs) []) else some (.cells (List.replicate m.toNat z.cells).flatten false, .slc hs 0 n.toNat (.ex m.toNat))) else none
  | _, _ => none
theorem q_makeSlice {T : Tab} {rec : Rec} {s : AS} {d : Option Tmp} {ty : TypeId} {pos : String} {after : Array Edge} {g : Option (Nat × Bool)} {t : TypeId} {x y : Operand} : evOp T rec ⟨d, .makeSlice t x y, ty, pos, after, g⟩ s = qI T rec ⟨d, .makeSlice t x y, ty, pos, after, g⟩ s (fun p => setN s d (mkSO s.md.lm s.hs p.1 p.2.1 p.2.2.2 (opd s x) (opd s y))) (eInf T t) := by
  cases h : eInf T t with
  | none => rfl
  | some p =>
    obtain ⟨sz, b, agg, z⟩ := p
    obtain ⟨ti, e, ei, h1, h2, h3, h4, h5, h6, h7, h8⟩ := eInf_some h
    rw [ev_makeSlice]
    show setN s d _ = setN s d _
    congr 1
    simp only [Bool.and_eq_true] at h8
    subst h4; subst h5; subst h7
    simp only [newOp]
    unfold mkSO
    have key : ∀ n m : Int, (decide (0 ≤ n ∧ n ≤ m ∧ m * ei.bytes ≤ 281474976710656 ∧ m ≤ 9223372036854775807)) = (decide (0 ≤ n) && (decide (n ≤ m) && (decide (m * ei.bytes ≤ 281474976710656) && decide (m ≤ 9223372036854775807)))) := fun n m => by
      rw [Bool.eq_iff_iff]; simp
    rcases opd s x with _ | u
    · rfl
    · cases u with
      | lit w =>
        cases w with
        | int k n =>
          cases k with
          | i64 =>
            rcases opd s y with _ | u2
            · rfl
            · cases u2 with
              | lit w2 =>
                cases w2 with
                | int k2 m =>
                  cases k2 with
                  | i64 => simp only [h1, h2, h3, h8.1.1.2, h8.1.2, h8.2, Bool.and_true, key]
                  | _ => rfl
                | _ => rfl
              | _ => rfl
          | _ => rfl
        | _ => rfl
      | _ => rfl
theorem mkSO_l {hs sz b : Nat} {z : AV} {m : Int} (h0 : decide ((0 : Int) ≤ m) = true) (h1 : decide (m * b ≤ 281474976710656) = true) (h2 : decide (m ≤ 9223372036854775807) = true) : mkSO true hs sz b z (some (.lit (.int .i64 0))) (some (.lit (.int .i64 m))) = some (.room sz, .lst (.room hs) []) := by
  simp only [mkSO, h0, h1, h2]; rfl
/-! bytes as a text -/
def convSO (H : Tr AO) : Option AV → Option AV
  | some (.str l) => some (.str l)
  | some (.lst _ es) => (match bytesOf es with | some r => some (.str r) | none => none)
  | some (.slc o off n _) => (match rd H o off n with | some l => (match bytesOf l with | some r => some (.str r) | none => none) | none => none)
  | some (.lit (.slice none 0 0)) => some (.str [])
  | some .emp => some (.str [])
  | _ => none
section
variable {T : Tab} {rec : Rec} {s : AS} {d : Option Tmp} {ty : TypeId} {pos : String} {after : Array Edge} {g : Option (Nat × Bool)} {b : Bool}
theorem conv_S {a c : TypeId} {x : Operand} (h : sInf T a c = true) : (match pureOp T s (.convert a c x) with | some v => some v | none => readOp T s s.heap (.convert a c x)) = convSO s.heap (opd s x) ∧ effOp T s (.convert a c x) = none ∧ nInf T a c = none := by
  unfold sInf at h
  split at h
  · rename_i i j h1 h2
    split at h
    · rename_i e h3 h4
      split at h
      · rename_i ei h5
        split at h
        · rename_i h6
          refine ⟨?_, ?_, ?_⟩
          · simp only [pureOp, readOp, convV, h1, h2]
            cases opd s x with
            | none => rfl
            | some v =>
              cases v with
              | lit w => cases w with
                | slice p n c => simp only [h3, h4, h5, h6]; cases p with
                  | none => cases n with
                    | zero => cases c <;> rfl
                    | succ n => rfl
                  | some p => rfl
                | _ => simp only [h3, h4, h5, h6, convSO]
              | _ => simp only [h3, h4, h5, h6, convSO] <;> rfl
          · simp only [effOp, h1, h2]
            cases opd s x with
            | none => rfl
            | some v => cases v <;> simp only [h4]
          · unfold nInf; simp only [h1, h2, h4]
        · cases h
      · cases h
    · cases h
  · cases h
def sK (T : Tab) (rec : Rec) (o : Oper) (s : AS) (k : Option AS) : Bool → Option AS
  | true => k
  | false => evOp T rec o s
theorem sK_true {o : Oper} {k : Option AS} : sK T rec o s k true = k := rfl
theorem q_convS {a c : TypeId} {x : Operand} : qI T rec ⟨d, .convert a c x, ty, pos, after, g⟩ s (fun k => setO s d (convIO k (opd s x))) (nInf T a c) = sK T rec ⟨d, .convert a c x, ty, pos, after, g⟩ s (setO s d (convSO s.heap (opd s x))) (sInf T a c) := by
  cases h : sInf T a c with
  | false => rw [← q_convI]; rfl
  | true =>
    obtain ⟨h1, h2, h3⟩ := conv_S (s := s) (x := x) h
    rw [h3]
    show evOp T rec ⟨d, .convert a c x, ty, pos, after, g⟩ s = setO s d (convSO s.heap (opd s x))
    rw [← h1]
    show (match (match pureOp T s (.convert a c x) with | some v => some v | none => readOp T s s.heap (.convert a c x)) with | some v => setT s d v | none => (match effOp T s (.convert a c x) with | some (v, H, hs) => setT { s with heap := H, hs := hs } d v | none => none)) = _
    rw [h2]
    cases (match pureOp T s (.convert a c x) with | some v => some v | none => readOp T s s.heap (.convert a c x)) <;> rfl
def sT (T : Tab) (rec : Rec) (b : Bool) (o : Oper) (s : AS) (k : Option AS) : Bool → Option AS
  | true => k
  | false => opT T rec b o s
theorem sT_true {o : Oper} {k : Option AS} : sT T rec b o s k true = k := rfl
theorem t_convS {a c : TypeId} {x : Operand} : qT T rec b ⟨d, .convert a c x, ty, pos, after, g⟩ s (fun k => setO s d (convIO k (opd s x))) (nInf T a c) = sT T rec b ⟨d, .convert a c x, ty, pos, after, g⟩ s (setO s d (convSO s.heap (opd s x))) (sInf T a c) := by
  have e : opT T rec b ⟨d, .convert a c x, ty, pos, after, g⟩ s = (match (match pureOp T s (.convert a c x) with | some v => some v | none => readOp T s s.heap (.convert a c x)) with | some v => setT s d v | none => none) := rfl
  cases h : sInf T a c with
  | false => rw [← t_convI]; rfl
  | true =>
    obtain ⟨h1, h2, h3⟩ := conv_S (s := s) (x := x) h
    rw [h3]
    show opT T rec b ⟨d, .convert a c x, ty, pos, after, g⟩ s = setO s d (convSO s.heap (opd s x))
    rw [e, h1]
    cases convSO s.heap (opd s x) <;> rfl
/-! delete -/
def delO (dk : TypeDesc) (H : Tr AO) (hs : Nat) : Option AV → Option AV → Option (AV × Tr AO × Nat)
  | some (.mp o), some kv => (match H.get .dead o with
    | .map es clock => (match findE dk kv es 0 with
      | some (some (i, _)) => some (udef, H.put .dead o (.map (es.eraseIdx i) clock), hs)
      | some none => some (udef, H, hs)
      | none => none)
    | _ => none)
  | _, _ => none
theorem q_delete {m k : Operand} {mt kt : TypeId} : evOp T rec ⟨d, .call ⟨.builtin .delete, #[m, k], #[mt, kt]⟩, ty, pos, after, g⟩ s = qI T rec ⟨d, .call ⟨.builtin .delete, #[m, k], #[mt, kt]⟩, ty, pos, after, g⟩ s (fun p => setE s d (delO p.1 s.heap s.hs (opd s m) (opd s k))) (mInf T mt) := by
  cases h : mInf T mt with
  | none => rfl
  | some p =>
    obtain ⟨dk, z⟩ := p
    obtain ⟨ti, kt', et, ki, ei, h1, h2, h3, h4, h5, h6, h7⟩ := mInf_some h
    show (match effOp T s (.call ⟨.builtin .delete, #[m, k], #[mt, kt]⟩) with | some (v, H, hs) => setT { s with heap := H, hs := hs } d v | none => none) = setE s d (delO dk s.heap s.hs (opd s m) (opd s k))
    have : effOp T s (.call ⟨.builtin .delete, #[m, k], #[mt, kt]⟩) = delO dk s.heap s.hs (opd s m) (opd s k) := by
      subst h5
      simp only [effOp, h1]
      rcases opd s m with _ | u
      · rfl
      · rcases opd s k with _ | v
        · cases u <;> rfl
        · cases u with
          | mp o =>
            simp only [h2, delO]
            cases s.heap.get .dead o with
            | map es clock => simp only [h3, h6, cond_true]; rcases findE ki.desc v es 0 with _ | _ | ⟨i, w⟩ <;> rfl
            | _ => rfl
          | _ => rfl
    rw [this]
    cases delO dk s.heap s.hs (opd s m) (opd s k) <;> rfl
end

theorem ho_convert {T : Tab} {rec : Rec} {l : List Oper} {s : AS} {dd : Option Tmp} {ty : TypeId} {pos : String} {after : Array Edge} {g : Option (Nat × Bool)} {a b x} : hoist T rec (⟨dd, .convert a b x, ty, pos, after, g⟩ :: l) s = hoist T rec l s := by rw [hoist_cons]; rfl
theorem q_cS {T : Tab} {rec : Rec} {s : AS} {d : Option Tmp} {ty : TypeId} {pos : String} {after : Array Edge} {g : Option (Nat × Bool)} {a c : TypeId} {x : Operand} {k : IntKind → Option AS} (h : sInf T a c = true) : qI T rec ⟨d, .convert a c x, ty, pos, after, g⟩ s k (nInf T a c) = setO s d (convSO s.heap (opd s x)) := by
  have h1 := @q_convS T rec s d ty pos after g a c x
  rw [(conv_S (s := s) (x := x) h).2.2] at h1 ⊢
  rw [h] at h1
  exact h1
theorem t_cS {T : Tab} {rec : Rec} {s : AS} {b : Bool} {d : Option Tmp} {ty : TypeId} {pos : String} {after : Array Edge} {g : Option (Nat × Bool)} {a c : TypeId} {x : Operand} {k : IntKind → Option AS} (h : sInf T a c = true) : qT T rec b ⟨d, .convert a c x, ty, pos, after, g⟩ s k (nInf T a c) = setO s d (convSO s.heap (opd s x)) := by
  have h1 := @t_convS T rec s d ty pos after g b a c x
  rw [(conv_S (s := s) (x := x) h).2.2] at h1 ⊢
  rw [h] at h1
  exact h1
theorem ho_makeSlice {T : Tab} {rec : Rec} {l : List Oper} {s : AS} {dd : Option Tmp} {ty : TypeId} {pos : String} {after : Array Edge} {g : Option (Nat × Bool)} {a b x} : hoist T rec (⟨dd, .makeSlice a b x, ty, pos, after, g⟩ :: l) s = hoist T rec l s := by rw [hoist_cons]; rfl
def dMO := And.intro @b_xor (And.intro @q_makeSlice (And.intro @q_cS (And.intro @t_cS (And.intro @ho_convert (And.intro @ho_makeSlice (And.intro @q_delete (And.intro @convSO.eq_1 (And.intro @convSO.eq_2 @delO.eq_1))))))))
/-! ### Regions of open order by the text's order, what was read read again -/
section
variable {T : Tab} {rec : Rec} {α : Type} {ro : Option Nat} {F : AX → AS → Option α} {K : List Fr} {s : AS} {ops : Array Oper} {l : List Oper} {d : Option Tmp} {op : Op} {ty : TypeId} {pos : String} {after : Array Edge} {g : Option (Nat × Bool)} {cs : List (Nat × Nat × Nat)} {acc : List (Tr AO × Nat)}
noncomputable def YC (T : Tab) (ro : Option Nat) (F : AX → AS → Option α) (K : List Fr) (s : AS) : Bool → Option α
  | true => kont T ro F K .normal s
  | false => none
theorem YC_true : YC T ro F K s true = kont T ro F K .normal s := rfl
noncomputable def Y (T : Tab) (ro : Option Nat) (F : AX → AS → Option α) (ops : Array Oper) (cs : List (Nat × Nat × Nat)) (l : List Oper) (acc : List (Tr AO × Nat)) (K : List Fr) (s : AS) : Option α :=
  match evX T (evw T) l s with
  | some (hl, sN) => YC T ro F K sN (xChk T ops sN (acc ++ hl) cs)
  | none => none
/-- behind an operation that writes nothing; behind one that may -/
noncomputable def Y1 (T : Tab) (ro : Option Nat) (F : AX → AS → Option α) (ops : Array Oper) (cs : List (Nat × Nat × Nat)) (l : List Oper) (acc : List (Tr AO × Nat)) (K : List Fr) : Option AS → Option α
  | some s => Y T ro F ops cs l acc K s
  | none => none
noncomputable def Y4 (T : Tab) (ro : Option Nat) (F : AX → AS → Option α) (ops : Array Oper) (cs : List (Nat × Nat × Nat)) (l : List Oper) (acc : List (Tr AO × Nat)) (K : List Fr) (s : AS) : Bool → Option α
  | true => Y T ro F ops cs l acc K s
  | false => none
noncomputable def Y3 (T : Tab) (ro : Option Nat) (F : AX → AS → Option α) (ops : Array Oper) (cs : List (Nat × Nat × Nat)) (l : List Oper) (acc : List (Tr AO × Nat)) (K : List Fr) (H : Tr AO) (hs : Nat) : Option AS → Option α
  | some s => Y4 T ro F ops cs l (acc ++ [(H, hs)]) K s (Nat.ble hs s.hs)
  | none => none
theorem Y1_some : Y1 T ro F ops cs l acc K (some s) = Y T ro F ops cs l acc K s := rfl
theorem Y3_some {H : Tr AO} {hs : Nat} : Y3 T ro F ops cs l acc K H hs (some s) = Y4 T ro F ops cs l (acc ++ [(H, hs)]) K s (Nat.ble hs s.hs) := rfl
theorem Y4_true : Y4 T ro F ops cs l acc K s true = Y T ro F ops cs l acc K s := rfl
theorem Y_nil : Y T ro F ops cs [] acc K s = YC T ro F K s (xChk T ops s (acc ++ [(s.heap, s.hs)]) cs) := rfl
theorem Y_non {o : Oper} (h : Nat.beq (cls o.op) 3 = false) : Y T ro F ops cs (o :: l) acc K s = Y1 T ro F ops cs l acc K (opX T (evw T) o s) := by
  unfold Y
  simp only [evX, h, Bool.not_false, Bool.true_or, cond_true, cond_false]
  cases opX T (evw T) o s with
  | none => rfl
  | some s' =>
    simp only [Y1, Y]
    cases evX T (evw T) l s' <;> rfl
theorem Y_eff {o : Oper} (h : Nat.beq (cls o.op) 3 = true) : Y T ro F ops cs (o :: l) acc K s = Y3 T ro F ops cs l acc K s.heap s.hs (opX T (evw T) o s) := by
  unfold Y
  simp only [evX, h, Bool.not_true, Bool.false_or, cond_true]
  cases opX T (evw T) o s with
  | none => rfl
  | some s' =>
    simp only [Y3]
    cases Nat.ble s.hs s'.hs with
    | false => rfl
    | true =>
      simp only [Y4, Y, cond_true, List.append_assoc, List.cons_append, List.nil_append]
      cases evX T (evw T) l s' <;> rfl
theorem y_move {x : Operand} : Y T ro F ops cs (⟨d, .move x, ty, pos, after, g⟩ :: l) acc K s = Y1 T ro F ops cs l acc K (opT T (evw T) false ⟨d, .move x, ty, pos, after, g⟩ s) := Y_non rfl
theorem y_assign {x : Operand} : Y T ro F ops cs (⟨d, .assign x, ty, pos, after, g⟩ :: l) acc K s = Y1 T ro F ops cs l acc K (opT T (evw T) false ⟨d, .assign x, ty, pos, after, g⟩ s) := Y_non rfl
theorem y_pick {x y z : Operand} : Y T ro F ops cs (⟨d, .pick x y z, ty, pos, after, g⟩ :: l) acc K s = Y1 T ro F ops cs l acc K (opT T (evw T) false ⟨d, .pick x y z, ty, pos, after, g⟩ s) := Y_non rfl
theorem y_nilCheck {x : Operand} : Y T ro F ops cs (⟨d, .nilCheck x, ty, pos, after, g⟩ :: l) acc K s = Y1 T ro F ops cs l acc K (opT T (evw T) false ⟨d, .nilCheck x, ty, pos, after, g⟩ s) := Y_non rfl
theorem y_binOp {o : BinOp} {t : TypeId} {x y : Operand} {t2 : TypeId} : Y T ro F ops cs (⟨d, .binOp o t x y t2, ty, pos, after, g⟩ :: l) acc K s = Y1 T ro F ops cs l acc K (opT T (evw T) false ⟨d, .binOp o t x y t2, ty, pos, after, g⟩ s) := Y_non rfl
theorem y_unOp {o : UnOp} {t : TypeId} {x : Operand} : Y T ro F ops cs (⟨d, .unOp o t x, ty, pos, after, g⟩ :: l) acc K s = Y1 T ro F ops cs l acc K (opT T (evw T) false ⟨d, .unOp o t x, ty, pos, after, g⟩ s) := Y_non rfl
theorem y_extract {x : Operand} {i : Nat} : Y T ro F ops cs (⟨d, .extract x i, ty, pos, after, g⟩ :: l) acc K s = Y1 T ro F ops cs l acc K (opT T (evw T) false ⟨d, .extract x i, ty, pos, after, g⟩ s) := Y_non rfl
theorem y_makeFunc {f : Fn} {x y : Array Operand} : Y T ro F ops cs (⟨d, .makeFunc f x y, ty, pos, after, g⟩ :: l) acc K s = Y1 T ro F ops cs l acc K (opT T (evw T) false ⟨d, .makeFunc f x y, ty, pos, after, g⟩ s) := Y_non rfl
theorem y_field {t : TypeId} {x : Operand} {i : Nat} : Y T ro F ops cs (⟨d, .field t x i, ty, pos, after, g⟩ :: l) acc K s = Y1 T ro F ops cs l acc K (opT T (evw T) false ⟨d, .field t x i, ty, pos, after, g⟩ s) := Y_non rfl
theorem y_fieldAddr {t : TypeId} {x : Operand} {i : Nat} : Y T ro F ops cs (⟨d, .fieldAddr t x i, ty, pos, after, g⟩ :: l) acc K s = Y1 T ro F ops cs l acc K (opT T (evw T) false ⟨d, .fieldAddr t x i, ty, pos, after, g⟩ s) := Y_non rfl
theorem y_indexAddr {t : TypeId} {x y : Operand} : Y T ro F ops cs (⟨d, .indexAddr t x y, ty, pos, after, g⟩ :: l) acc K s = Y1 T ro F ops cs l acc K (opT T (evw T) false ⟨d, .indexAddr t x y, ty, pos, after, g⟩ s) := Y_non rfl
theorem y_index {t : TypeId} {x y : Operand} : Y T ro F ops cs (⟨d, .index t x y, ty, pos, after, g⟩ :: l) acc K s = Y1 T ro F ops cs l acc K (opT T (evw T) false ⟨d, .index t x y, ty, pos, after, g⟩ s) := Y_non rfl
theorem y_load {t : TypeId} {x : Operand} : Y T ro F ops cs (⟨d, .load t x, ty, pos, after, g⟩ :: l) acc K s = Y1 T ro F ops cs l acc K (opT T (evw T) false ⟨d, .load t x, ty, pos, after, g⟩ s) := Y_non rfl
theorem y_lookup {t : TypeId} {x y : Operand} {ok : Bool} : Y T ro F ops cs (⟨d, .lookup t x y ok, ty, pos, after, g⟩ :: l) acc K s = Y1 T ro F ops cs l acc K (opT T (evw T) false ⟨d, .lookup t x y ok, ty, pos, after, g⟩ s) := Y_non rfl
theorem y_build {t : TypeId} {ps : Array (Nat × Operand)} : Y T ro F ops cs (⟨d, .build t ps, ty, pos, after, g⟩ :: l) acc K s = Y1 T ro F ops cs l acc K (opT T (evw T) false ⟨d, .build t ps, ty, pos, after, g⟩ s) := Y_non rfl
theorem y_buildSlice {t : TypeId} {n : Nat} {ps : Array (Nat × Operand)} : Y T ro F ops cs (⟨d, .buildSlice t n ps, ty, pos, after, g⟩ :: l) acc K s = Y1 T ro F ops cs l acc K (opT T (evw T) false ⟨d, .buildSlice t n ps, ty, pos, after, g⟩ s) := Y_non rfl
theorem y_slice {t : TypeId} {x : Operand} {lo hi mx : Option Operand} : Y T ro F ops cs (⟨d, .slice t x lo hi mx, ty, pos, after, g⟩ :: l) acc K s = Y1 T ro F ops cs l acc K (opT T (evw T) false ⟨d, .slice t x lo hi mx, ty, pos, after, g⟩ s) := Y_non rfl
theorem y_convert {t u : TypeId} {x : Operand} : Y T ro F ops cs (⟨d, .convert t u x, ty, pos, after, g⟩ :: l) acc K s = Y1 T ro F ops cs l acc K (opT T (evw T) false ⟨d, .convert t u x, ty, pos, after, g⟩ s) := Y_non rfl
theorem y_len {x t} : Y T ro F ops cs (⟨d, .call ⟨.builtin .len, x, t⟩, ty, pos, after, g⟩ :: l) acc K s = Y1 T ro F ops cs l acc K (opT T (evw T) false ⟨d, .call ⟨.builtin .len, x, t⟩, ty, pos, after, g⟩ s) := Y_non rfl
theorem newT_box {t : TypeId} {x : Operand} : newT T ⟨d, .box t x, ty, pos, after, g⟩ s = evOp T rec ⟨d, .box t x, ty, pos, after, g⟩ s := by
  rw [q_box]
  unfold newT
  simp only [u_box]
  cases opd s x with
  | none => rfl
  | some a =>
    simp only [boxO]
    cases flatOk a <;> rfl
theorem y_box {t : TypeId} {x : Operand} : Y T ro F ops cs (⟨d, .box t x, ty, pos, after, g⟩ :: l) acc K s = Y1 T ro F ops cs l acc K (evOp T (evw T) ⟨d, .box t x, ty, pos, after, g⟩ s) := by
  rw [Y_non rfl, ← newT_box]; rfl
theorem y_call {f : Operand} {as : Array Operand} {ts : Array TypeId} : Y T ro F ops cs (⟨d, .call ⟨.value f, as, ts⟩, ty, pos, after, g⟩ :: l) acc K s = Y3 T ro F ops cs l acc K s.heap s.hs (opT T (evw T) false ⟨d, .call ⟨.value f, as, ts⟩, ty, pos, after, g⟩ s) := Y_eff rfl
theorem y_append {as : Array Operand} {ts : Array TypeId} : Y T ro F ops cs (⟨d, .call ⟨.builtin .append, as, ts⟩, ty, pos, after, g⟩ :: l) acc K s = Y3 T ro F ops cs l acc K s.heap s.hs (opT T (evw T) false ⟨d, .call ⟨.builtin .append, as, ts⟩, ty, pos, after, g⟩ s) := Y_eff rfl
theorem y_store {t : TypeId} {x y : Operand} : Y T ro F ops cs (⟨d, .store t x y, ty, pos, after, g⟩ :: l) acc K s = Y3 T ro F ops cs l acc K s.heap s.hs (opT T (evw T) false ⟨d, .store t x y, ty, pos, after, g⟩ s) := Y_eff rfl
theorem y_mapUpdate {t : TypeId} {x y z : Operand} : Y T ro F ops cs (⟨d, .mapUpdate t x y z, ty, pos, after, g⟩ :: l) acc K s = Y3 T ro F ops cs l acc K s.heap s.hs (opT T (evw T) false ⟨d, .mapUpdate t x y z, ty, pos, after, g⟩ s) := Y_eff rfl
noncomputable def XO (T : Tab) (ro : Option Nat) (F : AX → AS → Option α) (ops : Array Oper) (K : List Fr) (s : AS) : Option (List (Nat × Nat × Nat)) → Option α
  | some cs => Y T ro F ops cs ops.toList [] K s
  | none => D1 T ro F K (bif useJ s.md.lm ops.toList then evDrawJ T (evw T) ops s else evDraw T (evw T) ops s)
theorem XO_some : XO T ro F ops K s (some cs) = Y T ro F ops cs ops.toList [] K s := rfl
theorem drO_XO : D1 T ro F K (evDrO T (evw T) ops s) = XO T ro F ops K s (drawX s.nt ops) := by
  unfold evDrO
  cases drawX s.nt ops with
  | none => rfl
  | some cs =>
    simp only [XO, Y, evDrawX, List.nil_append]
    cases evX T (evw T) ops.toList s with
    | none => rfl
    | some p =>
      obtain ⟨hl, sN⟩ := p
      simp only
      cases xChk T ops sN hl cs <;> rfl
theorem XD_none : XD T ro F ops K s none = XO T ro F ops K s (drawX s.nt ops) := drO_XO
theorem W_drawO {i nt hs : Nat} {t : Tr AV} {H : Tr AO} {ds : List Nat} {lm : Bool} {gl : Tr (Option AV)} : W T ro F (.region i ops true) K ⟨t, nt, H, hs, ds, ⟨lm, false, gl⟩⟩ = XO T ro F ops K ⟨t, nt, H, hs, ds, ⟨lm, false, gl⟩⟩ (drawX nt ops) := by
  rw [W_draw]
  exact drO_XO
/-! What is read again -/
def prW {β : Type} (T : Tab) (s : AS) (H : Tr AO) (op : Op) (k : β → Option AV) : Option β → Option AV
  | some p => k p
  | none => prOp T s H op
theorem prW_some {β : Type} {H : Tr AO} {k : β → Option AV} {p : β} : prW T s H op k (some p) = k p := rfl
theorem pr_load {t : TypeId} {x : Operand} {H : Tr AO} : prOp T s H (.load t x) = prW T s H (.load t x) (fun p => loadO H p.2 p.1 (opd s x)) (tInf T t) := by
  cases h : tInf T t with
  | none => rfl
  | some p =>
    obtain ⟨n, agg⟩ := p
    obtain ⟨ti, h1, h2, h3⟩ := tInf_some h
    exact u_load h1 h2 h3
theorem x_nil {hl : List (Tr AO × Nat)} : xChk T ops s hl [] = true := rfl
theorem x_cons {hl : List (Tr AO × Nat)} {i lo hi : Nat} : xChk T ops s hl ((i, lo, hi) :: cs) = ((match ops[i]? with
    | some o => (match o.dst with
      | some d => hChk lo hi (fun H => prOp T s H o.op) (s.tmps.get .any d) hl 0
      | none => false)
    | none => false) && xChk T ops s hl cs) := rfl
def h1K (w : AV) : Option AV → Bool
  | some v => sameV v w
  | none => false
theorem h1K_some {v w : AV} : h1K w (some v) = sameV v w := rfl
theorem h_nil {lo hi k : Nat} {f : Tr AO → Option AV} {w : AV} : hChk lo hi f w [] k = true := rfl
theorem h_cons {lo hi k : Nat} {f : Tr AO → Option AV} {w : AV} {h : Tr AO × Nat} {hl : List (Tr AO × Nat)} : hChk lo hi f w (h :: hl) k = ((bif Nat.ble lo k && Nat.ble k hi then h1K w (f h.1) else true) && hChk lo hi f w hl (k + 1)) := by
  show ((bif Nat.ble lo k && Nat.ble k hi then (match f h.1 with | some v => sameV v w | none => false) else true) && _) = _
  unfold h1K; rfl
theorem sv_int {k : IntKind} {a : Int} : sameV (.lit (.int k a)) (.lit (.int k a)) = true := by simp [sameV, valSame]
theorem sv_bool {a : Bool} : sameV (.lit (.bool a)) (.lit (.bool a)) = true := by simp [sameV, valSame]
theorem sv_str {l : List UInt8} : sameV (.str l) (.str l) = true := by simp [sameV]
theorem sv_ptr {o k : Nat} : sameV (.ptr o k) (.ptr o k) = true := by simp [sameV, Nat.beq_refl]
theorem sv_pn : sameV (.lit (.pointer none)) (.lit (.pointer none)) = true := rfl
theorem sv_mn : sameV (.lit (.map none)) (.lit (.map none)) = true := rfl
theorem sv_sn : sameV (.lit (.slice none 0 0)) (.lit (.slice none 0 0)) = true := rfl
theorem sv_mp {o : Nat} : sameV (.mp o) (.mp o) = true := by simp [sameV, Nat.beq_refl]
theorem sv_agg {l m : List AV} : sameV (.agg l) (.agg m) = sameVs l m := by simp only [sameV]
theorem tkSame_rf (t : ATk) : tkSame t t = true := by cases t <;> simp [tkSame, Nat.beq_refl]
theorem sv_lst {t : ATk} {l m : List AV} : sameV (.lst t l) (.lst t m) = sameVs l m := by simp only [sameV, tkSame_rf, Bool.true_and]
theorem sv_nil : sameVs [] [] = true := rfl
theorem sv_cons {a b : AV} {l m : List AV} : sameVs (a :: l) (b :: m) = (sameV a b && sameVs l m) := by simp only [sameVs]
theorem sv_map {β : Type} {f : β → AV} (h : ∀ x, sameV (f x) (f x) = true) : ∀ l : List β, sameVs (l.map f) (l.map f) = true
  | [] => rfl
  | x :: l => by rw [List.map_cons, sv_cons, h x, sv_map h l]; rfl
end
def dY := And.intro @XD_none (And.intro @W_drawO (And.intro @XO_some (And.intro @Y1_some (And.intro @Y3_some (And.intro @Y4_true (And.intro @Y_nil (And.intro @YC_true (And.intro @y_move (And.intro @y_assign (And.intro @y_pick (And.intro @y_nilCheck (And.intro @y_binOp (And.intro @y_unOp (And.intro @y_extract (And.intro @y_makeFunc (And.intro @y_field (And.intro @y_fieldAddr (And.intro @y_indexAddr (And.intro @y_index (And.intro @y_load (And.intro @y_lookup (And.intro @y_build (And.intro @y_buildSlice (And.intro @y_slice (And.intro @y_convert (And.intro @y_len (And.intro @y_box (And.intro @y_call (And.intro @y_append (And.intro @y_store (And.intro @y_mapUpdate (And.intro @pr_load (And.intro @prW_some (And.intro @x_nil (And.intro @x_cons (And.intro @h1K_some (And.intro @h_nil (And.intro @h_cons (And.intro @sv_int (And.intro @sv_bool (And.intro @sv_str (And.intro @sv_ptr (And.intro sv_pn (And.intro sv_mn (And.intro sv_sn (And.intro @sv_mp (And.intro @sv_agg (And.intro @sv_lst (And.intro sv_nil @sv_cons)))))))))))))))))))))))))))))))))))))))))))))))))
/-- The static looks of a function's regions of this kind. -/
def drawsX (nt : Nat) : Code → List (Option (List (Nat × Nat × Nat)))
  | .seq a b => drawsX nt a ++ drawsX nt b
  | .cond _ a b => drawsX nt a ++ drawsX nt b
  | .block _ a => drawsX nt a
  | .loop a => drawsX nt a
  | .scope a => drawsX nt a
  | .rangeFunc _ _ a b => drawsX nt a ++ drawsX nt b
  | .region _ ops true => [drawX nt ops]
  | _ => []
def stX := And.intro @drawsX.eq_1 (And.intro @drawsX.eq_2 (And.intro @drawsX.eq_3 (And.intro @drawsX.eq_4 (And.intro @drawsX.eq_5 (And.intro @drawsX.eq_6 (And.intro @drawsX.eq_7 (And.intro @drawsX.eq_8 (And.intro @bodyOf.eq_1 @Option.getD_some.{0}))))))))
end Go.Proofs.YtcledcfeddlomaaGreatDoor.Ev
