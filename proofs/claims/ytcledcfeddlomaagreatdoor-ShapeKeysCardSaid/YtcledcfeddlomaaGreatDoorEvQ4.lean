import Derived.Test.YtcledcfeddlomaaGreatDoorEvQ3
set_option linter.all false
namespace Go.Proofs.YtcledcfeddlomaaGreatDoor.Ev
open Go.RowKit
def sliceLO (s : AS) (size : Nat) (lo hi mx : Option Operand) : Option AV -> Option AV
 | some (.lst _ es) => (match bnd s lo 0, bnd s hi es.length, mxb s hi mx with
  | some a, some b, some none => bif Nat.ble a b && Nat.ble b es.length && es.all (sizeOk size) then some (.lst .no ((es.take b).drop a)) else none
  | some a, some b, some (some m) => bif Nat.ble a b && Nat.ble b m && Nat.ble m es.length && es.all (sizeOk size) then some (.lst (bif Nat.beq b m then .full else .no) ((es.take b).drop a)) else none
  | _, _, _ => none)
 | some (.slc o off len cap) => (match bnd s lo 0, bnd s hi len, mxb s hi mx with
  | some a, some b, some m => slcV o off len cap size a b m
  | _, _, _ => none)
 | some (.lit (.slice none 0 0)) => (match mx, bnd s lo 0, bnd s hi 0 with
  | none, some 0, some 0 => some (.lit (.slice none 0 0))
  | _, _, _ => none)
 | some .emp => (match mx, bnd s lo 0, bnd s hi 0 with
  | none, some 0, some 0 => some .emp
  | _, _, _ => none)
 | _ => none
def sliceS (T : Tab) (s : AS) (t : TypeId) (x : Operand) (lo hi mx : Option Operand) : Option AV := pureOp T s (.slice t x lo hi mx)
def sliceW (T : Tab) (s : AS) (t : TypeId) (x : Operand) (lo hi mx : Option Operand) : Option (Nat × Nat × Bool × AV) -> Option AV
 | some (size, _, _, _) => sliceLO s size lo hi mx (opd s x)
 | none => sliceS T s t x lo hi mx
theorem q_sliceL {T : Tab} {s : AS} {t : TypeId} {x : Operand} {lo hi mx : Option Operand} : pureOp T s (.slice t x lo hi mx) = sliceW T s t x lo hi mx (eInf T t) := by
 cases h : eInf T t with
 | none => rfl
 | some p =>
  obtain ⟨size, b, agg, z⟩ := p
  obtain ⟨ti, e, ei, h1, h2, h3, h4⟩ : ∃ ti e ei, T.t t = some ti /\ ti.desc = .slice e /\ T.t e = some ei /\ ei.size = size := by
   unfold eInf at h
   split at h
   ·rename_i ti h1
    split at h
    ·rename_i e h2
     split at h
     ·rename_i ei h3
      cases hb : (Nat.blt 0 ei.bytes && Nat.blt 0 ei.size && decide (ei.zero.cells.length = ei.size) && flatOk ei.zero) with
      | false => rw [hb] at h; cases h
      | true => rw [hb] at h; cases h; exact ⟨ti, e, ei, h1, h2, h3, rfl⟩
     ·cases h
    ·cases h
   ·cases h
  show _ = sliceLO s size lo hi mx (opd s x)
  subst h4
  simp only [pureOp, h1]
  cases hx : opd s x with
  | none => rfl
  | some v =>
   cases v with
   | lst tk es =>
    simp only [h2, h3, sliceLO]
    rcases bnd s lo 0 with _ | a <;> rcases bnd s hi es.length with _ | c <;> rcases mxb s hi mx with _ | _ | m <;> rfl
   | slc o off len cap =>
    simp only [h2, h3, sliceLO]
    rcases bnd s lo 0 with _ | a <;> rcases bnd s hi len with _ | c <;> rcases mxb s hi mx with _ | _ | m <;> rfl
   | emp =>
    simp only [h2, h3, sliceLO]
    cases mx with
    | some m => rfl
    | none => rcases bnd s lo 0 with _ | _ | a <;> rcases bnd s hi 0 with _ | _ | b <;> first | rfl | simp only [h2, h3]
   | lit w =>
    cases w with
    | slice a n c =>
     cases a with
     | none =>
      cases n with
      | zero => cases c with
       | zero =>
        simp only [h2, h3, sliceLO]
        cases mx with
        | some m => rfl
        | none => rcases bnd s lo 0 with _ | _ | a <;> rcases bnd s hi 0 with _ | _ | b <;> first | rfl | simp only [h2, h3]
       | succ c => simp only [sliceLO]
      | succ n => simp only [sliceLO]
     | some a => simp only [sliceLO]
    | _ => simp only [sliceLO]
   | _ => first | (simp only [h2, sliceLO]; done) | (simp only [sliceLO]; done)
theorem sliceW_some {T : Tab} {s : AS} {t : TypeId} {x : Operand} {lo hi mx : Option Operand} {size b : Nat} {agg : Bool} {z : AV} : sliceW T s t x lo hi mx (some (size, b, agg, z)) = sliceLO s size lo hi mx (opd s x) := rfl
def dSL := an @q_sliceL (an @sliceW_some (an @sliceLO.eq_1 (an @sliceLO.eq_2 (an @sliceLO.eq_3 @sliceLO.eq_4))))
theorem b_xor {T : Tab} {t : Nat} {p q : Operand} {k : IntKind} {a b : Int} : binO T .xor t p q (some (.lit (.int k a))) (some (.lit (.int k b))) = some (.lit (.int k (k.wrap (BitVec.ofInt k.bits a ^^^ BitVec.ofInt k.bits b).toNat))) := by cases k <;> rfl
def mkSO (lm : Bool) (hs sz b : Nat) (z : AV) : Option AV -> Option AV -> Option (AO × AV)
 | some (.lit (.int .i64 n)), some (.lit (.int .i64 m)) => bif decide (0 <= n) && (decide (n <= m) && (decide (m * b <= 281474976710656) && decide (m <= 9223372036854775807))) then
   (bif lm && decide (n = 0) then some (.room sz, .lst (.room hs) []) else some (.cells (List.replicate m.toNat z.cells).flatten false, .slc hs 0 n.toNat (.ex m.toNat))) else none
 | _, _ => none
theorem q_makeSlice {T : Tab} {rec : Rec} {s : AS} {d : Option Tmp} {ty : TypeId} {pos : String} {after : Array Edge} {g : Option (Nat × Bool)} {t : TypeId} {x y : Operand} : evOp T rec ⟨d, .makeSlice t x y, ty, pos, after, g⟩ s = qI T rec ⟨d, .makeSlice t x y, ty, pos, after, g⟩ s (fun p => setN s d (mkSO s.md.lm s.hs p.1 p.2.1 p.2.2.2 (opd s x) (opd s y))) (eInf T t) := by
 cases h : eInf T t with
 | none => rfl
 | some p =>
  obtain ⟨sz, b, agg, z⟩ := p
  obtain ⟨ti, e, ei, h1, h2, h3, h4, h5, h6, h7, h8⟩ := eInf_some h
  rw [ev_makeSlice]
  show setN s d _ = setN s d _
  congr 1
  simp only [Bool.and_eq_true] at h8
  subst h4; subst h5; subst h7
  simp only [newOp]
  unfold mkSO
  have key : ∀ n m : Int, (decide (0 <= n /\ n <= m /\ m * ei.bytes <= 281474976710656 /\ m <= 9223372036854775807)) = (decide (0 <= n) && (decide (n <= m) && (decide (m * ei.bytes <= 281474976710656) && decide (m <= 9223372036854775807)))) := fun n m => by
   rw [Bool.eq_iff_iff]; simp
  rcases opd s x with _ | u
  ·rfl
  ·cases u with
   | lit w =>
    cases w with
    | int k n =>
     cases k with
     | i64 =>
      rcases opd s y with _ | u2
      ·rfl
      ·cases u2 with
       | lit w2 =>
        cases w2 with
        | int k2 m =>
         cases k2 with
         | i64 => simp only [h1, h2, h3, h8.1.1.2, h8.1.2, h8.2, Bool.and_true, key]
         | _ => rfl
        | _ => rfl
       | _ => rfl
     | _ => rfl
    | _ => rfl
   | _ => rfl
def convSO (H : Tr AO) : Option AV -> Option AV
 | some (.str l) => some (.str l)
 | some (.lst _ es) => (match bytesOf es with | some r => some (.str r) | none => none)
 | some (.slc o off n _) => (match rd H o off n with | some l => (match bytesOf l with | some r => some (.str r) | none => none) | none => none)
 | some (.lit (.slice none 0 0)) => some (.str [])
 | some .emp => some (.str [])
 | _ => none
section
variable {T : Tab} {rec : Rec} {s : AS} {d : Option Tmp} {ty : TypeId} {pos : String} {after : Array Edge} {g : Option (Nat × Bool)} {b : Bool}
theorem conv_S {a c : TypeId} {x : Operand} (h : sInf T a c = true) : (match pureOp T s (.convert a c x) with | some v => some v | none => readOp T s s.heap (.convert a c x)) = convSO s.heap (opd s x) /\ effOp T s (.convert a c x) = none /\ nInf T a c = none := by
 unfold sInf at h
 split at h
 ·rename_i i j h1 h2
  split at h
  ·rename_i e h3 h4
   split at h
   ·rename_i ei h5
    split at h
    ·rename_i h6
     refine ⟨?_, ?_, ?_⟩
     ·simp only [pureOp, readOp, convV, h1, h2]
      cases opd s x with
      | none => rfl
      | some v =>
       cases v with
       | lit w => cases w with
        | slice p n c => simp only [h3, h4, h5, h6]; cases p with
         | none => cases n with
          | zero => cases c <;> rfl
          | succ n => rfl
         | some p => rfl
        | _ => simp only [h3, h4, h5, h6, convSO]
       | _ => simp only [h3, h4, h5, h6, convSO] <;> rfl
     ·simp only [effOp, h1, h2]
      cases opd s x with
      | none => rfl
      | some v => cases v <;> simp only [h4]
     ·unfold nInf; simp only [h1, h2, h4]
    ·cases h
   ·cases h
  ·cases h
 ·cases h
def sK (T : Tab) (rec : Rec) (o : Oper) (s : AS) (k : Option AS) : Bool -> Option AS
 | true => k
 | false => evOp T rec o s
theorem q_convS {a c : TypeId} {x : Operand} : qI T rec ⟨d, .convert a c x, ty, pos, after, g⟩ s (fun k => setO s d (convIO k (opd s x))) (nInf T a c) = sK T rec ⟨d, .convert a c x, ty, pos, after, g⟩ s (setO s d (convSO s.heap (opd s x))) (sInf T a c) := by
 cases h : sInf T a c with
 | false => rw [<- q_convI]; rfl
 | true =>
  obtain ⟨h1, h2, h3⟩ := conv_S (s := s) (x := x) h
  rw [h3]
  show evOp T rec ⟨d, .convert a c x, ty, pos, after, g⟩ s = setO s d (convSO s.heap (opd s x))
  rw [<- h1]
  show (match (match pureOp T s (.convert a c x) with | some v => some v | none => readOp T s s.heap (.convert a c x)) with | some v => setT s d v | none => (match effOp T s (.convert a c x) with | some (v, H, hs) => setT { s with heap := H, hs := hs } d v | none => none)) = _
  rw [h2]
  cases (match pureOp T s (.convert a c x) with | some v => some v | none => readOp T s s.heap (.convert a c x)) <;> rfl
def sT (T : Tab) (rec : Rec) (b : Bool) (o : Oper) (s : AS) (k : Option AS) : Bool -> Option AS
 | true => k
 | false => opT T rec b o s
theorem t_convS {a c : TypeId} {x : Operand} : qT T rec b ⟨d, .convert a c x, ty, pos, after, g⟩ s (fun k => setO s d (convIO k (opd s x))) (nInf T a c) = sT T rec b ⟨d, .convert a c x, ty, pos, after, g⟩ s (setO s d (convSO s.heap (opd s x))) (sInf T a c) := by
 have e : opT T rec b ⟨d, .convert a c x, ty, pos, after, g⟩ s = (match (match pureOp T s (.convert a c x) with | some v => some v | none => readOp T s s.heap (.convert a c x)) with | some v => setT s d v | none => none) := rfl
 cases h : sInf T a c with
 | false => rw [<- t_convI]; rfl
 | true =>
  obtain ⟨h1, h2, h3⟩ := conv_S (s := s) (x := x) h
  rw [h3]
  show opT T rec b ⟨d, .convert a c x, ty, pos, after, g⟩ s = setO s d (convSO s.heap (opd s x))
  rw [e, h1]
  cases convSO s.heap (opd s x) <;> rfl
def delO (dk : TypeDesc) (H : Tr AO) (hs : Nat) : Option AV -> Option AV -> Option (AV × Tr AO × Nat)
 | some (.mp o), some kv => (match H.get .dead o with
  | .map es clock => (match findE dk kv es 0 with
   | some (some (i, _)) => some (udef, H.put .dead o (.map (es.eraseIdx i) clock), hs)
   | some none => some (udef, H, hs)
   | none => none)
  | _ => none)
 | _, _ => none
theorem q_delete {m k : Operand} {mt kt : TypeId} : evOp T rec ⟨d, .call ⟨.builtin .delete, #[m, k], #[mt, kt]⟩, ty, pos, after, g⟩ s = qI T rec ⟨d, .call ⟨.builtin .delete, #[m, k], #[mt, kt]⟩, ty, pos, after, g⟩ s (fun p => setE s d (delO p.1 s.heap s.hs (opd s m) (opd s k))) (mInf T mt) := by
 cases h : mInf T mt with
 | none => rfl
 | some p =>
  obtain ⟨dk, z⟩ := p
  obtain ⟨ti, kt', et, ki, ei, h1, h2, h3, h4, h5, h6, h7⟩ := mInf_some h
  show (match effOp T s (.call ⟨.builtin .delete, #[m, k], #[mt, kt]⟩) with | some (v, H, hs) => setT { s with heap := H, hs := hs } d v | none => none) = setE s d (delO dk s.heap s.hs (opd s m) (opd s k))
  have : effOp T s (.call ⟨.builtin .delete, #[m, k], #[mt, kt]⟩) = delO dk s.heap s.hs (opd s m) (opd s k) := by
   subst h5
   simp only [effOp, h1]
   rcases opd s m with _ | u
   ·rfl
   ·rcases opd s k with _ | v
    ·cases u <;> rfl
    ·cases u with
     | mp o =>
      simp only [h2, delO]
      cases s.heap.get .dead o with
      | map es clock => simp only [h3, h6, cond_true]; rcases findE ki.desc v es 0 with _ | _ | ⟨i, w⟩ <;> rfl
      | _ => rfl
     | _ => rfl
  rw [this]
  cases delO dk s.heap s.hs (opd s m) (opd s k) <;> rfl
end
theorem ho_convert {T : Tab} {rec : Rec} {l : List Oper} {s : AS} {dd : Option Tmp} {ty : TypeId} {pos : String} {after : Array Edge} {g : Option (Nat × Bool)} {a b x} : hoist T rec (⟨dd, .convert a b x, ty, pos, after, g⟩ :: l) s = hoist T rec l s := by rw [hoist_cons]; rfl
theorem q_cS {T : Tab} {rec : Rec} {s : AS} {d : Option Tmp} {ty : TypeId} {pos : String} {after : Array Edge} {g : Option (Nat × Bool)} {a c : TypeId} {x : Operand} {k : IntKind -> Option AS} (h : sInf T a c = true) : qI T rec ⟨d, .convert a c x, ty, pos, after, g⟩ s k (nInf T a c) = setO s d (convSO s.heap (opd s x)) := by
 have h1 := @q_convS T rec s d ty pos after g a c x
 rw [(conv_S (s := s) (x := x) h).2.2] at h1 ⊢
 rw [h] at h1
 exact h1
theorem t_cS {T : Tab} {rec : Rec} {s : AS} {b : Bool} {d : Option Tmp} {ty : TypeId} {pos : String} {after : Array Edge} {g : Option (Nat × Bool)} {a c : TypeId} {x : Operand} {k : IntKind -> Option AS} (h : sInf T a c = true) : qT T rec b ⟨d, .convert a c x, ty, pos, after, g⟩ s k (nInf T a c) = setO s d (convSO s.heap (opd s x)) := by
 have h1 := @t_convS T rec s d ty pos after g b a c x
 rw [(conv_S (s := s) (x := x) h).2.2] at h1 ⊢
 rw [h] at h1
 exact h1
theorem ho_makeSlice {T : Tab} {rec : Rec} {l : List Oper} {s : AS} {dd : Option Tmp} {ty : TypeId} {pos : String} {after : Array Edge} {g : Option (Nat × Bool)} {a b x} : hoist T rec (⟨dd, .makeSlice a b x, ty, pos, after, g⟩ :: l) s = hoist T rec l s := by rw [hoist_cons]; rfl
def dMO := an @b_xor (an @q_makeSlice (an @q_cS (an @t_cS (an @ho_convert (an @ho_makeSlice (an @q_delete (an @convSO.eq_1 (an @convSO.eq_2 @delO.eq_1))))))))
section
variable {T : Tab} {rec : Rec} {α : Type} {ro : Option Nat} {F : AX -> AS -> Option α} {K : List Fr} {s : AS} {ops : Array Oper} {l : List Oper} {d : Option Tmp} {op : Op} {ty : TypeId} {pos : String} {after : Array Edge} {g : Option (Nat × Bool)} {cs : List (Nat × Nat × Nat)} {acc : List (Tr AO × Nat)}
noncomputable def YC (T : Tab) (ro : Option Nat) (F : AX -> AS -> Option α) (K : List Fr) (s : AS) : Bool -> Option α
 | true => kont T ro F K .normal s
 | false => none
noncomputable def Y (T : Tab) (ro : Option Nat) (F : AX -> AS -> Option α) (ops : Array Oper) (cs : List (Nat × Nat × Nat)) (l : List Oper) (acc : List (Tr AO × Nat)) (K : List Fr) (s : AS) : Option α :=
 match evX T (evw T) l s with
 | some (hl, sN) => YC T ro F K sN (xChk T ops sN (acc ++ hl) cs)
 | none => none
end
end Go.Proofs.YtcledcfeddlomaaGreatDoor.Ev
