import Derived.Test.YtbcecenneganeaaEvU
set_option linter.all false
namespace Go.Proofs.Ytbcecenneganeaa.Ev
open Go.RowKit

def sq1 : Code → Code | .seq a _ => a | c => c
def sq2 : Code → Code | .seq _ b => b | c => c
def cd1 : Code → Code | .cond _ a _ => a | c => c
def cd2 : Code → Code | .cond _ _ b => b | c => c
def bk1 : Code → Code | .block _ a => a | c => c
def lp1 : Code → Code | .loop a => a | c => c
def rg1 : Code → Array Oper | .region _ ops _ => ops | _ => #[]
def ra1 : Code → Code | .rangeFunc _ _ a _ => a | c => c
def rb1 : Code → Code | .rangeFunc _ _ _ b => b | c => c
def sc1 : Code → Code | .scope a => a | c => c

section
variable {T : Tab} {α : Type} {ro : Option Nat} {F : AX → AS → Option α} {K : List Fr} {s : AS} {ops : Array Oper} {k : Nat}

/-- Operations from the k-th on. -/
noncomputable def I (T : Tab) (ro : Option Nat) (F : AX → AS → Option α) (ops : Array Oper) (k : Nat) (K : List Fr) (s : AS) : Option α := O T ro F ops (ops.toList.drop k) K s
noncomputable def I1 (T : Tab) (ro : Option Nat) (F : AX → AS → Option α) (ops : Array Oper) (k : Nat) (K : List Fr) : Option AS → Option α
  | some s => I T ro F ops k K s
  | none => none
/-- A guarded one: what it does, what it leaves. -/
noncomputable def IG (T : Tab) (ro : Option Nat) (F : AX → AS → Option α) (ops : Array Oper) (k : Nat) (K : List Fr) (w : Bool) (e u : Option AS) : Option AV → Option α
  | some (.lit (.bool b)) => if b = w then I1 T ro F ops k K e else I1 T ro F ops k K u
  | some (.tup []) => I1 T ro F ops k K u
  | _ => none

theorem I1_some : I1 T ro F ops k K (some s) = I T ro F ops k K s := rfl
theorem IG_yes {w : Bool} {e u : Option AS} : IG T ro F ops k K w e u (some (.lit (.bool w))) = I1 T ro F ops k K e := by simp [IG]
theorem IG_tf {e u : Option AS} : IG T ro F ops k K true e u (some (.lit (.bool false))) = I1 T ro F ops k K u := rfl
theorem IG_ft {e u : Option AS} : IG T ro F ops k K false e u (some (.lit (.bool true))) = I1 T ro F ops k K u := rfl
theorem IG_undef {w : Bool} {e u : Option AS} : IG T ro F ops k K w e u (some udef) = I1 T ro F ops k K u := rfl
theorem IG_bool {w b : Bool} {e u : Option AS} : IG T ro F ops k K w e u (some (.lit (.bool b))) = if b = w then I1 T ro F ops k K e else I1 T ro F ops k K u := rfl

theorem I_plain {o : Oper} (h : ops.toList[k]? = some o) (hg : o.guard = none) {e : Option AS} (he : evOp T (evw T) o s = e) : I T ro F ops k K s = I1 T ro F ops (k + 1) K e := by
  subst he
  obtain ⟨hlt, ho⟩ := List.getElem?_eq_some_iff.1 h
  unfold I
  rw [List.drop_eq_getElem_cons hlt, ho, O_plain hg]
  cases evOp T (evw T) o s <;> rfl
theorem I_guard {o og : Oper} {j : Nat} {w : Bool} {d : Option Tmp} {g : Nat} (h : ops.toList[k]? = some o) (hg : o.guard = some (j, w)) (hj : ops.toList[j]? = some og) (hd : og.dst = some g) (hdd : o.dst = d) {e : Option AS} (he : evOp T (evw T) o s = e) :
    I T ro F ops k K s = IG T ro F ops (k + 1) K w e (setT s d udef) (opd s (.tmp g)) := by
  subst he; subst hdd
  obtain ⟨hlt, ho⟩ := List.getElem?_eq_some_iff.1 h
  unfold I
  rw [List.drop_eq_getElem_cons hlt, ho, O_guard hg]
  have : (ops[j]?).bind (·.dst) = some g := by
    have : ops[j]? = some og := by rw [← Array.getElem?_toList]; exact hj
    rw [this]; exact hd
  rw [this, G0_some]
  cases opd s (.tmp g) with
  | none => rfl
  | some v =>
    cases v with
    | lit v =>
      cases v with
      | bool b =>
        simp only [G1, IG]
        split
        · cases evOp T (evw T) o s <;> rfl
        · cases setT s o.dst udef <;> rfl
      | _ => rfl
    | tup vs =>
      cases vs with
      | nil => simp only [G1, IG]; cases setT s o.dst udef <;> rfl
      | cons _ _ => rfl
    | _ => rfl
theorem I_end (h : ops.toList.length = k) : I T ro F ops k K s = kont T ro F K .normal s := by
  subst h
  unfold I
  rw [List.drop_length]; rfl

theorem Wc_seq {c a b : Code} (h : c = .seq a b) : W T ro F c K s = W T ro F a (.sq b :: K) s := by rw [h]; exact W_seq
theorem Wc_region {c : Code} {i : Nat} (h : c = .region i ops false) : W T ro F c K s = I T ro F ops 0 K s := by rw [h]; exact W_region
theorem Wc_draw {c : Code} {i : Nat} (h : c = .region i ops true) : W T ro F c K s = D1 T ro F K (evDr T (evw T) ops s) := by rw [h]; exact W_draw
theorem Wc_cond {c a b : Code} {x : Operand} (h : c = .cond x a b) : W T ro F c K s = C1 T ro F a b K s (opd s x) := by rw [h]; exact W_cond
theorem Wc_block {c a : Code} {i : Nat} (h : c = .block i a) : W T ro F c K s = W T ro F a (.bk i :: K) s := by rw [h]; exact W_block
theorem Wc_loop {c a : Code} (h : c = .loop a) : W T ro F c K s = W T ro F a (.lp a :: K) s := by rw [h]; exact W_loop
theorem Wc_again {c a : Code} (h : c = .loop a) : kont T ro F (.lp a :: K) .normal s = W T ro F c K s := by rw [h]; rfl
theorem Wc_skip {c : Code} (h : c = .skip) : W T ro F c K s = kont T ro F K .normal s := by rw [h]; exact W_skip
theorem Wc_ret {c : Code} (h : c = .ret) : W T ro F c K s = kont T ro F K .ret s := by rw [h]; exact W_ret
theorem Wc_exit {c : Code} {i : Nat} (h : c = .exit i) : W T ro F c K s = kont T ro F K (.exit i) s := by rw [h]; exact W_exit
theorem Wc_goto {c : Code} {i : Nat} (h : c = .goto i) : W T ro F c K s = kont T ro F K (.goto i) s := by rw [h]; exact W_goto
theorem Wc_label {c : Code} {i : Nat} (h : c = .label i) : W T ro F c K s = kont T ro F K .normal s := by rw [h]; exact W_label
end

/-! ### len -/
def lenSO : Option AV → Option AV
  | some (.str l) => some (.lit (.int .i64 l.length))
  | _ => none
def lenLO : Option AV → Option AV
  | some (.slc _ _ n _) => some (.lit (.int .i64 n))
  | some (.lst _ es) => some (.lit (.int .i64 es.length))
  | some (.lit (.slice none n _)) => some (.lit (.int .i64 n))
  | some .emp => some (.lit (.int .i64 0))
  | _ => none
def lenMO (H : Tr AO) : Option AV → Option AV
  | some (.mp o) => (match H.get .dead o with | .map es _ => some (.lit (.int .i64 es.length)) | _ => none)
  | some (.lit (.map none)) => some (.lit (.int .i64 0))
  | some (.fmp es) => some (.lit (.int .i64 es.length))
  | _ => none
def placesL (l : List (Nat × Nat)) (i : Nat) : Option (Nat × Nat) := l[i]?

section
variable {T : Tab} {rec : Rec} {s : AS} {d : Option Tmp} {ty : TypeId} {pos : String} {after : Array Edge} {g : Option (Nat × Bool)}

theorem u_lenS {t : TypeId} {x : Operand} {ti : TI} (h1 : T.t t = some ti) (h2 : ti.desc = .string) : evOp T rec ⟨d, .call ⟨.builtin .len, #[x], #[t]⟩, ty, pos, after, g⟩ s = setO s d (lenSO (opd s x)) := by
  rw [ev_len]
  have hp : pureOp T s (.call ⟨.builtin .len, #[x], #[t]⟩) = lenSO (opd s x) := by
    simp only [pureOp, h1]
    cases opd s x with
    | none => rfl
    | some v => cases v with
      | lit w => cases w with
        | slice p n c => cases p <;> first | rfl | (simp only [h2]; done) | (simp only [h2]; rfl)
        | _ => rfl
      | _ => first | rfl | (simp only [h2]; done) | (simp only [h2]; rfl)
  have hr : readOp T s s.heap (.call ⟨.builtin .len, #[x], #[t]⟩) = none := by
    simp only [readOp, h1]
    cases opd s x with
    | none => rfl
    | some v => cases v with
      | lit w => cases w with
        | map p => cases p <;> first | rfl | (simp only [h2]; done) | (simp only [h2]; rfl)
        | _ => rfl
      | mp o => simp only [h2]
      | _ => first | rfl | (simp only [h2]; done) | (simp only [h2]; rfl)
  have he : effOp T s (.call ⟨.builtin .len, #[x], #[t]⟩) = none := rfl
  rw [hp, hr]
  cases lenSO (opd s x) <;> rfl
theorem u_lenL {e t : TypeId} {x : Operand} {ti : TI} (h1 : T.t t = some ti) (h2 : ti.desc = .slice e) : evOp T rec ⟨d, .call ⟨.builtin .len, #[x], #[t]⟩, ty, pos, after, g⟩ s = setO s d (lenLO (opd s x)) := by
  rw [ev_len]
  have hp : pureOp T s (.call ⟨.builtin .len, #[x], #[t]⟩) = lenLO (opd s x) := by
    simp only [pureOp, h1]
    cases opd s x with
    | none => rfl
    | some v => cases v with
      | lit w => cases w with
        | slice p n c => cases p <;> first | rfl | (simp only [h2]; done) | (simp only [h2]; rfl)
        | _ => rfl
      | _ => first | rfl | (simp only [h2]; done) | (simp only [h2]; rfl)
  have hr : readOp T s s.heap (.call ⟨.builtin .len, #[x], #[t]⟩) = none := by
    simp only [readOp, h1]
    cases opd s x with
    | none => rfl
    | some v => cases v with
      | lit w => cases w with
        | map p => cases p <;> first | rfl | (simp only [h2]; done) | (simp only [h2]; rfl)
        | _ => rfl
      | mp o => simp only [h2]
      | _ => first | rfl | (simp only [h2]; done) | (simp only [h2]; rfl)
  have he : effOp T s (.call ⟨.builtin .len, #[x], #[t]⟩) = none := rfl
  rw [hp, hr]
  cases lenLO (opd s x) <;> rfl
theorem u_lenM {t ke e : TypeId} {x : Operand} {ti : TI} (h1 : T.t t = some ti) (h2 : ti.desc = .map ke e) : evOp T rec ⟨d, .call ⟨.builtin .len, #[x], #[t]⟩, ty, pos, after, g⟩ s = setO s d (lenMO s.heap (opd s x)) := by
  rw [ev_len]
  have hp : pureOp T s (.call ⟨.builtin .len, #[x], #[t]⟩) = none := by
    simp only [pureOp, h1]
    cases opd s x with
    | none => rfl
    | some v => cases v with
      | lit w => cases w with
        | slice p n c => cases p <;> first | rfl | (simp only [h2]; done) | (simp only [h2]; rfl)
        | _ => rfl
      | _ => first | rfl | (simp only [h2]; done) | (simp only [h2]; rfl)
  have hr : readOp T s s.heap (.call ⟨.builtin .len, #[x], #[t]⟩) = lenMO s.heap (opd s x) := by
    simp only [readOp, h1]
    cases opd s x with
    | none => rfl
    | some v => cases v with
      | lit w => cases w with
        | map p => cases p <;> first | rfl | (simp only [h2]; rfl)
        | _ => rfl
      | mp o => simp only [h2, lenMO]; cases s.heap.get .dead o <;> rfl
      | _ => first | rfl | (simp only [h2]; rfl)
  have he : effOp T s (.call ⟨.builtin .len, #[x], #[t]⟩) = none := rfl
  rw [hp, hr]
  cases lenMO s.heap (opd s x) <;> rfl
theorem u_convI {a b : TypeId} {x : Operand} {i j : TI} {k : IntKind} (h1 : T.t a = some i) (h2 : T.t b = some j) (h3 : j.desc = .int k) : evOp T rec ⟨d, .convert a b x, ty, pos, after, g⟩ s = setO s d (convIO k (opd s x)) := by
  rw [ev_convert, u_conv h1 h2 h3]
  have hr : readOp T s s.heap (.convert a b x) = none := by
    simp only [readOp, h1, h2]
    cases opd s x with
    | none => rfl
    | some v => simp only [h3]; cases i.desc <;> rfl
  have he : effOp T s (.convert a b x) = none := by
    simp only [effOp, h1, h2]
    cases opd s x with
    | none => rfl
    | some v => cases v <;> (try simp only [h3])
  rw [hr]
  cases hc : convIO k (opd s x) with
  | some v => rfl
  | none => simp only [mixO, he]; rfl
theorem places_eq {fs : Array Field} {l : List (Nat × Nat)} (h : fs.toList.mapM (fun (f : Field) => (T.t f.type).map fun fi => (f.offset, fi.size)) = some l) : places T fs = placesL l := by
  funext i
  unfold places placesL
  have key : ∀ (fl : List Field) (l : List (Nat × Nat)), fl.mapM (fun (f : Field) => (T.t f.type).map fun fi => (f.offset, fi.size)) = some l → ∀ (i : Nat), (match fl[i]? with | some f => (match T.t f.type with | some fi => some (f.offset, fi.size) | none => none) | none => none) = l[i]? := by
    intro fl
    induction fl with
    | nil => intro l h i; simp at h; subst h; simp
    | cons f fl ih =>
      intro l h i
      rw [List.mapM_cons] at h
      cases ht : T.t f.type with
      | none => simp [ht] at h
      | some fi =>
        cases hm : fl.mapM (fun (f : Field) => (T.t f.type).map fun fi => (f.offset, fi.size)) with
        | none => simp [ht, hm] at h
        | some l' =>
          simp [ht, hm] at h
          subst h
          cases i with
          | zero => simp [ht]
          | succ i => simpa using ih l' hm i
  rw [← key fs.toList l h i, Array.getElem?_toList]
  cases fs[i]? <;> rfl
/-- A call of a function. -/
def callG (T : Tab) (rec : Rec) (s : AS) (f : Nat) : Option (List AV) → Option (AV × Tr AO × Nat)
  | some as => callF T rec s.lm f as s.heap s.hs
  | none => none
theorem u_call {f : Nat} {as : Array Operand} {ts : Array TypeId} : evOp T rec ⟨d, .call ⟨.value (.func f), as, ts⟩, ty, pos, after, g⟩ s = setE s d (callG T rec s f (opds s as.toList)) := by
  rw [ev_call, opd_f]
  cases opds s as.toList with
  | none => rfl
  | some l => simp only [callO_f, callG, List.nil_append, List.append_nil]
end
end Go.Proofs.Ytbcecenneganeaa.Ev
