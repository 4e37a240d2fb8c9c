import Derived.Test.YtbcecenneganeaaEvX
set_option linter.all false
namespace Go.Proofs.Ytbcecenneganeaa.Ev
open Go.RowKit

section
variable {T : Tab} {rec : Rec} {t : Tr AV} {nt hs : Nat} {H : Tr AO} {ds : List Nat} {lm : Bool} {s : AS}

theorem opd_t {i : Nat} (h : i < nt) : opd ⟨t, nt, H, hs, ds, lm⟩ (.tmp i) = some (t.get .any i) := by
  show (bif Nat.blt i nt then _ else _) = _
  rw [show Nat.blt i nt = true from blt_lt.2 h]; rfl
theorem opd_c {v : Value} : opd s (.const v) = some (ofConst v) := rfl
theorem opd_f {f : Nat} : opd s (.func f) = some (.fn (.func f) [] []) := rfl
theorem opds_n : opds s [] = some [] := rfl
theorem opds_c {x : Operand} {l : List Operand} : opds s (x :: l) = (match opd s x, opds s l with | some a, some as => some (a :: as) | _, _ => none) := rfl
theorem setT_s {i : Nat} {v : AV} (h : i < nt) : setT ⟨t, nt, H, hs, ds, lm⟩ (some i) v = some ⟨t.put .any i v, nt, H, hs, ds, lm⟩ := by
  show (bif Nat.blt i nt then _ else _) = _
  rw [show Nat.blt i nt = true from blt_lt.2 h]; rfl
theorem setT_n {v : AV} : setT s none v = some s := rfl
theorem get_same {α : Type} (d x : α) (t : Tr α) (n : Nat) : (t.put d n x).get d n = x := by rw [Tr.get_put, if_pos rfl]
theorem get_other {α : Type} (d x : α) (t : Tr α) (n m : Nat) (h : m ≠ n) : (t.put d n x).get d m = t.get d m := by rw [Tr.get_put, if_neg h]

/-- A value is put in its place. -/
def setO (s : AS) (d : Option Tmp) : Option AV → Option AS
  | some v => setT s d v
  | none => none
theorem setO_some {d : Option Tmp} {v : AV} : setO s d (some v) = setT s d v := rfl
def setN (s : AS) (d : Option Tmp) : Option (AO × AV) → Option AS
  | some (.dead, v) => setT s d v
  | some (A, v) => setT { s with heap := s.heap.put .dead s.hs A, hs := s.hs + 1 } d v
  | none => none
def setE (s : AS) (d : Option Tmp) : Option (AV × Tr AO × Nat) → Option AS
  | some (v, H, hs) => setT { s with heap := H, hs := hs } d v
  | none => none

variable {d : Option Tmp} {ty : TypeId} {pos : String} {after : Array Edge} {g : Option (Nat × Bool)}

theorem ev_move {x : Operand} : evOp T rec ⟨d, .move x, ty, pos, after, g⟩ s = setO s d (opd s x) := rfl
theorem ev_assign {x : Operand} : evOp T rec ⟨d, .assign x, ty, pos, after, g⟩ s = setO s d (opd s x) := rfl
theorem ev_pick {x y z : Operand} : evOp T rec ⟨d, .pick x y z, ty, pos, after, g⟩ s = setO s d (pureOp T s (.pick x y z)) := rfl
theorem ev_nilCheck {x : Operand} : evOp T rec ⟨d, .nilCheck x, ty, pos, after, g⟩ s = setO s d (pureOp T s (.nilCheck x)) := rfl
theorem ev_binOp {o : BinOp} {a b : TypeId} {x y : Operand} : evOp T rec ⟨d, .binOp o a x y b, ty, pos, after, g⟩ s = setO s d (pureOp T s (.binOp o a x y b)) := rfl
theorem ev_unOp {o : UnOp} {a : TypeId} {x : Operand} : evOp T rec ⟨d, .unOp o a x, ty, pos, after, g⟩ s = setO s d (pureOp T s (.unOp o a x)) := rfl
theorem ev_makeFunc {f : Fn} {x y : Array Operand} : evOp T rec ⟨d, .makeFunc f x y, ty, pos, after, g⟩ s = setO s d (pureOp T s (.makeFunc f x y)) := rfl
theorem ev_extract {x : Operand} {i : Nat} : evOp T rec ⟨d, .extract x i, ty, pos, after, g⟩ s = setO s d (pureOp T s (.extract x i)) := rfl
theorem ev_field {a : TypeId} {x : Operand} {i : Nat} : evOp T rec ⟨d, .field a x i, ty, pos, after, g⟩ s = setO s d (pureOp T s (.field a x i)) := rfl
theorem ev_fieldAddr {a : TypeId} {x : Operand} {i : Nat} : evOp T rec ⟨d, .fieldAddr a x i, ty, pos, after, g⟩ s = setO s d (pureOp T s (.fieldAddr a x i)) := rfl
theorem ev_indexAddr {a : TypeId} {x y : Operand} : evOp T rec ⟨d, .indexAddr a x y, ty, pos, after, g⟩ s = setO s d (pureOp T s (.indexAddr a x y)) := rfl
theorem ev_index {a : TypeId} {x y : Operand} : evOp T rec ⟨d, .index a x y, ty, pos, after, g⟩ s = setO s d (pureOp T s (.index a x y)) := rfl
theorem ev_build {a : TypeId} {ps : Array (Nat × Operand)} : evOp T rec ⟨d, .build a ps, ty, pos, after, g⟩ s = setO s d (pureOp T s (.build a ps)) := rfl
theorem ev_slice {a : TypeId} {x : Operand} {lo hi mx : Option Operand} : evOp T rec ⟨d, .slice a x lo hi mx, ty, pos, after, g⟩ s = setO s d (pureOp T s (.slice a x lo hi mx)) := rfl
theorem ev_makeInterface {a : TypeId} {x : Operand} : evOp T rec ⟨d, .makeInterface a x, ty, pos, after, g⟩ s = setO s d (pureOp T s (.makeInterface a x)) := rfl
theorem ev_load {a : TypeId} {x : Operand} : evOp T rec ⟨d, .load a x, ty, pos, after, g⟩ s = setO s d (readOp T s s.heap (.load a x)) := rfl
theorem ev_lookup {a : TypeId} {x y : Operand} {ok : Bool} : evOp T rec ⟨d, .lookup a x y ok, ty, pos, after, g⟩ s = setO s d (readOp T s s.heap (.lookup a x y ok)) := rfl
theorem ev_alloc {a : TypeId} : evOp T rec ⟨d, .alloc a, ty, pos, after, g⟩ s = setN s d (newOp T s s.hs (.alloc a)) := rfl
theorem ev_box {a : TypeId} {x : Operand} : evOp T rec ⟨d, .box a x, ty, pos, after, g⟩ s = setN s d (newOp T s s.hs (.box a x)) := rfl
theorem ev_buildSlice {a : TypeId} {n : Nat} {ps : Array (Nat × Operand)} : evOp T rec ⟨d, .buildSlice a n ps, ty, pos, after, g⟩ s = setN s d (newOp T s s.hs (.buildSlice a n ps)) := rfl
theorem ev_makeSlice {a : TypeId} {x y : Operand} : evOp T rec ⟨d, .makeSlice a x y, ty, pos, after, g⟩ s = setN s d (newOp T s s.hs (.makeSlice a x y)) := rfl
theorem ev_makeMap {a : TypeId} {x : Option Operand} : evOp T rec ⟨d, .makeMap a x, ty, pos, after, g⟩ s = setN s d (newOp T s s.hs (.makeMap a x)) := rfl
theorem ev_store {a : TypeId} {x y : Operand} : evOp T rec ⟨d, .store a x y, ty, pos, after, g⟩ s = setE s d (effOp T s (.store a x y)) := rfl
theorem ev_mapUpdate {a : TypeId} {x y z : Operand} : evOp T rec ⟨d, .mapUpdate a x y z, ty, pos, after, g⟩ s = setE s d (effOp T s (.mapUpdate a x y z)) := rfl
theorem ev_append {as : Array Operand} {ts : Array TypeId} : evOp T rec ⟨d, .call ⟨.builtin .append, as, ts⟩, ty, pos, after, g⟩ s = setE s d (effOp T s (.call ⟨.builtin .append, as, ts⟩)) := rfl
theorem ev_copy {as : Array Operand} {ts : Array TypeId} : evOp T rec ⟨d, .call ⟨.builtin .copy, as, ts⟩, ty, pos, after, g⟩ s = setE s d (effOp T s (.call ⟨.builtin .copy, as, ts⟩)) := rfl
theorem ev_delete {as : Array Operand} {ts : Array TypeId} : evOp T rec ⟨d, .call ⟨.builtin .delete, as, ts⟩, ty, pos, after, g⟩ s = setE s d (effOp T s (.call ⟨.builtin .delete, as, ts⟩)) := rfl
/-- A call of a value that is known. -/
def callO (T : Tab) (rec : Rec) (s : AS) : Option AV → Option (List AV) → Option (AV × Tr AO × Nat)
  | some g, some as => callV T rec s.lm g as s.heap s.hs
  | _, _ => none
theorem ev_call {f : Operand} {as : Array Operand} {ts : Array TypeId} : evOp T rec ⟨d, .call ⟨.value f, as, ts⟩, ty, pos, after, g⟩ s = setE s d (callO T rec s (opd s f) (opds s as.toList)) := by
  show (match (match opd s f, opds s as.toList with | some g, some as => callV T rec s.lm g as s.heap s.hs | _, _ => none) with | some (v, H, hs) => setT { s with heap := H, hs := hs } d v | none => none) = _
  unfold callO setE
  cases opd s f <;> cases opds s as.toList <;> rfl
theorem callO_f {f : Nat} {a b as : List AV} : callO T rec s (some (.fn (.func f) a b)) (some as) = callF T rec s.lm f (a ++ as ++ b) s.heap s.hs := rfl
/-- len, cap, and a conversion. -/
def mixO (T : Tab) (s : AS) (d : Option Tmp) (op : Op) : Option AV → Option AV → Option AS
  | some v, _ => setT s d v
  | none, some v => setT s d v
  | none, none => setE s d (effOp T s op)
theorem ev_len {as : Array Operand} {ts : Array TypeId} : evOp T rec ⟨d, .call ⟨.builtin .len, as, ts⟩, ty, pos, after, g⟩ s = mixO T s d (.call ⟨.builtin .len, as, ts⟩) (pureOp T s (.call ⟨.builtin .len, as, ts⟩)) (readOp T s s.heap (.call ⟨.builtin .len, as, ts⟩)) := by
  simp only [evOp, cls, mixO]
  cases pureOp T s (.call ⟨.builtin .len, as, ts⟩) <;> cases readOp T s s.heap (.call ⟨.builtin .len, as, ts⟩) <;> rfl
theorem ev_cap {as : Array Operand} {ts : Array TypeId} : evOp T rec ⟨d, .call ⟨.builtin .cap, as, ts⟩, ty, pos, after, g⟩ s = mixO T s d (.call ⟨.builtin .cap, as, ts⟩) (pureOp T s (.call ⟨.builtin .cap, as, ts⟩)) (readOp T s s.heap (.call ⟨.builtin .cap, as, ts⟩)) := by
  simp only [evOp, cls, mixO]
  cases pureOp T s (.call ⟨.builtin .cap, as, ts⟩) <;> cases readOp T s s.heap (.call ⟨.builtin .cap, as, ts⟩) <;> rfl
theorem ev_convert {a b : TypeId} {x : Operand} : evOp T rec ⟨d, .convert a b x, ty, pos, after, g⟩ s = mixO T s d (.convert a b x) (pureOp T s (.convert a b x)) (readOp T s s.heap (.convert a b x)) := by
  simp only [evOp, cls, mixO]
  cases pureOp T s (.convert a b x) <;> cases readOp T s s.heap (.convert a b x) <;> rfl
end
end Go.Proofs.Ytbcecenneganeaa.Ev
