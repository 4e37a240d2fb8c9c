import Derived.Test.YtbcecenneganeaaEvI
set_option linter.all false
namespace Go.Proofs.Ytbcecenneganeaa.Ev
open Go.RowKit

section
variable {T : Tab}

/-- What a function hands back at its end. -/
def fin (T : Tab) (fi : FI) (x : AX) (s : AS) : Option (AV × Tr AO × Nat) :=
  match x with
  | .normal => (match shut s.heap s.defs with
    | some H' => (match resOf T { s with heap := H' } fi.results with
      | some l => some (one l, H', s.hs)
      | none => none)
    | none => none)
  | .ret => (match shut s.heap s.defs with
    | some H' => (match resOf T { s with heap := H' } fi.results with
      | some l => some (one l, H', s.hs)
      | none => none)
    | none => none)
  | _ => none

theorem bodyF_W {fi : FI} {m : Bool} {args : List AV} {H : Tr AO} {hs : Nat} : bodyF (evw T) T fi m args H hs = W T none (fin T fi) fi.body [] ⟨putL .lf 0 args, max args.length fi.ntmps, H, hs, [], lmOf fi.lm m⟩ := by
  unfold bodyF W
  cases evw T none fi.body _ with
  | none => rfl
  | some p =>
    obtain ⟨x, s'⟩ := p
    cases x <;> rfl

theorem fin_ret {fi : FI} {s : AS} : fin T fi .ret s = fin T fi .normal s := rfl
theorem fin_nil {fi : FI} {t : Tr AV} {nt hs : Nat} {H : Tr AO} {lm : Bool} : fin T fi .normal ⟨t, nt, H, hs, [], lm⟩ = (match resOf T ⟨t, nt, H, hs, [], lm⟩ fi.results with | some l => some (one l, H, hs) | none => none) := rfl

/-- A function by itself, that is not to be told otherwise. -/
noncomputable def iso (T : Tab) (fi : FI) (m : Bool) (args : List AV) : Option AV := isoF (evw T) T fi m args

theorem iso_of {fi : FI} {m : Bool} {args : List AV} {v : AV} {H : Tr AO} {hs : Nat} (h : bodyF (evw T) T fi m args .lf 0 = some (v, H, hs)) (hv : bare v = true) : iso T fi m args = some (nrm v) := by
  unfold iso isoF frzR
  rw [h]
  simp only [hv, cond_true]

theorem callF_iso {m : Bool} {f : Nat} {fi : FI} {args : List AV} {H : Tr AO} {hs : Nat} (hc : ∀ f args H hs, T.con f args H hs = none) (hf : T.f f = some fi) (hi : fi.iso = true) (hb : bares args = true) {v : AV} (h : iso T fi m (nrms args) = some v) :
    callF T (evw T) m f args H hs = some (v, H, hs) := by
  unfold callF
  rw [hc]
  simp only [hf, hi, hb, cond_true]
  unfold iso at h
  rw [h]
theorem callF_in {m : Bool} {f : Nat} {fi : FI} {args : List AV} {H : Tr AO} {hs : Nat} (hc : ∀ f args H hs, T.con f args H hs = none) (hf : T.f f = some fi) (hi : fi.iso = false) : callF T (evw T) m f args H hs = bodyF (evw T) T fi m args H hs := by
  unfold callF
  rw [hc]
  simp only [hf, hi, cond_false]

theorem putL_nil {t : Tr AV} {i : Nat} : putL t i [] = t := rfl
theorem putL_cons {t : Tr AV} {i : Nat} {a : AV} {l : List AV} : putL t i (a :: l) = putL (t.put .any i a) (i + 1) l := rfl

theorem ofConst_int {k : IntKind} {n : Int} : ofConst (.int k n) = .lit (.int k n) := rfl
theorem ofConst_bool {b : Bool} : ofConst (.bool b) = .lit (.bool b) := rfl
theorem ofConst_str {a : Array UInt8} : ofConst (.string ⟨a⟩) = .str a.toList := rfl
theorem ofConst_ptr : ofConst (.pointer none) = .lit (.pointer none) := rfl
theorem ofConst_slice {a b : Nat} : ofConst (.slice none a b) = .lit (.slice none a b) := rfl
theorem ofConst_map : ofConst (.map none) = .lit (.map none) := rfl
theorem ofConst_agg {a : Array Value} : ofConst (.agg a) = .agg (a.toList.map scal) := rfl
theorem ofConst_nf : ofConst .nilFunc = .lit .nilFunc := rfl
theorem ofConst_ni : ofConst .nilIface = .lit .nilIface := rfl
theorem scal_int {k : IntKind} {n : Int} : scal (.int k n) = .lit (.int k n) := rfl
theorem scal_bool {b : Bool} : scal (.bool b) = .lit (.bool b) := rfl
theorem scal_str {a : Array UInt8} : scal (.string ⟨a⟩) = .str a.toList := rfl
theorem scal_slice {a b : Nat} : scal (.slice none a b) = .lit (.slice none a b) := rfl

theorem one_int {k : IntKind} {n : Int} : (Value.int k n).oneCell' = true := rfl
theorem one_bool {b : Bool} : (Value.bool b).oneCell' = true := rfl
theorem one_slice {a b : Nat} : (Value.slice none a b).oneCell' = true := rfl
theorem one_ptr : (Value.pointer none).oneCell' = true := rfl
theorem one_map : (Value.map none).oneCell' = true := rfl
theorem one_nf : (Value.nilFunc).oneCell' = true := rfl
theorem one_ni : (Value.nilIface).oneCell' = true := rfl
/-! ### Numbers -/
theorem b_add {t : Nat} {p q : Operand} {k : IntKind} {a b : Int} : binO T .add t p q (some (.lit (.int k a))) (some (.lit (.int k b))) = some (.lit (.int k (k.wrap (a + b)))) := by cases k <;> rfl
theorem b_sub {t : Nat} {p q : Operand} {k : IntKind} {a b : Int} : binO T .sub t p q (some (.lit (.int k a))) (some (.lit (.int k b))) = some (.lit (.int k (k.wrap (a - b)))) := by cases k <;> rfl
theorem b_mul {t : Nat} {p q : Operand} {k : IntKind} {a b : Int} : binO T .mul t p q (some (.lit (.int k a))) (some (.lit (.int k b))) = some (.lit (.int k (k.wrap (a * b)))) := by cases k <;> rfl
theorem b_lss {t : Nat} {p q : Operand} {k : IntKind} {a b : Int} : binO T .lss t p q (some (.lit (.int k a))) (some (.lit (.int k b))) = some (.lit (.bool (decide (a < b)))) := by cases k <;> rfl
theorem b_leq {t : Nat} {p q : Operand} {k : IntKind} {a b : Int} : binO T .leq t p q (some (.lit (.int k a))) (some (.lit (.int k b))) = some (.lit (.bool (decide (a ≤ b)))) := by cases k <;> rfl
theorem b_gtr {t : Nat} {p q : Operand} {k : IntKind} {a b : Int} : binO T .gtr t p q (some (.lit (.int k a))) (some (.lit (.int k b))) = some (.lit (.bool (decide (b < a)))) := by cases k <;> rfl
theorem b_geq {t : Nat} {p q : Operand} {k : IntKind} {a b : Int} : binO T .geq t p q (some (.lit (.int k a))) (some (.lit (.int k b))) = some (.lit (.bool (decide (b ≤ a)))) := by cases k <;> rfl
theorem b_eql {t : Nat} {p q : Operand} {k : IntKind} {a b : Int} : binO T .eql t p q (some (.lit (.int k a))) (some (.lit (.int k b))) = some (.lit (.bool (decide (a = b)))) := by cases k <;> rfl
theorem b_neq {t : Nat} {p q : Operand} {k : IntKind} {a b : Int} : binO T .neq t p q (some (.lit (.int k a))) (some (.lit (.int k b))) = some (.lit (.bool (!decide (a = b)))) := by cases k <;> rfl
theorem b_rem {t : Nat} {p q : Operand} {k : IntKind} {a b : Int} (h : b ≠ 0) : binO T .rem t p q (some (.lit (.int k a))) (some (.lit (.int k b))) = some (.lit (.int k (a.tmod b))) := by
  simp only [binO, binV, intBin, decide_true, cond_true, decide_eq_false h, cond_false]
theorem b_quo {t : Nat} {p q : Operand} {k : IntKind} {a b : Int} (h : b ≠ 0) : binO T .quo t p q (some (.lit (.int k a))) (some (.lit (.int k b))) = some (.lit (.int k (k.wrap (a.tdiv b)))) := by
  simp only [binO, binV, intBin, decide_true, cond_true, decide_eq_false h, cond_false]
theorem b_shr {t : Nat} {p q : Operand} {k j : IntKind} {a b : Int} (h : 0 ≤ b) : binO T .shr t p q (some (.lit (.int k a))) (some (.lit (.int j b))) = some (.lit (.int k (a.fdiv (2 ^ (min b.toNat k.bits))))) := by
  have : decide (b < 0) = false := by simp; omega
  simp only [binO, binV, shiftBin, this, cond_false]
theorem b_shl {t : Nat} {p q : Operand} {k j : IntKind} {a b : Int} (h : 0 ≤ b) : binO T .shl t p q (some (.lit (.int k a))) (some (.lit (.int j b))) = some (.lit (.int k (k.wrap (a * 2 ^ (min b.toNat k.bits))))) := by
  have : decide (b < 0) = false := by simp; omega
  simp only [binO, binV, shiftBin, this, cond_false]
theorem b_seql {t : Nat} {p q : Operand} {a b : List UInt8} : binO T .eql t p q (some (.str a)) (some (.str b)) = some (.lit (.bool (a == b))) := rfl
theorem b_sneq {t : Nat} {p q : Operand} {a b : List UInt8} : binO T .neq t p q (some (.str a)) (some (.str b)) = some (.lit (.bool !(a == b))) := rfl
theorem b_slss {t : Nat} {p q : Operand} {a b : List UInt8} : binO T .lss t p q (some (.str a)) (some (.str b)) = some (.lit (.bool (Op.bytesLess a b))) := rfl
theorem b_sadd {t : Nat} {p q : Operand} {a b : List UInt8} (h : a.length + b.length ≤ 9223372036854775807) : binO T .add t p q (some (.str a)) (some (.str b)) = some (.str (a ++ b)) := by
  simp only [binO, binV, strBin]
  rw [show Nat.ble (a.length + b.length) 9223372036854775807 = true from ble_le.2 h, cond_true]
end
end Go.Proofs.Ytbcecenneganeaa.Ev
