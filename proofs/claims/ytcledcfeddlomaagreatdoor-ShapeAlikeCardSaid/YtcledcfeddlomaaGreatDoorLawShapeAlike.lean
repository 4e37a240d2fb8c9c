/- PROVED: 'Rows.ShapeAlikeCardSaid': for every two lists of pieces 'verderer/verdererlaw18.ShapeAlike' returns true, and each argument reads behind the call as it read before, in a world whose listed package variables hold what their initialisers lay. No condition beyond the statement's own. -/
import Derived.Test.YtcledcfeddlomaaGreatDoorV1
import Derived.Test.YtcledcfeddlomaaGreatDoorCards
import Derived.Test.YtcledcfeddlomaaGreatDoorTie
import Derived.Deep.DeepHandedRow
import Derived.Deep.DeepWitnessRowRef
import Derived.Deep.DeepLaidRun
import Derived.SevenTiedAt
set_option linter.all false
set_option maxRecDepth 1000000
namespace Go.Proofs.YtcledcfeddlomaaGreatDoor.LawShapeAlike
open Go Go.Proofs.YtcledcfeddlomaaGreatDoor.Ev Go.Proofs Go.Proofs.YtcledcfeddlomaaGreatDoor Go.ChangeShapes Go.WideShapes Go.ChangeAt Go.RowKit

theorem own : ownKnob Tryz.prog.godebug = none := by kernel_rfl
theorem laidOut : laidOutB Tryz.prog = true := by kernel_rfl
theorem tms : Tryz.f6.params.toList.all (fun t => Tryz.prog.readableRec t && decide (t < Tryz.prog.types.size)) = true := by kernel_rfl
theorem prs : Tryz.f6.params.toList = [22, 22] := by kernel_rfl
theorem noHandle : (Rows.shapeAlikeRow.laid.filter fun x => x.2.handleName?.isSome) = [] := by kernel_rfl
theorem met_of {w : World} : laidMetH Tryz.prog Rows.shapeAlikeRow.laid w ↔ laidMet Tryz.prog Rows.shapeAlikeRow.laid w := by
  unfold laidMetH
  rw [noHandle]

/-- A WORLD FOR THE WITNESS: the settled one, each listed variable holding what its initialiser lays. -/
def cellsD : Nat → DataW Unit → List Value
  | n + 1, .agg ps => ps.flatMap (cellsD n)
  | _, .lit (.int k z) => [.int k z]
  | _, _ => []
abbrev rangeS : ByteArray := { data := #[118, 97, 108, 117, 101, 32, 111, 117, 116, 32, 111, 102, 32, 114, 97, 110, 103, 101] }
abbrev syntaxS : ByteArray := { data := #[105, 110, 118, 97, 108, 105, 100, 32, 115, 121, 110, 116, 97, 120] }
noncomputable def low : Nat := (World.holding Tryz.prog default ⟨#[], #[], []⟩).heap.size
def lay (cs : List Value) : Obj → Obj
  | .cells _ t frozen => .cells cs.toArray t frozen
  | o => o
noncomputable def laidWorld (os : Os) : World :=
  let w0 := World.holding Tryz.prog os ⟨#[.cells #[.string rangeS] 211, .cells #[.string syntaxS] 211], #[], []⟩
  { w0 with heap := ((((((w0.heap.modify 1 (lay (cellsD 3 Rows.laid_unicode_utf8_first))).modify 2 (lay (cellsD 3 Rows.laid_unicode_utf8_acceptRanges))).modify 3 (lay [.iface 209 (.pointer (some ⟨low + 1, 0, none⟩))])).modify 4 (lay [.iface 209 (.pointer (some ⟨low, 0, none⟩))])).modify 5 (lay (cellsD 3 Rows.laid_internal_strconv_uint64pow10))).modify 6 (lay (cellsD 3 Rows.laid_math_bits_deBruijn32tab))).modify 7 (lay (cellsD 3 Rows.laid_math_bits_deBruijn64tab)) }
theorem laid_met (os : Os) : laidMet Tryz.prog Rows.shapeAlikeRow.laid ((laidWorld os).forCall (fun _ _ => 0) ⟨#[], #[.slice none 0 0, .slice none 0 0], []⟩).memory :=
  laidMet_of_run3 8 (by kernel_rfl) (by kernel_rfl) (by kernel_rfl)
theorem reads (os : Os) {H : Type} (enc : TypeId × Value → H) : ∃ places, DataW.whole enc Tryz.prog ((laidWorld os).forCall (fun _ _ => 0) ⟨#[], #[.slice none 0 0, .slice none 0 0], []⟩).memory Tryz.f6.params.toList Rows.shapeAlikeSpec.vars false #[Value.slice none 0 0, Value.slice none 0 0].toList 8 = some ([.nil, .nil], [], places) :=
  ⟨[], by kernel_rfl⟩

theorem lifted (os : Os) (started : os.Started) (H : Type) (enc : TypeId × Value → H) (F : Stop.Interp) :
    ReturnsInHanded {} Tryz.checked os 6 .any ((OpenSpec.ofChange Rows.shapeAlikeSpec).preRow enc Tryz.prog Tryz.f6 Rows.shapeAlikeRow.domain false Rows.shapeAlikeRow.laid) (((OpenSpec.ofChange Rows.shapeAlikeSpec).at F).post enc Tryz.prog Tryz.f6 false true false false) := by
  obtain ⟨places, hx⟩ := reads os enc
  refine returnsInHanded_of_row (C := Tryz.checked) (s := OpenSpec.ofChange Rows.shapeAlikeSpec) own started (by kernel_rfl) Tryz.func6
    (witness_row_atRef (enc := enc) (C := Tryz.checked) false (laidWorld os) #[.slice none 0 0, .slice none 0 0] rfl (by kernel_rfl) (by kernel_rfl) (by kernel_rfl)
      (OpenSpec.preRow_of_cond 8 hx (by kernel_rfl) (fun k hk => by cases hk) (by kernel_rfl) (met_of.2 (laid_met os)))) ?_
  intro W base args ds gs before hval hW _ _ hz hL hS _
  obtain ⟨q, hg⟩ := glOk (met_of.1 hL) hS
  refine (law_walkG Tab.tok Tab.tchk (ts := Tryz.f6.params.toList) (by rw [prs]; exact walk6 q) (fun j t v h1 h2 => hval j t v (by rw [Array.getElem?_toList] at h1; exact h1) h2) hW hz hg).mono fun e W' ⟨he, hb⟩ => ?_
  subst he
  refine ⟨_, rfl, law_post laidOut tms rfl hW (fun ds hl => ?_) hb (tb := 4) (by kernel_rfl) (by kernel_rfl)⟩
  rw [prs] at hl
  match ds, hl with
  | [_, _], _ => exact ⟨rfl, rfl, rfl⟩

theorem said : Rows.ShapeAlikeSaid :=
  OpenClaim.holds_of_cond 6 Tryz.f6 rfl rfl rfl rfl rfl rfl rfl ⟨rfl, rfl, rfl, rfl, rfl⟩ rfl rfl rfl rfl rfl (by kernel_rfl) Tryz.func6 (by kernel_rfl)
    (of_decide_eq_true (by kernel_rfl)) (by unfold Func.isWrapper; first | (rw [if_pos (by decide +kernel)]; kernel_rfl) | (rw [if_neg (by decide +kernel)]; exact ⟨rfl, rfl⟩))
    (fun os started H enc _ F => by rw [OpenClaim.pre_eq_preRow]; exact lifted os started H enc F)

theorem plain (f : FuncId) (fn : Func) (hf : Tryz.pinned.checked.prog.funcNamed "verderer/verdererlaw18.ShapeAlike" = some f) (hfn : Tryz.pinned.checked.prog.funcs[f]? = some fn) :
    true = Tryz.pinned.checked.prog.looks [] ∧ ∀ (j : Nat) t, fn.params[j]? = some t → Tryz.pinned.checked.prog.wantsStandIn t = false := by
  obtain rfl : f = 6 := Option.some.inj ((show Tryz.prog.funcNamed "verderer/verdererlaw18.ShapeAlike" = some 6 by kernel_rfl).symm.trans hf) |>.symm
  obtain rfl : fn = Tryz.f6 := (Option.some.inj (Tryz.func6.symm.trans hfn)).symm
  refine ⟨by kernel_rfl, fun j t ht => ?_⟩
  have h22 : t = 22 := by
    rw [Tryz.params6] at ht
    have := Array.mem_of_getElem? ht
    simpa using this
  subst h22
  exact (show Tryz.prog.wantsStandIn 22 = false by kernel_rfl)

/-- THE CARD. -/
theorem proved : Rows.ShapeAlikeCardSaid :=
  Claim7.holds_tied_plain_at .later [] _ _ _ _ said (fun _ h => by cases h) (by kernel_rfl) (fun _ h => by cases h) shapeAlike_row_tie rfl ⟨rfl, rfl⟩ (by kernel_rfl) rfl plain (by kernel_rfl)
#print axioms proved
end Go.Proofs.YtcledcfeddlomaaGreatDoor.LawShapeAlike
