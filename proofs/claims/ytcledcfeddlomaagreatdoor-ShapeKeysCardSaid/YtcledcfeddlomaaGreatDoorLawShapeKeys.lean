/- PROVED: 'Rows.ShapeKeysCardSaid': for every list of pieces 'verderer/verdererlaw18.ShapeKeys' returns true, and the argument reads behind the call as it read before, in a world whose listed package variables hold what their initialisers lay. No condition beyond the statement's own. -/
import Derived.Test.YtcledcfeddlomaaGreatDoorV1
import Derived.Test.YtcledcfeddlomaaGreatDoorV1
import Derived.Test.YtcledcfeddlomaaGreatDoorCards
import Derived.Test.YtcledcfeddlomaaGreatDoorTie
import Derived.Deep.DeepHandedRow
import Derived.Deep.DeepWitnessRowRef
import Derived.Deep.DeepLaidRun
import Derived.SevenTiedAt
set_option linter.all false
set_option maxRecDepth 1000000
namespace Go.Proofs.YtcledcfeddlomaaGreatDoor.LawShapeKeys
open Go Go.Proofs.YtcledcfeddlomaaGreatDoor.Ev Go.Proofs Go.Proofs.YtcledcfeddlomaaGreatDoor Go.ChangeShapes Go.WideShapes Go.ChangeAt Go.RowKit
theorem own : ownKnob Tryz.prog.godebug = none := by kernel_rfl
theorem laidOut : laidOutB Tryz.prog = true := by kernel_rfl
theorem tms : Tryz.f3.params.toList.all (fun t => Tryz.prog.readableRec t && decide (t < Tryz.prog.types.size)) = true := by kernel_rfl
theorem prs : Tryz.f3.params.toList = [22] := by kernel_rfl
theorem noHandle : (Rows.shapeKeysRow.laid.filter fun x => x.2.handleName?.isSome) = [] := by kernel_rfl
theorem met_of {w : World} : laidMetH Tryz.prog Rows.shapeKeysRow.laid w ↔ laidMet Tryz.prog Rows.shapeKeysRow.laid w := by
 unfold laidMetH
 rw [noHandle]
def cellsD : Nat -> DataW Unit -> List Value
 | n + 1, .agg ps => ps.flatMap (cellsD n)
 | _, .lit (.int k z) => [.int k z]
 | _, _ => []
abbrev rangeS : ByteArray := { data := #[118, 97, 108, 117, 101, 32, 111, 117, 116, 32, 111, 102, 32, 114, 97, 110, 103, 101] }
abbrev syntaxS : ByteArray := { data := #[105, 110, 118, 97, 108, 105, 100, 32, 115, 121, 110, 116, 97, 120] }
noncomputable def low : Nat := (World.holding Tryz.prog default ⟨#[], #[], []⟩).heap.size
def lay (cs : List Value) : Obj -> Obj
 | .cells _ t frozen => .cells cs.toArray t frozen
 | o => o
noncomputable def laidWorld (os : Os) : World :=
 let w0 := World.holding Tryz.prog os ⟨#[.cells #[.string rangeS] 211, .cells #[.string syntaxS] 211], #[], []⟩
 { w0 with heap := ((((((w0.heap.modify 1 (lay (cellsD 3 Rows.laid_unicode_utf8_first))).modify 2 (lay (cellsD 3 Rows.laid_unicode_utf8_acceptRanges))).modify 3 (lay [.iface 209 (.pointer (some ⟨low + 1, 0, none⟩))])).modify 4 (lay [.iface 209 (.pointer (some ⟨low, 0, none⟩))])).modify 5 (lay (cellsD 3 Rows.laid_internal_strconv_uint64pow10))).modify 6 (lay (cellsD 3 Rows.laid_math_bits_deBruijn32tab))).modify 7 (lay (cellsD 3 Rows.laid_math_bits_deBruijn64tab)) }
theorem laid_met (os : Os) : laidMet Tryz.prog Rows.shapeKeysRow.laid ((laidWorld os).forCall (fun _ _ => 0) ⟨#[], #[.slice none 0 0], []⟩).memory :=
 laidMet_of_run3 8 (by kernel_rfl) (by kernel_rfl) (by kernel_rfl)
theorem reads (os : Os) {H : Type} (enc : TypeId × Value -> H) : ∃ places, DataW.whole enc Tryz.prog ((laidWorld os).forCall (fun _ _ => 0) ⟨#[], #[.slice none 0 0], []⟩).memory Tryz.f3.params.toList Rows.shapeKeysSpec.vars false #[Value.slice none 0 0].toList 8 = some ([.nil], [], places) :=
 ⟨[], by kernel_rfl⟩
theorem lifted (os : Os) (started : os.Started) (H : Type) (enc : TypeId × Value -> H) (F : Stop.Interp) :
  ReturnsInHanded {} Tryz.checked os 3 .any ((OpenSpec.ofChange Rows.shapeKeysSpec).preRow enc Tryz.prog Tryz.f3 Rows.shapeKeysRow.domain false Rows.shapeKeysRow.laid) (((OpenSpec.ofChange Rows.shapeKeysSpec).at F).post enc Tryz.prog Tryz.f3 false true false false) := by
 obtain ⟨places, hx⟩ := reads os enc
 refine returnsInHanded_of_row (C := Tryz.checked) (s := OpenSpec.ofChange Rows.shapeKeysSpec) own started (by kernel_rfl) Tryz.func3
  (witness_row_atRef (enc := enc) (C := Tryz.checked) false (laidWorld os) #[.slice none 0 0] rfl (by kernel_rfl) (by kernel_rfl) (by kernel_rfl)
   (OpenSpec.preRow_of_cond 8 hx (by kernel_rfl) (fun k hk => by cases hk) (by kernel_rfl) (met_of.2 (laid_met os)))) ?_
 intro W base args ds gs before hval hW _ _ hz hL hS _
 obtain ⟨q, hg⟩ := glOk (met_of.1 hL : laidMet Tryz.prog Rows.shapeAlikeRow.laid W) hS
 refine (law_walkG Tab.tok Tab.tchk (ts := Tryz.f3.params.toList) (by rw [prs]; exact walk3 q) (fun j t v h1 h2 => hval j t v (by rw [Array.getElem?_toList] at h1; exact h1) h2) hW hz hg).mono fun e W' ⟨he, hb⟩ => ?_
 subst he
 refine ⟨_, rfl, law_post laidOut tms rfl hW (fun ds hl => ?_) hb (tb := 4) (by kernel_rfl) (by kernel_rfl)⟩
 rw [prs] at hl
 match ds, hl with
 | [_], _ => exact ⟨rfl, rfl, rfl⟩
theorem said : Rows.ShapeKeysSaid :=
 OpenClaim.holds_of_cond 3 Tryz.f3 rfl rfl rfl rfl rfl rfl rfl ⟨rfl, rfl, rfl, rfl, rfl⟩ rfl rfl rfl rfl rfl (by kernel_rfl) Tryz.func3 (by kernel_rfl)
  (of_decide_eq_true (by kernel_rfl)) (by unfold Func.isWrapper; first | (rw [if_pos (by decide +kernel)]; kernel_rfl) | (rw [if_neg (by decide +kernel)]; exact ⟨rfl, rfl⟩))
  (fun os started H enc _ F => by rw [OpenClaim.pre_eq_preRow]; exact lifted os started H enc F)
theorem plain (f : FuncId) (fn : Func) (hf : Tryz.pinned.checked.prog.funcNamed "verderer/verdererlaw18.ShapeKeys" = some f) (hfn : Tryz.pinned.checked.prog.funcs[f]? = some fn) :
  true = Tryz.pinned.checked.prog.looks [] /\ ∀ (j : Nat) t, fn.params[j]? = some t -> Tryz.pinned.checked.prog.wantsStandIn t = false := by
 obtain rfl : f = 3 := Option.some.inj ((show Tryz.prog.funcNamed "verderer/verdererlaw18.ShapeKeys" = some 3 by kernel_rfl).symm.trans hf) |>.symm
 obtain rfl : fn = Tryz.f3 := (Option.some.inj (Tryz.func3.symm.trans hfn)).symm
 refine ⟨by kernel_rfl, fun j t ht => ?_⟩
 have h22 : t = 22 := by
  rw [Tryz.params3] at ht
  have := Array.mem_of_getElem? ht
  simpa using this
 subst h22
 exact (show Tryz.prog.wantsStandIn 22 = false by kernel_rfl)
theorem proved : Rows.ShapeKeysCardSaid :=
 Claim7.holds_tied_plain_at .later [] _ _ _ _ said (fun _ h => by cases h) (by kernel_rfl) (fun _ h => by cases h) shapeKeys_row_tie rfl ⟨rfl, rfl⟩ (by kernel_rfl) rfl plain (by kernel_rfl)
#print axioms proved
end Go.Proofs.YtcledcfeddlomaaGreatDoor.LawShapeKeys
