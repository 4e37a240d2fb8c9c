/- PROVED: 'Rows.MissNilSaid': for every input 'verderer/verdererlaw22.MissNil' returns true, and each argument reads behind the call as it read before. No condition beyond the statement's own. -/
import Derived.Test.YtjijhjlphaoeoaaTabMissNil
import Derived.Test.YtjijhjlphaoeoaaEvL
import Derived.Test.YtjijhjlphaoeoaaRows
set_option linter.all false
set_option maxRecDepth 100000
namespace Go.Proofs.Ytjijhjlphaoeoaa.LawMissNil
open Go Go.Proofs Go.Proofs.Ytjijhjlphaoeoaa Go.Proofs.Ytjijhjlphaoeoaa.Ev Go.ChangeShapes Go.WideShapes Go.ChangeAt Go.RowKit

theorem ran : saysTrue (run TabMissNil.tab 100000 11 ((List.range' 0 1).map .opq)) = true := by kernel_rfl
theorem walk : Walk Try.prog 11 1 := walk_of_run TabMissNil.tok ran

theorem own : ownKnob Try.prog.godebug = none := by kernel_rfl
theorem laidOut : laidOutB Try.prog = true := by kernel_rfl
theorem tms : Try.f11.params.toList.all (fun t => Try.prog.readableRec t && decide (t < Try.prog.types.size)) = true := by kernel_rfl
theorem many : Try.f11.params.toList.length = 1 := by kernel_rfl

theorem lifted (os : Os) (started : os.Started) (H : Type) (enc : TypeId × Value → H) :
    ReturnsInHanded {} Try.checked os 11 .any (Rows.missNilSpec.pre6 enc Try.prog Try.f11 Rows.missNilRow.domain false) (Rows.missNilSpec.post enc Try.prog Try.f11 false true false false) := by
  refine returnsInHanded_of_change (C := Try.checked) own started (by kernel_rfl) Try.func11
    (ChangeSpec.witness6 (enc := enc) (C := Try.checked) false ⟨#[], #[.slice none 0 0], []⟩ 8 (by kernel_rfl) (by kernel_rfl) (by kernel_rfl) (by kernel_rfl)) ?_
  intro W base args ds gs before hval hW hcnd _
  have hsz : args.size = 1 := by
    have := whole_size hW
    rw [many] at this
    simpa using this
  refine (walk args W hsz).mono fun e W' ⟨he, hb⟩ => ?_
  subst he
  refine ⟨_, rfl, law_post laidOut tms rfl hW (fun ds hl => ?_) hb (tb := 4) (by kernel_rfl) (by kernel_rfl)⟩
  rw [many] at hl
  match ds, hl with
  | [_], _ => exact ⟨rfl, rfl, rfl⟩

theorem over : Rows.missNilRow.holds Try.pinned (OpenSpec.ofChange Rows.missNilSpec) :=
  OpenClaim.holds_of_wide 11 Try.f11 rfl rfl rfl rfl rfl rfl rfl ⟨rfl, rfl, rfl, rfl, rfl⟩ rfl rfl rfl rfl rfl (by kernel_rfl) Try.func11 (by kernel_rfl)
    (of_decide_eq_true (by kernel_rfl)) (by unfold Func.isWrapper; first | (rw [if_pos (by decide +kernel)]; kernel_rfl) | (rw [if_neg (by decide +kernel)]; exact ⟨rfl, rfl⟩))
    (fun os started H enc _ => lifted os started H enc)

theorem proved : Rows.MissNilSaid :=
  over
#print axioms proved
end Go.Proofs.Ytjijhjlphaoeoaa.LawMissNil
