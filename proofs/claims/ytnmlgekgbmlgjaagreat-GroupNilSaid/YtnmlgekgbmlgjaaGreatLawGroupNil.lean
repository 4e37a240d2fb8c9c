/- PROVED: 'Rows.GroupNilSaid': for every input 'verderer/verdererlaw23.GroupNil' returns true, and each argument reads behind the call as it read before. No condition beyond the statement's own. -/
import Derived.Test.YtnmlgekgbmlgjaaGreatTabGroupNil
import Derived.Test.YtnmlgekgbmlgjaaGreatEvL
import Derived.Test.YtnmlgekgbmlgjaaGreatRows
set_option linter.all false
set_option maxRecDepth 100000
namespace Go.Proofs.YtnmlgekgbmlgjaaGreat.LawGroupNil
open Go Go.Proofs Go.Proofs.YtnmlgekgbmlgjaaGreat Go.Proofs.YtnmlgekgbmlgjaaGreat.Ev Go.ChangeShapes Go.WideShapes Go.ChangeAt Go.RowKit

theorem ran : saysTrue (run TabGroupNil.tab 100000 3 ((List.range' 0 1).map .opq)) = true := by kernel_rfl
theorem walk : Walk Tryz.prog 3 1 := walk_of_run TabGroupNil.tok ran

theorem own : ownKnob Tryz.prog.godebug = none := by kernel_rfl
theorem laidOut : laidOutB Tryz.prog = true := by kernel_rfl
theorem tms : Tryz.f3.params.toList.all (fun t => Tryz.prog.readableRec t && decide (t < Tryz.prog.types.size)) = true := by kernel_rfl
theorem many : Tryz.f3.params.toList.length = 1 := by kernel_rfl

theorem lifted (os : Os) (started : os.Started) (H : Type) (enc : TypeId × Value → H) :
    ReturnsInHanded {} Tryz.checked os 3 .any (Rows.groupNilSpec.pre6 enc Tryz.prog Tryz.f3 Rows.groupNilRow.domain false) (Rows.groupNilSpec.post enc Tryz.prog Tryz.f3 false true false false) := by
  refine returnsInHanded_of_change (C := Tryz.checked) own started (by kernel_rfl) Tryz.func3
    (ChangeSpec.witness6 (enc := enc) (C := Tryz.checked) false ⟨#[], #[.slice none 0 0], []⟩ 8 (by kernel_rfl) (by kernel_rfl) (by kernel_rfl) (by kernel_rfl)) ?_
  intro W base args ds gs before hval hW hcnd _
  have hsz : args.size = 1 := by
    have := whole_size hW
    rw [many] at this
    simpa using this
  refine (walk args W hsz).mono fun e W' ⟨he, hb⟩ => ?_
  subst he
  refine ⟨_, rfl, law_post laidOut tms rfl hW (fun ds hl => ?_) hb (tb := 4) (by kernel_rfl) (by kernel_rfl)⟩
  rw [many] at hl
  match ds, hl with
  | [_], _ => exact ⟨rfl, rfl, rfl⟩

theorem over : Rows.groupNilRow.holds Tryz.pinned (OpenSpec.ofChange Rows.groupNilSpec) :=
  OpenClaim.holds_of_wide 3 Tryz.f3 rfl rfl rfl rfl rfl rfl rfl ⟨rfl, rfl, rfl, rfl, rfl⟩ rfl rfl rfl rfl rfl (by kernel_rfl) Tryz.func3 (by kernel_rfl)
    (of_decide_eq_true (by kernel_rfl)) (by unfold Func.isWrapper; first | (rw [if_pos (by decide +kernel)]; kernel_rfl) | (rw [if_neg (by decide +kernel)]; exact ⟨rfl, rfl⟩))
    (fun os started H enc _ => lifted os started H enc)

theorem proved : Rows.GroupNilSaid :=
  over
#print axioms proved
end Go.Proofs.YtnmlgekgbmlgjaaGreat.LawGroupNil
