/- PROVED: 'Rows.ExplainRightSaid': for every input 'verderer/verdererlaw37.ExplainRight' returns true, and each argument reads behind the call as it read before. No condition beyond the statement's own. -/
import Derived.Test.YtpehpccahbofiaaYB
import Derived.Test.YtpehpccahbofiaaRows
set_option linter.all false
set_option maxRecDepth 100000
namespace Go.Proofs.Ytpehpccahbofiaa.LawExplainRight
open Go Go.Proofs Go.Proofs.Ytpehpccahbofiaa Go.Proofs.Ytpehpccahbofiaa.Ev Go.ChangeShapes Go.WideShapes Go.ChangeAt Go.RowKit

theorem own : ownKnob Try.prog.godebug = none := by kernel_rfl
theorem laidOut : laidOutB Try.prog = true := by kernel_rfl
theorem tms : Try.f5.params.toList.all (fun t => Try.prog.readableRec t && decide (t < Try.prog.types.size)) = true := by kernel_rfl
theorem prs : Try.f5.params.toList = [25, 26, 27] := by kernel_rfl

theorem lifted (os : Os) (started : os.Started) (H : Type) (enc : TypeId × Value → H) :
    ReturnsInHanded {} Try.checked os 5 .any (Rows.explainRightSpec.pre6 enc Try.prog Try.f5 Rows.explainRightRow.domain false) (Rows.explainRightSpec.post enc Try.prog Try.f5 false true false false) := by
  refine returnsInHanded_of_change (C := Try.checked) own started (by kernel_rfl) Try.func5
    (ChangeSpec.witness6 (enc := enc) (C := Try.checked) false ⟨#[], #[.agg #[.int .i64 0, .string ⟨#[]⟩, .slice none 0 0, .int .i64 0, .string ⟨#[]⟩, .int .i64 0, .slice none 0 0], .slice none 0 0, .slice none 0 0], []⟩ 8 (by kernel_rfl) (by kernel_rfl) (by kernel_rfl) (by kernel_rfl)) ?_
  intro W base args ds gs before hval hW hcnd _
  refine (law_walk Tab.tok Tab.tchk (ts := Try.f5.params.toList) (by rw [prs]; exact walk5) (fun j t v h1 h2 => hval j t v (by rw [Array.getElem?_toList] at h1; exact h1) h2) hW).mono fun e W' ⟨he, hb⟩ => ?_
  subst he
  refine ⟨_, rfl, law_post laidOut tms rfl hW (fun ds hl => ?_) hb (tb := 4) (by kernel_rfl) (by kernel_rfl)⟩
  rw [prs] at hl
  match ds, hl with
  | [_, _, _], _ => exact ⟨rfl, rfl, rfl⟩

theorem over : Rows.explainRightRow.holds Try.pinned (OpenSpec.ofChange Rows.explainRightSpec) :=
  OpenClaim.holds_of_wide 5 Try.f5 rfl rfl rfl rfl rfl rfl rfl ⟨rfl, rfl, rfl, rfl, rfl⟩ rfl rfl rfl rfl rfl (by kernel_rfl) Try.func5 (by kernel_rfl)
    (of_decide_eq_true (by kernel_rfl)) (by unfold Func.isWrapper; first | (rw [if_pos (by decide +kernel)]; kernel_rfl) | (rw [if_neg (by decide +kernel)]; exact ⟨rfl, rfl⟩))
    (fun os started H enc _ => lifted os started H enc)

theorem proved : Rows.ExplainRightSaid :=
  over
#print axioms proved
end Go.Proofs.Ytpehpccahbofiaa.LawExplainRight
