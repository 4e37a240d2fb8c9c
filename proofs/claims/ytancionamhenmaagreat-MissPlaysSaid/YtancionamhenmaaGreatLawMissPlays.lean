/- PROVED: 'Rows.MissPlaysSaid': for every input 'verderer/verdererlaw22.MissPlays' returns true, and each argument reads behind the call as it read before. No condition beyond the statement's own. -/
import Derived.Test.YtancionamhenmaaGreatGB
import Derived.Test.YtancionamhenmaaGreatRows
set_option linter.all false
set_option maxRecDepth 100000
namespace Go.Proofs.YtancionamhenmaaGreat.LawMissPlays
open Go Go.Proofs Go.Proofs.YtancionamhenmaaGreat Go.Proofs.YtancionamhenmaaGreat.Ev Go.ChangeShapes Go.WideShapes Go.ChangeAt Go.RowKit

theorem own : ownKnob Tryz.prog.godebug = none := by kernel_rfl
theorem laidOut : laidOutB Tryz.prog = true := by kernel_rfl
theorem tms : Tryz.f3.params.toList.all (fun t => Tryz.prog.readableRec t && decide (t < Tryz.prog.types.size)) = true := by kernel_rfl
theorem prs : Tryz.f3.params.toList = [3, 3, 22, 23] := by kernel_rfl

theorem lifted (os : Os) (started : os.Started) (H : Type) (enc : TypeId × Value -> H) :
    ReturnsInHanded {} Tryz.checked os 3 .any (Rows.missPlaysSpec.pre6 enc Tryz.prog Tryz.f3 Rows.missPlaysRow.domain false) (Rows.missPlaysSpec.post enc Tryz.prog Tryz.f3 false true false false) := by
  refine returnsInHanded_of_change (C := Tryz.checked) own started (by kernel_rfl) Tryz.func3
    (ChangeSpec.witness6 (enc := enc) (C := Tryz.checked) false ⟨#[], #[.int .i64 0, .int .i64 0, .slice none 0 0, .slice none 0 0], []⟩ 8 (by kernel_rfl) (by kernel_rfl) (by kernel_rfl) (by kernel_rfl)) ?_
  intro W base args ds gs before hval hW hcnd _
  refine (law_walk Tab.tok Tab.tchk (ts := Tryz.f3.params.toList) (by rw [prs]; exact walk3) (fun j t v h1 h2 => hval j t v (by rw [Array.getElem?_toList] at h1; exact h1) h2) hW).mono fun e W' ⟨he, hb⟩ => ?_
  subst he
  refine ⟨_, rfl, law_post laidOut tms rfl hW (fun ds hl => ?_) hb (tb := 4) (by kernel_rfl) (by kernel_rfl)⟩
  rw [prs] at hl
  match ds, hl with
  | [_, _, _, _], _ => exact ⟨rfl, rfl, rfl⟩

theorem over : Rows.missPlaysRow.holds Tryz.pinned (OpenSpec.ofChange Rows.missPlaysSpec) :=
  OpenClaim.holds_of_wide 3 Tryz.f3 rfl rfl rfl rfl rfl rfl rfl ⟨rfl, rfl, rfl, rfl, rfl⟩ rfl rfl rfl rfl rfl (by kernel_rfl) Tryz.func3 (by kernel_rfl)
    (of_decide_eq_true (by kernel_rfl)) (by unfold Func.isWrapper; first | (rw [if_pos (by decide +kernel)]; kernel_rfl) | (rw [if_neg (by decide +kernel)]; exact ⟨rfl, rfl⟩))
    (fun os started H enc _ => lifted os started H enc)

theorem proved : Rows.MissPlaysSaid :=
  over
#print axioms proved
end Go.Proofs.YtancionamhenmaaGreat.LawMissPlays
