/-
  No cell of these rows narrows 'for every input' (looked for: loops, veiled, ifaces, maps, wideKeys, modest, calm, conditions, laid).
  DERIVED. THE GIVEN ROWS OF THIS SEAT. 9 by the template 'for every input the law returns true; each argument reads behind the call as it read before'; 0 by the template 'total and deterministic' (their statements: YtbcecenneganeaaTotals.lean).
  GIVEN WITH THE SEED: the statements are not yours to turn. If you find one false, say at which input.
  Laid BY PROGRAM, IN A SANDBOX (cutbox-rows.mjs): the forced cells as the released guide's own fill.sh prints them over the translation cafbf7b5563378c1… (all of the seat's roots in one cut). By AI agents, Wed Nov 11 2026. No macro, syntax, notation, axiom, sorry.
-/
import Derived.Test.YtbcecenneganeaaChecked
import GoSem.Claim
import GoSem.ClaimJoined
import GoSem.ClaimMapViews
import Derived.JoinedTies
import Derived.KernelRfl
namespace Go.Proofs.Ytbcecenneganeaa
/- THE CELL 'sum', in the pinned program and in every row, IS THE sha256 OF THE DUMP (.gsa) THAT YtbcecenneganeaaProg.lean LOADS. Nothing in Lean hashes anything: it is a label: what it is worth is what the hold of that sum in a sandbox is worth. -/
noncomputable def Try.pinned : Pinned := { name := "ytbcecenneganeaa", sum := "cafbf7b5563378c1670ab7100404d4e61fdee1032838058ed24e9c1f46c187cc", checked := Try.checked }
namespace Rows
def none {H : Type} : Left H := { results := [], args := [] }

/-- 'verdererlaw39.DrillRolls': WHATEVER THE INPUT: true; the input reads as it did. -/
def drillRollsSpec : ChangeSpec := { name := "drillRolls", fn := fun _ => fun
  | [d1, d2, d3] => { results := [.lit (.bool true)], args := [d1, d2, d3] }
  | _ => none }
def drillRollsRow : OpenClaim := { program := "ytbcecenneganeaa", sum := "cafbf7b5563378c1670ab7100404d4e61fdee1032838058ed24e9c1f46c187cc", func := "verderer/verdererlaw39.DrillRolls", spec := "drillRolls", unfollowed := true, recurses := true, apart := false }
def DrillRollsSaid : Prop := drillRollsRow.holds Try.pinned (OpenSpec.ofChange drillRollsSpec)

/-- ITS FALSE NEIGHBOUR: 'it returns false'. Refute it at one input. -/
def drillRollsWrong : ChangeSpec := { name := "drillRolls", fn := fun _ => fun
  | [d1, d2, d3] => { results := [.lit (.bool false)], args := [d1, d2, d3] }
  | _ => none }
def DrillRollsWrongFalsely : Prop := drillRollsRow.holds Try.pinned (OpenSpec.ofChange drillRollsWrong)

/-- 'verdererlaw39.DrillSteps': WHATEVER THE INPUT: true; the input reads as it did. -/
def drillStepsSpec : ChangeSpec := { name := "drillSteps", fn := fun _ => fun
  | [d1, d2] => { results := [.lit (.bool true)], args := [d1, d2] }
  | _ => none }
def drillStepsRow : OpenClaim := { program := "ytbcecenneganeaa", sum := "cafbf7b5563378c1670ab7100404d4e61fdee1032838058ed24e9c1f46c187cc", func := "verderer/verdererlaw39.DrillSteps", spec := "drillSteps", unfollowed := true, recurses := true, apart := false }
def DrillStepsSaid : Prop := drillStepsRow.holds Try.pinned (OpenSpec.ofChange drillStepsSpec)

/-- ITS FALSE NEIGHBOUR: 'it returns false'. Refute it at one input. -/
def drillStepsWrong : ChangeSpec := { name := "drillSteps", fn := fun _ => fun
  | [d1, d2] => { results := [.lit (.bool false)], args := [d1, d2] }
  | _ => none }
def DrillStepsWrongFalsely : Prop := drillStepsRow.holds Try.pinned (OpenSpec.ofChange drillStepsWrong)

/-- 'verdererlaw39.DrillFirst': WHATEVER THE INPUT: true; the input reads as it did. -/
def drillFirstSpec : ChangeSpec := { name := "drillFirst", fn := fun _ => fun
  | [d1, d2, d3] => { results := [.lit (.bool true)], args := [d1, d2, d3] }
  | _ => none }
def drillFirstRow : OpenClaim := { program := "ytbcecenneganeaa", sum := "cafbf7b5563378c1670ab7100404d4e61fdee1032838058ed24e9c1f46c187cc", func := "verderer/verdererlaw39.DrillFirst", spec := "drillFirst", unfollowed := true, recurses := true, apart := false }
def DrillFirstSaid : Prop := drillFirstRow.holds Try.pinned (OpenSpec.ofChange drillFirstSpec)

/-- ITS FALSE NEIGHBOUR: 'it returns false'. Refute it at one input. -/
def drillFirstWrong : ChangeSpec := { name := "drillFirst", fn := fun _ => fun
  | [d1, d2, d3] => { results := [.lit (.bool false)], args := [d1, d2, d3] }
  | _ => none }
def DrillFirstWrongFalsely : Prop := drillFirstRow.holds Try.pinned (OpenSpec.ofChange drillFirstWrong)

/-- 'verdererlaw39.DrillNil': WHATEVER THE INPUT: true; the input reads as it did. -/
def drillNilSpec : ChangeSpec := { name := "drillNil", fn := fun _ => fun
  | [d1, d2] => { results := [.lit (.bool true)], args := [d1, d2] }
  | _ => none }
def drillNilRow : OpenClaim := { program := "ytbcecenneganeaa", sum := "cafbf7b5563378c1670ab7100404d4e61fdee1032838058ed24e9c1f46c187cc", func := "verderer/verdererlaw39.DrillNil", spec := "drillNil", unfollowed := true, recurses := true, apart := false }
def DrillNilSaid : Prop := drillNilRow.holds Try.pinned (OpenSpec.ofChange drillNilSpec)

/-- ITS FALSE NEIGHBOUR: 'it returns false'. Refute it at one input. -/
def drillNilWrong : ChangeSpec := { name := "drillNil", fn := fun _ => fun
  | [d1, d2] => { results := [.lit (.bool false)], args := [d1, d2] }
  | _ => none }
def DrillNilWrongFalsely : Prop := drillNilRow.holds Try.pinned (OpenSpec.ofChange drillNilWrong)

/-- 'verdererlaw37.ExplainTells': WHATEVER THE INPUT: true; the input reads as it did. -/
def explainTellsSpec : ChangeSpec := { name := "explainTells", fn := fun _ => fun
  | [d1, d2, d3] => { results := [.lit (.bool true)], args := [d1, d2, d3] }
  | _ => none }
def explainTellsRow : OpenClaim := { program := "ytbcecenneganeaa", sum := "cafbf7b5563378c1670ab7100404d4e61fdee1032838058ed24e9c1f46c187cc", func := "verderer/verdererlaw37.ExplainTells", spec := "explainTells", inPlace := ["internal/bytealg.abigen_runtime_cmpstring"], unfollowed := true, recurses := true, apart := false }
def ExplainTellsSaid : Prop := explainTellsRow.holds Try.pinned (OpenSpec.ofChange explainTellsSpec)

/-- ITS FALSE NEIGHBOUR: 'it returns false'. Refute it at one input. -/
def explainTellsWrong : ChangeSpec := { name := "explainTells", fn := fun _ => fun
  | [d1, d2, d3] => { results := [.lit (.bool false)], args := [d1, d2, d3] }
  | _ => none }
def ExplainTellsWrongFalsely : Prop := explainTellsRow.holds Try.pinned (OpenSpec.ofChange explainTellsWrong)

/-- 'verdererlaw37.ExplainHolds': WHATEVER THE INPUT: true; the input reads as it did. -/
def explainHoldsSpec : ChangeSpec := { name := "explainHolds", fn := fun _ => fun
  | [d1, d2, d3] => { results := [.lit (.bool true)], args := [d1, d2, d3] }
  | _ => none }
def explainHoldsRow : OpenClaim := { program := "ytbcecenneganeaa", sum := "cafbf7b5563378c1670ab7100404d4e61fdee1032838058ed24e9c1f46c187cc", func := "verderer/verdererlaw37.ExplainHolds", spec := "explainHolds", inPlace := ["internal/bytealg.abigen_runtime_cmpstring"], unfollowed := true, recurses := true, apart := false }
def ExplainHoldsSaid : Prop := explainHoldsRow.holds Try.pinned (OpenSpec.ofChange explainHoldsSpec)

/-- ITS FALSE NEIGHBOUR: 'it returns false'. Refute it at one input. -/
def explainHoldsWrong : ChangeSpec := { name := "explainHolds", fn := fun _ => fun
  | [d1, d2, d3] => { results := [.lit (.bool false)], args := [d1, d2, d3] }
  | _ => none }
def ExplainHoldsWrongFalsely : Prop := explainHoldsRow.holds Try.pinned (OpenSpec.ofChange explainHoldsWrong)

/-- 'verdererlaw37.ExplainRight': WHATEVER THE INPUT: true; the input reads as it did. -/
def explainRightSpec : ChangeSpec := { name := "explainRight", fn := fun _ => fun
  | [d1, d2, d3] => { results := [.lit (.bool true)], args := [d1, d2, d3] }
  | _ => none }
def explainRightRow : OpenClaim := { program := "ytbcecenneganeaa", sum := "cafbf7b5563378c1670ab7100404d4e61fdee1032838058ed24e9c1f46c187cc", func := "verderer/verdererlaw37.ExplainRight", spec := "explainRight", inPlace := ["internal/bytealg.abigen_runtime_cmpstring"], unfollowed := true, recurses := true, apart := false }
def ExplainRightSaid : Prop := explainRightRow.holds Try.pinned (OpenSpec.ofChange explainRightSpec)

/-- ITS FALSE NEIGHBOUR: 'it returns false'. Refute it at one input. -/
def explainRightWrong : ChangeSpec := { name := "explainRight", fn := fun _ => fun
  | [d1, d2, d3] => { results := [.lit (.bool false)], args := [d1, d2, d3] }
  | _ => none }
def ExplainRightWrongFalsely : Prop := explainRightRow.holds Try.pinned (OpenSpec.ofChange explainRightWrong)

/-- 'verdererlaw21.MeetNil': WHATEVER THE INPUT: true; the input reads as it did. -/
def meetNilSpec : ChangeSpec := { name := "meetNil", fn := fun _ => fun
  | [d] => { results := [.lit (.bool true)], args := [d] }
  | _ => none }
def meetNilRow : OpenClaim := { program := "ytbcecenneganeaa", sum := "cafbf7b5563378c1670ab7100404d4e61fdee1032838058ed24e9c1f46c187cc", func := "verderer/verdererlaw21.MeetNil", spec := "meetNil", inPlace := ["internal/bytealg.abigen_runtime_cmpstring"], unfollowed := true, recurses := true, apart := false }
def MeetNilSaid : Prop := meetNilRow.holds Try.pinned (OpenSpec.ofChange meetNilSpec)

/-- ITS FALSE NEIGHBOUR: 'it returns false'. Refute it at one input. -/
def meetNilWrong : ChangeSpec := { name := "meetNil", fn := fun _ => fun
  | [d] => { results := [.lit (.bool false)], args := [d] }
  | _ => none }
def MeetNilWrongFalsely : Prop := meetNilRow.holds Try.pinned (OpenSpec.ofChange meetNilWrong)

/-- 'verdererlaw22.MissNil': WHATEVER THE INPUT: true; the input reads as it did. -/
def missNilSpec : ChangeSpec := { name := "missNil", fn := fun _ => fun
  | [d] => { results := [.lit (.bool true)], args := [d] }
  | _ => none }
def missNilRow : OpenClaim := { program := "ytbcecenneganeaa", sum := "cafbf7b5563378c1670ab7100404d4e61fdee1032838058ed24e9c1f46c187cc", func := "verderer/verdererlaw22.MissNil", spec := "missNil", inPlace := ["internal/bytealg.abigen_runtime_cmpstring"], unfollowed := true, recurses := true, apart := false }
def MissNilSaid : Prop := missNilRow.holds Try.pinned (OpenSpec.ofChange missNilSpec)

/-- ITS FALSE NEIGHBOUR: 'it returns false'. Refute it at one input. -/
def missNilWrong : ChangeSpec := { name := "missNil", fn := fun _ => fun
  | [d] => { results := [.lit (.bool false)], args := [d] }
  | _ => none }
def MissNilWrongFalsely : Prop := missNilRow.holds Try.pinned (OpenSpec.ofChange missNilWrong)

/- THE SECOND FORM. 'bulk': how many values and letters a reading holds, each counted each time it is reached (what is shared counts as often as it is met; a slice's spare places count too). A statement '..UptoSaid' is the law's where the arguments, and the package variables that the reading takes, are together of bulk at most 1048576: NARROWER than '..Said'. Prove '..Said' where nothing that the law and all that it calls make is longer than what came in: it says more and counts as full. Else prove '..UptoSaid'. A law counts once. -/
mutual
def uptoBulk {H : Type} : DataW H → Nat
  | .lit (.string bytes) => bytes.length + 1
  | .lit _ => 1
  | .nil => 1
  | .ptr d => uptoBulk d + 1
  | .slice elems spare => uptoBulkAll elems + uptoBulkAll spare + 1
  | .agg parts => uptoBulkAll parts + 1
  | .iface _ d => uptoBulk d + 1
  | .map entries => uptoBulkEntries entries + 1
  | .held _ => 1
def uptoBulkAll {H : Type} : List (DataW H) → Nat
  | [] => 0
  | d :: r => uptoBulk d + uptoBulkAll r
def uptoBulkEntries {H : Type} : List (Lit × DataW H) → Nat
  | [] => 0
  | x :: r => uptoBulkEntry x + uptoBulkEntries r
def uptoBulkEntry {H : Type} : Lit × DataW H → Nat
  | (.string bytes, d) => bytes.length + uptoBulk d + 1
  | (_, d) => uptoBulk d + 1
 end
def uptoSmall : (H : Type) → List (DataW H) → Bool := fun _ ds => decide (uptoBulkAll ds ≤ 1048576)
def OpenSpec.upto (s : _root_.Go.ChangeSpec) : _root_.Go.OpenSpec := { _root_.Go.OpenSpec.ofChange s with cond := some uptoSmall }

/-- 'verdererlaw39.DrillRolls', WHERE WHAT IT READS IS OF BULK AT MOST 1048576: true; the input reads as it did. -/
def drillRollsUptoRow : OpenClaim := { program := "ytbcecenneganeaa", sum := "cafbf7b5563378c1670ab7100404d4e61fdee1032838058ed24e9c1f46c187cc", func := "verderer/verdererlaw39.DrillRolls", spec := "drillRolls", unfollowed := true, recurses := true, apart := false, narrowed := true }
def DrillRollsUptoSaid : Prop := drillRollsUptoRow.holds Try.pinned (OpenSpec.upto drillRollsSpec)

/-- 'verdererlaw39.DrillSteps', WHERE WHAT IT READS IS OF BULK AT MOST 1048576: true; the input reads as it did. -/
def drillStepsUptoRow : OpenClaim := { program := "ytbcecenneganeaa", sum := "cafbf7b5563378c1670ab7100404d4e61fdee1032838058ed24e9c1f46c187cc", func := "verderer/verdererlaw39.DrillSteps", spec := "drillSteps", unfollowed := true, recurses := true, apart := false, narrowed := true }
def DrillStepsUptoSaid : Prop := drillStepsUptoRow.holds Try.pinned (OpenSpec.upto drillStepsSpec)

/-- 'verdererlaw39.DrillFirst', WHERE WHAT IT READS IS OF BULK AT MOST 1048576: true; the input reads as it did. -/
def drillFirstUptoRow : OpenClaim := { program := "ytbcecenneganeaa", sum := "cafbf7b5563378c1670ab7100404d4e61fdee1032838058ed24e9c1f46c187cc", func := "verderer/verdererlaw39.DrillFirst", spec := "drillFirst", unfollowed := true, recurses := true, apart := false, narrowed := true }
def DrillFirstUptoSaid : Prop := drillFirstUptoRow.holds Try.pinned (OpenSpec.upto drillFirstSpec)

/-- 'verdererlaw39.DrillNil', WHERE WHAT IT READS IS OF BULK AT MOST 1048576: true; the input reads as it did. -/
def drillNilUptoRow : OpenClaim := { program := "ytbcecenneganeaa", sum := "cafbf7b5563378c1670ab7100404d4e61fdee1032838058ed24e9c1f46c187cc", func := "verderer/verdererlaw39.DrillNil", spec := "drillNil", unfollowed := true, recurses := true, apart := false, narrowed := true }
def DrillNilUptoSaid : Prop := drillNilUptoRow.holds Try.pinned (OpenSpec.upto drillNilSpec)

/-- 'verdererlaw37.ExplainTells', WHERE WHAT IT READS IS OF BULK AT MOST 1048576: true; the input reads as it did. -/
def explainTellsUptoRow : OpenClaim := { program := "ytbcecenneganeaa", sum := "cafbf7b5563378c1670ab7100404d4e61fdee1032838058ed24e9c1f46c187cc", func := "verderer/verdererlaw37.ExplainTells", spec := "explainTells", inPlace := ["internal/bytealg.abigen_runtime_cmpstring"], unfollowed := true, recurses := true, apart := false, narrowed := true }
def ExplainTellsUptoSaid : Prop := explainTellsUptoRow.holds Try.pinned (OpenSpec.upto explainTellsSpec)

/-- 'verdererlaw37.ExplainHolds', WHERE WHAT IT READS IS OF BULK AT MOST 1048576: true; the input reads as it did. -/
def explainHoldsUptoRow : OpenClaim := { program := "ytbcecenneganeaa", sum := "cafbf7b5563378c1670ab7100404d4e61fdee1032838058ed24e9c1f46c187cc", func := "verderer/verdererlaw37.ExplainHolds", spec := "explainHolds", inPlace := ["internal/bytealg.abigen_runtime_cmpstring"], unfollowed := true, recurses := true, apart := false, narrowed := true }
def ExplainHoldsUptoSaid : Prop := explainHoldsUptoRow.holds Try.pinned (OpenSpec.upto explainHoldsSpec)

/-- 'verdererlaw37.ExplainRight', WHERE WHAT IT READS IS OF BULK AT MOST 1048576: true; the input reads as it did. -/
def explainRightUptoRow : OpenClaim := { program := "ytbcecenneganeaa", sum := "cafbf7b5563378c1670ab7100404d4e61fdee1032838058ed24e9c1f46c187cc", func := "verderer/verdererlaw37.ExplainRight", spec := "explainRight", inPlace := ["internal/bytealg.abigen_runtime_cmpstring"], unfollowed := true, recurses := true, apart := false, narrowed := true }
def ExplainRightUptoSaid : Prop := explainRightUptoRow.holds Try.pinned (OpenSpec.upto explainRightSpec)

/-- 'verdererlaw21.MeetNil', WHERE WHAT IT READS IS OF BULK AT MOST 1048576: true; the input reads as it did. -/
def meetNilUptoRow : OpenClaim := { program := "ytbcecenneganeaa", sum := "cafbf7b5563378c1670ab7100404d4e61fdee1032838058ed24e9c1f46c187cc", func := "verderer/verdererlaw21.MeetNil", spec := "meetNil", inPlace := ["internal/bytealg.abigen_runtime_cmpstring"], unfollowed := true, recurses := true, apart := false, narrowed := true }
def MeetNilUptoSaid : Prop := meetNilUptoRow.holds Try.pinned (OpenSpec.upto meetNilSpec)

/-- 'verdererlaw22.MissNil', WHERE WHAT IT READS IS OF BULK AT MOST 1048576: true; the input reads as it did. -/
def missNilUptoRow : OpenClaim := { program := "ytbcecenneganeaa", sum := "cafbf7b5563378c1670ab7100404d4e61fdee1032838058ed24e9c1f46c187cc", func := "verderer/verdererlaw22.MissNil", spec := "missNil", inPlace := ["internal/bytealg.abigen_runtime_cmpstring"], unfollowed := true, recurses := true, apart := false, narrowed := true }
def MissNilUptoSaid : Prop := missNilUptoRow.holds Try.pinned (OpenSpec.upto missNilSpec)

end Rows
end Go.Proofs.Ytbcecenneganeaa
