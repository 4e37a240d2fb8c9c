/-
  DERIVED. GIVEN WITH THE SEED: THE CARDS: each row of YtcledcfeddlomaaGreatDoorRows.lean that lists a variable, with what it lists TIED to the program's text (the seventh form; the later family's looks); each row that meets fmt, with fmt's text TOLD by the authors' own Lean function (tested against real Go, not proved from fmt's source: count such statements apart). THE CARD IS WHAT COUNTS. Prove the row's statement (the work); the ties are given (YtcledcfeddlomaaGreatDoorTie.lean); close each card by the builder's one call (the guide's Derived/Test/ToyasCard.lean, 'card_holds'). Laid BY PROGRAM, IN A SANDBOX (cutbox-door.mjs). By AI agents, Wed Nov 11 2026. No macro, syntax, notation, axiom, sorry.
-/
import Derived.Test.YtcledcfeddlomaaGreatDoorRows
import GoSem.ClaimSeven
namespace Go.Proofs.YtcledcfeddlomaaGreatDoor
namespace Rows

/-- THE TIED CARD OF 'verdererlaw18.ShapeKeys'. -/
def shapeKeysCard : Claim7 := { stood := { row := shapeKeysRow, standIns := [], harness := (true, "0ebb49a56518c9107076d108ad19dcef7ec7750c0fe1a65841dd7cff7ab58d3b"), looks := true }, kinds := [], alts := [], laidByText := true, laidKinds := [.data, .data, .data, .data, .sentinel, .sentinel, .pinned], laidTests := true, laidLooks := .later }
def ShapeKeysCardSaid : Prop := Claim7.holds Tryz.pinned (.plain (OpenSpec.ofChange shapeKeysSpec)) shapeKeysCard

/-- THE TIED CARD OF 'verdererlaw18.ShapeReads'. -/
def shapeReadsCard : Claim7 := { stood := { row := shapeReadsRow, standIns := [], harness := (true, "0ebb49a56518c9107076d108ad19dcef7ec7750c0fe1a65841dd7cff7ab58d3b"), looks := true }, kinds := [], alts := [], laidByText := true, laidKinds := [.data, .data, .data, .data, .sentinel, .sentinel, .pinned], laidTests := true, laidLooks := .later }
def ShapeReadsCardSaid : Prop := Claim7.holds Tryz.pinned (.plain (OpenSpec.ofChange shapeReadsSpec)) shapeReadsCard

/-- THE TIED CARD OF 'verdererlaw18.ShapeParts'. -/
def shapePartsCard : Claim7 := { stood := { row := shapePartsRow, standIns := [], harness := (true, "0ebb49a56518c9107076d108ad19dcef7ec7750c0fe1a65841dd7cff7ab58d3b"), looks := true }, kinds := [], alts := [], laidByText := true, laidKinds := [.data, .data, .data, .data, .sentinel, .sentinel, .pinned], laidTests := true, laidLooks := .later }
def ShapePartsCardSaid : Prop := Claim7.holds Tryz.pinned (.plain (OpenSpec.ofChange shapePartsSpec)) shapePartsCard

/-- THE TIED CARD OF 'verdererlaw18.ShapeAlike'. -/
def shapeAlikeCard : Claim7 := { stood := { row := shapeAlikeRow, standIns := [], harness := (true, "0ebb49a56518c9107076d108ad19dcef7ec7750c0fe1a65841dd7cff7ab58d3b"), looks := true }, kinds := [], alts := [], laidByText := true, laidKinds := [.data, .data, .data, .data, .sentinel, .sentinel, .pinned], laidTests := true, laidLooks := .later }
def ShapeAlikeCardSaid : Prop := Claim7.holds Tryz.pinned (.plain (OpenSpec.ofChange shapeAlikeSpec)) shapeAlikeCard

/-- THE SECOND FORM's CARD OF 'verdererlaw18.ShapeKeys'. -/
def shapeKeysUptoCard : Claim7 := { stood := { row := shapeKeysUptoRow, standIns := [], harness := (true, "0ebb49a56518c9107076d108ad19dcef7ec7750c0fe1a65841dd7cff7ab58d3b"), looks := true }, kinds := [], alts := [], laidByText := true, laidKinds := [.data, .data, .data, .data, .sentinel, .sentinel, .pinned], laidTests := true, laidLooks := .later }
def ShapeKeysUptoCardSaid : Prop := Claim7.holds Tryz.pinned (.plain (OpenSpec.upto shapeKeysSpec)) shapeKeysUptoCard

/-- THE SECOND FORM's CARD OF 'verdererlaw18.ShapeReads'. -/
def shapeReadsUptoCard : Claim7 := { stood := { row := shapeReadsUptoRow, standIns := [], harness := (true, "0ebb49a56518c9107076d108ad19dcef7ec7750c0fe1a65841dd7cff7ab58d3b"), looks := true }, kinds := [], alts := [], laidByText := true, laidKinds := [.data, .data, .data, .data, .sentinel, .sentinel, .pinned], laidTests := true, laidLooks := .later }
def ShapeReadsUptoCardSaid : Prop := Claim7.holds Tryz.pinned (.plain (OpenSpec.upto shapeReadsSpec)) shapeReadsUptoCard

/-- THE SECOND FORM's CARD OF 'verdererlaw18.ShapeParts'. -/
def shapePartsUptoCard : Claim7 := { stood := { row := shapePartsUptoRow, standIns := [], harness := (true, "0ebb49a56518c9107076d108ad19dcef7ec7750c0fe1a65841dd7cff7ab58d3b"), looks := true }, kinds := [], alts := [], laidByText := true, laidKinds := [.data, .data, .data, .data, .sentinel, .sentinel, .pinned], laidTests := true, laidLooks := .later }
def ShapePartsUptoCardSaid : Prop := Claim7.holds Tryz.pinned (.plain (OpenSpec.upto shapePartsSpec)) shapePartsUptoCard

/-- THE SECOND FORM's CARD OF 'verdererlaw18.ShapeAlike'. -/
def shapeAlikeUptoCard : Claim7 := { stood := { row := shapeAlikeUptoRow, standIns := [], harness := (true, "0ebb49a56518c9107076d108ad19dcef7ec7750c0fe1a65841dd7cff7ab58d3b"), looks := true }, kinds := [], alts := [], laidByText := true, laidKinds := [.data, .data, .data, .data, .sentinel, .sentinel, .pinned], laidTests := true, laidLooks := .later }
def ShapeAlikeUptoCardSaid : Prop := Claim7.holds Tryz.pinned (.plain (OpenSpec.upto shapeAlikeSpec)) shapeAlikeUptoCard
end Rows
end Go.Proofs.YtcledcfeddlomaaGreatDoor
