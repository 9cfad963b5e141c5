/-
  DERIVED. GIVEN WITH THE SEED: THE CARDS: each row of YtmlaogjndaeihaaGreatDoorRows.lean that lists a variable, with what it lists TIED to the program's text (the seventh form; the later family's looks); each row that meets fmt, with fmt's text TOLD by the authors' own Lean function (tested against real Go, not proved from fmt's source: count such statements apart). THE CARD IS WHAT COUNTS. Prove the row's statement (the work); the ties are given (YtmlaogjndaeihaaGreatDoorTie.lean); close each card by the builder's one call (the guide's Derived/Test/ToyasCard.lean, 'card_holds'). Laid BY PROGRAM, IN A SANDBOX (cutbox-door.mjs). By AI agents, Wed Nov 11 2026. No macro, syntax, notation, axiom, sorry.
-/
import Derived.Test.YtmlaogjndaeihaaGreatDoorRows
import GoSem.ClaimSeven
namespace Go.Proofs.YtmlaogjndaeihaaGreatDoor
namespace Rows

/-- THE TIED CARD OF 'jointerlaw05.CalcNodes'. -/
def calcNodesCard : Claim7 := { stood := { row := calcNodesRow, standIns := [], harness := (true, "e6e0fe8157ee1b8d0c71613898d04e7b6d908ad5c43f2a766daf38fe3c880cdb"), looks := false }, kinds := [], alts := [], laidByText := true, laidKinds := [.data, .pinned], laidTests := true, laidLooks := .later }
def CalcNodesCardSaid : Prop := Claim7.holds Tryz.pinned (.plain (OpenSpec.ofChange calcNodesSpec)) calcNodesCard

/-- THE SECOND FORM's CARD OF 'jointerlaw05.CalcNodes'. -/
def calcNodesUptoCard : Claim7 := { stood := { row := calcNodesUptoRow, standIns := [], harness := (true, "e6e0fe8157ee1b8d0c71613898d04e7b6d908ad5c43f2a766daf38fe3c880cdb"), looks := false }, kinds := [], alts := [], laidByText := true, laidKinds := [.data, .pinned], laidTests := true, laidLooks := .later }
def CalcNodesUptoCardSaid : Prop := Claim7.holds Tryz.pinned (.plain (OpenSpec.upto calcNodesSpec)) calcNodesUptoCard
end Rows
end Go.Proofs.YtmlaogjndaeihaaGreatDoor
