/-
  DERIVED. GIVEN WITH THE SEED: THE CARDS: each row of YtoggbjfjmbjegaaGreatDoorRows.lean that lists a variable, with what it lists TIED to the program's text (the seventh form; the later family's looks); each row that meets fmt, with fmt's text TOLD by the authors' own Lean function (tested against real Go, not proved from fmt's source: count such statements apart). THE CARD IS WHAT COUNTS. Prove the row's statement (the work); the ties are given (YtoggbjfjmbjegaaGreatDoorTie.lean); close each card by the builder's one call (the guide's Derived/Test/ToyasCard.lean, 'card_holds'). Laid BY PROGRAM, IN A SANDBOX (cutbox-door.mjs). By AI agents, Wed Nov 11 2026. No macro, syntax, notation, axiom, sorry.
-/
import Derived.Test.YtoggbjfjmbjegaaGreatDoorRows
import GoSem.ClaimSeven
namespace Go.Proofs.YtoggbjfjmbjegaaGreatDoor
namespace Rows

/-- THE TIED CARD OF 'jointerlaw12.PropsNodes'. -/
def propsNodesCard : Claim7 := { stood := { row := propsNodesRow, standIns := [], harness := (true, "9085bee1da7a9b5aca3cd766efff942ca7bb6e0aa797e561e9ca36ab03b4d387"), looks := false }, kinds := [], alts := [], laidByText := true, laidKinds := [.data, .data, .listed, .data, .pinned, .pinned], laidTests := true, laidLooks := .later }
def PropsNodesCardSaid : Prop := Claim7.holds Tryz.pinned (.plain (OpenSpec.ofChange propsNodesSpec)) propsNodesCard

/-- THE SECOND FORM's CARD OF 'jointerlaw12.PropsNodes'. -/
def propsNodesUptoCard : Claim7 := { stood := { row := propsNodesUptoRow, standIns := [], harness := (true, "9085bee1da7a9b5aca3cd766efff942ca7bb6e0aa797e561e9ca36ab03b4d387"), looks := false }, kinds := [], alts := [], laidByText := true, laidKinds := [.data, .data, .listed, .data, .pinned, .pinned], laidTests := true, laidLooks := .later }
def PropsNodesUptoCardSaid : Prop := Claim7.holds Tryz.pinned (.plain (OpenSpec.upto propsNodesSpec)) propsNodesUptoCard
end Rows
end Go.Proofs.YtoggbjfjmbjegaaGreatDoor
