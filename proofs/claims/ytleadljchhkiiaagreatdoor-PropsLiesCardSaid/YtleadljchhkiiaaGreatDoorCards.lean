/-
  DERIVED. GIVEN WITH THE SEED: THE CARDS: each row of YtleadljchhkiiaaGreatDoorRows.lean that lists a variable, with what it lists TIED to the program's text (the seventh form; the later family's looks); each row that meets fmt, with fmt's text TOLD by the authors' own Lean function (tested against real Go, not proved from fmt's source: count such statements apart). THE CARD IS WHAT COUNTS. Prove the row's statement (the work); the ties are given (YtleadljchhkiiaaGreatDoorTie.lean); close each card by the builder's one call (the guide's Derived/Test/ToyasCard.lean, 'card_holds'). Laid BY PROGRAM, IN A SANDBOX (cutbox-door.mjs). By AI agents, Wed Nov 11 2026. No macro, syntax, notation, axiom, sorry.
-/
import Derived.Test.YtleadljchhkiiaaGreatDoorRows
import GoSem.ClaimSeven
namespace Go.Proofs.YtleadljchhkiiaaGreatDoor
namespace Rows

/-- THE TIED CARD OF 'jointerlaw12.PropsNodes'. -/
def propsNodesCard : Claim7 := { stood := { row := propsNodesRow, standIns := [], harness := (true, "5ddf6238c853f2ad822c116c3cb461bf613055c58ae0901cda810bbeea2694ba"), looks := false }, kinds := [], alts := [], laidByText := true, laidKinds := [.data, .data, .listed, .data, .pinned, .pinned], laidTests := true, laidLooks := .later }
def PropsNodesCardSaid : Prop := Claim7.holds Tryz.pinned (.plain (OpenSpec.ofChange propsNodesSpec)) propsNodesCard

/-- THE TIED CARD OF 'jointerlaw12.PropsLies'. -/
def propsLiesCard : Claim7 := { stood := { row := propsLiesRow, standIns := [], harness := (true, "5ddf6238c853f2ad822c116c3cb461bf613055c58ae0901cda810bbeea2694ba"), looks := false }, kinds := [], alts := [], laidByText := true, laidKinds := [.data, .data, .listed, .data, .pinned, .pinned], laidTests := true, laidLooks := .later }
def PropsLiesCardSaid : Prop := Claim7.holds Tryz.pinned (.plain (OpenSpec.ofChange propsLiesSpec)) propsLiesCard

/-- THE SECOND FORM's CARD OF 'jointerlaw12.PropsNodes'. -/
def propsNodesUptoCard : Claim7 := { stood := { row := propsNodesUptoRow, standIns := [], harness := (true, "5ddf6238c853f2ad822c116c3cb461bf613055c58ae0901cda810bbeea2694ba"), looks := false }, kinds := [], alts := [], laidByText := true, laidKinds := [.data, .data, .listed, .data, .pinned, .pinned], laidTests := true, laidLooks := .later }
def PropsNodesUptoCardSaid : Prop := Claim7.holds Tryz.pinned (.plain (OpenSpec.upto propsNodesSpec)) propsNodesUptoCard

/-- THE SECOND FORM's CARD OF 'jointerlaw12.PropsLies'. -/
def propsLiesUptoCard : Claim7 := { stood := { row := propsLiesUptoRow, standIns := [], harness := (true, "5ddf6238c853f2ad822c116c3cb461bf613055c58ae0901cda810bbeea2694ba"), looks := false }, kinds := [], alts := [], laidByText := true, laidKinds := [.data, .data, .listed, .data, .pinned, .pinned], laidTests := true, laidLooks := .later }
def PropsLiesUptoCardSaid : Prop := Claim7.holds Tryz.pinned (.plain (OpenSpec.upto propsLiesSpec)) propsLiesUptoCard
end Rows
end Go.Proofs.YtleadljchhkiiaaGreatDoor
