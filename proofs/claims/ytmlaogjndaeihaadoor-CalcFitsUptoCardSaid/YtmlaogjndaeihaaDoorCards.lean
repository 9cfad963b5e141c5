/-
  DERIVED. GIVEN WITH THE SEED: THE CARDS: each row of YtmlaogjndaeihaaDoorRows.lean that lists a variable, with what it lists TIED to the program's text (the seventh form; the later family's looks); each row that meets fmt, with fmt's text TOLD by the authors' own Lean function (tested against real Go, not proved from fmt's source: count such statements apart). THE CARD IS WHAT COUNTS. Prove the row's statement (the work); the ties are given (YtmlaogjndaeihaaDoorTie.lean); close each card by the builder's one call (the guide's Derived/Test/ToyasCard.lean, 'card_holds'). Laid BY PROGRAM, IN A SANDBOX (cutbox-door.mjs). By AI agents, Wed Nov 11 2026. No macro, syntax, notation, axiom, sorry.
-/
import Derived.Test.YtmlaogjndaeihaaDoorRows
import GoSem.ClaimSeven
namespace Go.Proofs.YtmlaogjndaeihaaDoor
namespace Rows

/-- THE TIED CARD OF 'jointerlaw05.CalcKinds'. -/
def calcKindsCard : Claim7 := { stood := { row := calcKindsRow, standIns := [], harness := (true, "bd67f24882592499edb56b6875a22e02bd77f63e18e8888de302a9fcdb1261f8"), looks := false }, kinds := [], alts := [], laidByText := true, laidKinds := [.data, .pinned], laidTests := true, laidLooks := .later }
def CalcKindsCardSaid : Prop := Claim7.holds Tryd.pinned (.plain (OpenSpec.ofChange calcKindsSpec)) calcKindsCard

/-- THE TIED CARD OF 'jointerlaw05.CalcFits'. -/
def calcFitsCard : Claim7 := { stood := { row := calcFitsRow, standIns := [], harness := (true, "bd67f24882592499edb56b6875a22e02bd77f63e18e8888de302a9fcdb1261f8"), looks := false }, kinds := [], alts := [], laidByText := true, laidKinds := [.data, .pinned], laidTests := true, laidLooks := .later }
def CalcFitsCardSaid : Prop := Claim7.holds Tryd.pinned (.plain (OpenSpec.ofChange calcFitsSpec)) calcFitsCard

/-- THE TIED CARD OF 'jointerlaw05.CalcLazy'. -/
def calcLazyCard : Claim7 := { stood := { row := calcLazyRow, standIns := [], harness := (true, "bd67f24882592499edb56b6875a22e02bd77f63e18e8888de302a9fcdb1261f8"), looks := false }, kinds := [], alts := [], laidByText := true, laidKinds := [.data, .pinned], laidTests := true, laidLooks := .later }
def CalcLazyCardSaid : Prop := Claim7.holds Tryd.pinned (.plain (OpenSpec.ofChange calcLazySpec)) calcLazyCard

/-- THE TIED CARD OF 'jointerlaw05.CalcCompares'. -/
def calcComparesCard : Claim7 := { stood := { row := calcComparesRow, standIns := [], harness := (true, "bd67f24882592499edb56b6875a22e02bd77f63e18e8888de302a9fcdb1261f8"), looks := false }, kinds := [], alts := [], laidByText := true, laidKinds := [.data, .pinned], laidTests := true, laidLooks := .later }
def CalcComparesCardSaid : Prop := Claim7.holds Tryd.pinned (.plain (OpenSpec.ofChange calcComparesSpec)) calcComparesCard

/-- THE TIED CARD OF 'jointerlaw05.CalcIn'. -/
def calcInCard : Claim7 := { stood := { row := calcInRow, standIns := [], harness := (true, "bd67f24882592499edb56b6875a22e02bd77f63e18e8888de302a9fcdb1261f8"), looks := false }, kinds := [], alts := [], laidByText := true, laidKinds := [.data, .pinned], laidTests := true, laidLooks := .later }
def CalcInCardSaid : Prop := Claim7.holds Tryd.pinned (.plain (OpenSpec.ofChange calcInSpec)) calcInCard

/-- THE TIED CARD OF 'jointerlaw05.CalcChains'. -/
def calcChainsCard : Claim7 := { stood := { row := calcChainsRow, standIns := [], harness := (true, "bd67f24882592499edb56b6875a22e02bd77f63e18e8888de302a9fcdb1261f8"), looks := false }, kinds := [], alts := [], laidByText := true, laidKinds := [.data, .pinned], laidTests := true, laidLooks := .later }
def CalcChainsCardSaid : Prop := Claim7.holds Tryd.pinned (.plain (OpenSpec.ofChange calcChainsSpec)) calcChainsCard

/-- THE TIED CARD OF 'jointerlaw05.CalcDrops'. -/
def calcDropsCard : Claim7 := { stood := { row := calcDropsRow, standIns := [], harness := (true, "bd67f24882592499edb56b6875a22e02bd77f63e18e8888de302a9fcdb1261f8"), looks := false }, kinds := [], alts := [], laidByText := true, laidKinds := [.data, .pinned], laidTests := true, laidLooks := .later }
def CalcDropsCardSaid : Prop := Claim7.holds Tryd.pinned (.plain (OpenSpec.ofChange calcDropsSpec)) calcDropsCard

/-- THE TIED CARD OF 'jointerlaw05.CalcSubs'. -/
def calcSubsCard : Claim7 := { stood := { row := calcSubsRow, standIns := [], harness := (true, "bd67f24882592499edb56b6875a22e02bd77f63e18e8888de302a9fcdb1261f8"), looks := false }, kinds := [], alts := [], laidByText := true, laidKinds := [.data, .pinned], laidTests := true, laidLooks := .later }
def CalcSubsCardSaid : Prop := Claim7.holds Tryd.pinned (.plain (OpenSpec.ofChange calcSubsSpec)) calcSubsCard

/-- THE SECOND FORM's CARD OF 'jointerlaw05.CalcKinds'. -/
def calcKindsUptoCard : Claim7 := { stood := { row := calcKindsUptoRow, standIns := [], harness := (true, "bd67f24882592499edb56b6875a22e02bd77f63e18e8888de302a9fcdb1261f8"), looks := false }, kinds := [], alts := [], laidByText := true, laidKinds := [.data, .pinned], laidTests := true, laidLooks := .later }
def CalcKindsUptoCardSaid : Prop := Claim7.holds Tryd.pinned (.plain (OpenSpec.upto calcKindsSpec)) calcKindsUptoCard

/-- THE SECOND FORM's CARD OF 'jointerlaw05.CalcFits'. -/
def calcFitsUptoCard : Claim7 := { stood := { row := calcFitsUptoRow, standIns := [], harness := (true, "bd67f24882592499edb56b6875a22e02bd77f63e18e8888de302a9fcdb1261f8"), looks := false }, kinds := [], alts := [], laidByText := true, laidKinds := [.data, .pinned], laidTests := true, laidLooks := .later }
def CalcFitsUptoCardSaid : Prop := Claim7.holds Tryd.pinned (.plain (OpenSpec.upto calcFitsSpec)) calcFitsUptoCard

/-- THE SECOND FORM's CARD OF 'jointerlaw05.CalcLazy'. -/
def calcLazyUptoCard : Claim7 := { stood := { row := calcLazyUptoRow, standIns := [], harness := (true, "bd67f24882592499edb56b6875a22e02bd77f63e18e8888de302a9fcdb1261f8"), looks := false }, kinds := [], alts := [], laidByText := true, laidKinds := [.data, .pinned], laidTests := true, laidLooks := .later }
def CalcLazyUptoCardSaid : Prop := Claim7.holds Tryd.pinned (.plain (OpenSpec.upto calcLazySpec)) calcLazyUptoCard

/-- THE SECOND FORM's CARD OF 'jointerlaw05.CalcCompares'. -/
def calcComparesUptoCard : Claim7 := { stood := { row := calcComparesUptoRow, standIns := [], harness := (true, "bd67f24882592499edb56b6875a22e02bd77f63e18e8888de302a9fcdb1261f8"), looks := false }, kinds := [], alts := [], laidByText := true, laidKinds := [.data, .pinned], laidTests := true, laidLooks := .later }
def CalcComparesUptoCardSaid : Prop := Claim7.holds Tryd.pinned (.plain (OpenSpec.upto calcComparesSpec)) calcComparesUptoCard

/-- THE SECOND FORM's CARD OF 'jointerlaw05.CalcIn'. -/
def calcInUptoCard : Claim7 := { stood := { row := calcInUptoRow, standIns := [], harness := (true, "bd67f24882592499edb56b6875a22e02bd77f63e18e8888de302a9fcdb1261f8"), looks := false }, kinds := [], alts := [], laidByText := true, laidKinds := [.data, .pinned], laidTests := true, laidLooks := .later }
def CalcInUptoCardSaid : Prop := Claim7.holds Tryd.pinned (.plain (OpenSpec.upto calcInSpec)) calcInUptoCard

/-- THE SECOND FORM's CARD OF 'jointerlaw05.CalcChains'. -/
def calcChainsUptoCard : Claim7 := { stood := { row := calcChainsUptoRow, standIns := [], harness := (true, "bd67f24882592499edb56b6875a22e02bd77f63e18e8888de302a9fcdb1261f8"), looks := false }, kinds := [], alts := [], laidByText := true, laidKinds := [.data, .pinned], laidTests := true, laidLooks := .later }
def CalcChainsUptoCardSaid : Prop := Claim7.holds Tryd.pinned (.plain (OpenSpec.upto calcChainsSpec)) calcChainsUptoCard

/-- THE SECOND FORM's CARD OF 'jointerlaw05.CalcDrops'. -/
def calcDropsUptoCard : Claim7 := { stood := { row := calcDropsUptoRow, standIns := [], harness := (true, "bd67f24882592499edb56b6875a22e02bd77f63e18e8888de302a9fcdb1261f8"), looks := false }, kinds := [], alts := [], laidByText := true, laidKinds := [.data, .pinned], laidTests := true, laidLooks := .later }
def CalcDropsUptoCardSaid : Prop := Claim7.holds Tryd.pinned (.plain (OpenSpec.upto calcDropsSpec)) calcDropsUptoCard

/-- THE SECOND FORM's CARD OF 'jointerlaw05.CalcSubs'. -/
def calcSubsUptoCard : Claim7 := { stood := { row := calcSubsUptoRow, standIns := [], harness := (true, "bd67f24882592499edb56b6875a22e02bd77f63e18e8888de302a9fcdb1261f8"), looks := false }, kinds := [], alts := [], laidByText := true, laidKinds := [.data, .pinned], laidTests := true, laidLooks := .later }
def CalcSubsUptoCardSaid : Prop := Claim7.holds Tryd.pinned (.plain (OpenSpec.upto calcSubsSpec)) calcSubsUptoCard
end Rows
end Go.Proofs.YtmlaogjndaeihaaDoor
