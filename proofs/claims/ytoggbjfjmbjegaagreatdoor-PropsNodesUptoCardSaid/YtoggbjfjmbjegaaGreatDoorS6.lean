/- The program's main package, its looks. -/
import Derived.Test.YtoggbjfjmbjegaaGreatDoorRows
import Derived.SevenTiedAt
set_option linter.unusedSimpArgs false
set_option linter.unusedVariables false
namespace Go.Proofs.YtoggbjfjmbjegaaGreatDoor
open Go
set_option maxRecDepth 100000
theorem seatMain : Tryz.prog.mainIs = some (true, "9085bee1da7a9b5aca3cd766efff942ca7bb6e0aa797e561e9ca36ab03b4d387".toList) := by kernel_rfl
theorem seatLooks : false = Tryz.prog.looks [] := by kernel_rfl
end Go.Proofs.YtoggbjfjmbjegaaGreatDoor
