/- The program's main package, its looks. -/
import Derived.Test.YtleadljchhkiiaaGreatDoorRows
import Derived.SevenTiedAt
set_option linter.unusedSimpArgs false
set_option linter.unusedVariables false
namespace Go.Proofs.YtleadljchhkiiaaGreatDoor
open Go
set_option maxRecDepth 100000
theorem seatMain : Tryz.prog.mainIs = some (true, "5ddf6238c853f2ad822c116c3cb461bf613055c58ae0901cda810bbeea2694ba".toList) := by kernel_rfl
theorem seatLooks : false = Tryz.prog.looks [] := by kernel_rfl
end Go.Proofs.YtleadljchhkiiaaGreatDoor
