/- Of the tie of the listed tables: what the text names. -/
import Derived.Test.YtleadljchhkiiaaGreatDoorS0
import Derived.LaidByTextLater
import Derived.SevenTiedAt
import Derived.LaidSub
import Derived.LaidOnce
set_option linter.unusedSimpArgs false
set_option linter.unusedVariables false
namespace Go.Proofs.YtleadljchhkiiaaGreatDoor
open Go
set_option maxRecDepth 100000
theorem a6 : varsNamedLaterB Tryz.prog (varsId Tryz.prog) L4 = true := by kernel_rfl
end Go.Proofs.YtleadljchhkiiaaGreatDoor
