/- Of the tie of the listed tables: what the start-up leaves. -/
import Derived.Test.YtleadljchhkiiaaGreatDoorS0
import Derived.LaidByTextLater
import Derived.SevenTiedAt
import Derived.LaidSub
import Derived.LaidOnce
set_option linter.unusedSimpArgs false
set_option linter.unusedVariables false
namespace Go.Proofs.YtleadljchhkiiaaGreatDoor
open Go
set_option maxRecDepth 100000
theorem a7 (os : Os) (tape : Tape) : doorLeaves Tryz.prog 48 8 257 L4 os tape = some (L4.filter fun x => x.2.handleName?.isNone, (funcsListed L4).map (·.2.funcsOut)) := by kernel_rfl
end Go.Proofs.YtleadljchhkiiaaGreatDoor
