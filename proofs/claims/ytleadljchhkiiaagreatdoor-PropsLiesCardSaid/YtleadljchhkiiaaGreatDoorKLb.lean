/- The closed facts of the row of PropsLies, joined. -/
import Derived.Test.YtleadljchhkiiaaGreatDoorKLa0
import Derived.Test.YtleadljchhkiiaaGreatDoorKLa1
import Derived.Test.YtleadljchhkiiaaGreatDoorKLa2
import Derived.Test.YtleadljchhkiiaaGreatDoorKLa3
import Derived.Test.YtleadljchhkiiaaGreatDoorKLa4
import Derived.Test.YtleadljchhkiiaaGreatDoorKLa5
import Derived.Test.YtleadljchhkiiaaGreatDoorKLa6
import Derived.Test.YtleadljchhkiiaaGreatDoorKLa7
import Derived.JoinedCond
set_option linter.unusedSimpArgs false
set_option linter.unusedVariables false
namespace Go.Proofs.YtleadljchhkiiaaGreatDoor
open Go
set_option maxRecDepth 100000
theorem and2 {a b : Bool} (h : a = true) (k : b = true) : (a && b) = true := by rw [h, k]; rfl
theorem propsLies_facts : joinedFacts Tryz.prog 4 Tryz.f4 ((OpenSpec.ofChange Rows.propsLiesSpec).bare) (Rows.propsLiesRow) = true := (and2 (and2 (and2 (and2 (and2 (and2 (and2 (and2 (and2 (and2 (and2 (and2 (and2 (and2 (and2 (and2 (and2 (and2 (and2 (and2 (and2 (and2 (and2 (and2 (and2 (and2 (and2 (and2 (and2 (and2 (and2 propsLies_k0 propsLies_k1) propsLies_k2) propsLies_k3) propsLies_k4) propsLies_k5) propsLies_k6) propsLies_k7) propsLies_k8) propsLies_k9) propsLies_k10) propsLies_k11) propsLies_k12) propsLies_k13) propsLies_k14) propsLies_k15) propsLies_k16) propsLies_k17) propsLies_k18) propsLies_k19) propsLies_k20) propsLies_k21) propsLies_k22) propsLies_k23) propsLies_k24) propsLies_k25) propsLies_k26) propsLies_k27) propsLies_k28) propsLies_k29) propsLies_k30) propsLies_k31)
end Go.Proofs.YtleadljchhkiiaaGreatDoor
