/- Closed facts of the row of PropsLies. -/
import Derived.Test.YtleadljchhkiiaaGreatDoorRows
import Derived.JoinedCond
set_option linter.unusedSimpArgs false
set_option linter.unusedVariables false
namespace Go.Proofs.YtleadljchhkiiaaGreatDoor
open Go
set_option maxRecDepth 100000
theorem propsLies_k0 : ((Rows.propsLiesRow).wf (OpenSpec.ofChange ((OpenSpec.ofChange Rows.propsLiesSpec).bare))) = true := by kernel_rfl
theorem propsLies_k1 : (laidOutB Tryz.prog) = true := by kernel_rfl
theorem propsLies_k2 : (mapsRowed Tryz.prog) = true := by kernel_rfl
theorem propsLies_k3 : ((Tryz.f4).params.all (Tryz.prog.readableRec ·)) = true := by kernel_rfl
theorem propsLies_k4 : (namedTie Tryz.prog (Rows.propsLiesRow).named ((OpenSpec.ofChange Rows.propsLiesSpec).bare).vars) = true := by kernel_rfl
theorem propsLies_k5 : (((Rows.propsLiesRow).stops == [])) = true := by kernel_rfl
theorem propsLies_k6 : ((Tryz.prog.stops == [])) = true := by kernel_rfl
theorem propsLies_k7 : (((Rows.propsLiesRow).knobs == [])) = true := by kernel_rfl
theorem propsLies_k8 : ((Tryz.prog.stopKnobs == [])) = true := by kernel_rfl
end Go.Proofs.YtleadljchhkiiaaGreatDoor
