/- Closed facts of the row of PropsNodesUpto. -/
import Derived.Test.YtoggbjfjmbjegaaGreatDoorRows
import Derived.JoinedCond
set_option linter.unusedSimpArgs false
set_option linter.unusedVariables false
namespace Go.Proofs.YtoggbjfjmbjegaaGreatDoor
open Go
set_option maxRecDepth 100000
theorem propsNodesUpto_k0 : ((Rows.propsNodesUptoRow).wf (OpenSpec.ofChange ((Rows.OpenSpec.upto Rows.propsNodesSpec).bare))) = true := by kernel_rfl
theorem propsNodesUpto_k1 : (laidOutB Tryz.prog) = true := by kernel_rfl
theorem propsNodesUpto_k2 : (mapsRowed Tryz.prog) = true := by kernel_rfl
theorem propsNodesUpto_k3 : ((Tryz.f3).params.all (Tryz.prog.readableRec ·)) = true := by kernel_rfl
theorem propsNodesUpto_k4 : (namedTie Tryz.prog (Rows.propsNodesUptoRow).named ((Rows.OpenSpec.upto Rows.propsNodesSpec).bare).vars) = true := by kernel_rfl
theorem propsNodesUpto_k5 : (((Rows.propsNodesUptoRow).stops == [])) = true := by kernel_rfl
theorem propsNodesUpto_k6 : ((Tryz.prog.stops == [])) = true := by kernel_rfl
theorem propsNodesUpto_k7 : (((Rows.propsNodesUptoRow).knobs == [])) = true := by kernel_rfl
theorem propsNodesUpto_k8 : ((Tryz.prog.stopKnobs == [])) = true := by kernel_rfl
end Go.Proofs.YtoggbjfjmbjegaaGreatDoor
