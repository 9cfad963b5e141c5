/- Closed facts of the row of PropsNodesUpto. -/
import Derived.Test.YtoggbjfjmbjegaaGreatDoorRows
import Derived.JoinedCond
set_option linter.unusedSimpArgs false
set_option linter.unusedVariables false
namespace Go.Proofs.YtoggbjfjmbjegaaGreatDoor
open Go
set_option maxRecDepth 100000
theorem propsNodesUpto_k13 : (((Rows.propsNodesUptoRow).maps == ((Tryz.f3).params.toList ++ ((Rows.OpenSpec.upto Rows.propsNodesSpec).bare).plain.varTypes Tryz.prog).any (Tryz.prog.mapsRec ·))) = true := by kernel_rfl
theorem propsNodesUpto_k14 : (((Rows.propsNodesUptoRow).ifaces == ((Tryz.f3).params.toList ++ ((Rows.OpenSpec.upto Rows.propsNodesSpec).bare).plain.varTypes Tryz.prog).any (Tryz.prog.ifacesRec ·))) = true := by kernel_rfl
theorem propsNodesUpto_k15 : (((Rows.propsNodesUptoRow).mapsOut == Tryz.prog.mapsAmong (Tryz.f3).resultTypes.toList)) = true := by kernel_rfl
theorem propsNodesUpto_k16 : (((Rows.propsNodesUptoRow).loops == ((Tryz.f3).params.toList ++ ((Rows.OpenSpec.upto Rows.propsNodesSpec).bare).plain.varTypes Tryz.prog).any (Tryz.prog.loopsFrom ·))) = true := by kernel_rfl
theorem propsNodesUpto_k17 : (((Rows.propsNodesUptoRow).wideKeys == ((Tryz.f3).params.toList ++ ((Rows.OpenSpec.upto Rows.propsNodesSpec).bare).plain.varTypes Tryz.prog ++ (Tryz.f3).resultTypes.toList).any (Tryz.prog.wideKeysFrom ·))) = true := by kernel_rfl
theorem propsNodesUpto_k18 : (((Rows.OpenSpec.upto Rows.propsNodesSpec).bare).vars.all (Tryz.prog.varReadable ·)) = true := by kernel_rfl
theorem propsNodesUpto_k19 : ((Tryz.f3).resultTypes.all (fun t => Tryz.prog.readableRec t && decide (t < Tryz.prog.types.size))) = true := by kernel_rfl
theorem propsNodesUpto_k20 : (((Rows.propsNodesUptoRow).ifacesOut == (Tryz.f3).resultTypes.toList.any (Tryz.prog.ifacesRec ·))) = true := by kernel_rfl
theorem propsNodesUpto_k21 : (((Rows.propsNodesUptoRow).loopsOut == (Tryz.f3).resultTypes.toList.any (Tryz.prog.loopsFrom ·))) = true := by kernel_rfl
end Go.Proofs.YtoggbjfjmbjegaaGreatDoor
