/- Closed facts of the row of PropsNodesUpto. -/
import Derived.Test.YtoggbjfjmbjegaaGreatDoorRows
import Derived.JoinedCond
set_option linter.unusedSimpArgs false
set_option linter.unusedVariables false
namespace Go.Proofs.YtoggbjfjmbjegaaGreatDoor
open Go
set_option maxRecDepth 100000
theorem propsNodesUpto_k27 : ((Tryz.prog.make == some (Rows.propsNodesUptoRow).make)) = true := by kernel_rfl
theorem propsNodesUpto_k28 : (((Rows.propsNodesUptoRow).kinds == (if (Rows.propsNodesUptoRow).domain.isEmpty then [] else (Tryz.f3).params.toList.map fun t => match Tryz.prog.underlying t with | some (.int k) => some k | _ => none))) = true := by kernel_rfl
theorem propsNodesUpto_k29 : (((Rows.propsNodesUptoRow).pinned == (Rows.propsNodesUptoRow).pinnedBy)) = true := by kernel_rfl
theorem propsNodesUpto_k30 : (((Rows.propsNodesUptoRow).veiled == ((Tryz.f3).params.toList ++ ((Rows.OpenSpec.upto Rows.propsNodesSpec).bare).plain.varTypes Tryz.prog ++ (Tryz.f3).resultTypes.toList).any (Tryz.prog.veiledRec ·))) = true := by kernel_rfl
theorem propsNodesUpto_k31 : ((Rows.propsNodesUptoRow).veiledFits Tryz.prog (Tryz.f3).params.toList ((Tryz.f3).params.toList ++ ((Rows.OpenSpec.upto Rows.propsNodesSpec).bare).plain.varTypes Tryz.prog ++ (Tryz.f3).resultTypes.toList)) = true := by kernel_rfl
end Go.Proofs.YtoggbjfjmbjegaaGreatDoor
