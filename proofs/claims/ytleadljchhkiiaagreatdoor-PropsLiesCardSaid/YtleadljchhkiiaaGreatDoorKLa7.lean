/- Closed facts of the row of PropsLies. -/
import Derived.Test.YtleadljchhkiiaaGreatDoorRows
import Derived.JoinedCond
set_option linter.unusedSimpArgs false
set_option linter.unusedVariables false
namespace Go.Proofs.YtleadljchhkiiaaGreatDoor
open Go
set_option maxRecDepth 100000
theorem propsLies_k27 : ((Tryz.prog.make == some (Rows.propsLiesRow).make)) = true := by kernel_rfl
theorem propsLies_k28 : (((Rows.propsLiesRow).kinds == (if (Rows.propsLiesRow).domain.isEmpty then [] else (Tryz.f4).params.toList.map fun t => match Tryz.prog.underlying t with | some (.int k) => some k | _ => none))) = true := by kernel_rfl
theorem propsLies_k29 : (((Rows.propsLiesRow).pinned == (Rows.propsLiesRow).pinnedBy)) = true := by kernel_rfl
theorem propsLies_k30 : (((Rows.propsLiesRow).veiled == ((Tryz.f4).params.toList ++ ((OpenSpec.ofChange Rows.propsLiesSpec).bare).plain.varTypes Tryz.prog ++ (Tryz.f4).resultTypes.toList).any (Tryz.prog.veiledRec ·))) = true := by kernel_rfl
theorem propsLies_k31 : ((Rows.propsLiesRow).veiledFits Tryz.prog (Tryz.f4).params.toList ((Tryz.f4).params.toList ++ ((OpenSpec.ofChange Rows.propsLiesSpec).bare).plain.varTypes Tryz.prog ++ (Tryz.f4).resultTypes.toList)) = true := by kernel_rfl
end Go.Proofs.YtleadljchhkiiaaGreatDoor
