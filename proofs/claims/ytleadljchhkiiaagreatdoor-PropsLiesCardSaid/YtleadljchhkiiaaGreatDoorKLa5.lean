/- Closed facts of the row of PropsLies. -/
import Derived.Test.YtleadljchhkiiaaGreatDoorRows
import Derived.JoinedCond
set_option linter.unusedSimpArgs false
set_option linter.unusedVariables false
namespace Go.Proofs.YtleadljchhkiiaaGreatDoor
open Go
set_option maxRecDepth 100000
theorem propsLies_k13 : (((Rows.propsLiesRow).maps == ((Tryz.f4).params.toList ++ ((OpenSpec.ofChange Rows.propsLiesSpec).bare).plain.varTypes Tryz.prog).any (Tryz.prog.mapsRec ·))) = true := by kernel_rfl
theorem propsLies_k14 : (((Rows.propsLiesRow).ifaces == ((Tryz.f4).params.toList ++ ((OpenSpec.ofChange Rows.propsLiesSpec).bare).plain.varTypes Tryz.prog).any (Tryz.prog.ifacesRec ·))) = true := by kernel_rfl
theorem propsLies_k15 : (((Rows.propsLiesRow).mapsOut == Tryz.prog.mapsAmong (Tryz.f4).resultTypes.toList)) = true := by kernel_rfl
theorem propsLies_k16 : (((Rows.propsLiesRow).loops == ((Tryz.f4).params.toList ++ ((OpenSpec.ofChange Rows.propsLiesSpec).bare).plain.varTypes Tryz.prog).any (Tryz.prog.loopsFrom ·))) = true := by kernel_rfl
theorem propsLies_k17 : (((Rows.propsLiesRow).wideKeys == ((Tryz.f4).params.toList ++ ((OpenSpec.ofChange Rows.propsLiesSpec).bare).plain.varTypes Tryz.prog ++ (Tryz.f4).resultTypes.toList).any (Tryz.prog.wideKeysFrom ·))) = true := by kernel_rfl
theorem propsLies_k18 : (((OpenSpec.ofChange Rows.propsLiesSpec).bare).vars.all (Tryz.prog.varReadable ·)) = true := by kernel_rfl
theorem propsLies_k19 : ((Tryz.f4).resultTypes.all (fun t => Tryz.prog.readableRec t && decide (t < Tryz.prog.types.size))) = true := by kernel_rfl
theorem propsLies_k20 : (((Rows.propsLiesRow).ifacesOut == (Tryz.f4).resultTypes.toList.any (Tryz.prog.ifacesRec ·))) = true := by kernel_rfl
theorem propsLies_k21 : (((Rows.propsLiesRow).loopsOut == (Tryz.f4).resultTypes.toList.any (Tryz.prog.loopsFrom ·))) = true := by kernel_rfl
end Go.Proofs.YtleadljchhkiiaaGreatDoor
