/- The closed facts of the row, one by one. -/
import Derived.ProofKit
import Derived.Test.YtadmjjogmbhkaaaGreatDoorRows
namespace Go.Proofs.YtadmjjogmbhkaaaGreatDoor
open Go
theorem cn_k25 : (Tryz.prog.mayEnter) = true := by kernel_rfl
theorem cn_k26 : (Rows.fleetNoneRow.lifted == Tryz.prog.liftsFinal) = true := by kernel_rfl
theorem cn_k27 : (Tryz.prog.make == some Rows.fleetNoneRow.make) = true := by kernel_rfl
theorem cn_k28 : (Rows.fleetNoneRow.kinds == (if Rows.fleetNoneRow.domain.isEmpty then [] else Tryz.f3.params.toList.map fun t => match Tryz.prog.underlying t with | some (.int k) => some k | _ => none)) = true := by kernel_rfl
theorem cn_k29 : (Rows.fleetNoneRow.pinned == Rows.fleetNoneRow.pinnedBy) = true := by kernel_rfl
theorem cn_k30 : (Rows.fleetNoneRow.veiled == (Tryz.f3.params.toList ++ Rows.fleetNoneSpec.plain.varTypes Tryz.prog ++ Tryz.f3.resultTypes.toList).any (Tryz.prog.veiledRec ·)) = true := by kernel_rfl
theorem cn_k31 : (Rows.fleetNoneRow.veiledFits Tryz.prog Tryz.f3.params.toList (Tryz.f3.params.toList ++ Rows.fleetNoneSpec.plain.varTypes Tryz.prog ++ Tryz.f3.resultTypes.toList)) = true := by kernel_rfl
end Go.Proofs.YtadmjjogmbhkaaaGreatDoor
