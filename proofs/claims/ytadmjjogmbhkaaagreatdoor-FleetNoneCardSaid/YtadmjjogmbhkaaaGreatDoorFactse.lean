/- The closed facts of the row, one by one. -/
import Derived.ProofKit
import Derived.Test.YtadmjjogmbhkaaaGreatDoorRows
namespace Go.Proofs.YtadmjjogmbhkaaaGreatDoor
open Go
theorem cn_k13 : (Rows.fleetNoneRow.maps == (Tryz.f3.params.toList ++ Rows.fleetNoneSpec.plain.varTypes Tryz.prog).any (Tryz.prog.mapsRec ·)) = true := by kernel_rfl
theorem cn_k14 : (Rows.fleetNoneRow.ifaces == (Tryz.f3.params.toList ++ Rows.fleetNoneSpec.plain.varTypes Tryz.prog).any (Tryz.prog.ifacesRec ·)) = true := by kernel_rfl
theorem cn_k15 : (Rows.fleetNoneRow.mapsOut == Tryz.prog.mapsAmong Tryz.f3.resultTypes.toList) = true := by kernel_rfl
theorem cn_k16 : (Rows.fleetNoneRow.loops == (Tryz.f3.params.toList ++ Rows.fleetNoneSpec.plain.varTypes Tryz.prog).any (Tryz.prog.loopsFrom ·)) = true := by kernel_rfl
theorem cn_k17 : (Rows.fleetNoneRow.wideKeys == (Tryz.f3.params.toList ++ Rows.fleetNoneSpec.plain.varTypes Tryz.prog ++ Tryz.f3.resultTypes.toList).any (Tryz.prog.wideKeysFrom ·)) = true := by kernel_rfl
theorem cn_k18 : (Rows.fleetNoneSpec.vars.all (Tryz.prog.varReadable ·)) = true := by kernel_rfl
theorem cn_k19 : (Tryz.f3.resultTypes.all (fun t => Tryz.prog.readableRec t && decide (t < Tryz.prog.types.size))) = true := by kernel_rfl
theorem cn_k20 : (Rows.fleetNoneRow.ifacesOut == Tryz.f3.resultTypes.toList.any (Tryz.prog.ifacesRec ·)) = true := by kernel_rfl
theorem cn_k21 : (Rows.fleetNoneRow.loopsOut == Tryz.f3.resultTypes.toList.any (Tryz.prog.loopsFrom ·)) = true := by kernel_rfl
theorem cn_k22 : (Rows.fleetNoneRow.plainKeys == Tryz.prog.plainKeys) = true := by kernel_rfl
theorem cn_k23 : (Rows.fleetNoneRow.shortTexts.isNone) = true := by kernel_rfl
theorem cn_k24 : (Tryz.prog.stopsHeard) = true := by kernel_rfl
end Go.Proofs.YtadmjjogmbhkaaaGreatDoor
