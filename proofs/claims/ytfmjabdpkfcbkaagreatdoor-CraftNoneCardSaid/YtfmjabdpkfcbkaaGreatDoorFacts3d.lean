/- The closed facts of the row, one by one. -/
import Derived.ProofKit
import Derived.Test.YtfmjabdpkfcbkaaGreatDoorRows
namespace Go.Proofs.YtfmjabdpkfcbkaaGreatDoor
open Go
theorem cn_k13 : (Rows.craftNoneRow.maps == (Tryz.f3.params.toList ++ Rows.craftNoneSpec.plain.varTypes Tryz.prog).any (Tryz.prog.mapsRec ·)) = true := by kernel_rfl
theorem cn_k14 : (Rows.craftNoneRow.ifaces == (Tryz.f3.params.toList ++ Rows.craftNoneSpec.plain.varTypes Tryz.prog).any (Tryz.prog.ifacesRec ·)) = true := by kernel_rfl
theorem cn_k15 : (Rows.craftNoneRow.mapsOut == Tryz.prog.mapsAmong Tryz.f3.resultTypes.toList) = true := by kernel_rfl
theorem cn_k16 : (Rows.craftNoneRow.loops == (Tryz.f3.params.toList ++ Rows.craftNoneSpec.plain.varTypes Tryz.prog).any (Tryz.prog.loopsFrom ·)) = true := by kernel_rfl
theorem cn_k17 : (Rows.craftNoneRow.wideKeys == (Tryz.f3.params.toList ++ Rows.craftNoneSpec.plain.varTypes Tryz.prog ++ Tryz.f3.resultTypes.toList).any (Tryz.prog.wideKeysFrom ·)) = true := by kernel_rfl
theorem cn_k18 : (Rows.craftNoneSpec.vars.all (Tryz.prog.varReadable ·)) = true := by kernel_rfl
theorem cn_k19 : (Tryz.f3.resultTypes.all (fun t => Tryz.prog.readableRec t && decide (t < Tryz.prog.types.size))) = true := by kernel_rfl
theorem cn_k20 : (Rows.craftNoneRow.ifacesOut == Tryz.f3.resultTypes.toList.any (Tryz.prog.ifacesRec ·)) = true := by kernel_rfl
theorem cn_k21 : (Rows.craftNoneRow.loopsOut == Tryz.f3.resultTypes.toList.any (Tryz.prog.loopsFrom ·)) = true := by kernel_rfl
theorem cn_k22 : (Rows.craftNoneRow.plainKeys == Tryz.prog.plainKeys) = true := by kernel_rfl
theorem cn_k23 : (Rows.craftNoneRow.shortTexts.isNone) = true := by kernel_rfl
theorem cn_k24 : (Tryz.prog.stopsHeard) = true := by kernel_rfl
end Go.Proofs.YtfmjabdpkfcbkaaGreatDoor
