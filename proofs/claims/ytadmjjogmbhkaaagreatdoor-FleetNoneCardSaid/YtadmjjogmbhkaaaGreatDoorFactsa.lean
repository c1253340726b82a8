/- The closed facts of the row, one by one. -/
import Derived.ProofKit
import Derived.Test.YtadmjjogmbhkaaaGreatDoorRows
namespace Go.Proofs.YtadmjjogmbhkaaaGreatDoor
open Go
theorem cn_k0 : (Rows.fleetNoneRow.wf (OpenSpec.ofChange Rows.fleetNoneSpec)) = true := by kernel_rfl
theorem cn_k1 : (laidOutB Tryz.prog) = true := by kernel_rfl
theorem cn_k2 : (mapsRowed Tryz.prog) = true := by kernel_rfl
theorem cn_k3 : (Tryz.f3.params.all (Tryz.prog.readableRec ·)) = true := by kernel_rfl
theorem cn_k4 : (namedTie Tryz.prog Rows.fleetNoneRow.named Rows.fleetNoneSpec.vars) = true := by kernel_rfl
theorem cn_k5 : (Rows.fleetNoneRow.stops == []) = true := by kernel_rfl
theorem cn_k6 : (Tryz.prog.stops == []) = true := by kernel_rfl
theorem cn_k7 : (Rows.fleetNoneRow.knobs == []) = true := by kernel_rfl
theorem cn_k8 : (Tryz.prog.stopKnobs == []) = true := by kernel_rfl
end Go.Proofs.YtadmjjogmbhkaaaGreatDoor
