/- The closed facts of the row, together. FleetNone: the row's statement. -/
import Derived.Test.YtadmjjogmbhkaaaGreatDoorFactsa
import Derived.Test.YtadmjjogmbhkaaaGreatDoorFactsb
import Derived.Test.YtadmjjogmbhkaaaGreatDoorFactsc
import Derived.Test.YtadmjjogmbhkaaaGreatDoorFactsd
import Derived.Test.YtadmjjogmbhkaaaGreatDoorFactse
import Derived.Test.YtadmjjogmbhkaaaGreatDoorFactsf
import Derived.Test.YtadmjjogmbhkaaaGreatDoorLift
namespace Go.Proofs.YtadmjjogmbhkaaaGreatDoor
open Go
set_option maxRecDepth 100000
theorem cn_closed : joinedFacts Tryz.prog 3 Tryz.f3 Rows.fleetNoneSpec Rows.fleetNoneRow = true := by
  unfold joinedFacts
  rw [cn_k0, cn_k1, cn_k2, cn_k3, cn_k4, cn_k5, cn_k6, cn_k7, cn_k8, cn_k9, cn_k10, cn_k11, cn_k12, cn_k13, cn_k14, cn_k15, cn_k16, cn_k17, cn_k18, cn_k19, cn_k20, cn_k21, cn_k22, cn_k23, cn_k24, cn_k25, cn_k26, cn_k27, cn_k29, cn_k30, cn_k31]
  kernel_rfl
end Go.Proofs.YtadmjjogmbhkaaaGreatDoor
namespace Go.Proofs.YtadmjjogmbhkaaaGreatDoor
open Go.ChangeShapes Go.WideShapes Go.ChangeAt Go.RowKit
theorem cn_named : Tryz.pinned.checked.prog.funcNamed Rows.fleetNoneRow.func = some 3 := by kernel_rfl
theorem cn_closed' : joinedFacts Tryz.pinned.checked.prog 3 Tryz.f3 Rows.fleetNoneSpec Rows.fleetNoneRow = true := cn_closed
theorem cn_inst : Tryz.f3.isInstance Tryz.pinned.checked.prog Rows.fleetNoneRow.origin Rows.fleetNoneRow.targs := of_decide_eq_true (by kernel_rfl)
theorem cn_wrap : Tryz.f3.isWrapper Tryz.pinned.checked.prog Rows.fleetNoneRow.wrapper Rows.fleetNoneRow.mainSum := by
  unfold Func.isWrapper; first | (rw [if_pos (by decide +kernel)]; kernel_rfl) | (rw [if_neg (by decide +kernel)]; exact ⟨rfl, rfl⟩)
theorem fleetNone_holds : Rows.FleetNoneSaid :=
  OpenClaim.holds_of_wide 3 Tryz.f3 rfl rfl rfl rfl rfl rfl rfl ⟨rfl, rfl, rfl, rfl, rfl⟩ rfl rfl rfl rfl rfl cn_named Tryz.func3 cn_closed' cn_inst cn_wrap
    (fun os started H enc _ => cn_lifted os started H enc)
end Go.Proofs.YtadmjjogmbhkaaaGreatDoor
