/- The closed facts of the row, one by one. -/
import Derived.ProofKit
import Derived.Test.YtadmjjogmbhkaaaGreatDoorRows
namespace Go.Proofs.YtadmjjogmbhkaaaGreatDoor
open Go
theorem cn_k10 : (Rows.fleetNoneRow.unfollowed == Tryz.prog.unfollowed 3) = true := by kernel_rfl
theorem cn_k11 : (Rows.fleetNoneRow.recurses == Tryz.prog.recurses 3) = true := by kernel_rfl
end Go.Proofs.YtadmjjogmbhkaaaGreatDoor
