/- The closed facts of the row, one by one. -/
import Derived.ProofKit
import Derived.Test.YtadmjjogmbhkaaaGreatDoorRows
namespace Go.Proofs.YtadmjjogmbhkaaaGreatDoor
open Go
theorem cn_k9 : (Rows.fleetNoneRow.inPlace == Tryz.prog.inPlace 3) = true := by kernel_rfl
end Go.Proofs.YtadmjjogmbhkaaaGreatDoor
