/- The closed facts of the row, one by one. -/
import Derived.ProofKit
import Derived.Test.YtadmjjogmbhkaaaGreatDoorRows
namespace Go.Proofs.YtadmjjogmbhkaaaGreatDoor
open Go
theorem cn_k12 : (Rows.fleetNoneRow.named == Tryz.prog.varsNamed 3) = true := by kernel_rfl
end Go.Proofs.YtadmjjogmbhkaaaGreatDoor
