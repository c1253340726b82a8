/- The closed facts of the row, one by one. -/
import Derived.ProofKit
import Derived.Test.YtfmjabdpkfcbkaaGreatDoorRows
namespace Go.Proofs.YtfmjabdpkfcbkaaGreatDoor
open Go
theorem cn_k12 : (Rows.craftNoneRow.named == Tryz.prog.varsNamed 3) = true := by kernel_rfl
end Go.Proofs.YtfmjabdpkfcbkaaGreatDoor
