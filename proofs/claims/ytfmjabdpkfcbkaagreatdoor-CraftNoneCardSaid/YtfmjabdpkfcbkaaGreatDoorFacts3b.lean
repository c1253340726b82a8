/- The closed facts of the row, one by one. -/
import Derived.ProofKit
import Derived.Test.YtfmjabdpkfcbkaaGreatDoorRows
namespace Go.Proofs.YtfmjabdpkfcbkaaGreatDoor
open Go
theorem cn_k9 : (Rows.craftNoneRow.inPlace == Tryz.prog.inPlace 3) = true := by kernel_rfl
theorem cn_k10 : (Rows.craftNoneRow.unfollowed == Tryz.prog.unfollowed 3) = true := by kernel_rfl
theorem cn_k11 : (Rows.craftNoneRow.recurses == Tryz.prog.recurses 3) = true := by kernel_rfl
end Go.Proofs.YtfmjabdpkfcbkaaGreatDoor
