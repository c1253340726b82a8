/- The closed facts of the row, together. -/
import Derived.Test.YtfmjabdpkfcbkaaGreatDoorFacts3a
import Derived.Test.YtfmjabdpkfcbkaaGreatDoorFacts3b
import Derived.Test.YtfmjabdpkfcbkaaGreatDoorFacts3c
import Derived.Test.YtfmjabdpkfcbkaaGreatDoorFacts3d
import Derived.Test.YtfmjabdpkfcbkaaGreatDoorFacts3e
namespace Go.Proofs.YtfmjabdpkfcbkaaGreatDoor
open Go
set_option maxRecDepth 100000
theorem cn_closed : joinedFacts Tryz.prog 3 Tryz.f3 Rows.craftNoneSpec Rows.craftNoneRow = true := by
  unfold joinedFacts
  rw [cn_k0, cn_k1, cn_k2, cn_k3, cn_k4, cn_k5, cn_k6, cn_k7, cn_k8, cn_k9, cn_k10, cn_k11, cn_k12, cn_k13, cn_k14, cn_k15, cn_k16, cn_k17, cn_k18, cn_k19, cn_k20, cn_k21, cn_k22, cn_k23, cn_k24, cn_k25, cn_k26, cn_k27, cn_k29, cn_k30, cn_k31]
  kernel_rfl
end Go.Proofs.YtfmjabdpkfcbkaaGreatDoor
