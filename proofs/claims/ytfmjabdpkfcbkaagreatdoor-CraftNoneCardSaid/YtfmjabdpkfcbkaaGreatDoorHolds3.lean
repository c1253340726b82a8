/- CraftNone: the row's statement. -/
import Derived.Test.YtfmjabdpkfcbkaaGreatDoorLift3
import Derived.Test.YtfmjabdpkfcbkaaGreatDoorFacts3
namespace Go.Proofs.YtfmjabdpkfcbkaaGreatDoor
open Go.ChangeShapes Go.WideShapes Go.ChangeAt Go.RowKit
theorem cn_named : Tryz.pinned.checked.prog.funcNamed Rows.craftNoneRow.func = some 3 := by kernel_rfl
theorem cn_closed' : joinedFacts Tryz.pinned.checked.prog 3 Tryz.f3 Rows.craftNoneSpec Rows.craftNoneRow = true := cn_closed
theorem cn_inst : Tryz.f3.isInstance Tryz.pinned.checked.prog Rows.craftNoneRow.origin Rows.craftNoneRow.targs := of_decide_eq_true (by kernel_rfl)
theorem cn_wrap : Tryz.f3.isWrapper Tryz.pinned.checked.prog Rows.craftNoneRow.wrapper Rows.craftNoneRow.mainSum := by
  unfold Func.isWrapper; first | (rw [if_pos (by decide +kernel)]; kernel_rfl) | (rw [if_neg (by decide +kernel)]; exact ⟨rfl, rfl⟩)
theorem craftNone_holds : Rows.CraftNoneSaid :=
  OpenClaim.holds_of_wide 3 Tryz.f3 rfl rfl rfl rfl rfl rfl rfl ⟨rfl, rfl, rfl, rfl, rfl⟩ rfl rfl rfl rfl rfl cn_named Tryz.func3 cn_closed' cn_inst cn_wrap
    (fun os started H enc _ => cn_lifted os started H enc)
end Go.Proofs.YtfmjabdpkfcbkaaGreatDoor
