/- For every input the law CraftNone returns true, and its argument reads behind the call as it read before it. The card: what the row lists is tied to the program's text. -/
import Derived.Test.YtfmjabdpkfcbkaaGreatDoorHolds3
import Derived.SevenTiedAt
import Derived.Test.YtfmjabdpkfcbkaaGreatDoorCards
import Derived.Test.YtfmjabdpkfcbkaaGreatDoorTie
namespace Go.Proofs.YtfmjabdpkfcbkaaGreatDoor
open Go
theorem cn_wf : Rows.craftNoneRow.wfByText (OpenSpec.ofChange Rows.craftNoneSpec) = true := by kernel_rfl
theorem cn_main : Tryz.pinned.checked.prog.mainIs = some (true, "1913b4fb5a4a37fb6adc8f5bd46bcb3bd848098a5886159877077ce981678010".toList) := by kernel_rfl
theorem cn_looks : true = Tryz.pinned.checked.prog.looks [] := by kernel_rfl
theorem cn_wants : Tryz.prog.wantsStandIn 25 = false := by kernel_rfl
theorem cn_goes : false = Rows.craftNoneRow.goesBy Tryz.pinned.checked.prog := by kernel_rfl
theorem craftNone_card : Rows.CraftNoneCardSaid :=
  Claim7.holds_tied_plain_at .later [] [.data, .pinned] true (true, "1913b4fb5a4a37fb6adc8f5bd46bcb3bd848098a5886159877077ce981678010") true
    craftNone_holds (fun _ h => by cases h) cn_wf (fun _ h => by cases h) craftNone_row_tie rfl ⟨rfl, rfl⟩ cn_main rfl
    (fun f fn hf hfn => by
      obtain rfl : f = 3 := Option.some.inj (cn_named.symm.trans hf) |>.symm
      obtain rfl : fn = Tryz.f3 := (Option.some.inj (Tryz.func3.symm.trans hfn)).symm
      exact ⟨cn_looks, fun j t ht => by
        rw [Tryz.params3] at ht
        have h3 : t = 25 := by
          rcases j with _ | j
          · simpa using ht.symm
          · simp at ht
        subst h3
        exact cn_wants⟩)
    cn_goes
end Go.Proofs.YtfmjabdpkfcbkaaGreatDoor
