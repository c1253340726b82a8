/- For every input the law FleetNone returns true, and its arguments read behind the call as they read before it. The card: what the row lists is tied to the program's text. -/
import Derived.Test.YtadmjjogmbhkaaaGreatDoorHolds
import Derived.SevenTiedAt
import Derived.Test.YtadmjjogmbhkaaaGreatDoorCards
import Derived.Test.YtadmjjogmbhkaaaGreatDoorTie
namespace Go.Proofs.YtadmjjogmbhkaaaGreatDoor
open Go
theorem cn_wf : Rows.fleetNoneRow.wfByText (OpenSpec.ofChange Rows.fleetNoneSpec) = true := by kernel_rfl
theorem cn_main : Tryz.pinned.checked.prog.mainIs = some (true, "6c2029d169cf081e476778543d9ca853bb60bf34f1873e4c7c32e31888e6573d".toList) := by kernel_rfl
theorem cn_looks : true = Tryz.pinned.checked.prog.looks [] := by kernel_rfl
theorem cn_wants0 : Tryz.prog.wantsStandIn 22 = false := by kernel_rfl
theorem cn_wants1 : Tryz.prog.wantsStandIn 3 = false := by kernel_rfl
theorem cn_goes : false = Rows.fleetNoneRow.goesBy Tryz.pinned.checked.prog := by kernel_rfl
theorem fleetNone_card : Rows.FleetNoneCardSaid :=
  Claim7.holds_tied_plain_at .later [] [.data, .pinned] true (true, "6c2029d169cf081e476778543d9ca853bb60bf34f1873e4c7c32e31888e6573d") true
    fleetNone_holds (fun _ h => by cases h) cn_wf (fun _ h => by cases h) fleetNone_row_tie rfl ⟨rfl, rfl⟩ cn_main rfl
    (fun f fn hf hfn => by
      obtain rfl : f = 3 := Option.some.inj (cn_named.symm.trans hf) |>.symm
      obtain rfl : fn = Tryz.f3 := (Option.some.inj (Tryz.func3.symm.trans hfn)).symm
      exact ⟨cn_looks, fun j t ht => by
        rw [Tryz.params3] at ht
        rcases j with _ | _ | j
        · have h3 : t = 22 := by simpa using ht.symm
          subst h3; exact cn_wants0
        · have h3 : t = 3 := by simpa using ht.symm
          subst h3; exact cn_wants1
        · simp at ht⟩)
    cn_goes
end Go.Proofs.YtadmjjogmbhkaaaGreatDoor
