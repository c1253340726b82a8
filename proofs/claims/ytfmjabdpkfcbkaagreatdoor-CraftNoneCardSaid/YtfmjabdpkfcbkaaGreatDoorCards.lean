/-
  DERIVED. GIVEN WITH THE SEED: THE CARDS: each row of YtfmjabdpkfcbkaaGreatDoorRows.lean that lists a variable, with what it lists TIED to the program's text (the seventh form; the later family's looks); each row that meets fmt, with fmt's text TOLD by the authors' own Lean function (tested against real Go, not proved from fmt's source: count such statements apart). THE CARD IS WHAT COUNTS. Prove the row's statement (the work); the ties are given (YtfmjabdpkfcbkaaGreatDoorTie.lean); close each card by the builder's one call (the guide's Derived/Test/ToyasCard.lean, 'card_holds'). Laid BY PROGRAM, IN A SANDBOX (cutbox-door.mjs). By AI agents, Wed Nov 11 2026. No macro, syntax, notation, axiom, sorry.
-/
import Derived.Test.YtfmjabdpkfcbkaaGreatDoorRows
import GoSem.ClaimSeven
namespace Go.Proofs.YtfmjabdpkfcbkaaGreatDoor
namespace Rows

/-- THE TIED CARD OF 'picketlaw25.CraftNone'. -/
def craftNoneCard : Claim7 := { stood := { row := craftNoneRow, standIns := [], harness := (true, "1913b4fb5a4a37fb6adc8f5bd46bcb3bd848098a5886159877077ce981678010"), looks := true }, kinds := [], alts := [], laidByText := true, laidKinds := [.data, .pinned], laidTests := true, laidLooks := .later }
def CraftNoneCardSaid : Prop := Claim7.holds Tryz.pinned (.plain (OpenSpec.ofChange craftNoneSpec)) craftNoneCard

/-- THE SECOND FORM's CARD OF 'picketlaw25.CraftNone'. -/
def craftNoneUptoCard : Claim7 := { stood := { row := craftNoneUptoRow, standIns := [], harness := (true, "1913b4fb5a4a37fb6adc8f5bd46bcb3bd848098a5886159877077ce981678010"), looks := true }, kinds := [], alts := [], laidByText := true, laidKinds := [.data, .pinned], laidTests := true, laidLooks := .later }
def CraftNoneUptoCardSaid : Prop := Claim7.holds Tryz.pinned (.plain (OpenSpec.upto craftNoneSpec)) craftNoneUptoCard
end Rows
end Go.Proofs.YtfmjabdpkfcbkaaGreatDoor
