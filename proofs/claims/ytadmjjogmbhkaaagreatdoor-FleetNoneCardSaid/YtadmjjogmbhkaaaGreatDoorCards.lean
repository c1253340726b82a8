/-
  DERIVED. GIVEN WITH THE SEED: THE CARDS: each row of YtadmjjogmbhkaaaGreatDoorRows.lean that lists a variable, with what it lists TIED to the program's text (the seventh form; the later family's looks); each row that meets fmt, with fmt's text TOLD by the authors' own Lean function (tested against real Go, not proved from fmt's source: count such statements apart). THE CARD IS WHAT COUNTS. Prove the row's statement (the work); the ties are given (YtadmjjogmbhkaaaGreatDoorTie.lean); close each card by the builder's one call (the guide's Derived/Test/ToyasCard.lean, 'card_holds'). Laid BY PROGRAM, IN A SANDBOX (cutbox-door.mjs). By AI agents, Wed Nov 11 2026. No macro, syntax, notation, axiom, sorry.
-/
import Derived.Test.YtadmjjogmbhkaaaGreatDoorRows
import GoSem.ClaimSeven
namespace Go.Proofs.YtadmjjogmbhkaaaGreatDoor
namespace Rows

/-- THE TIED CARD OF 'picketlaw26.FleetNone'. -/
def fleetNoneCard : Claim7 := { stood := { row := fleetNoneRow, standIns := [], harness := (true, "6c2029d169cf081e476778543d9ca853bb60bf34f1873e4c7c32e31888e6573d"), looks := true }, kinds := [], alts := [], laidByText := true, laidKinds := [.data, .pinned], laidTests := true, laidLooks := .later }
def FleetNoneCardSaid : Prop := Claim7.holds Tryz.pinned (.plain (OpenSpec.ofChange fleetNoneSpec)) fleetNoneCard

/-- THE SECOND FORM's CARD OF 'picketlaw26.FleetNone'. -/
def fleetNoneUptoCard : Claim7 := { stood := { row := fleetNoneUptoRow, standIns := [], harness := (true, "6c2029d169cf081e476778543d9ca853bb60bf34f1873e4c7c32e31888e6573d"), looks := true }, kinds := [], alts := [], laidByText := true, laidKinds := [.data, .pinned], laidTests := true, laidLooks := .later }
def FleetNoneUptoCardSaid : Prop := Claim7.holds Tryz.pinned (.plain (OpenSpec.upto fleetNoneSpec)) fleetNoneUptoCard
end Rows
end Go.Proofs.YtadmjjogmbhkaaaGreatDoor
