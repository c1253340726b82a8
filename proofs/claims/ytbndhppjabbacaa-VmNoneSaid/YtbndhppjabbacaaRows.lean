/-
  No cell of these rows narrows 'for every input' (looked for: loops, veiled, ifaces, maps, wideKeys, modest, calm, conditions, laid).
  DERIVED. THE GIVEN ROWS OF THIS SEAT. 3 by the template 'for every input the law returns true; each argument reads behind the call as it read before'; 0 by the template 'total and deterministic' (their statements: YtbndhppjabbacaaTotals.lean).
  GIVEN WITH THE SEED: the statements are not yours to turn. If you find one false, say at which input.
  Laid BY PROGRAM, IN A SANDBOX (cutbox-rows.mjs): the forced cells as the released guide's own fill.sh prints them over the translation ca6d4bbdd197f581… (all of the seat's roots in one cut). By AI agents, Wed Nov 11 2026. No macro, syntax, notation, axiom, sorry.
-/
import Derived.Test.YtbndhppjabbacaaChecked
import GoSem.Claim
import GoSem.ClaimJoined
import GoSem.ClaimMapViews
import Derived.JoinedTies
import Derived.KernelRfl
namespace Go.Proofs.Ytbndhppjabbacaa
/- THE CELL 'sum', in the pinned program and in every row, IS THE sha256 OF THE DUMP (.gsa) THAT YtbndhppjabbacaaProg.lean LOADS. Nothing in Lean hashes anything: it is a label: what it is worth is what the hold of that sum in a sandbox is worth. -/
noncomputable def Try.pinned : Pinned := { name := "ytbndhppjabbacaa", sum := "ca6d4bbdd197f5819c674291fdf10ec57fc616ce4c36802aa5bef40ffcb733fb", checked := Try.checked }
namespace Rows
def none {H : Type} : Left H := { results := [], args := [] }

/-- 'picketlaw13.VmSticks': WHATEVER THE INPUT: true; the input reads as it did. -/
def vmSticksSpec : ChangeSpec := { name := "vmSticks", fn := fun _ => fun
  | [d1, d2] => { results := [.lit (.bool true)], args := [d1, d2] }
  | _ => none }
def vmSticksRow : OpenClaim := { program := "ytbndhppjabbacaa", sum := "ca6d4bbdd197f5819c674291fdf10ec57fc616ce4c36802aa5bef40ffcb733fb", func := "picket/picketlaw13.VmSticks", spec := "vmSticks", inPlace := ["math/bits.Add64"], unfollowed := true, recurses := true, apart := false }
def VmSticksSaid : Prop := vmSticksRow.holds Try.pinned (OpenSpec.ofChange vmSticksSpec)

/-- ITS FALSE NEIGHBOUR: 'it returns false'. Refute it at one input. -/
def vmSticksWrong : ChangeSpec := { name := "vmSticks", fn := fun _ => fun
  | [d1, d2] => { results := [.lit (.bool false)], args := [d1, d2] }
  | _ => none }
def VmSticksWrongFalsely : Prop := vmSticksRow.holds Try.pinned (OpenSpec.ofChange vmSticksWrong)

/-- 'picketlaw13.VmShort': WHATEVER THE INPUT: true; the input reads as it did. -/
def vmShortSpec : ChangeSpec := { name := "vmShort", fn := fun _ => fun
  | [d1, d2, d3] => { results := [.lit (.bool true)], args := [d1, d2, d3] }
  | _ => none }
def vmShortRow : OpenClaim := { program := "ytbndhppjabbacaa", sum := "ca6d4bbdd197f5819c674291fdf10ec57fc616ce4c36802aa5bef40ffcb733fb", func := "picket/picketlaw13.VmShort", spec := "vmShort", inPlace := ["math/bits.Add64"], unfollowed := true, recurses := true, apart := false }
def VmShortSaid : Prop := vmShortRow.holds Try.pinned (OpenSpec.ofChange vmShortSpec)

/-- ITS FALSE NEIGHBOUR: 'it returns false'. Refute it at one input. -/
def vmShortWrong : ChangeSpec := { name := "vmShort", fn := fun _ => fun
  | [d1, d2, d3] => { results := [.lit (.bool false)], args := [d1, d2, d3] }
  | _ => none }
def VmShortWrongFalsely : Prop := vmShortRow.holds Try.pinned (OpenSpec.ofChange vmShortWrong)

/-- 'picketlaw13.VmNone': WHATEVER THE INPUT: true; the input reads as it did. -/
def vmNoneSpec : ChangeSpec := { name := "vmNone", fn := fun _ => fun
  | [d] => { results := [.lit (.bool true)], args := [d] }
  | _ => none }
def vmNoneRow : OpenClaim := { program := "ytbndhppjabbacaa", sum := "ca6d4bbdd197f5819c674291fdf10ec57fc616ce4c36802aa5bef40ffcb733fb", func := "picket/picketlaw13.VmNone", spec := "vmNone", inPlace := ["math/bits.Add64"], unfollowed := true, recurses := true, apart := false }
def VmNoneSaid : Prop := vmNoneRow.holds Try.pinned (OpenSpec.ofChange vmNoneSpec)

/-- ITS FALSE NEIGHBOUR: 'it returns false'. Refute it at one input. -/
def vmNoneWrong : ChangeSpec := { name := "vmNone", fn := fun _ => fun
  | [d] => { results := [.lit (.bool false)], args := [d] }
  | _ => none }
def VmNoneWrongFalsely : Prop := vmNoneRow.holds Try.pinned (OpenSpec.ofChange vmNoneWrong)

/- THE SECOND FORM. 'bulk': how many values and letters a reading holds, each counted each time it is reached (what is shared counts as often as it is met; a slice's spare places count too). A statement '..UptoSaid' is the law's where the arguments, and the package variables that the reading takes, are together of bulk at most 1048576: NARROWER than '..Said'. Prove '..Said' where nothing that the law and all that it calls make is longer than what came in: it says more and counts as full. Else prove '..UptoSaid'. A law counts once. -/
mutual
def uptoBulk {H : Type} : DataW H → Nat
  | .lit (.string bytes) => bytes.length + 1
  | .lit _ => 1
  | .nil => 1
  | .ptr d => uptoBulk d + 1
  | .slice elems spare => uptoBulkAll elems + uptoBulkAll spare + 1
  | .agg parts => uptoBulkAll parts + 1
  | .iface _ d => uptoBulk d + 1
  | .map entries => uptoBulkEntries entries + 1
  | .held _ => 1
def uptoBulkAll {H : Type} : List (DataW H) → Nat
  | [] => 0
  | d :: r => uptoBulk d + uptoBulkAll r
def uptoBulkEntries {H : Type} : List (Lit × DataW H) → Nat
  | [] => 0
  | x :: r => uptoBulkEntry x + uptoBulkEntries r
def uptoBulkEntry {H : Type} : Lit × DataW H → Nat
  | (.string bytes, d) => bytes.length + uptoBulk d + 1
  | (_, d) => uptoBulk d + 1
 end
def uptoSmall : (H : Type) → List (DataW H) → Bool := fun _ ds => decide (uptoBulkAll ds ≤ 1048576)
def OpenSpec.upto (s : _root_.Go.ChangeSpec) : _root_.Go.OpenSpec := { _root_.Go.OpenSpec.ofChange s with cond := some uptoSmall }

/-- 'picketlaw13.VmSticks', WHERE WHAT IT READS IS OF BULK AT MOST 1048576: true; the input reads as it did. -/
def vmSticksUptoRow : OpenClaim := { program := "ytbndhppjabbacaa", sum := "ca6d4bbdd197f5819c674291fdf10ec57fc616ce4c36802aa5bef40ffcb733fb", func := "picket/picketlaw13.VmSticks", spec := "vmSticks", inPlace := ["math/bits.Add64"], unfollowed := true, recurses := true, apart := false, narrowed := true }
def VmSticksUptoSaid : Prop := vmSticksUptoRow.holds Try.pinned (OpenSpec.upto vmSticksSpec)

/-- 'picketlaw13.VmShort', WHERE WHAT IT READS IS OF BULK AT MOST 1048576: true; the input reads as it did. -/
def vmShortUptoRow : OpenClaim := { program := "ytbndhppjabbacaa", sum := "ca6d4bbdd197f5819c674291fdf10ec57fc616ce4c36802aa5bef40ffcb733fb", func := "picket/picketlaw13.VmShort", spec := "vmShort", inPlace := ["math/bits.Add64"], unfollowed := true, recurses := true, apart := false, narrowed := true }
def VmShortUptoSaid : Prop := vmShortUptoRow.holds Try.pinned (OpenSpec.upto vmShortSpec)

/-- 'picketlaw13.VmNone', WHERE WHAT IT READS IS OF BULK AT MOST 1048576: true; the input reads as it did. -/
def vmNoneUptoRow : OpenClaim := { program := "ytbndhppjabbacaa", sum := "ca6d4bbdd197f5819c674291fdf10ec57fc616ce4c36802aa5bef40ffcb733fb", func := "picket/picketlaw13.VmNone", spec := "vmNone", inPlace := ["math/bits.Add64"], unfollowed := true, recurses := true, apart := false, narrowed := true }
def VmNoneUptoSaid : Prop := vmNoneUptoRow.holds Try.pinned (OpenSpec.upto vmNoneSpec)

end Rows
end Go.Proofs.Ytbndhppjabbacaa
