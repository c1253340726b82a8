/- For every input the law CraftNone returns true, and its argument reads behind the call as it read before it. No condition but the row's own laid tables. -/
import Derived.Test.YtfmjabdpkfcbkaaGreatDoorLawRun
import Derived.Test.YtfmjabdpkfcbkaaGreatDoorEvT
import Derived.Lay
import Derived.MakeChecks
import Derived.OpenShut
import Derived.Stop.Joined
import Derived.Test.YtfmjabdpkfcbkaaGreatDoorRows
namespace Ev.L3
open Go Go.Proofs
set_option maxRecDepth 100000
section
variable {H : Type} {enc : TypeId × Value → H} {w : World} {sp : Nat → Bool} {held : Bool}
theorem rd3 {fuel : Nat} {cs : List Value} {x : DataW H × List MemPlace} (h : DataW.trod enc Tryz.prog w 0 sp held fuel 3 cs = some x) : ∃ n, cs = [.int .i64 n] := by
  obtain ⟨n, rfl, _⟩ := DataW.trod_int Tryz.underlying3 h
  exact ⟨n, rfl⟩
theorem rv3 : ∀ fuel cs x, DataW.trod enc Tryz.prog w 0 sp held fuel 3 cs = some x → ∃ y : T 3, VRs C (E0 w) (enc3 y) cs := by
  intro fuel cs x h
  obtain ⟨n, rfl⟩ := rd3 h
  exact ⟨n, VRs.cons (.int _ _) VRs.nil⟩
theorem rv9 : ∀ fuel cs x, DataW.trod enc Tryz.prog w 0 sp held fuel 9 cs = some x → ∃ y : T 9, VRs C (E0 w) (enc9 y) cs := by
  intro fuel cs x h
  obtain ⟨s, rfl, _⟩ := DataW.trod_string Tryz.underlying9 h
  exact ⟨s, VRs.cons (.str _) VRs.nil⟩
theorem c3 : Tryz.prog.cellsOf 3 = 1 := by kernel_rfl
theorem c9 : Tryz.prog.cellsOf 9 = 1 := by kernel_rfl
theorem c22 : Tryz.prog.cellsOf 22 = 1 := by kernel_rfl
theorem c23 : Tryz.prog.cellsOf 23 = 1 := by kernel_rfl
theorem c25 : Tryz.prog.cellsOf 25 = 5 := by kernel_rfl
theorem c34 : Tryz.prog.cellsOf 34 = 1 := by kernel_rfl
theorem rv34 : ∀ fuel cs x, DataW.trod enc Tryz.prog w 0 sp held fuel 34 cs = some x → ∃ y : T 34, VRs C (E0 w) (enc34 y) cs := by
  intro fuel cs x h
  obtain ⟨v, xs, rfl, hv, _⟩ := read_slice (X := C) (e := 3) Tryz.underlying34 c3 (by decide) rv3 h
  exact ⟨xs, VRs.cons hv VRs.nil⟩
theorem rv25 : ∀ fuel cs x, DataW.trod enc Tryz.prog w 0 sp held fuel 25 cs = some x → ∃ p : InputR, VRs C (E0 w) (enc25 p) cs ∧ p.Sensors.length ≤ 9223372036854775807 ∧ p.Commands.length ≤ 9223372036854775807 := by
  intro fuel cs x h
  obtain ⟨xs, n, _, rfl, hl, hlen, hf⟩ := DataW.trod_struct Tryz.underlying25 h
  rw [c25] at hl
  match xs, hlen, cs, hl with
  | [y0, y1, y2, y3, y4], _, [a, b, c, d, e], _ =>
    have h0 : DataW.trod enc Tryz.prog w 0 sp held n 3 (([a, b, c, d, e].drop 0).take (Tryz.prog.cellsOf 3)) = some y0 := hf 0 _ rfl
    rw [c3] at h0
    have h1 : DataW.trod enc Tryz.prog w 0 sp held n 22 (([a, b, c, d, e].drop 1).take (Tryz.prog.cellsOf 22)) = some y1 := hf 1 _ rfl
    rw [c22] at h1
    have h2 : DataW.trod enc Tryz.prog w 0 sp held n 23 (([a, b, c, d, e].drop 2).take (Tryz.prog.cellsOf 23)) = some y2 := hf 2 _ rfl
    rw [c23] at h2
    have h3 : DataW.trod enc Tryz.prog w 0 sp held n 3 (([a, b, c, d, e].drop 3).take (Tryz.prog.cellsOf 3)) = some y3 := hf 3 _ rfl
    rw [c3] at h3
    have h4 : DataW.trod enc Tryz.prog w 0 sp held n 3 (([a, b, c, d, e].drop 4).take (Tryz.prog.cellsOf 3)) = some y4 := hf 4 _ rfl
    rw [c3] at h4
    obtain ⟨n0, e0⟩ := rd3 h0
    obtain ⟨v1, l1, e1, hv1, hn1⟩ := read_slice (X := C) (e := 34) Tryz.underlying22 c34 (by decide) rv34 h1
    obtain ⟨v2, l2, e2, hv2, hn2⟩ := read_slice (X := C) (e := 9) Tryz.underlying23 c9 (by decide) rv9 h2
    obtain ⟨n3, e3⟩ := rd3 h3
    obtain ⟨n4, e4⟩ := rd3 h4
    simp at e0 e1 e2 e3 e4
    subst e0; subst e1; subst e2; subst e3; subst e4
    exact ⟨⟨n0, l1, l2, n3, n4⟩, VRs.cons (.int _ _) (VRs.cons hv1 (VRs.cons hv2 (VRs.cons (.int _ _) (VRs.cons (.int _ _) VRs.nil)))), hn1, hn2⟩
theorem light_calls {p : InputR} {us : Array Value} (hv : VRs C (E0 w) (enc25 p) us.toList) (h1 : p.Sensors.length ≤ 9223372036854775807) (h2 : p.Commands.length ≤ 9223372036854775807) (W : World) (hB : RowKit.Below w.heap.size w W) :
    Calls Tryz.prog 4 #[.agg us] W fun e W' => ∃ b, e = .returned (.bool b) ∧ RowKit.Below W.heap.size W W' := by
  have hvW : VR C (E0 W) (.agg (enc25 p)) (.agg us) := (vr_agg_mk hv).mono (fun b o h => by
    have h : w.heap[b]? = some o := h
    show W.heap[b]? = some o
    rw [hB.block b (Array.getElem?_eq_some_iff.1 h).1, h]) (fun l q h => by cases h)
  have h := f4_ok [.agg (enc25 p)] [] (fun v _ => ∃ b, v = .bool b) ⟨rfl, rfl, h1, h2, fun b => ⟨b, rfl⟩⟩ (E0 W) W #[.agg us] (VRs.cons hvW VRs.nil) (hr0 W)
  rcases h with ⟨_, h⟩ | ⟨v, u, hr, _, _⟩
  · refine h.mono ?_
    rintro e w' ⟨v, u, H', E', rfl, ⟨b, rfl⟩, hv, _, hx⟩
    cases hv
    exact ⟨b, rfl, below_of hx⟩
  · have := enters_of (P := Tryz.prog) Tryz.func4 (by kernel_rfl) rfl #[.agg us] W
    rw [hr] at this
    cases this
end
end Ev.L3
namespace Go.Proofs.YtfmjabdpkfcbkaaGreatDoor
open Go.ChangeShapes Go.WideShapes Go.ChangeAt Go.RowKit
theorem cn_own : ownKnob Tryz.prog.godebug = none := by kernel_rfl
theorem cn_laidOut : laidOutB Tryz.prog = true := by kernel_rfl
abbrev cnLaid : List (String × DataW Unit) := Rows.craftNoneRow.laid
theorem cn_plain : (cnLaid.all fun x => x.2.handleName?.isNone) = true := by kernel_rfl
theorem cn_fits (os : Os) : (World.holding Tryz.prog os ⟨#[], #[], []⟩).layFits Tryz.prog cnLaid [] = true := by kernel_rfl
theorem cn_ifaces (os : Os) : (World.holding Tryz.prog os ⟨#[], #[], []⟩).layIfaces Tryz.prog cnLaid (World.laidAll Tryz.prog os cnLaid) = true := by kernel_rfl
theorem cn_zip (os : Os) : (World.laidAll Tryz.prog os cnLaid).variablesZipB Tryz.prog = true := by kernel_rfl
theorem cn_met (os : Os) (args : Array Value) : laidMetH Tryz.prog cnLaid ((World.laidAll Tryz.prog os cnLaid).forCall (fun _ _ => 0) ⟨#[], args, []⟩).memory := by
  rw [MakeChecks.laidMetH_plain _ _ _ cn_plain]
  exact laidMet_laidAll _ (cn_fits os) (cn_ifaces os)
end Go.Proofs.YtfmjabdpkfcbkaaGreatDoor
