/- Lemmas for the theorem: a part of the walk. -/
import Derived.Test.YtbndhppjabbacaaEvT
import Derived.Test.YtbndhppjabbacaaCtx
import Derived.Test.YtbndhppjabbacaaF29
import Derived.Test.YtbndhppjabbacaaRows
namespace Ev
open Go Go.Proofs
set_option maxRecDepth 100000
section
variable {H : Type} {enc : TypeId × Value → H} {w : World} {sp : Nat → Bool} {held : Bool} {fuel : Nat} {cs : List Value} {x : DataW H × List MemPlace}
theorem rd3 (h : DataW.trod enc Try.prog w 0 sp held fuel 3 cs = some x) : ∃ n, cs = [.int .i64 n] := by
  obtain ⟨n, rfl, _⟩ := DataW.trod_int Try.underlying3 h
  exact ⟨n, rfl⟩
theorem rv3 : ∀ fuel cs x, DataW.trod enc Try.prog w 0 sp held fuel 3 cs = some x → ∃ y : T 3, VRs C (E0 w) (enc3 y) cs := by
  intro fuel cs x h
  obtain ⟨n, rfl⟩ := rd3 h
  exact ⟨n, VRs.cons (.int _ _) VRs.nil⟩
theorem rv9 : ∀ fuel cs x, DataW.trod enc Try.prog w 0 sp held fuel 9 cs = some x → ∃ y : T 9, VRs C (E0 w) (enc9 y) cs := by
  intro fuel cs x h
  obtain ⟨s, rfl, _⟩ := DataW.trod_string Try.underlying9 h
  exact ⟨s, VRs.cons (.str _) VRs.nil⟩
theorem c3 : Try.prog.cellsOf 3 = 1 := by kernel_rfl
theorem c9 : Try.prog.cellsOf 9 = 1 := by kernel_rfl
theorem c54 : Try.prog.cellsOf 54 = 1 := by kernel_rfl
theorem c24 : Try.prog.cellsOf 24 = 1 := by kernel_rfl
theorem c25 : Try.prog.cellsOf 25 = 1 := by kernel_rfl
theorem c26 : Try.prog.cellsOf 26 = 1 := by kernel_rfl
theorem c38 : Try.prog.cellsOf 38 = 1 := by kernel_rfl
theorem c62 : Try.prog.cellsOf 62 = 2 := by kernel_rfl
theorem c58 : Try.prog.cellsOf 58 = 4 := by kernel_rfl
theorem c56 : Try.prog.cellsOf 56 = 2 := by kernel_rfl
theorem c23 : Try.prog.cellsOf 23 = 3 := by kernel_rfl
theorem c28 : Try.prog.cellsOf 28 = 6 := by kernel_rfl
theorem rv62 : ∀ fuel cs x, DataW.trod enc Try.prog w 0 sp held fuel 62 cs = some x → ∃ y : T 62, VRs C (E0 w) (enc62 y) cs := by
  intro fuel cs x h
  obtain ⟨y0, y1, n, _, hl, h0, h1⟩ := ChangeShapes.trod_struct2 Try.underlying62 h
  rw [c62] at hl
  simp only [c3] at h0 h1
  match cs, hl with
  | [a, b], _ =>
    obtain ⟨n0, e0⟩ := rd3 h0
    obtain ⟨n1, e1⟩ := rd3 h1
    simp at e0 e1
    subst e0; subst e1
    exact ⟨(⟨n0, n1⟩ : WeightR), VRs.cons (.int _ _) (VRs.cons (.int _ _) VRs.nil)⟩
theorem rv58 : ∀ fuel cs x, DataW.trod enc Try.prog w 0 sp held fuel 58 cs = some x → ∃ y : T 58, VRs C (E0 w) (enc58 y) cs := by
  intro fuel cs x h
  obtain ⟨y0, y1, y2, y3, n, _, hl, h0, h1, h2, h3⟩ := Joins.trod_struct4 Try.underlying58 h
  rw [c58] at hl
  simp only [c3] at h0 h1 h2 h3
  match cs, hl with
  | [a, b, c, d], _ =>
    obtain ⟨n0, e0⟩ := rd3 h0
    obtain ⟨n1, e1⟩ := rd3 h1
    obtain ⟨n2, e2⟩ := rd3 h2
    obtain ⟨n3, e3⟩ := rd3 h3
    simp at e0 e1 e2 e3
    subst e0; subst e1; subst e2; subst e3
    exact ⟨(⟨n0, n1, n2, n3⟩ : CodeR), VRs.cons (.int _ _) (VRs.cons (.int _ _) (VRs.cons (.int _ _) (VRs.cons (.int _ _) VRs.nil)))⟩
theorem rv56 : ∀ fuel cs x, DataW.trod enc Try.prog w 0 sp held fuel 56 cs = some x → ∃ y : T 56, VRs C (E0 w) (enc56 y) cs := by
  intro fuel cs x h
  obtain ⟨y0, y1, n, _, hl, h0, h1⟩ := ChangeShapes.trod_struct2 Try.underlying56 h
  rw [c56] at hl
  simp only [c3, c54] at h0 h1
  match cs, hl with
  | [a, b], _ =>
    obtain ⟨v, xs, e0, hv, _⟩ := read_slice (X := C) (e := 62) Try.underlying54 c62 (by decide) rv62 h0
    obtain ⟨n1, e1⟩ := rd3 h1
    simp at e0 e1
    subst e0; subst e1
    exact ⟨(⟨xs, n1⟩ : AtomR), VRs.cons hv (VRs.cons (.int _ _) VRs.nil)⟩
theorem rv28 : ∀ fuel cs x, DataW.trod enc Try.prog w 0 sp held fuel 28 cs = some x → ∃ p : ProgR, VRs C (E0 w) (enc28 p) cs ∧ Fit p := by
  intro fuel cs x h
  obtain ⟨y0, y1, y2, y3, n, _, hl, h0, h1, h2, h3⟩ := Joins.trod_struct4 Try.underlying28 h
  rw [c28] at hl
  simp only [c23, c24, c25, c26] at h0 h1 h2 h3
  match cs, hl with
  | [a, b, c, d, e, f], _ =>
    obtain ⟨z0, z1, z2, n', _, hl', k0, k1, k2⟩ := Deep.trod_struct3 Try.underlying23 h0
    simp only [c3] at k0 k1 k2
    obtain ⟨n0, e0⟩ := rd3 k0
    obtain ⟨n1, e1⟩ := rd3 k1
    obtain ⟨n2, e2⟩ := rd3 k2
    obtain ⟨va, ats, ea, hva, la⟩ := read_slice (X := C) (e := 56) Try.underlying24 c56 (by decide) rv56 h1
    obtain ⟨vc, cds, ec, hvc, lc⟩ := read_slice (X := C) (e := 58) Try.underlying25 c58 (by decide) rv58 h2
    obtain ⟨vp, ps, ep, hvp, lp⟩ := read_slice (X := C) (e := 9) Try.underlying26 c9 (by decide) rv9 h3
    simp at e0 e1 e2 ea ec ep
    subst e0; subst e1; subst e2; subst ea; subst ec; subst ep
    exact ⟨⟨n0, n1, n2, ats, cds, ps⟩, VRs.cons (.int _ _) (VRs.cons (.int _ _) (VRs.cons (.int _ _) (VRs.cons hva (VRs.cons hvc (VRs.cons hvp VRs.nil))))), la, lc⟩
theorem rv38 : ∀ fuel cs x, DataW.trod enc Try.prog w 0 sp held fuel 38 cs = some x → ∃ y : T 38, VRs C (E0 w) (enc38 y) cs := by
  intro fuel cs x h
  obtain ⟨v, xs, rfl, hv, _⟩ := read_slice (X := C) (e := 3) Try.underlying38 c3 (by decide) rv3 h
  exact ⟨xs, VRs.cons hv VRs.nil⟩
end
end Ev
