/- A start at which the row's condition holds. -/
import Derived.Test.YtfmjabdpkfcbkaaGreatDoorTop3
namespace Go.Proofs.YtfmjabdpkfcbkaaGreatDoor
open Go.ChangeShapes Go.WideShapes Go.ChangeAt Go.RowKit
abbrev cnArgs : Array Value := #[.agg #[.int .i64 0, .slice none 0 0, .slice none 0 0, .int .i64 0, .int .i64 0]]
noncomputable abbrev cnStart (os : Os) : World := (World.laidAll Tryz.prog os cnLaid).forCall (fun _ _ => 0) ⟨#[], cnArgs, []⟩
theorem cn_shaped (os : Os) : (cnStart os).Shaped Tryz.checked.prog := World.shaped_of_ZipB (by kernel_rfl) (by kernel_rfl)
theorem cn_okw (os : Os) : Input.okWideB Tryz.checked.prog (cnStart os) 3 ⟨#[], cnArgs, []⟩ = true := by kernel_rfl
theorem cn_preB {H : Type} (enc : TypeId × Value → H) (os : Os) : Rows.craftNoneSpec.preB enc Tryz.checked.prog Tryz.f3 [] false (cnStart os).memory cnArgs 8 = true := by kernel_rfl
theorem cn_szB {H : Type} (enc : TypeId × Value → H) (os : Os) : Rows.craftNoneSpec.sizedB enc Tryz.checked.prog Tryz.f3 false (cnStart os).memory cnArgs 8 = true := by kernel_rfl
theorem cn_wit {H : Type} (enc : TypeId × Value → H) (os : Os) : ∃ (w : World) (tape : Tape) (i : Input), w.os = os ∧ (w.forCall tape i).Shaped Tryz.checked.prog ∧ i.vars = [] ∧ Input.okWide Tryz.checked.prog (w.forCall tape i) .any w.heap.size 3 i ∧
      ((Rows.craftNoneSpec.pre enc Tryz.checked.prog Tryz.f3 [] false (w.forCall tape i).memory i.args ∧ laidMetH Tryz.prog cnLaid (w.forCall tape i).memory) ∧ sizedMet enc Tryz.checked.prog Tryz.f3 (OpenSpec.ofChange Rows.craftNoneSpec) false (w.forCall tape i).memory i.args) ∧ ({ modest := false } : Assume).holds Tryz.checked.prog (lone (Frame.enter Tryz.checked.prog 3 i.args .normal) [] (w.forCall tape i)) :=
  ChangeSpec.witness_shaped (enc := enc) (C := Tryz.checked) (os := os) (X := fun w _ => laidMetH Tryz.prog cnLaid w) false (World.laidAll Tryz.prog os cnLaid) cnArgs 8 (World.laidAll_os _ _ _) (cn_shaped os) (cn_okw os) (cn_preB enc os) (cn_szB enc os) (cn_met os _)
end Go.Proofs.YtfmjabdpkfcbkaaGreatDoor
