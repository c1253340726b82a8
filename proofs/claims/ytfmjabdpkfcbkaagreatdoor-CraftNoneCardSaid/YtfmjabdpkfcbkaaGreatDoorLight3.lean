/- 'light': it tells yes or no. -/
import Derived.Test.YtfmjabdpkfcbkaaGreatDoorCtx3
import Derived.Test.YtfmjabdpkfcbkaaGreatDoorEvS
namespace Ev.L3
open Go Go.Proofs
set_option maxRecDepth 100000
set_option maxHeartbeats 1000000
theorem mixed3 : Tryz.prog.follows .mixedOrders = true := by kernel_rfl
def s4 : Spec Sg := p1 C 25 fun (x : InputR) K => x.Sensors.length ≤ 9223372036854775807 ∧ x.Commands.length ≤ 9223372036854775807 ∧ ∀ b, K (.bool b) []
theorem f4_ok : FnOk Tryz.prog C 4 s4 := fn_ok mixed3 good goodM (gam []) gam_nil Tryz.func4 (body_some (by kernel_rfl)) (by kernel_rfl) (by kernel_rfl) s4 fun args H K h => by
  obtain ⟨rfl, x, rfl, hs, hc, hK⟩ := of_p1 h
  clear h
  show abody C (gam []) Tryz.f4 (bodyOf Tryz.f4) [.agg (enc25 x)] [] K
  refine ⟨[1, 3], [], Int, fun i => (frameOf [(1, .ptr 0 0 0), (3, .int .i64 i)], [.cells (enc25 x)]),
    fun i => 0 ≤ i ∧ i ≤ x.Sensors.length, fun i => x.Sensors.length - i.toNat, ⟨trivial, 0, rfl, by simp, by simp⟩, ?_⟩
  rintro i ⟨i1, i2⟩
  refine br_split (fun h4 => ?_) (fun h4 => ?_)
  · have h4 : i < x.Sensors.length := of_decide_eq_true h4
    have hw : wr .i64 (i + 1) = i + 1 := wr_i64 (by omega) (by omega)
    refine And.intro ⟨i1, h4⟩ ?_
    repeat' (first | refine And.intro ⟨i1, h4⟩ ?_ | refine br_true ?_ | refine br_false ?_ | refine br_split (fun h => ?_) (fun h => ?_))
    all_goals first
      | exact ⟨[], trivial, hK _⟩
      | exact And.intro trivial ⟨_, rfl, ⟨by rw [hw]; omega, by rw [hw]; omega⟩, by dsimp only; rw [hw]; omega⟩
  · refine ⟨[1, 4], [], Int, fun i => (frameOf [(1, .ptr 0 0 0), (4, .int .i64 i)], [.cells (enc25 x)]),
      fun i => 0 ≤ i ∧ i ≤ x.Commands.length, fun i => x.Commands.length - i.toNat, ⟨trivial, 0, rfl, by simp, by simp⟩, ?_⟩
    rintro i ⟨i1, i2⟩
    refine br_split (fun h4 => ?_) (fun h4 => ?_)
    · have h4 : i < x.Commands.length := of_decide_eq_true h4
      have hw : wr .i64 (i + 1) = i + 1 := wr_i64 (by omega) (by omega)
      refine And.intro ⟨i1, h4⟩ ?_
      repeat' (first | refine And.intro ⟨i1, h4⟩ ?_ | refine br_true ?_ | refine br_false ?_ | refine br_split (fun h => ?_) (fun h => ?_))
      all_goals first
        | exact ⟨[], trivial, hK _⟩
        | exact And.intro trivial ⟨_, rfl, ⟨by rw [hw]; omega, by rw [hw]; omega⟩, by dsimp only; rw [hw]; omega⟩
    · exact ⟨[], trivial, hK _⟩
end Ev.L3
