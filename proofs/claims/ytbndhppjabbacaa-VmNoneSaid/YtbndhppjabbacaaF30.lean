/- Lemmas for the theorem: a part of the walk. -/
import Derived.Test.YtbndhppjabbacaaF26
namespace Ev
open Go Go.Proofs
set_option maxRecDepth 100000
/-- Program of no machine, of a zero one -/
def zP : AV Sg := .agg [.int .i64 0, .int .i64 0, .int .i64 0, .nils, .nils, .nils]
def s20 : Spec Sg := fun args H K => (args = [.nilp] ∧ H = [] ∧ K zP []) ∨ (args = [.ptr 0 0 0] ∧ H = zH ∧ K zP zH)
theorem f20_ok : FnOk Try.prog C 20 s20 := fn_ok mixed good goodM (gam [(29, s29)]) (gam_cons f29_ok gam_nil) Try.func20 (body_some (by kernel_rfl)) (by kernel_rfl) (by kernel_rfl) s20 fun args H K h => by
  rcases h with ⟨rfl, rfl, hK⟩ | ⟨rfl, rfl, hK⟩
  · show abody C (gam [(29, s29)]) Try.f20 (bodyOf Try.f20) [.nilp] [] K
    refine .inl ⟨rfl, rfl, ?_⟩
    refine br_true ?_
    exact ⟨[], trivial, hK⟩
  · show abody C (gam [(29, s29)]) Try.f20 (bodyOf Try.f20) [.ptr 0 0 0] zH K
    refine .inr (.inl ⟨rfl, rfl, ?_⟩)
    refine br_true ?_
    exact ⟨[.keep], ⟨trivial, trivial⟩, hK⟩
def s17 : Spec Sg := fun args H K => ∃ rows : List (List Int), args = [.nilp, .imm 38 rows] ∧ H = [] ∧ K .nils []
theorem f17_ok : FnOk Try.prog C 17 s17 := fn_ok mixed good goodM (gam [(29, s29)]) (gam_cons f29_ok gam_nil) Try.func17 (body_some (by kernel_rfl)) (by kernel_rfl) (by kernel_rfl) s17 fun args H K h => by
  obtain ⟨rows, rfl, rfl, hK⟩ := h
  show abody C (gam [(29, s29)]) Try.f17 (bodyOf Try.f17) [.nilp, .imm 38 rows] [] K
  refine .inl ⟨rfl, rfl, ?_⟩
  refine br_true ?_
  exact ⟨[], trivial, hK⟩
end Ev
