/- Lemmas for the theorem: a part of the walk. -/
import Derived.Test.YtbndhppjabbacaaF1
namespace Ev
open Go Go.Proofs
set_option maxRecDepth 100000
def s33 : Spec Sg := p1 C 5 fun (n : Int) K => K (.bool (letter n)) []
def s34 : Spec Sg := p1 C 5 fun (n : Int) K => K (.bool (digit n)) []
theorem f33_ok : FnOk Try.prog C 33 s33 := fn_ok mixed good goodM (gam []) gam_nil Try.func33 (body_some (by kernel_rfl)) (by kernel_rfl) (by kernel_rfl) s33 fun args H K h => by
  obtain ⟨rfl, n, rfl, hK⟩ := of_p1 h
  show abody C (gam []) Try.f33 (bodyOf Try.f33) [.int .u8 n] [] K
  repeat' (first | refine br_true ?_ | refine br_false ?_ | refine br_split (fun h => ?_) (fun h => ?_))
  all_goals
    refine ⟨[], trivial, ?_⟩
    refine to_bool hK ?_
    rw [Bool.eq_iff_iff]
    simp [letter] at *
    try omega
theorem f34_ok : FnOk Try.prog C 34 s34 := fn_ok mixed good goodM (gam []) gam_nil Try.func34 (body_some (by kernel_rfl)) (by kernel_rfl) (by kernel_rfl) s34 fun args H K h => by
  obtain ⟨rfl, n, rfl, hK⟩ := of_p1 h
  show abody C (gam []) Try.f34 (bodyOf Try.f34) [.int .u8 n] [] K
  repeat' (first | refine br_true ?_ | refine br_false ?_ | refine br_split (fun h => ?_) (fun h => ?_))
  all_goals
    refine ⟨[], trivial, ?_⟩
    refine to_bool hK ?_
    rw [Bool.eq_iff_iff]
    simp [digit] at *
    try omega
end Ev
