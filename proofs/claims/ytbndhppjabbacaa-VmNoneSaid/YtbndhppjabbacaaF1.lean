/- Lemmas for the theorem: a part of the walk. -/
import Derived.Test.YtbndhppjabbacaaCtx
import Derived.Test.YtbndhppjabbacaaEvS
import Derived.Test.YtbndhppjabbacaaPu2
namespace Ev
open Go Go.Proofs
set_option maxRecDepth 100000
theorem mixed : Try.prog.follows .mixedOrders = true := by kernel_rfl
def G0 : FuncId → Spec Sg := gam []
def s24 : Spec Sg := p1 C 58 fun c K => K (.int .i64 (own c)) []
theorem f24_ok : FnOk Try.prog C 24 s24 := fn_ok mixed good goodM (gam []) gam_nil Try.func24 (body_some (by kernel_rfl)) (by kernel_rfl) (by kernel_rfl) s24 fun args H K h => by
  obtain ⟨rfl, c, rfl, hK⟩ := of_p1 h
  show abody C (gam []) Try.f24 (bodyOf Try.f24) [.agg (enc58 c)] [] K
  repeat' (first | refine br_true ?_ | refine br_false ?_ | refine br_split (fun h => ?_) (fun h => ?_))
  all_goals
    refine ⟨[], trivial, ?_⟩
    simp only [beq_iff_eq, bne_iff_ne, ne_eq, decide_eq_true_eq, decide_eq_false_iff_not, beq_eq_false_iff_ne, Bool.not_eq_true, beq_true, beq_false, Bool.not_eq_eq_eq_not, Bool.not_true, Bool.not_false, bne_eq_false_iff_eq] at *
    try (exfalso; omega)
    try (refine cast (congrArg (fun n => K (AV.int IntKind.i64 n) []) ?_) hK; unfold own; (repeat' split) <;> first | rfl | omega | (rw [wr_i64] <;> omega))
end Ev
