/- Lemmas for the theorem: a part of the walk. -/
import Derived.Test.YtbndhppjabbacaaF4
namespace Ev
open Go Go.Proofs
set_option maxRecDepth 100000
def s23 : Spec Sg := p2 C 28 58 fun (p : ProgR) (c : CodeR) K => K (.bool (codeOk p.Atoms.length p.Props.length c)) []
def ord23 : Nat → List (Nat × List Nat)
  | 16 => [(0, []), (1, []), (2, []), (3, []), (4, []), (5, []), (6, []), (7, []), (8, []), (9, []), (10, []), (11, []), (12, []), (13, []), (14, []), (15, []), (16, []), (17, []), (18, []), (19, []), (20, []), (21, []), (22, []), (23, []), (24, []), (25, []), (26, []), (27, []), (28, []), (29, []), (30, []), (31, []), (32, []), (33, []), (34, [32]), (35, []), (36, []), (37, []), (38, [])]
  | _ => []
theorem br_t {b : Bool} {X Y : Prop} (h : b = true) (x : X) : Br b X Y := by subst h; exact br_true x
theorem br_f {b : Bool} {X Y : Prop} (h : b = false) (y : Y) : Br b X Y := by subst h; exact br_false y
set_option maxHeartbeats 1000000 in
theorem f23_ok : FnOk Try.prog C 23 s23 := fn_okO mixed good goodM (gam [(24, s24)]) (gam_cons f24_ok gam_nil) Try.func23 (body_some (by kernel_rfl)) (by kernel_rfl) ord23 (by kernel_rfl) s23 fun args H K h => by
  obtain ⟨rfl, p, c, rfl, hK⟩ := of_p2 h
  clear h
  show abodyO C (gam [(24, s24)]) ord23 Try.f23 (bodyOf Try.f23) [.agg (enc28 p), .agg (enc58 c)] [] K
  have ow := own_range c
  repeat' (first | refine And.intro ⟨trivial, trivial⟩ ?_ | refine And.intro rfl ?_ | refine br_true ?_ | refine br_false ?_ | (refine br_split (fun h => ?_) (fun h => ?_) <;> (try subst h)) | refine fun b hb => ?_)
  all_goals
    refine ⟨[], trivial, to_bool hK ?_⟩
    clear hK
    subst_vars
    rw [Bool.eq_iff_iff]
    have hw : wr .i64 (20000 - own c) = 20000 - own c := wr_i64 (by omega) (by omega)
    cases p; cases c
    simp only [codeOk_iff, codeP, decide_eq_true_eq, decide_eq_false_iff_not, beq_iff_eq, bne_iff_ne, beq_eq_false_iff_ne, bne_eq_false_iff_eq, ne_eq, Bool.false_eq_true, iff_false, iff_true, Bool.cond_true, Bool.cond_false] at *
    first | omega | (rw [hw]; omega)
end Ev
