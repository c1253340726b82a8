/- Lemmas for the theorem: a part of the walk. -/
import Derived.Test.YtbndhppjabbacaaF28
import Derived.Test.YtbndhppjabbacaaF29
import Derived.Test.YtbndhppjabbacaaF30
namespace Ev
open Go Go.Proofs
set_option maxRecDepth 100000
def ord5 : Nat → List (Nat × List Nat)
  | 8 => [(0, []), (1, []), (2, []), (3, []), (6, []), (7, []), (11, []), (12, []), (13, []), (17, []), (20, []), (23, []), (24, []), (25, []), (26, []), (29, []), (30, []), (31, []), (32, []), (35, []), (36, []), (37, []), (38, []), (42, []), (45, []), (48, []), (4, [26, 32, 38]), (5, []), (8, [26, 32, 38, 5]), (9, []), (10, []), (14, [26, 32, 38, 5, 9]), (15, []), (16, []), (18, [26, 32, 38, 5, 9, 15]), (19, []), (21, [26, 32, 38, 5, 9, 15]), (22, []), (27, [32, 38, 5, 9, 15]), (28, []), (33, [38, 5, 9, 15]), (34, []), (39, [5, 9, 15]), (40, []), (41, []), (43, [5, 9, 15, 40]), (44, []), (46, [5, 9, 15, 40]), (47, []), (49, [5, 9, 15, 40]), (50, []), (51, []), (52, []), (53, []), (54, []), (55, []), (56, []), (57, []), (58, []), (59, []), (60, []), (61, []), (62, []), (63, []), (64, []), (65, []), (66, []), (67, []), (68, []), (72, []), (69, []), (70, []), (71, []), (73, [71]), (74, []), (75, []), (76, []), (77, []), (78, []), (79, [])]
  | _ => []
def s5 : Spec Sg := p1 C 38 fun (_ : List Int) K => K (.bool true) []
def G5 : FuncId → Spec Sg := gam [(9, s9), (11, s11), (12, s12), (13, s13), (14, s14), (16, s16), (17, s17), (18, s18), (19, s19), (20, s20)]
theorem G5_ok : ∀ f, FnOk Try.prog C f (G5 f) := gam_cons f9_ok (gam_cons f11_ok (gam_cons f12_ok (gam_cons f13_ok (gam_cons f14_ok (gam_cons f16_ok (gam_cons f17_ok (gam_cons f18_ok (gam_cons f19_ok (gam_cons f20_ok gam_nil)))))))))
set_option maxHeartbeats 2000000 in
theorem f5_ok : FnOk Try.prog C 5 s5 := fn_okO mixed good goodM G5 G5_ok Try.func5 (body_some (by kernel_rfl)) (by kernel_rfl) ord5 (by kernel_rfl) s5 fun args H K h => by
  obtain ⟨rfl, row, rfl, hK⟩ := of_p1 h
  clear h
  show abodyO C G5 ord5 Try.f5 (bodyOf Try.f5) [.imm 3 row] [] K
  revert row
  intro (row : List Int)
  refine br_split (fun h => ?_) (fun h => ?_)
  · refine ⟨rfl, ?_⟩
    exact ⟨[], trivial, hK⟩
  refine .inl ⟨rfl, rfl, ?_⟩
  refine .inr (.inl ⟨rfl, rfl, ?_⟩)
  refine ⟨rfl, ?_⟩
  refine fun b hb => ?_
  subst hb
  repeat' (first | refine br_true ?_ | refine And.intro ⟨trivial, trivial⟩ ?_ | refine And.intro rfl ?_)
  refine Or.inl ?_
  refine ⟨row, rfl, rfl, ?_⟩
  repeat' (first | refine br_true ?_ | refine And.intro ⟨trivial, trivial⟩ ?_ | refine And.intro rfl ?_)
  refine Or.inr ?_
  refine Or.inl ?_
  refine ⟨row, rfl, rfl, ?_⟩
  repeat' (first | refine br_true ?_ | refine And.intro ⟨trivial, trivial⟩ ?_ | refine And.intro rfl ?_)
  refine ⟨[row], rfl, rfl, ?_⟩
  repeat' (first | refine br_true ?_ | refine And.intro ⟨trivial, trivial⟩ ?_ | refine And.intro rfl ?_)
  refine Or.inl ?_
  refine ⟨rfl, rfl, ?_⟩
  repeat' (first | refine br_true ?_ | refine And.intro ⟨trivial, trivial⟩ ?_ | refine And.intro rfl ?_)
  refine Or.inr ?_
  refine Or.inl ?_
  refine ⟨rfl, rfl, ?_⟩
  repeat' (first | refine br_true ?_ | refine And.intro ⟨trivial, trivial⟩ ?_ | refine And.intro rfl ?_)
  refine Or.inl ?_
  refine ⟨rfl, rfl, ?_⟩
  repeat' (first | refine br_true ?_ | refine And.intro ⟨trivial, trivial⟩ ?_ | refine And.intro rfl ?_)
  refine Or.inl ?_
  refine ⟨rfl, rfl, ?_⟩
  repeat' (first | refine br_true ?_ | refine And.intro ⟨trivial, trivial⟩ ?_ | refine And.intro rfl ?_)
  refine Or.inl ?_
  refine ⟨rfl, rfl, ?_⟩
  repeat' (first | refine br_true ?_ | refine And.intro ⟨trivial, trivial⟩ ?_ | refine And.intro rfl ?_)
  refine Or.inl ?_
  refine ⟨rfl, rfl, ?_⟩
  repeat' (first | refine br_true ?_ | refine And.intro ⟨trivial, trivial⟩ ?_ | refine And.intro rfl ?_)
  refine Or.inr ?_
  refine Or.inl ?_
  refine ⟨rfl, rfl, ?_⟩
  repeat' (first | refine br_true ?_ | refine And.intro ⟨trivial, trivial⟩ ?_ | refine And.intro rfl ?_)
  refine Or.inl ?_
  refine ⟨rfl, rfl, ?_⟩
  repeat' (first | refine br_true ?_ | refine And.intro ⟨trivial, trivial⟩ ?_ | refine And.intro rfl ?_)
  refine fun b hb => ?_
  have wz : wr .i64 0 = 0 := wr_i64 (by omega) (by omega)
  have hb : b = true := by rw [← hb]; simp [wz]
  subst hb
  repeat' (first | refine br_true ?_ | refine And.intro ⟨trivial, trivial⟩ ?_ | refine And.intro rfl ?_)
  refine Or.inl ?_
  refine ⟨rfl, rfl, ?_⟩
  refine fun b hb => ?_
  subst hb
  repeat' (first | refine br_true ?_ | refine And.intro ⟨trivial, trivial⟩ ?_ | refine And.intro rfl ?_)
  refine Or.inl ?_
  refine ⟨rfl, rfl, ?_⟩
  refine fun b hb => ?_
  subst hb
  repeat' (first | refine br_true ?_ | refine And.intro ⟨trivial, trivial⟩ ?_ | refine And.intro rfl ?_)
  refine Or.inl ?_
  refine ⟨rfl, rfl, ?_⟩
  repeat' (first | refine br_true ?_ | refine And.intro ⟨trivial, trivial⟩ ?_ | refine And.intro rfl ?_)
  refine Or.inr ?_
  refine ⟨rfl, rfl, ?_⟩
  repeat' (first | refine br_true ?_ | refine And.intro ⟨trivial, trivial⟩ ?_ | refine And.intro rfl ?_)
  refine fun b hb => ?_
  have hb : b = true := by rw [← hb]; simp [wz]
  subst hb
  repeat' (first | refine br_true ?_ | refine And.intro ⟨trivial, trivial⟩ ?_ | refine And.intro rfl ?_)
  exact ⟨[], trivial, hK⟩
end Ev
