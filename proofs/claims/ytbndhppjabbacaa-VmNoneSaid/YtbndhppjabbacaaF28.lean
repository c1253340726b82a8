/- Lemmas for the theorem: a part of the walk. -/
import Derived.Test.YtbndhppjabbacaaF27
namespace Ev
open Go Go.Proofs
set_option maxRecDepth 100000
/-- the program of 'alive' -/
def pA : ProgR := ⟨1, 2, 2, [⟨[⟨0, 4294967296⟩], 4294967296⟩, ⟨[⟨1, 4294967296⟩], 8589934592⟩], [⟨2, 0, 0, 0⟩, ⟨2, 1, 0, 0⟩, ⟨6, 0, 0, 0⟩, ⟨5, 2, 0, 0⟩, ⟨8, 0, 0, 0⟩], [⟨#[112]⟩]⟩
theorem pA_ok : verify pA = 0 := by kernel_rfl
def rowA : List Int := [21474836480, 4294967296]
def rowB : List Int := [21474836480, 38654705664]
theorem stepA : stepM pA (atomOf (machOf pA) rowA) ⟨[false], 0, false, [false], 0⟩ = ⟨[true], 1, false, [false], 5⟩ ∧ stepO pA (atomOf (machOf pA) rowA) ⟨[false], 0, false, [false], 0⟩ = [0] := ⟨by kernel_rfl, by kernel_rfl⟩
theorem stepB : stepM pA (atomOf (machOf pA) rowB) ⟨[true], 1, false, [false], 5⟩ = ⟨[false], 2, false, [false], 5⟩ ∧ stepO pA (atomOf (machOf pA) rowB) ⟨[true], 1, false, [false], 5⟩ = [1] := ⟨by kernel_rfl, by kernel_rfl⟩
def s9 : Spec Sg := p0 fun K => K (.bool true) []
def G9 : FuncId → Spec Sg := gam [(10, s10), (11, s11), (14, s14), (18, s18), (19, s19)]
theorem G9_ok : ∀ f, FnOk Try.prog C f (G9 f) := gam_cons f10_ok (gam_cons f11_ok (gam_cons f14_ok (gam_cons f18_ok (gam_cons f19_ok gam_nil))))
set_option maxHeartbeats 1000000 in
theorem f9_ok : FnOk Try.prog C 9 s9 := fn_ok mixed good goodM G9 G9_ok Try.func9 (body_some (by kernel_rfl)) (by kernel_rfl) (by kernel_rfl) s9 fun args H K h => by
  obtain ⟨rfl, rfl, hK⟩ := of_p0 h
  clear h
  show abody C G9 Try.f9 (bodyOf Try.f9) [] [] K
  refine And.intro trivial ?_
  refine And.intro trivial ?_
  refine And.intro ⟨by decide, by decide, trivial⟩ ?_
  refine And.intro trivial ?_
  refine And.intro trivial ?_
  refine And.intro ⟨⟨by decide, by decide, by decide, trivial⟩, trivial⟩ ?_
  refine And.intro rfl ?_
  refine And.intro rfl ?_
  refine Eq.mp (congrFun (congrArg s10b (show pA = _ from rfl)) _) ?_
  refine ⟨fun hn => absurd pA_ok hn, fun _ => ?_⟩
  refine br_true ?_
  refine And.intro trivial ?_
  refine And.intro ⟨⟨by decide, trivial⟩, trivial⟩ ?_
  refine .inr (.inr ⟨rowA, machOf pA, [false], 1, 0, false, [false], 1, 0, [], 0, rfl, rfl, ⟨machOf_ok pA_ok, ⟨rfl, rfl, rfl, rfl, by decide, by decide, by decide⟩⟩, fun cells ticks over bad buf n out hm ho hs => ?_⟩)
  have hm := stepA.1.symm.trans hm
  have ho := ho.trans stepA.2
  injection hm with m1 m2 m3 m4 m5
  subst m1; subst m2; subst m3; subst m4; subst ho
  refine And.intro trivial ?_
  refine And.intro ⟨⟨by decide, trivial⟩, trivial⟩ ?_
  refine .inr (.inr ⟨rowB, machOf pA, [true], 1, 1, false, [false], 1, 5, buf, n, rfl, rfl, ⟨machOf_ok pA_ok, hs⟩, fun cells ticks over bad buf' n' out hm ho hs' => ?_⟩)
  have hm := stepB.1.symm.trans hm
  have ho := ho.trans stepB.2
  injection hm with m1 m2 m3 m4 m5
  subst m1; subst m2; subst m3; subst m4; subst ho
  clear hs hm ho
  refine br_true ?_
  refine br_true ?_
  refine br_true ?_
  refine And.intro ⟨by decide, by decide⟩ ?_
  refine And.intro (Nat.le_of_ble_eq_true rfl) ?_
  refine br_true ?_
  refine And.intro ⟨by decide, by decide⟩ ?_
  refine And.intro (Nat.le_of_ble_eq_true rfl) ?_
  refine br_true ?_
  refine Or.inr (Or.inr ?_)
  refine ⟨[false], 1, 2, false, rfl, rfl, ?_⟩
  refine br_true ?_
  refine Or.inr (Or.inr ?_)
  refine ⟨[false], 1, 2, false, rfl, rfl, ?_⟩
  refine br_true ?_
  refine Or.inr (Or.inr ?_)
  refine ⟨machOf pA, [false], 1, 2, false, [false], 1, 5, buf', n', rfl, rfl, ?_⟩
  exact ⟨[], trivial, hK⟩
end Ev
