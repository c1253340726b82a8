/- Lemmas for the theorem: a part of the walk. -/
import Derived.Test.YtbndhppjabbacaaF15
import Derived.Test.YtbndhppjabbacaaPu3
import Derived.Laws.Externs
namespace Ev
open Go Go.Proofs
set_option maxRecDepth 100000
def s79 : Spec Sg := fun args H K => ∃ x y c : Int, args = [.int .u64 x, .int .u64 y, .int .u64 c] ∧ (In64 x ∧ In64 y ∧ 0 ≤ c ∧ c ≤ 1) ∧ K (.tup [.int .u64 (ad64 x y c).1, .int .u64 (ad64 x y c).2]) H
theorem f79_ok : FnOk Try.prog C 79 s79 := by
  rintro args H K ⟨x, y, c, rfl, ⟨hx, hy, hc⟩, hK⟩ E w us ha hr
  obtain ⟨u1, r1, e1, v1, ha⟩ := ha.inv_cons
  obtain ⟨u2, r2, e2, v2, ha⟩ := ha.inv_cons
  obtain ⟨u3, r3, e3, v3, ha⟩ := ha.inv_cons
  have e4 := ha.inv_nil
  subst e4; subst e3; subst e2
  cases v1; cases v2; cases v3
  have hus : us = #[.int .u64 x, .int .u64 y, .int .u64 c] := by
    apply Array.toList_inj.1; rw [e1]
  subst hus
  have h := run_callFunc_extern (P := Try.prog) (f := 79) (fn := Try.f79) (e := add64Entry) Try.func79 (by kernel_rfl) (by kernel_rfl) (by kernel_rfl) (by rfl) #[.int .u64 x, .int .u64 y, .int .u64 c] w
  rw [run_add64 x y c hx.1 hy.1 hc.1 hc.2] at h
  exact .inr ⟨_, _, h, hK, vr_tup_mk (ds := #[_, _]) (VRs.cons (.int _ _) (VRs.cons (.int _ _) VRs.nil))⟩
def s76 : Spec Sg := p1 C 3 fun (x : Int) K => K (.int .u64 (sizeS x)) []
theorem f76_ok : FnOk Try.prog C 76 s76 := fn_ok mixed good goodM (gam []) gam_nil Try.func76 (body_some (by kernel_rfl)) (by kernel_rfl) (by kernel_rfl) s76 fun args H K h => by
  obtain ⟨rfl, x, rfl, hK⟩ := of_p1 h
  clear h
  show abody C (gam []) Try.f76 (bodyOf Try.f76) [.int .i64 x] [] K
  revert x
  intro (x : Int) hK
  refine br_split (fun h => ?_) (fun h => ?_)
  · have h := of_decide_eq_true h
    exact ⟨[], trivial, to_int hK (if_pos h)⟩
  · have h := of_decide_eq_false h
    exact ⟨[], trivial, to_int hK (if_neg h)⟩
def s75 : Spec Sg := p2 C 93 93 fun (x y : Int) K => K (.tup [.int .u64 (mulHi x y), .int .u64 (mulLo x y)]) []
theorem f75_ok : FnOk Try.prog C 75 s75 := fn_ok mixed good goodM (gam []) gam_nil Try.func75 (body_some (by kernel_rfl)) (by kernel_rfl) (by kernel_rfl) s75 fun args H K h => by
  obtain ⟨rfl, x, y, rfl, hK⟩ := of_p2 h
  clear h
  show abody C (gam []) Try.f75 (bodyOf Try.f75) [.int .u64 x, .int .u64 y] [] K
  revert x y
  intro (x : Int) (y : Int) hK
  have o : (0 : Int) ≤ 32 := by decide
  repeat' refine And.intro o ?_
  exact ⟨[], trivial, hK⟩
def s80 : Spec Sg := p1 C 112 fun (a : SumR) K => K (.bool (belowS a)) []
theorem f80_ok : FnOk Try.prog C 80 s80 := fn_ok mixed good goodM (gam []) gam_nil Try.func80 (body_some (by kernel_rfl)) (by kernel_rfl) (by kernel_rfl) s80 fun args H K h => by
  obtain ⟨rfl, a, rfl, hK⟩ := of_p1 h
  clear h
  show abody C (gam []) Try.f80 (bodyOf Try.f80) [.agg (enc112 a)] [] K
  have o1 : (0 : Int) ≤ 2 ∧ (2 : Int) < 3 := by decide
  have o2 : (0 : Int) ≤ 63 := by decide
  refine And.intro o1 ?_
  refine And.intro o2 ?_
  exact ⟨[], trivial, hK⟩
end Ev
