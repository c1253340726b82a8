/- Lemmas for the theorem: a part of the walk. -/
import Derived.Test.YtbndhppjabbacaaF19
import Derived.Test.YtbndhppjabbacaaF20
namespace Ev
open Go Go.Proofs
set_option maxRecDepth 100000
def ord30 : Nat → List (Nat × List Nat)
  | 1 => [(0, []), (1, []), (2, []), (3, []), (4, []), (5, []), (6, []), (7, []), (8, []), (9, []), (10, []), (11, []), (12, []), (13, []), (14, []), (15, []), (16, []), (17, [])]
  | _ => []
/-- what an atom's node must be like -/
def NodesOk (M : Mach) : Prop := M.nm.length ≤ 1000000 ∧ M.nd.length ≤ 1000000 ∧ ∀ x, x ∈ M.nd → x.Terms.length ≤ 1000000
def atomOf (M : Mach) (row : List Int) (i : Int) : Bool × Bool := atomS (M.nd.getD i.toNat zero71) M.nm row
def s30 : Spec Sg := fun args H K => ∃ M cells nc ticks over bad nb done buf n i row, args = [.ptr 0 0 0, .int .i64 i, .imm 3 row] ∧ H = mH M cells nc ticks over bad nb done buf n ∧ (NodesOk M ∧ 0 ≤ i ∧ i < M.nd.length) ∧
  ∀ v o over', v = (atomOf M row i).1 → o = (atomOf M row i).2 → over' = (over || o) → K (.tup [.bool v, .bool o]) (mH M cells nc ticks over' bad nb done buf n)
theorem f30_ok : FnOk Try.prog C 30 s30 := fn_okO mixed good goodM (gam [(54, s54)]) (gam_cons f54_ok gam_nil) Try.func30 (body_some (by kernel_rfl)) (by kernel_rfl) ord30 (by kernel_rfl) s30 fun args H K h => by
  obtain ⟨M, cells, nc, ticks, over, bad, nb, done, buf, n, i, row, rfl, rfl, ⟨hM, i1, i2⟩, hK⟩ := h
  show abodyO C (gam [(54, s54)]) ord30 Try.f30 (bodyOf Try.f30) [.ptr 0 0 0, .int .i64 i, .imm 3 row] (mH M cells nc ticks over bad nb done buf n) K
  have hmem := mem_get M.nd i.toNat (C.zero 71) (by omega)
  have hT := hM.2.2 _ hmem
  refine And.intro ⟨i1, i2⟩ ?_
  refine And.intro ⟨trivial, trivial, trivial, trivial⟩ ?_
  refine And.intro rfl ?_
  refine And.intro ⟨rfl, rfl, rfl⟩ ?_
  have hN : M.nm.length ≤ 1000000000000 := by have := hM.1; omega
  refine And.intro ⟨hT, hN⟩ ?_
  refine fun v hv => ?_
  refine fun o ho => ?_
  have hv : (atomOf M row i).1 = v := hv
  have ho : (atomOf M row i).2 = o := ho
  refine br_split (fun h => ?_) (fun h => ?_)
  · subst h
    exact ⟨[.keep], ⟨trivial, trivial⟩, hK v true true hv.symm ho.symm (by simp)⟩
  · subst h
    exact ⟨[.keep], ⟨trivial, trivial⟩, hK v false over hv.symm ho.symm (by simp)⟩
end Ev
