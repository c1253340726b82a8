/- Lemmas for the theorem: a part of the walk. -/
import Derived.Test.YtbndhppjabbacaaF24
import Derived.Test.YtbndhppjabbacaaF25
import Derived.Test.YtbndhppjabbacaaF13
import Derived.Test.YtbndhppjabbacaaF14
namespace Ev
open Go Go.Proofs
set_option maxRecDepth 100000
def ord13 : Nat → List (Nat × List Nat)
  | 1 => [(0, []), (1, []), (2, []), (3, []), (4, []), (5, []), (6, []), (7, []), (8, []), (9, []), (10, [3]), (11, []), (12, []), (13, [])]
  | _ => []
/-- a machine made, its lists behind three places -/
def oH (M : Mach) (cells : List Bool) (nc : Nat) (bad : List Bool) (nb : Nat) : AH Sg :=
  [mblk M (.ptr 1 0 0) (.slc 3 0 nb false) (.slc 4 0 0 false) 0, .cells [.slc 5 0 nc false, .int .i64 0, .bool false], .dead, .lst 4 bad, .lst 4 [], .lst 4 cells]
def s13 : Spec Sg := fun args H K => (args = [.nilp] ∧ H = [] ∧ K (.tup []) []) ∨ (args = [.ptr 0 0 0] ∧ H = zH ∧ K (.tup []) zH) ∨
  (∃ (M : Mach) (cells : List Bool) (nc : Nat) (ticks : Int) (over : Bool) (bad : List Bool) (nb : Nat) (done : Int) (buf : List Bool) (n : Nat), args = [.ptr 0 0 0] ∧ H = mH M cells nc ticks over bad nb done buf n ∧ (0 ≤ M.p.Cells ∧ M.p.Cells ≤ 20000 ∧ M.p.Props.length ≤ 16) ∧
    K (.tup []) [mblk M (.ptr 1 0 0) (.slc 5 0 M.p.Props.length false) (.slc 6 0 n false) 0, .cells [.slc 7 0 M.p.Cells.toNat false, .int .i64 0, .bool false], .lst 4 bad, .dead, .lst 4 cells,
      .lst 4 (List.replicate M.p.Props.length false), .lst 4 buf, .lst 4 (List.replicate M.p.Cells.toNat false)]) ∨
  ∃ (p : ProgR) (nd : List NodeR) (nn : Nat) (nm : List ByteArray), args = [.ptr 0 0 0] ∧ H = nH p nd nn nm ∧ (nn = nd.length ∧ 0 ≤ p.Cells ∧ p.Cells ≤ 20000 ∧ p.Props.length ≤ 16) ∧
    K (.tup []) (oH ⟨p, nd, nm⟩ (List.replicate p.Cells.toNat false) p.Cells.toNat (List.replicate p.Props.length false) p.Props.length)
theorem f13_ok : FnOk Try.prog C 13 s13 := fn_okO mixed good goodM (gam [(29, s29)]) (gam_cons f29_ok gam_nil) Try.func13 (body_some (by kernel_rfl)) (by kernel_rfl) ord13 (by kernel_rfl) s13 fun args H K h => by
  rcases h with ⟨rfl, rfl, hK⟩ | ⟨rfl, rfl, hK⟩ | ⟨M, cells, nc, ticks, over, bad, nb, done, buf, n, rfl, rfl, ⟨c0, c1, hp⟩, hK⟩ | ⟨p, nd, nn, nm, rfl, rfl, ⟨hnn, c0, c1, hp⟩, hK⟩
  · show abodyO C (gam [(29, s29)]) ord13 Try.f13 (bodyOf Try.f13) [.nilp] [] K
    refine .inl ⟨rfl, rfl, ?_⟩
    refine br_true ?_
    exact ⟨[], trivial, hK⟩
  · show abodyO C (gam [(29, s29)]) ord13 Try.f13 (bodyOf Try.f13) [.ptr 0 0 0] zH K
    refine .inr (.inl ⟨rfl, rfl, ?_⟩)
    refine br_true ?_
    exact ⟨[.keep], ⟨trivial, trivial⟩, hK⟩
  · show abodyO C (gam [(29, s29)]) ord13 Try.f13 (bodyOf Try.f13) [.ptr 0 0 0] (mH M cells nc ticks over bad nb done buf n) K
    refine .inr (.inr (.inl ⟨M, cells, nc, ticks, over, bad, nb, done, buf, n, rfl, rfl, ?_⟩))
    refine br_false ?_
    have o1 : 0 ≤ M.p.Cells ∧ M.p.Cells ≤ M.p.Cells ∧ M.p.Cells * 1 ≤ (maxBytes : Int) ∧ M.p.Cells ≤ (maxInt : Int) := by unfold maxBytes maxInt; omega
    have o2 : 0 ≤ (M.p.Props.length : Int) ∧ (M.p.Props.length : Int) ≤ M.p.Props.length ∧ (M.p.Props.length : Int) * 1 ≤ (maxBytes : Int) ∧ (M.p.Props.length : Int) ≤ (maxInt : Int) := by unfold maxBytes maxInt; omega
    refine And.intro o1 ?_
    refine And.intro rfl ?_
    refine And.intro o2 ?_
    exact ⟨[], trivial, hK⟩
  · show abodyO C (gam [(29, s29)]) ord13 Try.f13 (bodyOf Try.f13) [.ptr 0 0 0] (nH p nd nn nm) K
    refine .inr (.inr (.inr ⟨p, nd, nn, nm, rfl, rfl, ?_⟩))
    refine br_false ?_
    have o1 : 0 ≤ p.Cells ∧ p.Cells ≤ p.Cells ∧ p.Cells * 1 ≤ (maxBytes : Int) ∧ p.Cells ≤ (maxInt : Int) := by unfold maxBytes maxInt; omega
    have o2 : 0 ≤ (p.Props.length : Int) ∧ (p.Props.length : Int) ≤ p.Props.length ∧ (p.Props.length : Int) * 1 ≤ (maxBytes : Int) ∧ (p.Props.length : Int) ≤ (maxInt : Int) := by unfold maxBytes maxInt; omega
    refine And.intro o1 ?_
    refine And.intro rfl ?_
    refine And.intro o2 ?_
    have e : (nd.drop 0).take nn = nd := by rw [hnn]; simp
    have hK : K (.tup []) (oH ⟨p, (nd.drop 0).take nn, nm⟩ (List.replicate p.Cells.toNat false) p.Cells.toNat (List.replicate p.Props.length false) p.Props.length) := by rw [e]; exact hK
    exact ⟨[.frzc 0 7, .cell 0 10 4], ⟨⟨by omega, trivial⟩, trivial, trivial⟩, hK⟩
end Ev
