/- Lemmas for the theorem: a part of the walk. -/
import Derived.Test.YtbndhppjabbacaaF1
import Derived.Test.YtbndhppjabbacaaPu4
namespace Ev
open Go Go.Proofs
set_option maxRecDepth 100000
/-- what a machine never changes -/
structure Mach where
  p : ProgR
  nd : List NodeR
  nm : List ByteArray
def mblk (M : Mach) (S B T : AV Sg) (done : Int) : Blk Sg :=
  .cells [S, .int .i64 M.p.Cells, .int .i64 M.p.Stack, .int .i64 M.p.Signals, .imm 56 M.p.Atoms, .imm 58 M.p.Codes, .imm 9 M.p.Props, .imm 71 M.nd, .imm 9 M.nm, B, T, .int .i64 done, .bool true]
/-- a machine's memory: cells, ticks, over, bad, done, the stack's buffer and how much of it stands -/
def mH (M : Mach) (cells : List Bool) (nc : Nat) (ticks : Int) (over : Bool) (bad : List Bool) (nb : Nat) (done : Int) (buf : List Bool) (n : Nat) : AH Sg :=
  [mblk M (.ptr 1 0 0) (.slc 2 0 nb false) (.slc 3 0 n false) done, .cells [.slc 4 0 nc false, .int .i64 ticks, .bool over], .lst 4 bad, .lst 4 buf, .lst 4 cells]
/-- a zero machine -/
def zH : AH Sg := [.cells [.nilp, .int .i64 0, .int .i64 0, .int .i64 0, .nils, .nils, .nils, .nils, .nils, .nils, .nils, .int .i64 0, .bool false]]
/-- a machine that is being made -/
def nH (p : ProgR) (nd : List NodeR) (nn : Nat) (nm : List ByteArray) : AH Sg :=
  [.cells [.ptr 1 0 0, .int .i64 p.Cells, .int .i64 p.Stack, .int .i64 p.Signals, .imm 56 p.Atoms, .imm 58 p.Codes, .imm 9 p.Props, .slc 2 0 nn false, .imm 9 nm, .nils, .nils, .int .i64 0, .bool true], .cells [.nils, .int .i64 0, .bool false], .lst 71 nd]
def s29 : Spec Sg := fun args H K => (args = [.nilp] ∧ H = [] ∧ K (.bool true) []) ∨ (args = [.ptr 0 0 0] ∧ H = zH ∧ K (.bool true) zH) ∨
  (∃ M cells nc ticks over bad nb done buf n, args = [.ptr 0 0 0] ∧ H = mH M cells nc ticks over bad nb done buf n ∧ K (.bool false) (mH M cells nc ticks over bad nb done buf n)) ∨
  ∃ (p : ProgR) (nd : List NodeR) (nn : Nat) (nm : List ByteArray), args = [.ptr 0 0 0] ∧ H = nH p nd nn nm ∧ K (.bool false) (nH p nd nn nm)
theorem f29_ok : FnOk Try.prog C 29 s29 := fn_ok mixed good goodM (gam []) gam_nil Try.func29 (body_some (by kernel_rfl)) (by kernel_rfl) (by kernel_rfl) s29 fun args H K h => by
  rcases h with ⟨rfl, rfl, hK⟩ | ⟨rfl, rfl, hK⟩ | ⟨M, cells, nc, ticks, over, bad, nb, done, buf, n, rfl, rfl, hK⟩ | ⟨p, nd, nn, nm, rfl, rfl, hK⟩
  · show abody C (gam []) Try.f29 (bodyOf Try.f29) [.nilp] [] K
    exact ⟨[], trivial, hK⟩
  · show abody C (gam []) Try.f29 (bodyOf Try.f29) [.ptr 0 0 0] zH K
    exact ⟨[], trivial, hK⟩
  · show abody C (gam []) Try.f29 (bodyOf Try.f29) [.ptr 0 0 0] (mH M cells nc ticks over bad nb done buf n) K
    exact ⟨[.keep], ⟨trivial, trivial⟩, hK⟩
  · show abody C (gam []) Try.f29 (bodyOf Try.f29) [.ptr 0 0 0] (nH p nd nn nm) K
    exact ⟨[.keep], ⟨trivial, trivial⟩, hK⟩
/-- the stack's values, the top first -/
structure Top (buf : List Bool) (n : Nat) (st : List Bool) : Prop where
  le : n ≤ buf.length
  eq : st = (buf.take n).reverse
theorem Top.len {buf : List Bool} {n : Nat} {st : List Bool} (h : Top buf n st) : st.length = n := by rw [h.eq]; have := h.le; simp; omega
theorem Top.pop {buf : List Bool} {n : Nat} {st : List Bool} (h : Top buf n st) (h1 : 1 ≤ n) : buf.getD (n - 1) false = hd st ∧ Top buf (n - 1) (st.drop 1) := by
  have hg := take_get buf (n - 1) false (by have := h.le; omega)
  have e : n - 1 + 1 = n := by omega
  rw [e] at hg
  have hs : st = buf.getD (n - 1) false :: (buf.take (n - 1)).reverse := by rw [h.eq, hg]; simp
  refine ⟨by rw [hs]; rfl, by have := h.le; omega, by rw [hs]; rfl⟩
theorem Top.drop {buf : List Bool} {n : Nat} {st : List Bool} (h : Top buf n st) (k : Nat) (hk : k ≤ n) : Top buf (n - k) (st.drop k) := by
  refine ⟨by have := h.le; omega, ?_⟩
  rw [h.eq, List.drop_reverse]
  congr 1
  rw [List.take_take, List.length_take]
  congr 1
  have := h.le
  omega
theorem Top.push {buf : List Bool} {n : Nat} {st : List Bool} (h : Top buf n st) (b : Bool) : Top ((buf.drop 0).take n ++ [b]) (n + 1) (b :: st) := by
  have hl := h.le
  have : ((buf.drop 0).take n ++ [b]).length = n + 1 := by simp; omega
  refine ⟨by omega, ?_⟩
  rw [List.take_of_length_le (by omega), h.eq]; simp
def s31 : Spec Sg := fun args H K => ∃ M cells nc ticks over bad nb done buf n st, args = [.ptr 0 0 0] ∧ H = mH M cells nc ticks over bad nb done buf n ∧ (Top buf n st ∧ 1 ≤ n ∧ buf.length ≤ 1000000000000) ∧
  K (.bool (hd st)) (mH M cells nc ticks over bad nb done buf (n - 1))
def ord31 : Nat → List (Nat × List Nat)
  | 2 => [(0, []), (1, []), (2, []), (3, []), (4, []), (5, []), (6, []), (7, []), (8, []), (9, []), (10, []), (11, []), (12, []), (13, []), (14, [])]
  | _ => []
theorem f31_ok : FnOk Try.prog C 31 s31 := fn_okO mixed good goodM (gam []) gam_nil Try.func31 (body_some (by kernel_rfl)) (by kernel_rfl) ord31 (by kernel_rfl) s31 fun args H K h => by
  obtain ⟨M, cells, nc, ticks, over, bad, nb, done, buf, n, st, rfl, rfl, ⟨ht, h1, hl⟩, hK⟩ := h
  show abodyO C (gam []) ord31 Try.f31 (bodyOf Try.f31) [.ptr 0 0 0] (mH M cells nc ticks over bad nb done buf n) K
  have hle := ht.le
  have ew : wr .i64 ((n : Int) - 1) = (n : Int) - 1 := wr_i64 (by omega) (by omega)
  have ew2 : (wr .i64 ((n : Int) - 1)).toNat = n - 1 := by rw [ew]; omega
  have o1 : 0 ≤ wr .i64 ((n : Int) - 1) ∧ wr .i64 ((n : Int) - 1) < (n : Int) := by rw [ew]; omega
  have o2 : 0 + (wr .i64 ((n : Int) - 1)).toNat < buf.length := by rw [ew2]; omega
  refine And.intro o1 ?_
  refine And.intro o2 ?_
  have o3 : (0 : Int) ≤ 0 ∧ 0 ≤ wr .i64 ((n : Int) - 1) ∧ wr .i64 ((n : Int) - 1) ≤ (n : Int) := by rw [ew]; omega
  refine And.intro o3 ?_
  refine ⟨[.keep], ⟨trivial, trivial⟩, ?_⟩
  have e : (wr .i64 ((n : Int) - 1)).toNat - (0 : Int).toNat = n - 1 := by rw [ew2]; omega
  have e2 : hd st = buf.getD (0 + (wr .i64 ((n : Int) - 1)).toNat) false := by rw [ew2, Nat.zero_add]; exact (ht.pop h1).1.symm
  rw [← e, e2] at hK
  exact hK
def s55 : Spec Sg := fun args H K => ∃ M cells nc ticks over bad nb done buf n st a v, args = [.ptr 0 0 0, .int .i64 a, .bool v] ∧ H = mH M cells nc ticks over bad nb done buf n ∧ (Top buf n st ∧ 0 ≤ a ∧ a.toNat ≤ n ∧ buf.length ≤ 1000000000000) ∧
  K (.bool (manyF v (st.take a.toNat))) (mH M cells nc ticks over bad nb done buf (n - a.toNat))
theorem many_succ {v : Bool} {st : List Bool} {k : Nat} (h : k < st.length) : manyF v (st.take (k + 1)) = (manyF v (st.take k) || (hd (st.drop k) == v)) := by
  rw [take_get st k false h]
  unfold manyF
  rw [List.any_append]
  congr 1
  rw [drop_get st k false h]
  simp [hd]
theorem f55_ok : FnOk Try.prog C 55 s55 := fn_ok mixed good goodM (gam [(31, s31)]) (gam_cons f31_ok gam_nil) Try.func55 (body_some (by kernel_rfl)) (by kernel_rfl) (by kernel_rfl) s55 fun args H K h => by
  obtain ⟨M, cells, nc, ticks, over, bad, nb, done, buf, n, st, a, v, rfl, rfl, ⟨ht, ha, han, hl⟩, hK⟩ := h
  show abody C (gam [(31, s31)]) Try.f55 (bodyOf Try.f55) [.ptr 0 0 0, .int .i64 a, .bool v] (mH M cells nc ticks over bad nb done buf n) K
  have hle := ht.le
  have hlen := ht.len
  refine ⟨[0, 2, 7, 8, 9], [.keep], Nat × Bool × Int, fun (m, o, i) => (frameOf [(0, .ptr 0 0 0), (2, .bool v), (7, .bool o), (8, .int .i64 a), (9, .int .i64 i)], mH M cells nc ticks over bad nb done buf m),
    fun x => 0 ≤ x.2.2 ∧ x.2.2 ≤ a ∧ x.1 = n - x.2.2.toNat ∧ x.2.1 = manyF v (st.take x.2.2.toNat), fun x => a.toNat - x.2.2.toNat, ⟨⟨trivial, trivial⟩, (n, false, 0), rfl, by simp, ha, by simp, rfl⟩, ?_⟩
  rintro ⟨m, o, i⟩ ⟨i1, i2, hm, ho⟩
  dsimp only at i1 i2 hm ho ⊢
  refine br_split (fun h4 => ?_) (fun h4 => ?_)
  · have h4 : i < a := of_decide_eq_true h4
    have hw : wr .i64 (i + 1) = i + 1 := wr_i64 (by omega) (by omega)
    have hw2 : (i + 1).toNat = i.toNat + 1 := by omega
    have htm : Top buf m (st.drop i.toNat) := by rw [hm]; exact ht.drop _ (by omega)
    refine ⟨M, cells, nc, ticks, over, bad, nb, done, buf, m, _, rfl, rfl, ⟨htm, by omega, hl⟩, ?_⟩
    have hs := many_succ (v := v) (st := st) (k := i.toNat) (by omega)
    refine br_split (fun h5 => ?_) (fun h5 => ?_)
    · have h5 : (hd (st.drop i.toNat) == v) = true := h5
      refine And.intro ⟨trivial, trivial⟩ ⟨(_, _, _), rfl, ⟨?_, ?_, ?_, ?_⟩, ?_⟩
      · dsimp only; rw [hw]; omega
      · dsimp only; rw [hw]; omega
      · dsimp only; rw [hw, hw2]; omega
      · dsimp only; rw [hw, hw2, hs, h5, Bool.or_true]
      · dsimp only; rw [hw]; omega
    · have h5 : (hd (st.drop i.toNat) == v) = false := h5
      refine And.intro ⟨trivial, trivial⟩ ⟨(_, _, _), rfl, ⟨?_, ?_, ?_, ?_⟩, ?_⟩
      · dsimp only; rw [hw]; omega
      · dsimp only; rw [hw]; omega
      · dsimp only; rw [hw, hw2]; omega
      · dsimp only; rw [hw, hw2, hs, h5, Bool.or_false]; exact ho
      · dsimp only; rw [hw]; omega
  · have h4 : ¬ i < a := of_decide_eq_false h4
    have : i = a := by omega
    subst this
    subst hm; subst ho
    exact ⟨[.keep], ⟨trivial, trivial⟩, hK⟩
end Ev
