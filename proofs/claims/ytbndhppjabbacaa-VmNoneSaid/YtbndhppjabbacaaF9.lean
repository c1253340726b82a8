/- Lemmas for the theorem: a part of the walk. -/
import Derived.Test.YtbndhppjabbacaaF8
namespace Ev
open Go Go.Proofs
set_option maxRecDepth 100000
def firstIdx {α : Type} (f : α → Bool) : List α → Int → Int
  | [], _ => -1
  | x :: r, i => if f x = true then i else firstIdx f r (i + 1)
theorem any_idx {α : Type} (f : α → Bool) : ∀ (l : List α) (i : Int), 0 ≤ i → l.any f = decide (firstIdx f l i ≥ 0)
  | [], _, _ => rfl
  | x :: r, i, h => by
    unfold firstIdx
    rw [List.any_cons]
    split
    · rename_i hx; rw [hx, Bool.true_or]; exact (decide_eq_true h).symm
    · rename_i hx
      rw [show f x = false by simpa using hx, Bool.false_or]
      exact any_idx f r (i + 1) (by omega)
/-- the heap of a look -/
def lookH (p : ProgR) (tk td : List (Int × Unit)) : AH Sg := [.cells [.ptr 1 0 0], .cells (enc28 p ++ [.map 2, .map 3]), .mp 3 104 tk, .mp 3 104 td]
def lookG (p : ProgR) (tk td : List (Int × Unit)) : AH Sg := [.cells (enc28 p ++ [.map 1, .map 2]), .mp 3 104 tk, .mp 3 104 td]
def s57 : Spec Sg := fun args H K => ∃ (l : List ByteArray), args = [.imm 9 l, .fn 37 []] ∧ H = [] ∧ l.length ≤ 1000000000000 ∧  K (.int .i64 (firstIdx (fun s => !isName s) l 0)) ([])
theorem f57_ok : FnOk Try.prog C 57 s57 := fn_ok mixed good goodM (gam [(37, s37)]) (gam_cons f37_ok gam_nil) Try.func57 (body_some (by kernel_rfl)) (by kernel_rfl) (by kernel_rfl) s57 fun args H K h => by
  obtain ⟨l, rfl, rfl, hl, hK⟩ := h
  show abody C (gam [(37, s37)]) Try.f57 (bodyOf Try.f57) [.imm 9 l, .fn 37 []] ([]) K
  refine ⟨[0, 1, 6, 7, 8], [], Int, fun i => (frameOf [(0, .imm 9 l), (1, .fn 37 []), (6, .imm 9 l), (7, .int .i64 l.length), (8, .int .i64 i)], []), fun i => 0 ≤ i ∧ i ≤ l.length ∧ firstIdx (fun s => !isName s) (l.drop i.toNat) i = firstIdx (fun s => !isName s) l 0, fun i => l.length - i.toNat,
    ⟨trivial, 0, rfl, by simp, by simp, rfl⟩, ?_⟩
  rintro i ⟨i1, i2, he⟩
  refine br_split (fun h4 => ?_) (fun h4 => ?_)
  · have h4 : i < l.length := of_decide_eq_true h4
    have hget := drop_get l i.toNat (C.zero 9) (by omega)
    have hw : wr .i64 (i + 1) = i + 1 := wr_i64 (by omega) (by omega)
    have hw2 : (i + 1).toNat = i.toNat + 1 := by omega
    rw [hget] at he
    have he : (if (fun s => !isName s) (l.getD i.toNat (C.zero 9)) = true then i else firstIdx (fun s => !isName s) (l.drop (i.toNat + 1)) (i + 1)) = firstIdx (fun s => !isName s) l 0 := he
    refine And.intro ⟨i1, h4⟩ ?_
    refine And.intro ⟨trivial, trivial⟩ ?_
    refine And.intro rfl ?_
    refine And.intro rfl ?_
    refine br_split (fun h5 => ?_) (fun h5 => ?_)
    · have h5 : (fun s => !isName s) (l.getD i.toNat (C.zero 9)) = true := h5
      rw [if_pos h5] at he
      exact ⟨[], trivial, to_int hK he.symm⟩
    · have h5 : (fun s => !isName s) (l.getD i.toNat (C.zero 9)) = false := h5
      rw [if_neg (by rw [h5]; decide)] at he
      refine And.intro trivial ⟨_, rfl, ⟨?_, ?_, ?_⟩, ?_⟩
      · rw [hw]; omega
      · rw [hw]; omega
      · rw [hw, hw2]; exact he
      · dsimp only; rw [hw]; omega
  · have h4 : ¬ i < l.length := of_decide_eq_false h4
    rw [List.drop_eq_nil_of_le (by omega)] at he
    exact ⟨[], trivial, to_int hK he.symm⟩
def s36 : Spec Sg := fun args H K => ∃ (l : List ByteArray), args = [.imm 9 l, .fn 37 []] ∧ H = [] ∧ l.length ≤ 1000000000000 ∧  K (.bool (l.any (fun s => !isName s))) ([])
theorem f36_ok : FnOk Try.prog C 36 s36 := fn_ok mixed good goodM (gam [(57, s57)]) (gam_cons f57_ok gam_nil) Try.func36 (body_some (by kernel_rfl)) (by kernel_rfl) (by kernel_rfl) s36 fun args H K h => by
  obtain ⟨l, rfl, rfl, hl, hK⟩ := h
  show abody C (gam [(57, s57)]) Try.f36 (bodyOf Try.f36) [.imm 9 l, .fn 37 []] ([]) K
  refine And.intro ⟨trivial, trivial⟩ ?_
  refine ⟨l, rfl, rfl, hl, ?_⟩
  exact ⟨[], trivial, to_bool hK (any_idx _ _ 0 (by omega))⟩
def ord61 : Nat → List (Nat × List Nat)
  | 1 => [(0, []), (1, []), (2, []), (3, []), (4, []), (5, []), (6, []), (7, []), (8, []), (9, []), (10, []), (11, [])]
  | _ => []
def s61 : Spec Sg := fun args H K => ∃ (w : WeightR) (p : ProgR) (tk td : List (Int × Unit)), args = [.agg (enc62 w), .ptr 0 0 0] ∧ H = lookH p tk td ∧ (0 ≤ p.Signals ∧ p.Signals ≤ 16) ∧ K (.bool (!within w.Signal 0 (p.Signals - 1))) (lookH p tk td)
theorem f61_ok : FnOk Try.prog C 61 s61 := fn_okO mixed good goodM (gam [(35, s35)]) (gam_cons f35_ok gam_nil) Try.func61 (body_some (by kernel_rfl)) (by kernel_rfl) ord61 (by kernel_rfl) s61 fun args H K h => by
  obtain ⟨w, p, tk, td, rfl, rfl, hs, hK⟩ := h
  show abodyO C (gam [(35, s35)]) ord61 Try.f61 (bodyOf Try.f61) [.agg (enc62 w), .ptr 0 0 0] (lookH p tk td) K
  refine And.intro ⟨trivial, trivial, trivial, trivial⟩ ?_
  refine And.intro rfl ?_
  refine And.intro ⟨rfl, rfl, rfl⟩ ?_
  refine fun b hb => ?_
  exact ⟨[], trivial, to_bool hK (by rw [← hb, wr_i64 (by omega) (by omega)])⟩
def s74 : Spec Sg := fun args H K => ∃ (l : List WeightR) (p : ProgR) (tk td : List (Int × Unit)), args = [.imm 62 l, .fn 61 [.ptr 0 0 0]] ∧ H = lookH p tk td ∧ l.length ≤ 1000000000000 ∧ (0 ≤ p.Signals ∧ p.Signals ≤ 16) ∧ K (.int .i64 (firstIdx (fun w => !within w.Signal 0 (p.Signals - 1)) l 0)) (lookH p tk td)
theorem f74_ok : FnOk Try.prog C 74 s74 := fn_ok mixed good goodM (gam [(61, s61)]) (gam_cons f61_ok gam_nil) Try.func74 (body_some (by kernel_rfl)) (by kernel_rfl) (by kernel_rfl) s74 fun args H K h => by
  obtain ⟨l, p, tk, td, rfl, rfl, hl, hs, hK⟩ := h
  show abody C (gam [(61, s61)]) Try.f74 (bodyOf Try.f74) [.imm 62 l, .fn 61 [.ptr 0 0 0]] (lookH p tk td) K
  refine ⟨[0, 1, 6, 7, 8], [], Int, fun i => (frameOf [(0, .imm 62 l), (1, .fn 61 [.ptr 0 0 0]), (6, .imm 62 l), (7, .int .i64 l.length), (8, .int .i64 i)], lookH p tk td), fun i => 0 ≤ i ∧ i ≤ l.length ∧ firstIdx (fun w => !within w.Signal 0 (p.Signals - 1)) (l.drop i.toNat) i = firstIdx (fun w => !within w.Signal 0 (p.Signals - 1)) l 0, fun i => l.length - i.toNat,
    ⟨trivial, 0, rfl, by simp, by simp, rfl⟩, ?_⟩
  rintro i ⟨i1, i2, he⟩
  refine br_split (fun h4 => ?_) (fun h4 => ?_)
  · have h4 : i < l.length := of_decide_eq_true h4
    have hget := drop_get l i.toNat (C.zero 62) (by omega)
    have hw : wr .i64 (i + 1) = i + 1 := wr_i64 (by omega) (by omega)
    have hw2 : (i + 1).toNat = i.toNat + 1 := by omega
    rw [hget] at he
    have he : (if (fun w => !within w.Signal 0 (p.Signals - 1)) (l.getD i.toNat (C.zero 62)) = true then i else firstIdx (fun w => !within w.Signal 0 (p.Signals - 1)) (l.drop (i.toNat + 1)) (i + 1)) = firstIdx (fun w => !within w.Signal 0 (p.Signals - 1)) l 0 := he
    refine And.intro ⟨i1, h4⟩ ?_
    refine And.intro ⟨trivial, trivial⟩ ?_
    refine ⟨_, p, tk, td, rfl, rfl, hs, ?_⟩
    refine br_split (fun h5 => ?_) (fun h5 => ?_)
    · have h5 : (fun w => !within w.Signal 0 (p.Signals - 1)) (l.getD i.toNat (C.zero 62)) = true := h5
      rw [if_pos h5] at he
      exact ⟨[], trivial, to_int hK he.symm⟩
    · have h5 : (fun w => !within w.Signal 0 (p.Signals - 1)) (l.getD i.toNat (C.zero 62)) = false := h5
      rw [if_neg (by rw [h5]; decide)] at he
      refine And.intro trivial ⟨_, rfl, ⟨?_, ?_, ?_⟩, ?_⟩
      · rw [hw]; omega
      · rw [hw]; omega
      · rw [hw, hw2]; exact he
      · dsimp only; rw [hw]; omega
  · have h4 : ¬ i < l.length := of_decide_eq_false h4
    rw [List.drop_eq_nil_of_le (by omega)] at he
    exact ⟨[], trivial, to_int hK he.symm⟩
def s60 : Spec Sg := fun args H K => ∃ (l : List WeightR) (p : ProgR) (tk td : List (Int × Unit)), args = [.imm 62 l, .fn 61 [.ptr 0 0 0]] ∧ H = lookH p tk td ∧ l.length ≤ 1000000000000 ∧ (0 ≤ p.Signals ∧ p.Signals ≤ 16) ∧ K (.bool (l.any (fun w => !within w.Signal 0 (p.Signals - 1)))) (lookH p tk td)
theorem f60_ok : FnOk Try.prog C 60 s60 := fn_ok mixed good goodM (gam [(74, s74)]) (gam_cons f74_ok gam_nil) Try.func60 (body_some (by kernel_rfl)) (by kernel_rfl) (by kernel_rfl) s60 fun args H K h => by
  obtain ⟨l, p, tk, td, rfl, rfl, hl, hs, hK⟩ := h
  show abody C (gam [(74, s74)]) Try.f60 (bodyOf Try.f60) [.imm 62 l, .fn 61 [.ptr 0 0 0]] (lookH p tk td) K
  refine And.intro ⟨trivial, trivial⟩ ?_
  refine ⟨l, p, tk, td, rfl, rfl, hl, hs, ?_⟩
  exact ⟨[], trivial, to_bool hK (any_idx _ _ 0 (by omega))⟩
theorem atomOk_in {S : Int} {a : AtomR} (h : within a.Terms.length 1 16 = true) : atomOk S a = !a.Terms.any (fun w => !within w.Signal 0 (S - 1)) := by
  unfold atomOk within at *
  have h := of_decide_eq_true h
  rw [decide_eq_true (by omega), Bool.true_and]
  induction a.Terms with
  | nil => rfl
  | cons w r ih =>
    rw [List.all_cons, List.any_cons, Bool.not_or, Bool.not_not, ← ih]
    congr 1
    exact decide_eq_decide.2 (by omega)
theorem atomOk_out {S : Int} {a : AtomR} (h : within a.Terms.length 1 16 = false) : atomOk S a = false := by
  unfold atomOk within at *
  have h := of_decide_eq_false h
  rw [decide_eq_false (by omega), Bool.false_and]
def s41 : Spec Sg := fun args H K => ∃ (a : AtomR) (p : ProgR) (tk td : List (Int × Unit)), args = [.ptr 0 0 0, .agg (enc56 a)] ∧ H = lookG p tk td ∧ (0 ≤ p.Signals ∧ p.Signals ≤ 16) ∧ K (.bool (atomOk p.Signals a)) (lookG p tk td)
theorem f41_ok : FnOk Try.prog C 41 s41 := fn_ok mixed good goodM (gam [(35, s35), (60, s60)]) (gam_cons f35_ok (gam_cons f60_ok gam_nil)) Try.func41 (body_some (by kernel_rfl)) (by kernel_rfl) (by kernel_rfl) s41 fun args H K h => by
  obtain ⟨a, p, tk, td, rfl, rfl, hs, hK⟩ := h
  show abody C (gam [(35, s35), (60, s60)]) Try.f41 (bodyOf Try.f41) [.ptr 0 0 0, .agg (enc56 a)] (lookG p tk td) K
  refine And.intro ⟨trivial, trivial, trivial, trivial⟩ ?_
  refine And.intro rfl ?_
  refine And.intro ⟨rfl, rfl, rfl⟩ ?_
  refine br_split (fun h1 => ?_) (fun h1 => ?_)
  · have h1 : within a.Terms.length 1 16 = true := h1
    have hl : a.Terms.length ≤ 1000000000000 := by have := of_decide_eq_true h1; omega
    refine And.intro ⟨trivial, trivial⟩ ?_
    refine ⟨a.Terms, p, tk, td, rfl, rfl, hl, hs, ?_⟩
    exact ⟨[], trivial, to_bool hK (atomOk_in h1)⟩
  · exact ⟨[], trivial, to_bool hK (atomOk_out h1)⟩
def s40 : Spec Sg := fun args H K => ∃ (a : AtomR) (p : ProgR) (tk td : List (Int × Unit)), args = [.agg (enc56 a), .ptr 0 0 0] ∧ H = lookH p tk td ∧ (0 ≤ p.Signals ∧ p.Signals ≤ 16) ∧ K (.bool (!atomOk p.Signals a)) (lookH p tk td)
theorem f40_ok : FnOk Try.prog C 40 s40 := fn_ok mixed good goodM (gam [(41, s41)]) (gam_cons f41_ok gam_nil) Try.func40 (body_some (by kernel_rfl)) (by kernel_rfl) (by kernel_rfl) s40 fun args H K h => by
  obtain ⟨a, p, tk, td, rfl, rfl, hs, hK⟩ := h
  show abody C (gam [(41, s41)]) Try.f40 (bodyOf Try.f40) [.agg (enc56 a), .ptr 0 0 0] (lookH p tk td) K
  refine And.intro ⟨trivial, trivial⟩ ?_
  refine ⟨_, p, tk, td, rfl, rfl, hs, ?_⟩
  exact ⟨[], trivial, hK⟩
def s59 : Spec Sg := fun args H K => ∃ (l : List AtomR) (p : ProgR) (tk td : List (Int × Unit)), args = [.imm 56 l, .fn 40 [.ptr 0 0 0]] ∧ H = lookH p tk td ∧ l.length ≤ 1000000000000 ∧ (0 ≤ p.Signals ∧ p.Signals ≤ 16) ∧ K (.int .i64 (firstIdx (fun a => !atomOk p.Signals a) l 0)) (lookH p tk td)
theorem f59_ok : FnOk Try.prog C 59 s59 := fn_ok mixed good goodM (gam [(40, s40)]) (gam_cons f40_ok gam_nil) Try.func59 (body_some (by kernel_rfl)) (by kernel_rfl) (by kernel_rfl) s59 fun args H K h => by
  obtain ⟨l, p, tk, td, rfl, rfl, hl, hs, hK⟩ := h
  show abody C (gam [(40, s40)]) Try.f59 (bodyOf Try.f59) [.imm 56 l, .fn 40 [.ptr 0 0 0]] (lookH p tk td) K
  refine ⟨[0, 1, 6, 7, 8], [], Int, fun i => (frameOf [(0, .imm 56 l), (1, .fn 40 [.ptr 0 0 0]), (6, .imm 56 l), (7, .int .i64 l.length), (8, .int .i64 i)], lookH p tk td), fun i => 0 ≤ i ∧ i ≤ l.length ∧ firstIdx (fun a => !atomOk p.Signals a) (l.drop i.toNat) i = firstIdx (fun a => !atomOk p.Signals a) l 0, fun i => l.length - i.toNat,
    ⟨trivial, 0, rfl, by simp, by simp, rfl⟩, ?_⟩
  rintro i ⟨i1, i2, he⟩
  refine br_split (fun h4 => ?_) (fun h4 => ?_)
  · have h4 : i < l.length := of_decide_eq_true h4
    have hget := drop_get l i.toNat (C.zero 56) (by omega)
    have hw : wr .i64 (i + 1) = i + 1 := wr_i64 (by omega) (by omega)
    have hw2 : (i + 1).toNat = i.toNat + 1 := by omega
    rw [hget] at he
    have he : (if (fun a => !atomOk p.Signals a) (l.getD i.toNat (C.zero 56)) = true then i else firstIdx (fun a => !atomOk p.Signals a) (l.drop (i.toNat + 1)) (i + 1)) = firstIdx (fun a => !atomOk p.Signals a) l 0 := he
    refine And.intro ⟨i1, h4⟩ ?_
    refine And.intro ⟨trivial, trivial⟩ ?_
    refine ⟨_, p, tk, td, rfl, rfl, hs, ?_⟩
    refine br_split (fun h5 => ?_) (fun h5 => ?_)
    · have h5 : (fun a => !atomOk p.Signals a) (l.getD i.toNat (C.zero 56)) = true := h5
      rw [if_pos h5] at he
      exact ⟨[], trivial, to_int hK he.symm⟩
    · have h5 : (fun a => !atomOk p.Signals a) (l.getD i.toNat (C.zero 56)) = false := h5
      rw [if_neg (by rw [h5]; decide)] at he
      refine And.intro trivial ⟨_, rfl, ⟨?_, ?_, ?_⟩, ?_⟩
      · rw [hw]; omega
      · rw [hw]; omega
      · rw [hw, hw2]; exact he
      · dsimp only; rw [hw]; omega
  · have h4 : ¬ i < l.length := of_decide_eq_false h4
    rw [List.drop_eq_nil_of_le (by omega)] at he
    exact ⟨[], trivial, to_int hK he.symm⟩
def s39 : Spec Sg := fun args H K => ∃ (l : List AtomR) (p : ProgR) (tk td : List (Int × Unit)), args = [.imm 56 l, .fn 40 [.ptr 0 0 0]] ∧ H = lookH p tk td ∧ l.length ≤ 1000000000000 ∧ (0 ≤ p.Signals ∧ p.Signals ≤ 16) ∧ K (.bool (l.any (fun a => !atomOk p.Signals a))) (lookH p tk td)
theorem f39_ok : FnOk Try.prog C 39 s39 := fn_ok mixed good goodM (gam [(59, s59)]) (gam_cons f59_ok gam_nil) Try.func39 (body_some (by kernel_rfl)) (by kernel_rfl) (by kernel_rfl) s39 fun args H K h => by
  obtain ⟨l, p, tk, td, rfl, rfl, hl, hs, hK⟩ := h
  show abody C (gam [(59, s59)]) Try.f39 (bodyOf Try.f39) [.imm 56 l, .fn 40 [.ptr 0 0 0]] (lookH p tk td) K
  refine And.intro ⟨trivial, trivial⟩ ?_
  refine ⟨l, p, tk, td, rfl, rfl, hl, hs, ?_⟩
  exact ⟨[], trivial, to_bool hK (any_idx _ _ 0 (by omega))⟩
end Ev
