/- Lemmas for the theorem: a part of the walk. -/
import Derived.Test.YtbndhppjabbacaaF4
import Derived.Test.YtbndhppjabbacaaPu4
namespace Ev
open Go Go.Proofs
set_option maxRecDepth 100000
/-- SameInts -/
def s15 : Spec Sg := p2 C 38 38 fun (a b : List Int) K => a.length ≤ 9223372036854775807 ∧ K (.bool (decide (a = b))) []
theorem eq_drop {a b : List Int} (h : a.length = b.length) (i : Nat) (hi : i < a.length) : decide (a.drop i = b.drop i) = (decide (a.getD i 0 = b.getD i 0) && decide (a.drop (i + 1) = b.drop (i + 1))) := by
  rw [drop_get a i 0 hi, drop_get b i 0 (by omega), ← Bool.decide_and]
  exact decide_eq_decide.2 (by simp)
theorem f15_ok : FnOk Try.prog C 15 s15 := fn_ok mixed good goodM (gam []) gam_nil Try.func15 (body_some (by kernel_rfl)) (by kernel_rfl) (by kernel_rfl) s15 fun args H K h => by
  obtain ⟨rfl, a, b, rfl, hl, hK⟩ := of_p2 h
  clear h
  show abody C (gam []) Try.f15 (bodyOf Try.f15) [.imm 3 a, .imm 3 b] [] K
  revert a b
  intro (a : List Int) (b : List Int) hl hK
  refine br_split (fun h => ?_) (fun h => ?_)
  · have h : (a.length : Int) ≠ b.length := by simpa using h
    exact ⟨[], trivial, to_bool hK (decide_eq_false (fun e => h (by rw [e])))⟩
  have h : (a.length : Int) = b.length := by simpa using h
  have h : a.length = b.length := by omega
  refine ⟨[0, 1, 5], [], Int, fun i => (frameOf [(0, .imm 3 a), (1, .imm 3 b), (5, .int .i64 i)], []), fun i => 0 ≤ i ∧ i ≤ a.length ∧ decide (a.drop i.toNat = b.drop i.toNat) = decide (a = b), fun i => a.length - i.toNat,
    ⟨trivial, 0, rfl, by simp, by simp, rfl⟩, ?_⟩
  rintro i ⟨i1, i2, he⟩
  refine br_split (fun h4 => ?_) (fun h4 => ?_)
  · have h4 : i < a.length := of_decide_eq_true h4
    have hw : wr .i64 (i + 1) = i + 1 := wr_i64 (by omega) (by omega)
    have hw2 : (i + 1).toNat = i.toNat + 1 := by omega
    rw [eq_drop h i.toNat (by omega)] at he
    refine And.intro ⟨i1, h4⟩ ?_
    refine And.intro ⟨i1, by omega⟩ ?_
    refine br_split (fun h5 => ?_) (fun h5 => ?_)
    · have h5 := not_true h5
      have h5 : a.getD i.toNat 0 ≠ b.getD i.toNat 0 := beq_eq_false_iff_ne.1 h5
      rw [decide_eq_false h5, Bool.false_and] at he
      exact ⟨[], trivial, to_bool hK he.symm⟩
    · have h5 := not_false' h5
      have h5 : a.getD i.toNat 0 = b.getD i.toNat 0 := eq_of_beq h5
      rw [decide_eq_true h5, Bool.true_and] at he
      refine And.intro trivial ⟨_, rfl, ⟨?_, ?_, ?_⟩, ?_⟩
      · rw [hw]; omega
      · rw [hw]; omega
      · rw [hw, hw2]; exact he
      · dsimp only; rw [hw]; omega
  · have h4 : ¬ i < a.length := of_decide_eq_false h4
    rw [List.drop_eq_nil_of_le (by omega), List.drop_eq_nil_of_le (by omega)] at he
    exact ⟨[], trivial, to_bool hK he.symm⟩
/-- lengths that a machine's numbers hold -/
def Fit (p : ProgR) : Prop := p.Atoms.length ≤ 9223372036854775807 ∧ p.Codes.length ≤ 9223372036854775807
def s6 : Spec Sg := p1 C 28 fun (p : ProgR) K => Fit p ∧ ∀ b, K (.bool b) []
theorem f6_ok : FnOk Try.prog C 6 s6 := fn_ok mixed good goodM (gam []) gam_nil Try.func6 (body_some (by kernel_rfl)) (by kernel_rfl) (by kernel_rfl) s6 fun args H K h => by
  obtain ⟨rfl, p, rfl, hF, hK⟩ := of_p1 h
  clear h
  show abody C (gam []) Try.f6 (bodyOf Try.f6) [.agg (enc28 p)] [] K
  revert p
  intro (p : ProgR) hF
  refine ⟨[1, 3, 4], [], Int × Int, fun (n, i) => (frameOf [(1, .ptr 0 0 0), (3, .int .i64 n), (4, .int .i64 i)], [.cells (enc28 p)]), fun x => 0 ≤ x.2 ∧ x.2 ≤ p.Atoms.length, fun x => p.Atoms.length - x.2.toNat,
    ⟨trivial, (0, 0), rfl, by simp, by simp⟩, ?_⟩
  rintro ⟨n, i⟩ ⟨i1, i2⟩
  dsimp only at i1 i2 ⊢
  have hA := hF.1
  have fin : ∀ b H, K (.bool b) [] → H = [] → K (.bool b) H := fun b H h e => e ▸ h
  refine br_split (fun h4 => ?_) (fun h4 => ?_)
  · have h4 : i < p.Atoms.length := of_decide_eq_true h4
    have hw : wr .i64 (i + 1) = i + 1 := wr_i64 (by omega) (by omega)
    refine br_split (fun h5 => ?_) (fun h5 => ?_)
    · refine And.intro ⟨i1, h4⟩ ?_
      refine And.intro trivial ⟨(_, _), rfl, ⟨?_, ?_⟩, ?_⟩
      · dsimp only; rw [hw]; omega
      · dsimp only; rw [hw]; omega
      · dsimp only; rw [hw]; omega
    · repeat' (first | refine br_true ?_ | refine br_false ?_ | refine br_split (fun h => ?_) (fun h => ?_))
      all_goals exact ⟨[], trivial, hK _⟩
  · repeat' (first | refine br_true ?_ | refine br_false ?_ | refine br_split (fun h => ?_) (fun h => ?_))
    all_goals exact ⟨[], trivial, hK _⟩
def s7 : Spec Sg := p1 C 28 fun (p : ProgR) K => Fit p ∧ ∀ b, K (.bool b) []
def ord7 : Nat → List (Nat × List Nat)
  | 6 => [(0, []), (1, []), (2, []), (3, []), (4, []), (5, []), (6, []), (9, []), (10, []), (11, []), (12, []), (13, []), (14, []), (7, [10, 12, 14]), (8, []), (15, []), (16, [])]
  | _ => []
theorem f7_ok : FnOk Try.prog C 7 s7 := fn_okO mixed good goodM (gam [(21, s21)]) (gam_cons f21_ok gam_nil) Try.func7 (body_some (by kernel_rfl)) (by kernel_rfl) ord7 (by kernel_rfl) s7 fun args H K h => by
  obtain ⟨rfl, p, rfl, hF, hK⟩ := of_p1 h
  clear h
  show abodyO C (gam [(21, s21)]) ord7 Try.f7 (bodyOf Try.f7) [.agg (enc28 p)] [] K
  revert p
  intro (p : ProgR) hF
  refine ⟨[1, 3, 4], [], Int × Int, fun (n, i) => (frameOf [(1, .ptr 0 0 0), (3, .int .i64 n), (4, .int .i64 i)], [.cells (enc28 p)]), fun x => 0 ≤ x.2 ∧ x.2 ≤ p.Codes.length, fun x => p.Codes.length - x.2.toNat,
    ⟨trivial, (0, 0), rfl, by simp, by simp⟩, ?_⟩
  rintro ⟨n, i⟩ ⟨i1, i2⟩
  dsimp only at i1 i2 ⊢
  have hA := hF.2
  refine br_split (fun h4 => ?_) (fun h4 => ?_)
  · have h4 : i < p.Codes.length := of_decide_eq_true h4
    have hw : wr .i64 (i + 1) = i + 1 := wr_i64 (by omega) (by omega)
    refine And.intro ⟨i1, h4⟩ ?_
    refine br_split (fun h5 => ?_) (fun h5 => ?_)
    · have o1 : 0 ≤ i ∧ i ≤ wr .i64 (i + 1) ∧ wr .i64 (i + 1) ≤ (p.Codes.length : Int) := by rw [hw]; omega
      refine And.intro o1 ?_
      refine And.intro ⟨i1, h4⟩ ?_
      refine And.intro ⟨trivial, trivial⟩ ?_
      refine And.intro rfl ?_
      refine And.intro rfl ?_
      have o2 : ((p.Codes.take (wr .i64 (i + 1)).toNat).drop i.toNat).length ≤ 1000000000000 := by rw [List.length_drop, List.length_take, hw]; omega
      refine And.intro o2 ?_
      refine And.intro rfl ?_
      refine And.intro ⟨i1, h4⟩ ?_
      refine And.intro rfl ?_
      refine And.intro rfl ?_
      refine And.intro trivial ⟨(_, _), rfl, ⟨?_, ?_⟩, ?_⟩
      · dsimp only; rw [hw]; omega
      · dsimp only; rw [hw]; omega
      · dsimp only; rw [hw]; omega
    · refine And.intro trivial ⟨(_, _), rfl, ⟨?_, ?_⟩, ?_⟩
      · dsimp only; rw [hw]; omega
      · dsimp only; rw [hw]; omega
      · dsimp only; rw [hw]; omega
  · repeat' (first | refine br_true ?_ | refine br_false ?_ | refine br_split (fun h => ?_) (fun h => ?_))
    all_goals exact ⟨[], trivial, hK _⟩
end Ev
