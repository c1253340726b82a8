/- Lemmas for the theorem: a part of the walk. -/
import Derived.Test.YtbndhppjabbacaaF16
namespace Ev
open Go Go.Proofs
set_option maxRecDepth 100000
def ord68 : Nat → List (Nat × List Nat)
  | 9 => [(0, []), (1, []), (2, []), (3, []), (4, []), (5, []), (6, []), (7, []), (8, []), (9, []), (10, []), (11, []), (12, []), (13, []), (14, [])]
  | _ => []
def s68 : Spec Sg := p1 C 110 fun (l : List SumR) K => (l.length ≤ 1000000 ∧ ∀ s, s ∈ l → SumOk s) ∧ K (.agg (enc112 (sumL l))) []
def mid1 (o x : SumR) : SumR := ⟨(ad64 o.a x.a 0).1, o.b, o.c⟩
def mid2 (o x : SumR) : SumR := ⟨(ad64 o.a x.a 0).1, (ad64 o.b x.b (ad64 o.a x.a 0).2).1, o.c⟩
def midOk (o x : SumR) (i c : Int) (s : SumR) : Prop :=
  i = 0 ∧ c = 0 ∧ s = o ∨ i = 1 ∧ c = (ad64 o.a x.a 0).2 ∧ s = mid1 o x ∨ i = 2 ∧ c = (ad64 o.b x.b (ad64 o.a x.a 0).2).2 ∧ s = mid2 o x ∨ i = 3 ∧ s = sum2 o x
set_option maxHeartbeats 1000000 in
theorem f68_ok : FnOk Try.prog C 68 s68 := fn_okO mixed good goodM (gam [(79, s79)]) (gam_cons f79_ok gam_nil) Try.func68 (body_some (by kernel_rfl)) (by kernel_rfl) ord68 (by kernel_rfl) s68 fun args H K h => by
  obtain ⟨rfl, l, rfl, ⟨hl, hok⟩, hK⟩ := of_p1 h
  clear h
  show abodyO C (gam [(79, s79)]) ord68 Try.f68 (bodyOf Try.f68) [.imm 112 l] [] K
  revert l
  intro (l : List SumR) hK hl hok
  refine ⟨[2, 3, 8, 9, 10], [], SumR × Int, fun (o, i) => (frameOf [(2, .ptr 0 0 0), (3, .ptr 1 0 0), (8, .imm 112 l), (9, .int .i64 l.length), (10, .int .i64 i)], [.cells [.int .u64 0, .int .u64 0, .int .u64 0], .cells (enc112 o)]),
    fun x => 0 ≤ x.2 ∧ x.2 ≤ l.length ∧ SumOk x.1 ∧ (l.drop x.2.toNat).foldl sum2 x.1 = sumL l, fun x => l.length - x.2.toNat,
    ⟨trivial, (⟨0, 0, 0⟩, 0), rfl, by simp, by simp, zero_ok, rfl⟩, ?_⟩
  rintro ⟨o, i⟩ ⟨i1, i2, so, he⟩
  dsimp only at i1 i2 so he ⊢
  refine br_split (fun h4 => ?_) (fun h4 => ?_)
  · have h4 : i < l.length := of_decide_eq_true h4
    have hget := drop_get l i.toNat (C.zero 112) (by omega)
    have hmem := mem_get l i.toNat (C.zero 112) (by omega)
    have hw : wr .i64 (i + 1) = i + 1 := wr_i64 (by omega) (by omega)
    have hw2 : (i + 1).toNat = i.toNat + 1 := by omega
    rw [hget, List.foldl_cons] at he
    have sx := hok _ hmem
    refine And.intro ⟨i1, h4⟩ ?_
    generalize hx : List.getD l i.toNat (C.zero 112) = x at *
    clear hget hmem
    refine ⟨[2, 3, 5, 6, 8, 9, 10, 14], [], Int × Int × SumR, fun (j, c, s) => (frameOf [(2, .ptr 0 0 0), (3, .ptr 1 0 0), (5, .ptr 2 0 0), (6, .int .u64 c), (8, .imm 112 l), (9, .int .i64 l.length), (10, .int .i64 i), (14, .int .i64 j)], [.cells [.int .u64 0, .int .u64 0, .int .u64 0], .cells (enc112 s), .cells (enc112 x)]),
      fun y => midOk o x y.1 y.2.1 y.2.2, fun y => 3 - y.1.toNat, ⟨trivial, (0, 0, o), rfl, .inl ⟨rfl, rfl, rfl⟩⟩, ?_⟩
    have a1 := ad64_ok so.a sx.a (c := 0) (by omega)
    have a2 := ad64_ok so.b sx.b a1.2
    have a3 := ad64_ok so.c sx.c a2.2
    have i0 : (0 : Int) ≤ 0 ∧ (0 : Int) < 3 := by decide
    have i1' : (0 : Int) ≤ 1 ∧ (1 : Int) < 3 := by decide
    have i2' : (0 : Int) ≤ 2 ∧ (2 : Int) < 3 := by decide
    have w1 : wr .i64 (0 + 1) = 1 := wr_i64 (by decide) (by decide)
    have w2 : wr .i64 (1 + 1) = 2 := wr_i64 (by decide) (by decide)
    have w3 : wr .i64 (2 + 1) = 3 := wr_i64 (by decide) (by decide)
    rintro ⟨j, c, s⟩ (⟨e1, e2, e3⟩ | ⟨e1, e2, e3⟩ | ⟨e1, e2, e3⟩ | ⟨e1, e3⟩) <;> dsimp only at e1 e3 <;> subst e1 <;> subst e3
    · dsimp only at e2; subst e2
      refine br_split (fun h5 => ?_) (fun h5 => by cases h5)
      refine And.intro i0 ?_
      refine And.intro i0 ?_
      refine And.intro ⟨trivial, trivial, trivial, trivial⟩ ?_
      refine ⟨_, _, _, rfl, ⟨so.a, sx.a, by omega⟩, ?_⟩
      refine And.intro i0 ?_
      refine And.intro trivial ⟨(_, _, _), rfl, .inr (.inl ⟨w1, rfl, rfl⟩), ?_⟩
      dsimp only; rw [w1]; decide
    · dsimp only at e2; subst e2
      refine br_split (fun h5 => ?_) (fun h5 => by cases h5)
      refine And.intro i1' ?_
      refine And.intro i1' ?_
      refine And.intro ⟨trivial, trivial, trivial, trivial⟩ ?_
      refine ⟨_, _, _, rfl, ⟨so.b, sx.b, a1.2⟩, ?_⟩
      refine And.intro i1' ?_
      refine And.intro trivial ⟨(_, _, _), rfl, .inr (.inr (.inl ⟨w2, rfl, rfl⟩)), ?_⟩
      dsimp only; rw [w2]; decide
    · dsimp only at e2; subst e2
      refine br_split (fun h5 => ?_) (fun h5 => by cases h5)
      refine And.intro i2' ?_
      refine And.intro i2' ?_
      refine And.intro ⟨trivial, trivial, trivial, trivial⟩ ?_
      refine ⟨_, _, _, rfl, ⟨so.c, sx.c, a2.2⟩, ?_⟩
      refine And.intro i2' ?_
      refine And.intro trivial ⟨(_, _, _), rfl, .inr (.inr (.inr ⟨w3, rfl⟩)), ?_⟩
      dsimp only; rw [w3]; decide
    · refine br_split (fun h5 => by cases h5) (fun h5 => ?_)
      refine And.intro trivial ⟨(_, _), rfl, ⟨?_, ?_, ?_, ?_⟩, ?_⟩
      · rw [hw]; omega
      · rw [hw]; omega
      · exact sum2_ok so sx
      · rw [hw, hw2]; exact he
      · dsimp only; rw [hw]; omega
  · have h4 : ¬ i < l.length := of_decide_eq_false h4
    rw [List.drop_eq_nil_of_le (by omega)] at he
    have he : o = sumL l := he
    subst he
    exact ⟨[], trivial, hK⟩
end Ev
