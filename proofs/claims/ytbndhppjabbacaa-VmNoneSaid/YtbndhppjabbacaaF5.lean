/- Lemmas for the theorem: a part of the walk. -/
import Derived.Test.YtbndhppjabbacaaF4
namespace Ev
open Go Go.Proofs
set_option maxRecDepth 100000
set_option maxHeartbeats 1000000
def s25 : Spec Sg := p1 C 25 fun (l : List CodeR) K => (l.length ≤ 1000000000000) ∧ K (.int .i64 (stkN l)) []
theorem f25_ok : FnOk Try.prog C 25 s25 := fn_ok mixed good goodM (gam []) gam_nil Try.func25 (body_some (by kernel_rfl)) (by kernel_rfl) (by kernel_rfl) s25 fun args H K h => by
  obtain ⟨rfl, l, rfl, hl, hK⟩ := of_p1 h
  clear h
  show abody C (gam []) Try.f25 (bodyOf Try.f25) [.imm 58 l] [] K
  refine ⟨[0, 3, 4, 5], [], Int × Int × Int, fun (now, most, i) => (frameOf [(0, .imm 58 l), (3, .int .i64 now), (4, .int .i64 most), (5, .int .i64 i)], []),
    fun x => 0 ≤ x.2.2 ∧ x.2.2 ≤ l.length ∧ 0 ≤ x.1 ∧ x.1 ≤ x.2.2 ∧ stk (l.drop x.2.2.toNat) x.1 x.2.1 = stkN l, fun x => l.length - x.2.2.toNat,
    ⟨trivial, (0, 0, 0), rfl, by simp, by simp, by simp, by simp, rfl⟩, ?_⟩
  rintro ⟨now, most, i⟩ ⟨i1, i2, n1, n2, he⟩
  dsimp only at i1 i2 n1 n2 he ⊢
  refine br_split (fun h4 => ?_) (fun h4 => ?_)
  · have h4 : i < l.length := of_decide_eq_true h4
    have hget := drop_get l i.toNat (C.zero 58) (by omega)
    have hw : wr .i64 (i + 1) = i + 1 := wr_i64 (by omega) (by omega)
    have hw2 : (i + 1).toNat = i.toNat + 1 := by omega
    have hn : stk (l.drop i.toNat) now most = match mvs (l.getD i.toNat (C.zero 58)) with
        | none => -1
        | some (t, p) => if now < t then -1 else stk (l.drop (i.toNat + 1)) (now - t + p) (if most < now - t + p then now - t + p else most) := by
      rw [hget]; rfl
    rw [he] at hn
    have next : ∀ t p now' most', mvs (l.getD i.toNat (C.zero 58)) = some (t, p) → t ≤ now → 0 ≤ t → 0 ≤ p → p ≤ 1 → now' = now - t + p → most' = (if most < now - t + p then now - t + p else most) →
        0 ≤ wr .i64 (i + 1) ∧ wr .i64 (i + 1) ≤ l.length ∧ 0 ≤ now' ∧ now' ≤ wr .i64 (i + 1) ∧ stk (l.drop (wr .i64 (i + 1)).toNat) now' most' = stkN l := by
      intro t p now' most' hm ht t0 p0 p1 h1 h2
      subst h1; subst h2
      rw [hm] at hn
      simp only at hn
      rw [if_neg (by omega)] at hn
      rw [hw, hw2]
      exact ⟨by omega, by omega, by omega, by omega, hn.symm⟩
    have stop : (mvs (l.getD i.toNat (C.zero 58)) = none ∨ ∃ t p, mvs (l.getD i.toNat (C.zero 58)) = some (t, p) ∧ now < t) → stkN l = -1 := by
      rintro (hm | ⟨t, p, hm, ht⟩)
      · rw [hm] at hn; exact hn
      · rw [hm] at hn; simp only at hn; rw [if_pos ht] at hn; exact hn
    have dec : l.length - (wr .i64 (i + 1)).toNat < l.length - i.toNat := by rw [hw]; omega
    clear hn he hget
    refine And.intro ⟨i1, h4⟩ ?_
    repeat' (first | refine And.intro ⟨i1, h4⟩ ?_ | refine br_true ?_ | refine br_false ?_ | refine br_split (fun h => ?_) (fun h => ?_))
    all_goals
      generalize List.getD l i.toNat (C.zero 58) = c at *
      rcases mvs_cases c with ⟨hm, hc⟩ | ⟨t, p, hm, hc⟩ <;> cases c <;> dsimp only at * <;>
        simp only [beq_iff_eq, beq_eq_false_iff_ne, ne_eq, decide_eq_true_eq, decide_eq_false_iff_not] at *
    all_goals first
      | (exfalso; omega)
      | (refine ⟨[], trivial, to_int hK (stop (.inl hm))⟩)
      | (refine ⟨[], trivial, to_int hK (stop (.inr ⟨_, _, hm, ?_⟩))⟩; omega)
      | (refine And.intro trivial ⟨(_, _, _), rfl, next _ _ _ _ hm ?_ ?_ ?_ ?_ ?_ ?_, dec⟩ <;> (try dsimp only) <;>
          first | omega | (rw [wr_i64 (n := _ - _) (by omega) (by omega)] at *; rw [wr_i64 (n := _ + _) (by omega) (by omega)] at *; first | omega | (split <;> omega)))
  · refine ⟨[], trivial, to_int hK ?_⟩
    have h4 : ¬ i < l.length := of_decide_eq_false h4
    have : i = l.length := by omega
    subst this
    rw [List.drop_eq_nil_of_le (by omega)] at he
    exact he.symm
end Ev
