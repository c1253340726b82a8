/- Lemmas for the theorem: a part of the walk. -/
import Derived.Test.YtbndhppjabbacaaF3
namespace Ev
open Go Go.Proofs
set_option maxRecDepth 100000
def s21 : Spec Sg := p1 C 25 fun (l : List CodeR) K => (l.length ≤ 1000000000000) ∧ K (.int .i64 (cellsN l)) []
theorem f21_ok : FnOk Try.prog C 21 s21 := fn_ok mixed good goodM (gam [(24, s24)]) (gam_cons f24_ok gam_nil) Try.func21 (body_some (by kernel_rfl)) (by kernel_rfl) (by kernel_rfl) s21 fun args H K h => by
  obtain ⟨rfl, l, rfl, hl, hK⟩ := of_p1 h
  clear h
  show abody C (gam [(24, s24)]) Try.f21 (bodyOf Try.f21) [.imm 58 l] [] K
  revert l
  intro (l : List CodeR) hl hK
  refine ⟨[0, 3, 4], [], Int × Int, fun (m, i) => (frameOf [(0, .imm 58 l), (3, .int .i64 m), (4, .int .i64 i)], []), fun x => 0 ≤ x.2 ∧ x.2 ≤ l.length ∧ cellsF (l.drop x.2.toNat) x.1 = cellsN l, fun x => l.length - x.2.toNat,
    ⟨trivial, (0, 0), rfl, by simp, by simp, rfl⟩, ?_⟩
  rintro ⟨m, i⟩ ⟨i1, i2, he⟩
  dsimp only at i1 i2 he ⊢
  refine br_split (fun h4 => ?_) (fun h4 => ?_)
  · have h4 : i < l.length := of_decide_eq_true h4
    have hget := drop_get l i.toNat (C.zero 58) (by omega)
    have hw : wr .i64 (i + 1) = i + 1 := wr_i64 (by omega) (by omega)
    have hw2 : (i + 1).toNat = i.toNat + 1 := by omega
    have hn : ∀ c, l.getD i.toNat (C.zero 58) = c → cellsF (l.drop i.toNat) m = cellsF (l.drop (i.toNat + 1)) (if 0 < own c ∧ c.A ≤ 2147483648 ∧ m < c.A + own c then c.A + own c else m) := by
      intro c hc; rw [hget, hc]; rfl
    have next : ∀ c m', l.getD i.toNat (C.zero 58) = c → m' = (if 0 < own c ∧ c.A ≤ 2147483648 ∧ m < c.A + own c then c.A + own c else m) → 0 ≤ wr .i64 (i + 1) ∧ wr .i64 (i + 1) ≤ l.length ∧ cellsF (l.drop (wr .i64 (i + 1)).toNat) m' = cellsN l := by
      intro c m' hc hm; subst hm; rw [hw, hw2, ← he, hn c hc]; exact ⟨by omega, by omega, rfl⟩
    have dec : l.length - (wr .i64 (i + 1)).toNat < l.length - i.toNat := by rw [hw]; omega
    clear hn he hget
    have ow := @own_pos (l.getD i.toNat (C.zero 58))
    repeat' (first | refine br_true ?_ | refine br_false ?_ | refine br_split (fun h => ?_) (fun h => ?_) | refine And.intro ?_ ?_)
    all_goals first | exact trivial | exact i1 | exact h4 | rfl | skip
    all_goals
      (refine ⟨(_, _), rfl, next _ _ rfl ?_, dec⟩)
      clear next dec hw hw2
      generalize l.getD i.toNat (C.zero 58) = c at *
      cases c
      dsimp only at *
      simp only [decide_eq_true_eq, decide_eq_false_iff_not] at *
      try rw [wr_i64 (by omega) (by omega)] at *
      split <;> omega
  · refine ⟨[], trivial, to_int hK ?_⟩
    have h4 : ¬ i < l.length := of_decide_eq_false h4
    have : i = l.length := by omega
    subst this
    rw [List.drop_eq_nil_of_le (by omega)] at he
    exact he.symm
end Ev
