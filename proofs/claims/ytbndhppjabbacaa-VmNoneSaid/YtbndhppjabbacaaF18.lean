/- Lemmas for the theorem: a part of the walk. -/
import Derived.Test.YtbndhppjabbacaaF17
namespace Ev
open Go Go.Proofs
set_option maxRecDepth 100000
def s77 : Spec Sg := p1 C 112 fun (a : SumR) K => K (.agg (enc112 (negS a))) []
theorem f77_ok : FnOk Try.prog C 77 s77 := fn_ok mixed good goodM (gam [(68, s68)]) (gam_cons f68_ok gam_nil) Try.func77 (body_some (by kernel_rfl)) (by kernel_rfl) (by kernel_rfl) s77 fun args H K h => by
  obtain ⟨rfl, a, rfl, hK⟩ := of_p1 h
  clear h
  show abody C (gam [(68, s68)]) Try.f77 (bodyOf Try.f77) [.agg (enc112 a)] [] K
  revert a
  intro (a : SumR) hK
  have i0 : (0 : Int) ≤ 0 ∧ (0 : Int) < 3 := by decide
  have i1' : (0 : Int) ≤ 1 ∧ (1 : Int) < 3 := by decide
  have i2' : (0 : Int) ≤ 2 ∧ (2 : Int) < 3 := by decide
  refine And.intro i0 ?_
  refine And.intro i1' ?_
  refine And.intro i2' ?_
  refine And.intro trivial ?_
  refine And.intro ⟨⟨by simp, trivial⟩, trivial⟩ ?_
  refine And.intro rfl ?_
  refine And.intro rfl ?_
  refine And.intro ⟨Nat.le_of_ble_eq_true rfl, negS_two a⟩ ?_
  exact ⟨[], trivial, hK⟩
def s66 : Spec Sg := p2 C 3 3 fun (x y : Int) K => K (.agg (enc112 (prodS x y))) []
theorem to_sum {K : AV Sg → AH Sg → Prop} {a b : SumR} {H : AH Sg} (hK : K (.agg (enc112 a)) H) (h : a = b) : K (.agg (enc112 b)) H := h ▸ hK
theorem f66_ok : FnOk Try.prog C 66 s66 := fn_ok mixed good goodM (gam [(75, s75), (76, s76), (77, s77)]) (gam_cons f75_ok (gam_cons f76_ok (gam_cons f77_ok gam_nil))) Try.func66 (body_some (by kernel_rfl)) (by kernel_rfl) (by kernel_rfl) s66 fun args H K h => by
  obtain ⟨rfl, x, y, rfl, hK⟩ := of_p2 h
  clear h
  show abody C (gam [(75, s75), (76, s76), (77, s77)]) Try.f66 (bodyOf Try.f66) [.int .i64 x, .int .i64 y] [] K
  revert x y
  intro (x : Int) (y : Int) hK
  refine And.intro ⟨trivial, trivial⟩ ?_
  refine And.intro rfl ?_
  refine And.intro rfl ?_
  refine And.intro ⟨trivial, trivial⟩ ?_
  refine And.intro rfl ?_
  refine And.intro rfl ?_
  refine And.intro ⟨trivial, trivial, trivial⟩ ?_
  refine And.intro rfl ?_
  refine And.intro ⟨rfl, rfl⟩ ?_
  refine br_split (fun h => ?_) (fun h => ?_)
  · have h := not_true h
    refine And.intro ⟨trivial, trivial⟩ ?_
    refine And.intro rfl ?_
    refine And.intro rfl ?_
    exact ⟨[], trivial, to_sum hK (if_pos h)⟩
  · have h := not_false' h
    exact ⟨[], trivial, to_sum hK (if_neg (by rw [h]; decide))⟩
def ord69 : Nat → List (Nat × List Nat)
  | 1 => [(0, []), (1, []), (2, [0]), (3, []), (4, []), (5, []), (6, [])]
  | _ => []
def s69 : Spec Sg := p2 C 112 112 fun (a b : SumR) K => SumOk a ∧ K (.bool (lessS a b)) []
theorem f69_ok : FnOk Try.prog C 69 s69 := fn_okO mixed good goodM (gam [(68, s68), (77, s77), (80, s80)]) (gam_cons f68_ok (gam_cons f77_ok (gam_cons f80_ok gam_nil))) Try.func69 (body_some (by kernel_rfl)) (by kernel_rfl) ord69 (by kernel_rfl) s69 fun args H K h => by
  obtain ⟨rfl, a, b, rfl, ha, hK⟩ := of_p2 h
  clear h
  show abodyO C (gam [(68, s68), (77, s77), (80, s80)]) ord69 Try.f69 (bodyOf Try.f69) [.agg (enc112 a), .agg (enc112 b)] [] K
  revert a b
  intro (a : SumR) (b : SumR) ha hK
  have two : ∀ s, s ∈ [a, negS b] → SumOk s := by
    intro s hs
    simp only [List.mem_cons, List.not_mem_nil, or_false] at hs
    rcases hs with hs | hs
    · subst hs; exact ha
    · subst hs; exact negS_ok b
  refine And.intro ⟨trivial, trivial⟩ ?_
  refine And.intro rfl ?_
  refine And.intro rfl ?_
  refine And.intro rfl ?_
  refine And.intro trivial ?_
  refine And.intro ⟨⟨by simp, trivial⟩, trivial⟩ ?_
  refine And.intro rfl ?_
  refine And.intro rfl ?_
  refine And.intro ⟨Nat.le_of_ble_eq_true rfl, two⟩ ?_
  refine And.intro ⟨trivial, trivial⟩ ?_
  refine And.intro rfl ?_
  refine And.intro rfl ?_
  refine fun b hb => ?_
  exact ⟨[], trivial, to_bool hK hb⟩
def s78 : Spec Sg := p2 C 26 9 fun (l : List ByteArray) (s : ByteArray) K => l.length ≤ 1000000000000 ∧ K (.int .i64 (idxF s l 0)) []
theorem f78_ok : FnOk Try.prog C 78 s78 := fn_ok mixed good goodM (gam []) gam_nil Try.func78 (body_some (by kernel_rfl)) (by kernel_rfl) (by kernel_rfl) s78 fun args H K h => by
  obtain ⟨rfl, l, s, rfl, hl, hK⟩ := of_p2 h
  clear h
  show abody C (gam []) Try.f78 (bodyOf Try.f78) [.imm 9 l, .str s] [] K
  revert l s
  intro (l : List ByteArray) (s : ByteArray) hl hK
  refine ⟨[0, 1, 6, 7, 8], [], Int, fun i => (frameOf [(0, .imm 9 l), (1, .str s), (6, .imm 9 l), (7, .int .i64 l.length), (8, .int .i64 i)], []), fun i => 0 ≤ i ∧ i ≤ l.length ∧ idxF s (l.drop i.toNat) i = idxF s l 0, fun i => l.length - i.toNat,
    ⟨trivial, 0, rfl, by simp, by simp, rfl⟩, ?_⟩
  rintro i ⟨i1, i2, he⟩
  refine br_split (fun h4 => ?_) (fun h4 => ?_)
  · have h4 : i < l.length := of_decide_eq_true h4
    have hget := drop_get l i.toNat (C.zero 9) (by omega)
    have hw : wr .i64 (i + 1) = i + 1 := wr_i64 (by omega) (by omega)
    have hw2 : (i + 1).toNat = i.toNat + 1 := by omega
    rw [hget] at he
    have he : (if l.getD i.toNat (C.zero 9) = s then i else idxF s (l.drop (i.toNat + 1)) (i + 1)) = idxF s l 0 := he
    refine And.intro ⟨i1, h4⟩ ?_
    refine br_split (fun h5 => ?_) (fun h5 => ?_)
    · have h5 : (s.toList == (l.getD i.toNat (C.zero 9)).toList) = true := h5
      rw [if_pos (str_eq.1 h5).symm] at he
      exact ⟨[], trivial, to_int hK he.symm⟩
    · have h5 : (s.toList == (l.getD i.toNat (C.zero 9)).toList) = false := h5
      rw [if_neg (fun hc => by rw [str_eq.2 hc.symm] at h5; cases h5)] at he
      refine And.intro trivial ⟨_, rfl, ⟨?_, ?_, ?_⟩, ?_⟩
      · rw [hw]; omega
      · rw [hw]; omega
      · rw [hw, hw2]; exact he
      · dsimp only; rw [hw]; omega
  · have h4 : ¬ i < l.length := of_decide_eq_false h4
    rw [List.drop_eq_nil_of_le (by omega)] at he
    exact ⟨[], trivial, to_int hK he.symm⟩
def s67 : Spec Sg := p3 C 26 38 9 fun (l : List ByteArray) (row : List Int) (s : ByteArray) K => l.length ≤ 1000000000000 ∧ K (.int .i64 (valueF l row s)) []
theorem f67_ok : FnOk Try.prog C 67 s67 := fn_ok mixed good goodM (gam [(78, s78)]) (gam_cons f78_ok gam_nil) Try.func67 (body_some (by kernel_rfl)) (by kernel_rfl) (by kernel_rfl) s67 fun args H K h => by
  obtain ⟨rfl, l, row, s, rfl, hl, hK⟩ := of_p3 h
  clear h
  show abody C (gam [(78, s78)]) Try.f67 (bodyOf Try.f67) [.imm 9 l, .imm 3 row, .str s] [] K
  revert l row s
  intro (l : List ByteArray) (row : List Int) (s : ByteArray) hl hK
  refine And.intro ⟨trivial, trivial, trivial⟩ ?_
  refine And.intro rfl ?_
  refine And.intro ⟨rfl, rfl⟩ ?_
  refine And.intro hl ?_
  refine br_split (fun h => ?_) (fun h => ?_)
  · have h := of_decide_eq_true h
    exact ⟨[], trivial, to_int hK (if_pos (.inl h))⟩
  have h := of_decide_eq_false h
  refine br_split (fun h' => ?_) (fun h' => ?_)
  · have h' := of_decide_eq_true h'
    exact ⟨[], trivial, to_int hK (if_pos (.inr h'))⟩
  have h' := of_decide_eq_false h'
  refine And.intro ⟨Int.not_lt.1 h, Int.not_le.1 h'⟩ ?_
  exact ⟨[], trivial, to_int hK (if_neg (fun hc => hc.elim h h'))⟩
end Ev
