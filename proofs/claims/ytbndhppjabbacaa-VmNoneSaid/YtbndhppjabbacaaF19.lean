/- Lemmas for the theorem: a part of the walk. -/
import Derived.Test.YtbndhppjabbacaaF18
import Derived.Test.YtbndhppjabbacaaPu4
namespace Ev
open Go Go.Proofs
set_option maxRecDepth 100000
def ord54 : Nat → List (Nat × List Nat)
  | 5 => [(0, []), (1, []), (2, []), (3, []), (4, []), (5, []), (6, []), (7, [2]), (8, []), (9, []), (10, []), (11, [])]
  | 8 => [(1, []), (0, [1]), (2, []), (3, []), (4, []), (5, [4]), (6, []), (7, [])]
  | 10 => [(0, []), (1, []), (3, []), (2, [3]), (4, []), (5, []), (6, []), (7, [])]
  | _ => []
def s54 : Spec Sg := p3 C 71 26 38 fun (nd : NodeR) (names : List ByteArray) (row : List Int) K => (nd.Terms.length ≤ 1000000 ∧ names.length ≤ 1000000000000) ∧ K (.tup [.bool (atomS nd names row).1, .bool (atomS nd names row).2]) []
def G54 : FuncId → Spec Sg := gam [(66, s66), (67, s67), (68, s68), (69, s69)]
theorem G54_ok : ∀ f, FnOk Try.prog C f (G54 f) := gam_cons f66_ok (gam_cons f67_ok (gam_cons f68_ok (gam_cons f69_ok gam_nil)))
theorem to_bb {K : AV Sg → AH Sg → Prop} {x y : Bool × Bool} {H : AH Sg} (hK : K (.tup [.bool x.1, .bool x.2]) H) (h : x = y) : K (.tup [.bool y.1, .bool y.2]) H := h ▸ hK
set_option maxHeartbeats 1000000 in
theorem f54_ok : FnOk Try.prog C 54 s54 := fn_okO mixed good goodM G54 G54_ok Try.func54 (body_some (by kernel_rfl)) (by kernel_rfl) ord54 (by kernel_rfl) s54 fun args H K h => by
  obtain ⟨rfl, nd, names, row, rfl, ⟨hT, hN⟩, hK⟩ := of_p3 h
  clear h
  show abodyO C G54 ord54 Try.f54 (bodyOf Try.f54) [.agg (enc71 nd), .imm 9 names, .imm 3 row] [] K
  revert nd names row
  intro (nd : NodeR) (names : List ByteArray) (row : List Int) hK hT hN
  refine ⟨[1, 2, 3, 8, 13, 14, 15], [.slot 8 112], List SumR × Nat × Int, fun (ss, n, i) => (frameOf [(1, .imm 9 names), (2, .imm 3 row), (3, .ptr 0 0 0), (8, .slc 1 0 n false), (13, .imm 73 nd.Terms), (14, .int .i64 nd.Terms.length), (15, .int .i64 i)],
      [.cells (enc71 nd), .lst 112 ss]),
    fun x => 0 ≤ x.2.2 ∧ x.2.2 ≤ nd.Terms.length ∧ x.1 = termsS names row (nd.Terms.take x.2.2.toNat) ∧ x.2.1 = x.1.length, fun x => nd.Terms.length - x.2.2.toNat, ⟨⟨trivial, trivial⟩, ([], 0, 0), rfl, by simp, by simp, rfl, rfl⟩, ?_⟩
  rintro ⟨ss, n, i⟩ ⟨i1, i2, hss, hn⟩
  dsimp only at i1 i2 hss hn ⊢
  subst hn
  have e : (ss.drop 0).take ss.length = ss := by simp
  refine br_split (fun h4 => ?_) (fun h4 => ?_)
  · have h4 : i < nd.Terms.length := of_decide_eq_true h4
    have hw : wr .i64 (i + 1) = i + 1 := wr_i64 (by omega) (by omega)
    have hw2 : (i + 1).toNat = i.toNat + 1 := by omega
    have hlen : ss.length = i.toNat := by rw [hss]; simp [termsS]; omega
    refine And.intro ⟨i1, h4⟩ ?_
    refine And.intro ⟨trivial, trivial, trivial, trivial⟩ ?_
    refine And.intro rfl ?_
    refine And.intro ⟨rfl, rfl, rfl⟩ ?_
    refine And.intro hN ?_
    refine And.intro rfl ?_
    refine And.intro ⟨trivial, trivial, trivial⟩ ?_
    refine And.intro rfl ?_
    refine And.intro ⟨rfl, rfl⟩ ?_
    refine And.intro trivial ?_
    have ob : 0 + 1 ≤ [prodS (nd.Terms.getD i.toNat (C.zero 73)).Times (valueF names row (nd.Terms.getD i.toNat (C.zero 73)).Name)].length ∧ 0 + ss.length ≤ ss.length ∧ (ss.length + 1) * 24 ≤ maxBytes ∧ ss.length + 1 ≤ maxInt := by
      refine ⟨by simp, by omega, ?_, ?_⟩
      · unfold maxBytes; omega
      · unfold maxInt; omega
    refine And.intro ob ?_
    have nx : ∀ X : SumR, X = prodS (nd.Terms.getD i.toNat (C.zero 73)).Times (valueF names row (nd.Terms.getD i.toNat (C.zero 73)).Name) →
        (0 ≤ wr .i64 (i + 1) ∧ wr .i64 (i + 1) ≤ nd.Terms.length ∧ (ss.drop 0).take ss.length ++ ([X].drop 0).take 1 = termsS names row (nd.Terms.take (wr .i64 (i + 1)).toNat) ∧
          ss.length + (([X].drop 0).take 1).length = ((ss.drop 0).take ss.length ++ ([X].drop 0).take 1).length) ∧ nd.Terms.length - (wr .i64 (i + 1)).toNat < nd.Terms.length - i.toNat := by
      intro X hX
      rw [hw, hw2, e]
      refine ⟨⟨by omega, by omega, ?_, by simp⟩, by omega⟩
      have hget := take_get nd.Terms i.toNat (C.zero 73) (by omega)
      rw [hget, hss, hX]
      simp [termsS]
    exact And.intro ⟨trivial, trivial⟩ ⟨(_, _, _), rfl, (nx _ rfl).1, (nx _ rfl).2⟩
  have h4 : ¬ i < nd.Terms.length := of_decide_eq_false h4
  have hss : ss = termsS names row nd.Terms := by rw [hss, List.take_of_length_le (by omega)]
  have hlen : ss.length = nd.Terms.length := by rw [hss]; simp [termsS]
  have hok : ∀ s, s ∈ (ss.drop 0).take ss.length → SumOk s := by rw [e, hss]; exact termsS_ok _ _ _
  have hS : sumL ((ss.drop 0).take ss.length) = atomSum nd names row := by rw [e, hss]; rfl
  have okS : SumOk (sumL ((ss.drop 0).take ss.length)) := sumL_ok hok
  have hle : ((ss.drop 0).take ss.length).length ≤ 1000000 := by rw [e]; omega
  refine And.intro ⟨⟨(by omega : 0 + ss.length ≤ ss.length), trivial⟩, trivial⟩ ?_
  refine And.intro rfl ?_
  refine And.intro rfl ?_
  refine And.intro ⟨hle, hok⟩ ?_
  generalize sumL ((ss.drop 0).take ss.length) = S at hS okS
  refine And.intro ⟨trivial, trivial, trivial⟩ ?_
  refine And.intro rfl ?_
  refine And.intro ⟨rfl, rfl⟩ ?_
  refine And.intro rfl ?_
  refine And.intro ⟨trivial, trivial, trivial⟩ ?_
  refine And.intro rfl ?_
  refine And.intro ⟨rfl, rfl⟩ ?_
  refine And.intro (prodS_ok 9223372036854775807 4294967296) ?_
  refine fun b1 hb1 => ?_
  have hb1 : lessS (prodS 9223372036854775807 4294967296) S = b1 := hb1
  rw [hS] at hb1
  cases b1
  · repeat' refine br_false ?_
    refine And.intro ⟨trivial, trivial, trivial⟩ ?_
    refine And.intro rfl ?_
    refine And.intro ⟨rfl, rfl⟩ ?_
    repeat' refine br_false ?_
    refine And.intro rfl ?_
    repeat' refine br_false ?_
    refine And.intro ⟨trivial, trivial, trivial⟩ ?_
    refine And.intro rfl ?_
    refine And.intro ⟨rfl, rfl⟩ ?_
    refine And.intro okS ?_
    refine fun b2 hb2 => ?_
    have hb2 : lessS S (prodS (-9223372036854775808) 4294967296) = b2 := hb2
    rw [hS] at hb2
    cases b2
    · repeat' refine br_false ?_
      refine And.intro ⟨trivial, trivial, trivial⟩ ?_
      refine And.intro rfl ?_
      refine And.intro ⟨rfl, rfl⟩ ?_
      refine And.intro rfl ?_
      refine And.intro ⟨trivial, trivial, trivial⟩ ?_
      refine And.intro rfl ?_
      refine And.intro ⟨rfl, rfl⟩ ?_
      refine And.intro (prodS_ok nd.Num 4294967296) ?_
      refine fun b3 hb3 => ?_
      have hb3 : lessS (prodS nd.Num 4294967296) S = b3 := hb3
      rw [hS] at hb3
      refine ⟨[], trivial, to_bb hK (y := (!b3, false)) ?_⟩
      unfold atomS
      rw [hb1, hb2, hb3]; rfl
    · repeat' (first | refine br_true ?_ | refine br_false ?_)
      refine ⟨[], trivial, to_bb hK (y := (false, true)) ?_⟩
      unfold atomS
      rw [hb2, if_pos (.inr rfl)]
  · repeat' (first | refine br_true ?_ | refine br_false ?_)
    refine ⟨[], trivial, to_bb hK (y := (false, true)) ?_⟩
    unfold atomS
    rw [hb1, if_pos (.inl rfl)]
end Ev
