/- Lemmas for the theorem: a part of the walk. -/
import Derived.Test.YtbndhppjabbacaaF2
namespace Ev
open Go Go.Proofs
set_option maxRecDepth 100000
def s22 : Spec Sg := p1 C 9 fun (s : ByteArray) K => K (.bool (isName s)) []
theorem f22_ok : FnOk Try.prog C 22 s22 := fn_ok mixed good goodM (gam [(33, s33), (34, s34)]) (gam_cons f33_ok (gam_cons f34_ok gam_nil)) Try.func22 (body_some (by kernel_rfl)) (by kernel_rfl) (by kernel_rfl) s22 fun args H K h => by
  obtain ⟨rfl, s, rfl, hK⟩ := of_p1 h
  clear h
  show abody C (gam [(33, s33), (34, s34)]) Try.f22 (bodyOf Try.f22) [.str s] [] K
  revert s
  intro (s : ByteArray) hK
  have hlen := size_list s
  refine br_split (fun h1 => ?_) (fun h1 => ?_)
  · refine ⟨[], trivial, to_bool hK ?_⟩
    simp at h1
    have : ¬ (1 ≤ s.size ∧ s.size ≤ 24) := by omega
    simp [isName, this]
  refine br_split (fun h2 => ?_) (fun h2 => ?_)
  · refine ⟨[], trivial, to_bool hK ?_⟩
    simp at h2
    have : ¬ (1 ≤ s.size ∧ s.size ≤ 24) := by omega
    simp [isName, this]
  have hs1 : 1 ≤ s.size := by simp at h1; omega
  have hs2 : s.size ≤ 24 := by simp at h2; omega
  refine And.intro (by simp; omega) ?_
  refine And.intro ⟨trivial, trivial⟩ ?_
  refine And.intro rfl ?_
  refine And.intro rfl ?_
  refine br_split (fun h3 => ?_) (fun h3 => ?_)
  · refine ⟨[], trivial, to_bool hK ?_⟩
    have h3 : (!letter (byteAt s 0)) = true := h3
    have h3 : letter (byteAt s 0) = false := by revert h3; cases letter (byteAt s 0) <;> simp
    simp [isName, h3]
  have h3 : (!letter (byteAt s 0)) = false := h3
  have h3 : letter (byteAt s 0) = true := by revert h3; cases letter (byteAt s 0) <;> simp
  refine ⟨[0, 3], [], Int, fun i => (frameOf [(0, .str s), (3, .int .i64 i)], []), fun i => 1 ≤ i ∧ i ≤ s.size ∧ (s.data.toList.drop i.toNat).all nameCh = (s.data.toList.drop 1).all nameCh, fun i => s.size - i.toNat, ⟨trivial, 1, rfl, by omega, by omega, rfl⟩, ?_⟩
  rintro i ⟨i1, i2, he⟩
  dsimp only
  refine br_split (fun h4 => ?_) (fun h4 => ?_)
  · have h4 : i < s.size := by simpa using h4
    have hget := drop_get s.data.toList i.toNat 0 (by omega)
    have ob : (0 : Int) ≤ i ∧ i < (s.size : Int) := ⟨by omega, h4⟩
    have hn : (s.data.toList.drop i.toNat).all nameCh = (nameCh (s.data.toList.getD i.toNat 0) && (s.data.toList.drop (i.toNat + 1)).all nameCh) := by rw [hget]; rfl
    have hw : wr .i64 (i + 1) = i + 1 := wr_i64 (by omega) (by omega)
    have hw2 : (i + 1).toNat = i.toNat + 1 := by omega
    have next : nameCh (s.data.toList.getD i.toNat 0) = true → 1 ≤ wr .i64 (i + 1) ∧ wr .i64 (i + 1) ≤ s.size ∧ (s.data.toList.drop (wr .i64 (i + 1)).toNat).all nameCh = (s.data.toList.drop 1).all nameCh := by
      intro hc
      rw [hw, hw2, ← he, hn, hc]
      exact ⟨by omega, by omega, rfl⟩
    have dec : s.size - (wr .i64 (i + 1)).toNat < s.size - i.toNat := by rw [hw]; omega
    have stop : nameCh (s.data.toList.getD i.toNat 0) = false → isName s = false := by
      intro hc
      rw [hn, hc] at he
      simp only [isName, ← he]; simp
    clear hn he hget
    repeat' (first | refine br_true ?_ | refine br_false ?_ | refine br_split (fun h => ?_) (fun h => ?_) | refine And.intro ?_ ?_)
    all_goals first | exact trivial | exact ob | rfl | skip
    all_goals first | omega | (refine ⟨[], trivial, to_bool hK (stop ?_)⟩; simp_all [nameCh]; done) | (refine ⟨_, rfl, next ?_, dec⟩; simp_all [nameCh]; done)
  · refine ⟨[], trivial, to_bool hK ?_⟩
    have : i = s.size := by simp at h4; omega
    subst this
    rw [List.drop_eq_nil_of_le (by omega)] at he
    simp only [isName, h3, ← he]; simp; omega
end Ev
