/- Lemmas for the theorem: a part of the walk. -/
import Derived.Test.YtbndhppjabbacaaF7
import Derived.Laws.Strings
namespace Ev
open Go Go.Proofs
set_option maxRecDepth 100000
/-- image.in -/
def within (n a b : Int) : Bool := decide (a ≤ n ∧ n ≤ b)
def s35 : Spec Sg := p3 C 3 3 3 fun (n a b : Int) K => K (.bool (within n a b)) []
theorem f35_ok : FnOk Try.prog C 35 s35 := fn_ok mixed good goodM (gam []) gam_nil Try.func35 (body_some (by kernel_rfl)) (by kernel_rfl) (by kernel_rfl) s35 fun args H K h => by
  obtain ⟨rfl, n, a, b, rfl, hK⟩ := of_p3 h
  clear h
  show abody C (gam []) Try.f35 (bodyOf Try.f35) [.int .i64 n, .int .i64 a, .int .i64 b] [] K
  revert n a b
  intro (n : Int) (a : Int) (b : Int) hK
  repeat' (first | refine br_true ?_ | refine br_false ?_ | refine br_split (fun h => ?_) (fun h => ?_))
  all_goals
    refine ⟨[], trivial, to_bool hK ?_⟩
    rw [Bool.eq_iff_iff]
    simp [within] at *
    try omega
def s70 : Spec Sg := p1 C 5 fun (n : Int) K => K (.bool (letter n)) []
theorem f70_ok : FnOk Try.prog C 70 s70 := fn_ok mixed good goodM (gam []) gam_nil Try.func70 (body_some (by kernel_rfl)) (by kernel_rfl) (by kernel_rfl) s70 fun args H K h => by
  obtain ⟨rfl, n, rfl, hK⟩ := of_p1 h
  show abody C (gam []) Try.f70 (bodyOf Try.f70) [.int .u8 n] [] K
  repeat' (first | refine br_true ?_ | refine br_false ?_ | refine br_split (fun h => ?_) (fun h => ?_))
  all_goals
    refine ⟨[], trivial, ?_⟩
    refine to_bool hK ?_
    rw [Bool.eq_iff_iff]
    simp [letter] at *
    try omega
def s73 : Spec Sg := p1 C 5 fun (n : Int) K => K (.bool (digit n)) []
theorem f73_ok : FnOk Try.prog C 73 s73 := fn_ok mixed good goodM (gam []) gam_nil Try.func73 (body_some (by kernel_rfl)) (by kernel_rfl) (by kernel_rfl) s73 fun args H K h => by
  obtain ⟨rfl, n, rfl, hK⟩ := of_p1 h
  show abody C (gam []) Try.f73 (bodyOf Try.f73) [.int .u8 n] [] K
  repeat' (first | refine br_true ?_ | refine br_false ?_ | refine br_split (fun h => ?_) (fun h => ?_))
  all_goals
    refine ⟨[], trivial, ?_⟩
    refine to_bool hK ?_
    rw [Bool.eq_iff_iff]
    simp [digit] at *
    try omega
def nameChI (n : Int) : Bool := letter n || digit n || n == 95
def s72 : Spec Sg := p1 C 5 fun (n : Int) K => K (.bool (nameChI n)) []
theorem f72_ok : FnOk Try.prog C 72 s72 := fn_ok mixed good goodM (gam [(70, s70), (73, s73)]) (gam_cons f70_ok (gam_cons f73_ok gam_nil)) Try.func72 (body_some (by kernel_rfl)) (by kernel_rfl) (by kernel_rfl) s72 fun args H K h => by
  obtain ⟨rfl, n, rfl, hK⟩ := of_p1 h
  clear h
  show abody C (gam [(70, s70), (73, s73)]) Try.f72 (bodyOf Try.f72) [.int .u8 n] [] K
  revert n
  intro (n : Int) hK
  refine And.intro ⟨trivial, trivial⟩ ?_
  refine And.intro rfl ?_
  refine And.intro rfl ?_
  refine br_split (fun h1 => ?_) (fun h1 => ?_)
  · have h1 : letter n = true := h1
    exact ⟨[], trivial, to_bool hK (by unfold nameChI; rw [h1]; rfl)⟩
  have h1 : letter n = false := h1
  refine And.intro ⟨trivial, trivial⟩ ?_
  refine And.intro rfl ?_
  refine And.intro rfl ?_
  refine br_split (fun h2 => ?_) (fun h2 => ?_)
  · have h2 : digit n = true := h2
    exact ⟨[], trivial, to_bool hK (by unfold nameChI; rw [h1, h2]; rfl)⟩
  have h2 : digit n = false := h2
  exact ⟨[], trivial, to_bool hK (by unfold nameChI; rw [h1, h2]; rfl)⟩
/-- lex.long of name bytes -/
def longF : List UInt8 → Nat
  | [] => 0
  | b :: r => if nameCh b = true then longF r + 1 else 0
theorem longF_le : ∀ l, longF l ≤ l.length
  | [] => Nat.le_refl _
  | b :: r => by unfold longF; have := longF_le r; split <;> simp <;> omega
theorem longF_all : ∀ l, longF l = l.length ↔ l.all nameCh = true
  | [] => by simp [longF]
  | b :: r => by
    unfold longF
    have := longF_all r
    have h2 := longF_le r
    split
    · rename_i hb; rw [List.all_cons, hb, Bool.true_and, ← this]; simp
    · rename_i hb; simp [hb]
def s71 : Spec Sg := fun args H K => H = [] ∧ ∃ s : ByteArray, args = [.str s, .fn 72 []] ∧ s.size ≤ 1000000000000 ∧ K (.int .i64 (longF s.data.toList)) []
theorem f71_ok : FnOk Try.prog C 71 s71 := fn_ok mixed good goodM (gam [(72, s72)]) (gam_cons f72_ok gam_nil) Try.func71 (body_some (by kernel_rfl)) (by kernel_rfl) (by kernel_rfl) s71 fun args H K h => by
  obtain ⟨rfl, s, rfl, hs, hK⟩ := h
  show abody C (gam [(72, s72)]) Try.f71 (bodyOf Try.f71) [.str s, .fn 72 []] [] K
  have hlen := size_list s
  refine ⟨[0, 1, 5], [], Int, fun i => (frameOf [(0, .str s), (1, .fn 72 []), (5, .int .i64 i)], []), fun i => 0 ≤ i ∧ i ≤ s.size ∧ i + longF (s.data.toList.drop i.toNat) = longF s.data.toList, fun i => s.size - i.toNat, ⟨trivial, 0, rfl, by simp, by simp, by simp⟩, ?_⟩
  rintro i ⟨i1, i2, he⟩
  refine br_split (fun h4 => ?_) (fun h4 => ?_)
  · have h4 : i < s.size := of_decide_eq_true h4
    have hget := drop_get s.data.toList i.toNat 0 (by omega)
    have hw : wr .i64 (i + 1) = i + 1 := wr_i64 (by omega) (by omega)
    have hw2 : (i + 1).toNat = i.toNat + 1 := by omega
    rw [hget] at he
    have he : i + (if nameCh (s.data.toList.getD i.toNat 0) = true then longF (s.data.toList.drop (i.toNat + 1)) + 1 else 0 : Nat) = longF s.data.toList := he
    refine And.intro ⟨i1, h4⟩ ?_
    refine And.intro ⟨trivial, trivial⟩ ?_
    refine And.intro rfl ?_
    refine And.intro rfl ?_
    refine br_split (fun h5 => ?_) (fun h5 => ?_)
    · have h5 : nameCh (s.data.toList.getD i.toNat 0) = true := h5
      rw [if_pos h5] at he
      refine And.intro trivial ⟨_, rfl, ⟨?_, ?_, ?_⟩, ?_⟩
      · rw [hw]; omega
      · rw [hw]; omega
      · rw [hw, hw2]; omega
      · dsimp only; rw [hw]; omega
    · have h5 : nameCh (s.data.toList.getD i.toNat 0) = false := h5
      rw [if_neg (by rw [h5]; decide)] at he
      exact ⟨[], trivial, to_int hK (by omega)⟩
  · have h4 : ¬ i < s.size := of_decide_eq_false h4
    rw [List.drop_eq_nil_of_le (by omega)] at he
    have he : i + (0 : Nat) = longF s.data.toList := he
    exact ⟨[], trivial, to_int hK (by omega)⟩
/-- lex.name -/
def nameLen (s : ByteArray) : Int := if s.size = 0 ∨ letter (byteAt s 0) = false then 0 else longF s.data.toList
def s58 : Spec Sg := p1 C 9 fun (s : ByteArray) K => s.size ≤ 1000000000000 ∧ K (.int .i64 (nameLen s)) []
theorem str_eq {s t : ByteArray} : (s.toList == t.toList) = true ↔ s = t := by
  rw [beq_iff_eq, ByteArray.toList_eq, ByteArray.toList_eq]
  constructor
  · intro h; cases s; cases t; congr 1; exact Array.toList_inj.1 h
  · intro h; rw [h]
theorem size_zero {s : ByteArray} : s.size = 0 ↔ s = ⟨#[]⟩ := by
  constructor
  · intro h
    cases s; rename_i d
    have : d.size = 0 := h
    congr 1
    exact Array.eq_empty_of_size_eq_zero this
  · intro h; rw [h]; rfl
theorem empty_size {s : ByteArray} (h : (s.toList == (⟨#[]⟩ : ByteArray).toList) = false) : s.size ≠ 0 := by
  intro hc
  rw [str_eq.2 (size_zero.1 hc)] at h; cases h
theorem empty_size' {s : ByteArray} (h : (s.toList == (⟨#[]⟩ : ByteArray).toList) = true) : s.size = 0 := size_zero.2 (str_eq.1 h)
theorem f58_ok : FnOk Try.prog C 58 s58 := fn_ok mixed good goodM (gam [(70, s70), (71, s71)]) (gam_cons f70_ok (gam_cons f71_ok gam_nil)) Try.func58 (body_some (by kernel_rfl)) (by kernel_rfl) (by kernel_rfl) s58 fun args H K h => by
  obtain ⟨rfl, s, rfl, hs, hK⟩ := of_p1 h
  clear h
  show abody C (gam [(70, s70), (71, s71)]) Try.f58 (bodyOf Try.f58) [.str s] [] K
  revert s
  intro (s : ByteArray) hs hK
  refine br_split (fun h1 => ?_) (fun h1 => ?_)
  · have h1 := empty_size' h1
    exact ⟨[], trivial, to_int hK (by unfold nameLen; rw [if_pos (.inl h1)])⟩
  have h1 := empty_size h1
  refine And.intro ⟨by omega, by omega⟩ ?_
  refine And.intro ⟨trivial, trivial⟩ ?_
  refine And.intro rfl ?_
  refine And.intro rfl ?_
  refine br_split (fun h2 => ?_) (fun h2 => ?_)
  · have h2 : (!letter (byteAt s 0)) = true := h2
    exact ⟨[], trivial, to_int hK (by unfold nameLen; rw [if_pos (.inr (not_true h2))])⟩
  have h2 : (!letter (byteAt s 0)) = false := h2
  have h2 := not_false' h2
  refine And.intro ⟨trivial, trivial⟩ ?_
  refine ⟨rfl, s, rfl, hs, ?_⟩
  exact ⟨[], trivial, to_int hK (by unfold nameLen; rw [if_neg (by rw [h2]; simp only [Bool.true_eq_false, or_false]; exact h1)])⟩
def s38 : Spec Sg := p1 C 9 fun (s : ByteArray) K => K (.bool (isName s)) []
theorem nameLen_is {s : ByteArray} (h : s.size ≠ 0) (h' : s.size ≤ 24) : (nameLen s == (s.size : Int)) = isName s := by
  have hl := size_list s
  have hn : ∃ b r, s.data.toList = b :: r := by
    cases hd : s.data.toList with
    | nil => rw [hd] at hl; simp at hl; omega
    | cons b r => exact ⟨b, r, rfl⟩
  obtain ⟨b, r, hbr⟩ := hn
  have hb : byteAt s 0 = (b.toNat : Int) := by unfold byteAt; rw [hbr]; rfl
  unfold nameLen isName
  rw [decide_eq_true ⟨by omega, h'⟩, Bool.true_and, hb, hbr]
  by_cases hc : letter (b.toNat : Int) = true
  · rw [if_neg (by rw [hc]; simp only [Bool.true_eq_false, or_false]; exact h), hc, Bool.true_and]
    have hch : nameCh b = true := by unfold nameCh; rw [hc]; rfl
    rw [Bool.eq_iff_iff, ← longF_all]
    rw [hbr] at hl
    simp only [List.length_cons] at hl
    have : longF (b :: r) = longF r + 1 := by rw [longF, if_pos hch]
    rw [this]
    have hle := longF_le r
    simp only [beq_iff_eq, List.drop_succ_cons, List.drop_zero]
    omega
  · have hc : letter (b.toNat : Int) = false := by simpa using hc
    rw [if_pos (.inr hc), hc, Bool.false_and]
    simp only [beq_eq_false_iff_ne, ne_eq]; omega
theorem f38_ok : FnOk Try.prog C 38 s38 := fn_ok mixed good goodM (gam [(58, s58)]) (gam_cons f58_ok gam_nil) Try.func38 (body_some (by kernel_rfl)) (by kernel_rfl) (by kernel_rfl) s38 fun args H K h => by
  obtain ⟨rfl, s, rfl, hK⟩ := of_p1 h
  clear h
  show abody C (gam [(58, s58)]) Try.f38 (bodyOf Try.f38) [.str s] [] K
  revert s
  intro (s : ByteArray) hK
  refine br_split (fun h1 => ?_) (fun h1 => ?_)
  · have h1 : s.size ≠ 0 := empty_size (not_true h1)
    refine br_split (fun h2 => ?_) (fun h2 => ?_)
    · have h2 : (s.size : Int) ≤ 24 := of_decide_eq_true h2
      refine And.intro ⟨trivial, trivial⟩ ?_
      refine And.intro rfl ?_
      refine And.intro rfl ?_
      refine And.intro (by omega : s.size ≤ 1000000000000) ?_
      exact ⟨[], trivial, to_bool hK (nameLen_is h1 (by omega)).symm⟩
    · have h2 : ¬ (s.size : Int) ≤ 24 := of_decide_eq_false h2
      exact ⟨[], trivial, to_bool hK (by unfold isName; rw [decide_eq_false (by omega)]; rfl)⟩
  · have h1 : s.size = 0 := empty_size' (not_false' h1)
    exact ⟨[], trivial, to_bool hK (by unfold isName; rw [decide_eq_false (by omega)]; rfl)⟩
def s37 : Spec Sg := p1 C 9 fun (s : ByteArray) K => K (.bool (!isName s)) []
theorem f37_ok : FnOk Try.prog C 37 s37 := fn_ok mixed good goodM (gam [(38, s38)]) (gam_cons f38_ok gam_nil) Try.func37 (body_some (by kernel_rfl)) (by kernel_rfl) (by kernel_rfl) s37 fun args H K h => by
  obtain ⟨rfl, s, rfl, hK⟩ := of_p1 h
  clear h
  show abody C (gam [(38, s38)]) Try.f37 (bodyOf Try.f37) [.str s] [] K
  refine And.intro ⟨trivial, trivial⟩ ?_
  refine And.intro rfl ?_
  refine And.intro rfl ?_
  exact ⟨[], trivial, hK⟩
end Ev
