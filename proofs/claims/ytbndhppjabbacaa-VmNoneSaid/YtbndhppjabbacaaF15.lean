/- Lemmas for the theorem: a part of the walk. -/
import Derived.Test.YtbndhppjabbacaaF14
namespace Ev
open Go Go.Proofs
set_option maxRecDepth 100000
theorem wr_u8 {n : Int} (h : 0 ≤ n) (h' : n ≤ 255) : wr .u8 n = n := by
  rw [wr_eq]
  simp only [IntKind.wrap]
  split
  · rename_i hc; simp [IntKind.bits, IntKind.signed] at hc ⊢; try omega
  · simp [IntKind.bits, IntKind.signed] at *; omega
theorem wr_u64 {n : Int} (h : 0 ≤ n) (h' : n ≤ 18446744073709551615) : wr .u64 n = n := by
  rw [wr_eq]
  simp only [IntKind.wrap]
  split
  · rename_i hc; simp [IntKind.bits, IntKind.signed] at hc ⊢; try omega
  · simp [IntKind.bits, IntKind.signed] at *; omega
/-- a number below 100 in decimal digits -/
def digL (n : Int) : List Int := if n < 10 then [48 + n] else [48 + n / 10, 48 + n % 10]
def bytesOf (l : List Int) : ByteArray := l.foldl (fun r y => r.push (UInt8.ofNat y.toNat)) ByteArray.empty
def digits (n : Int) : ByteArray := bytesOf (digL n)
def s52 : Spec Sg := p1 C 93 fun (n : Int) K => (0 ≤ n ∧ n < 100) ∧ K (.str (digits n)) []
theorem f52_ok : FnOk Try.prog C 52 s52 := fn_ok mixed good goodM (gam []) gam_nil Try.func52 (body_some (by kernel_rfl)) (by kernel_rfl) (by kernel_rfl) s52 fun args H K h => by
  obtain ⟨rfl, n, rfl, hn, hK⟩ := of_p1 h
  clear h
  show abody C (gam []) Try.f52 (bodyOf Try.f52) [.int .u64 n] [] K
  revert n
  intro (n : Int) hn hK
  refine ⟨[0, 3, 4], [], List Int × Int × Int, fun (b, m, i) => (frameOf [(0, .int .u64 m), (3, .ptr 0 0 0), (4, .int .i64 i)], [.lst 5 b]),
    fun x => x.1 = List.replicate 20 0 ∧ x.2.1 = n ∧ x.2.2 = 20 ∨ 10 ≤ n ∧ x.1 = (List.replicate 20 0).set 19 (48 + n % 10) ∧ x.2.1 = n / 10 ∧ x.2.2 = 19, fun x => x.2.2.toNat,
    ⟨trivial, (List.replicate 20 0, n, 20), rfl, .inl ⟨rfl, rfl, rfl⟩⟩, ?_⟩
  rintro ⟨b, m, i⟩ h
  dsimp only at h ⊢
  have hi : 19 ≤ i ∧ i ≤ 20 := by omega
  have hb : b.length = 20 := by rcases h with ⟨h, _⟩ | ⟨_, h, _⟩ <;> rw [h] <;> rfl
  have hm : 0 ≤ m ∧ m < 100 := by omega
  have ei : wr .i64 (i - 1) = i - 1 := wr_i64 (by omega) (by omega)
  have et : m.tmod 10 = m % 10 := Int.tmod_eq_emod_of_nonneg (by omega)
  have eq : wr .u64 (m.tdiv 10) = m / 10 := by rw [Int.tdiv_eq_ediv_of_nonneg (by omega)]; exact wr_u64 (by omega) (by omega)
  have ex : wr .u8 (48 + wr .u8 (m.tmod 10)) = 48 + m % 10 := by rw [et, wr_u8 (n := m % 10) (by omega) (by omega), wr_u8 (by omega) (by omega)]
  have o1 : (10 : Int) ≠ 0 := by decide
  have o2 : 0 ≤ wr .i64 (i - 1) ∧ wr .i64 (i - 1) < 20 := by rw [ei]; omega
  have o3 : (wr .i64 (i - 1)).toNat < b.length := by rw [ei, hb]; omega
  refine And.intro o1 ?_
  refine And.intro o2 ?_
  refine And.intro ⟨trivial, o3⟩ ?_
  refine And.intro o1 ?_
  refine br_split (fun h1 => ?_) (fun h1 => ?_)
  · have h1 : wr .u64 (m.tdiv 10) = 0 := eq_of_beq h1
    rw [eq] at h1
    have o4 : 0 ≤ wr .i64 (i - 1) ∧ wr .i64 (i - 1) ≤ 20 ∧ (20 : Int) ≤ 20 ∧ 20 ≤ (b.set (wr .i64 (i - 1)).toNat (wr .u8 (48 + wr .u8 (m.tmod 10)))).length := by
      rw [List.length_set, ei]; omega
    refine And.intro o4 ?_
    have o5 : (wr .i64 (i - 1)).toNat + ((20 : Int).toNat - (wr .i64 (i - 1)).toNat) ≤ (b.set (wr .i64 (i - 1)).toNat (wr .u8 (48 + wr .u8 (m.tmod 10)))).length := by
      rw [List.length_set, ei, hb]; omega
    refine And.intro o5 ?_
    refine ⟨[], trivial, to_str hK ?_⟩
    have fin : digits n = strOf C 5 (((b.set (wr .i64 (i - 1)).toNat (wr .u8 (48 + wr .u8 (m.tmod 10)))).drop (wr .i64 (i - 1)).toNat).take ((20 : Int).toNat - (wr .i64 (i - 1)).toNat)) := by
      rw [ei, ex]
      rcases h with ⟨h, h2, h3⟩ | ⟨h0, h, h2, h3⟩
      · subst h; subst h3
        have : n % 10 = n := by omega
        unfold digits digL
        rw [if_pos (by omega), ← this, h2]; rfl
      · subst h; subst h3
        have : m % 10 = n / 10 := by omega
        unfold digits digL
        rw [if_neg (by omega), this]; rfl
    exact fin
  · have h1 : ¬ wr .u64 (m.tdiv 10) = 0 := by
      intro hc
      have h1 : (wr .u64 (m.tdiv 10) == 0) = false := h1
      rw [hc] at h1; cases h1
    rw [eq] at h1
    rcases h with ⟨h, h2, h3⟩ | ⟨h0, h, h2, h3⟩
    · refine And.intro trivial ⟨(_, _, _), rfl, .inr ⟨by omega, ?_, ?_, ?_⟩, ?_⟩
      · subst h; subst h3; subst h2; dsimp only; rw [ei]; exact congrArg _ ex
      · subst h2; exact eq
      · dsimp only; rw [ei]; omega
      · dsimp only; rw [ei]; omega
    · omega
def s28 : Spec Sg := p1 C 3 fun (n : Int) K => (0 ≤ n ∧ n < 100) ∧ K (.str (digits n)) []
theorem f28_ok : FnOk Try.prog C 28 s28 := fn_ok mixed good goodM (gam [(52, s52)]) (gam_cons f52_ok gam_nil) Try.func28 (body_some (by kernel_rfl)) (by kernel_rfl) (by kernel_rfl) s28 fun args H K h => by
  obtain ⟨rfl, n, rfl, hn, hK⟩ := of_p1 h
  clear h
  show abody C (gam [(52, s52)]) Try.f28 (bodyOf Try.f28) [.int .i64 n] [] K
  revert n
  intro (n : Int) hn hK
  refine br_split (fun h => ?_) (fun h => ?_)
  · have := of_decide_eq_true h; omega
  have e : wr .u64 n = n := wr_u64 (by omega) (by omega)
  refine And.intro ⟨trivial, trivial⟩ ?_
  refine And.intro rfl ?_
  refine And.intro rfl ?_
  refine And.intro (by rw [e]; exact hn : 0 ≤ wr .u64 n ∧ wr .u64 n < 100) ?_
  exact ⟨[], trivial, to_str hK (congrArg digits e.symm)⟩
end Ev
