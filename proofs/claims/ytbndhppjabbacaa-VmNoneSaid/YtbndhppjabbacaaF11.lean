/- Lemmas for the theorem: a part of the walk. -/
import Derived.Test.YtbndhppjabbacaaF10
namespace Ev
open Go Go.Proofs
set_option maxRecDepth 100000
/-- the keys of a map as a set -/
def mset : List (Int × Unit) → Int → Bool
  | [], _ => false
  | e :: r, x => e.1 == x || mset r x
theorem mget_mset (x : Int) : ∀ es : List (Int × Unit), (mget C 3 104 (.int .i64 x) es).isSome = mset es x
  | [] => rfl
  | e :: r => by
    show (match e.1 == x with | true => some e.2 | false => mget C 3 104 (.int .i64 x) r).isSome = (e.1 == x || mset r x)
    cases h : (e.1 == x)
    · exact mget_mset x r
    · rfl
theorem mset_mput (x : Int) : ∀ es : List (Int × Unit), mset (mput C 3 104 x () es) = fun y => mset es y || decide (y = x)
  | [] => by
    funext y
    show (x == y || false) = (false || decide (y = x))
    rw [Bool.or_false, Bool.false_or, Bool.eq_iff_iff, beq_iff_eq, decide_eq_true_eq]
    exact eq_comm
  | e :: r => by
    funext y
    show mset (match e.1 == x with | true => (x, ()) :: r | false => e :: mput C 3 104 x () r) y = _
    cases h : (e.1 == x)
    · show (e.1 == y || mset (mput C 3 104 x () r) y) = (e.1 == y || mset r y || decide (y = x))
      rw [mset_mput x r, Bool.or_assoc]
    · have h := eq_of_beq h
      show (x == y || mset r y) = (e.1 == y || mset r y || decide (y = x))
      rw [h, Bool.eq_iff_iff]
      simp only [Bool.or_eq_true, beq_iff_eq, decide_eq_true_eq]
      constructor
      · intro h; exact .inl h
      · rintro (h | h)
        · exact h
        · exact .inl h.symm
theorem mput_len (x : Int) : ∀ es : List (Int × Unit), mset es x = false → (mput C 3 104 x () es).length = es.length + 1
  | [], _ => rfl
  | e :: r, h => by
    have h : (e.1 == x || mset r x) = false := h
    rw [Bool.or_eq_false_iff] at h
    show (match e.1 == x with | true => (x, ()) :: r | false => e :: mput C 3 104 x () r : List (Int × Unit)).length = _
    rw [h.1]
    show (mput C 3 104 x () r).length + 1 = r.length + 1 + 1
    rw [mput_len x r h.2]
def ord63 : Nat → List (Nat × List Nat)
  | 7 => [(0, []), (1, []), (2, []), (3, []), (4, []), (5, []), (6, []), (7, []), (8, []), (9, []), (10, []), (11, []), (12, [3, 5, 8]), (13, []), (14, [])]
  | 10 => [(0, []), (1, []), (2, []), (3, []), (4, []), (5, []), (6, []), (7, []), (8, []), (9, [])]
  | _ => []
def takesOk (tk : Int → Bool) (c : CodeR) : Bool := decide (c.A + own c ≤ 20000) && free tk c.A (own c).toNat
def s63 : Spec Sg := fun args H K => ∃ (c : CodeR) (p : ProgR) (tk td : List (Int × Unit)), args = [.ptr 0 0 0, .agg (enc58 c)] ∧ H = lookG p tk td ∧ (0 ≤ c.A ∧ c.A ≤ 19999) ∧
  ∀ b tk', b = takesOk (mset tk) c → (b = true → mset tk' = tk1 (mset tk) c) → K (.bool b) (lookG p tk' td)
set_option maxHeartbeats 1000000 in
theorem f63_ok : FnOk Try.prog C 63 s63 := fn_okO mixed good goodM (gam [(65, s65)]) (gam_cons f65_ok gam_nil) Try.func63 (body_some (by kernel_rfl)) (by kernel_rfl) ord63 (by kernel_rfl) s63 fun args H K h => by
  obtain ⟨c, p, tk, td, rfl, rfl, hA, hK⟩ := h
  show abodyO C (gam [(65, s65)]) ord63 Try.f63 (bodyOf Try.f63) [.ptr 0 0 0, .agg (enc58 c)] (lookG p tk td) K
  have ow := own_range c
  have ht : takesF c = own c := if_pos (by omega)
  refine And.intro ⟨trivial, trivial⟩ ?_
  refine And.intro rfl ?_
  refine And.intro rfl ?_
  have ew : wr .i64 (c.A + takesF c) = c.A + own c := by rw [ht]; exact wr_i64 (by omega) (by omega)
  refine br_split (fun h1 => ?_) (fun h1 => ?_)
  · have h1 := of_decide_eq_true h1; exfalso
    have h1 : c.A < 0 := h1
    omega
  refine br_split (fun h2 => ?_) (fun h2 => ?_)
  · have h2 : decide (wr .i64 (c.A + takesF c) > 20000) = true := h2
    have h2 := of_decide_eq_true h2
    rw [ew] at h2
    refine ⟨[], trivial, hK false tk ?_ (fun h => nomatch h)⟩
    unfold takesOk; rw [decide_eq_false (by omega)]; rfl
  have h2 : decide (wr .i64 (c.A + takesF c) > 20000) = false := h2
  have h2 := of_decide_eq_false h2
  rw [ew] at h2
  refine ⟨[0, 3, 21, 22], [], List (Int × Unit) × Int, fun (tk', i) => (frameOf [(0, .ptr 0 0 0), (3, .ptr 3 0 0), (21, .int .i64 (takesF c)), (22, .int .i64 i)], lookG p tk' td ++ [.cells (enc58 c)]),
    fun x => 0 ≤ x.2 ∧ x.2 ≤ own c ∧ mset x.1 = took (mset tk) c.A x.2 ∧ free (mset tk) c.A x.2.toNat = true, fun x => (own c).toNat - x.2.toNat,
    ⟨trivial, (tk, 0), rfl, by simp, ow.1, (took_zero _ _).symm, rfl⟩, ?_⟩
  rintro ⟨tk', i⟩ ⟨i1, i2, mt, fr⟩
  dsimp only at i1 i2 mt fr ⊢
  refine br_split (fun h4 => ?_) (fun h4 => ?_)
  · have h4 := of_decide_eq_true h4
    rw [ht] at h4
    have iw : wr .i64 (i + 1) = i + 1 := wr_i64 (by omega) (by omega)
    have iw2 : (i + 1).toNat = i.toNat + 1 := by omega
    have aw : wr .i64 (c.A + i) = c.A + i := wr_i64 (by omega) (by omega)
    have e1 : c.A + ((i.toNat : Nat) : Int) = c.A + i := by omega
    have hk : mset tk' (c.A + i) = mset tk (c.A + i) := by rw [mt]; unfold took; rw [decide_eq_false (by omega), Bool.or_false]
    have hr : (mget C 3 104 (.int .i64 (wr .i64 (c.A + i))) tk').isSome = mset tk (c.A + i) := by rw [aw, mget_mset, hk]
    refine fun b hb => ?_
    refine And.intro rfl ?_
    refine And.intro rfl ?_
    refine And.intro rfl ?_
    have hb := hr.symm.trans hb
    refine br_split (fun h5 => ?_) (fun h5 => ?_)
    · have h5 := hb.trans h5
      refine ⟨[], trivial, hK false tk' ?_ (fun h => nomatch h)⟩
      unfold takesOk
      rw [free_hit (k := i.toNat) (by omega) (by rw [e1]; exact h5), Bool.and_false]
    · have h5 := hb.trans h5
      have nx : (0 ≤ wr .i64 (i + 1) ∧ wr .i64 (i + 1) ≤ own c ∧ mset (mput C 3 104 (wr .i64 (c.A + i)) () tk') = took (mset tk) c.A (wr .i64 (i + 1)) ∧ free (mset tk) c.A (wr .i64 (i + 1)).toNat = true) ∧
          (own c).toNat - (wr .i64 (i + 1)).toNat < (own c).toNat - i.toNat := by
        rw [iw, aw, mset_mput, iw2, free_succ, fr, e1, h5, mt]
        exact ⟨⟨by omega, by omega, took_succ _ _ _ i1, rfl⟩, by omega⟩
      exact And.intro trivial ⟨(_, _), rfl, nx.1, nx.2⟩
  · have h4 := of_decide_eq_false h4
    rw [ht] at h4
    have : i = own c := by omega
    subst this
    refine ⟨[], trivial, hK true tk' ?_ (fun _ => mt)⟩
    unfold takesOk
    rw [fr, decide_eq_true (by omega)]; rfl
end Ev
