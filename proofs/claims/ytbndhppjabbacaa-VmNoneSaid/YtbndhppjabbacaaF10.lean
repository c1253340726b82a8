/- Lemmas for the theorem: a part of the walk. -/
import Derived.Test.YtbndhppjabbacaaF9
namespace Ev
open Go Go.Proofs
set_option maxRecDepth 100000
/-- gen.Takes -/
def takesF (c : CodeR) : Int := if c.A ≤ 2147483648 then own c else 0
def s65 : Spec Sg := p1 C 58 fun (c : CodeR) K => K (.int .i64 (takesF c)) []
theorem f65_ok : FnOk Try.prog C 65 s65 := fn_ok mixed good goodM (gam []) gam_nil Try.func65 (body_some (by kernel_rfl)) (by kernel_rfl) (by kernel_rfl) s65 fun args H K h => by
  obtain ⟨rfl, c, rfl, hK⟩ := of_p1 h
  clear h
  show abody C (gam []) Try.f65 (bodyOf Try.f65) [.agg (enc58 c)] [] K
  repeat' (first | refine br_true ?_ | refine br_false ?_ | refine br_split (fun h => ?_) (fun h => ?_))
  all_goals
    refine ⟨[], trivial, to_int hK ?_⟩
    clear hK
    cases c
    simp only [beq_iff_eq, bne_iff_ne, ne_eq, decide_eq_true_eq, decide_eq_false_iff_not, beq_eq_false_iff_ne, bne_eq_false_iff_eq] at *
    unfold takesF own
    dsimp only
    first
      | (rw [wr_i64 (by omega) (by omega)]; repeat' split) <;> omega
      | (repeat' split) <;> omega
/-- gen.Moves -/
def mv3 (c : CodeR) : Int × Int × Bool :=
  if c.Do = 0 ∨ c.Do = 1 ∨ c.Do = 2 then (0, 1, true) else if c.Do = 3 ∨ c.Do = 6 then (1, 1, true) else if c.Do = 4 ∨ c.Do = 5 then (c.A, 1, decide (2 ≤ c.A))
  else if c.Do = 7 then (2, 1, true) else if c.Do = 8 then (1, 0, true) else (0, 0, false)
def s64 : Spec Sg := p1 C 58 fun (c : CodeR) K => K (.tup [.int .i64 (mv3 c).1, .int .i64 (mv3 c).2.1, .bool (mv3 c).2.2]) []
theorem to_mv {K : AV Sg → AH Sg → Prop} {c : CodeR} {H : AH Sg} (hK : K (.tup [.int .i64 (mv3 c).1, .int .i64 (mv3 c).2.1, .bool (mv3 c).2.2]) H) {a b : Int} {d : Bool} (h : mv3 c = (a, b, d)) : K (.tup [.int .i64 a, .int .i64 b, .bool d]) H := by
  rw [h] at hK; exact hK
theorem f64_ok : FnOk Try.prog C 64 s64 := fn_ok mixed good goodM (gam []) gam_nil Try.func64 (body_some (by kernel_rfl)) (by kernel_rfl) (by kernel_rfl) s64 fun args H K h => by
  obtain ⟨rfl, c, rfl, hK⟩ := of_p1 h
  clear h
  show abody C (gam []) Try.f64 (bodyOf Try.f64) [.agg (enc58 c)] [] K
  repeat' (first | refine br_true ?_ | refine br_false ?_ | refine br_split (fun h => ?_) (fun h => ?_))
  all_goals
    refine ⟨[], trivial, to_mv hK ?_⟩
    clear hK
    cases c
    simp only [beq_iff_eq, beq_eq_false_iff_ne, ne_eq] at *
    unfold mv3
    dsimp only
    repeat' split
    all_goals first | rfl | (exfalso; omega)
theorem mv3_some {c : CodeR} {t q : Int} (h : mvs c = some (t, q)) : mv3 c = (t, q, true) := by
  unfold mvs at h; unfold mv3
  repeat' (first | split at h | split)
  all_goals first
    | (exfalso; omega)
    | (injection h with h; injection h with h1 h2; subst h1; subst h2; first | rfl | (rw [decide_eq_true (by omega)]))
    | cases h
theorem mv3_none {c : CodeR} (h : mvs c = none) : (mv3 c).2.2 = false := by
  unfold mvs at h; unfold mv3
  repeat' (first | split at h | split)
  all_goals first | rfl | (cases h; done) | (exact decide_eq_false (by omega)) | (exfalso; omega)
theorem mv3_cases (c : CodeR) : (mvs c = none ∧ ∃ t q, mv3 c = (t, q, false)) ∨ ∃ t q, mvs c = some (t, q) ∧ mv3 c = (t, q, true) ∧ 0 ≤ t ∧ 0 ≤ q ∧ q ≤ 1 := by
  rcases mvs_cases c with ⟨hm, _⟩ | ⟨t, q, hm, hc⟩
  · left
    refine ⟨hm, (mv3 c).1, (mv3 c).2.1, ?_⟩
    have := mv3_none hm
    rw [← this]
  · right
    exact ⟨t, q, hm, mv3_some hm, by omega, by omega, by omega⟩
def s45 : Spec Sg := p1 C 25 fun (l : List CodeR) K => (l.length ≤ 1000000000000) ∧ K (.int .i64 (stkN l)) []
theorem f45_ok : FnOk Try.prog C 45 s45 := fn_ok mixed good goodM (gam [(64, s64)]) (gam_cons f64_ok gam_nil) Try.func45 (body_some (by kernel_rfl)) (by kernel_rfl) (by kernel_rfl) s45 fun args H K h => by
  obtain ⟨rfl, l, rfl, hl, hK⟩ := of_p1 h
  clear h
  show abody C (gam [(64, s64)]) Try.f45 (bodyOf Try.f45) [.imm 58 l] [] K
  revert l
  intro (l : List CodeR) hl hK
  refine ⟨[3, 4, 10, 11, 12], [], Int × Int × Int, fun (now, most, i) => (frameOf [(3, .int .i64 now), (4, .int .i64 most), (10, .imm 58 l), (11, .int .i64 l.length), (12, .int .i64 i)], []),
    fun x => 0 ≤ x.2.2 ∧ x.2.2 ≤ l.length ∧ 0 ≤ x.1 ∧ x.1 ≤ x.2.2 ∧ stk (l.drop x.2.2.toNat) x.1 x.2.1 = stkN l, fun x => l.length - x.2.2.toNat,
    ⟨trivial, (0, 0, 0), rfl, by simp, by simp, by simp, by simp, rfl⟩, ?_⟩
  rintro ⟨now, most, i⟩ ⟨i1, i2, n1, n2, he⟩
  dsimp only at i1 i2 n1 n2 he ⊢
  refine br_split (fun h4 => ?_) (fun h4 => ?_)
  · have h4 : i < l.length := of_decide_eq_true h4
    have hget := drop_get l i.toNat (C.zero 58) (by omega)
    have hw : wr .i64 (i + 1) = i + 1 := wr_i64 (by omega) (by omega)
    have hw2 : (i + 1).toNat = i.toNat + 1 := by omega
    rw [hget] at he
    refine And.intro ⟨i1, h4⟩ ?_
    generalize hc : List.getD l i.toNat (C.zero 58) = c at *
    have he : (match mvs c with | none => -1 | some (t, p) => if now < t then -1 else stk (l.drop (i.toNat + 1)) (now - t + p) (if most < now - t + p then now - t + p else most)) = stkN l := he
    refine And.intro ⟨trivial, trivial⟩ ?_
    refine And.intro rfl ?_
    refine And.intro rfl ?_
    rcases mv3_cases c with ⟨hm, t, q, h3⟩ | ⟨t, q, hm, h3, t0, q0, q1⟩
    · have e1 : (mv3 c).2.2 = false := by rw [h3]
      rw [hm] at he
      refine br_split (fun h5 => ?_) (fun h5 => ?_)
      · exact ⟨[], trivial, to_int hK he.symm⟩
      · have h5 : (!(mv3 c).2.2) = false := h5
        rw [e1] at h5; cases h5
    · have e1 : (mv3 c).1 = t := by rw [h3]
      have e2 : (mv3 c).2.1 = q := by rw [h3]
      have e3 : (mv3 c).2.2 = true := by rw [h3]
      rw [hm] at he
      dsimp only at he
      refine br_split (fun h5 => ?_) (fun h5 => ?_)
      · have h5 : (!(mv3 c).2.2) = true := h5
        rw [e3] at h5; cases h5
      refine br_split (fun h6 => ?_) (fun h6 => ?_)
      · have h6 : decide ((mv3 c).1 > now) = true := h6
        have h6 := of_decide_eq_true h6
        rw [e1] at h6
        rw [if_pos h6] at he
        exact ⟨[], trivial, to_int hK he.symm⟩
      · have h6 : decide ((mv3 c).1 > now) = false := h6
        have h6 := of_decide_eq_false h6
        rw [e1] at h6
        rw [if_neg h6] at he
        have ew : wr .i64 (now + wr .i64 ((mv3 c).2.1 - (mv3 c).1)) = now - t + q := by
          rw [e1, e2, wr_i64 (n := q - t) (by omega) (by omega), wr_i64 (by omega) (by omega)]; omega
        have nx : (0 ≤ wr .i64 (i + 1) ∧ wr .i64 (i + 1) ≤ l.length ∧ 0 ≤ wr .i64 (now + wr .i64 ((mv3 c).2.1 - (mv3 c).1)) ∧ wr .i64 (now + wr .i64 ((mv3 c).2.1 - (mv3 c).1)) ≤ wr .i64 (i + 1) ∧
            stk (l.drop (wr .i64 (i + 1)).toNat) (wr .i64 (now + wr .i64 ((mv3 c).2.1 - (mv3 c).1))) (if wr .i64 (now + wr .i64 ((mv3 c).2.1 - (mv3 c).1)) > most then wr .i64 (now + wr .i64 ((mv3 c).2.1 - (mv3 c).1)) else most) = stkN l) ∧
            l.length - (wr .i64 (i + 1)).toNat < l.length - i.toNat := by
          rw [ew, hw, hw2]
          exact ⟨⟨by omega, by omega, by omega, by omega, he⟩, by omega⟩
        exact And.intro trivial ⟨(_, _, _), rfl, nx.1, nx.2⟩
  · have h4 : ¬ i < l.length := of_decide_eq_false h4
    rw [List.drop_eq_nil_of_le (by omega)] at he
    exact ⟨[], trivial, to_int hK he.symm⟩
def s46 : Spec Sg := p1 C 25 fun (l : List CodeR) K => (l.length ≤ 2000 ∧ ∃ nA nP, ∀ c, c ∈ l → codeP nA nP c) ∧ K (.int .i64 (leftN l)) []
theorem f46_ok : FnOk Try.prog C 46 s46 := fn_ok mixed good goodM (gam [(64, s64)]) (gam_cons f64_ok gam_nil) Try.func46 (body_some (by kernel_rfl)) (by kernel_rfl) (by kernel_rfl) s46 fun args H K h => by
  obtain ⟨rfl, l, rfl, ⟨hl, nA, nP, hcp⟩, hK⟩ := of_p1 h
  clear h
  show abody C (gam [(64, s64)]) Try.f46 (bodyOf Try.f46) [.imm 58 l] [] K
  revert l
  intro (l : List CodeR) hK hl hcp
  refine ⟨[3, 9, 10, 11], [], Int × Int, fun (n, i) => (frameOf [(3, .int .i64 n), (9, .imm 58 l), (10, .int .i64 l.length), (11, .int .i64 i)], []),
    fun x => 0 ≤ x.2 ∧ x.2 ≤ l.length ∧ -(300 * x.2) ≤ x.1 ∧ x.1 ≤ x.2 ∧ x.1 + leftN (l.drop x.2.toNat) = leftN l, fun x => l.length - x.2.toNat,
    ⟨trivial, (0, 0), rfl, by simp, by simp, by simp, by simp, by simp⟩, ?_⟩
  rintro ⟨n, i⟩ ⟨i1, i2, n1, n2, he⟩
  dsimp only at i1 i2 n1 n2 he ⊢
  refine br_split (fun h4 => ?_) (fun h4 => ?_)
  · have h4 : i < l.length := of_decide_eq_true h4
    have hget := drop_get l i.toNat (C.zero 58) (by omega)
    have hmem := mem_get l i.toNat (C.zero 58) (by omega)
    have hw : wr .i64 (i + 1) = i + 1 := wr_i64 (by omega) (by omega)
    have hw2 : (i + 1).toNat = i.toNat + 1 := by omega
    rw [hget] at he
    refine And.intro ⟨i1, h4⟩ ?_
    have hcc := hcp _ hmem
    generalize hc : List.getD l i.toNat (C.zero 58) = c at *
    have he : n + (left1 c + leftN (l.drop (i.toNat + 1))) = leftN l := he
    have lo := left1_of hcc
    refine And.intro ⟨trivial, trivial⟩ ?_
    refine And.intro rfl ?_
    refine And.intro rfl ?_
    have ew : wr .i64 (n + wr .i64 ((mv3 c).2.1 - (mv3 c).1)) = n + left1 c := by
      rcases mv3_cases c with ⟨hm, _⟩ | ⟨t, q, hm, h3, t0, q0, q1⟩
      · exfalso
        have := mvs_cases c
        rw [hm] at this
        rcases this with ⟨_, h⟩ | ⟨_, _, h, _⟩
        · omega
        · cases h
      · have e4 : left1 c = q - t := by unfold left1; rw [hm]
        rw [h3]
        dsimp only
        rw [e4] at lo ⊢
        rw [wr_i64 (n := q - t) (by omega) (by omega), wr_i64 (by omega) (by omega)]
    have nx : (0 ≤ wr .i64 (i + 1) ∧ wr .i64 (i + 1) ≤ l.length ∧ -(300 * wr .i64 (i + 1)) ≤ wr .i64 (n + wr .i64 ((mv3 c).2.1 - (mv3 c).1)) ∧ wr .i64 (n + wr .i64 ((mv3 c).2.1 - (mv3 c).1)) ≤ wr .i64 (i + 1) ∧
        wr .i64 (n + wr .i64 ((mv3 c).2.1 - (mv3 c).1)) + leftN (l.drop (wr .i64 (i + 1)).toNat) = leftN l) ∧ l.length - (wr .i64 (i + 1)).toNat < l.length - i.toNat := by
      rw [ew, hw, hw2]
      exact ⟨⟨by omega, by omega, by omega, by omega, by omega⟩, by omega⟩
    exact And.intro trivial ⟨(_, _), rfl, nx.1, nx.2⟩
  · have h4 : ¬ i < l.length := of_decide_eq_false h4
    rw [List.drop_eq_nil_of_le (by omega)] at he
    have he : n + 0 = leftN l := he
    exact ⟨[], trivial, to_int hK (by omega)⟩
def s47 : Spec Sg := p1 C 25 fun (l : List CodeR) K => (l.length ≤ 1000000000000) ∧ K (.int .i64 (cellsN l)) []
theorem f47_ok : FnOk Try.prog C 47 s47 := fn_ok mixed good goodM (gam [(65, s65)]) (gam_cons f65_ok gam_nil) Try.func47 (body_some (by kernel_rfl)) (by kernel_rfl) (by kernel_rfl) s47 fun args H K h => by
  obtain ⟨rfl, l, rfl, hl, hK⟩ := of_p1 h
  clear h
  show abody C (gam [(65, s65)]) Try.f47 (bodyOf Try.f47) [.imm 58 l] [] K
  revert l
  intro (l : List CodeR) hl hK
  refine ⟨[3, 7, 8, 9], [], Int × Int, fun (m, i) => (frameOf [(3, .int .i64 m), (7, .imm 58 l), (8, .int .i64 l.length), (9, .int .i64 i)], []),
    fun x => 0 ≤ x.2 ∧ x.2 ≤ l.length ∧ cellsF (l.drop x.2.toNat) x.1 = cellsN l, fun x => l.length - x.2.toNat,
    ⟨trivial, (0, 0), rfl, by simp, by simp, rfl⟩, ?_⟩
  rintro ⟨m, i⟩ ⟨i1, i2, he⟩
  dsimp only at i1 i2 he ⊢
  refine br_split (fun h4 => ?_) (fun h4 => ?_)
  · have h4 : i < l.length := of_decide_eq_true h4
    have hget := drop_get l i.toNat (C.zero 58) (by omega)
    have hw : wr .i64 (i + 1) = i + 1 := wr_i64 (by omega) (by omega)
    have hw2 : (i + 1).toNat = i.toNat + 1 := by omega
    rw [hget] at he
    refine And.intro ⟨i1, h4⟩ ?_
    generalize hc : List.getD l i.toNat (C.zero 58) = c at *
    have he : cellsF (l.drop (i.toNat + 1)) (if 0 < own c ∧ c.A ≤ 2147483648 ∧ m < c.A + own c then c.A + own c else m) = cellsN l := he
    refine And.intro ⟨trivial, trivial⟩ ?_
    refine And.intro rfl ?_
    refine And.intro rfl ?_
    have op := @own_pos c
    refine br_split (fun h5 => ?_) (fun h5 => ?_)
    · have h5 : decide (takesF c > 0) = true := h5
      have h5 := of_decide_eq_true h5
      have h6 : takesF c = own c ∧ c.A ≤ 2147483648 := by
        unfold takesF at *
        split at h5
        · rename_i h7; exact ⟨if_pos h7, h7⟩
        · omega
      have h7 := op (by omega)
      have ew : wr .i64 (c.A + takesF c) = c.A + own c := by rw [h6.1]; exact wr_i64 (by omega) (by omega)
      have nx : (0 ≤ wr .i64 (i + 1) ∧ wr .i64 (i + 1) ≤ l.length ∧ cellsF (l.drop (wr .i64 (i + 1)).toNat) (if wr .i64 (c.A + takesF c) > m then wr .i64 (c.A + takesF c) else m) = cellsN l) ∧ l.length - (wr .i64 (i + 1)).toNat < l.length - i.toNat := by
        rw [ew, hw, hw2]
        refine ⟨⟨by omega, by omega, ?_⟩, by omega⟩
        rw [← he]
        congr 1
        split <;> split <;> omega
      exact And.intro trivial ⟨(_, _), rfl, nx.1, nx.2⟩
    · have h5 : decide (takesF c > 0) = false := h5
      have h5 := of_decide_eq_false h5
      have nx : (0 ≤ wr .i64 (i + 1) ∧ wr .i64 (i + 1) ≤ l.length ∧ cellsF (l.drop (wr .i64 (i + 1)).toNat) m = cellsN l) ∧ l.length - (wr .i64 (i + 1)).toNat < l.length - i.toNat := by
        rw [hw, hw2]
        refine ⟨⟨by omega, by omega, ?_⟩, by omega⟩
        rw [← he]
        congr 1
        unfold takesF at h5
        split at h5 <;> split <;> omega
      exact And.intro trivial ⟨(_, _), rfl, nx.1, nx.2⟩
  · have h4 : ¬ i < l.length := of_decide_eq_false h4
    rw [List.drop_eq_nil_of_le (by omega)] at he
    exact ⟨[], trivial, to_int hK he.symm⟩
end Ev
