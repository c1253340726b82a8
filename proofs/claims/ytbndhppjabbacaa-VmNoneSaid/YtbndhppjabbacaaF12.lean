/- Lemmas for the theorem: a part of the walk. -/
import Derived.Test.YtbndhppjabbacaaF11
namespace Ev
open Go Go.Proofs
set_option maxRecDepth 100000
theorem own_zero {c : CodeR} (h : c.Do ≠ 6) (h' : c.Do ≠ 7) : own c = 0 := by
  unfold own; rw [if_neg (by omega), if_pos (by omega)]
theorem free_zero (tk : Int → Bool) (a : Int) : free tk a 0 = true := rfl
section
variable {nA nP : Nat} {tk td : Int → Bool} {c : CodeR}
theorem ci_free (h : c.Do ≠ 6) (h' : c.Do ≠ 7) : codeIn nA nP tk td c = (codeOk nA nP c && (!tells c || !td c.A)) := by
  unfold codeIn; rw [own_zero h h']
  show (codeOk nA nP c && free tk c.A 0 && _) = _
  rw [free_zero, Bool.and_true]
theorem ci_tells (h : c.Do ≠ 8) : tells c = false := decide_eq_false h
theorem ci_0 (h : c.Do = 0 ∨ c.Do = 1 ∨ c.Do = 3) (hf : c.From = 0) (ht : c.To = 0) : (c.A == 0) = codeIn nA nP tk td c := by
  rw [ci_free (by omega) (by omega), ci_tells (by omega)]
  simp only [Bool.not_false, Bool.true_or, Bool.and_true]
  rw [Bool.eq_iff_iff, codeOk_iff, beq_iff_eq]
  unfold codeP; omega
theorem ci_2 (h : c.Do = 2) (hf : c.From = 0) (ht : c.To = 0) : within c.A 0 (nA - 1) = codeIn nA nP tk td c := by
  rw [ci_free (by omega) (by omega), ci_tells (by omega)]
  simp only [Bool.not_false, Bool.true_or, Bool.and_true]
  rw [Bool.eq_iff_iff, codeOk_iff]
  unfold codeP within; rw [decide_eq_true_eq]; omega
theorem ci_4 (h : c.Do = 4 ∨ c.Do = 5) (hf : c.From = 0) (ht : c.To = 0) : within c.A 2 300 = codeIn nA nP tk td c := by
  rw [ci_free (by omega) (by omega), ci_tells (by omega)]
  simp only [Bool.not_false, Bool.true_or, Bool.and_true]
  rw [Bool.eq_iff_iff, codeOk_iff]
  unfold codeP within; rw [decide_eq_true_eq]; omega
theorem ci_6 (h : c.Do = 6) (hf : c.From = 0) (ht : c.To = 0) : (within c.A 0 19999 && takesOk tk c) = codeIn nA nP tk td c := by
  unfold codeIn takesOk
  rw [ci_tells (by omega)]
  simp only [Bool.not_false, Bool.true_or, Bool.and_true]
  rw [← Bool.and_assoc]
  congr 1
  rw [Bool.eq_iff_iff, Bool.and_eq_true, codeOk_iff]
  unfold codeP within own; rw [decide_eq_true_eq, decide_eq_true_eq]
  repeat' split
  all_goals omega
theorem ci_7 (h : c.Do = 7) : (within c.A 0 19999 && within c.From 0 1000 && (c.To == -1 || within c.To c.From 1000) && takesOk tk c) = codeIn nA nP tk td c := by
  unfold codeIn takesOk
  rw [ci_tells (by omega)]
  simp only [Bool.not_false, Bool.true_or, Bool.and_true]
  rw [← Bool.and_assoc]
  congr 1
  have ow := own_range c
  have o1 : 0 ≤ c.A ∧ 0 ≤ c.From ∧ c.From ≤ 1000 ∧ (c.To = -1 ∨ c.From ≤ c.To ∧ c.To ≤ 1000) → 1 ≤ own c := by
    intro hh; unfold own
    repeat' split
    all_goals omega
  rw [Bool.eq_iff_iff, codeOk_iff]
  unfold codeP within; simp only [Bool.and_eq_true, Bool.or_eq_true, decide_eq_true_eq, beq_iff_eq]
  generalize own c = o at *
  omega
theorem ci_8 (h : c.Do = 8) (hf : c.From = 0) (ht : c.To = 0) : (!td c.A && within c.A 0 (nP - 1)) = codeIn nA nP tk td c := by
  rw [ci_free (by omega) (by omega), show tells c = true from decide_eq_true h]
  simp only [Bool.not_true, Bool.false_or]
  rw [Bool.and_comm]
  congr 1
  rw [Bool.eq_iff_iff, codeOk_iff]
  unfold codeP within; rw [decide_eq_true_eq]; omega
theorem ci_bad (h : ¬ codeP nA nP c) : false = codeIn nA nP tk td c := by
  unfold codeIn
  rw [show codeOk nA nP c = false from decide_eq_false h]; rfl
theorem tk1_same (h : c.Do ≠ 6) (h' : c.Do ≠ 7) : tk = tk1 tk c := by
  unfold tk1; rw [own_zero h h', took_zero]
theorem td1_same (h : c.Do ≠ 8) : td = td1 td c := by
  funext x; unfold td1; rw [ci_tells h, Bool.false_and, Bool.or_false]
end
def ord44 : Nat → List (Nat × List Nat)
  | 9 => [(0, []), (1, []), (2, []), (3, []), (4, []), (5, []), (6, []), (7, []), (8, []), (9, []), (10, [])]
  | 18 => [(0, []), (1, []), (2, []), (3, []), (4, []), (5, []), (6, []), (7, []), (8, []), (9, []), (10, [3, 5, 6]), (11, []), (12, [])]
  | 19 => [(0, []), (1, []), (2, []), (3, []), (4, []), (5, []), (6, []), (7, [])]
  | 20 => [(0, []), (1, []), (2, []), (3, []), (4, []), (5, []), (6, []), (7, []), (8, []), (9, []), (10, []), (11, []), (12, []), (13, []), (14, [])]
  | _ => []
def codeNext (p : ProgR) (tk td : List (Int × Unit)) (c : CodeR) (b : Bool) (tk' td' : List (Int × Unit)) : Prop :=
  b = codeIn p.Atoms.length p.Props.length (mset tk) (mset td) c ∧ (b = true → mset tk' = tk1 (mset tk) c ∧ mset td' = td1 (mset td) c ∧ (td'.length : Int) = td.length + (if tells c = true then 1 else 0))
theorem next_same {p : ProgR} {tk td : List (Int × Unit)} {c : CodeR} {b : Bool} (h : b = codeIn p.Atoms.length p.Props.length (mset tk) (mset td) c) (h6 : c.Do ≠ 6) (h7 : c.Do ≠ 7) (h8 : c.Do ≠ 8) : codeNext p tk td c b tk td :=
  ⟨h, fun _ => ⟨tk1_same h6 h7, td1_same h8, by rw [ci_tells h8]; simp⟩⟩
theorem next_bad {p : ProgR} {tk td : List (Int × Unit)} {c : CodeR} {b : Bool} (h : b = codeIn p.Atoms.length p.Props.length (mset tk) (mset td) c) (hb : b = false) (tk' td' : List (Int × Unit)) : codeNext p tk td c b tk' td' :=
  ⟨h, fun h => by rw [hb] at h; cases h⟩
def s44 : Spec Sg := fun args H K => ∃ (c : CodeR) (p : ProgR) (tk td : List (Int × Unit)), args = [.ptr 0 0 0, .agg (enc58 c)] ∧ H = lookG p tk td ∧ (p.Atoms.length ≤ 2000 ∧ p.Props.length ≤ 16) ∧
  ∀ b tk' td', codeNext p tk td c b tk' td' → K (.bool b) (lookG p tk' td')
def G44 : FuncId → Spec Sg := gam [(35, s35), (63, s63)]
set_option maxHeartbeats 1000000 in
theorem f44_ok : FnOk Try.prog C 44 s44 := fn_okO mixed good goodM G44 (gam_cons f35_ok (gam_cons f63_ok gam_nil)) Try.func44 (body_some (by kernel_rfl)) (by kernel_rfl) ord44 (by kernel_rfl) s44 fun args H K h => by
  obtain ⟨c, p, tk, td, rfl, rfl, hsz, hK⟩ := h
  show abodyO C G44 ord44 Try.f44 (bodyOf Try.f44) [.ptr 0 0 0, .agg (enc58 c)] (lookG p tk td) K
  have go : ∀ b, b = codeIn p.Atoms.length p.Props.length (mset tk) (mset td) c → c.Do ≠ 6 → c.Do ≠ 7 → c.Do ≠ 8 → K (.bool b) (lookG p tk td) := fun b h h6 h7 h8 => hK b tk td (next_same h h6 h7 h8)
  have no : ¬ codeP p.Atoms.length p.Props.length c → ∀ tk' td', K (.bool false) (lookG p tk' td') := fun h tk' td' => hK false tk' td' (next_bad (ci_bad h) rfl tk' td')
  repeat' (first | refine br_true ?_ | refine br_false ?_ | refine br_split (fun h => ?_) (fun h => ?_))
  all_goals
    simp only [beq_iff_eq, bne_iff_ne, ne_eq, beq_eq_false_iff_ne, bne_eq_false_iff_eq] at *
    try (exfalso; omega)
  all_goals try exact ⟨[], trivial, no (by unfold codeP; omega) _ _⟩
  all_goals try exact ⟨[], trivial, go _ (ci_0 (by omega) (by omega) (by omega)) (by omega) (by omega) (by omega)⟩
  · -- an atom
    refine And.intro ⟨trivial, trivial, trivial, trivial⟩ ?_
    refine And.intro rfl ?_
    refine And.intro ⟨rfl, rfl, rfl⟩ ?_
    refine fun b hb => ?_
    refine ⟨[], trivial, go b ?_ (by omega) (by omega) (by omega)⟩
    rw [← hb, wr_i64 (by omega) (by omega)]
    exact ci_2 (by omega) (by omega) (by omega)
  · -- and
    refine And.intro ⟨trivial, trivial, trivial, trivial⟩ ?_
    refine And.intro rfl ?_
    refine And.intro ⟨rfl, rfl, rfl⟩ ?_
    exact ⟨[], trivial, go _ (ci_4 (by omega) (by omega) (by omega)) (by omega) (by omega) (by omega)⟩
  · -- or
    refine And.intro ⟨trivial, trivial, trivial, trivial⟩ ?_
    refine And.intro rfl ?_
    refine And.intro ⟨rfl, rfl, rfl⟩ ?_
    exact ⟨[], trivial, go _ (ci_4 (by omega) (by omega) (by omega)) (by omega) (by omega) (by omega)⟩
  · -- prev
    refine And.intro ⟨trivial, trivial, trivial, trivial⟩ ?_
    refine And.intro rfl ?_
    refine And.intro ⟨rfl, rfl, rfl⟩ ?_
    refine br_split (fun h1 => ?_) (fun h1 => ?_)
    · have h1 : within c.A 0 19999 = true := h1
      refine And.intro ⟨trivial, trivial⟩ ?_
      refine ⟨c, p, tk, td, rfl, rfl, of_decide_eq_true h1, fun b tk' hb ht => ?_⟩
      refine ⟨[], trivial, hK b tk' td ⟨?_, fun h => ⟨ht h, td1_same (by omega), by rw [ci_tells (by omega)]; simp⟩⟩⟩
      rw [hb, ← ci_6 (by omega) (by omega) (by omega), h1, Bool.true_and]
    · have h1 : within c.A 0 19999 = false := h1
      exact ⟨[], trivial, hK false tk td (next_bad (by rw [← ci_6 (by omega) (by omega) (by omega), h1, Bool.false_and]) rfl _ _)⟩
  · -- tell
    have hr : (mget C 3 104 (.int .i64 c.A) td).isSome = mset td c.A := mget_mset _ _
    refine fun b0 hb0 => ?_
    have hb0 := hr.symm.trans hb0
    refine And.intro rfl ?_
    refine And.intro rfl ?_
    refine And.intro rfl ?_
    cases b0
    · repeat' refine br_true ?_
      refine And.intro ⟨trivial, trivial, trivial, trivial⟩ ?_
      refine And.intro rfl ?_
      refine And.intro ⟨rfl, rfl, rfl⟩ ?_
      refine fun b hb => ?_
      repeat' refine br_true ?_
      refine ⟨[], trivial, hK b tk (mput C 3 104 c.A () td) ⟨?_, fun h => ⟨tk1_same (by omega) (by omega), ?_, ?_⟩⟩⟩
      · rw [← hb, wr_i64 (by omega) (by omega), ← ci_8 (by omega) (by omega) (by omega), hb0]; rfl
      · rw [mset_mput]; funext x; unfold td1; rw [show tells c = true from decide_eq_true (by omega), Bool.true_and]
      · rw [mput_len _ _ hb0, show tells c = true from decide_eq_true (by omega)]; simp
    · repeat' refine br_false ?_
      exact ⟨[], trivial, hK false tk _ (next_bad (by rw [← ci_8 (by omega) (by omega) (by omega), hb0]; rfl) rfl _ _)⟩
  · -- since
    have h7 : c.Do = 7 := by omega
    refine And.intro ⟨trivial, trivial, trivial, trivial⟩ ?_
    refine And.intro rfl ?_
    refine And.intro ⟨rfl, rfl, rfl⟩ ?_
    refine br_split (fun h1 => ?_) (fun h1 => ?_)
    · have h1 : within c.A 0 19999 = true := h1
      refine And.intro ⟨trivial, trivial, trivial, trivial⟩ ?_
      refine And.intro rfl ?_
      refine And.intro ⟨rfl, rfl, rfl⟩ ?_
      refine br_split (fun h2 => ?_) (fun h2 => ?_)
      · have h2 : within c.From 0 1000 = true := h2
        refine br_split (fun h3 => ?_) (fun h3 => ?_)
        · have h3 : (c.To == -1) = true := h3
          refine And.intro ⟨trivial, trivial⟩ ?_
          refine ⟨c, p, tk, td, rfl, rfl, of_decide_eq_true h1, fun b tk' hb ht => ?_⟩
          refine ⟨[], trivial, hK b tk' td ⟨?_, fun h => ⟨ht h, td1_same (by omega), by rw [ci_tells (by omega)]; simp⟩⟩⟩
          rw [hb, ← ci_7 h7, h1, h2, h3]; simp
        · have h3 : (c.To == -1) = false := h3
          refine And.intro ⟨trivial, trivial, trivial, trivial⟩ ?_
          refine And.intro rfl ?_
          refine And.intro ⟨rfl, rfl, rfl⟩ ?_
          refine br_split (fun h4 => ?_) (fun h4 => ?_)
          · have h4 : within c.To c.From 1000 = true := h4
            refine And.intro ⟨trivial, trivial⟩ ?_
            refine ⟨c, p, tk, td, rfl, rfl, of_decide_eq_true h1, fun b tk' hb ht => ?_⟩
            refine ⟨[], trivial, hK b tk' td ⟨?_, fun h => ⟨ht h, td1_same (by omega), by rw [ci_tells (by omega)]; simp⟩⟩⟩
            rw [hb, ← ci_7 h7, h1, h2, h3, h4]; simp
          · have h4 : within c.To c.From 1000 = false := h4
            exact ⟨[], trivial, hK false tk td (next_bad (by rw [← ci_7 h7, h1, h2, h3, h4]; rfl) rfl _ _)⟩
      · have h2 : within c.From 0 1000 = false := h2
        exact ⟨[], trivial, hK false tk td (next_bad (by rw [← ci_7 h7, h1, h2]; rfl) rfl _ _)⟩
    · have h1 : within c.A 0 19999 = false := h1
      exact ⟨[], trivial, hK false tk td (next_bad (by rw [← ci_7 h7, h1]; rfl) rfl _ _)⟩
def s43 : Spec Sg := fun args H K => ∃ (c : CodeR) (p : ProgR) (tk td : List (Int × Unit)), args = [.agg (enc58 c), .ptr 0 0 0] ∧ H = lookH p tk td ∧ (p.Atoms.length ≤ 2000 ∧ p.Props.length ≤ 16) ∧
  ∀ b tk' td', codeNext p tk td c b tk' td' → K (.bool (!b)) (lookH p tk' td')
theorem f43_ok : FnOk Try.prog C 43 s43 := fn_ok mixed good goodM (gam [(44, s44)]) (gam_cons f44_ok gam_nil) Try.func43 (body_some (by kernel_rfl)) (by kernel_rfl) (by kernel_rfl) s43 fun args H K h => by
  obtain ⟨c, p, tk, td, rfl, rfl, hsz, hK⟩ := h
  show abody C (gam [(44, s44)]) Try.f43 (bodyOf Try.f43) [.agg (enc58 c), .ptr 0 0 0] (lookH p tk td) K
  refine And.intro ⟨trivial, trivial⟩ ?_
  refine ⟨c, p, tk, td, rfl, rfl, hsz, fun b tk' td' hn => ?_⟩
  exact ⟨[], trivial, hK b tk' td' hn⟩
/-- all codes looked at, in order -/
def scanNext (p : ProgR) (l : List CodeR) (tk td : List (Int × Unit)) (ok : Bool) (tk' td' : List (Int × Unit)) : Prop :=
  ok = scan p.Atoms.length p.Props.length l (mset tk) (mset td) ∧ (ok = true → (td'.length : Int) = td.length + tellsN l)
def s62 : Spec Sg := fun args H K => ∃ (l : List CodeR) (p : ProgR) (tk td : List (Int × Unit)), args = [.imm 58 l, .fn 43 [.ptr 0 0 0]] ∧ H = lookH p tk td ∧ (p.Atoms.length ≤ 2000 ∧ p.Props.length ≤ 16 ∧ l.length ≤ 1000000000000) ∧
  ∀ r tk' td', scanNext p l tk td (decide (r < 0)) tk' td' → K (.int .i64 r) (lookH p tk' td')
theorem f62_ok : FnOk Try.prog C 62 s62 := fn_ok mixed good goodM (gam [(43, s43)]) (gam_cons f43_ok gam_nil) Try.func62 (body_some (by kernel_rfl)) (by kernel_rfl) (by kernel_rfl) s62 fun args H K h => by
  obtain ⟨l, p, tk, td, rfl, rfl, ⟨hs1, hs2, hl⟩, hK⟩ := h
  show abody C (gam [(43, s43)]) Try.f62 (bodyOf Try.f62) [.imm 58 l, .fn 43 [.ptr 0 0 0]] (lookH p tk td) K
  refine ⟨[0, 1, 6, 7, 8], [], List (Int × Unit) × List (Int × Unit) × Int, fun (tk', td', i) => (frameOf [(0, .imm 58 l), (1, .fn 43 [.ptr 0 0 0]), (6, .imm 58 l), (7, .int .i64 l.length), (8, .int .i64 i)], lookH p tk' td'),
    fun x => 0 ≤ x.2.2 ∧ x.2.2 ≤ l.length ∧ scan p.Atoms.length p.Props.length (l.drop x.2.2.toNat) (mset x.1) (mset x.2.1) = scan p.Atoms.length p.Props.length l (mset tk) (mset td) ∧ (x.2.1.length : Int) + tellsN (l.drop x.2.2.toNat) = td.length + tellsN l, fun x => l.length - x.2.2.toNat,
    ⟨trivial, (tk, td, 0), rfl, by simp, by simp, rfl, rfl⟩, ?_⟩
  rintro ⟨tk', td', i⟩ ⟨i1, i2, he, ht⟩
  dsimp only at i1 i2 he ht ⊢
  refine br_split (fun h4 => ?_) (fun h4 => ?_)
  · have h4 : i < l.length := of_decide_eq_true h4
    have hget := drop_get l i.toNat (C.zero 58) (by omega)
    have hw : wr .i64 (i + 1) = i + 1 := wr_i64 (by omega) (by omega)
    have hw2 : (i + 1).toNat = i.toNat + 1 := by omega
    rw [hget] at he ht
    have he : (codeIn p.Atoms.length p.Props.length (mset tk') (mset td') (l.getD i.toNat (C.zero 58)) && scan p.Atoms.length p.Props.length (l.drop (i.toNat + 1)) (tk1 (mset tk') (l.getD i.toNat (C.zero 58))) (td1 (mset td') (l.getD i.toNat (C.zero 58)))) = _ := he
    have ht : (td'.length : Int) + ((if tells (l.getD i.toNat (C.zero 58)) = true then 1 else 0) + tellsN (l.drop (i.toNat + 1))) = _ := ht
    refine And.intro ⟨i1, h4⟩ ?_
    refine And.intro ⟨trivial, trivial⟩ ?_
    refine ⟨l.getD i.toNat (C.zero 58), p, tk', td', rfl, rfl, ⟨hs1, hs2⟩, fun b tk2 td2 hn => ?_⟩
    generalize l.getD i.toNat (C.zero 58) = c at he ht hn
    obtain ⟨hb, hn⟩ := hn
    refine br_split (fun h5 => ?_) (fun h5 => ?_)
    · have h5 := not_true h5
      refine ⟨[], trivial, hK i tk2 td2 ⟨?_, fun h => ?_⟩⟩
      · rw [decide_eq_false (by omega), ← he, ← hb, h5, Bool.false_and]
      · have := of_decide_eq_true h; omega
    · have h5 := not_false' h5
      obtain ⟨n1, n2, n3⟩ := hn h5
      rw [← hb, h5, Bool.true_and, ← n1, ← n2] at he
      have nx : (0 ≤ wr .i64 (i + 1) ∧ wr .i64 (i + 1) ≤ l.length ∧ scan p.Atoms.length p.Props.length (l.drop (wr .i64 (i + 1)).toNat) (mset tk2) (mset td2) = scan p.Atoms.length p.Props.length l (mset tk) (mset td) ∧
          (td2.length : Int) + tellsN (l.drop (wr .i64 (i + 1)).toNat) = td.length + tellsN l) ∧ l.length - (wr .i64 (i + 1)).toNat < l.length - i.toNat := by
        rw [hw, hw2]
        exact ⟨⟨by omega, by omega, he, by omega⟩, by omega⟩
      exact And.intro trivial ⟨(_, _, _), rfl, nx.1, nx.2⟩
  · have h4 : ¬ i < l.length := of_decide_eq_false h4
    rw [List.drop_eq_nil_of_le (by omega)] at he ht
    refine ⟨[], trivial, hK (-1) tk' td' ⟨he, fun _ => ?_⟩⟩
    have ht : (td'.length : Int) + 0 = td.length + tellsN l := ht
    omega
def s42 : Spec Sg := fun args H K => ∃ (l : List CodeR) (p : ProgR) (tk td : List (Int × Unit)), args = [.imm 58 l, .fn 43 [.ptr 0 0 0]] ∧ H = lookH p tk td ∧ (p.Atoms.length ≤ 2000 ∧ p.Props.length ≤ 16 ∧ l.length ≤ 1000000000000) ∧
  ∀ b tk' td', scanNext p l tk td (!b) tk' td' → K (.bool b) (lookH p tk' td')
theorem f42_ok : FnOk Try.prog C 42 s42 := fn_ok mixed good goodM (gam [(62, s62)]) (gam_cons f62_ok gam_nil) Try.func42 (body_some (by kernel_rfl)) (by kernel_rfl) (by kernel_rfl) s42 fun args H K h => by
  obtain ⟨l, p, tk, td, rfl, rfl, hs, hK⟩ := h
  show abody C (gam [(62, s62)]) Try.f42 (bodyOf Try.f42) [.imm 58 l, .fn 43 [.ptr 0 0 0]] (lookH p tk td) K
  refine And.intro ⟨trivial, trivial⟩ ?_
  refine ⟨l, p, tk, td, rfl, rfl, hs, fun r tk' td' hn => ?_⟩
  refine ⟨[], trivial, hK _ tk' td' ?_⟩
  have e : (!decide (r ≥ 0)) = decide (r < 0) := by
    rw [← decide_not]; exact decide_eq_decide.2 (by omega)
  rw [e]; exact hn
end Ev
