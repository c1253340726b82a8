/- Lemmas for the theorem: a part of the walk. -/
import Derived.Test.YtbndhppjabbacaaF5
import Derived.Test.YtbndhppjabbacaaF6
import Derived.Test.YtbndhppjabbacaaPu4
namespace Ev
open Go Go.Proofs
set_option maxRecDepth 100000
def s8 : Spec Sg := p1 C 28 fun (p : ProgR) K => K (.int .i64 (verify p)) []
def G8 : FuncId → Spec Sg := gam [(21, s21), (22, s22), (23, s23), (24, s24), (25, s25)]
theorem G8_ok : ∀ f, FnOk Try.prog C f (G8 f) := gam_cons f21_ok (gam_cons f22_ok (gam_cons f23_ok (gam_cons f24_ok (gam_cons f25_ok gam_nil))))
def ord8 : Nat → List (Nat × List Nat)
  | 50 => [(0, []), (1, []), (2, []), (3, []), (4, []), (5, []), (6, []), (8, []), (9, []), (10, []), (7, [10]), (11, []), (12, []), (13, []), (14, []), (15, []), (16, []), (17, []), (18, []), (19, []), (20, []), (21, []), (22, []), (23, []), (24, []), (25, []), (26, []), (27, []), (28, []), (29, []), (30, [27]), (31, []), (32, [])]
  | _ => []
theorem all_drop {α : Type} (f : α → Bool) (l : List α) (i : Nat) (d : α) (h : i < l.length) : (l.drop i).all f = (f (l.getD i d) && (l.drop (i + 1)).all f) := by
  rw [drop_get l i d h]; rfl
/-- the ways out of Verify -/
theorem v_long {p : ProgR} (h : p.Codes.length > 2000 ∨ p.Atoms.length > 2000 ∨ p.Props.length > 16 ∨ p.Signals < 0 ∨ p.Signals > 16) : verify p = 2 := by unfold verify; rw [if_pos h]
def Sized (p : ProgR) : Prop := ¬ (p.Codes.length > 2000 ∨ p.Atoms.length > 2000 ∨ p.Props.length > 16 ∨ p.Signals < 0 ∨ p.Signals > 16)
theorem v_name {p : ProgR} (h : Sized p) (h' : p.Props.all isName = false) : verify p = 40 := by unfold verify; rw [if_neg h, if_pos h']
theorem v_atom {p : ProgR} (h : Sized p) (h' : p.Props.all isName = true) (h2 : p.Atoms.all (atomOk p.Signals) = false) : verify p = 50 := by
  unfold verify; rw [if_neg h, if_neg (by rw [h']; decide), if_pos h2]
theorem v_scan {p : ProgR} (h : Sized p) (h' : p.Props.all isName = true) (h3 : scan p.Atoms.length p.Props.length p.Codes none0 none0 = false) : verify p = 50 := by
  unfold verify; rw [if_neg h, if_neg (by rw [h']; decide), if_pos h3]
  exact ite_self _
theorem v_end {p : ProgR} (h : Sized p) (h' : p.Props.all isName = true) (h2 : p.Atoms.all (atomOk p.Signals) = true) (h3 : scan p.Atoms.length p.Props.length p.Codes none0 none0 = true) :
    verify p = if stkN p.Codes < 0 ∨ stkN p.Codes ≠ p.Stack ∨ leftN p.Codes ≠ 0 ∨ tellsN p.Codes ≠ p.Props.length ∨ p.Cells ≠ cellsN p.Codes then 50 else 0 := by
  unfold verify; rw [if_neg h, if_neg (by rw [h']; decide), if_neg (by rw [h2]; decide), if_neg (by rw [h3]; decide)]
theorem v_leaf {p : ProgR} (h : verify p = if stkN p.Codes < 0 ∨ stkN p.Codes ≠ p.Stack ∨ leftN p.Codes ≠ 0 ∨ tellsN p.Codes ≠ p.Props.length ∨ p.Cells ≠ cellsN p.Codes then 50 else 0) :
    (decide (stkN p.Codes < 0) = true → verify p = 50) ∧ ((stkN p.Codes != p.Stack) = true → verify p = 50) ∧ ((leftN p.Codes != 0) = true → verify p = 50) ∧ ((tellsN p.Codes != p.Props.length) = true → verify p = 50) ∧
    ((p.Cells != cellsN p.Codes) = true → verify p = 50) ∧ (decide (stkN p.Codes < 0) = false → (stkN p.Codes != p.Stack) = false → (leftN p.Codes != 0) = false → (tellsN p.Codes != p.Props.length) = false → (p.Cells != cellsN p.Codes) = false → verify p = 0) := by
  refine ⟨fun a => ?_, fun a => ?_, fun a => ?_, fun a => ?_, fun a => ?_, fun a b c d e => ?_⟩ <;> rw [h] <;> simp only [decide_eq_true_eq, decide_eq_false_iff_not, bne_iff_ne, bne_eq_false_iff_eq, ne_eq] at * <;> split <;> first | rfl | (exfalso; omega)
theorem left1_of {nA nP : Nat} {c : CodeR} (h : codeP nA nP c) : ((c.Do = 0 ∨ c.Do = 1 ∨ c.Do = 2) → left1 c = 1) ∧ ((c.Do = 3 ∨ c.Do = 6) → left1 c = 0) ∧ ((c.Do = 4 ∨ c.Do = 5) → 2 ≤ c.A ∧ c.A ≤ 300 ∧ left1 c = 1 - c.A) ∧ ((c.Do = 7 ∨ c.Do = 8) → left1 c = -1) ∧ 0 ≤ c.Do ∧ c.Do ≤ 8 := by
  unfold left1 codeP at *
  rcases mvs_cases c with ⟨hm, hc⟩ | ⟨t, q, hm, hc⟩ <;> rw [hm] <;> dsimp only <;> omega
set_option maxHeartbeats 1000000 in
theorem f8_ok : FnOk Try.prog C 8 s8 := fn_okO mixed good goodM G8 G8_ok Try.func8 (body_some (by kernel_rfl)) (by kernel_rfl) ord8 (by kernel_rfl) s8 fun args H K h => by
  obtain ⟨rfl, p, rfl, hK⟩ := of_p1 h
  clear h
  show abodyO C G8 ord8 Try.f8 (bodyOf Try.f8) [.agg (enc28 p)] [] K
  revert p
  intro (p : ProgR) hK
  refine br_split (fun h1 => ?_) (fun h1 => ?_)
  · exact ⟨[], trivial, to_int hK (v_long (by have := of_decide_eq_true h1; omega))⟩
  refine br_split (fun h2 => ?_) (fun h2 => ?_)
  · exact ⟨[], trivial, to_int hK (v_long (by have := of_decide_eq_true h2; omega))⟩
  refine br_split (fun h3 => ?_) (fun h3 => ?_)
  · exact ⟨[], trivial, to_int hK (v_long (by have := of_decide_eq_true h3; omega))⟩
  refine br_split (fun h4 => ?_) (fun h4 => ?_)
  · exact ⟨[], trivial, to_int hK (v_long (by have := of_decide_eq_true h4; omega))⟩
  refine br_split (fun h5 => ?_) (fun h5 => ?_)
  · exact ⟨[], trivial, to_int hK (v_long (by have := of_decide_eq_true h5; omega))⟩
  have hs : Sized p := by
    have := of_decide_eq_false h1; have := of_decide_eq_false h2; have := of_decide_eq_false h3; have := of_decide_eq_false h4; have := of_decide_eq_false h5
    unfold Sized; omega
  clear h1 h2 h3 h4 h5
  have hz := hs
  unfold Sized at hz
  -- names
  refine ⟨[1, 3], [], Int, fun i => (frameOf [(1, .ptr 0 0 0), (3, .int .i64 i)], [.cells (enc28 p)]), fun i => 0 ≤ i ∧ i ≤ p.Props.length ∧ (p.Props.drop i.toNat).all isName = p.Props.all isName, fun i => p.Props.length - i.toNat,
    ⟨trivial, 0, rfl, by simp, by simp, rfl⟩, ?_⟩
  rintro i ⟨i1, i2, he⟩
  refine br_split (fun h4 => ?_) (fun h4 => ?_)
  · have h4 : i < p.Props.length := of_decide_eq_true h4
    have hget := all_drop isName p.Props i.toNat (C.zero 9) (by omega)
    have hw : wr .i64 (i + 1) = i + 1 := wr_i64 (by omega) (by omega)
    have hw2 : (i + 1).toNat = i.toNat + 1 := by omega
    refine And.intro ⟨i1, h4⟩ ?_
    refine And.intro ⟨trivial, trivial⟩ ?_
    refine And.intro rfl ?_
    refine And.intro rfl ?_
    refine br_split (fun h5 => ?_) (fun h5 => ?_)
    · have h5 := not_true h5
      refine ⟨[], trivial, to_int hK (v_name hs ?_)⟩
      rw [← he, hget]
      exact (congrArg (· && _) h5).trans rfl
    · have h5 := not_false' h5
      refine And.intro trivial ⟨_, rfl, ⟨?_, ?_, ?_⟩, ?_⟩
      · rw [hw]; omega
      · rw [hw]; omega
      · rw [hw, hw2, ← he, hget]
        exact ((congrArg (· && _) h5).trans (Bool.true_and _)).symm
      · dsimp only; rw [hw]; omega
  have hn : p.Props.all isName = true := by
    have h4 : ¬ i < p.Props.length := of_decide_eq_false h4
    have : i = p.Props.length := by omega
    subst this
    rw [List.drop_eq_nil_of_le (by omega)] at he
    exact he.symm
  clear he h4 i1 i2
  -- atoms
  refine ⟨[1, 4], [], Int, fun i => (frameOf [(1, .ptr 0 0 0), (4, .int .i64 i)], [.cells (enc28 p)]), fun i => 0 ≤ i ∧ i ≤ p.Atoms.length ∧ (p.Atoms.drop i.toNat).all (atomOk p.Signals) = p.Atoms.all (atomOk p.Signals), fun i => p.Atoms.length - i.toNat,
    ⟨trivial, 0, rfl, by simp, by simp, rfl⟩, ?_⟩
  clear i
  rintro i ⟨i1, i2, he⟩
  refine br_split (fun h4 => ?_) (fun h4 => ?_)
  · have h4 : i < p.Atoms.length := of_decide_eq_true h4
    have hget := all_drop (atomOk p.Signals) p.Atoms i.toNat (C.zero 56) (by omega)
    have hw : wr .i64 (i + 1) = i + 1 := wr_i64 (by omega) (by omega)
    have hw2 : (i + 1).toNat = i.toNat + 1 := by omega
    refine And.intro ⟨i1, h4⟩ ?_
    have bad : atomOk p.Signals (p.Atoms.getD i.toNat (C.zero 56)) = false → verify p = 50 := by
      intro hb
      refine v_atom hs hn ?_
      rw [← he, hget, hb]; rfl
    have next : atomOk p.Signals (p.Atoms.getD i.toNat (C.zero 56)) = true → (0 ≤ wr .i64 (i + 1) ∧ wr .i64 (i + 1) ≤ p.Atoms.length ∧ (p.Atoms.drop (wr .i64 (i + 1)).toNat).all (atomOk p.Signals) = p.Atoms.all (atomOk p.Signals)) ∧ p.Atoms.length - (wr .i64 (i + 1)).toNat < p.Atoms.length - i.toNat := by
      intro hb
      refine ⟨⟨?_, ?_, ?_⟩, ?_⟩
      · rw [hw]; omega
      · rw [hw]; omega
      · rw [hw, hw2, ← he, hget, hb]; exact (Bool.true_and _).symm
      · rw [hw]; omega
    generalize hat : p.Atoms.getD i.toNat (C.zero 56) = a at bad next
    have hat' : List.getD p.Atoms i.toNat (C.zero 56) = a := hat
    refine br_split (fun h5 => ?_) (fun h5 => ?_)
    · refine ⟨[], trivial, to_int hK (bad ?_)⟩
      have h5 := of_decide_eq_true h5
      unfold atomOk; rw [decide_eq_false (by omega)]; rfl
    refine br_split (fun h6 => ?_) (fun h6 => ?_)
    · refine ⟨[], trivial, to_int hK (bad ?_)⟩
      have h6 := of_decide_eq_true h6
      unfold atomOk; rw [decide_eq_false (by omega)]; rfl
    have h5 := of_decide_eq_false h5
    have h6 := of_decide_eq_false h6
    have hlen : 1 ≤ a.Terms.length ∧ a.Terms.length ≤ 16 := by omega
    refine ⟨[1, 4, 5, 6], [], Int, fun k => (frameOf [(1, .ptr 0 0 0), (4, .int .i64 i), (5, .imm 62 a.Terms), (6, .int .i64 k)], [.cells (enc28 p)]),
      fun k => 0 ≤ k ∧ k ≤ a.Terms.length ∧ (a.Terms.drop k.toNat).all (fun w => decide (0 ≤ w.Signal ∧ w.Signal < p.Signals)) = a.Terms.all (fun w => decide (0 ≤ w.Signal ∧ w.Signal < p.Signals)), fun k => a.Terms.length - k.toNat,
      ⟨trivial, 0, rfl, by simp, by simp, rfl⟩, ?_⟩
    rintro k ⟨k1, k2, ke⟩
    refine br_split (fun k4 => ?_) (fun k4 => ?_)
    · have k4 : k < a.Terms.length := of_decide_eq_true k4
      have kget := all_drop (fun w => decide (0 ≤ w.Signal ∧ w.Signal < p.Signals)) a.Terms k.toNat (C.zero 62) (by omega)
      have kw : wr .i64 (k + 1) = k + 1 := wr_i64 (by omega) (by omega)
      have kw2 : (k + 1).toNat = k.toNat + 1 := by omega
      have kbad : decide (0 ≤ (a.Terms.getD k.toNat (C.zero 62)).Signal ∧ (a.Terms.getD k.toNat (C.zero 62)).Signal < p.Signals) = false → verify p = 50 := by
        intro hb
        refine bad ?_
        unfold atomOk
        rw [← ke, kget, hb, Bool.false_and, Bool.and_false]
      have knext : decide (0 ≤ (a.Terms.getD k.toNat (C.zero 62)).Signal ∧ (a.Terms.getD k.toNat (C.zero 62)).Signal < p.Signals) = true → (0 ≤ wr .i64 (k + 1) ∧ wr .i64 (k + 1) ≤ a.Terms.length ∧ (a.Terms.drop (wr .i64 (k + 1)).toNat).all (fun w => decide (0 ≤ w.Signal ∧ w.Signal < p.Signals)) = a.Terms.all (fun w => decide (0 ≤ w.Signal ∧ w.Signal < p.Signals))) ∧
          a.Terms.length - (wr .i64 (k + 1)).toNat < a.Terms.length - k.toNat := by
        intro hb
        refine ⟨⟨?_, ?_, ?_⟩, ?_⟩
        · rw [kw]; omega
        · rw [kw]; omega
        · rw [kw, kw2, ← ke, kget, hb, Bool.true_and]
        · rw [kw]; omega
      refine And.intro ⟨k1, k4⟩ ?_
      refine br_split (fun h7 => ?_) (fun h7 => ?_)
      · exact ⟨[], trivial, to_int hK (kbad (decide_eq_false (by have := of_decide_eq_true h7; exact fun hc => absurd this (Int.not_lt.2 hc.1))))⟩
      refine And.intro ⟨k1, k4⟩ ?_
      refine br_split (fun h8 => ?_) (fun h8 => ?_)
      · exact ⟨[], trivial, to_int hK (kbad (decide_eq_false (by have := of_decide_eq_true h8; exact fun hc => absurd hc.2 (Int.not_lt.2 this))))⟩
      · have h7 := of_decide_eq_false h7
        have h8 := of_decide_eq_false h8
        have := knext (decide_eq_true ⟨Int.not_lt.1 h7, Int.not_le.1 h8⟩)
        exact And.intro trivial ⟨_, rfl, this.1, this.2⟩
    · have hkk : a.Terms.all (fun w => decide (0 ≤ w.Signal ∧ w.Signal < p.Signals)) = true := by
        have k4 : ¬ k < a.Terms.length := of_decide_eq_false k4
        have : k = a.Terms.length := by omega
        subst this
        rw [List.drop_eq_nil_of_le (by omega)] at ke
        exact ke.symm
      have := next (by unfold atomOk; rw [hkk, decide_eq_true hlen]; rfl)
      exact And.intro trivial ⟨_, rfl, this.1, this.2⟩
  have ha : p.Atoms.all (atomOk p.Signals) = true := by
    have h4 : ¬ i < p.Atoms.length := of_decide_eq_false h4
    have : i = p.Atoms.length := by omega
    subst this
    rw [List.drop_eq_nil_of_le (by omega)] at he
    exact he.symm
  clear he h4 i1 i2
  -- codes
  refine ⟨[1, 7, 8, 9, 10, 11], [], List Bool × List Bool × Int × Int × Int, fun (tk, td, now, te, i) => (frameOf [(1, .ptr 0 0 0), (7, .ptr 1 0 0), (8, .ptr 2 0 0), (9, .int .i64 now), (10, .int .i64 te), (11, .int .i64 i)], [.cells (enc28 p), .lst 4 tk, .lst 4 td]),
    fun (tk, td, now, te, i) => 0 ≤ i ∧ i ≤ p.Codes.length ∧ tk.length = 20000 ∧ td.length = 16 ∧ scan p.Atoms.length p.Props.length (p.Codes.drop i.toNat) (fnOf tk) (fnOf td) = scan p.Atoms.length p.Props.length p.Codes none0 none0 ∧
      now + leftN (p.Codes.drop i.toNat) = leftN p.Codes ∧ te + tellsN (p.Codes.drop i.toNat) = tellsN p.Codes ∧ -(300 * i) ≤ now ∧ now ≤ i ∧ 0 ≤ te ∧ te ≤ i, fun x => p.Codes.length - x.2.2.2.2.toNat,
    ⟨trivial, (List.replicate 20000 false, List.replicate 16 false, 0, 0, 0), rfl, by simp, by simp, by simp, by simp, by rw [fnOf_rep, fnOf_rep]; rfl, by simp, by simp, by simp, by simp, by simp, by simp⟩, ?_⟩
  clear i
  rintro ⟨tk, td, now, te, i⟩ ⟨i1, i2, ltk, ltd, he, hl, ht, n1, n2, t1, t2⟩
  refine br_split (fun h4 => ?_) (fun h4 => ?_)
  · have h4 : i < p.Codes.length := of_decide_eq_true h4
    have hget := drop_get p.Codes i.toNat (C.zero 58) (by omega)
    have hw : wr .i64 (i + 1) = i + 1 := wr_i64 (by omega) (by omega)
    have hw2 : (i + 1).toNat = i.toNat + 1 := by omega
    refine And.intro ⟨i1, h4⟩ ?_
    rw [hget] at he hl ht
    have hget' : List.getD p.Codes i.toNat (C.zero 58) = p.Codes.getD i.toNat (C.zero 58) := rfl
    generalize p.Codes.getD i.toNat (C.zero 58) = c at he hl ht
    have hsc : scan p.Atoms.length p.Props.length (c :: p.Codes.drop (i.toNat + 1)) (fnOf tk) (fnOf td) = (codeIn p.Atoms.length p.Props.length (fnOf tk) (fnOf td) c && scan p.Atoms.length p.Props.length (p.Codes.drop (i.toNat + 1)) (tk1 (fnOf tk) c) (td1 (fnOf td) c)) := rfl
    rw [hsc] at he
    clear hsc
    have bad : codeIn p.Atoms.length p.Props.length (fnOf tk) (fnOf td) c = false → verify p = 50 := by
      intro hb
      refine v_scan hs hn ?_
      rw [← he, hb]; rfl
    refine And.intro ⟨trivial, trivial, trivial⟩ ?_
    refine And.intro rfl ?_
    refine And.intro ⟨rfl, rfl⟩ ?_
    refine br_split (fun h5 => ?_) (fun h5 => ?_)
    · have h5 := not_true h5
      refine ⟨[], trivial, to_int hK (bad ?_)⟩
      unfold codeIn
      exact (congrArg (fun b => b && free (fnOf tk) c.A (own c).toNat && (!tells c || !fnOf td c.A)) h5).trans rfl
    have h5 : codeOk p.Atoms.length p.Props.length c = true := not_false' h5
    have hcp := codeOk_iff.1 h5
    clear hget' hget
    have ow := own_range c
    have hin : codeIn p.Atoms.length p.Props.length (fnOf tk) (fnOf td) c = (free (fnOf tk) c.A (own c).toNat && (!tells c || !fnOf td c.A)) := by unfold codeIn; rw [h5, Bool.true_and]
    refine ⟨[1, 7, 8, 9, 10, 11, 12, 13], [], List Bool × Int, fun (tk', k) => (frameOf [(1, .ptr 0 0 0), (7, .ptr 1 0 0), (8, .ptr 2 0 0), (9, .int .i64 now), (10, .int .i64 te), (11, .int .i64 i), (12, .ptr 3 0 0), (13, .int .i64 k)], [.cells (enc28 p), .lst 4 tk', .lst 4 td, .cells (enc58 c)]),
      fun (tk', k) => 0 ≤ k ∧ k ≤ own c ∧ tk'.length = 20000 ∧ fnOf tk' = took (fnOf tk) c.A k ∧ free (fnOf tk) c.A k.toNat = true, fun x => (own c).toNat - x.2.toNat,
      ⟨trivial, (tk, 0), rfl, by simp, ow.1, ltk, (took_zero _ _).symm, rfl⟩, ?_⟩
    rintro ⟨tk', k⟩ ⟨k1, k2, lk, kt, kf⟩
    refine And.intro ⟨trivial, trivial⟩ ?_
    refine And.intro rfl ?_
    refine And.intro rfl ?_
    refine br_split (fun k4 => ?_) (fun k4 => ?_)
    · have k4 : k < own c := of_decide_eq_true k4
      have hA := code_own hcp (by omega)
      have aw : wr .i64 (c.A + k) = c.A + k := wr_i64 (by omega) (by omega)
      have kw : wr .i64 (k + 1) = k + 1 := wr_i64 (by omega) (by omega)
      have kw2 : (k + 1).toNat = k.toNat + 1 := by omega
      have e1 : c.A + ((k.toNat : Nat) : Int) = c.A + k := by omega
      have hk : fnOf tk' (c.A + k) = fnOf tk (c.A + k) := by rw [kt]; unfold took; rw [decide_eq_false (by omega), Bool.or_false]
      have ob : 0 ≤ wr .i64 (c.A + k) ∧ wr .i64 (c.A + k) < 20000 := by rw [aw]; omega
      have ob2 : (wr .i64 (c.A + k)).toNat < tk'.length := by rw [aw]; omega
      have hr : List.getD tk' (wr .i64 (c.A + k)).toNat (C.zero 4) = fnOf tk (c.A + k) := by
        rw [aw, ← hk, fnOf_get (by omega)]; rfl
      refine And.intro ob ?_
      refine And.intro ob2 ?_
      refine br_split (fun h7 => ?_) (fun h7 => ?_)
      · refine ⟨[], trivial, to_int hK (bad ?_)⟩
        have h7 := hr.symm.trans h7
        rw [hin, free_hit (k := k.toNat) (by omega) (by rw [e1]; exact h7), Bool.false_and]
      · have h7 := hr.symm.trans h7
        refine And.intro ob ?_
        refine And.intro ⟨trivial, ob2⟩ ?_
        refine And.intro trivial ⟨(_, _), rfl, ⟨?_, ?_, ?_, ?_, ?_⟩, ?_⟩
        · rw [kw]; omega
        · rw [kw]; omega
        · rw [List.length_set]; exact lk
        · rw [kw, aw]
          refine (fnOf_set (by omega) (by omega)).trans ?_
          rw [kt]
          exact took_succ _ _ _ k1
        · rw [kw, kw2, free_succ, kf, e1, h7]; rfl
        · dsimp only; rw [kw]; omega
    have k4 : ¬ k < own c := of_decide_eq_false k4
    have : k = own c := by omega
    subst this
    clear k1 k2 k4
    rw [kf, Bool.true_and] at hin
    have lo := left1_of hcp
    have l1 : -299 ≤ left1 c ∧ left1 c ≤ 1 := by omega
    have next : ∀ td' now' te', List.length td' = 16 → fnOf td' = td1 (fnOf td) c → (!tells c || !fnOf td c.A) = true → now' = now + left1 c → te' = te + (if tells c = true then 1 else 0) →
        (0 ≤ wr .i64 (i + 1) ∧ wr .i64 (i + 1) ≤ p.Codes.length ∧ tk'.length = 20000 ∧ td'.length = 16 ∧ scan p.Atoms.length p.Props.length (p.Codes.drop (wr .i64 (i + 1)).toNat) (fnOf tk') (fnOf td') = scan p.Atoms.length p.Props.length p.Codes none0 none0 ∧
          now' + leftN (p.Codes.drop (wr .i64 (i + 1)).toNat) = leftN p.Codes ∧ te' + tellsN (p.Codes.drop (wr .i64 (i + 1)).toNat) = tellsN p.Codes ∧ -(300 * wr .i64 (i + 1)) ≤ now' ∧ now' ≤ wr .i64 (i + 1) ∧ 0 ≤ te' ∧ te' ≤ wr .i64 (i + 1)) ∧
        p.Codes.length - (wr .i64 (i + 1)).toNat < p.Codes.length - i.toNat := by
      intro td' now' te' h1 h2 h3 h4 h5
      have e1 : leftN (c :: p.Codes.drop (i.toNat + 1)) = left1 c + leftN (p.Codes.drop (i.toNat + 1)) := rfl
      have e2 : tellsN (c :: p.Codes.drop (i.toNat + 1)) = (if tells c = true then 1 else 0) + tellsN (p.Codes.drop (i.toNat + 1)) := rfl
      rw [hin, h3, Bool.true_and] at he
      rw [hw, hw2, h2, kt]
      have b1 : (0 : Int) ≤ (if tells c = true then 1 else 0) ∧ (if tells c = true then 1 else 0 : Int) ≤ 1 := by split <;> omega
      refine ⟨⟨by omega, by omega, lk, h1, he, by omega, by omega, by omega, by omega, by omega, by omega⟩, by omega⟩
    clear he hl ht
    refine br_split (fun h8 => ?_) (fun h8 => ?_)
    · have h8 : c.Do = 8 := by simpa using h8
      have hA : 0 ≤ c.A ∧ c.A < 16 := by unfold codeP at hcp; omega
      have hA2 : c.A.toNat < td.length := by omega
      have tt8 : tells c = true := by unfold tells; exact decide_eq_true h8
      have hr : List.getD td c.A.toNat (C.zero 4) = fnOf td c.A := (fnOf_get hA.1).symm
      refine And.intro hA ?_
      refine And.intro hA2 ?_
      refine br_split (fun h9 => ?_) (fun h9 => ?_)
      · have h9 := hr.symm.trans h9
        exact ⟨[], trivial, to_int hK (bad (by rw [hin, tt8, h9]; rfl))⟩
      · have h9 := hr.symm.trans h9
        have nx := next (td.set c.A.toNat true) (wr .i64 (now - 1)) (wr .i64 (te + 1)) (by rw [List.length_set]; exact ltd)
          (by rw [fnOf_set hA.1 hA2]; funext x; unfold td1; rw [tt8, Bool.true_and])
          (by rw [h9]; simp) (by rw [wr_i64 (by omega) (by omega)]; omega) (by rw [wr_i64 (by omega) (by omega), tt8]; simp)
        refine And.intro hA ?_
        refine And.intro ⟨trivial, hA2⟩ ?_
        repeat' (first | refine br_true ?_ | refine br_false ?_ | (refine br_split (fun h => ?_) (fun h => ?_)))
        all_goals first
          | exact And.intro trivial ⟨(_, _, _, _, _), rfl, nx.1, nx.2⟩
          | (exfalso; simp [h8] at h)
    · have h8 : c.Do ≠ 8 := by simpa using h8
      have tt8 : tells c = false := by unfold tells; exact decide_eq_false h8
      have nx := fun now' h => next td now' te ltd (by funext x; unfold td1; rw [tt8, Bool.false_and, Bool.or_false]) (by rw [tt8]; rfl) h (by rw [tt8]; simp)
      repeat' (first | refine br_true ?_ | refine br_false ?_ | (refine br_split (fun h => ?_) (fun h => ?_)))
      all_goals
        refine And.intro trivial ⟨(_, _, _, _, _), rfl, nx _ ?_⟩
        simp only [beq_iff_eq, beq_eq_false_iff_ne, ne_eq] at *
        first | omega | (rw [wr_i64 (by omega) (by omega)]; omega) | (rw [wr_i64 (n := now - c.A) (by omega) (by omega), wr_i64 (by omega) (by omega)]; omega)
  · have hsc : scan p.Atoms.length p.Props.length p.Codes none0 none0 = true := by
      have h4 : ¬ i < p.Codes.length := of_decide_eq_false h4
      have : i = p.Codes.length := by omega
      subst this
      rw [List.drop_eq_nil_of_le (by omega)] at he
      exact he.symm
    have e1 : now = leftN p.Codes := by
      have h4 : ¬ i < p.Codes.length := of_decide_eq_false h4
      rw [List.drop_eq_nil_of_le (by omega)] at hl
      simp only [leftN] at hl; omega
    have e2 : te = tellsN p.Codes := by
      have h4 : ¬ i < p.Codes.length := of_decide_eq_false h4
      rw [List.drop_eq_nil_of_le (by omega)] at ht
      simp only [tellsN] at ht; omega
    have hlen : p.Codes.length ≤ 1000000000000 := by omega
    have L := v_leaf (v_end hs hn ha hsc)
    clear he hl ht hsc
    repeat' (first | refine And.intro ⟨trivial, trivial⟩ ?_ | refine And.intro rfl ?_ | refine And.intro hlen ?_ | refine br_true ?_ | refine br_false ?_ | (refine br_split (fun h => ?_) (fun h => ?_) <;> (try subst h)) | refine fun b hb => ?_)
    all_goals first
      | exact ⟨[], trivial, to_int hK (L.1 hb)⟩
      | exact ⟨[], trivial, to_int hK (L.2.1 hb)⟩
      | exact ⟨[], trivial, to_int hK (L.2.2.1 (e1 ▸ hb))⟩
      | exact ⟨[], trivial, to_int hK (L.2.2.2.1 (e2 ▸ hb))⟩
      | exact ⟨[], trivial, to_int hK (L.2.2.2.2.1 hb)⟩
      | (rename_i b1 b2 b3 b4; exact ⟨[], trivial, to_int hK (L.2.2.2.2.2 b1 b2 (e1 ▸ b3) (e2 ▸ b4) hb)⟩)
end Ev
