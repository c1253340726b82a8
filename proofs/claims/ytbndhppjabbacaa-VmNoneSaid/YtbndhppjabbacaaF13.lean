/- Lemmas for the theorem: a part of the walk. -/
import Derived.Test.YtbndhppjabbacaaF12
namespace Ev
open Go Go.Proofs
set_option maxRecDepth 100000
def s26 : Spec Sg := p1 C 28 fun (p : ProgR) K => K (.int .i64 (verify p)) []
def G26 : FuncId → Spec Sg := gam [(35, s35), (36, s36), (39, s39), (42, s42), (45, s45), (46, s46), (47, s47)]
theorem G26_ok : ∀ f, FnOk Try.prog C f (G26 f) := gam_cons f35_ok (gam_cons f36_ok (gam_cons f39_ok (gam_cons f42_ok (gam_cons f45_ok (gam_cons f46_ok (gam_cons f47_ok gam_nil))))))
def ord26 : Nat → List (Nat × List Nat)
  | 9 => [(0, []), (1, []), (3, []), (4, []), (5, []), (2, [5]), (6, []), (7, []), (8, []), (9, []), (10, []), (11, []), (12, []), (13, []), (14, []), (15, []), (16, []), (17, []), (18, []), (19, []), (20, []), (21, []), (22, []), (23, []), (24, []), (25, []), (26, []), (27, []), (28, []), (29, []), (30, []), (31, []), (32, []), (33, []), (34, []), (35, []), (36, [33]), (37, []), (38, []), (39, [])]
  | _ => []
theorem any_not {α : Type} (f : α → Bool) (l : List α) : l.any (fun x => !f x) = !l.all f := by
  induction l with
  | nil => rfl
  | cons x r ih => rw [List.any_cons, List.all_cons, ih, Bool.not_and]
theorem v_leaf2 {p : ProgR} (h : verify p = if stkN p.Codes < 0 ∨ stkN p.Codes ≠ p.Stack ∨ leftN p.Codes ≠ 0 ∨ tellsN p.Codes ≠ p.Props.length ∨ p.Cells ≠ cellsN p.Codes then 50 else 0) :
    ((stkN p.Codes != p.Stack) = true → verify p = 50) ∧ ((stkN p.Codes != p.Stack) = false → decide (p.Stack < 0) = true → verify p = 50) ∧ ((leftN p.Codes != 0) = true → verify p = 50) ∧ ((tellsN p.Codes != p.Props.length) = true → verify p = 50) ∧
    ((p.Cells != cellsN p.Codes) = true → verify p = 50) ∧ ((stkN p.Codes != p.Stack) = false → decide (p.Stack < 0) = false → (leftN p.Codes != 0) = false → (tellsN p.Codes != p.Props.length) = false → (p.Cells != cellsN p.Codes) = false → verify p = 0) := by
  refine ⟨fun a => ?_, fun a b => ?_, fun a => ?_, fun a => ?_, fun a => ?_, fun a b c d e => ?_⟩ <;> rw [h] <;> simp only [decide_eq_true_eq, decide_eq_false_iff_not, bne_iff_ne, bne_eq_false_iff_eq, ne_eq] at * <;> split <;> first | rfl | (exfalso; omega)
set_option maxHeartbeats 1000000 in
theorem f26_ok : FnOk Try.prog C 26 s26 := fn_okO mixed good goodM G26 G26_ok Try.func26 (body_some (by kernel_rfl)) (by kernel_rfl) ord26 (by kernel_rfl) s26 fun args H K h => by
  obtain ⟨rfl, p, rfl, hK⟩ := of_p1 h
  clear h
  show abodyO C G26 ord26 Try.f26 (bodyOf Try.f26) [.agg (enc28 p)] [] K
  revert p
  intro (p : ProgR) hK
  refine br_split (fun h1 => ?_) (fun h1 => ?_)
  · exact ⟨[], trivial, to_int hK (v_long (by have := of_decide_eq_true h1; omega))⟩
  refine br_split (fun h2 => ?_) (fun h2 => ?_)
  · exact ⟨[], trivial, to_int hK (v_long (by have := of_decide_eq_true h2; omega))⟩
  refine br_split (fun h3 => ?_) (fun h3 => ?_)
  · exact ⟨[], trivial, to_int hK (v_long (by have := of_decide_eq_true h3; omega))⟩
  refine And.intro ⟨trivial, trivial, trivial, trivial⟩ ?_
  refine And.intro rfl ?_
  refine And.intro ⟨rfl, rfl, rfl⟩ ?_
  refine br_split (fun h4 => ?_) (fun h4 => ?_)
  · have h4 : (!within p.Signals 0 16) = true := h4
    have h4 := of_decide_eq_false (not_true h4)
    exact ⟨[], trivial, to_int hK (v_long (by omega))⟩
  have h4 : (!within p.Signals 0 16) = false := h4
  have h4 := of_decide_eq_true (not_false' h4)
  have hs : Sized p := by
    have := of_decide_eq_false h1; have := of_decide_eq_false h2; have := of_decide_eq_false h3
    unfold Sized; omega
  clear h1 h2 h3
  have hz := hs
  unfold Sized at hz
  refine And.intro ⟨trivial, trivial⟩ ?_
  refine ⟨p.Props, rfl, rfl, by omega, ?_⟩
  refine br_split (fun h5 => ?_) (fun h5 => ?_)
  · have h5 : p.Props.any (fun s => !isName s) = true := h5
    rw [any_not] at h5
    exact ⟨[], trivial, to_int hK (v_name hs (not_true h5))⟩
  have h5 : p.Props.any (fun s => !isName s) = false := h5
  rw [any_not] at h5
  have hn := not_false' h5
  clear h5
  refine And.intro ⟨trivial, trivial⟩ ?_
  refine ⟨p.Atoms, p, [], [], rfl, rfl, by omega, by omega, ?_⟩
  refine br_split (fun h6 => ?_) (fun h6 => ?_)
  · have h6 : p.Atoms.any (fun a => !atomOk p.Signals a) = true := h6
    rw [any_not] at h6
    exact ⟨[], trivial, to_int hK (v_atom hs hn (not_true h6))⟩
  have h6 : p.Atoms.any (fun a => !atomOk p.Signals a) = false := h6
  rw [any_not] at h6
  have ha := not_false' h6
  clear h6
  refine And.intro ⟨trivial, trivial⟩ ?_
  refine ⟨p.Codes, p, [], [], rfl, rfl, ⟨by omega, by omega, by omega⟩, fun b tk td hsc => ?_⟩
  obtain ⟨hb, hl⟩ := hsc
  have m0 : mset [] = none0 := rfl
  rw [m0] at hb
  refine br_split (fun h7 => ?_) (fun h7 => ?_)
  · subst h7
    exact ⟨[], trivial, to_int hK (v_scan hs hn hb.symm)⟩
  subst h7
  have hl := hl rfl
  have hl : (td.length : Int) = tellsN p.Codes := by rw [hl]; simp
  have hcp := scan_codeOk _ _ _ _ _ hb.symm
  have L := v_leaf2 (v_end hs hn ha hb.symm)
  have hlen : p.Codes.length ≤ 1000000000000 := by omega
  have hlen2 : p.Codes.length ≤ 2000 ∧ ∃ nA nP, ∀ c, c ∈ p.Codes → codeP nA nP c := ⟨by omega, _, _, hcp⟩
  clear hb hcp
  repeat' (first | refine And.intro ⟨trivial, trivial⟩ ?_ | refine And.intro rfl ?_ | refine And.intro hlen ?_ | refine And.intro hlen2 ?_ | refine br_true ?_ | refine br_false ?_ | (refine br_split (fun h => ?_) (fun h => ?_) <;> (try subst h)) | refine fun b hb => ?_)
  all_goals first
    | exact ⟨[], trivial, to_int hK (L.1 hb)⟩
    | exact ⟨[], trivial, to_int hK (L.2.2.1 hb)⟩
    | exact ⟨[], trivial, to_int hK (L.2.2.2.1 (hl ▸ hb))⟩
    | exact ⟨[], trivial, to_int hK (L.2.2.2.2.1 hb)⟩
    | (rename_i b1 b2 b3 b4; exact ⟨[], trivial, to_int hK (L.2.2.2.2.2 b1 b2 b3 (hl ▸ b4) hb)⟩)
    | (rename_i b1; exact ⟨[], trivial, to_int hK (L.2.1 b1 hb)⟩)
end Ev
