/- For every row the law VmNone returns true, and its argument reads behind the call as it read before it. No condition. -/
import Derived.Test.YtbndhppjabbacaaT0
import Derived.Test.YtbndhppjabbacaaF31
namespace Go.Proofs.Ytbndhppjabbacaa
open Go.ChangeShapes Go.WideShapes Go.ChangeAt Go.RowKit
theorem vn_own : ownKnob Try.prog.godebug = none := by kernel_rfl
theorem vn_laid : laidOutB Try.prog = true := by kernel_rfl
theorem vn_calls {row : List Int} {v0 : Value} {w : World} (h0 : Ev.VR Ev.C (Ev.E0 w) (.imm 3 row) v0) :
    Calls Try.prog 5 #[v0] w fun e w' => e = .returned (.bool true) ∧ Below w.heap.size w w' := by
  have h := Ev.f5_ok [.imm 3 row] [] (fun v _ => v = .bool true) ⟨rfl, rfl, rfl⟩ (Ev.E0 w) w #[v0] (Ev.VRs.cons h0 Ev.VRs.nil) (Ev.hr0 w)
  rcases h with ⟨_, h⟩ | ⟨v, u, hr, _, _⟩
  · refine h.mono ?_
    rintro e w' ⟨v, u, H', E', rfl, rfl, hv, _, hx⟩
    cases hv
    exact ⟨rfl, Ev.below_of hx⟩
  · exfalso
    have hp : (program).run Try.prog w = .ok Try.prog w := rfl
    have hn : (Try.f5.name == "runtime.NumGoroutine") = false := by kernel_rfl
    have hb : Try.f5.body.isNone = false := by kernel_rfl
    simp only [callFunc, Sem.run_bind, hp, Result.andThen_ok, Try.func5, hn, hb, Bool.false_eq_true, if_false, Sem.run_pure] at hr
    cases hr
set_option maxRecDepth 100000 in
theorem vn_lifted (os : Os) (started : os.Started) (H : Type) (enc : TypeId × Value → H) :
    ReturnsInHanded {} Try.checked os 5 .any (Rows.vmNoneSpec.pre6 enc Try.prog Try.f5 Rows.vmNoneRow.domain false) (Rows.vmNoneSpec.post enc Try.prog Try.f5 false true false false) := by
  refine returnsInHanded_of_change (C := Try.checked) vn_own started (by kernel_rfl) Try.func5
    (ChangeSpec.witness6 (enc := enc) (C := Try.checked) false ⟨#[], #[.slice none 0 0], []⟩ 8 (by kernel_rfl) (by kernel_rfl) (by kernel_rfl) (by kernel_rfl)) ?_
  intro W base args ds gs before hval0 hW hcnd _
  have hval : ∀ (j : Nat) t v, Try.f5.params[j]? = some t → args[j]? = some v → Value.okWide Try.prog W .any base t v := hval0
  have hW' := hW
  obtain ⟨p, q, hA0, hV, rfl, hfz, hnd⟩ := hW
  have hA : DataW.TrodAll enc Try.prog W 0 (fun _ => true) true Try.f5.params.toList args.toList ds p := hA0
  rw [Try.params5] at hA hval
  obtain ⟨v0, d0, hargs, rfl, h0⟩ := trodAll_one hA
  subst hargs
  obtain ⟨rfl, rfl⟩ := trodVars_none hV
  obtain ⟨a1, len, cap, rfl⟩ := okWide_slice Try.underlying38 (hval 0 38 v0 rfl rfl)
  have k0 := h0
  obtain ⟨fuel0, k0⟩ := k0
  obtain ⟨v, row, hcs, hvr, _⟩ := Ev.read_slice (X := Ev.C) (e := 3) Try.underlying38 Ev.c3 (by decide) Ev.rv3 k0
  have hv1 : v = .slice a1 len cap := by
    simp [Value.cells] at hcs; exact hcs.symm
  subst hv1
  refine (vn_calls hvr).mono fun e W' ⟨he, hb⟩ => ?_
  subst he
  have hlt : ∀ x ∈ p, x.block < W.heap.size := fun x hx => hW'.lt x (by simpa using hx)
  refine ⟨_, rfl, _, _, _, [], p ++ [], [], hW', trodAll_mk1 (shut_bool Try.underlying4 true), ?_, ?_, Ev.kept_of hb _, fun h => by cases h⟩
  · exact ⟨p, [], Below.trod vn_laid (by kernel_rfl) (of_decide_eq_true (by kernel_rfl)) h0 hb (fun x hx => hlt x hx), rfl, rfl⟩
  · rfl
theorem vmNone_holds : Rows.VmNoneSaid :=
  OpenClaim.holds_of_wide 5 Try.f5 rfl rfl rfl rfl rfl rfl rfl ⟨rfl, rfl, rfl, rfl, rfl⟩ rfl rfl rfl rfl rfl (by kernel_rfl) Try.func5 (by kernel_rfl)
    (of_decide_eq_true (by kernel_rfl)) (by unfold Func.isWrapper; first | (rw [if_pos (by decide +kernel)]; kernel_rfl) | (rw [if_neg (by decide +kernel)]; exact ⟨rfl, rfl⟩))
    (fun os started H enc _ => vn_lifted os started H enc)
end Go.Proofs.Ytbndhppjabbacaa
