/- For every program and every rows the law VmSticks returns true, and both arguments read behind the call as they read before it. No condition. -/
import Derived.Test.YtbndhppjabbacaaT0
import Derived.Test.YtbndhppjabbacaaF32
namespace Go.Proofs.Ytbndhppjabbacaa
open Go.ChangeShapes Go.WideShapes Go.ChangeAt Go.RowKit
theorem vs_own : ownKnob Try.prog.godebug = none := by kernel_rfl
theorem vs_laid : laidOutB Try.prog = true := by kernel_rfl
theorem vs_calls {p : Ev.ProgR} {rows : List (List Int)} {v0 v1 : Value} {w : World} (h0 : Ev.VR Ev.C (Ev.E0 w) (.agg (Ev.enc28 p)) v0) (h1 : Ev.VR Ev.C (Ev.E0 w) (.imm 38 rows) v1) (hF : Ev.Fit p) :
    Calls Try.prog 3 #[v0, v1] w fun e w' => e = .returned (.bool true) ∧ Below w.heap.size w w' := by
  have h := Ev.f3_ok [.agg (Ev.enc28 p), .imm 38 rows] [] (fun v _ => v = .bool true) ⟨rfl, ⟨rfl, rfl⟩, hF, rfl⟩ (Ev.E0 w) w #[v0, v1] (Ev.VRs.cons h0 (Ev.VRs.cons h1 Ev.VRs.nil)) (Ev.hr0 w)
  rcases h with ⟨_, h⟩ | ⟨v, u, hr, _, _⟩
  · refine h.mono ?_
    rintro e w' ⟨v, u, H', E', rfl, rfl, hv, _, hx⟩
    cases hv
    exact ⟨rfl, Ev.below_of hx⟩
  · exfalso
    have hp : (program).run Try.prog w = .ok Try.prog w := rfl
    have hn : (Try.f3.name == "runtime.NumGoroutine") = false := by kernel_rfl
    have hb : Try.f3.body.isNone = false := by kernel_rfl
    simp only [callFunc, Sem.run_bind, hp, Result.andThen_ok, Try.func3, hn, hb, Bool.false_eq_true, if_false, Sem.run_pure] at hr
    cases hr
set_option maxRecDepth 100000 in
theorem vs_lifted (os : Os) (started : os.Started) (H : Type) (enc : TypeId × Value → H) :
    ReturnsInHanded {} Try.checked os 3 .any (Rows.vmSticksSpec.pre6 enc Try.prog Try.f3 Rows.vmSticksRow.domain false) (Rows.vmSticksSpec.post enc Try.prog Try.f3 false true false false) := by
  refine returnsInHanded_of_change (C := Try.checked) vs_own started (by kernel_rfl) Try.func3
    (ChangeSpec.witness6 (enc := enc) (C := Try.checked) false ⟨#[], #[.agg #[.int .i64 0, .int .i64 0, .int .i64 0, .slice none 0 0, .slice none 0 0, .slice none 0 0], .slice none 0 0], []⟩ 8 (by kernel_rfl) (by kernel_rfl) (by kernel_rfl) (by kernel_rfl)) ?_
  intro W base args ds gs before hval0 hW hcnd _
  have hval : ∀ (j : Nat) t v, Try.f3.params[j]? = some t → args[j]? = some v → Value.okWide Try.prog W .any base t v := hval0
  have hW' := hW
  obtain ⟨p, q, hA0, hV, rfl, hfz, hnd⟩ := hW
  have hA : DataW.TrodAll enc Try.prog W 0 (fun _ => true) true Try.f3.params.toList args.toList ds p := hA0
  rw [Try.params3] at hA hval
  obtain ⟨v0, v1, d0, d1, p0, p1, hargs, rfl, rfl, h0, h1⟩ := trodAll_two hA
  subst hargs
  obtain ⟨rfl, rfl⟩ := trodVars_none hV
  obtain ⟨c0, rfl, hc0⟩ := okWide_struct Try.underlying28 (hval 0 28 v0 rfl rfl)
  obtain ⟨a1, len, cap, rfl⟩ := okWide_slice Try.underlying29 (hval 1 29 v1 rfl rfl)
  have k0 := h0
  have k1 := h1
  obtain ⟨fuel0, k0⟩ := k0
  obtain ⟨fuel1, k1⟩ := k1
  obtain ⟨pr, hvr, hF⟩ := Ev.rv28 _ _ _ k0
  obtain ⟨v, rows, hcs, hvr1, _⟩ := Ev.read_slice (X := Ev.C) (e := 38) Try.underlying29 Ev.c38 (by decide) Ev.rv38 k1
  have hv1 : v = .slice a1 len cap := by
    simp [Value.cells] at hcs; exact hcs.symm
  subst hv1
  refine (vs_calls (Ev.vr_agg_mk hvr) hvr1 hF).mono fun e W' ⟨he, hb⟩ => ?_
  subst he
  have hlt : ∀ x ∈ p0 ++ p1, x.block < W.heap.size := fun x hx => hW'.lt x (by simpa using hx)
  refine ⟨_, rfl, _, _, _, [], p0 ++ (p1 ++ []), [], hW', trodAll_mk1 (shut_bool Try.underlying4 true), ?_, ?_, Ev.kept_of hb _, fun h => by cases h⟩
  · exact ⟨p0, p1 ++ [], Below.trod vs_laid (by kernel_rfl) (of_decide_eq_true (by kernel_rfl)) h0 hb (fun x hx => hlt x (List.mem_append_left _ hx)), ⟨p1, [], Below.trod vs_laid (by kernel_rfl) (of_decide_eq_true (by kernel_rfl)) h1 hb (fun x hx => hlt x (List.mem_append_right _ hx)), rfl, rfl⟩, rfl⟩
  · rfl
theorem vmSticks_holds : Rows.VmSticksSaid :=
  OpenClaim.holds_of_wide 3 Try.f3 rfl rfl rfl rfl rfl rfl rfl ⟨rfl, rfl, rfl, rfl, rfl⟩ rfl rfl rfl rfl rfl (by kernel_rfl) Try.func3 (by kernel_rfl)
    (of_decide_eq_true (by kernel_rfl)) (by unfold Func.isWrapper; first | (rw [if_pos (by decide +kernel)]; kernel_rfl) | (rw [if_neg (by decide +kernel)]; exact ⟨rfl, rfl⟩))
    (fun os started H enc _ => vs_lifted os started H enc)
end Go.Proofs.Ytbndhppjabbacaa
