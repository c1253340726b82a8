/- For every program, every rows and every further numbers the law VmShort returns true, and all arguments read behind the call as they read before it. No condition. -/
import Derived.Test.YtbndhppjabbacaaT0
import Derived.Test.YtbndhppjabbacaaF33
namespace Go.Proofs.Ytbndhppjabbacaa
open Go.ChangeShapes Go.WideShapes Go.ChangeAt Go.RowKit
theorem vh_own : ownKnob Try.prog.godebug = none := by kernel_rfl
theorem vh_laid : laidOutB Try.prog = true := by kernel_rfl
theorem vh_calls {p : Ev.ProgR} {rows : List (List Int)} {more : List Int} {v0 v1 v2 : Value} {w : World} (h0 : Ev.VR Ev.C (Ev.E0 w) (.agg (Ev.enc28 p)) v0) (h1 : Ev.VR Ev.C (Ev.E0 w) (.imm 38 rows) v1) (h2 : Ev.VR Ev.C (Ev.E0 w) (.imm 3 more) v2) (hF : Ev.Fit p) :
    Calls Try.prog 4 #[v0, v1, v2] w fun e w' => e = .returned (.bool true) ∧ Below w.heap.size w w' := by
  have h := Ev.f4_ok [.agg (Ev.enc28 p), .imm 38 rows, .imm 3 more] [] (fun v _ => v = .bool true) ⟨rfl, ⟨rfl, rfl, rfl⟩, hF, rfl⟩ (Ev.E0 w) w #[v0, v1, v2] (Ev.VRs.cons h0 (Ev.VRs.cons h1 (Ev.VRs.cons h2 Ev.VRs.nil))) (Ev.hr0 w)
  rcases h with ⟨_, h⟩ | ⟨v, u, hr, _, _⟩
  · refine h.mono ?_
    rintro e w' ⟨v, u, H', E', rfl, rfl, hv, _, hx⟩
    cases hv
    exact ⟨rfl, Ev.below_of hx⟩
  · exfalso
    have hp : (program).run Try.prog w = .ok Try.prog w := rfl
    have hn : (Try.f4.name == "runtime.NumGoroutine") = false := by kernel_rfl
    have hb : Try.f4.body.isNone = false := by kernel_rfl
    simp only [callFunc, Sem.run_bind, hp, Result.andThen_ok, Try.func4, hn, hb, Bool.false_eq_true, if_false, Sem.run_pure] at hr
    cases hr
set_option maxRecDepth 100000 in
theorem vh_lifted (os : Os) (started : os.Started) (H : Type) (enc : TypeId × Value → H) :
    ReturnsInHanded {} Try.checked os 4 .any (Rows.vmShortSpec.pre6 enc Try.prog Try.f4 Rows.vmShortRow.domain false) (Rows.vmShortSpec.post enc Try.prog Try.f4 false true false false) := by
  refine returnsInHanded_of_change (C := Try.checked) vh_own started (by kernel_rfl) Try.func4
    (ChangeSpec.witness6 (enc := enc) (C := Try.checked) false ⟨#[], #[.agg #[.int .i64 0, .int .i64 0, .int .i64 0, .slice none 0 0, .slice none 0 0, .slice none 0 0], .slice none 0 0, .slice none 0 0], []⟩ 8 (by kernel_rfl) (by kernel_rfl) (by kernel_rfl) (by kernel_rfl)) ?_
  intro W base args ds gs before hval0 hW hcnd _
  have hval : ∀ (j : Nat) t v, Try.f4.params[j]? = some t → args[j]? = some v → Value.okWide Try.prog W .any base t v := hval0
  have hW' := hW
  obtain ⟨p, q, hA0, hV, rfl, hfz, hnd⟩ := hW
  have hA : DataW.TrodAll enc Try.prog W 0 (fun _ => true) true Try.f4.params.toList args.toList ds p := hA0
  rw [Try.params4] at hA hval
  obtain ⟨v0, v1, v2, d0, d1, d2, p0, p1, p2, hargs, rfl, rfl, h0, h1, h2⟩ := trodAll_three hA
  subst hargs
  obtain ⟨rfl, rfl⟩ := trodVars_none hV
  obtain ⟨c0, rfl, hc0⟩ := okWide_struct Try.underlying28 (hval 0 28 v0 rfl rfl)
  obtain ⟨a1, len, cap, rfl⟩ := okWide_slice Try.underlying29 (hval 1 29 v1 rfl rfl)
  obtain ⟨a2, len2, cap2, rfl⟩ := okWide_slice Try.underlying38 (hval 2 38 v2 rfl rfl)
  have k0 := h0
  have k1 := h1
  have k2 := h2
  obtain ⟨fuel0, k0⟩ := k0
  obtain ⟨fuel1, k1⟩ := k1
  obtain ⟨fuel2, k2⟩ := k2
  obtain ⟨pr, hvr, hF⟩ := Ev.rv28 _ _ _ k0
  obtain ⟨v, rows, hcs, hvr1, _⟩ := Ev.read_slice (X := Ev.C) (e := 38) Try.underlying29 Ev.c38 (by decide) Ev.rv38 k1
  obtain ⟨v', more, hcs2, hvr2, _⟩ := Ev.read_slice (X := Ev.C) (e := 3) Try.underlying38 Ev.c3 (by decide) Ev.rv3 k2
  have hv1 : v = .slice a1 len cap := by
    simp [Value.cells] at hcs; exact hcs.symm
  have hv2 : v' = .slice a2 len2 cap2 := by
    simp [Value.cells] at hcs2; exact hcs2.symm
  subst hv1; subst hv2
  refine (vh_calls (Ev.vr_agg_mk hvr) hvr1 hvr2 hF).mono fun e W' ⟨he, hb⟩ => ?_
  subst he
  have hlt : ∀ x ∈ p0 ++ (p1 ++ p2), x.block < W.heap.size := fun x hx => hW'.lt x (by simpa using hx)
  refine ⟨_, rfl, _, _, _, [], p0 ++ (p1 ++ (p2 ++ [])), [], hW', trodAll_mk1 (shut_bool Try.underlying4 true), ?_, ?_, Ev.kept_of hb _, fun h => by cases h⟩
  · exact ⟨p0, p1 ++ (p2 ++ []), Below.trod vh_laid (by kernel_rfl) (of_decide_eq_true (by kernel_rfl)) h0 hb (fun x hx => hlt x (List.mem_append_left _ hx)),
      ⟨p1, p2 ++ [], Below.trod vh_laid (by kernel_rfl) (of_decide_eq_true (by kernel_rfl)) h1 hb (fun x hx => hlt x (List.mem_append_right _ (List.mem_append_left _ hx))),
        ⟨p2, [], Below.trod vh_laid (by kernel_rfl) (of_decide_eq_true (by kernel_rfl)) h2 hb (fun x hx => hlt x (List.mem_append_right _ (List.mem_append_right _ hx))), rfl, rfl⟩, rfl⟩, rfl⟩
  · rfl
theorem vmShort_holds : Rows.VmShortSaid :=
  OpenClaim.holds_of_wide 4 Try.f4 rfl rfl rfl rfl rfl rfl rfl ⟨rfl, rfl, rfl, rfl, rfl⟩ rfl rfl rfl rfl rfl (by kernel_rfl) Try.func4 (by kernel_rfl)
    (of_decide_eq_true (by kernel_rfl)) (by unfold Func.isWrapper; first | (rw [if_pos (by decide +kernel)]; kernel_rfl) | (rw [if_neg (by decide +kernel)]; exact ⟨rfl, rfl⟩))
    (fun os started H enc _ => vh_lifted os started H enc)
end Go.Proofs.Ytbndhppjabbacaa
