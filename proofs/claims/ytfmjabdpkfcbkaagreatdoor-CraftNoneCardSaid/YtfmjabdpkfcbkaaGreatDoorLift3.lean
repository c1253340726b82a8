/- The lifted statement of CraftNone. -/
import Derived.Test.YtfmjabdpkfcbkaaGreatDoorWit3
namespace Go.Proofs.YtfmjabdpkfcbkaaGreatDoor
open Go.ChangeShapes Go.WideShapes Go.ChangeAt Go.RowKit
theorem five {pr : Ev.L3.InputR} {c0 : Array Value} (h : (Ev.L3.enc25 pr).length = c0.toList.length) : ∃ u0 u1 u2 u3 u4, c0 = #[u0, u1, u2, u3, u4] := by
  obtain ⟨l⟩ := c0
  match l, h with
  | [a, b, c, d, e], _ => exact ⟨a, b, c, d, e, rfl⟩
set_option maxRecDepth 100000 in
theorem cn_lifted (os : Os) (started : os.Started) (H : Type) (enc : TypeId × Value → H) :
    ReturnsInHanded {} Tryz.checked os 3 .any (fun w args => (Rows.craftNoneSpec.pre enc Tryz.prog Tryz.f3 [] false w args ∧ laidMetH Tryz.prog cnLaid w) ∧ sizedMet enc Tryz.prog Tryz.f3 (OpenSpec.ofChange Rows.craftNoneSpec) false w args)
      (Rows.craftNoneSpec.post enc Tryz.prog Tryz.f3 false true false false) := by
  refine returnsInHanded_of_change_and (C := Tryz.checked) (X := fun w _ => laidMetH Tryz.prog cnLaid w) (fun _ _ _ hh h => h.of_heap hh) cn_own started (by kernel_rfl) Tryz.func3
    (cn_wit enc os) ?_
  intro W base args ds gs before hval0 hW _ _ _ _
  have hval : ∀ (j : Nat) t v, Tryz.f3.params[j]? = some t → args[j]? = some v → Value.okWide Tryz.prog W .any base t v := hval0
  have hW' := hW
  obtain ⟨p, q, hA0, hV, rfl, hfz, hnd⟩ := hW
  have hA : DataW.TrodAll enc Tryz.prog W 0 (fun _ => true) true Tryz.f3.params.toList args.toList ds p := hA0
  rw [Tryz.params3] at hA hval
  obtain ⟨v0, d0, hargs, rfl, h0⟩ := trodAll_one hA
  subst hargs
  obtain ⟨rfl, rfl⟩ := trodVars_none hV
  obtain ⟨c0, rfl, hc0⟩ := okWide_struct Tryz.underlying25 (hval 0 25 v0 rfl rfl)
  have k0 := h0
  obtain ⟨fuel0, k0⟩ := k0
  obtain ⟨pr, hvr, hn1, hn2⟩ := Ev.L3.rv25 _ _ _ k0
  obtain ⟨u0, u1, u2, u3, u4, rfl⟩ : ∃ u0 u1 u2 u3 u4, c0 = #[u0, u1, u2, u3, u4] := five hvr.1
  refine (Ev.CX3.law_calls u0 u1 u2 u3 u4 W (fun W2 hB => Ev.L3.light_calls hvr hn1 hn2 W2 hB)).mono fun e W' ⟨he, hb⟩ => ?_
  subst he
  have hlt : ∀ x ∈ p, x.block < W.heap.size := fun x hx => hW'.lt x (by simpa using hx)
  refine ⟨_, rfl, _, _, _, [], p ++ [], [], hW', trodAll_mk1 (shut_bool Tryz.underlying4 true), ?_, ?_, Ev.kept_of hb _, fun h => by cases h⟩
  · exact ⟨p, [], Below.trod cn_laidOut (by kernel_rfl) (of_decide_eq_true (by kernel_rfl)) h0 hb (fun x hx => hlt x hx), rfl, rfl⟩
  · rfl
end Go.Proofs.YtfmjabdpkfcbkaaGreatDoor
