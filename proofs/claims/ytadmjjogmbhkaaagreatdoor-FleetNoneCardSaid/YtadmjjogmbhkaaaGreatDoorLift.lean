/- A start at which the row's condition holds. The lifted statement of FleetNone. -/
import Derived.ProofKit
import Derived.Lay
import Derived.MakeChecks
import Derived.OpenShut
import Derived.Stop.Joined
import Derived.Test.YtadmjjogmbhkaaaGreatDoorRows
import Derived.Test.YtadmjjogmbhkaaaGreatDoorLawRun
import Derived.Test.YtadmjjogmbhkaaaGreatDoorEvT
namespace Go.Proofs.YtadmjjogmbhkaaaGreatDoor
open Go.ChangeShapes Go.WideShapes Go.ChangeAt Go.RowKit
theorem cn_own : ownKnob Tryz.prog.godebug = none := by kernel_rfl
theorem cn_laidOut : laidOutB Tryz.prog = true := by kernel_rfl
abbrev cnLaid : List (String × DataW Unit) := Rows.fleetNoneRow.laid
theorem cn_plain : (cnLaid.all fun x => x.2.handleName?.isNone) = true := by kernel_rfl
theorem cn_fits (os : Os) : (World.holding Tryz.prog os ⟨#[], #[], []⟩).layFits Tryz.prog cnLaid [] = true := by kernel_rfl
theorem cn_ifaces (os : Os) : (World.holding Tryz.prog os ⟨#[], #[], []⟩).layIfaces Tryz.prog cnLaid (World.laidAll Tryz.prog os cnLaid) = true := by kernel_rfl
theorem cn_met (os : Os) (args : Array Value) : laidMetH Tryz.prog cnLaid ((World.laidAll Tryz.prog os cnLaid).forCall (fun _ _ => 0) ⟨#[], args, []⟩).memory := by
  rw [MakeChecks.laidMetH_plain _ _ _ cn_plain]
  exact laidMet_laidAll _ (cn_fits os) (cn_ifaces os)
abbrev cnArgs : Array Value := #[.slice none 0 0, .int .i64 0]
noncomputable abbrev cnStart (os : Os) : World := (World.laidAll Tryz.prog os cnLaid).forCall (fun _ _ => 0) ⟨#[], cnArgs, []⟩
theorem cn_shaped (os : Os) : (cnStart os).Shaped Tryz.checked.prog := World.shaped_of_ZipB (by kernel_rfl) (by kernel_rfl)
theorem cn_okw (os : Os) : Input.okWideB Tryz.checked.prog (cnStart os) 3 ⟨#[], cnArgs, []⟩ = true := by kernel_rfl
theorem cn_preB {H : Type} (enc : TypeId × Value → H) (os : Os) : Rows.fleetNoneSpec.preB enc Tryz.checked.prog Tryz.f3 [] false (cnStart os).memory cnArgs 8 = true := by kernel_rfl
theorem cn_szB {H : Type} (enc : TypeId × Value → H) (os : Os) : Rows.fleetNoneSpec.sizedB enc Tryz.checked.prog Tryz.f3 false (cnStart os).memory cnArgs 8 = true := by kernel_rfl
theorem cn_wit {H : Type} (enc : TypeId × Value → H) (os : Os) : ∃ (w : World) (tape : Tape) (i : Input), w.os = os ∧ (w.forCall tape i).Shaped Tryz.checked.prog ∧ i.vars = [] ∧ Input.okWide Tryz.checked.prog (w.forCall tape i) .any w.heap.size 3 i ∧
      ((Rows.fleetNoneSpec.pre enc Tryz.checked.prog Tryz.f3 [] false (w.forCall tape i).memory i.args ∧ laidMetH Tryz.prog cnLaid (w.forCall tape i).memory) ∧ sizedMet enc Tryz.checked.prog Tryz.f3 (OpenSpec.ofChange Rows.fleetNoneSpec) false (w.forCall tape i).memory i.args) ∧ ({ modest := false } : Assume).holds Tryz.checked.prog (lone (Frame.enter Tryz.checked.prog 3 i.args .normal) [] (w.forCall tape i)) :=
  ChangeSpec.witness_shaped (enc := enc) (C := Tryz.checked) (os := os) (X := fun w _ => laidMetH Tryz.prog cnLaid w) false (World.laidAll Tryz.prog os cnLaid) cnArgs 8 (World.laidAll_os _ _ _) (cn_shaped os) (cn_okw os) (cn_preB enc os) (cn_szB enc os) (cn_met os _)
end Go.Proofs.YtadmjjogmbhkaaaGreatDoor
namespace Go.Proofs.YtadmjjogmbhkaaaGreatDoor
open Go.ChangeShapes Go.WideShapes Go.ChangeAt Go.RowKit
set_option maxRecDepth 100000 in
theorem cn_lifted (os : Os) (started : os.Started) (H : Type) (enc : TypeId × Value → H) :
    ReturnsInHanded {} Tryz.checked os 3 .any (fun w args => (Rows.fleetNoneSpec.pre enc Tryz.prog Tryz.f3 [] false w args ∧ laidMetH Tryz.prog cnLaid w) ∧ sizedMet enc Tryz.prog Tryz.f3 (OpenSpec.ofChange Rows.fleetNoneSpec) false w args)
      (Rows.fleetNoneSpec.post enc Tryz.prog Tryz.f3 false true false false) := by
  refine returnsInHanded_of_change_and (C := Tryz.checked) (X := fun w _ => laidMetH Tryz.prog cnLaid w) (fun _ _ _ hh h => h.of_heap hh) cn_own started (by kernel_rfl) Tryz.func3
    (cn_wit enc os) ?_
  intro W base args ds gs before hval0 hW _ _ _ _
  have hval : ∀ (j : Nat) t v, Tryz.f3.params[j]? = some t → args[j]? = some v → Value.okWide Tryz.prog W .any base t v := hval0
  have hW' := hW
  obtain ⟨p, q, hA0, hV, rfl, hfz, hnd⟩ := hW
  have hA : DataW.TrodAll enc Tryz.prog W 0 (fun _ => true) true Tryz.f3.params.toList args.toList ds p := hA0
  rw [Tryz.params3] at hA hval
  obtain ⟨v0, v1, d0, d1, p0, p1, hargs, rfl, rfl, h0, h1⟩ := trodAll_two hA
  subst hargs
  obtain ⟨rfl, rfl⟩ := trodVars_none hV
  obtain ⟨a1, len, cap, rfl⟩ := okWide_slice Tryz.underlying22 (hval 0 22 v0 rfl rfl)
  refine (Ev.CX.law_calls a1 len cap v1 W).mono fun e W' ⟨he, hb⟩ => ?_
  subst he
  have hlt : ∀ x ∈ p0 ++ p1, x.block < W.heap.size := fun x hx => hW'.lt x (by simpa using hx)
  refine ⟨_, rfl, _, _, _, [], p0 ++ (p1 ++ []), [], hW', trodAll_mk1 (shut_bool Tryz.underlying4 true), ?_, ?_, Ev.kept_of hb _, fun h => by cases h⟩
  · exact ⟨p0, p1 ++ [], Below.trod cn_laidOut (by kernel_rfl) (of_decide_eq_true (by kernel_rfl)) h0 hb (fun x hx => hlt x (List.mem_append_left _ hx)), ⟨p1, [], Below.trod cn_laidOut (by kernel_rfl) (of_decide_eq_true (by kernel_rfl)) h1 hb (fun x hx => hlt x (List.mem_append_right _ hx)), rfl, rfl⟩, rfl⟩
  · rfl
end Go.Proofs.YtadmjjogmbhkaaaGreatDoor
