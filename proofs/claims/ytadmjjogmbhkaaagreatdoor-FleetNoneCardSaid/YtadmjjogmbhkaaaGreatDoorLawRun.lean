/- The law 'FleetNone': it comes to true. -/
import Derived.Test.YtadmjjogmbhkaaaGreatDoorOrLaw
import Derived.Test.YtadmjjogmbhkaaaGreatDoorRunD
namespace Ev.CX
open Go Go.Proofs Go.RowKit
set_option maxRecDepth 100000
theorem st_then {w : World} {a : Act} (hsz : a.tmps.size = Tryz.f3.ntmps) (hds : a.defers = []) : St (X0 lay eqs) Tryz.f3.ntmps E00 .lf .lf 0 [] a w :=
  ⟨fun t => .top _, ch00 w, fresh00, hsz, by rw [hds]; trivial⟩
theorem hb3 : Tryz.f3.body = some (.seq (seqL (bodyC Tryz.f3)) (.seq (.seq (seqL (seqL (seqR (bodyC Tryz.f3)))) (.cond (.tmp 13) then3 .skip)) rest3)) := by kernel_rfl
set_option maxHeartbeats 1000000 in
theorem law_calls (a1 : Option Addr) (len cap : Nat) (u1 : Value) (w : World) :
    Calls Tryz.prog 3 #[.slice a1 len cap, u1] w fun e w' => e = .returned (.bool true) ∧ Below w.heap.size w w' := by
  refine calls_of_wp_defers Tryz.func3 hb3 ?_
  have hT : ∀ a w2, a.tmps.size = Tryz.f3.ntmps → a.defers = [] → Below w.heap.size w w2 → then3.wp Tryz.prog (fun x a w2 => x = .ret ∧ bodyPostD Tryz.prog Tryz.f3 (fun e w' => e = .returned (.bool true) ∧ Below w.heap.size w w') x a w2) a w2 := fun a w2 h1 h2 h3 =>
    rest_true goodX goodCX mixed orcL_ok xt_ok (by decide +kernel) (st_then h1 h2) w.heap.size w h3.size h3 (fun b ⟨l, _, _, _, h, _⟩ => absurd rfl h) then_runs
  have hR : ∀ a w2, a.tmps.size = Tryz.f3.ntmps → a.defers = [] → Below w.heap.size w w2 → rest3.wp Tryz.prog (fun x a w2 => x = .ret ∧ bodyPostD Tryz.prog Tryz.f3 (fun e w' => e = .returned (.bool true) ∧ Below w.heap.size w w') x a w2) a w2 := fun a w2 h1 h2 h3 =>
    rest_true goodX goodCX mixed orcL_ok xt_ok (by decide +kernel) (st_then h1 h2) w.heap.size w h3.size h3 (fun b ⟨l, _, _, _, h, _⟩ => absurd rfl h) rest_runs
  generalize bodyPostD Tryz.prog Tryz.f3 (fun e w' => e = .returned (.bool true) ∧ Below w.heap.size w w') = Q at *
  generalize then3 = th at *
  generalize rest3 = rs at *
  have hn : Tryz.f3.ntmps = 104 := Tryz.ntmps3
  rw [hn] at hT hR
  simp only [hn, List.size_toArray, List.length_cons, List.length_nil, Nat.reduceAdd, Nat.reduceSub, Array.replicate_succ, Array.replicate_zero, List.push_toArray, List.append_toArray, List.nil_append, List.cons_append]
  conv in (seqL (bodyC Tryz.f3)) => whnf
  conv in (seqL (seqL (seqR (bodyC Tryz.f3)))) => whnf
  have hB := Below.refl w.heap.size w
  go_wp2_with fail
  · refine wp_mono (hT _ _ rfl rfl hB) ?_
    rintro x a w2 ⟨rfl, h⟩
    exact h
  · refine wp_mono (hR _ _ rfl rfl hB) ?_
    rintro x a w2 ⟨rfl, h⟩
    exact h
end Ev.CX
