/- The law 'CraftNone': it comes to true. -/
import Derived.Test.YtfmjabdpkfcbkaaGreatDoorOrAll
import Derived.Test.YtfmjabdpkfcbkaaGreatDoorRun1
import Derived.Test.YtfmjabdpkfcbkaaGreatDoorLight3
namespace Ev.CX3
open Go Go.Proofs Go.RowKit
set_option maxRecDepth 100000
theorem fr3_get (t : Nat) : fr3.get .top t = if t = 1 then .ptr 0 0 0 else .top := by
  unfold fr3
  rw [Tr.get_nd]
  by_cases h0 : t = 0
  · subst h0; rfl
  rw [if_neg h0]
  split
  · rw [Tr.get_nd]
    by_cases h1 : t = 1
    · subst h1; rfl
    · rw [if_neg (by omega), if_neg h1]; split <;> rfl
  · rw [if_neg (by omega)]; rfl
theorem h3_get (l : Nat) : hp h3 l = if l = 0 then .arr 5 top5 else .dead := by
  show h3.get .dead l = _
  unfold h3
  rw [Tr.get_nd]
  split
  · rfl
  · split <;> rfl
def E3 (b : Nat) : Env := ⟨fun _ => none, fun l => if l = 0 then some (.at b 0 5 1) else none⟩
theorem st_rest {w : World} {a : Act} {b : Nat} {us : Array Value} (hsz : a.tmps.size = Tryz.f3.ntmps) (hds : a.defers = []) (h1 : a.tmps.getD 1 undef = .pointer (some ⟨b, 0, none⟩))
    (hb : w.heap[b]? = some (.cells us 25 (0, 0))) (hus : us.size = 5) : St (X0 lay eqs) Tryz.f3.ntmps (E3 b) fr3 h3 1 [] a w := by
  refine ⟨fun t => ?_, ⟨fun _ => rfl, fun l => ?_, fun l hl => ?_, fun l m b2 sh wd tot sh' wd' tot' e1 e2 _ _ => ?_⟩, fun l hl => ⟨?_, ?_⟩, hsz, by rw [hds]; trivial⟩
  · show VR _ _ (fr3.get .top t) _
    rw [fr3_get]
    split
    · rename_i e; subst e
      rw [h1]
      exact .ptr 0 0 0 b 0 5 1 0 rfl rfl
    · exact .top _
  · show (if l = 0 then some (Loc.at b 0 5 1) else none) ≠ _
    split <;> simp
  · rw [h3_get] at hl
    by_cases h0 : l = 0
    · subst h0
      refine ⟨_, rfl, ?_⟩
      rw [h3_get, if_pos rfl]
      refine ⟨us, 25, ⟨(0, 0), hb, .inl rfl⟩, rfl, by decide, by decide, by omega, ?_⟩
      refine ⟨by simp [top5, hus], fun i x u hx hu => ?_⟩
      have : x = .top := by
        have hm := List.mem_of_getElem? hx
        simpa [top5] using hm
      subst this; exact .top _
    · rw [if_neg h0] at hl; exact absurd rfl hl
  · have e1 : (if l = 0 then some (Loc.at b 0 5 1) else none) = some (.at _ sh wd tot) := e1
    have e2 : (if m = 0 then some (Loc.at b 0 5 1) else none) = some (.at _ sh' wd' tot') := e2
    split at e1
    · split at e2
      · omega
      · cases e2
    · cases e1
  · show (if l = 0 then some (Loc.at b 0 5 1) else none) = none
    rw [if_neg (by omega)]
  · rw [h3_get, if_neg (by omega)]
theorem own_rest {b b' : Nat} (h : owns (E3 b) (hp h3) b') : b' = b := by
  obtain ⟨l, sh, wd, tot, _, h⟩ := h
  have h : (if l = 0 then some (Loc.at b 0 5 1) else none) = some (.at b' sh wd tot) := h
  split at h
  · injection h with h; injection h with h; exact h.symm
  · cases h
theorem st_then {w : World} {a : Act} (hsz : a.tmps.size = Tryz.f3.ntmps) (hds : a.defers = []) : St (X0 lay eqs) Tryz.f3.ntmps E00 .lf .lf 0 [] a w :=
  ⟨fun t => .top _, ch00 w, fresh00, hsz, by rw [hds]; trivial⟩
theorem hb3 : Tryz.f3.body = some (.seq (seqL (bodyC Tryz.f3)) (.seq (.seq (seqL (seqL (seqR (bodyC Tryz.f3)))) (.cond (.tmp 10) then3 .skip)) rest3)) := by kernel_rfl
set_option maxHeartbeats 1000000 in
theorem law_calls (u0 u1 u2 u3 u4 : Value) (w : World) (hl : ∀ W, Below w.heap.size w W → Calls Tryz.prog 4 #[.agg #[u0, u1, u2, u3, u4]] W fun e W' => ∃ b, e = .returned (.bool b) ∧ Below W.heap.size W W') :
    Calls Tryz.prog 3 #[.agg #[u0, u1, u2, u3, u4]] w fun e w' => e = .returned (.bool true) ∧ Below w.heap.size w w' := by
  refine calls_of_wp_defers Tryz.func3 hb3 ?_
  have hT : ∀ a w2, a.tmps.size = Tryz.f3.ntmps → a.defers = [] → Below w.heap.size w w2 → then3.wp Tryz.prog (fun x a w2 => x = .ret ∧ bodyPostD Tryz.prog Tryz.f3 (fun e w' => e = .returned (.bool true) ∧ Below w.heap.size w w') x a w2) a w2 := fun a w2 h1 h2 h3 =>
    rest_true goodX goodCX mixed orcB_ok xt_ok (by decide +kernel) (st_then h1 h2) w.heap.size w h3.size h3 (fun b ⟨l, _, _, _, h, _⟩ => absurd rfl h) then_runs
  have hR : ∀ a w2, a.tmps.size = Tryz.f3.ntmps → a.defers = [] → a.tmps.getD 1 undef = .pointer (some ⟨w.heap.size, 0, none⟩) → w2.heap[w.heap.size]? = some (.cells #[u0, u1, u2, u3, u4] 25 (0, 0)) → Below w.heap.size w w2 →
      rest3.wp Tryz.prog (fun x a w2 => x = .ret ∧ bodyPostD Tryz.prog Tryz.f3 (fun e w' => e = .returned (.bool true) ∧ Below w.heap.size w w') x a w2) a w2 := fun a w2 h1 h2 h3 h4 h5 =>
    rest_true goodX goodCX mixed orcB_ok xt_ok (by decide +kernel) (st_rest h1 h2 h3 h4 rfl) w.heap.size w h5.size h5 (fun b hb => by rw [own_rest hb]; exact Nat.le_refl _) rest_runs
  generalize bodyPostD Tryz.prog Tryz.f3 (fun e w' => e = .returned (.bool true) ∧ Below w.heap.size w w') = Q at *
  generalize then3 = th at *
  generalize rest3 = rs at *
  have hn : Tryz.f3.ntmps = 89 := Tryz.ntmps3
  rw [hn] at hT hR
  simp only [hn, List.size_toArray, List.length_cons, List.length_nil, Nat.reduceAdd, Nat.reduceSub, Array.replicate_succ, Array.replicate_zero, List.push_toArray, List.append_toArray, List.nil_append, List.cons_append]
  conv in (seqL (bodyC Tryz.f3)) => whnf
  conv in (seqL (seqL (seqR (bodyC Tryz.f3)))) => whnf
  have hB0 : Below w.heap.size w (w.alloc (.cells #[u0, u1, u2, u3, u4] 25)) := (Below.refl _ w).alloc (Nat.le_refl _) _
  have hbx : (w.alloc (.cells #[u0, u1, u2, u3, u4] 25)).heap[w.heap.size]? = some (.cells #[u0, u1, u2, u3, u4] 25 (0, 0)) := World.alloc_heap_new w _
  have hc4 := hl _ hB0
  go_wp2_with (go_at_call 4; refine hc4.mono ?_; rintro e w' ⟨b, rfl, hb⟩)
  · have hB1 : Below w.heap.size w w' := hB0.trans (hb.mono (by simp))
    refine wp_mono (hT _ _ rfl rfl hB1) ?_
    rintro x a w2 ⟨rfl, h⟩
    exact h
  · have hB1 : Below w.heap.size w w' := hB0.trans (hb.mono (by simp))
    refine wp_mono (hR _ _ rfl rfl rfl ((hb.block w.heap.size (by simp)).trans hbx) hB1) ?_
    rintro x a w2 ⟨rfl, h⟩
    exact h
end Ev.CX3
