/- Lemmas for the theorem: a part of the walk. -/
import Derived.Test.YtbndhppjabbacaaF21
namespace Ev
open Go Go.Proofs
set_option maxRecDepth 100000
def ord32 : Nat → List (Nat × List Nat)
  | 12 => [(0, []), (1, []), (2, []), (3, []), (4, []), (5, []), (6, []), (7, []), (8, []), (9, []), (10, [3, 6, 8]), (11, []), (12, [])]
  | 16 => [(0, []), (1, []), (2, []), (3, []), (4, []), (5, []), (7, []), (6, [3, 4]), (8, []), (9, [])]
  | _ => []
def s32 : Spec Sg := fun args H K => ∃ (c : CodeR) (M : Mach) (cells : List Bool) (nc : Nat) (ticks : Int) (over : Bool) (bad : List Bool) (nb : Nat) (done : Int) (buf : List Bool) (n : Nat) (st : List Bool),
  args = [.ptr 0 0 0, .agg (enc58 c)] ∧ H = mH M cells nc ticks over bad nb done buf n ∧ (Top buf n st ∧ buf.length ≤ 1000000000000 ∧ Fits M.p cells n c ∧ nc = cells.length ∧ nc ≤ 20000 ∧ c.Do ≠ 2 ∧ c.Do ≠ 8) ∧
  ∀ v cells' n', v = (runC c cells st).1 → cells' = (runC c cells st).2.1 → n' = (runC c cells st).2.2.length → Top buf n' (runC c cells st).2.2 → K (.bool v) (mH M cells' nc ticks over bad nb done buf n')
def G32 : FuncId → Spec Sg := gam [(31, s31), (55, s55), (56, s56)]
set_option maxHeartbeats 1000000 in
theorem f32_ok : FnOk Try.prog C 32 s32 := fn_okO mixed good goodM G32 (gam_cons f31_ok (gam_cons f55_ok (gam_cons f56_ok gam_nil))) Try.func32 (body_some (by kernel_rfl)) (by kernel_rfl) ord32 (by kernel_rfl) s32 fun args H K h => by
  obtain ⟨c, M, cells, nc, ticks, over, bad, nb, done, buf, n, st, rfl, rfl, ⟨ht, hl, hf, hnc, hnl, h2, h8⟩, hK⟩ := h
  show abodyO C G32 ord32 Try.f32 (bodyOf Try.f32) [.ptr 0 0 0, .agg (enc58 c)] (mH M cells nc ticks over bad nb done buf n) K
  have hlen := ht.len
  have hok := hf.ok
  refine br_split (fun h => ?_) (fun h0 => ?_)
  · have h : c.Do = 0 := eq_of_beq h
    have e : runC c cells st = (true, cells, st) := by unfold runC; rw [if_pos h]
    rw [e] at hK
    exact ⟨[.keep], ⟨trivial, trivial⟩, hK true cells n rfl rfl hlen.symm ht⟩
  have h0 : c.Do ≠ 0 := by simpa using h0
  refine br_split (fun h => ?_) (fun h3 => ?_)
  · have h : c.Do = 3 := eq_of_beq h
    have e : runC c cells st = (!hd st, cells, st.drop 1) := by unfold runC; rw [if_neg h0, if_pos h]
    rw [e] at hK
    have h1 := hf.one (.inl h)
    refine ⟨M, cells, nc, ticks, over, bad, nb, done, buf, n, st, rfl, rfl, ⟨ht, h1, hl⟩, ?_⟩
    exact ⟨[.keep], ⟨trivial, trivial⟩, hK (!hd st) cells (n - 1) rfl rfl (by simp; omega) (ht.pop h1).2⟩
  have h3 : c.Do ≠ 3 := by simpa using h3
  refine br_split (fun h => ?_) (fun h4 => ?_)
  · have h : c.Do = 4 := eq_of_beq h
    have e : runC c cells st = (!manyF false (st.take c.A.toNat), cells, st.drop c.A.toNat) := by unfold runC; rw [if_neg h0, if_neg h3, if_pos h]
    rw [e] at hK
    have hm := hf.many (.inl h)
    have hA : 0 ≤ c.A := by unfold codeP at hok; omega
    refine And.intro ⟨trivial, trivial, trivial⟩ ?_
    refine ⟨M, cells, nc, ticks, over, bad, nb, done, buf, n, st, c.A, false, rfl, rfl, ⟨ht, hA, hm, hl⟩, ?_⟩
    exact ⟨[.keep], ⟨trivial, trivial⟩, hK _ cells (n - c.A.toNat) rfl rfl (by simp; omega) (ht.drop _ hm)⟩
  have h4 : c.Do ≠ 4 := by simpa using h4
  refine br_split (fun h => ?_) (fun h5 => ?_)
  · have h : c.Do = 5 := eq_of_beq h
    have e : runC c cells st = (manyF true (st.take c.A.toNat), cells, st.drop c.A.toNat) := by unfold runC; rw [if_neg h0, if_neg h3, if_neg h4, if_pos h]
    rw [e] at hK
    have hm := hf.many (.inr h)
    have hA : 0 ≤ c.A := by unfold codeP at hok; omega
    refine And.intro ⟨trivial, trivial, trivial⟩ ?_
    refine ⟨M, cells, nc, ticks, over, bad, nb, done, buf, n, st, c.A, true, rfl, rfl, ⟨ht, hA, hm, hl⟩, ?_⟩
    exact ⟨[.keep], ⟨trivial, trivial⟩, hK _ cells (n - c.A.toNat) rfl rfl (by simp; omega) (ht.drop _ hm)⟩
  have h5 : c.Do ≠ 5 := by simpa using h5
  refine br_split (fun h => ?_) (fun h6 => ?_)
  · have h : c.Do = 6 := eq_of_beq h
    have e : runC c cells st = (cells.getD c.A.toNat false, cells.set c.A.toNat (hd st), st.drop 1) := by unfold runC; rw [if_neg h0, if_neg h3, if_neg h4, if_neg h5, if_pos h]
    rw [e] at hK
    have h1 := hf.one (.inr (.inl h))
    have hp := hf.prev h
    have hA : 0 ≤ c.A := by unfold codeP at hok; omega
    have o1 : 0 ≤ c.A ∧ c.A < (nc : Int) := by omega
    have o2 : 0 + c.A.toNat < cells.length := by omega
    refine And.intro o1 ?_
    refine And.intro o2 ?_
    refine ⟨M, cells, nc, ticks, over, bad, nb, done, buf, n, st, rfl, rfl, ⟨ht, h1, hl⟩, ?_⟩
    refine fun b hb => ?_
    have hb : hd st = b := hb
    refine And.intro rfl ?_
    refine And.intro rfl ?_
    refine And.intro rfl ?_
    refine And.intro o1 ?_
    refine And.intro ⟨trivial, o2⟩ ?_
    have e0 : 0 + c.A.toNat = c.A.toNat := Nat.zero_add _
    refine ⟨[.keep], ⟨trivial, trivial⟩, hK (cells.getD (0 + c.A.toNat) false) (cells.set (0 + c.A.toNat) b) (n - 1) (by rw [e0]) (by rw [e0, ← hb]) (by simp; omega) (ht.pop h1).2⟩
  have h6 : c.Do ≠ 6 := by simpa using h6
  refine br_split (fun h => ?_) (fun h7 => ?_)
  · have h : c.Do = 7 := eq_of_beq h
    have e : runC c cells st = (sinceHolds c (hd (st.drop 1)) (hd st) cells, sinceCells c (hd (st.drop 1)) (hd st) cells, st.drop 2) := by
      unfold runC; rw [if_neg h0, if_neg h3, if_neg h4, if_neg h5, if_neg h6, if_pos h]
    rw [e] at hK
    have h2' := hf.two h
    have hs := hf.since h
    refine ⟨M, cells, nc, ticks, over, bad, nb, done, buf, n, st, rfl, rfl, ⟨ht, by omega, hl⟩, ?_⟩
    refine ⟨M, cells, nc, ticks, over, bad, nb, done, buf, n - 1, st.drop 1, rfl, rfl, ⟨(ht.pop (by omega)).2, by omega, hl⟩, ?_⟩
    refine fun b hb => ?_
    have hb : hd (st.drop 1) = b := hb
    refine And.intro rfl ?_
    refine And.intro rfl ?_
    refine And.intro ⟨trivial, trivial, trivial, trivial⟩ ?_
    refine ⟨c, b, hd st, cells, nc, ticks, over, rfl, rfl, ⟨?_, ?_, ?_, ?_, hs, hnc, hnl⟩, fun v cells' hv hc => ?_⟩
    · unfold codeP at hok; omega
    · unfold codeP at hok; omega
    · unfold codeP at hok; omega
    · unfold codeP at hok; omega
    refine fun b2 hb2 => ?_
    have hb2 : v = b2 := hb2
    have e2 : (st.drop 2).length = n - 1 - 1 := by simp; omega
    have t2 : Top buf (n - 1 - 1) (st.drop 2) := by
      have := ((ht.pop (by omega)).2.pop (by omega)).2
      rw [List.drop_drop] at this
      exact this
    exact ⟨[.keep], ⟨trivial, trivial⟩, hK b2 cells' (n - 1 - 1) (by rw [← hb2, hv, hb]) (by rw [hc, hb]) e2.symm t2⟩
  have h7 : c.Do ≠ 7 := by simpa using h7
  have e : runC c cells st = (false, cells, st) := by unfold runC; rw [if_neg h0, if_neg h3, if_neg h4, if_neg h5, if_neg h6, if_neg h7]
  rw [e] at hK
  exact ⟨[.keep], ⟨trivial, trivial⟩, hK false cells n rfl rfl hlen.symm ht⟩
end Ev
