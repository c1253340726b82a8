/- Lemmas for the theorem: a part of the walk. -/
import Derived.Test.YtbndhppjabbacaaF21
namespace Ev
open Go Go.Proofs
set_option maxRecDepth 100000
/-- a zero state -/
def zS : AH Sg := [.cells [.nils, .int .i64 0, .bool false]]
def stSpec (r0 rz : AV Sg) (r : List Bool → Nat → Int → Bool → AV Sg) : Spec Sg := fun args H K => (args = [.nilp] ∧ H = [] ∧ K r0 []) ∨ (args = [.ptr 0 0 0] ∧ H = zS ∧ K rz zS) ∨
  ∃ (cells : List Bool) (nc : Nat) (ticks : Int) (over : Bool), args = [.ptr 0 0 0] ∧ H = sH cells nc ticks over ∧ K (r cells nc ticks over) (sH cells nc ticks over)
def s12 : Spec Sg := stSpec (.bool false) (.bool false) fun _ _ _ over => .bool over
theorem f12_ok : FnOk Try.prog C 12 s12 := fn_ok mixed good goodM (gam []) gam_nil Try.func12 (body_some (by kernel_rfl)) (by kernel_rfl) (by kernel_rfl) s12 fun args H K h => by
  rcases h with ⟨rfl, rfl, hK⟩ | ⟨rfl, rfl, hK⟩ | ⟨cells, nc, ticks, over, rfl, rfl, hK⟩
  · show abody C (gam []) Try.f12 (bodyOf Try.f12) [.nilp] [] K
    exact ⟨[], trivial, hK⟩
  · show abody C (gam []) Try.f12 (bodyOf Try.f12) [.ptr 0 0 0] zS K
    exact ⟨[.keep], ⟨trivial, trivial⟩, hK⟩
  · show abody C (gam []) Try.f12 (bodyOf Try.f12) [.ptr 0 0 0] (sH cells nc ticks over) K
    exact ⟨[.keep], ⟨trivial, trivial⟩, hK⟩
def s14 : Spec Sg := stSpec (.int .i64 0) (.int .i64 0) fun _ _ ticks _ => .int .i64 ticks
theorem f14_ok : FnOk Try.prog C 14 s14 := fn_ok mixed good goodM (gam []) gam_nil Try.func14 (body_some (by kernel_rfl)) (by kernel_rfl) (by kernel_rfl) s14 fun args H K h => by
  rcases h with ⟨rfl, rfl, hK⟩ | ⟨rfl, rfl, hK⟩ | ⟨cells, nc, ticks, over, rfl, rfl, hK⟩
  · show abody C (gam []) Try.f14 (bodyOf Try.f14) [.nilp] [] K
    exact ⟨[], trivial, hK⟩
  · show abody C (gam []) Try.f14 (bodyOf Try.f14) [.ptr 0 0 0] zS K
    exact ⟨[.keep], ⟨trivial, trivial⟩, hK⟩
  · show abody C (gam []) Try.f14 (bodyOf Try.f14) [.ptr 0 0 0] (sH cells nc ticks over) K
    exact ⟨[.keep], ⟨trivial, trivial⟩, hK⟩
def s19 : Spec Sg := stSpec (.int .i64 0) (.int .i64 0) fun _ nc _ _ => .int .i64 nc
theorem f19_ok : FnOk Try.prog C 19 s19 := fn_ok mixed good goodM (gam []) gam_nil Try.func19 (body_some (by kernel_rfl)) (by kernel_rfl) (by kernel_rfl) s19 fun args H K h => by
  rcases h with ⟨rfl, rfl, hK⟩ | ⟨rfl, rfl, hK⟩ | ⟨cells, nc, ticks, over, rfl, rfl, hK⟩
  · show abody C (gam []) Try.f19 (bodyOf Try.f19) [.nilp] [] K
    exact ⟨[], trivial, hK⟩
  · show abody C (gam []) Try.f19 (bodyOf Try.f19) [.ptr 0 0 0] zS K
    exact ⟨[.keep], ⟨trivial, trivial⟩, hK⟩
  · show abody C (gam []) Try.f19 (bodyOf Try.f19) [.ptr 0 0 0] (sH cells nc ticks over) K
    exact ⟨[.keep], ⟨trivial, trivial⟩, hK⟩
def maSpec (r0 : AV Sg) (r : Mach → Int → AV Sg) : Spec Sg := fun args H K => (args = [.nilp] ∧ H = [] ∧ K r0 []) ∨ (args = [.ptr 0 0 0] ∧ H = zH ∧ K r0 zH) ∨
  ∃ (M : Mach) (cells : List Bool) (nc : Nat) (ticks : Int) (over : Bool) (bad : List Bool) (nb : Nat) (done : Int) (buf : List Bool) (n : Nat), args = [.ptr 0 0 0] ∧ H = mH M cells nc ticks over bad nb done buf n ∧ K (r M done) (mH M cells nc ticks over bad nb done buf n)
def s18 : Spec Sg := maSpec (.int .i64 0) fun _ done => .int .i64 done
theorem f18_ok : FnOk Try.prog C 18 s18 := fn_ok mixed good goodM (gam [(29, s29)]) (gam_cons f29_ok gam_nil) Try.func18 (body_some (by kernel_rfl)) (by kernel_rfl) (by kernel_rfl) s18 fun args H K h => by
  rcases h with ⟨rfl, rfl, hK⟩ | ⟨rfl, rfl, hK⟩ | ⟨M, cells, nc, ticks, over, bad, nb, done, buf, n, rfl, rfl, hK⟩
  · show abody C (gam [(29, s29)]) Try.f18 (bodyOf Try.f18) [.nilp] [] K
    refine .inl ⟨rfl, rfl, ?_⟩
    refine br_true ?_
    exact ⟨[], trivial, hK⟩
  · show abody C (gam [(29, s29)]) Try.f18 (bodyOf Try.f18) [.ptr 0 0 0] zH K
    refine .inr (.inl ⟨rfl, rfl, ?_⟩)
    refine br_true ?_
    exact ⟨[.keep], ⟨trivial, trivial⟩, hK⟩
  · show abody C (gam [(29, s29)]) Try.f18 (bodyOf Try.f18) [.ptr 0 0 0] (mH M cells nc ticks over bad nb done buf n) K
    refine .inr (.inr (.inl ⟨M, cells, nc, ticks, over, bad, nb, done, buf, n, rfl, rfl, ?_⟩))
    refine br_false ?_
    exact ⟨[.keep], ⟨trivial, trivial⟩, hK⟩
/-- Dump -/
def dumpF (l : List Bool) : List Int := l.map fun b => if b = true then 1 else 0
def s16 : Spec Sg := fun args H K => (args = [.nilp] ∧ H = [] ∧ K .nils []) ∨
  ∃ (cells : List Bool) (nc : Nat) (ticks : Int) (over : Bool), args = [.ptr 0 0 0] ∧ H = sH cells nc ticks over ∧ (nc = cells.length ∧ nc ≤ 1000000) ∧ K (.slc 2 0 nc false) (sH cells nc ticks over ++ [.lst 3 (dumpF cells)])
theorem dump_step {cells : List Bool} {i : Nat} {l : List Int} (h : i < cells.length) (hl : l = dumpF (cells.take i) ++ List.replicate (cells.length - i) 0) :
    l.set i (if cells.getD i false = true then 1 else 0) = dumpF (cells.take (i + 1)) ++ List.replicate (cells.length - (i + 1)) 0 ∧ (cells.getD i false = false → l = dumpF (cells.take (i + 1)) ++ List.replicate (cells.length - (i + 1)) 0) := by
  have hlen : (dumpF (cells.take i)).length = i := by simp [dumpF]; omega
  obtain ⟨k, hk⟩ : ∃ k, cells.length - i = k + 1 := ⟨cells.length - i - 1, by omega⟩
  have hk2 : cells.length - (i + 1) = k := by omega
  rw [hk] at hl
  rw [hk2, take_get cells i false h]
  have hd : dumpF (cells.take i ++ [cells.getD i false]) = dumpF (cells.take i) ++ [if cells.getD i false = true then 1 else 0] := by simp [dumpF]
  rw [hd, hl, List.replicate_succ]
  refine ⟨?_, fun h0 => ?_⟩
  · rw [List.set_append_right _ _ (by omega), hlen, Nat.sub_self]; simp
  · rw [h0]; simp
theorem f16_ok : FnOk Try.prog C 16 s16 := fn_ok mixed good goodM (gam []) gam_nil Try.func16 (body_some (by kernel_rfl)) (by kernel_rfl) (by kernel_rfl) s16 fun args H K h => by
  rcases h with ⟨rfl, rfl, hK⟩ | ⟨cells, nc, ticks, over, rfl, rfl, ⟨hnc, hl⟩, hK⟩
  · show abody C (gam []) Try.f16 (bodyOf Try.f16) [.nilp] [] K
    exact ⟨[], trivial, hK⟩
  · show abody C (gam []) Try.f16 (bodyOf Try.f16) [.ptr 0 0 0] (sH cells nc ticks over) K
    have o1 : 0 ≤ (nc : Int) ∧ (nc : Int) ≤ nc ∧ (nc : Int) * 8 ≤ (maxBytes : Int) ∧ (nc : Int) ≤ (maxInt : Int) := by unfold maxBytes maxInt; omega
    refine And.intro o1 ?_
    refine ⟨[3, 17, 18, 19], [.keep], List Int × Int, fun (l, i) => (frameOf [(3, .slc 2 0 nc false), (17, .slc 1 0 nc false), (18, .int .i64 nc), (19, .int .i64 i)], sH cells nc ticks over ++ [.lst 3 l]),
      fun x => 0 ≤ x.2 ∧ x.2 ≤ nc ∧ x.1 = dumpF (cells.take x.2.toNat) ++ List.replicate (cells.length - x.2.toNat) 0, fun x => nc - x.2.toNat, ⟨⟨trivial, trivial⟩, (_, 0), rfl, by simp, by simp, by rw [hnc]; rfl⟩, ?_⟩
    rintro ⟨l, i⟩ ⟨i1, i2, hx⟩
    dsimp only at i1 i2 hx ⊢
    refine br_split (fun h4 => ?_) (fun h4 => ?_)
    · have h4 : i < nc := of_decide_eq_true h4
      have hw : wr .i64 (i + 1) = i + 1 := wr_i64 (by omega) (by omega)
      have hw2 : (i + 1).toNat = i.toNat + 1 := by omega
      have ll : l.length = cells.length := by rw [hx]; simp [dumpF]; omega
      have st := dump_step (by omega) hx
      have e0 : 0 + i.toNat = i.toNat := Nat.zero_add _
      refine And.intro ⟨i1, h4⟩ ?_
      refine And.intro (by omega : 0 + i.toNat < cells.length) ?_
      refine br_split (fun h5 => ?_) (fun h5 => ?_)
      · have h5 : cells.getD (0 + i.toNat) false = true := h5
        rw [e0] at h5
        rw [if_pos h5] at st
        refine And.intro ⟨i1, h4⟩ ?_
        refine And.intro (⟨trivial, by omega⟩ : True ∧ 0 + i.toNat < l.length) ?_
        have nx : (0 ≤ wr .i64 (i + 1) ∧ wr .i64 (i + 1) ≤ nc ∧ l.set (0 + i.toNat) 1 = dumpF (cells.take (wr .i64 (i + 1)).toNat) ++ List.replicate (cells.length - (wr .i64 (i + 1)).toNat) 0) ∧ nc - (wr .i64 (i + 1)).toNat < nc - i.toNat := by
          rw [hw, hw2, e0]; exact ⟨⟨by omega, by omega, st.1⟩, by omega⟩
        exact And.intro ⟨trivial, trivial⟩ ⟨(_, _), rfl, nx.1, nx.2⟩
      · have h5 : cells.getD (0 + i.toNat) false = false := h5
        rw [e0] at h5
        have nx : (0 ≤ wr .i64 (i + 1) ∧ wr .i64 (i + 1) ≤ nc ∧ l = dumpF (cells.take (wr .i64 (i + 1)).toNat) ++ List.replicate (cells.length - (wr .i64 (i + 1)).toNat) 0) ∧ nc - (wr .i64 (i + 1)).toNat < nc - i.toNat := by
          rw [hw, hw2]; exact ⟨⟨by omega, by omega, st.2 h5⟩, by omega⟩
        exact And.intro ⟨trivial, trivial⟩ ⟨(_, _), rfl, nx.1, nx.2⟩
    · have h4 : ¬ i < nc := of_decide_eq_false h4
      have e : i.toNat = cells.length := by omega
      have hx : l = dumpF cells := by rw [hx, e, Nat.sub_self, List.take_of_length_le (Nat.le_refl _)]; simp
      subst hx
      exact ⟨[.keep], ⟨trivial, trivial⟩, hK⟩
end Ev
