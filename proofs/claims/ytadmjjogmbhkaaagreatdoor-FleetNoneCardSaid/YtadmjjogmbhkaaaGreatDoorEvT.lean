/- The top: from what arguments read as to what they stand for; what is left of memory. -/
import Derived.Test.YtadmjjogmbhkaaaGreatDoorEvS
import Derived.ProofKit
import Derived.Below
import Derived.Lib.SmallJoins
namespace Ev
open Go
variable {S : Sig} {P : Program} {X : Ctx S}
/-- nothing is the call's own, all that is there stays -/
def E0 (w : World) : Env := ⟨fun b => w.heap[b]?, fun _ => none⟩
theorem hr0 (w : World) : HR X (E0 w) [] w :=
  ⟨(fun _ _ => rfl), (fun l hl => absurd hl (Nat.not_lt_zero _)), (fun _ _ _ _ _ _ _ _ _ h => by cases h), (fun b o h => h), (fun _ _ _ _ _ h => by cases h)⟩
theorem below_of {k : Nat} {w w' : World} {E' : Env} (h : Ext k (E0 w) w E' w') : RowKit.Below w.heap.size w w' :=
  ⟨h.os, h.tape, h.output, h.size, fun b hb => h.frame b hb (fun ⟨_, _, _, _, hx⟩ => by cases hx)⟩
theorem kept_of {w w' : World} (h : RowKit.Below w.heap.size w w') (may : MemPlace → Prop) : w.keptBut w' may := by
  refine ⟨h.os, h.output, fun i hi => ?_⟩
  rw [h.block i hi]
  cases w.heap[i]? with
  | none => rfl
  | some o => cases o with
    | cells c t fr => exact ⟨rfl, rfl, rfl, fun _ _ => rfl⟩
    | map es clock => exact .inr ⟨rfl, rfl⟩
    | _ => rfl
section
variable {H : Type} {enc : TypeId × Value → H} {w : World} {sp : Nat → Bool} {held : Bool}
theorem addr_plus (a : Addr) (i : Nat) : (a.add i).block = a.block ∧ (a.spot = none → (a.add i).off = a.off + i ∧ (a.add i).spot = none) := by
  unfold Addr.add
  split <;> simp_all
theorem read_slice {e t : TypeId} (ht : P.underlying t = some (.slice e)) (hsz : P.cellsOf e = X.L.size e) (hpos : 0 < X.L.size e)
    (he : ∀ fuel cs x, DataW.trod enc P w 0 sp held fuel e cs = some x → ∃ y, VRs X (E0 w) (X.enc e y) cs) {fuel : Nat} {cs : List Value} {x : DataW H × List MemPlace} (h : DataW.trod enc P w 0 sp held fuel t cs = some x) :
    ∃ v xs, cs = [v] ∧ VR X (E0 w) (.imm e xs) v ∧ xs.length ≤ 9223372036854775807 := by
  rcases DataW.trod_slice ht h with ⟨rfl, _⟩ | ⟨a, len, cap, elems, rest, n, _, rfl, _, _, hlc, hcap, hel, hget, _⟩
  · exact ⟨_, [], rfl, .imm0 e, by simp⟩
  have hcap : cap ≤ 9223372036854775807 := hcap
  rcases Nat.eq_zero_or_pos len with h0 | h0
  · subst h0; exact ⟨_, [], rfl, .imm1 e a cap, by simp⟩
  have each : ∀ i, i < len → ∃ y ci, w.cells? 0 (a.add (i * P.cellsOf e)) (P.cellsOf e) = some ci ∧ VRs X (E0 w) (X.enc e y) ci := by
    intro i hi
    have hg := hget i hi
    have hs : ∃ z, elems[i]? = some z := ⟨elems[i], by simp [hel, hi]⟩
    obtain ⟨z, hz⟩ := hs
    rw [hz] at hg
    cases hc : w.cells? 0 (a.add (i * P.cellsOf e)) (P.cellsOf e) with
    | none => rw [hc] at hg; cases hg
    | some ci =>
      rw [hc] at hg
      obtain ⟨y, hy⟩ := he n ci z hg
      exact ⟨y, ci, rfl, hy⟩
  obtain ⟨y0, _⟩ := each 0 h0
  have all : ∀ i, ∃ y, i < len → ∃ ci, w.cells? 0 (a.add (i * P.cellsOf e)) (P.cellsOf e) = some ci ∧ VRs X (E0 w) (X.enc e y) ci := by
    intro i
    by_cases hi : i < len
    · obtain ⟨y, ci, h1⟩ := each i hi; exact ⟨y, fun _ => ⟨ci, h1⟩⟩
    · exact ⟨y0, fun h => absurd h hi⟩
  obtain ⟨f, hf⟩ := Classical.axiomOfChoice all
  rw [hsz] at hf
  -- the block
  have cell : ∀ i j, i < len → j < X.L.size e → ∃ u, w.cell? ((a.add (i * X.L.size e)).add j) = some u ∧ ∀ k, (X.enc e (f i))[j]? = some k → VR X (E0 w) k u := by
    intro i j hi hj
    obtain ⟨ci, h1, h2⟩ := hf i hi
    obtain ⟨_, h4, h5⟩ := World.cells?_some h1
    have hjc : j < ci.length := by omega
    refine ⟨ci[j], by rw [h5 j hj]; simp [hjc], fun k hk => h2.2 j k _ hk (by simp [hjc])⟩
  have hspot : a.spot = none ∧ ∃ c el fz, w.heap[a.block]? = some (.cells c el fz) := by
    obtain ⟨u, hu, _⟩ := cell 0 0 h0 hpos
    have e1 : (a.add (0 * X.L.size e)).add 0 = a := by simp [Addr.add]
    rw [e1] at hu
    unfold World.cell? at hu
    split at hu
    · rename_i c el fz hh
      split at hu
      · cases hu
      · rename_i hs; exact ⟨by simpa using hs, c, el, fz, hh⟩
    · cases hu
  obtain ⟨hsp, c, el, fz, hblk⟩ := hspot
  have at_ : ∀ i j, i < len → j < X.L.size e → ∃ u, c.toList[a.off + i * X.L.size e + j]? = some u ∧ ∀ k, (X.enc e (f i))[j]? = some k → VR X (E0 w) k u := by
    intro i j hi hj
    obtain ⟨u, hu, hk⟩ := cell i j hi hj
    have b1 := addr_plus a (i * X.L.size e)
    have b2 := addr_plus (a.add (i * X.L.size e)) j
    unfold World.cell? at hu
    rw [b2.1, b1.1, hblk] at hu
    simp only at hu
    rw [(b2.2 (b1.2 hsp).2).1, (b2.2 (b1.2 hsp).2).2, (b1.2 hsp).1] at hu
    simp at hu
    exact ⟨u, by simpa using hu, hk⟩
  obtain ⟨b, off, spot⟩ := a
  simp only at hsp hblk at_
  subst hsp
  refine ⟨_, (List.range len).map f, rfl, .imm e _ b off len cap c el fz hblk (by simp) hlc hcap ?_ ?_, by simp; omega⟩
  · obtain ⟨u, hu, _⟩ := at_ (len - 1) (X.L.size e - 1) (by omega) (by omega)
    have := (List.getElem?_eq_some_iff.1 hu).1
    have e1 : len * X.L.size e = (len - 1) * X.L.size e + X.L.size e := by
      obtain ⟨m, rfl⟩ : ∃ m, len = m + 1 := ⟨len - 1, by omega⟩
      simp [Nat.succ_mul]
    simp at this
    omega
  · intro i j y k u hy hk hu
    have hi : i < len := by
      have := (List.getElem?_eq_some_iff.1 hy).1
      simpa using this
    have hyi : f i = y := by
      rw [List.getElem?_map, List.getElem?_range hi] at hy
      simpa using hy
    subst hyi
    by_cases hj : j < X.L.size e
    · obtain ⟨u', h1, h2⟩ := at_ i j hi hj
      rw [h1] at hu; injection hu with hu; subst hu
      exact h2 k hk
    · obtain ⟨ci, h1, h2⟩ := hf i hi
      obtain ⟨_, h4, _⟩ := World.cells?_some h1
      have := (List.getElem?_eq_some_iff.1 hk).1
      have := h2.1
      omega
end
end Ev
