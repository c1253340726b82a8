/- slices.Concat of one list of ints, at this program: a list of its own. -/
import Derived.Test.YtadmjjogmbhkaaaGreatDoorShelf
import Derived.Test.YtadmjjogmbhkaaaGreatDoorOrMid2
import Derived.Shelf.Spec.SlicesGrow
namespace Go.Proofs
open Go.RowKit Go.Maps Go.Sort Go.Shelf
namespace Mq
attribute [local go_sem] Oper.semAt_some
theorem cells_add {W : World} {b o : Nat} {zs : List Int} (h : Ints W b o zs) : ∀ j u, (zs.map (Value.int .i64))[j]? = some u → W.cell? ((⟨b, o, none⟩ : Addr).add j) = some u := by
  intro j u hu
  rw [List.getElem?_map] at hu
  cases hz : zs[j]? with
  | none => rw [hz] at hu; cases hu
  | some z =>
    rw [hz] at hu
    simp only [Option.map_some, Option.some.injEq] at hu
    subst hu
    have hj : j < zs.length := (List.getElem?_eq_some_iff.1 hz).1
    have e : (⟨b, o, none⟩ : Addr).add j = ⟨b, o + j, none⟩ := by unfold Addr.add; split <;> simp_all
    rw [e, h j hj, hz]; rfl
set_option maxRecDepth 100000 in
set_option maxHeartbeats 2000000 in
theorem concat_calls (b o cap b2 o2 cap2 : Nat) (zs : List Int) (h0 : 0 < zs.length) (hl : zs.length ≤ 1000) (hc2 : zs.length ≤ cap2) (w : World) (hb : b < w.heap.size) (hb2 : b2 < w.heap.size) (hcell : w.cell? ⟨b, o, none⟩ = some (.slice (some ⟨b2, o2, none⟩) zs.length cap2)) (hI : Ints w b2 o2 zs) :
    Calls Tryz.prog 21 #[.slice (some ⟨b, o, none⟩) 1 cap] w fun e W' => ∃ v, e = .returned v ∧ W'.ownsRow w.heap.size 3 1 v zs.length (zs.map (Value.int .i64)) ∧ Below w.heap.size w W' := by
  refine (callsIn_wide (n := 7)).1 ?_
  have h42 : Fence.wide.fn 42 := trivial
  have i3 : (Tryz.prog.info? 3).map (fun i => (i.zero, i.size, i.bytes)) = some (some (.int .i64 0), 1, 8) := by kernel_rfl
  obtain ⟨i0, hi, hz0, hz1, hz2⟩ := info_parts i3
  have hml : maxLen = 9223372036854775807 := rfl
  have cG := callsIn_wide (n := 6).2 (Any8.slices_Grow_grow Tryz.growA i0 (.int .i64 0) hi hz0 (by omega) none 0 0 zs.length [] w (Nat.le_refl 0) (by omega) (by rw [hz2]; omega) (by omega) (by simp) (fun _ => rfl) (fun a h => by cases h))
  have hG1 := grownCap_ge w (0 + zs.length) 0 3
  have hG2 := grownCap_le_maxLen w (0 + zs.length) 0 3 (by omega)
  have cG2 : CallsIn Fence.wide 6 Tryz.prog 42 #[.slice none 0 0, .int .i64 (zs.length : Int)] w fun e w' => ∃ G, e = .returned (.slice (some ⟨w.heap.size, 0, none⟩) 0 G) ∧ w'.ownsRow w.heap.size 3 1 (.slice (some ⟨w.heap.size, 0, none⟩) 0 G) 0 [] ∧ Below w.heap.size w w' := by
    refine CallsIn.mono cG ?_
    rintro e w' ⟨rfl, rfl⟩
    exact ⟨_, rfl, World.ownsRow_made w.drew _ _ (Nat.le_refl _) hG2 (by simp only [Array.size_append, size_zeroCells]; show 0 + (0 + zs.length - 0) * 1 + (grownCap w (0 + zs.length) 0 3 - (0 + zs.length)) * 1 = grownCap w (0 + zs.length) 0 3 * 1; omega), ((Below.refl _ w).drew).alloc (Nat.le_refl _) _⟩
  clear cG hG1 hG2
  have hone : ∀ u ∈ zs.map (Value.int .i64), u.oneCell' = true := by
    intro u hu; obtain ⟨z, _, rfl⟩ := List.mem_map.1 hu; rfl
  generalize hk : zs.length = k at *
  refine callsIn_of_wp Tryz.func21 rfl trivial ?_ rfl
  simp only [Tryz.ntmps21, List.size_toArray, List.length_cons, List.length_nil, Nat.reduceAdd, Nat.reduceSub, Array.replicate_succ, Array.replicate_zero, List.push_toArray, List.append_toArray, List.nil_append, List.cons_append]
  gi_wp2
  gi_loopw [3, 11] (fun sz i wr => ((sz = .int .i64 0 ∧ i = .int .i64 0) ∨ (sz = .int .i64 k ∧ i = .int .i64 1)) ∧ w = wr) (fun _ i _ => 1 - (intOf i).toNat)
  case atStart => exact ⟨.inl ⟨rfl, rfl⟩, rfl⟩
  case round =>
    obtain ⟨⟨rfl, rfl⟩ | ⟨rfl, rfl⟩, rfl⟩ := hrel
    · gi_wp2
      go_roundw
      case rel => exact ⟨.inr ⟨by simp, by simp⟩, by trivial⟩
      case measure => simp [intOf]
    · gi_wp2_with (gi_at_call 42; refine cG2.mono ?_; rintro e w' ⟨G, rfl, hrow, hB1⟩)
      have hcell1 := (hB1.cell (p := ⟨b, o, none⟩) hb).trans hcell
      have hI1 := hI.below hB1 hb2
      gi_loopw [6, 27] (fun ns i wr => (ns = .slice (some ⟨w.heap.size, 0, none⟩) 0 G ∧ i = .int .i64 0 ∧ w' = wr) ∨ (i = .int .i64 1 ∧ wr.ownsRow w.heap.size 3 1 ns k (zs.map (Value.int .i64)) ∧ Below w.heap.size w wr)) (fun _ i _ => 1 - (intOf i).toNat)
      case atStart => exact .inl ⟨rfl, rfl, rfl⟩
      case round =>
        rcases hrel with ⟨rfl, rfl, rfl⟩ | ⟨rfl, hown, hB2⟩
        · gi_wp2_with (gi_at_builtin; refine wpListIn_append_own _ rfl _ _ 22 rfl w.heap.size 3 i0 (.int .i64 0) 1 8 Tryz.underlying22 hi hz0 hz1 hz2 rfl (by decide) _ _ _ rfl hrow ⟨b2, o2, none⟩ k cap2 (zs.map (Value.int .i64)) rfl (by simp [hk]) (cells_add hI1) hone (by omega) (by omega) hB1.size ?_; intro v' w1 hown' hgrow _)
          go_roundw
          case rel => exact .inr ⟨by simp, by simpa using hown', hB1.grown hgrow hB1.size (fun j e => by have e : some w.heap.size = some j := e; cases e; exact Nat.le_refl _)⟩
          case measure => simp [intOf]
        · gi_wp2
          go_ret
          exact ⟨_, rfl, hown, hB2⟩
end Mq
end Go.Proofs
