/- (*Peers).Seen at this program, where nobody was heard; stringslite.Clone at this program. -/
import Derived.Test.YtfmjabdpkfcbkaaGreatDoorOrMid2
import Derived.WalkSpells
import Derived.Shelf.Pu.Clone
namespace Go.Proofs
open Go.RowKit Go.Maps Go.Sort Go.Shelf

namespace Mq
attribute [local go_sem] Oper.semAt_some
theorem sortsA (m : Nat) : AnyZI.SortsIn Tryz.prog Tryz.sortedA_ren Fence.wide m :=
  ⟨fun blk off cap ss W hH hblk hsz => callsIn_wide.2 (AnyM.slices_Sort_int Tryz.sortA blk off cap ss W hH hblk hsz),
   fun p cap W => callsIn_wide.2 (AnyM.slices_Sort_int_none Tryz.sortA p cap W)⟩

set_option maxRecDepth 100000 in
set_option maxHeartbeats 1000000 in
theorem pnone_in (n b o mb : Nat) (w : World) (hc : w.cell? ⟨b, o + 3, none⟩ = some (.map (some mb))) :
    CallsIn Fence.wide n Tryz.prog 37 #[.pointer (some ⟨b, o, none⟩)] w fun e W' => e = .returned (.bool false) ∧ w = W' := by
  have hq : ∀ W : World, (binOp .eql 90 (.map (some mb)) (.map none)).run Tryz.prog W = .ok (.bool false) W := fun W => run_eql_map_nil W 90 3 92 (some mb) Tryz.underlying90
  refine callsIn_of_wp Tryz.func37 rfl trivial ?_ rfl
  simp only [Tryz.ntmps37, List.size_toArray, List.length_cons, List.length_nil, Nat.reduceAdd, Nat.reduceSub, Array.replicate_succ, Array.replicate_zero, List.push_toArray, List.append_toArray, List.nil_append, List.cons_append]
  gi_wp2
  go_ret
  exact ⟨rfl, rfl⟩

set_option maxRecDepth 100000 in
set_option maxHeartbeats 2000000 in
theorem seen_calls (b o mb clock : Nat) (now : Int) (w : World) (hc : w.cell? ⟨b, o + 3, none⟩ = some (.map (some mb))) (hmb : w.heap[mb]? = some (.map #[] clock)) (hlt : b < w.heap.size) :
    Calls Tryz.prog 12 #[.pointer (some ⟨b, o, none⟩), .int .i64 now] w fun e W' => e = .returned (.slice none 0 0) ∧ Below w.heap.size w W' := by
  refine (callsIn_wide (n := 6)).1 ?_
  have hml : mb < w.heap.size := (Array.getElem?_eq_some_iff.1 hmb).1
  have hown : (w.alloc (.cells #[.map (some mb)] 90)).ownsMap (H := Unit) Tryz.prog 3 (fun _ => none) mb 0 (.map []) :=
    ⟨#[], clock, (Below.heap_alloc _ _ mb hml).trans hmb, ⟨by simp, Go.MapKept.stamped_empty clock, by simp⟩, Nat.le_refl _, rfl⟩
  have hseq : SeqGives Fence.wide 2 Tryz.prog 75 #[.pointer (some ⟨w.heap.size, 0, none⟩)] encZ (fun ss => ss.Perm (intKeys (.map [] : DataW Unit))) (Maps.size (.map [] : DataW Unit)) (w.alloc (.cells #[.map (some mb)] 90)) :=
    AnyZI.keys_gives (ρ := Tryz.keysA_ren) { Tryz.keysA with } Fence.wide _ trivial rfl (by omega) w.heap.size mb 0 (.map []) _ (by simp) (by simp) hown
  have cN := pnone_in 5 b o mb w hc
  have cK : ∀ mb W, CallsIn Fence.wide 5 Tryz.prog 39 #[.map mb] W fun e w' => e = .returned (.func (.func 75) #[] #[.pointer (some ⟨W.heap.size, 0, none⟩)]) ∧ w' = W.alloc (.cells #[.map mb] 90) := fun mb W => AnyZI.keys_in Tryz.keysA Fence.wide 5 trivial rfl mb W
  have cS := AnyZI.sorted_in Tryz.sortedA Fence.wide 5 trivial trivial trivial trivial rfl (by omega) (sortsA _) (enters_of Tryz.func74 (by kernel_rfl) rfl) 75 #[.pointer (some ⟨w.heap.size, 0, none⟩)] trivial (enters_of Tryz.func75 (by kernel_rfl) rfl) _ _ (by decide) (by decide) _ hseq
  change CallsIn _ _ Tryz.prog 38 _ _ _ at cS
  have hf37 : Fence.wide.fn 37 := trivial
  have hf39 : Fence.wide.fn 39 := trivial
  have hf38 : Fence.wide.fn 38 := trivial
  refine callsIn_of_wp Tryz.func12 rfl trivial ?_ rfl
  simp only [Tryz.ntmps12, List.size_toArray, List.length_cons, List.length_nil, Nat.reduceAdd, Nat.reduceSub, Array.replicate_succ, Array.replicate_zero, List.push_toArray, List.append_toArray, List.nil_append, List.cons_append]
  gi_wp2_with (first
    | (gi_at_call 37; refine cN.mono ?_; rintro e w' ⟨rfl, rfl⟩)
    | (gi_at_call 39; refine (cK _ _).mono ?_; rintro e w' ⟨rfl, rfl⟩)
    | (gi_at_call 38; refine cS.mono ?_; rintro e w' ⟨v, ss, rfl, hS, hrow, hnil, hb⟩; obtain rfl : ss = [] := List.Perm.eq_nil (by simpa [intKeys] using hS); obtain rfl : v = .slice none 0 0 := hnil.2 rfl))
  gi_loopw [5, 19] (fun x i wr => x = .slice none 0 0 ∧ i = .int .i64 0 ∧ Below w.heap.size w wr) (fun _ _ _ => 0)
  case atStart => exact ⟨rfl, rfl, ((Below.refl _ w).alloc (Nat.le_refl _) _).trans (hb.mono (by simp))⟩
  case round =>
    obtain ⟨rfl, rfl, hJs⟩ := hrel
    gi_wp2
    go_ret
    exact ⟨rfl, hJs⟩
end Mq
end Go.Proofs
