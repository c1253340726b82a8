/- The middle of a list of ints, at this program. -/
import Derived.Test.YtfmjabdpkfcbkaaGreatDoorOrMid
import Derived.Shelf.SlIterI.Sorted
namespace Go.Proofs
open Go.RowKit Go.Maps Go.Sort Go.Shelf
namespace Mq
attribute [local go_sem] Oper.semAt_some
set_option maxRecDepth 100000 in
set_option maxHeartbeats 1000000 in
theorem collect_in (F : Fence) (n : Nat) (h73 : F.fn 73) (h3 : F.fn 110) (h5 : F.fn 218) (hro : F.round = none) (hn : 4 ≤ n) (Bs b off cap : Nat) (zs : List Int) (hlen : zs.length ≤ maxLen) (hbytes : zs.length * 8 ≤ 140737488351232) (w : World)
    (hBs : Bs < w.heap.size) (hb : b < w.heap.size) (hcs : w.cell? ⟨Bs, 0, none⟩ = some (.slice (some ⟨b, off, none⟩) zs.length cap)) (hI : Ints w b off zs) :
    CallsIn F n Tryz.prog 73 #[.func (.func 218) #[] #[.pointer (some ⟨Bs, 0, none⟩)]] w fun e W' => ∃ v, e = .returned v ∧ W'.ownsRow w.heap.size 3 1 v zs.length (zs.map (Value.int .i64)) ∧ Below w.heap.size w W' := by
  have h1 : 1 ≤ n := by omega
  have cA := appendSeq_in F (n - 1) h3 h5 hro (by omega) Bs b off cap zs hlen hbytes w hBs hb hcs hI
  refine callsIn_of_wp Tryz.func73 rfl h73 ?_ hro
  simp only [Tryz.ntmps73, List.size_toArray, List.length_cons, List.length_nil, Nat.reduceAdd, Nat.reduceSub, Array.replicate_succ, Array.replicate_zero, List.push_toArray, List.append_toArray, List.nil_append, List.cons_append]
  gi_wp2_with (gi_at_call 110; refine cA.mono ?_; rintro e w' ⟨v, rfl, hrow, hb⟩)
  go_ret
  exact ⟨v, rfl, hrow, hb⟩

theorem row_slice {W : World} {base : Nat} {v : Value} {k : Nat} {xs : List Value} (h : W.ownsRow base 3 1 v k xs) (h0 : 0 < k) :
    ∃ g cap cur, v = .slice (some ⟨g, 0, none⟩) k cap ∧ base ≤ g ∧ W.heap[g]? = some (.cells cur 3 (0, 0)) ∧ k ≤ cap ∧ cap ≤ maxLen ∧ cur.size = cap * 1 ∧ cur.toList.take (k * 1) = xs := by
  rcases h.2 with ⟨_, hz⟩ | h'
  · exact absurd hz (by omega)
  · exact h'
set_option maxRecDepth 100000 in
set_option maxHeartbeats 1000000 in
theorem sorted_in (n : Nat) (hn : 5 ≤ n) (Bs b off cap : Nat) (zs : List Int) (h0 : 0 < zs.length) (hlen : zs.length ≤ maxLen) (hbytes : zs.length * 8 ≤ 140737488351232) (w : World)
    (hBs : Bs < w.heap.size) (hb : b < w.heap.size) (hcs : w.cell? ⟨Bs, 0, none⟩ = some (.slice (some ⟨b, off, none⟩) zs.length cap)) (hI : Ints w b off zs) :
    CallsIn Fence.wide n Tryz.prog 38 #[.func (.func 218) #[] #[.pointer (some ⟨Bs, 0, none⟩)]] w fun e W' => ∃ v, e = .returned v ∧
      W'.ownsRow w.heap.size 3 1 v zs.length ((zs.mergeSort (fun x y => decide (x ≤ y))).map encZ) ∧ Below w.heap.size w W' := by
  have h1 : 1 ≤ n := by omega
  have h73 : Fence.wide.fn 73 := trivial
  have h74 : Fence.wide.fn 74 := trivial
  have cC := collect_in Fence.wide (n - 1) trivial trivial trivial rfl (by omega) Bs b off cap zs hlen hbytes w hBs hb hcs hI
  refine callsIn_of_wp Tryz.func38 rfl trivial ?_ rfl
  simp only [Tryz.ntmps38, List.size_toArray, List.length_cons, List.length_nil, Nat.reduceAdd, Nat.reduceSub, Array.replicate_succ, Array.replicate_zero, List.push_toArray, List.append_toArray, List.nil_append, List.cons_append]
  gi_wp2_with (gi_at_call 73; refine cC.mono ?_; rintro e W ⟨v, rfl, hrow, hb⟩; obtain ⟨gb, cap', cur, rfl, hbase, hgb, r1, r2, r3, r4⟩ := row_slice hrow h0)
  have hH : Holds encZ W gb 0 zs.toArray := holds_of_block_i hgb (by simpa using r4)
  have hgl : gb < W.heap.size := (Array.getElem?_eq_some_iff.1 hgb).1
  have hsz : zs.length < 4611686018427387904 := by omega
  have cS := callsIn_wide (n := n - 1).2 (AnyM.slices_Sort_int Tryz.sortA gb 0 cap' zs W hH hgl hsz)
  change CallsIn _ _ Tryz.prog 74 _ _ _ at cS
  gi_wp2_with (gi_at_call 74; refine cS.mono ?_; rintro e w' ⟨rfl, nn, os, rfl⟩)
  go_ret
  exact ⟨_, rfl, ownsRow_sorted_i (by simp) hbase hgb r1 r2 r3, hb.grown (grownBy_sorted_i _) hb.size (fun j hj => by cases hj; exact hbase)⟩
theorem row_cell {W : World} {g k : Nat} {cur : Array Value} {ms : List Int} {m : Int} (hgb : W.heap[g]? = some (.cells cur 3 (0, 0))) (r4 : cur.toList.take (k * 1) = ms.map encZ) (hml : ms.length = k) (hm : ms.getD ((k - 1) / 2) 0 = m) (h0 : 0 < k) :
    W.cell? ⟨g, (k - 1) / 2, none⟩ = some (.int .i64 m) := by
  have hj : (k - 1) / 2 < k := by omega
  have h1 : (cur.toList.take (k * 1))[(k - 1) / 2]? = some (.int .i64 m) := by
    rw [r4, List.getElem?_map]
    have : ms[(k - 1) / 2]? = some m := by
      rw [← hm, List.getD_eq_getElem?_getD, List.getElem?_eq_getElem (by omega)]; rfl
    rw [this]; rfl
  rw [List.getElem?_take_of_lt (by omega)] at h1
  simp only [World.cell?, hgb]
  simpa using h1
set_option maxRecDepth 100000 in
set_option maxHeartbeats 1000000 in
theorem mid_calls (b off cap : Nat) (zs : List Int) (h0 : 0 < zs.length) (hl : zs.length ≤ 1000) (w : World) (hb : b < w.heap.size) (hI : Ints w b off zs) :
    Calls Tryz.prog 93 #[.slice (some ⟨b, off, none⟩) zs.length cap] w fun e W' => e = .returned (.int .i64 ((zs.mergeSort (fun x y => decide (x ≤ y))).getD ((zs.length - 1) / 2) 0)) ∧ Below w.heap.size w W' := by
  refine (callsIn_wide (n := 7)).1 ?_
  have h154 : Fence.wide.fn 154 := trivial
  have h38 : Fence.wide.fn 38 := trivial
  have hB0 : Below w.heap.size w (w.alloc (.cells #[.slice (some ⟨b, off, none⟩) zs.length cap] 34)) := (Below.refl _ w).alloc (Nat.le_refl _) _
  have cV := values_in Fence.wide 6 trivial rfl (some ⟨b, off, none⟩) zs.length cap w
  have cS := sorted_in 6 (by omega) w.heap.size b off cap zs h0 (by have : maxLen = 9223372036854775807 := rfl; omega) (by omega) (w.alloc (.cells #[.slice (some ⟨b, off, none⟩) zs.length cap] 34)) (by simp) (by simp; omega)
    (Boxed.new w 34 _).cell (hI.below hB0 hb)
  generalize hm : (zs.mergeSort fun x y => decide (x ≤ y)).getD ((zs.length - 1) / 2) 0 = m
  generalize hms : (zs.mergeSort fun x y => decide (x ≤ y)) = ms at hm cS
  have hml : ms.length = zs.length := by rw [← hms]; simp
  clear hms
  generalize hzl : zs.length = len at *
  refine callsIn_of_wp Tryz.func93 rfl trivial ?_ rfl
  simp only [Tryz.ntmps93, List.size_toArray, List.length_cons, List.length_nil, Nat.reduceAdd, Nat.reduceSub, Array.replicate_succ, Array.replicate_zero, List.push_toArray, List.append_toArray, List.nil_append, List.cons_append]
  have hne : ¬ ((len : Int) = 0) := by omega
  gi_wp2_with (first
    | (gi_at_call 154; refine cV.mono ?_; rintro e w' ⟨rfl, rfl⟩)
    | (gi_at_call 38; refine cS.mono ?_; rintro e w' ⟨v, rfl, hrow, hb2⟩; obtain ⟨gb, cap', cur, rfl, hbase, hgb, r1, r2, r3, r4⟩ := row_slice hrow h0; have hcell := row_cell hgb r4 hml hm h0))
  go_ret
  exact ⟨rfl, hB0.trans (hb2.mono (by simp))⟩
end Mq
end Go.Proofs
