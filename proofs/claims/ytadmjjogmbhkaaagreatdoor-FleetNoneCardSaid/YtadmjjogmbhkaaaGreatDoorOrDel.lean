/- slices.Delete of the first letter, at this program. -/
import Derived.Test.YtadmjjogmbhkaaaGreatDoorCe13
import Derived.WalkKit
import Derived.KernelRfl
import Derived.Deep.RegionLaw
import Derived.Deep.LoopGhost
import Derived.Shelf.RegionOpenPlain
import Derived.Lib.Walk
import Derived.Test.YtadmjjogmbhkaaaGreatDoorProg
namespace Go.Proofs
open Go.RowKit
namespace Mq
attribute [local go_sem] Oper.semAt_some
theorem step_append_run {P : Program} {ops : Array Oper} {o : Oper} {a : Act} {w w' : World} {K : Act → World → Prop} {Q : Exit → Act → World → Prop} {E : Prop} {v v1 v2 : Value}
    (hg : o.guard = none) (s x : Operand) (t : TypeId) (hop : o.op = Op.call { callee := Callee.builtin Builtin.append, args := #[s, x], argTypes := #[t, t] }) (hs : a.eval s = v1) (hx : a.eval x = v2)
    (hrun : (Builtin.append_ #[t, t] o.type #[v1, v2]).run P w = .ok v w') (hK : K (a.put o.dst v) w') : if Region.wanted o (yielded ops a.tmps) = true then Oper.wp P o a w K Q else E := by
  have hw : Region.wanted o (yielded ops a.tmps) = true := by simp [Region.wanted, hg]
  rw [if_pos hw]
  unfold Oper.wp
  simp [execOp, hop, resolve, invoke, builtin, hs, hx, hrun, Result.andThen]
  exact hK
theorem letter_info : (Tryz.prog.info? 82).map (fun i => (i.zero, i.size)) = some (some (.agg Ev.zl6.toArray), 6) := by kernel_rfl
theorem letter_parts : ∃ i, Tryz.prog.info? 82 = some i ∧ i.zero = some (.agg Ev.zl6.toArray) ∧ i.size = 6 := by
  have h := letter_info
  cases hi : Tryz.prog.info? 82 with
  | none => rw [hi] at h; cases h
  | some i =>
    rw [hi] at h
    simp only [Option.map_some, Option.some.injEq, Prod.mk.injEq] at h
    exact ⟨i, rfl, h.1, h.2⟩
theorem app_run (b o cap m : Nat) (c : Array Value) (el : TypeId) (fz : Nat × Nat) (w : World) (hg : w.heap[b]? = some (.cells c el fz)) (hz : Ev.okFz fz c.size) (h1 : ∀ u ∈ (c.toList.drop (o + 6)).take (m * 6), u.oneCell' = true)
    (hnc : m + 1 ≤ cap) (hfit : o + cap * 6 ≤ c.size) (A : Addr) (hA : cap ≠ 1 → A = ⟨b, o + 6, none⟩) (ty : TypeId) :
    (Builtin.append_ #[27, 27] ty #[.slice (some ⟨b, o, none⟩) 0 cap, .slice (some A) m (cap - 1)]).run Tryz.prog w =
      .ok (.slice (some ⟨b, o, none⟩) m cap) (w.setRow b (c.toList.take o ++ (c.toList.drop (o + 6)).take (m * 6) ++ c.toList.drop (o + m * 6)).toArray) := by
  obtain ⟨i0, hi, hz0, hz1⟩ := letter_parts
  have hl : ((c.toList.drop (o + 6)).take (m * 6)).length = m * i0.size := by rw [hz1]; simp; omega
  have hnews : ∀ j u, ((c.toList.drop (o + 6)).take (m * 6))[j]? = some u → w.cell? (A.add j) = some u := by
    intro j u hu
    have hj : j < m * 6 := by
      have := (List.getElem?_eq_some_iff.1 hu).1
      simp at this; omega
    rw [hA (by omega)]
    rw [List.getElem?_take_of_lt hj, List.getElem?_drop] at hu
    have e : (⟨b, o + 6, none⟩ : Addr).add j = ⟨b, o + 6 + j, none⟩ := by unfold Addr.add; split <;> simp_all
    rw [e]
    simp only [World.cell?, hg]
    simpa using hu
  have h := Ev.run_append_roomZ (P := Tryz.prog) (ty := ty) Tryz.underlying27 hi b o 0 cap c hg hz A m (cap - 1) _ hl hnews h1 (by omega) (by rw [hl, hz1]; omega)
  rw [h, hl, hz1]
  simp
theorem clr_run (b o m cap : Nat) (c : Array Value) (el : TypeId) (fz : Nat × Nat) (w W1 : World) (hW1 : W1 = w.setRow b (c.toList.take o ++ (c.toList.drop (o + 6)).take (m * 6) ++ c.toList.drop (o + m * 6)).toArray) (hg : w.heap[b]? = some (.cells c el fz)) (hz : Ev.okFz fz c.size)
    (hfit : o + (m + 1) * 6 ≤ c.size) (ty : TypeId) :
    (Builtin.clear_ #[27] ty #[.slice (some ⟨b, o + m * 6, none⟩) 1 (cap - m)]).run Tryz.prog W1 = .ok (.tuple #[]) (W1.setRow b (Ev.delRow Ev.zl6 c.toList o (m + 1)).toArray) := by
  obtain ⟨i0, hi, hz0, hz1⟩ := letter_parts
  have hlen : (c.toList.take o ++ (c.toList.drop (o + 6)).take (m * 6) ++ c.toList.drop (o + m * 6)).length = c.size := by simp; omega
  have hg1 : W1.heap[b]? = some (.cells (c.toList.take o ++ (c.toList.drop (o + 6)).take (m * 6) ++ c.toList.drop (o + m * 6)).toArray el fz) := by rw [hW1]; exact setRow_heap w b c _ el fz hg
  have hst := Ev.run_storeCells_atZ Tryz.prog b (o + m * 6) el fz Ev.zl6 0 _ W1 hg1 (by rw [List.size_toArray, hlen]; exact hz) (by rw [List.size_toArray, hlen]; simp [Ev.zl6]; omega) (by simp [Ev.zl6, Value.oneCell'])
  have hzc : (Builtin.zeroCells (Value.agg Ev.zl6.toArray).cells 1).toList = Ev.zl6 := by kernel_rfl
  simp only [Builtin.clear_, List.getElem?_toArray, List.getElem?_cons_zero, Sem.run_bind, run_underlying Tryz.underlying27, Result.andThen_ok, Ev.run_zeroValue hi hz0, hzc, hst, Sem.run_pure]
  have e1 : (c.toList.take o ++ (c.toList.drop (o + 6)).take (m * 6) ++ c.toList.drop (o + m * 6)).take (o + m * 6 + 0) = c.toList.take o ++ (c.toList.drop (o + 6)).take (m * 6) := by
    rw [List.take_append_of_le_length (by simp; omega), List.take_of_length_le (by simp; omega)]
  have e0 : ∀ (p q : List Value) (k : Nat), p.length = k → (p ++ q).drop (k + 0 + Ev.zl6.length) = q.drop 6 := by
    intro p q k h
    subst h
    rw [show Ev.zl6.length = 6 by simp [Ev.zl6], Nat.add_zero, List.drop_length_add_append]
  have e2 : (c.toList.take o ++ (c.toList.drop (o + 6)).take (m * 6) ++ c.toList.drop (o + m * 6)).drop (o + m * 6 + 0 + Ev.zl6.length) = c.toList.drop (o + (m + 1) * 6) := by
    refine (e0 _ _ _ (by simp; omega)).trans ?_
    rw [List.drop_drop, show o + m * 6 + 6 = o + (m + 1) * 6 by omega]
  rw [List.toList_toArray, e1, e2]
  simp [Ev.delRow]
set_option maxRecDepth 100000 in
set_option maxHeartbeats 2000000 in
theorem del_does : Ev.DelDoes Tryz.prog 67 := by
  intro b o cap n c el fz w hg hz h1 hn hnc hmax hfit
  have hmax' : cap ≤ 9223372036854775807 := hmax
  have mixed : Tryz.prog.follows .mixedOrders = true := by kernel_rfl
  obtain ⟨m, rfl⟩ : ∃ m, n = m + 1 := ⟨n - 1, by omega⟩
  simp only [Nat.add_sub_cancel] at h1 ⊢
  obtain ⟨A, hA, hA2⟩ : ∃ A : Addr, (if cap = 1 then (some ⟨b, o, none⟩ : Option Addr) else some ⟨b, o + 6, none⟩) = some A ∧ Hid (cap ≠ 1 → A = ⟨b, o + 6, none⟩) := by
    by_cases h : cap = 1
    · exact ⟨_, by rw [if_pos h], fun e => absurd h e⟩
    · exact ⟨_, by rw [if_neg h], fun _ => rfl⟩
  obtain ⟨W1, hW1⟩ : ∃ W1, W1 = w.drew.setRow b (c.toList.take o ++ (c.toList.drop (o + 6)).take (m * 6) ++ c.toList.drop (o + m * 6)).toArray := ⟨_, rfl⟩
  have happ : ∀ ty, (Builtin.append_ #[27, 27] ty #[.slice (some ⟨b, o, none⟩) 0 cap, .slice (some A) m (cap - 1)]).run Tryz.prog w.drew = .ok (.slice (some ⟨b, o, none⟩) m cap) W1 := fun ty => by
    rw [hW1]; exact app_run b o cap m c el fz w.drew hg hz h1 hnc hfit A hA2.out ty
  obtain ⟨W2, hW2⟩ : ∃ W2, W2 = W1.setRow b (Ev.delRow Ev.zl6 c.toList o (m + 1)).toArray := ⟨_, rfl⟩
  have hcl : ∀ ty, (Builtin.clear_ #[27] ty #[.slice (some ⟨b, o + m * 6, none⟩) 1 (cap - m)]).run Tryz.prog W1 = .ok (.tuple #[]) W2 := fun ty => by
    rw [hW2]; exact clr_run b o m cap c el fz w.drew W1 hW1 hg hz (by omega) ty
  have X2 : Hid (W2 = W1.setRow b (Ev.delRow Ev.zl6 c.toList o (m + 1)).toArray) := hW2
  clear hW2
  have hne : ¬ cap = m := by omega
  have hc1 : 1 ≤ cap := by omega
  have hmc : m ≤ cap := by omega
  have hm1 : (1 : Int) ≤ (m : Int) + 1 := by omega
  have X : Hid (W1 = w.drew.setRow b (c.toList.take o ++ (c.toList.drop (o + 6)).take (m * 6) ++ c.toList.drop (o + m * 6)).toArray) := hW1
  have h1' := h1
  have hg' : Hid (w.heap[b]? = some (.cells c el fz)) := hg
  clear hW1 h1 h1' hg
  go_enter Tryz.func67, Tryz.ntmps67
  go_wp2_with fail
  go_region_law_o (refine step_append_run rfl (.tmp 22) (.tmp 25) 27 rfl (v1 := .slice (some ⟨b, o, none⟩) 0 cap) (by simp [Act.eval, Act.put]) (v2 := .slice (some A) m (cap - 1)) (by simp [Act.eval, Act.put]) (happ _) ?_)
  go_wp2
  go_ret
  refine ⟨rfl, ?_⟩
  rw [X2.out, X.out, setRow_setRow]
  exact ⟨by simp, fun k hk => setRow_other _ _ _ _ hk, setRow_heap w.drew b c _ el fz hg'.out, rfl, rfl, rfl⟩
end Mq
end Go.Proofs
