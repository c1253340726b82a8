/- Plain facts: the cells of a since. -/
import Derived.Test.YtbndhppjabbacaaPu2
namespace Ev
theorem take_get {α : Type} (l : List α) (i : Nat) (d : α) (h : i < l.length) : l.take (i + 1) = l.take i ++ [l.getD i d] := by
  rw [List.take_add_one, List.getD_eq_getElem?_getD, List.getElem?_eq_getElem h]; rfl
theorem mem_get {α : Type} (l : List α) (i : Nat) (d : α) (h : i < l.length) : l.getD i d ∈ l := by
  rw [List.getD_eq_getElem?_getD, List.getElem?_eq_getElem h]; exact List.getElem_mem h
theorem not_true {b : Bool} (h : (!b) = true) : b = false := by cases b <;> simp_all
theorem not_false' {b : Bool} (h : (!b) = false) : b = true := by cases b <;> simp_all
theorem ext_getD {l m : List Bool} (h : l.length = m.length) (h' : ∀ i, l.getD i false = m.getD i false) : l = m := by
  apply List.ext_getElem h
  intro i h1 h2
  have := h' i
  simpa [List.getD_eq_getElem?_getD, List.getElem?_eq_getElem h1, List.getElem?_eq_getElem h2] using this
theorem seg_at (c : CodeR) (cells : List Bool) (j : Nat) (hj : j ≤ (sinceTo c).toNat) : (seg c cells).getD j false = cells.getD (c.A.toNat + j) false := by
  unfold seg
  simp only [List.getD_eq_getElem?_getD, List.getElem?_take, List.getElem?_drop]
  rw [if_pos (by omega)]
theorem sinceSeg_get (c : CodeR) (p q : Bool) (cells : List Bool) (d : Nat) (hd : d ≤ (sinceTo c).toNat) : (sinceSeg c p q cells).getD d false = sinceNew c p q (seg c cells) d := by
  unfold sinceSeg
  simp only [List.getD_eq_getElem?_getD, List.getElem?_map, List.getElem?_range (show d < (sinceTo c).toNat + 1 by omega)]
  rfl
theorem sinceCells_get (c : CodeR) (p q : Bool) (cells : List Bool) (h : c.A.toNat + (sinceTo c).toNat + 1 ≤ cells.length) (i : Nat) :
    (sinceCells c p q cells).getD i false = if c.A.toNat ≤ i ∧ i ≤ c.A.toNat + (sinceTo c).toNat then sinceNew c p q (seg c cells) (i - c.A.toNat) else cells.getD i false := by
  have hl := sinceSeg_len c p q cells
  have ht : (cells.take c.A.toNat).length = c.A.toNat := by simp; omega
  unfold sinceCells
  rw [List.append_assoc, List.getD_eq_getElem?_getD]
  by_cases h1 : i < c.A.toNat
  · rw [if_neg (by omega), List.getElem?_append_left (by omega), List.getElem?_take, if_pos h1, List.getD_eq_getElem?_getD]
  · rw [List.getElem?_append_right (by omega), ht]
    by_cases h2 : i ≤ c.A.toNat + (sinceTo c).toNat
    · rw [if_pos ⟨by omega, h2⟩, List.getElem?_append_left (by omega), ← List.getD_eq_getElem?_getD]
      exact sinceSeg_get c p q cells _ (by omega)
    · rw [if_neg (by omega), List.getElem?_append_right (by omega), hl, List.getElem?_drop, List.getD_eq_getElem?_getD]
      congr 2
      omega
/-- the cells behind the first loop -/
def Shifted (c : CodeR) (p : Bool) (cells cs : List Bool) (d : Nat) : Prop :=
  cs.length = cells.length ∧ ∀ i, cs.getD i false = if c.A.toNat + d < i ∧ i ≤ c.A.toNat + (sinceTo c).toNat then p && cells.getD (i - 1) false else cells.getD i false
theorem shifted0 (c : CodeR) (p : Bool) (cells : List Bool) : Shifted c p cells cells (sinceTo c).toNat := ⟨rfl, fun i => by rw [if_neg (by omega)]⟩
theorem shifted_step {c : CodeR} {p : Bool} {cells cs : List Bool} {d : Nat} (h : Shifted c p cells cs (d + 1)) (hs : c.A.toNat + (sinceTo c).toNat + 1 ≤ cells.length) (hd : d + 1 ≤ (sinceTo c).toNat) :
    Shifted c p cells (cs.set (c.A.toNat + (d + 1)) (p && cs.getD (c.A.toNat + d) false)) d := by
  refine ⟨by rw [List.length_set]; exact h.1, fun i => ?_⟩
  have hg := h.2 (c.A.toNat + d)
  rw [if_neg (by omega)] at hg
  rw [getD_set, hg]
  have hi := h.2 i
  have hl := h.1
  by_cases e : c.A.toNat + (d + 1) = i
  · rw [if_pos (by omega), if_pos (by omega)]
    congr 2
    omega
  · rw [if_neg (by omega), hi]
    by_cases e2 : c.A.toNat + (d + 1) < i ∧ i ≤ c.A.toNat + (sinceTo c).toNat
    · rw [if_pos e2, if_pos (by omega)]
    · rw [if_neg e2, if_neg (by omega)]
theorem since_done {c : CodeR} {p q : Bool} {cells cs : List Bool} (h : Shifted c p cells cs 0) (hs : c.A.toNat + (sinceTo c).toNat + 1 ≤ cells.length) (hT : c.To ≠ -1) : cs.set c.A.toNat q = sinceCells c p q cells := by
  refine ext_getD (by rw [List.length_set, sinceCells_len hs]; exact h.1) fun i => ?_
  rw [sinceCells_get c p q cells hs i, getD_set, h.2 i, h.1]
  by_cases e : c.A.toNat = i
  · rw [if_pos (by omega), if_pos (by omega)]
    have : i - c.A.toNat = 0 := by omega
    rw [this]
    simp [sinceNew, sinceBase, hT]
  · rw [if_neg (by omega)]
    by_cases e2 : c.A.toNat < i ∧ i ≤ c.A.toNat + (sinceTo c).toNat
    · rw [if_pos (by omega), if_pos (by omega)]
      obtain ⟨d, hd⟩ : ∃ d, i - c.A.toNat = d + 1 := ⟨i - c.A.toNat - 1, by omega⟩
      rw [hd]
      simp only [sinceNew, sinceBase, hT, decide_false, Bool.false_and, Bool.or_false]
      rw [seg_at c cells d (by omega)]
      congr 2
      omega
    · rw [if_neg (by omega), if_neg (by omega)]
theorem since_done' {c : CodeR} {p q : Bool} {cells cs : List Bool} (h : Shifted c p cells cs 0) (hs : c.A.toNat + (sinceTo c).toNat + 1 ≤ cells.length) (hT : c.To = -1) :
    (cs.set c.A.toNat q).set (c.A.toNat + (sinceTo c).toNat) ((cs.set c.A.toNat q).getD (c.A.toNat + (sinceTo c).toNat) false || (p && cells.getD (c.A.toNat + (sinceTo c).toNat) false)) = sinceCells c p q cells := by
  refine ext_getD (by rw [List.length_set, List.length_set, sinceCells_len hs]; exact h.1) fun i => ?_
  rw [sinceCells_get c p q cells hs i, getD_set, getD_set, getD_set, List.length_set, h.2 i, h.2 (c.A.toNat + (sinceTo c).toNat), h.1]
  have hn : ∀ d, sinceNew c p q (seg c cells) d = (sinceBase p q (seg c cells) d || (decide (d = (sinceTo c).toNat) && (p && (seg c cells).getD d false))) := by
    intro d; simp [sinceNew, hT]
  rw [hn]
  by_cases e : c.A.toNat + (sinceTo c).toNat = i
  · rw [if_pos (show c.A.toNat + (sinceTo c).toNat = i ∧ i < cells.length by omega), if_pos (show c.A.toNat ≤ i ∧ i ≤ c.A.toNat + (sinceTo c).toNat by omega)]
    have e1 : i - c.A.toNat = (sinceTo c).toNat := by omega
    rw [e1, decide_eq_true rfl, Bool.true_and, seg_at c cells _ (Nat.le_refl _)]
    by_cases e2 : (sinceTo c).toNat = 0
    · rw [if_pos (show c.A.toNat = c.A.toNat + (sinceTo c).toNat ∧ c.A.toNat + (sinceTo c).toNat < cells.length by omega), e2]; rfl
    · rw [if_neg (show ¬ (c.A.toNat = c.A.toNat + (sinceTo c).toNat ∧ c.A.toNat + (sinceTo c).toNat < cells.length) by omega), if_pos (by omega)]
      obtain ⟨d, hd⟩ : ∃ d, (sinceTo c).toNat = d + 1 := ⟨(sinceTo c).toNat - 1, by omega⟩
      rw [hd]
      simp only [sinceBase]
      rw [seg_at c cells d (by omega)]
      rfl
  · rw [if_neg (by omega)]
    by_cases e2 : c.A.toNat = i
    · rw [if_pos (by omega), if_pos (by omega), decide_eq_false (by omega), Bool.false_and, Bool.or_false]
      have : i - c.A.toNat = 0 := by omega
      rw [this]; rfl
    · rw [if_neg (by omega)]
      by_cases e3 : c.A.toNat < i ∧ i ≤ c.A.toNat + (sinceTo c).toNat
      · rw [if_pos (by omega), if_pos (by omega), decide_eq_false (by omega), Bool.false_and, Bool.or_false]
        obtain ⟨d, hd⟩ : ∃ d, i - c.A.toNat = d + 1 := ⟨i - c.A.toNat - 1, by omega⟩
        rw [hd]
        simp only [sinceBase]
        rw [seg_at c cells d (by omega)]
        congr 2
        omega
      · rw [if_neg (by omega), if_neg (by omega)]
theorem since_get {c : CodeR} {p q : Bool} {cells : List Bool} (hs : c.A.toNat + (sinceTo c).toNat + 1 ≤ cells.length) (d : Nat) (hd : d ≤ (sinceTo c).toNat) : (sinceSeg c p q cells).getD d false = (sinceCells c p q cells).getD (c.A.toNat + d) false := by
  rw [sinceSeg_get c p q cells d hd, sinceCells_get c p q cells hs, if_pos (by omega)]
  congr 1
  omega
end Ev
