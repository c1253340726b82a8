/- Plain facts of programs that verify: no step of theirs falls out of the stack, the cells, the properties. -/
import Derived.Test.YtbndhppjabbacaaPu1
namespace Ev
theorem scan_codeOk (nA nP : Nat) : ∀ (l : List CodeR) (tk td : Int → Bool), scan nA nP l tk td = true → ∀ c, c ∈ l → codeP nA nP c
  | [], _, _, _, c, hc => nomatch hc
  | d :: r, tk, td, h, c, hc => by
    unfold scan at h
    rw [Bool.and_eq_true] at h
    rcases List.mem_cons.1 hc with hc | hc
    · subst hc
      have := h.1
      unfold codeIn at this
      simp only [Bool.and_eq_true, codeOk_iff] at this
      exact this.1.1
    · exact scan_codeOk nA nP r _ _ h.2 c hc
theorem verify_code {p : ProgR} (h : verify p = 0) {c : CodeR} (hc : c ∈ p.Codes) : codeP p.Atoms.length p.Props.length c :=
  scan_codeOk _ _ _ _ _ (verify_ok h).2.2.2.2.2.2.1 c hc
theorem cellsF_ge : ∀ (l : List CodeR) (m : Int), m ≤ cellsF l m
  | [], m => Int.le_refl _
  | c :: r, m => by
    unfold cellsF
    have := cellsF_ge r (if 0 < own c ∧ c.A ≤ 2147483648 ∧ m < c.A + own c then c.A + own c else m)
    split at this <;> split <;> omega
theorem cellsF_mem : ∀ (l : List CodeR) (m : Int) (c : CodeR), c ∈ l → 0 < own c → c.A ≤ 2147483648 → c.A + own c ≤ cellsF l m
  | [], _, _, h, _, _ => nomatch h
  | d :: r, m, c, h, h1, h2 => by
    unfold cellsF
    rcases List.mem_cons.1 h with h | h
    · subst h
      have := cellsF_ge r (if 0 < own c ∧ c.A ≤ 2147483648 ∧ m < c.A + own c then c.A + own c else m)
      split at this <;> split <;> omega
    · exact cellsF_mem r _ c h h1 h2
theorem cellsN_nonneg (l : List CodeR) : 0 ≤ cellsN l := cellsF_ge l 0
theorem verify_cells {p : ProgR} (h : verify p = 0) : 0 ≤ p.Cells := by
  have := (verify_ok h).2.2.2.2.2.2.2.2.2.2.2
  rw [this]; exact cellsN_nonneg _
theorem cells_max {nA nP : Nat} : ∀ (l : List CodeR) (m : Int), (∀ c, c ∈ l → codeP nA nP c) → m ≤ 20000 → cellsF l m ≤ 20000
  | [], m, _, h => h
  | c :: r, m, hc, h => by
    unfold cellsF
    refine cells_max r _ (fun d hd => hc d (List.mem_cons_of_mem _ hd)) ?_
    have hc := hc c (by simp)
    split
    · rename_i h1
      unfold codeP own at *
      repeat' (first | split at h1 | split at hc | split)
      all_goals omega
    · exact h
theorem verify_cells_le {p : ProgR} (h : verify p = 0) : p.Cells ≤ 20000 := by
  rw [(verify_ok h).2.2.2.2.2.2.2.2.2.2.2]
  exact cells_max (nA := p.Atoms.length) (nP := p.Props.length) _ _ (fun c hc => verify_code h hc) (by omega)
theorem stk_step {c : CodeR} {r : List CodeR} {now most : Int} (h : 0 ≤ stk (c :: r) now most) : ∃ t p, mvs c = some (t, p) ∧ t ≤ now ∧ 0 ≤ stk r (now - t + p) (if most < now - t + p then now - t + p else most) := by
  unfold stk at h
  split at h
  · omega
  · rename_i t p hm
    split at h
    · omega
    · exact ⟨t, p, hm, by omega, h⟩
/-- what an instruction of a program that verifies needs, with so many values on the stack -/
structure Fits (p : ProgR) (cells : List Bool) (n : Nat) (c : CodeR) : Prop where
  ok : codeP p.Atoms.length p.Props.length c
  one : (c.Do = 3 ∨ c.Do = 6 ∨ c.Do = 8) → 1 ≤ n
  two : c.Do = 7 → 2 ≤ n
  many : (c.Do = 4 ∨ c.Do = 5) → c.A.toNat ≤ n
  prev : c.Do = 6 → c.A.toNat < cells.length
  since : c.Do = 7 → c.A.toNat + (sinceTo c).toNat + 1 ≤ cells.length
theorem fits_of {p : ProgR} (h : verify p = 0) {c : CodeR} (hc : c ∈ p.Codes) {cells : List Bool} (hl : (cells.length : Int) = p.Cells) {n : Nat} {t q : Int} (hm : mvs c = some (t, q)) (ht : t ≤ n) : Fits p cells n c := by
  have ok := verify_code h hc
  have hcell := (verify_ok h).2.2.2.2.2.2.2.2.2.2.2
  have mem := cellsF_mem p.Codes 0 c hc
  rw [show cellsF p.Codes 0 = p.Cells from hcell.symm] at mem
  have cs := mvs_cases c
  rw [hm] at cs
  rcases cs with ⟨h0, _⟩ | ⟨t', q', he, cs⟩
  · cases h0
  injection he with he
  injection he with e1 e2
  subst e1; subst e2
  unfold codeP at ok
  refine ⟨ok, fun _ => by omega, fun _ => by omega, fun _ => by omega, fun h6 => ?_, fun h7 => ?_⟩
  · have : own c = 1 := by unfold own; rw [if_pos (by omega)]
    have := mem (by omega) (by omega)
    omega
  · have : own c = sinceTo c + 1 := by
      unfold own sinceTo
      rw [if_neg (by omega), if_neg (by omega)]
      split
      · rfl
      · rw [if_pos (by omega)]
    have h2 : 0 ≤ sinceTo c := by unfold sinceTo; split <;> omega
    have := mem (by omega) (by omega)
    omega
theorem sinceSeg_len (c : CodeR) (p q : Bool) (cells : List Bool) : (sinceSeg c p q cells).length = (sinceTo c).toNat + 1 := by simp [sinceSeg]
theorem sinceCells_len {c : CodeR} {p q : Bool} {cells : List Bool} (h : c.A.toNat + (sinceTo c).toNat + 1 ≤ cells.length) : (sinceCells c p q cells).length = cells.length := by
  simp only [sinceCells, List.length_append, List.length_take, List.length_drop, sinceSeg_len]
  omega
theorem stepC_stack {p : ProgR} (at_ : Int → Bool × Bool) {c : CodeR} {r : Rn} (h : Fits p r.cells r.stack.length c) {t q : Int} (hm : mvs c = some (t, q)) :
    ((stepC at_ c r).stack.length : Int) = r.stack.length - t + q ∧ (stepC at_ c r).cells.length = r.cells.length := by
  have cs := mvs_cases c
  rw [hm] at cs
  rcases cs with ⟨h0, _⟩ | ⟨t', q', he, cs⟩
  · cases h0
  injection he with he
  injection he with e1 e2
  subst e1; subst e2
  have h1 := h.one
  have h2 := h.two
  have h3 := h.many
  have hd : c.Do = 0 ∨ c.Do = 1 ∨ c.Do = 2 ∨ c.Do = 3 ∨ c.Do = 4 ∨ c.Do = 5 ∨ c.Do = 6 ∨ c.Do = 7 ∨ c.Do = 8 := by omega
  have hs : c.Do = 7 → ∀ p q, (sinceCells c p q r.cells).length = r.cells.length := fun h7 p q => sinceCells_len (h.since h7)
  rcases hd with hd | hd | hd | hd | hd | hd | hd | hd | hd <;> simp [stepC, runC, hd] at h1 h2 h3 cs ⊢ <;> first | omega | (refine ⟨?_, ?_⟩ <;> first | omega | exact hs hd _ _)
/-- the whole tick: of each place -/
structure Run (p : ProgR) (l : List CodeR) (r : Rn) (most : Int) : Prop where
  st : 0 ≤ stk l r.stack.length most
  cells : (r.cells.length : Int) = p.Cells
  mem : ∀ c, c ∈ l → c ∈ p.Codes
  out : r.out.length = p.Props.length
  bad : r.bad.length = p.Props.length
theorem run_fits {p : ProgR} (h : verify p = 0) {c : CodeR} {l : List CodeR} {r : Rn} {most : Int} (hr : Run p (c :: l) r most) : Fits p r.cells r.stack.length c := by
  obtain ⟨t, q, hm, ht, _⟩ := stk_step hr.st
  exact fits_of h (hr.mem c (by simp)) hr.cells hm ht
theorem run_next {p : ProgR} (h : verify p = 0) (at_ : Int → Bool × Bool) {c : CodeR} {l : List CodeR} {r : Rn} {most : Int} (hr : Run p (c :: l) r most) : ∃ most', Run p l (stepC at_ c r) most' := by
  obtain ⟨t, q, hm, ht, hs⟩ := stk_step hr.st
  have hf := fits_of h (hr.mem c (by simp)) hr.cells hm ht
  have hst := stepC_stack at_ hf hm
  have hlen := stepC_len at_ c r
  exact ⟨_, ⟨by rw [hst.1]; exact hs, by rw [hst.2]; exact hr.cells, fun d hd => hr.mem d (List.mem_cons_of_mem _ hd), hlen.2.trans hr.out, hlen.1.trans hr.bad⟩⟩
theorem run0 {p : ProgR} (h : verify p = 0) {s : MS} (hb : s.bad.length = p.Props.length) (hc : (s.cells.length : Int) = p.Cells) : Run p p.Codes (rn0 p.Props.length s) 0 :=
  ⟨(verify_ok h).2.2.2.2.2.2.2.1, hc, fun _ h => h, by simp [rn0], hb⟩
/-- a machine's state that is right -/
structure Right (p : ProgR) (s : MS) : Prop where
  bad : s.bad.length = p.Props.length
  cells : (s.cells.length : Int) = p.Cells
theorem stepL_run {p : ProgR} (h : verify p = 0) (at_ : Int → Bool × Bool) : ∀ (l : List CodeR) (r : Rn) (most : Int), Run p l r most → ∃ most', Run p [] (stepL at_ l r) most'
  | [], r, most, hr => ⟨most, hr⟩
  | c :: l, r, most, hr => by
    obtain ⟨m', h'⟩ := run_next h at_ hr
    exact stepL_run h at_ l _ m' h'
theorem stepM_right {p : ProgR} (h : verify p = 0) (at_ : Int → Bool × Bool) {s : MS} (hs : Right p s) : Right p (stepM p at_ s) := by
  obtain ⟨m, hr⟩ := stepL_run h at_ p.Codes _ _ (run0 h hs.bad hs.cells)
  exact ⟨hr.bad, hr.cells⟩
theorem ms0_right {p : ProgR} (h : verify p = 0) : Right p (ms0 p) := by
  have := verify_cells h
  exact ⟨by simp [ms0], by simp [ms0]; omega⟩
end Ev
