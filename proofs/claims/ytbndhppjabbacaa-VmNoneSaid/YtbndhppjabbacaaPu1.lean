/- Plain functions: sums of 192 bits, atoms, a machine's step. No program in sight. -/
import Derived.Test.YtbndhppjabbacaaPu0
import Derived.Test.YtbndhppjabbacaaEv0
namespace Ev
open Go
/-- sums -/
def add64 (x y c : Int) : Int × Int := (wr .u64 (x + y + c), (x + y + c) / 18446744073709551616)
def plus2 (o x : SumR) : SumR :=
  ⟨(add64 o.a x.a 0).1, (add64 o.b x.b (add64 o.a x.a 0).2).1, (add64 o.c x.c (add64 o.b x.b (add64 o.a x.a 0).2).2).1⟩
def plusL (l : List SumR) : SumR := l.foldl plus2 ⟨0, 0, 0⟩
/-- the index of a name -/
def idxF (s : ByteArray) : List ByteArray → Int → Int
  | [], _ => -1
  | x :: r, i => if x = s then i else idxF s r (i + 1)
theorem idxF_range (s : ByteArray) : ∀ (l : List ByteArray) (i : Int), idxF s l i = -1 ∨ i ≤ idxF s l i ∧ idxF s l i < i + l.length
  | [], i => .inl rfl
  | x :: r, i => by
    unfold idxF
    split
    · right; simp; omega
    · rcases idxF_range s r (i + 1) with h | h
      · exact .inl h
      · right; simp; omega
def valueF (names : List ByteArray) (row : List Int) (name : ByteArray) : Int :=
  if idxF name names 0 < 0 ∨ (row.length : Int) ≤ idxF name names 0 then 0 else row.getD (idxF name names 0).toNat 0
/-- numbers that lack are 0, those above are not looked at -/
theorem valueF_short {names : List ByteArray} {row row' : List Int} (h : ∀ i, i < names.length → row.getD i 0 = row'.getD i 0) (name : ByteArray) : valueF names row name = valueF names row' name := by
  unfold valueF
  rcases idxF_range name names 0 with hi | ⟨h0, h1⟩
  · simp [hi]
  · have h := h (idxF name names 0).toNat (by omega)
    generalize idxF name names 0 = i at *
    have g : ∀ l : List Int, (if i < 0 ∨ (l.length : Int) ≤ i then 0 else l.getD i.toNat 0) = l.getD i.toNat 0 := by
      intro l
      split
      · rename_i hc
        have : l.length ≤ i.toNat := by omega
        simp [List.getD_eq_getElem?_getD, List.getElem?_eq_none this]
      · rfl
    rw [g, g, h]

/-- a tick under way; the stack's top is its head -/
structure Rn where
  cells : List Bool
  stack : List Bool
  over : Bool
  cur : Bool
  bad : List Bool
  out : List Int
def sinceTo (c : CodeR) : Int := if c.To = -1 then c.From else c.To
def sinceBase (p q : Bool) (l : List Bool) (d : Nat) : Bool := match d with
  | 0 => q
  | d + 1 => p && l.getD d false
def sinceNew (c : CodeR) (p q : Bool) (l : List Bool) (d : Nat) : Bool :=
  sinceBase p q l d || (decide (c.To = -1) && decide (d = (sinceTo c).toNat) && (p && l.getD d false))
def seg (c : CodeR) (cells : List Bool) : List Bool := (cells.drop c.A.toNat).take ((sinceTo c).toNat + 1)
def sinceSeg (c : CodeR) (p q : Bool) (cells : List Bool) : List Bool := (List.range ((sinceTo c).toNat + 1)).map (sinceNew c p q (seg c cells))
def sinceCells (c : CodeR) (p q : Bool) (cells : List Bool) : List Bool :=
  cells.take c.A.toNat ++ sinceSeg c p q cells ++ cells.drop (c.A.toNat + ((sinceTo c).toNat + 1))
def sinceHolds (c : CodeR) (p q : Bool) (cells : List Bool) : Bool := ((sinceSeg c p q cells).drop c.From.toNat).any id
def hd (l : List Bool) : Bool := l.headD false
def manyF (v : Bool) (l : List Bool) : Bool := l.any fun x => x == v
/-- an instruction that puts a value: the value, the cells, the stack below it -/
def runC (c : CodeR) (cells stack : List Bool) : Bool × List Bool × List Bool :=
  if c.Do = 0 then (true, cells, stack)
  else if c.Do = 3 then (!hd stack, cells, stack.drop 1)
  else if c.Do = 4 then (!manyF false (stack.take c.A.toNat), cells, stack.drop c.A.toNat)
  else if c.Do = 5 then (manyF true (stack.take c.A.toNat), cells, stack.drop c.A.toNat)
  else if c.Do = 6 then (cells.getD c.A.toNat false, cells.set c.A.toNat (hd stack), stack.drop 1)
  else if c.Do = 7 then (sinceHolds c (hd (stack.drop 1)) (hd stack) cells, sinceCells c (hd (stack.drop 1)) (hd stack) cells, stack.drop 2)
  else (false, cells, stack)
def stepC (at_ : Int → Bool × Bool) (c : CodeR) (r : Rn) : Rn :=
  if c.Do = 2 then { r with stack := (at_ c.A).1 :: r.stack, over := r.over || (at_ c.A).2, cur := r.cur || (at_ c.A).2 }
  else if c.Do = 8 then ⟨r.cells, r.stack.drop 1, r.over, false, r.bad.set c.A.toNat (r.bad.getD c.A.toNat false || r.cur),
    r.out.set c.A.toNat (if (r.bad.getD c.A.toNat false || r.cur) = true then 2 else if hd r.stack = true then 1 else 0)⟩
  else ⟨(runC c r.cells r.stack).2.1, (runC c r.cells r.stack).1 :: (runC c r.cells r.stack).2.2, r.over, r.cur, r.bad, r.out⟩
def stepL (at_ : Int → Bool × Bool) : List CodeR → Rn → Rn
  | [], r => r
  | c :: l, r => stepL at_ l (stepC at_ c r)
/-- a machine's state -/
structure MS where
  cells : List Bool
  ticks : Int
  over : Bool
  bad : List Bool
  done : Int
def rn0 (nP : Nat) (s : MS) : Rn := ⟨s.cells, [], s.over, false, s.bad, List.replicate nP 0⟩
def tick1 (n : Int) : Int := if n < 9223372036854775807 then n + 1 else n
def ms0 (p : ProgR) : MS := ⟨List.replicate p.Cells.toNat false, 0, false, List.replicate p.Props.length false, 0⟩
def msOf (p : ProgR) (s : MS) (r : Rn) : MS := ⟨r.cells, tick1 s.ticks, r.over, r.bad, p.Codes.length⟩
def stepR (p : ProgR) (at_ : Int → Bool × Bool) (s : MS) : Rn := stepL at_ p.Codes (rn0 p.Props.length s)
def stepM (p : ProgR) (at_ : Int → Bool × Bool) (s : MS) : MS := msOf p s (stepR p at_ s)
def stepO (p : ProgR) (at_ : Int → Bool × Bool) (s : MS) : List Int := (stepR p at_ s).out

/-- what a tick keeps -/
theorem stepC_len (at_ : Int → Bool × Bool) (c : CodeR) (r : Rn) : (stepC at_ c r).bad.length = r.bad.length ∧ (stepC at_ c r).out.length = r.out.length := by
  unfold stepC
  split
  · simp
  · split <;> simp
theorem stepL_len (at_ : Int → Bool × Bool) : ∀ (l : List CodeR) (r : Rn), (stepL at_ l r).bad.length = r.bad.length ∧ (stepL at_ l r).out.length = r.out.length
  | [], r => ⟨rfl, rfl⟩
  | c :: l, r => by
    have h := stepL_len at_ l (stepC at_ c r)
    have h' := stepC_len at_ c r
    unfold stepL
    exact ⟨h.1.trans h'.1, h.2.trans h'.2⟩
theorem getD_set {α : Type} (l : List α) (i j : Nat) (v d : α) : (l.set i v).getD j d = if i = j ∧ j < l.length then v else l.getD j d := by
  simp only [List.getD_eq_getElem?_getD, List.getElem?_set]
  by_cases h : i = j
  · subst h
    by_cases h2 : i < l.length
    · simp [h2]
    · simp [h2]
  · simp [h]
theorem stepC_over (at_ : Int → Bool × Bool) (c : CodeR) (r : Rn) (h : (∀ k, r.bad.getD k false = true → r.over = true) ∧ (r.cur = true → r.over = true)) :
    (∀ k, (stepC at_ c r).bad.getD k false = true → (stepC at_ c r).over = true) ∧ ((stepC at_ c r).cur = true → (stepC at_ c r).over = true) := by
  unfold stepC
  split
  · refine ⟨fun k hk => ?_, fun hk => ?_⟩
    · simp [h.1 k hk]
    · simp only [Bool.or_eq_true] at hk ⊢
      rcases hk with hk | hk
      · exact .inl (h.2 hk)
      · exact .inr hk
  · split
    · refine ⟨fun k hk => ?_, fun hk => by cases hk⟩
      dsimp only at hk ⊢
      rw [getD_set] at hk
      split at hk
      · simp only [Bool.or_eq_true] at hk
        rcases hk with hk | hk
        · exact h.1 _ hk
        · exact h.2 hk
      · exact h.1 _ hk
    · exact h
theorem stepL_over (at_ : Int → Bool × Bool) : ∀ (l : List CodeR) (r : Rn), ((∀ k, r.bad.getD k false = true → r.over = true) ∧ (r.cur = true → r.over = true)) →
    (∀ k, (stepL at_ l r).bad.getD k false = true → (stepL at_ l r).over = true)
  | [], _, h => h.1
  | c :: l, r, h => stepL_over at_ l _ (stepC_over at_ c r h)
theorem stepC_mono (at_ : Int → Bool × Bool) (c : CodeR) (r : Rn) (k : Nat) (h : r.bad.getD k false = true) : (stepC at_ c r).bad.getD k false = true := by
  unfold stepC
  split
  · exact h
  · split
    · dsimp only
      rw [getD_set]
      split
      · rename_i hc; rw [hc.1, h]; rfl
      · exact h
    · exact h
theorem stepL_mono (at_ : Int → Bool × Bool) : ∀ (l : List CodeR) (r : Rn) (k : Nat), r.bad.getD k false = true → (stepL at_ l r).bad.getD k false = true
  | [], _, _, h => h
  | c :: l, r, k, h => stepL_mono at_ l _ k (stepC_mono at_ c r k h)
/-- a verdict that was told is the property's -/
def toldOk (r : Rn) (k : Nat) : Prop := r.out.getD k 0 = 2 ↔ r.bad.getD k false = true
theorem stepC_told (at_ : Int → Bool × Bool) (c : CodeR) (r : Rn) (k : Nat) (hl : r.bad.length = r.out.length) (h : toldOk r k ∨ c.Do = 8 ∧ c.A.toNat = k ∧ k < r.out.length) : toldOk (stepC at_ c r) k := by
  unfold stepC
  split
  · rename_i h2
    rcases h with h | h
    · exact h
    · omega
  · split
    · rename_i h8
      unfold toldOk at *
      dsimp only
      rw [getD_set, getD_set]
      by_cases hc : c.A.toNat = k ∧ k < r.out.length
      · have hc' : c.A.toNat = k ∧ k < r.bad.length := by rw [hl]; exact hc
        simp only [hc, hc', and_self, if_true]
        generalize (r.bad.getD k false || r.cur) = b
        cases b
        · simp; split <;> decide
        · simp
      · have hc' : ¬ (c.A.toNat = k ∧ k < r.bad.length) := by rw [hl]; exact hc
        simp only [hc, hc', if_false]
        rcases h with h | h
        · exact h
        · exact absurd h.2 hc
    · rename_i h8
      rcases h with h | h
      · exact h
      · exact absurd h.1 h8
theorem stepL_told (at_ : Int → Bool × Bool) (k : Nat) : ∀ (l : List CodeR) (r : Rn), r.bad.length = r.out.length → (toldOk r k ∨ (∃ c, c ∈ l ∧ c.Do = 8 ∧ c.A.toNat = k) ∧ k < r.out.length) → toldOk (stepL at_ l r) k
  | [], r, _, h => by
    rcases h with h | ⟨⟨c, hc, _⟩, _⟩
    · exact h
    · cases hc
  | c :: l, r, hl, h => by
    unfold stepL
    have h' := stepC_len at_ c r
    refine stepL_told at_ k l _ (by rw [h'.1, h'.2]; exact hl) ?_
    rcases h with h | ⟨⟨c', hc, h1, h2⟩, hk⟩
    · exact .inl (stepC_told at_ c r k hl (.inl h))
    · rcases List.mem_cons.1 hc with hc | hc
      · subst hc; exact .inl (stepC_told at_ c' r k hl (.inr ⟨h1, h2, hk⟩))
      · exact .inr ⟨⟨c', hc, h1, h2⟩, by rw [h'.2]; exact hk⟩

/-- all properties are told -/
theorem nodup_le : ∀ (n : Nat) (l : List Nat), l.Nodup → (∀ x, x ∈ l → x < n) → l.length ≤ n
  | 0, l, _, h => by
    cases l with
    | nil => simp
    | cons a r => exact absurd (h a (by simp)) (by omega)
  | n + 1, l, hd, h => by
    have h1 : (l.erase n).Nodup := hd.erase n
    have h2 := nodup_le n (l.erase n) h1 (fun x hx => by
      have hx' := (List.Nodup.mem_erase_iff hd).1 hx
      have := h x hx'.2
      have := hx'.1
      omega)
    have h3 := List.length_erase (a := n) (l := l)
    split at h3 <;> omega
theorem nodup_all {n : Nat} {l : List Nat} (hd : l.Nodup) (h : ∀ x, x ∈ l → x < n) (hn : l.length = n) (k : Nat) (hk : k < n) : k ∈ l := by
  refine Classical.byContradiction fun hc => ?_
  have := nodup_le n (k :: l) (List.nodup_cons.2 ⟨hc, hd⟩) (fun x hx => by
    rcases List.mem_cons.1 hx with h' | h'
    · omega
    · exact h x h')
  simp at this; omega
def toldL : List CodeR → List Nat
  | [] => []
  | c :: r => if tells c then c.A.toNat :: toldL r else toldL r
theorem scan_told (nA nP : Nat) : ∀ (l : List CodeR) (tk td : Int → Bool), scan nA nP l tk td = true →
    (toldL l).Nodup ∧ (∀ x, x ∈ toldL l → x < nP ∧ td (x : Int) = false ∧ ∃ c, c ∈ l ∧ c.Do = 8 ∧ c.A.toNat = x) ∧ ((toldL l).length : Int) = tellsN l
  | [], _, _, _ => ⟨List.nodup_nil, (fun x h => nomatch h), rfl⟩
  | c :: r, tk, td, h => by
    unfold scan at h
    rw [Bool.and_eq_true] at h
    have ih := scan_told nA nP r _ _ h.2
    have hc := h.1
    unfold codeIn at hc
    simp only [Bool.and_eq_true, Bool.or_eq_true, codeOk_iff] at hc
    obtain ⟨⟨ok, _⟩, htd⟩ := hc
    unfold toldL tellsN
    by_cases ht : tells c = true
    · rw [if_pos ht, if_pos ht]
      have h8 : c.Do = 8 := by simpa [tells] using ht
      have hA : 0 ≤ c.A ∧ c.A < nP := by unfold codeP at ok; omega
      refine ⟨List.nodup_cons.2 ⟨fun hm => ?_, ih.1⟩, fun x hx => ?_, ?_⟩
      · have := (ih.2.1 _ hm).2.1
        unfold td1 at this
        rw [Bool.or_eq_false_iff] at this
        have h3 := this.2
        rw [ht] at h3
        simp at h3
        omega
      · rcases List.mem_cons.1 hx with hx | hx
        · subst hx
          refine ⟨by omega, ?_, c, by simp, h8, rfl⟩
          rcases htd with h3 | h3
          · rw [ht] at h3; cases h3
          · have e : ((c.A.toNat : Nat) : Int) = c.A := by omega
            rw [e]; simpa using h3
        · obtain ⟨h1, h2, c', h3, h4⟩ := ih.2.1 x hx
          refine ⟨h1, ?_, c', List.mem_cons_of_mem _ h3, h4⟩
          unfold td1 at h2
          exact (Bool.or_eq_false_iff.1 h2).1
      · simp only [List.length_cons]
        have := ih.2.2
        omega
    · rw [if_neg ht, if_neg ht]
      refine ⟨ih.1, fun x hx => ?_, by simpa using ih.2.2⟩
      obtain ⟨h1, h2, c', h3, h4⟩ := ih.2.1 x hx
      refine ⟨h1, ?_, c', List.mem_cons_of_mem _ h3, h4⟩
      unfold td1 at h2
      exact (Bool.or_eq_false_iff.1 h2).1
/-- what a program that verifies is -/
theorem verify_ok {p : ProgR} (h : verify p = 0) : p.Codes.length ≤ 2000 ∧ p.Atoms.length ≤ 2000 ∧ p.Props.length ≤ 16 ∧ 0 ≤ p.Signals ∧ p.Signals ≤ 16 ∧ p.Atoms.all (atomOk p.Signals) = true ∧
    scan p.Atoms.length p.Props.length p.Codes none0 none0 = true ∧ 0 ≤ stkN p.Codes ∧ stkN p.Codes = p.Stack ∧ leftN p.Codes = 0 ∧ tellsN p.Codes = p.Props.length ∧ p.Cells = cellsN p.Codes := by
  unfold verify at h
  split at h
  · cases h
  split at h
  · cases h
  split at h
  · cases h
  split at h
  · cases h
  split at h
  · cases h
  rename_i h1 h2 h3 h4 h5
  simp only [Bool.not_eq_false] at h3 h4
  refine ⟨by omega, by omega, by omega, by omega, by omega, h3, h4, by omega, by omega, by omega, by omega, by omega⟩
theorem verify_told {p : ProgR} (h : verify p = 0) (k : Nat) (hk : k < p.Props.length) : ∃ c, c ∈ p.Codes ∧ c.Do = 8 ∧ c.A.toNat = k := by
  have hv := verify_ok h
  have hs := scan_told _ _ _ _ _ hv.2.2.2.2.2.2.1
  have := nodup_all hs.1 (fun x hx => (hs.2.1 x hx).1) (by have := hs.2.2; omega) k hk
  obtain ⟨_, _, c, h1, h2⟩ := hs.2.1 k this
  exact ⟨c, h1, h2⟩

/-- VmSticks, of plain machines -/
structure MsOk (p : ProgR) (s : MS) : Prop where
  len : s.bad.length = p.Props.length
  over : ∀ k, s.bad.getD k false = true → s.over = true
theorem ms0_ok (p : ProgR) : MsOk p (ms0 p) := ⟨by simp [ms0], fun k h => by simp [ms0, List.getD_eq_getElem?_getD, List.getElem?_replicate] at h; split at h <;> simp at h⟩
theorem stepM_ok {p : ProgR} (at_ : Int → Bool × Bool) {s : MS} (h : MsOk p s) : MsOk p (stepM p at_ s) := by
  refine ⟨?_, ?_⟩
  · exact (stepL_len at_ p.Codes (rn0 p.Props.length s)).1.trans h.len
  · exact stepL_over at_ p.Codes (rn0 p.Props.length s) ⟨h.over, fun h => by cases h⟩
theorem stepO_len {p : ProgR} (at_ : Int → Bool × Bool) (s : MS) : (stepO p at_ s).length = p.Props.length := by
  have := (stepL_len at_ p.Codes (rn0 p.Props.length s)).2
  simpa [stepO, stepR, rn0] using this
theorem stepM_mono {p : ProgR} (at_ : Int → Bool × Bool) {s : MS} (k : Nat) (h : s.bad.getD k false = true) : (stepM p at_ s).bad.getD k false = true :=
  stepL_mono at_ p.Codes (rn0 p.Props.length s) k h
theorem stepO_bad {p : ProgR} (hv : verify p = 0) (at_ : Int → Bool × Bool) {s : MS} (h : MsOk p s) (k : Nat) (hk : k < p.Props.length) : (stepO p at_ s).getD k 0 = 2 ↔ (stepM p at_ s).bad.getD k false = true := by
  refine stepL_told at_ k p.Codes (rn0 p.Props.length s) ?_ (.inr ⟨verify_told hv k hk, ?_⟩)
  · simp [rn0, h.len]
  · simpa [rn0] using hk
end Ev
