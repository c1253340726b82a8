/- The concrete run: a region that draws its order: one order, and what is looked at again, stand for all. -/
import Derived.Test.YtadmjjogmbhkaaaGreatDoorCe4
namespace Ev
open Go
variable {P : Program} {X : Ctx S0} {E E' : Env} {g g' g1 : Nat → CB} {w w' : World} {fr F : Tr V} {h : Tr CB} {a : Act} {R : Type} {nt : Nat} {call : FuncId → List V → Tr CB → Nat → Cr}

section bits
theorem bit_or (a b i : Nat) : bit (Nat.lor a b) i = (bit a i || bit b i) := Nat.testBit_or a b i
theorem bit_one (j i : Nat) : bit (Nat.shiftLeft 1 j) i = decide (i = j) := by
  show Nat.testBit (1 <<< j) i = _
  rw [Nat.one_shiftLeft, Nat.testBit_two_pow]
  exact decide_eq_decide.2 eq_comm
theorem bit_zero (i : Nat) : bit 0 i = false := Nat.zero_testBit i
theorem subM_iff {a b : Nat} (h : subM a b = true) : ∀ i, bit a i = true → bit b i = true := by
  intro i hi
  have h1 : Nat.land a b = a := Nat.eq_of_beq_eq_true h
  have h2 : bit (Nat.land a b) i = (bit a i && bit b i) := Nat.testBit_and a b i
  rw [h1, hi] at h2
  simpa using h2.symm
theorem bit_all {m i : Nat} : bit (Nat.sub (Nat.shiftLeft 1 m) 1) i = decide (i < m) := by
  show Nat.testBit (1 <<< m - 1) i = _
  rw [Nat.one_shiftLeft]
  exact Nat.testBit_two_pow_sub_one m i
theorem aftM_iff (o : Oper) (k : Nat) : bit (aftM o) k = true ↔ k ∈ aft o := by
  unfold aftM aft
  have : ∀ (l : List Edge) (s : Nat), bit (l.foldl (fun s e => match Region.binds .any e with | true => Nat.lor s (Nat.shiftLeft 1 e.on) | false => s) s) k = true ↔ bit s k = true ∨ k ∈ (l.filter fun e => Region.binds .any e).map (·.on) := by
    intro l
    induction l with
    | nil => intro s; simp
    | cons e l ih =>
      intro s
      rw [List.foldl_cons, ih]
      cases hb : Region.binds .any e with
      | true => simp only [bit_or, bit_one, Bool.or_eq_true, decide_eq_true_eq, List.filter_cons, hb, if_true, List.map_cons, List.mem_cons]; exact ⟨fun h => by rcases h with (h | h) | h; exact .inl h; exact .inr (.inl h); exact .inr (.inr h), fun h => by rcases h with h | h | h; exact .inl (.inl h); exact .inl (.inr h); exact .inr h⟩
      | false => simp [List.filter_cons, hb]
  refine (this o.after.toList 0).trans ?_
  rw [bit_zero]
  simp
theorem clos_bit {am : Nat} : ∀ (ds : List Nat) (i s k : Nat), bit (clos am i ds s) k = true → bit s k = true ∨ ∃ j d, ds[j]? = some d ∧ bit am (i + j) = true ∧ bit d k = true
  | [], _, _, _, h => .inl h
  | d :: r, i, s, k, h => by
    unfold clos at h
    rcases clos_bit r _ _ k h with h1 | ⟨j, d', h1, h2, h3⟩
    · split at h1
      · rename_i hb
        rw [bit_or, Bool.or_eq_true] at h1
        rcases h1 with h1 | h1
        · exact .inl h1
        · exact .inr ⟨0, d, rfl, by simpa using hb, h1⟩
      · exact .inl h1
    · exact .inr ⟨j + 1, d', by simpa using h1, by rw [← h2]; congr 1; simp only [Nat.succ_eq_add_one]; omega, h3⟩
theorem downM_spec (all : List Oper) : ∀ (l : List Oper) (acc : List Nat), (∃ pre, all = pre ++ l ∧ pre.length = acc.length) →
    (∀ i o, i < acc.length → all[i]? = some o → ∀ k, bit (acc.getD i 0) k = true → k ∈ aft o ∨ ∃ j ∈ aft o, j < i ∧ bit (acc.getD j 0) k = true) →
    ∀ i o, all[i]? = some o → ∀ k, bit ((downM l acc).getD i 0) k = true → k ∈ aft o ∨ ∃ j ∈ aft o, j < i ∧ bit ((downM l acc).getD j 0) k = true
  | [], acc, ⟨pre, h1, h2⟩, hacc => by
    intro i o hi k hk
    have : i < acc.length := by
      have := (List.getElem?_eq_some_iff.1 hi).1
      rw [h1] at this; simp at this; omega
    exact hacc i o this hi k hk
  | o :: r, acc, ⟨pre, h1, h2⟩, hacc => by
    unfold downM
    refine downM_spec all r _ ⟨pre ++ [o], by rw [h1]; simp, by simp [h2]⟩ ?_
    intro i o' hi ho k hk
    have hget : ∀ j, j < acc.length → (acc ++ [clos (aftM o) 0 acc (aftM o)]).getD j 0 = acc.getD j 0 := by
      intro j hj
      simp only [List.getD_eq_getElem?_getD, List.getElem?_append_left hj]
    by_cases hlt : i < acc.length
    · rw [hget i hlt] at hk
      rcases hacc i o' hlt ho k hk with h | ⟨j, h3, h4, h5⟩
      · exact .inl h
      · exact .inr ⟨j, h3, h4, by rw [hget j (by omega)]; exact h5⟩
    · have hi' : i = acc.length := by simp at hi; omega
      subst hi'
      have e : (acc ++ [clos (aftM o) 0 acc (aftM o)]).getD acc.length 0 = clos (aftM o) 0 acc (aftM o) := by simp [List.getD_eq_getElem?_getD]
      have eo : o' = o := by
        rw [h1, List.getElem?_append_right (by omega), h2, Nat.sub_self] at ho
        simpa using ho.symm
      subst eo
      rw [e] at hk
      rcases clos_bit _ _ _ _ hk with h | ⟨j, d, h3, h4, h5⟩
      · exact .inl ((aftM_iff o' k).1 h)
      · have hj : j < acc.length := (List.getElem?_eq_some_iff.1 h3).1
        rw [Nat.zero_add] at h4
        exact .inr ⟨j, (aftM_iff o' j).1 h4, hj, by rw [hget j hj, List.getD_eq_getElem?_getD, h3]; exact h5⟩
theorem downs_spec (all : List Oper) (i : Nat) (o : Oper) (ho : all[i]? = some o) (k : Nat) (hk : bit ((downM all []).getD i 0) k = true) : k ∈ aft o ∨ ∃ j ∈ aft o, j < i ∧ bit ((downM all []).getD j 0) k = true :=
  downM_spec all all [] ⟨[], rfl, rfl⟩ (fun i o h => absurd h (by simp)) i o ho k hk
/-- all that is waited for is done -/
theorem downs_in {all : List Oper} {Dn : List Nat} (hD : ∀ i ∈ Dn, ∀ o, all[i]? = some o → ∀ d ∈ aft o, d ∈ Dn) : ∀ (i : Nat) (o : Oper), all[i]? = some o → (∀ d ∈ aft o, d ∈ Dn) → ∀ k, bit ((downM all []).getD i 0) k = true → k ∈ Dn := by
  intro i
  induction i using Nat.strongRecOn with
  | ind i ih =>
    intro o ho hd k hk
    rcases downs_spec all i o ho k hk with h | ⟨j, h1, h2, h3⟩
    · exact hd k h
    · have hj := hd j h1
      have hlt : j < all.length := by have := (List.getElem?_eq_some_iff.1 ho).1; omega
      exact ih j h2 all[j] (List.getElem?_eq_getElem hlt) (hD j hj _ (List.getElem?_eq_getElem hlt)) k h3
end bits

section static
variable {all : List Oper} {D K : List Nat}
theorem memC_iff (t : Nat) : ∀ ls : List Nat, memC t ls = true ↔ t ∈ ls
  | [] => by simp [memC]
  | s :: r => by
    unfold memC
    cases h : Nat.beq s t with
    | true => have := Nat.eq_of_beq_eq_true h; subst this; simp
    | false =>
      have : t ≠ s := fun e => by subst e; rw [Nat.beq_refl] at h; cases h
      simp [memC_iff t r, this]
theorem aftLt_spec : ∀ (l : List Oper) (i : Nat), aftLt i l = true → ∀ j o, l[j]? = some o → ∀ d ∈ aft o, d < i + j
  | [], _, _, j, o, h, _, _ => by simp at h
  | o :: r, i, hc, j, o', h, d, hd => by
    simp only [aftLt, Bool.and_eq_true] at hc
    cases j with
    | zero =>
      simp at h; subst h
      unfold aft at hd
      obtain ⟨e, he, rfl⟩ := List.mem_map.1 hd
      obtain ⟨he1, he2⟩ := List.mem_filter.1 he
      have := List.all_eq_true.1 hc.1 e he1
      rw [he2] at this
      simpa using this
    | succ j =>
      have := aftLt_spec r _ hc.2 j o' (by simpa using h) d hd
      simp only [Nat.succ_eq_add_one] at this; omega
theorem dstsOk_spec : ∀ (l : List Oper) (ds : List Nat), dstsOk ds l = true → (∀ (i : Nat) (o : Oper) (d : Nat), l[i]? = some o → o.dst = some d → d ∉ ds) ∧ ∀ (i j : Nat) (o p : Oper) (d : Nat), l[i]? = some o → l[j]? = some p → o.dst = some d → p.dst = some d → i = j
  | [], ds, _ => ⟨fun i o d h => by simp at h, fun i j o p d h => by simp at h⟩
  | o :: r, ds, hc => by
    unfold dstsOk at hc
    cases hd : o.dst with
    | none =>
      rw [hd] at hc
      obtain ⟨q1, q2⟩ := dstsOk_spec r ds hc
      refine ⟨fun i o' d h1 h2 => ?_, fun i j o' p d h1 h2 h3 h4 => ?_⟩
      · cases i with
        | zero => simp at h1; subst h1; rw [hd] at h2; cases h2
        | succ i => exact q1 i o' d (by simpa using h1) h2
      · cases i with
        | zero => simp at h1; subst h1; rw [hd] at h3; cases h3
        | succ i => cases j with
          | zero => simp at h2; subst h2; rw [hd] at h4; cases h4
          | succ j => rw [q2 i j o' p d (by simpa using h1) (by simpa using h2) h3 h4]
    | some e =>
      rw [hd] at hc
      simp only at hc
      split at hc
      · cases hc
      · rename_i hm
        have hm : e ∉ ds := fun h => by rw [(memC_iff e ds).2 h] at hm; cases hm
        obtain ⟨q1, q2⟩ := dstsOk_spec r (e :: ds) hc
        refine ⟨fun i o' d h1 h2 => ?_, fun i j o' p d h1 h2 h3 h4 => ?_⟩
        · cases i with
          | zero => simp at h1; subst h1; rw [hd] at h2; injection h2 with h2; subst h2; exact hm
          | succ i => exact fun hin => q1 i o' d (by simpa using h1) h2 (by simp [hin])
        · cases i with
          | zero =>
            simp at h1; subst h1
            cases j with
            | zero => rfl
            | succ j =>
              rw [hd] at h3; injection h3 with h3; subst h3
              exact absurd (by simp) (q1 j p e (by simpa using h2) h4)
          | succ i => cases j with
            | zero =>
              simp at h2; subst h2
              rw [hd] at h4; injection h4 with h4; subst h4
              exact absurd (by simp) (q1 i o' e (by simpa using h1) h3)
            | succ j => rw [q2 i j o' p d (by simpa using h1) (by simpa using h2) h3 h4]
theorem slotsOk_spec {ls : List Nat} {di : Nat} : ∀ (l : List Oper) (j0 : Nat), slotsOk ls di j0 l = true → ∀ j p d, l[j]? = some p → p.dst = some d → d ∈ ls → bit di (j0 + j) = true
  | [], _, _, j, p, d, h, _, _ => by simp at h
  | q :: r, j0, hc, j, p, d, h, hd, hm => by
    unfold slotsOk at hc
    have tail : slotsOk ls di (Nat.succ j0) r = true → ∀ j', j = j' + 1 → bit di (j0 + j) = true := by
      intro hc j' e; subst e
      have := slotsOk_spec r _ hc j' p d (by simpa using h) hd hm
      rw [← this]; congr 1; simp only [Nat.succ_eq_add_one]; omega
    cases hq : q.dst with
    | none =>
      rw [hq] at hc
      cases j with
      | zero => simp at h; subst h; rw [hq] at hd; cases hd
      | succ j => exact tail hc j rfl
    | some e =>
      rw [hq] at hc
      simp only at hc
      split at hc
      · cases hc
      · rename_i hb
        cases j with
        | zero =>
          simp at h; subst h; rw [hq] at hd; injection hd with hd; subst hd
          have := (memC_iff e ls).2 hm
          rw [this] at hb
          simpa using hb
        | succ j => exact tail hc j rfl
theorem recOk_spec {di pl : Nat} {chk : List Nat} : ∀ (l : List Nat) (j0 : Nat), recOk K di chk j0 l pl = true → ∀ j, l[j]? = some 1 → bit pl (j0 + j) = true → bit di (j0 + j) = false → j0 + j ∈ chk
  | [], _, _, j, h, _, _ => by simp at h
  | x :: r, j0, hc, j, h, h1, h2 => by
    unfold recOk at hc
    split at hc
    · cases hc
    · rename_i hb
      cases j with
      | zero =>
        simp at h; subst h
        rw [Nat.add_zero] at h1 h2 ⊢
        rw [h1, h2] at hb
        exact (memC_iff _ _).1 (by simpa using hb)
      | succ j =>
        have := recOk_spec r _ hc j (by simpa using h) (by rw [← h1]; congr 1; simp only [Nat.succ_eq_add_one]; omega) (by rw [← h2]; congr 1; simp only [Nat.succ_eq_add_one]; omega)
        rw [show j0 + (j + 1) = Nat.succ j0 + j by simp only [Nat.succ_eq_add_one]; omega]; exact this

theorem earlyT_spec {D : List Nat} {t i : Nat} : ∀ (l : List Oper) (j0 : Nat), earlyT D t i j0 l = true → ∀ j p, l[j]? = some p → p.dst = some t → bit (D.getD (j0 + j) 0) i = true
  | [], _, _, j, p, h, _ => by simp at h
  | q :: r, j0, hc, j, p, h, hd => by
    unfold earlyT at hc
    have tail : earlyT D t i (Nat.succ j0) r = true → ∀ j', j = j' + 1 → bit (D.getD (j0 + j) 0) i = true := by
      intro hc j' e; subst e
      have := earlyT_spec r _ hc j' p (by simpa using h) hd
      rw [← this]; congr 2; simp only [Nat.succ_eq_add_one]; omega
    cases hq : q.dst with
    | none =>
      rw [hq] at hc
      cases j with
      | zero => simp at h; subst h; rw [hq] at hd; cases hd
      | succ j => exact tail hc j rfl
    | some e =>
      rw [hq] at hc
      simp only at hc
      split at hc
      · cases hc
      · rename_i hb
        cases j with
        | zero =>
          simp at h; subst h; rw [hq] at hd; injection hd with hd; subst hd
          rw [Nat.beq_refl] at hb
          simpa using hb
        | succ j => exact tail hc j rfl
theorem early_spec {D : List Nat} {all : List Oper} {i : Nat} {o : Oper} (h : early D all i o = true) : ∃ t d, o.op = .move (.tmp t) ∧ o.guard = none ∧ o.dst = some d ∧ ∀ j p, all[j]? = some p → p.dst = some t → bit (D.getD j 0) i = true := by
  unfold early at h
  split at h
  · rename_i t ho
    split at h
    · rename_i hg
      split at h
      · rename_i d hd
        exact ⟨t, d, ho, hg, hd, fun j p h1 h2 => by have := earlyT_spec all 0 h j p h1 h2; rwa [Nat.zero_add] at this⟩
      · cases h
    · cases h
  · cases h
/-- what stands for it in the run by the frame at the end: its own slot -/
def effOp (D : List Nat) (all : List Oper) (i : Nat) (o : Oper) : Op := match early D all i o with
  | true => match o.dst with
    | some d => .move (.tmp d)
    | none => o.op
  | false => o.op
theorem effOp_early {D : List Nat} {all : List Oper} {i : Nat} {o : Oper} {d : Nat} (h : early D all i o = true) (hd : o.dst = some d) : effOp D all i o = .move (.tmp d) := by
  unfold effOp; rw [h, hd]
theorem effOp_not {D : List Nat} {all : List Oper} {i : Nat} {o : Oper} (h : early D all i o = false) : effOp D all i o = o.op := by
  unfold effOp; rw [h]
theorem early_kind {X : Ctx S0} {D : List Nat} {all : List Oper} {i : Nat} {o : Oper} (h : kindC X o.op ≠ 0) : early D all i o = false := by
  cases he : early D all i o with
  | false => rfl
  | true =>
    obtain ⟨t, d, ho, _⟩ := early_spec he
    rw [ho] at h; exact absurd rfl h
theorem effOp_kind {X : Ctx S0} {D : List Nat} {all : List Oper} {i : Nat} {o : Oper} : kindC X (effOp D all i o) = kindC X o.op := by
  cases he : early D all i o with
  | false => rw [effOp_not he]
  | true =>
    obtain ⟨t, d, ho, _, hd, _⟩ := early_spec he
    rw [effOp_early he hd, ho]; rfl

/-- what is checked of one operation in its place -/
structure Here (all : List Oper) (D K : List Nat) (i : Nat) (o : Oper) (chk : List Nat) (pl lm fm fd : Nat) : Prop where
  get : all[i]? = some o
  new : bit pl i = false
  down : ∀ k, bit (D.getD i 0) k = true → bit pl k = true
  slots : early D all i o = false → ∀ j p d, all[j]? = some p → p.dst = some d → d ∈ looksC all o → bit (D.getD i 0) j = true
  rd : K.getD i 0 = 1 ∨ 3 ≤ K.getD i 0 → (∀ k, bit lm k = true → bit (D.getD i 0) k = true) ∧ ∀ k, bit fm k = true → bit (D.getD i 0) k = true ∨ bit fd k = true
  recs : 3 ≤ K.getD i 0 → ∀ j, K.getD j 0 = 1 → bit pl j = true → bit (D.getD i 0) j = false → j ∈ chk
def nextL (K : List Nat) (i lm : Nat) : Nat := if 3 ≤ K.getD i 0 then Nat.lor lm (Nat.shiftLeft 1 i) else lm
def nextF (K : List Nat) (i fm : Nat) : Nat := if K.getD i 0 = 2 then Nat.lor fm (Nat.shiftLeft 1 i) else fm
def nextD (D K : List Nat) (i fd : Nat) : Nat := if 3 ≤ K.getD i 0 then Nat.lor fd (D.getD i 0) else fd
theorem getD1 {j : Nat} (h : K.getD j 0 = 1) : K[j]? = some 1 := by
  rw [List.getD_eq_getElem?_getD] at h
  cases hq : K[j]? with
  | none => rw [hq] at h; simp at h
  | some x => rw [hq] at h; simp at h; rw [h]
theorem okPi_cons {i : Nat} {chk : List Nat} {r : List (Nat × List Nat)} {pl lm fm fd : Nat} (hc : okPi all D K ((i, chk) :: r) pl lm fm fd = true) :
    ∃ o, Here all D K i o chk pl lm fm fd ∧ okPi all D K r (Nat.lor pl (Nat.shiftLeft 1 i)) (nextL K i lm) (nextF K i fm) (nextD D K i fd) = true := by
  unfold okPi at hc
  split at hc
  · cases hc
  · rename_i o ho
    split at hc
    · cases hc
    · rename_i hb
      simp only [Bool.and_eq_true, Bool.not_eq_true'] at hb
      obtain ⟨⟨b1, b2⟩, b3⟩ := hb
      have base : ∀ (h1 : K.getD i 0 = 1 ∨ 3 ≤ K.getD i 0 → (∀ k, bit lm k = true → bit (D.getD i 0) k = true) ∧ ∀ k, bit fm k = true → bit (D.getD i 0) k = true ∨ bit fd k = true)
          (h2 : 3 ≤ K.getD i 0 → ∀ j, K.getD j 0 = 1 → bit pl j = true → bit (D.getD i 0) j = false → j ∈ chk), Here all D K i o chk pl lm fm fd :=
        fun h1 h2 => ⟨ho, b1, subM_iff b2, fun he j p d q1 q2 q3 => by rw [he, Bool.false_or] at b3; have := slotsOk_spec all 0 b3 j p d q1 q2 q3; rwa [Nat.zero_add] at this, h1, h2⟩
      split at hc
      · rename_i hk
        exact ⟨o, base (fun h => by omega) (fun h => by omega), by simp only [nextL, nextF, nextD, hk]; simpa using hc⟩
      · rename_i hk
        split at hc
        · rename_i hb2
          simp only [Bool.and_eq_true] at hb2
          refine ⟨o, base (fun _ => ⟨subM_iff hb2.1, fun k hk => ?_⟩) (fun h => by omega), by simp only [nextL, nextF, nextD, hk]; simpa using hc⟩
          have := subM_iff hb2.2 k hk
          rw [bit_or, Bool.or_eq_true] at this; exact this
        · cases hc
      · rename_i hk
        exact ⟨o, base (fun h => by omega) (fun h => by omega), by simp only [nextL, nextF, nextD, hk]; simpa using hc⟩
      · rename_i hk0 hk1 hk2
        have h3 : 3 ≤ K.getD i 0 := by
          generalize K.getD i 0 = x at hk0 hk1 hk2
          match x, hk0, hk1, hk2 with
          | 0, h, _, _ => exact absurd rfl h
          | 1, _, h, _ => exact absurd rfl h
          | 2, _, _, h => exact absurd rfl h
          | n + 3, _, _, _ => omega
        split at hc
        · rename_i hb2
          simp only [Bool.and_eq_true] at hb2
          obtain ⟨⟨c1, c2⟩, c3⟩ := hb2
          refine ⟨o, base (fun _ => ⟨subM_iff c1, fun k hk => ?_⟩) (fun _ j q1 q2 q3 => ?_), by simp only [nextL, nextF, nextD, if_pos h3, if_neg (show K.getD i 0 ≠ 2 by omega)]; exact hc⟩
          · have := subM_iff c2 k hk
            rw [bit_or, Bool.or_eq_true] at this; exact this
          · have := recOk_spec K 0 c3 j (getD1 q1) (by rwa [Nat.zero_add]) (by rwa [Nat.zero_add])
            rwa [Nat.zero_add] at this
        · cases hc
/-- operations still to come are not yet placed -/
theorem okPi_later : ∀ (r : List (Nat × List Nat)) (pl lm fm fd : Nat), okPi all D K r pl lm fm fd = true → ∀ p ∈ r, bit pl p.1 = false
  | [], _, _, _, _, _, p, hp => by simp at hp
  | (i, chk) :: r, pl, lm, fm, fd, hc, p, hp => by
    obtain ⟨o, hh, hc'⟩ := okPi_cons hc
    rcases List.mem_cons.1 hp with rfl | hp
    · exact hh.new
    · have := okPi_later r _ _ _ _ hc' p hp
      rw [bit_or, Bool.or_eq_false_iff] at this
      exact this.1
/-- every operation comes -/
theorem okPi_all : ∀ (r : List (Nat × List Nat)) (pl lm fm fd : Nat), okPi all D K r pl lm fm fd = true → ∀ i, i < all.length → bit pl i = true ∨ ∃ chk, (i, chk) ∈ r
  | [], pl, _, _, _, hc, i, hi => by
    unfold okPi at hc
    have := Nat.eq_of_beq_eq_true hc
    left; rw [this, bit_all]; simpa using hi
  | (j, chk) :: r, pl, lm, fm, fd, hc, i, hi => by
    obtain ⟨o, hh, hc'⟩ := okPi_cons hc
    rcases okPi_all r _ _ _ _ hc' i hi with h | ⟨c, h⟩
    · rw [bit_or, Bool.or_eq_true, bit_one, decide_eq_true_eq] at h
      rcases h with h | h
      · exact .inl h
      · exact .inr ⟨chk, by rw [h]; simp⟩
    · exact .inr ⟨c, by simp [h]⟩
end static

/- frames that agree on an operation's slots -/
theorem tmpL_mem : ∀ (l : List Operand) (t : Nat), t ∈ tmpL l ↔ Operand.tmp t ∈ l
  | [], t => by simp [tmpL]
  | .tmp s :: r, t => by simp [tmpL, tmpL_mem r t]
  | .const v :: r, t => by simp [tmpL, tmpL_mem r t]
  | .global g :: r, t => by simp [tmpL, tmpL_mem r t]
  | .func f :: r, t => by simp [tmpL, tmpL_mem r t]
theorem copd_congr {l : List Operand} (hag : ∀ t ∈ tmpL l, fr.get .top t = F.get .top t) {x : Operand} (hx : x ∈ l) : copd fr x = copd F x := by
  cases x with
  | tmp t => exact hag t ((tmpL_mem l t).2 hx)
  | const v => rfl
  | global g => rfl
  | func f => rfl
theorem cmap_congr {l l' : List Operand} (hag : ∀ t ∈ tmpL l, fr.get .top t = F.get .top t) (hl : ∀ x ∈ l', x ∈ l) : l'.map (copd fr) = l'.map (copd F) := List.map_congr_left fun x hx => copd_congr hag (hl x hx)
theorem cparts_congr {ps : List (Nat × Operand)} {l : List Operand} (hag : ∀ t ∈ tmpL l, fr.get .top t = F.get .top t) (hl : ∀ p ∈ ps, p.2 ∈ l) : (ps.map fun p => (p.1, copd fr p.2)) = ps.map fun p => (p.1, copd F p.2) :=
  List.map_congr_left fun p hp => by rw [copd_congr hag (hl p hp)]
theorem copt_congr {x : Option Operand} {l : List Operand} (hag : ∀ t ∈ tmpL l, fr.get .top t = F.get .top t) (hl : ∀ y, x = some y → y ∈ l) : x.map (copd fr) = x.map (copd F) := by
  cases x with
  | none => rfl
  | some y => simp only [Option.map_some, copd_congr hag (hl y rfl)]

theorem cq_congr (h : Tr CB) {op : Op} (hag : ∀ t ∈ tmpL op.operands.toList, fr.get .top t = F.get .top t) : cq X fr h op = cq X F h op := by
  have one : ∀ {x}, x ∈ op.operands.toList → copd fr x = copd F x := fun hx => copd_congr hag hx
  cases op with
  | build t ps =>
    simp only [cq]
    rw [cparts_congr (l := (Op.build t ps).operands.toList) hag (fun p hp => by simp [Op.operands]; exact ⟨p.1, by simpa using hp⟩)]
  | makeFunc f first caps =>
    cases f <;> first | rfl | skip
    simp only [cq]
    rw [cmap_congr (l := (Op.makeFunc _ first caps).operands.toList) hag (fun x hx => by simp [Op.operands]; exact .inr (by simpa using hx))]
    split
    · rfl
    · rename_i x hx
      rw [one (x := x) (by
        have : x ∈ first.toList := by rw [hx]; simp
        simp [Op.operands]; exact .inl (by simpa using this))]
    · rfl
  | slice t x lo hi mx =>
    simp only [cq]
    rw [one (by simp [Op.operands]), copt_congr hag (x := lo) (fun y hy => by subst hy; simp [Op.operands]), copt_congr hag (x := hi) (fun y hy => by subst hy; simp [Op.operands]), copt_congr hag (x := mx) (fun y hy => by subst hy; simp [Op.operands])]
  | call c =>
    obtain ⟨callee, args, ats⟩ := c
    have hargs : args.toList.map (copd fr) = args.toList.map (copd F) := by
      refine cmap_congr hag fun x hx => ?_
      simp only [Op.operands, Call.operands, Array.toList_append, List.mem_append]
      exact .inr hx
    cases callee with
    | value f => rfl
    | invoke r m => rfl
    | builtin b => cases b <;> first | rfl | (simp only [cq]; rw [hargs])
  | _ => first | rfl | (simp only [cq]; simp only [Op.operands, List.mem_cons, List.not_mem_nil, or_false, forall_eq_or_imp, forall_eq] at one; simp only [one])
theorem ccall_congr {c : Call} (hag : ∀ t ∈ tmpL c.operands.toList, fr.get .top t = F.get .top t) : ccall fr c = ccall F c := by
  obtain ⟨callee, args, ats⟩ := c
  unfold ccall
  cases callee with
  | value f =>
    simp only
    rw [copd_congr hag (x := f) (by simp [Call.operands]), cmap_congr hag (l' := args.toList) (fun x hx => by simp [Call.operands]; exact .inr (by simpa using hx))]
  | invoke r m => rfl
  | builtin b => rfl
theorem cl_congr (h : Tr CB) (l : Nat) {op : Op} (hag : ∀ t ∈ tmpL op.operands.toList, fr.get .top t = F.get .top t) (K : V → Tr CB → R) (bad : R) : cl X fr h l op K bad = cl X F h l op K bad := by
  have one : ∀ {x}, x ∈ op.operands.toList → copd fr x = copd F x := fun hx => copd_congr hag hx
  cases op with
  | buildSlice t n ps =>
    simp only [cl]
    rw [cparts_congr (l := (Op.buildSlice t n ps).operands.toList) hag (fun p hp => by simp [Op.operands]; exact ⟨p.1, by simpa using hp⟩)]
  | box t x => simp only [cl]; rw [one (by simp [Op.operands])]
  | makeSlice t n c => simp only [cl]; rw [one (x := n) (by simp [Op.operands]), one (x := c) (by simp [Op.operands])]
  | store t x y => simp only [cl]; rw [one (x := x) (by simp [Op.operands]), one (x := y) (by simp [Op.operands])]
  | mapUpdate t m k v => simp only [cl]; rw [one (x := m) (by simp [Op.operands]), one (x := k) (by simp [Op.operands]), one (x := v) (by simp [Op.operands])]
  | makeMap t r => cases r <;> rfl
  | convert s d x => simp only [cl]; rw [one (x := x) (by simp [Op.operands])]
  | call c =>
    obtain ⟨callee, args, ats⟩ := c
    have hargs : args.toList.map (copd fr) = args.toList.map (copd F) := by
      refine cmap_congr hag fun x hx => ?_
      simp only [Op.operands, Call.operands, Array.toList_append, List.mem_append]
      exact .inr hx
    cases callee with
    | value f => rfl
    | invoke r m => rfl
    | builtin b => cases b <;> first | rfl | (simp only [cl]; rw [hargs])
  | _ => rfl
theorem stepC_congr (h : Tr CB) (l n' n : Nat) (ds : List (FuncId × List V)) {op : Op} (hag : ∀ t ∈ tmpL op.operands.toList, fr.get .top t = F.get .top t) (K : V → Tr CB → Nat → List (FuncId × List V) → R) (bad : Why → R) :
    stepC X call fr h l n' n ds op K bad = stepC X call F h l n' n ds op K bad := by
  unfold stepC
  rw [cq_congr h hag]
  split
  · rfl
  · split
    · split
      · rw [cl_congr h l hag]
      · rfl
    · cases op with
      | call c => simp only; rw [ccall_congr (c := c) (by simpa [Op.operands] using hag)]
      | defer c => simp only; rw [ccall_congr (c := c) (by simpa [Op.operands] using hag)]
      | _ => rfl
theorem looks_op {all : List Oper} {o : Oper} : ∀ t ∈ tmpL o.op.operands.toList, t ∈ looksC all o := by
  intro t ht
  unfold looksC
  split
  · exact ht
  · split
    · split
      · exact List.mem_cons_of_mem _ ht
      · exact ht
    · exact ht
theorem gd_congr {all : List Oper} {o : Oper} (hag : ∀ t ∈ looksC all o, fr.get .top t = F.get .top t) : gd all o fr = gd all o F := by
  unfold gd
  unfold looksC at hag
  cases hg : o.guard with
  | none => rfl
  | some jw =>
    obtain ⟨j, want⟩ := jw
    rw [hg] at hag
    simp only at hag ⊢
    cases hj : all[j]? with
    | none => rfl
    | some p =>
      rw [hj] at hag
      simp only at hag ⊢
      cases hd : p.dst with
      | none => rfl
      | some s =>
        rw [hd] at hag
        simp only at hag ⊢
        rw [hag s (by simp)]

/-- what computes only does not look at memory -/
theorem cq_pure {op : Op} (hk : kindC X op = 0) (h h' : Tr CB) : cq X fr h op = cq X fr h' op := by
  cases op with
  | call c =>
    obtain ⟨callee, args, ats⟩ := c
    cases callee with
    | value f => rfl
    | invoke r m => rfl
    | builtin b => cases b <;> simp [kindC] at hk <;> rfl
  | makeFunc f first caps => cases f <;> rfl
  | convert s d x => exfalso; simp only [kindC] at hk; split at hk <;> cases hk
  | _ => first | rfl | (simp [kindC] at hk)
theorem kind_quiet {op : Op} (hk : kindC X op < 2) : isLoud X op = false ∧ (∀ c, op = .call c → ccall fr c = none) ∧ ∀ c, op ≠ .defer c := by
  cases op with
  | call c =>
    obtain ⟨callee, args, ats⟩ := c
    cases callee with
    | value f => simp [kindC] at hk
    | invoke r m => simp [kindC] at hk
    | builtin b => cases b <;> simp [kindC] at hk <;> exact ⟨rfl, fun c hc => by injection hc with hc; subst hc; rfl, by simp⟩
  | makeMap t r => simp [kindC] at hk
  | convert s d x =>
    refine ⟨?_, by simp, by simp⟩
    simp only [kindC] at hk
    simp only [isLoud]
    cases hd : X.L.ds d <;> rw [hd] at hk <;> first | rfl | (simp only at hk; omega)
  | _ => first | (simp [kindC] at hk; done) | exact ⟨rfl, by simp, by simp⟩
theorem kind_fresh {op : Op} (hk : kindC X op = 2) (h : Tr CB) : cq X fr h op = none ∧ isLoud X op = true := by
  cases op with
  | call c =>
    obtain ⟨callee, args, ats⟩ := c
    cases callee with
    | value f => simp [kindC] at hk
    | invoke r m => simp [kindC] at hk
    | builtin b => cases b <;> simp [kindC] at hk
  | convert s d x =>
    simp only [kindC] at hk
    simp only [isLoud, cq]
    unfold cconvert
    cases hd : X.L.ds d <;> rw [hd] at hk <;> first | exact ⟨rfl, rfl⟩ | (simp only at hk; omega)
  | _ => first | (simp [kindC] at hk; done) | exact ⟨rfl, rfl⟩
/-- what is made does not hang on memory -/
theorem cl_fresh {op : Op} (hk : kindC X op = 2) (l : Nat) : (∀ (R : Type) (h : Tr CB) (K : V → Tr CB → R) (bad : R), cl X fr h l op K bad = bad) ∨
    ∃ v blk, blk ≠ CB.dead ∧ ∀ (R : Type) (h : Tr CB) (K : V → Tr CB → R) (bad : R), cl X fr h l op K bad = K v (Tr.ins .dead blk 64 h l) := by
  cases op with
  | alloc t =>
    cases hz : zok X t with
    | false => left; intro R h K bad; simp only [cl, hz]
    | true =>
      cases hd : X.L.ds t with
      | array n e =>
        cases hb : (Nat.blt 0 (X.L.size e) && Nat.beq (n * X.L.size e) (X.L.size t) && Nat.ble n maxInt) with
        | false => left; intro R h K bad; simp only [cl, hz, hd, hb]
        | true => right; exact ⟨.ptr l 0 0, .arr (X.L.size e) (zeroCells X t), by simp, fun R h K bad => by simp only [cl, hz, hd, hb, fVs_eq, Tr.put_eq]⟩
      | _ => right; exact ⟨.ptr l 0 0, .arr (X.L.size t) (zeroCells X t), by simp, fun R h K bad => by simp only [cl, hz, hd, fVs_eq, Tr.put_eq]⟩
  | box t x =>
    cases hw : whole (copd fr x) with
    | false => left; intro R h K bad; simp only [cl, hw]
    | true =>
      cases hd : X.L.ds t with
      | array n e =>
        cases hb : (Nat.blt 0 (X.L.size e) && Nat.beq (n * X.L.size e) (cellsOf (copd fr x)).length && Nat.ble n maxInt) with
        | false => left; intro R h K bad; simp only [cl, hw, hd, hb]
        | true => right; exact ⟨.ptr l 0 0, .arr (X.L.size e) (cellsOf (copd fr x)), by simp, fun R h K bad => by simp only [cl, hw, hd, hb, fVs_eq, Tr.put_eq]⟩
      | _ => right; exact ⟨.ptr l 0 0, .arr (cellsOf (copd fr x)).length (cellsOf (copd fr x)), by simp, fun R h K bad => by simp only [cl, hw, hd, fVs_eq, fN_eq, Tr.put_eq]⟩
  | buildSlice t n ps =>
    cases hd : X.L.ds t with
    | slice e =>
      cases hb : (Nat.ble (n * X.L.size e) 16777216 && Nat.blt 0 (X.L.size e) && zok X e) with
      | false => left; intro R h K bad; simp only [cl, hd, hb]
      | true =>
        cases hf : fillA (fun i => some (i * X.L.size e, X.L.size e)) (reps n (zeroCells X e)) (ps.toList.map fun p => (p.1, copd fr p.2)) with
        | none => left; intro R h K bad; simp only [cl, hd, hb, hf]
        | some cs => right; exact ⟨.slc l 0 n true, .arr (X.L.size e) cs, by simp, fun R h K bad => by simp only [cl, hd, hb, hf, fVs_eq, Tr.put_eq]⟩
    | _ => left; intro R h K bad; simp only [cl, hd]
  | makeSlice t n c =>
    cases hd : X.L.ds t with
    | slice e =>
      have key : (∃ a b, copd fr n = .int .i64 a ∧ copd fr c = .int .i64 b) ∨ ∀ (R : Type) (h : Tr CB) (K : V → Tr CB → R) (bad : R), cl X fr h l (.makeSlice t n c) K bad = bad := by
        cases hn : copd fr n with
        | int k a =>
          cases k <;> first | (right; intro R h K bad; simp only [cl, hd, hn]; done) | skip
          cases hc : copd fr c with
          | int k b => cases k <;> first | (right; intro R h K bad; simp only [cl, hd, hn, hc]; done) | exact .inl ⟨a, b, rfl, rfl⟩
          | _ => right; intro R h K bad; simp only [cl, hd, hn, hc]
        | _ => right; intro R h K bad; simp only [cl, hd, hn]
      rcases key with ⟨a, b, hn, hc⟩ | hbad
      · cases hb : (!(ltI a 0) && !(ltI b a) && Nat.ble (b.toNat * X.L.bytes e) maxBytes && Nat.ble b.toNat maxInt && Nat.blt 0 (X.L.size e) && zok X e) with
        | false => left; intro R h K bad; simp only [cl, hd, hn, hc, hb]
        | true => right; exact ⟨.slc l 0 a.toNat (eqI a b), .arr (X.L.size e) (reps a.toNat (zeroCells X e)), by simp, fun R h K bad => by simp only [cl, hd, hn, hc, hb, fVs_eq, fN_eq, Tr.put_eq]⟩
      · exact .inl hbad
    | _ => left; intro R h K bad; simp only [cl, hd]
  | makeMap t r =>
    cases r with
    | some r => left; intro R h K bad; rfl
    | none =>
      cases hd : X.L.ds t with
      | map k e => right; exact ⟨.map l, .mp k e [], by simp, fun R h K bad => by simp only [cl, hd, Tr.put_eq]⟩
      | _ => left; intro R h K bad; simp only [cl, hd]
  | convert s0 d x =>
    cases hd : X.L.ds d with
    | slice e =>
      cases he : X.L.ds e with
      | int k =>
        cases k with
        | u8 =>
          cases hx : copd fr x with
          | str s =>
            cases hb : (strD (X.L.ds s0) && Nat.beq (X.L.size e) 1 && Nat.ble s.size maxInt) with
            | false => left; intro R h K bad; simp only [cl, hd, he, hx, hb]
            | true => right; exact ⟨.slc l 0 s.size false, .arr 1 (strV s), by simp, fun R h K bad => by simp only [cl, hd, he, hx, hb, fVs_eq, fN_eq, Tr.put_eq]⟩
          | _ => left; intro R h K bad; simp only [cl, hd, he, hx]
        | _ => left; intro R h K bad; simp only [cl, hd, he]
      | _ => left; intro R h K bad; simp only [cl, hd, he]
    | _ => left; intro R h K bad; simp only [cl, hd]
  | call c =>
    obtain ⟨callee, args, ats⟩ := c
    cases callee with
    | value f => simp [kindC] at hk
    | invoke r m => simp [kindC] at hk
    | builtin b => cases b <;> simp [kindC] at hk
  | _ => simp [kindC] at hk
end Ev
