/- The concrete run: its tables and numbers, and what its memory stands for. -/
import Derived.Test.YtadmjjogmbhkaaaGreatDoorCe0
import Derived.Test.YtadmjjogmbhkaaaGreatDoorEvM
import Derived.IntWalk
namespace Ev
open Go

theorem bltT {a b : Nat} : Nat.blt a b = true ↔ a < b := by rw [Nat.blt_eq]

section tr
variable {α R : Type}
/-- 'put', at once -/
def Tr.sprout (d v : α) : Nat → Nat → Tr α
  | 0, _ => .lf
  | f + 1, k => match Nat.beq k 0 with
    | true => .nd .lf v .lf
    | false => match Nat.beq (Nat.mod k 2) 1 with
      | true => .nd (Tr.sprout d v f (Nat.div k 2)) d .lf
      | false => .nd .lf d (Tr.sprout d v f (Nat.sub (Nat.div k 2) 1))
def Tr.ins (d v : α) (f : Nat) : Tr α → Nat → Tr α
  | .lf, k => Tr.sprout d v f k
  | .nd l x r, k => match Nat.beq k 0 with
    | true => .nd l v r
    | false => match Nat.beq (Nat.mod k 2) 1 with
      | true => .nd (Tr.ins d v f l (Nat.div k 2)) x r
      | false => .nd l x (Tr.ins d v f r (Nat.sub (Nat.div k 2) 1))
theorem Tr.leaf_eq (d v : α) : ∀ (f k : Nat) (K : Tr α → R), Tr.leaf d v f k K = K (Tr.sprout d v f k)
  | 0, _, _ => rfl
  | f + 1, k, K => by
    show Bool.rec (motive := fun _ => R) (Bool.rec (motive := fun _ => R) (Tr.leaf d v f (Nat.sub (Nat.div k 2) 1) fun r => K (.nd .lf d r)) (Tr.leaf d v f (Nat.div k 2) fun l => K (.nd l d .lf)) (Nat.beq (Nat.mod k 2) 1)) (K (.nd .lf v .lf)) (Nat.beq k 0) = _
    unfold Tr.sprout
    cases Nat.beq k 0 with
    | true => rfl
    | false => cases Nat.beq (Nat.mod k 2) 1 with
      | true => exact Tr.leaf_eq d v f _ _
      | false => exact Tr.leaf_eq d v f _ _
theorem Tr.put_eq (d v : α) (f : Nat) : ∀ (t : Tr α) (k : Nat) (K : Tr α → R), Tr.put d v f t k K = K (Tr.ins d v f t k)
  | .lf, k, K => Tr.leaf_eq d v f k K
  | .nd l x r, k, K => by
    show Bool.rec (motive := fun _ => R) (Bool.rec (motive := fun _ => R) (Tr.put d v f r (Nat.sub (Nat.div k 2) 1) fun r => K (.nd l x r)) (Tr.put d v f l (Nat.div k 2) fun l => K (.nd l x r)) (Nat.beq (Nat.mod k 2) 1)) (K (.nd l v r)) (Nat.beq k 0) = _
    unfold Tr.ins
    cases Nat.beq k 0 with
    | true => rfl
    | false => cases Nat.beq (Nat.mod k 2) 1 with
      | true => exact Tr.put_eq d v f l _ _
      | false => exact Tr.put_eq d v f r _ _
theorem Tr.get_nd (d v : α) (l r : Tr α) (k : Nat) : (Tr.nd l v r).get d k = if k = 0 then v else if k % 2 = 1 then l.get d (k / 2) else r.get d (k / 2 - 1) := by
  show Bool.rec (motive := fun _ => α) (Bool.rec (motive := fun _ => α) (r.get d (Nat.sub (Nat.div k 2) 1)) (l.get d (Nat.div k 2)) (Nat.beq (Nat.mod k 2) 1)) v (Nat.beq k 0) = _
  have e1 : Nat.mod k 2 = k % 2 := rfl
  have e2 : Nat.div k 2 = k / 2 := rfl
  rw [e1, e2]
  cases h : Nat.beq k 0 with
  | true => have := Nat.eq_of_beq_eq_true h; subst this; rfl
  | false =>
    have h0 : k ≠ 0 := fun e => by subst e; cases h
    rw [if_neg h0]
    cases h2 : Nat.beq (k % 2) 1 with
    | true => rw [if_pos (Nat.eq_of_beq_eq_true h2)]
    | false => rw [if_neg (fun e => by rw [e] at h2; cases h2)]; rfl
theorem Tr.get_lf (d : α) (k : Nat) : (Tr.lf : Tr α).get d k = d := rfl
theorem Tr.sprout_succ (d v : α) (f k : Nat) : Tr.sprout d v (f + 1) k = if k = 0 then .nd .lf v .lf else if k % 2 = 1 then .nd (Tr.sprout d v f (k / 2)) d .lf else .nd .lf d (Tr.sprout d v f (k / 2 - 1)) := by
  conv => lhs; unfold Tr.sprout
  have e1 : Nat.mod k 2 = k % 2 := rfl
  have e2 : Nat.div k 2 = k / 2 := rfl
  rw [e1, e2]
  cases h : Nat.beq k 0 with
  | true => have := Nat.eq_of_beq_eq_true h; subst this; rfl
  | false =>
    have h0 : k ≠ 0 := fun e => by subst e; cases h
    rw [if_neg h0]
    cases h2 : Nat.beq (k % 2) 1 with
    | true => rw [if_pos (Nat.eq_of_beq_eq_true h2)]
    | false => rw [if_neg (fun e => by rw [e] at h2; cases h2)]; rfl
theorem Tr.ins_nd (d v x : α) (l r : Tr α) (f k : Nat) : Tr.ins d v f (.nd l x r) k = if k = 0 then .nd l v r else if k % 2 = 1 then .nd (Tr.ins d v f l (k / 2)) x r else .nd l x (Tr.ins d v f r (k / 2 - 1)) := by
  conv => lhs; unfold Tr.ins
  have e1 : Nat.mod k 2 = k % 2 := rfl
  have e2 : Nat.div k 2 = k / 2 := rfl
  rw [e1, e2]
  cases h : Nat.beq k 0 with
  | true => have := Nat.eq_of_beq_eq_true h; subst this; rfl
  | false =>
    have h0 : k ≠ 0 := fun e => by subst e; cases h
    rw [if_neg h0]
    cases h2 : Nat.beq (k % 2) 1 with
    | true => rw [if_pos (Nat.eq_of_beq_eq_true h2)]
    | false => rw [if_neg (fun e => by rw [e] at h2; cases h2)]; rfl
theorem Tr.get_sprout (d v : α) : ∀ (f k : Nat), k + 2 ≤ 2 ^ f → ∀ j, (Tr.sprout d v f k).get d j = if j = k then v else d
  | 0, k, h, _ => by simp at h
  | f + 1, k, h, j => by
    have hp : 2 ^ (f + 1) = 2 * 2 ^ f := by rw [Nat.pow_succ, Nat.mul_comm]
    rw [Tr.sprout_succ]
    by_cases h0 : k = 0
    · subst h0
      rw [if_pos rfl, Tr.get_nd]
      by_cases hj : j = 0
      · simp [hj]
      · rw [if_neg hj, if_neg hj]; split <;> rfl
    · rw [if_neg h0]
      by_cases h1 : k % 2 = 1
      · rw [if_pos h1, Tr.get_nd]
        by_cases hj : j = 0
        · rw [if_pos hj, if_neg (by omega)]
        · rw [if_neg hj]
          by_cases hj1 : j % 2 = 1
          · rw [if_pos hj1, Tr.get_sprout d v f (k / 2) (by omega)]
            by_cases e : j = k
            · rw [if_pos e, if_pos (by rw [e])]
            · rw [if_neg e, if_neg (by omega)]
          · rw [if_neg hj1, if_neg (by intro e; subst e; exact hj1 h1)]; rfl
      · rw [if_neg h1, Tr.get_nd]
        by_cases hj : j = 0
        · rw [if_pos hj, if_neg (by omega)]
        · rw [if_neg hj]
          by_cases hj1 : j % 2 = 1
          · rw [if_pos hj1, if_neg (by intro e; subst e; exact h1 hj1)]; rfl
          · rw [if_neg hj1, Tr.get_sprout d v f (k / 2 - 1) (by omega)]
            by_cases e : j = k
            · rw [if_pos e, if_pos (by rw [e])]
            · rw [if_neg e, if_neg (by omega)]
theorem Tr.get_ins (d v : α) (f : Nat) : ∀ (t : Tr α) (k : Nat), k + 2 ≤ 2 ^ f → ∀ j, (Tr.ins d v f t k).get d j = if j = k then v else t.get d j
  | .lf, k, h, j => by
    show (Tr.sprout d v f k).get d j = _
    rw [Tr.get_sprout d v f k h]; rfl
  | .nd l x r, k, h, j => by
    rw [Tr.ins_nd]
    by_cases h0 : k = 0
    · subst h0
      simp only [if_true, Tr.get_nd]
      by_cases hj : j = 0
      · simp [hj]
      · simp [hj]
    · rw [if_neg h0]
      by_cases h1 : k % 2 = 1
      · rw [if_pos h1, Tr.get_nd, Tr.get_nd]
        by_cases hj : j = 0
        · rw [if_pos hj, if_pos hj, if_neg (by omega)]
        · rw [if_neg hj, if_neg hj]
          by_cases hj1 : j % 2 = 1
          · rw [if_pos hj1, if_pos hj1, Tr.get_ins d v f l (k / 2) (by omega)]
            by_cases e : j = k
            · rw [if_pos e, if_pos (by rw [e])]
            · rw [if_neg e, if_neg (by omega)]
          · rw [if_neg hj1, if_neg hj1, if_neg (by intro e; subst e; exact hj1 h1)]
      · rw [if_neg h1, Tr.get_nd, Tr.get_nd]
        by_cases hj : j = 0
        · rw [if_pos hj, if_pos hj, if_neg (by omega)]
        · rw [if_neg hj, if_neg hj]
          by_cases hj1 : j % 2 = 1
          · rw [if_pos hj1, if_pos hj1, if_neg (by intro e; subst e; exact h1 hj1)]
          · rw [if_neg hj1, if_neg hj1, Tr.get_ins d v f r (k / 2 - 1) (by omega)]
            by_cases e : j = k
            · rw [if_pos e, if_pos (by rw [e])]
            · rw [if_neg e, if_neg (by omega)]
end tr

/- bringing values into their written form changes nothing -/
section force
variable {R : Type}
theorem fN_eq (n : Nat) (K : Nat → R) : fN n K = K n := by cases n <;> rfl
theorem fI_eq (n : Int) (K : Int → R) : fI n K = K n := by cases n <;> (simp only [fI]; rw [fN_eq])
theorem ofNat_toNat (a : UInt8) : UInt8.ofNat a.toNat = a := by simp
theorem fBy_eq : ∀ (l : List UInt8) (K : List UInt8 → R), fBy l K = K l
  | [], _ => rfl
  | a :: r, K => by
    show fN a.toNat (fun n => fBy r fun r => K (UInt8.ofNat n :: r)) = _
    rw [fN_eq, fBy_eq r, ofNat_toNat]
theorem fS_eq (s : ByteArray) (K : ByteArray → R) : fS s K = K s := by
  obtain ⟨⟨l⟩⟩ := s
  exact fBy_eq l _
theorem fB_eq (b : Bool) (K : Bool → R) : fB b K = K b := by cases b <;> rfl
theorem fL_eq {α : Type} : ∀ (l : List α) (K : List α → R), fL l K = K l
  | [], _ => rfl
  | a :: r, K => by show fL r (fun r => K (a :: r)) = _; rw [fL_eq r]
theorem fV1_eq (v : V) (K : V → R) : fV1 v K = K v := by
  cases v <;> first | rfl | (simp only [fV1, fB_eq, fI_eq, fS_eq, fN_eq])
theorem fVs_eq : ∀ (l : List V) (K : List V → R), fVs l K = K l
  | [], _ => rfl
  | a :: r, K => by show fV1 a (fun a => fVs r fun r => K (a :: r)) = _; rw [fV1_eq, fVs_eq r]
theorem fV_eq (v : V) (K : V → R) : fV v K = K v := by
  cases v <;> first | (simp only [fV]; rw [fVs_eq]; done) | (simp only [fV]; rw [fV1_eq]; done) | (simp only [fV]; rw [fV1_eq, fVs_eq]; done)
theorem overK_eq : ∀ (cs : List V) (n : Nat) (vs : List V) (K : List V → R), n ≤ cs.length → overK cs n vs K = K (over cs n vs)
  | cs, 0, vs, K, _ => by
    unfold overK
    rw [fL_eq, fL_eq]
    simp [over]
  | [], n + 1, _, _, h => by simp at h
  | a :: cs, n + 1, vs, K, h => by
    show overK cs n vs (fun r => K (a :: r)) = _
    rw [overK_eq cs n vs _ (by simpa using h)]
    simp [over, Nat.add_right_comm]
    rw [show n + 1 + vs.length = (n + vs.length) + 1 by omega, List.drop_succ_cons]
end force

/- numbers -/
theorem wrap_in {k : IntKind} {n : Int} (h : inR k n = true) : wr k n = n := by
  rw [wr_eq]
  unfold inR at h
  split at h
  · split at h
    · rename_i a
      have := bltT.1 h
      exact IntWalk.i64_in _ (by simp only [Int.ofNat_eq_natCast]; omega)
    · rename_i a
      have := bltT.1 h
      exact IntWalk.i64_in _ (by simp only [Int.negSucc_eq]; omega)
  · split at h
    · rename_i a
      have := bltT.1 h
      exact IntWalk.u64_in _ (by simp only [Int.ofNat_eq_natCast]; omega)
    · cases h
  · split at h
    · rename_i a
      have := bltT.1 h
      exact IntWalk.u8_in _ (by simp only [Int.ofNat_eq_natCast]; omega)
    · cases h
  · cases h
theorem cw_eq (k : IntKind) (n : Int) : cw k n = wr k n := by
  unfold cw
  split
  · rename_i h; exact (wrap_in h).symm
  · rfl
theorem beqF {m n : Nat} (h : Nat.beq m n = false) : m ≠ n := fun e => by subst e; rw [Nat.beq_refl] at h; cases h
theorem eqI_eq (a b : Int) : eqI a b = (a == b) := by
  rw [Bool.eq_iff_iff, beq_iff_eq]
  cases a with
  | ofNat m => cases b with
    | ofNat n =>
      show Nat.beq m n = true ↔ _
      exact ⟨fun h => by rw [Nat.eq_of_beq_eq_true h], fun h => by injection h with h; subst h; exact Nat.beq_refl _⟩
    | negSucc n => exact ⟨fun h => (by cases h), fun h => (by cases h)⟩
  | negSucc m => cases b with
    | ofNat n => exact ⟨fun h => (by cases h), fun h => (by cases h)⟩
    | negSucc n =>
      show Nat.beq m n = true ↔ _
      exact ⟨fun h => by rw [Nat.eq_of_beq_eq_true h], fun h => by injection h with h; subst h; exact Nat.beq_refl _⟩
theorem eqI_iff {a b : Int} : eqI a b = true ↔ a = b := by rw [eqI_eq]; simp
theorem ltI_iff {a b : Int} : ltI a b = true ↔ a < b := by
  cases a <;> cases b <;> simp only [ltI, Nat.blt_eq, Bool.false_eq_true, false_iff, true_iff] <;> rename_i m n
  · exact ⟨fun h => Int.ofNat_lt.2 h, fun h => Int.ofNat_lt.1 h⟩
  · intro h; have := Int.negSucc_lt_zero n; have := Int.natCast_nonneg m; simp only [Int.ofNat_eq_natCast] at h; omega
  · have := Int.negSucc_lt_zero m; have := Int.natCast_nonneg n; simp only [Int.ofNat_eq_natCast]; omega
  · simp only [Int.negSucc_eq]; omega
theorem ltI_false {a b : Int} : ltI a b = false ↔ b ≤ a := by
  rw [← Bool.not_eq_true, ltI_iff]; omega
theorem ltI_eq (a b : Int) : ltI a b = decide (a < b) := by
  cases h : ltI a b with
  | true => simp [ltI_iff.1 h]
  | false => have := ltI_false.1 h; simp; omega
theorem eqBy_iff : ∀ (a b : List UInt8), eqBy a b = true ↔ a = b
  | [], [] => by simp [eqBy]
  | [], _ :: _ => by simp [eqBy]
  | _ :: _, [] => by simp [eqBy]
  | a :: r, b :: s => by
    unfold eqBy
    cases h : Nat.beq a.toNat b.toNat with
    | true =>
      have e : a = b := UInt8.toNat_inj.1 (Nat.eq_of_beq_eq_true h)
      subst e; simp [eqBy_iff r s]
    | false =>
      have e : a ≠ b := fun e => by subst e; rw [Nat.beq_refl] at h; cases h
      simp [e]
theorem eqS_iff {a b : ByteArray} : eqS a b = true ↔ a = b := by
  unfold eqS
  rw [eqBy_iff]
  constructor
  · intro h
    obtain ⟨⟨l⟩⟩ := a; obtain ⟨⟨m⟩⟩ := b
    simp only at h; subst h; rfl
  · intro h; rw [h]

/- memory -/
section mem
variable (X : Ctx S0)

/-- entries of a map, side by side -/
def MR (E : Env) (es : List (V × V)) (ms : List MapEntry) : Prop :=
  ms.length = es.length ∧ ∀ (i : Nat) (p : V × V) m, es[i]? = some p → ms[i]? = some m → VR X E p.1 m.key ∧ VR X E p.2 m.val

/-- a row of cells that all may be written -/
def okFz (fz : Nat × Nat) (n : Nat) : Prop := fz = (0, 0) ∨ n ≤ fz.1
def RowAt (w : World) (b : Nat) (c : Array Value) (el : TypeId) : Prop := ∃ fz, w.heap[b]? = some (.cells c el fz) ∧ okFz fz c.size
/-- one block, in memory -/
def CBR (E : Env) (w : World) : CB → Loc → Prop
  | .dead, _ => True
  | .arr wd' cs, .at b sh wd tot => ∃ c el, RowAt w b c el ∧ wd' = wd ∧ cs.length ≤ tot * wd ∧ tot ≤ maxInt ∧ sh + tot * wd ≤ c.size ∧ VRs X E cs ((c.toList.drop sh).take cs.length)
  | .arr _ _, .void => False
  | .mp k _ es, .at b _ _ _ => ∃ ms clock, w.heap[b]? = some (.map ms clock) ∧ MR X E es ms.toList ∧ ∀ p ∈ es, fits X k p.1 = true
  | .mp _ _ _, .void => False

/-- the run's memory, in the model's -/
structure CH (E : Env) (g : Nat → CB) (w : World) : Prop where
  im : ∀ b, E.im b = none
  nv : ∀ l, E.io l ≠ some .void
  blk : ∀ l, g l ≠ .dead → ∃ p, E.io l = some p ∧ CBR X E w (g l) p
  inj : ∀ l m b sh wd tot sh' wd' tot', E.io l = some (.at b sh wd tot) → E.io m = some (.at b sh' wd' tot') → g l ≠ .dead → g m ≠ .dead → l = m

/-- blocks that the run may write -/
def owns (E : Env) (g : Nat → CB) (b : Nat) : Prop := ∃ l sh wd tot, g l ≠ .dead ∧ E.io l = some (.at b sh wd tot)

/-- from (E, g, w) to (E', g', w'): of some numbers those that are free stay free -/
structure CX (S : Nat → Prop) (E : Env) (g : Nat → CB) (w : World) (E' : Env) (g' : Nat → CB) (w' : World) : Prop where
  io : ∀ l p, E.io l = some p → E'.io l = some p
  free : ∀ l, S l → E.io l = none → E'.io l = none
  dead : ∀ l, S l → g l = .dead → g' l = .dead
  own : ∀ b, owns E' g' b → owns E g b ∨ w.heap.size ≤ b
  size : w.heap.size ≤ w'.heap.size
  frame : ∀ b, b < w.heap.size → ¬ owns E g b → w'.heap[b]? = w.heap[b]?
  os : w'.os = w.os
  tape : w'.tape = w.tape
  output : w'.output = w.output

/-- numbers from n on are free -/
def Fresh (n : Nat) (E : Env) (g : Nat → CB) : Prop := ∀ l, n ≤ l → E.io l = none ∧ g l = .dead

variable {X} {E E' E'' : Env} {g g' g'' : Nat → CB} {w w' w'' : World} {n n' : Nat} {S S' : Nat → Prop}

theorem CX.refl (n : Nat → Prop) (E : Env) (g : Nat → CB) (w : World) : CX n E g w E g w :=
  ⟨fun _ _ h => h, fun _ _ h => h, fun _ _ h => h, fun _ h => .inl h, Nat.le_refl _, fun _ _ _ => rfl, rfl, rfl, rfl⟩
theorem CX.trans (h : CX S E g w E' g' w') (h' : CX S E' g' w' E'' g'' w'') : CX S E g w E'' g'' w'' := by
  refine ⟨fun l p hl => h'.io l p (h.io l p hl), fun l hl hf => h'.free l hl (h.free l hl hf), fun l hl hd => h'.dead l hl (h.dead l hl hd), fun b hb => ?_, Nat.le_trans h.size h'.size, fun b hb ho => ?_, h'.os.trans h.os, h'.tape.trans h.tape, h'.output.trans h.output⟩
  · rcases h'.own b hb with h1 | h1
    · exact h.own b h1
    · exact .inr (Nat.le_trans h.size h1)
  · rw [h'.frame b (Nat.lt_of_lt_of_le hb h.size) (fun h1 => by rcases h.own b h1 with h2 | h2; exact ho h2; omega)]
    exact h.frame b hb ho
theorem CX.mono (h : CX S E g w E' g' w') (hn : ∀ l, S' l → S l) : CX S' E g w E' g' w' := { h with free := fun l hl => h.free l (hn l hl), dead := fun l hl => h.dead l (hn l hl) }

theorem vr_mono {a : V} {v : Value} (hr : CH X E g w) (h : VR X E a v) (hio : ∀ l p, E.io l = some p → E'.io l = some p) : VR X E' a v :=
  h.mono (fun b o h => by rw [hr.im] at h; cases h) hio
theorem vrs_mono {cs : List V} {us : List Value} (hr : CH X E g w) (h : VRs X E cs us) (hio : ∀ l p, E.io l = some p → E'.io l = some p) : VRs X E' cs us :=
  h.mono (fun b o h => by rw [hr.im] at h; cases h) hio
theorem fr_mono {fr : Fr S0} {a : Act} (hr : CH X E g w) (h : FR X E fr a) (hio : ∀ l p, E.io l = some p → E'.io l = some p) : FR X E' fr a :=
  fun t => vr_mono hr (h t) hio

theorem MR.mono {es : List (V × V)} {ms : List MapEntry} (h : MR X E es ms) (him : ∀ b, E.im b = none) (hio : ∀ l p, E.io l = some p → E'.io l = some p) : MR X E' es ms :=
  ⟨h.1, fun i p m hp hm => ⟨(h.2 i p m hp hm).1.mono (fun b o h => by rw [him] at h; cases h) hio, (h.2 i p m hp hm).2.mono (fun b o h => by rw [him] at h; cases h) hio⟩⟩
theorem CBR.mono {b : CB} {p : Loc} (h : CBR X E w b p) (him : ∀ b, E.im b = none) (hio : ∀ l p, E.io l = some p → E'.io l = some p)
    (hw : ∀ bb sh wd tot, b ≠ .dead → p = .at bb sh wd tot → w'.heap[bb]? = w.heap[bb]?) : CBR X E' w' b p := by
  cases b with
  | dead => trivial
  | arr wd' cs =>
    cases p with
    | void => exact h
    | «at» bb sh wd tot =>
      obtain ⟨c, el, ⟨fz, h1, hz⟩, h2, h3, h4, h5, h6⟩ := h
      exact ⟨c, el, ⟨fz, by rw [hw bb sh wd tot (by simp) rfl]; exact h1, hz⟩, h2, h3, h4, h5, h6.mono (fun b o h => by rw [him] at h; cases h) hio⟩
  | mp k e es =>
    cases p with
    | void => exact h
    | «at» bb sh wd tot =>
      obtain ⟨ms, cl, h1, h2, h3⟩ := h
      exact ⟨ms, cl, by rw [hw bb sh wd tot (by simp) rfl]; exact h1, h2.mono him hio, h3⟩
theorem CBR.lt {b : CB} {bb sh wd tot : Nat} (h : CBR X E w b (.at bb sh wd tot)) (hd : b ≠ .dead) : bb < w.heap.size := by
  cases b with
  | dead => exact absurd rfl hd
  | arr wd' cs => obtain ⟨c, el, ⟨fz, h1, hz⟩, _⟩ := h; exact block_lt_of h1
  | mp k e es => obtain ⟨ms, cl, h1, _⟩ := h; exact block_lt_of h1
theorem CH.at (hr : CH X E g w) {l : Nat} {p : Loc} (hio : E.io l = some p) (hd : g l ≠ .dead) : CBR X E w (g l) p := by
  obtain ⟨q, hq, hb⟩ := hr.blk l hd
  rw [hio] at hq; injection hq with hq; subst hq; exact hb
theorem CH.own_lt (hr : CH X E g w) {b : Nat} (h : owns E g b) : b < w.heap.size := by
  obtain ⟨l, sh, wd, tot, h1, h2⟩ := h
  exact (hr.at h2 h1).lt h1
/-- a part of the memory -/
theorem CH.part (hr : CH X E g w) (h : ∀ l, g' l ≠ .dead → g' l = g l) : CH X E g' w := by
  refine ⟨hr.im, hr.nv, fun l hl => ?_, fun l m b sh wd tot sh' wd' tot' h1 h2 h3 h4 => hr.inj l m b _ _ _ _ _ _ h1 h2 (h l h3 ▸ h3) (h m h4 ▸ h4)⟩
  rw [h l hl]; exact hr.blk l (h l hl ▸ hl)
theorem CH.drew (hr : CH X E g w) (d : Nat) : CH X E g { w with drawn := d } :=
  ⟨hr.im, hr.nv, fun l hl => let ⟨p, h1, h2⟩ := hr.blk l hl; ⟨p, h1, h2.mono hr.im (fun _ _ h => h) fun _ _ _ _ _ _ => rfl⟩, hr.inj⟩

/-- the table as a function -/
noncomputable def hp (h : Tr CB) : Nat → CB := fun l => h.get .dead l
noncomputable def fn (fr : Tr V) : Fr S0 := fun t => fr.get .top t
theorem opd_fn (fr : Tr V) (x : Operand) : opd (fn fr) x = copd fr x := by cases x <;> rfl
theorem hp_ins (h : Tr CB) (l : Nat) (b : CB) (hl : Nat.blt l 4294967296 = true) : hp (Tr.ins .dead b 64 h l) = fun m => if m = l then b else hp h m := by
  funext m
  have := bltT.1 hl
  exact Tr.get_ins .dead b 64 h l (by omega) m
theorem fn_ins (fr : Tr V) (d : Nat) (v : V) (hd : Nat.blt d 4294967296 = true) : fn (Tr.ins .top v 64 fr d) = upd d v (fn fr) := by
  funext t
  have := bltT.1 hd
  rw [upd_eq]
  exact Tr.get_ins .top v 64 fr d (by omega) t

/-- a new block at a free number -/
theorem CH.push (hr : CH X E g w) {l b sh wd tot : Nat} {blk : CB} (hfree : E.io l = none) (hsize : w.heap.size ≤ w'.heap.size) (hold : ∀ k, k < w.heap.size → w'.heap[k]? = w.heap[k]?) (hb : w.heap.size ≤ b)
    (hB : CBR X (E.push l (.at b sh wd tot)) w' blk (.at b sh wd tot)) (hg : g l = .dead) (ho : w'.os = w.os) (ht : w'.tape = w.tape) (hu : w'.output = w.output) :
    CH X (E.push l (.at b sh wd tot)) (fun m => if m = l then blk else g m) w' ∧ CX (· ≠ l) E g w (E.push l (.at b sh wd tot)) (fun m => if m = l then blk else g m) w' := by
  have hio : ∀ m p, E.io m = some p → (E.push l (.at b sh wd tot)).io m = some p := by
    intro m p h
    rw [Env.push_io, if_neg (fun e => by subst e; rw [hfree] at h; cases h)]; exact h
  have old : ∀ m p, E.io m = some p → g m ≠ .dead → ∀ bb sh wd tot, p = .at bb sh wd tot → bb < w.heap.size := by
    intro m p h hd bb sh wd tot e
    subst e
    exact (hr.at h hd).lt hd
  have src : ∀ m bb sh' wd' tot', (E.push l (.at b sh wd tot)).io m = some (.at bb sh' wd' tot') → (if m = l then blk else g m) ≠ .dead → (m = l ∧ bb = b) ∨ (m ≠ l ∧ E.io m = some (.at bb sh' wd' tot') ∧ g m ≠ .dead ∧ bb < w.heap.size) := by
    intro m bb sh' wd' tot' h1 h2
    rw [Env.push_io] at h1
    by_cases e : m = l
    · rw [if_pos e] at h1; injection h1 with h1; injection h1 with h1; exact .inl ⟨e, h1.symm⟩
    · rw [if_neg e] at h1 h2; exact .inr ⟨e, h1, h2, old _ _ h1 h2 _ _ _ _ rfl⟩
  refine ⟨⟨hr.im, fun m => ?_, fun m hm => ?_, fun m m' bb sh1 wd1 tot1 sh2 wd2 tot2 h1 h2 h3 h4 => ?_⟩, ⟨hio, fun m hm hf => ?_, fun m hm hd => ?_, fun bb ⟨m, sh', wd', tot', h1, h2⟩ => ?_, hsize, fun bb hbb _ => hold bb hbb, ho, ht, hu⟩⟩
  · rw [Env.push_io]
    split
    · simp
    · exact hr.nv m
  · by_cases e : m = l
    · subst e
      simp only [if_true]
      exact ⟨_, by rw [Env.push_io, if_pos rfl], hB⟩
    · simp only [if_neg e] at hm ⊢
      obtain ⟨p, hp, hbb⟩ := hr.blk m hm
      exact ⟨p, hio m p hp, hbb.mono hr.im hio fun bb sh' wd' tot' hd e' => hold bb (old m p hp hm _ _ _ _ e')⟩
  · rcases src m _ _ _ _ h1 h3 with ⟨a1, a2⟩ | ⟨a1, a2, a3, a4⟩ <;> rcases src m' _ _ _ _ h2 h4 with ⟨b1, b2⟩ | ⟨b1, b2, b3, b4⟩
    · rw [a1, b1]
    · omega
    · omega
    · exact hr.inj m m' bb _ _ _ _ _ _ a2 b2 a3 b3
  · rw [Env.push_io, if_neg hm]; exact hf
  · rw [if_neg hm]; exact hd
  · rcases src m _ _ _ _ h2 h1 with ⟨a1, a2⟩ | ⟨a1, a2, a3, a4⟩
    · exact .inr (by omega)
    · exact .inl ⟨m, _, _, _, a3, a2⟩

/-- what is written into a block that the run has -/
theorem CH.write (hr : CH X E g w) {l b sh wd tot : Nat} {blk : CB} (hio : E.io l = some (.at b sh wd tot)) (hd : g l ≠ .dead) (hsize : w'.heap.size = w.heap.size) (hw : ∀ k, k ≠ b → w'.heap[k]? = w.heap[k]?)
    (hB : CBR X E w' blk (.at b sh wd tot)) (ho : w'.os = w.os) (ht : w'.tape = w.tape) (hu : w'.output = w.output) :
    CH X E (fun m => if m = l then blk else g m) w' ∧ CX (fun _ => True) E g w E (fun m => if m = l then blk else g m) w' := by
  have alive : ∀ m, (if m = l then blk else g m) ≠ .dead → g m ≠ .dead := by
    intro m h
    by_cases e : m = l
    · subst e; exact hd
    · rw [if_neg e] at h; exact h
  refine ⟨⟨hr.im, hr.nv, fun m hm => ?_, fun m m' bb sh1 wd1 tot1 sh2 wd2 tot2 h1 h2 h3 h4 => hr.inj m m' bb _ _ _ _ _ _ h1 h2 (alive m h3) (alive m' h4)⟩, ⟨fun _ _ h => h, fun _ _ h => h, fun m _ h => ?_, fun bb ⟨m, sh', wd', tot', h1, h2⟩ => .inl ⟨m, _, _, _, alive m h1, h2⟩, by omega, fun bb hbb hno => hw bb fun e => hno ⟨l, sh, wd, tot, hd, by rw [e]; exact hio⟩, ho, ht, hu⟩⟩
  · by_cases e : m = l
    · subst e
      simp only [if_true]
      exact ⟨_, hio, hB⟩
    · simp only [if_neg e] at hm ⊢
      obtain ⟨p, hp, hbb⟩ := hr.blk m hm
      refine ⟨p, hp, hbb.mono hr.im (fun _ _ h => h) fun bb sh' wd' tot' _ e' => hw bb fun e2 => ?_⟩
      subst e'; subst e2
      exact e (hr.inj m l bb _ _ _ _ _ _ hp hio hm hd)
  · rw [if_neg (fun e => by subst e; exact hd h)]; exact h

/-- a number is given up, its block is taken for a new number (or a new block is) -/
theorem CH.kill (hr : CH X E g w) (l : Nat) : CH X E (fun m => if m = l then .dead else g m) w ∧ CX (fun _ => True) E g w E (fun m => if m = l then .dead else g m) w := by
  have alive : ∀ m, (if m = l then CB.dead else g m) ≠ .dead → (if m = l then CB.dead else g m) = g m ∧ g m ≠ .dead := by
    intro m h
    by_cases e : m = l
    · rw [if_pos e] at h; exact absurd rfl h
    · rw [if_neg e] at h ⊢; exact ⟨rfl, h⟩
  refine ⟨hr.part fun m h => (alive m h).1, ⟨fun _ _ h => h, fun _ _ h => h, fun m _ h => by split <;> first | rfl | exact h, fun bb ⟨m, sh', wd', tot', h1, h2⟩ => .inl ⟨m, _, _, _, (alive m h1).2, h2⟩, Nat.le_refl _, fun _ _ _ => rfl, rfl, rfl, rfl⟩⟩
theorem CH.take (hr : CH X E g w) {l b sh wd tot : Nat} {blk : CB} (hfree : E.io l = none) (hno : ¬ owns E g b) (hown : b < w.heap.size) (hsize : w'.heap.size = w.heap.size) (hw : ∀ k, k ≠ b → w'.heap[k]? = w.heap[k]?)
    (hB : CBR X (E.push l (.at b sh wd tot)) w' blk (.at b sh wd tot)) (hg : g l = .dead) (ho : w'.os = w.os) (ht : w'.tape = w.tape) (hu : w'.output = w.output) :
    CH X (E.push l (.at b sh wd tot)) (fun m => if m = l then blk else g m) w' := by
  have hio : ∀ m p, E.io m = some p → (E.push l (.at b sh wd tot)).io m = some p := by
    intro m p h
    rw [Env.push_io, if_neg (fun e => by subst e; rw [hfree] at h; cases h)]; exact h
  have src : ∀ m bb sh' wd' tot', (E.push l (.at b sh wd tot)).io m = some (.at bb sh' wd' tot') → (if m = l then blk else g m) ≠ .dead → (m = l ∧ bb = b) ∨ (m ≠ l ∧ E.io m = some (.at bb sh' wd' tot') ∧ g m ≠ .dead ∧ bb ≠ b) := by
    intro m bb sh' wd' tot' h1 h2
    rw [Env.push_io] at h1
    by_cases e : m = l
    · rw [if_pos e] at h1; injection h1 with h1; injection h1 with h1; exact .inl ⟨e, h1.symm⟩
    · rw [if_neg e] at h1 h2; exact .inr ⟨e, h1, h2, fun e2 => by subst e2; exact hno ⟨m, _, _, _, h2, h1⟩⟩
  refine ⟨hr.im, fun m => ?_, fun m hm => ?_, fun m m' bb sh1 wd1 tot1 sh2 wd2 tot2 h1 h2 h3 h4 => ?_⟩
  · rw [Env.push_io]
    split
    · simp
    · exact hr.nv m
  · by_cases e : m = l
    · subst e
      simp only [if_true]
      exact ⟨_, by rw [Env.push_io, if_pos rfl], hB⟩
    · simp only [if_neg e] at hm ⊢
      obtain ⟨p, hp, hbb⟩ := hr.blk m hm
      refine ⟨p, hio m p hp, hbb.mono hr.im hio fun bb sh' wd' tot' hd e' => hw bb fun e2 => ?_⟩
      subst e'; subst e2
      exact hno ⟨m, _, _, _, hm, hp⟩
  · rcases src m _ _ _ _ h1 h3 with ⟨a1, a2⟩ | ⟨a1, a2, a3, a4⟩ <;> rcases src m' _ _ _ _ h2 h4 with ⟨b1, b2⟩ | ⟨b1, b2, b3, b4⟩
    · rw [a1, b1]
    · exact absurd a2 b4
    · exact absurd b2 a4
    · exact hr.inj m m' bb _ _ _ _ _ _ a2 b2 a3 b3
end mem
end Ev
