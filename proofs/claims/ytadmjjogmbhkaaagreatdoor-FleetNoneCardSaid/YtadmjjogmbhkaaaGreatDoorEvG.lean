/- The tables of one program, checked by evaluation: what a context needs. -/
import Derived.Test.YtadmjjogmbhkaaaGreatDoorEv8
namespace Ev
open Go
variable {S : Sig}

def eqNats : List (Nat × Nat) → List (Nat × Nat) → Bool
  | [], [] => true
  | (a, b) :: r, (c, d) :: s => Nat.beq a c && (Nat.beq b d && eqNats r s)
  | _, _ => false
theorem eqNats_sound : ∀ {a b : List (Nat × Nat)}, eqNats a b = true → a = b
  | [], [], _ => rfl
  | [], _ :: _, h => by cases h
  | _ :: _, [], h => by cases h
  | (a, b) :: r, (c, d) :: s, h => by
    simp only [eqNats, Bool.and_eq_true] at h
    rw [Nat.eq_of_beq_eq_true h.1, Nat.eq_of_beq_eq_true h.2.1, eqNats_sound h.2.2]
def dsEq : Ds → Ds → Bool
  | .int k, .int k' => decide (k = k')
  | .bool, .bool => true
  | .str, .str => true
  | .slice a, .slice b => Nat.beq a b
  | .ptr a, .ptr b => Nat.beq a b
  | .struct a, .struct b => eqNats a b
  | .array n a, .array m b => Nat.beq n m && Nat.beq a b
  | .map n a, .map m b => Nat.beq n m && Nat.beq a b
  | .func, .func => true
  | .iface, .iface => true
  | .other, .other => true
  | _, _ => false
theorem dsEq_sound {a b : Ds} (h : dsEq a b = true) : a = b := by
  cases a <;> cases b <;> simp only [dsEq, Bool.and_eq_true, decide_eq_true_eq, reduceCtorEq, Bool.false_eq_true] at h <;>
    first | rfl | (subst h; rfl) | (rw [Nat.eq_of_beq_eq_true h]) | (rw [eqNats_sound h]) | (rw [Nat.eq_of_beq_eq_true h.1, Nat.eq_of_beq_eq_true h.2])

def cellEq : Value → Value → Bool
  | .bool a, .bool b => a == b
  | .int k a, .int k' b => decide (k = k') && a == b
  | .string a, .string b => Nat.beq a.size 0 && Nat.beq b.size 0
  | .pointer none, .pointer none => true
  | .slice none 0 0, .slice none 0 0 => true
  | .map none, .map none => true
  | .nilFunc, .nilFunc => true
  | .nilIface, .nilIface => true
  | _, _ => false
theorem bytes_nil {a : ByteArray} (h : Nat.beq a.size 0 = true) : a = ByteArray.empty := by
  have := Nat.eq_of_beq_eq_true h
  exact ByteArray.size_eq_zero_iff.1 this
theorem cellEq_sound {a b : Value} (h : cellEq a b = true) : a = b := by
  unfold cellEq at h
  split at h <;> simp only [Bool.and_eq_true, decide_eq_true_eq, beq_iff_eq, Bool.false_eq_true] at h
  · rw [h]
  · rw [h.1, h.2]
  · rw [bytes_nil h.1, bytes_nil h.2]
  all_goals rfl
def cellsEq : List Value → List Value → Bool
  | [], [] => true
  | a :: r, b :: s => cellEq a b && cellsEq r s
  | _, _ => false
theorem cellsEq_sound : ∀ {a b : List Value}, cellsEq a b = true → a = b
  | [], [], _ => rfl
  | [], _ :: _, h => by cases h
  | _ :: _, [], h => by cases h
  | a :: r, b :: s, h => by
    simp only [cellsEq, Bool.and_eq_true] at h
    rw [cellEq_sound h.1, cellsEq_sound h.2]

def fieldOk (P : Program) (L : Lay) (p : Nat × TypeId) : Bool := match P.info? p.2 with
  | some i => Nat.beq i.size (L.size p.2)
  | none => false
def isNilL {α : Type} : List α → Bool
  | [] => true
  | _ => false
def infoOk (P : Program) (L : Lay) (t : TypeId) : Bool := match P.info? t with
  | some i => match i.zero with
    | some z => Nat.beq i.size (L.size t) && (Nat.beq i.bytes (L.bytes t) && (Nat.beq z.cells.size i.size && (isNilL (L.row t).zero || cellsEq z.cells.toList (L.row t).zero)))
    | none => false
  | none => false
def rowOk (P : Program) (L : Lay) (t : TypeId) : Bool :=
  (isOther (L.ds t) || match P.underlying t with | some d => dsEq (Ds.of d) (L.ds t) | none => false) &&
  ((match L.ds t with | .struct fs => fs.all (fieldOk P L) | _ => true) &&
  (Nat.beq (L.size t) 0 || infoOk P L t))

theorem layOk_of {P : Program} {L : Lay} (n : Nat) (h : (List.range n).all (rowOk P L) = true) (hout : ∀ t, n ≤ t → L.row t = ⟨.other, 0, 0, []⟩) : LayOk P L := by
  have row : ∀ t, t < n → rowOk P L t = true := fun t ht => List.all_eq_true.1 h t (List.mem_range.2 ht)
  refine ⟨fun t => ?_, fun t fs hd p hp => ?_, fun t hs => ?_⟩
  · rcases Nat.lt_or_ge t n with ht | ht
    · have := row t ht
      simp only [rowOk, Bool.and_eq_true, Bool.or_eq_true] at this
      rcases this.1 with h1 | h1
      · left; revert h1; cases L.ds t <;> simp [isOther]
      · right
        split at h1
        · rename_i d hu; rw [hu]; simp [dsEq_sound h1]
        · cases h1
    · left; simp [Lay.ds, hout t ht]
  · rcases Nat.lt_or_ge t n with ht | ht
    · have := row t ht
      simp only [rowOk, Bool.and_eq_true, hd] at this
      have h2 := List.all_eq_true.1 this.2.1 p hp
      unfold fieldOk at h2
      split at h2
      · rename_i i hi; exact ⟨i, hi, Nat.eq_of_beq_eq_true h2⟩
      · cases h2
    · have hd' : L.ds t = Ds.other := by simp [Lay.ds, hout t ht]
      rw [hd] at hd'; cases hd'
  · rcases Nat.lt_or_ge t n with ht | ht
    · have := row t ht
      simp only [rowOk, Bool.and_eq_true, Bool.or_eq_true] at this
      rcases this.2.2 with h0 | h1
      · have := Nat.eq_of_beq_eq_true h0; omega
      · unfold infoOk at h1
        split at h1
        · rename_i i hi
          split at h1
          · rename_i z hz
            simp only [Bool.and_eq_true, Bool.or_eq_true] at h1
            refine ⟨i, z, hi, Nat.eq_of_beq_eq_true h1.1, Nat.eq_of_beq_eq_true h1.2.1, hz, Nat.eq_of_beq_eq_true h1.2.2.1, ?_⟩
            rcases h1.2.2.2 with h2 | h2
            · left; revert h2; cases (L.row t).zero <;> simp [isNilL]
            · right; exact cellsEq_sound h2
          · cases h1
        · cases h1
    · have : L.size t = 0 := by simp [Lay.size, hout t ht]
      omega

/-- readers of cells -/
def rdInt (k : IntKind) : AV S → Option Int
  | .int k' n => match decide (k' = k) with
    | true => some n
    | false => none
  | _ => none
def rdBool : AV S → Option Bool
  | .tt => some true
  | .ff => some false
  | .bool b => some b
  | _ => none
def rdStr : AV S → Option ByteArray
  | .str s => some s
  | _ => none
def rdImm (e : TypeId) : AV S → Option (List (S.T e))
  | .imm e' xs => castL e xs
  | .nils => some []
  | .emp => some []
  | _ => none
variable {X : Ctx S} {E : Env} {a : AV S} {v : Value}
theorem rdInt_sound {k : IntKind} {n : Int} (h : rdInt k a = some n) (hv : VR X E a v) : VR X E (.int k n) v := by
  unfold rdInt at h
  split at h
  · split at h
    · rename_i hk
      simp only [decide_eq_true_eq] at hk; subst hk
      injection h with h; subst h; exact hv
    · cases h
  · cases h
theorem rdBool_sound {b : Bool} (h : rdBool a = some b) (hv : VR X E a v) : VR X E (.bool b) v := by
  unfold rdBool at h
  split at h <;> first | cases h | skip
  · cases hv; exact .bool _
  · cases hv; exact .bool _
  · exact hv
theorem rdStr_sound {s : ByteArray} (h : rdStr a = some s) (hv : VR X E a v) : VR X E (.str s) v := by
  unfold rdStr at h
  split at h <;> first | cases h | skip
  exact hv
theorem rdImm_sound {e : TypeId} {xs : List (S.T e)} (h : rdImm e a = some xs) (hv : VR X E a v) : VR X E (.imm e xs) v := by
  unfold rdImm at h
  split at h
  · rename_i e' ys
    unfold castL at h
    split at h
    · rename_i he; subst he
      injection h with h; simp only at h; subst h; exact hv
    · cases h
  · injection h with h; subst h; cases hv; exact .imm0 _
  · injection h with h; subst h
    cases hv
    · exact .imm0 _
    · exact .imm1 _ _ _
  · cases h

/-- does a written value fit a written cell? -/
def fitsV : AV S → Value → Bool
  | .int k n, .int k' m => decide (k = k') && decide (n = m)
  | .bool b, .bool c => b == c
  | .str s, .string t => Nat.beq s.size 0 && Nat.beq t.size 0
  | .imm _ [], .slice none 0 0 => true
  | .nilp, .pointer none => true
  | _, _ => false
theorem fitsV_sound (h : fitsV a v = true) : VR X E a v := by
  unfold fitsV at h
  split at h <;> simp only [Bool.and_eq_true, decide_eq_true_eq, beq_iff_eq, Bool.false_eq_true] at h
  · rw [h.1, h.2]; exact .int _ _
  · rw [h]; exact .bool _
  · rw [bytes_nil h.1, bytes_nil h.2]; exact .str _
  · exact .imm0 _
  · exact .nilp
def fitsVs : List (AV S) → List Value → Bool
  | [], [] => true
  | a :: r, v :: s => fitsV a v && fitsVs r s
  | _, _ => false
theorem fitsVs_sound : ∀ {as : List (AV S)} {vs : List Value}, fitsVs as vs = true → VRs X E as vs
  | [], [], _ => VRs.nil
  | [], _ :: _, h => by cases h
  | _ :: _, [], h => by cases h
  | a :: r, v :: s, h => by
    simp only [fitsVs, Bool.and_eq_true] at h
    exact VRs.cons (fitsV_sound h.1) (fitsVs_sound h.2)

def allNoLoc : List (AV S) → Bool
  | [] => true
  | a :: r => noLoc a && allNoLoc r
theorem allOne_mem : ∀ {l : List (AV S)}, allOne l = true → ∀ a ∈ l, one a = true
  | [], _, _, h => by cases h
  | b :: r, h, a, ha => by
    simp only [allOne, Bool.and_eq_true] at h
    rcases List.mem_cons.1 ha with rfl | ha
    · exact h.1
    · exact allOne_mem h.2 a ha
theorem allNoLoc_mem : ∀ {l : List (AV S)}, allNoLoc l = true → ∀ a ∈ l, noLoc a = true
  | [], _, _, h => by cases h
  | b :: r, h, a, ha => by
    simp only [allNoLoc, Bool.and_eq_true] at h
    rcases List.mem_cons.1 ha with rfl | ha
    · exact h.1
    · exact allNoLoc_mem h.2 a ha
theorem allOne_rep (n : Nat) : allOne (List.replicate n (.nilp : AV S)) = true := by
  induction n with
  | zero => rfl
  | succ n ih => simp [List.replicate_succ, allOne, ih, one]
theorem allNoLoc_rep (n : Nat) : allNoLoc (List.replicate n (.nilp : AV S)) = true := by
  induction n with
  | zero => rfl
  | succ n ih => simp [List.replicate_succ, allNoLoc, ih, noLoc]

/-- an array's zero value: all cells alike -/
def allCells (v : Value) : List Value → Bool
  | [] => true
  | a :: r => cellEq a v && allCells v r
theorem allCells_sound {v : Value} : ∀ {l : List Value}, allCells v l = true → l = List.replicate l.length v
  | [], _ => rfl
  | a :: r, h => by
    simp only [allCells, Bool.and_eq_true] at h
    rw [cellEq_sound h.1, List.length_cons, List.replicate_succ, ← allCells_sound h.2]
def arrOk (P : Program) (t n : Nat) (v : Value) : Bool := match P.info? t with
  | some i => match i.zero with
    | some z => Nat.beq z.cells.size n && allCells v z.cells.toList
    | none => false
  | none => false
theorem arrOk_sound {P : Program} {t n : Nat} {v : Value} {s : Nat} {enc : List (AV S)} (h : arrOk P t n v = true) (hs : s = 1) (he : fitsVs enc [v] = true) :
    ∃ i z, P.info? t = some i ∧ i.zero = some z ∧ z.cells.size = n * s ∧ ∀ E k, k < n → VRs X E enc ((z.cells.toList.drop (k * s)).take s) := by
  subst hs
  unfold arrOk at h
  split at h
  · rename_i i hi
    split at h
    · rename_i z hz
      simp only [Bool.and_eq_true] at h
      have h1 := Nat.eq_of_beq_eq_true h.1
      have h2 := allCells_sound h.2
      refine ⟨i, z, hi, hz, by omega, fun E k hk => ?_⟩
      rw [h2, Nat.mul_one, List.drop_replicate, List.take_replicate]
      have : min 1 (z.cells.toList.length - k) = 1 := by simp; omega
      rw [this]
      exact fitsVs_sound he
    · cases h
  · cases h
def valOk (P : Program) (X : Ctx S) (t : Nat) : Bool := match P.info? t with
  | some i => match i.zero with
    | some (.agg ds) => Nat.beq i.size (X.L.size t) && (isAggD (X.L.ds t) && fitsVs (X.enc t (X.zero t)) ds.toList)
    | some z => Nat.beq i.size (X.L.size t) && (!isAggD (X.L.ds t) && (Nat.beq (X.L.size t) 1 && match X.enc t (X.zero t) with | [a] => fitsV a z | _ => false))
    | none => false
  | none => false
theorem valOk_sound {P : Program} {t : Nat} (h : valOk P X t = true) : ∃ i z, P.info? t = some i ∧ i.zero = some z ∧ i.size = X.L.size t ∧ (∀ E, VR X E (valOf X t (X.zero t)) z) ∧ (isAggD (X.L.ds t) = true ∨ X.L.size t = 1) := by
  unfold valOk at h
  split at h
  · rename_i i hi
    split at h
    · rename_i ds hz
      simp only [Bool.and_eq_true] at h
      refine ⟨i, _, hi, hz, Nat.eq_of_beq_eq_true h.1, fun E => ?_, .inl h.2.1⟩
      unfold valOf; rw [h.2.1]
      exact vr_agg_mk (fitsVs_sound h.2.2)
    · rename_i z _ hz
      simp only [Bool.and_eq_true, Bool.not_eq_true'] at h
      refine ⟨i, _, hi, hz, Nat.eq_of_beq_eq_true h.1, fun E => ?_, .inr (Nat.eq_of_beq_eq_true h.2.2.1)⟩
      have h4 := h.2.2.2
      split at h4
      · rename_i a ha
        unfold valOf; rw [h.2.1, ha]
        exact fitsV_sound h4
      · cases h4
    · cases h
  · cases h
def zeroOk (L : Lay) (t : Nat) (enc : List (AV S)) : Bool := !isNilL (L.row t).zero && (Nat.blt 0 (L.size t) && fitsVs enc (L.row t).zero)
theorem zeroOk_sound {P : Program} {L : Lay} (G : LayOk P L) {t : Nat} {enc : List (AV S)} (h : zeroOk L t enc = true) : ∀ E i z, P.info? t = some i → i.zero = some z → VRs X E enc z.cells.toList := by
  intro E i z hi hz
  simp only [zeroOk, Bool.and_eq_true, Bool.not_eq_true', Nat.blt_eq] at h
  obtain ⟨i', z', h1, _, _, h4, _, h6⟩ := G.info t h.2.1
  rw [hi] at h1; injection h1 with h1; subst h1
  rw [hz] at h4; injection h4 with h4; subst h4
  rcases h6 with h6 | h6
  · rw [h6] at h; simp [isNilL] at h
  · rw [h6]; exact fitsVs_sound h.2.2
end Ev
