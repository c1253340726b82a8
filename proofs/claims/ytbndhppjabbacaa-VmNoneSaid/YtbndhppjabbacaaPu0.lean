/- Plain functions: what codes take and put, names, what verifies. No program in sight. -/
import Derived.Test.YtbndhppjabbacaaEvC
namespace Ev
theorem drop_get {α : Type} (l : List α) (i : Nat) (d : α) (h : i < l.length) : l.drop i = l.getD i d :: l.drop (i + 1) := by
  rw [List.drop_eq_getElem_cons h]; simp [List.getD_eq_getElem?_getD, h]
/-- ref own -/
def own (c : CodeR) : Int :=
  if c.Do = 6 ∧ 0 ≤ c.A then 1 else if c.Do ≠ 7 ∨ c.A < 0 ∨ c.From < 0 ∨ c.From > 2147483647 ∨ c.To > 2147483647 then 0 else if c.To = -1 then c.From + 1 else if c.From ≤ c.To then c.To + 1 else 0
theorem own_pos {c : CodeR} (h : 0 < own c) : 0 ≤ c.A ∧ own c ≤ 2147483648 := by
  unfold own at h ⊢
  repeat' (first | split at h | split)
  all_goals omega
theorem own_range (c : CodeR) : 0 ≤ own c ∧ own c ≤ 2147483648 := by
  unfold own
  repeat' split
  all_goals omega
def cellsF : List CodeR → Int → Int
  | [], m => m
  | c :: r, m => cellsF r (if 0 < own c ∧ c.A ≤ 2147483648 ∧ m < c.A + own c then c.A + own c else m)
def cellsN (l : List CodeR) : Int := cellsF l 0
/-- ref letter, digit, name -/
def letter (n : Int) : Bool := decide (97 ≤ n ∧ n ≤ 122 ∨ 65 ≤ n ∧ n ≤ 90)
def digit (n : Int) : Bool := decide (48 ≤ n ∧ n ≤ 57)
def byteAt (s : ByteArray) (i : Nat) : Int := ((s.data.toList.getD i 0).toNat : Int)
def nameCh (b : UInt8) : Bool := letter (b.toNat : Int) || digit (b.toNat : Int) || (b.toNat : Int) == 95
def isName (s : ByteArray) : Bool := decide (1 ≤ s.size ∧ s.size ≤ 24) && letter (byteAt s 0) && (s.data.toList.drop 1).all nameCh
theorem size_list (s : ByteArray) : s.data.toList.length = s.size := by cases s; simp [ByteArray.size]
/-- how many values an instruction takes and puts -/
def mvs (c : CodeR) : Option (Int × Int) :=
  if c.Do = 0 ∨ c.Do = 1 ∨ c.Do = 2 then some (0, 1) else if c.Do = 3 ∨ c.Do = 6 then some (1, 1)
  else if c.Do = 4 ∨ c.Do = 5 then (if c.A < 2 then none else some (c.A, 1)) else if c.Do = 7 then some (2, 1) else if c.Do = 8 then some (1, 0) else none
theorem mvs_cases (c : CodeR) : (mvs c = none ∧ ((c.Do = 4 ∨ c.Do = 5) ∧ c.A < 2 ∨ c.Do < 0 ∨ 8 < c.Do)) ∨ ∃ t p, mvs c = some (t, p) ∧
    ((c.Do = 0 ∨ c.Do = 1 ∨ c.Do = 2) ∧ t = 0 ∧ p = 1 ∨ (c.Do = 3 ∨ c.Do = 6) ∧ t = 1 ∧ p = 1 ∨ (c.Do = 4 ∨ c.Do = 5) ∧ 2 ≤ c.A ∧ t = c.A ∧ p = 1 ∨ c.Do = 7 ∧ t = 2 ∧ p = 1 ∨ c.Do = 8 ∧ t = 1 ∧ p = 0) := by
  unfold mvs
  repeat' split
  all_goals first | (left; refine ⟨rfl, ?_⟩; omega) | (right; refine ⟨_, _, rfl, ?_⟩; omega)
def stk : List CodeR → Int → Int → Int
  | [], _, most => most
  | c :: r, now, most => match mvs c with
    | none => -1
    | some (t, p) => if now < t then -1 else stk r (now - t + p) (if most < now - t + p then now - t + p else most)
def stkN (l : List CodeR) : Int := stk l 0 0
/-- ref code -/
def codeP (nA nP : Nat) (c : CodeR) : Prop :=
  (c.Do = 7 ∨ c.From = 0 ∧ c.To = 0) ∧
  ((c.Do = 0 ∨ c.Do = 1 ∨ c.Do = 3) ∧ c.A = 0 ∨ c.Do = 2 ∧ 0 ≤ c.A ∧ c.A < nA ∨ (c.Do = 4 ∨ c.Do = 5) ∧ 2 ≤ c.A ∧ c.A ≤ 300 ∨ c.Do = 6 ∧ 0 ≤ c.A ∧ c.A < 20000 ∨
    c.Do = 7 ∧ 0 ≤ c.A ∧ 0 ≤ c.From ∧ c.From ≤ 1000 ∧ (c.To = -1 ∨ c.From ≤ c.To ∧ c.To ≤ 1000) ∧ c.A ≤ 20000 - own c ∨ c.Do = 8 ∧ 0 ≤ c.A ∧ c.A < nP)
instance (nA nP : Nat) (c : CodeR) : Decidable (codeP nA nP c) := by unfold codeP; exact inferInstance
def codeOk (nA nP : Nat) (c : CodeR) : Bool := decide (codeP nA nP c)
theorem codeOk_iff {nA nP : Nat} {c : CodeR} : codeOk nA nP c = true ↔ codeP nA nP c := decide_eq_true_iff
/-- an atom that can be asked -/
def atomOk (n : Int) (a : AtomR) : Bool := decide (1 ≤ a.Terms.length ∧ a.Terms.length ≤ 16) && a.Terms.all fun w => decide (0 ≤ w.Signal ∧ w.Signal < n)
def none0 : Int → Bool := fun _ => false
/-- cells that are free -/
def free (tk : Int → Bool) (a : Int) (n : Nat) : Bool := (List.range n).all fun (k : Nat) => !tk (a + (k : Int))
def took (tk : Int → Bool) (a n : Int) : Int → Bool := fun x => tk x || decide (a ≤ x ∧ x < a + n)
def tells (c : CodeR) : Bool := decide (c.Do = 8)
/-- one instruction in its place -/
def codeIn (nA nP : Nat) (tk td : Int → Bool) (c : CodeR) : Bool := codeOk nA nP c && free tk c.A (own c).toNat && (!tells c || !td c.A)
def tk1 (tk : Int → Bool) (c : CodeR) : Int → Bool := took tk c.A (own c)
def td1 (td : Int → Bool) (c : CodeR) : Int → Bool := fun x => td x || (tells c && decide (x = c.A))
def scan (nA nP : Nat) : List CodeR → (Int → Bool) → (Int → Bool) → Bool
  | [], _, _ => true
  | c :: r, tk, td => codeIn nA nP tk td c && scan nA nP r (tk1 tk c) (td1 td c)
def left1 (c : CodeR) : Int := match mvs c with | none => 0 | some (t, p) => p - t
def leftN : List CodeR → Int
  | [] => 0
  | c :: r => left1 c + leftN r
def tellsN : List CodeR → Int
  | [] => 0
  | c :: r => (if tells c then 1 else 0) + tellsN r
theorem free_succ (tk : Int → Bool) (a : Int) (k : Nat) : free tk a (k + 1) = (free tk a k && !tk (a + (k : Int))) := by
  unfold free; rw [List.range_succ, List.all_append]; simp
theorem free_hit {tk : Int → Bool} {a : Int} {k n : Nat} (h : k < n) (ht : tk (a + (k : Int)) = true) : free tk a n = false := by
  unfold free
  rw [List.all_eq_false]
  exact ⟨k, List.mem_range.2 h, by simp [ht]⟩
theorem took_zero (tk : Int → Bool) (a : Int) : took tk a 0 = tk := by
  funext x; unfold took; rw [decide_eq_false (by omega)]; simp
theorem took_succ (tk : Int → Bool) (a k : Int) (h : 0 ≤ k) : (fun x => took tk a k x || decide (x = a + k)) = took tk a (k + 1) := by
  funext x; unfold took
  rw [Bool.or_assoc, ← Bool.decide_or]
  congr 1
  exact decide_eq_decide.2 (by omega)
/-- a list of marks as a set -/
def fnOf (l : List Bool) : Int → Bool := fun x => decide (0 ≤ x) && l.getD x.toNat false
theorem fnOf_rep (n : Nat) : fnOf (List.replicate n false) = none0 := by
  funext x; unfold fnOf none0
  simp [List.getD_eq_getElem?_getD, List.getElem?_replicate]
  intro _
  split <;> rfl
theorem fnOf_set {l : List Bool} {a : Int} (h : 0 ≤ a) (h' : a.toNat < l.length) : fnOf (l.set a.toNat true) = fun x => fnOf l x || decide (x = a) := by
  funext x; unfold fnOf
  by_cases hx : x = a
  · subst hx
    simp [h', h, List.getD_eq_getElem?_getD]
  · by_cases hx0 : 0 ≤ x
    · have : a.toNat ≠ x.toNat := by omega
      simp [List.getD_eq_getElem?_getD, List.getElem?_set_ne this, hx, hx0]
    · simp [hx, hx0]
theorem fnOf_get {l : List Bool} {a : Int} (h : 0 ≤ a) : fnOf l a = l.getD a.toNat false := by unfold fnOf; simp [h]
theorem code_own {nA nP : Nat} {c : CodeR} (h : codeP nA nP c) (h' : 0 < own c) : 0 ≤ c.A ∧ c.A + own c ≤ 20000 := by
  unfold codeP at h
  unfold own at *
  repeat' (first | split at h' | split at h | split)
  all_goals omega
/-- ref Verify -/
def verify (p : ProgR) : Int :=
  if p.Codes.length > 2000 ∨ p.Atoms.length > 2000 ∨ p.Props.length > 16 ∨ p.Signals < 0 ∨ p.Signals > 16 then 2
  else if p.Props.all isName = false then 40
  else if p.Atoms.all (atomOk p.Signals) = false then 50
  else if scan p.Atoms.length p.Props.length p.Codes none0 none0 = false then 50
  else if stkN p.Codes < 0 ∨ stkN p.Codes ≠ p.Stack ∨ leftN p.Codes ≠ 0 ∨ tellsN p.Codes ≠ p.Props.length ∨ p.Cells ≠ cellsN p.Codes then 50 else 0
end Ev
