/- The abstract interpreter: abstract values, abstract heap, the operations, and a small machine whose run is a proposition (a weakest precondition that computes). No proof here. -/
import Derived.Calls
namespace Ev
open Go

/-- The carriers: for each element type of a slice a Lean type. -/
structure Sig where
  T : TypeId → Type

inductive AV (S : Sig) : Type
  | top
  | tt
  | ff
  | bool (b : Bool)
  | int (k : IntKind) (n : Int)
  | str (s : ByteArray)
  | nilp
  | ptr (l row sub : Nat)
  | ip (cells : List (AV S)) (sub : Nat)
  | nils
  | emp
  | slc (l off len : Nat) (cl : Bool)
  | imm (e : TypeId) (xs : List (S.T e))
  | nilm
  | map (l : Nat)
  | nilf
  | fn (f : FuncId) (caps : List (AV S))
  | fnb (f : FuncId) (x : AV S) (caps : List (AV S))
  | nili
  | iface (t : TypeId) (v : AV S)
  | agg (cs : List (AV S))
  | tup (vs : List (AV S))

inductive Blk (S : Sig) : Type
  | cells (cs : List (AV S))
  | lst (e : TypeId) (xs : List (S.T e))
  | lsto (e : TypeId) (xs : List (S.T e)) (row sub : Nat) (v : AV S)
  | mp (kt et : TypeId) (es : List (S.T kt × S.T et))
  | dead

abbrev AH (S : Sig) := List (Blk S)
abbrev Fr (S : Sig) := Nat → AV S

/-- A type as the interpreter needs it. -/
inductive Ds
  | int (k : IntKind) | bool | str | slice (e : TypeId) | ptr (e : TypeId)
  | struct (fs : List (Nat × TypeId))
  | array (n : Nat) (e : TypeId)
  | map (k e : TypeId) | func | iface | other

structure Row where
  ds : Ds
  size : Nat
  bytes : Nat
  zero : List Value

structure Lay where
  row : TypeId → Row

def Lay.ds (L : Lay) (t : TypeId) : Ds := (L.row t).ds
def Lay.size (L : Lay) (t : TypeId) : Nat := (L.row t).size
def Lay.bytes (L : Lay) (t : TypeId) : Nat := (L.row t).bytes

variable {S : Sig}

/-- A constant as an abstract value. -/
def ofCell : Value → AV S
  | .bool true => .tt
  | .bool false => .ff
  | .int k n => .int k n
  | .string s => .str s
  | .pointer none => .nilp
  | .slice none 0 0 => .nils
  | .map none => .nilm
  | .nilFunc => .nilf
  | .nilIface => .nili
  | _ => .top
def ofV : Value → AV S
  | .agg cs => .agg (cs.toList.map ofCell)
  | .tuple _ => .top
  | v => ofCell v

def upd (d : Nat) (v : AV S) (fr : Fr S) : Fr S := fun t => match Nat.beq d t with
  | true => v
  | false => fr t

def opd (fr : Fr S) : Operand → AV S
  | .tmp t => fr t
  | .const v => ofV v
  | .global _ => .top
  | .func f => .fn f []

/-- a number brought into the range of its kind -/
@[irreducible] def wr (k : IntKind) (n : Int) : Int := k.wrap n
theorem wr_eq (k : IntKind) (n : Int) : wr k n = k.wrap n := by unfold wr; rfl

/-- A branch. -/
@[irreducible] def Br (b : Bool) (X Y : Prop) : Prop := (b = true → X) ∧ (b = false → Y)

/-- The tables of one program: layouts, carriers, the callees' specifications. -/
structure Ctx (S : Sig) where
  L : Lay
  enc : (e : TypeId) → S.T e → List (AV S)
  dec : (e : TypeId) → List (AV S) → Option (S.T e)
  zero : (e : TypeId) → S.T e
  asLst : TypeId → Bool
  has : TypeId → Bool
  eqT : TypeId → Bool
  isKey : TypeId → Bool
  isVal : TypeId → Bool
  frz : FuncId → List (Nat × TypeId)
  bs : TypeId → Bool := fun _ => false
  opn : TypeId → Nat → Bool := fun _ _ => false

variable (X : Ctx S)

noncomputable def getB (H : AH S) : Nat → Blk S :=
  H.rec (fun _ => .dead) fun b _ ih l => match l with
    | 0 => b
    | l + 1 => ih l

noncomputable def setB (H : AH S) : Nat → Blk S → AH S :=
  H.rec (fun _ _ => []) fun c r ih l b => match l with
    | 0 => b :: r
    | l + 1 => c :: ih l b

noncomputable def nth {α : Type} (l : List α) : Nat → Option α :=
  l.rec (fun _ => none) fun a _ ih i => match i with
    | 0 => some a
    | i + 1 => ih i

def castL {e : TypeId} (e' : TypeId) (xs : List (S.T e)) : Option (List (S.T e')) :=
  if h : e = e' then some (h ▸ xs) else none

/-- What an operation comes to: an obligation, a value, a heap. -/
structure Res (S : Sig) where
  ob : Option Prop
  v : AV S
  H : AH S

/-- What a slice value holds, as a list of elements of type e; what is owed for it. -/
noncomputable def rowsOf (H : AH S) (e : TypeId) : AV S → Option (Prop × List (S.T e))
  | .nils => some (True, [])
  | .emp => some (True, [])
  | .imm e' xs => match castL e xs with | some ys => some (True, ys) | none => none
  | .slc l off len _ => match getB H l with
    | .lst e' xs => match castL e xs with | some ys => some (off + len ≤ ys.length, (ys.drop off).take len) | none => none
    | _ => none
  | _ => none

def isAggD : Ds → Bool
  | .struct _ => true
  | .array _ _ => true
  | _ => false

def cellsOf : AV S → List (AV S)
  | .agg cs => cs
  | v => [v]

def isOther : Ds → Bool
  | .other => true
  | _ => false

def loadIn (t : TypeId) (cs : List (AV S)) (sub : Nat) : Option (AV S) :=
  match isAggD (X.L.ds t) with
  | true => match Nat.ble (sub + X.L.size t) cs.length && Nat.blt 0 (X.L.size t) with
    | true => some (.agg ((cs.drop sub).take (X.L.size t)))
    | false => none
  | false => match isOther (X.L.ds t) with
    | true => none
    | false => match cs.drop sub with
      | v :: _ => some v
      | [] => none

/-- 'load' at type t. -/
noncomputable def aload (t : TypeId) (H : AH S) (a : AV S) : Option (Res S) :=
  match a with
  | .ptr l row sub => match getB H l with
    | .cells cs => match Nat.beq row 0 with
      | true => match loadIn X t cs sub with
        | some v => some ⟨none, v, H⟩
        | none => none
      | false => none
    | .lst e xs => match loadIn X t (X.enc e (xs.getD row (X.zero e))) sub with
      | some v => some ⟨some (row < xs.length), v, H⟩
      | none => none
    | .lsto e xs row' sub' v => match isAggD (X.L.ds t) || isOther (X.L.ds t) with
      | true => none
      | false => match Nat.beq sub sub' with
        | true => some ⟨some (row = row'), v, H⟩
        | false => match loadIn X t (X.enc e (xs.getD row (X.zero e))) sub with
          | some v => some ⟨some (row < xs.length), v, H⟩
          | none => none
    | _ => none
  | .ip cs sub => match loadIn X t cs sub with
    | some v => some ⟨none, v, H⟩
    | none => none
  | _ => none

/-- Put cells over others. -/
def over (cs : List (AV S)) (sub : Nat) (vs : List (AV S)) : List (AV S) :=
  cs.take sub ++ vs ++ cs.drop (sub + vs.length)

/-- Slices of the call's own that are laid into a typed row become immutable. -/
noncomputable def freezeL (H : AH S) (vs : List (AV S)) : Option (Prop × List (AV S) × AH S) :=
  match vs with
  | [] => some (True, [], H)
  | v :: r => match v with
    | .slc l off len _ => match getB H l with
      | .lst e xs => match freezeL (setB H l .dead) r with
        | some (p, r', H') => some (off + len ≤ xs.length ∧ p, .imm e ((xs.drop off).take len) :: r', H')
        | none => none
      | _ => none
    | v => match freezeL H r with
      | some (p, r', H') => some (p, v :: r', H')
      | none => none

/-- a value that fits into one cell -/
def one : AV S → Bool
  | .top => false
  | .agg _ => false
  | .tup _ => false
  | _ => true
def allOne : List (AV S) → Bool
  | [] => true
  | v :: r => one v && allOne r

/-- a slice of the call's own -/
def isSlc : AV S → Bool
  | .slc _ _ _ _ => true
  | _ => false
/-- 'store' at type t. -/
noncomputable def astore (t : TypeId) (H : AH S) (a v : AV S) : Option (Res S) :=
  match a with
  | .ptr l row sub => match getB H l with
    | .cells cs =>
      match Nat.beq row 0 && Nat.beq (cellsOf v).length (X.L.size t) && Nat.ble (sub + X.L.size t) cs.length && allOne (cellsOf v) && Nat.blt 0 (X.L.size t) with
      | true => some ⟨none, .top, setB H l (.cells (over cs sub (cellsOf v)))⟩
      | false => none
    | .lst e0 xs0 => match X.opn e0 sub && isSlc v with
      | true => match Nat.beq 1 (X.L.size t) && Nat.blt sub (X.L.size e0) with
        | true => some ⟨some (row < xs0.length), .top, setB H l (.lsto e0 xs0 row sub v)⟩
        | false => none
      | false => match freezeL H (cellsOf v) with
        | some (p, vs, H') =>
          match getB H' l with
          | .lst e xs =>
            match Nat.beq vs.length (X.L.size t) && Nat.ble (sub + X.L.size t) (X.L.size e) && allOne vs && Nat.blt 0 (X.L.size t) with
            | true => match X.dec e (over (X.enc e (xs.getD row (X.zero e))) sub vs) with
              | some y => some ⟨some (p ∧ row < xs.length), .top, setB H' l (.lst e (xs.set row y))⟩
              | none => none
            | false => none
          | _ => none
        | none => none
    | _ => none
  | _ => none

noncomputable def afieldAddr (s : TypeId) (a : AV S) (f : Nat) : Option (AV S) :=
  match X.L.ds s with
  | .struct fs => match nth fs f with
    | some (off, ft) => match Nat.beq (X.L.size ft) 0 with
      | true => none
      | false => match a with
        | .ptr l row sub => some (.ptr l row (sub + off))
        | .ip cs sub => some (.ip cs (sub + off))
        | _ => none
    | none => none
  | _ => none

noncomputable def aindexAddr (t : TypeId) (H : AH S) (x i : AV S) : Option (Res S) :=
  match i with
  | .int _ i => match X.L.ds t with
    | .slice e => match Nat.blt 0 (X.L.size e) with
     | false => none
     | true => match x with
      | .slc l off len _ => match getB H l with
        | .lst e' _ => match Nat.beq e e' with
          | true => some ⟨some (0 ≤ i ∧ i < (len : Int)), .ptr l (off + i.toNat) 0, H⟩
          | false => none
        | .lsto e' _ _ _ _ => match Nat.beq e e' with
          | true => some ⟨some (0 ≤ i ∧ i < (len : Int)), .ptr l (off + i.toNat) 0, H⟩
          | false => none
        | _ => none
      | .imm e' xs => match Nat.beq e e' with
        | true => some ⟨some (0 ≤ i ∧ i < (xs.length : Int)), .ip (X.enc e' (xs.getD i.toNat (X.zero e'))) 0, H⟩
        | false => none
      | _ => none
    | .array n e => match Nat.blt 0 (X.L.size e) with
     | false => none
     | true => match x with
      | .ptr l row sub => match getB H l with
        | .lst e' _ => match Nat.beq e e' && Nat.beq row 0 && Nat.beq sub 0 with
          | true => some ⟨some (0 ≤ i ∧ i < (n : Int)), .ptr l i.toNat 0, H⟩
          | false => none
        | .cells _ => some ⟨some (0 ≤ i ∧ i < (n : Int)), .ptr l row (sub + i.toNat * X.L.size e), H⟩
        | _ => none
      | _ => none
    | _ => none
  | _ => none

noncomputable def afield (t : TypeId) (x : AV S) (f : Nat) : Option (AV S) :=
  match X.L.ds t with
  | .struct fs => match nth fs f with
    | some (off, ft) => match x with
      | .agg cs => loadIn X ft cs off
      | _ => none
    | none => none
  | _ => none

noncomputable def aindex (t : TypeId) (x i : AV S) (H : AH S) : Option (Res S) :=
  match i with
  | .int _ i => match X.L.ds t with
    | .str => match x with
      | .str s => some ⟨some (0 ≤ i ∧ i < (s.size : Int)), .int .u8 ((s.data.toList.getD i.toNat 0).toNat : Int), H⟩
      | _ => none
    | .array n e => match x with
      | .agg cs => match loadIn X e cs (i.toNat * X.L.size e) with
        | some v => match Nat.blt 0 (X.L.size e) with
          | true => some ⟨some (0 ≤ i ∧ i < (n : Int)), v, H⟩
          | false => none
        | none => none
      | _ => none
    | _ => none
  | _ => none

/-- a value all of which is known -/
def whole : AV S → Bool
  | .top => false
  | .tup _ => false
  | _ => true

/-- a struct's or an array's parts laid over its zero cells -/
def fillA (place : Nat → Option (Nat × Nat)) (cs : List (AV S)) : List (Nat × AV S) → Option (List (AV S))
  | [] => some cs
  | (i, v) :: r => match place i with
    | none => none
    | some (off, size) => match Nat.beq (cellsOf v).length size && Nat.ble (off + size) cs.length && whole v with
      | true => fillA place (over cs off (cellsOf v)) r
      | false => none

def zeroCells (t : TypeId) : List (AV S) := (X.L.row t).zero.map ofCell

noncomputable def abuild (t : TypeId) (parts : List (Nat × AV S)) : Option (AV S) :=
  match Nat.blt 0 (X.L.size t) && Nat.beq (zeroCells X t).length (X.L.size t) with
  | false => none
  | true => match X.L.ds t with
    | .struct fs => match fillA (fun i => (nth fs i).map fun p => (p.1, X.L.size p.2)) (zeroCells X t) parts with
      | some cs => some (.agg cs)
      | none => none
    | .array _ e => match Nat.blt 0 (X.L.size e) with
      | true => match fillA (fun i => some (i * X.L.size e, X.L.size e)) (zeroCells X t) parts with
        | some cs => some (.agg cs)
        | none => none
      | false => none
    | _ => none

def decAll (e : TypeId) (w : Nat) : Nat → List (AV S) → Option (List (S.T e))
  | 0, _ => some []
  | n + 1, cs => match X.dec e (cs.take w) with
    | some y => match decAll e w n (cs.drop w) with
      | some ys => some (y :: ys)
      | none => none
    | none => none

def reps (n : Nat) (cs : List (AV S)) : List (AV S) :=
  match n with
  | 0 => []
  | n + 1 => cs ++ reps n cs

noncomputable def abuildSlice (t : TypeId) (len : Nat) (parts : List (Nat × AV S)) (H : AH S) : Option (Res S) :=
  match X.L.ds t with
  | .slice e =>
    match fillA (fun i => some (i * X.L.size e, X.L.size e)) (reps len (zeroCells X e)) parts with
    | some cs => match freezeL H cs with
      | some (p, cs, H) => match decAll X e (X.L.size e) len cs with
        | some xs => match Nat.ble (len * X.L.size e) 16777216 && Nat.blt 0 (X.L.size e) && Nat.beq (zeroCells X e).length (X.L.size e) with
          | true => some ⟨some p, .slc H.length 0 len false, H ++ [.lst e xs]⟩
          | false => none
        | none => none
      | none => none
    | none => none
  | _ => none

/-- a written-out list of slices, at once immutable -/
noncomputable def abuildImm (t : TypeId) (len : Nat) (parts : List (Nat × AV S)) : Option (AV S) :=
  match X.L.ds t with
  | .slice e =>
    match fillA (fun i => some (i * X.L.size e, X.L.size e)) (reps len (zeroCells X e)) parts with
    | some cs => match decAll X e (X.L.size e) len cs with
      | some xs => match Nat.ble (len * X.L.size e) 16777216 && Nat.blt 0 (X.L.size e) && Nat.beq (zeroCells X e).length (X.L.size e) with
        | true => some (.imm e xs)
        | false => none
      | none => none
    | none => none
  | _ => none

def maxBytes : Nat := 140737488355328
def maxInt : Nat := 9223372036854775807

def amake (t : TypeId) (len cap : AV S) (H : AH S) : Option (Res S) :=
  match X.L.ds t, len, cap with
  | .slice e, .int .i64 n, .int .i64 c =>
    match Nat.blt 0 (X.L.size e) && X.has e with
    | true => some ⟨some (0 ≤ n ∧ n ≤ c ∧ c * X.L.bytes e ≤ maxBytes ∧ c ≤ maxInt), .slc H.length 0 n.toNat false, H ++ [.lst e (List.replicate n.toNat (X.zero e))]⟩
    | false => none
  | _, _, _ => none

noncomputable def aappend (t t' : TypeId) (s x : AV S) (H : AH S) : Option (Res S) :=
  match X.L.ds t with
  | .slice e => match Nat.beq t t' && Nat.blt 0 (X.L.size e) with
    | true => match rowsOf H e x with
      | some (p, ys) =>
        match s with
        | .slc l off len cl => match getB H l with
          | .lst e' xs => match castL e xs with
            | some xs =>
              match cl && Nat.beq len 0 with
              | true => some ⟨some (p ∧ ys.length * X.L.bytes e ≤ maxBytes ∧ ys.length ≤ maxInt), .slc H.length 0 ys.length false, H ++ [.lst e ys]⟩
              | false => some ⟨some (p ∧ off + len ≤ xs.length ∧ (len + ys.length) * X.L.bytes e ≤ maxBytes ∧ len + ys.length ≤ maxInt),
                .slc H.length 0 (len + ys.length) false, setB H l .dead ++ [.lst e ((xs.drop off).take len ++ ys)]⟩
            | none => none
          | _ => none
        | .nils => some ⟨some (p ∧ ys.length * X.L.bytes e ≤ maxBytes ∧ ys.length ≤ maxInt), .slc H.length 0 ys.length false, H ++ [.lst e ys]⟩
        | .emp => some ⟨some (p ∧ ys.length * X.L.bytes e ≤ maxBytes ∧ ys.length ≤ maxInt), .slc H.length 0 ys.length false, H ++ [.lst e ys]⟩
        | _ => none
      | none => none
    | false => none
  | _ => none

/-- a slice's or a string's end, given or not -/
def endOf (d : Nat) : Option (AV S) → Option Int
  | none => some d
  | some (.int _ i) => some i
  | some _ => none
def isGiven : Option (AV S) → Bool
  | none => false
  | some _ => true

noncomputable def aslice (t : TypeId) (x : AV S) (lo hi mx : Option (AV S)) (H : AH S) : Option (Res S) :=
  match x with
  | .str s => match X.L.ds t with
    | .str => match endOf 0 lo, endOf s.size hi, mx with
      | some l, some h, none => some ⟨some (0 ≤ l ∧ l ≤ h ∧ h ≤ (s.size : Int)), .str (s.extract l.toNat h.toNat), H⟩
      | _, _, _ => none
    | _ => none
  | .slc b off len cl => match X.L.ds t with
    | .slice e => match Nat.blt 0 (X.L.size e) with
      | true => match getB H b with
        | .lst e' _ => match Nat.beq e e' with
          | true => match endOf 0 lo, endOf len hi with
            | some l, some h => match mx with
              | none => some ⟨some (0 ≤ l ∧ l ≤ h ∧ h ≤ (len : Int)), .slc b (off + l.toNat) (h.toNat - l.toNat) (match isGiven hi with | false => cl | true => false), H⟩
              | some (.int _ m) => match isGiven hi with
                | true => some ⟨some (0 ≤ l ∧ l ≤ h ∧ h = m ∧ m ≤ (len : Int)), .slc b (off + l.toNat) (h.toNat - l.toNat) true, H⟩
                | false => none
              | some _ => none
            | _, _ => none
          | false => none
        | _ => none
      | false => none
    | _ => none
  | .imm e' xs => match X.L.ds t with
    | .slice e => match Nat.blt 0 (X.L.size e) && Nat.beq e e' with
      | true => match endOf 0 lo, endOf xs.length hi with
        | some l, some h => match mx with
          | none => some ⟨some (0 ≤ l ∧ l ≤ h ∧ h ≤ (xs.length : Int)), .imm e' ((xs.take h.toNat).drop l.toNat), H⟩
          | some (.int _ m) => match isGiven hi with
            | true => some ⟨some (l = 0 ∧ h = 0 ∧ m = 0), .emp, H⟩
            | false => none
          | some _ => none
        | _, _ => none
      | false => none
    | _ => none
  | _ => none

/-- known bools are told as such -/
def isB : AV S → Bool
  | .tt => true
  | .ff => true
  | .bool _ => true
  | _ => false
def valB : AV S → Bool
  | .tt => true
  | .bool b => b
  | _ => false

def oB : AV S → Option Bool
  | .tt => some true
  | .ff => some false
  | .bool b => some b
  | _ => none
def oB2 (a b : AV S) : Option (Bool × Bool) :=
  match oB a with
  | some x => match oB b with
    | some y => some (x, y)
    | none => none
  | none => none
theorem oB_spec {a : AV S} {x : Bool} (h : oB a = some x) : isB a = true ∧ valB a = x := by
  cases a <;> simp [oB] at h <;> subst h <;> exact ⟨rfl, rfl⟩
theorem oB2_spec {a b : AV S} {x y : Bool} (h : oB2 a b = some (x, y)) : (isB a = true ∧ valB a = x) ∧ isB b = true ∧ valB b = y := by
  unfold oB2 at h
  split at h
  · rename_i x' hx
    split at h
    · rename_i y' hy
      injection h with h; injection h with h1 h2
      subst h1; subst h2
      exact ⟨oB_spec hx, oB_spec hy⟩
    · cases h
  · cases h

/-- '==' of cells: whole numbers, bools, strings. -/
def eqCells : List (AV S) → List (AV S) → Option Bool
  | [], [] => some true
  | .int k a :: r, .int k' b :: s => match decide (k = k') with
    | true => (eqCells r s).map fun c => (a == b) && c
    | false => none
  | .str a :: r, .str b :: s => (eqCells r s).map fun c => (a == b) && c
  | u :: r, v :: s => match isB u && isB v with
    | true => (eqCells r s).map fun c => (valB u == valB v) && c
    | false => none
  | _, _ => none

def aeqPtr (x y : AV S) : Option (AV S) :=
  match x with
  | .nilp => match y with
    | .nilp => some .tt
    | .ptr _ _ _ => some .ff
    | .ip _ _ => some .ff
    | _ => none
  | .ptr _ _ _ => match y with
    | .nilp => some .ff
    | _ => none
  | .ip _ _ => match y with
    | .nilp => some .ff
    | _ => none
  | _ => none

def aeq (t : TypeId) (x y : AV S) : Option (AV S) :=
  match X.L.ds t with
  | .bool => match oB2 x y with
    | some (a, b) => some (.bool (a == b))
    | none => none
  | .ptr _ => aeqPtr x y
  | .slice _ => match x, y with
    | .nils, .nils => some .tt
    | _, _ => none
  | .struct _ => match x with
    | .agg a => match y with
      | .agg b => match X.eqT t && Nat.beq a.length (X.L.size t) && Nat.beq b.length (X.L.size t) with
        | true => match eqCells a b with
          | some c => some (.bool c)
          | none => none
        | false => none
      | _ => none
    | _ => none
  | _ => none

def notV : AV S → AV S
  | .tt => .ff
  | .ff => .tt
  | .bool b => .bool (!b)
  | v => v

def abin (op : BinOp) (t : TypeId) (x y : AV S) : Option (Option Prop × AV S) :=
  match x with
  | .int k a => match y with
    | .int k' b => match op with
      | .shl => some (some (0 ≤ b), .int k (wr k (a * 2 ^ (min b.toNat k.bits))))
      | .shr => some (some (0 ≤ b), .int k (a.fdiv (2 ^ (min b.toNat k.bits))))
      | op => match decide (k = k') with
        | false => none
        | true => match op with
          | .add => some (none, .int k (wr k (a + b)))
          | .sub => some (none, .int k (wr k (a - b)))
          | .mul => some (none, .int k (wr k (a * b)))
          | .quo => some (some (b ≠ 0), .int k (wr k (a.tdiv b)))
          | .rem => some (some (b ≠ 0), .int k (a.tmod b))
          | .and => some (none, .int k (wr k (BitVec.ofInt k.bits a &&& BitVec.ofInt k.bits b).toNat))
          | .or => some (none, .int k (wr k (BitVec.ofInt k.bits a ||| BitVec.ofInt k.bits b).toNat))
          | .xor => some (none, .int k (wr k (BitVec.ofInt k.bits a ^^^ BitVec.ofInt k.bits b).toNat))
          | .eql => some (none, .bool (a == b))
          | .neq => some (none, .bool (a != b))
          | .lss => some (none, .bool (decide (a < b)))
          | .leq => some (none, .bool (decide (a ≤ b)))
          | .gtr => some (none, .bool (decide (a > b)))
          | .geq => some (none, .bool (decide (a ≥ b)))
          | _ => none
    | _ => none
  | .str a => match y with
    | .str b => match op with
      | .add => some (some (a.size + b.size ≤ maxInt), .str (a ++ b))
      | .eql => some (none, .bool (a.toList == b.toList))
      | .neq => some (none, .bool (!(a.toList == b.toList)))
      | _ => none
    | _ => none
  | x => match op with
    | .eql => match aeq X t x y with | some v => some (none, v) | none => none
    | .neq => match aeq X t x y with | some v => some (none, notV v) | none => none
    | _ => none

def aun (op : UnOp) (x : AV S) : Option (AV S) :=
  match x with
  | .int k n => match op with
    | .neg => some (.int k (wr k (0 - n)))
    | .xor => some (.int k (wr k (BitVec.ofInt k.bits (if k.signed then -1 else k.max) ^^^ BitVec.ofInt k.bits n).toNat))
    | _ => none
  | x => match op with
    | .not => match isB x with
      | true => some (notV x)
      | false => none
    | _ => none

/-- how many elements a slice value has -/
def lenS : AV S → Option Nat
  | .slc _ _ len _ => some len
  | .imm _ xs => some xs.length
  | .nils => some 0
  | .emp => some 0
  | _ => none

/-- 'len' at type t -/
def alen (t : TypeId) (x : AV S) : Option (AV S) :=
  match X.L.ds t with
  | .array n _ => some (.int .i64 n)
  | .str => match x with
    | .str s => some (.int .i64 s.size)
    | _ => none
  | .slice _ => match lenS x with
    | some n => some (.int .i64 n)
    | none => none
  | _ => none

def maxL (k : IntKind) (a : Int) : List (AV S) → Option (AV S)
  | [] => some (.int k a)
  | .int _ b :: r => maxL k (if b > a then b else a) r
  | _ => none
def minL (k : IntKind) (a : Int) : List (AV S) → Option (AV S)
  | [] => some (.int k a)
  | .int _ b :: r => minL k (if b < a then b else a) r
  | _ => none

def aconvert (src dst : TypeId) (x : AV S) : Option (AV S) :=
  match isOther (X.L.ds src) with
  | true => none
  | false => match x with
  | .int _ n => match X.L.ds dst with
    | .int k => some (.int k (wr k n))
    | _ => none
  | .str s => match X.L.ds src, X.L.ds dst with
    | .str, .str => some (.str s)
    | _, _ => none
  | _ => none

/-- a value with the heap as it was -/
def still (H : AH S) : Option (AV S) → Option (Res S)
  | some v => some ⟨none, v, H⟩
  | none => none
def stillOb (H : AH S) : Option (Option Prop × AV S) → Option (Res S)
  | some (p, v) => some ⟨p, v, H⟩
  | none => none

/-- the operations that only compute or read -/
noncomputable def quiet (fr : Fr S) (H : AH S) (op : Op) : Option (Res S) :=
  match op with
  | .move x => some ⟨none, opd fr x, H⟩
  | .assign x => some ⟨none, opd fr x, H⟩
  | .pick c a b => match opd fr c with
    | .tt => some ⟨none, opd fr a, H⟩
    | .ff => some ⟨none, opd fr b, H⟩
    | .bool t => match oB2 (opd fr a) (opd fr b) with
      | some (x, y) => some ⟨none, .bool (bif t then x else y), H⟩
      | none => match t with
        | true => some ⟨none, opd fr a, H⟩
        | false => some ⟨none, opd fr b, H⟩
    | _ => none
  | .build t ps => still H (abuild X t (ps.toList.map fun p => (p.1, opd fr p.2)))
  | .load t a => aload X t H (opd fr a)
  | .nilCheck x => match opd fr x with
    | .ptr l r s => some ⟨none, .ptr l r s, H⟩
    | .ip cs s => some ⟨none, .ip cs s, H⟩
    | _ => none
  | .binOp op t x y _ => stillOb H (abin X op t (opd fr x) (opd fr y))
  | .unOp op _ x => still H (aun op (opd fr x))
  | .convert s d x => still H (aconvert X s d (opd fr x))
  | .makeFunc (.func f) first caps => match first.toList with
    | [] => some ⟨none, .fn f (caps.toList.map (opd fr)), H⟩
    | _ => none
  | .slice t x lo hi mx => aslice X t (opd fr x) (lo.map (opd fr)) (hi.map (opd fr)) (mx.map (opd fr)) H
  | .fieldAddr s x f => still H (afieldAddr X s (opd fr x) f)
  | .field t x f => still H (afield X t (opd fr x) f)
  | .indexAddr t x i => aindexAddr X t H (opd fr x) (opd fr i)
  | .index t x i => aindex X t (opd fr x) (opd fr i) H
  | .extract x i => match opd fr x with
    | .tup vs => still H (nth vs i)
    | _ => none
  | .call { callee := .builtin .len, args, argTypes } => match args.toList.map (opd fr) with
    | [x] => match argTypes.toList with
      | [t] => still H (alen X t x)
      | _ => none
    | _ => none
  | .call { callee := .builtin .max, args, .. } => match args.toList.map (opd fr) with
    | .int k a :: r => still H (maxL k a r)
    | _ => none
  | .call { callee := .builtin .min, args, .. } => match args.toList.map (opd fr) with
    | .int k a :: r => still H (minL k a r)
    | _ => none
  | _ => none

/-- the operations that write or make memory -/
noncomputable def loud (fr : Fr S) (H : AH S) (op : Op) : Option (Res S) :=
  match op with
  | .alloc t => match X.asLst t with
    | true => match X.L.ds t with
      | .array n e => some ⟨none, .ptr H.length 0 0, H ++ [.lst e (List.replicate n (X.zero e))]⟩
      | _ => none
    | false => match Nat.blt 0 (X.L.size t) && Nat.beq (zeroCells X t).length (X.L.size t) with
      | true => some ⟨none, .ptr H.length 0 0, H ++ [.cells (zeroCells X t)]⟩
      | false => none
  | .box _ v => match whole (opd fr v) with
    | true => some ⟨none, .ptr H.length 0 0, H ++ [.cells (cellsOf (opd fr v))]⟩
    | false => none
  | .buildSlice t n ps => match X.bs t with
    | true => none
    | false => abuildSlice X t n (ps.toList.map fun p => (p.1, opd fr p.2)) H
  | .store t a v => astore X t H (opd fr a) (opd fr v)
  | .makeSlice t l c => amake X t (opd fr l) (opd fr c) H
  | .call { callee := .builtin .append, args, argTypes } => match args.toList.map (opd fr) with
    | [s, x] => match argTypes.toList with
      | [t, t'] => aappend X t t' s x H
      | _ => none
    | _ => none
  | _ => none

/-- an element as a value -/
def valOf (e : TypeId) (y : S.T e) : AV S := match isAggD (X.L.ds e) with
  | true => .agg (X.enc e y)
  | false => (X.enc e y).headD .top
def keyV (e : TypeId) (y : S.T e) : AV S := (X.enc e y).headD .top
def sameK : AV S → AV S → Bool
  | .int _ a, .int _ b => a == b
  | .str a, .str b => a == b
  | _, _ => false
/-- what a map holds at a key -/
def mget (k e : TypeId) (key : AV S) : List (S.T k × S.T e) → Option (S.T e)
  | [] => none
  | p :: r => match sameK (keyV X k p.1) key with
    | true => some p.2
    | false => mget k e key r
def mput (k e : TypeId) (key : S.T k) (v : S.T e) : List (S.T k × S.T e) → List (S.T k × S.T e)
  | [] => [(key, v)]
  | p :: r => match sameK (keyV X k p.1) (keyV X k key) with
    | true => (key, v) :: r
    | false => p :: mput k e key v r
def fits (k : TypeId) (key : AV S) : Bool := match X.L.ds k with
  | .int kd => match key with
    | .int kd' _ => decide (kd = kd')
    | _ => false
  | .str => match key with
    | .str _ => true
    | _ => false
  | _ => false
def outM (ok : Bool) (v f : AV S) : AV S := match ok with
  | true => .tup [v, f]
  | false => v
/-- a key in its written form -/
def forceK (v : AV S) (f : AV S → Option (Res S)) : Option (Res S) := match v with
  | .int k n => f (.int k n)
  | .str s => f (.str s)
  | _ => none
theorem forceK_eq {v : AV S} {f : AV S → Option (Res S)} {r : Res S} (h : forceK v f = some r) : f v = some r := by
  cases v <;> first | exact h | cases h
noncomputable def alookup (t : TypeId) (m key : AV S) (ok : Bool) (H : AH S) : Option (Res S) :=
  match X.L.ds t with
  | .map k e => match X.isKey k && X.isVal e && fits X k key with
    | true => match m with
      | .map l => match getB H l with
        | .mp k' e' es => match Nat.beq k k' && Nat.beq e e' with
          | true => some ⟨none, outM ok (valOf X e' ((mget X k' e' key es).getD (X.zero e'))) (.bool (mget X k' e' key es).isSome), H⟩
          | false => none
        | _ => none
      | .nilm => some ⟨none, outM ok (valOf X e (X.zero e)) .ff, H⟩
      | _ => none
    | false => none
  | _ => none
def aggLike (e : TypeId) (v : AV S) : Bool := match isAggD (X.L.ds e) with
  | true => match v with
    | .agg _ => true
    | _ => false
  | false => one v
noncomputable def aupdate (t : TypeId) (m key v : AV S) (H : AH S) : Option (Res S) :=
  match X.L.ds t with
  | .map k e => match X.isKey k && X.isVal e && fits X k key with
    | true => match m with
      | .map l => match getB H l with
        | .mp k' e' es => match Nat.beq k k' && Nat.beq e e' && aggLike X e v with
          | true => match X.dec k' [key], X.dec e' (cellsOf v) with
            | some x, some y => some ⟨none, .top, setB H l (.mp k' e' (mput X k' e' x y es))⟩
            | _, _ => none
          | false => none
        | _ => none
      | _ => none
    | false => none
  | _ => none
noncomputable def alenM (t : TypeId) (x : AV S) (H : AH S) : Option (AV S) :=
  match X.L.ds t with
  | .map _ _ => match x with
    | .map l => match getB H l with
      | .mp _ _ es => some (.int .i64 es.length)
      | _ => none
    | .nilm => some (.int .i64 0)
    | _ => none
  | _ => none
/-- a part of an array variable -/
noncomputable def asliceA (t : TypeId) (x : AV S) (lo hi mx : Option (AV S)) (H : AH S) : Option (Res S) :=
  match X.L.ds t with
  | .array n e => match x with
    | .ptr b row sub => match getB H b with
      | .lst e' xs => match Nat.beq e e' && Nat.beq row 0 && Nat.beq sub 0 && Nat.blt 0 (X.L.size e) with
        | true => match endOf 0 lo, endOf n hi, mx with
          | some l, some h, none => some ⟨some (0 ≤ l ∧ l ≤ h ∧ h ≤ (n : Int) ∧ n ≤ xs.length), .slc b l.toNat (h.toNat - l.toNat) false, H⟩
          | _, _, _ => none
        | false => none
      | _ => none
    | _ => none
  | _ => none
/-- bytes as a string -/
def byteV (e : TypeId) (y : S.T e) : Int := match X.enc e y with
  | .int _ n :: _ => n
  | _ => 0
def strOf (e : TypeId) (ys : List (S.T e)) : ByteArray := ys.foldl (fun r y => r.push (UInt8.ofNat (byteV X e y).toNat)) ByteArray.empty
noncomputable def aconvB (src dst : TypeId) (x : AV S) (H : AH S) : Option (Res S) :=
  match X.L.ds src with
  | .slice e => match X.L.ds e with
    | .int .u8 => match X.L.ds dst with
      | .str => match X.isKey e with
        | true => match x with
          | .slc l off len cl => match rowsOf H e (.slc l off len cl) with
            | some (p, ys) => some ⟨some p, .str (strOf X e ys), H⟩
            | none => none
          | _ => none
        | false => none
      | _ => none
    | _ => none
  | _ => none
def empty0 (t : TypeId) : Bool := X.isVal t && Nat.beq (X.L.size t) 0 && isAggD (X.L.ds t)

/-- further operations that only compute or read -/
noncomputable def quiet2 (fr : Fr S) (H : AH S) (op : Op) : Option (Res S) :=
  match op with
  | .lookup t m k ok => forceK (opd fr k) fun key => alookup X t (opd fr m) key ok H
  | .slice t x lo hi mx => asliceA X t (opd fr x) (lo.map (opd fr)) (hi.map (opd fr)) (mx.map (opd fr)) H
  | .convert s d x => aconvB X s d (opd fr x) H
  | .build t ps => match empty0 X t with
    | true => match ps.toList with
      | [] => match X.L.ds t with
        | .struct _ => some ⟨none, .agg [], H⟩
        | _ => none
      | _ => none
    | false => none
  | .call { callee := .builtin .len, args, argTypes } => match args.toList.map (opd fr) with
    | [x] => match argTypes.toList with
      | [t] => still H (alenM X t x H)
      | _ => none
    | _ => none
  | _ => none
noncomputable def quietAll0 (fr : Fr S) (H : AH S) (op : Op) : Option (Res S) :=
  match quiet X fr H op with
  | some r => some r
  | none => quiet2 X fr H op
/-- the operations that make memory of which nothing but an immutable value is kept -/
noncomputable def semi (fr : Fr S) (H : AH S) (op : Op) : Option (Res S) :=
  match op with
  | .buildSlice t n ps => match X.bs t with
    | true => still H (abuildImm X t n (ps.toList.map fun p => (p.1, opd fr p.2)))
    | false => none
  | _ => none
noncomputable def quietAll (fr : Fr S) (H : AH S) (op : Op) : Option (Res S) :=
  match quietAll0 X fr H op with
  | some r => some r
  | none => semi X fr H op

/-- further operations that write or make memory -/
noncomputable def loud2 (fr : Fr S) (H : AH S) (op : Op) : Option (Res S) :=
  match op with
  | .alloc t => match empty0 X t with
    | true => some ⟨none, .ptr H.length 0 0, H ++ [.cells []]⟩
    | false => none
  | .store t a v => match empty0 X t with
    | true => match opd fr a with
      | .ptr l row _ => match getB H l with
        | .cells _ => match Nat.beq row 0 with
          | true => match opd fr v with
            | .agg [] => some ⟨none, .top, H⟩
            | _ => none
          | false => none
        | _ => none
      | _ => none
    | false => none
  | .makeMap t none => match X.L.ds t with
    | .map k e => some ⟨none, .map H.length, H ++ [.mp k e []]⟩
    | _ => none
  | .mapUpdate t m k v => forceK (opd fr k) fun key => aupdate X t (opd fr m) key (opd fr v) H
  | _ => none
noncomputable def loudAll (fr : Fr S) (H : AH S) (op : Op) : Option (Res S) :=
  match loud X fr H op with
  | some r => some r
  | none => loud2 X fr H op

/-- '==' of a slice and nil: what is known of the answer -/
def nilable : AV S → Option (Bool → Prop)
  | .emp => some fun _ => True
  | .slc _ _ len _ => some fun b => b = true → len = 0
  | .imm _ xs => some fun b => b = true → xs = []
  | _ => none
def isNils : AV S → Bool
  | .nils => true
  | _ => false
def anyB (fr : Fr S) (op : Op) : Option (Bool × (Bool → Prop)) :=
  match op with
  | .binOp op t x y _ => match X.L.ds t with
    | .slice _ => match isNils (opd fr y) with
      | true => match nilable (opd fr x) with
        | some C => match op with
          | .eql => some (true, C)
          | .neq => some (false, C)
          | _ => none
        | none => none
      | false => none
    | _ => none
  | _ => none

/-- a value of other cells -/
def reAgg (v : AV S) (vs : List (AV S)) : AV S := match v with
  | .agg _ => .agg vs
  | _ => vs.headD .top
/-- arguments brought into the form that the callee's types have: slices of the call's own become immutable -/
noncomputable def frzArgs : List (Nat × TypeId) → List (AV S) → AH S → Option (Prop × List (AV S) × AH S)
  | [], as, H => some (True, as, H)
  | (i, t) :: r, as, H => match nth as i with
    | none => none
    | some v => match aggLike X t v with
      | false => none
      | true => match freezeL H (cellsOf v) with
        | none => none
        | some (p, vs, H') => match X.dec t vs with
          | none => none
          | some x => match frzArgs r (as.set i (valOf X t x)) H' with
            | none => none
            | some (q, as', H'') => some (p ∧ q, as', H'')

/-- a call of a function of the program: which, with what -/
def calls (fr : Fr S) (op : Op) : Option (FuncId × List (AV S)) :=
  match op with
  | .call { callee := .value f, args, .. } => match opd fr f with
    | .fn f caps => some (f, args.toList.map (opd fr) ++ caps)
    | _ => none
  | _ => none

/-- a place's number in its written form -/
noncomputable def forceNat {β : Sort _} (l : Nat) (K : Nat → β) : β := Nat.casesOn (motive := fun _ => β) l (K 0) fun m => K (m + 1)
theorem forceNat_eq {β : Sort _} (l : Nat) (K : Nat → β) : forceNat l K = K l := by cases l <;> rfl
/-- FORCING: these do nothing but bring a value, a list, a heap into its written-out form before the next step is taken -/
noncomputable def fv1 (v : AV S) (K : AV S → Prop) : Prop :=
  match v with
  | .top => K .top
  | .tt => K .tt
  | .ff => K .ff
  | .bool b => K (.bool b)
  | .int k n => K (.int k n)
  | .str s => K (.str s)
  | .nilp => K .nilp
  | .ptr l r s => forceNat l fun l => K (.ptr l r s)
  | .ip cs s => K (.ip cs s)
  | .nils => K .nils
  | .emp => K .emp
  | .slc l o n c => forceNat l fun l => K (.slc l o n c)
  | .imm e xs => K (.imm e xs)
  | .nilm => K .nilm
  | .map l => forceNat l fun l => K (.map l)
  | .nilf => K .nilf
  | .fn f cs => K (.fn f cs)
  | .fnb f x cs => K (.fnb f x cs)
  | .nili => K .nili
  | .iface t v => K (.iface t v)
  | .agg cs => K (.agg cs)
  | .tup vs => K (.tup vs)
noncomputable def fl (vs : List (AV S)) : (List (AV S) → Prop) → Prop :=
  vs.rec (fun K => K []) fun v _ ih K => fv1 v fun v' => ih fun r' => K (v' :: r')
noncomputable def fv (v : AV S) (K : AV S → Prop) : Prop :=
  match v with
  | .ip cs s => fl cs fun cs => K (.ip cs s)
  | .fn f cs => fl cs fun cs => K (.fn f cs)
  | .agg cs => fl cs fun cs => K (.agg cs)
  | .tup cs => fl cs fun cs => K (.tup cs)
  | v => fv1 v K
noncomputable def fh (H : AH S) : (AH S → Prop) → Prop :=
  H.rec (fun K => K []) fun b _ ih K => match b with
    | .cells cs => fl cs fun cs => ih fun r => K (.cells cs :: r)
    | .lst e xs => ih fun r => K (.lst e xs :: r)
    | .lsto e xs i j v => fv1 v fun v => ih fun r => K (.lsto e xs i j v :: r)
    | .mp a b es => ih fun r => K (.mp a b es :: r)
    | .dead => ih fun r => K (.dead :: r)

/-- a list of places in its written form -/
noncomputable def forceN {β : Sort _} (ls : List Nat) : (List Nat → β) → β :=
  ls.rec (fun K => K []) fun a _ ih K => forceNat a fun a => ih fun r => K (a :: r)
theorem forceN_eq {β : Sort _} (ls : List Nat) : ∀ K : List Nat → β, forceN ls K = K ls := by
  induction ls with
  | nil => intro K; rfl
  | cons a r ih =>
    intro K
    show forceNat a (fun a => forceN r fun r => K (a :: r)) = _
    rw [forceNat_eq]; exact ih _

/-- the places that a value speaks of -/
def refsL (refs : AV S → List Nat) : List (AV S) → List Nat
  | [] => []
  | v :: r => refs v ++ refsL refs r
def refs : Nat → AV S → List Nat
  | 0, _ => []
  | n + 1, v => match v with
    | .ptr l _ _ => [l]
    | .slc l _ _ _ => [l]
    | .map l => [l]
    | .fn _ cs => refsL (refs n) cs
    | .fnb _ x cs => refs n x ++ refsL (refs n) cs
    | .ip cs _ => refsL (refs n) cs
    | .agg cs => refsL (refs n) cs
    | .tup cs => refsL (refs n) cs
    | .iface _ v => refs n v
    | _ => []

/-- other places for places; a place that has none: the value is forgotten -/
def renL (ren : AV S → AV S) : List (AV S) → List (AV S)
  | [] => []
  | v :: r => ren v :: renL ren r
def ren (f : Nat → Option Nat) : Nat → AV S → AV S
  | 0, _ => .top
  | n + 1, v => match v with
    | .ptr l r s => match f l with
      | some m => .ptr m r s
      | none => .top
    | .slc l o k c => match f l with
      | some m => .slc m o k c
      | none => .top
    | .map l => match f l with
      | some m => .map m
      | none => .top
    | .fn g cs => .fn g (renL (ren f n) cs)
    | .fnb g x cs => .fnb g (ren f n x) (renL (ren f n) cs)
    | .ip cs s => .ip (renL (ren f n) cs) s
    | .agg cs => .agg (renL (ren f n) cs)
    | .tup cs => .tup (renL (ren f n) cs)
    | .iface t v => .iface t (ren f n v)
    | .tt => .bool true
    | .ff => .bool false
    | v => v
/-- how deep values are looked into -/
def deep : Nat := 8

def renB (f : Nat → Option Nat) : Blk S → Blk S
  | .cells cs => .cells (renL (ren f deep) cs)
  | .lsto e xs i j v => .lsto e xs i j (ren f deep v)
  | b => b

def memN (l : Nat) : List Nat → Bool
  | [] => false
  | m :: r => match Nat.beq m l with
    | true => true
    | false => memN l r

def idxN (l : Nat) (i : Nat) : List Nat → Option Nat
  | [] => none
  | m :: r => match Nat.beq m l with
    | true => some i
    | false => idxN l (i + 1) r

def refsB : Blk S → List Nat
  | .cells cs => refsL (refs deep) cs
  | .lsto _ _ _ _ v => refs deep v
  | _ => []

def isDead : Blk S → Bool
  | .dead => true
  | _ => false

/-- the living places that are met from some places on, in breadth -/
noncomputable def reach (H : AH S) : Nat → List Nat → List Nat → List Nat
  | 0, _, done => done
  | _, [], done => done
  | n + 1, l :: todo, done => match memN l done || isDead (getB H l) with
    | true => reach H n todo done
    | false => reach H n (todo ++ refsB (getB H l)) (done ++ [l])

/-- slices in the cells of the first blocks: they move -/
def slcsL : List (AV S) → List Nat
  | [] => []
  | .slc l _ _ _ :: r => l :: slcsL r
  | _ :: r => slcsL r
def movers : AH S → List Nat
  | [] => []
  | .cells cs :: r => slcsL cs ++ movers r
  | .lsto _ _ _ _ v :: r => slcsL [v] ++ movers r
  | _ :: r => movers r

/-- the places from k on, and the first ones that move, in a new order: first those that the first k blocks speak of, then those that the values speak of -/
noncomputable def order (kp : Bool) (k : Nat) (H : AH S) (vs : List (AV S)) : List Nat :=
  (reach H 200 ((H.take k).flatMap refsB ++ refsL (refs deep) vs) []).filter fun l => !(Nat.blt l k && (match kp with | true => true | false => !memN l (movers (H.take k))))

def place (k : Nat) (ls : List Nat) (l : Nat) : Option Nat :=
  match idxN l k ls with
  | some p => some p
  | none => match Nat.blt l k with
    | true => some l
    | false => none

def heads (f : Nat → Option Nat) (ls : List Nat) : Nat → Nat → AH S → AH S
  | 0, _, _ => []
  | _, _, [] => []
  | k + 1, l, b :: r => (match memN l ls with | true => .dead | false => renB f b) :: heads f ls k (l + 1) r

noncomputable def canonH (k : Nat) (ls : List Nat) (H : AH S) : AH S :=
  heads (place k ls) ls k 0 H ++ ls.map fun l => renB (place k ls) (getB H l)

/-- what is done to a state before it is told: a nil slice becomes an empty list (in a slot; in a cell); a slice of the call's own becomes immutable (in a slot; in a cell) -/
inductive Mat
  | slot (t e : Nat)
  | cell (l j e : Nat)
  | frz (t : Nat)
  | frzc (l j : Nat)
  | close (l : Nat)
  | keep
/-- the first places stay where they are -/
def keeps : List Mat → Bool
  | [] => false
  | m :: r => match m with
    | .keep => true
    | _ => keeps r

noncomputable def matOne (fr : Fr S) (H : AH S) : Mat → Prop × Fr S × AH S
  | .slot t e => match fr t with
    | .nils => (True, upd t (.slc H.length 0 0 false) fr, H ++ [.lst e []])
    | _ => (True, fr, H)
  | .cell l j e => match getB H l with
    | .cells cs => match nth cs j with
      | some .nils => (True, fr, setB (H ++ [.lst e []]) l (.cells (over cs j [.slc H.length 0 0 false])))
      | _ => (True, fr, H)
    | _ => (True, fr, H)
  | .frz t => match freezeL H (cellsOf (fr t)) with
    | some (p, vs, H') => (p, upd t (reAgg (fr t) vs) fr, H')
    | none => (True, fr, H)
  | .frzc l j => match getB H l with
    | .cells cs => match nth cs j with
      | some v => match freezeL H [v] with
        | some (p, vs, H') => match getB H' l with
          | .cells cs' => (p, fr, setB H' l (.cells (over cs' j vs)))
          | _ => (True, fr, H)
        | none => (True, fr, H)
      | none => (True, fr, H)
    | _ => (True, fr, H)
  | .close l => match getB H l with
    | .lsto _ _ _ _ v => match freezeL H [v] with
      | some (p, vs, H') => match getB H' l with
        | .lsto e xs row sub _ => match X.dec e (over (X.enc e (xs.getD row (X.zero e))) sub vs) with
          | some y => (p, fr, setB H' l (.lst e (xs.set row y)))
          | none => (True, fr, H)
        | _ => (True, fr, H)
      | none => (True, fr, H)
    | _ => (True, fr, H)
  | .keep => (True, fr, H)
noncomputable def mats (fr : Fr S) (H : AH S) : List Mat → Prop × Fr S × AH S
  | [] => (True, fr, H)
  | m :: r => ((matOne X fr H m).1 ∧ (mats (matOne X fr H m).2.1 (matOne X fr H m).2.2 r).1, (mats (matOne X fr H m).2.1 (matOne X fr H m).2.2 r).2)

/-- a frame out of its slots -/
def frameOf (l : List (Nat × AV S)) : Fr S :=
  match l with
  | [] => fun _ => .top
  | (t, v) :: r => upd t v (frameOf r)

/-- a frame and a heap brought into the form of a loop's head -/
noncomputable def canon (k : Nat) (live : List Nat) (ms : List Mat) (fr : Fr S) (H : AH S) : Fr S × AH S :=
  forceN (order (keeps ms) k (mats X fr H ms).2.2 (live.map (mats X fr H ms).2.1)) fun ls =>
    (frameOf (live.map fun t => (t, ren (place k ls) deep ((mats X fr H ms).2.1 t))), canonH k ls (mats X fr H ms).2.2)

/-- a call in its own part of the heap -/
noncomputable def sub (H : AH S) (args : List (AV S)) : List Nat := reach H 200 (refsL (refs deep) args) []
noncomputable def back (ls : List Nat) (n : Nat) (j : Nat) : Option Nat :=
  match nth ls j with
  | some l => some l
  | none => some (n + (j - ls.length))
noncomputable def putBack (f : Nat → Option Nat) : List Nat → AH S → AH S → AH S
  | [], _, H => H
  | _, [], H => H
  | l :: ls, b :: bs, H => putBack f ls bs (setB H l (renB f b))

/-- what is said of a function: of what it takes and of what it hands back -/
abbrev Spec (S : Sig) := List (AV S) → AH S → (AV S → AH S → Prop) → Prop

noncomputable def apart (spec : Spec S) (args : List (AV S)) (H : AH S) (K : AV S → AH S → Prop) : Prop :=
  forceN (sub H args) fun ls => spec (args.map (ren (fun l => idxN l 0 ls) deep)) (ls.map fun l => renB (fun l => idxN l 0 ls) (getB H l)) fun v H' =>
    K (ren (back ls H.length) deep v) (putBack (back ls H.length) ls H' H ++ (H'.drop ls.length).map (renB (back ls H.length)))

/-- what is left to do -/
inductive It (S : Sig) : Type
  | ops (all rest : List Oper)
  | code (c : Code)
  | blk (id : Nat)
  | lpEnd (live : List Nat) (ms : List Mat) (I : Fr S × AH S → Prop)

def popTo (id : Nat) : List (It S) → Option (List (It S))
  | [] => none
  | .blk j :: r => match Nat.beq j id with
    | true => some r
    | false => popTo id r
  | _ :: r => popTo id r

/-- the slot of an operation -/
noncomputable def dstOf (ops : List Oper) (j : Nat) : Option Nat :=
  match nth ops j with
  | some o => o.dst
  | none => none

/-- a value comes into its slot -/
def land (dst : Option Nat) (v : AV S) (fr : Fr S) (H : AH S) (next : Fr S → AH S → Prop) : Prop :=
  match dst with
  | some d => next (upd d v fr) H
  | none => next fr H
def owed (ob : Option Prop) (rest : Prop) : Prop :=
  match ob with
  | none => rest
  | some p => p ∧ rest

/-- one operation: its value, the heap behind it -/
noncomputable def stepV (Γ : FuncId → Spec S) (fr : Fr S) (H : AH S) (op : Op) (K : AV S → AH S → Prop) : Prop :=
  match quietAll X fr H op with
  | some r => fv r.v fun v => owed r.ob (K v H)
  | none => match loudAll X fr H op with
    | some r => fv r.v fun v => fh r.H fun H' => owed r.ob (K v H')
    | none => match calls fr op with
      | some (f, as) => match X.frz f with
        | [] => fl as fun as => apart (Γ f) as H fun v H' => fv v fun v => fh H' fun H' => K v H'
        | i :: r => match frzArgs X (i :: r) as H with
          | some (p, as, H) => p ∧ fl as fun as => apart (Γ f) as H fun v H' => fv v fun v => fh H' fun H' => K v H'
          | none => False
      | none => match anyB X fr op with
        | some (s, C) => ∀ b, C b → K (.bool (b == s)) H
        | none => False
/-- one operation, then what follows -/
noncomputable def stepOp (Γ : FuncId → Spec S) (fr : Fr S) (H : AH S) (o : Oper) (next : Fr S → AH S → Prop) : Prop :=
  stepV X Γ fr H o.op fun v H' => land o.dst v fr H' next

/-- an operation under its guard -/
noncomputable def guarded (all : List Oper) (o : Oper) (fr : Fr S) (E F : Prop) : Prop :=
  match o.guard with
  | none => E
  | some (j, want) => match dstOf all j with
    | none => False
    | some s => match fr s with
      | .tup _ => F
      | .tt => match want with
        | true => E
        | false => F
      | .ff => match want with
        | false => E
        | true => F
      | .bool b => match want with
        | true => Br b E F
        | false => Br b F E
      | _ => False
/-- what was read is read again, and must be what it was -/
noncomputable def recheck (all : List Oper) : List Nat → Fr S → AH S → Prop → Prop
  | [], _, _, P => P
  | j :: js, fr, H, P => match nth all j with
    | none => False
    | some o => match o.dst with
      | none => False
      | some d => guarded all o fr (match quietAll X fr H o.op with
        | some r => owed r.ob (r.v = fr d ∧ recheck all js fr H P)
        | none => False) (recheck all js fr H P)

/-- a truth value that is new gets a name -/
def landB (op : Op) (dst : Option Nat) (v : AV S) (fr : Fr S) (H : AH S) (next : Fr S → AH S → Prop) : Prop :=
  match op with
  | .move _ | .assign _ | .pick _ _ _ | .unOp _ _ _ => land dst v fr H next
  | _ => match v with
    | .bool e => ∀ b, e = b → land dst (.bool b) fr H next
    | v => land dst v fr H next
/-- the operations of a region in a given order; guards do not say more of their slots -/
noncomputable def runO (Γ : FuncId → Spec S) (all : List Oper) (K : Fr S → AH S → Prop) : List (Nat × List Nat) → Fr S → AH S → Prop
  | [], fr, H => K fr H
  | (i, chk) :: r, fr, H => match nth all i with
    | none => False
    | some o => guarded all o fr (stepV X Γ fr H o.op fun v H => landB o.op o.dst v fr H fun fr H => recheck X all chk fr H (runO Γ all K r fr H)) (land o.dst (.tup []) fr H fun fr H => runO Γ all K r fr H)

noncomputable def run (Γ : FuncId → Spec S) (ord : Nat → List (Nat × List Nat)) (k : Nat) (Q : Fr S → AH S → Prop) : Nat → List (It S) → Fr S → AH S → Prop
  | 0, _, _, _ => False
  | n + 1, items, fr, H => match items with
    | [] => Q fr H
    | .blk _ :: ks => run Γ ord k Q n ks fr H
    | .lpEnd live ms I :: _ => (mats X fr H ms).1 ∧ I (canon X k live ms fr H)
    | .ops all rest :: ks => match rest with
      | [] => run Γ ord k Q n ks fr H
      | o :: r => match o.guard with
        | none => stepOp X Γ fr H o fun fr H => run Γ ord k Q n (.ops all r :: ks) fr H
        | some (j, want) => match dstOf all j with
          | none => False
          | some s => match fr s with
            | .tt => match want with
              | true => stepOp X Γ fr H o fun fr H => run Γ ord k Q n (.ops all r :: ks) fr H
              | false => land o.dst (.tup []) fr H fun fr H => run Γ ord k Q n (.ops all r :: ks) fr H
            | .ff => match want with
              | true => land o.dst (.tup []) fr H fun fr H => run Γ ord k Q n (.ops all r :: ks) fr H
              | false => stepOp X Γ fr H o fun fr H => run Γ ord k Q n (.ops all r :: ks) fr H
            | .tup _ => land o.dst (.tup []) fr H fun fr H => run Γ ord k Q n (.ops all r :: ks) fr H
            | .bool b => Br b (run Γ ord k Q n (.ops all (o :: r) :: ks) (upd s .tt fr) H) (run Γ ord k Q n (.ops all (o :: r) :: ks) (upd s .ff fr) H)
            | _ => False
    | .code c :: ks => match c with
      | .skip => run Γ ord k Q n ks fr H
      | .label _ => run Γ ord k Q n ks fr H
      | .region id ops _ => match ord id with
        | [] => run Γ ord k Q n (.ops ops.toList ops.toList :: ks) fr H
        | i :: r => runO X Γ ops.toList (fun fr H => run Γ ord k Q n ks fr H) (i :: r) fr H
      | .seq a b => run Γ ord k Q n (.code a :: .code b :: ks) fr H
      | .cond c a b => match opd fr c with
        | .tt => run Γ ord k Q n (.code a :: ks) fr H
        | .ff => run Γ ord k Q n (.code b :: ks) fr H
        | .bool t => match c with
          | .tmp s => Br t (run Γ ord k Q n (.code a :: ks) (upd s .tt fr) H) (run Γ ord k Q n (.code b :: ks) (upd s .ff fr) H)
          | _ => False
        | _ => False
      | .block id c => run Γ ord k Q n (.code c :: .blk id :: ks) fr H
      | .exit id => match popTo id ks with
        | some ks' => run Γ ord k Q n ks' fr H
        | none => False
      | .ret => Q fr H
      | .loop c => ∃ (live : List Nat) (ms : List Mat) (α : Type) (shape : α → Fr S × AH S) (Inv : α → Prop) (μ : α → Nat),
        ((mats X fr H ms).1 ∧ ∃ a, canon X k live ms fr H = shape a ∧ Inv a) ∧
        ∀ a, Inv a → run Γ ord k Q n (.code c :: .lpEnd live ms (fun s => ∃ b, s = shape b ∧ Inv b ∧ μ b < μ a) :: ks) (shape a).1 (shape a).2
      | _ => False

/-- the frame in which a body begins -/
noncomputable def frame0 (args : List (AV S)) : Nat → (Fr S → Prop) → Prop :=
  args.rec (fun _ K => K fun _ => .top) fun v _ ih i K => fv v fun v => ih (i + 1) fun fr => K (upd i v fr)

noncomputable def resultsOf (fr : Fr S) (H : AH S) : List ResultVar → Option (List (AV S))
  | [] => some []
  | .tmp t :: r => match resultsOf fr H r with
    | some vs => some (fr t :: vs)
    | none => none
  | .cell a t :: r => match aload X t H (fr a) with
    | some x => match x.ob with
      | none => match resultsOf fr H r with
        | some vs => some (x.v :: vs)
        | none => none
      | some _ => none
    | none => none

def tupled : List (AV S) → AV S
  | [v] => v
  | vs => .tup vs

/-- what a body hands back -/
noncomputable def finish (fn : Func) (kp : Bool) (k : Nat) (K : AV S → AH S → Prop) (fr : Fr S) (H' : AH S) : Prop :=
  match resultsOf X fr H' fn.results.toList with
  | some vs => forceN (order kp k H' [tupled vs]) fun ls => K (ren (place k ls) deep (tupled vs)) (canonH k ls H')
  | none => False

/-- a function's body, and what it hands back (nil slices among the results may be told as lists); orders of some regions are given -/
noncomputable def abodyO (Γ : FuncId → Spec S) (ord : Nat → List (Nat × List Nat)) (fn : Func) (c : Code) : Spec S := fun args H K =>
  match Nat.ble args.length fn.ntmps with
  | false => False
  | true => frame0 args 0 fun fr => run X Γ ord H.length (fun fr H' =>
    ∃ ms : List Mat, (mats X fr H' ms).1 ∧ finish X fn (keeps ms) H.length K (mats X fr H' ms).2.1 (mats X fr H' ms).2.2) 100000 [.code c] fr H
noncomputable def abody (Γ : FuncId → Spec S) (fn : Func) (c : Code) : Spec S := abodyO X Γ (fun _ => []) fn c
end Ev
