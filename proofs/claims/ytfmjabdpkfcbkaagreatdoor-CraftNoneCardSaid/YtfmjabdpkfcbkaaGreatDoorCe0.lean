/- A concrete run of code of the program: values, memory, operations, bodies, as functions that the kernel computes. No proof here. -/
import Derived.Test.YtfmjabdpkfcbkaaGreatDoorEv0
namespace Ev
open Go
noncomputable section

@[reducible] def S0 : Sig := ⟨fun _ => Unit⟩
abbrev V := AV S0

/-- a table of numbered cells -/
inductive Tr (α : Type) : Type
  | lf
  | nd (l : Tr α) (v : α) (r : Tr α)

def Tr.get {α : Type} (d : α) (t : Tr α) : Nat → α :=
  Tr.rec (motive := fun _ => Nat → α) (fun _ => d) (fun _ v _ gl gr k => Bool.rec (motive := fun _ => α) (Bool.rec (motive := fun _ => α) (gr (Nat.sub (Nat.div k 2) 1)) (gl (Nat.div k 2)) (Nat.beq (Nat.mod k 2) 1)) v (Nat.beq k 0)) t
/-- a cell is written; the table is written out -/
def Tr.leaf {α R : Type} (d v : α) (f : Nat) : Nat → (Tr α → R) → R :=
  Nat.rec (motive := fun _ => Nat → (Tr α → R) → R) (fun _ K => K .lf) (fun _ ih k K => Bool.rec (motive := fun _ => R) (Bool.rec (motive := fun _ => R) (ih (Nat.sub (Nat.div k 2) 1) fun r => K (.nd .lf d r)) (ih (Nat.div k 2) fun l => K (.nd l d .lf)) (Nat.beq (Nat.mod k 2) 1)) (K (.nd .lf v .lf)) (Nat.beq k 0)) f
def Tr.put {α R : Type} (d v : α) (f : Nat) (t : Tr α) : Nat → (Tr α → R) → R :=
  Tr.rec (motive := fun _ => Nat → (Tr α → R) → R) (fun k K => Tr.leaf d v f k K) (fun l x r pl pr k K => Bool.rec (motive := fun _ => R) (Bool.rec (motive := fun _ => R) (pr (Nat.sub (Nat.div k 2) 1) fun r => K (.nd l x r)) (pl (Nat.div k 2) fun l => K (.nd l x r)) (Nat.beq (Nat.mod k 2) 1)) (K (.nd l v r)) (Nat.beq k 0)) t

/-- one block of memory: cells, so many to an element; a map; nothing -/
inductive CB : Type
  | dead
  | arr (wd : Nat) (cs : List V)
  | mp (k e : TypeId) (es : List (V × V))

/- what brings a value into its written form -/
def fN {R : Type} (n : Nat) (K : Nat → R) : R := match n with
  | 0 => K 0
  | m + 1 => K (Nat.succ m)
def fI {R : Type} (n : Int) (K : Int → R) : R := match n with
  | .ofNat m => fN m fun m => K (.ofNat m)
  | .negSucc m => fN m fun m => K (.negSucc m)
def fBy {R : Type} : List UInt8 → (List UInt8 → R) → R
  | [], K => K []
  | a :: r, K => fN a.toNat fun n => fBy r fun r => K (UInt8.ofNat n :: r)
def fS {R : Type} (s : ByteArray) (K : ByteArray → R) : R := match s with
  | ⟨⟨l⟩⟩ => fBy l fun l => K ⟨⟨l⟩⟩
def fB {R : Type} (b : Bool) (K : Bool → R) : R := match b with
  | true => K true
  | false => K false
/-- a list's spine -/
def fL {α R : Type} : List α → (List α → R) → R
  | [], K => K []
  | a :: r, K => fL r fun r => K (a :: r)
def fV1 {R : Type} (v : V) (K : V → R) : R := match v with
  | .bool b => fB b fun b => K (.bool b)
  | .int k n => fI n fun n => K (.int k n)
  | .str s => fS s fun s => K (.str s)
  | .ptr l r s => fN l fun l => fN r fun r => fN s fun s => K (.ptr l r s)
  | .slc l o n c => fN l fun l => fN o fun o => fN n fun n => K (.slc l o n c)
  | v => K v
def fVs {R : Type} : List V → (List V → R) → R
  | [], K => K []
  | a :: r, K => fV1 a fun a => fVs r fun r => K (a :: r)
def fV {R : Type} (v : V) (K : V → R) : R := match v with
  | .fn f cs => fVs cs fun cs => K (.fn f cs)
  | .fnb f x cs => fV1 x fun x => fVs cs fun cs => K (.fnb f x cs)
  | .agg cs => fVs cs fun cs => K (.agg cs)
  | .tup cs => fVs cs fun cs => K (.tup cs)
  | v => fV1 v K

/- numbers -/
def inR (k : IntKind) (n : Int) : Bool := match k with
  | .i64 => match n with
    | .ofNat a => Nat.blt a 9223372036854775808
    | .negSucc a => Nat.blt a 9223372036854775808
  | .u64 => match n with
    | .ofNat a => Nat.blt a 18446744073709551616
    | _ => false
  | .u8 => match n with
    | .ofNat a => Nat.blt a 256
    | _ => false
  | _ => false
def cw (k : IntKind) (n : Int) : Int := match inR k n with
  | true => n
  | false => wr k n
def eqI (a b : Int) : Bool := match a with
  | .ofNat m => match b with
    | .ofNat n => Nat.beq m n
    | .negSucc _ => false
  | .negSucc m => match b with
    | .ofNat _ => false
    | .negSucc n => Nat.beq m n
def ltI (a b : Int) : Bool := match a with
  | .ofNat m => match b with
    | .ofNat n => Nat.blt m n
    | .negSucc _ => false
  | .negSucc m => match b with
    | .ofNat _ => true
    | .negSucc n => Nat.blt n m
def eqBy : List UInt8 → List UInt8 → Bool
  | [], [] => true
  | a :: r, b :: s => match Nat.beq a.toNat b.toNat with
    | true => eqBy r s
    | false => false
  | _, _ => false
def eqS (a b : ByteArray) : Bool := eqBy a.data.toList b.data.toList

variable (X : Ctx S0)

def cbin (op : BinOp) (t : TypeId) (x y : V) : Option V :=
  match x with
  | .int k a => match y with
    | .int k' b => match op with
      | .add => match decide (k = k') with
        | true => some (.int k (cw k (a + b)))
        | false => none
      | .sub => match decide (k = k') with
        | true => some (.int k (cw k (a - b)))
        | false => none
      | .mul => match decide (k = k') with
        | true => some (.int k (cw k (a * b)))
        | false => none
      | .eql => match decide (k = k') with
        | true => some (.bool (eqI a b))
        | false => none
      | .neq => match decide (k = k') with
        | true => some (.bool (!(eqI a b)))
        | false => none
      | .lss => match decide (k = k') with
        | true => some (.bool (ltI a b))
        | false => none
      | .leq => match decide (k = k') with
        | true => some (.bool (!(ltI b a)))
        | false => none
      | .gtr => match decide (k = k') with
        | true => some (.bool (ltI b a))
        | false => none
      | .geq => match decide (k = k') with
        | true => some (.bool (!(ltI a b)))
        | false => none
      | .shl => match ltI b 0 with
        | true => none
        | false => some (.int k (cw k (a * 2 ^ (min b.toNat k.bits))))
      | .shr => match ltI b 0 with
        | true => none
        | false => some (.int k (a.fdiv (2 ^ (min b.toNat k.bits))))
      | .quo => match eqI b 0 || !(decide (k = k')) with
        | true => none
        | false => some (.int k (cw k (a.tdiv b)))
      | .rem => match eqI b 0 || !(decide (k = k')) with
        | true => none
        | false => some (.int k (a.tmod b))
      | .and => match decide (k = k') with
        | true => some (.int k (wr k (BitVec.ofInt k.bits a &&& BitVec.ofInt k.bits b).toNat))
        | false => none
      | .or => match decide (k = k') with
        | true => some (.int k (wr k (BitVec.ofInt k.bits a ||| BitVec.ofInt k.bits b).toNat))
        | false => none
      | .xor => match decide (k = k') with
        | true => some (.int k (wr k (BitVec.ofInt k.bits a ^^^ BitVec.ofInt k.bits b).toNat))
        | false => none
      | _ => none
    | _ => none
  | .str a => match y with
    | .str b => match op with
      | .add => match Nat.blt (a.size + b.size) maxInt with
        | true => some (.str ⟨⟨a.data.toList ++ b.data.toList⟩⟩)
        | false => none
      | .eql => some (.bool (eqS a b))
      | .neq => some (.bool (!(eqS a b)))
      | _ => none
    | _ => none
  | x => match op with
    | .eql => aeq X t x y
    | .neq => match aeq X t x y with
      | some v => some (notV v)
      | none => none
    | _ => none

def copd (fr : Tr V) : Operand → V
  | .tmp t => fr.get .top t
  | .const v => ofV v
  | .global _ => .top
  | .func f => .fn f []

/-- 'load' -/
def cload (t : TypeId) (h : Tr CB) (a : V) : Option V := match a with
  | .ptr l row sub => match h.get .dead l with
    | .arr wd cs => loadIn X t cs (row * wd + sub)
    | _ => none
  | _ => none

def cslice (t : TypeId) (x : V) (lo hi mx : Option V) (h : Tr CB) : Option V :=
  match x with
  | .str s => match X.L.ds t with
    | .str => match endOf 0 lo, endOf s.size hi, mx with
      | some l, some h, none => match !(ltI l 0) && !(ltI h l) && !(ltI (s.size : Int) h) with
        | true => some (.str ⟨⟨(s.data.toList.drop l.toNat).take (h.toNat - l.toNat)⟩⟩)
        | false => none
      | _, _, _ => none
    | _ => none
  | .slc b off len cl => match X.L.ds t with
    | .slice e => match endOf 0 lo, endOf len hi with
      | some l, some hh => match Nat.blt 0 (X.L.size e) && (eqI l 0 || (match h.get .dead b with | .arr wd _ => Nat.beq wd (X.L.size e) | _ => false)) with
        | true => match mx with
          | none => match !(ltI l 0) && !(ltI hh l) && !(ltI (len : Int) hh) with
            | true => some (.slc b (off + l.toNat) (hh.toNat - l.toNat) (match isGiven hi with | false => cl | true => false))
            | false => none
          | some (.int _ m) => match isGiven hi && !(ltI l 0) && !(ltI hh l) && eqI hh m && !(ltI (len : Int) m) with
            | true => some (.slc b (off + l.toNat) (hh.toNat - l.toNat) true)
            | false => none
          | some _ => none
        | false => none
      | _, _ => none
    | _ => none
  | .nils => match X.L.ds t with
    | .slice e => match Nat.blt 0 (X.L.size e) with
      | true => match endOf 0 lo, endOf 0 hi, mx with
        | some l, some h, none => match eqI l 0 && eqI h 0 with
          | true => some .nils
          | false => none
        | some l, some h, some (.int _ m) => match isGiven hi && eqI l 0 && eqI h 0 && eqI m 0 with
          | true => some .nils
          | false => none
        | _, _, _ => none
      | false => none
    | _ => none
  | .ptr b row sub => match X.L.ds t with
    | .array n e => match h.get .dead b with
      | .arr wd cs => match Nat.beq row 0 && Nat.beq sub 0 && Nat.beq wd (X.L.size e) && Nat.blt 0 wd && Nat.ble (n * wd) cs.length with
        | true => match endOf 0 lo, endOf n hi, mx with
          | some l, some h, none => match !(ltI l 0) && !(ltI h l) && !(ltI (n : Int) h) with
            | true => some (.slc b l.toNat (h.toNat - l.toNat) false)
            | false => none
          | _, _, _ => none
        | false => none
      | _ => none
    | _ => none
  | _ => none

def cindexAddr (t : TypeId) (h : Tr CB) (x i : V) : Option V :=
  match i with
  | .int _ i => match X.L.ds t with
    | .slice e => match x with
      | .slc l off len _ => match h.get .dead l with
        | .arr wd _ => match Nat.blt 0 (X.L.size e) && Nat.beq wd (X.L.size e) && !(ltI i 0) && ltI i (len : Int) with
          | true => some (.ptr l (off + i.toNat) 0)
          | false => none
        | _ => none
      | _ => none
    | .array n e => match x with
      | .ptr l row sub => match h.get .dead l with
        | .arr wd _ => match Nat.blt 0 (X.L.size e) && !(ltI i 0) && ltI i (n : Int) with
          | true => match Nat.beq wd (X.L.size e) && Nat.beq sub 0 with
            | true => some (.ptr l (row + i.toNat) 0)
            | false => some (.ptr l row (sub + i.toNat * X.L.size e))
          | false => none
        | _ => none
      | _ => none
    | _ => none
  | _ => none

def cfieldAddr (s : TypeId) (a : V) (f : Nat) : Option V :=
  match X.L.ds s with
  | .struct fs => match fs[f]? with
    | some (off, ft) => match Nat.beq (X.L.size ft) 0 with
      | true => none
      | false => match a with
        | .ptr l row sub => some (.ptr l row (sub + off))
        | _ => none
    | none => none
  | _ => none
def cfield (t : TypeId) (x : V) (f : Nat) : Option V :=
  match X.L.ds t with
  | .struct fs => match fs[f]? with
    | some (off, ft) => match x with
      | .agg cs => loadIn X ft cs off
      | _ => none
    | none => none
  | _ => none

def cindex (t : TypeId) (x i : V) : Option V :=
  match i with
  | .int _ i => match X.L.ds t with
    | .str => match x with
      | .str s => match !(ltI i 0) && ltI i (s.size : Int) with
        | true => some (.int .u8 ((s.data.toList.getD i.toNat 0).toNat : Int))
        | false => none
      | _ => none
    | .array n e => match x with
      | .agg cs => match !(ltI i 0) && ltI i (n : Int) && Nat.blt 0 (X.L.size e) with
        | true => loadIn X e cs (i.toNat * X.L.size e)
        | false => none
      | _ => none
    | _ => none
  | _ => none

/-- is a type's zero value known -/
def ifaceOk : Ds → Bool
  | .iface | .other => false
  | _ => true
def zok (t : TypeId) : Bool := !(isOther (X.L.ds t)) && Nat.beq (zeroCells X t).length (X.L.size t)
def cbuild (t : TypeId) (parts : List (Nat × V)) : Option V :=
  match zok X t with
  | false => none
  | true => match X.L.ds t with
    | .struct fs => match Nat.blt 0 (X.L.size t) with
      | true => match fillA (fun i => (fs[i]?).map fun p => (p.1, X.L.size p.2)) (zeroCells X t) parts with
        | some cs => some (.agg cs)
        | none => none
      | false => match parts with
        | [] => some (.agg [])
        | _ => none
    | .array _ e => match Nat.blt 0 (X.L.size e) with
      | true => match fillA (fun i => some (i * X.L.size e, X.L.size e)) (zeroCells X t) parts with
        | some cs => some (.agg cs)
        | none => none
      | false => none
    | _ => none

/-- keys of maps: numbers, strings -/
def sameKey : V → V → Bool
  | .int _ a, .int _ b => eqI a b
  | .str a, .str b => eqS a b
  | _, _ => false
def cget (key : V) : List (V × V) → Option V
  | [] => none
  | p :: r => match sameKey p.1 key with
    | true => some p.2
    | false => cget key r
def cset (key v : V) : List (V × V) → List (V × V)
  | [] => [(key, v)]
  | p :: r => match sameKey p.1 key with
    | true => (p.1, v) :: r
    | false => p :: cset key v r
def zeroOf (t : TypeId) : Option V := match zok X t with
  | false => none
  | true => match isAggD (X.L.ds t) with
    | true => some (.agg (zeroCells X t))
    | false => match zeroCells X t with
      | v :: _ => some v
      | [] => none
def outC (ok : Bool) (v : V) (f : Bool) : V := match ok with
  | true => .tup [v, .bool f]
  | false => v
def clookup (t : TypeId) (m key : V) (ok : Bool) (h : Tr CB) : Option V :=
  match X.L.ds t with
  | .map k e => match fits X k key with
    | true => match zeroOf X e with
      | some z => match m with
        | .map l => match h.get .dead l with
          | .mp k' _ es => match Nat.beq k k' with
            | true => match cget key es with
              | some v => some (outC ok v true)
              | none => some (outC ok z false)
            | false => none
          | _ => none
        | .nilm => some (outC ok z false)
        | _ => none
      | none => none
    | false => none
  | _ => none

def lenV (t : TypeId) (x : V) (h : Tr CB) : Option V := match X.L.ds t with
  | .array n _ => some (.int .i64 n)
  | .str => match x with
    | .str s => some (.int .i64 s.size)
    | _ => none
  | .slice _ => match lenS x with
    | some n => some (.int .i64 n)
    | none => none
  | .map _ _ => match x with
    | .map l => match h.get .dead l with
      | .mp _ _ es => some (.int .i64 es.length)
      | _ => none
    | .nilm => some (.int .i64 0)
    | _ => none
  | _ => none

def bytesOf : List V → Option (List UInt8)
  | [] => some []
  | .int .u8 n :: r => match bytesOf r with
    | some s => some (UInt8.ofNat n.toNat :: s)
    | none => none
  | _ :: _ => none
def cconvert (src dst : TypeId) (x : V) (h : Tr CB) : Option V :=
  match X.L.ds dst with
  | .int k => match x with
    | .int _ n => match isOther (X.L.ds src) with
      | true => none
      | false => some (.int k (cw k n))
    | _ => none
  | .str => match X.L.ds src with
    | .str => match x with
      | .str s => some (.str s)
      | _ => none
    | .slice e => match X.L.ds e with
      | .int .u8 => match x with
        | .slc l off len _ => match h.get .dead l with
          | .arr wd cs => match Nat.beq wd 1 && Nat.beq (X.L.size e) 1 && Nat.ble (off + len) cs.length with
            | true => match bytesOf ((cs.drop off).take len) with
              | some s => some (.str ⟨⟨s⟩⟩)
              | none => none
            | false => none
          | _ => none
        | .nils => some (.str ⟨⟨[]⟩⟩)
        | _ => none
      | _ => none
    | _ => none
  | _ => none

def oneArg : List V → Option V
  | [x] => some x
  | _ => none
def oneTy : List TypeId → Option TypeId
  | [x] => some x
  | _ => none
def isNilp : V → Bool
  | .nilp => true
  | _ => false

/-- slices, interfaces, functions against nil -/
def cnil (t : TypeId) (x y : V) (lit : Bool) : Option Bool := match X.L.ds t with
  | .slice _ => match y with
    | .nils => match x with
      | .slc _ _ _ _ => some false
      | _ => none
    | _ => none
  | .iface => match y with
    | .nili => match x with
      | .iface _ _ => some false
      | .nili => match lit with
        | true => some true
        | false => none
      | _ => none
    | _ => none
  | .func => match y with
    | .nilf => match x with
      | .fn _ _ => some false
      | .nilf => some true
      | _ => none
    | _ => none
  | .map _ _ => match y with
    | .nilm => match x with
      | .map _ => some false
      | .nilm => some true
      | _ => none
    | _ => none
  | _ => none
def isConst : Operand → Bool
  | .const _ => true
  | _ => false
/-- flat structs (numbers and strings), cell by cell; the types for which this is allowed are those of 'isVal' -/
def eq1 (d : Ds) (u v : V) : Option Bool := match d with
  | .int _ => match u with
    | .int k a => match v with
      | .int k' b => match decide (k = k') with
        | true => some (eqI a b)
        | false => none
      | _ => none
    | _ => none
  | .str => match u with
    | .str a => match v with
      | .str b => some (eqS a b)
      | _ => none
    | _ => none
  | _ => none
def eqFlat : List (Nat × TypeId) → Nat → List V → List V → Option Bool
  | [], _, _, _ => some true
  | f :: fs, k, u :: a, v :: b => match Nat.beq f.1 k with
    | true => match eq1 (X.L.ds f.2) u v with
      | some e => match eqFlat fs (Nat.succ k) a b with
        | some r => some (e && r)
        | none => none
      | none => none
    | false => none
  | _, _, _, _ => none
def cagg (t : TypeId) (x y : V) : Option Bool := match x with
  | .agg a => match y with
    | .agg b => match X.isVal t with
      | true => match X.L.ds t with
        | .struct fs => eqFlat X fs 0 a b
        | _ => none
      | false => none
    | _ => none
  | _ => none
def ctest (t : TypeId) (x y : V) (lit : Bool) : Option Bool := match cnil X t x y lit with
  | some b => some b
  | none => cagg X t x y
def ceq (op : BinOp) (t : TypeId) (x y : V) (lit : Bool) : Option V := match cbin X op t x y with
  | some v => some v
  | none => match ctest X t x y lit with
    | some b => match op with
      | .eql => some (.bool b)
      | .neq => some (.bool (!b))
      | _ => none
    | none => none

/-- the operations that compute or read -/
def cq (fr : Tr V) (h : Tr CB) (op : Op) : Option V :=
  match op with
  | .move x => some (copd fr x)
  | .assign x => some (copd fr x)
  | .pick c a b => match oB (copd fr c) with
    | some true => some (copd fr a)
    | some false => some (copd fr b)
    | none => none
  | .build t ps => cbuild X t (ps.toList.map fun p => (p.1, copd fr p.2))
  | .load t a => cload X t h (copd fr a)
  | .nilCheck x => match copd fr x with
    | .ptr l r s => some (.ptr l r s)
    | _ => none
  | .binOp op t x y _ => ceq X op t (copd fr x) (copd fr y) (isConst y)
  | .unOp op _ x => aun op (copd fr x)
  | .convert s d x => cconvert X s d (copd fr x) h
  | .makeFunc (.func f) first caps => match first.toList with
    | [] => some (.fn f (caps.toList.map (copd fr)))
    | [x] => some (.fnb f (copd fr x) (caps.toList.map (copd fr)))
    | _ => none
  | .makeInterface t x => match ifaceOk (X.L.ds t) with
    | true => some (.iface t (copd fr x))
    | false => none
  | .slice t x lo hi mx => cslice X t (copd fr x) (lo.map (copd fr)) (hi.map (copd fr)) (mx.map (copd fr)) h
  | .fieldAddr s x f => cfieldAddr X s (copd fr x) f
  | .field t x f => cfield X t (copd fr x) f
  | .indexAddr t x i => cindexAddr X t h (copd fr x) (copd fr i)
  | .index t x i => cindex X t (copd fr x) (copd fr i)
  | .lookup t m k ok => clookup X t (copd fr m) (copd fr k) ok h
  | .extract x i => match copd fr x with
    | .tup vs => vs[i]?
    | _ => none
  | .call { callee := .builtin .len, args, argTypes } => match oneArg (args.toList.map (copd fr)) with
    | some x => match oneTy argTypes.toList with
      | some t => lenV X t x h
      | none => none
    | none => none
  | .call { callee := .builtin .max, args, .. } => match args.toList.map (copd fr) with
    | .int k a :: r => maxL k a r
    | _ => none
  | .call { callee := .builtin .min, args, .. } => match args.toList.map (copd fr) with
    | .int k a :: r => minL k a r
    | _ => none
  | _ => none

/-- the elements of a slice, as cells -/
def rowsV (h : Tr CB) (e : TypeId) (x : V) : Option (List V) := match x with
  | .nils => some []
  | .emp => some []
  | .slc l off len _ => match len with
    | 0 => some []
    | _ + 1 => match h.get .dead l with
      | .arr wd cs => match Nat.beq wd (X.L.size e) && Nat.ble ((off + len) * wd) cs.length with
        | true => some ((cs.drop (off * wd)).take (len * wd))
        | false => none
      | _ => none
  | _ => none

def strD : Ds → Bool
  | .str => true
  | _ => false
def strV (s : ByteArray) : List V := s.data.toList.map fun b => .int .u8 (b.toNat : Int)
/-- what 'append' takes: a slice, or so many zeros -/
def appV (h : Tr CB) (e t t' : TypeId) (x : V) : Option (Nat × List V) := match Nat.beq t t' with
  | true => match rowsV X h e x with
    | some xs => match lenS x with
      | some n => some (n, xs)
      | none => none
    | none => none
  | false => match X.L.ds t' with
    | .int _ => match x with
      | .int _ n => match ltI 0 n && Nat.ble n.toNat 16777216 && zok X e with
        | true => some (n.toNat, reps n.toNat (zeroCells X e))
        | false => none
      | _ => none
    | _ => none

def overK {R : Type} : List V → Nat → List V → (List V → R) → R
  | cs, 0, vs, K => fL vs fun vs => fL (cs.drop vs.length) fun r => K (vs ++ r)
  | [], _ + 1, _, K => K []
  | a :: cs, n + 1, vs, K => overK cs n vs fun r => K (a :: r)

/-- an operation that writes or makes memory: its value, the memory behind it; new memory gets the number l -/
def cl {R : Type} (fr : Tr V) (h : Tr CB) (l : Nat) (op : Op) (K : V → Tr CB → R) (bad : R) : R :=
  match op with
  | .alloc t => match zok X t with
    | true => match X.L.ds t with
      | .array n e => match Nat.blt 0 (X.L.size e) && Nat.beq (n * X.L.size e) (X.L.size t) && Nat.ble n maxInt with
        | true => fVs (zeroCells X t) fun cs => Tr.put .dead (.arr (X.L.size e) cs) 64 h l fun h => K (.ptr l 0 0) h
        | false => bad
      | _ => fVs (zeroCells X t) fun cs => Tr.put .dead (.arr (X.L.size t) cs) 64 h l fun h => K (.ptr l 0 0) h
    | false => bad
  | .box t v => match whole (copd fr v) with
    | true => match X.L.ds t with
      | .array n e => match Nat.blt 0 (X.L.size e) && Nat.beq (n * X.L.size e) (cellsOf (copd fr v)).length && Nat.ble n maxInt with
        | true => fVs (cellsOf (copd fr v)) fun cs => Tr.put .dead (.arr (X.L.size e) cs) 64 h l fun h => K (.ptr l 0 0) h
        | false => bad
      | _ => fVs (cellsOf (copd fr v)) fun cs => fN cs.length fun m => Tr.put .dead (.arr m cs) 64 h l fun h => K (.ptr l 0 0) h
    | false => bad
  | .buildSlice t len ps => match X.L.ds t with
    | .slice e => match Nat.ble (len * X.L.size e) 16777216 && Nat.blt 0 (X.L.size e) && zok X e with
      | true => match fillA (fun i => some (i * X.L.size e, X.L.size e)) (reps len (zeroCells X e)) (ps.toList.map fun p => (p.1, copd fr p.2)) with
        | some cs => fVs cs fun cs => Tr.put .dead (.arr (X.L.size e) cs) 64 h l fun h => K (.slc l 0 len true) h
        | none => bad
      | false => bad
    | _ => bad
  | .makeSlice t n c => match X.L.ds t with
    | .slice e => match copd fr n with
      | .int .i64 n => match copd fr c with
        | .int .i64 c => match !(ltI n 0) && !(ltI c n) && Nat.ble (c.toNat * X.L.bytes e) maxBytes && Nat.ble c.toNat maxInt && Nat.blt 0 (X.L.size e) && zok X e with
          | true => fVs (reps n.toNat (zeroCells X e)) fun cs => Tr.put .dead (.arr (X.L.size e) cs) 64 h l fun h => fN n.toNat fun m => K (.slc l 0 m (eqI n c)) h
          | false => bad
        | _ => bad
      | _ => bad
    | _ => bad
  | .store t a v => match copd fr a with
    | .ptr l row sub => match h.get .dead l with
      | .arr wd cs => match Nat.blt 0 (X.L.size t) && Nat.beq (cellsOf (copd fr v)).length (X.L.size t) && Nat.ble (row * wd + sub + X.L.size t) cs.length && allOne (cellsOf (copd fr v)) && Nat.blt l 4294967296 with
        | true => overK cs (row * wd + sub) (cellsOf (copd fr v)) fun cs => Tr.put .dead (.arr wd cs) 64 h l fun h => K .top h
        | false => match Nat.beq (X.L.size t) 0 && zok X t && (cellsOf (copd fr v)).isEmpty with
          | true => K .top h
          | false => bad
      | _ => bad
    | _ => bad
  | .convert s0 d x => match X.L.ds d with
    | .slice e => match X.L.ds e with
      | .int .u8 => match copd fr x with
        | .str s => match strD (X.L.ds s0) && Nat.beq (X.L.size e) 1 && Nat.ble s.size maxInt with
          | true => fVs (strV s) fun cs => Tr.put .dead (.arr 1 cs) 64 h l fun h => fN s.size fun m => K (.slc l 0 m false) h
          | false => bad
        | _ => bad
      | _ => bad
    | _ => bad
  | .makeMap t none => match X.L.ds t with
    | .map k e => Tr.put .dead (.mp k e []) 64 h l fun h => K (.map l) h
    | _ => bad
  | .mapUpdate t m k v => match X.L.ds t with
    | .map kt _ => match copd fr m with
      | .map l => match h.get .dead l with
        | .mp kt' et es => match Nat.beq kt kt' && fits X kt (copd fr k) && whole (copd fr v) && Nat.blt l 4294967296 with
          | true => fL (cset (copd fr k) (copd fr v) es) fun es => Tr.put .dead (.mp kt' et es) 64 h l fun h => K .top h
          | false => bad
        | _ => bad
      | _ => bad
    | _ => bad
  | .call { callee := .builtin .append, args, argTypes } => match args.toList.map (copd fr) with
    | [s, x] => match argTypes.toList with
      | [t, t'] => match X.L.ds t with
        | .slice e => match Nat.blt 0 (X.L.size e) with
          | true => match appV X h e t t' x with
            | some (m, ys) => match ys with
              | [] => match s with
                | .slc _ _ _ _ => K s h
                | .nils => K s h
                | _ => bad
              | _ :: _ => match rowsV X h e s with
                | some xs => match lenS s with
                  | some n => fL (xs ++ ys) fun cs => fN (n + m) fun n' => match Nat.ble (n' * X.L.bytes e) maxBytes && Nat.ble n' maxInt && allOne ys with
                      | true => match s with
                        | .nils => Tr.put .dead (.arr (X.L.size e) cs) 64 h l fun h => K (.slc l 0 n' false) h
                        | .slc l0 _ _ true => Tr.put .dead (.arr (X.L.size e) cs) 64 h l fun h => K (.slc l 0 n' false) h
                        | .slc l0 _ _ false => match h.get .dead l0 with
                          | .arr wd _ => match Nat.beq wd (X.L.size e) && Nat.blt l0 4294967296 with
                            | true => Tr.put .dead .dead 64 h l0 fun h => Tr.put .dead (.arr (X.L.size e) cs) 64 h l fun h => K (.slc l 0 n' false) h
                            | false => bad
                          | _ => bad
                        | _ => bad
                      | false => bad
                  | none => bad
                | none => bad
            | none => bad
          | false => bad
        | _ => bad
      | _ => bad
    | _ => bad
  | _ => bad

/-- does an operation write or make memory -/
def isLoud (X : Ctx S0) : Op → Bool
  | .alloc _ | .box _ _ | .buildSlice _ _ _ | .makeSlice _ _ _ | .store _ _ _ | .makeMap _ _ | .mapUpdate _ _ _ _ | .insert _ _ _ _ => true
  | .convert _ d _ => match X.L.ds d with
    | .slice _ => true
    | _ => false
  | .call { callee := .builtin .append, .. } => true
  | _ => false

inductive Ex : Type
  | nrm
  | ext (id : Nat)
  | ret

/-- what a piece of code comes to -/
inductive Ro : Type
  | bad (why : String)
  | ok (x : Ex) (fr : Tr V) (h : Tr CB) (n : Nat) (ds : List (FuncId × List V))
/-- what a call comes to -/
inductive Cr : Type
  | bad (why : String)
  | ok (v : V) (h : Tr CB) (n : Nat)

def landK {R : Type} (nt : Nat) (dst : Option Nat) (v : V) (fr : Tr V) (K : Tr V → R) (bad : R) : R := match dst with
  | some d => match Nat.blt d nt with
    | true => Tr.put .top v 64 fr d K
    | false => bad
  | none => K fr

/-- which function is called, with what -/
def ccall (fr : Tr V) (c : Call) : Option (FuncId × List V) := match c.callee with
  | .value f => match copd fr f with
    | .fn f caps => some (f, c.args.toList.map (copd fr) ++ caps)
    | .fnb f x caps => some (f, x :: c.args.toList.map (copd fr) ++ caps)
    | _ => none
  | _ => none

/-- is an operation's guard as it must be: run it, pass it over, or it is not known -/
def gd (all : List Oper) (o : Oper) (fr : Tr V) : Option Bool := match o.guard with
  | none => some true
  | some (j, want) => match all[j]? with
    | some p => match p.dst with
      | some s => match fr.get .top s with
        | .tt => some want
        | .ff => some (!want)
        | .bool b => some (b == want)
        | .tup _ => some false
        | _ => none
      | none => none
    | none => none

/-- what kind of step an operation is, and what it computes -/
inductive Kt : Type
  | q (g : Tr V → Tr CB → Option V)
  | loud
  | call (c : Call)
  | defer (c : Call)
  | bad
def kF (op : Op) : Kt :=
  match op with
  | .move x => .q fun fr h => some (copd fr x)
  | .assign x => .q fun fr h => some (copd fr x)
  | .pick c a b => .q fun fr h => match oB (copd fr c) with
    | some true => some (copd fr a)
    | some false => some (copd fr b)
    | none => none
  | .build t ps => .q fun fr h => cbuild X t (ps.toList.map fun p => (p.1, copd fr p.2))
  | .load t a => .q fun fr h => cload X t h (copd fr a)
  | .nilCheck x => .q fun fr h => match copd fr x with
    | .ptr l r s => some (.ptr l r s)
    | _ => none
  | .binOp op t x y _ => .q fun fr h => ceq X op t (copd fr x) (copd fr y) (isConst y)
  | .unOp op _ x => .q fun fr h => aun op (copd fr x)
  | .convert s d x => match X.L.ds d with
    | .slice _ => .loud
    | _ => .q fun fr h => cconvert X s d (copd fr x) h
  | .makeFunc (.func f) first caps => .q fun fr _ => match first.toList with
    | [] => some (.fn f (caps.toList.map (copd fr)))
    | [x] => some (.fnb f (copd fr x) (caps.toList.map (copd fr)))
    | _ => none
  | .makeInterface t x => .q fun fr h => match ifaceOk (X.L.ds t) with
    | true => some (.iface t (copd fr x))
    | false => none
  | .slice t x lo hi mx => .q fun fr h => cslice X t (copd fr x) (lo.map (copd fr)) (hi.map (copd fr)) (mx.map (copd fr)) h
  | .fieldAddr s x f => .q fun fr h => cfieldAddr X s (copd fr x) f
  | .field t x f => .q fun fr h => cfield X t (copd fr x) f
  | .indexAddr t x i => .q fun fr h => cindexAddr X t h (copd fr x) (copd fr i)
  | .index t x i => .q fun fr h => cindex X t (copd fr x) (copd fr i)
  | .lookup t m k ok => .q fun fr h => clookup X t (copd fr m) (copd fr k) ok h
  | .extract x i => .q fun fr h => match copd fr x with
    | .tup vs => vs[i]?
    | _ => none
  | .call { callee := .builtin .len, args, argTypes } => .q fun fr h => match oneArg (args.toList.map (copd fr)) with
    | some x => match oneTy argTypes.toList with
      | some t => lenV X t x h
      | none => none
    | none => none
  | .call { callee := .builtin .max, args, .. } => .q fun fr h => match args.toList.map (copd fr) with
    | .int k a :: r => maxL k a r
    | _ => none
  | .call { callee := .builtin .min, args, .. } => .q fun fr h => match args.toList.map (copd fr) with
    | .int k a :: r => minL k a r
    | _ => none
  | .alloc _ | .box _ _ | .buildSlice _ _ _ | .makeSlice _ _ _ | .store _ _ _ | .makeMap _ _ | .mapUpdate _ _ _ _ | .insert _ _ _ _ => .loud
  | .call { callee := .builtin .append, .. } => .loud
  | .call c => .call c
  | .defer c => .defer c
  | _ => .bad

section
variable (call : FuncId → List V → Tr CB → Nat → Cr) (nt : Nat)

/-- one operation; what it makes gets the number l -/
def stepC {R : Type} (fr : Tr V) (h : Tr CB) (l n' n : Nat) (ds : List (FuncId × List V)) (op : Op) (K : V → Tr CB → Nat → List (FuncId × List V) → R) (bad : String → R) : R :=
  match cq X fr h op with
  | some v => fV v fun v => K v h n ds
  | none => match isLoud X op with
    | true => match Nat.blt l 4294967296 with
      | true => match cl X fr h l op (fun v h => some (v, h)) none with
        | some (v, h) => K v h n' ds
        | none => bad "op"
      | false => bad "room"
    | false => match op with
      | .call c => match ccall fr c with
        | some (f, as) => fVs as fun as => match call f as h n with
          | .ok v h n => K v h n ds
          | .bad w => bad w
        | none => bad "op"
      | .defer c => match ccall fr c with
        | some (f, as) => fVs as fun as => K .top h n ((f, as) :: ds)
        | none => bad "defer"
      | _ => bad "op"

def opsC (all : List Oper) : List Oper → Tr V → Tr CB → Nat → List (FuncId × List V) → Ro
  | [], fr, h, n, ds => .ok .nrm fr h n ds
  | o :: r, fr, h, n, ds => match gd all o fr with
    | some true => stepC X call fr h n (Nat.succ n) n ds o.op (fun v h n ds => landK nt o.dst v fr (fun fr => opsC all r fr h n ds) (.bad "slot")) .bad
    | some false => landK nt o.dst (.tup []) fr (fun fr => opsC all r fr h n ds) (.bad "slot")
    | none => .bad "guard"

/-- the same, the operation looked at once -/
def stepF {R : Type} (fr : Tr V) (h : Tr CB) (l n' n : Nat) (ds : List (FuncId × List V)) (op : Op) (K : V → Tr CB → Nat → List (FuncId × List V) → R) (bad : String → R) : R :=
  match kF X op with
  | .q g => match g fr h with
    | some v => fV v fun v => K v h n ds
    | none => bad "op"
  | .loud => match Nat.blt l 4294967296 with
    | true => match cl X fr h l op (fun v h => some (v, h)) none with
      | some (v, h) => K v h n' ds
      | none => bad "op"
    | false => bad "room"
  | .call c => match ccall fr c with
    | some (f, as) => fVs as fun as => match call f as h n with
      | .ok v h n => K v h n ds
      | .bad w => bad w
    | none => bad "op"
  | .defer c => match ccall fr c with
    | some (f, as) => fVs as fun as => K .top h n ((f, as) :: ds)
    | none => bad "defer"
  | .bad => bad "op"
/-- a piece of code, as what it does -/
inductive Fx : Type
  | mk (g : Tr V → Tr CB → Nat → List (FuncId × List V) → Ro)
def Fx.run (x : Fx) (fr : Tr V) (h : Tr CB) (n : Nat) (ds : List (FuncId × List V)) : Ro := match x with
  | .mk g => g fr h n ds
def opsF (all ops : List Oper) : Fx :=
  List.rec (motive := fun _ => Fx) (.mk fun fr h n ds => .ok .nrm fr h n ds) (fun o _ ih => .mk fun fr h n ds => match gd all o fr with
    | some true => stepF X call fr h n (Nat.succ n) n ds o.op (fun v h n ds => landK nt o.dst v fr (fun fr => ih.run fr h n ds) (.bad "slot")) .bad
    | some false => landK nt o.dst (.tup []) fr (fun fr => ih.run fr h n ds) (.bad "slot")
    | none => .bad "guard") ops

/- regions that draw an order: one order, and what must be looked at again, stand for all -/
def bit (m i : Nat) : Bool := Nat.testBit m i
def aftM (o : Oper) : Nat := o.after.toList.foldl (fun s e => match Region.binds .any e with | true => Nat.lor s (Nat.shiftLeft 1 e.on) | false => s) 0
def clos (am : Nat) : Nat → List Nat → Nat → Nat
  | _, [], s => s
  | i, d :: r, s => clos am (Nat.succ i) r (match bit am i with | true => Nat.lor s d | false => s)
/-- for each operation all that it waits for, through others -/
def downM : List Oper → List Nat → List Nat
  | [], acc => acc
  | o :: r, acc => downM r (acc ++ [clos (aftM o) 0 acc (aftM o)])
/-- 0: computes; 1: reads; 2: makes; 3: writes, calls -/
def kindC (X : Ctx S0) : Op → Nat
  | .move _ | .assign _ | .pick _ _ _ | .build _ _ | .nilCheck _ | .binOp _ _ _ _ _ | .unOp _ _ _ | .makeFunc _ _ _ | .makeInterface _ _ | .fieldAddr _ _ _ | .field _ _ _ | .index _ _ _ | .extract _ _ => 0
  | .convert _ d _ => match X.L.ds d with
    | .slice _ => 2
    | _ => 1
  | .load _ _ | .slice _ _ _ _ _ | .indexAddr _ _ _ | .lookup _ _ _ _ => 1
  | .call { callee := .builtin .len, .. } => 1
  | .call { callee := .builtin .max, .. } => 1
  | .call { callee := .builtin .min, .. } => 1
  | .alloc _ | .box _ _ | .buildSlice _ _ _ | .makeSlice _ _ _ | .makeMap _ _ => 2
  | _ => 3
def placeAll (D : List Nat) (i : Nat) : Nat → List Nat → Nat → Nat × List Nat → Nat × List Nat
  | _, [], _, a => a
  | j, _ :: r, di, a => placeAll D i (Nat.succ j) r di (match bit di j && !(bit a.1 j) with | true => (Nat.lor a.1 (Nat.shiftLeft 1 j), j :: a.2) | false => a)
/-- an operation with all that it waits for -/
def placeOne (D : List Nat) (i : Nat) (a : Nat × List Nat) : Nat × List Nat :=
  match bit a.1 i with
  | true => a
  | false => match placeAll D i 0 D (D.getD i 0) a with
    | (m, l) => (Nat.lor m (Nat.shiftLeft 1 i), i :: l)
def maskOf (K : List Nat) (k : Nat) : Nat → List Nat → Nat
  | _, [] => 0
  | i, x :: r => match Nat.beq x k with
    | true => Nat.lor (Nat.shiftLeft 1 i) (maskOf K k (Nat.succ i) r)
    | false => maskOf K k (Nat.succ i) r
def stageR (D K : List Nat) (lm prev fm : Nat) (all : Bool) : Nat → List Nat → Nat × List Nat → Nat × List Nat
  | _, [], a => a
  | i, x :: r, a => stageR D K lm prev fm all (Nat.succ i) r (match Nat.beq x 1 && Nat.beq (Nat.land (D.getD i 0) lm) prev && (all || Nat.beq (Nat.land (Nat.land (D.getD i 0) fm) a.1) (Nat.land (D.getD i 0) fm)) with
    | true => placeOne D i a
    | false => a)
def stages (D K : List Nat) (lm fm : Nat) : List Nat → Nat → Nat × List Nat → Nat × List Nat
  | [], prev, a => stageR D K lm prev fm true 0 K (stageR D K lm prev fm false 0 K a)
  | l :: r, prev, a => stages D K lm fm r (Nat.lor prev (Nat.shiftLeft 1 l)) (placeOne D l (stageR D K lm prev fm true 0 K (stageR D K lm prev fm false 0 K a)))
def loudsOf : Nat → List Nat → List Nat
  | _, [] => []
  | i, x :: r => match Nat.beq x 3 with
    | true => i :: loudsOf (Nat.succ i) r
    | false => loudsOf (Nat.succ i) r
def rest0 (D : List Nat) : Nat → List Nat → Nat × List Nat → Nat × List Nat
  | _, [], a => a
  | i, _ :: r, a => rest0 D (Nat.succ i) r (placeOne D i a)
def rechk (D K : List Nat) : List Nat → List Nat → List (Nat × List Nat)
  | _, [] => []
  | done, i :: r => (i, match Nat.beq (K.getD i 0) 3 with | true => done.filter (fun j => Nat.beq (K.getD j 0) 1 && !(bit (D.getD i 0) j)) | false => []) :: rechk D K (i :: done) r
def planDK (D K : List Nat) : List (Nat × List Nat) :=
  rechk D K [] (rest0 D 0 D (stages D K (maskOf K 3 0 K) (maskOf K 2 0 K) (loudsOf 0 K) 0 (0, []))).2.reverse
def planOf (X : Ctx S0) (ops : List Oper) : List (Nat × List Nat) := planDK (downM ops []) (ops.map fun o => kindC X o.op)

/-- every slot that an operation looks at is written ahead of it, or by none -/
def tmpL : List Operand → List Nat
  | [] => []
  | .tmp t :: r => t :: tmpL r
  | _ :: r => tmpL r
def looksC (all : List Oper) (o : Oper) : List Nat := match o.guard with
  | none => tmpL o.op.operands.toList
  | some (j, _) => match all[j]? with
    | some p => match p.dst with
      | some s => s :: tmpL o.op.operands.toList
      | none => tmpL o.op.operands.toList
    | none => tmpL o.op.operands.toList
def memC (t : Nat) : List Nat → Bool
  | [] => false
  | s :: r => match Nat.beq s t with
    | true => true
    | false => memC t r
def slotsOk (ls : List Nat) (di : Nat) : Nat → List Oper → Bool
  | _, [] => true
  | j, p :: r => match p.dst with
    | none => slotsOk ls di (Nat.succ j) r
    | some d => match memC d ls && !(bit di j) with
      | true => false
      | false => slotsOk ls di (Nat.succ j) r
/-- an operation that takes a slot's value before any operation of the region writes it -/
def earlyT (D : List Nat) (t i : Nat) : Nat → List Oper → Bool
  | _, [] => true
  | j, p :: r => match p.dst with
    | none => earlyT D t i (Nat.succ j) r
    | some d => match Nat.beq d t && !(bit (D.getD j 0) i) with
      | true => false
      | false => earlyT D t i (Nat.succ j) r
def early (D : List Nat) (all : List Oper) (i : Nat) (o : Oper) : Bool := match o.op with
  | .move (.tmp t) => match o.guard with
    | none => match o.dst with
      | some _ => earlyT D t i 0 all
      | none => false
    | some _ => false
  | _ => false
def dstsOk : List Nat → List Oper → Bool
  | _, [] => true
  | ds, o :: r => match o.dst with
    | none => dstsOk ds r
    | some d => match memC d ds with
      | true => false
      | false => dstsOk (d :: ds) r
def subM (a b : Nat) : Bool := Nat.beq (Nat.land a b) a
def recOk (K : List Nat) (di : Nat) (chk : List Nat) : Nat → List Nat → Nat → Bool
  | _, [], _ => true
  | j, x :: r, pl => match bit pl j && Nat.beq x 1 && !(bit di j) && !(memC j chk) with
    | true => false
    | false => recOk K di chk (Nat.succ j) r pl
def okPi (all : List Oper) (D K : List Nat) : List (Nat × List Nat) → (pl lm fm fd : Nat) → Bool
  | [], pl, _, _, _ => Nat.beq pl (Nat.sub (Nat.shiftLeft 1 all.length) 1)
  | (i, chk) :: r, pl, lm, fm, fd => match all[i]? with
    | none => false
    | some o => match !(bit pl i) && subM (D.getD i 0) pl && (early D all i o || slotsOk (looksC all o) (D.getD i 0) 0 all) with
      | false => false
      | true => match K.getD i 0 with
        | 0 => okPi all D K r (Nat.lor pl (Nat.shiftLeft 1 i)) lm fm fd
        | 1 => match subM lm (D.getD i 0) && subM fm (Nat.lor (D.getD i 0) fd) with
          | true => okPi all D K r (Nat.lor pl (Nat.shiftLeft 1 i)) lm fm fd
          | false => false
        | 2 => okPi all D K r (Nat.lor pl (Nat.shiftLeft 1 i)) lm (Nat.lor fm (Nat.shiftLeft 1 i)) fd
        | _ => match subM lm (D.getD i 0) && subM fm (Nat.lor (D.getD i 0) fd) && recOk K (D.getD i 0) chk 0 K pl with
          | true => okPi all D K r (Nat.lor pl (Nat.shiftLeft 1 i)) (Nat.lor lm (Nat.shiftLeft 1 i)) fm (Nat.lor fd (D.getD i 0))
          | false => false
def aftLt : Nat → List Oper → Bool
  | _, [] => true
  | i, o :: r => o.after.toList.all (fun e => !(Region.binds .any e) || Nat.blt e.on i) && aftLt (Nat.succ i) r
def okReg (X : Ctx S0) (all : List Oper) : Bool := aftLt 0 all && dstsOk [] all && okPi all (downM all []) (all.map fun o => kindC X o.op) (planOf X all) 0 0 0 0

def eqV1 : V → V → Bool
  | .top, .top => true
  | .int k a, .int k' b => decide (k = k') && eqI a b
  | .str a, .str b => eqS a b
  | .bool a, .bool b => a == b
  | .tt, .tt => true
  | .ff, .ff => true
  | .nilp, .nilp => true
  | .ptr l r s, .ptr l' r' s' => Nat.beq l l' && Nat.beq r r' && Nat.beq s s'
  | .nils, .nils => true
  | .slc l o n c, .slc l' o' n' c' => Nat.beq l l' && Nat.beq o o' && Nat.beq n n' && (c == c')
  | .nilm, .nilm => true
  | .map l, .map l' => Nat.beq l l'
  | .nilf, .nilf => true
  | .nili, .nili => true
  | _, _ => false
def eqVs : List V → List V → Bool
  | [], [] => true
  | a :: r, b :: s => match eqV1 a b with
    | true => eqVs r s
    | false => false
  | _, _ => false
def eqV : V → V → Bool
  | .agg a, .agg b => eqVs a b
  | .tup a, .tup b => eqVs a b
  | .fn f a, .fn g b => Nat.beq f g && eqVs a b
  | a, b => eqV1 a b

/-- what was read is read again -/
def againC (all : List Oper) : List Nat → Tr V → Tr CB → Bool
  | [], _, _ => true
  | j :: r, fr, h => match all[j]? with
    | none => false
    | some o => match gd all o fr with
      | none => false
      | some false => againC all r fr h
      | some true => match cq X fr h o.op with
        | some v => match o.dst with
          | none => againC all r fr h
          | some d => match eqV v (fr.get .top d) with
            | true => againC all r fr h
            | false => false
        | none => false

def runPi (all : List Oper) (n0 : Nat) : List (Nat × List Nat) → Tr V → Tr CB → Nat → List (FuncId × List V) → Ro
  | [], fr, h, n, ds => .ok .nrm fr h n ds
  | (i, chk) :: r, fr, h, n, ds => match all[i]? with
    | none => .bad "no op"
    | some o => match gd all o fr with
      | some true => stepC X call fr h (n0 + i) n n ds o.op (fun v h n ds => landK nt o.dst v fr (fun fr => match againC X all chk fr h with
        | true => runPi all n0 r fr h n ds
        | false => .bad "order") (.bad "slot")) .bad
      | some false => landK nt o.dst (.tup []) fr (fun fr => match againC X all chk fr h with
        | true => runPi all n0 r fr h n ds
        | false => .bad "order") (.bad "slot")
      | none => .bad "guard"

def regC (ops : List Oper) (draw : Bool) (fr : Tr V) (h : Tr CB) (n : Nat) (ds : List (FuncId × List V)) : Ro := match draw with
  | false => opsC X call nt ops ops fr h n ds
  | true => match okReg X ops with
    | true => fN (n + ops.length) fun n' => match Nat.ble n' 4294967296 with
      | true => runPi X call nt ops n (planOf X ops) fr h n' ds
      | false => .bad "room"
    | false => .bad "region"

def loopF (x : Fx) (f : Nat) : Tr V → Tr CB → Nat → List (FuncId × List V) → Ro :=
  Nat.rec (motive := fun _ => Tr V → Tr CB → Nat → List (FuncId × List V) → Ro) (fun _ _ _ _ => .bad "fuel") (fun _ ih fr h n ds => match x.run fr h n ds with
    | .ok .nrm fr h n ds => ih fr h n ds
    | r => r) f
def exF (fu : Nat) : Code → Fx
  | .skip => .mk fun fr h n ds => .ok .nrm fr h n ds
  | .label _ => .mk fun fr h n ds => .ok .nrm fr h n ds
  | .region _ ops draw => match draw with
    | false => opsF X call nt ops.toList ops.toList
    | true => .mk fun fr h n ds => regC X call nt ops.toList true fr h n ds
  | .seq a b => .mk fun fr h n ds => match (exF fu a).run fr h n ds with
    | .ok .nrm fr h n ds => (exF fu b).run fr h n ds
    | r => r
  | .cond c a b => .mk fun fr h n ds => match oB (copd fr c) with
    | some true => (exF fu a).run fr h n ds
    | some false => (exF fu b).run fr h n ds
    | none => .bad "cond"
  | .block id c => .mk fun fr h n ds => match (exF fu c).run fr h n ds with
    | .ok (.ext j) fr h n ds => match Nat.beq j id with
      | true => .ok .nrm fr h n ds
      | false => .ok (.ext j) fr h n ds
    | r => r
  | .loop c => .mk fun fr h n ds => loopF (exF fu c) fu fr h n ds
  | .exit id => .mk fun fr h n ds => .ok (.ext id) fr h n ds
  | .ret => .mk fun fr h n ds => .ok .ret fr h n ds
  | _ => .mk fun _ _ _ _ => .bad "code"
end

def resC (fr : Tr V) (h : Tr CB) : List ResultVar → Option (List V)
  | [] => some []
  | .tmp t :: r => match resC fr h r with
    | some vs => some (fr.get .top t :: vs)
    | none => none
  | .cell a t :: r => match cload X t h (fr.get .top a) with
    | some v => match resC fr h r with
      | some vs => some (v :: vs)
      | none => none
    | none => none

def frm {R : Type} : List V → Nat → Tr V → (Tr V → R) → R
  | [], _, fr, K => K fr
  | v :: r, i, fr, K => Tr.put .top v 64 fr i fun fr => frm r (Nat.succ i) fr K

/-- what is deferred, when nothing panicked: it asks for a panic, and does nothing -/
def isRecover : Op → Bool
  | .call { callee := .builtin .recover, .. } => true
  | _ => false
def opsD (nt : Nat) (all : List Oper) : List Oper → Tr V → Tr CB → (Tr V → Option (Ex × Tr V)) → Option (Ex × Tr V)
  | [], fr, _, K => K fr
  | o :: r, fr, h, K => match gd all o fr with
    | some true => match isRecover o.op with
      | true => landK nt o.dst .nili fr (fun fr => opsD nt all r fr h K) none
      | false => match cq X fr h o.op with
        | some v => fV v fun v => landK nt o.dst v fr (fun fr => opsD nt all r fr h K) none
        | none => none
    | some false => landK nt o.dst (.tup []) fr (fun fr => opsD nt all r fr h K) none
    | none => none
def execD (nt : Nat) : Nat → Code → Tr V → Tr CB → Option (Ex × Tr V)
  | 0, _, _, _ => none
  | f + 1, c, fr, h => match c with
    | .skip => some (.nrm, fr)
    | .region _ ops draw => match draw with
      | false => opsD X nt ops.toList ops.toList fr h fun fr => some (.nrm, fr)
      | true => none
    | .seq a b => match execD nt f a fr h with
      | some (.nrm, fr) => execD nt f b fr h
      | r => r
    | .cond c a b => match oB (copd fr c) with
      | some true => execD nt f a fr h
      | some false => execD nt f b fr h
      | none => none
    | .ret => some (.ret, fr)
    | _ => none

variable (P : Program) (xt : FuncId → List V → Option V) (orc : FuncId → List V → Tr CB → Option V) (fuel : Nat)
def dfr : List (FuncId × List V) → Tr CB → Bool
  | [], _ => true
  | (f, as) :: r, h => match P.funcs[f]? with
    | none => false
    | some fn => match fn.body with
      | none => false
      | some c => match Nat.ble as.length fn.ntmps && Nat.blt fn.ntmps 4294967296 && !(fn.name == "runtime.NumGoroutine") with
        | false => false
        | true => frm as 0 .lf fun fr => match execD X fn.ntmps 1000 c fr h with
          | some (.nrm, fr) => match resC X fr h fn.results.toList with
            | some _ => dfr r h
            | none => false
          | some (.ret, fr) => match resC X fr h fn.results.toList with
            | some _ => dfr r h
            | none => false
          | _ => false

def runF : Nat → FuncId → List V → Tr CB → Nat → Cr
  | 0, _, _, _, _ => .bad "depth"
  | d + 1, f, as, h, n => match P.funcs[f]? with
    | none => .bad "func"
    | some fn => match fn.body with
      | none => match xt f as with
        | some v => fV v fun v => .ok v h n
        | none => .bad ("extern " ++ fn.name)
      | some c => match orc f as h with
       | some v => fV v fun v => .ok v h n
       | none => match Nat.ble as.length fn.ntmps && Nat.blt fn.ntmps 4294967296 && !(fn.name == "runtime.NumGoroutine") with
        | false => .bad "frame"
        | true => frm as 0 .lf fun fr => match (exF X (runF d) fn.ntmps fuel c).run fr h n [] with
          | .bad w => .bad (fn.name ++ "." ++ w)
          | .ok (.ext _) _ _ _ _ => .bad "exit"
          | .ok _ fr h n ds => match dfr X P ds h with
            | true => match resC X fr h fn.results.toList with
              | some vs => fV (tupled vs) fun v => .ok v h n
              | none => .bad "results"
            | false => .bad "deferred"

/- functions without a body -/
def idxB (c : Nat) : List UInt8 → Nat → Int
  | [], _ => -1
  | b :: r, i => match Nat.beq b.toNat c with
    | true => (i : Int)
    | false => idxB c r (Nat.succ i)
def xIndexByte : List V → Option V
  | [.str s, .int .u8 c] => match Nat.blt c.toNat 256 with
    | true => some (.int .i64 (idxB c.toNat s.data.toList 0))
    | false => none
  | _ => none
def xAdd64 : List V → Option V
  | [.int .u64 x, .int .u64 y, .int .u64 c] => match !(ltI x 0) && !(ltI y 0) && !(ltI c 0) && Nat.ble c.toNat 1 with
    | true => some (.tup [.int .u64 (Int.ofNat (Nat.mod (Nat.add (Nat.add x.toNat y.toNat) c.toNat) 18446744073709551616)), .int .u64 (Int.ofNat (Nat.div (Nat.add (Nat.add x.toNat y.toNat) c.toNat) 18446744073709551616))])
    | false => none
  | _ => none
end
end Ev
