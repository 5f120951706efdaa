/- The evaluator AM: values, heap, operations. -/
import GoSem.Step
import Derived.Test.YtakcafdfbnibkaaGreatDoorZ0
namespace Go.AM

/-- Values as the evaluator holds them: what is only read is a tree, what is owned lies in a heap of its own. -/
inductive AV where
  | bool (b : Bool)
  | int (k : IntKind) (n : Int)
  | str (s : List UInt8)
  | nilptr
  | ptr (b i j : Nat)
  | iptr (row : List (List AV)) (i j : Nat)
  | nilsl
  | sl (b off len k : Nat) (cap : Option Nat)
  | isl (row : List (List AV)) (cap : Option Nat)
  | nilmap
  | map (b : Nat)
  | func (fn : FuncId) (first captured : List AV)
  | nilfunc
  | iface (t : Nat) (v : AV)
  | niliface
  | agg (cells : List AV)
  | tuple (vs : List AV)
  deriving Inhabited

def undef : AV := .tuple []

inductive Blk where
  | cells (slack : Bool) (k : Nat) (rows : List (List AV))
  | imm (k : Nat) (rows : List (List AV))
  | map (es : List (AV × AV × Nat)) (clock : Nat)
  | iter (m : Option Nat) (since : Nat) (seen : List Nat) (last : Nat)
  | dead
  deriving Inhabited

/-- A tree: numbers from 0 on are its keys. -/
inductive T (α : Type) where
  | nil
  | node (l : T α) (v : Option α) (r : T α)

/-- The bits of a number above 0, the lowest first, without the highest. -/
noncomputable def bits : Nat → Nat → List Bool :=
  Nat.rec (motive := fun _ => Nat → List Bool) (fun _ => [])
    (fun _ p i => cond (Nat.ble i (nat_lit 1)) [] (Nat.beq (Nat.mod i (nat_lit 2)) (nat_lit 1) :: p (Nat.div i (nat_lit 2))))
/-- A key as a path. -/
noncomputable def path (i : Nat) : List Bool := bits (Nat.succ i) (Nat.succ i)

noncomputable def T.get {α : Type} (p : List Bool) : T α → Option α :=
  List.rec (motive := fun _ => T α → Option α)
    (fun t => T.rec (motive := fun _ => Option α) none (fun _ v _ _ _ => v) t)
    (fun b _ g t => T.rec (motive := fun _ => Option α) none (fun l _ r _ _ => g (Bool.rec (motive := fun _ => T α) l r b)) t) p

noncomputable def T.set {α : Type} (a : α) (p : List Bool) : T α → T α :=
  List.rec (motive := fun _ => T α → T α)
    (fun t => T.rec (motive := fun _ => T α) (.node .nil (some a) .nil) (fun l _ r _ _ => .node l (some a) r) t)
    (fun b _ s t => T.rec (motive := fun _ => T α)
      (Bool.rec (motive := fun _ => T α) (.node (s .nil) none .nil) (.node .nil none (s .nil)) b)
      (fun l v r _ _ => Bool.rec (motive := fun _ => T α) (.node (s l) v r) (.node l v (s r)) b) t) p

abbrev Tmps := T AV
noncomputable def tget (t : Tmps) (i : Nat) : AV :=
  Option.rec (motive := fun _ => AV) undef (fun v => v) (T.get (path i) t)
noncomputable def tset (t : Tmps) (i : Nat) (v : AV) : Tmps := T.set v (path i) t
noncomputable def tinit : Nat → List AV → Tmps → Tmps
  | _, [], t => t
  | i, v :: vs, t => tinit (i + 1) vs (tset t i v)

noncomputable section
/-- Blocks by their numbers. -/
abbrev Heap := T Blk
def Heap.empty : Heap := .nil
def Heap.get (h : Heap) (b : Nat) : Option Blk := T.get (path b) h
def Heap.put (h : Heap) (b : Nat) (x : Blk) : Heap := T.set x (path b) h

/-- What an operation does to the heap: it reads blocks, writes them, makes one of its own number. -/
inductive Eff where
  | fail
  | ret (v : AV)
  | rd (b : Nat) (k : Blk → Eff)
  | wr (b : Nat) (x : Blk) (k : Eff)
  | nw (x : Blk) (k : Eff)

/-- What an operation comes to: a value (or none), and the heap. -/
abbrev Out := Option (AV × Heap)

def Eff.run (id : Nat) (e : Eff) : Heap → Out :=
  Eff.rec (motive := fun _ => Heap → Out) (fun _ => none) (fun v h => some (v, h))
    (fun b _ k h => Option.rec (motive := fun _ => Out) none (fun x => k x h) (Heap.get h b))
    (fun b x _ k h => k (Heap.put h b x))
    (fun x _ k h => Option.rec (motive := fun _ => Out) (k (Heap.put h id x)) (fun _ => none) (Heap.get h id)) e

/-- The blocks that it asks, and those that it writes. -/
structure Met where
  rd : List Nat
  wr : List Nat
def Eff.met (id : Nat) (e : Eff) : Heap → Met :=
  Eff.rec (motive := fun _ => Heap → Met) (fun _ => ⟨[], []⟩) (fun _ _ => ⟨[], []⟩)
    (fun b _ k h => match Heap.get h b with
      | some x => ⟨b :: (k x h).rd, (k x h).wr⟩
      | none => ⟨[], []⟩)
    (fun b x _ k h => ⟨(k (Heap.put h b x)).rd, b :: (k (Heap.put h b x)).wr⟩)
    (fun x _ k h => ⟨id :: (k (Heap.put h id x)).rd, id :: (k (Heap.put h id x)).wr⟩) e

def Eff.of (v : Option AV) : Eff := Option.rec (motive := fun _ => Eff) .fail (fun v => .ret v) v

/-- What a type is, as far as the evaluator asks. -/
inductive Kd where
  | int (k : IntKind) | bool | str | ptr (e : Nat) | slice (e : Nat) | map (k e : Nat)
  | struct (fs : List (Nat × Nat)) (flat : Bool)   -- offset and type of each field; may it be compared cell by cell
  | array (n e : Nat) | iface | func | other
  deriving Inhabited
structure TI where
  agg : Bool
  size : Nat
  bytes : Nat
  zero : List AV
  kd : Kd
  deriving Inhabited

structure Env where
  ty : Nat → Option TI
  fn : FuncId → Option Func
  meth : Nat → String → Option FuncId
  /-- functions that are run in their caller's heap -/
  shared : FuncId → Bool
  fuel : Nat

def AV.cells : AV → List AV
  | .agg cs => cs
  | v => [v]

/-- A constant of the program as a value. -/
def ofConst : Value → Option AV
  | .bool b => some (.bool b)
  | .int k n => some (.int k n)
  | .string s => some (.str s.data.toList)
  | .pointer none => some .nilptr
  | .slice none 0 0 => some .nilsl
  | .map none => some .nilmap
  | .nilFunc => some .nilfunc
  | .nilIface => some .niliface
  | _ => none

def constAll : List Value → Option (List AV)
  | [] => some []
  | v :: vs => match ofConst v, constAll vs with
    | some x, some xs => some (x :: xs)
    | _, _ => none
def zeroOf (v : Value) : Option (List AV) := constAll v.cells.toList

section
variable (E : Env)

/-- The address of a table that is told. -/
def globV (g : Nat) : Option AV :=
  match globN g with
  | some (k, l) => some (.iptr [l.map (AV.int k)] 0 0)
  | none => none
noncomputable def evalOp (t : Tmps) (x : Operand) : Option AV :=
  Operand.rec (motive := fun _ => Option AV) (tmp := fun i => some (tget t i)) (const := ofConst) (global := globV)
    (func := fun f => some (.func f [] [])) x

/-- The cells of a type at a place of an element. -/
def cut (ti : TI) (el : List AV) (j : Nat) : Option AV :=
  bif ti.agg then
    let cs := (el.drop j).take ti.size
    bif cs.length.beq ti.size then some (.agg cs) else none
  else (el[j]?)

def setAt (el : List AV) (j : Nat) : List AV → Option (List AV)
  | [] => some el
  | v :: vs => bif j.blt el.length then setAt (el.set j v) (j + 1) vs else none

/-- May a value lie in one cell? -/
def isCell : AV → Bool
  | .agg _ => false
  | .tuple _ => false
  | _ => true

def rowsOf : Blk → Option (List (List AV))
  | .cells _ _ rows => some rows
  | .imm _ rows => some rows
  | _ => none

def cutAt (ti : TI) (rows : List (List AV)) (i j : Nat) : Option AV :=
  match rows[i]? with
  | some el => cut ti el j
  | none => none
def cutBlk (ti : TI) (i j : Nat) (x : Blk) : Option AV :=
  match rowsOf x with
  | some rows => cutAt ti rows i j
  | none => none

def doLoad (ti : TI) (a : AV) : Eff :=
  match a with
  | .ptr b i j => .rd b fun x => .of (cutBlk ti i j x)
  | .iptr rows i j => .of (cutAt ti rows i j)
  | _ => .fail

def storeRows (ti : TI) (rows : List (List AV)) (i j : Nat) (v : AV) : Option (List (List AV)) :=
  match rows[i]? with
  | some el =>
    bif v.cells.length.beq ti.size && v.cells.all isCell && (0).blt ti.size then
      match setAt el j v.cells with
      | some el' => some (rows.set i el')
      | none => none
    else none
  | none => none
def doStore (ti : TI) (a v : AV) : Eff :=
  match a with
  | .ptr b i j => .rd b fun x => match x with
    | .cells s k rows => match storeRows ti rows i j v with
      | some rows => .wr b (.cells s k rows) (.ret undef)
      | none => .fail
    | _ => .fail
  | _ => .fail

def doAlloc (id : Nat) (cells : List AV) : Eff :=
  bif (0).blt cells.length && cells.all isCell then .nw (.cells false cells.length [cells]) (.ret (.ptr id 0 0)) else .fail

def fillAt (place : Nat → Option (Nat × Nat)) (cells : List AV) : List (Nat × AV) → Option (List AV)
  | [] => some cells
  | (i, v) :: rest =>
    match place i with
    | none => none
    | some (off, size) =>
      bif v.cells.length.beq size && (off + v.cells.length).ble cells.length && v.cells.all isCell then
        match setAt cells off v.cells with
        | some cells => fillAt place cells rest
        | none => none
      else none

def fillRows (size : Nat) (rows : List (List AV)) : List (Nat × AV) → Option (List (List AV))
  | [] => some rows
  | (i, v) :: rest =>
    bif v.cells.length.beq size && i.blt rows.length && v.cells.all isCell then fillRows size (rows.set i v.cells) rest else none

def placesOf : List (Nat × Nat) → Option (List (Nat × Nat))
  | [] => some []
  | (off, t) :: fs => match E.ty t with
    | some ti => match placesOf fs with
      | some ps => some ((off, ti.size) :: ps)
      | none => none
    | none => none

/-- Below, at numbers told by their signs. -/
def ilt (a b : Int) : Bool :=
  Int.rec (motive := fun _ => Bool)
    (fun m => Int.rec (motive := fun _ => Bool) (fun n => Nat.blt m n) (fun _ => false) b)
    (fun m => Int.rec (motive := fun _ => Bool) (fun _ => true) (fun n => Nat.blt n m) b) a
def ieq (a b : Int) : Bool :=
  Int.rec (motive := fun _ => Bool)
    (fun m => Int.rec (motive := fun _ => Bool) (fun n => Nat.beq m n) (fun _ => false) b)
    (fun m => Int.rec (motive := fun _ => Bool) (fun _ => false) (fun n => Nat.beq n m) b) a
def small (n : Int) : Bool :=
  Int.rec (motive := fun _ => Bool) (fun m => Nat.blt m (nat_lit 9223372036854775808)) (fun m => Nat.blt m (nat_lit 9223372036854775808)) n
def is64 (k : IntKind) : Bool :=
  match k with
  | .i64 => true
  | _ => false
/-- The wrap of a kind; what needs none is told at once. -/
def wrapF (k : IntKind) (n : Int) : Int := bif is64 k && small n then n else k.wrap n

def kindNo (k : IntKind) : Nat :=
  IntKind.rec (motive := fun _ => Nat) (nat_lit 0) (nat_lit 1) (nat_lit 2) (nat_lit 3) (nat_lit 4) (nat_lit 5) (nat_lit 6) (nat_lit 7) k
def sameKind (k k' : IntKind) : Bool := Nat.beq (kindNo k) (kindNo k')

def bitsOp (op : BinOp) (k : IntKind) (x y : Int) : Option AV :=
  let a := BitVec.ofInt k.bits x
  let b := BitVec.ofInt k.bits y
  match op with
  | .and => some (.int k (k.wrap (a &&& b).toNat))
  | .or => some (.int k (k.wrap (a ||| b).toNat))
  | .xor => some (.int k (k.wrap (a ^^^ b).toNat))
  | .andNot => some (.int k (k.wrap (a &&& ~~~b).toNat))
  | _ => none

def strOp (op : BinOp) (x y : List UInt8) : Option AV :=
  match op with
  | .add => bif (x.length + y.length).blt (2 ^ 40) then some (.str (x ++ y)) else none
  | .eql => some (.bool (x == y))
  | .neq => some (.bool !(x == y))
  | .lss => some (.bool (Op.bytesLess x y))
  | .leq => some (.bool (Op.bytesLess x y || x == y))
  | .gtr => some (.bool !(Op.bytesLess x y || x == y))
  | .geq => some (.bool !(Op.bytesLess x y))
  | _ => none

/-- Numbers, bools, strings of a kind, told apart. -/
def eqCell (kd : Kd) (x y : AV) : Option Bool :=
  match kd with
  | .int _ => match x with
    | .int k a => match y with
      | .int k' b => bif sameKind k k' then some (ieq a b) else none
      | _ => none
    | _ => none
  | .bool => match x with
    | .bool a => match y with
      | .bool b => some (a == b)
      | _ => none
    | _ => none
  | .str => match x with
    | .str a => match y with
      | .str b => some (a == b)
      | _ => none
    | _ => none
  | _ => none

/-- A struct's cells, field by field. -/
def eqCells : List (Nat × Nat) → List AV → List AV → Option Bool
  | [], [], [] => some true
  | (_, ft) :: fs, x :: xs, y :: ys => match E.ty ft with
    | some fi => match eqCell fi.kd x y with
      | some a => bif a then eqCells fs xs ys else some false
      | none => none
    | none => none
  | _, _, _ => none

def isPtr : AV → Bool
  | .ptr _ _ _ | .iptr _ _ _ => true
  | _ => false
def isSl : AV → Bool
  | .sl _ _ _ _ _ | .isl _ _ => true
  | _ => false
def isMap : AV → Bool
  | .map _ => true
  | _ => false
def isFunc : AV → Bool
  | .func _ _ _ => true
  | _ => false
/-- Against nil: 'nil' and 'some' tell which is which. -/
def eqNil (nil some' : AV → Bool) (x y : AV) : Option Bool :=
  bif nil x then (bif nil y then some true else bif some' y then some false else none)
  else bif some' x && nil y then some false else none
def nilP : AV → Bool
  | .nilptr => true
  | _ => false
def nilS : AV → Bool
  | .nilsl => true
  | _ => false
def nilM : AV → Bool
  | .nilmap => true
  | _ => false
def nilF : AV → Bool
  | .nilfunc => true
  | _ => false
def eqAgg (fs : List (Nat × Nat)) (x y : AV) : Option Bool :=
  match x with
  | .agg xs => match y with
    | .agg ys => eqCells E fs xs ys
    | _ => none
  | _ => none
def eqVal (ti : TI) (x y : AV) : Option Bool :=
  match ti.kd with
  | .int _ => eqCell ti.kd x y
  | .bool => eqCell ti.kd x y
  | .str => eqCell ti.kd x y
  | .ptr _ => eqNil nilP isPtr x y
  | .slice _ => eqNil nilS isSl x y
  | .map _ _ => eqNil nilM isMap x y
  | .func => eqNil nilF isFunc x y
  | .struct fs flat => bif flat then eqAgg E fs x y else none
  | _ => none

def intBin (op : BinOp) (k : IntKind) (a b : Int) : Option AV :=
  match op with
  | .add => some (.int k (wrapF k (a + b)))
  | .sub => some (.int k (wrapF k (a - b)))
  | .mul => some (.int k (wrapF k (a * b)))
  | .quo => bif ieq b 0 then none else some (.int k (wrapF k (a.tdiv b)))
  | .rem => bif ieq b 0 then none else some (.int k (a.tmod b))
  | .and => bitsOp .and k a b
  | .or => bitsOp .or k a b
  | .xor => bitsOp .xor k a b
  | .andNot => bitsOp .andNot k a b
  | .eql => some (.bool (ieq a b))
  | .neq => some (.bool !(ieq a b))
  | .lss => some (.bool (ilt a b))
  | .leq => some (.bool !(ilt b a))
  | .gtr => some (.bool (ilt b a))
  | .geq => some (.bool !(ilt a b))
  | _ => none

def shiftOp (op : BinOp) (k : IntKind) (a b : Int) : Option AV :=
  if b < 0 then none else match op with
    | .shl => some (.int k (wrapF k (a * 2 ^ (min b.toNat k.bits))))
    | .shr => some (.int k (a.fdiv (2 ^ (min b.toNat k.bits))))
    | _ => none

def isShift : BinOp → Bool
  | .shl => true
  | .shr => true
  | _ => false

def intOp (op : BinOp) (k k' : IntKind) (a b : Int) : Option AV :=
  bif isShift op then shiftOp op k a b else bif sameKind k k' then intBin op k a b else none

def eqBin (op : BinOp) (xt : Nat) (x y : AV) : Option AV :=
  match E.ty xt with
  | some ti => match eqVal E ti x y with
    | some b => match op with
      | .eql => some (.bool b)
      | .neq => some (.bool !b)
      | _ => none
    | none => none
  | none => none

def binInt (op : BinOp) (k : IntKind) (a : Int) (y : AV) : Option AV :=
  match y with
  | .int k' b => intOp op k k' a b
  | _ => none
def binStr (op : BinOp) (a : List UInt8) (y : AV) : Option AV :=
  match y with
  | .str b => strOp op a b
  | _ => none
def binOp (op : BinOp) (xt : Nat) (x y : AV) : Option AV :=
  match x with
  | .int k a => binInt op k a y
  | .str a => binStr op a y
  | .iface _ _ => none
  | .niliface => none
  | .tuple _ => none
  | _ => eqBin E op xt x y

def unOp (op : UnOp) (x : AV) : Option AV :=
  match op, x with
  | .neg, .int k n => some (.int k (wrapF k (0 - n)))
  | .xor, .int k n => bitsOp .xor k (if k.signed then -1 else k.max) n
  | .not, .bool b => some (.bool !b)
  | _, _ => none

def convert (src dst : Nat) (x : AV) : Option AV :=
  match E.ty src, E.ty dst with
  | some _, some d => match d.kd, x with
    | .int k, .int _ n => some (.int k (wrapF k n))
    | .str, .str s => some (.str s)
    | _, _ => none
  | _, _ => none

def nonNeg (n : Int) : Option Nat := Int.rec (motive := fun _ => Option Nat) (fun m => some m) (fun _ => none) n
def asNat (v : AV) : Option Nat :=
  match v with
  | .int _ n => nonNeg n
  | _ => none

def optNat : Option AV → Option (Option Nat)
  | none => some none
  | some v => (asNat v).map some

def strCut (s : List UInt8) (lo hi mx : Option Nat) : Eff :=
  bif mx.isNone && (lo.getD 0).ble (hi.getD s.length) && (hi.getD s.length).ble s.length then
    .ret (.str ((s.drop (lo.getD 0)).take (hi.getD s.length - lo.getD 0))) else .fail
def headOk (size : Nat) (rows : List (List AV)) : Bool :=
  match rows with
  | [] => true
  | e :: _ => e.length.beq size
def islCut (size : Nat) (row : List (List AV)) (cap : Option Nat) (lo hi mx : Option Nat) : Eff :=
  let rows := (row.drop (lo.getD 0)).take (hi.getD row.length - lo.getD 0)
  bif (lo.getD 0).ble (hi.getD row.length) && (hi.getD row.length).ble row.length && headOk size rows then
    match mx with
    | none => .ret (.isl rows (cap.map (· - lo.getD 0)))
    | some m => bif !hi.isNone && (hi.getD row.length).ble m && m.ble row.length then .ret (.isl rows (some (m - lo.getD 0))) else .fail
  else .fail
/-- Is there surely room for so many? -/
def roomFor (n off len : Nat) (cap : Option Nat) : Bool :=
  match cap with
  | some c => n.ble c
  | none => (off + n).ble len
def slCut (b off len k : Nat) (cap : Option Nat) (lo hi mx : Option Nat) (n : Nat) : Eff :=
  bif (lo.getD 0).ble (hi.getD len) && (off + hi.getD len).ble n && roomFor (hi.getD len) off n cap then
    match mx with
    | none => .ret (.sl b (off + lo.getD 0) (hi.getD len - lo.getD 0) k (cap.map (· - lo.getD 0)))
    | some m => bif !hi.isNone && (hi.getD len).ble m && roomFor m off n cap then .ret (.sl b (off + lo.getD 0) (hi.getD len - lo.getD 0) k (some (m - lo.getD 0))) else .fail
  else .fail
def isZ (n : Option Nat) : Bool := (n.getD 0).beq 0
def sliceSl (size : Nat) (x : AV) (lo hi mx : Option Nat) : Eff :=
  match x with
  | .nilsl => bif isZ lo && isZ hi && isZ mx && (mx.isNone || !hi.isNone) then .ret .nilsl else .fail
  | .isl row cap => islCut size row cap lo hi mx
  | .sl b off len k cap => bif k.beq size then .rd b fun x => match rowsOf x with
    | some rows => slCut b off len k cap lo hi mx rows.length
    | none => .fail
    else .fail
  | _ => .fail
def sliceStr (x : AV) (lo hi mx : Option Nat) : Eff :=
  match x with
  | .str s => strCut s lo hi mx
  | _ => .fail
def sliceOf (ti : TI) (x : AV) (lo hi mx : Option Nat) : Eff :=
  match ti.kd with
  | .str => sliceStr x lo hi mx
  | .slice e => match E.ty e with
    | some ei => sliceSl ei.size x lo hi mx
    | none => .fail
  | _ => .fail

/-- The elements that lie in a block from a place on. -/
def sect (off len : Nat) (x : Blk) : Option (List (List AV)) :=
  match rowsOf x with
  | some rows =>
    let es := (rows.drop off).take len
    bif es.length.beq len then some es else none
  | none => none

/-- The elements that a slice has, copied out. -/
def withElems (x : AV) (k : List (List AV) → Eff) : Eff :=
  match x with
  | .nilsl => k []
  | .isl row _ => k row
  | .sl b off len _ _ => .rd b fun x => match sect off len x with
    | some es => k es
    | none => .fail
  | .str s => k (s.map fun b => [.int .u8 b.toNat])
  | _ => .fail

def lenSl (x : AV) : Eff :=
  match x with
  | .nilsl => .ret (.int .i64 (0 : Nat))
  | .isl row _ => .ret (.int .i64 row.length)
  | .sl _ _ len _ _ => .ret (.int .i64 len)
  | _ => .fail
def lenStr (x : AV) : Eff :=
  match x with
  | .str s => .ret (.int .i64 s.length)
  | _ => .fail
def lenMap (x : AV) : Eff :=
  match x with
  | .nilmap => .ret (.int .i64 (0 : Nat))
  | .map b => .rd b fun x => match x with
    | .map es _ => .ret (.int .i64 es.length)
    | _ => .fail
  | _ => .fail

def bound : Nat := 2 ^ 32

def putRows (rows : List (List AV)) (off : Nat) : List (List AV) → List (List AV)
  | [] => rows
  | e :: es => putRows (rows.set off e) (off + 1) es

/-- A new block for what does not fit. -/
def regrow (id size : Nat) (old new : List (List AV)) : Eff :=
  bif (old.length + new.length).ble bound then
    .nw (.cells true size (old ++ new)) (.ret (.sl id 0 (old.length + new.length) size none))
  else .fail

def inPlace (b off len size : Nat) (cap : Option Nat) (slack : Bool) (rows new : List (List AV)) : Eff :=
  .wr b (.cells slack size (putRows rows (off + len) new)) (.ret (.sl b off (len + new.length) size cap))

/-- The capacity is known: it fits, or a new block is made. -/
def appendCap (id size b off len c : Nat) (slack : Bool) (rows new : List (List AV)) : Eff :=
  bif (len + new.length).ble c then
    bif (off + len + new.length).ble rows.length then inPlace b off len size (some c) slack rows new else .fail
  else regrow id size ((rows.drop off).take len) new
/-- The slice reaches as far as its block. -/
def appendEnd (id size b off len : Nat) (slack : Bool) (rows new : List (List AV)) : Eff :=
  bif (off + len + new.length).ble rows.length then inPlace b off len size none slack rows new
  else bif slack then .wr b .dead (regrow id size ((rows.drop off).take len) new)
  else regrow id size ((rows.drop off).take len) new

def appendSl (id size b off len : Nat) (cap : Option Nat) (new : List (List AV)) (x : Blk) : Eff :=
  match x with
  | .cells slack k rows => bif k.beq size && (off + len).ble rows.length then (match cap with
    | some c => appendCap id size b off len c slack rows new
    | none => appendEnd id size b off len slack rows new) else .fail
  | .imm k rows => match cap with
    | some c => bif c.blt (len + new.length) && k.beq size && (off + len).ble rows.length then regrow id size ((rows.drop off).take len) new else .fail
    | none => .fail
  | _ => .fail

def isSlice : AV → Bool
  | .nilsl => true
  | .isl _ _ => true
  | .sl _ _ _ _ _ => true
  | _ => false

def appendIsl (id size : Nat) (row : List (List AV)) (cap : Option Nat) (new : List (List AV)) : Eff :=
  match cap with
  | some c => bif c.blt (row.length + new.length) && row.all (fun e => e.length.beq size) then regrow id size row new else .fail
  | none => .fail

def doAppend (id : Nat) (ti : TI) (s : AV) (new : List (List AV)) : Eff :=
  bif new.isEmpty then (bif isSlice s then .ret s else .fail)
  else bif new.all (fun e => e.length.beq ti.size) && (0).blt ti.size && ti.bytes.ble 32768 && ti.zero.length.beq ti.size then
    match s with
    | .nilsl => regrow id ti.size [] new
    | .isl row cap => appendIsl id ti.size row cap new
    | .sl b off len _ cap => .rd b (appendSl id ti.size b off len cap new)
    | _ => .fail
  else .fail

def copyIn (size b off : Nat) (es : List (List AV)) (x : Blk) : Eff :=
  match x with
  | .cells slack k rows =>
    bif k.beq size && (off + es.length).ble rows.length then
      .wr b (.cells slack k (putRows rows off es)) (.ret (.int .i64 es.length))
    else .fail
  | _ => .fail
def copyTo (size : Nat) (d : AV) (es : List (List AV)) : Eff :=
  match d with
  | .nilsl => .ret (.int .i64 0)
  | .sl b off len _ _ =>
    bif (es.take len).isEmpty then .ret (.int .i64 0)
    else bif es.all (fun e => e.length.beq size) then .rd b (copyIn size b off (es.take len)) else .fail
  | _ => .fail
def doCopy (size : Nat) (d s : AV) : Eff := withElems s (copyTo size d)

def clearIn (ti : TI) (b off len : Nat) (x : Blk) : Eff :=
  match x with
  | .cells slack k rows =>
    bif k.beq ti.size && ti.zero.length.beq ti.size && (off + len).ble rows.length then
      .wr b (.cells slack k (putRows rows off (List.replicate len ti.zero))) (.ret undef)
    else .fail
  | _ => .fail
def clearSl (ti : TI) (x : AV) : Eff :=
  match x with
  | .nilsl => .ret undef
  | .sl b off len _ _ => bif len.beq 0 then .ret undef else .rd b (clearIn ti b off len)
  | _ => .fail
def clearMap (x : AV) : Eff :=
  match x with
  | .nilmap => .ret undef
  | .map b => .rd b fun x => match x with
    | .map _ clock => .wr b (.map [] clock) (.ret undef)
    | _ => .fail
  | _ => .fail

def findKey (ti : TI) (k : AV) : List (AV × AV × Nat) → Nat → Option (Option (Nat × AV × Nat))
  | [], _ => some none
  | (k', v, born) :: es, i =>
    match eqCell ti.kd k k' with
    | some true => some (some (i, v, born))
    | some false => findKey ti k es (i + 1)
    | none => none

/-- May it be a key of a type? -/
def keyOk (ti : TI) (k : AV) : Bool :=
  match ti.kd with
  | .int _ => match k with
    | .int _ _ => true
    | _ => false
  | .str => match k with
    | .str _ => true
    | _ => false
  | .bool => match k with
    | .bool _ => true
    | _ => false
  | _ => false

def zeroAV (ti : TI) : Option AV :=
  bif ti.agg then some (.agg ti.zero) else match ti.zero with
    | [v] => some v
    | _ => none

/-- What a map's keys are, and the type of its elements; may the key be asked for? -/
def mapTy (mt : Nat) (k : AV) : Option (TI × Nat) :=
  match E.ty mt with
  | some ti => match ti.kd with
    | .map kt et => match E.ty kt with
      | some ki => bif keyOk ki k then some (ki, et) else none
      | none => none
    | _ => none
  | none => none

def okPair (ok there : Bool) (v : AV) : AV := bif ok then .tuple [v, .bool there] else v
def zeroAt (et : Nat) : Option AV :=
  match E.ty et with
  | some ti => zeroAV ti
  | none => none
def lookIn (ki : TI) (et : Nat) (k : AV) (ok : Bool) (es : List (AV × AV × Nat)) : Option AV :=
  match findKey ki k es 0 with
  | some r => match r with
    | some (_, v, _) => some (okPair ok true v)
    | none => match zeroAt E et with
      | some z => some (okPair ok false z)
      | none => none
  | none => none
def doLookup (mt : Nat) (m k : AV) (ok : Bool) : Eff :=
  match mapTy E mt k with
  | some (ki, et) => match m with
    | .nilmap => .of (lookIn E ki et k ok [])
    | .map b => .rd b fun x => match x with
      | .map es _ => .of (lookIn E ki et k ok es)
      | _ => .fail
    | _ => .fail
  | none => .fail

def updIn (ki : TI) (b : Nat) (k v : AV) (es : List (AV × AV × Nat)) (clock : Nat) : Eff :=
  match findKey ki k es 0 with
  | some r => match r with
    | some (i, _, born) => .wr b (.map (es.set i (k, v, born)) clock) (.ret undef)
    | none => .wr b (.map (es ++ [(k, v, clock)]) (clock + 1)) (.ret undef)
  | none => .fail
def doMapUpdate (mt : Nat) (m k v : AV) : Eff :=
  match mapTy E mt k with
  | some (ki, _) => match m with
    | .map b => .rd b fun x => match x with
      | .map es clock => updIn ki b k v es clock
      | _ => .fail
    | _ => .fail
  | none => .fail

def entryIn (ki : TI) (b et : Nat) (k : AV) (es : List (AV × AV × Nat)) (clock : Nat) : Eff :=
  match findKey ki k es 0 with
  | some r => match r with
    | some (i, v, born) => .wr b (.map (es.set i (k, v, born)) clock) (.ret (.tuple [v, .int .i64 born]))
    | none => match zeroAt E et with
      | some z => .wr b (.map (es ++ [(k, z, clock)]) (clock + 1)) (.ret (.tuple [z, .int .i64 clock]))
      | none => .fail
  | none => .fail
def doMapEntry (mt : Nat) (m k : AV) : Eff :=
  match mapTy E mt k with
  | some (ki, et) => match m with
    | .map b => .rd b fun x => match x with
      | .map es clock => entryIn E ki b et k es clock
      | _ => .fail
    | _ => .fail
  | none => .fail

def findBorn (n : Int) : List (AV × AV × Nat) → Nat → Option (Nat × AV × Nat)
  | [], _ => none
  | (k, _, born) :: es, i => bif ieq born n then some (i, k, born) else findBorn n es (i + 1)

def doEntryStore (m s v : AV) : Eff :=
  match m with
  | .map b => match s with
    | .int _ n => .rd b fun x => match x with
      | .map es clock => match findBorn n es 0 with
        | some (i, k, born) => .wr b (.map (es.set i (k, v, born)) clock) (.ret undef)
        | none => .fail
      | _ => .fail
    | _ => .fail
  | _ => .fail

def delIn (ki : TI) (b : Nat) (k : AV) (es : List (AV × AV × Nat)) (clock : Nat) : Eff :=
  match findKey ki k es 0 with
  | some r => match r with
    | some (i, _, _) => .wr b (.map (es.eraseIdx i) clock) (.ret undef)
    | none => .ret undef
  | none => .fail
def doDelete (mt : Nat) (m k : AV) : Eff :=
  match mapTy E mt k with
  | some (ki, _) => match m with
    | .nilmap => .ret undef
    | .map b => .rd b fun x => match x with
      | .map es clock => delIn ki b k es clock
      | _ => .fail
    | _ => .fail
  | none => .fail

/-- Does a value bear no reference at all? -/
def flat : Nat → AV → Bool
  | 0, _ => false
  | n + 1, v => match v with
    | .bool _ => true
    | .int _ _ => true
    | .str _ => true
    | .nilptr => true
    | .nilsl => true
    | .nilmap => true
    | .nilfunc => true
    | .niliface => true
    | .agg cs => cs.all (flat n)
    | .tuple cs => cs.all (flat n)
    | .iface _ v => flat n v
    | _ => false

/-- Does a value bear no reference to a heap's block? -/
def plain : Nat → AV → Bool
  | 0, _ => false
  | n + 1, v => match v with
    | .ptr _ _ _ => false
    | .sl _ _ _ _ _ => false
    | .map _ => false
    | .agg cs => cs.all (plain n)
    | .tuple cs => cs.all (plain n)
    | .iface _ v => plain n v
    | .func _ a b => a.isEmpty && b.isEmpty
    | _ => true

mutual
/-- A value as a tree: the blocks that it reaches are never written again. -/
def freeze : Nat → Heap → AV → Option (AV × Heap)
  | 0, _, _ => none
  | n + 1, h, v => match v with
    | .ptr _ _ _ | .map _ => none
    | .sl b off len _ _ =>
      match Heap.get h b with
      | some (.imm _ rows) =>
        let es := (rows.drop off).take len
        bif es.length.beq len then some (.isl es none, h) else none
      | some (.cells _ k rows) =>
        match freezeRows n h rows with
        | some (rows, h) =>
          let es := (rows.drop off).take len
          bif es.length.beq len then some (.isl es none, Heap.put h b (.imm k rows)) else none
        | none => none
      | _ => none
    | .agg cs => match freezeAll n h cs with
      | some (cs, h) => some (.agg cs, h)
      | none => none
    | .tuple cs => match freezeAll n h cs with
      | some (cs, h) => some (.tuple cs, h)
      | none => none
    | .iface t v => match freeze n h v with
      | some (v, h) => some (.iface t v, h)
      | none => none
    | .func _ a b => bif a.isEmpty && b.isEmpty then some (v, h) else none
    | v => some (v, h)
def freezeAll : Nat → Heap → List AV → Option (List AV × Heap)
  | 0, _, _ => none
  | _ + 1, h, [] => some ([], h)
  | n + 1, h, v :: vs => match freeze n h v with
    | some (v, h) => match freezeAll n h vs with
      | some (vs, h) => some (v :: vs, h)
      | none => none
    | none => none
def freezeRows : Nat → Heap → List (List AV) → Option (List (List AV) × Heap)
  | 0, _, _ => none
  | _ + 1, h, [] => some ([], h)
  | n + 1, h, v :: vs => match freezeAll n h v with
    | some (v, h) => match freezeRows n h vs with
      | some (vs, h) => some (v :: vs, h)
      | none => none
    | none => none
end

def elemTI (t : Nat) : Option TI :=
  match E.ty t with
  | some ti => match ti.kd with
    | .slice e => E.ty e
    | _ => none
  | none => none

def evalAll (t : Tmps) : List Operand → Option (List AV)
  | [] => some []
  | x :: xs => match evalOp t x, evalAll t xs with
    | some v, some vs => some (v :: vs)
    | _, _ => none
def evalParts (t : Tmps) : List (Nat × Operand) → Option (List (Nat × AV))
  | [] => some []
  | (i, x) :: xs => match evalOp t x, evalParts t xs with
    | some v, some vs => some ((i, v) :: vs)
    | _, _ => none
def mm2 (mx : Bool) (a : Option AV) (y : AV) : Option AV :=
  match a with
  | some (.int k a) => match y with
    | .int _ b => some (.int k (bif mx then (bif ilt a b then b else a) else (bif ilt b a then b else a)))
    | _ => none
  | _ => none
def minmax (mx : Bool) (l : List AV) : Option AV :=
  match l with
  | [] => none
  | x :: xs => xs.foldl (mm2 mx) (some x)

def notInt : Kd → Bool
  | .int _ => false
  | _ => true
def bAppend (id : Nat) (ats : List Nat) (args : List AV) : Eff :=
  match ats with
  | st :: xt :: _ => match args with
    | [s, x] => match elemTI E st with
      | some ti => match E.ty xt with
        | some xi => bif notInt xi.kd then withElems x (doAppend id ti s) else .fail
        | none => .fail
      | none => .fail
    | _ => .fail
  | _ => .fail
def bCopy (ats : List Nat) (args : List AV) : Eff :=
  match ats with
  | dt :: _ => match args with
    | [d, s] => match elemTI E dt with
      | some ti => doCopy ti.size d s
      | none => .fail
    | _ => .fail
  | _ => .fail
def bClear (ats : List Nat) (args : List AV) : Eff :=
  match ats with
  | t :: _ => match args with
    | [x] => match E.ty t with
      | some ti => match ti.kd with
        | .slice e => match E.ty e with
          | some ti => clearSl ti x
          | none => .fail
        | .map _ _ => clearMap x
        | _ => .fail
      | none => .fail
    | _ => .fail
  | _ => .fail
def lenAt (ti : TI) (x : AV) : Eff :=
  match ti.kd with
  | .array n _ => .ret (.int .i64 n)
  | .ptr e => match E.ty e with
    | some ei => match ei.kd with
      | .array n _ => .ret (.int .i64 n)
      | _ => .fail
    | none => .fail
  | .slice _ => lenSl x
  | .str => lenStr x
  | .map _ _ => lenMap x
  | _ => .fail
def bLen (ats : List Nat) (args : List AV) : Eff :=
  match ats with
  | t :: _ => match args with
    | [x] => match E.ty t with
      | some ti => lenAt E ti x
      | none => .fail
    | _ => .fail
  | _ => .fail
def bDelete (ats : List Nat) (args : List AV) : Eff :=
  match ats with
  | t :: _ => match args with
    | [m, k] => doDelete E t m k
    | _ => .fail
  | _ => .fail
def builtin (id : Nat) (b : Builtin) (ats : List Nat) (args : List AV) : Eff :=
  match b with
  | .append => bAppend E id ats args
  | .copy => bCopy E ats args
  | .clear => bClear E ats args
  | .len => bLen E ats args
  | .delete => bDelete E ats args
  | .min => .of (minmax false args)
  | .max => .of (minmax true args)
  | _ => .fail

/-- A call's function and arguments. -/
def callee (t : Tmps) (c : Call) : Option (FuncId × List AV) :=
  match evalAll t c.args.toList with
  | none => none
  | some args => match c.callee with
    | .value f => match evalOp t f with
      | some (.func f first captured) => some (f, first ++ (args ++ captured))
      | _ => none
    | .invoke r m => match evalOp t r with
      | some (.iface ty v) => match E.meth ty m with
        | some f => some (f, v :: args)
        | none => none
      | _ => none
    | .builtin _ => none

def withOp (t : Tmps) (x : Operand) (k : AV → Eff) : Eff :=
  match evalOp t x with
  | some v => k v
  | none => .fail
def withNat (t : Tmps) (x : Operand) (k : Nat → Eff) : Eff :=
  withOp t x fun v => match asNat v with
    | some n => k n
    | none => .fail
def withOptNat (t : Tmps) (x : Option Operand) (k : Option Nat → Eff) : Eff :=
  match x with
  | none => k none
  | some x => withNat t x fun n => k (some n)
def withTy (ty : Nat) (k : TI → Eff) : Eff :=
  match E.ty ty with
  | some ti => k ti
  | none => .fail
def withElem (ty : Nat) (k : TI → Eff) : Eff :=
  match elemTI E ty with
  | some ti => k ti
  | none => .fail
def withParts (t : Tmps) (parts : Array (Nat × Operand)) (k : List (Nat × AV) → Eff) : Eff :=
  match evalParts t parts.toList with
  | some ps => k ps
  | none => .fail
def withAll (t : Tmps) (xs : Array Operand) (k : List AV → Eff) : Eff :=
  match evalAll t xs.toList with
  | some vs => k vs
  | none => .fail

def opPick (t : Tmps) (c a b : Operand) : Eff :=
  withOp t c fun c => match c with
    | .bool c => bif c then .of (evalOp t a) else .of (evalOp t b)
    | _ => .fail
def opAlloc (id : Nat) (e : Nat) : Eff := withTy E e fun ti => doAlloc id ti.zero
def opBox (id : Nat) (t : Tmps) (v : Operand) : Eff := withOp t v fun v => doAlloc id v.cells
def aggOf (cs : Option (List AV)) : Eff :=
  match cs with
  | some cs => .ret (.agg cs)
  | none => .fail
def opBuild (t : Tmps) (bt : Nat) (parts : Array (Nat × Operand)) : Eff :=
  withTy E bt fun ti => withParts t parts fun ps => match ti.kd with
    | .struct fs _ => match placesOf E fs with
      | some pl => aggOf (fillAt (fun i => pl[i]?) ti.zero ps)
      | none => .fail
    | .array _ e => withTy E e fun ei => aggOf (fillAt (fun i => some (i * ei.size, ei.size)) ti.zero ps)
    | _ => .fail
def newRows (id len : Nat) (ti : TI) (rows : Option (List (List AV))) : Eff :=
  match rows with
  | some rows => .nw (.cells false ti.size rows) (.ret (.sl id 0 len ti.size none))
  | none => .fail
def opBuildSlice (id : Nat) (t : Tmps) (st len : Nat) (parts : Array (Nat × Operand)) : Eff :=
  withElem E st fun ti => withParts t parts fun ps =>
    bif (len * ti.size).ble (2 ^ 24) && (0).blt ti.size && ti.zero.length.beq ti.size then
      newRows id len ti (fillRows ti.size (List.replicate len ti.zero) ps)
    else .fail
def opLoad (t : Tmps) (lt : Nat) (a : Operand) : Eff := withTy E lt fun ti => withOp t a fun a => doLoad ti a
def opStore (t : Tmps) (st : Nat) (a v : Operand) : Eff :=
  withTy E st fun ti => withOp t a fun a => withOp t v fun v => doStore ti a v
def notNil : AV → Bool
  | .ptr _ _ _ => true
  | .iptr _ _ _ => true
  | .func _ _ _ => true
  | .iface _ _ => true
  | _ => false
def opNilCheck (t : Tmps) (x : Operand) : Eff := withOp t x fun v => bif notNil v then .ret v else .fail
def opBin (t : Tmps) (op : BinOp) (xt : Nat) (x y : Operand) : Eff :=
  withOp t x fun x => withOp t y fun y => .of (binOp E op xt x y)
def opUn (t : Tmps) (op : UnOp) (x : Operand) : Eff := withOp t x fun x => .of (unOp op x)
def opConvert (t : Tmps) (s d : Nat) (x : Operand) : Eff := withOp t x fun x => .of (convert E s d x)
def isIface : Kd → Bool
  | .iface => true
  | _ => false
def opMakeInterface (t : Tmps) (it : Nat) (x : Operand) : Eff :=
  withTy E it fun ti => withOp t x fun v => bif isIface ti.kd then .fail else .ret (.iface it v)
def opMakeFunc (t : Tmps) (fn : Fn) (first captured : Array Operand) : Eff :=
  match fn with
  | .func f => withAll t first fun a => withAll t captured fun b => .ret (.func f a b)
  | _ => .fail
def opMakeMap (id : Nat) (r : Option Operand) : Eff :=
  match r with
  | none => .nw (.map [] 0) (.ret (.map id))
  | some _ => .fail
def makeRows (id : Nat) (ti : TI) (l c : Nat) : Eff :=
  bif l.ble c && c.ble bound && ti.bytes.ble 32768 && (0).blt ti.size && ti.zero.length.beq ti.size then
    .nw (.cells false ti.size (List.replicate c ti.zero)) (.ret (.sl id 0 l ti.size none))
  else .fail
def opMakeSlice (id : Nat) (t : Tmps) (st : Nat) (l c : Operand) : Eff :=
  withElem E st fun ti => withNat t l fun l => withNat t c fun c => makeRows id ti l c
def opSlice (t : Tmps) (xt : Nat) (x : Operand) (lo hi mx : Option Operand) : Eff :=
  withTy E xt fun ti => withOp t x fun x => withOptNat t lo fun lo => withOptNat t hi fun hi => withOptNat t mx fun mx => sliceOf E ti x lo hi mx
def fieldOf (st f : Nat) : Option (Nat × TI) :=
  match E.ty st with
  | some ti => match ti.kd with
    | .struct fs _ => match fs[f]? with
      | some (off, ft) => match E.ty ft with
        | some fi => some (off, fi)
        | none => none
      | none => none
    | _ => none
  | none => none
def withField (st f : Nat) (k : Nat → TI → Eff) : Eff :=
  match fieldOf E st f with
  | some (off, fi) => k off fi
  | none => .fail
def moved (p : AV) (n : Nat) : Option AV :=
  match p with
  | .ptr b i j => some (.ptr b i (j + n))
  | .iptr r i j => some (.iptr r i (j + n))
  | _ => none
def opFieldAddr (t : Tmps) (st : Nat) (x : Operand) (f : Nat) : Eff :=
  withField E st f fun off fi => withOp t x fun p => bif (0).blt fi.size then .of (moved p off) else .fail
def cutAgg (fi : TI) (x : AV) (off : Nat) : Option AV :=
  match x with
  | .agg cs => cut fi cs off
  | _ => none
def opField (t : Tmps) (xt : Nat) (x : Operand) (f : Nat) : Eff :=
  withField E xt f fun off fi => withOp t x fun x => .of (cutAgg fi x off)
def slIndex (size : Nat) (x : AV) (i : Nat) : Option AV :=
  match x with
  | .sl b off len k _ => bif i.blt len && k.beq size then some (.ptr b (off + i) 0) else none
  | .isl row _ => match row[i]? with
    | some el => bif el.length.beq size then some (.iptr row i 0) else none
    | none => none
  | _ => none
def arrIndex (size n : Nat) (x : AV) (i : Nat) : Option AV := bif i.blt n then moved x (i * size) else none
def indexAddr (ti : TI) (x : AV) (i : Nat) : Option AV :=
  match ti.kd with
  | .slice e => match E.ty e with
    | some ei => slIndex ei.size x i
    | none => none
  | .array n e => match E.ty e with
    | some ei => arrIndex ei.size n x i
    | none => none
  | _ => none
def opIndexAddr (t : Tmps) (xt : Nat) (x ix : Operand) : Eff :=
  withTy E xt fun ti => withOp t x fun x => withNat t ix fun i => .of (indexAddr E ti x i)
def strAt (x : AV) (i : Nat) : Option AV :=
  match x with
  | .str s => match s[i]? with
    | some b => some (.int .u8 b.toNat)
    | none => none
  | _ => none
def indexVal (ti : TI) (x : AV) (i : Nat) : Option AV :=
  match ti.kd with
  | .str => strAt x i
  | .array n e => match E.ty e with
    | some ei => bif i.blt n then cutAgg ei x (i * ei.size) else none
    | none => none
  | _ => none
def opIndex (t : Tmps) (xt : Nat) (x ix : Operand) : Eff :=
  withTy E xt fun ti => withOp t x fun x => withNat t ix fun i => .of (indexVal E ti x i)
def opLookup (t : Tmps) (mt : Nat) (m k : Operand) (ok : Bool) : Eff :=
  withOp t m fun m => withOp t k fun k => doLookup E mt m k ok
def opMapUpdate (t : Tmps) (mt : Nat) (m k v : Operand) : Eff :=
  withOp t m fun m => withOp t k fun k => withOp t v fun v => doMapUpdate E mt m k v
def opMapEntry (t : Tmps) (mt : Nat) (m k : Operand) : Eff :=
  withOp t m fun m => withOp t k fun k => doMapEntry E mt m k
def opEntryStore (t : Tmps) (m s v : Operand) : Eff :=
  withOp t m fun m => withOp t s fun s => withOp t v fun v => doEntryStore m s v
def assertTo (t : Nat) (ok : Bool) (x : AV) : Option AV :=
  match x with
  | .iface ty v => bif ty.beq t then some (bif ok then .tuple [v, .bool true] else v) else none
  | _ => none
def opTypeAssert (t : Tmps) (x : Operand) (at_ : Nat) (ok : Bool) : Eff :=
  withTy E at_ fun ti => withOp t x fun v => bif isIface ti.kd then .fail else .of (assertTo at_ ok v)
def tupleAt (x : AV) (i : Nat) : Option AV :=
  match x with
  | .tuple vs => vs[i]?
  | _ => none
def opExtract (t : Tmps) (x : Operand) (i : Nat) : Eff := withOp t x fun x => .of (tupleAt x i)
def opBuiltin (id : Nat) (t : Tmps) (c : Call) : Eff :=
  match c.callee with
  | .builtin b => withAll t c.args fun args => builtin E id b c.argTypes.toList args
  | _ => .fail

def isMapKd : Kd → Bool
  | .map _ _ => true
  | _ => false
/-- A walk over a map begins. -/
def doRange (id : Nat) (x : AV) : Eff :=
  match x with
  | .nilmap => .nw (.iter none 0 [] 0) (.ret (.ptr id 0 0))
  | .map m => .rd m fun b => match b with
    | .map _ clock => .nw (.iter (some m) clock [] clock) (.ret (.ptr id 0 0))
    | _ => .fail
  | _ => .fail
def opRange (id : Nat) (t : Tmps) (xt : Nat) (x : Operand) : Eff :=
  withTy E xt fun ti => bif isMapKd ti.kd then withOp t x fun x => doRange id x else .fail
/-- The one entry that a walk may come to, of a map of few; 'some none': it is over. -/
def iterStep (es : List (AV × AV × Nat)) (since last : Nat) (seen : List Nat) : Option (Option (AV × AV × Nat)) :=
  bif !seen.isEmpty && !es.isEmpty && es.all (fun e => last.ble e.2.2) then none
  else match es.filter (fun e => !seen.any fun b => b.beq e.2.2) with
    | [] => some none
    | [e] => bif e.2.2.blt since then some (some e) else none
    | _ => none
def doNext (x : AV) : Eff :=
  match x with
  | .ptr r 0 0 => .rd r fun b => match b with
    | .iter none _ _ _ => .ret (.tuple [.bool false])
    | .iter (some m) since seen last => .rd m fun b => match b with
      | .map es clock => match iterStep es since last seen with
        | some none => .ret (.tuple [.bool false])
        | some (some e) => .wr r (.iter (some m) since (seen ++ [e.2.2]) clock) (.ret (.tuple [.bool true, e.1, e.2.1]))
        | none => .fail
      | _ => .fail
    | _ => .fail
  | _ => .fail
def opNext (t : Tmps) (x : Operand) (isString : Bool) : Eff :=
  bif isString then .fail else withOp t x fun x => doNext x
def entryAt (stamp : Nat) (es : List (AV × AV × Nat)) : Option AV :=
  match es.find? (fun e => e.2.2.beq stamp) with
  | some e => some (.tuple [e.1, e.2.1])
  | none => none
def doEntry (x : AV) : Eff :=
  match x with
  | .ptr r 0 0 => .rd r fun b => match b with
    | .iter (some m) _ seen last => match seen.getLast? with
      | some stamp => .rd m fun b => match b with
        | .map es clock => bif clock.beq last then .of (entryAt stamp es) else .fail
        | _ => .fail
      | none => .fail
    | _ => .fail
  | _ => .fail
def opEntry (t : Tmps) (x : Operand) : Eff := withOp t x fun x => doEntry x

/-- One operation; calls of functions stand apart. -/
def oper (id : Nat) (t : Tmps) (o : Op) : Eff :=
  Op.rec (motive := fun _ => Eff)
    (move := fun x => .of (evalOp t x))
    (assign := fun x => .of (evalOp t x))
    (pick := opPick t)
    (alloc := opAlloc E id)
    (box := fun _ => opBox id t)
    (build := opBuild E t)
    (buildSlice := opBuildSlice E id t)
    (insert := opMapUpdate E t)
    (load := opLoad E t)
    (store := opStore E t)
    (ready := fun _ => .fail)
    (waits := fun _ => .fail)
    (nilCheck := opNilCheck t)
    (binOp := fun op xt x y _ => opBin E t op xt x y)
    (unOp := fun op _ => opUn t op)
    (convert := opConvert E t)
    (sliceToArrayPointer := fun _ _ => .fail)
    (makeInterface := opMakeInterface E t)
    (makeFunc := opMakeFunc t)
    (makeMap := fun _ => opMakeMap id)
    (makeChan := fun _ _ => .fail)
    (makeSlice := opMakeSlice E id t)
    (slice := opSlice E t)
    (fieldAddr := opFieldAddr E t)
    (field := opField E t)
    (indexAddr := opIndexAddr E t)
    (index := opIndex E t)
    (lookup := opLookup E t)
    (mapUpdate := opMapUpdate E t)
    (mapEntry := opMapEntry E t)
    (entryStore := fun _ => opEntryStore t)
    (range := opRange E id t)
    (next := opNext t)
    (entry := opEntry t)
    (typeAssert := fun x _ => opTypeAssert E t x)
    (extract := opExtract t)
    (call := opBuiltin E id t)
    (go := fun _ => .fail)
    (defer := fun _ => .fail)
    (panic := fun _ => .fail)
    (send := fun _ _ => .fail)
    (recv := fun _ _ _ => .fail)
    (select := fun _ _ => .fail) o

end
end
end Go.AM
