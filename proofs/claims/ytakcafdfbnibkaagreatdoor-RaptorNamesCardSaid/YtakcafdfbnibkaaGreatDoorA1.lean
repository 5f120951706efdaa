/- The evaluator AM: code, calls. -/
import Derived.Test.YtakcafdfbnibkaaGreatDoorA3
namespace Go.AM

inductive AX where
  | normal | exit (id : Nat) | ret

structure St where
  tmps : Tmps
  heap : Heap
  next : Nat

noncomputable section
variable (E : Env)

def isB (want : Bool) (v : AV) : Bool :=
  match v with
  | .bool b => b == want
  | _ => false
def guardOk (ops : List Oper) (t : Tmps) (o : Oper) : Bool :=
  Option.rec (motive := fun _ => Bool) true (fun g => match (ops[g.1]?).bind (·.dst) with
    | some d => isB g.2 (tget t d)
    | none => false) o.guard

/-- A call: a value, the heap, the next number of a block. -/
abbrev CallFn := FuncId → List AV → Heap → Nat → Option (AV × Heap × Nat)

/-- A call that sees its arguments as trees, and whose result is a tree. -/
def pureCall (call : CallFn) (f : FuncId) (args : List AV) : Option AV :=
  match call f args .empty 0 with
  | some (v, h, _) => match freeze E.fuel h v with
    | some (v, _) => some v
    | none => none
  | none => none

/-- What is told of one operation beside its result: which blocks it met (none: any), whether it wrote. -/
structure Log where
  met : Option Met
  wrote : Bool

def docall (call : CallFn) (f : FuncId) (args : List AV) (h : Heap) (n : Nat) : Option (AV × Heap × Nat) :=
  bif E.shared f then (bif quietN f then still h n (call f args h n) else call f args h n)
  else match freezeAll E.fuel h args with
    | some (args, h') => match pureCall E call f args with
      | some v => some (v, bif flat E.fuel v then h else h', n)
      | none => none
    | none => none

/-- Does a call of these arguments leave the heap alone, and not ask it? -/
def callLog (f : FuncId) (args : List AV) (r : Option (AV × Heap × Nat)) : Log :=
  bif E.shared f then ⟨none, !quietN f⟩
  else bif args.all (plain E.fuel) then ⟨some ⟨[], []⟩, false⟩
  else match r with
    | some (v, _, _) => ⟨none, !flat E.fuel v⟩
    | none => ⟨none, true⟩

def isCallOp (o : Op) : Option Call :=
  match o with
  | .call c => match c.callee with
    | .builtin _ => none
    | _ => some c
  | _ => none

def opCall (call : CallFn) (t : Tmps) (h : Heap) (n : Nat) (c : Call) : Option (AV × Heap × Nat) :=
  match callee E t c with
  | some (f, args) => docall E call f args h n
  | none => none

def opCallLog (call : CallFn) (t : Tmps) (h : Heap) (n : Nat) (c : Call) : Log :=
  match callee E t c with
  | some (f, args) => callLog E f args (docall E call f args h n)
  | none => ⟨none, true⟩

def putTo (h : Heap) (n : Nat) (t : Tmps) (d : Option Nat) (v : AV) : St :=
  Option.rec (motive := fun _ => St) ⟨t, h, n⟩ (fun d => ⟨tset t d v, h, n⟩) d

def execOne (call : CallFn) (ops : List Oper) (id : Nat) (o : Oper) (s : St) : Option St :=
  Bool.rec (motive := fun _ => Option St)
    (some (putTo s.heap s.next s.tmps o.dst undef))
    (Option.rec (motive := fun _ => Option St)
      (Option.rec (motive := fun _ => Option St) none
        (fun r => Prod.rec (motive := fun _ => Option St) (fun v h => some (putTo h s.next s.tmps o.dst v)) r)
        ((oper E id s.tmps o.op).run id s.heap))
      (fun c => Option.rec (motive := fun _ => Option St) none
        (fun r => some (putTo r.2.1 r.2.2 s.tmps o.dst r.1))
        (opCall E call s.tmps s.heap s.next c))
      (isCallOp o.op))
    (guardOk ops s.tmps o)

def execOps (call : CallFn) (ops l : List Oper) : Nat → St → Option St :=
  List.rec (motive := fun _ => Nat → St → Option St) (fun _ s => some s)
    (fun o _ next id s => Option.rec (motive := fun _ => Option St) none (next (Nat.succ id)) (execOne E call ops id o s)) l

/-- One operation with what it met. -/
def oneLog (call : CallFn) (ops : List Oper) (id : Nat) (o : Oper) (s : St) : Log :=
  bif guardOk ops s.tmps o then
    match isCallOp o.op with
    | some c => opCallLog E call s.tmps s.heap s.next c
    | none => ⟨some ((oper E id s.tmps o.op).met id s.heap), !((oper E id s.tmps o.op).met id s.heap).wr.isEmpty⟩
  else ⟨some ⟨[], []⟩, false⟩

def logOps (call : CallFn) (ops l : List Oper) : Nat → St → List Log :=
  List.rec (motive := fun _ => Nat → St → List Log) (fun _ _ => [])
    (fun o _ next id s => oneLog E call ops id o s ::
      Option.rec (motive := fun _ => List Log) [] (next (Nat.succ id)) (execOne E call ops id o s)) l

def Log.plain (l : Log) : Bool :=
  match l.met with
  | some m => m.rd.isEmpty && m.wr.isEmpty && !l.wrote
  | none => false
def apart (a b : List Nat) : Bool := a.all fun x => !b.contains x
def Log.compat (a b : Log) : Bool :=
  a.plain || b.plain || (!a.wrote && !b.wrote) || (match a.met with
    | some x => match b.met with
      | some y => apart x.wr y.rd && apart x.wr y.wr && apart y.wr x.rd
      | none => false
    | none => false)

/-- The masks of what stands ahead, one operation behind the other. -/
def maskOf (ms : List Nat) (o : Oper) : Nat :=
  o.after.toList.foldl (fun m e => bif Region.binds .any e then Nat.lor (Nat.lor m (Nat.shiftLeft 1 e.on)) (ms.getD e.on 0) else m) 0
def masks : List Oper → List Nat → List Nat
  | [], ms => ms
  | o :: os, ms => masks os (ms ++ [maskOf ms o])

/-- Are all pairs that no edge orders such as may change places? i: the place of the first of 'a'. -/
def pairOk (m : Nat) : Nat → List Log → Log → Bool
  | _, [], _ => true
  | i, a :: as, b => (m.testBit i || a.compat b) && pairOk m (i + 1) as b
def pairsOk : List Log → List Log → List Nat → Bool
  | seen, b :: bs, m :: ms => pairOk m 0 seen b && pairsOk (seen ++ [b]) bs ms
  | _, _, _ => true

/-- What kind an operation is by its text alone: may it write, or make; may it ask the heap? -/
def asks (o : Op) : Bool :=
  match o with
  | .move _ => false
  | .assign _ => false
  | .pick _ _ _ => false
  | .build _ _ => false
  | .nilCheck _ => false
  | .binOp _ _ _ _ _ => false
  | .unOp _ _ _ => false
  | .convert _ _ _ => false
  | .makeInterface _ _ => false
  | .makeFunc _ _ _ => false
  | .fieldAddr _ _ _ => false
  | .field _ _ _ => false
  | .indexAddr _ _ _ => false
  | .index _ _ _ => false
  | .typeAssert _ _ _ _ => false
  | .extract _ _ => false
  | _ => true
def acts (o : Op) : Bool :=
  match o with
  | .load _ _ => false
  | .slice _ _ _ _ _ => false
  | .lookup _ _ _ _ => false
  | .call c => match c.callee with
    | .builtin .len => false
    | .builtin .min => false
    | .builtin .max => false
    | _ => true
  | o => asks o
/-- The log that the text alone allows. -/
def textLog (o : Op) : Log := ⟨bif asks o then none else some ⟨[], []⟩, acts o⟩
def easy (ops : List Oper) : Bool := pairsOk [] (ops.map fun o => textLog o.op) (masks ops [])

abbrev Res := Option (AX × St)

def iterate (f : St → Res) (n : Nat) : St → Res :=
  Nat.rec (motive := fun _ => St → Res) (fun _ => none)
    (fun _ next s => match f s with
      | some (x, s) => match x with
        | .normal => next s
        | x => some (x, s)
      | none => none) n

def runOps (call : CallFn) (ops : List Oper) (s : St) : Option St :=
  execOps E call ops ops s.next ⟨s.tmps, s.heap, Nat.add s.next ops.length⟩
def logsOf (call : CallFn) (ops : List Oper) (s : St) : List Log :=
  logOps E call ops ops s.next ⟨s.tmps, s.heap, Nat.add s.next ops.length⟩

def xRegion (call : CallFn) (ops : Array Oper) (draw : Bool) (s : St) : Res :=
  bif !draw || easy ops.toList || pairsOk [] (logsOf E call ops.toList s) (masks ops.toList []) then
    match runOps E call ops.toList s with
    | some s => some (.normal, s)
    | none => none
  else none
def xSeq (a b : St → Res) (s : St) : Res :=
  match a s with
  | some (x, s) => match x with
    | .normal => b s
    | x => some (x, s)
  | none => none
def xCond (c : Operand) (a b : St → Res) (s : St) : Res :=
  match evalOp s.tmps c with
  | some v => match v with
    | .bool c => bif c then a s else b s
    | _ => none
  | none => none
def xBlock (id : Nat) (c : St → Res) (s : St) : Res :=
  match c s with
  | some (x, s) => match x with
    | .exit id' => bif id'.beq id then some (.normal, s) else some (.exit id', s)
    | x => some (x, s)
  | none => none

def exec (call : CallFn) (c : Code) : St → Res :=
  Code.rec (motive := fun _ => St → Res)
    (skip := fun s => some (.normal, s))
    (region := fun _ ops draw => xRegion E call ops draw)
    (seq := fun _ _ a b => xSeq a b)
    (cond := fun c _ _ a b => xCond c a b)
    (block := fun id _ c => xBlock id c)
    (loop := fun _ c => iterate c E.fuel)
    (rangeFunc := fun _ _ _ _ _ _ _ => none)
    (exit := fun id s => some (.exit id, s))
    (scope := fun _ c => c)
    (label := fun _ s => some (.normal, s))
    (goto := fun _ _ => none)
    (ret := fun s => some (.ret, s))
    (refuse := fun _ _ => none) c

def ptrLoad (h : Heap) (ti : TI) (a : AV) : Option AV :=
  match (doLoad ti a).run 0 h with
  | some (v, _) => some v
  | none => none

def resVals (s : St) : List ResultVar → Option (List AV)
  | [] => some []
  | .tmp t :: rs => match resVals s rs with
    | some vs => some (tget s.tmps t :: vs)
    | none => none
  | .cell a t :: rs => match E.ty t with
    | some ti => match resVals s rs with
      | some vs => match ptrLoad s.heap ti (tget s.tmps a) with
        | some v => some (v :: vs)
        | none => none
      | none => none
    | none => none

def finish (fn : Func) (s : St) : Option (AV × Heap × Nat) :=
  match resVals E s fn.results.toList with
  | some vs => match vs with
    | [v] => some (v, s.heap, s.next)
    | vs => some (.tuple vs, s.heap, s.next)
  | none => none

def done (fn : Func) (r : Res) : Option (AV × Heap × Nat) :=
  match r with
  | some (x, s) => match x with
    | .normal => finish E fn s
    | .ret => finish E fn s
    | .exit _ => none
  | none => none

def callOf (rec : CallFn) (f : FuncId) (args : List AV) (h : Heap) (n : Nat) : Option (AV × Heap × Nat) :=
  match E.fn f with
  | some fn => match fn.body with
    | some c => bif args.length.ble fn.ntmps then done E fn (exec E rec c ⟨tinit 0 args .nil, h, n⟩) else none
    | none => none
  | none => none

def callN (n : Nat) : CallFn :=
  Nat.rec (motive := fun _ => CallFn) (fun _ _ _ _ => none) (fun _ rec => callOf E rec) n

end
end Go.AM
