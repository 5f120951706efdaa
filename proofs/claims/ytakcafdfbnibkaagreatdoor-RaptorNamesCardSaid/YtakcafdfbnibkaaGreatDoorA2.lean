/- The evaluator AM: what it knows of a program. -/
import Derived.Test.YtakcafdfbnibkaaGreatDoorA1
namespace Go.AM

/-- The tree of a function at the keys k of a depth (with n, their least path's number). -/
def T.build {α : Type} (f : Nat → Option α) : Nat → Nat → Nat → T α
  | 0, _, _ => .nil
  | d + 1, n, w => .node (T.build f d n (Nat.mul 2 w)) (f (Nat.sub (Nat.add n w) 1)) (T.build f d (Nat.add n w) (Nat.mul 2 w))

def scalar (P : Program) (t : Nat) : Bool :=
  match P.underlying t with
  | some (.int _) | some .bool | some .string => true
  | _ => false

def flatB (P : Program) (t : Nat) (fs : Array Field) : Bool :=
  !P.eqGuardType P.depth t && !P.stoodInHeld t && fs.toList.all (fun f => f.name != "_" && scalar P f.type) &&
    fs.toList.map (fun f => f.offset) == List.range fs.size

def kdOf (P : Program) (t : Nat) : Kd :=
  match P.underlying t with
  | some (.int k) => .int k
  | some .bool => .bool
  | some .string => .str
  | some (.pointer e) => .ptr e
  | some (.slice e) => .slice e
  | some (.map k e) => .map k e
  | some (.struct fs) => .struct (fs.toList.map fun f => (f.offset, f.type)) (flatB P t fs)
  | some (.array n e) => .array n e
  | some (.interface _) => .iface
  | some (.func ..) => .func
  | _ => .other

def aggD : TypeDesc → Bool
  | .struct _ => true
  | .array _ _ => true
  | _ => false

def aggV : Value → Bool
  | .agg _ => true
  | _ => false

def tiOf (P : Program) (t : Nat) : Option TI :=
  match P.info? t with
  | some i => match P.underlying t with
    | some d => match i.zero with
      | some z => match zeroOf z with
        | some cs => bif aggV z == aggD d then some { agg := aggD d, size := i.size, bytes := i.bytes, zero := cs, kd := kdOf P t } else none
        | none => none
      | none => none
    | none => none
  | none => none

/-- A pointer method of a pointer, or a value method of a value, that is not promoted. -/
def methOf (P : Program) (t : Nat) (name : String) : Option FuncId :=
  match P.info? t with
  | some i => match i.methods.find? (·.name == name) with
    | some m => match m.func, P.underlying t with
      | some (f, true), some (.pointer _) => bif m.path.isEmpty then some f else none
      | _, _ => none
    | none => none
  | none => none

/-- Do all operations write slots below n? -/
def dstOk (n : Nat) : Code → Bool
  | .region _ ops _ => ops.toList.all fun o => match o.dst with
    | some d => d.blt n
    | none => true
  | .seq a b => dstOk n a && dstOk n b
  | .cond _ a b => dstOk n a && dstOk n b
  | .block _ c => dstOk n c
  | .loop c => dstOk n c
  | .scope c => dstOk n c
  | _ => true

def bodied (P : Program) (f : FuncId) : Option Func :=
  match P.funcs[f]? with
  | some fn => match fn.body with
    | some c => bif fn.name != "runtime.NumGoroutine" && dstOk fn.ntmps c then some fn else none
    | none => none
  | none => none

noncomputable def look {α : Type} (t : T α) (i : Nat) : Option α := T.get (path i) t

noncomputable def envOf (P : Program) (tys : T TI) (fns : T Func) (shared : FuncId → Bool) (fuel : Nat) : Env where
  ty := look tys
  fn := look fns
  meth := methOf P
  shared := shared
  fuel := fuel

end Go.AM
