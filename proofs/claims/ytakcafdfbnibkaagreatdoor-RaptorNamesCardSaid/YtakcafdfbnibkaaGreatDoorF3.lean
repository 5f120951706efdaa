/- The evaluator AM at this program: step by step, each step with what was shown before. -/
import Derived.Test.YtakcafdfbnibkaaGreatDoorF0
import Derived.Test.YtakcafdfbnibkaaGreatDoorF2
set_option linter.unusedVariables false
namespace Go.AM

/-- Calls to a depth, with a table of known answers at every level. -/
noncomputable def callT (E : Env) (tbl : FuncId → List AV → Option AV) (n : Nat) : CallFn :=
  Nat.rec (motive := fun _ => CallFn) (fun _ _ _ _ => none) (fun _ rec => tabled tbl (callOf E rec)) n

theorem callT_ok {E : Env} {P : Program} {tbl : FuncId → List AV → Option AV} (hE : EnvOK E P) (hP : ProgOK P) (ht : ∀ f args v, tbl f args = some v → Knows P f args v) :
    ∀ n, CallOK P (callT E tbl n)
  | 0 => fun f args h n v h' n' e => by cases e
  | n + 1 => tabled_ok ht (callOf_ok hE hP (callT_ok hE hP ht n))

noncomputable def checks (E : Env) (call : CallFn) (e : FuncId × List AV × AV) : Bool :=
  Option.rec (motive := fun _ => Bool) false (fun x => same 1000 x e.2.2) (answers E call e.1 e.2.1)

theorem knows_of_checks {E : Env} {P : Program} {call : CallFn} (hc : CallOK P call) {e : FuncId × List AV × AV} (h : checks E call e = true) : Knows P e.1 e.2.1 e.2.2 := by
  unfold checks at h
  cases ha : answers E call e.1 e.2.1 with
  | none => rw [ha] at h; cases h
  | some x =>
    rw [ha] at h
    have := same_eq _ _ _ h
    subst this
    exact knows_of_answers hc ha
end Go.AM
namespace Go.Proofs.YtakcafdfbnibkaaGreatDoor
open Go.AM
def sharedL : List Nat := [0, 1, 2, 26, 27, 29, 30, 31, 35, 39, 40, 49, 50, 51, 52, 54, 55, 56, 61, 62, 64, 66, 67, 68, 69, 70, 71, 72, 76, 92, 94, 97, 98, 99, 100, 101, 102, 106, 109, 110, 111, 112, 113, 114, 131, 132, 134, 135, 136, 138, 139, 140, 141, 145, 146, 147, 148, 152, 153, 154, 155, 156, 157, 172, 173, 176, 177, 178, 179, 180, 181, 182, 184, 185, 186, 187, 188, 189, 190, 191, 192, 195, 196, 197, 198, 199, 200, 201, 202, 203, 209, 210, 211, 213, 215, 218, 219, 220, 221, 222, 223, 224, 225, 236, 237, 240, 241, 245, 246, 247, 248, 249, 250, 251, 252, 253, 254, 255, 256, 257, 258, 259, 260, 261, 262, 263, 264, 265, 266, 267, 268, 269, 270, 271, 272]
noncomputable def tysV : T TI := T.build (tiOf Tryz.prog) 10 0 1
noncomputable def fnsV : T Func := T.build (bodied Tryz.prog) 10 0 1
noncomputable def Ev : Env := envOf Tryz.prog tysV fnsV (fun f => sharedL.contains f) 2000
theorem Ev_ok : EnvOK Ev Tryz.prog := envOf_ok _ _ _ _ _

def AllK (l : List (FuncId × List AV × AV)) : Prop := ∀ e ∈ l, Knows Tryz.prog e.1 e.2.1 e.2.2
theorem AllK.nil : AllK [] := fun e h => by cases h
theorem AllK.cons {l : List (FuncId × List AV × AV)} {e : FuncId × List AV × AV} (h : AllK l) (k : checks Ev (callT Ev (listed 1000 l) 60) e = true) : AllK (e :: l) := by
  intro x hx
  cases hx with
  | head => exact knows_of_checks (callT_ok Ev_ok prog_ok (listed_knows l h) 60) k
  | tail _ hx => exact h x hx
end Go.Proofs.YtakcafdfbnibkaaGreatDoor
