/- The evaluator AM at this program: step by step, each step with what was shown before. -/
import Derived.Test.YtdgcmbbnpcclmaaGreatF0
import Derived.Test.YtdgcmbbnpcclmaaGreatF2
set_option linter.unusedVariables false
namespace Go.AM

/-- Calls to a depth, with a table of known answers at every level. -/
noncomputable def callT (E : Env) (tbl : FuncId → List AV → Option AV) (n : Nat) : CallFn :=
  Nat.rec (motive := fun _ => CallFn) (fun _ _ _ _ => none) (fun _ rec => tabled tbl (callOf E rec)) n

theorem callT_ok {E : Env} {P : Program} {tbl : FuncId → List AV → Option AV} (hE : EnvOK E P) (hP : ProgOK P) (ht : ∀ f args v, tbl f args = some v → Knows P f args v) :
    ∀ n, CallOK P (callT E tbl n)
  | 0 => fun f args h n v h' n' e => by cases e
  | n + 1 => tabled_ok ht (callOf_ok hE hP (callT_ok hE hP ht n))

noncomputable def checks (E : Env) (call : CallFn) (e : FuncId × List AV × AV) : Bool :=
  Option.rec (motive := fun _ => Bool) false (fun x => same 1000 x e.2.2) (answers E call e.1 e.2.1)

theorem knows_of_checks {E : Env} {P : Program} {call : CallFn} (hc : CallOK P call) {e : FuncId × List AV × AV} (h : checks E call e = true) : Knows P e.1 e.2.1 e.2.2 := by
  unfold checks at h
  cases ha : answers E call e.1 e.2.1 with
  | none => rw [ha] at h; cases h
  | some x =>
    rw [ha] at h
    have := same_eq _ _ _ h
    subst this
    exact knows_of_answers hc ha
end Go.AM
namespace Go.Proofs.YtdgcmbbnpcclmaaGreat
open Go.AM
def sharedL : List Nat := [48, 49, 50, 51, 82, 83, 84, 91, 92, 94, 95, 96, 97, 99, 124, 125, 126, 127, 128, 129, 139, 140, 141, 142, 144, 156, 157, 165, 166, 167, 168, 170, 171, 172, 173, 175, 177, 190, 191, 192, 193, 194, 195, 196, 197, 200, 201, 203, 204, 205, 206, 207, 208, 209, 210, 226, 227, 228, 229, 230, 231, 232, 233]
noncomputable def tysV : T TI := T.build (tiOf Tryz.prog) 10 0 1
noncomputable def fnsV : T Func := T.build (bodied Tryz.prog) 10 0 1
noncomputable def Ev : Env := envOf Tryz.prog tysV fnsV (fun f => sharedL.contains f) 2000
theorem Ev_ok : EnvOK Ev Tryz.prog := envOf_ok _ _ _ _ _

def AllK (l : List (FuncId × List AV × AV)) : Prop := ∀ e ∈ l, Knows Tryz.prog e.1 e.2.1 e.2.2
theorem AllK.nil : AllK [] := fun e h => by cases h
theorem AllK.cons {l : List (FuncId × List AV × AV)} {e : FuncId × List AV × AV} (h : AllK l) (k : checks Ev (callT Ev (listed 1000 l) 60) e = true) : AllK (e :: l) := by
  intro x hx
  cases hx with
  | head => exact knows_of_checks (callT_ok Ev_ok prog_ok (listed_knows l h) 60) k
  | tail _ hx => exact h x hx
end Go.Proofs.YtdgcmbbnpcclmaaGreat
