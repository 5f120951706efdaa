/- The evaluator AM: calls that are answered from a table of what was shown before; what is told behind a call of no arguments. -/
import Derived.Test.YtakcafdfbnibkaaGreatDoorE3
import Derived.RowKit3
set_option linter.unusedVariables false
namespace Go.AM

/-- A call with known answers. -/
def tabled (tbl : FuncId → List AV → Option AV) (call : CallFn) : CallFn := fun f args h n =>
  match tbl f args with
  | some v => some (v, h, n)
  | none => call f args h n

/-- What is told of one answer: such a call ends with it in every heap. -/
def Knows (P : Program) (f : FuncId) (args : List AV) (v : AV) : Prop := (∃ fn, bodied P f = some fn) ∧
  ∀ h w I φ (cargs : Array Value), Sim w I φ h → ARep w I φ args cargs → Calls P f cargs w (Ret w I φ h v h)

section
variable {E : Env} {P : Program}

theorem tabled_ok {tbl : FuncId → List AV → Option AV} {call : CallFn} (ht : ∀ f args v, tbl f args = some v → Knows P f args v) (hc : CallOK P call) : CallOK P (tabled tbl call) := by
  intro f args h n v h' n' e
  unfold tabled at e
  split at e
  · rename_i x hx
    cases e
    exact ⟨(ht _ _ _ hx).1, fun w I φ cargs S A => (ht _ _ _ hx).2 h w I φ cargs S A⟩
  · exact hc _ _ _ _ _ _ _ e

theorem knows_of {call : CallFn} (hc : CallOK P call) {f : FuncId} {args : List AV} {v : AV} {h' : Heap} {n' : Nat} (hs : E.shared f = false) (hp : args.all (plain E.fuel) = true)
    (e : docall E call f args .empty 0 = some (v, h', n')) : Knows P f args v := by
  obtain ⟨q1, q2, q3⟩ := docall_plain hs hp e
  have hd := docall_ok (E := E) hc
  refine ⟨(hd _ _ _ _ _ _ _ (q3 .empty 0)).1, fun h w I φ cargs S A => ?_⟩
  exact (hd _ _ _ _ _ _ _ (q3 h 0)).2 w I φ cargs S A

/-- All of it in one equation. -/
noncomputable def answers (E : Env) (call : CallFn) (f : FuncId) (args : List AV) : Option AV :=
  bif E.shared f then none else bif args.all (plain E.fuel) then
    Option.rec (motive := fun _ => Option AV) none (fun r => some r.1) (docall E call f args .empty 0) else none

theorem knows_of_answers {call : CallFn} (hc : CallOK P call) {f : FuncId} {args : List AV} {v : AV} (e : answers E call f args = some v) : Knows P f args v := by
  unfold answers at e
  cases hs : E.shared f with
  | true => rw [hs] at e; cases e
  | false =>
    cases hp : args.all (plain E.fuel) with
    | false => rw [hs, hp] at e; cases e
    | true =>
      rw [hs, hp] at e
      cases hd : docall E call f args .empty 0 with
      | none => rw [hd] at e; cases e
      | some r =>
        obtain ⟨x, h, n⟩ := r
        rw [hd] at e
        cases e
        exact knows_of hc hs hp hd

/-- A call of no arguments with a flat answer, of which nothing else is told. -/
theorem calls_flat {f : FuncId} {v : AV} {u : Value} (hk : Knows P f [] v) (hv : ∀ w I φ x, VRep w I φ v x → x = u) (w : World)
    (hg : ∀ g k l, globN g = some (k, l) → g < w.heap.size ∧ ∀ (j : Nat) (n : Int), l[j]? = some n → w.cell? (cellAt g j) = some (.int k n)) :
    Calls P f #[] w fun e w' => e = .returned u ∧ Go.RowKit.Grown w w' := by
  refine (hk.2 .empty w (fun g => ∃ k l, globN g = some (k, l)) noPhi #[] (Sim.empty (fun g ⟨k, l, e⟩ => (hg g k l e).1) (fun g k l e => ⟨⟨k, l, e⟩, (hg g k l e).2⟩)) ⟨rfl, fun i x e => by simp at e⟩).mono ?_
  intro e w' he
  cases e with
  | returned x =>
    obtain ⟨I', φ', r, S, X⟩ := he
    refine ⟨by rw [hv _ _ _ _ r], ⟨X.os, X.output, fun i hi => ?_⟩, X.fz, X.size⟩
    have := X.frame i hi not_owned_empty
    rw [this]
    split
    · rename_i c t fr c' t' fr' h1 h2
      rw [h1] at h2
      cases h2
      exact ⟨rfl, rfl, rfl, fun _ _ => rfl⟩
    · rename_i es cl es' cl' h1 h2
      rw [h1] at h2
      cases h2
      exact .inr ⟨rfl, rfl⟩
    · rfl
  | panicked c => exact he.elim
  | outgrown => exact he.elim
end

theorem vrep_true {w : World} {I : Nat → Prop} {φ : Phi} {b : Bool} {x : Value} (r : VRep w I φ (.bool b) x) : x = .bool b := by cases r; rfl
end Go.AM
