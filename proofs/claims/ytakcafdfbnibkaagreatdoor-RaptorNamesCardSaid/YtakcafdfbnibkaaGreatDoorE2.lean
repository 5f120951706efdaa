/- The evaluator AM: functions are sound. -/
import Derived.Test.YtakcafdfbnibkaaGreatDoorE1
set_option linter.unusedVariables false
set_option linter.unusedSimpArgs false
namespace Go.AM
section
variable {E : Env} {P : Program} {call : CallFn} {w : World} {I : Nat → Prop} {φ : Phi} {h h' : Heap} {id : Nat} {t : Tmps} {a : Act} {v : AV}

theorem ptrLoad_run (hE : EnvOK E P) {n : Nat} {ti : TI} {x : AV} {cx : Value} (hti : E.ty n = some ti) (S : Sim w I φ h) (hx : VRep w I φ x cx) (e : ptrLoad h ti x = some v) :
    ∃ cv, (do loadVar n (← asAddr cx) : Sem Value).run P w = .ok cv w ∧ VRep w I φ v cv := by
  unfold ptrLoad at e
  cases hr : (doLoad ti x).run 0 h with
  | none => rw [hr] at e; cases e
  | some r =>
    rw [hr] at e
    cases e
    obtain ⟨i, z, d, T⟩ := hE.get hti
    obtain ⟨cv, e1, e2, e3⟩ := doLoad_ok T S hx hr
    refine ⟨cv, ?_, e2⟩
    have hp : ∃ ad, cx = .pointer (some ad) := by
      unfold doLoad at hr
      cases x with
      | ptr b i j => cases hx; exact ⟨_, rfl⟩
      | iptr row i j => cases hx; exact ⟨_, rfl⟩
      | _ => cases hr
    obtain ⟨ad, rfl⟩ := hp
    rw [← e1]
    rfl

def readResult (tmps : Array Value) : ResultVar → Sem Value
  | .tmp t => pure (tmps.getD t _root_.Go.undef)
  | .cell a t => do loadVar t (← asAddr (tmps.getD a _root_.Go.undef))

theorem results_eq (fn : Func) (tmps : Array Value) : results fn tmps = (do let vs ← fn.results.mapM (readResult tmps); pure (if h : vs.size = 1 then vs[0] else .tuple vs)) := by
  unfold results
  congr 1

theorem resVals_run (hE : EnvOK E P) {s : St} {tmps : Array Value} (S : Sim w I φ s.heap) (ht : TRep w I φ s.tmps tmps) : ∀ {rs : List ResultVar} {vs : List AV}, resVals E s rs = some vs →
    ∃ us : List Value, (rs.mapM (readResult tmps)).run P w = .ok us w ∧
      us.length = vs.length ∧ ∀ (i : Nat) x, vs[i]? = some x → ∃ u, us[i]? = some u ∧ VRep w I φ x u
  | [], vs, e => by cases e; exact ⟨[], by simp, rfl, fun i x e => by simp at e⟩
  | .tmp t :: rs, vs, e => by
    unfold resVals at e
    split at e
    · rename_i us hus
      cases e
      obtain ⟨cs, c1, c2, c3⟩ := resVals_run hE S ht hus
      refine ⟨tmps.getD t _root_.Go.undef :: cs, ?_, by simp [c2], fun i x hx => ?_⟩
      · rw [List.mapM_cons]
        simp only [readResult, Sem.run_bind, Sem.run_pure, Result.andThen_ok, c1]
      · cases i with
        | zero => cases hx; exact ⟨_, rfl, ht.1 t⟩
        | succ i => simpa using c3 i x (by simpa using hx)
    · cases e
  | .cell b t :: rs, vs, e => by
    unfold resVals at e
    split at e
    · rename_i ti hti
      split at e
      · rename_i us hus
        split at e
        · rename_i y hy
          cases e
          obtain ⟨cs, c1, c2, c3⟩ := resVals_run hE S ht hus
          obtain ⟨cv, l1, l2⟩ := ptrLoad_run hE hti S (ht.1 b) hy
          refine ⟨cv :: cs, ?_, by simp [c2], fun i x hx => ?_⟩
          · rw [List.mapM_cons]
            rw [Sem.run_bind, show (readResult tmps (.cell b t)).run P w = .ok cv w from l1]
            simp only [Sem.run_bind, Sem.run_pure, Result.andThen_ok, c1]
          · cases i with
            | zero => cases hx; exact ⟨_, rfl, l2⟩
            | succ i => simpa using c3 i x (by simpa using hx)
        · cases e
      · cases e
    · cases e

theorem finish_run (hE : EnvOK E P) {fn : Func} {s : St} {tmps : Array Value} {h' : Heap} {n' : Nat} (S : Sim w I φ s.heap) (ht : TRep w I φ s.tmps tmps) (e : finish E fn s = some (v, h', n')) :
    h' = s.heap ∧ ∃ u, (results fn tmps).run P w = .ok u w ∧ VRep w I φ v u := by
  unfold finish at e
  split at e
  · rename_i vs hvs
    obtain ⟨us, u1, u2, u3⟩ := resVals_run (P := P) hE S ht hvs
    have hm : (results fn tmps).run P w = .ok (if h : us.toArray.size = 1 then us.toArray[0] else .tuple us.toArray) w := by
      rw [results_eq, Array.mapM_eq_mapM_toList]
      simp only [bind_map_left, Sem.run_bind, u1, Result.andThen_ok, Sem.run_pure]
    split at e
    · rename_i y
      cases e
      refine ⟨rfl, ?_⟩
      obtain ⟨u, q1, q2⟩ := u3 0 _ rfl
      have h1 : ∃ u0, us = [u0] := by
        match us, u2 with
        | [u0], _ => exact ⟨u0, rfl⟩
      obtain ⟨u0, rfl⟩ := h1
      cases q1
      exact ⟨u, by simpa using hm, q2⟩
    · rename_i hne
      cases e
      refine ⟨rfl, .tuple us.toArray, ?_, ?_⟩
      · rw [hm, dif_neg]
        intro h1
        simp only [List.size_toArray] at h1
        rw [h1] at u2
        have h2 : ∃ y, vs = [y] := by
          match vs, u2 with
          | [y], _ => exact ⟨y, rfl⟩
        obtain ⟨y, hy⟩ := h2
        exact hne y hy
      · refine .tuple _ (by simpa using u2) fun i x hx => ?_
        obtain ⟨u, q1, q2⟩ := u3 i x hx
        rw [getD_getElem? (by simpa using q1)]; exact q2
  · cases e
end
end Go.AM
