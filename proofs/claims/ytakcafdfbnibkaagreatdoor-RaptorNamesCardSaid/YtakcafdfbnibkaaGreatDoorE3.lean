/- The evaluator AM: calls of functions with bodies are sound, to every depth. -/
import Derived.Test.YtakcafdfbnibkaaGreatDoorE2
set_option linter.unusedVariables false
set_option linter.unusedSimpArgs false
namespace Go.AM

/-- What a program must show for the evaluator to speak of it. -/
structure ProgOK (P : Program) : Prop where
  orders : P.follows .mixedOrders = true
  tidy : ∀ f fn c, bodied P f = some fn → fn.body = some c → tidy c = true

section
variable {E : Env} {P : Program} {call : CallFn} {w : World} {I : Nat → Prop} {φ : Phi} {h h' : Heap} {id : Nat} {t : Tmps} {a : Act} {v : AV}

theorem bodied_spec {f : FuncId} {fn : Func} (hb : bodied P f = some fn) : P.funcs[f]? = some fn ∧ ∃ c, fn.body = some c ∧ dstOk fn.ntmps c = true := by
  unfold bodied at hb
  split at hb
  · rename_i fn' hf
    split at hb
    · rename_i c hc
      cases hn : (fn'.name != "runtime.NumGoroutine" && dstOk fn'.ntmps c) with
      | false => rw [hn] at hb; cases hb
      | true =>
        rw [hn] at hb
        cases hb
        simp only [Bool.and_eq_true] at hn
        exact ⟨hf, c, hc, hn.2⟩
    · cases hb
  · cases hb

theorem tinit_get : ∀ (args : List AV) (i : Nat) (t : Tmps) (j : Nat), tget (tinit i args t) j = if i ≤ j ∧ j < i + args.length then args.getD (j - i) undef else tget t j
  | [], i, t, j => by simp [tinit]; intro h1 h2; omega
  | v :: vs, i, t, j => by
    unfold tinit
    rw [tinit_get vs (i + 1) (tset t i v) j, tget_tset_of]
    by_cases hij : i = j
    · subst hij
      rw [if_neg (by omega), if_pos rfl, if_pos (by simp)]
      simp
    · by_cases h1 : i + 1 ≤ j ∧ j < i + 1 + vs.length
      · rw [if_pos h1, if_pos (by simp; omega)]
        obtain ⟨m, hm⟩ : ∃ m, j - i = m + 1 := ⟨j - i - 1, by omega⟩
        rw [hm, List.getD_cons_succ]; congr 1; omega
      · rw [if_neg h1, if_neg hij, if_neg (by simp; omega)]

theorem init_rep {args : List AV} {cargs : Array Value} {n : Nat} (hg : GlobOK w I) (A : ARep w I φ args cargs) : TRep w I φ (tinit 0 args .nil) (cargs ++ Array.replicate n _root_.Go.undef) := by
  refine ⟨?_, hg⟩
  intro i
  rw [tinit_get, tget_nil, Array.getD_eq_getD_getElem?, Array.getElem?_append, A.1]
  by_cases hi : i < args.length
  · rw [if_pos (by omega), if_pos hi]
    have := A.2 i _ (List.getElem?_eq_getElem hi)
    rw [Array.getD_eq_getD_getElem?] at this
    simpa [List.getD_eq_getElem?_getD, hi] using this
  · rw [if_neg (by omega), if_neg hi, Array.getElem?_replicate]
    split <;> exact .any

theorem callOf_ok (hE : EnvOK E P) (hP : ProgOK P) (hc : CallOK P call) : CallOK P (callOf E call) := by
  intro f args h n v h' n' e
  unfold callOf at e
  split at e
  · rename_i fn hfn
    have hb := hE.fn _ _ hfn
    obtain ⟨hf, c, hbody, hd⟩ := bodied_spec hb
    rw [hbody] at e
    dsimp only at e
    cases hl : args.length.ble fn.ntmps with
    | false => rw [hl] at e; cases e
    | true =>
      rw [hl] at e
      have hl := Nat.le_of_ble_eq_true hl
      simp only [cond_true] at e
      refine ⟨⟨fn, hb⟩, fun w I φ cargs S A => ?_⟩
      refine calls_of_wp hf hbody ?_
      unfold done at e
      cases hx : exec E call c ⟨tinit 0 args .nil, h, n⟩ with
      | none => rw [hx] at e; cases e
      | some r =>
        obtain ⟨x, s'⟩ := r
        rw [hx] at e
        dsimp only at e
        refine exec_ok hE hc hP.orders c fn.ntmps _ s' x _ _ w I φ hx (hP.tidy f fn c hb hbody) hd (by simp [A.1]; omega) S (init_rep S.glob A) ?_
        intro a' w' I' φ' z1 z2 S' ht' X
        have fin : finish E fn s' = some (v, h', n') → bodyPost P fn (Ret w I φ h v h') .normal a' w' := by
          intro e
          obtain ⟨e1, u, e2, e3⟩ := finish_run hE S' ht' e
          subst e1
          exact ⟨z1, u, e2, I', φ', e3, S', X⟩
        cases x with
        | normal => exact fin e
        | ret => exact fin e
        | exit id => cases e
  · cases e

theorem callN_ok (hE : EnvOK E P) (hP : ProgOK P) : ∀ n, CallOK P (callN E n)
  | 0 => fun f args h n v h' n' e => by cases e
  | n + 1 => callOf_ok hE hP (callN_ok hE hP n)
end
end Go.AM
