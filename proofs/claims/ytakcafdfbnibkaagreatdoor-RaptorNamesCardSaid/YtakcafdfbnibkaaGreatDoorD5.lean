/- The evaluator AM: operations that may change places. -/
import Derived.Test.YtakcafdfbnibkaaGreatDoorD4
set_option linter.unusedVariables false
set_option linter.unusedSimpArgs false
namespace Go.AM
section
variable {E : Env} {call : CallFn} {ops : Array Oper}

noncomputable def core (E : Env) (call : CallFn) (ops : Array Oper) (id : Nat) (o : Oper) (t : Tmps) (h : Heap) (n : Nat) : Option (AV × Heap × Nat) :=
  match guardOk ops.toList t o with
  | false => some (undef, h, n)
  | true => match isCallOp o.op with
    | some c => opCall E call t h n c
    | none => match (oper E id t o.op).run id h with
      | some r => some (r.1, r.2, n)
      | none => none
noncomputable def clog (E : Env) (call : CallFn) (ops : Array Oper) (id : Nat) (o : Oper) (t : Tmps) (h : Heap) (n : Nat) : Log := oneLog E call ops.toList id o ⟨t, h, n⟩
noncomputable def tput (t : Tmps) (d : Option Nat) (v : AV) : Tmps :=
  match d with
  | none => t
  | some d => tset t d v

theorem execOne_core {id : Nat} {o : Oper} {s : St} : execOne E call ops.toList id o s = match core E call ops id o s.tmps s.heap s.next with
    | some r => some ⟨tput s.tmps o.dst r.1, r.2.1, r.2.2⟩
    | none => none := by
  unfold execOne core
  cases guardOk ops.toList s.tmps o with
  | false => cases o.dst <;> rfl
  | true =>
    cases isCallOp o.op with
    | none =>
      cases (oper E id s.tmps o.op).run id s.heap with
      | none => rfl
      | some r => cases o.dst <;> rfl
    | some c =>
      cases hc : opCall E call s.tmps s.heap s.next c with
      | none => simp only [hc]
      | some r => simp only [hc]; cases o.dst <;> rfl

theorem looks_same {o : Oper} {t t' : Tmps} (h : ∀ d ∈ o.looksAt ops, tget t d = tget t' d) : Same t t' o.op.operands.toList ∧ guardOk ops.toList t o = guardOk ops.toList t' o := by
  refine ⟨fun x hx => ?_, ?_⟩
  · cases x with
    | tmp i =>
      have : i ∈ o.looksAt ops := List.mem_append_left _ (List.mem_filterMap.2 ⟨.tmp i, hx, rfl⟩)
      show some (tget t i) = some (tget t' i)
      rw [h i this]
    | _ => rfl
  · unfold guardOk
    cases hg : o.guard with
    | none => rfl
    | some g =>
      obtain ⟨j, want⟩ := g
      simp only
      rw [Array.getElem?_toList]
      cases hb : (ops[j]?).bind (·.dst) with
      | none => rfl
      | some d =>
        have : d ∈ o.looksAt ops := List.mem_append_right _ (by simp [hg, hb])
        simp only
        rw [h d this]

theorem core_same {id : Nat} {o : Oper} {t t' : Tmps} {h : Heap} {n : Nat} (hs : ∀ d ∈ o.looksAt ops, tget t d = tget t' d) :
    core E call ops id o t h n = core E call ops id o t' h n ∧ clog E call ops id o t h n = clog E call ops id o t' h n := by
  obtain ⟨h1, h2⟩ := looks_same hs
  unfold core clog oneLog
  simp only [h2]
  have ho := oper_same (E := E) (id := id) h1
  cases hc : isCallOp o.op with
  | none =>
    simp only [ho]
    first | exact ⟨rfl, rfl⟩ | exact ⟨trivial, rfl⟩ | exact ⟨trivial, trivial⟩
  | some c =>
    have hoc : o.op = .call c := by
      unfold isCallOp at hc
      split at hc
      · split at hc
        · cases hc
        · cases hc; assumption
      · cases hc
    have hcl := callee_same (E := E) (t := t) (t' := t') (c := c) (by rw [hoc] at h1; exact h1)
    simp only [opCall, opCallLog, hcl]
    first | exact ⟨rfl, rfl⟩ | exact ⟨trivial, rfl⟩ | exact ⟨trivial, trivial⟩

theorem puts_nil {l : List (Nat × Blk)} {m : List Nat} (hl : ∀ p ∈ l, p.1 ∈ m) (hm : m = []) : l = [] := by
  subst hm
  cases l with
  | nil => rfl
  | cons p l => exact absurd (hl p (by simp)) (by simp)

theorem docall_plain {f : FuncId} {args : List AV} {h h' : Heap} {n n' : Nat} {v : AV} (hs : E.shared f = false) (hp : args.all (plain E.fuel) = true)
    (e : docall E call f args h n = some (v, h', n')) : h' = h ∧ n' = n ∧ ∀ H N, docall E call f args H N = some (v, H, N) := by
  unfold docall at e ⊢
  rw [hs] at e ⊢
  simp only [cond_false] at e ⊢
  split at e
  · rename_i args' h1 h2
    obtain ⟨q1, q2⟩ := (plain_all E.fuel).all E.fuel _ _ _ _ hp h2
    subst q1
    split at e
    · rename_i x hx
      cases e
      refine ⟨by cases flat E.fuel v <;> rfl, rfl, fun H N => ?_⟩
      rw [q2 H]
      simp only [hx]
      cases flat E.fuel v <;> rfl
    · cases e
  · cases e

theorem docall_quiet {f : FuncId} {args : List AV} {h h' : Heap} {n n' : Nat} {v : AV} (hs : E.shared f = false) (hf : flat E.fuel v = true)
    (e : docall E call f args h n = some (v, h', n')) : h' = h ∧ n' = n := by
  unfold docall at e
  rw [hs] at e
  simp only [cond_false] at e
  split at e
  · split at e
    · cases e
      rw [hf]
      exact ⟨rfl, rfl⟩
    · cases e
  · cases e

theorem core_quiet {id : Nat} {o : Oper} {t : Tmps} {h h' : Heap} {n n' : Nat} {v : AV} (hw : (clog E call ops id o t h n).wrote = false)
    (e : core E call ops id o t h n = some (v, h', n')) : h' = h ∧ n' = n := by
  unfold core at e
  unfold clog oneLog at hw
  cases hg : guardOk ops.toList t o with
  | false => rw [hg] at e; cases e; exact ⟨rfl, rfl⟩
  | true =>
    rw [hg] at e hw
    simp only [cond_true] at e hw
    cases hc : isCallOp o.op with
    | none =>
      rw [hc] at e hw
      simp only at e hw
      cases hr : (oper E id t o.op).run id h with
      | none => rw [hr] at e; cases e
      | some r =>
        rw [hr] at e
        cases e
        obtain ⟨l, q1, q2, _⟩ := eff_local id _ h r hr
        have hwr : ((oper E id t o.op).met id h).wr = [] := by
          cases hx : ((oper E id t o.op).met id h).wr with
          | nil => rfl
          | cons a b => rw [hx] at hw; cases hw
        have := puts_nil q2 hwr
        subst this
        exact ⟨q1, rfl⟩
    | some c =>
      rw [hc] at e hw
      simp only at e hw
      unfold opCall at e
      unfold opCallLog at hw
      cases hcl : callee E t c with
      | none => rw [hcl] at e; cases e
      | some q =>
        obtain ⟨f, args⟩ := q
        rw [hcl] at e hw
        simp only at e hw
        unfold callLog at hw
        cases hs : E.shared f with
        | true =>
          rw [hs] at hw
          have hq : quietN f = true := by simpa using hw
          unfold docall at e
          rw [hs, hq] at e
          obtain ⟨q1, q2, _⟩ := still_some e
          exact ⟨q1, q2⟩
        | false =>
          rw [hs] at hw
          simp only [cond_false] at hw
          cases hp : args.all (plain E.fuel) with
          | true =>
            obtain ⟨q1, q2, _⟩ := docall_plain hs hp e
            exact ⟨q1, q2⟩
          | false =>
            rw [hp, e] at hw
            simp only [cond_false, Bool.not_eq_false'] at hw
            exact docall_quiet hs hw e

theorem core_met {id : Nat} {o : Oper} {t : Tmps} {h h' : Heap} {n n' : Nat} {v : AV} {m : Met} (hm : (clog E call ops id o t h n).met = some m)
    (e : core E call ops id o t h n = some (v, h', n')) : n' = n ∧ ∃ l : List (Nat × Blk), h' = puts l h ∧ (∀ p ∈ l, p.1 ∈ m.wr) ∧
      ∀ H N, (∀ b ∈ m.rd, Heap.get H b = Heap.get h b) → core E call ops id o t H N = some (v, puts l H, N) ∧ clog E call ops id o t H N = clog E call ops id o t h n := by
  unfold core at e ⊢
  unfold clog oneLog at hm ⊢
  cases hg : guardOk ops.toList t o with
  | false =>
    rw [hg] at e
    cases e
    exact ⟨rfl, [], rfl, (fun p hp => by cases hp), fun H N _ => ⟨rfl, by simp only [hg, cond_false]⟩⟩
  | true =>
    rw [hg] at e hm
    simp only [cond_true] at e hm ⊢
    cases hc : isCallOp o.op with
    | none =>
      rw [hc] at e hm
      simp only at e hm ⊢
      cases hr : (oper E id t o.op).run id h with
      | none => rw [hr] at e; cases e
      | some r =>
        rw [hr] at e
        cases e
        cases hm
        obtain ⟨l, q1, q2, q3⟩ := eff_local id _ h r hr
        refine ⟨rfl, l, q1, q2, fun H N hH => ?_⟩
        obtain ⟨g1, g2⟩ := q3 H hH
        rw [g1, g2]
        exact ⟨rfl, by simp only [hg, cond_true]⟩
    | some c =>
      rw [hc] at e hm
      simp only at e hm ⊢
      unfold opCall at e ⊢
      unfold opCallLog at hm ⊢
      cases hcl : callee E t c with
      | none => rw [hcl] at e; cases e
      | some q =>
        obtain ⟨f, args⟩ := q
        rw [hcl] at e hm
        simp only at e hm ⊢
        unfold callLog at hm ⊢
        cases hs : E.shared f with
        | true => rw [hs] at hm; cases hm
        | false =>
          rw [hs] at hm
          simp only [cond_false] at hm ⊢
          cases hp : args.all (plain E.fuel) with
          | true =>
            obtain ⟨q1, q2, q3⟩ := docall_plain hs hp e
            subst q1; subst q2
            exact ⟨rfl, [], rfl, (fun p hp => by cases hp), fun H N _ => ⟨q3 H N, by simp only [hg, cond_true]⟩⟩
          | false =>
            rw [hp, e] at hm
            cases hm
end
end Go.AM
