/- The evaluator AM: one operation of a region, regions in the order of the text. -/
import Derived.Test.YtakcafdfbnibkaaGreatDoorD1
import Derived.Orders
set_option linter.unusedVariables false
set_option linter.unusedSimpArgs false
namespace Go.AM
section
variable {E : Env} {P : Program} {w : World} {I : Nat → Prop} {φ : Phi} {h h' : Heap} {id : Nat} {t : Tmps} {a : Act} {v : AV}

theorem isB_eq {x : AV} {tmps : Array Value} {d : Nat} {want : Bool} (r : VRep w I φ x (tmps.getD d _root_.Go.undef)) :
    isB want x = ((match tmps[d]? with | some (.bool b) => some b | _ => none : Option Bool) == some want) := by
  rw [Array.getD_eq_getD_getElem?] at r
  cases hd : tmps[d]? with
  | none =>
    rw [hd] at r
    simp only [Option.getD_none, _root_.Go.undef] at r
    generalize hu : (Value.tuple #[]) = u at r
    cases r <;> first | cases hu | rfl
    all_goals rfl
  | some u =>
    rw [hd] at r
    simp only [Option.getD_some] at r
    cases r <;> rfl

theorem guard_eq {ops : Array Oper} {o : Oper} (ht : TRep w I φ t a.tmps) : guardOk ops.toList t o = Region.wanted o (yielded ops a.tmps) := by
  unfold guardOk Region.wanted
  cases hg : o.guard with
  | none => rfl
  | some g =>
    obtain ⟨j, want⟩ := g
    simp only
    unfold yielded
    rw [Array.getElem?_toList]
    cases hb : (ops[j]?).bind (·.dst) with
    | none => rfl
    | some d =>
      simp only [Option.bind_some]
      exact isB_eq (ht.1 d)

/-- What stands when an operation, or a whole region, is done. -/
def Cont (w : World) (I : Nat → Prop) (φ : Phi) (h : Heap) (a : Act) (s' : St) (K : Act → World → Prop) : Prop :=
  ∀ a' w' I' φ', a'.defers = a.defers → a'.tmps.size = a.tmps.size → Sim w' I' φ' s'.heap → TRep w' I' φ' s'.tmps a'.tmps → Ext w I φ h w' I' φ' s'.heap → K a' w'

theorem put_rep {o : Oper} {x : AV} {u : Value} {w' : World} {I' : Nat → Prop} {φ' : Phi} {n : Nat} (ht : TRep w' I' φ' t a.tmps) (hd : ∀ d, o.dst = some d → d < a.tmps.size) (hv : VRep w' I' φ' x u) :
    TRep w' I' φ' (putTo h n t o.dst x).tmps (a.put o.dst u).tmps ∧ (a.put o.dst u).defers = a.defers ∧ (a.put o.dst u).tmps.size = a.tmps.size := by
  cases ho : o.dst with
  | none => exact ⟨ht, rfl, rfl⟩
  | some d => exact ⟨TRep.put ht (hd d ho) hv, rfl, by simp [Act.put]⟩

theorem putTo_heap {d : Option Nat} {x : AV} {n : Nat} : (putTo h n t d x).heap = h := by cases d <;> rfl

theorem put_cont {o : Oper} {x : AV} {u : Value} {w' : World} {I' : Nat → Prop} {φ' : Phi} {n : Nat} {K : Act → World → Prop} (ht : TRep w' I' φ' t a.tmps) (hd : ∀ d, o.dst = some d → d < a.tmps.size)
    (hv : VRep w' I' φ' x u) (S : Sim w' I' φ' h') (X : Ext w I φ h w' I' φ' h') (hK : Cont w I φ h a (putTo h' n t o.dst x) K) : K (a.put o.dst u) w' := by
  obtain ⟨r1, r2, r3⟩ := put_rep (h := h') (n := n) ht hd hv
  exact hK _ _ I' φ' r2 r3 (by rw [putTo_heap]; exact S) r1 (by rw [putTo_heap]; exact X)

theorem execOne_ok (hE : EnvOK E P) {call : CallFn} (hc : CallOK P call) {ops : Array Oper} {i : Nat} {o : Oper} {s s' : St} {K : Act → World → Prop} {Q : Exit → Act → World → Prop}
    (hi : ops[i]? = some o) (hd : ∀ d, o.dst = some d → d < a.tmps.size) (S : Sim w I φ s.heap) (ht : TRep w I φ s.tmps a.tmps) (e : execOne E call ops.toList id o s = some s')
    (hK : Cont w I φ s.heap a s' K) : wpOp P ops Q i K a w := by
  unfold wpOp
  rw [hi]
  simp only
  rw [← guard_eq (ops := ops) ht]
  unfold execOne at e
  cases hg : guardOk ops.toList s.tmps o with
  | false =>
    rw [hg] at e
    cases e
    simp only [Bool.false_eq_true, if_false]
    exact put_cont ht hd .any S (Ext.refl _ _ _ _) hK
  | true =>
    rw [hg] at e
    simp only [if_true]
    left
    unfold Oper.wp
    cases hcall : isCallOp o.op with
    | none =>
      rw [hcall] at e
      dsimp only at e
      cases hr : (oper E id s.tmps o.op).run id s.heap with
      | none => rw [hr] at e; cases e
      | some r =>
        rw [hr] at e
        obtain ⟨x, h'⟩ := r
        cases e
        obtain ⟨nx, cv, w', I', φ', e1, e2, e3, e4, e5⟩ := oper_ok hE S ht hr
        rw [e1]
        have fin : K (a.put o.dst cv) w' := put_cont (ht.ext e5) hd e3 e4 e5 hK
        rcases e2 with e2 | ⟨e2, e6⟩
        · subst e2; exact fin
        · subst e2; rw [e6] at fin; exact fin
    | some c =>
      rw [hcall] at e
      dsimp only at e
      have hoc : o.op = .call c := by
        unfold isCallOp at hcall
        split at hcall
        · split at hcall
          · cases hcall
          · cases hcall; assumption
        · cases hcall
      unfold opCall at e
      cases hcl : callee E s.tmps c with
      | none => rw [hcl] at e; cases e
      | some q =>
        obtain ⟨f, args⟩ := q
        rw [hcl] at e
        dsimp only at e
        cases hr : docall E call f args s.heap s.next with
        | none => rw [hr] at e; cases e
        | some r =>
          rw [hr] at e
          obtain ⟨x, h', n'⟩ := r
          cases e
          obtain ⟨⟨fn, hb⟩, hcalls⟩ := docall_ok hc f args s.heap s.next x h' n' hr
          obtain ⟨cargs, e1, A⟩ := callee_ok hE ht hoc hcl hb
          rw [e1, Oper.upon_enter]
          refine (hcalls w I φ cargs S A).mono ?_
          intro en w' he
          cases en with
          | returned u =>
            obtain ⟨I', φ', r1, r2, r3⟩ := he
            exact put_cont (ht.ext r3) hd r1 r2 r3 hK
          | panicked _ => exact he.elim
          | outgrown => exact he.elim

theorem execOps_ok (hE : EnvOK E P) {call : CallFn} (hc : CallOK P call) {ops : Array Oper} {Q : Exit → Act → World → Prop} : ∀ (l : List Oper) (m id : Nat) (s s' : St) (a : Act) (w : World) (I : Nat → Prop) (φ : Phi),
    ops.toList.drop m = l → (∀ o ∈ ops.toList, ∀ d, o.dst = some d → d < a.tmps.size) → Sim w I φ s.heap → TRep w I φ s.tmps a.tmps → execOps E call ops.toList l id s = some s' →
    Cont w I φ s.heap a s' (fun a w => Q .normal a w) → wpOps P ops Q (List.range' m l.length) a w
  | [], m, id, s, s', a, w, I, φ, hl, hd, S, ht, e, hK => by
    cases e
    exact hK a w I φ rfl rfl S ht (Ext.refl _ _ _ _)
  | o :: l, m, id, s, s', a, w, I, φ, hl, hd, S, ht, e, hK => by
    have hm : ops[m]? = some o := by
      rw [← Array.getElem?_toList]
      have := congrArg (·[0]?) hl
      simpa [List.getElem?_drop] using this
    have hl' : ops.toList.drop (m + 1) = l := by
      have := congrArg (List.drop 1) hl
      simpa [List.drop_drop, Nat.add_comm] using this
    have ho : o ∈ ops.toList := List.mem_of_getElem? (by rw [Array.getElem?_toList]; exact hm)
    unfold execOps at e
    dsimp only at e
    cases h1 : execOne E call ops.toList id o s with
    | none => rw [h1] at e; cases e
    | some s1 =>
      rw [h1] at e
      rw [List.length_cons, List.range'_succ, wpOps_cons]
      refine execOne_ok hE hc hm (hd o ho) S ht h1 ?_
      intro a' w' I' φ' q1 q2 S' ht' X
      exact execOps_ok hE hc l (m + 1) (id + 1) s1 s' a' w' I' φ' hl' (by rw [q2]; exact hd) S' ht' e (fun a'' w'' I'' φ'' z1 z2 S'' ht'' X' => hK a'' w'' I'' φ'' (z1.trans q1) (z2.trans q2) S'' ht'' (X.trans X'))
end
end Go.AM
