/- The evaluator AM: regions. -/
import Derived.Test.YtakcafdfbnibkaaGreatDoorD8
set_option linter.unusedVariables false
set_option linter.unusedSimpArgs false
namespace Go.AM
section
variable {E : Env} {P : Program} {call : CallFn} {ops : Array Oper} {Q : Exit → Act → World → Prop}

theorem quiet_of {id : Nat} {t : Tmps} {h : Heap} : ∀ (e : Eff), (∃ v, e = .of v) ∨ e = .fail ∨ (∃ v, e = .ret v) → (e.met id h).rd = [] ∧ (e.met id h).wr = []
  | _, .inl ⟨none, rfl⟩ => ⟨rfl, rfl⟩
  | _, .inl ⟨some _, rfl⟩ => ⟨rfl, rfl⟩
  | _, .inr (.inl rfl) => ⟨rfl, rfl⟩
  | _, .inr (.inr ⟨_, rfl⟩) => ⟨rfl, rfl⟩

/-- An effect that asks nothing of the heap. -/
def Still (e : Eff) : Prop := ∀ id h, (e.met id h).rd = [] ∧ (e.met id h).wr = []
theorem still_of (v : Option AV) : Still (.of v) := fun _ _ => by cases v <;> exact ⟨rfl, rfl⟩
theorem still_ret (v : AV) : Still (.ret v) := fun _ _ => ⟨rfl, rfl⟩
theorem still_fail : Still .fail := fun _ _ => ⟨rfl, rfl⟩
theorem still_bif {c : Bool} {x y : Eff} (h1 : Still x) (h2 : Still y) : Still (bif c then x else y) := by cases c <;> assumption
theorem still_op {t : Tmps} {x : Operand} {k : AV → Eff} (h : ∀ v, Still (k v)) : Still (withOp t x k) := by unfold withOp; split <;> first | exact h _ | exact still_fail
theorem still_nat {t : Tmps} {x : Operand} {k : Nat → Eff} (h : ∀ v, Still (k v)) : Still (withNat t x k) := still_op fun v => by split <;> first | exact h _ | exact still_fail
theorem still_ty {x : Nat} {k : TI → Eff} (h : ∀ v, Still (k v)) : Still (withTy E x k) := by unfold withTy; split <;> first | exact h _ | exact still_fail
theorem still_parts {t : Tmps} {x : Array (Nat × Operand)} {k : List (Nat × AV) → Eff} (h : ∀ v, Still (k v)) : Still (withParts t x k) := by unfold withParts; split <;> first | exact h _ | exact still_fail
theorem still_all {t : Tmps} {x : Array Operand} {k : List AV → Eff} (h : ∀ v, Still (k v)) : Still (withAll t x k) := by unfold withAll; split <;> first | exact h _ | exact still_fail
theorem still_field {a b : Nat} {k : Nat → TI → Eff} (h : ∀ v w, Still (k v w)) : Still (withField E a b k) := by unfold withField; split <;> first | exact h _ _ | exact still_fail
theorem still_agg (v : Option (List AV)) : Still (aggOf v) := by unfold aggOf; split <;> first | exact still_ret _ | exact still_fail

theorem still_oper {id : Nat} {t : Tmps} {o : Op} (h : asks o = false) : Still (oper E id t o) := by
  cases o with
  | move x => exact still_of _
  | assign x => exact still_of _
  | pick c x y =>
    exact still_op fun v => by
      split
      · exact still_bif (still_of _) (still_of _)
      · exact still_fail
  | build bt parts =>
    refine still_ty fun ti => still_parts fun ps => ?_
    split
    · split
      · exact still_agg _
      · exact still_fail
    · exact still_ty fun _ => still_agg _
    · exact still_fail
  | nilCheck x => exact still_op fun v => still_bif (still_ret _) still_fail
  | binOp op xt x y yt => exact still_op fun v => still_op fun u => still_of _
  | unOp op xt x => exact still_op fun v => still_of _
  | convert s d x => exact still_op fun v => still_of _
  | makeInterface it x => exact still_ty fun ti => still_op fun v => still_bif still_fail (still_ret _)
  | makeFunc fn xs ys =>
    show Still (opMakeFunc t fn xs ys)
    unfold opMakeFunc
    split
    · exact still_all fun a => still_all fun b => still_ret _
    · exact still_fail
  | fieldAddr st x f => exact still_field fun off fi => still_op fun p => still_bif (still_of _) still_fail
  | field st x f => exact still_field fun off fi => still_op fun p => still_of _
  | indexAddr xt x ix => exact still_ty fun ti => still_op fun p => still_nat fun i => still_of _
  | index xt x ix => exact still_ty fun ti => still_op fun p => still_nat fun i => still_of _
  | typeAssert x xt at_ ok => exact still_ty fun ti => still_op fun v => still_bif still_fail (still_of _)
  | extract x i => exact still_op fun v => still_of _
  | _ => first | (cases h; done) | exact still_fail

/-- An effect that writes nothing. -/
def Mild (e : Eff) : Prop := ∀ id h, (e.met id h).wr = []
theorem Still.mild {e : Eff} (h : Still e) : Mild e := fun id x => (h id x).2
theorem mild_rd {b : Nat} {k : Blk → Eff} (h : ∀ x, Mild (k x)) : Mild (.rd b k) := fun id H => by
  show (match Heap.get H b with | some x => (⟨b :: ((k x).met id H).rd, ((k x).met id H).wr⟩ : Met) | none => ⟨[], []⟩).wr = []
  cases Heap.get H b with
  | none => rfl
  | some x => exact h x id H
theorem mild_op {t : Tmps} {x : Operand} {k : AV → Eff} (h : ∀ v, Mild (k v)) : Mild (withOp t x k) := by unfold withOp; split <;> first | exact h _ | exact still_fail.mild
theorem mild_nat {t : Tmps} {x : Operand} {k : Nat → Eff} (h : ∀ v, Mild (k v)) : Mild (withNat t x k) := mild_op fun v => by split <;> first | exact h _ | exact still_fail.mild
theorem mild_optnat {t : Tmps} {x : Option Operand} {k : Option Nat → Eff} (h : ∀ v, Mild (k v)) : Mild (withOptNat t x k) := by
  unfold withOptNat
  split
  · exact h _
  · exact mild_nat fun _ => h _
theorem mild_ty {x : Nat} {k : TI → Eff} (h : ∀ v, Mild (k v)) : Mild (withTy E x k) := by unfold withTy; split <;> first | exact h _ | exact still_fail.mild
theorem mild_all {t : Tmps} {x : Array Operand} {k : List AV → Eff} (h : ∀ v, Mild (k v)) : Mild (withAll t x k) := by unfold withAll; split <;> first | exact h _ | exact still_fail.mild
theorem mild_bif {c : Bool} {x y : Eff} (h1 : Mild x) (h2 : Mild y) : Mild (bif c then x else y) := by cases c <;> assumption

theorem mild_load (ti : TI) (v : AV) : Mild (doLoad ti v) := by
  unfold doLoad
  split
  · exact mild_rd fun _ => (still_of _).mild
  · exact (still_of _).mild
  · exact still_fail.mild
theorem mild_slice (ti : TI) (x : AV) (lo hi mx : Option Nat) : Mild (sliceOf E ti x lo hi mx) := by
  unfold sliceOf
  split
  · unfold sliceStr
    split
    · exact mild_bif (still_ret _).mild still_fail.mild
    · exact still_fail.mild
  · split
    · unfold sliceSl
      split
      · exact mild_bif (still_ret _).mild still_fail.mild
      · unfold islCut
        refine mild_bif ?_ still_fail.mild
        split
        · exact (still_ret _).mild
        · exact mild_bif (still_ret _).mild still_fail.mild
      · refine mild_bif (mild_rd fun _ => ?_) still_fail.mild
        split
        · unfold slCut
          refine mild_bif ?_ still_fail.mild
          split
          · exact (still_ret _).mild
          · exact mild_bif (still_ret _).mild still_fail.mild
        · exact still_fail.mild
      · exact still_fail.mild
    · exact still_fail.mild
  · exact still_fail.mild
theorem mild_lookup (mt : Nat) (m k : AV) (ok : Bool) : Mild (doLookup E mt m k ok) := by
  unfold doLookup
  split
  · split
    · exact (still_of _).mild
    · refine mild_rd fun _ => ?_
      split
      · exact (still_of _).mild
      · exact still_fail.mild
    · exact still_fail.mild
  · exact still_fail.mild
theorem mild_len (ats : List Nat) (args : List AV) : Mild (bLen E ats args) := by
  unfold bLen
  split
  · split
    · split
      · unfold lenAt
        split
        · exact (still_ret _).mild
        · split
          · split
            · exact (still_ret _).mild
            · exact still_fail.mild
          · exact still_fail.mild
        · unfold lenSl; split <;> first | exact (still_ret _).mild | exact still_fail.mild
        · unfold lenStr; split <;> first | exact (still_ret _).mild | exact still_fail.mild
        · unfold lenMap
          split
          · exact (still_ret _).mild
          · refine mild_rd fun _ => ?_
            split
            · exact (still_ret _).mild
            · exact still_fail.mild
          · exact still_fail.mild
        · exact still_fail.mild
      · exact still_fail.mild
    · exact still_fail.mild
  · exact still_fail.mild

theorem mild_oper {id : Nat} {t : Tmps} {o : Op} (h : acts o = false) : Mild (oper E id t o) := by
  cases ha : asks o with
  | false => exact (still_oper ha).mild
  | true =>
    cases o with
    | load n x => exact mild_ty fun ti => mild_op fun v => mild_load _ _
    | slice xt x lo hi mx => exact mild_ty fun ti => mild_op fun x => mild_optnat fun _ => mild_optnat fun _ => mild_optnat fun _ => mild_slice _ _ _ _ _
    | lookup mt m k ok => exact mild_op fun m => mild_op fun k => mild_lookup _ _ _ _
    | call c =>
      show Mild (opBuiltin E id t c)
      unfold opBuiltin
      unfold acts at h
      dsimp only at h
      split
      · rename_i b hb
        refine mild_all fun args => ?_
        rw [hb] at h
        unfold AM.builtin
        cases b <;> first | (cases h; done) | exact mild_len _ _ | exact (still_of _).mild | exact still_fail.mild
      · exact still_fail.mild
    | _ => first | (cases ha; done) | (cases h; done) | exact still_fail.mild
end
end Go.AM
