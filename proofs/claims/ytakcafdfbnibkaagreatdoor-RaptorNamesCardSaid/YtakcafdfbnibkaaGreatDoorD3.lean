/- The evaluator AM: what an operation looks at, what it changes. -/
import Derived.Test.YtakcafdfbnibkaaGreatDoorD2
set_option linter.unusedVariables false
set_option linter.unusedSimpArgs false
namespace Go.AM
section
variable {E : Env} {t t' : Tmps} {id : Nat} {call : CallFn}

/-- The same values of some operands. -/
def Same (t t' : Tmps) (xs : List Operand) : Prop := ∀ x ∈ xs, evalOp t x = evalOp t' x

theorem Same.sub {xs ys : List Operand} (h : Same t t' ys) (hs : ∀ x ∈ xs, x ∈ ys) : Same t t' xs := fun x hx => h x (hs x hx)

theorem evalAll_same : ∀ {xs : List Operand}, Same t t' xs → evalAll t xs = evalAll t' xs
  | [], _ => rfl
  | x :: xs, h => by
    unfold evalAll
    rw [h x (by simp), evalAll_same (h.sub fun y hy => by simp [hy])]

theorem evalParts_same : ∀ {xs : List (Nat × Operand)}, Same t t' (xs.map (·.2)) → evalParts t xs = evalParts t' xs
  | [], _ => rfl
  | (i, x) :: xs, h => by
    unfold evalParts
    rw [h x (by simp), evalParts_same (h.sub fun y hy => by simp at hy ⊢; exact .inr hy)]

theorem withOp_same {x : Operand} {k : AV → Eff} (h : evalOp t x = evalOp t' x) : withOp t x k = withOp t' x k := by unfold withOp; rw [h]
theorem withNat_same {x : Operand} {k : Nat → Eff} (h : evalOp t x = evalOp t' x) : withNat t x k = withNat t' x k := withOp_same h
theorem withOptNat_same {x : Option Operand} {k : Option Nat → Eff} (h : ∀ y, x = some y → evalOp t y = evalOp t' y) : withOptNat t x k = withOptNat t' x k := by
  cases x with
  | none => rfl
  | some y => exact withNat_same (h y rfl)
theorem withAll_same {xs : Array Operand} {k : List AV → Eff} (h : Same t t' xs.toList) : withAll t xs k = withAll t' xs k := by unfold withAll; rw [evalAll_same h]
theorem withParts_same {xs : Array (Nat × Operand)} {k : List (Nat × AV) → Eff} (h : Same t t' (xs.toList.map (·.2))) : withParts t xs k = withParts t' xs k := by unfold withParts; rw [evalParts_same h]

theorem oper_same {o : Op} (h : Same t t' o.operands.toList) : oper E id t o = oper E id t' o := by
  cases o with
  | move x => exact congrArg Eff.of (h x (by simp [Op.operands]))
  | assign x => exact congrArg Eff.of (h x (by simp [Op.operands]))
  | pick c x y =>
    show opPick t c x y = opPick t' c x y
    unfold opPick
    rw [withOp_same (h c (by simp [Op.operands])), h x (by simp [Op.operands]), h y (by simp [Op.operands])]
  | alloc e => rfl
  | box e x => exact withOp_same (h x (by simp [Op.operands]))
  | build bt parts =>
    show opBuild E t bt parts = opBuild E t' bt parts
    unfold opBuild
    congr 1; funext ti
    exact withParts_same (h.sub fun x hx => by simpa [Op.operands] using hx)
  | buildSlice st len parts =>
    show opBuildSlice E id t st len parts = opBuildSlice E id t' st len parts
    unfold opBuildSlice
    congr 1; funext ti
    exact withParts_same (h.sub fun x hx => by simpa [Op.operands] using hx)
  | insert mt m k x =>
    show opMapUpdate E t mt m k x = opMapUpdate E t' mt m k x
    unfold opMapUpdate
    rw [withOp_same (h m (by simp [Op.operands]))]; congr 1; funext m'
    rw [withOp_same (h k (by simp [Op.operands]))]; congr 1; funext k'
    exact withOp_same (h x (by simp [Op.operands]))
  | mapUpdate mt m k x =>
    show opMapUpdate E t mt m k x = opMapUpdate E t' mt m k x
    unfold opMapUpdate
    rw [withOp_same (h m (by simp [Op.operands]))]; congr 1; funext m'
    rw [withOp_same (h k (by simp [Op.operands]))]; congr 1; funext k'
    exact withOp_same (h x (by simp [Op.operands]))
  | load n x =>
    show opLoad E t n x = opLoad E t' n x
    unfold opLoad
    congr 1; funext ti
    exact withOp_same (h x (by simp [Op.operands]))
  | store st x y =>
    show opStore E t st x y = opStore E t' st x y
    unfold opStore
    congr 1; funext ti
    rw [withOp_same (h x (by simp [Op.operands]))]; congr 1; funext x'
    exact withOp_same (h y (by simp [Op.operands]))
  | nilCheck x => exact withOp_same (h x (by simp [Op.operands]))
  | binOp op xt x y yt =>
    show opBin E t op xt x y = opBin E t' op xt x y
    unfold opBin
    rw [withOp_same (h x (by simp [Op.operands]))]; congr 1; funext x'
    exact withOp_same (h y (by simp [Op.operands]))
  | unOp op xt x => exact withOp_same (h x (by simp [Op.operands]))
  | convert s d x => exact withOp_same (h x (by simp [Op.operands]))
  | makeInterface it x =>
    show opMakeInterface E t it x = opMakeInterface E t' it x
    unfold opMakeInterface
    congr 1; funext ti
    exact withOp_same (h x (by simp [Op.operands]))
  | makeFunc fn xs ys =>
    show opMakeFunc t fn xs ys = opMakeFunc t' fn xs ys
    unfold opMakeFunc
    split
    · rw [withAll_same (h.sub fun x hx => by simp [Op.operands]; exact .inl (by simpa using hx))]; congr 1; funext a
      exact withAll_same (h.sub fun x hx => by simp [Op.operands]; exact .inr (by simpa using hx))
    · rfl
  | makeMap mt r => rfl
  | makeSlice st l c =>
    show opMakeSlice E id t st l c = opMakeSlice E id t' st l c
    unfold opMakeSlice
    congr 1; funext ti
    rw [withNat_same (h l (by simp [Op.operands]))]; congr 1; funext l'
    exact withNat_same (h c (by simp [Op.operands]))
  | slice xt x lo hi mx =>
    show opSlice E t xt x lo hi mx = opSlice E t' xt x lo hi mx
    unfold opSlice
    congr 1; funext ti
    rw [withOp_same (h x (by simp [Op.operands]))]; congr 1; funext x'
    rw [withOptNat_same (fun y hy => h y (by subst hy; simp [Op.operands]))]; congr 1; funext a
    rw [withOptNat_same (fun y hy => h y (by subst hy; simp [Op.operands]))]; congr 1; funext b
    exact withOptNat_same (fun y hy => h y (by subst hy; simp [Op.operands]))
  | fieldAddr st x f =>
    show opFieldAddr E t st x f = opFieldAddr E t' st x f
    unfold opFieldAddr
    congr 1; funext off fi
    exact withOp_same (h x (by simp [Op.operands]))
  | field st x f =>
    show opField E t st x f = opField E t' st x f
    unfold opField
    congr 1; funext off fi
    exact withOp_same (h x (by simp [Op.operands]))
  | indexAddr xt x ix =>
    show opIndexAddr E t xt x ix = opIndexAddr E t' xt x ix
    unfold opIndexAddr
    congr 1; funext ti
    rw [withOp_same (h x (by simp [Op.operands]))]; congr 1; funext x'
    exact withNat_same (h ix (by simp [Op.operands]))
  | index xt x ix =>
    show opIndex E t xt x ix = opIndex E t' xt x ix
    unfold opIndex
    congr 1; funext ti
    rw [withOp_same (h x (by simp [Op.operands]))]; congr 1; funext x'
    exact withNat_same (h ix (by simp [Op.operands]))
  | lookup mt m k ok =>
    show opLookup E t mt m k ok = opLookup E t' mt m k ok
    unfold opLookup
    rw [withOp_same (h m (by simp [Op.operands]))]; congr 1; funext m'
    exact withOp_same (h k (by simp [Op.operands]))
  | mapEntry mt m k =>
    show opMapEntry E t mt m k = opMapEntry E t' mt m k
    unfold opMapEntry
    rw [withOp_same (h m (by simp [Op.operands]))]; congr 1; funext m'
    exact withOp_same (h k (by simp [Op.operands]))
  | range xt x =>
    show opRange E id t xt x = opRange E id t' xt x
    unfold opRange
    congr 1; funext ti; congr 1
    exact withOp_same (h x (by simp [Op.operands]))
  | next x ss =>
    show opNext t x ss = opNext t' x ss
    unfold opNext
    congr 1
    exact withOp_same (h x (by simp [Op.operands]))
  | entry x =>
    show opEntry t x = opEntry t' x
    unfold opEntry
    exact withOp_same (h x (by simp [Op.operands]))
  | entryStore mt m s x =>
    show opEntryStore t m s x = opEntryStore t' m s x
    unfold opEntryStore
    rw [withOp_same (h m (by simp [Op.operands]))]; congr 1; funext m'
    rw [withOp_same (h s (by simp [Op.operands]))]; congr 1; funext s'
    exact withOp_same (h x (by simp [Op.operands]))
  | typeAssert x xt at_ ok =>
    show opTypeAssert E t x at_ ok = opTypeAssert E t' x at_ ok
    unfold opTypeAssert
    congr 1; funext ti
    exact withOp_same (h x (by simp [Op.operands]))
  | extract x i => exact withOp_same (h x (by simp [Op.operands]))
  | call c =>
    show opBuiltin E id t c = opBuiltin E id t' c
    unfold opBuiltin
    split
    · exact withAll_same (h.sub fun x hx => by simp [Op.operands, Call.operands]; exact .inr (by simpa using hx))
    · rfl
  | _ => rfl

theorem callee_same {c : Call} (h : Same t t' c.operands.toList) : callee E t c = callee E t' c := by
  unfold callee
  rw [evalAll_same (xs := c.args.toList) (h.sub fun x hx => by simp [Call.operands]; exact .inr (by simpa using hx))]
  split
  · rfl
  · split
    · rename_i f hf
      rw [h f (by simp [Call.operands, hf])]
    · rename_i r m hf
      rw [h r (by simp [Call.operands, hf])]
    · rfl
end
end Go.AM
