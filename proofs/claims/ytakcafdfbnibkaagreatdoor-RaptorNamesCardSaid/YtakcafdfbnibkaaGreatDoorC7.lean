/- The evaluator AM: every operation but calls is sound. -/
import Derived.Test.YtakcafdfbnibkaaGreatDoorC8
set_option linter.unusedVariables false
set_option linter.unusedSimpArgs false
namespace Go.AM
section
variable {E : Env} {P : Program} {w : World} {I : Nat → Prop} {φ : Phi} {h h' : Heap} {id : Nat} {t : Tmps} {a : Act} {v : AV}

theorem opStore_ok (hE : EnvOK E P) {st : Nat} {x y : Operand} {o : Oper} {r : AV × Heap} (S : Sim w I φ h) (ht : TRep w I φ t a.tmps)
    (ho : o.op = .store st x y) (hr : (opStore E t st x y).run id h = some r) : OpRes P a o w I φ h r.1 r.2 := by
  obtain ⟨ti, h1, h2⟩ := withTy_run hr
  obtain ⟨x', h3, h4⟩ := withOp_run h2
  obtain ⟨y', h5, h6⟩ := withOp_run h4
  obtain ⟨i, z, d, T⟩ := hE.get h1
  exact doStore_ok T S (evalOp_rep ht h3) (evalOp_rep ht h5) h6 (by simp only [execOp, ho])

theorem map_len {xs : Array Operand} : (xs.map a.eval).toList = xs.toList.map a.eval := by simp

theorem minmax_ok {mx : Bool} {c : Call} {o : Oper} {vs : List AV} {r : AV × Heap} (S : Sim w I φ h) (ht : TRep w I φ t a.tmps)
    (he : evalAll t c.args.toList = some vs) (hr : (Eff.of (minmax mx vs)).run id h = some r)
    (ho : execOp a.eval o = do pure (Next.value (← (bif mx then Builtin.max_ c.argTypes o.type (c.args.map a.eval) else Builtin.min_ c.argTypes o.type (c.args.map a.eval) : Sem Value)))) :
    OpRes P a o w I φ h r.1 r.2 := by
  obtain ⟨e1, e2⟩ := Eff.run_of hr
  obtain ⟨l1, l2⟩ := evalAll_rep ht he
  obtain ⟨c0, cr, m1, cv, m2, m3⟩ := minmax_run (P := P) (w := w) (I := I) (φ := φ) (cs := c.args.toList.map a.eval) (by simpa using l1.symm) (fun i x e => by
    have hlt : i < c.args.toList.length := by rw [← l1]; exact (List.getElem?_eq_some_iff.1 e).1
    have := l2 i x e
    refine ⟨_, List.getElem?_eq_getElem (by simpa using hlt), ?_⟩
    have hlt2 : i < c.args.size := by simpa using hlt
    simpa [hlt2] using this) e1
  rw [e2]
  refine OpRes.same S ?_ m3
  rw [ho]
  refine run_value ?_
  cases mx with
  | true =>
    simp only [if_true, cond_true] at m2 ⊢
    unfold Builtin.max_
    rw [map_len, m1]; exact m2
  | false =>
    simp only [Bool.false_eq_true, if_false, cond_false] at m2 ⊢
    unfold Builtin.min_
    rw [map_len, m1]; exact m2

theorem builtin_exec {c : Call} {b : Builtin} {o : Oper} (ho : o.op = .call c) (hc : c.callee = .builtin b) :
    execOp a.eval o = _root_.Go.builtin b c.argTypes o.type (c.args.map fun | .const _ => true | _ => false) (c.args.map a.eval) := by
  simp only [execOp, ho, resolve, hc]
  rfl

theorem opBuiltin_ok (hE : EnvOK E P) {c : Call} {o : Oper} {r : AV × Heap} (S : Sim w I φ h) (ht : TRep w I φ t a.tmps)
    (ho : o.op = .call c) (hr : (opBuiltin E id t c).run id h = some r) : OpRes P a o w I φ h r.1 r.2 := by
  unfold opBuiltin at hr
  split at hr
  · rename_i b hb
    obtain ⟨vs, h1, h2⟩ := withAll_run hr
    have hop := builtin_exec (a := a) ho hb
    unfold AM.builtin at h2
    split at h2
    · exact bAppend_ok hE S ht h1 h2 hop
    · exact bCopy_ok hE S ht h1 h2 hop
    · exact bClear_ok hE S ht h1 h2 hop
    · exact bLen_ok hE S ht h1 h2 hop
    · exact bDelete_ok hE S ht h1 h2 hop
    · exact minmax_ok (mx := false) S ht h1 h2 hop
    · exact minmax_ok (mx := true) S ht h1 h2 hop
    · cases h2
  · cases hr

theorem oper_ok (hE : EnvOK E P) {o : Oper} {r : AV × Heap} (S : Sim w I φ h) (ht : TRep w I φ t a.tmps)
    (hr : (oper E id t o.op).run id h = some r) : OpRes P a o w I φ h r.1 r.2 := by
  generalize ho : o.op = op at hr
  cases op with
  | move x => exact opMove_ok S ht (.inl ho) hr
  | assign x => exact opMove_ok S ht (.inr ho) hr
  | pick c x y => exact opPick_ok S ht ho hr
  | alloc e => exact opAlloc_ok hE S ho hr
  | box e x => exact opBox_ok S ht ho hr
  | build bt parts => exact opBuild_ok hE S ht ho hr
  | buildSlice st len parts => exact opBuildSlice_ok hE S ht ho hr
  | insert mt m k x => exact opMapUpdate_ok hE S ht (.inr ho) hr
  | load n x => exact opLoad_ok hE S ht ho hr
  | store st x y => exact opStore_ok hE S ht ho hr
  | nilCheck x => exact opNilCheck_ok S ht ho hr
  | binOp op xt x y yt => exact opBin_ok hE S ht ho hr
  | unOp op xt x => exact opUn_ok S ht ho hr
  | convert s d x => exact opConvert_ok hE S ht ho hr
  | makeInterface it x => exact opMakeInterface_ok hE S ht ho hr
  | makeFunc fn xs ys => exact opMakeFunc_ok S ht ho hr
  | makeMap mt ro => exact opMakeMap_ok S ho hr
  | makeSlice st l c => exact opMakeSlice_ok hE S ht ho hr
  | slice xt x lo hi mx => exact opSlice_ok hE S ht ho hr
  | fieldAddr st x f => exact opFieldAddr_ok hE S ht ho hr
  | field st x f => exact opField_ok hE S ht ho hr
  | indexAddr xt x ix => exact opIndexAddr_ok hE S ht ho hr
  | index xt x ix => exact opIndex_ok hE S ht ho hr
  | lookup mt m k ok => exact opLookup_ok hE S ht ho hr
  | mapUpdate mt m k x => exact opMapUpdate_ok hE S ht (.inl ho) hr
  | mapEntry mt m k => exact opMapEntry_ok hE S ht ho hr
  | range xt x => exact opRange_ok hE S ht ho hr
  | next x ss => exact opNext_ok S ht ho hr
  | entry x => exact opEntry_ok S ht ho hr
  | entryStore mt m s x => exact opEntryStore_ok S ht ho hr
  | typeAssert x xt at_ ok => exact opTypeAssert_ok hE S ht ho hr
  | extract x i => exact opExtract_ok S ht ho hr
  | call c => exact opBuiltin_ok hE S ht ho hr
  | _ => exact (Eff.run_fail hr).elim
end
end Go.AM
