/- The evaluator AM: maps are written. -/
import Derived.Test.YtakcafdfbnibkaaGreatDoorC5
set_option linter.unusedVariables false
set_option linter.unusedSimpArgs false
namespace Go.AM
section
variable {E : Env} {P : Program} {w : World} {I : Nat → Prop} {φ : Phi} {h h' : Heap} {id : Nat} {t : Tmps} {a : Act} {v : AV}

theorem keyStays_run {old new : Value} (h : Instr.sameBits 10000 old new = true) : (Instr.keyThatStays old new).run P w = .ok new w := by
  unfold Instr.keyThatStays
  rw [if_pos h]; rfl

theorem setMap_M {b cl cl' : Nat} {es es' : List (AV × AV × Nat)} {ces' : Array MapEntry} {p : Pl} (S : Sim w I φ h) (hb : Heap.get h b = some (.map es cl)) (hp : φ b = some p)
    (hr : MRep w I φ es' ces') :
    Sim { w with heap := w.heap.setIfInBounds p.cb (.map ces' cl') } I φ (Heap.put h b (.map es' cl')) ∧
    Ext w I φ h { w with heap := w.heap.setIfInBounds p.cb (.map ces' cl') } I φ (Heap.put h b (.map es' cl')) ∧
    (setObj p.cb (.map ces' cl')).run P w = .ok () { w with heap := w.heap.setIfInBounds p.cb (.map ces' cl') } :=
  setMap_ok S hb hp hr.1 hr.2

theorem opMapUpdate_ok (hE : EnvOK E P) {mt : Nat} {m k x : Operand} {o : Oper} {r : AV × Heap} (S : Sim w I φ h) (ht : TRep w I φ t a.tmps)
    (ho : o.op = .mapUpdate mt m k x ∨ o.op = .insert mt m k x) (hr : (opMapUpdate E t mt m k x).run id h = some r) : OpRes P a o w I φ h r.1 r.2 := by
  obtain ⟨m', h1, h2⟩ := withOp_run hr
  obtain ⟨k', h3, h4⟩ := withOp_run h2
  obtain ⟨x', h5, h6⟩ := withOp_run h4
  have hm := evalOp_rep ht h1
  have hk := evalOp_rep ht h3
  have hx := evalOp_rep ht h5
  have hop : execOp a.eval o = (do Instr.mapUpdate mt (a.eval m) (a.eval k) (a.eval x); pure Next.skip) := by
    rcases ho with ho | ho <;> simp only [execOp, ho]
  unfold doMapUpdate at h6
  split at h6
  · rename_i ki et hmt
    obtain ⟨kt, d, M⟩ := mapTy_run hE hmt
    split at h6
    · rename_i b
      obtain ⟨blk, q1, q2⟩ := Eff.run_rd h6
      split at q2
      · rename_i es cl
        generalize hx' : a.eval m = cm at hm
        cases hm with
        | map hp =>
          rename_i p
          obtain ⟨ces, m1, m2⟩ := map_at S q1 hp
          unfold updIn at q2
          split at q2
          · rename_i rr hf
            obtain ⟨r', f1, f2⟩ := findKey_run (P := P) M.key M.kd hk m2.1 m2.2 hf
            split at q2
            · rename_i i v0 born
              have := Eff.run_ret (Eff.run_wr q2)
              subst this
              cases r' with
              | none => exact f2.elim
              | some q =>
                obtain ⟨j, u⟩ := q
                obtain ⟨rfl, g2, ke, g3, g4, g5, g6⟩ := f2
                rw [Array.getElem?_toList] at g3
                have hM := MRep.set (f := fun e => { e with key := a.eval k, val := a.eval x }) m2 g3 g4 hk hx
                obtain ⟨S', X, hs⟩ := setMap_M (P := P) (cl' := cl) S q1 hp hM
                refine ⟨.skip, _root_.Go.undef, _, I, φ, ?_, .inr ⟨rfl, rfl⟩, .any, S', X⟩
                rw [hop]
                refine run_unit ?_
                unfold Instr.mapUpdate
                simp only [hx', Sem.run_bind, run_underlying M.map, Result.andThen_ok, getObj_run (P := P) m1 (by simp), checkKey_run M.key M.scalar, f1, g3, Option.map_some, Option.getD_some, keyStays_run g6, hs]
            · have := Eff.run_ret (Eff.run_wr q2)
              subst this
              cases r' with
              | some q => exact f2.elim
              | none =>
                have hM := MRep.push (ke := { key := a.eval k, val := a.eval x, born := cl }) m2 rfl hk hx
                obtain ⟨S', X, hs⟩ := setMap_M (P := P) (cl' := cl + 1) S q1 hp hM
                refine ⟨.skip, _root_.Go.undef, _, I, φ, ?_, .inr ⟨rfl, rfl⟩, .any, S', X⟩
                rw [hop]
                refine run_unit ?_
                unfold Instr.mapUpdate
                simp only [hx', Sem.run_bind, run_underlying M.map, Result.andThen_ok, getObj_run (P := P) m1 (by simp), checkKey_run M.key M.scalar, f1, hs]
          · cases q2
      · cases q2
    · cases h6
  · cases h6

theorem opMapEntry_ok (hE : EnvOK E P) {mt : Nat} {m k : Operand} {o : Oper} {r : AV × Heap} (S : Sim w I φ h) (ht : TRep w I φ t a.tmps)
    (ho : o.op = .mapEntry mt m k) (hr : (opMapEntry E t mt m k).run id h = some r) : OpRes P a o w I φ h r.1 r.2 := by
  obtain ⟨m', h1, h2⟩ := withOp_run hr
  obtain ⟨k', h3, h4⟩ := withOp_run h2
  have hm := evalOp_rep ht h1
  have hk := evalOp_rep ht h3
  unfold doMapEntry at h4
  split at h4
  · rename_i ki et hmt
    obtain ⟨kt, d, M⟩ := mapTy_run hE hmt
    split at h4
    · rename_i b
      obtain ⟨blk, q1, q2⟩ := Eff.run_rd h4
      split at q2
      · rename_i es cl
        generalize hx' : a.eval m = cm at hm
        cases hm with
        | map hp =>
          rename_i p
          obtain ⟨ces, m1, m2⟩ := map_at S q1 hp
          unfold entryIn at q2
          split at q2
          · rename_i rr hf
            obtain ⟨r', f1, f2⟩ := findKey_run (P := P) M.key M.kd hk m2.1 m2.2 hf
            split at q2
            · rename_i i v0 born
              have := Eff.run_ret (Eff.run_wr q2)
              subst this
              cases r' with
              | none => exact f2.elim
              | some q =>
                obtain ⟨j, u⟩ := q
                obtain ⟨rfl, g2, ke, g3, g4, g5, g6⟩ := f2
                rw [Array.getElem?_toList] at g3
                have hM := MRep.set (f := fun e => { e with key := a.eval k }) m2 g3 g4 hk (g5 ▸ g2)
                obtain ⟨S', X, hs⟩ := setMap_M (P := P) (cl' := cl) S q1 hp hM
                refine ⟨.value (.tuple #[u, goInt born]), .tuple #[u, goInt born], _, I, φ, ?_, .inl rfl, ?_, S', X⟩
                · simp only [execOp, ho]
                  refine run_value ?_
                  unfold Instr.mapEntry
                  simp only [hx', Sem.run_bind, run_underlying M.map, Result.andThen_ok, getObj_run (P := P) m1 (by simp), checkKey_run M.key M.scalar, f1, g3, Option.map_some, Option.getD_some, keyStays_run g6, hs, g4, Sem.run_pure]
                · refine .tuple _ rfl fun i x e => ?_
                  match i, e with
                  | 0, e => cases e; exact g2.ext X
                  | 1, e => cases e; exact .int _ _
            · cases r' with
              | some q => exact f2.elim
              | none =>
                split at q2
                · rename_i z hz
                  have := Eff.run_ret (Eff.run_wr q2)
                  subst this
                  obtain ⟨u, z1, z2⟩ := zeroAt_run (P := P) (w := w) (I := I) (φ := φ) hE hz
                  have hM := MRep.push (ke := { key := a.eval k, val := u, born := cl }) m2 rfl hk z2
                  obtain ⟨S', X, hs⟩ := setMap_M (P := P) (cl' := cl + 1) S q1 hp hM
                  refine ⟨.value (.tuple #[u, goInt cl]), .tuple #[u, goInt cl], _, I, φ, ?_, .inl rfl, ?_, S', X⟩
                  · simp only [execOp, ho]
                    refine run_value ?_
                    unfold Instr.mapEntry
                    simp only [hx', Sem.run_bind, run_underlying M.map, Result.andThen_ok, getObj_run (P := P) m1 (by simp), checkKey_run M.key M.scalar, f1, z1, hs, Sem.run_pure]
                  · refine .tuple _ rfl fun i x e => ?_
                    match i, e with
                    | 0, e => cases e; exact z2.ext X
                    | 1, e => cases e; exact .int _ _
                · cases q2
          · cases q2
      · cases q2
    · cases h4
  · cases h4

theorem bDelete_ok (hE : EnvOK E P) {c : Call} {o : Oper} {vs : List AV} {r : AV × Heap} (S : Sim w I φ h) (ht : TRep w I φ t a.tmps)
    (he : evalAll t c.args.toList = some vs) (hr : (bDelete E c.argTypes.toList vs).run id h = some r)
    (ho : execOp a.eval o = do pure (Next.value (← Builtin.delete_ c.argTypes o.type (c.args.map a.eval)))) : OpRes P a o w I φ h r.1 r.2 := by
  unfold bDelete at hr
  split at hr
  · rename_i mt rest hats
    split at hr
    · rename_i m' k'
      obtain ⟨cm, ck, a0, a1, hm, hk⟩ := args_two ht he
      have hst : c.argTypes[0]? = some mt := by rw [← Array.getElem?_toList, hats]; rfl
      have fin : ∀ w' h', (Builtin.delete_ c.argTypes o.type (c.args.map a.eval)).run P w = .ok (.tuple #[]) w' → Sim w' I φ h' → Ext w I φ h w' I φ h' → OpRes P a o w I φ h undef h' := by
        intro w' h' hn S' X
        exact ⟨_, _, w', I, φ, by rw [ho]; exact run_value hn, .inl rfl, .any, S', X⟩
      unfold doDelete at hr
      split at hr
      · rename_i ki et hmt
        obtain ⟨kt, d, M⟩ := mapTy_run hE hmt
        split at hr
        · cases hm
          have := Eff.run_ret hr
          subst this
          refine fin w h ?_ S (Ext.refl _ _ _ _)
          unfold Builtin.delete_
          simp only [hst, a0, a1, Sem.run_bind, run_underlying M.map, Result.andThen_ok, checkKey_run M.key M.scalar, Sem.run_pure]
        · rename_i b
          obtain ⟨blk, q1, q2⟩ := Eff.run_rd hr
          split at q2
          · rename_i es cl
            cases hm with
            | map hp =>
              rename_i p
              obtain ⟨ces, m1, m2⟩ := map_at S q1 hp
              unfold delIn at q2
              split at q2
              · rename_i rr hf
                obtain ⟨r', f1, f2⟩ := findKey_run (P := P) M.key M.kd hk m2.1 m2.2 hf
                split at q2
                · rename_i i v0 born
                  have := Eff.run_ret (Eff.run_wr q2)
                  subst this
                  cases r' with
                  | none => exact f2.elim
                  | some q =>
                    obtain ⟨j, u⟩ := q
                    obtain ⟨rfl, g2, ke, g3, g4, g5, g6⟩ := f2
                    rw [Array.getElem?_toList] at g3
                    have hM := MRep.erase (i := i) m2 (Array.getElem?_eq_some_iff.1 g3).1
                    obtain ⟨S', X, hs⟩ := setMap_M (P := P) (cl' := cl) S q1 hp hM
                    refine fin _ _ ?_ S' X
                    unfold Builtin.delete_
                    simp only [hst, a0, a1, Sem.run_bind, run_underlying M.map, Result.andThen_ok, getObj_run (P := P) m1 (by simp), checkKey_run M.key M.scalar, f1, hs, Sem.run_pure]
                · have := Eff.run_ret q2
                  subst this
                  cases r' with
                  | some q => exact f2.elim
                  | none =>
                    obtain ⟨S', X, hs⟩ := setMap_M (P := P) (cl' := cl) S q1 hp m2
                    have hw : ({ w with heap := w.heap.setIfInBounds p.cb (.map ces cl) } : World) = w := by
                      have : w.heap.setIfInBounds p.cb (.map ces cl) = w.heap := by
                        apply Array.ext_getElem?
                        intro i
                        rw [Array.getElem?_setIfInBounds]
                        split
                        · rename_i e; subst e
                          rw [m1]; simp [(Array.getElem?_eq_some_iff.1 m1).1]
                        · rfl
                      rw [this]
                    rw [hw] at hs
                    refine fin w h ?_ S (Ext.refl _ _ _ _)
                    unfold Builtin.delete_
                    simp only [hst, a0, a1, Sem.run_bind, run_underlying M.map, Result.andThen_ok, getObj_run (P := P) m1 (by simp), checkKey_run M.key M.scalar, f1, hs, Sem.run_pure]
              · cases q2
          · cases q2
        · cases hr
      · cases hr
    · cases hr
  · cases hr

theorem findBorn_ok {n : Int} : ∀ (es : List (AV × AV × Nat)) (ces : List MapEntry) (i : Nat), ces.length = es.length →
    (∀ (i : Nat) k v b, es[i]? = some (k, v, b) → ∃ ke : MapEntry, ces[i]? = some ke ∧ ke.born = b ∧ VRep w I φ k ke.key ∧ VRep w I φ v ke.val) →
    ∀ j k born, findBorn n es i = some (j, k, born) → ∃ q, j = i + q ∧ ces.findIdx? (fun e => (e.born : Int) == n) = some q ∧ ∃ ke : MapEntry, ces[q]? = some ke ∧ ke.born = born ∧ VRep w I φ k ke.key
  | [], _, _, _, _, _, _, _, hf => by cases hf
  | _ :: _, [], _, hl, _, _, _, _, _ => by simp at hl
  | (k0, v0, b0) :: es, ke :: ces, i, hl, hr, j, k, born, hf => by
    obtain ⟨ke', q1, q2, q3, q4⟩ := hr 0 _ _ _ rfl
    simp only [List.getElem?_cons_zero, Option.some.injEq] at q1
    subst q1
    unfold findBorn at hf
    rw [List.findIdx?_cons, q2, ← ieq_eq]
    cases hb : ieq (b0 : Int) n with
    | true =>
      rw [hb] at hf
      cases hf
      exact ⟨0, rfl, rfl, ke, rfl, q2, q3⟩
    | false =>
      rw [hb] at hf
      obtain ⟨q, e1, e2, e3⟩ := findBorn_ok es ces (i + 1) (by simpa using hl) (fun j k v b e => by simpa using hr (j + 1) k v b (by simpa using e)) j k born hf
      exact ⟨q + 1, by omega, by simp [e2], by simpa using e3⟩

theorem opEntryStore_ok {mt : Nat} {m s x : Operand} {o : Oper} {r : AV × Heap} (S : Sim w I φ h) (ht : TRep w I φ t a.tmps)
    (ho : o.op = .entryStore mt m s x) (hr : (opEntryStore t m s x).run id h = some r) : OpRes P a o w I φ h r.1 r.2 := by
  obtain ⟨m', h1, h2⟩ := withOp_run hr
  obtain ⟨s', h3, h4⟩ := withOp_run h2
  obtain ⟨x', h5, h6⟩ := withOp_run h4
  have hm := evalOp_rep ht h1
  have hs := evalOp_rep ht h3
  have hx := evalOp_rep ht h5
  unfold doEntryStore at h6
  split at h6
  · rename_i b
    split at h6
    · rename_i kk n
      obtain ⟨blk, q1, q2⟩ := Eff.run_rd h6
      split at q2
      · rename_i es cl
        generalize hx' : a.eval m = cm at hm
        generalize hs' : a.eval s = cs at hs
        cases hs
        cases hm with
        | map hp =>
          rename_i p
          obtain ⟨ces, m1, m2⟩ := map_at S q1 hp
          split at q2
          · rename_i i k born hf
            have := Eff.run_ret (Eff.run_wr q2)
            subst this
            obtain ⟨q, e1, e2, ke, e3, e4, e5⟩ := findBorn_ok es ces.toList 0 (by simpa using m2.1) (fun j k v b e => by simpa using m2.2 j k v b e) _ _ _ hf
            simp only [Nat.zero_add] at e1
            subst e1
            rw [Array.getElem?_toList] at e3
            have e2' : ces.findIdx? (fun e => (e.born : Int) == n) = some i := by rw [← e2]; rw [← List.findIdx?_toArray]
            have hM := MRep.set (f := fun e => { e with val := a.eval x }) m2 e3 e4 e5 hx
            obtain ⟨S', X, hrun⟩ := setMap_M (P := P) (cl' := cl) S q1 hp hM
            refine ⟨.skip, _root_.Go.undef, _, I, φ, ?_, .inr ⟨rfl, rfl⟩, .any, S', X⟩
            simp only [execOp, ho]
            refine run_unit ?_
            unfold Instr.entryStore
            simp only [hx', hs', Sem.run_bind, Sem.run_pure, Result.andThen_ok, getObj_run (P := P) m1 (by simp), asInt, asIntOf, e2', hrun]
          · cases q2
      · cases q2
    · cases h6
  · cases h6
end
end Go.AM
