/- The evaluator AM: maps are asked and written. -/
import Derived.Test.YtakcafdfbnibkaaGreatDoorC4
set_option linter.unusedVariables false
set_option linter.unusedSimpArgs false
namespace Go.AM
section
variable {E : Env} {P : Program} {w : World} {I : Nat → Prop} {φ : Phi} {h h' : Heap} {id : Nat} {t : Tmps} {a : Act} {v : AV}

/-- A map's entries, in both. -/
def MRep (w : World) (I : Nat → Prop) (φ : Phi) (es : List (AV × AV × Nat)) (ces : Array MapEntry) : Prop :=
  ces.size = es.length ∧ ∀ (i : Nat) k v b, es[i]? = some (k, v, b) → ∃ ke : MapEntry, ces[i]? = some ke ∧ ke.born = b ∧ VRep w I φ k ke.key ∧ VRep w I φ v ke.val

theorem MRep.nil : MRep w I φ [] #[] := ⟨rfl, fun i k v b e => by simp at e⟩

theorem MRep.set {es : List (AV × AV × Nat)} {ces : Array MapEntry} {i born : Nat} {k v : AV} {f : MapEntry → MapEntry} {ke : MapEntry} (r : MRep w I φ es ces) (hi : ces[i]? = some ke)
    (hb : (f ke).born = born) (hk : VRep w I φ k (f ke).key) (hv : VRep w I φ v (f ke).val) : MRep w I φ (es.set i (k, v, born)) (ces.modify i f) := by
  have hlt : i < ces.size := (Array.getElem?_eq_some_iff.1 hi).1
  refine ⟨by simp [r.1], fun j k' v' b e => ?_⟩
  rw [List.getElem?_set] at e
  by_cases hij : i = j
  · subst hij
    rw [if_pos rfl, if_pos (by rw [← r.1]; exact hlt)] at e
    cases e
    refine ⟨f ke, ?_, hb, hk, hv⟩
    rw [Array.getElem?_modify, if_pos rfl, hi]; rfl
  · rw [if_neg hij] at e
    obtain ⟨ke', q1, q2⟩ := r.2 j k' v' b e
    refine ⟨ke', ?_, q2⟩
    rw [Array.getElem?_modify, if_neg hij]; exact q1

theorem MRep.push {es : List (AV × AV × Nat)} {ces : Array MapEntry} {born : Nat} {k v : AV} {ke : MapEntry} (r : MRep w I φ es ces)
    (hb : ke.born = born) (hk : VRep w I φ k ke.key) (hv : VRep w I φ v ke.val) : MRep w I φ (es ++ [(k, v, born)]) (ces.push ke) := by
  refine ⟨by simp [r.1], fun j k' v' b e => ?_⟩
  rw [List.getElem?_append] at e
  by_cases hj : j < es.length
  · rw [if_pos hj] at e
    obtain ⟨ke', q1, q2⟩ := r.2 j k' v' b e
    refine ⟨ke', ?_, q2⟩
    rw [Array.getElem?_push, if_neg (by rw [r.1]; omega)]; exact q1
  · rw [if_neg hj] at e
    have hj2 : j = es.length := by
      rcases Nat.lt_or_ge (j - es.length) 1 with hl | hl
      · omega
      · rw [List.getElem?_eq_none (by simpa using hl)] at e; cases e
    subst hj2
    simp at e
    obtain ⟨rfl, rfl, rfl⟩ := e
    refine ⟨ke, ?_, hb, hk, hv⟩
    rw [Array.getElem?_push, if_pos r.1.symm]

theorem MRep.erase {es : List (AV × AV × Nat)} {ces : Array MapEntry} {i : Nat} (r : MRep w I φ es ces) (hi : i < ces.size) : MRep w I φ (es.eraseIdx i) (ces.eraseIdxIfInBounds i) := by
  have he : (ces.eraseIdxIfInBounds i).toList = ces.toList.eraseIdx i := by
    simp only [Array.eraseIdxIfInBounds, hi, dif_pos, Array.toList_eraseIdx]
  refine ⟨?_, fun j k v b e => ?_⟩
  · rw [← Array.length_toList, he, List.length_eraseIdx, List.length_eraseIdx, Array.length_toList, r.1]
  · rw [List.getElem?_eraseIdx] at e
    rw [← Array.getElem?_toList, he, List.getElem?_eraseIdx]
    split at e
    · rename_i hj
      rw [if_pos hj]; simpa using r.2 _ _ _ _ e
    · rename_i hj
      rw [if_neg hj]; simpa using r.2 _ _ _ _ e

/-- A map's block, in both. -/
theorem map_at {b cl : Nat} {es : List (AV × AV × Nat)} {p : Pl} (S : Sim w I φ h) (hb : Heap.get h b = some (.map es cl)) (hp : φ b = some p) :
    ∃ ces, w.heap[p.cb]? = some (.map ces cl) ∧ MRep w I φ es ces := by
  obtain ⟨ces, m1, m2, m3⟩ := S.rep b _ _ hb hp
  exact ⟨ces, m1, m2, m3⟩

theorem okPair_rep {ok there : Bool} {v : AV} {u : Value} (r : VRep w I φ v u) : VRep w I φ (okPair ok there v) (if ok then .tuple #[u, .bool there] else u) := by
  cases ok with
  | false => exact r
  | true =>
    refine .tuple _ rfl fun i x e => ?_
    match i, e with
    | 0, e => cases e; exact r
    | 1, e => cases e; exact .bool _

theorem lookIn_ok (hE : EnvOK E P) {mt kt et : Nat} {ki : TI} {d : TypeDesc} {k : AV} {ck : Value} {ok : Bool} {es : List (AV × AV × Nat)} {ces : Array MapEntry}
    (M : MapOK P mt kt et ki d) (hx : VRep w I φ k ck) (hr : MRep w I φ es ces) (hl : lookIn E ki et k ok es = some v) :
    (∃ j u, (Instr.findKey kt ck ces.toList).run P w = .ok (some (j, u)) w ∧ VRep w I φ v (if ok then .tuple #[u, .bool true] else u)) ∨
    (∃ u, (Instr.findKey kt ck ces.toList).run P w = .ok none w ∧ (zeroValue et).run P w = .ok u w ∧ VRep w I φ v (if ok then .tuple #[u, .bool false] else u)) := by
  unfold lookIn at hl
  split at hl
  · rename_i r hf
    obtain ⟨r', f1, f2⟩ := findKey_run (P := P) M.key M.kd hx hr.1 hr.2 hf
    split at hl
    · cases hl
      cases r' with
      | none => exact f2.elim
      | some q => exact .inl ⟨q.1, q.2, f1, okPair_rep f2.2.1⟩
    · cases r' with
      | some q => exact f2.elim
      | none =>
        split at hl
        · rename_i z hz
          cases hl
          obtain ⟨u, z1, z2⟩ := zeroAt_run (P := P) (w := w) (I := I) (φ := φ) hE hz
          exact .inr ⟨u, f1, z1, okPair_rep z2⟩
        · cases hl
  · cases hl

theorem opLookup_ok (hE : EnvOK E P) {mt : Nat} {m k : Operand} {ok : Bool} {o : Oper} {r : AV × Heap} (S : Sim w I φ h) (ht : TRep w I φ t a.tmps)
    (ho : o.op = .lookup mt m k ok) (hr : (opLookup E t mt m k ok).run id h = some r) : OpRes P a o w I φ h r.1 r.2 := by
  obtain ⟨x, h1, h2⟩ := withOp_run hr
  obtain ⟨y, h3, h4⟩ := withOp_run h2
  have hx := evalOp_rep ht h1
  have hy := evalOp_rep ht h3
  unfold doLookup at h4
  split at h4
  · rename_i ki et hm
    obtain ⟨kt, d, M⟩ := mapTy_run hE hm
    have fin : ∀ ces es, MRep w I φ es ces → (a.eval m = .map none ∧ ces = #[] ∨ ∃ g cl, a.eval m = .map (some g) ∧ w.heap[g]? = some (.map ces cl)) →
        lookIn E ki et y ok es = some r.1 → r.2 = h → OpRes P a o w I φ h r.1 r.2 := by
      intro ces es hre hc hl hh
      rw [hh]
      rcases lookIn_ok hE M hy hre hl with ⟨j, u, f1, f2⟩ | ⟨u, f1, f2, f3⟩
      · refine OpRes.same S ?_ f2
        simp only [execOp, ho]
        refine run_value ?_
        unfold Instr.lookup
        rcases hc with ⟨e1, rfl⟩ | ⟨g, cl, e1, e2⟩
        · simp only [e1, Sem.run_bind, run_underlying M.map, Result.andThen_ok, Sem.run_pure, checkKey_run M.key M.scalar, f1]
        · simp only [e1, Sem.run_bind, run_underlying M.map, Result.andThen_ok, getObj_run (P := P) e2 (by simp), Sem.run_pure, checkKey_run M.key M.scalar, f1]
      · refine OpRes.same S ?_ f3
        simp only [execOp, ho]
        refine run_value ?_
        unfold Instr.lookup
        rcases hc with ⟨e1, rfl⟩ | ⟨g, cl, e1, e2⟩
        · simp only [e1, Sem.run_bind, run_underlying M.map, Result.andThen_ok, Sem.run_pure, checkKey_run M.key M.scalar, f1, f2]
        · simp only [e1, Sem.run_bind, run_underlying M.map, Result.andThen_ok, getObj_run (P := P) e2 (by simp), Sem.run_pure, checkKey_run M.key M.scalar, f1, f2]
    split at h4
    · obtain ⟨e1, e2⟩ := Eff.run_of h4
      cases hx' : a.eval m <;> rw [hx'] at hx <;> cases hx
      exact fin _ _ MRep.nil (.inl ⟨hx', rfl⟩) e1 e2
    · rename_i b
      obtain ⟨blk, q1, q2⟩ := Eff.run_rd h4
      split at q2
      · rename_i es cl
        obtain ⟨e1, e2⟩ := Eff.run_of q2
        generalize hx' : a.eval m = cm at hx
        cases hx with
        | map hp =>
          obtain ⟨ces, m1, m2⟩ := map_at S q1 hp
          exact fin _ _ m2 (.inr ⟨_, _, hx', m1⟩) e1 e2
      · cases q2
    · cases h4
  · cases h4
end
end Go.AM
