/- The evaluator AM: aggregates, slices and maps that are made. -/
import Derived.Test.YtakcafdfbnibkaaGreatDoorC1
set_option linter.unusedVariables false
set_option linter.unusedSimpArgs false
namespace Go.AM
section
variable {E : Env} {P : Program} {w : World} {I : Nat → Prop} {φ : Phi} {h h' : Heap} {id : Nat} {t : Tmps} {a : Act} {v : AV}

theorem opMakeMap_ok {mt : Nat} {ro : Option Operand} {o : Oper} {r : AV × Heap} (S : Sim w I φ h) (ho : o.op = .makeMap mt ro)
    (hr : (opMakeMap id ro).run id h = some r) : OpRes P a o w I φ h r.1 r.2 := by
  cases ro with
  | some x => cases hr
  | none =>
    obtain ⟨hid, h2⟩ := Eff.run_nw hr
    have := Eff.run_ret h2
    subst this
    obtain ⟨S', X⟩ := S.alloc (w' := { w with heap := w.heap.push (.map #[] 0) }) (o := .map #[] 0) (x := .map [] 0) (p := ⟨w.heap.size, 0, 0, 0, 0⟩) hid trivial rfl rfl rfl rfl rfl
      (fun hv => ⟨#[], heap_push_new _ _, rfl, fun i k v b e => by simp at e⟩)
    refine ⟨.value (.map (some w.heap.size)), .map (some w.heap.size), _, I, _, ?_, .inl rfl, .map (Phi.set_same _ _ _), S', X⟩
    simp only [execOp, ho]
    exact run_value (by simp [Instr.makeMap])

theorem small_nat {l : Nat} (h : l < 2 ^ 62) : small (l : Int) = true := by
  have : l < 9223372036854775808 := Nat.lt_trans h (by decide)
  exact Nat.ble_eq_true_of_le this

theorem opMakeSlice_ok (hE : EnvOK E P) {st : Nat} {x y : Operand} {o : Oper} {r : AV × Heap} (S : Sim w I φ h) (ht : TRep w I φ t a.tmps) (ho : o.op = .makeSlice st x y)
    (hr : (opMakeSlice E id t st x y).run id h = some r) : OpRes P a o w I φ h r.1 r.2 := by
  obtain ⟨si, el, ti, h1, h2, h3, h4⟩ := withElem_run hr
  obtain ⟨k1, l, h5, h6⟩ := withNat_run h4
  obtain ⟨k2, c, h7, h8⟩ := withNat_run h6
  obtain ⟨i1, z1, d1, T1⟩ := hE.get h1
  obtain ⟨i, z, d, T⟩ := hE.get h3
  unfold makeRows at h8
  obtain ⟨b1, b2⟩ := bif_run h8
  simp only [Bool.and_eq_true] at b1
  obtain ⟨⟨⟨⟨c1, c2⟩, c3⟩, c4⟩, c5⟩ := b1
  have c1 : l ≤ c := Nat.le_of_ble_eq_true c1
  have c2 : c ≤ 2 ^ 32 := Nat.le_of_ble_eq_true c2
  have c3 : ti.bytes ≤ 32768 := Nat.le_of_ble_eq_true c3
  have c4 : 0 < ti.size := Nat.le_of_ble_eq_true c4
  have c5 : ti.zero.length = ti.size := Nat.eq_of_beq_eq_true c5
  obtain ⟨hid, h9⟩ := Eff.run_nw b2
  have := Eff.run_ret h9
  subst this
  have hl := eval_int ht h5
  have hc := eval_int ht h7
  have hz := zero_erep (w := w) (I := I) (φ := φ) (m := c) T c5
  have hzs : z.cells.size = ti.size := by rw [(T.zrep (w := w) (I := I) (φ := φ)).1, c5]
  obtain ⟨S', X, hv⟩ := newBlock_ok (slack := false) (rows := List.replicate c ti.zero) (va := Builtin.zeroCells z.cells c) (el := el) (N := c)
    (w' := { w with heap := w.heap.push (.cells (Builtin.zeroCells z.cells c) el) }) S hid (len_replicate (n := c) c5) (by simp) (fun _ => by simp) (by rw [hz.1]; simp) hz.2 rfl rfl rfl rfl
  refine ⟨_, _, _, I, _, ?_, .inl rfl, hv l (by simpa using c1), S', X⟩
  simp only [execOp, ho]
  refine run_value ?_
  have w1 : IntKind.i64.wrap (l : Int) = l := by rw [← wrapF_eq]; unfold wrapF; rw [small_nat (show l < 2 ^ 62 by omega)]; rfl
  have w2 : IntKind.i64.wrap (c : Int) = c := by rw [← wrapF_eq]; unfold wrapF; rw [small_nat (show c < 2 ^ 62 by omega)]; rfl
  have hb : (i.bytes : Int) * (c : Int) ≤ 2 ^ 48 := by
    rw [← T.bytes]
    have : ti.bytes * c ≤ 32768 * 2 ^ 32 := Nat.mul_le_mul c3 c2
    have h3 : ((ti.bytes * c : Nat) : Int) ≤ ((32768 * 2 ^ 32 : Nat) : Int) := Int.ofNat_le.2 this
    rw [Int.natCast_mul] at h3
    have : ((32768 * 2 ^ 32 : Nat) : Int) ≤ 2 ^ 48 := by decide
    omega
  unfold Instr.makeSlice
  simp only [Sem.run_bind, run_underlying (elem_desc T1 h2), Result.andThen_ok, hl, hc, asInt, asIntOf, Sem.run_pure, typeInfo_run T.info, w1, w2]
  have hcond : (decide ((c : Int) < 0) || decide ((i.bytes : Int) * (c : Int) > 2 ^ 48) || decide ((l : Int) < 0) || decide ((l : Int) > (c : Int))) = false := by
    simp only [Bool.or_eq_false_iff, decide_eq_false_iff_not]
    refine ⟨⟨⟨by omega, by omega⟩, by omega⟩, by omega⟩
  rw [if_neg (by rw [hcond]; simp)]
  simp only [Sem.run_bind, run_askRoom, Result.andThen_ok, sizeOf_run T, Int.toNat_natCast]
  by_cases hn : c * ti.size = 0
  · have hc0 : c = 0 := by
      rcases Nat.mul_eq_zero.1 hn with e | e
      · exact e
      · omega
    subst hc0
    have e0 : Array.range 0 = #[] := by simp
    simp [newRow, Builtin.zeroCells, e0]
  · rw [if_neg hn]
    simp only [Sem.run_bind, zeroValue_run T, Result.andThen_ok, Sem.run_pure]
    simp [newRow, Builtin.zeroCells, hzs]

theorem evalParts_rep {xs : List (Nat × Operand)} {ps : List (Nat × AV)} (ht : TRep w I φ t a.tmps) (e : evalParts t xs = some ps) :
    ps.length = xs.length ∧ ∀ (i n : Nat) (x : AV), ps[i]? = some (n, x) → ∃ u, (xs.map fun q => (q.1, a.eval q.2))[i]? = some (n, u) ∧ VRep w I φ x u := by
  induction xs generalizing ps with
  | nil => cases e; exact ⟨rfl, fun i n x e => by simp at e⟩
  | cons y ys ih =>
    obtain ⟨n0, y⟩ := y
    unfold evalParts at e
    split at e
    · rename_i u us h1 h2
      cases e
      obtain ⟨l, r⟩ := ih h2
      refine ⟨by simp [l], fun i n x e => ?_⟩
      cases i with
      | zero => simp at e; obtain ⟨rfl, rfl⟩ := e; exact ⟨_, rfl, evalOp_rep ht h1⟩
      | succ i => simpa using r i n x (by simpa using e)
    · cases e

/-- Cells put into an array, one by one. -/
theorem foldSet_get : ∀ (l : List (Value × Nat)) (s off : Nat) (A : Array Value), (∀ (q : Nat) (x : Value × Nat), l[q]? = some x → x.2 = s + q) →
    (l.foldl (fun cs x => cs.setIfInBounds (off + x.2) x.1) A).size = A.size ∧
    (off + s + l.length ≤ A.size → ∀ m, (l.foldl (fun cs x => cs.setIfInBounds (off + x.2) x.1) A)[m]? = if off + s ≤ m ∧ m < off + s + l.length then (l[m - (off + s)]?).map (·.1) else A[m]?)
  | [], s, off, A, _ => ⟨rfl, fun _ m => by rw [if_neg (by simp)]; rfl⟩
  | x :: l, s, off, A, hx => by
    have h0 := hx 0 x rfl
    obtain ⟨g1, g2⟩ := foldSet_get l (s + 1) off (A.setIfInBounds (off + x.2) x.1) (fun q y e => by have := hx (q + 1) y (by simpa using e); omega)
    simp only [List.foldl_cons]
    refine ⟨by rw [g1]; simp, fun hl m => ?_⟩
    simp only [List.length_cons] at hl
    rw [g2 (by simp; omega) m]
    by_cases hm : off + (s + 1) ≤ m ∧ m < off + (s + 1) + l.length
    · rw [if_pos hm, if_pos ⟨by omega, by simp; omega⟩]
      obtain ⟨q, hq⟩ : ∃ q, m - (off + s) = q + 1 := ⟨m - (off + s) - 1, by omega⟩
      rw [hq, List.getElem?_cons_succ]; congr 2; omega
    · rw [if_neg hm, h0, Array.getElem?_setIfInBounds]
      by_cases hms : off + (s + 0) = m
      · subst hms; simp; omega
      · rw [if_neg hms, if_neg (by simp; omega)]

theorem zipIdx_fold {vs A : Array Value} {off : Nat} (hl : off + vs.size ≤ A.size) :
    (vs.zipIdx.foldl (fun cs (x : Value × Nat) => cs.setIfInBounds (off + x.2) x.1) A).size = A.size ∧
    ∀ m, (vs.zipIdx.foldl (fun cs (x : Value × Nat) => cs.setIfInBounds (off + x.2) x.1) A)[m]? = if off ≤ m ∧ m < off + vs.size then vs[m - off]? else A[m]? := by
  rw [← Array.foldl_toList, Array.toList_zipIdx]
  obtain ⟨g1, g2⟩ := foldSet_get (vs.toList.zipIdx 0) 0 off A (fun q x e => by
    rw [List.getElem?_zipIdx] at e
    cases hq : vs.toList[q]? with
    | none => rw [hq] at e; cases e
    | some y => rw [hq] at e; simp at e; rw [← e]; simp)
  refine ⟨g1, fun m => ?_⟩
  rw [g2 (by simpa using hl) m]
  simp only [Nat.add_zero, List.length_zipIdx, Array.length_toList]
  by_cases hm : off ≤ m ∧ m < off + vs.size
  · rw [if_pos hm, if_pos hm, List.getElem?_zipIdx]
    simp only [Array.getElem?_toList, Option.map_map]
    cases vs[m - off]? <;> rfl
  · rw [if_neg hm, if_neg hm]

/-- The model's filling of an aggregate, part by part. -/
theorem fill_run {place : Nat → Option (Nat × Nat)} : ∀ (ps : List (Nat × AV)) (qs : List (Nat × Value)) (cells out : List AV) (va : Array Value), qs.length = ps.length →
    (∀ (i n : Nat) (x : AV), ps[i]? = some (n, x) → ∃ u, qs[i]? = some (n, u) ∧ VRep w I φ x u) → CRep w I φ cells va → (∀ c ∈ cells, isCell c = true) → fillAt place cells ps = some out →
    ∃ vb, Instr.fill place va qs = some vb ∧ CRep w I φ out vb ∧ ∀ c ∈ out, isCell c = true
  | [], [], cells, out, va, _, _, hc, hcell, hf => by cases hf; exact ⟨va, rfl, hc, hcell⟩
  | [], _ :: _, _, _, _, hl, _, _, _, _ => by simp at hl
  | _ :: _, [], _, _, _, hl, _, _, _, _ => by simp at hl
  | (n, x) :: ps, (n', u) :: qs, cells, out, va, hl, hr, hc, hcell, hf => by
    obtain ⟨u', hu1, hu2⟩ := hr 0 n x rfl
    simp only [List.getElem?_cons_zero, Option.some.injEq, Prod.mk.injEq] at hu1
    obtain ⟨rfl, rfl⟩ := hu1
    unfold fillAt at hf
    cases hp : place n' with
    | none => rw [hp] at hf; cases hf
    | some q =>
      obtain ⟨off, size⟩ := q
      rw [hp] at hf
      simp only at hf
      cases hb : (x.cells.length.beq size && (off + x.cells.length).ble cells.length && x.cells.all isCell) with
      | false => rw [hb] at hf; cases hf
      | true =>
        rw [hb] at hf
        simp only [Bool.and_eq_true] at hb
        obtain ⟨⟨b1, b2⟩, b3⟩ := hb
        have b1 := Nat.eq_of_beq_eq_true b1
        have b2 : off + x.cells.length ≤ cells.length := Nat.le_of_ble_eq_true b2
        simp only [cond_true] at hf
        cases hs : setAt cells off x.cells with
        | none => rw [hs] at hf; cases hf
        | some cells' =>
          rw [hs] at hf
          obtain ⟨s1, s2, s3⟩ := setAt_get _ _ _ _ hs
          have hxc := hu2.cells (notTuple b3)
          have hfit : off + u.cells.size ≤ va.size := by rw [hxc.1, hc.1]; exact b2
          obtain ⟨z1, z2⟩ := zipIdx_fold hfit
          have hc' : CRep w I φ cells' (u.cells.zipIdx.foldl (fun cs (x : Value × Nat) => cs.setIfInBounds (off + x.2) x.1) va) := by
            refine ⟨by rw [z1, hc.1, s1], fun i y e => ?_⟩
            rw [s3 i] at e
            rw [z2 i, hxc.1]
            by_cases hi : off ≤ i ∧ i < off + x.cells.length
            · rw [if_pos hi] at e ⊢; exact hxc.2 _ _ e
            · rw [if_neg hi] at e ⊢; exact hc.2 _ _ e
          have hcell' : ∀ c ∈ cells', isCell c = true := by
            intro c hc2
            obtain ⟨i, hi⟩ := List.getElem?_of_mem hc2
            rw [s3 i] at hi
            split at hi
            · exact List.all_eq_true.1 b3 c (List.mem_of_getElem? hi)
            · exact hcell c (List.mem_of_getElem? hi)
          obtain ⟨vb, e1, e2, e3⟩ := fill_run ps qs cells' out _ (by simpa using hl) (fun i m y e => by simpa using hr (i + 1) m y (by simpa using e)) hc' hcell' hf
          refine ⟨vb, ?_, e2, e3⟩
          unfold Instr.fill
          rw [hp]
          simp only
          rw [if_neg (by
            simp only [ne_eq, Bool.or_eq_true, decide_eq_true_eq]
            rw [hxc.1, b1]
            simp
            have := hxc.1; omega)]
          exact e1
end
end Go.AM
