/- The evaluator AM: aggregates and slices that are built, built-in functions. -/
import Derived.Test.YtakcafdfbnibkaaGreatDoorC2
set_option linter.unusedVariables false
set_option linter.unusedSimpArgs false
namespace Go.AM
section
variable {E : Env} {P : Program} {w : World} {I : Nat → Prop} {φ : Phi} {h h' : Heap} {id : Nat} {t : Tmps} {a : Act} {v : AV}

theorem places_run (hE : EnvOK E P) : ∀ {gs : List Field} {pl : List (Nat × Nat)}, placesOf E (gs.map fun f => (f.offset, f.type)) = some pl →
    (gs.mapM fun f => Prod.mk f.offset <$> sizeOf f.type).run P w = .ok pl w
  | [], pl, e => by cases e; simp
  | g :: gs, pl, e => by
    simp only [List.map_cons] at e
    unfold placesOf at e
    split at e
    · rename_i ti h1
      obtain ⟨i, z, d, T⟩ := hE.get h1
      split at e
      · rename_i ps h2
        cases e
        have ih := places_run hE h2
        simp [List.mapM_cons, sizeOf_run T, ih]
      · cases e
    · cases e

theorem parts_eq {parts : Array (Nat × Operand)} : (parts.map fun (i, x) => (i, a.eval x)).toList = parts.toList.map fun q => (q.1, a.eval q.2) := by simp

theorem aggOf_run {cs : Option (List AV)} {r : AV × Heap} (e : (aggOf cs).run id h = some r) : ∃ c, cs = some c ∧ r = (.agg c, h) := by
  unfold aggOf at e
  split at e
  · cases e; exact ⟨_, rfl, rfl⟩
  · cases e

theorem CRep.agg {cs : List AV} {va : Array Value} (r : CRep w I φ cs va) : VRep w I φ (.agg cs) (.agg va) :=
  .agg va r.1 (fun i x e => by obtain ⟨u, h1, h2⟩ := r.2 i x e; rw [getD_getElem? h1]; exact h2)

theorem opBuild_ok (hE : EnvOK E P) {bt : Nat} {parts : Array (Nat × Operand)} {o : Oper} {r : AV × Heap} (S : Sim w I φ h) (ht : TRep w I φ t a.tmps) (ho : o.op = .build bt parts)
    (hr : (opBuild E t bt parts).run id h = some r) : OpRes P a o w I φ h r.1 r.2 := by
  obtain ⟨ti, h1, h2⟩ := withTy_run hr
  obtain ⟨ps, h3, h4⟩ := withParts_run h2
  obtain ⟨i, z, d, T⟩ := hE.get h1
  obtain ⟨p1, p2⟩ := evalParts_rep ht h3
  have hz := T.zrep (w := w) (I := I) (φ := φ)
  have hzc := constAll_cell T.cells
  cases hk : ti.kd with
  | struct fs fl =>
    rw [hk] at h4
    simp only at h4
    obtain ⟨gs, g1, g2, g3⟩ := kd_struct (T.kd.symm.trans hk)
    subst g2
    split at h4
    · rename_i pl hpl
      obtain ⟨cs, e1, e2⟩ := aggOf_run h4
      subst e2
      obtain ⟨vb, f1, f2, f3⟩ := fill_run (w := w) (I := I) (φ := φ) ps (parts.toList.map fun q => (q.1, a.eval q.2)) ti.zero cs z.cells (by simp [p1]) p2 hz hzc e1
      refine OpRes.same S ?_ f2.agg
      simp only [execOp, ho]
      refine run_value ?_
      have hpr := places_run (P := P) (w := w) hE hpl
      have hpl2 : (fun i : Nat => pl[i]?) = (fun i : Nat => pl.toArray[i]?) := by funext i; simp
      rw [hpl2] at f1
      have f1' : Instr.fill (fun i => pl[i]?) z.cells (parts.map fun (i, x) => (i, a.eval x)).toList = some vb := by rw [parts_eq, hpl2]; exact f1
      simp at f1'
      simp [Instr.build, zeroValue_run T, run_underlying g1, Array.mapM_eq_mapM_toList, hpr, f1']
    · cases h4
  | array n e =>
    rw [hk] at h4
    simp only at h4
    obtain ⟨ei, k1, k2⟩ := withTy_run h4
    obtain ⟨i', z', d', T'⟩ := hE.get k1
    have g1 := kd_array (T.kd.symm.trans hk)
    obtain ⟨cs, e1, e2⟩ := aggOf_run k2
    subst e2
    obtain ⟨vb, f1, f2, f3⟩ := fill_run (w := w) (I := I) (φ := φ) ps (parts.toList.map fun q => (q.1, a.eval q.2)) ti.zero cs z.cells (by simp [p1]) p2 hz hzc e1
    refine OpRes.same S ?_ f2.agg
    simp only [execOp, ho]
    refine run_value ?_
    simp only [Instr.build, Sem.run_bind, zeroValue_run T, Result.andThen_ok, run_underlying g1, sizeOf_run T']
    rw [parts_eq, f1]
    rfl
  | _ => rw [hk] at h4; cases h4

theorem fillRows_run {k : Nat} : ∀ (ps : List (Nat × AV)) (qs : List (Nat × Value)) (rows out : List (List AV)) (va : Array Value), qs.length = ps.length →
    (∀ (i n : Nat) (x : AV), ps[i]? = some (n, x) → ∃ u, qs[i]? = some (n, u) ∧ VRep w I φ x u) → ERep w I φ k rows va → (∀ e ∈ rows, e.length = k) → fillRows k rows ps = some out →
    ∃ vb, Instr.fill (fun i => some (i * k, k)) va qs = some vb ∧ ERep w I φ k out vb ∧ (∀ e ∈ out, e.length = k) ∧ out.length = rows.length
  | [], [], _, _, va, _, _, hc, hk, hf => by cases hf; exact ⟨va, rfl, hc, hk, rfl⟩
  | [], _ :: _, _, _, _, hl, _, _, _, _ => by simp at hl
  | _ :: _, [], _, _, _, hl, _, _, _, _ => by simp at hl
  | (n, x) :: ps, (n', u) :: qs, rows, out, va, hl, hr, hc, hk, hf => by
    obtain ⟨u', hu1, hu2⟩ := hr 0 n x rfl
    simp only [List.getElem?_cons_zero, Option.some.injEq, Prod.mk.injEq] at hu1
    obtain ⟨rfl, rfl⟩ := hu1
    unfold fillRows at hf
    cases hb : (x.cells.length.beq k && n'.blt rows.length && x.cells.all isCell) with
    | false => rw [hb] at hf; cases hf
    | true =>
      rw [hb] at hf
      simp only [Bool.and_eq_true] at hb
      obtain ⟨⟨b1, b2⟩, b3⟩ := hb
      have b1 := Nat.eq_of_beq_eq_true b1
      have b2 : n' < rows.length := Nat.le_of_ble_eq_true b2
      simp only [cond_true] at hf
      have hxc := hu2.cells (notTuple b3)
      have hle : n' * k + k ≤ rows.length * k := by rw [← Nat.succ_mul]; exact Nat.mul_le_mul_right k b2
      have hfit : n' * k + u.cells.size ≤ va.size := by rw [hxc.1, b1, hc.1]; exact hle
      obtain ⟨z1, z2⟩ := zipIdx_fold hfit
      have hk' : ∀ e ∈ rows.set n' x.cells, e.length = k := by
        intro e he
        rcases List.mem_or_eq_of_mem_set he with he | rfl
        · exact hk e he
        · exact b1
      have hc' : ERep w I φ k (rows.set n' x.cells) (u.cells.zipIdx.foldl (fun cs (x : Value × Nat) => cs.setIfInBounds (n' * k + x.2) x.1) va) := by
        refine ⟨by rw [z1, hc.1]; simp, fun i j c e => ?_⟩
        rw [z2, hxc.1, b1]
        obtain ⟨_, hj⟩ := rowAt_lt hk' e
        rcases rowAt_set e with ⟨rfl, _, e⟩ | ⟨hne, e⟩
        · obtain ⟨u', q1, q2⟩ := hxc.2 _ _ e
          refine ⟨List.all_eq_true.1 b3 c (List.mem_of_getElem? e), u', ?_, q2⟩
          rw [if_pos (by omega)]
          rw [show i * k + j - i * k = j from by omega]; exact q1
        · obtain ⟨q1, u', q2, q3⟩ := hc.2 i j c e
          refine ⟨q1, u', ?_, q3⟩
          rw [if_neg]
          · exact q2
          · rcases Nat.lt_or_gt_of_ne hne with hlt | hlt
            · have := idx_lt hlt hj; omega
            · have : n' * k + k ≤ i * k := by rw [← Nat.succ_mul]; exact Nat.mul_le_mul_right k hlt
              omega
      obtain ⟨vb, e1, e2, e3, e4⟩ := fillRows_run ps qs _ out _ (by simpa using hl) (fun i m y e => by simpa using hr (i + 1) m y (by simpa using e)) hc' hk' hf
      refine ⟨vb, ?_, e2, e3, by simpa using e4⟩
      unfold Instr.fill
      simp only
      rw [if_neg (by
        simp only [ne_eq, Bool.or_eq_true, decide_eq_true_eq]
        rw [hxc.1, b1]
        simp
        rw [hc.1]; exact hle)]
      exact e1

theorem opBuildSlice_ok (hE : EnvOK E P) {st len : Nat} {parts : Array (Nat × Operand)} {o : Oper} {r : AV × Heap} (S : Sim w I φ h) (ht : TRep w I φ t a.tmps) (ho : o.op = .buildSlice st len parts)
    (hr : (opBuildSlice E id t st len parts).run id h = some r) : OpRes P a o w I φ h r.1 r.2 := by
  obtain ⟨si, el, ti, h1, h2, h3, h4⟩ := withElem_run hr
  obtain ⟨ps, h5, h6⟩ := withParts_run h4
  obtain ⟨i1, z1, d1, T1⟩ := hE.get h1
  obtain ⟨i, z, d, T⟩ := hE.get h3
  obtain ⟨p1, p2⟩ := evalParts_rep ht h5
  obtain ⟨b1, b2⟩ := bif_run h6
  simp only [Bool.and_eq_true] at b1
  obtain ⟨⟨c1, c4⟩, c5⟩ := b1
  have c1 : len * ti.size ≤ 2 ^ 24 := Nat.le_of_ble_eq_true c1
  have c4 : 0 < ti.size := Nat.le_of_ble_eq_true c4
  have c5 : ti.zero.length = ti.size := Nat.eq_of_beq_eq_true c5
  unfold newRows at b2
  split at b2
  · rename_i rows hrows
    obtain ⟨hid, h9⟩ := Eff.run_nw b2
    have := Eff.run_ret h9
    subst this
    have hz := zero_erep (w := w) (I := I) (φ := φ) (m := len) T c5
    have hzs : z.cells.size = ti.size := by rw [(T.zrep (w := w) (I := I) (φ := φ)).1, c5]
    obtain ⟨vb, e1, e2, e3, e4⟩ := fillRows_run (w := w) (I := I) (φ := φ) ps (parts.toList.map fun q => (q.1, a.eval q.2)) _ rows _ (by simp [p1]) p2 hz (len_replicate (n := len) c5) hrows
    have e4 : rows.length = len := by simpa using e4
    obtain ⟨S', X, hv⟩ := newBlock_ok (slack := false) (rows := rows) (va := vb) (el := el) (N := len)
      (w' := { w with heap := w.heap.push (.cells vb el) }) S hid e3 (by omega) (fun _ => by omega) (by rw [e2.1, e4]; exact Nat.le_refl _) e2.2 rfl rfl rfl rfl
    refine ⟨_, _, _, I, _, ?_, .inl rfl, hv len (by omega), S', X⟩
    simp only [execOp, ho]
    refine run_value ?_
    unfold Instr.buildSlice
    simp only [Sem.run_bind, run_underlying (elem_desc T1 h2), Result.andThen_ok, sizeOf_run T]
    rw [if_neg (by omega)]
    rw [← parts_eq] at e1
    by_cases hn : len * ti.size = 0
    · have hc0 : len = 0 := by
        rcases Nat.mul_eq_zero.1 hn with e | e
        · exact e
        · omega
      subst hc0
      have e0 : Array.range 0 = #[] := by simp
      have e1' : Instr.fill (fun i => some (i * ti.size, ti.size)) #[] (parts.map fun (i, x) => (i, a.eval x)).toList = some vb := by
        have hz0 : Builtin.zeroCells z.cells 0 = #[] := by unfold Builtin.zeroCells; rw [Nat.zero_mul, e0]; simp
        rw [hz0] at e1; exact e1
      simp only [hn, Sem.run_bind, Sem.run_pure, Result.andThen_ok, if_true, e0, Array.map_empty, e1']
      simp [newRow]
    · rw [if_neg hn]
      unfold Builtin.zeroCells at e1
      rw [hzs] at e1
      simp only [Sem.run_bind, zeroValue_run T, Result.andThen_ok, Sem.run_pure, hzs, e1]
      simp [newRow]
  · cases b2
end
end Go.AM
