/- The evaluator AM: regions in a drawn order. -/
import Derived.Test.YtakcafdfbnibkaaGreatDoorD7
set_option linter.unusedVariables false
set_option linter.unusedSimpArgs false
namespace Go.AM
section
variable {E : Env} {P : Program} {call : CallFn} {ops : Array Oper} {Q : Exit → Act → World → Prop}

abbrev Item := (Nat × Nat × Oper) × Log

/-- What holds of the operations that are still to come. -/
structure Rest (ops : Array Oper) (M : List Nat) (listed : Array Bool) (r : List Item) : Prop where
  op : ∀ x ∈ r, ops[x.1.1]? = some x.1.2.2
  mem : ∀ i, i < ops.size → (listed.getD i true = false ↔ ∃ x ∈ r, x.1.1 = i)
  size : listed.size = ops.size
  ord : r.Pairwise fun x y => x.1.1 < y.1.1
  pairs : ∀ x ∈ r, ∀ y ∈ r, x.1.1 < y.1.1 → (M.getD y.1.1 0).testBit x.1.1 = true ∨ (x.2.compat y.2 = true ∧ x.1.2.2.apart ops y.1.2.2 = true)
  down : ∀ j k, listed.getD j false = true → (M.getD j 0).testBit k = true → listed.getD k false = true

structure MaskOK (ops : Array Oper) (M : List Nat) : Prop where
  bit : ∀ (i : Nat) o k, ops[i]? = some o → (M.getD i 0).testBit k = true → ∃ e ∈ o.after.toList, Region.binds .any e = true ∧ (e.on = k ∨ (M.getD e.on 0).testBit k = true)
  back : ∀ (i : Nat) o, ops[i]? = some o → ∀ e ∈ o.after.toList, Region.binds .any e = true → e.on < i

theorem listed_iff {listed : Array Bool} {i : Nat} (h : i < listed.size) : listed.getD i false = true ↔ ¬ listed.getD i true = false := by
  simp [Array.getElem?_eq_getElem h]

theorem any_ok (hE : EnvOK E P) (hc : CallOK P call) {M : List Nat} (hM : MaskOK ops M) {sf : St} : ∀ (m : Nat) (r : List Item) (listed : Array Bool) (s : St) (a : Act) (w : World) (I : Nat → Prop) (φ : Phi), r.length = m →
    Runs E call ops s r sf → Rest ops M listed r → (∀ o ∈ ops.toList, ∀ d, o.dst = some d → d < a.tmps.size) → Sim w I φ s.heap → TRep w I φ s.tmps a.tmps →
    Cont w I φ s.heap a sf (fun a w => Q .normal a w) → wpAny P .any ops Q m listed a w
  | 0, r, listed, s, a, w, I, φ, hl, hr, R, hd, S, ht, hK => by
    have : r = [] := List.eq_nil_of_length_eq_zero hl
    subst this
    have hs : s = sf := by cases hr; rfl
    subst hs
    refine ⟨?_, hK a w I φ rfl rfl S ht (Ext.refl _ _ _ _)⟩
    apply List.eq_nil_iff_forall_not_mem.2
    intro j hj
    rw [mem_ready] at hj
    obtain ⟨h0, o, ho, _⟩ := hj
    obtain ⟨x, hx, _⟩ := (R.mem j (Array.getElem?_eq_some_iff.1 ho).1).1 h0
    cases hx
  | m + 1, r, listed, s, a, w, I, φ, hl, hr, R, hd, S, ht, hK => by
    refine ⟨fun hnil => ?_, fun i hi => ?_⟩
    · exfalso
      cases r with
      | nil => simp at hl
      | cons x r =>
        have ho := R.op x (by simp)
        have hxlt : x.1.1 < ops.size := (Array.getElem?_eq_some_iff.1 ho).1
        have : x.1.1 ∈ Region.ready .any ops listed := by
          rw [mem_ready]
          refine ⟨(R.mem _ hxlt).2 ⟨x, by simp, rfl⟩, _, ho, fun e he hb => ?_⟩
          have hlt := hM.back _ _ ho e (by simpa using he) hb
          rw [listed_iff (by rw [R.size]; omega)]
          intro hf
          obtain ⟨y, hy, hye⟩ := (R.mem e.on (by omega)).1 hf
          rcases List.mem_cons.1 hy with rfl | hy
          · omega
          · have := (List.pairwise_cons.1 R.ord).1 y hy
            omega
        rw [hnil] at this
        cases this
    · rw [mem_ready] at hi
      obtain ⟨h0, o, ho, hall⟩ := hi
      have hilt : i < ops.size := (Array.getElem?_eq_some_iff.1 ho).1
      obtain ⟨x, hx, hxi⟩ := (R.mem i hilt).1 h0
      obtain ⟨u, v, huv⟩ := List.append_of_mem hx
      obtain ⟨⟨xi, xid, xo⟩, xl⟩ := x
      simp only at hxi
      subst hxi
      have hxo : xo = o := by
        have := R.op _ hx
        rw [ho] at this; cases this; rfl
      subst hxo
      have hord := R.ord
      rw [huv] at hord
      have hpre : ∀ y ∈ u, y.1.1 < xi := fun y hy => (List.pairwise_append.1 hord).2.2 y hy _ List.mem_cons_self
      have hmask : ∀ k, (M.getD xi 0).testBit k = true → listed.getD k false = true := by
        intro k hk
        obtain ⟨e, e1, e2, e3⟩ := hM.bit xi xo k ho hk
        have hel := hall e (by simpa using e1) e2
        rcases e3 with e3 | e3
        · rw [← e3]; exact hel
        · exact R.down e.on k hel e3
      have hfree : ∀ y ∈ u, y.2.compat xl = true ∧ y.1.2.2.apart ops xo = true := by
        intro y hy
        have hyr : y ∈ r := by rw [huv]; simp [hy]
        refine (R.pairs y hyr _ hx (hpre y hy)).resolve_left fun hb => ?_
        have hlis := hmask _ hb
        have hylt : y.1.1 < ops.size := (Array.getElem?_eq_some_iff.1 (R.op y hyr)).1
        rw [listed_iff (by rw [R.size]; exact hylt)] at hlis
        exact hlis ((R.mem _ hylt).2 ⟨y, hyr, rfl⟩)
      rw [huv] at hr
      have hfront := Runs.front hr hfree
      cases hfront with
      | cons g1 g2 g3 =>
        rename_i s1
        refine execOne_ok hE hc ho (hd xo (List.mem_of_getElem? (i := xi) (by rw [Array.getElem?_toList]; exact ho))) S ht g1 ?_
        intro a' w' I' φ' q1 q2 S' ht' X
        refine any_ok hE hc hM m (u ++ v) _ s1 a' w' I' φ' (by rw [huv] at hl; simp at hl ⊢; omega) g3 ?_ (by rw [q2]; exact hd) S' ht'
          (fun a'' w'' I'' φ'' z1 z2 S'' ht'' X' => hK a'' w'' I'' φ'' (z1.trans q1) (z2.trans q2) S'' ht'' (X.trans X'))
        have hsub : ∀ y ∈ u ++ v, y ∈ r := by
          intro y hy
          rw [huv]
          rcases List.mem_append.1 hy with hy | hy <;> simp [hy]
        have hne : ∀ y ∈ u ++ v, y.1.1 ≠ xi := by
          intro y hy
          rcases List.mem_append.1 hy with hy | hy
          · exact Nat.ne_of_lt (hpre y hy)
          · have := (List.pairwise_cons.1 (List.pairwise_append.1 hord).2.1).1 y hy
            exact Nat.ne_of_gt this
        refine ⟨fun y hy => R.op y (hsub y hy), fun j hj => ?_, by simpa using R.size, ?_, fun y hy z hz => R.pairs y (hsub y hy) z (hsub z hz), fun j k hj hk => ?_⟩
        · by_cases hij : xi = j
          · subst hij
            have : (listed.setIfInBounds xi true).getD xi true = true := by
              simp [R.size, hilt]
            rw [this]
            constructor
            · intro e; cases e
            · rintro ⟨y, hy, e⟩; exact absurd e (hne y hy)
          · rw [getD_set_ne true hij, R.mem j hj]
            constructor
            · rintro ⟨y, hy, e⟩
              rw [huv] at hy
              refine ⟨y, ?_, e⟩
              rcases List.mem_append.1 hy with hy | hy
              · simp [hy]
              · rcases List.mem_cons.1 hy with rfl | hy
                · exact absurd e hij
                · simp [hy]
            · rintro ⟨y, hy, e⟩; exact ⟨y, hsub y hy, e⟩
        · refine List.pairwise_append.2 ⟨(List.pairwise_append.1 hord).1, (List.pairwise_cons.1 (List.pairwise_append.1 hord).2.1).2, fun y hy z hz => (List.pairwise_append.1 hord).2.2 y hy z (by simp [hz])⟩
        · by_cases hij : xi = j
          · subst hij; exact getD_set_true (hmask k hk)
          · rw [getD_set_ne false hij] at hj
            exact getD_set_true (R.down j k hj hk)

/-- The run of a region in the order of its text, with what each operation met. -/
noncomputable def trace (E : Env) (call : CallFn) (ops : Array Oper) : List Oper → Nat → Nat → St → List Item
  | [], _, _, _ => []
  | o :: l, m, id, s => ((m, id, o), clog E call ops id o s.tmps s.heap s.next) :: match execOne E call ops.toList id o s with
    | some s1 => trace E call ops l (m + 1) (id + 1) s1
    | none => []

theorem trace_runs : ∀ (l : List Oper) (m id : Nat) (s s' : St), execOps E call ops.toList l id s = some s' → Runs E call ops s (trace E call ops l m id s) s' ∧
    (trace E call ops l m id s).length = l.length ∧ logOps E call ops.toList l id s = (trace E call ops l m id s).map (·.2) ∧
    ∀ (j : Nat) x, (trace E call ops l m id s)[j]? = some x → x.1.1 = m + j ∧ l[j]? = some x.1.2.2
  | [], m, id, s, s', e => by cases e; exact ⟨.nil s, rfl, rfl, fun j x h => by simp [trace] at h⟩
  | o :: l, m, id, s, s', e => by
    unfold execOps at e
    dsimp only at e
    cases h1 : execOne E call ops.toList id o s with
    | none => rw [h1] at e; cases e
    | some s1 =>
      rw [h1] at e
      obtain ⟨g1, g2, g3, g4⟩ := trace_runs l (m + 1) (id + 1) s1 s' e
      have ht : trace E call ops (o :: l) m id s = ((m, id, o), clog E call ops id o s.tmps s.heap s.next) :: trace E call ops l (m + 1) (id + 1) s1 := by
        rw [trace, h1]
      rw [ht]
      refine ⟨.cons h1 rfl g1, by simp [g2], ?_, fun j x hx => ?_⟩
      · unfold logOps
        dsimp only
        rw [h1]
        simp only [List.map_cons]
        rw [← g3]
        rfl
      · cases j with
        | zero => cases hx; exact ⟨rfl, rfl⟩
        | succ j =>
          obtain ⟨q1, q2⟩ := g4 j x (by simpa using hx)
          exact ⟨by omega, by simpa using q2⟩
end
end Go.AM
