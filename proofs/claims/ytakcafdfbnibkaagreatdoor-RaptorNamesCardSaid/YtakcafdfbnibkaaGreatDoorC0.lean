/- The evaluator AM: copy, clear, length, least and greatest. -/
import Derived.Test.YtakcafdfbnibkaaGreatDoorB9
set_option linter.unusedVariables false
set_option linter.unusedSimpArgs false
namespace Go.AM
section
variable {E : Env} {P : Program} {w : World} {I : Nat → Prop} {φ : Phi} {h h' : Heap} {id : Nat} {t : Tmps} {a : Act} {v : AV}

theorem ofConst_cell {u : Value} {x : AV} (h : ofConst u = some x) : isCell x = true := by
  unfold ofConst at h
  split at h <;> first | (cases h; rfl) | cases h
theorem constAll_cell : ∀ {l : List Value} {cs : List AV}, constAll l = some cs → ∀ x ∈ cs, isCell x = true
  | [], cs, e => by cases e; intro x hx; cases hx
  | y :: l, cs, e => by
    unfold constAll at e
    split at e
    · rename_i u us h1 h2
      cases e
      intro x hx
      rcases List.mem_cons.1 hx with rfl | hx
      · exact ofConst_cell h1
      · exact constAll_cell h2 x hx
    · cases e

theorem zero_erep {n m : Nat} {ti : TI} {i : TypeInfo} {z : Value} {d : TypeDesc} (T : TyOK P n ti i z d) (hz : ti.zero.length = ti.size) :
    ERep w I φ ti.size (List.replicate m ti.zero) (Builtin.zeroCells z.cells m) := by
  have hs : z.cells.size = ti.size := by rw [(T.zrep (w := w) (I := I) (φ := φ)).1, hz]
  refine ⟨by rw [size_zeroCells, hs]; simp, fun i' j c e => ?_⟩
  unfold rowAt at e
  rw [List.getElem?_replicate] at e
  by_cases hi : i' < m
  · rw [if_pos hi] at e
    simp only at e
    have hj : j < ti.size := by rw [← hz]; exact (List.getElem?_eq_some_iff.1 e).1
    obtain ⟨u, h1, h2⟩ := (T.zrep (w := w) (I := I) (φ := φ)).2 j c e
    refine ⟨constAll_cell T.cells c (List.mem_of_getElem? e), u, ?_, h2⟩
    have hlt : i' * ti.size + j < m * ti.size := idx_lt hi hj
    unfold Builtin.zeroCells
    rw [hs]
    have hmod : (i' * ti.size + j) % ti.size = j := by rw [Nat.add_comm, Nat.add_mul_mod_self_right, Nat.mod_eq_of_lt hj]
    rw [Array.getElem?_map, Array.getElem?_range, if_pos hlt]
    simp only [Option.map_some, hmod]
    rw [getElem!_pos z.cells j (by omega)]
    rw [← h1, Array.getElem?_eq_getElem (by omega)]
  · rw [if_neg hi] at e; cases e

theorem len_replicate {n m : Nat} {ti : TI} (hz : ti.zero.length = ti.size) : ∀ e ∈ List.replicate m ti.zero, e.length = ti.size := by
  intro e he
  rw [(List.mem_replicate.1 he).2, hz]

theorem bCopy_ok (hE : EnvOK E P) {c : Call} {o : Oper} {vs : List AV} {r : AV × Heap} (S : Sim w I φ h) (ht : TRep w I φ t a.tmps)
    (he : evalAll t c.args.toList = some vs) (hr : (bCopy E c.argTypes.toList vs).run id h = some r)
    (ho : execOp a.eval o = do pure (Next.value (← Builtin.copy_ c.argTypes o.type (c.args.map a.eval)))) : OpRes P a o w I φ h r.1 r.2 := by
  unfold bCopy at hr
  split at hr
  · rename_i dt rest hats
    split at hr
    · rename_i dv s
      split at hr
      · rename_i ti hti
        obtain ⟨si, el, e1, e2, e3⟩ := elemTI_run hti
        obtain ⟨i1, z1, d1, T1⟩ := hE.get e1
        obtain ⟨i, z, d, T⟩ := hE.get e3
        obtain ⟨cd, cx, a0, a1, r0, r1⟩ := args_two ht he
        obtain ⟨es, f1, f2⟩ := withElems_run (P := P) (k := ti.size) S r1 hr
        have hst : c.argTypes[0]? = some dt := by rw [← Array.getElem?_toList, hats]; rfl
        have hrun : ∀ (base : Option Addr) (dLen dCap : Nat) (va : Array Value) (w' : World), cd = .slice base dLen dCap →
            (Builtin.firstCells ti.size (Nat.min es.length dLen) cx).run P w = .ok va w →
            (match base with | some a => storeCells a va.toList | none => (pure () : Sem Unit)).run P w = .ok () w' →
            (Builtin.copy_ c.argTypes o.type (c.args.map a.eval)).run P w = .ok (goInt (Nat.min es.length dLen : Nat)) w' := by
          intro base dLen dCap va w' hc hf hs
          subst hc
          unfold Builtin.copy_
          simp only [hst, a0, a1, Sem.run_bind, run_underlying (elem_desc T1 e2), Result.andThen_ok, f2.len w, sizeOf_run T, hf]
          cases base with
          | none => simp only [Sem.run_pure, Result.ok.injEq, true_and] at hs; subst hs; rfl
          | some ad =>
            have hs' : (storeCells ad va.toList).run P w = .ok () w' := hs
            simp only [Sem.run_bind, hs', Result.andThen_ok, Sem.run_pure]
        have hzero : ∀ (base : Option Addr) (dLen dCap : Nat), cd = .slice base dLen dCap → Nat.min es.length dLen = 0 → OpRes P a o w I φ h (.int .i64 0) h := by
          intro base dLen dCap hc hm
          have hf : ∃ va, (Builtin.firstCells ti.size 0 cx).run P w = .ok va w ∧ va.toList = [] := by
            have hl := f2.len w
            cases cx <;> first | (simp [Builtin.lenOf] at hl; done) | skip
            · exact ⟨_, by simp only [Builtin.firstCells]; rfl, by simp⟩
            · rename_i b _ _
              cases b with
              | none => exact ⟨#[], by simp [Builtin.firstCells], rfl⟩
              | some b => exact ⟨#[], by simp [Builtin.firstCells, loadCells, loadCellsFrom], rfl⟩
          obtain ⟨va, g1, g2⟩ := hf
          have := hrun base dLen dCap va w hc (by rw [hm]; exact g1) (by rw [g2]; cases base <;> rfl)
          rw [hm] at this
          refine OpRes.same S (cv := goInt (0 : Nat)) ?_ (.int _ _)
          rw [ho]
          exact run_value this
        unfold copyTo at f1
        cases dv with
        | nilsl =>
          cases r0
          have := Eff.run_ret f1
          subst this
          exact hzero _ _ _ rfl (by simp)
        | sl b off len k cap =>
          cases r0 with
          | sl hp g0 g1 g2 g3 g4 g5 g6 =>
            rename_i ccap p ad
            simp only at f1
            cases hemp : (es.take len).isEmpty with
            | true =>
              rw [hemp] at f1
              have := Eff.run_ret f1
              subst this
              refine hzero _ _ _ rfl ?_
              have : es.take len = [] := by simpa using hemp
              have := congrArg List.length this
              rw [List.length_take] at this
              simp only [List.length_nil] at this
              rw [Nat.min_comm] at this; exact this
            | false =>
              rw [hemp] at f1
              obtain ⟨b1, b2⟩ := bif_run f1
              have hk := all_len b1
              obtain ⟨x, x1, x2⟩ := Eff.run_rd b2
              have hne : 0 < (es.take len).length := by
                cases hq : es.take len with
                | nil => rw [hq] at hemp; cases hemp
                | cons => simp
              unfold copyIn at x2
              cases x with
              | cells slack k' rows =>
                obtain ⟨c1, c2⟩ := bif_run x2
                simp only [Bool.and_eq_true] at c1
                have hk' := Nat.eq_of_beq_eq_true c1.1
                have hle : off + (es.take len).length ≤ rows.length := Nat.le_of_ble_eq_true c1.2
                subst hk'
                have := Eff.run_ret (Eff.run_wr c2)
                subst this
                obtain ⟨r1', _⟩ := S.rep b _ p x1 hp
                obtain ⟨va, v1, v2⟩ := f2.cells hk (Nat.min es.length len) (Nat.min_le_left _ _)
                have htk : es.take (Nat.min es.length len) = es.take len := by
                  by_cases hl : len ≤ es.length
                  · rw [show Nat.min es.length len = len from Nat.min_eq_right hl]
                  · rw [show Nat.min es.length len = es.length from Nat.min_eq_left (by omega), List.take_length, List.take_of_length_le (by omega)]
                rw [htk] at v2
                obtain ⟨w', s1, S', X⟩ := writeRows_ok (P := P) S x1 hp hle (fun e he => hk e (List.mem_of_mem_take he)) v2
                have hlen : 0 < len := by
                  rw [List.length_take] at hne; omega
                have hadr : ad = cellAt p.cb (p.d + off * p.k) := g6.resolve_left (by omega)
                have := hrun (some ad) len ccap va w' rfl (v1 w rfl) (by simp only [hadr, r1']; exact s1)
                refine ⟨_, _, _, I, φ, by rw [ho]; exact run_value this, .inl rfl, ?_, S', X⟩
                rw [show (es.take len).length = Nat.min es.length len by rw [List.length_take, Nat.min_comm] <;> rfl]
                exact .int _ _
              | _ => cases x2
        | _ => cases f1
      · cases hr
    · cases hr
  · cases hr

theorem len_slice_run {ats : Array Nat} {args : Array Value} {tt e ty n c : Nat} {b : Option Addr} (h0 : ats[0]? = some tt) (g0 : args[0]? = some (.slice b n c))
    (hu : P.underlying tt = some (.slice e)) : (Builtin.len_ ats ty args).run P w = .ok (goInt n) w := by
  unfold Builtin.len_; simp [h0, g0, run_underlying hu]
theorem len_str_run {ats : Array Nat} {args : Array Value} {tt ty : Nat} {s : ByteArray} (h0 : ats[0]? = some tt) (g0 : args[0]? = some (.string s))
    (hu : P.underlying tt = some .string) : (Builtin.len_ ats ty args).run P w = .ok (goInt s.size) w := by
  unfold Builtin.len_; simp [h0, g0, run_underlying hu]
theorem len_array_run {ats : Array Nat} {args : Array Value} {tt ty n e : Nat} {x : Value} (h0 : ats[0]? = some tt) (g0 : args[0]? = some x)
    (hu : P.underlying tt = some (.array n e)) : (Builtin.len_ ats ty args).run P w = .ok (goInt n) w := by
  unfold Builtin.len_; simp [h0, g0, run_underlying hu]
theorem len_ptr_run {ats : Array Nat} {args : Array Value} {tt ty n e e' : Nat} {x : Value} (h0 : ats[0]? = some tt) (g0 : args[0]? = some x)
    (hu : P.underlying tt = some (.pointer e)) (hu' : P.underlying e = some (.array n e')) : (Builtin.len_ ats ty args).run P w = .ok (goInt n) w := by
  unfold Builtin.len_; simp [h0, g0, run_underlying hu, run_underlying hu']
theorem len_nilmap_run {ats : Array Nat} {args : Array Value} {tt ty k e : Nat} (h0 : ats[0]? = some tt) (g0 : args[0]? = some (.map none))
    (hu : P.underlying tt = some (.map k e)) : (Builtin.len_ ats ty args).run P w = .ok (goInt 0) w := by
  unfold Builtin.len_; simp [h0, g0, run_underlying hu]
theorem getObj_run {r : Nat} {x : Obj} (h : w.heap[r]? = some x) (hx : ∀ c e f, x ≠ .cells c e f) : (getObj r).run P w = .ok x w := by
  unfold getObj Sem.run
  rw [h]
  cases x <;> first | rfl | exact absurd rfl (hx _ _ _)
theorem len_map_run {ats : Array Nat} {args : Array Value} {tt ty k e r cl : Nat} {ms : Array MapEntry} (h0 : ats[0]? = some tt) (g0 : args[0]? = some (.map (some r)))
    (hu : P.underlying tt = some (.map k e)) (hm : w.heap[r]? = some (.map ms cl)) : (Builtin.len_ ats ty args).run P w = .ok (goInt ms.size) w := by
  unfold Builtin.len_; simp [h0, g0, run_underlying hu, getObj_run (P := P) hm (by simp)]

theorem bLen_ok (hE : EnvOK E P) {c : Call} {o : Oper} {vs : List AV} {r : AV × Heap} (S : Sim w I φ h) (ht : TRep w I φ t a.tmps)
    (he : evalAll t c.args.toList = some vs) (hr : (bLen E c.argTypes.toList vs).run id h = some r)
    (ho : execOp a.eval o = do pure (Next.value (← Builtin.len_ c.argTypes o.type (c.args.map a.eval)))) : OpRes P a o w I φ h r.1 r.2 := by
  unfold bLen at hr
  split at hr
  · rename_i tt rest hats
    split at hr
    · rename_i x
      split at hr
      · rename_i ti hti
        obtain ⟨i, z, d, T⟩ := hE.get hti
        obtain ⟨cx, a0, r0⟩ := args_one ht he
        have hst : c.argTypes[0]? = some tt := by rw [← Array.getElem?_toList, hats]; rfl
        have fin : ∀ n : Nat, (Builtin.len_ c.argTypes o.type (c.args.map a.eval)).run P w = .ok (goInt n) w → OpRes P a o w I φ h (.int .i64 n) h := by
          intro n hn
          refine OpRes.same S (cv := goInt n) ?_ (.int _ _)
          rw [ho]; exact run_value hn
        unfold lenAt at hr
        cases hk : ti.kd with
        | array n e =>
          rw [hk] at hr
          have := Eff.run_ret hr
          subst this
          exact fin n (len_array_run hst a0 (kd_array (T.kd.symm.trans hk)))
        | ptr e =>
          rw [hk] at hr
          simp only at hr
          cases he' : E.ty e with
          | none => rw [he'] at hr; cases hr
          | some ei =>
            rw [he'] at hr
            simp only at hr
            obtain ⟨i', z', d', T'⟩ := hE.get he'
            cases hk' : ei.kd with
            | array n e' =>
              rw [hk'] at hr
              have := Eff.run_ret hr
              subst this
              exact fin n (len_ptr_run hst a0 (kd_ptr (T.kd.symm.trans hk)) (kd_array (T'.kd.symm.trans hk')))
            | _ => rw [hk'] at hr; cases hr
        | slice e =>
          rw [hk] at hr
          have hu := kd_slice (T.kd.symm.trans hk)
          cases x with
          | nilsl => cases r0; have := Eff.run_ret hr; subst this; exact fin 0 (len_slice_run hst a0 hu)
          | isl row cap =>
            cases r0 with
            | isl f g1 g2 g3 g4 g5 g6 g7 => have := Eff.run_ret hr; subst this; rw [g4]; exact fin _ (len_slice_run hst a0 hu)
          | sl b off len k cap =>
            cases r0 with
            | sl hp g0 g1 g2 g3 g4 g5 g6 => have := Eff.run_ret hr; subst this; exact fin _ (len_slice_run hst a0 hu)
          | _ => cases hr
        | str =>
          rw [hk] at hr
          have hu := kd_str (T.kd.symm.trans hk)
          cases x with
          | str l =>
            cases r0 with
            | str s hs =>
              have := Eff.run_ret hr
              subst this
              have hl : l.length = s.size := by rw [← hs, Array.length_toList]; rfl
              rw [hl]; exact fin _ (len_str_run hst a0 hu)
          | _ => cases hr
        | map kt et =>
          rw [hk] at hr
          have hu := kd_map (T.kd.symm.trans hk)
          cases x with
          | nilmap => cases r0; have := Eff.run_ret hr; subst this; exact fin 0 (len_nilmap_run hst a0 hu)
          | map b =>
            cases r0 with
            | map hp =>
              obtain ⟨y, y1, y2⟩ := Eff.run_rd hr
              cases y with
              | map es cl =>
                have := Eff.run_ret y2
                subst this
                obtain ⟨ces, m1, m2, m3⟩ := S.rep b _ _ y1 hp
                rw [← m2]; exact fin _ (len_map_run hst a0 hu m1)
              | _ => cases y2
          | _ => cases hr
        | _ => rw [hk] at hr; cases hr
      · cases hr
    · cases hr
  · cases hr

theorem minmax_run {mx : Bool} {xs : List AV} {v : AV} {cs : List Value} (hl : cs.length = xs.length) (hr : ∀ (i : Nat) (x : AV), xs[i]? = some x → ∃ u, cs[i]? = some u ∧ VRep w I φ x u)
    (h : minmax mx xs = some v) : ∃ c0 crest, cs = c0 :: crest ∧ ∃ cv, (crest.foldlM (if mx then Builtin.max2 else Builtin.min2) c0).run P w = .ok cv w ∧ VRep w I φ v cv := by
  cases xs with
  | nil => cases h
  | cons x xs =>
    cases cs with
    | nil => simp at hl
    | cons c0 cs =>
      refine ⟨c0, cs, rfl, ?_⟩
      have h0 : VRep w I φ x c0 := by obtain ⟨u, u1, u2⟩ := hr 0 x rfl; simp at u1; subst u1; exact u2
      have hrest : ∀ (i : Nat) (y : AV), xs[i]? = some y → ∃ u, cs[i]? = some u ∧ VRep w I φ y u := fun i y e => by simpa using hr (i + 1) y (by simpa using e)
      simp only [minmax] at h
      clear hr
      have hl' : cs.length = xs.length := by simpa using hl
      clear hl
      induction xs generalizing cs x c0 with
      | nil =>
        cases cs with
        | nil => simp only [List.foldl_nil, Option.some.injEq] at h; subst h; exact ⟨c0, by simp, h0⟩
        | cons => simp at hl'
      | cons y ys ih =>
        cases cs with
        | nil => simp at hl'
        | cons c1 cs =>
          have h1 : VRep w I φ y c1 := by obtain ⟨u, u1, u2⟩ := hrest 0 y rfl; simp at u1; subst u1; exact u2
          have hnone : ∀ l : List AV, l.foldl (mm2 mx) (none : Option AV) = none := by
            intro l; induction l with
            | nil => rfl
            | cons _ _ ih => exact ih
          simp only [List.foldl_cons] at h
          cases x with
          | int k n => cases y with
            | int k' m =>
              cases h0; cases h1
              simp only [mm2, ilt_eq] at h
              have hrest' : ∀ (i : Nat) (y : AV), ys[i]? = some y → ∃ u, cs[i]? = some u ∧ VRep w I φ y u := fun i y e => by simpa using hrest (i + 1) y (by simpa using e)
              obtain ⟨cv, e1, e2⟩ := ih _ h _ cs (.int _ _) hrest' (by simpa using hl')
              refine ⟨cv, ?_, e2⟩
              rw [List.foldlM_cons]
              cases mx with
              | true =>
                simp only [if_true, cond_true, Sem.run_bind, Builtin.max2, Sem.run_pure, Result.andThen_ok] at e1 ⊢
                by_cases hc : n < m
                · rw [if_pos hc]; simpa [hc] using e1
                · rw [if_neg hc]; simpa [hc] using e1
              | false =>
                simp only [Bool.false_eq_true, if_false, cond_false, Sem.run_bind, Builtin.min2, Sem.run_pure, Result.andThen_ok] at e1 ⊢
                by_cases hc : m < n
                · rw [if_pos hc]; simpa [hc] using e1
                · rw [if_neg hc]; simpa [hc] using e1
            | _ => simp only [mm2] at h; rw [hnone] at h; cases h
          | _ => simp only [mm2] at h; rw [hnone] at h; cases h
end
end Go.AM
