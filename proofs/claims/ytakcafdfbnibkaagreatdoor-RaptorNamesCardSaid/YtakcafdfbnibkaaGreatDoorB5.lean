/- The evaluator AM: fields, indexes, interfaces, functions, tuples. -/
import Derived.Test.YtakcafdfbnibkaaGreatDoorB4
set_option linter.unusedVariables false
set_option linter.unusedSimpArgs false
namespace Go.AM
section
variable {E : Env} {P : Program} {w : World} {I : Nat → Prop} {φ : Phi} {h h' : Heap} {id : Nat} {t : Tmps} {a : Act} {v : AV}

theorem opMove_ok {x : Operand} {o : Oper} {r : AV × Heap} (S : Sim w I φ h) (ht : TRep w I φ t a.tmps) (ho : o.op = .move x ∨ o.op = .assign x)
    (hr : (Eff.of (evalOp t x)).run id h = some r) : OpRes P a o w I φ h r.1 r.2 := by
  obtain ⟨h1, h2⟩ := Eff.run_of hr
  rw [h2]
  refine OpRes.same S (cv := a.eval x) ?_ (evalOp_rep ht h1)
  rcases ho with ho | ho <;> simp only [execOp, ho, Sem.run_pure]

theorem opPick_ok {c x y : Operand} {o : Oper} {r : AV × Heap} (S : Sim w I φ h) (ht : TRep w I φ t a.tmps) (ho : o.op = .pick c x y)
    (hr : (opPick t c x y).run id h = some r) : OpRes P a o w I φ h r.1 r.2 := by
  obtain ⟨u, h1, h2⟩ := withOp_run hr
  have hu := evalOp_rep ht h1
  cases u with
  | bool b =>
    generalize hc : a.eval c = cv at hu
    cases hu
    cases b with
    | true =>
      obtain ⟨h3, h4⟩ := Eff.run_of h2
      rw [h4]
      refine OpRes.same S (cv := a.eval x) ?_ (evalOp_rep ht h3)
      simp [execOp, ho, hc, asBool]
    | false =>
      obtain ⟨h3, h4⟩ := Eff.run_of h2
      rw [h4]
      refine OpRes.same S (cv := a.eval y) ?_ (evalOp_rep ht h3)
      simp [execOp, ho, hc, asBool]
  | _ => cases h2

theorem opNilCheck_ok {x : Operand} {o : Oper} {r : AV × Heap} (S : Sim w I φ h) (ht : TRep w I φ t a.tmps) (ho : o.op = .nilCheck x)
    (hr : (opNilCheck t x).run id h = some r) : OpRes P a o w I φ h r.1 r.2 := by
  obtain ⟨u, h1, h2⟩ := withOp_run hr
  obtain ⟨h3, h4⟩ := bif_run h2
  have := Eff.run_ret h4
  subst this
  have hu := evalOp_rep ht h1
  refine OpRes.same S (cv := a.eval x) ?_ hu
  generalize hc : a.eval x = cv at hu
  simp only [execOp, ho, hc]
  cases hu <;> first | (simp [notNil] at h3; done) | rfl

theorem opBin_ok (hE : EnvOK E P) {op : BinOp} {xt yt : Nat} {x y : Operand} {o : Oper} {r : AV × Heap} (S : Sim w I φ h) (ht : TRep w I φ t a.tmps)
    (ho : o.op = .binOp op xt x y yt) (hr : (opBin E t op xt x y).run id h = some r) : OpRes P a o w I φ h r.1 r.2 := by
  obtain ⟨u, h1, h2⟩ := withOp_run hr
  obtain ⟨u2, h3, h4⟩ := withOp_run h2
  obtain ⟨h5, h6⟩ := Eff.run_of h4
  obtain ⟨cv, e1, e2⟩ := binOp_run hE x y h5 (evalOp_rep ht h1) (evalOp_rep ht h3)
  rw [h6]
  refine OpRes.same S ?_ e2
  simp only [execOp, ho]
  exact run_value e1

theorem opUn_ok {op : UnOp} {xt : Nat} {x : Operand} {o : Oper} {r : AV × Heap} (S : Sim w I φ h) (ht : TRep w I φ t a.tmps)
    (ho : o.op = .unOp op xt x) (hr : (opUn t op x).run id h = some r) : OpRes P a o w I φ h r.1 r.2 := by
  obtain ⟨u, h1, h2⟩ := withOp_run hr
  obtain ⟨h5, h6⟩ := Eff.run_of h2
  obtain ⟨cv, e1, e2⟩ := unOp_run (P := P) h5 (evalOp_rep ht h1)
  rw [h6]
  refine OpRes.same S ?_ e2
  simp only [execOp, ho]
  exact run_value e1

theorem opConvert_ok (hE : EnvOK E P) {s d : Nat} {x : Operand} {o : Oper} {r : AV × Heap} (S : Sim w I φ h) (ht : TRep w I φ t a.tmps)
    (ho : o.op = .convert s d x) (hr : (opConvert E t s d x).run id h = some r) : OpRes P a o w I φ h r.1 r.2 := by
  obtain ⟨u, h1, h2⟩ := withOp_run hr
  obtain ⟨h5, h6⟩ := Eff.run_of h2
  obtain ⟨cv, e1, e2⟩ := convert_run hE h5 (evalOp_rep ht h1)
  rw [h6]
  refine OpRes.same S ?_ e2
  simp only [execOp, ho]
  exact run_value e1

theorem not_iface {n : Nat} {ti : TI} {i : TypeInfo} {z : Value} {d : TypeDesc} (T : TyOK P n ti i z d) (hk : isIface ti.kd = false) : ∀ ms, d ≠ .interface ms := by
  intro ms e; subst e
  have := T.kd
  unfold kdOf at this
  rw [T.und] at this
  simp only at this
  rw [this] at hk; cases hk

theorem opMakeInterface_ok (hE : EnvOK E P) {it : Nat} {x : Operand} {o : Oper} {r : AV × Heap} (S : Sim w I φ h) (ht : TRep w I φ t a.tmps)
    (ho : o.op = .makeInterface it x) (hr : (opMakeInterface E t it x).run id h = some r) : OpRes P a o w I φ h r.1 r.2 := by
  obtain ⟨ti, h1, h2⟩ := withTy_run hr
  obtain ⟨u, h3, h4⟩ := withOp_run h2
  obtain ⟨h5, h6⟩ := bif_run' h4
  have := Eff.run_ret h6
  subst this
  obtain ⟨i, z, d, T⟩ := hE.get h1
  refine OpRes.same S (cv := .iface it (a.eval x)) ?_ (.iface (evalOp_rep ht h3))
  simp only [execOp, ho]
  refine run_value ?_
  unfold Instr.makeInterface
  simp only [Sem.run_bind, run_underlying T.und, Result.andThen_ok]
  have := not_iface T h5
  cases d <;> first | rfl | exact absurd rfl (this _)

theorem opMakeFunc_ok {fn : Fn} {xs ys : Array Operand} {o : Oper} {r : AV × Heap} (S : Sim w I φ h) (ht : TRep w I φ t a.tmps)
    (ho : o.op = .makeFunc fn xs ys) (hr : (opMakeFunc t fn xs ys).run id h = some r) : OpRes P a o w I φ h r.1 r.2 := by
  cases fn with
  | func f =>
    obtain ⟨as, h1, h2⟩ := withAll_run hr
    obtain ⟨bs, h3, h4⟩ := withAll_run h2
    have := Eff.run_ret h4
    subst this
    obtain ⟨l1, r1⟩ := evalAll_arr ht h1
    obtain ⟨l2, r2⟩ := evalAll_arr ht h3
    refine OpRes.same S (cv := .func (.func f) (xs.map a.eval) (ys.map a.eval)) ?_ (.func _ _ l1 l2 r1 r2)
    simp only [execOp, ho]
    exact run_value rfl
  | _ => cases hr

theorem withField_run {st f : Nat} {k : Nat → TI → Eff} {r : AV × Heap} (e : (withField E st f k).run id h = some r) :
    ∃ ti fs b off ft fi, E.ty st = some ti ∧ ti.kd = .struct fs b ∧ fs[f]? = some (off, ft) ∧ E.ty ft = some fi ∧ (k off fi).run id h = some r := by
  unfold withField fieldOf at e
  cases h1 : E.ty st with
  | none => rw [h1] at e; cases e
  | some ti =>
    rw [h1] at e
    simp only at e
    cases h2 : ti.kd with
    | struct fs b =>
      rw [h2] at e
      simp only at e
      cases h3 : fs[f]? with
      | none => rw [h3] at e; cases e
      | some q =>
        obtain ⟨off, ft⟩ := q
        rw [h3] at e
        simp only at e
        cases h4 : E.ty ft with
        | none => rw [h4] at e; cases e
        | some fi => rw [h4] at e; exact ⟨ti, fs, b, off, ft, fi, rfl, h2, h3, h4, e⟩
    | _ => rw [h2] at e; cases e

theorem field_desc {n f off ft : Nat} {ti : TI} {i : TypeInfo} {z : Value} {d : TypeDesc} {fs : List (Nat × Nat)} {b : Bool} (T : TyOK P n ti i z d) (hk : ti.kd = .struct fs b)
    (hf : fs[f]? = some (off, ft)) : ∃ (gs : Array Field) (g : Field), P.underlying n = some (.struct gs) ∧ gs[f]? = some g ∧ g.offset = off ∧ g.type = ft := by
  obtain ⟨gs, hu, rfl, _⟩ := kd_struct (T.kd.symm.trans hk)
  rw [List.getElem?_map] at hf
  cases hg : gs.toList[f]? with
  | none => rw [hg] at hf; cases hf
  | some g =>
    rw [hg] at hf
    simp only [Option.map_some, Option.some.injEq, Prod.mk.injEq] at hf
    exact ⟨gs, g, hu, by simpa using hg, hf.1, hf.2⟩

theorem moved_rep {x y : AV} {cx : Value} {n : Nat} (hm : moved x n = some y) (hx : VRep w I φ x cx) :
    ∃ cb o, cx = .pointer (some (cellAt cb o)) ∧ VRep w I φ y (.pointer (some (cellAt cb (o + n)))) := by
  cases x with
  | ptr b i j =>
    cases hm
    cases hx with
    | ptr hp =>
      refine ⟨_, _, rfl, ?_⟩
      rw [Nat.add_assoc]
      exact .ptr hp
  | iptr row i j =>
    cases hm
    cases hx with
    | iptr f h1 h2 h3 =>
      refine ⟨_, _, rfl, ?_⟩
      rw [Nat.add_assoc]
      exact .iptr f h1 h2 h3
  | _ => cases hm

theorem opFieldAddr_ok (hE : EnvOK E P) {st f : Nat} {x : Operand} {o : Oper} {r : AV × Heap} (S : Sim w I φ h) (ht : TRep w I φ t a.tmps)
    (ho : o.op = .fieldAddr st x f) (hr : (opFieldAddr E t st x f).run id h = some r) : OpRes P a o w I φ h r.1 r.2 := by
  obtain ⟨ti, fs, b, off, ft, fi, h1, h2, h3, h4, h5⟩ := withField_run hr
  obtain ⟨u, h6, h7⟩ := withOp_run h5
  obtain ⟨h8, h9⟩ := bif_run h7
  obtain ⟨h10, h11⟩ := Eff.run_of h9
  have h8 : 0 < fi.size := Nat.le_of_ble_eq_true h8
  obtain ⟨i, z, d, T⟩ := hE.get h1
  obtain ⟨i', z', d', T'⟩ := hE.get h4
  obtain ⟨gs, g, e1, e2, rfl, rfl⟩ := field_desc T h2 h3
  obtain ⟨cb, q, e3, e4⟩ := moved_rep h10 (evalOp_rep ht h6)
  rw [h11]
  refine OpRes.same S ?_ e4
  simp only [execOp, ho]
  refine run_value ?_
  unfold Instr.fieldAt
  simp only [Sem.run_bind, run_underlying e1, Result.andThen_ok, e2, e3, Instr.sureAddr, Sem.run_pure, fieldPlace, sizeOf_run T', Sem.run_ite]
  rw [if_neg (by omega)]
  simp only [Result.andThen_ok, add_cellAt]

/-- A part of an aggregate. -/
theorem cutAgg_ok {n : Nat} {ti : TI} {i : TypeInfo} {z : Value} {d : TypeDesc} (T : TyOK P n ti i z d) {x y : AV} {cx : Value} {off : Nat} (hc : cutAgg ti x off = some y)
    (hx : VRep w I φ x cx) : ∃ va cv, cx = .agg va ∧ (Go.part n va off).run P w = .ok cv w ∧ VRep w I φ y cv := by
  cases x with
  | agg cs =>
    cases hx with
    | agg va s1 r1 =>
      simp only [cutAgg, cut] at hc
      refine ⟨va, ?_⟩
      unfold Go.part
      simp only [Sem.run_bind, isAgg_run T, Result.andThen_ok]
      cases hag : ti.agg with
      | true =>
        rw [hag] at hc
        simp only [cond_true] at hc
        simp only [if_true, Sem.run_bind, sizeOf_run T, Result.andThen_ok, Sem.run_pure]
        cases hl : (((cs.drop off).take ti.size).length.beq ti.size) with
        | false => rw [hl] at hc; cases hc
        | true =>
          rw [hl] at hc; cases hc
          have hl := Nat.eq_of_beq_eq_true hl
          refine ⟨_, trivial, rfl, .agg _ ?_ fun q c hq => ?_⟩
          · rw [hl]
            simp only [Array.size_extract]
            rw [List.length_take, List.length_drop] at hl
            omega
          · rw [List.getElem?_take] at hq
            split at hq
            · rename_i hq2
              rw [List.getElem?_drop] at hq
              obtain ⟨u, u1, u2⟩ := agg_cells s1 r1 (off + q) c hq
              have : (va.extract off (off + ti.size))[q]? = some u := by
                rw [Array.getElem?_extract, if_pos (by have := (Array.getElem?_eq_some_iff.1 u1).1; omega)]; exact u1
              rw [getD_getElem? this]; exact u2
            · cases hq
      | false =>
        rw [hag] at hc
        simp only [cond_false] at hc
        simp only [Bool.false_eq_true, if_false]
        obtain ⟨u, u1, u2⟩ := agg_cells s1 r1 off y hc
        exact ⟨u, trivial, by rw [u1]; rfl, u2⟩
  | _ => cases hc

theorem opField_ok (hE : EnvOK E P) {st f : Nat} {x : Operand} {o : Oper} {r : AV × Heap} (S : Sim w I φ h) (ht : TRep w I φ t a.tmps)
    (ho : o.op = .field st x f) (hr : (opField E t st x f).run id h = some r) : OpRes P a o w I φ h r.1 r.2 := by
  obtain ⟨ti, fs, b, off, ft, fi, h1, h2, h3, h4, h5⟩ := withField_run hr
  obtain ⟨u, h6, h7⟩ := withOp_run h5
  obtain ⟨h10, h11⟩ := Eff.run_of h7
  obtain ⟨i, z, d, T⟩ := hE.get h1
  obtain ⟨i', z', d', T'⟩ := hE.get h4
  obtain ⟨gs, g, e1, e2, rfl, rfl⟩ := field_desc T h2 h3
  obtain ⟨va, cv, e3, e4, e5⟩ := cutAgg_ok T' h10 (evalOp_rep ht h6)
  rw [h11]
  refine OpRes.same S ?_ e5
  simp only [execOp, ho]
  refine run_value ?_
  unfold Instr.field
  simp only [Sem.run_bind, run_underlying e1, Result.andThen_ok, e2, e3, asAgg, Sem.run_pure, e4]

theorem eval_int {x : Operand} {kd : IntKind} {n : Int} (ht : TRep w I φ t a.tmps) (hx : evalOp t x = some (.int kd n)) : a.eval x = .int kd n := by
  have := evalOp_rep ht hx
  generalize a.eval x = c at this
  cases this; rfl

theorem mul_sz (n k : Nat) : n * k = n * k := rfl

theorem opIndexAddr_ok (hE : EnvOK E P) {xt : Nat} {x ix : Operand} {o : Oper} {r : AV × Heap} (S : Sim w I φ h) (ht : TRep w I φ t a.tmps)
    (ho : o.op = .indexAddr xt x ix) (hr : (opIndexAddr E t xt x ix).run id h = some r) : OpRes P a o w I φ h r.1 r.2 := by
  obtain ⟨rv, rh⟩ := r
  obtain ⟨ti, h1, h2⟩ := withTy_run hr
  obtain ⟨u, h3, h4⟩ := withOp_run h2
  obtain ⟨kd, n, h5, h6⟩ := withNat_run h4
  obtain ⟨h7, h8⟩ := Eff.run_of h6
  obtain ⟨i, z, d, T⟩ := hE.get h1
  have hix := eval_int ht h5
  have hu := evalOp_rep ht h3
  simp only at h7 h8 ⊢
  rw [h8]
  unfold indexAddr at h7
  cases hk : ti.kd with
  | slice e =>
    rw [hk] at h7
    simp only at h7
    cases he : E.ty e with
    | none => rw [he] at h7; cases h7
    | some ei =>
      rw [he] at h7
      simp only at h7
      obtain ⟨i', z', d', T'⟩ := hE.get he
      have hu' := kd_slice (T.kd.symm.trans hk)
      have fin : ∀ (cb o1 len cap : Nat), a.eval x = .slice (some (cellAt cb o1)) len cap → n < len → VRep w I φ rv (.pointer (some (cellAt cb (o1 + n * ei.size)))) →
          OpRes P a o w I φ h rv h := by
        intro cb o1 len cap hx hlt hv
        refine OpRes.same S ?_ hv
        simp only [execOp, ho]
        refine run_value ?_
        unfold Instr.indexAt
        simp only [Sem.run_bind, hix, asIntOf, Sem.run_pure, Result.andThen_ok, run_underlying hu', hx]
        rw [if_pos (by omega)]
        simp [Sem.run_bind, sizeOf_run T', add_cellAt]
      cases u with
      | sl b off len k cap =>
        simp only [slIndex] at h7
        cases hb : (n.blt len && k.beq ei.size) with
        | false => rw [hb] at h7; cases h7
        | true =>
          rw [hb] at h7; cases h7
          simp only [Bool.and_eq_true] at hb
          have hlt : n < len := Nat.le_of_ble_eq_true hb.1
          have hk := Nat.eq_of_beq_eq_true hb.2
          generalize hx : a.eval x = cx at hu
          cases hu with
          | sl hp q0 q1 q2 q3 q4 q5 q6 =>
            rename_i ccap p ad
            rcases q6 with q6 | q6
            · omega
            · subst q6
              refine fin _ _ _ _ hx hlt ?_
              have := VRep.ptr (w := w) (I := I) (i := off + n) (j := 0) hp
              rw [← hk, ← q0]
              rw [Nat.add_mul, Nat.add_zero, ← Nat.add_assoc] at this
              exact this
      | isl row cap =>
        simp only [slIndex] at h7
        cases hrow : row[n]? with
        | none => rw [hrow] at h7; cases h7
        | some el =>
          rw [hrow] at h7
          simp only at h7
          cases hb : el.length.beq ei.size with
          | false => rw [hb] at h7; cases h7
          | true =>
            rw [hb] at h7; cases h7
            have hb := Nat.eq_of_beq_eq_true hb
            have hlt : n < row.length := (List.getElem?_eq_some_iff.1 hrow).1
            generalize hx : a.eval x = cx at hu
            cases hu with
            | isl f g1 g2 g3 g4 g5 g6 g7 =>
              rename_i cb d0 k len ccap ad
              rcases g7 with g7 | g7
              · subst g7; simp at hlt
              · subst g7
                refine fin _ _ _ _ hx (by omega) ?_
                have hk : ei.size = k := by rw [← hb]; exact g1 el (List.mem_of_getElem? hrow)
                have := VRep.iptr (φ := φ) (i := n) (j := 0) f g1 g2 g3
                rw [hk]; exact this
      | _ => cases h7
  | array m e =>
    rw [hk] at h7
    simp only at h7
    cases he : E.ty e with
    | none => rw [he] at h7; cases h7
    | some ei =>
      rw [he] at h7
      simp only [arrIndex] at h7
      cases hb : n.blt m with
      | false => rw [hb] at h7; cases h7
      | true =>
        rw [hb] at h7
        have hlt : n < m := Nat.le_of_ble_eq_true hb
        obtain ⟨i', z', d', T'⟩ := hE.get he
        obtain ⟨cb, q, e3, e4⟩ := moved_rep h7 hu
        have hu' := kd_array (T.kd.symm.trans hk)
        refine OpRes.same S ?_ e4
        simp only [execOp, ho]
        refine run_value ?_
        unfold Instr.indexAt
        simp only [Sem.run_bind, hix, asIntOf, Sem.run_pure, Result.andThen_ok, run_underlying hu', e3, Instr.sureAddr, sizeOf_run T']
        rw [if_pos (by omega)]
        simp [Sem.run_bind, sizeOf_run T', add_cellAt]
  | _ => rw [hk] at h7; cases h7

theorem opIndex_ok (hE : EnvOK E P) {xt : Nat} {x ix : Operand} {o : Oper} {r : AV × Heap} (S : Sim w I φ h) (ht : TRep w I φ t a.tmps)
    (ho : o.op = .index xt x ix) (hr : (opIndex E t xt x ix).run id h = some r) : OpRes P a o w I φ h r.1 r.2 := by
  obtain ⟨ti, h1, h2⟩ := withTy_run hr
  obtain ⟨u, h3, h4⟩ := withOp_run h2
  obtain ⟨kd, n, h5, h6⟩ := withNat_run h4
  obtain ⟨h7, h8⟩ := Eff.run_of h6
  obtain ⟨i, z, d, T⟩ := hE.get h1
  have hix := eval_int ht h5
  have hu := evalOp_rep ht h3
  rw [h8]
  unfold indexVal at h7
  cases hk : ti.kd with
  | str =>
    rw [hk] at h7
    simp only at h7
    have hu' := kd_str (T.kd.symm.trans hk)
    cases u with
    | str l =>
      simp only [strAt] at h7
      cases hl : l[n]? with
      | none => rw [hl] at h7; cases h7
      | some b =>
        rw [hl] at h7
        simp only [Option.some.injEq] at h7
        generalize hx : a.eval x = cx at hu
        cases hu with
        | str s hs =>
          have hb : s[n]? = some b := by
            subst hs
            obtain ⟨h9, h10⟩ := List.getElem?_eq_some_iff.1 hl
            have hlt : n < s.size := by rw [Array.length_toList] at h9; exact h9
            rw [getElem?_pos s n hlt]
            rw [← h10]; rfl
          refine OpRes.same S (cv := .int .u8 b.toNat) ?_ (by rw [← h7]; exact .int _ _)
          simp only [execOp, ho]
          refine run_value ?_
          unfold Instr.index
          simp only [Sem.run_bind, hix, asIntOf, Sem.run_pure, Result.andThen_ok, run_underlying hu', hx]
          simp [hb]
    | _ => cases h7
  | array m e =>
    rw [hk] at h7
    simp only at h7
    cases he : E.ty e with
    | none => rw [he] at h7; cases h7
    | some ei =>
      rw [he] at h7
      simp only at h7
      cases hb : n.blt m with
      | false => rw [hb] at h7; cases h7
      | true =>
        rw [hb] at h7
        have hlt : n < m := Nat.le_of_ble_eq_true hb
        obtain ⟨i', z', d', T'⟩ := hE.get he
        obtain ⟨va, cv, e3, e4, e5⟩ := cutAgg_ok T' h7 hu
        have hu' := kd_array (T.kd.symm.trans hk)
        refine OpRes.same S ?_ e5
        simp only [execOp, ho]
        refine run_value ?_
        unfold Instr.index
        simp only [Sem.run_bind, hix, asIntOf, Sem.run_pure, Result.andThen_ok, run_underlying hu', e3]
        rw [if_pos (by omega)]
        simp [Sem.run_bind, sizeOf_run T', e4]
  | _ => rw [hk] at h7; cases h7

theorem opTypeAssert_ok (hE : EnvOK E P) {x : Operand} {xt at_ : Nat} {ok : Bool} {o : Oper} {r : AV × Heap} (S : Sim w I φ h) (ht : TRep w I φ t a.tmps)
    (ho : o.op = .typeAssert x xt at_ ok) (hr : (opTypeAssert E t x at_ ok).run id h = some r) : OpRes P a o w I φ h r.1 r.2 := by
  obtain ⟨ti, h1, h2⟩ := withTy_run hr
  obtain ⟨u, h3, h4⟩ := withOp_run h2
  obtain ⟨h5, h6⟩ := bif_run' h4
  obtain ⟨h7, h8⟩ := Eff.run_of h6
  obtain ⟨i, z, d, T⟩ := hE.get h1
  have hu := evalOp_rep ht h3
  rw [h8]
  cases u with
  | iface ty y =>
    simp only [assertTo] at h7
    cases hb : ty.beq at_ with
    | false => rw [hb] at h7; cases h7
    | true =>
      rw [hb] at h7
      have hb := Nat.eq_of_beq_eq_true hb
      subst hb
      generalize hx : a.eval x = cx at hu
      cases hu with
      | iface hv =>
        rename_i cv
        have hd := not_iface T h5
        have hrun : (Instr.typeAssert (.iface ty cv) xt ty ok).run P w = .ok (if ok then .tuple #[cv, .bool true] else cv) w := by
          unfold Instr.typeAssert
          simp only [Sem.run_bind, run_underlying T.und, Result.andThen_ok]
          cases d <;> first | (simp; done) | exact absurd rfl (hd _)
        refine OpRes.same S (cv := if ok then .tuple #[cv, .bool true] else cv) ?_ ?_
        · simp only [execOp, ho, hx]
          exact run_value hrun
        · cases ok with
          | true =>
            simp only [cond_true, Option.some.injEq] at h7
            rw [← h7]
            refine .tuple _ rfl fun i x e => ?_
            match i with
            | 0 => simp at e; subst e; exact hv
            | 1 => simp at e; subst e; exact .bool true
            | n + 2 => simp at e
          | false =>
            simp only [cond_false, cond_true, Option.some.injEq] at h7
            rw [← h7]; exact hv
  | _ => cases h7

theorem opExtract_ok {x : Operand} {i : Nat} {o : Oper} {r : AV × Heap} (S : Sim w I φ h) (ht : TRep w I φ t a.tmps)
    (ho : o.op = .extract x i) (hr : (opExtract t x i).run id h = some r) : OpRes P a o w I φ h r.1 r.2 := by
  obtain ⟨u, h3, h4⟩ := withOp_run hr
  obtain ⟨h7, h8⟩ := Eff.run_of h4
  have hu := evalOp_rep ht h3
  rw [h8]
  cases u with
  | tuple vs =>
    simp only [tupleAt] at h7
    generalize hx : a.eval x = cx at hu
    cases hu with
    | any => simp at h7
    | tuple va s1 r1 =>
      obtain ⟨u, u1, u2⟩ := agg_cells s1 r1 i _ h7
      refine OpRes.same S (cv := u) ?_ u2
      simp only [execOp, ho, hx]
      exact run_value (by simp [Instr.extract, u1])
  | _ => cases h7
end
end Go.AM
