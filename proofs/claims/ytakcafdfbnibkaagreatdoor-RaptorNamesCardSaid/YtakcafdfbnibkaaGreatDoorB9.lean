/- The evaluator AM: append, copy, length, slices of slices, new slices, as operations. -/
import Derived.Test.YtakcafdfbnibkaaGreatDoorB8
set_option linter.unusedVariables false
set_option linter.unusedSimpArgs false
namespace Go.AM
section
variable {E : Env} {P : Program} {w : World} {I : Nat → Prop} {φ : Phi} {h h' : Heap} {id : Nat} {t : Tmps} {a : Act} {v : AV}
variable {st xt e ty : Nat} {ti : TI} {i : TypeInfo} {z : Value} {d dx : TypeDesc} {ats : Array Nat} {args : Array Value} {cs cx : Value} {es : List (List AV)}

theorem doAppend_ok {s : AV} {o : Oper} {r : AV × Heap} (A : App P w I φ st xt e ti i z d dx ats args cs cx es) (S : Sim w I φ h) (hs : VRep w I φ s cs)
    (ho : execOp a.eval o = do pure (Next.value (← Builtin.append_ ats ty args))) (hr : (doAppend id ti s es).run id h = some r) : OpRes P a o w I φ h r.1 r.2 := by
  unfold doAppend at hr
  cases hemp : es.isEmpty with
  | true =>
    rw [hemp] at hr
    have hes : es = [] := by simpa using hemp
    subst hes
    obtain ⟨h1, h2⟩ := bif_run hr
    have := Eff.run_ret h2
    subst this
    exact A.nothing S hs h1 ho
  | false =>
    rw [hemp] at hr
    have hne : 0 < es.length := by
      cases es with
      | nil => simp at hemp
      | cons => simp
    obtain ⟨h1, h2⟩ := bif_run hr
    simp only [Bool.and_eq_true] at h1
    obtain ⟨⟨⟨c1, c2⟩, c3⟩, c4⟩ := h1
    have hk := all_len c1
    have hby : ti.bytes ≤ 32768 := Nat.le_of_ble_eq_true c3
    have hz : z.cells.size = ti.size := by
      have := (A.T.zrep (w := w) (I := I) (φ := φ)).1
      rw [this]; exact Nat.eq_of_beq_eq_true c4
    cases s with
    | nilsl =>
      cases hs
      exact A.grow (h := h) (hh := h) S (Ext.refl _ _ _ _) ho hk (fun e he => by cases he) hby rfl ⟨#[], fun w' _ => by simp [Builtin.firstCells], by simp [ERep, rowAt]⟩ (by omega) hz h2
    | isl row cap =>
      simp only [appendIsl] at h2
      cases cap with
      | none => cases h2
      | some c =>
        obtain ⟨b1, b2⟩ := bif_run h2
        simp only [Bool.and_eq_true] at b1
        have hlt : c < row.length + es.length := Nat.le_of_ble_eq_true b1.1
        have hkr := all_len b1.2
        have hel := elems_isl (P := P) (k := ti.size) hs
        cases hs with
        | isl f g1 g2 g3 g4 g5 g6 g7 =>
          have hcc := g6 c rfl
          obtain ⟨va, q1, q2⟩ := hel.cells hkr row.length (Nat.le_refl _)
          rw [List.take_length] at q2
          rw [g4] at q1
          exact A.grow (h := h) (hh := h) S (Ext.refl _ _ _ _) ho hk hkr hby g4 ⟨va, q1, q2⟩ (by omega) hz b2
    | sl b off len k cap =>
      obtain ⟨x, e1, e2⟩ := Eff.run_rd h2
      have hs0 := hs
      cases hs with
      | sl hp g0 g1 g2 g3 g4 g5 g6 =>
        rename_i ccap p ad
        have old : ∀ {rows : List (List AV)}, rowsOf x = some rows → p.k = ti.size → off + len ≤ rows.length →
            (∀ e ∈ (rows.drop off).take len, e.length = ti.size) ∧ ((rows.drop off).take len).length = len ∧
            ∃ va, (∀ w' : World, w'.heap = w.heap → (Builtin.firstCells ti.size len (.slice (some ad) len ccap)).run P w' = .ok va w') ∧ ERep w I φ ti.size ((rows.drop off).take len) va := by
          intro rows hro hpk hle
          have hl : ((rows.drop off).take len).length = len := by rw [List.length_take, List.length_drop]; omega
          have hsec : sect off len x = some ((rows.drop off).take len) := by
            unfold sect; rw [hro]; simp only [hl]; rw [show len.beq len = true by simp]; rfl
          have hel := elems_sl (P := P) (k := ti.size) S e1 hs0 hsec
          have hkk := (block_elems (off := off) (len := len) S e1 hp hro).1
          rw [hpk] at hkk
          obtain ⟨va, q1, q2⟩ := hel.cells hkk len (by omega)
          rw [show List.take len (List.take len (List.drop off rows)) = List.take len (List.drop off rows) by rw [List.take_take, Nat.min_self]] at q2
          exact ⟨hkk, hl, va, q1, q2⟩
        unfold appendSl at e2
        cases x with
        | cells slack k' rows =>
          obtain ⟨b1, b2⟩ := bif_run e2
          simp only [Bool.and_eq_true] at b1
          have hk' := Nat.eq_of_beq_eq_true b1.1
          have hle : off + len ≤ rows.length := Nat.le_of_ble_eq_true b1.2
          subst hk'
          obtain ⟨r1, r2, r3, r4, _⟩ := S.rep b _ p e1 hp
          obtain ⟨o1, o2, o3⟩ := old rfl r1 hle
          have hadr : 0 < ccap → ad = cellAt p.cb (p.d + off * p.k) := fun hc => g6.resolve_left (by omega)
          cases cap with
          | some c =>
            have hcc := g4 c rfl
            simp only [appendCap] at b2
            cases hfit : (len + es.length).ble c with
            | true =>
              rw [hfit] at b2
              have hfit : len + es.length ≤ c := Nat.le_of_ble_eq_true hfit
              obtain ⟨f1, f2⟩ := bif_run b2
              have f1 : off + len + es.length ≤ rows.length := Nat.le_of_ble_eq_true f1
              exact A.inPlace (k := k) (cap := some c) S ho hk e1 hp hne (by omega) g3 g4 g5 (hadr (by omega)) f1 f2
            | false =>
              rw [hfit] at b2
              have hnf : ¬ (len + es.length ≤ c) := fun hc => by rw [Nat.ble_eq_true_of_le hc] at hfit; cases hfit
              exact A.grow (h := h) (hh := h) S (Ext.refl _ _ _ _) ho hk o1 hby o2 o3 (by omega) hz b2
          | none =>
            have hend := g5 rfl
            simp only [appendEnd] at b2
            cases hfit : (off + len + es.length).ble rows.length with
            | true =>
              rw [hfit] at b2
              have hfit : off + len + es.length ≤ rows.length := Nat.le_of_ble_eq_true hfit
              exact A.inPlace (k := k) (cap := none) S ho hk e1 hp hne (by omega) g3 g4 g5 (hadr (by omega)) hfit b2
            | false =>
              rw [hfit] at b2
              have hnf : ¬ (off + len + es.length ≤ rows.length) := fun hc => by rw [Nat.ble_eq_true_of_le hc] at hfit; cases hfit
              cases slack with
              | true =>
                have b3 := Eff.run_wr b2
                by_cases hroom : len + es.length ≤ ccap
                · exact A.adopt S ho hk e1 hp hne hle hroom hend (hadr (by omega)) b3
                · obtain ⟨S1, X1⟩ := S.kill e1
                  exact A.grow S1 X1 ho hk o1 hby o2 o3 (by omega) hz b3
              | false =>
                have := r4 rfl
                exact A.grow (h := h) (hh := h) S (Ext.refl _ _ _ _) ho hk o1 hby o2 o3 (by omega) hz b2
        | imm k' rows =>
          simp only at e2
          cases cap with
          | none => cases e2
          | some c =>
            obtain ⟨b1, b2⟩ := bif_run e2
            simp only [Bool.and_eq_true] at b1
            have hlt : c < len + es.length := Nat.le_of_ble_eq_true b1.1.1
            have hk' := Nat.eq_of_beq_eq_true b1.1.2
            have hle : off + len ≤ rows.length := Nat.le_of_ble_eq_true b1.2
            subst hk'
            obtain ⟨r1, _⟩ := S.rep b _ p e1 hp
            obtain ⟨o1, o2, o3⟩ := old rfl r1 hle
            have hcc := g4 c rfl
            exact A.grow (h := h) (hh := h) S (Ext.refl _ _ _ _) ho hk o1 hby o2 o3 (by omega) hz b2
        | _ => cases e2
    | _ => cases h2

theorem args_two {xs : Array Operand} {x y : AV} (ht : TRep w I φ t a.tmps) (he : evalAll t xs.toList = some [x, y]) :
    ∃ cx cy, (xs.map a.eval)[0]? = some cx ∧ (xs.map a.eval)[1]? = some cy ∧ VRep w I φ x cx ∧ VRep w I φ y cy := by
  obtain ⟨l, r⟩ := evalAll_arr ht he
  obtain ⟨u, u1, u2⟩ := agg_cells l r 0 x rfl
  obtain ⟨v, v1, v2⟩ := agg_cells l r 1 y rfl
  exact ⟨u, v, u1, v1, u2, v2⟩
theorem args_one {xs : Array Operand} {x : AV} (ht : TRep w I φ t a.tmps) (he : evalAll t xs.toList = some [x]) :
    ∃ cx, (xs.map a.eval)[0]? = some cx ∧ VRep w I φ x cx := by
  obtain ⟨l, r⟩ := evalAll_arr ht he
  obtain ⟨u, u1, u2⟩ := agg_cells l r 0 x rfl
  exact ⟨u, u1, u2⟩

theorem notInt_desc {n : Nat} {xi : TI} {i : TypeInfo} {z : Value} {d : TypeDesc} (T : TyOK P n xi i z d) (h : notInt xi.kd = true) : isIntD d = false := by
  have := T.kd
  unfold kdOf at this
  rw [T.und] at this
  cases d <;> first | rfl | (simp only at this; rw [this] at h; cases h)

theorem elem_desc {n : Nat} {si : TI} {i : TypeInfo} {z : Value} {d : TypeDesc} {el : Nat} (T : TyOK P n si i z d) (h : si.kd = .slice el) : P.underlying n = some (.slice el) :=
  kd_slice (T.kd.symm.trans h)

theorem elemTI_run {x : Nat} {y : TI} (e : elemTI E x = some y) : ∃ si el, E.ty x = some si ∧ si.kd = .slice el ∧ E.ty el = some y := by
  unfold elemTI at e
  cases hx : E.ty x with
  | none => rw [hx] at e; cases e
  | some si =>
    rw [hx] at e
    simp only at e
    cases hk : si.kd with
    | slice el => rw [hk] at e; exact ⟨si, el, rfl, hk, e⟩
    | _ => rw [hk] at e; cases e

theorem bAppend_ok (hE : EnvOK E P) {c : Call} {o : Oper} {vs : List AV} {r : AV × Heap} (S : Sim w I φ h) (ht : TRep w I φ t a.tmps)
    (he : evalAll t c.args.toList = some vs) (hr : (bAppend E id c.argTypes.toList vs).run id h = some r)
    (ho : execOp a.eval o = do pure (Next.value (← Builtin.append_ c.argTypes o.type (c.args.map a.eval)))) : OpRes P a o w I φ h r.1 r.2 := by
  unfold bAppend at hr
  split at hr
  · rename_i st xt rest hats
    split at hr
    · rename_i s x
      split at hr
      · rename_i ti hti
        split at hr
        · rename_i xi hxi
          obtain ⟨h1, h2⟩ := bif_run hr
          obtain ⟨si, el, e1, e2, e3⟩ := elemTI_run hti
          obtain ⟨i1, z1, d1, T1⟩ := hE.get e1
          obtain ⟨i, z, d, T⟩ := hE.get e3
          obtain ⟨i2, z2, dx, T2⟩ := hE.get hxi
          obtain ⟨cs, cx, a0, a1, r0, r1⟩ := args_two ht he
          obtain ⟨es, f1, f2⟩ := withElems_run (P := P) (k := ti.size) S r1 h2
          have hst : c.argTypes[0]? = some st := by rw [← Array.getElem?_toList, hats]; rfl
          have hxt : c.argTypes[1]? = some xt := by rw [← Array.getElem?_toList, hats]; rfl
          exact doAppend_ok (ty := o.type) ⟨T, elem_desc T1 e2, T2.und, notInt_desc T2 h1, hst, hxt, a0, a1, f2⟩ S r0 ho f1
        · cases hr
      · cases hr
    · cases hr
  · cases hr
end
end Go.AM
