/- The evaluator AM: aggregates and slices that are made, slices of slices. -/
import Derived.Test.YtakcafdfbnibkaaGreatDoorC0
set_option linter.unusedVariables false
set_option linter.unusedSimpArgs false
namespace Go.AM
section
variable {E : Env} {P : Program} {w : World} {I : Nat → Prop} {φ : Phi} {h h' : Heap} {id : Nat} {t : Tmps} {a : Act} {v : AV}

/-- A map is written. -/
theorem setMap_ok {b cl cl' : Nat} {es es' : List (AV × AV × Nat)} {ces' : Array MapEntry} {p : Pl} (S : Sim w I φ h) (hb : Heap.get h b = some (.map es cl)) (hp : φ b = some p)
    (hs : ces'.size = es'.length) (hr : ∀ (i : Nat) k v bo, es'[i]? = some (k, v, bo) → ∃ ke : MapEntry, ces'[i]? = some ke ∧ ke.born = bo ∧ VRep w I φ k ke.key ∧ VRep w I φ v ke.val) :
    Sim { w with heap := w.heap.setIfInBounds p.cb (.map ces' cl') } I φ (Heap.put h b (.map es' cl')) ∧
    Ext w I φ h { w with heap := w.heap.setIfInBounds p.cb (.map ces' cl') } I φ (Heap.put h b (.map es' cl')) ∧
    (setObj p.cb (.map ces' cl')).run P w = .ok () { w with heap := w.heap.setIfInBounds p.cb (.map ces' cl') } := by
  obtain ⟨ces, m1, m2, m3⟩ := S.rep b _ _ hb hp
  have hlt : p.cb < w.heap.size := (Array.getElem?_eq_some_iff.1 m1).1
  obtain ⟨S', X⟩ := S.update (w' := { w with heap := w.heap.setIfInBounds p.cb (.map ces' cl') }) (x' := .map es' cl') hb trivial hp trivial rfl rfl rfl (by simp)
    (fun cb hne => by simp only [Array.getElem?_setIfInBounds_ne (Ne.symm hne)]) (fun hv => by
      refine ⟨ces', by simp [hlt], hs, fun i k v bo e => ?_⟩
      obtain ⟨ke, q1, q2, q3, q4⟩ := hr i k v bo e
      exact ⟨ke, q1, q2, hv _ _ q3, hv _ _ q4⟩)
  refine ⟨S', X, ?_⟩
  unfold setObj Sem.run
  rw [m1]; rfl

theorem bClear_ok (hE : EnvOK E P) {c : Call} {o : Oper} {vs : List AV} {r : AV × Heap} (S : Sim w I φ h) (ht : TRep w I φ t a.tmps)
    (he : evalAll t c.args.toList = some vs) (hr : (bClear E c.argTypes.toList vs).run id h = some r)
    (ho : execOp a.eval o = do pure (Next.value (← Builtin.clear_ c.argTypes o.type (c.args.map a.eval)))) : OpRes P a o w I φ h r.1 r.2 := by
  unfold bClear at hr
  split at hr
  · rename_i tt rest hats
    split at hr
    · rename_i x
      split at hr
      · rename_i ti hti
        obtain ⟨i, z, d, T⟩ := hE.get hti
        obtain ⟨cx, a0, r0⟩ := args_one ht he
        have hst : c.argTypes[0]? = some tt := by rw [← Array.getElem?_toList, hats]; rfl
        have fin : ∀ w' h', (Builtin.clear_ c.argTypes o.type (c.args.map a.eval)).run P w = .ok (.tuple #[]) w' → Sim w' I φ h' → Ext w I φ h w' I φ h' → OpRes P a o w I φ h undef h' := by
          intro w' h' hn S' X
          exact ⟨_, _, w', I, φ, by rw [ho]; exact run_value hn, .inl rfl, .any, S', X⟩
        cases hk : ti.kd with
        | slice e =>
          rw [hk] at hr
          simp only at hr
          cases he' : E.ty e with
          | none => rw [he'] at hr; cases hr
          | some ei =>
            rw [he'] at hr
            simp only at hr
            obtain ⟨i', z', d', T'⟩ := hE.get he'
            have hu := kd_slice (T.kd.symm.trans hk)
            unfold clearSl at hr
            cases x with
            | nilsl =>
              cases r0
              have := Eff.run_ret hr
              subst this
              exact fin w h (by unfold Builtin.clear_; simp [hst, a0, run_underlying hu]) S (Ext.refl _ _ _ _)
            | sl b off len k cap =>
              cases r0 with
              | sl hp g0 g1 g2 g3 g4 g5 g6 =>
                rename_i ccap p ad
                simp only at hr
                cases hl : len.beq 0 with
                | true =>
                  rw [hl] at hr
                  have := Eff.run_ret hr
                  subst this
                  have hl := Nat.eq_of_beq_eq_true hl
                  subst hl
                  exact fin w h (by unfold Builtin.clear_; simp [hst, a0, run_underlying hu]) S (Ext.refl _ _ _ _)
                | false =>
                  rw [hl] at hr
                  have hpos : 0 < len := by
                    rcases Nat.eq_zero_or_pos len with e | e
                    · subst e; simp at hl
                    · exact e
                  obtain ⟨y, y1, y2⟩ := Eff.run_rd hr
                  unfold clearIn at y2
                  cases y with
                  | cells slack k' rows =>
                    obtain ⟨c1, c2⟩ := bif_run y2
                    simp only [Bool.and_eq_true] at c1
                    have hk' := Nat.eq_of_beq_eq_true c1.1.1
                    have hz := Nat.eq_of_beq_eq_true c1.1.2
                    have hle : off + len ≤ rows.length := Nat.le_of_ble_eq_true c1.2
                    subst hk'
                    have := Eff.run_ret (Eff.run_wr c2)
                    subst this
                    obtain ⟨r1', _⟩ := S.rep b _ p y1 hp
                    obtain ⟨w', s1, S', X⟩ := writeRows_ok (P := P) (o := off) S y1 hp (by simpa using hle) (len_replicate (n := len) hz) (zero_erep (m := len) T' hz)
                    have hadr : ad = cellAt p.cb (p.d + off * p.k) := g6.resolve_left (by omega)
                    refine fin w' _ ?_ S' X
                    rw [← r1', ← hadr] at s1
                    obtain ⟨m, hm⟩ : ∃ m, len = m + 1 := ⟨len - 1, by omega⟩
                    subst hm
                    unfold Builtin.clear_
                    simp only [hst, a0, Sem.run_bind, run_underlying hu, Result.andThen_ok, zeroValue_run T', s1, Sem.run_pure]
                  | _ => cases y2
            | _ => cases hr
        | map kt et =>
          rw [hk] at hr
          have hu := kd_map (T.kd.symm.trans hk)
          unfold clearMap at hr
          cases x with
          | nilmap =>
            cases r0
            have := Eff.run_ret hr
            subst this
            exact fin w h (by unfold Builtin.clear_; simp [hst, a0, run_underlying hu]) S (Ext.refl _ _ _ _)
          | map b =>
            cases r0 with
            | map hp =>
              obtain ⟨y, y1, y2⟩ := Eff.run_rd hr
              cases y with
              | map es cl =>
                have := Eff.run_ret (Eff.run_wr y2)
                subst this
                obtain ⟨S', X, hrun⟩ := setMap_ok (P := P) (es' := []) (cl' := cl) (ces' := #[]) S y1 hp rfl (fun i k v b e => by simp at e)
                obtain ⟨ces, m1, m2, m3⟩ := S.rep b _ _ y1 hp
                refine fin _ _ ?_ S' X
                unfold Builtin.clear_
                simp only [hst, a0, Sem.run_bind, run_underlying hu, Result.andThen_ok, getObj_run (P := P) m1 (by simp), hrun, Sem.run_pure]
              | _ => cases y2
          | _ => cases hr
        | _ => rw [hk] at hr; cases hr
      · cases hr
    · cases hr
  · cases hr

/-- A known slice of a slice. -/
theorem bound_run {x : Operand} {kd : IntKind} {n y : Nat} {code : BoundsCode} (hx : a.eval x = .int kd n) (hle : n ≤ y) : (Instr.sliceBound (a.eval x) y code).run P w = .ok n w := by
  unfold Instr.sliceBound
  simp only [hx, Sem.run_bind, asIntOf, Sem.run_pure, Result.andThen_ok, Sem.run_ite]
  rw [if_pos (by omega)]; simp

/-- The bounds of a slice expression, as given. -/
structure Bnd (a : Act) (xo : Option Operand) (n : Option Nat) : Prop where
  none : xo = none → n = none
  some : ∀ x, xo = some x → ∃ (kd : IntKind) (m : Nat), a.eval x = .int kd m ∧ n = Option.some m

theorem withOptNat_run {x : Option Operand} {k : Option Nat → Eff} {r : AV × Heap} (ht : TRep w I φ t a.tmps) (e : (withOptNat t x k).run id h = some r) :
    ∃ n, Bnd a x n ∧ (k n).run id h = some r := by
  unfold withOptNat at e
  cases x with
  | none => exact ⟨none, ⟨fun _ => rfl, fun x h => by cases h⟩, e⟩
  | some x =>
    obtain ⟨kd, n, h1, h2⟩ := withNat_run e
    exact ⟨some n, ⟨fun h => (by cases h), fun y hy => by cases hy; exact ⟨kd, n, eval_int ht h1, rfl⟩⟩, h2⟩

theorem sliceBounds_run {isS : Bool} {len cap : Nat} {lo hi mx : Option Operand} {l r m : Option Nat} (hl : Bnd a lo l) (hh : Bnd a hi r) (hm : Bnd a mx m)
    (h1 : l.getD 0 ≤ r.getD len) (h2 : m = none → r.getD len ≤ cap) (h3 : ∀ q, m = some q → r ≠ none ∧ r.getD len ≤ q ∧ q ≤ cap) :
    (Instr.sliceBounds isS len cap (lo.map a.eval) (hi.map a.eval) (mx.map a.eval)).run P w = .ok (l.getD 0, r.getD len, m.getD cap) w := by
  unfold Instr.sliceBounds
  cases mx with
  | none =>
    have hmn := hm.none rfl
    have hle := h2 hmn
    subst hmn
    cases hi with
    | none =>
      have hrn := hh.none rfl
      subst hrn
      cases lo with
      | none =>
        have hln := hl.none rfl
        subst hln
        simp only [Option.map_some, Option.map_none, Option.getD_some, Option.getD_none, Sem.run_bind, Sem.run_pure, Result.andThen_ok]
      | some x =>
        obtain ⟨kd, q, e1, e2⟩ := hl.some x rfl
        subst e2
        have b1 := fun code => bound_run (P := P) (w := w) (code := code) e1 (show q ≤ len from h1)
        simp only [Option.map_some, Option.map_none, Option.getD_some, Option.getD_none, Sem.run_bind, Sem.run_pure, Result.andThen_ok, b1]
    | some y =>
      obtain ⟨kd', q', e3, e4⟩ := hh.some y rfl
      subst e4
      have b2 := fun code => bound_run (P := P) (w := w) (code := code) e3 (show q' ≤ cap from hle)
      cases lo with
      | none =>
        have hln := hl.none rfl
        subst hln
        simp only [Option.map_some, Option.map_none, Option.getD_some, Option.getD_none, Sem.run_bind, Sem.run_pure, Result.andThen_ok, b2]
      | some x =>
        obtain ⟨kd, q, e1, e2⟩ := hl.some x rfl
        subst e2
        have b1 := fun code => bound_run (P := P) (w := w) (code := code) e1 (show q ≤ q' from h1)
        simp only [Option.map_some, Option.map_none, Option.getD_some, Option.getD_none, Sem.run_bind, Sem.run_pure, Result.andThen_ok, b1, b2]
  | some x0 =>
    obtain ⟨kd0, q0, e5, e6⟩ := hm.some x0 rfl
    subst e6
    obtain ⟨g1, g2, g3⟩ := h3 q0 rfl
    have b3 := fun code => bound_run (P := P) (w := w) (code := code) e5 g3
    cases hi with
    | none => exact absurd (hh.none rfl) g1
    | some y =>
      obtain ⟨kd', q', e3, e4⟩ := hh.some y rfl
      subst e4
      have b2 := fun code => bound_run (P := P) (w := w) (code := code) e3 (show q' ≤ q0 from g2)
      cases lo with
      | none =>
        have hln := hl.none rfl
        subst hln
        simp only [Option.map_some, Option.map_none, Option.getD_some, Option.getD_none, Sem.run_bind, Sem.run_pure, Result.andThen_ok, b2, b3]
      | some x =>
        obtain ⟨kd, q, e1, e2⟩ := hl.some x rfl
        subst e2
        have b1 := fun code => bound_run (P := P) (w := w) (code := code) e1 (show q ≤ q' from h1)
        simp only [Option.map_some, Option.map_none, Option.getD_some, Option.getD_none, Sem.run_bind, Sem.run_pure, Result.andThen_ok, b1, b2, b3]

theorem isZ_eq {n : Option Nat} (h : isZ n = true) : n.getD 0 = 0 := Nat.eq_of_beq_eq_true h

/-- A slice of a slice, in the model. -/
theorem slice_run {xt e ei : Nat} {lo hi mx : Option Operand} {l r m : Option Nat} {base : Option Addr} {len cap : Nat} {ti : TI} {i : TypeInfo} {z : Value} {d : TypeDesc}
    (T : TyOK P e ti i z d) (hu : P.underlying xt = some (.slice e)) (hl : Bnd a lo l) (hh : Bnd a hi r) (hm : Bnd a mx m)
    (h1 : l.getD 0 ≤ r.getD len) (h2 : m = none → r.getD len ≤ cap) (h3 : ∀ q, m = some q → r ≠ none ∧ r.getD len ≤ q ∧ q ≤ cap) :
    (Instr.sliceAt xt (.slice base len cap) (lo.map a.eval) (hi.map a.eval) (mx.map a.eval)).run P w =
      .ok (.slice (if m.getD cap = l.getD 0 then base else base.map (·.add (l.getD 0 * ti.size))) (r.getD len - l.getD 0) (m.getD cap - l.getD 0)) w := by
  unfold Instr.sliceAt
  simp only [Sem.run_bind, run_underlying hu, Result.andThen_ok]
  unfold Instr.slice
  simp only [Sem.run_bind, run_underlying hu, Result.andThen_ok, sliceBounds_run (P := P) (w := w) (isS := true) hl hh hm h1 h2 h3, sizeOf_run T, Sem.run_pure]

theorem opSlice_ok (hE : EnvOK E P) {xt : Nat} {x : Operand} {lo hi mx : Option Operand} {o : Oper} {r : AV × Heap} (S : Sim w I φ h) (ht : TRep w I φ t a.tmps)
    (ho : o.op = .slice xt x lo hi mx) (hr : (opSlice E t xt x lo hi mx).run id h = some r) : OpRes P a o w I φ h r.1 r.2 := by
  obtain ⟨rv, rh⟩ := r
  obtain ⟨ti, h1, h2⟩ := withTy_run hr
  obtain ⟨u, h3, h4⟩ := withOp_run h2
  obtain ⟨l, bl, h5⟩ := withOptNat_run ht h4
  obtain ⟨q, bh, h6⟩ := withOptNat_run ht h5
  obtain ⟨m, bm, h7⟩ := withOptNat_run ht h6
  obtain ⟨i, z, d, T⟩ := hE.get h1
  have hu := evalOp_rep ht h3
  have fin : ∀ cv, (Instr.sliceAt xt (a.eval x) (lo.map a.eval) (hi.map a.eval) (mx.map a.eval)).run P w = .ok cv w → VRep w I φ rv cv → OpRes P a o w I φ h rv h := by
    intro cv hc hv
    refine OpRes.same S ?_ hv
    simp only [execOp, ho]
    exact run_value hc
  unfold sliceOf at h7
  cases hk : ti.kd with
  | str =>
    rw [hk] at h7
    have hu' := kd_str (T.kd.symm.trans hk)
    cases u with
    | str s =>
      obtain ⟨b1, b2⟩ := bif_run h7
      simp only [Bool.and_eq_true] at b1
      have := Eff.run_ret b2
      simp only [Prod.mk.injEq] at this
      obtain ⟨rfl, rfl⟩ := this
      have hmn : m = none := by cases m with
        | none => rfl
        | some => exact absurd b1.1.1 (by simp)
      subst hmn
      have hle1 : l.getD 0 ≤ q.getD s.length := Nat.le_of_ble_eq_true b1.1.2
      have hle2 : q.getD s.length ≤ s.length := Nat.le_of_ble_eq_true b1.2
      generalize hx : a.eval x = cx at hu fin
      cases hu with
      | str bs hs =>
        have hl : s.length = bs.size := by rw [← hs, Array.length_toList]; rfl
        have hmx : mx = none := by
          cases mx with
          | none => rfl
          | some y => obtain ⟨_, _, _, hh⟩ := bm.some y rfl; cases hh
        subst hmx
        rw [hl] at hle1 hle2
        refine fin (.string (bs.extract (l.getD 0) (q.getD bs.size))) ?_ (.str _ ?_)
        · have hb := sliceBounds_run (P := P) (w := w) (isS := false) (mx := none) (m := none) bl bh ⟨fun _ => rfl, (fun y hy => by cases hy)⟩ hle1 (fun _ => hle2) (fun q hq => by cases hq)
          simp only [Option.map_none] at hb
          unfold Instr.sliceAt
          simp only [Sem.run_bind, run_underlying hu', Result.andThen_ok]
          unfold Instr.slice
          simp only [Sem.run_bind, run_underlying hu', Result.andThen_ok, Option.map_none, Option.isSome_none, Bool.false_eq_true, if_false, Sem.run_pure, hb]
        · rw [hl, ByteArray.data_extract, Array.toList_extract, hs] <;> rfl
    | _ => cases h7
  | slice e =>
    rw [hk] at h7
    simp only at h7
    have hu' := kd_slice (T.kd.symm.trans hk)
    cases he : E.ty e with
    | none => rw [he] at h7; cases h7
    | some ei =>
      rw [he] at h7
      simp only at h7
      obtain ⟨i', z', d', T'⟩ := hE.get he
      unfold sliceSl at h7
      cases u with
      | nilsl =>
        obtain ⟨b1, b2⟩ := bif_run h7
        simp only [Bool.and_eq_true, Bool.or_eq_true, Bool.not_eq_true'] at b1
        have := Eff.run_ret b2
        simp only [Prod.mk.injEq] at this
        obtain ⟨rfl, rfl⟩ := this
        have z1 := isZ_eq b1.1.1.1
        have z2 := isZ_eq b1.1.1.2
        have z3 := isZ_eq b1.1.2
        generalize hx : a.eval x = cx at hu fin
        cases hu
        refine fin (.slice none 0 0) ?_ .nilsl
        rw [slice_run (ei := 0) T' hu' bl bh bm (by rw [z1, z2]; exact Nat.le_refl _) (fun _ => by rw [z2]; exact Nat.le_refl _) (fun qq hq => by
          subst hq
          simp only [Option.getD_some] at z3
          subst z3
          refine ⟨?_, by rw [z2]; exact Nat.le_refl _, Nat.le_refl _⟩
          rintro rfl
          rcases b1.2 with hb | hb <;> simp at hb)]
        rw [z1, z2, z3]; rfl
      | isl row cap =>
        obtain ⟨b1, b2⟩ := bif_run h7
        simp only [Bool.and_eq_true] at b1
        have hle1 : l.getD 0 ≤ q.getD row.length := Nat.le_of_ble_eq_true b1.1.1
        have hle2 : q.getD row.length ≤ row.length := Nat.le_of_ble_eq_true b1.1.2
        have hhead := b1.2
        generalize hx : a.eval x = cx at hu fin
        cases hu with
        | isl f g1 g2 g3 g4 g5 g6 g7 =>
          rename_i cb d0 k len ccap ad
          subst g4
          have key : ∀ (mm : Nat) (cap' : Option Nat), m.getD ccap = mm → q.getD row.length ≤ mm → (m = none → q.getD row.length ≤ ccap) → (∀ qq, m = some qq → q ≠ none ∧ q.getD row.length ≤ qq ∧ qq ≤ ccap) →
              (∀ c, cap' = some c → mm - l.getD 0 = c) → rv = .isl ((row.drop (l.getD 0)).take (q.getD row.length - l.getD 0)) cap' → OpRes P a o w I φ h rv h := by
            intro mm cap' hmm hmle c1 c2 hc hrv
            have hrun := slice_run (ei := 0) (base := some ad) (len := row.length) (cap := ccap) (P := P) (w := w) T' hu' bl bh bm hle1 c1 c2
            rw [hmm] at hrun
            subst hrv
            have hlen : ((row.drop (l.getD 0)).take (q.getD row.length - l.getD 0)).length = q.getD row.length - l.getD 0 := by
              rw [List.length_take, List.length_drop]; omega
            have hcells : ∀ i j c, rowAt ((row.drop (l.getD 0)).take (q.getD row.length - l.getD 0)) i j = some c → rowAt row (l.getD 0 + i) j = some c :=
              fun i j c e => rowAt_drop (rowAt_take e).2
            have hsh : ∀ i j : Nat, d0 + l.getD 0 * k + i * k + j = d0 + (l.getD 0 + i) * k + j := fun i j => by rw [Nat.add_mul]; omega
            have hif : (if mm = l.getD 0 then some ad else (some ad).map (fun x => x.add (l.getD 0 * ei.size))) = some (if mm = l.getD 0 then ad else ad.add (l.getD 0 * ei.size)) := by
              split <;> rfl
            rw [hif] at hrun
            refine fin _ hrun (.isl (cb := cb) (d := d0 + l.getD 0 * k) (k := k) (fun i j => f (l.getD 0 + i) j) (fun e he => g1 e (List.mem_of_mem_drop (List.mem_of_mem_take he)))
              (fun i j c e => ?_) (fun i j c e => g3 _ _ _ (hcells i j c e)) hlen (by omega) (fun c e => hc c e) ?_)
            · rw [hsh]; exact g2 _ _ _ (hcells i j c e)
            · by_cases hnil : (row.drop (l.getD 0)).take (q.getD row.length - l.getD 0) = []
              · exact .inl hnil
              · right
                have hpos : 0 < q.getD row.length - l.getD 0 := by rw [← hlen]; exact List.length_pos_iff.2 hnil
                rw [if_neg (by omega)]
                have hrow : row ≠ [] := by rintro rfl; simp at hnil
                have hsz : ei.size = k := by
                  cases hq : (row.drop (l.getD 0)).take (q.getD row.length - l.getD 0) with
                  | nil => exact absurd hq hnil
                  | cons e es =>
                    rw [hq] at hhead
                    have := Nat.eq_of_beq_eq_true hhead
                    rw [← this]
                    exact g1 e (List.mem_of_mem_drop (List.mem_of_mem_take (by rw [hq]; simp)))
                rw [g7.resolve_left hrow, add_cellAt, hsz]
          cases m with
          | none =>
            have := Eff.run_ret b2
            simp only [Prod.mk.injEq] at this
            obtain ⟨hrv, rfl⟩ := this
            refine key ccap _ rfl (by omega) (fun _ => by omega) (fun qq hq => by cases hq) (fun c hc => ?_) hrv
            cases cap with
            | none => cases hc
            | some c0 => simp only [Option.map_some, Option.some.injEq] at hc; rw [g6 c0 rfl]; exact hc
          | some mm =>
            obtain ⟨c1, c2⟩ := bif_run b2
            simp only [Bool.and_eq_true, Bool.not_eq_true'] at c1
            have hq0 : q ≠ none := by rintro rfl; simp at c1
            have hq1 : q.getD row.length ≤ mm := Nat.le_of_ble_eq_true c1.1.2
            have hq2 : mm ≤ row.length := Nat.le_of_ble_eq_true c1.2
            have := Eff.run_ret c2
            simp only [Prod.mk.injEq] at this
            obtain ⟨hrv, rfl⟩ := this
            exact key mm _ rfl hq1 (fun hn => by cases hn) (fun qq hq => by cases hq; exact ⟨hq0, hq1, by omega⟩) (fun c hc => by cases hc; rfl) hrv
      | sl b off len k cap =>
        obtain ⟨b1, b2⟩ := bif_run h7
        have hk0 := Nat.eq_of_beq_eq_true b1
        obtain ⟨y, y1, y2⟩ := Eff.run_rd b2
        cases hro : rowsOf y with
        | none => rw [hro] at y2; cases y2
        | some rows =>
          rw [hro] at y2
          unfold slCut at y2
          obtain ⟨c1, c2⟩ := bif_run y2
          simp only [Bool.and_eq_true] at c1
          have hle1 : l.getD 0 ≤ q.getD len := Nat.le_of_ble_eq_true c1.1.1
          have hle2 : off + q.getD len ≤ rows.length := Nat.le_of_ble_eq_true c1.1.2
          generalize hx : a.eval x = cx at hu fin
          cases hu with
          | sl hp g0 g1 g2 g3 g4 g5 g6 =>
            rename_i ccap p ad
            obtain ⟨n1, _, _⟩ := S.cells y1 hp hro
            have hpN : p.n ≤ p.N := by
              have := S.rep b y p y1 hp
              cases y with
              | cells => exact this.2.2.1
              | imm => exact this.2.2.1
              | _ => cases hro
            have room : ∀ n, roomFor n off rows.length cap = true → n ≤ ccap := by
              intro n hn
              unfold roomFor at hn
              cases cap with
              | some c => rw [g4 c rfl]; exact Nat.le_of_ble_eq_true hn
              | none =>
                have := Nat.le_of_ble_eq_true hn
                have := g5 rfl
                omega
            have hr1 := room _ c1.2
            have key : ∀ (mm : Nat) (cap' : Option Nat), m.getD ccap = mm → q.getD len ≤ mm → mm ≤ ccap → (m = none → q.getD len ≤ ccap) → (∀ qq, m = some qq → q ≠ none ∧ q.getD len ≤ qq ∧ qq ≤ ccap) →
                (∀ c, cap' = some c → mm - l.getD 0 = c) → (cap' = none → off + mm = p.N) → rv = .sl b (off + l.getD 0) (q.getD len - l.getD 0) k cap' → OpRes P a o w I φ h rv h := by
              intro mm cap' hmm hmle hmc d1 d2 hc hc' hrv
              have hrun := slice_run (ei := 0) (base := some ad) (len := len) (cap := ccap) (P := P) (w := w) T' hu' bl bh bm hle1 d1 d2
              rw [hmm] at hrun
              subst hrv
              have hif : (if mm = l.getD 0 then some ad else (some ad).map (fun x => x.add (l.getD 0 * ei.size))) = some (if mm = l.getD 0 then ad else ad.add (l.getD 0 * ei.size)) := by
                split <;> rfl
              rw [hif] at hrun
              refine fin _ hrun (.sl hp g0 (by omega) (by omega) (by omega) (fun c e => hc c e) (fun e => by have := hc' e; omega) ?_)
              by_cases hml : mm = l.getD 0
              · left; omega
              · right
                rw [if_neg hml, g6.resolve_left (by omega), add_cellAt, ← hk0, ← g0, Nat.add_mul]
                congr 1; omega
            cases m with
            | none =>
              have := Eff.run_ret c2
              simp only [Prod.mk.injEq] at this
              obtain ⟨hrv, rfl⟩ := this
              refine key ccap _ rfl hr1 (Nat.le_refl _) (fun _ => hr1) (fun qq hq => by cases hq) (fun c hc => ?_) (fun hc => ?_) hrv
              · cases cap with
                | none => cases hc
                | some c0 => simp only [Option.map_some, Option.some.injEq] at hc; rw [g4 c0 rfl]; exact hc
              · cases cap with
                | none => exact g5 rfl
                | some c0 => cases hc
            | some mm =>
              obtain ⟨e1, e2⟩ := bif_run c2
              simp only [Bool.and_eq_true, Bool.not_eq_true'] at e1
              have hq0 : q ≠ none := by rintro rfl; simp at e1
              have hq1 : q.getD len ≤ mm := Nat.le_of_ble_eq_true e1.1.2
              have hq2 := room _ e1.2
              have := Eff.run_ret e2
              simp only [Prod.mk.injEq] at this
              obtain ⟨hrv, rfl⟩ := this
              exact key mm _ rfl hq1 hq2 (fun hn => by cases hn) (fun qq hq => by cases hq; exact ⟨hq0, hq1, hq2⟩) (fun c hc => by cases hc; rfl) (fun hc => by cases hc) hrv
      | _ => cases h7
  | _ => rw [hk] at h7; cases h7
end
end Go.AM
