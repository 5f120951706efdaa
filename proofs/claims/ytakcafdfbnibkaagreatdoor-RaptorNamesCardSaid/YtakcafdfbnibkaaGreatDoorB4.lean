/- The evaluator AM: operations that read memory, write it, make new blocks. -/
import Derived.Test.YtakcafdfbnibkaaGreatDoorB3
set_option linter.unusedVariables false
set_option linter.unusedSimpArgs false
namespace Go.AM

def OpRes (P : Program) (a : Act) (o : Oper) (w : World) (I : Nat → Prop) (φ : Phi) (h : Heap) (v : AV) (h' : Heap) : Prop :=
  ∃ r cv w' I' φ', (execOp a.eval o).run P w = .ok r w' ∧ (r = .value cv ∨ (r = .skip ∧ cv = _root_.Go.undef)) ∧ VRep w' I' φ' v cv ∧
    Sim w' I' φ' h' ∧ Ext w I φ h w' I' φ' h'

section
variable {E : Env} {P : Program} {w : World} {I : Nat → Prop} {φ : Phi} {h h' : Heap} {id : Nat} {t : Tmps} {a : Act} {v : AV}

theorem OpRes.same {o : Oper} {cv : Value} (S : Sim w I φ h) (hr : (execOp a.eval o).run P w = .ok (.value cv) w) (hv : VRep w I φ v cv) : OpRes P a o w I φ h v h :=
  ⟨_, cv, w, I, φ, hr, .inl rfl, hv, S, Ext.refl _ _ _ _⟩

theorem Eff.run_of {x : Option AV} {r : AV × Heap} (e : (Eff.of x).run id h = some r) : x = some r.1 ∧ r.2 = h := by
  cases x with
  | none => cases e
  | some y => cases e; exact ⟨rfl, rfl⟩
theorem Eff.run_ret {x : AV} {r : AV × Heap} (e : (Eff.ret x).run id h = some r) : r = (x, h) := by cases e; rfl
theorem Eff.run_fail {r : AV × Heap} (e : Eff.fail.run id h = some r) : False := by cases e
theorem Eff.run_rd {b : Nat} {k : Blk → Eff} {r : AV × Heap} (e : (Eff.rd b k).run id h = some r) : ∃ x, Heap.get h b = some x ∧ (k x).run id h = some r := by
  change Option.rec (motive := fun _ => Out) none (fun x => (k x).run id h) (Heap.get h b) = some r at e
  cases hg : Heap.get h b with
  | none => rw [hg] at e; cases e
  | some x => rw [hg] at e; exact ⟨x, rfl, e⟩
theorem Eff.run_wr {b : Nat} {x : Blk} {k : Eff} {r : AV × Heap} (e : (Eff.wr b x k).run id h = some r) : k.run id (Heap.put h b x) = some r := e
theorem Eff.run_nw {x : Blk} {k : Eff} {r : AV × Heap} (e : (Eff.nw x k).run id h = some r) : Heap.get h id = none ∧ k.run id (Heap.put h id x) = some r := by
  change Option.rec (motive := fun _ => Out) (k.run id (Heap.put h id x)) (fun _ => none) (Heap.get h id) = some r at e
  cases hg : Heap.get h id with
  | none => rw [hg] at e; exact ⟨rfl, e⟩
  | some x => rw [hg] at e; cases e

theorem withOp_run {x : Operand} {k : AV → Eff} {r : AV × Heap} (e : (withOp t x k).run id h = some r) : ∃ y, evalOp t x = some y ∧ (k y).run id h = some r := by
  unfold withOp at e
  cases hx : evalOp t x with
  | none => rw [hx] at e; cases e
  | some y => rw [hx] at e; exact ⟨y, rfl, e⟩
theorem withTy_run {x : Nat} {k : TI → Eff} {r : AV × Heap} (e : (withTy E x k).run id h = some r) : ∃ y, E.ty x = some y ∧ (k y).run id h = some r := by
  unfold withTy at e
  cases hx : E.ty x with
  | none => rw [hx] at e; cases e
  | some y => rw [hx] at e; exact ⟨y, rfl, e⟩
theorem withElem_run {x : Nat} {k : TI → Eff} {r : AV × Heap} (e : (withElem E x k).run id h = some r) :
    ∃ si el y, E.ty x = some si ∧ si.kd = .slice el ∧ E.ty el = some y ∧ (k y).run id h = some r := by
  unfold withElem elemTI at e
  cases hx : E.ty x with
  | none => rw [hx] at e; cases e
  | some y =>
    rw [hx] at e
    simp only at e
    cases hk : y.kd with
    | slice el =>
      rw [hk] at e
      simp only at e
      cases hy : E.ty el with
      | none => rw [hy] at e; cases e
      | some z => rw [hy] at e; exact ⟨y, el, z, rfl, hk, hy, e⟩
    | _ => rw [hk] at e; cases e
theorem withNat_run {x : Operand} {k : Nat → Eff} {r : AV × Heap} (e : (withNat t x k).run id h = some r) :
    ∃ (kd : IntKind) (n : Nat), evalOp t x = some (.int kd n) ∧ (k n).run id h = some r := by
  unfold withNat at e
  obtain ⟨y, h1, h2⟩ := withOp_run e
  cases y with
  | int kd n => cases n with
    | ofNat m => exact ⟨kd, m, h1, h2⟩
    | negSucc m => cases h2
  | _ => cases h2
theorem withAll_run {x : Array Operand} {k : List AV → Eff} {r : AV × Heap} (e : (withAll t x k).run id h = some r) : ∃ y, evalAll t x.toList = some y ∧ (k y).run id h = some r := by
  unfold withAll at e
  cases hx : evalAll t x.toList with
  | none => rw [hx] at e; cases e
  | some y => rw [hx] at e; exact ⟨y, rfl, e⟩
theorem withParts_run {x : Array (Nat × Operand)} {k : List (Nat × AV) → Eff} {r : AV × Heap} (e : (withParts t x k).run id h = some r) :
    ∃ y, evalParts t x.toList = some y ∧ (k y).run id h = some r := by
  unfold withParts at e
  cases hx : evalParts t x.toList with
  | none => rw [hx] at e; cases e
  | some y => rw [hx] at e; exact ⟨y, rfl, e⟩

theorem bif_run {c : Bool} {x : Eff} {r : AV × Heap} (e : (bif c then x else .fail : Eff).run id h = some r) : c = true ∧ x.run id h = some r := by
  cases c with
  | false => cases e
  | true => exact ⟨rfl, e⟩
theorem bif_run' {c : Bool} {x : Eff} {r : AV × Heap} (e : (bif c then .fail else x : Eff).run id h = some r) : c = false ∧ x.run id h = some r := by
  cases c with
  | true => cases e
  | false => exact ⟨rfl, e⟩

theorem evalAll_rep {xs : List Operand} {vs : List AV} (ht : TRep w I φ t a.tmps) (e : evalAll t xs = some vs) :
    vs.length = xs.length ∧ ∀ (i : Nat) (x : AV), vs[i]? = some x → VRep w I φ x ((xs.map a.eval).getD i _root_.Go.undef) := by
  induction xs generalizing vs with
  | nil => cases e; exact ⟨rfl, fun i x e => by simp at e⟩
  | cons y ys ih =>
    unfold evalAll at e
    split at e
    · rename_i u us h1 h2
      cases e
      obtain ⟨l, r⟩ := ih h2
      refine ⟨by simp [l], fun i x e => ?_⟩
      cases i with
      | zero => simp at e; subst e; simpa using evalOp_rep ht h1
      | succ i => simpa using r i x (by simpa using e)
    · cases e

theorem evalAll_arr {xs : Array Operand} {vs : List AV} (ht : TRep w I φ t a.tmps) (e : evalAll t xs.toList = some vs) :
    (xs.map a.eval).size = vs.length ∧ ∀ (i : Nat) (x : AV), vs[i]? = some x → VRep w I φ x ((xs.map a.eval).getD i _root_.Go.undef) := by
  obtain ⟨l, r⟩ := evalAll_rep ht e
  refine ⟨by simp [l], fun i x e => ?_⟩
  have := r i x e
  simpa [Array.getD_eq_getD_getElem?, List.getD_eq_getElem?_getD] using this

theorem run_value {s : Sem Value} {cv : Value} {w' : World} (e : s.run P w = .ok cv w') : (do pure (Next.value (← s)) : Sem Next).run P w = .ok (.value cv) w' := by
  simp only [Sem.run_bind, e, Result.andThen_ok, Sem.run_pure]
theorem run_unit {s : Sem Unit} {w' : World} (e : s.run P w = .ok () w') : (do s; pure Next.skip : Sem Next).run P w = .ok .skip w' := by
  simp only [Sem.run_bind, e, Result.andThen_ok, Sem.run_pure]

/-- Cells that stand for cells, one by one. -/
def CRep (w : World) (I : Nat → Prop) (φ : Phi) (cs : List AV) (va : Array Value) : Prop :=
  va.size = cs.length ∧ ∀ (i : Nat) (x : AV), cs[i]? = some x → ∃ u, va[i]? = some u ∧ VRep w I φ x u

theorem VRep.cells {x : AV} {u : Value} (r : VRep w I φ x u) (hx : ∀ vs, x ≠ .tuple vs) : CRep w I φ x.cells u.cells := by
  cases r with
  | agg va h1 h2 => exact ⟨h1, agg_cells h1 h2⟩
  | any => exact absurd rfl (hx _)
  | tuple va h1 h2 => exact absurd rfl (hx _)
  | _ => exact ⟨rfl, fun i x e => by
      cases i with
      | zero => simp [AV.cells] at e; subst e; exact ⟨_, rfl, by constructor <;> assumption⟩
      | succ i => simp [AV.cells] at e⟩

theorem notTuple {x : AV} (h : x.cells.all isCell = true) : ∀ vs, x ≠ .tuple vs := by
  intro vs e; subst e; simp [AV.cells, isCell] at h

theorem CRep.oneCell {cs : List AV} {va : Array Value} (r : CRep w I φ cs va) (h : cs.all isCell = true) : ∀ u, u ∈ va.toList → u.oneCell' = true := by
  intro u hu
  obtain ⟨i, hi, e⟩ := List.getElem_of_mem hu
  have hi' : i < va.size := by simpa using hi
  have hic : i < cs.length := by rw [← r.1]; exact hi'
  obtain ⟨u', e1, e2⟩ := r.2 i cs[i] (List.getElem?_eq_getElem hic)
  have : u' = u := by
    have h3 : va[i]? = some u := by rw [Array.getElem?_eq_getElem hi']; congr 1
    rw [e1] at h3; cases h3; rfl
  subst this
  have hc : isCell cs[i] = true := List.all_eq_true.1 h _ (List.getElem_mem hic)
  obtain ⟨q1, q2⟩ := e2.cell hc
  cases u' <;> first | rfl | exact absurd rfl (q1 _) | exact absurd rfl (q2 _)

theorem constAll_rep : ∀ {l : List Value} {cs : List AV}, constAll l = some cs → l.length = cs.length ∧ ∀ (i : Nat) (x : AV), cs[i]? = some x → ∃ u, l[i]? = some u ∧ VRep w I φ x u
  | [], cs, e => by cases e; exact ⟨rfl, fun i x e => by simp at e⟩
  | y :: l, cs, e => by
    unfold constAll at e
    split at e
    · rename_i u us h1 h2
      cases e
      obtain ⟨l1, r⟩ := constAll_rep h2
      refine ⟨by simp [l1], fun i x e => ?_⟩
      cases i with
      | zero => simp at e; subst e; exact ⟨y, rfl, ofConst_rep h1⟩
      | succ i => simpa using r i x (by simpa using e)
    · cases e

theorem TyOK.zrep {n : Nat} {ti : TI} {i : TypeInfo} {z : Value} {d : TypeDesc} (T : TyOK P n ti i z d) : CRep w I φ ti.zero z.cells := by
  obtain ⟨h1, h2⟩ := constAll_rep (w := w) (I := I) (φ := φ) T.cells
  exact ⟨by simpa using h1, fun j x e => by simpa using h2 j x e⟩

theorem isAgg_run {n : Nat} {ti : TI} {i : TypeInfo} {z : Value} {d : TypeDesc} (T : TyOK P n ti i z d) : (isAgg n).run P w = .ok ti.agg w := by
  rw [T.agg]; unfold isAgg
  simp only [Sem.run_bind, run_underlying T.und, Result.andThen_ok]
  cases d <;> rfl
theorem typeInfo_run {n : Nat} {i : TypeInfo} (hi : P.info? n = some i) : (typeInfo n).run P w = .ok i w := by
  simp [typeInfo, hi]
theorem sizeOf_run {n : Nat} {ti : TI} {i : TypeInfo} {z : Value} {d : TypeDesc} (T : TyOK P n ti i z d) : (sizeOf n).run P w = .ok ti.size w := by
  unfold sizeOf
  simp only [Sem.run_bind, typeInfo_run T.info, Result.andThen_ok, Sem.run_pure, T.size]
theorem zeroValue_run {n : Nat} {ti : TI} {i : TypeInfo} {z : Value} {d : TypeDesc} (T : TyOK P n ti i z d) : (zeroValue n).run P w = .ok z w := by
  unfold zeroValue
  simp only [Sem.run_bind, typeInfo_run T.info, Result.andThen_ok, T.zero, Sem.run_pure]

/-- A variable of its own. -/
theorem doAlloc_ok {cs : List AV} {va : Array Value} {e : Nat} {o : Oper} {r : AV × Heap} (S : Sim w I φ h) (hc : CRep w I φ cs va) (hr : (doAlloc id cs).run id h = some r)
    (hrun : (execOp a.eval o).run P w = .ok (.value (.pointer (some ⟨w.heap.size, 0, none⟩))) { w with heap := w.heap.push (.cells va e) }) : OpRes P a o w I φ h r.1 r.2 := by
  unfold doAlloc at hr
  obtain ⟨hb, hr⟩ := bif_run hr
  obtain ⟨hid, hr⟩ := Eff.run_nw hr
  have := Eff.run_ret hr
  subst this
  simp only [Bool.and_eq_true] at hb
  obtain ⟨hb1, hb2⟩ := hb
  have hlen : 0 < cs.length := Nat.le_of_ble_eq_true hb1
  let p : Pl := ⟨w.heap.size, 0, cs.length, 1, 1⟩
  obtain ⟨S', X⟩ := S.alloc (w' := { w with heap := w.heap.push (.cells va e) }) (o := .cells va e) (x := .cells false cs.length [cs]) (p := p) hid trivial rfl rfl rfl rfl rfl (fun hv => by
    refine ⟨rfl, rfl, Nat.le_refl _, fun _ => rfl, fun e he => by simp at he; subst he; rfl, va, e, heap_push_new _ _, ?_, fun i j c hc' => ?_⟩
    · show 0 + 1 * cs.length ≤ va.size; rw [hc.1]; omega
    · obtain ⟨rfl, hj⟩ := rowAt_one hc'
      obtain ⟨u, h1, h2⟩ := hc.2 j c hj
      refine ⟨List.all_eq_true.1 hb2 _ (List.mem_of_getElem? hj), u, ?_, hv _ _ h2⟩
      show va[0 + 0 * cs.length + j]? = some u
      rw [show 0 + 0 * cs.length + j = j by omega]; exact h1)
  refine ⟨_, _, _, _, _, hrun, .inl rfl, ?_, S', X⟩
  have := VRep.ptr (w := { w with heap := w.heap.push (.cells va e) }) (I := I) (b := id) (i := 0) (j := 0) (Phi.set_same φ id p)
  simpa [cellAt, p] using this

theorem newVar_run (e : Nat) (u : Value) : (newVar e u).run P w = .ok ⟨w.heap.size, 0, none⟩ { w with heap := w.heap.push (.cells u.cells e) } := by
  simp [newVar, newRow]

theorem opAlloc_ok (hE : EnvOK E P) {e : Nat} {o : Oper} {r : AV × Heap} (S : Sim w I φ h) (ho : o.op = .alloc e) (hr : (opAlloc E id e).run id h = some r) :
    OpRes P a o w I φ h r.1 r.2 := by
  obtain ⟨ti, h1, h2⟩ := withTy_run hr
  obtain ⟨i, z, d, T⟩ := hE.get h1
  refine doAlloc_ok (va := z.cells) (e := e) S T.zrep h2 ?_
  simp only [execOp, ho]
  refine run_value ?_
  simp only [Instr.alloc, Sem.run_bind, zeroValue_run T, Result.andThen_ok, newVar_run, Sem.run_pure]

theorem opBox_ok {e : Nat} {x : Operand} {o : Oper} {r : AV × Heap} (S : Sim w I φ h) (ht : TRep w I φ t a.tmps) (ho : o.op = .box e x)
    (hr : (opBox id t x).run id h = some r) : OpRes P a o w I φ h r.1 r.2 := by
  obtain ⟨y, h1, h2⟩ := withOp_run hr
  have hy := evalOp_rep ht h1
  have hnt : ∀ vs, y ≠ .tuple vs := by
    have h2' := h2
    unfold doAlloc at h2'
    obtain ⟨hb, _⟩ := bif_run h2'
    simp only [Bool.and_eq_true] at hb
    exact notTuple hb.2
  refine doAlloc_ok (va := (a.eval x).cells) (e := e) S (hy.cells hnt) h2 ?_
  simp only [execOp, ho]
  refine run_value ?_
  simp only [Instr.box, Sem.run_bind, newVar_run, Result.andThen_ok, Sem.run_pure]

/-- Reading a variable of an element. -/
theorem cut_ok {n : Nat} {ti : TI} {i : TypeInfo} {z : Value} {d : TypeDesc} (T : TyOK P n ti i z d) {el : List AV} {j : Nat} {x : AV} {ad : Addr} {f : Nat → Value}
    (hcell : ∀ q c, el[q]? = some c → j ≤ q → w.cell? (ad.add (q - j)) = some (f q) ∧ VRep w I φ c (f q)) (hc : cut ti el j = some x) :
    ∃ cv, (loadVar n ad).run P w = .ok cv w ∧ VRep w I φ x cv := by
  unfold cut at hc
  unfold loadVar
  simp only [Sem.run_bind, isAgg_run T, Result.andThen_ok]
  cases hag : ti.agg with
  | true =>
    rw [hag] at hc
    simp only [cond_true] at hc
    simp only [if_true, Sem.run_bind, sizeOf_run T, Result.andThen_ok]
    cases hl : (((el.drop j).take ti.size).length.beq ti.size) with
    | false => rw [hl] at hc; cases hc
    | true =>
      rw [hl] at hc; cases hc
      have hl := Nat.eq_of_beq_eq_true hl
      have hjn : j + ti.size ≤ el.length ∨ ti.size = 0 := by
        rw [List.length_take, List.length_drop] at hl; omega
      have hload := run_loadCells (P := P) w ad ti.size (fun q => f (j + q)) (fun q hq => by
        have hlt : j + q < el.length := by omega
        have := (hcell (j + q) el[j + q] (List.getElem?_eq_getElem hlt) (by omega)).1
        rwa [show j + q - j = q by omega] at this)
      refine ⟨_, by rw [hload]; rfl, .agg _ (by simp [hl]) fun q c hq => ?_⟩
      rw [List.getElem?_take] at hq
      split at hq
      · rename_i hq2
        rw [List.getElem?_drop] at hq
        have := (hcell (j + q) c hq (by omega)).2
        simpa [Array.getD_eq_getD_getElem?, hq2] using this
      · cases hq
  | false =>
    rw [hag] at hc
    simp only [cond_false] at hc
    simp only [Bool.false_eq_true, if_false]
    obtain ⟨e1, e2⟩ := hcell j x hc (Nat.le_refl _)
    have : ad.add (j - j) = ad := by simp [Addr.add]
    rw [this] at e1
    exact ⟨f j, by simp [e1], e2⟩

theorem add_cellAt (cb o q : Nat) : (cellAt cb o).add q = cellAt cb (o + q) := by
  unfold Addr.add cellAt; split
  · rename_i e; subst e; rfl
  · rfl

/-- What lies in a block of the heap, as the model's cells. -/
theorem Sim.cells {b : Nat} {x : Blk} {p : Pl} {rows : List (List AV)} (S : Sim w I φ h) (hb : Heap.get h b = some x) (hp : φ b = some p) (hr : rowsOf x = some rows) :
    p.n = rows.length ∧ (∀ e ∈ rows, e.length = p.k) ∧ ∀ i j c, rowAt rows i j = some c → isCell c = true ∧ ∃ u, w.cell? (cellAt p.cb (p.d + i * p.k + j)) = some u ∧ VRep w I φ c u := by
  have hB := S.rep b x p hb hp
  cases x with
  | cells s k rs =>
    cases hr
    obtain ⟨h1, h2, _, _, h5, cc, el, h6, h7, h8⟩ := hB
    refine ⟨h2, by rw [h1]; exact h5, fun i j c e => ?_⟩
    obtain ⟨q1, u, q2, q3⟩ := h8 i j c e
    exact ⟨q1, u, by rw [h1]; simp only [World.cell?, h6]; simpa using q2, q3⟩
  | imm k rs =>
    cases hr
    obtain ⟨h1, h2, _, h5, h8⟩ := hB
    refine ⟨h2, by rw [h1]; exact h5, fun i j c e => ?_⟩
    obtain ⟨q1, _, u, q2, q3⟩ := h8 i j c e
    exact ⟨q1, u, by rw [h1]; exact q2, q3.of_tree⟩
  | _ => cases hr

theorem rowAt_of {rows : List (List AV)} {i j : Nat} {el : List AV} {c : AV} (h1 : rows[i]? = some el) (h2 : el[j]? = some c) : rowAt rows i j = some c := by
  unfold rowAt; rw [h1]; exact h2

theorem cutAt_ok {n : Nat} {ti : TI} {i : TypeInfo} {z : Value} {d : TypeDesc} (T : TyOK P n ti i z d) {rows : List (List AV)} {i' j : Nat} {x : AV} {cb o k : Nat}
    (hcell : ∀ i j c, rowAt rows i j = some c → ∃ u, w.cell? (cellAt cb (o + i * k + j)) = some u ∧ VRep w I φ c u) (hc : cutAt ti rows i' j = some x) :
    ∃ cv, (loadVar n (cellAt cb (o + i' * k + j))).run P w = .ok cv w ∧ VRep w I φ x cv := by
  unfold cutAt at hc
  cases hr : rows[i']? with
  | none => rw [hr] at hc; cases hc
  | some el =>
    rw [hr] at hc
    refine cut_ok T (el := el) (j := j) (f := fun q => (w.cell? (cellAt cb (o + i' * k + q))).getD _root_.Go.undef) (fun q c hq hjq => ?_) hc
    obtain ⟨u, e1, e2⟩ := hcell i' q c (rowAt_of hr hq)
    rw [add_cellAt, show o + i' * k + j + (q - j) = o + i' * k + q by omega, e1]
    exact ⟨rfl, e2⟩

theorem doLoad_ok {n : Nat} {ti : TI} {i : TypeInfo} {z : Value} {d : TypeDesc} (T : TyOK P n ti i z d) {x : AV} {cx : Value} {r : AV × Heap} (S : Sim w I φ h)
    (hx : VRep w I φ x cx) (hr : (doLoad ti x).run id h = some r) : ∃ cv, (Instr.loadAt n cx).run P w = .ok cv w ∧ VRep w I φ r.1 cv ∧ r.2 = h := by
  unfold doLoad at hr
  cases x with
  | ptr b i' j =>
    obtain ⟨x, h1, h2⟩ := Eff.run_rd hr
    obtain ⟨h3, h4⟩ := Eff.run_of h2
    cases hx with
    | ptr hp =>
      unfold cutBlk at h3
      cases hro : rowsOf x with
      | none => rw [hro] at h3; cases h3
      | some rows =>
        rw [hro] at h3
        obtain ⟨_, _, hcs⟩ := S.cells h1 hp hro
        obtain ⟨cv, e1, e2⟩ := cutAt_ok T (fun i j c e => (hcs i j c e).2) h3
        exact ⟨cv, by simp only [Instr.loadAt, Instr.sureAddr, Sem.run_bind, Sem.run_pure, Result.andThen_ok, e1], e2, h4⟩
  | iptr rows i' j =>
    obtain ⟨h3, h4⟩ := Eff.run_of hr
    cases hx with
    | iptr f hl hcell hrep =>
      obtain ⟨cv, e1, e2⟩ := cutAt_ok (φ := φ) T (fun i j c e => ⟨_, (hcell i j c e).2.2, (hrep i j c e).of_tree⟩) h3
      exact ⟨cv, by simp only [Instr.loadAt, Instr.sureAddr, Sem.run_bind, Sem.run_pure, Result.andThen_ok, e1], e2, h4⟩
  | _ => cases hr

theorem opLoad_ok (hE : EnvOK E P) {n : Nat} {x : Operand} {o : Oper} {r : AV × Heap} (S : Sim w I φ h) (ht : TRep w I φ t a.tmps) (ho : o.op = .load n x)
    (hr : (opLoad E t n x).run id h = some r) : OpRes P a o w I φ h r.1 r.2 := by
  obtain ⟨ti, h1, h2⟩ := withTy_run hr
  obtain ⟨y, h3, h4⟩ := withOp_run h2
  obtain ⟨i, z, d, T⟩ := hE.get h1
  obtain ⟨cv, e1, e2, e3⟩ := doLoad_ok T S (evalOp_rep ht h3) h4
  rw [e3]
  refine OpRes.same S ?_ e2
  simp only [execOp, ho]
  exact run_value e1

/-- An array with cells written from a place on. -/
def arrW (cc : Array Value) (o : Nat) (vs : List Value) : Array Value := (cc.toList.take o ++ vs ++ cc.toList.drop (o + vs.length)).toArray

theorem arrW_size {cc : Array Value} {o : Nat} {vs : List Value} (hl : o + vs.length ≤ cc.size) : (arrW cc o vs).size = cc.size := by
  simp [arrW]; omega

theorem arrW_get {cc : Array Value} {o : Nat} {vs : List Value} (hl : o + vs.length ≤ cc.size) (m : Nat) :
    (arrW cc o vs)[m]? = if o ≤ m ∧ m < o + vs.length then vs[m - o]? else cc[m]? := by
  have h1 : (arrW cc o vs)[m]? = (cc.toList.take o ++ vs ++ cc.toList.drop (o + vs.length))[m]? := by simp [arrW]
  rw [h1, List.append_assoc, List.getElem?_append]
  have hlt : (cc.toList.take o).length = o := by rw [List.length_take, Array.length_toList]; omega
  rw [hlt]
  by_cases hm : m < o
  · rw [if_pos hm, if_neg (by omega), List.getElem?_take, if_pos hm]; simp
  · rw [if_neg hm, List.getElem?_append]
    by_cases hm2 : m - o < vs.length
    · rw [if_pos hm2, if_pos ⟨by omega, by omega⟩]
    · rw [if_neg hm2, if_neg (by omega), List.getElem?_drop]
      rw [show o + vs.length + (m - o - vs.length) = m by omega]; simp

theorem storeCells_run {g o : Nat} {cc : Array Value} {el : TypeId} {vs : List Value} (hg : w.heap[g]? = some (.cells cc el (0, 0))) (hl : o + vs.length ≤ cc.size)
    (h1 : ∀ u ∈ vs, u.oneCell' = true) : (storeCells (cellAt g o) vs).run P w = .ok () (w.setRow g (arrW cc o vs)) := by
  have := run_storeCells_at P g o el vs 0 cc w hg (by omega) h1
  simpa [arrW] using this

theorem setAt_get : ∀ (vs el : List AV) (j : Nat) (el' : List AV), setAt el j vs = some el' →
    el'.length = el.length ∧ (vs ≠ [] → j + vs.length ≤ el.length) ∧ ∀ q, el'[q]? = if j ≤ q ∧ q < j + vs.length then vs[q - j]? else el[q]?
  | [], el, j, el', h => by
    cases h
    exact ⟨rfl, fun h => absurd rfl h, fun q => by rw [if_neg (by simp)]⟩
  | v :: vs, el, j, el', h => by
    unfold setAt at h
    cases hb : j.blt el.length with
    | false => rw [hb] at h; cases h
    | true =>
      rw [hb] at h
      have hj : j < el.length := Nat.le_of_ble_eq_true hb
      obtain ⟨h1, h2, h3⟩ := setAt_get vs (el.set j v) (j + 1) el' h
      rw [List.length_set] at h1
      refine ⟨h1, fun _ => ?_, fun q => ?_⟩
      · by_cases hv : vs = []
        · subst hv; simp; omega
        · have := h2 hv; rw [List.length_set] at this; simp; omega
      · rw [h3 q]
        by_cases hq : j + 1 ≤ q ∧ q < j + 1 + vs.length
        · rw [if_pos hq, if_pos ⟨by omega, by simp; omega⟩]
          obtain ⟨m, hm⟩ : ∃ m, q - j = m + 1 := ⟨q - j - 1, by omega⟩
          rw [hm, List.getElem?_cons_succ]; congr 1; omega
        · rw [if_neg hq, List.getElem?_set]
          by_cases hqj : j = q
          · subst hqj; simp [hj]
          · rw [if_neg hqj, if_neg (by simp; omega)]

/-- Cells of a block of the heap are written. -/
theorem Sim.write {b k : Nat} {s : Bool} {rows rows' : List (List AV)} {p : Pl} {cc : Array Value} {el : TypeId} {o : Nat} {vs : List Value} (S : Sim w I φ h)
    (hb : Heap.get h b = some (.cells s k rows)) (hp : φ b = some p) (hg : w.heap[p.cb]? = some (.cells cc el (0, 0))) (hl : o + vs.length ≤ cc.size)
    (hlen : rows'.length = rows.length) (hk : ∀ e, e ∈ rows' → e.length = k)
    (hrow : ∀ i j c, rowAt rows' i j = some c → isCell c = true ∧ ((o ≤ p.d + i * k + j ∧ p.d + i * k + j < o + vs.length ∧ ∃ u, vs[p.d + i * k + j - o]? = some u ∧ VRep w I φ c u) ∨
      ((p.d + i * k + j < o ∨ o + vs.length ≤ p.d + i * k + j) ∧ rowAt rows i j = some c))) :
    Sim (w.setRow p.cb (arrW cc o vs)) I φ (Heap.put h b (.cells s k rows')) ∧ Ext w I φ h (w.setRow p.cb (arrW cc o vs)) I φ (Heap.put h b (.cells s k rows')) := by
  refine S.update hb trivial hp trivial rfl rfl rfl (by simp) (fun cb hne => setRow_other w p.cb cb _ hne) (fun hv => ?_)
  obtain ⟨h1, h2, h3, h4, h5, cc0, el0, h6, h7, h8⟩ := S.rep b _ p hb hp
  rw [hg] at h6; cases h6
  refine ⟨h1, by rw [hlen]; exact h2, h3, h4, hk, arrW cc o vs, el, setRow_heap w p.cb cc _ el _ hg, by rw [arrW_size hl]; exact h7, fun i j c e => ?_⟩
  obtain ⟨hc, hcase⟩ := hrow i j c e
  refine ⟨hc, ?_⟩
  rcases hcase with ⟨q1, q2, u, q3, q4⟩ | ⟨q1, q2⟩
  · exact ⟨u, by rw [arrW_get hl, if_pos ⟨q1, q2⟩]; exact q3, hv _ _ q4⟩
  · obtain ⟨_, u, q3, q4⟩ := h8 i j c q2
    exact ⟨u, by rw [arrW_get hl, if_neg (by omega)]; exact q3, hv _ _ q4⟩

theorem rowAt_set {rows : List (List AV)} {i i' j : Nat} {el : List AV} {c : AV} (h : rowAt (rows.set i el) i' j = some c) :
    (i' = i ∧ i < rows.length ∧ el[j]? = some c) ∨ (i' ≠ i ∧ rowAt rows i' j = some c) := by
  unfold rowAt at h
  rw [List.getElem?_set] at h
  by_cases e : i = i'
  · subst e
    rw [if_pos rfl] at h
    by_cases hl : i < rows.length
    · rw [if_pos hl] at h; exact .inl ⟨rfl, hl, h⟩
    · rw [if_neg hl] at h; cases h
  · rw [if_neg e] at h
    exact .inr ⟨fun h => e h.symm, h⟩

theorem rowAt_lt {rows : List (List AV)} {i j k : Nat} {c : AV} (hk : ∀ e ∈ rows, e.length = k) (h : rowAt rows i j = some c) : i < rows.length ∧ j < k := by
  unfold rowAt at h
  cases hr : rows[i]? with
  | none => rw [hr] at h; cases h
  | some el =>
    rw [hr] at h
    have := (List.getElem?_eq_some_iff.1 h).1
    rw [hk el (List.mem_of_getElem? hr)] at this
    exact ⟨(List.getElem?_eq_some_iff.1 hr).1, this⟩

theorem idx_lt {i i' j k : Nat} (h : i < i') (hj : j < k) : i * k + j < i' * k := by
  have : (i + 1) * k ≤ i' * k := Nat.mul_le_mul_right k h
  rw [Nat.add_mul] at this; omega

theorem doStore_ok {n : Nat} {ti : TI} {i : TypeInfo} {z : Value} {d : TypeDesc} (T : TyOK P n ti i z d) {x y : AV} {cx cy : Value} {o : Oper} {r : AV × Heap} (S : Sim w I φ h)
    (hx : VRep w I φ x cx) (hy : VRep w I φ y cy) (hr : (doStore ti x y).run id h = some r)
    (ho : execOp a.eval o = do Instr.storeAt n cx cy; pure .skip) : OpRes P a o w I φ h r.1 r.2 := by
  unfold doStore at hr
  cases x with
  | ptr b i' j =>
    obtain ⟨x, h1, h2⟩ := Eff.run_rd hr
    cases x with
    | cells s k rows =>
      simp only at h2
      unfold storeRows at h2
      cases hri : rows[i']? with
      | none => rw [hri] at h2; cases h2
      | some el =>
        rw [hri] at h2
        simp only at h2
        cases hb : (y.cells.length.beq ti.size && y.cells.all isCell && (0).blt ti.size) with
        | false => rw [hb] at h2; cases h2
        | true =>
          rw [hb] at h2
          simp only [cond_true] at h2
          cases hset : setAt el j y.cells with
          | none => rw [hset] at h2; cases h2
          | some el' =>
            rw [hset] at h2
            have h3 := Eff.run_wr h2
            have := Eff.run_ret h3
            subst this
            simp only [Bool.and_eq_true] at hb
            obtain ⟨hb, hb0⟩ := hb
            have hsz := Nat.eq_of_beq_eq_true hb.1
            have hpos : 0 < ti.size := Nat.le_of_ble_eq_true hb0
            have hne : y.cells ≠ [] := fun e => by rw [e] at hsz; simp at hsz; omega
            have hyc := hy.cells (notTuple hb.2)
            cases hx with
            | ptr hp =>
              rename_i p
              obtain ⟨q1, q2, q3, q4, q5, cc, ce, q6, q7, q8⟩ := S.rep b _ p h1 hp
              obtain ⟨s1, s2, s3⟩ := setAt_get _ _ _ _ hset
              have hel : el.length = k := q5 el (List.mem_of_getElem? hri)
              have hi' : i' < rows.length := (List.getElem?_eq_some_iff.1 hri).1
              have hcl : cy.cells.toList.length = y.cells.length := by simpa using hyc.1
              have hin : y.cells ≠ [] → p.d + i' * k + j + y.cells.length ≤ cc.size := by
                intro hne
                have a1 := s2 hne
                have a2 : (i' + 1) * k ≤ p.N * k := Nat.mul_le_mul_right k (by omega)
                rw [Nat.add_mul] at a2; omega
              have hin' := hin hne
              have hin2 : p.d + i' * k + j + cy.cells.toList.length ≤ cc.size := by rw [hcl]; exact hin'
              have hst := storeCells_run (P := P) q6 hin2 (hyc.oneCell hb.2)
              obtain ⟨S', X⟩ := S.write (rows' := rows.set i' el') h1 hp q6 hin2 (by simp) (fun e he => by
                rcases List.mem_or_eq_of_mem_set he with he | rfl
                · exact q5 e he
                · rw [s1, hel]) (fun i2 j2 c hc => by
                have a0 := s2 hne
                rw [hcl]
                rcases rowAt_set hc with ⟨rfl, _, hj⟩ | ⟨hni, hc⟩
                · rw [s3 j2] at hj
                  split at hj
                  · rename_i hq
                    obtain ⟨u, u1, u2⟩ := hyc.2 _ _ hj
                    refine ⟨List.all_eq_true.1 hb.2 _ (List.mem_of_getElem? hj), .inl ⟨by omega, by omega, u, ?_, u2⟩⟩
                    rw [show p.d + i2 * k + j2 - (p.d + i2 * k + j) = j2 - j by omega]; simpa using u1
                  · rename_i hq
                    have hold := rowAt_of hri hj
                    exact ⟨(q8 _ _ _ hold).1, .inr ⟨by omega, hold⟩⟩
                · refine ⟨(q8 _ _ _ hc).1, .inr ⟨?_, hc⟩⟩
                  obtain ⟨_, hjk⟩ := rowAt_lt q5 hc
                  rcases Nat.lt_or_gt_of_ne hni with hlt | hgt
                  · have := idx_lt hlt hjk; omega
                  · have := idx_lt (j := j + y.cells.length - 1) (k := k) hgt (by omega); omega)
              have hrun : (Instr.storeAt n (.pointer (some (cellAt p.cb (p.d + i' * p.k + j)))) cy).run P w = .ok () (w.setRow p.cb (arrW cc (p.d + i' * k + j) cy.cells.toList)) := by
                simp only [Instr.storeAt, Instr.sureAddr, storeVar, Sem.run_bind, Sem.run_pure, Result.andThen_ok, sizeOf_run T]
                rw [if_neg (by have := hyc.1; omega), q1]
                exact hst
              exact ⟨_, _, _, I, φ, by rw [ho]; exact run_unit hrun, .inr ⟨rfl, rfl⟩, .any, S', X⟩
    | _ => cases h2
  | _ => cases hr
end
end Go.AM
