/- The evaluator AM: operations on values alone. -/
import Derived.Test.YtakcafdfbnibkaaGreatDoorB1
import Derived.Laws.Sem
import Derived.Laws.StructEq
import Derived.Laws.Entries
import Derived.Calls
namespace Go.AM

theorem ilt_eq (a b : Int) : ilt a b = decide (a < b) := by
  cases a with
  | ofNat m => cases b with
    | ofNat n =>
      show Nat.blt m n = _
      by_cases h : m < n
      · have : Nat.blt m n = true := Nat.ble_eq_true_of_le h
        rw [this]; symm; simp; omega
      · have : Nat.blt m n = false := by
          cases hb : Nat.blt m n with
          | false => rfl
          | true => exact absurd (Nat.le_of_ble_eq_true hb) h
        rw [this]; symm; simp; omega
    | negSucc n => show false = _; symm; simp; omega
  | negSucc m => cases b with
    | ofNat n => show true = _; symm; simp; omega
    | negSucc n =>
      show Nat.blt n m = _
      by_cases h : n < m
      · have : Nat.blt n m = true := Nat.ble_eq_true_of_le h
        rw [this]; symm; simp; omega
      · have : Nat.blt n m = false := by
          cases hb : Nat.blt n m with
          | false => rfl
          | true => exact absurd (Nat.le_of_ble_eq_true hb) h
        rw [this]; symm; simp; omega

theorem ieq_eq (a b : Int) : ieq a b = (a == b) := by
  have key : ∀ m n : Nat, Nat.beq m n = decide (m = n) := fun m n => by
    by_cases h : m = n
    · subst h; simp
    · rw [decide_eq_false h]; cases hb : Nat.beq m n with
      | false => rfl
      | true => exact absurd (Nat.eq_of_beq_eq_true hb) h
  cases a with
  | ofNat m => cases b with
    | ofNat n => show Nat.beq m n = _; rw [key, Bool.eq_iff_iff]; simp; omega
    | negSucc n => show false = _; rw [Bool.eq_iff_iff]; simp
  | negSucc m => cases b with
    | ofNat n => show false = _; rw [Bool.eq_iff_iff]; simp
    | negSucc n => show Nat.beq n m = _; rw [key, Bool.eq_iff_iff]; simp; omega

theorem small_spec {n : Int} (h : small n = true) : -9223372036854775808 ≤ n ∧ n < 9223372036854775808 := by
  cases n with
  | ofNat m => have := Nat.le_of_ble_eq_true (show Nat.ble (m + 1) 9223372036854775808 = true from h); simp; omega
  | negSucc m => have := Nat.le_of_ble_eq_true (show Nat.ble (m + 1) 9223372036854775808 = true from h); omega

theorem wrapF_eq (k : IntKind) (n : Int) : wrapF k n = k.wrap n := by
  unfold wrapF
  cases h : (is64 k && small n) with
  | false => rfl
  | true =>
    simp only [Bool.and_eq_true] at h
    obtain ⟨h1, h2⟩ := h
    obtain ⟨h3, h4⟩ := small_spec h2
    cases k <;> simp [is64] at h1
    simp only [cond_true, IntKind.wrap, IntKind.bits, IntKind.signed]
    simp
    split <;> omega

theorem sameKind_eq {k k' : IntKind} (h : sameKind k k' = true) : k = k' := by
  cases k <;> cases k' <;> first | rfl | (simp [sameKind, kindNo] at h)

structure EnvOK (E : Env) (P : Program) : Prop where
  ty : ∀ t ti, E.ty t = some ti → tiOf P t = some ti
  fn : ∀ f fn, E.fn f = some fn → bodied P f = some fn
  meth : ∀ t m f, E.meth t m = some f → methOf P t m = some f

section
variable {E : Env} {P : Program} {w : World} {I : Nat → Prop} {φ : Phi}

theorem ofConst_rep {v : Value} {x : AV} (h : ofConst v = some x) : VRep w I φ x v := by
  unfold ofConst at h
  split at h <;> first | (cases h; constructor; done) | (cases h; exact .str _ rfl) | cases h

theorem evalOp_rep {t : Tmps} {a : Act} {x : Operand} {v : AV} (ht : TRep w I φ t a.tmps) (h : evalOp t x = some v) : VRep w I φ v (a.eval x) := by
  cases x with
  | tmp i => cases h; exact ht.1 i
  | const c => exact ofConst_rep h
  | global g =>
    have h : globV g = some v := h
    unfold globV at h
    split at h
    · rename_i k l hg
      cases h
      obtain ⟨g1, g2⟩ := ht.2 g k l hg
      have row : ∀ i j c, rowAt [l.map (AV.int k)] i j = some c → i = 0 ∧ ∃ n, l[j]? = some n ∧ c = .int k n := by
        intro i j c e
        unfold rowAt at e
        cases i with
        | succ i => simp at e
        | zero =>
          simp only [List.getElem?_cons_zero, List.getElem?_map] at e
          cases hj : l[j]? with
          | none => rw [hj] at e; cases e
          | some n => rw [hj] at e; cases e; exact ⟨rfl, n, rfl, rfl⟩
      have := VRep.iptr (w := w) (I := I) (φ := φ) (row := [l.map (AV.int k)]) (i := 0) (j := 0) (cb := g) (d := 0) (k := l.length) (fun i j => (w.cell? (cellAt g (0 + i * l.length + j))).getD _root_.Go.undef)
        (fun e he => by simp at he; subst he; simp) (fun i j c e => by
          obtain ⟨rfl, n, h1, rfl⟩ := row i j c e
          refine ⟨rfl, g1, ?_⟩
          have := g2 j n h1
          simp only [Nat.zero_mul, Nat.zero_add, Nat.add_zero, this, Option.getD_some]) (fun i j c e => by
          obtain ⟨rfl, n, h1, rfl⟩ := row i j c e
          have := g2 j n h1
          simp only [Nat.zero_mul, Nat.zero_add, Nat.add_zero, this, Option.getD_some]
          exact .int _ _)
      show VRep w I φ (.iptr [l.map (AV.int k)] 0 0) (.pointer (some (cellAt g 0)))
      simpa using this
    · cases h
  | func f => cases h; exact .func #[] #[] rfl rfl (fun i x e => by simp at e) (fun i x e => by simp at e)

structure TyOK (P : Program) (t : Nat) (ti : TI) (i : TypeInfo) (z : Value) (d : TypeDesc) : Prop where
  info : P.info? t = some i
  und : P.underlying t = some d
  zero : i.zero = some z
  cells : constAll z.cells.toList = some ti.zero
  size : ti.size = i.size
  bytes : ti.bytes = i.bytes
  kd : ti.kd = kdOf P t
  agg : ti.agg = aggD d
  shape : aggV z = ti.agg

theorem EnvOK.get (hE : EnvOK E P) {t : Nat} {ti : TI} (h : E.ty t = some ti) : ∃ i z d, TyOK P t ti i z d := by
  have h := hE.ty t ti h
  unfold tiOf at h
  split at h
  · rename_i i hi
    split at h
    · rename_i d hd
      split at h
      · rename_i z hz
        split at h
        · rename_i cs hc
          cases hb : (aggV z == aggD d) with
          | false => rw [hb] at h; cases h
          | true =>
            rw [hb] at h
            cases h
            exact ⟨i, z, d, hi, hd, hz, hc, rfl, rfl, rfl, rfl, by simpa using hb⟩
        · cases h
      · cases h
    · cases h
  · cases h

/-- What the kind tells of the underlying type. -/
theorem kd_int {t : Nat} {k : IntKind} (h : kdOf P t = .int k) : P.underlying t = some (.int k) := by
  unfold kdOf at h; split at h <;> simp_all
theorem kd_bool {t : Nat} (h : kdOf P t = .bool) : P.underlying t = some .bool := by
  unfold kdOf at h; split at h <;> simp_all
theorem kd_str {t : Nat} (h : kdOf P t = .str) : P.underlying t = some .string := by
  unfold kdOf at h; split at h <;> simp_all
theorem kd_ptr {t e : Nat} (h : kdOf P t = .ptr e) : P.underlying t = some (.pointer e) := by
  unfold kdOf at h; split at h <;> simp_all
theorem kd_slice {t e : Nat} (h : kdOf P t = .slice e) : P.underlying t = some (.slice e) := by
  unfold kdOf at h; split at h <;> simp_all
theorem kd_map {t k e : Nat} (h : kdOf P t = .map k e) : P.underlying t = some (.map k e) := by
  unfold kdOf at h; split at h <;> simp_all
theorem kd_array {t n e : Nat} (h : kdOf P t = .array n e) : P.underlying t = some (.array n e) := by
  unfold kdOf at h; split at h <;> simp_all
theorem kd_struct {t : Nat} {fs : List (Nat × Nat)} {b : Bool} (h : kdOf P t = .struct fs b) :
    ∃ gs : Array Field, P.underlying t = some (.struct gs) ∧ fs = gs.toList.map (fun f => (f.offset, f.type)) ∧ b = flatB P t gs := by
  unfold kdOf at h; split at h <;> simp_all
theorem kd_func {t : Nat} (h : kdOf P t = .func) : ∃ a b c, P.underlying t = some (.func a b c) := by
  unfold kdOf at h; split at h <;> simp_all
theorem kd_iface {t : Nat} (h : kdOf P t = .iface) : ∃ a, P.underlying t = some (.interface a) := by
  unfold kdOf at h; split at h <;> simp_all

theorem intBin_run {op : BinOp} {k : IntKind} {a b : Int} {v : AV} (xt : Nat) (hs : isShift op = false) (h : intBin op k a b = some v) :
    ∃ cv, (Go.binOp op xt (.int k a) (.int k b)).run P w = .ok cv w ∧ VRep w I φ v cv := by
  cases op <;> simp [isShift] at hs <;> simp only [intBin, ieq_eq, ilt_eq, wrapF_eq, bitsOp] at h
  case quo =>
    by_cases hb : b = 0
    · subst hb; simp at h
    · have hb' : (b == 0) = false := by simpa using hb
      rw [hb'] at h; cases h
      exact ⟨_, by simp [Go.binOp, Op.intDiv, hb] <;> rfl, .int _ _⟩
  case rem =>
    by_cases hb : b = 0
    · subst hb; simp at h
    · have hb' : (b == 0) = false := by simpa using hb
      rw [hb'] at h; cases h
      exact ⟨_, by simp [Go.binOp, Op.intDiv, hb] <;> rfl, .int _ _⟩
  all_goals (cases h; first
    | exact ⟨_, by simp only [Go.binOp, ne_eq, not_true_eq_false, if_false]; rfl, .int _ _⟩
    | (refine ⟨_, by simp only [Go.binOp, ne_eq, not_true_eq_false, if_false]; rfl, ?_⟩; exact .bool _)
    | (refine ⟨_, by simp only [Go.binOp, ne_eq, not_true_eq_false, if_false]; rfl, ?_⟩
       have e : ∀ p q : Bool, p = q → VRep w I φ (.bool p) (.bool q) := fun p q h => h ▸ .bool p
       apply e; rw [Bool.eq_iff_iff]; simp <;> omega))

theorem shiftOp_run {op : BinOp} {k k' : IntKind} {a b : Int} {v : AV} (xt : Nat) (h : shiftOp op k a b = some v) :
    ∃ cv, (Go.binOp op xt (.int k a) (.int k' b)).run P w = .ok cv w ∧ VRep w I φ v cv := by
  unfold shiftOp at h
  split at h
  · cases h
  · rename_i hb
    cases op <;> simp only [wrapF_eq] at h <;> first | cases h | skip
    · exact ⟨_, by simp [Go.binOp, Op.shift, hb] <;> rfl, .int _ _⟩
    · exact ⟨_, by simp [Go.binOp, Op.shift, hb] <;> rfl, .int _ _⟩

theorem intOp_run {op : BinOp} {k k' : IntKind} {a b : Int} {v : AV} (xt : Nat) (h : intOp op k k' a b = some v) :
    ∃ cv, (Go.binOp op xt (.int k a) (.int k' b)).run P w = .ok cv w ∧ VRep w I φ v cv := by
  unfold intOp at h
  cases hs : isShift op with
  | true => rw [hs] at h; exact shiftOp_run xt h
  | false =>
    rw [hs] at h; simp only [cond_false] at h
    cases hk : sameKind k k' with
    | false => rw [hk] at h; cases h
    | true => rw [hk] at h; have := sameKind_eq hk; subst this; exact intBin_run xt hs h

theorem vrep_bool {p q : Bool} (h : p = q) : VRep w I φ (.bool p) (.bool q) := h ▸ .bool p

theorem strOp_run {op : BinOp} {x y : ByteArray} {v : AV} (xt : Nat) (h : strOp op x.data.toList y.data.toList = some v) :
    ∃ cv, (Go.binOp op xt (.string x) (.string y)).run P w = .ok cv w ∧ VRep w I φ v cv := by
  cases op <;> simp only [strOp] at h <;> first | cases h | skip
  case add =>
    cases hb : (x.data.toList.length + y.data.toList.length).blt (2 ^ 40) with
    | false => rw [hb] at h; cases h
    | true =>
      rw [hb] at h; cases h
      have hb := Nat.le_of_ble_eq_true hb
      have hx : x.data.toList.length = x.size := by rw [Array.length_toList]; rfl
      have hy : y.data.toList.length = y.size := by rw [Array.length_toList]; rfl
      have hn : ¬ (((x.size + y.size : Nat) : Int) > IntKind.i64.max) := by
        have : IntKind.i64.max = 9223372036854775807 := by decide
        rw [this]; omega
      refine ⟨.string (x ++ y), by simp only [Go.binOp, Op.stringOp, if_neg hn]; rfl, .str _ ?_⟩
      simp
  all_goals
    refine ⟨_, by simp only [Go.binOp, Op.stringOp]; rfl, ?_⟩
    apply vrep_bool
    simp [ByteArray.toList_eq]

theorem eqCell_run {kd : Kd} {t : Nat} {x y : AV} {cx cy : Value} {b : Bool} (d : Nat) (hk : kdOf P t = kd) (h : eqCell kd x y = some b)
    (hx : VRep w I φ x cx) (hy : VRep w I φ y cy) : (Op.equalIn (d + 1) t cx cy).run P w = .ok b w := by
  cases kd with
  | int k0 => cases x with
    | int k a => cases y with
      | int k' c =>
        simp only [eqCell] at h
        cases hkk : sameKind k k' with
        | false => rw [hkk] at h; cases h
        | true =>
          rw [hkk] at h; have := sameKind_eq hkk; subst this; cases h
          cases hx; cases hy
          rw [run_equalIn_int w d t _ _ _ _ (kd_int hk), ieq_eq]
      | _ => cases h
    | _ => cases h
  | bool => cases x with
    | bool a => cases y with
      | bool c =>
        cases h; cases hx; cases hy
        exact run_equalIn_bool' w d t _ _ (kd_bool hk)
      | _ => cases h
    | _ => cases h
  | str => cases x with
    | str a => cases y with
      | str c =>
        cases h; cases hx with
        | str s hs => cases hy with
          | str s' hs' =>
            rw [run_equalIn_string w d t _ _ (kd_str hk), ByteArray.toList_eq, ByteArray.toList_eq, hs, hs']
      | _ => cases h
    | _ => cases h
  | _ => cases h

theorem getD_getElem? {α : Type} {a : Array α} {i : Nat} {d x : α} (h : a[i]? = some x) : a.getD i d = x := by
  simp [Array.getD_eq_getD_getElem?, h]

theorem eqCells_run (hE : EnvOK E P) {xs ys : Array Value} (d : Nat) : ∀ (fs : List Field) (n : Nat) (as bs : List AV) (r : Bool),
    (∀ i f, fs[i]? = some f → f.offset = n + i ∧ f.name ≠ "_" ∧ scalar P f.type = true) →
    (∀ i x, as[i]? = some x → ∃ v, xs[n + i]? = some v ∧ VRep w I φ x v) → (∀ i x, bs[i]? = some x → ∃ v, ys[n + i]? = some v ∧ VRep w I φ x v) →
    eqCells E (fs.map fun f => (f.offset, f.type)) as bs = some r → (Op.eqFields (d + 1) xs ys fs).run P w = .ok r w
  | [], n, [], [], r, _, _, _, h => by cases h; simp [Op.eqFields]
  | [], n, [], _ :: _, r, _, _, _, h => by cases h
  | [], n, _ :: _, _, r, _, _, _, h => by cases h
  | f :: fs, n, [], _, r, _, _, _, h => by cases h
  | f :: fs, n, _ :: _, [], r, _, _, _, h => by cases h
  | f :: fs, n, a :: as, b :: bs, r, hf, ha, hb, h => by
    obtain ⟨ho, hn, hs⟩ := hf 0 f rfl
    obtain ⟨va, hva, ra⟩ := ha 0 a rfl
    obtain ⟨vb, hvb, rb⟩ := hb 0 b rfl
    simp only [List.map_cons, eqCells] at h
    cases hty : E.ty f.type with
    | none => rw [hty] at h; cases h
    | some fi =>
      rw [hty] at h
      simp only at h
      cases hc : eqCell fi.kd a b with
      | none => rw [hc] at h; cases h
      | some e =>
        rw [hc] at h
        simp only at h
        obtain ⟨i, z, _, ht⟩ := hE.get hty
        have hrun := eqCell_run (w := w) d ht.kd.symm hc ra rb
        have hp : ∀ (cs : Array Value) (v : Value), cs[n + 0]? = some v → (part f.type cs f.offset).run P w = .ok v w := by
          intro cs v hv
          unfold scalar at hs
          have hag : (isAgg f.type).run P w = .ok false w := by
            unfold isAgg
            split at hs <;> rename_i hu <;> first | (cases hs; done) | simp [run_underlying hu]
          simp only [part, Sem.run_bind, hag, Result.andThen_ok, Bool.false_eq_true, if_false, ho, hv, Sem.run_pure]
        simp only [Op.eqFields, if_pos hn, Sem.run_bind, hp xs va hva, hp ys vb hvb, Result.andThen_ok, hrun]
        cases e with
        | false => cases h; simp
        | true =>
          simp only [cond_true] at h
          simp only [Bool.not_true, Bool.false_eq_true, if_false]
          refine eqCells_run hE d fs (n + 1) as bs r ?_ ?_ ?_ h
          · intro i f' e
            obtain ⟨h1, h2⟩ := hf (i + 1) f' (by simpa using e)
            exact ⟨by omega, h2⟩
          · intro i x e
            obtain ⟨v, h1, h2⟩ := ha (i + 1) x (by simpa using e)
            exact ⟨v, by rw [← h1]; congr 1; omega, h2⟩
          · intro i x e
            obtain ⟨v, h1, h2⟩ := hb (i + 1) x (by simpa using e)
            exact ⟨v, by rw [← h1]; congr 1; omega, h2⟩

theorem agg_cells {a : List AV} {va : Array Value} (hs : va.size = a.length) (hr : ∀ (i : Nat) (x : AV), a[i]? = some x → VRep w I φ x (va.getD i _root_.Go.undef)) :
    ∀ (i : Nat) (x : AV), a[i]? = some x → ∃ v, va[i]? = some v ∧ VRep w I φ x v := by
  intro i x e
  have hi : i < va.size := by rw [hs]; exact (List.getElem?_eq_some_iff.1 e).1
  refine ⟨va[i], by simp [hi], ?_⟩
  have := hr i x e
  simpa [Array.getD, hi] using this

theorem eqNil_cases {n s : AV → Bool} {x y : AV} {b : Bool} (h : eqNil n s x y = some b) :
    (n x = true ∧ n y = true ∧ b = true) ∨ (n x = true ∧ s y = true ∧ b = false) ∨ (s x = true ∧ n y = true ∧ b = false) := by
  unfold eqNil at h
  cases h1 : n x <;> cases h2 : n y <;> cases h3 : s x <;> cases h4 : s y <;> rw [h1] at h <;> simp_all

theorem rep_nilP {x : AV} {v : Value} (h : nilP x = true) (r : VRep w I φ x v) : v = .pointer none := by
  cases x <;> first | (cases r; rfl) | (simp [nilP] at h; done)
theorem rep_isPtr {x : AV} {v : Value} (h : isPtr x = true) (r : VRep w I φ x v) : ∃ a, v = .pointer (some a) := by
  cases x <;> first | (cases r; exact ⟨_, rfl⟩) | (simp [isPtr] at h; done)
theorem rep_nilS {x : AV} {v : Value} (h : nilS x = true) (r : VRep w I φ x v) : v = .slice none 0 0 := by
  cases x <;> first | (cases r; rfl) | (simp [nilS] at h; done)
theorem rep_isSl {x : AV} {v : Value} (h : isSl x = true) (r : VRep w I φ x v) : ∃ a l c, v = .slice (some a) l c := by
  cases x <;> first | (cases r; exact ⟨_, _, _, rfl⟩) | (simp [isSl] at h; done)
theorem rep_nilM {x : AV} {v : Value} (h : nilM x = true) (r : VRep w I φ x v) : v = .map none := by
  cases x <;> first | (cases r; rfl) | (simp [nilM] at h; done)
theorem rep_isMap {x : AV} {v : Value} (h : isMap x = true) (r : VRep w I φ x v) : ∃ a, v = .map (some a) := by
  cases x <;> first | (cases r; exact ⟨_, rfl⟩) | (simp [isMap] at h; done)
theorem rep_nilF {x : AV} {v : Value} (h : nilF x = true) (r : VRep w I φ x v) : v = .nilFunc := by
  cases x <;> first | (cases r; rfl) | (simp [nilF] at h; done)
theorem rep_isFunc {x : AV} {v : Value} (h : isFunc x = true) (r : VRep w I φ x v) : ∃ f a b, v = .func f a b := by
  cases x <;> first | (cases r; exact ⟨_, _, _, rfl⟩) | (simp [isFunc] at h; done)

theorem eqn_ptr0 {e : Nat} {t : Nat} (d : Nat) (hu : P.underlying t = some (.pointer e)) : (Op.equalIn (d + 1) t (.pointer none) (.pointer none)).run P w = .ok true w := by
  simp [Op.equalIn, run_underlying hu]
theorem eqn_ptr1 {e : Nat} {a : Addr} {t : Nat} (d : Nat) (hu : P.underlying t = some (.pointer e)) : (Op.equalIn (d + 1) t (.pointer none) (.pointer (some a))).run P w = .ok false w := by
  simp [Op.equalIn, run_underlying hu]
theorem eqn_ptr2 {e : Nat} {a : Addr} {t : Nat} (d : Nat) (hu : P.underlying t = some (.pointer e)) : (Op.equalIn (d + 1) t (.pointer (some a)) (.pointer none)).run P w = .ok false w := by
  simp [Op.equalIn, run_underlying hu]
theorem eqn_sl0 {e : Nat} {t : Nat} (d : Nat) (hu : P.underlying t = some (.slice e)) : (Op.equalIn (d + 1) t (.slice none 0 0) (.slice none 0 0)).run P w = .ok true w := by
  simp [Op.equalIn, run_underlying hu]
theorem eqn_sl1 {e l c : Nat} {a : Addr} {t : Nat} (d : Nat) (hu : P.underlying t = some (.slice e)) : (Op.equalIn (d + 1) t (.slice none 0 0) (.slice (some a) l c)).run P w = .ok false w := by
  simp [Op.equalIn, run_underlying hu]
theorem eqn_sl2 {e l c : Nat} {a : Addr} {t : Nat} (d : Nat) (hu : P.underlying t = some (.slice e)) : (Op.equalIn (d + 1) t (.slice (some a) l c) (.slice none 0 0)).run P w = .ok false w := by
  simp [Op.equalIn, run_underlying hu]
theorem eqn_map0 {k e : Nat} {t : Nat} (d : Nat) (hu : P.underlying t = some (.map k e)) : (Op.equalIn (d + 1) t (.map none) (.map none)).run P w = .ok true w := by
  simp [Op.equalIn, run_underlying hu]
theorem eqn_map1 {k e a : Nat} {t : Nat} (d : Nat) (hu : P.underlying t = some (.map k e)) : (Op.equalIn (d + 1) t (.map none) (.map (some a))).run P w = .ok false w := by
  simp [Op.equalIn, run_underlying hu]
theorem eqn_map2 {k e a : Nat} {t : Nat} (d : Nat) (hu : P.underlying t = some (.map k e)) : (Op.equalIn (d + 1) t (.map (some a)) (.map none)).run P w = .ok false w := by
  simp [Op.equalIn, run_underlying hu]
theorem eqn_fn0 {p q : Array Nat} {b : Bool} {t : Nat} (d : Nat) (hu : P.underlying t = some (.func p q b)) : (Op.equalIn (d + 1) t (.nilFunc) (.nilFunc)).run P w = .ok true w := by
  simp [Op.equalIn, run_underlying hu]
theorem eqn_fn1 {p q : Array Nat} {b : Bool} {f : Fn} {x y : Array Value} {t : Nat} (d : Nat) (hu : P.underlying t = some (.func p q b)) : (Op.equalIn (d + 1) t (.nilFunc) (.func f x y)).run P w = .ok false w := by
  simp [Op.equalIn, run_underlying hu]
theorem eqn_fn2 {p q : Array Nat} {b : Bool} {f : Fn} {x y : Array Value} {t : Nat} (d : Nat) (hu : P.underlying t = some (.func p q b)) : (Op.equalIn (d + 1) t (.func f x y) (.nilFunc)).run P w = .ok false w := by
  simp [Op.equalIn, run_underlying hu]

theorem eqVal_run (hE : EnvOK E P) {ti : TI} {t : Nat} {x y : AV} {cx cy : Value} {b : Bool} (d : Nat) (hk : ti.kd = kdOf P t) (h : eqVal E ti x y = some b)
    (hx : VRep w I φ x cx) (hy : VRep w I φ y cy) : (Op.equalIn (d + 2) t cx cy).run P w = .ok b w := by
  unfold eqVal at h
  cases hk' : ti.kd with
  | int k => rw [hk'] at h; exact eqCell_run (d + 1) (by rw [← hk, hk']) h hx hy
  | bool => rw [hk'] at h; exact eqCell_run (d + 1) (by rw [← hk, hk']) h hx hy
  | str => rw [hk'] at h; exact eqCell_run (d + 1) (by rw [← hk, hk']) h hx hy
  | ptr e' =>
    rw [hk'] at h
    have hu := kd_ptr (hk.symm.trans hk')
    rcases eqNil_cases h with ⟨h1, h2, rfl⟩ | ⟨h1, h2, rfl⟩ | ⟨h1, h2, rfl⟩
    · rw [rep_nilP h1 hx, rep_nilP h2 hy]; exact eqn_ptr0 (d + 1) hu
    · obtain ⟨a, e⟩ := rep_isPtr h2 hy; rw [rep_nilP h1 hx, e]; exact eqn_ptr1 (d + 1) hu
    · obtain ⟨a, e⟩ := rep_isPtr h1 hx; rw [rep_nilP h2 hy, e]; exact eqn_ptr2 (d + 1) hu
  | slice e' =>
    rw [hk'] at h
    have hu := kd_slice (hk.symm.trans hk')
    rcases eqNil_cases h with ⟨h1, h2, rfl⟩ | ⟨h1, h2, rfl⟩ | ⟨h1, h2, rfl⟩
    · rw [rep_nilS h1 hx, rep_nilS h2 hy]; exact eqn_sl0 (d + 1) hu
    · obtain ⟨a, l, c, e⟩ := rep_isSl h2 hy; rw [rep_nilS h1 hx, e]; exact eqn_sl1 (d + 1) hu
    · obtain ⟨a, l, c, e⟩ := rep_isSl h1 hx; rw [rep_nilS h2 hy, e]; exact eqn_sl2 (d + 1) hu
  | map e' f' =>
    rw [hk'] at h
    have hu := kd_map (hk.symm.trans hk')
    rcases eqNil_cases h with ⟨h1, h2, rfl⟩ | ⟨h1, h2, rfl⟩ | ⟨h1, h2, rfl⟩
    · rw [rep_nilM h1 hx, rep_nilM h2 hy]; exact eqn_map0 (d + 1) hu
    · obtain ⟨a, e⟩ := rep_isMap h2 hy; rw [rep_nilM h1 hx, e]; exact eqn_map1 (d + 1) hu
    · obtain ⟨a, e⟩ := rep_isMap h1 hx; rw [rep_nilM h2 hy, e]; exact eqn_map2 (d + 1) hu
  | func =>
    rw [hk'] at h
    obtain ⟨_, _, _, hu⟩ := kd_func (hk.symm.trans hk')
    rcases eqNil_cases h with ⟨h1, h2, rfl⟩ | ⟨h1, h2, rfl⟩ | ⟨h1, h2, rfl⟩
    · rw [rep_nilF h1 hx, rep_nilF h2 hy]; exact eqn_fn0 (d + 1) hu
    · obtain ⟨f, a, c, e⟩ := rep_isFunc h2 hy; rw [rep_nilF h1 hx, e]; exact eqn_fn1 (d + 1) hu
    · obtain ⟨f, a, c, e⟩ := rep_isFunc h1 hx; rw [rep_nilF h2 hy, e]; exact eqn_fn2 (d + 1) hu
  | struct fs flat =>
    rw [hk'] at h
    cases flat with
    | false => cases h
    | true =>
      cases x with
      | agg as => cases y with
        | agg bs =>
          simp only [cond_true, eqAgg] at h
          obtain ⟨gs, hu, hfs, hfl⟩ := kd_struct (hk.symm.trans hk')
          subst hfs
          have hfl := hfl.symm
          unfold flatB at hfl
          simp only [Bool.and_eq_true, Bool.not_eq_true', beq_iff_eq, List.all_eq_true] at hfl
          obtain ⟨⟨⟨h1, h2⟩, h3⟩, h4⟩ := hfl
          cases hx with
          | agg va s1 r1 => cases hy with
            | agg vb s2 r2 =>
              have hfo : P.fieldsOf t = gs := by simp [Program.fieldsOf, hu]
              rw [run_equalIn_struct w (d + 1) t va vb (by rw [hfo]; exact hu) h2, hfo]
              refine eqCells_run (I := I) (φ := φ) hE d gs.toList 0 as bs b ?_ ?_ ?_ h
              · intro i f e
                have hm := h3 f (List.mem_of_getElem? e)
                refine ⟨?_, by simpa using hm.1, hm.2⟩
                have : (gs.toList.map (fun f => f.offset))[i]? = some f.offset := by rw [List.getElem?_map, e]; rfl
                rw [h4] at this
                have hi := (List.getElem?_eq_some_iff.1 this).1
                simp at hi
                rw [List.getElem?_range (by simpa using hi)] at this
                cases this; omega
              · intro i x e; simpa using agg_cells s1 r1 i x e
              · intro i x e; simpa using agg_cells s2 r2 i x e
        | _ => cases h
      | _ => cases h
  | _ => rw [hk'] at h; cases h
theorem eqGuard_noneq {op : BinOp} (t : Nat) (x y : Operand) (a b : Value) (h : (op = .eql ∨ op = .neq) → False) : (eqGuard op t x y a b).run P w = .ok () w := by
  cases op <;> first | (simp [eqGuard]; done) | exact absurd (.inl rfl) h | exact absurd (.inr rfl) h

theorem eqGuard_other {op : BinOp} (t : Nat) (x y : Operand) (a b : Value) (h1 : a ≠ .nilIface) (h2 : (∀ v, a ≠ .agg v)) : (eqGuard op t x y a b).run P w = .ok () w := by
  cases op <;> first | (simp [eqGuard]; done) | skip
  all_goals (unfold eqGuard; simp only [Bool.not_true, Bool.false_eq_true, if_false]; split <;> first | (exact absurd rfl h1) | (exact absurd rfl (h2 _)) | rfl)

theorem eqBin_run (hE : EnvOK E P) {op : BinOp} {xt : Nat} {x y v : AV} {cx cy : Value} (h : eqBin E op xt x y = some v)
    (hx : VRep w I φ x cx) (hy : VRep w I φ y cy) : ∃ b, (op = .eql ∧ v = .bool b ∨ op = .neq ∧ v = .bool (!b)) ∧ (Op.equal xt cx cy).run P w = .ok b w := by
  unfold eqBin at h
  cases hty : E.ty xt with
  | none => rw [hty] at h; cases h
  | some ti =>
    rw [hty] at h
    simp only at h
    cases he : eqVal E ti x y with
    | none => rw [he] at h; cases h
    | some b =>
      rw [he] at h
      obtain ⟨i, z, _, ht⟩ := hE.get hty
      have hr : (Op.equal xt cx cy).run P w = .ok b w := by
        unfold Op.equal Op.maxDepth
        exact eqVal_run hE 9998 ht.kd he hx hy
      refine ⟨b, ?_, hr⟩
      cases op <;> simp only at h <;> first | cases h | skip
      · exact .inl ⟨rfl, rfl⟩
      · exact .inr ⟨rfl, rfl⟩

/-- Two values of other kinds than numbers and strings: their comparison. -/
theorem binOp_eql_run {xt : Nat} {cx cy : Value} {b : Bool} (hr : (Op.equal xt cx cy).run P w = .ok b w) (h1 : ∀ k n, cx ≠ .int k n) (h2 : ∀ s, cx ≠ .string s)
    (h3 : ∀ k n, cx ≠ .float k n) (h4 : ∀ k n m, cx ≠ .complex k n m) :
    (Go.binOp .eql xt cx cy).run P w = .ok (.bool b) w ∧ (Go.binOp .neq xt cx cy).run P w = .ok (.bool !b) w := by
  constructor
  · unfold Go.binOp
    split <;> simp_all
  · unfold Go.binOp
    split <;> simp_all

theorem eqVal_agg {ti : TI} {as : List AV} {y : AV} {b : Bool} (h : eqVal E ti (.agg as) y = some b) : ∃ fs bs, ti.kd = .struct fs true ∧ y = .agg bs := by
  unfold eqVal at h
  cases hk : ti.kd with
  | struct fs flat =>
    rw [hk] at h
    cases flat with
    | false => cases h
    | true => cases y with
      | agg bs => exact ⟨fs, bs, rfl, rfl⟩
      | _ => cases h
  | _ => rw [hk] at h; cases h

theorem binOp_run (hE : EnvOK E P) {op : BinOp} {xt : Nat} {x y v : AV} {cx cy : Value} (xo yo : Operand) (h : binOp E op xt x y = some v)
    (hx : VRep w I φ x cx) (hy : VRep w I φ y cy) :
    ∃ cv, (do eqGuard op xt xo yo cx cy; Go.binOp op xt cx cy : Sem Value).run P w = .ok cv w ∧ VRep w I φ v cv := by
  have fin : ∀ (cx : Value), (eqGuard op xt xo yo cx cy).run P w = .ok () w → (∃ cv, (Go.binOp op xt cx cy).run P w = .ok cv w ∧ VRep w I φ v cv) →
      ∃ cv, (do eqGuard op xt xo yo cx cy; Go.binOp op xt cx cy : Sem Value).run P w = .ok cv w ∧ VRep w I φ v cv := by
    intro cx h1 ⟨cv, h2, h3⟩
    exact ⟨cv, by simp only [Sem.run_bind, h1, Result.andThen_ok, h2], h3⟩
  have other : ∀ (cx : Value), VRep w I φ x cx → eqBin E op xt x y = some v → cx ≠ .nilIface → (∀ v, cx ≠ .agg v) → (∀ k n, cx ≠ .int k n) → (∀ s, cx ≠ .string s) →
      (∀ k n, cx ≠ .float k n) → (∀ k n m, cx ≠ .complex k n m) →
      ∃ cv, (do eqGuard op xt xo yo cx cy; Go.binOp op xt cx cy : Sem Value).run P w = .ok cv w ∧ VRep w I φ v cv := by
    intro cx hx h h1 h2 h3 h4 h5 h6
    obtain ⟨b, ho, hr⟩ := eqBin_run hE h hx hy
    obtain ⟨r1, r2⟩ := binOp_eql_run hr h3 h4 h5 h6
    refine fin cx (eqGuard_other xt xo yo cx cy h1 h2) ?_
    rcases ho with ⟨rfl, rfl⟩ | ⟨rfl, rfl⟩
    · exact ⟨_, r1, .bool _⟩
    · exact ⟨_, r2, .bool _⟩
  cases x with
  | int k a =>
    cases y with
    | int k' b =>
      cases hx; cases hy
      exact fin _ (eqGuard_other xt xo yo _ _ (by simp) (by simp)) (intOp_run xt h)
    | _ => cases h
  | str a =>
    cases y with
    | str b =>
      cases hx with
      | str s hs => cases hy with
        | str s' hs' =>
          subst hs; subst hs'
          exact fin _ (eqGuard_other xt xo yo _ _ (by simp) (by simp)) (strOp_run xt h)
    | _ => cases h
  | agg as =>
    obtain ⟨b, ho, hr⟩ := eqBin_run hE h hx hy
    have hq : ∃ ti b, E.ty xt = some ti ∧ eqVal E ti (.agg as) y = some b := by
      have h' : eqBin E op xt (.agg as) y = some v := h
      unfold eqBin at h'
      cases hty : E.ty xt with
      | none => rw [hty] at h'; cases h'
      | some ti =>
        rw [hty] at h'
        simp only at h'
        cases he : eqVal E ti (.agg as) y with
        | none => rw [he] at h'; cases h'
        | some b => exact ⟨ti, b, rfl, he⟩
    obtain ⟨ti, b', hty, he⟩ := hq
    obtain ⟨fs, bs, hk, rfl⟩ := eqVal_agg he
    obtain ⟨i, z, _, ht⟩ := hE.get hty
    obtain ⟨gs, hu, hfs, hfl⟩ := kd_struct (ht.kd.symm.trans hk)
    have hfl := hfl.symm
    unfold flatB at hfl
    simp only [Bool.and_eq_true, Bool.not_eq_true'] at hfl
    cases hx with
    | agg va s1 r1 => cases hy with
      | agg vb s2 r2 =>
        have hg := run_eqGuard_agg (w := w) op xt xo yo va vb hfl.1.1.1
        obtain ⟨q1, q2⟩ := binOp_eql_run hr (by simp) (by simp) (by simp) (by simp)
        refine fin _ hg ?_
        rcases ho with ⟨rfl, rfl⟩ | ⟨rfl, rfl⟩
        · exact ⟨_, q1, .bool _⟩
        · exact ⟨_, q2, .bool _⟩
  | iface t x => cases h
  | niliface => cases h
  | tuple vs => cases h
  | _ => cases hx <;> exact other _ (by constructor <;> assumption) h (by simp) (by simp) (by simp) (by simp) (by simp) (by simp)

theorem unOp_run {op : UnOp} {x v : AV} {cx : Value} (h : unOp op x = some v) (hx : VRep w I φ x cx) : ∃ cv, (Op.unary op cx).run P w = .ok cv w ∧ VRep w I φ v cv := by
  cases x with
  | int k n =>
    cases hx
    cases op <;> simp only [unOp, wrapF_eq, bitsOp] at h <;> first | cases h | skip
    · exact ⟨_, by simp only [Op.unary, Op.intArith]; rfl, .int _ _⟩
    · exact ⟨_, by simp only [Op.unary, Op.intBits]; rfl, .int _ _⟩
  | bool b =>
    cases hx
    cases op <;> simp only [unOp] at h <;> first | cases h | skip
    exact ⟨_, by simp only [Op.unary]; rfl, .bool _⟩
  | _ => cases op <;> cases h

theorem convert_run (hE : EnvOK E P) {s d : Nat} {x v : AV} {cx : Value} (h : convert E s d x = some v) (hx : VRep w I φ x cx) :
    ∃ cv, (Go.convert s d cx).run P w = .ok cv w ∧ VRep w I φ v cv := by
  unfold convert at h
  cases hs : E.ty s with
  | none => rw [hs] at h; cases h
  | some si => cases hd : E.ty d with
    | none => rw [hs, hd] at h; cases h
    | some di =>
      rw [hs, hd] at h
      simp only at h
      obtain ⟨i, z, _, ht⟩ := hE.get hd
      obtain ⟨i', z', u, ht'⟩ := hE.get hs
      have hus := ht'.und
      cases hk : di.kd with
      | int k =>
        rw [hk] at h
        have hu := kd_int (ht.kd.symm.trans hk)
        cases x with
        | int k' n => cases h; cases hx; exact ⟨_, by simp [Go.convert, run_underlying hus, run_underlying hu, Conv.intToInt, wrapF_eq] <;> rfl, .int _ _⟩
        | _ => cases h
      | str =>
        rw [hk] at h
        have hu := kd_str (ht.kd.symm.trans hk)
        cases x with
        | str l => cases h; cases hx with
          | str b hb => exact ⟨_, by simp [Go.convert, run_underlying hus, run_underlying hu] <;> rfl, .str _ hb⟩
        | _ => cases h
      | _ => rw [hk] at h; cases h
end
end Go.AM
