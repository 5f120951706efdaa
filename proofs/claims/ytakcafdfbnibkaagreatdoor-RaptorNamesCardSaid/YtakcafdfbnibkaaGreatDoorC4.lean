/- The evaluator AM: maps. -/
import Derived.Test.YtakcafdfbnibkaaGreatDoorC3
set_option linter.unusedVariables false
set_option linter.unusedSimpArgs false
namespace Go.AM
section
variable {E : Env} {P : Program} {w : World} {I : Nat → Prop} {φ : Phi} {h h' : Heap} {id : Nat} {t : Tmps} {a : Act} {v : AV}

/-- Is it the type of numbers, bools, strings? -/
def scalarD : TypeDesc → Bool
  | .int _ => true
  | .bool => true
  | .string => true
  | _ => false

theorem keyOk_desc {n : Nat} {ki : TI} {i : TypeInfo} {z : Value} {d : TypeDesc} {k : AV} (T : TyOK P n ki i z d) (h : keyOk ki k = true) : scalarD d = true := by
  unfold keyOk at h
  have hk := T.kd
  have hu := T.und
  split at h
  · rename_i kk hkk; rw [hkk] at hk; have := kd_int hk.symm; rw [this] at hu; cases hu; rfl
  · rename_i hkk; rw [hkk] at hk; have := kd_str hk.symm; rw [this] at hu; cases hu; rfl
  · rename_i hkk; rw [hkk] at hk; have := kd_bool hk.symm; rw [this] at hu; cases hu; rfl
  · cases h

theorem checkKey_run {n : Nat} {d : TypeDesc} {e : Bool} {ck : Value} (hu : P.underlying n = some d) (hd : scalarD d = true) : (Instr.checkKey e 10000 n ck).run P w = .ok () w := by
  unfold Instr.checkKey
  simp only [Sem.run_bind, run_underlying hu, Result.andThen_ok]
  cases d <;> first | (cases hd; done) | (cases ck <;> simp)

theorem sameNow_ok {kd : Kd} {n : Nat} {d : TypeDesc} {x y : AV} {cx cy : Value} {b : Bool} (hu : P.underlying n = some d) (hk : kdOf P n = kd) (h : eqCell kd x y = some b)
    (hx : VRep w I φ x cx) (hy : VRep w I φ y cy) : Instr.sameNow d cx cy = some b ∧ (b = true → Instr.sameBits 10000 cy cx = true) := by
  cases kd with
  | int k0 => cases x with
    | int k a => cases y with
      | int k' c =>
        simp only [eqCell] at h
        cases hkk : sameKind k k' with
        | false => rw [hkk] at h; cases h
        | true =>
          rw [hkk] at h; have := sameKind_eq hkk; subst this; cases h
          cases hx; cases hy
          have := kd_int hk; rw [this] at hu; cases hu
          rw [ieq_eq]
          refine ⟨by simp [Instr.sameNow], fun e => ?_⟩
          have e : a = c := by simpa using e
          subst e
          simp [Instr.sameBits]
      | _ => cases h
    | _ => cases h
  | bool => cases x with
    | bool a => cases y with
      | bool c =>
        cases h; cases hx; cases hy
        have := kd_bool hk; rw [this] at hu; cases hu
        refine ⟨rfl, fun e => ?_⟩
        have e : a = c := by simpa using e
        subst e
        simp [Instr.sameBits]
      | _ => cases h
    | _ => cases h
  | str => cases x with
    | str a => cases y with
      | str c =>
        cases h; cases hx with
        | str s hs => cases hy with
          | str s' hs' =>
            have := kd_str hk; rw [this] at hu; cases hu
            have key : (s == s') = (a == c) := by
              show (s.data == s'.data) = (a == c)
              rw [Bool.eq_iff_iff]
              simp only [beq_iff_eq]
              rw [← hs, ← hs']
              exact ⟨fun e => by rw [e], fun e => Array.ext' e⟩
            have key' : (s' == s) = (c == a) := by
              show (s'.data == s.data) = (c == a)
              rw [Bool.eq_iff_iff]
              simp only [beq_iff_eq]
              rw [← hs, ← hs']
              exact ⟨fun e => by rw [e], fun e => Array.ext' e⟩
            refine ⟨by simp only [Instr.sameNow, key], fun e => ?_⟩
            have e : a = c := by simpa using e
            simp only [Instr.sameBits, key', e]
            simp
      | _ => cases h
    | _ => cases h
  | _ => cases h

/-- What a search comes to, in both. -/
def Found (w : World) (I : Nat → Prop) (φ : Phi) (ck : Value) (ces : List MapEntry) : Option (Nat × AV × Nat) → Option (Nat × Value) → Prop
  | none, none => True
  | some (i, v, born), some (j, u) => i = j ∧ VRep w I φ v u ∧ ∃ ke : MapEntry, ces[i]? = some ke ∧ ke.born = born ∧ ke.val = u ∧ Instr.sameBits 10000 ke.key ck = true
  | _, _ => False

theorem findNow_ok {ki : TI} {n : Nat} {d : TypeDesc} {k : AV} {ck : Value} (hu : P.underlying n = some d) (hk : ki.kd = kdOf P n) (hx : VRep w I φ k ck) :
    ∀ (es : List (AV × AV × Nat)) (ces all : List MapEntry) (i : Nat) (r : Option (Nat × AV × Nat)), ces.length = es.length → (∀ j : Nat, ces[j]? = all[i + j]?) →
    (∀ (i : Nat) k v b, es[i]? = some (k, v, b) → ∃ ke : MapEntry, ces[i]? = some ke ∧ ke.born = b ∧ VRep w I φ k ke.key ∧ VRep w I φ v ke.val) →
    findKey ki k es i = some r → ∃ r', Instr.findNow d ck ces i = some r' ∧ Found w I φ ck all r r'
  | [], [], all, i, r, _, _, _, hf => by cases hf; exact ⟨none, rfl, trivial⟩
  | [], _ :: _, _, _, _, hl, _, _, _ => by simp at hl
  | _ :: _, [], _, _, _, hl, _, _, _ => by simp at hl
  | (k', v, born) :: es, ke :: ces, all, i, r, hl, ha, hr, hf => by
    obtain ⟨ke', q1, q2, q3, q4⟩ := hr 0 k' v born rfl
    simp only [List.getElem?_cons_zero, Option.some.injEq] at q1
    subst q1
    unfold findKey at hf
    cases he : eqCell ki.kd k k' with
    | none => rw [he] at hf; cases hf
    | some b =>
      obtain ⟨s1, s2⟩ := sameNow_ok hu hk.symm he hx q3
      rw [he] at hf
      unfold Instr.findNow
      rw [s1]
      cases b with
      | true =>
        cases hf
        refine ⟨_, rfl, rfl, q4, ke, ?_, q2, rfl, s2 rfl⟩
        have := ha 0
        simpa using this.symm
      | false =>
        exact findNow_ok hu hk hx es ces all (i + 1) r (by simpa using hl) (fun j => by
          have := ha (j + 1)
          rw [List.getElem?_cons_succ] at this
          rw [this]; congr 1; omega) (fun j k v b e => by simpa using hr (j + 1) k v b (by simpa using e)) hf

theorem findKey_run {ki : TI} {n : Nat} {d : TypeDesc} {k : AV} {ck : Value} {es : List (AV × AV × Nat)} {ces : Array MapEntry} {r : Option (Nat × AV × Nat)} (hu : P.underlying n = some d)
    (hk : ki.kd = kdOf P n) (hx : VRep w I φ k ck) (hl : ces.size = es.length)
    (hr : ∀ (i : Nat) k v b, es[i]? = some (k, v, b) → ∃ ke : MapEntry, ces[i]? = some ke ∧ ke.born = b ∧ VRep w I φ k ke.key ∧ VRep w I φ v ke.val)
    (hf : findKey ki k es 0 = some r) : ∃ r', (Instr.findKey n ck ces.toList).run P w = .ok r' w ∧ Found w I φ ck ces.toList r r' := by
  obtain ⟨r', h1, h2⟩ := findNow_ok hu hk hx es ces.toList ces.toList 0 r (by simpa using hl) (fun j => by simp) (fun i k v b e => by
    obtain ⟨ke, q⟩ := hr i k v b e
    exact ⟨ke, by simpa using q⟩) hf
  refine ⟨r', ?_, h2⟩
  unfold Instr.findKey
  simp only [Sem.run_bind, run_underlying hu, Result.andThen_ok, h1, Sem.run_pure]

structure MapOK (P : Program) (mt kt et : Nat) (ki : TI) (d : TypeDesc) : Prop where
  map : P.underlying mt = some (.map kt et)
  key : P.underlying kt = some d
  kd : ki.kd = kdOf P kt
  scalar : scalarD d = true

theorem mapTy_run (hE : EnvOK E P) {mt et : Nat} {k : AV} {ki : TI} (h : mapTy E mt k = some (ki, et)) : ∃ kt d, MapOK P mt kt et ki d := by
  unfold mapTy at h
  split at h
  · rename_i ti h1
    split at h
    · rename_i kt et' hkd
      split at h
      · rename_i ki' h2
        cases hb : keyOk ki' k with
        | false => rw [hb] at h; cases h
        | true =>
          rw [hb] at h
          cases h
          obtain ⟨i, z, d, T⟩ := hE.get h1
          obtain ⟨i', z', d', T'⟩ := hE.get h2
          exact ⟨kt, d', kd_map (T.kd.symm.trans hkd), T'.und, T'.kd, keyOk_desc T' hb⟩
      · cases h
    · cases h
  · cases h

theorem zeroAt_run (hE : EnvOK E P) {et : Nat} {x : AV} (h : zeroAt E et = some x) : ∃ u, (zeroValue et).run P w = .ok u w ∧ VRep w I φ x u := by
  unfold zeroAt at h
  split at h
  · rename_i ti h1
    obtain ⟨i, z, d, T⟩ := hE.get h1
    refine ⟨z, zeroValue_run T, ?_⟩
    have hz := T.zrep (w := w) (I := I) (φ := φ)
    unfold zeroAV at h
    have hs := T.shape
    cases hag : ti.agg with
    | true =>
      rw [hag] at h hs
      cases h
      cases z <;> first | (cases hs; done) | exact hz.agg
    | false =>
      rw [hag] at h hs
      simp only [cond_false] at h
      split at h
      · rename_i x' hx
        cases h
        rw [hx] at hz
        obtain ⟨u, e1, e2⟩ := hz.2 0 _ rfl
        cases z <;> first | (cases hs; done) | (cases e1; exact e2)
      · cases h
  · cases h
end
end Go.AM
