/- The evaluator AM: what stands ahead of what, in a region. -/
import Derived.Test.YtakcafdfbnibkaaGreatDoorD6
set_option linter.unusedVariables false
set_option linter.unusedSimpArgs false
namespace Go.AM

/-- May all pairs that no edge orders change places, as far as slots go? -/
def pairA (ops : Array Oper) (m : Nat) : Nat → List Oper → Oper → Bool
  | _, [], _ => true
  | i, a :: as, b => (m.testBit i || a.apart ops b) && pairA ops m (i + 1) as b
def aparts (ops : Array Oper) : List Oper → List Oper → List Nat → Bool
  | seen, b :: bs, m :: ms => pairA ops m 0 seen b && aparts ops (seen ++ [b]) bs ms
  | _, _, _ => true
def backs : Nat → List Oper → Bool
  | _, [] => true
  | i, o :: os => o.after.toList.all (fun e => !Region.binds .any e || e.on.blt i) && backs (i + 1) os
def tidyR (ops : Array Oper) : Bool := aparts ops [] ops.toList (masks ops.toList []) && backs 0 ops.toList
def tidy : Code → Bool
  | .region _ ops draw => !draw || tidyR ops
  | .seq a b => tidy a && tidy b
  | .cond _ a b => tidy a && tidy b
  | .block _ c => tidy c
  | .loop c => tidy c
  | .scope c => tidy c
  | _ => true

theorem pairA_spec {ops : Array Oper} {m : Nat} {b : Oper} : ∀ (as : List Oper) (i : Nat), pairA ops m i as b = true → ∀ (k : Nat) a, as[k]? = some a → m.testBit (i + k) = true ∨ a.apart ops b = true
  | [], _, _, _, _, e => by simp at e
  | x :: xs, i, h, k, a, e => by
    unfold pairA at h
    simp only [Bool.and_eq_true, Bool.or_eq_true] at h
    cases k with
    | zero => cases e; exact h.1
    | succ k =>
      have := pairA_spec xs (i + 1) h.2 k a (by simpa using e)
      rwa [show i + 1 + k = i + (k + 1) by omega] at this
theorem pairOk_spec {m : Nat} {b : Log} : ∀ (as : List Log) (i : Nat), pairOk m i as b = true → ∀ (k : Nat) a, as[k]? = some a → m.testBit (i + k) = true ∨ a.compat b = true
  | [], _, _, _, _, e => by simp at e
  | x :: xs, i, h, k, a, e => by
    unfold pairOk at h
    simp only [Bool.and_eq_true, Bool.or_eq_true] at h
    cases k with
    | zero => cases e; exact h.1
    | succ k =>
      have := pairOk_spec xs (i + 1) h.2 k a (by simpa using e)
      rwa [show i + 1 + k = i + (k + 1) by omega] at this

theorem aparts_spec {ops : Array Oper} : ∀ (bs seen : List Oper) (ms : List Nat), aparts ops seen bs ms = true → ∀ (j : Nat) b m, bs[j]? = some b → ms[j]? = some m →
    ∀ (k : Nat) a, k < seen.length + j → (seen ++ bs)[k]? = some a → m.testBit k = true ∨ a.apart ops b = true
  | [], _, _, _, _, _, _, e, _, _, _, _, _ => by simp at e
  | _ :: _, _, [], _, _, _, _, _, e, _, _, _, _ => by simp at e
  | x :: bs, seen, m0 :: ms, h, j, b, m, e1, e2, k, a, hk, e3 => by
    unfold aparts at h
    simp only [Bool.and_eq_true] at h
    cases j with
    | zero =>
      cases e1; cases e2
      rw [List.getElem?_append_left (by simpa using hk)] at e3
      simpa using pairA_spec seen 0 h.1 k a e3
    | succ j =>
      exact aparts_spec bs (seen ++ [x]) ms h.2 j b m (by simpa using e1) (by simpa using e2) k a (by simp; omega) (by simpa using e3)
theorem pairsOk_spec : ∀ (bs seen : List Log) (ms : List Nat), pairsOk seen bs ms = true → ∀ (j : Nat) b m, bs[j]? = some b → ms[j]? = some m →
    ∀ (k : Nat) a, k < seen.length + j → (seen ++ bs)[k]? = some a → m.testBit k = true ∨ a.compat b = true
  | [], _, _, _, _, _, _, e, _, _, _, _, _ => by simp at e
  | _ :: _, _, [], _, _, _, _, _, e, _, _, _, _ => by simp at e
  | x :: bs, seen, m0 :: ms, h, j, b, m, e1, e2, k, a, hk, e3 => by
    unfold pairsOk at h
    simp only [Bool.and_eq_true] at h
    cases j with
    | zero =>
      cases e1; cases e2
      rw [List.getElem?_append_left (by simpa using hk)] at e3
      simpa using pairOk_spec seen 0 h.1 k a e3
    | succ j =>
      exact pairsOk_spec bs (seen ++ [x]) ms h.2 j b m (by simpa using e1) (by simpa using e2) k a (by simp; omega) (by simpa using e3)

theorem backs_spec : ∀ (os : List Oper) (i : Nat), backs i os = true → ∀ (j : Nat) o, os[j]? = some o → ∀ e ∈ o.after.toList, Region.binds .any e = true → e.on < i + j
  | [], _, _, _, _, h, _, _, _ => by simp at h
  | x :: os, i, hb, j, o, h, e, he, hbind => by
    unfold backs at hb
    simp only [Bool.and_eq_true] at hb
    cases j with
    | zero =>
      cases h
      have := List.all_eq_true.1 hb.1 e he
      simp only [hbind, Bool.not_true, Bool.false_or] at this
      exact Nat.le_of_ble_eq_true this
    | succ j =>
      have := backs_spec os (i + 1) hb.2 j o (by simpa using h) e he hbind
      omega

theorem foldl_bit (ms : List Nat) (k : Nat) : ∀ (es : List Edge) (m0 : Nat),
    (es.foldl (fun m e => bif Region.binds .any e then Nat.lor (Nat.lor m (Nat.shiftLeft 1 e.on)) (ms.getD e.on 0) else m) m0).testBit k = true →
    m0.testBit k = true ∨ ∃ e ∈ es, Region.binds .any e = true ∧ (e.on = k ∨ (ms.getD e.on 0).testBit k = true)
  | [], m0, h => .inl h
  | e :: es, m0, h => by
    rw [List.foldl_cons] at h
    rcases foldl_bit ms k es _ h with h | ⟨e', h1, h2, h3⟩
    · cases hb : Region.binds .any e with
      | false => rw [hb] at h; exact .inl h
      | true =>
        rw [hb] at h
        have h : ((m0 ||| (1 <<< e.on)) ||| ms.getD e.on 0).testBit k = true := h
        rw [Nat.testBit_or, Nat.testBit_or, Nat.testBit_shiftLeft] at h
        simp only [Bool.or_eq_true, Bool.and_eq_true, decide_eq_true_eq] at h
        rcases h with (h | h) | h
        · exact .inl h
        · refine .inr ⟨e, by simp, hb, .inl ?_⟩
          have : k - e.on = 0 := by
            rcases Nat.eq_zero_or_pos (k - e.on) with h0 | h0
            · exact h0
            · exfalso
              have hh := h.2
              rw [Nat.testBit_one_eq_true_iff_self_eq_zero] at hh
              omega
          omega
        · exact .inr ⟨e, by simp, hb, .inr h⟩
    · exact .inr ⟨e', by simp [h1], h2, h3⟩

theorem maskOf_bit {ms : List Nat} {o : Oper} {k : Nat} (h : (maskOf ms o).testBit k = true) : ∃ e ∈ o.after.toList, Region.binds .any e = true ∧ (e.on = k ∨ (ms.getD e.on 0).testBit k = true) := by
  rcases foldl_bit ms k _ 0 h with h | h
  · simp at h
  · exact h

theorem masks_spec : ∀ (os : List Oper) (ms : List Nat), (masks os ms).length = ms.length + os.length ∧ (∀ i, i < ms.length → (masks os ms)[i]? = ms[i]?) ∧
    ∀ (j : Nat) o, os[j]? = some o → ∃ ms', (masks os ms)[ms.length + j]? = some (maskOf ms' o) ∧ ∀ (i : Nat) x, ms'[i]? = some x → (masks os ms)[i]? = some x
  | [], ms => ⟨rfl, fun _ _ => rfl, fun j o h => by simp at h⟩
  | x :: os, ms => by
    obtain ⟨h1, h2, h3⟩ := masks_spec os (ms ++ [maskOf ms x])
    have hu : masks (x :: os) ms = masks os (ms ++ [maskOf ms x]) := rfl
    rw [hu]
    refine ⟨by rw [h1]; simp; omega, fun i hi => ?_, fun j o h => ?_⟩
    · rw [h2 i (by simp; omega), List.getElem?_append_left hi]
    · cases j with
      | zero =>
        cases h
        refine ⟨ms, ?_, fun i y hy => ?_⟩
        · rw [Nat.add_zero, h2 ms.length (by simp)]; simp
        · have hi := (List.getElem?_eq_some_iff.1 hy).1
          rw [h2 i (by simp; omega), List.getElem?_append_left hi]; exact hy
      | succ j =>
        obtain ⟨ms', q1, q2⟩ := h3 j o (by simpa using h)
        refine ⟨ms', ?_, q2⟩
        rw [← q1]; congr 1; simp; omega
end Go.AM
