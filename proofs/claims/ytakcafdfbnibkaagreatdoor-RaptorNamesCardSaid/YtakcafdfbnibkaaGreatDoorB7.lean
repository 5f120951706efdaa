/- The evaluator AM: append, copy, clear, make. -/
import Derived.Test.YtakcafdfbnibkaaGreatDoorB6
set_option linter.unusedVariables false
set_option linter.unusedSimpArgs false
namespace Go.AM
section
variable {E : Env} {P : Program} {w : World} {I : Nat → Prop} {φ : Phi} {h h' : Heap} {id : Nat} {t : Tmps} {a : Act} {v : AV}

def isIntD : TypeDesc → Bool
  | .int _ => true
  | _ => false

theorem append_fit_run {ats : Array Nat} {args : Array Value} {st xt e ty sLen sCap n : Nat} {base : Option Addr} {cx : Value} {news : Array Value} {w' : World}
    {ti : TI} {i : TypeInfo} {z : Value} {d dx : TypeDesc} (T : TyOK P e ti i z d) (hst : P.underlying st = some (.slice e)) (hxt : P.underlying xt = some dx) (hdx : isIntD dx = false)
    (h0 : ats[0]? = some st) (h1 : ats[1]? = some xt) (g0 : args[0]? = some (.slice base sLen sCap)) (g1 : args[1]? = some cx)
    (hn : (Builtin.lenOf cx).run P w = .ok n w) (hf : (Builtin.firstCells ti.size n cx).run P w = .ok news w) (hroom : sLen + n ≤ sCap)
    (hs : (match base with | some a => storeCells (a.add (sLen * ti.size)) news.toList | none => (pure () : Sem Unit)).run P w = .ok () w') :
    (Builtin.append_ ats ty args).run P w = .ok (.slice base (sLen + n) sCap) w' := by
  have fin : (match base with | some a => storeCells (a.add (sLen * ti.size)) news.toList | none => (pure () : Sem Unit)).run P w = .ok () w' := hs
  unfold Builtin.append_
  cases dx with
  | int k => cases hdx
  | _ =>
    simp only [h0, h1, g0, g1, Sem.run_bind, run_underlying hst, run_underlying hxt, Result.andThen_ok, sizeOf_run T, Sem.run_pure, Bool.false_eq_true, if_false, hn, Bool.not_false, if_true, if_pos hroom, hf]
    cases base with
    | none => simp only [Sem.run_pure, Result.ok.injEq, true_and] at hs; subst hs; rfl
    | some ad => simp only [Sem.run_bind, hs, Result.andThen_ok, Sem.run_pure]

theorem append_new_run {ats : Array Nat} {args : Array Value} {st xt e ty sLen sCap n : Nat} {base : Option Addr} {cx : Value} {olds news : Array Value}
    {ti : TI} {i : TypeInfo} {z : Value} {d dx : TypeDesc} (T : TyOK P e ti i z d) (hst : P.underlying st = some (.slice e)) (hxt : P.underlying xt = some dx) (hdx : isIntD dx = false)
    (h0 : ats[0]? = some st) (h1 : ats[1]? = some xt) (g0 : args[0]? = some (.slice base sLen sCap)) (g1 : args[1]? = some cx)
    (hn : (Builtin.lenOf cx).run P w = .ok n w) (hf : ∀ w' : World, w'.heap = w.heap → (Builtin.firstCells ti.size n cx).run P w' = .ok news w')
    (hfo : ∀ w' : World, w'.heap = w.heap → (Builtin.firstCells ti.size sLen (.slice base sLen sCap)).run P w' = .ok olds w')
    (hgrow : sCap < sLen + n) (hbd : sLen + n ≤ 2 ^ 32) (hby : ti.bytes ≤ 32768) :
    ∃ cap rest, sLen + n ≤ cap ∧ rest.size = (cap - (sLen + n)) * z.cells.size ∧
      (Builtin.append_ ats ty args).run P w = .ok (.slice (some ⟨w.heap.size, 0, none⟩) (sLen + n) cap)
        { w with drawn := w.drawn + 1, heap := w.heap.push (.cells (olds ++ news ++ rest) e) } := by
  have hcapb := nextslicecap_le hgrow
  have hmul : Builtin.nextslicecap (sLen + n) sCap * i.bytes ≤ 2 ^ 48 := by
    rw [← T.bytes]
    calc Builtin.nextslicecap (sLen + n) sCap * ti.bytes ≤ (2 * 2 ^ 32) * 32768 := Nat.mul_le_mul (by omega) hby
      _ = 2 ^ 48 := by decide
  have hq : (Question.appendCap (sLen + n) sCap e).forced = false := rfl
  have hge : sLen + n ≤ (Question.appendCap (sLen + n) sCap e).cut (w.tape w.drawn (.appendCap (sLen + n) sCap e)) := by
    simp only [Question.cut]; omega
  refine ⟨(Question.appendCap (sLen + n) sCap e).cut (w.tape w.drawn (.appendCap (sLen + n) sCap e)),
    Builtin.zeroCells z.cells ((Question.appendCap (sLen + n) sCap e).cut (w.tape w.drawn (.appendCap (sLen + n) sCap e)) - (sLen + n)), hge, size_zeroCells _ _, ?_⟩
  have hni : ¬ (sLen + n ≤ sCap) := by omega
  have h63 : ¬ (((sLen + n : Nat) : Int) > IntKind.i64.max ∧ (False ∨ i.bytes = 0)) := by
    have : IntKind.i64.max = 9223372036854775807 := by decide
    rw [this]; omega
  have h48 : ¬ (Builtin.nextslicecap (sLen + n) sCap * i.bytes > 2 ^ 48) := by omega
  have hw1 := hf { w with drawn := w.drawn + 1 } rfl
  have hw2 := hfo { w with drawn := w.drawn + 1 } rfl
  unfold Builtin.append_
  cases dx with
  | int k => cases hdx
  | _ =>
    simp only [h0, h1, g0, g1, Sem.run_bind, run_underlying hst, run_underlying hxt, Result.andThen_ok, sizeOf_run T, Sem.run_pure, Bool.false_eq_true, if_false, hn, Bool.not_false, if_true,
      if_neg hni, typeInfo_run T.info, Sem.run_ite, if_neg h63, if_neg h48, run_choose, hq, run_askRoom, hw1, hw2, zeroValue_run T]
    simp [newRow]
    exact ⟨rfl, rfl, rfl⟩

theorem ERep.append {k : Nat} {xs ys : List (List AV)} {va vb rest : Array Value} (h1 : ERep w I φ k xs va) (h2 : ERep w I φ k ys vb) (hk : ∀ e ∈ xs, e.length = k) :
    ∀ i j c, rowAt (xs ++ ys) i j = some c → isCell c = true ∧ ∃ u, (va ++ vb ++ rest)[i * k + j]? = some u ∧ VRep w I φ c u := by
  intro i j c e
  rcases rowAt_append e with ⟨hi, e⟩ | ⟨hi, e⟩
  · obtain ⟨q1, u, q2, q3⟩ := h1.2 i j c e
    refine ⟨q1, u, ?_, q3⟩
    have hlt := (Array.getElem?_eq_some_iff.1 q2).1
    rw [Array.append_assoc, Array.getElem?_append_left hlt]; exact q2
  · obtain ⟨q1, u, q2, q3⟩ := h2.2 _ j c e
    refine ⟨q1, u, ?_, q3⟩
    have hlt := (Array.getElem?_eq_some_iff.1 q2).1
    have hix : i * k + j = va.size + ((i - xs.length) * k + j) := by
      rw [h1.1]
      have : i = xs.length + (i - xs.length) := by omega
      conv => lhs; rw [this, Nat.add_mul]
      omega
    rw [Array.append_assoc, hix, Array.getElem?_append_right (by omega), Array.getElem?_append_left (by omega)]
    rw [show va.size + ((i - xs.length) * k + j) - va.size = (i - xs.length) * k + j by omega]; exact q2

theorem ERep.mono {w' : World} {I' : Nat → Prop} {φ' : Phi} {k : Nat} {xs : List (List AV)} {va : Array Value} (r : ERep w I φ k xs va) (hv : ∀ y v, VRep w I φ y v → VRep w' I' φ' y v) :
    ERep w' I' φ' k xs va :=
  ⟨r.1, fun i j c e => by obtain ⟨q1, u, q2, q3⟩ := r.2 i j c e; exact ⟨q1, u, q2, hv _ _ q3⟩⟩

/-- A new block of elements. -/
theorem newBlock_ok {k : Nat} {slack : Bool} {rows : List (List AV)} {va : Array Value} {el N : Nat} {w' : World} (S : Sim w I φ h) (hid : Heap.get h id = none)
    (hk : ∀ e ∈ rows, e.length = k) (hN : rows.length ≤ N) (hs : slack = false → N = rows.length) (hsz : N * k ≤ va.size)
    (hrep : ∀ i j c, rowAt rows i j = some c → isCell c = true ∧ ∃ u, va[i * k + j]? = some u ∧ VRep w I φ c u)
    (hos : w'.os = w.os) (htape : w'.tape = w.tape) (hout : w'.output = w.output) (hheap : w'.heap = w.heap.push (.cells va el)) :
    Sim w' I (φ.set id ⟨w.heap.size, 0, k, rows.length, N⟩) (Heap.put h id (.cells slack k rows)) ∧
    Ext w I φ h w' I (φ.set id ⟨w.heap.size, 0, k, rows.length, N⟩) (Heap.put h id (.cells slack k rows)) ∧
    ∀ n, n ≤ rows.length → VRep w' I (φ.set id ⟨w.heap.size, 0, k, rows.length, N⟩) (.sl id 0 n k none) (.slice (some ⟨w.heap.size, 0, none⟩) n N) := by
  obtain ⟨S', X⟩ := S.alloc (w' := w') (o := .cells va el) (x := .cells slack k rows) (p := ⟨w.heap.size, 0, k, rows.length, N⟩) hid trivial rfl hos htape hout hheap (fun hv => by
    refine ⟨rfl, rfl, hN, hs, hk, va, el, by rw [hheap]; exact heap_push_new _ _, by simpa using hsz, fun i j c e => ?_⟩
    obtain ⟨q1, u, q2, q3⟩ := hrep i j c e
    exact ⟨q1, u, by simpa using q2, hv _ _ q3⟩)
  refine ⟨S', X, fun n hn => .sl (Phi.set_same _ _ _) rfl (by simpa using hn) (by omega) (by simp) (by simp) (by simp) ?_⟩
  simp [cellAt]

theorem putRows_get : ∀ (es rows : List (List AV)) (o : Nat), o + es.length ≤ rows.length →
    (putRows rows o es).length = rows.length ∧ ∀ i, (putRows rows o es)[i]? = if o ≤ i ∧ i < o + es.length then es[i - o]? else rows[i]?
  | [], rows, o, _ => ⟨rfl, fun i => by rw [if_neg (by simp)]; rfl⟩
  | e :: es, rows, o, hl => by
    simp only [List.length_cons] at hl
    obtain ⟨h1, h2⟩ := putRows_get es (rows.set o e) (o + 1) (by rw [List.length_set]; omega)
    unfold putRows
    rw [List.length_set] at h1
    refine ⟨h1, fun i => ?_⟩
    rw [h2 i]
    by_cases hi : o + 1 ≤ i ∧ i < o + 1 + es.length
    · rw [if_pos hi, if_pos ⟨by omega, by simp; omega⟩]
      obtain ⟨m, hm⟩ : ∃ m, i - o = m + 1 := ⟨i - o - 1, by omega⟩
      rw [hm, List.getElem?_cons_succ]; congr 1; omega
    · rw [if_neg hi, List.getElem?_set]
      by_cases ho : o = i
      · subst ho; simp; omega
      · rw [if_neg ho, if_neg (by simp; omega)]

theorem rowAt_put {es rows : List (List AV)} {o i j : Nat} {c : AV} (hl : o + es.length ≤ rows.length) (h : rowAt (putRows rows o es) i j = some c) :
    (o ≤ i ∧ i < o + es.length ∧ rowAt es (i - o) j = some c) ∨ ((i < o ∨ o + es.length ≤ i) ∧ rowAt rows i j = some c) := by
  unfold rowAt at *
  rw [(putRows_get es rows o hl).2 i] at h
  by_cases hi : o ≤ i ∧ i < o + es.length
  · rw [if_pos hi] at h; exact .inl ⟨hi.1, hi.2, h⟩
  · rw [if_neg hi] at h; exact .inr ⟨by omega, h⟩

theorem mem_put {es rows : List (List AV)} {o : Nat} {e : List AV} (hl : o + es.length ≤ rows.length) (h : e ∈ putRows rows o es) : e ∈ es ∨ e ∈ rows := by
  obtain ⟨i, hi⟩ := List.getElem?_of_mem h
  rw [(putRows_get es rows o hl).2 i] at hi
  by_cases hb : o ≤ i ∧ i < o + es.length
  · rw [if_pos hb] at hi; exact .inl (List.mem_of_getElem? hi)
  · rw [if_neg hb] at hi; exact .inr (List.mem_of_getElem? hi)

theorem ERep.oneCell {k : Nat} {es : List (List AV)} {va : Array Value} (r : ERep w I φ k es va) (hk : ∀ e ∈ es, e.length = k) : ∀ u ∈ va.toList, u.oneCell' = true := by
  intro u hu
  obtain ⟨q, hq, e⟩ := List.getElem_of_mem hu
  have hq' : q < va.size := by simpa using hq
  have hk0 : 0 < k := by
    rcases Nat.eq_zero_or_pos k with e | e
    · subst e; have := r.1; omega
    · exact e
  have hlt : q / k < es.length := by rw [Nat.div_lt_iff_lt_mul hk0, ← r.1]; exact hq'
  have hj : q % k < k := Nat.mod_lt _ hk0
  have hel : es[q / k].length = k := hk _ (List.getElem_mem hlt)
  obtain ⟨hc, u', h1, h2⟩ := r.2 (q / k) (q % k) es[q / k][q % k] (rowAt_of (List.getElem?_eq_getElem hlt) (List.getElem?_eq_getElem (by omega)))
  have hqq : q / k * k + q % k = q := by have := Nat.div_add_mod q k; rw [Nat.mul_comm] at this; exact this
  rw [hqq] at h1
  have : u' = u := by
    have h3 : va[q]? = some u := by rw [Array.getElem?_eq_getElem hq']; congr 1
    rw [h1] at h3; cases h3; rfl
  subst this
  obtain ⟨q1, q2⟩ := h2.cell hc
  cases u' <;> first | rfl | exact absurd rfl (q1 _) | exact absurd rfl (q2 _)

/-- Elements are written into a block, from an element on. -/
theorem writeRows_ok {b k o : Nat} {s : Bool} {rows es : List (List AV)} {p : Pl} {va : Array Value} (S : Sim w I φ h) (hb : Heap.get h b = some (.cells s k rows)) (hp : φ b = some p)
    (hl : o + es.length ≤ rows.length) (hk : ∀ e ∈ es, e.length = k) (hv : ERep w I φ k es va) :
    ∃ w', (storeCells (cellAt p.cb (p.d + o * k)) va.toList).run P w = .ok () w' ∧ Sim w' I φ (Heap.put h b (.cells s k (putRows rows o es))) ∧
      Ext w I φ h w' I φ (Heap.put h b (.cells s k (putRows rows o es))) := by
  obtain ⟨q1, q2, q3, q4, q5, cc, ce, q6, q7, q8⟩ := S.rep b _ p hb hp
  have hlen : va.toList.length = es.length * k := by rw [Array.length_toList]; exact hv.1
  have hfit : p.d + o * k + va.toList.length ≤ cc.size := by
    rw [hlen]
    have : (o + es.length) * k ≤ p.N * k := Nat.mul_le_mul_right k (by omega)
    rw [Nat.add_mul] at this; omega
  refine ⟨_, storeCells_run q6 hfit (hv.oneCell hk), ?_⟩
  refine S.write hb hp q6 hfit (putRows_get es rows o hl).1 (fun e he => (mem_put hl he).elim (hk e) (q5 e)) (fun i j c hc => ?_)
  rw [hlen]
  rcases rowAt_put hl hc with ⟨e1, e2, e3⟩ | ⟨e1, e2⟩
  · obtain ⟨g1, u, g2, g3⟩ := hv.2 _ _ _ e3
    obtain ⟨_, hj⟩ := rowAt_lt hk e3
    have hi : i * k = o * k + (i - o) * k := by rw [← Nat.add_mul]; congr 1; omega
    have hlt := idx_lt (i := i - o) (i' := es.length) (k := k) (by omega) hj
    refine ⟨g1, .inl ⟨by omega, by omega, u, ?_, g3⟩⟩
    rw [show p.d + i * k + j - (p.d + o * k) = (i - o) * k + j by omega]; simpa using g2
  · refine ⟨(q8 _ _ _ e2).1, .inr ⟨?_, e2⟩⟩
    obtain ⟨_, hj⟩ := rowAt_lt q5 e2
    rcases e1 with e1 | e1
    · have := idx_lt e1 hj; omega
    · have : (o + es.length) * k ≤ i * k := Nat.mul_le_mul_right k e1
      rw [Nat.add_mul] at this; omega
end
end Go.AM
