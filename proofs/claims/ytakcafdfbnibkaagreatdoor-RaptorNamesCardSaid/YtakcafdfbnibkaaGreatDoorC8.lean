/- The evaluator AM: walks over maps. -/
import Derived.Test.YtakcafdfbnibkaaGreatDoorC6
set_option linter.unusedVariables false
set_option linter.unusedSimpArgs false
namespace Go.AM
section
variable {E : Env} {P : Program} {w : World} {I : Nat → Prop} {φ : Phi} {h h' : Heap} {id : Nat} {t : Tmps} {a : Act} {v : AV}

/-- Entries, one by one. -/
inductive Two (w : World) (I : Nat → Prop) (φ : Phi) : List (AV × AV × Nat) → List MapEntry → Prop
  | nil : Two w I φ [] []
  | cons {k v : AV} {b : Nat} {ke : MapEntry} {es : List (AV × AV × Nat)} {ces : List MapEntry} : ke.born = b → VRep w I φ k ke.key → VRep w I φ v ke.val →
      Two w I φ es ces → Two w I φ ((k, v, b) :: es) (ke :: ces)

theorem two_list : ∀ (es : List (AV × AV × Nat)) (l : List MapEntry), l.length = es.length →
    (∀ (i : Nat) k v b, es[i]? = some (k, v, b) → ∃ ke : MapEntry, l[i]? = some ke ∧ ke.born = b ∧ VRep w I φ k ke.key ∧ VRep w I φ v ke.val) → Two w I φ es l
  | [], [], _, _ => .nil
  | [], _ :: _, h, _ => by simp at h
  | _ :: _, [], h, _ => by simp at h
  | (k, v, b) :: es, ke :: l, h, hp => by
    obtain ⟨ke', e1, e2, e3, e4⟩ := hp 0 k v b rfl
    cases e1
    exact .cons e2 e3 e4 (two_list es l (by simpa using h) fun i k v b e => by
      obtain ⟨ke', e1, e2⟩ := hp (i + 1) k v b e
      exact ⟨ke', e1, e2⟩)

theorem MRep.two {es : List (AV × AV × Nat)} {ces : Array MapEntry} (r : MRep w I φ es ces) : Two w I φ es ces.toList :=
  two_list es ces.toList (by simpa using r.1) fun i k v b e => by
    obtain ⟨ke, e1, e2⟩ := r.2 i k v b e
    exact ⟨ke, by simpa using e1, e2⟩

theorem Two.filter (p : Nat → Bool) {es : List (AV × AV × Nat)} {l : List MapEntry} (r : Two w I φ es l) :
    Two w I φ (es.filter fun e => p e.2.2) (l.filter fun e => p e.born) := by
  induction r with
  | nil => exact .nil
  | cons e1 e2 e3 _h ih =>
    rename_i k v b ke es l
    simp only [List.filter_cons, e1]
    cases p b with
    | true => exact .cons e1 e2 e3 ih
    | false => exact ih

theorem Two.all (p : Nat → Bool) {es : List (AV × AV × Nat)} {l : List MapEntry} (r : Two w I φ es l) :
    (es.all fun e => p e.2.2) = l.all fun e => p e.born := by
  induction r with
  | nil => rfl
  | cons e1 e2 e3 _h ih => simp only [List.all_cons, e1, ih]

theorem Two.empty {es : List (AV × AV × Nat)} {l : List MapEntry} (r : Two w I φ es l) : es.isEmpty = l.isEmpty := by
  cases r <;> rfl

theorem Two.find (p : Nat → Bool) {es : List (AV × AV × Nat)} {l : List MapEntry} {e : AV × AV × Nat} (r : Two w I φ es l) (hf : es.find? (fun e => p e.2.2) = some e) :
    ∃ ke, l.find? (fun e => p e.born) = some ke ∧ VRep w I φ e.1 ke.key ∧ VRep w I φ e.2.1 ke.val := by
  induction r with
  | nil => cases hf
  | cons e1 e2 e3 _h ih =>
    rename_i k v b ke es l
    simp only [List.find?_cons, e1] at hf ⊢
    cases hp : p b with
    | true =>
      rw [hp] at hf
      cases hf
      exact ⟨ke, rfl, e2, e3⟩
    | false =>
      rw [hp] at hf
      exact ih hf

/-- An iterator's block, in both. -/
theorem iter_at {b since last : Nat} {seen : List Nat} {m : Option Nat} {p : Pl} (S : Sim w I φ h) (hb : Heap.get h b = some (.iter m since seen last)) (hp : φ b = some p) :
    p.d = 0 ∧ ∃ cm, w.heap[p.cb]? = some (.mapIter cm since seen.toArray last) ∧ (m = none → cm = none) ∧ ∀ b, m = some b → ∃ q, φ b = some q ∧ cm = some q.cb :=
  S.rep b _ _ hb hp

theorem isMapKd_run (hE : EnvOK E P) {xt : Nat} {ti : TI} (h1 : E.ty xt = some ti) (h2 : isMapKd ti.kd = true) : ∃ k e, P.underlying xt = some (.map k e) := by
  obtain ⟨i, z, d, T⟩ := hE.get h1
  have hk := T.kd
  cases hkd : ti.kd <;> rw [hkd] at h2 <;> try cases h2
  rename_i k e
  rw [hkd] at hk
  exact ⟨k, e, kd_map hk.symm⟩

theorem newIter {m : Option Nat} {cm : Option Nat} {since last : Nat} (S : Sim w I φ h) (hid : Heap.get h id = none)
    (h1 : m = none → cm = none) (h2 : ∀ b, m = some b → ∃ q, φ b = some q ∧ cm = some q.cb) :
    ∃ φ', φ' id = some ⟨w.heap.size, 0, 0, 0, 0⟩ ∧
    Sim { w with heap := w.heap.push (.mapIter cm since #[] last) } I φ' (Heap.put h id (.iter m since [] last)) ∧
    Ext w I φ h { w with heap := w.heap.push (.mapIter cm since #[] last) } I φ' (Heap.put h id (.iter m since [] last)) := by
  obtain ⟨S', X⟩ := S.alloc (w' := { w with heap := w.heap.push (.mapIter cm since #[] last) }) (o := .mapIter cm since #[] last) (x := .iter m since [] last) (p := ⟨w.heap.size, 0, 0, 0, 0⟩)
    hid trivial rfl rfl rfl rfl rfl (fun hv => ⟨rfl, cm, heap_push_new _ _, h1, fun b e => by
      obtain ⟨q, q1, q2⟩ := h2 b e
      refine ⟨q, ?_, q2⟩
      unfold Phi.set
      rw [if_neg (fun e' => by
        obtain ⟨x, hx⟩ := S.dom b q q1
        rw [e'] at hx; rw [hid] at hx; cases hx)]
      exact q1⟩)
  exact ⟨_, Phi.set_same _ _ _, S', X⟩

theorem opRange_ok (hE : EnvOK E P) {xt : Nat} {x : Operand} {o : Oper} {r : AV × Heap} (S : Sim w I φ h) (ht : TRep w I φ t a.tmps)
    (ho : o.op = .range xt x) (hr : (opRange E id t xt x).run id h = some r) : OpRes P a o w I φ h r.1 r.2 := by
  obtain ⟨ti, h1, h2⟩ := withTy_run hr
  obtain ⟨h3, h4⟩ := bif_run h2
  obtain ⟨kt, et, hu⟩ := isMapKd_run hE h1 h3
  obtain ⟨y, h5, h6⟩ := withOp_run h4
  have hy := evalOp_rep ht h5
  unfold doRange at h6
  split at h6
  · obtain ⟨hid, h7⟩ := Eff.run_nw h6
    have := Eff.run_ret h7
    subst this
    obtain ⟨φ', p1, S', X⟩ := newIter (since := 0) (last := 0) S hid (m := none) (cm := none) (fun _ => rfl) (fun _ e => by cases e)
    generalize hx : a.eval x = cx at hy
    cases hy
    have hv : VRep { w with heap := w.heap.push (.mapIter none 0 #[] 0) } I φ' (.ptr id 0 0) (.pointer (some ⟨w.heap.size, 0, none⟩)) := by
      simpa using VRep.ptr (i := 0) (j := 0) p1
    refine ⟨.value (.pointer (some ⟨w.heap.size, 0, none⟩)), _, _, I, φ', ?_, .inl rfl, hv, S', X⟩
    simp only [execOp, ho]
    refine run_value ?_
    unfold Instr.range
    simp [hx, run_underlying hu]
  · rename_i m
    obtain ⟨blk, q1, q2⟩ := Eff.run_rd h6
    split at q2
    · rename_i es cl
      obtain ⟨hid, h7⟩ := Eff.run_nw q2
      have := Eff.run_ret h7
      subst this
      generalize hx : a.eval x = cx at hy
      cases hy with
      | map hp =>
        rename_i p
        obtain ⟨ces, m1, m2⟩ := map_at S q1 hp
        obtain ⟨φ', p1, S', X⟩ := newIter (since := cl) (last := cl) S hid (m := some m) (cm := some p.cb) (fun e => by cases e) (fun _ e => by cases e; exact ⟨p, hp, rfl⟩)
        have hv : VRep { w with heap := w.heap.push (.mapIter (some p.cb) cl #[] cl) } I φ' (.ptr id 0 0) (.pointer (some ⟨w.heap.size, 0, none⟩)) := by
          simpa using VRep.ptr (i := 0) (j := 0) p1
        refine ⟨.value (.pointer (some ⟨w.heap.size, 0, none⟩)), _, _, I, φ', ?_, .inl rfl, hv, S', X⟩
        simp only [execOp, ho]
        refine run_value ?_
        unfold Instr.range
        simp [hx, run_underlying hu, getObj_run (P := P) m1 (by simp)]
    · cases q2
  · cases h6

theorem setIter_ok {b since last last' : Nat} {seen seen' : List Nat} {m : Nat} {p q : Pl} (S : Sim w I φ h) (hb : Heap.get h b = some (.iter (some m) since seen last)) (hp : φ b = some p)
    (hq : φ m = some q) :
    Sim { w with heap := w.heap.setIfInBounds p.cb (.mapIter (some q.cb) since seen'.toArray last') } I φ (Heap.put h b (.iter (some m) since seen' last')) ∧
    Ext w I φ h { w with heap := w.heap.setIfInBounds p.cb (.mapIter (some q.cb) since seen'.toArray last') } I φ (Heap.put h b (.iter (some m) since seen' last')) ∧
    (setObj p.cb (.mapIter (some q.cb) since seen'.toArray last')).run P w = .ok () { w with heap := w.heap.setIfInBounds p.cb (.mapIter (some q.cb) since seen'.toArray last') } := by
  obtain ⟨m0, cm, m1, m2, m3⟩ := iter_at S hb hp
  have hlt : p.cb < w.heap.size := (Array.getElem?_eq_some_iff.1 m1).1
  obtain ⟨S', X⟩ := S.update (w' := { w with heap := w.heap.setIfInBounds p.cb (.mapIter (some q.cb) since seen'.toArray last') }) (x' := .iter (some m) since seen' last') hb trivial hp trivial rfl rfl rfl (by simp)
    (fun cb hne => by simp only [Array.getElem?_setIfInBounds_ne (Ne.symm hne)]) (fun hv => ⟨m0, some q.cb, by simp [hlt], (fun e => by cases e), (fun b e => by cases e; exact ⟨q, hq, rfl⟩)⟩)
  refine ⟨S', X, ?_⟩
  unfold setObj Sem.run
  rw [m1]; rfl

/-- What the model comes to, where one candidate is left. -/
theorem next_fun1 {seen : List Nat} : (fun e : MapEntry => !seen.contains e.born) = fun e => !seen.any fun b => Nat.beq b e.born := by
  funext e; congr 1
  induction seen with
  | nil => rfl
  | cons b bs ih =>
    simp only [List.contains_cons, List.any_cons, ih]; congr 1
    rw [Bool.eq_iff_iff]; simp; exact eq_comm
theorem next_over {r m since last clock ty : Nat} {seen : List Nat} {l : List MapEntry} (hr : w.heap[r]? = some (.mapIter (some m) since seen.toArray last))
    (hm : w.heap[m]? = some (.map l.toArray clock)) (h1 : (!seen.isEmpty && !l.isEmpty && l.all fun e => Nat.ble last e.born) = false)
    (h2 : (l.filter fun e => !seen.any fun b => Nat.beq b e.born) = []) :
    (Instr.next (.pointer (some ⟨r, 0, none⟩)) false ty).run P w = .ok (.tuple #[.bool false]) w := by
  have ha : (fun e : MapEntry => decide (e.born ≥ last)) = fun e => Nat.ble last e.born := by
    funext e; rw [Bool.eq_iff_iff]; simp
  unfold Instr.next
  simp only [getObj_run (P := P) hr (by simp), getObj_run (P := P) hm (by simp), Sem.run_bind, Result.andThen_ok]
  simp only [List.isEmpty_toArray, List.all_toArray, List.filter_toArray, List.contains_toArray, ha, h1, next_fun1, h2]
  simp
  intro hf; simp [Question.forced] at hf

theorem next_step {r m since last clock ty : Nat} {seen : List Nat} {l : List MapEntry} {ke : MapEntry} {w' : World} (hr : w.heap[r]? = some (.mapIter (some m) since seen.toArray last))
    (hm : w.heap[m]? = some (.map l.toArray clock)) (h1 : (!seen.isEmpty && !l.isEmpty && l.all fun e => Nat.ble last e.born) = false)
    (h2 : (l.filter fun e => !seen.any fun b => Nat.beq b e.born) = [ke]) (h3 : ke.born < since)
    (hs : (setObj r (.mapIter (some m) since (seen ++ [ke.born]).toArray clock)).run P w = .ok () w') :
    (Instr.next (.pointer (some ⟨r, 0, none⟩)) false ty).run P w = .ok (.tuple #[.bool true, ke.key, ke.val]) w' := by
  have ha : (fun e : MapEntry => decide (e.born ≥ last)) = fun e => Nat.ble last e.born := by
    funext e; rw [Bool.eq_iff_iff]; simp
  have hn : ¬ since ≤ ke.born := by omega
  unfold Instr.next
  simp only [getObj_run (P := P) hr (by simp), getObj_run (P := P) hm (by simp), Sem.run_bind, Result.andThen_ok]
  simp only [List.isEmpty_toArray, List.all_toArray, List.filter_toArray, List.contains_toArray, ha, h1, next_fun1, h2]
  simp [List.filter_cons, h3, hn, Question.forced, hs]

theorem opNext_ok {x : Operand} {ss : Bool} {o : Oper} {r : AV × Heap} (S : Sim w I φ h) (ht : TRep w I φ t a.tmps)
    (ho : o.op = .next x ss) (hr : (opNext t x ss).run id h = some r) : OpRes P a o w I φ h r.1 r.2 := by
  unfold opNext at hr
  cases ss with
  | true => exact (Eff.run_fail hr).elim
  | false =>
    obtain ⟨y, h1, h2⟩ := withOp_run hr
    have hy := evalOp_rep ht h1
    generalize hx : a.eval x = cx at hy
    unfold doNext at h2
    split at h2
    · rename_i b
      obtain ⟨blk, q1, q2⟩ := Eff.run_rd h2
      cases hy with
      | ptr hp =>
        rename_i p
        split at q2
        · obtain ⟨m0, cm, m1, m2, m3⟩ := iter_at S q1 hp
          have := Eff.run_ret q2
          subst this
          rw [m2 rfl] at m1
          refine OpRes.same (cv := .tuple #[.bool false]) S ?_ (.tuple _ rfl fun i x e => ?_)
          · simp only [execOp, ho, hx, m0]
            refine run_value ?_
            unfold Instr.next
            simp [getObj_run (P := P) m1 (by simp)]
          · match i, e with
            | 0, e => cases e; exact .bool _
        · rename_i m since seen last
          obtain ⟨m0, cm, m1, m2, m3⟩ := iter_at S q1 hp
          obtain ⟨q, q3, rfl⟩ := m3 _ rfl
          obtain ⟨blk, q4, q5⟩ := Eff.run_rd q2
          split at q5
          · rename_i es cl
            obtain ⟨⟨l⟩, n1, n2⟩ := map_at S q4 q3
            have T := n2.two
            simp only at T
            unfold iterStep at q5
            cases hA : (!seen.isEmpty && !es.isEmpty && es.all fun e => Nat.ble last e.2.2) with
            | true => rw [hA] at q5; exact (Eff.run_fail q5).elim
            | false =>
              rw [hA] at q5
              rw [T.empty, T.all (fun n => Nat.ble last n)] at hA
              have TF := T.filter (fun n => !seen.any fun b => Nat.beq b n)
              simp only [cond_false] at q5
              generalize hes : (es.filter fun e => !seen.any fun b => Nat.beq b e.2.2) = fs at q5 TF
              generalize hls : (l.filter fun e => !seen.any fun b => Nat.beq b e.born) = ls at TF
              cases TF with
              | nil =>
                have := Eff.run_ret q5
                subst this
                refine OpRes.same (cv := .tuple #[.bool false]) S ?_ (.tuple _ rfl fun i x e => ?_)
                · simp only [execOp, ho, hx, m0]
                  exact run_value (by simpa using next_over (P := P) m1 n1 hA hls)
                · match i, e with
                  | 0, e => cases e; exact .bool _
              | cons e1 e2 e3 T2 =>
                rename_i k v bo ke fs ls
                cases T2 with
                | cons _ _ _ _ => exact (Eff.run_fail q5).elim
                | nil =>
                  simp only at q5
                  cases hB : Nat.blt bo since with
                  | false => rw [hB] at q5; exact (Eff.run_fail q5).elim
                  | true =>
                    rw [hB] at q5
                    have := Eff.run_ret (Eff.run_wr q5)
                    subst this
                    have h3 : ke.born < since := by rw [e1]; exact Nat.le_of_ble_eq_true hB
                    obtain ⟨S', X, hrun⟩ := setIter_ok (P := P) (seen' := seen ++ [bo]) (last' := cl) S q1 hp q3
                    rw [← e1] at hrun
                    refine ⟨.value (.tuple #[.bool true, ke.key, ke.val]), _, _, I, φ, ?_, .inl rfl, .tuple _ rfl fun i x e => ?_, S', X⟩
                    · simp only [execOp, ho, hx, m0]
                      rw [← e1]
                      exact run_value (by simpa using next_step (P := P) m1 n1 hA hls h3 hrun)
                    · match i, e with
                      | 0, e => cases e; exact .bool _
                      | 1, e => cases e; exact e2.ext X
                      | 2, e => cases e; exact e3.ext X
          · exact (Eff.run_fail q5).elim
        · exact (Eff.run_fail q2).elim
    · exact (Eff.run_fail h2).elim

theorem opEntry_ok {x : Operand} {o : Oper} {r : AV × Heap} (S : Sim w I φ h) (ht : TRep w I φ t a.tmps)
    (ho : o.op = .entry x) (hr : (opEntry t x).run id h = some r) : OpRes P a o w I φ h r.1 r.2 := by
  obtain ⟨y, h1, h2⟩ := withOp_run hr
  have hy := evalOp_rep ht h1
  generalize hx : a.eval x = cx at hy
  unfold doEntry at h2
  split at h2
  · rename_i b
    obtain ⟨blk, q1, q2⟩ := Eff.run_rd h2
    cases hy with
    | ptr hp =>
      rename_i p
      split at q2
      · rename_i m since seen last
        obtain ⟨m0, cm, m1, m2, m3⟩ := iter_at S q1 hp
        obtain ⟨q, q3, rfl⟩ := m3 _ rfl
        split at q2
        · rename_i stamp hst
          obtain ⟨blk, q4, q5⟩ := Eff.run_rd q2
          split at q5
          · rename_i es cl
            obtain ⟨q6, q7⟩ := bif_run q5
            have hcl : cl = last := Nat.eq_of_beq_eq_true q6
            obtain ⟨e1, e2⟩ := Eff.run_of q7
            obtain ⟨⟨l⟩, n1, n2⟩ := map_at S q4 q3
            have T := n2.two
            simp only at T
            unfold entryAt at e1
            split at e1
            · rename_i e hf
              obtain ⟨ke, f1, f2, f3⟩ := T.find (fun n => Nat.beq n stamp) hf
              have e1 := Option.some.inj e1
              rw [e2, ← e1]
              refine OpRes.same (cv := .tuple #[ke.key, ke.val]) S ?_ (.tuple _ rfl fun i x e => ?_)
              · simp only [execOp, ho, hx, m0]
                refine run_value ?_
                have hfun : (fun e : MapEntry => e.born == stamp) = fun e => Nat.beq e.born stamp := by
                  funext e; rw [Bool.eq_iff_iff]; simp
                have hb : seen.toArray.back? = some stamp := by simpa using hst
                subst hcl
                unfold Instr.entry
                simp [getObj_run (P := P) m1 (by simp), getObj_run (P := P) n1 (by simp), hst, hfun, f1]
              · match i, e with
                | 0, e => cases e; exact f2
                | 1, e => cases e; exact f3
            · cases e1
          · exact (Eff.run_fail q5).elim
        · exact (Eff.run_fail q2).elim
      · exact (Eff.run_fail q2).elim
  · exact (Eff.run_fail h2).elim
end
end Go.AM
