/- The evaluator AM: whole regions are sound. -/
import Derived.Test.YtakcafdfbnibkaaGreatDoorD9
set_option linter.unusedVariables false
set_option linter.unusedSimpArgs false
namespace Go.AM
section
variable {E : Env} {P : Program} {call : CallFn} {ops : Array Oper} {Q : Exit → Act → World → Prop}

theorem clog_plain {id : Nat} {o : Oper} {t : Tmps} {h : Heap} {n : Nat} (ha : asks o.op = false) : (clog E call ops id o t h n).plain = true := by
  unfold clog oneLog
  cases guardOk ops.toList t o with
  | false => rfl
  | true =>
    have hc : isCallOp o.op = none := by
      unfold isCallOp
      split
      · rename_i c hc; rw [hc] at ha; cases ha
      · rfl
    obtain ⟨h1, h2⟩ := still_oper (E := E) (id := id) (t := t) ha id h
    simp only [hc, cond_true, Log.plain, h1, h2]
    rfl

theorem clog_mild {id : Nat} {o : Oper} {t : Tmps} {h : Heap} {n : Nat} (ha : acts o.op = false) : (clog E call ops id o t h n).wrote = false := by
  unfold clog oneLog
  cases guardOk ops.toList t o with
  | false => rfl
  | true =>
    have hc : isCallOp o.op = none := by
      unfold isCallOp
      split
      · rename_i c hc
        rw [hc] at ha
        unfold acts at ha
        dsimp only at ha
        split
        · rfl
        · split at ha <;> first | (cases ha; done) | (rename_i hx; simp_all)
      · rfl
    have h2 := mild_oper (E := E) (id := id) (t := t) ha id h
    simp only [hc, cond_true, h2]
    rfl

theorem text_plain {o : Op} (h : (textLog o).plain = true) : asks o = false := by
  cases ha : asks o with
  | false => rfl
  | true => simp [textLog, Log.plain, ha] at h

theorem text_compat {ix iy : Nat} {x y : Oper} {t t' : Tmps} {h h' : Heap} {n n' : Nat} (hc : (textLog x.op).compat (textLog y.op) = true) :
    (clog E call ops ix x t h n).compat (clog E call ops iy y t' h' n') = true := by
  unfold Log.compat at hc ⊢
  simp only [Bool.or_eq_true] at hc ⊢
  rcases hc with ((hc | hc) | hc) | hc
  · exact .inl (.inl (.inl (clog_plain (text_plain hc))))
  · exact .inl (.inl (.inr (clog_plain (text_plain hc))))
  · simp only [Bool.and_eq_true, Bool.not_eq_true'] at hc
    have h1 : acts x.op = false := hc.1
    have h2 : acts y.op = false := hc.2
    refine .inl (.inr ?_)
    rw [clog_mild h1, clog_mild h2]; rfl
  · refine .inl (.inl (.inl (clog_plain ?_)))
    cases ha : asks x.op with
    | false => rfl
    | true => simp [textLog, ha] at hc

theorem maskOK_of (h : tidyR ops = true) : MaskOK ops (masks ops.toList []) := by
  unfold tidyR at h
  simp only [Bool.and_eq_true] at h
  obtain ⟨_, _, h3⟩ := masks_spec ops.toList []
  refine ⟨fun i o k ho hb => ?_, fun i o ho e he hb => ?_⟩
  · rw [← Array.getElem?_toList] at ho
    obtain ⟨ms', q1, q2⟩ := h3 i o ho
    simp only [List.length_nil, Nat.zero_add] at q1
    rw [List.getD_eq_getElem?_getD, q1] at hb
    obtain ⟨e, e1, e2, e3⟩ := maskOf_bit hb
    refine ⟨e, e1, e2, e3.imp id fun hh => ?_⟩
    cases hx : ms'[e.on]? with
    | none => rw [List.getD_eq_getElem?_getD, hx] at hh; simp at hh
    | some m =>
      rw [List.getD_eq_getElem?_getD, hx] at hh
      rw [List.getD_eq_getElem?_getD, q2 _ _ hx]; exact hh
  · rw [← Array.getElem?_toList] at ho
    have := backs_spec _ 0 h.2 i o ho e he hb
    omega

theorem rest_of {l0 : List Item} (ht : tidyR ops = true) (hlen : l0.length = ops.size) (hidx : ∀ (j : Nat) x, l0[j]? = some x → x.1.1 = j ∧ ops[j]? = some x.1.2.2)
    (hp : ∀ (j : Nat) x, l0[j]? = some x → ∀ (k : Nat) y, k < j → l0[k]? = some y → ((masks ops.toList []).getD j 0).testBit k = true ∨ y.2.compat x.2 = true) :
    Rest ops (masks ops.toList []) (Array.replicate ops.size false) l0 := by
  have ht2 := ht
  unfold tidyR at ht2
  simp only [Bool.and_eq_true] at ht2
  obtain ⟨m1, _, m3⟩ := masks_spec ops.toList []
  have at_ : ∀ x ∈ l0, l0[x.1.1]? = some x ∧ ops[x.1.1]? = some x.1.2.2 := by
    intro x hx
    obtain ⟨j, hj⟩ := List.getElem?_of_mem hx
    obtain ⟨q1, q2⟩ := hidx j x hj
    rw [q1]; exact ⟨hj, q2⟩
  refine ⟨fun x hx => (at_ x hx).2, fun i hi => ?_, by simp, ?_, fun x hx y hy hlt => ?_, fun j k hj => ?_⟩
  · constructor
    · intro _
      have hl : i < l0.length := by omega
      exact ⟨l0[i], List.getElem_mem hl, (hidx i _ (List.getElem?_eq_getElem hl)).1⟩
    · intro _; simp [hi]
  · rw [List.pairwise_iff_getElem]
    intro i j hi hj hij
    rw [(hidx i _ (List.getElem?_eq_getElem hi)).1, (hidx j _ (List.getElem?_eq_getElem hj)).1]; exact hij
  · obtain ⟨x1, x2⟩ := at_ x hx
    obtain ⟨y1, y2⟩ := at_ y hy
    rcases hp y.1.1 y y1 x.1.1 x hlt x1 with h | h
    · exact .inl h
    · rw [← Array.getElem?_toList] at x2 y2
      obtain ⟨ms', q1, _⟩ := m3 _ _ y2
      simp only [List.length_nil, Nat.zero_add] at q1
      rcases aparts_spec _ [] _ ht2.1 y.1.1 y.1.2.2 _ y2 q1 x.1.1 x.1.2.2 (by simpa using hlt) (by simpa using x2) with g | g
      · left; rw [List.getD_eq_getElem?_getD, q1]; exact g
      · exact .inr ⟨h, g⟩
  · exfalso
    rw [Array.getD_eq_getD_getElem?, Array.getElem?_replicate] at hj
    split at hj <;> simp at hj

theorem trace_log : ∀ (l : List Oper) (m id : Nat) (s : St), ∀ x ∈ trace E call ops l m id s, ∃ t h n, x.2 = clog E call ops x.1.2.1 x.1.2.2 t h n
  | [], _, _, _, x, hx => by cases hx
  | o :: l, m, id, s, x, hx => by
    unfold trace at hx
    rcases List.mem_cons.1 hx with rfl | hx
    · exact ⟨_, _, _, rfl⟩
    · split at hx
      · exact trace_log l _ _ _ x hx
      · cases hx

/-- A draw changes nothing that is held. -/
theorem Sim.draw {w : World} {I : Nat → Prop} {φ : Phi} {h : Heap} {k : Nat} (S : Sim w I φ h) : Sim { w with drawn := k } I φ h ∧ Ext w I φ h { w with drawn := k } I φ h :=
  ⟨⟨S.dom, S.pl, fun b x p e1 e2 => (S.rep b x p e1 e2).mono (fun _ _ e => e) (fun _ e => e) (fun _ _ => rfl) (fun _ => rfl), S.own, S.inj, S.imm, S.glob.mono (fun _ e => e) (fun cb o _ => cell_of_heap rfl o)⟩,
    ⟨rfl, rfl, rfl, Nat.le_refl _, fun _ _ e => e, fun _ e => e, fun _ _ => rfl, fun _ _ _ => rfl, fun _ e _ => e, fun _ e _ => .inl e, fun _ => rfl⟩⟩

theorem region_ok (hE : EnvOK E P) (hc : CallOK P call) (hm : P.follows .mixedOrders = true) {rid : Nat} {draw : Bool} {s s' : St} {x : AX} {a : Act} {w : World} {I : Nat → Prop} {φ : Phi}
    (e : xRegion E call ops draw s = some (x, s')) (ht : draw = true → tidyR ops = true) (hd : ∀ o ∈ ops.toList, ∀ d, o.dst = some d → d < a.tmps.size) (S : Sim w I φ s.heap) (hr : TRep w I φ s.tmps a.tmps)
    (hK : Cont w I φ s.heap a s' (fun a w => Q .normal a w)) : x = .normal ∧ (Code.region rid ops draw).wp P Q a w := by
  unfold xRegion at e
  cases hb : (!draw || easy ops.toList || pairsOk [] (logsOf E call ops.toList s) (masks ops.toList [])) with
  | false => rw [hb] at e; cases e
  | true =>
    rw [hb] at e
    simp only [cond_true] at e
    cases hrun : runOps E call ops.toList s with
    | none => rw [hrun] at e; cases e
    | some s1 =>
      rw [hrun] at e
      cases e
      refine ⟨rfl, ?_⟩
      unfold runOps at hrun
      cases draw with
      | false =>
        refine wp_region ?_
        have := execOps_ok (Q := Q) hE hc ops.toList 0 s.next ⟨s.tmps, s.heap, Nat.add s.next ops.toList.length⟩ s' a w I φ rfl hd S hr hrun hK
        rw [List.range_eq_range']; simpa using this
      | true =>
        refine wp_region_any hm ?_
        obtain ⟨S', X⟩ := Sim.draw (k := w.drawn + 1) S
        obtain ⟨g1, g2, g3, g4⟩ := trace_runs _ 0 _ _ _ hrun
        refine any_ok hE hc (maskOK_of (ht rfl)) ops.size _ _ _ a _ I φ (by rw [g2]; simp) g1 ?_ hd S' (hr.ext X)
          (fun a' w' I' φ' z1 z2 S'' ht'' X' => hK a' w' I' φ' z1 z2 S'' ht'' (X.trans X'))
        obtain ⟨m1, _, m3⟩ := masks_spec ops.toList []
        refine rest_of (ht rfl) (by rw [g2]; simp) (fun j y hj => ?_) (fun j y hj k z hk hz => ?_)
        · obtain ⟨q1, q2⟩ := g4 j y hj
          exact ⟨by omega, by rw [← Array.getElem?_toList]; exact q2⟩
        · obtain ⟨q1, q2⟩ := g4 j y hj
          obtain ⟨r1, r2⟩ := g4 k z hz
          obtain ⟨ms', n1, _⟩ := m3 j _ q2
          simp only [List.length_nil, Nat.zero_add] at n1
          have hM : (masks ops.toList []).getD j 0 = maskOf ms' y.1.2.2 := by rw [List.getD_eq_getElem?_getD, n1]; rfl
          rw [hM]
          simp only [Bool.not_true, Bool.false_or, Bool.or_eq_true] at hb
          rcases hb with hb | hb
          · unfold easy at hb
            rcases pairsOk_spec _ [] _ hb j (textLog y.1.2.2.op) _ (by rw [List.getElem?_map, q2]; rfl) n1 k (textLog z.1.2.2.op) (by simpa using hk) (by rw [List.nil_append, List.getElem?_map, r2]; rfl) with g | g
            · exact .inl g
            · right
              obtain ⟨t1, h1, n1', e1⟩ := trace_log _ _ _ _ y (List.mem_of_getElem? hj)
              obtain ⟨t2, h2, n2', e2⟩ := trace_log _ _ _ _ z (List.mem_of_getElem? hz)
              rw [e1, e2]
              exact text_compat g
          · unfold logsOf at hb
            rw [g3] at hb
            exact pairsOk_spec _ [] _ hb j y.2 _ (by rw [List.getElem?_map, hj]; rfl) n1 k z.2 (by simpa using hk) (by rw [List.nil_append, List.getElem?_map, hz]; rfl)
end
end Go.AM
