/- The evaluator AM: code is sound. -/
import Derived.Test.YtakcafdfbnibkaaGreatDoorE0
import Derived.Scope
set_option linter.unusedVariables false
set_option linter.unusedSimpArgs false
namespace Go.AM
section
variable {E : Env} {P : Program} {call : CallFn}

def exitOf : AX → Exit
  | .normal => .normal
  | .exit id => .exit id
  | .ret => .ret

/-- That a code's run is sound. -/
def CodeOK (E : Env) (P : Program) (call : CallFn) (c : Code) : Prop := ∀ (n : Nat) (s s' : St) (x : AX) (Q : Exit → Act → World → Prop) (a : Act) (w : World) (I : Nat → Prop) (φ : Phi),
  exec E call c s = some (x, s') → tidy c = true → dstOk n c = true → a.tmps.size = n → Sim w I φ s.heap → TRep w I φ s.tmps a.tmps →
  Cont w I φ s.heap a s' (fun a w => Q (exitOf x) a w) → c.wp P Q a w

theorem Cont.next {w w' : World} {I I' : Nat → Prop} {φ φ' : Phi} {h h' : Heap} {a a' : Act} {s' : St} {K : Act → World → Prop} (hK : Cont w I φ h a s' K)
    (z1 : a'.defers = a.defers) (z2 : a'.tmps.size = a.tmps.size) (X : Ext w I φ h w' I' φ' h') : Cont w' I' φ' h' a' s' K :=
  fun a'' w'' I'' φ'' q1 q2 S'' ht'' X' => hK a'' w'' I'' φ'' (q1.trans z1) (q2.trans z2) S'' ht'' (X.trans X')

theorem exists_least {p : Nat → Prop} : ∀ n, p n → ∃ k, p k ∧ ∀ j, p j → k ≤ j := by
  intro n
  induction n using Nat.strongRecOn with
  | _ n ih =>
    intro h
    by_cases hs : ∃ j, j < n ∧ p j
    · obtain ⟨j, hj, hp⟩ := hs; exact ih j hj hp
    · refine ⟨n, h, fun j hj => ?_⟩
      rcases Nat.lt_or_ge j n with hl | hl
      · exact absurd ⟨j, hl, hj⟩ hs
      · exact hl

theorem loop_ok {c : Code} (ih : CodeOK E P call c) {n : Nat} {s s' : St} {x : AX} {Q : Exit → Act → World → Prop} {a : Act} {w : World} {I : Nat → Prop} {φ : Phi} {fuel : Nat}
    (e : iterate (exec E call c) fuel s = some (x, s')) (ht : tidy c = true) (hd : dstOk n c = true) (hn : a.tmps.size = n) (S : Sim w I φ s.heap) (hr : TRep w I φ s.tmps a.tmps)
    (hK : Cont w I φ s.heap a s' (fun a w => Q (exitOf x) a w)) : (Code.loop c).wp P Q a w := by
  classical
  let Inv : Nat → Act → World → Prop := fun k a w => ∃ s I φ, iterate (exec E call c) k s = some (x, s') ∧ a.tmps.size = n ∧ Sim w I φ s.heap ∧ TRep w I φ s.tmps a.tmps ∧
    Cont w I φ s.heap a s' (fun a w => Q (exitOf x) a w)
  have h0 : ∃ k, Inv k a w := ⟨fuel, s, I, φ, e, hn, S, hr, hK⟩
  have least : ∀ a w, (∃ k, Inv k a w) → ∃ k, Inv k a w ∧ ∀ j, Inv j a w → k ≤ j := fun a w ⟨k, hk⟩ => exists_least (p := fun k => Inv k a w) k hk
  let μ : Act → World → Nat := fun a w => if h : ∃ k, Inv k a w then Classical.choose (least a w h) else 0
  have μ_eq : ∀ a w (h : ∃ k, Inv k a w), Inv (μ a w) a w ∧ ∀ j, Inv j a w → μ a w ≤ j := by
    intro a w h
    have : μ a w = Classical.choose (least a w h) := dif_pos h
    rw [this]; exact Classical.choose_spec (least a w h)
  refine wp_loop (fun a w => ∃ k, Inv k a w) μ h0 ?_
  intro a w hI
  obtain ⟨⟨s, I, φ, e, hn, S, hr, hK⟩, _⟩ := μ_eq a w hI
  generalize hμ : μ a w = k at e
  cases k with
  | zero => cases e
  | succ k =>
    unfold iterate at e
    dsimp only at e
    cases hx : exec E call c s with
    | none => rw [hx] at e; cases e
    | some r =>
      obtain ⟨y, s1⟩ := r
      rw [hx] at e
      dsimp only at e
      refine ih n s s1 y _ a w I φ hx ht hd hn S hr ?_
      intro a' w' I' φ' z1 z2 S' ht' X
      cases y with
      | normal =>
        have hI' : Inv k a' w' := ⟨s1, I', φ', e, z2.trans hn, S', ht', hK.next z1 z2 X⟩
        refine ⟨⟨k, hI'⟩, ?_⟩
        have h1 : μ a' w' ≤ k := (μ_eq a' w' ⟨k, hI'⟩).2 k hI'
        show μ a' w' < k + 1
        omega
      | exit id => cases e; exact hK a' w' I' φ' z1 z2 S' ht' X
      | ret => cases e; exact hK a' w' I' φ' z1 z2 S' ht' X

theorem exec_ok (hE : EnvOK E P) (hc : CallOK P call) (hm : P.follows .mixedOrders = true) (c : Code) : CodeOK E P call c := by
  induction c with
  | skip => intro n s s' x Q a w I φ e ht hd hn S hr hK; cases e; exact wp_skip (hK a w I φ rfl rfl S hr (Ext.refl _ _ _ _))
  | label l => intro n s s' x Q a w I φ e ht hd hn S hr hK; cases e; exact wp_label (hK a w I φ rfl rfl S hr (Ext.refl _ _ _ _))
  | exit id => intro n s s' x Q a w I φ e ht hd hn S hr hK; cases e; exact wp_exit (hK a w I φ rfl rfl S hr (Ext.refl _ _ _ _))
  | ret => intro n s s' x Q a w I φ e ht hd hn S hr hK; cases e; exact wp_ret (hK a w I φ rfl rfl S hr (Ext.refl _ _ _ _))
  | region rid ops draw =>
    intro n s s' x Q a w I φ e ht hd hn S hr hK
    have e : xRegion E call ops draw s = some (x, s') := e
    have hx : x = .normal := by
      unfold xRegion at e
      cases hb : (!draw || easy ops.toList || pairsOk [] (logsOf E call ops.toList s) (masks ops.toList [])) with
      | false => rw [hb] at e; cases e
      | true =>
        rw [hb] at e
        simp only [cond_true] at e
        split at e <;> cases e
        rfl
    subst hx
    refine (region_ok hE hc hm (rid := rid) e (fun hdr => ?_) ?_ S hr hK).2
    · subst hdr; simpa [tidy] using ht
    · intro o ho d hod
      unfold dstOk at hd
      have := List.all_eq_true.1 hd o ho
      rw [hod] at this
      rw [hn]; exact Nat.le_of_ble_eq_true this
  | seq x y ih1 ih2 =>
    intro n s s' ex Q a w I φ e ht hd hn S hr hK
    simp only [tidy, dstOk, Bool.and_eq_true] at ht hd
    have e : xSeq (exec E call x) (exec E call y) s = some (ex, s') := e
    unfold xSeq at e
    cases hx : exec E call x s with
    | none => rw [hx] at e; cases e
    | some r =>
      obtain ⟨e1, s1⟩ := r
      rw [hx] at e
      dsimp only at e
      refine wp_seq (ih1 n s s1 e1 _ a w I φ hx ht.1 hd.1 hn S hr ?_)
      intro a' w' I' φ' z1 z2 S' ht' X
      cases e1 with
      | normal => exact ih2 n s1 s' ex Q a' w' I' φ' e ht.2 hd.2 (z2.trans hn) S' ht' (hK.next z1 z2 X)
      | exit id => cases e; exact hK a' w' I' φ' z1 z2 S' ht' X
      | ret => cases e; exact hK a' w' I' φ' z1 z2 S' ht' X
  | cond c x y ih1 ih2 =>
    intro n s s' ex Q a w I φ e ht hd hn S hr hK
    simp only [tidy, dstOk, Bool.and_eq_true] at ht hd
    have e : xCond c (exec E call x) (exec E call y) s = some (ex, s') := e
    unfold xCond at e
    cases hx : evalOp s.tmps c with
    | none => rw [hx] at e; cases e
    | some v =>
      rw [hx] at e
      have hv := evalOp_rep hr hx
      generalize hcv : a.eval c = cv at hv
      cases v with
      | bool b =>
        cases hv
        cases b with
        | true => exact wp_cond_true hcv (ih1 n s s' ex Q a w I φ e ht.1 hd.1 hn S hr hK)
        | false => exact wp_cond_false hcv (ih2 n s s' ex Q a w I φ e ht.2 hd.2 hn S hr hK)
      | _ => cases e
  | block id c ih =>
    intro n s s' ex Q a w I φ e ht hd hn S hr hK
    have e : xBlock id (exec E call c) s = some (ex, s') := e
    unfold xBlock at e
    cases hx : exec E call c s with
    | none => rw [hx] at e; cases e
    | some r =>
      obtain ⟨y, s1⟩ := r
      rw [hx] at e
      dsimp only at e
      refine wp_block (ih n s s1 y _ a w I φ hx ht hd hn S hr ?_)
      intro a' w' I' φ' z1 z2 S' ht' X
      cases y with
      | normal => cases e; exact hK a' w' I' φ' z1 z2 S' ht' X
      | ret => cases e; exact hK a' w' I' φ' z1 z2 S' ht' X
      | exit id' =>
        dsimp only at e
        show (if id' = id then Q .normal a' w' else Q (.exit id') a' w')
        cases hb : id'.beq id with
        | true =>
          rw [hb] at e
          cases e
          rw [if_pos (Nat.eq_of_beq_eq_true hb)]
          exact hK a' w' I' φ' z1 z2 S' ht' X
        | false =>
          rw [hb] at e
          cases e
          rw [if_neg (Nat.ne_of_beq_eq_false hb)]
          exact hK a' w' I' φ' z1 z2 S' ht' X
  | loop c ih =>
    intro n s s' ex Q a w I φ e ht hd hn S hr hK
    exact loop_ok ih e ht hd hn S hr hK
  | scope c ih =>
    intro n s s' ex Q a w I φ e ht hd hn S hr hK
    refine wp_scope_straight (ih n s s' ex _ a w I φ e ht hd hn S hr ?_)
    intro a' w' I' φ' z1 z2 S' ht' X
    cases ex with
    | normal => exact hK a' w' I' φ' z1 z2 S' ht' X
    | exit id => exact hK a' w' I' φ' z1 z2 S' ht' X
    | ret => exact hK a' w' I' φ' z1 z2 S' ht' X
  | _ => intro n s s' x Q a w I φ e; cases e
end
end Go.AM
