/- The evaluator AM: freezing is sound. -/
import Derived.Test.YtakcafdfbnibkaaGreatDoorC7
set_option linter.unusedVariables false
set_option linter.unusedSimpArgs false
namespace Go.AM

/-- What freezing does: blocks that could be written become blocks that are read alone. -/
structure Frz (w : World) (φ : Phi) (I : Nat → Prop) (h : Heap) (I' : Nat → Prop) (h' : Heap) : Prop where
  sim : Sim w I' φ h'
  ext : Ext w I φ h w I' φ h'
  wr : ∀ b x, Heap.get h' b = some x → writable x → Heap.get h b = some x

section
variable {w : World} {φ : Phi}

theorem Frz.refl {I : Nat → Prop} {h : Heap} (S : Sim w I φ h) : Frz w φ I h I h := ⟨S, Ext.refl _ _ _ _, fun _ _ e _ => e⟩
theorem Frz.trans {I I1 I2 : Nat → Prop} {h h1 h2 : Heap} (a : Frz w φ I h I1 h1) (b : Frz w φ I1 h1 I2 h2) : Frz w φ I h I2 h2 :=
  ⟨b.sim, a.ext.trans b.ext, fun x y e hw => a.wr x y (b.wr x y e hw) hw⟩

theorem BRep.up {w : World} {I I' : Nat → Prop} {φ : Phi} {p : Pl} {x : Blk} (hI : ∀ cb, I cb → I' cb) (r : BRep w I φ p x) : BRep w I' φ p x := by
  have hv : ∀ {φ : Phi} {y : AV} {u : Value}, VRep w I φ y u → VRep w I' φ y u := fun r => r.mono hI (fun _ _ _ => rfl) _ (fun _ _ e => e)
  cases x with
  | cells s k rows =>
    obtain ⟨a1, a2, a3, a4, a5, cc, el, a6, a7, a8⟩ := r
    exact ⟨a1, a2, a3, a4, a5, cc, el, a6, a7, fun i j c e => by obtain ⟨q1, v, q2, q3⟩ := a8 i j c e; exact ⟨q1, v, q2, hv q3⟩⟩
  | imm k rows =>
    obtain ⟨a1, a2, a3, a5, a8⟩ := r
    exact ⟨a1, a2, a3, a5, fun i j c e => by obtain ⟨q1, q0, v, q2, q3⟩ := a8 i j c e; exact ⟨q1, hI _ q0, v, q2, hv q3⟩⟩
  | map es cl =>
    obtain ⟨ces, a1, a2, a3⟩ := r
    exact ⟨ces, a1, a2, fun i k v b e => by obtain ⟨ke, q1, q2, q3, q4⟩ := a3 i k v b e; exact ⟨ke, q1, q2, hv q3, hv q4⟩⟩
  | iter m since seen last => exact r
  | dead => trivial

/-- One block is frozen. -/
theorem Frz.block {I I1 : Nat → Prop} {h h1 : Heap} {b k : Nat} {s : Bool} {rows rows' : List (List AV)} {p : Pl} (S : Sim w I φ h) (f : Frz w φ I h I1 h1)
    (hb : Heap.get h b = some (.cells s k rows)) (hp : φ b = some p)
    (hr : BRep w (fun cb => I1 cb ∨ cb = p.cb) φ p (.imm k rows')) : Frz w φ I h (fun cb => I1 cb ∨ cb = p.cb) (Heap.put h1 b (.imm k rows')) := by
  have hwr : ∀ b' x, Heap.get (Heap.put h1 b (.imm k rows')) b' = some x → writable x → Heap.get h b' = some x ∧ b' ≠ b := by
    intro b' x e hw
    rw [Heap.get_put_of] at e
    split at e
    · cases e; exact hw.elim
    · rename_i hne
      exact ⟨f.wr b' x e hw, fun e => hne e.symm⟩
  have hown : Owned φ h p.cb := ⟨b, _, p, hb, trivial, hp, rfl⟩
  have howned : ∀ cb, Owned φ (Heap.put h1 b (.imm k rows')) cb → Owned φ h cb ∧ cb ≠ p.cb := by
    rintro cb ⟨b', x, p', e1, e2, e3, e4⟩
    obtain ⟨g1, g2⟩ := hwr b' x e1 e2
    refine ⟨⟨b', x, p', g1, e2, e3, e4⟩, fun e => g2 ?_⟩
    exact S.inj b' b _ _ p' p g1 hb e2 trivial e3 hp (e4.trans e)
  have howned1 : ∀ cb, Owned φ (Heap.put h1 b (.imm k rows')) cb → Owned φ h1 cb := by
    rintro cb ⟨b', x, p', e1, e2, e3, e4⟩
    rw [Heap.get_put_of] at e1
    split at e1
    · cases e1; exact e2.elim
    · exact ⟨b', x, p', e1, e2, e3, e4⟩
  refine ⟨⟨?_, ?_, ?_, ?_, ?_, ?_, f.sim.glob.mono (fun _ e => .inl e) (fun _ _ _ => rfl)⟩, ⟨rfl, rfl, rfl, Nat.le_refl _, fun _ _ e => e, fun cb e => .inl (f.ext.imm cb e), fun _ _ => rfl, fun _ _ _ => rfl, fun cb o _ => (howned cb o).1, ?_, fun _ => rfl⟩, fun b' x e hw => (hwr b' x e hw).1⟩
  · intro b' p' e
    rw [Heap.get_put_of]
    split
    · exact ⟨_, rfl⟩
    · exact f.sim.dom b' p' e
  · intro b' x e
    rw [Heap.get_put_of] at e
    split at e
    · rename_i e'; subst e'; exact ⟨p, hp⟩
    · exact f.sim.pl b' x e
  · intro b' x p' e1 e2
    rw [Heap.get_put_of] at e1
    split at e1
    · rename_i e'; subst e'; cases e1; rw [hp] at e2; cases e2; exact hr
    · exact BRep.up (fun cb e => .inl e) (f.sim.rep b' x p' e1 e2)
  · intro cb o
    refine ⟨fun e => ?_, (S.own cb (howned cb o).1).2⟩
    rcases e with e | e
    · exact (f.sim.own cb (howned1 cb o)).1 e
    · exact (howned cb o).2 e
  · intro b1 b2 x1 x2 p1 p2 e1 e2 w1 w2 q1 q2 e
    exact S.inj b1 b2 x1 x2 p1 p2 (hwr _ _ e1 w1).1 (hwr _ _ e2 w2).1 w1 w2 q1 q2 e
  · intro cb e
    rcases e with e | e
    · exact f.sim.imm cb e
    · subst e; exact (S.own _ hown).2
  · intro cb e hc
    rcases e with e | e
    · exact f.ext.new cb e hc
    · subst e; exact .inr hown

/-- A slice of rows that are read alone, as a tree. -/
theorem isl_of {I : Nat → Prop} {b off len k : Nat} {cap : Option Nat} {u : Value} {p : Pl} {rows es : List (List AV)} (hv : VRep w I φ (.sl b off len k cap) u) (hp : φ b = some p) {k' : Nat}
    (r : BRep w I φ p (.imm k' rows)) (he : es = (rows.drop off).take len) (hl : es.length = len) : VRep w I noPhi (.isl es none) u := by
  obtain ⟨a1, a2, a3, a4, a5⟩ := r
  cases hv with
  | sl hp' g0 g1 g2 g3 g4 g5 g6 =>
    rename_i ccap p' ad
    rw [hp] at hp'; cases hp'
    have hk : k' = k := a1.symm.trans g0
    subst hk
    have hrow : ∀ i j c, rowAt es i j = some c → rowAt rows (off + i) j = some c := by
      intro i j c e
      rw [he] at e
      exact rowAt_drop (rowAt_take e).2
    refine .isl (cb := p.cb) (d := p.d + off * k') (k := k') (fun i j => (w.cell? (cellAt p.cb (p.d + off * k' + i * k' + j))).getD _root_.Go.undef)
      (fun e hm => a4 e (by rw [he] at hm; exact List.mem_of_mem_drop (List.mem_of_mem_take hm))) (fun i j c e => ?_) (fun i j c e => ?_) hl g2 (by simp) ?_
    · obtain ⟨q1, q2, v, q3, q4⟩ := a5 _ _ _ (hrow i j c e)
      rw [Nat.add_mul, ← Nat.add_assoc] at q3
      refine ⟨q1, q2, ?_⟩
      rw [q3]; rfl
    · obtain ⟨q1, q2, v, q3, q4⟩ := a5 _ _ _ (hrow i j c e)
      rw [Nat.add_mul, ← Nat.add_assoc] at q3
      rw [q3]; exact q4
    · rcases g6 with g6 | g6
      · left
        have : len = 0 := by omega
        subst this
        exact List.eq_nil_of_length_eq_zero hl
      · right; rw [g6, g0]

structure FrzAll (w : World) (φ : Phi) (n : Nat) : Prop where
  one : ∀ (I : Nat → Prop) (h h' : Heap) (v v' : AV) (u : Value), Sim w I φ h → VRep w I φ v u → freeze n h v = some (v', h') →
    ∃ I', Frz w φ I h I' h' ∧ VRep w I' noPhi v' u ∧ (isCell v = true → isCell v' = true)
  all : ∀ (I : Nat → Prop) (h h' : Heap) (vs vs' : List AV) (us : Nat → Value), Sim w I φ h → (∀ (i : Nat) x, vs[i]? = some x → VRep w I φ x (us i)) → freezeAll n h vs = some (vs', h') →
    ∃ I', Frz w φ I h I' h' ∧ vs'.length = vs.length ∧ (∀ (i : Nat) x, vs'[i]? = some x → VRep w I' noPhi x (us i)) ∧ ((∀ (i : Nat) x, vs[i]? = some x → isCell x = true) → ∀ (i : Nat) x, vs'[i]? = some x → isCell x = true)
  rows : ∀ (I : Nat → Prop) (h h' : Heap) (vs vs' : List (List AV)) (us : Nat → Nat → Value), Sim w I φ h → (∀ i j x, rowAt vs i j = some x → isCell x = true ∧ VRep w I φ x (us i j)) → freezeRows n h vs = some (vs', h') →
    ∃ I', Frz w φ I h I' h' ∧ vs'.length = vs.length ∧ (∀ k, (∀ e ∈ vs, e.length = k) → ∀ e ∈ vs', e.length = k) ∧ (∀ i j x, rowAt vs' i j = some x → isCell x = true ∧ VRep w I' noPhi x (us i j))

theorem vrep_up {I I' : Nat → Prop} {φ : Phi} {x : AV} {u : Value} (hI : ∀ cb, I cb → I' cb) (r : VRep w I φ x u) : VRep w I' φ x u := r.mono hI (fun _ _ _ => rfl) _ (fun _ _ e => e)

theorem frz_all : ∀ n, FrzAll w φ n
  | 0 => ⟨fun _ _ _ _ _ _ _ _ e => by simp [freeze] at e, fun _ _ _ _ _ _ _ _ e => by simp [freezeAll] at e, fun _ _ _ _ _ _ _ _ e => by simp [freezeRows] at e⟩
  | n + 1 => by
    have ih := frz_all n
    refine ⟨?_, ?_, ?_⟩
    · intro I h h' v v' u S hv e
      have same : ∀ {x : AV}, x = v → VRep w I noPhi x u → (some (x, h) : Option (AV × Heap)) = some (v', h') → ∃ I', Frz w φ I h I' h' ∧ VRep w I' noPhi v' u ∧ (isCell v = true → isCell v' = true) := by
        intro x e1 hx e2
        cases e2; subst e1
        exact ⟨I, Frz.refl S, hx, id⟩
      unfold freeze at e
      cases v with
      | ptr b i j => cases e
      | map b => cases e
      | bool b => cases hv; exact same rfl (.bool _) e
      | int k m => cases hv; exact same rfl (.int _ _) e
      | str s => cases hv with | str s hs => exact same rfl (.str s hs) e
      | nilptr => cases hv; exact same rfl .nilptr e
      | nilsl => cases hv; exact same rfl .nilsl e
      | nilmap => cases hv; exact same rfl .nilmap e
      | nilfunc => cases hv; exact same rfl .nilfunc e
      | niliface => cases hv; exact same rfl .niliface e
      | iptr row i j => cases hv with | iptr f a1 a2 a3 => exact same rfl (.iptr f a1 a2 a3) e
      | isl row cap => cases hv with | isl f a1 a2 a3 a4 a5 a6 a7 => exact same rfl (.isl f a1 a2 a3 a4 a5 a6 a7) e
      | func f a b =>
        simp only at e
        cases hb : (a.isEmpty && b.isEmpty) with
        | false => rw [hb] at e; cases e
        | true =>
          rw [hb] at e
          simp only [Bool.and_eq_true, List.isEmpty_iff] at hb
          obtain ⟨rfl, rfl⟩ := hb
          cases hv with
          | func va vb a1 a2 a3 a4 => exact same rfl (.func va vb a1 a2 (fun i x e => by simp at e) (fun i x e => by simp at e)) e
      | iface ty x =>
        simp only at e
        split at e
        · rename_i x' h1 hx
          cases e
          cases hv with
          | iface hv =>
            obtain ⟨I', f, r, _⟩ := ih.one I h _ x x' _ S hv hx
            exact ⟨I', f, .iface r, fun _ => rfl⟩
        · cases e
      | agg cs =>
        simp only at e
        split at e
        · rename_i x' h1 hx
          cases e
          cases hv with
          | agg va a1 a2 =>
            obtain ⟨I', f, l, r, _⟩ := ih.all I h _ cs x' (fun i => va.getD i _root_.Go.undef) S a2 hx
            exact ⟨I', f, .agg va (a1.trans l.symm) r, fun e => by cases e⟩
        · cases e
      | tuple cs =>
        simp only at e
        split at e
        · rename_i x' h1 hx
          cases e
          cases hv with
          | any =>
            obtain ⟨I', f, l, r, _⟩ := ih.all I h _ [] x' (fun i => _root_.Go.undef) S (fun i x e => by simp at e) hx
            have : x' = [] := List.eq_nil_of_length_eq_zero l
            subst this
            exact ⟨I', f, .any, fun e => by cases e⟩
          | tuple va a1 a2 =>
            obtain ⟨I', f, l, r, _⟩ := ih.all I h _ cs x' (fun i => va.getD i _root_.Go.undef) S a2 hx
            exact ⟨I', f, .tuple va (a1.trans l.symm) r, fun e => by cases e⟩
        · cases e
      | sl b off len k cap =>
        simp only at e
        have hpp : ∃ p, φ b = some p := by cases hv with | sl hp => exact ⟨_, hp⟩
        obtain ⟨p, hp⟩ := hpp
        split at e
        · rename_i k' rows hb
          cases hl : (((rows.drop off).take len).length.beq len) with
          | false => simp only [hl] at e; cases e
          | true =>
            simp only [hl] at e
            cases e
            exact ⟨I, Frz.refl S, isl_of hv hp (S.rep b _ p hb hp) rfl (Nat.eq_of_beq_eq_true hl), fun _ => rfl⟩
        · rename_i s k' rows hb
          split at e
          · rename_i rows' h1 hx
            cases hl : (((rows'.drop off).take len).length.beq len) with
            | false => simp only [hl] at e; cases e
            | true =>
              simp only [hl] at e
              cases e
              obtain ⟨b1, b2, b3, b4, b5, cc, el, b6, b7, b8⟩ := S.rep b _ p hb hp
              obtain ⟨I1, f, l, hk, r⟩ := ih.rows I h h1 rows rows' (fun i j => (cc[p.d + i * k' + j]?).getD _root_.Go.undef) S (fun i j x e => by
                obtain ⟨q1, v, q2, q3⟩ := b8 i j x e
                exact ⟨q1, by rw [q2]; exact q3⟩) hx
              have hk' := hk k' b5
              have hr : BRep w (fun cb => I1 cb ∨ cb = p.cb) φ p (.imm k' rows') := by
                refine ⟨b1, by rw [b2, l], b3, hk', fun i j c e => ?_⟩
                obtain ⟨q1, q2⟩ := r i j c e
                obtain ⟨hi, hj⟩ := rowAt_lt hk' e
                have hlt : p.d + i * k' + j < cc.size := by
                  have h1 : i * k' + j < rows.length * k' := idx_lt (by rw [← l]; exact hi) hj
                  have h2 : rows.length * k' ≤ p.N * k' := Nat.mul_le_mul_right k' (by omega)
                  omega
                refine ⟨q1, .inr rfl, cc[p.d + i * k' + j], ?_, ?_⟩
                · simp only [World.cell?, b6]; simp [Array.getElem?_eq_getElem hlt]
                · rw [Array.getElem?_eq_getElem hlt] at q2
                  exact vrep_up (fun _ e => .inl e) q2
              have F := Frz.block S f hb hp hr
              have hv' : VRep w (fun cb => I1 cb ∨ cb = p.cb) φ (.sl b off len k cap) u := hv.ext F.ext
              exact ⟨_, F, isl_of hv' hp hr rfl (Nat.eq_of_beq_eq_true hl), fun _ => rfl⟩
          · cases e
        · cases e
    · intro I h h' vs vs' us S hv e
      cases vs with
      | nil =>
        unfold freezeAll at e
        cases e
        exact ⟨I, Frz.refl S, rfl, fun i x e => by simp at e, fun _ i x e => by simp at e⟩
      | cons y ys =>
        unfold freezeAll at e
        split at e
        · rename_i y' h1 h2
          split at e
          · rename_i ys' h3 h4
            cases e
            obtain ⟨I1, f1, r1, c1⟩ := ih.one I h h1 y y' (us 0) S (hv 0 y rfl) h2
            obtain ⟨I2, f2, l2, r2, c2⟩ := ih.all I1 h1 h' ys ys' (fun i => us (i + 1)) f1.sim (fun i x e => (hv (i + 1) x (by simpa using e)).ext f1.ext) h4
            refine ⟨I2, f1.trans f2, by simp [l2], fun i x e => ?_, fun hc i x e => ?_⟩
            · cases i with
              | zero => cases e; exact r1.tree_ext f2.ext
              | succ i => exact r2 i x (by simpa using e)
            · cases i with
              | zero => cases e; exact c1 (hc 0 y rfl)
              | succ i => exact c2 (fun i x e => hc (i + 1) x (by simpa using e)) i x (by simpa using e)
          · cases e
        · cases e
    · intro I h h' vs vs' us S hv e
      cases vs with
      | nil =>
        unfold freezeRows at e
        cases e
        exact ⟨I, Frz.refl S, rfl, fun _ h => h, fun i j x e => by simp [rowAt] at e⟩
      | cons y ys =>
        unfold freezeRows at e
        split at e
        · rename_i y' h1 h2
          split at e
          · rename_i ys' h3 h4
            cases e
            obtain ⟨I1, f1, l1, r1, c1⟩ := ih.all I h h1 y y' (us 0) S (fun j x e => (hv 0 j x (by simpa [rowAt] using e)).2) h2
            obtain ⟨I2, f2, l2, k2, r2⟩ := ih.rows I1 h1 h' ys ys' (fun i => us (i + 1)) f1.sim (fun i j x e => by
              obtain ⟨q1, q2⟩ := hv (i + 1) j x (by simpa [rowAt] using e)
              exact ⟨q1, q2.ext f1.ext⟩) h4
            refine ⟨I2, f1.trans f2, by simp [l2], fun k hk e he => ?_, fun i j x e => ?_⟩
            · rcases List.mem_cons.1 he with rfl | he
              · rw [l1]; exact hk y (by simp)
              · exact k2 k (fun e he => hk e (by simp [he])) e he
            · cases i with
              | zero =>
                have e : y'[j]? = some x := by simpa [rowAt] using e
                exact ⟨c1 (fun j x e => (hv 0 j x (by simpa [rowAt] using e)).1) j x e, (r1 j x e).tree_ext f2.ext⟩
              | succ i => exact r2 i j x (by simpa [rowAt] using e)
          · cases e
        · cases e
end
end Go.AM
