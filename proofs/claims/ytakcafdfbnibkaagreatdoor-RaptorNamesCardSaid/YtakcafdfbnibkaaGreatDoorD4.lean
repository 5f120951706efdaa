/- The evaluator AM: effects are local. -/
import Derived.Test.YtakcafdfbnibkaaGreatDoorD3
set_option linter.unusedVariables false
set_option linter.unusedSimpArgs false
namespace Go.AM

noncomputable def puts (l : List (Nat × Blk)) (h : Heap) : Heap := l.foldl (fun H p => Heap.put H p.1 p.2) h

theorem puts_get {b : Nat} : ∀ {l : List (Nat × Blk)} {h : Heap}, (∀ p ∈ l, p.1 ≠ b) → Heap.get (puts l h) b = Heap.get h b
  | [], _, _ => rfl
  | p :: l, h, hn => by
    show Heap.get (puts l (Heap.put h p.1 p.2)) b = Heap.get h b
    rw [puts_get (fun q hq => hn q (by simp [hq])), Heap.get_put_ne (hn p (by simp))]

theorem put_puts {b : Nat} {x : Blk} : ∀ {l : List (Nat × Blk)} {h : Heap}, (∀ p ∈ l, p.1 ≠ b) → puts l (Heap.put h b x) = Heap.put (puts l h) b x
  | [], _, _ => rfl
  | p :: l, h, hn => by
    show puts l (Heap.put (Heap.put h b x) p.1 p.2) = Heap.put (puts l (Heap.put h p.1 p.2)) b x
    rw [Heap.put_comm (hn p (by simp)), put_puts (fun q hq => hn q (by simp [hq]))]

theorem puts_comm : ∀ {l m : List (Nat × Blk)} {h : Heap}, (∀ p ∈ l, ∀ q ∈ m, p.1 ≠ q.1) → puts l (puts m h) = puts m (puts l h)
  | [], _, _, _ => rfl
  | p :: l, m, h, hn => by
    show puts l (Heap.put (puts m h) p.1 p.2) = puts m (puts l (Heap.put h p.1 p.2))
    rw [← put_puts (fun q hq e => hn p (by simp) q hq e.symm), puts_comm (fun a ha b hb => hn a (by simp [ha]) b hb)]

/-- What an effect comes to, in every heap that is alike where it looks. -/
theorem eff_local (id : Nat) (e : Eff) : ∀ (h : Heap) (r : AV × Heap), e.run id h = some r →
    ∃ l : List (Nat × Blk), r.2 = puts l h ∧ (∀ p ∈ l, p.1 ∈ (e.met id h).wr) ∧
      ∀ H : Heap, (∀ b ∈ (e.met id h).rd, Heap.get H b = Heap.get h b) → e.run id H = some (r.1, puts l H) ∧ e.met id H = e.met id h := by
  induction e with
  | fail => intro h r e; cases e
  | ret v => intro h r e; cases e; exact ⟨[], rfl, (fun p hp => by cases hp), fun H _ => ⟨rfl, rfl⟩⟩
  | rd b k ih =>
    intro h r e
    obtain ⟨x, h1, h2⟩ := Eff.run_rd e
    obtain ⟨l, q1, q2, q3⟩ := ih x h r h2
    have hm : ∀ H : Heap, Heap.get H b = some x → (Eff.rd b k).met id H = ⟨b :: ((k x).met id H).rd, ((k x).met id H).wr⟩ := by
      intro H hH
      show (match Heap.get H b with | some x => _ | none => _) = _
      rw [hH]
      rfl
    refine ⟨l, q1, by rw [hm h h1]; exact q2, fun H hH => ?_⟩
    rw [hm h h1] at hH ⊢
    have hb : Heap.get H b = some x := by rw [hH b (by simp)]; exact h1
    obtain ⟨g1, g2⟩ := q3 H (fun c hc => hH c (by simp [hc]))
    refine ⟨?_, by rw [hm H hb, g2]⟩
    show Option.rec (motive := fun _ => Out) none (fun x => (k x).run id H) (Heap.get H b) = _
    rw [hb]; exact g1
  | wr b x k ih =>
    intro h r e
    obtain ⟨l, q1, q2, q3⟩ := ih (Heap.put h b x) r e
    refine ⟨(b, x) :: l, q1, fun p hp => ?_, fun H hH => ?_⟩
    · rcases List.mem_cons.1 hp with rfl | hp
      · exact List.mem_cons_self
      · exact List.mem_cons_of_mem _ (q2 p hp)
    · obtain ⟨g1, g2⟩ := q3 (Heap.put H b x) (fun c hc => by
        rw [Heap.get_put_of, Heap.get_put_of]
        split
        · rfl
        · exact hH c hc)
      refine ⟨g1, ?_⟩
      show (⟨(k.met id (Heap.put H b x)).rd, b :: (k.met id (Heap.put H b x)).wr⟩ : Met) = ⟨(k.met id (Heap.put h b x)).rd, b :: (k.met id (Heap.put h b x)).wr⟩
      rw [g2]
  | nw x k ih =>
    intro h r e
    obtain ⟨h1, h2⟩ := Eff.run_nw e
    obtain ⟨l, q1, q2, q3⟩ := ih (Heap.put h id x) r h2
    refine ⟨(id, x) :: l, q1, fun p hp => ?_, fun H hH => ?_⟩
    · rcases List.mem_cons.1 hp with rfl | hp
      · exact List.mem_cons_self
      · exact List.mem_cons_of_mem _ (q2 p hp)
    · have hid : Heap.get H id = none := by rw [hH id List.mem_cons_self]; exact h1
      obtain ⟨g1, g2⟩ := q3 (Heap.put H id x) (fun c hc => by
        rw [Heap.get_put_of, Heap.get_put_of]
        split
        · rfl
        · exact hH c (List.mem_cons_of_mem _ hc))
      refine ⟨?_, ?_⟩
      · show Option.rec (motive := fun _ => Out) (k.run id (Heap.put H id x)) (fun _ => none) (Heap.get H id) = _
        rw [hid]; exact g1
      · show (⟨id :: (k.met id (Heap.put H id x)).rd, id :: (k.met id (Heap.put H id x)).wr⟩ : Met) = ⟨id :: (k.met id (Heap.put h id x)).rd, id :: (k.met id (Heap.put h id x)).wr⟩
        rw [g2]

/-- What refers to no block is frozen alike in every heap. -/
structure PlainAll (n : Nat) : Prop where
  one : ∀ (m : Nat) (h h' : Heap) (v v' : AV), plain m v = true → freeze n h v = some (v', h') → h' = h ∧ ∀ H, freeze n H v = some (v', H)
  all : ∀ (m : Nat) (h h' : Heap) (vs vs' : List AV), vs.all (plain m) = true → freezeAll n h vs = some (vs', h') → h' = h ∧ ∀ H, freezeAll n H vs = some (vs', H)

theorem plain_all : ∀ n, PlainAll n
  | 0 => ⟨fun _ _ _ _ _ _ e => by simp [freeze] at e, fun _ _ _ _ _ _ e => by simp [freezeAll] at e⟩
  | n + 1 => by
    have ih := plain_all n
    refine ⟨?_, ?_⟩
    · intro m h h' v v' hp e
      cases m with
      | zero => simp [plain] at hp
      | succ m =>
        unfold plain at hp
        unfold freeze at e ⊢
        cases v with
        | ptr b i j => cases hp
        | sl b o l k c => cases hp
        | map b => cases hp
        | agg cs =>
          simp only at hp e ⊢
          split at e
          · rename_i x h1 hx
            cases e
            obtain ⟨e1, e2⟩ := ih.all m _ _ _ _ hp hx
            exact ⟨e1, fun H => by rw [e2 H]⟩
          · cases e
        | tuple cs =>
          simp only at hp e ⊢
          split at e
          · rename_i x h1 hx
            cases e
            obtain ⟨e1, e2⟩ := ih.all m _ _ _ _ hp hx
            exact ⟨e1, fun H => by rw [e2 H]⟩
          · cases e
        | iface ty x =>
          simp only at hp e ⊢
          split at e
          · rename_i x' h1 hx
            cases e
            obtain ⟨e1, e2⟩ := ih.one m _ _ _ _ hp hx
            exact ⟨e1, fun H => by rw [e2 H]⟩
          · cases e
        | func f a b =>
          simp only at hp e ⊢
          rw [hp] at e ⊢
          cases e
          exact ⟨rfl, fun H => rfl⟩
        | _ => cases e; exact ⟨rfl, fun H => rfl⟩
    · intro m h h' vs vs' hp e
      cases vs with
      | nil =>
        unfold freezeAll at e ⊢
        cases e
        exact ⟨rfl, fun H => rfl⟩
      | cons y ys =>
        simp only [List.all_cons, Bool.and_eq_true] at hp
        unfold freezeAll at e ⊢
        split at e
        · rename_i y' h1 h2
          split at e
          · rename_i ys' h3 h4
            cases e
            obtain ⟨e1, e2⟩ := ih.one m _ _ _ _ hp.1 h2
            obtain ⟨e3, e4⟩ := ih.all m _ _ _ _ hp.2 h4
            exact ⟨e3.trans e1, fun H => by rw [e2 H]; simp only; rw [e4 H]⟩
          · cases e
        · cases e
end Go.AM
