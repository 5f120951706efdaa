/- The evaluator AM: trees. -/
import Derived.Test.YtakcafdfbnibkaaGreatDoorA2
namespace Go.AM

theorem T.get_nil {α : Type} (p : List Bool) : T.get p (.nil : T α) = none := by cases p <;> rfl
theorem T.get_node_nil {α : Type} (l r : T α) (v : Option α) : T.get [] (.node l v r) = v := rfl
theorem T.get_node_cons {α : Type} (l r : T α) (v : Option α) (b : Bool) (p : List Bool) :
    T.get (b :: p) (.node l v r) = T.get p (bif b then r else l) := by cases b <;> rfl
theorem T.set_nil_nil {α : Type} (a : α) : T.set a [] (.nil : T α) = .node .nil (some a) .nil := rfl
theorem T.set_node_nil {α : Type} (a : α) (l r : T α) (v : Option α) : T.set a [] (.node l v r) = .node l (some a) r := rfl
theorem T.set_nil_cons {α : Type} (a : α) (b : Bool) (p : List Bool) :
    T.set a (b :: p) (.nil : T α) = bif b then .node .nil none (T.set a p .nil) else .node (T.set a p .nil) none .nil := by cases b <;> rfl
theorem T.set_node_cons {α : Type} (a : α) (b : Bool) (p : List Bool) (l r : T α) (v : Option α) :
    T.set a (b :: p) (.node l v r) = bif b then .node l v (T.set a p r) else .node (T.set a p l) v r := by cases b <;> rfl

theorem T.get_set_same {α : Type} (a : α) : ∀ (p : List Bool) (t : T α), T.get p (T.set a p t) = some a
  | [], .nil => rfl
  | [], .node _ _ _ => rfl
  | b :: p, .nil => by rw [set_nil_cons]; cases b <;> simp only [cond_true, cond_false, get_node_cons] <;> exact get_set_same a p .nil
  | b :: p, .node l v r => by
    rw [set_node_cons]; cases b <;> simp only [cond_true, cond_false, get_node_cons]
    · exact get_set_same a p l
    · exact get_set_same a p r

theorem T.get_set_ne {α : Type} (a : α) : ∀ (p q : List Bool) (t : T α), p ≠ q → T.get q (T.set a p t) = T.get q t
  | [], [], _, h => absurd rfl h
  | [], c :: q, .nil, _ => by rw [set_nil_nil, get_node_cons, get_nil]; cases c <;> exact get_nil q
  | [], c :: q, .node l v r, _ => by rw [set_node_nil, get_node_cons, get_node_cons]
  | b :: p, [], .nil, _ => by rw [set_nil_cons, get_nil]; cases b <;> rfl
  | b :: p, [], .node l v r, _ => by rw [set_node_cons]; cases b <;> rfl
  | b :: p, c :: q, .nil, h => by
    rw [set_nil_cons, get_nil]
    cases b <;> cases c <;> simp only [cond_true, cond_false, get_node_cons, get_nil]
    · rw [get_set_ne a p q .nil (fun e => h (by rw [e])), get_nil]
    · rw [get_set_ne a p q .nil (fun e => h (by rw [e])), get_nil]
  | b :: p, c :: q, .node l v r, h => by
    rw [set_node_cons]
    cases b <;> cases c <;> simp only [cond_true, cond_false, get_node_cons]
    · exact get_set_ne a p q l (fun e => h (by rw [e]))
    · exact get_set_ne a p q r (fun e => h (by rw [e]))

theorem T.set_comm {α : Type} (x y : α) : ∀ (p q : List Bool) (t : T α), p ≠ q → T.set x p (T.set y q t) = T.set y q (T.set x p t)
  | [], [], _, h => absurd rfl h
  | [], c :: q, .nil, _ => by cases c <;> rfl
  | [], c :: q, .node l v r, _ => by cases c <;> rfl
  | b :: p, [], .nil, _ => by cases b <;> rfl
  | b :: p, [], .node l v r, _ => by cases b <;> rfl
  | b :: p, c :: q, .nil, h => by
    rw [set_nil_cons, set_nil_cons]
    cases b <;> cases c <;> simp only [cond_true, cond_false, set_node_cons]
    · rw [set_comm x y p q .nil (fun e => h (by rw [e]))]
    · rw [set_comm x y p q .nil (fun e => h (by rw [e]))]
  | b :: p, c :: q, .node l v r, h => by
    rw [set_node_cons, set_node_cons]
    cases b <;> cases c <;> simp only [cond_true, cond_false, set_node_cons]
    · rw [set_comm x y p q l (fun e => h (by rw [e]))]
    · rw [set_comm x y p q r (fun e => h (by rw [e]))]

/-- The number of a path. -/
def pathNo : List Bool → Nat
  | [] => 1
  | b :: p => 2 * pathNo p + (bif b then 1 else 0)

theorem pathNo_bits : ∀ (f n : Nat), 1 ≤ n → n ≤ f → pathNo (bits f n) = n := by
  intro f
  induction f with
  | zero => intro n h1 h2; omega
  | succ f ih =>
    intro n h1 h2
    show pathNo (cond (Nat.ble n 1) [] (Nat.beq (Nat.mod n 2) 1 :: bits f (Nat.div n 2))) = n
    by_cases h : n ≤ 1
    · have : Nat.ble n 1 = true := Nat.ble_eq_true_of_le h
      rw [this]; simp only [cond_true, pathNo]; omega
    · have : Nat.ble n 1 = false := by
        cases hb : Nat.ble n 1 with
        | false => rfl
        | true => exact absurd (Nat.le_of_ble_eq_true hb) h
      rw [this]; simp only [cond_false, pathNo]
      have hd : Nat.div n 2 = n / 2 := rfl
      have hm : Nat.mod n 2 = n % 2 := rfl
      rw [hd, hm, ih (n / 2) (by omega) (by omega)]
      by_cases h2 : n % 2 = 1
      · rw [h2]; have : Nat.beq 1 1 = true := rfl
        rw [this]; simp only [cond_true]; omega
      · have : n % 2 = 0 := by omega
        rw [this]; have : Nat.beq 0 1 = false := rfl
        rw [this]; simp only [cond_false]; omega

theorem path_inj {i j : Nat} (h : path i = path j) : i = j := by
  have hi := pathNo_bits (i + 1) (i + 1) (by omega) (by omega)
  have hj := pathNo_bits (j + 1) (j + 1) (by omega) (by omega)
  have : bits (i + 1) (i + 1) = bits (j + 1) (j + 1) := h
  rw [this] at hi; omega

theorem Heap.get_empty (b : Nat) : Heap.get Heap.empty b = none := T.get_nil _
theorem Heap.get_put (h : Heap) (b : Nat) (x : Blk) : Heap.get (Heap.put h b x) b = some x := T.get_set_same x _ h
theorem Heap.get_put_ne {h : Heap} {b c : Nat} {x : Blk} (hn : b ≠ c) : Heap.get (Heap.put h b x) c = Heap.get h c :=
  T.get_set_ne x _ _ h fun e => hn (path_inj e)
theorem Heap.get_put_of (h : Heap) (b c : Nat) (x : Blk) : Heap.get (Heap.put h b x) c = if b = c then some x else Heap.get h c := by
  by_cases e : b = c
  · subst e; rw [if_pos rfl, Heap.get_put]
  · rw [if_neg e, Heap.get_put_ne e]
theorem Heap.put_comm {h : Heap} {b c : Nat} {x y : Blk} (hn : b ≠ c) : Heap.put (Heap.put h c y) b x = Heap.put (Heap.put h b x) c y :=
  T.set_comm x y _ _ h fun e => hn (path_inj e)

theorem tget_nil (i : Nat) : tget .nil i = undef := by unfold tget; rw [T.get_nil]
theorem tget_tset (t : Tmps) (i : Nat) (v : AV) : tget (tset t i v) i = v := by unfold tget tset; rw [T.get_set_same]
theorem tget_tset_ne {t : Tmps} {i j : Nat} {v : AV} (h : i ≠ j) : tget (tset t i v) j = tget t j := by
  unfold tget tset; rw [T.get_set_ne v _ _ t fun e => h (path_inj e)]
theorem tget_tset_of (t : Tmps) (i j : Nat) (v : AV) : tget (tset t i v) j = if i = j then v else tget t j := by
  by_cases e : i = j
  · subst e; rw [if_pos rfl, tget_tset]
  · rw [if_neg e, tget_tset_ne e]
theorem tset_comm {t : Tmps} {i j : Nat} {v u : AV} (h : i ≠ j) : tset (tset t j u) i v = tset (tset t i v) j u :=
  T.set_comm v u _ _ t fun e => h (path_inj e)

theorem T.get_build {α : Type} (f : Nat → Option α) : ∀ (d : Nat) (p : List Bool) (n w : Nat) (a : α), 1 ≤ w →
    T.get p (T.build f d n w) = some a → ∃ i, i + 1 = n + w * pathNo p ∧ f i = some a
  | 0, p, n, w, a, _, h => by rw [T.build, get_nil] at h; cases h
  | d + 1, [], n, w, a, hw, h => by
    rw [T.build, get_node_nil] at h
    exact ⟨n + w - 1, by simp only [pathNo]; omega, h⟩
  | d + 1, b :: p, n, w, a, hw, h => by
    rw [T.build, get_node_cons] at h
    have h2w : Nat.mul 2 w = 2 * w := rfl
    have hnw : Nat.add n w = n + w := rfl
    rw [h2w, hnw] at h
    cases b with
    | false =>
      obtain ⟨i, h1, h2⟩ := get_build f d p _ _ a (by omega) h
      refine ⟨i, ?_, h2⟩
      simp only [pathNo, cond_false, Nat.add_zero]
      rw [h1, Nat.mul_left_comm, Nat.mul_assoc]
    | true =>
      obtain ⟨i, h1, h2⟩ := get_build f d p _ _ a (by omega) h
      refine ⟨i, ?_, h2⟩
      simp only [pathNo, cond_true]
      rw [h1, Nat.mul_add, Nat.mul_left_comm, Nat.mul_assoc]; omega

theorem look_build {α : Type} {f : Nat → Option α} {d i : Nat} {a : α} (h : look (T.build f d 0 1) i = some a) : f i = some a := by
  obtain ⟨j, h1, h2⟩ := T.get_build f d (path i) 0 1 a (Nat.le_refl _) h
  have := pathNo_bits (i + 1) (i + 1) (by omega) (by omega)
  have hp : pathNo (path i) = i + 1 := this
  rw [hp] at h1
  have : j = i := by omega
  rw [← this]; exact h2
end Go.AM
