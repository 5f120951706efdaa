/- The evaluator AM: how its heap and the model's go on together. -/
import Derived.Test.YtakcafdfbnibkaaGreatDoorB2
import Derived.Laws.CopyRow
import Derived.Laws.Append
import Derived.Laws.AppendOwn
namespace Go.AM

theorem BRep.mono {w w' : World} {I I' : Nat → Prop} {φ φ' : Phi} {p : Pl} {x : Blk} (r : BRep w I φ p x) (hφ : ∀ b q, φ b = some q → φ' b = some q)
    (hI : ∀ cb, I cb → I' cb) (hc : ∀ cb, I cb → w'.heap[cb]? = w.heap[cb]?) (hw : writable x → w'.heap[p.cb]? = w.heap[p.cb]?) : BRep w' I' φ' p x := by
  have hcell : ∀ cb o, I cb → w'.cell? (cellAt cb o) = w.cell? (cellAt cb o) := fun cb o h => cell_of_heap (hc cb h) o
  cases x with
  | cells s k rows =>
    obtain ⟨h1, h2, h3, h4, h5, cc, el, h6, h7, h8⟩ := r
    refine ⟨h1, h2, h3, h4, h5, cc, el, by rw [hw trivial]; exact h6, h7, fun i j c e => ?_⟩
    obtain ⟨q1, v, q2, q3⟩ := h8 i j c e
    exact ⟨q1, v, q2, q3.mono hI hcell φ' hφ⟩
  | imm k rows =>
    obtain ⟨h1, h2, h3, h5, h8⟩ := r
    refine ⟨h1, h2, h3, h5, fun i j c e => ?_⟩
    obtain ⟨q1, q0, v, q2, q3⟩ := h8 i j c e
    exact ⟨q1, hI _ q0, v, by rw [hcell _ _ q0]; exact q2, q3.mono hI hcell noPhi (fun _ _ h => h)⟩
  | map es clock =>
    obtain ⟨ces, h1, h2, h3⟩ := r
    refine ⟨ces, by rw [hw trivial]; exact h1, h2, fun i k v b e => ?_⟩
    obtain ⟨ke, q1, q2, q3, q4⟩ := h3 i k v b e
    exact ⟨ke, q1, q2, q3.mono hI hcell φ' hφ, q4.mono hI hcell φ' hφ⟩
  | iter m since seen last =>
    obtain ⟨h1, cm, h2, h3, h4⟩ := r
    refine ⟨h1, cm, by rw [hw trivial]; exact h2, h3, fun b e => ?_⟩
    obtain ⟨q, q1, q2⟩ := h4 b e
    exact ⟨q, hφ _ _ q1, q2⟩
  | dead => trivial

theorem frozen_of_heap {w w' : World} {ad : Addr} (h : w'.heap[ad.block]? = w.heap[ad.block]?) : w'.frozen? ad = w.frozen? ad := by
  unfold World.frozen?; rw [h]

/-- What may be written is not frozen. -/
theorem BRep.thawed {w : World} {I : Nat → Prop} {φ : Phi} {p : Pl} {x : Blk} (r : BRep w I φ p x) (hx : writable x) {ad : Addr} (ha : ad.block = p.cb) : w.frozen? ad = false := by
  unfold World.frozen?
  rw [ha]
  cases x with
  | cells s k rows =>
    obtain ⟨_, _, _, _, _, cc, el, h6, _⟩ := r
    rw [h6]; simp
  | map es cl =>
    obtain ⟨ces, h1, _⟩ := r
    rw [h1]
  | iter m since seen last =>
    obtain ⟨_, cm, h1, _⟩ := r
    rw [h1]
  | imm k rows => exact hx.elim
  | dead => exact hx.elim

/-- A block is written in its place. -/
theorem Sim.update {w w' : World} {I : Nat → Prop} {φ : Phi} {h : Heap} {b : Nat} {x x' : Blk} {p : Pl} (S : Sim w I φ h)
    (hb : Heap.get h b = some x) (hx : writable x) (hp : φ b = some p) (hx' : writable x')
    (hos : w'.os = w.os) (htape : w'.tape = w.tape) (hout : w'.output = w.output) (hsize : w'.heap.size = w.heap.size)
    (hsame : ∀ cb, cb ≠ p.cb → w'.heap[cb]? = w.heap[cb]?) (hrep : (∀ y v, VRep w I φ y v → VRep w' I φ y v) → BRep w' I φ p x') :
    Sim w' I φ (Heap.put h b x') ∧ Ext w I φ h w' I φ (Heap.put h b x') := by
  obtain ⟨hnI, hlt⟩ := S.own p.cb ⟨b, x, p, hb, hx, hp, rfl⟩
  have hkeep : ∀ cb, I cb → w'.heap[cb]? = w.heap[cb]? := fun cb hI => hsame cb (fun e => hnI (e ▸ hI))
  have hv : ∀ y v, VRep w I φ y v → VRep w' I φ y v := fun y v r => r.mono (fun _ h => h) (fun cb o hI => cell_of_heap (hkeep cb hI) o) φ (fun _ _ h => h)
  have hfz : ∀ ad : Addr, w'.frozen? ad = w.frozen? ad := by
    intro ad
    by_cases e : ad.block = p.cb
    · rw [(hrep hv).thawed hx' e, (S.rep b x p hb hp).thawed hx e]
    · exact frozen_of_heap (hsame _ e)
  have hown : ∀ cb, Owned φ (Heap.put h b x') cb → Owned φ h cb := by
    rintro cb ⟨c, y, q, h1, h2, h3, h4⟩
    rw [Heap.get_put_of] at h1
    split at h1
    · rename_i e; subst e; exact ⟨b, x, q, hb, hx, h3, h4⟩
    · exact ⟨c, y, q, h1, h2, h3, h4⟩
  refine ⟨⟨?_, ?_, ?_, ?_, ?_, ?_, S.glob.mono (fun _ e => e) (fun cb o hI => cell_of_heap (hkeep cb hI) o)⟩, ⟨hos, htape, hout, by omega, fun _ _ e => e, fun _ e => e, hkeep, ?_, fun cb o _ => hown cb o, fun _ e _ => .inl e, hfz⟩⟩
  · intro c q hc
    rw [Heap.get_put_of]; split
    · exact ⟨_, rfl⟩
    · exact S.dom c q hc
  · intro c y hc
    rw [Heap.get_put_of] at hc; split at hc
    · rename_i e; subst e; exact ⟨p, hp⟩
    · exact S.pl c y hc
  · intro c y q hc hq
    rw [Heap.get_put_of] at hc; split at hc
    · rename_i e; subst e; cases hc; rw [hp] at hq; cases hq; exact hrep hv
    · rename_i hne
      refine (S.rep c y q hc hq).mono (fun _ _ e => e) (fun _ e => e) hkeep (fun hy => hsame _ (fun e => hne ?_))
      exact (S.inj b c x y p q hb hc hx hy hp hq e.symm)
  · intro cb o; obtain ⟨h1, h2⟩ := S.own cb (hown cb o); exact ⟨h1, by omega⟩
  · intro c c' y y' q q' h1 h2 h3 h4 h5 h6 h7
    have hw1 : ∃ z, Heap.get h c = some z ∧ writable z := by
      rw [Heap.get_put_of] at h1; split at h1
      · rename_i e; subst e; exact ⟨x, hb, hx⟩
      · exact ⟨y, h1, h3⟩
    have hw2 : ∃ z, Heap.get h c' = some z ∧ writable z := by
      rw [Heap.get_put_of] at h2; split at h2
      · rename_i e; subst e; exact ⟨x, hb, hx⟩
      · exact ⟨y', h2, h4⟩
    obtain ⟨z, e1, e2⟩ := hw1
    obtain ⟨z', e3, e4⟩ := hw2
    exact S.inj c c' z z' q q' e1 e3 e2 e4 h5 h6 h7
  · intro cb hI; have := S.imm cb hI; omega
  · intro cb _ hn
    exact hsame cb (fun e => hn ⟨b, x, p, hb, hx, hp, e.symm⟩)

/-- A block is given up. -/
theorem Sim.kill {w : World} {I : Nat → Prop} {φ : Phi} {h : Heap} {b : Nat} {x : Blk} (S : Sim w I φ h) (hb : Heap.get h b = some x) :
    Sim w I φ (Heap.put h b .dead) ∧ Ext w I φ h w I φ (Heap.put h b .dead) := by
  have hback : ∀ c y, Heap.get (Heap.put h b .dead) c = some y → writable y → Heap.get h c = some y ∧ b ≠ c := by
    intro c y hc hy
    rw [Heap.get_put_of] at hc; split at hc
    · cases hc; exact hy.elim
    · rename_i e; exact ⟨hc, e⟩
  have hown : ∀ cb, Owned φ (Heap.put h b .dead) cb → Owned φ h cb := by
    rintro cb ⟨c, y, q, h1, h2, h3, h4⟩
    exact ⟨c, y, q, (hback c y h1 h2).1, h2, h3, h4⟩
  refine ⟨⟨?_, ?_, ?_, fun cb o => S.own cb (hown cb o), ?_, S.imm, S.glob⟩, ⟨rfl, rfl, rfl, Nat.le_refl _, fun _ _ e => e, fun _ e => e, fun _ _ => rfl, fun _ _ _ => rfl, fun cb o _ => hown cb o, fun _ e _ => .inl e, fun _ => rfl⟩⟩
  · intro c q hc
    rw [Heap.get_put_of]; split
    · exact ⟨_, rfl⟩
    · exact S.dom c q hc
  · intro c y hc
    rw [Heap.get_put_of] at hc; split at hc
    · rename_i e; subst e; exact S.pl b x hb
    · exact S.pl c y hc
  · intro c y q hc hq
    rw [Heap.get_put_of] at hc; split at hc
    · cases hc; trivial
    · exact S.rep c y q hc hq
  · intro c c' y y' q q' h1 h2 h3 h4 h5 h6 h7
    exact S.inj c c' y y' q q' (hback c y h1 h3).1 (hback c' y' h2 h4).1 h3 h4 h5 h6 h7

def Phi.set (φ : Phi) (id : Nat) (p : Pl) : Phi := fun b => if b = id then some p else φ b
theorem Phi.set_same (φ : Phi) (id : Nat) (p : Pl) : φ.set id p id = some p := by simp [Phi.set]
theorem Phi.set_ne {φ : Phi} {id b : Nat} {p : Pl} (h : b ≠ id) : φ.set id p b = φ b := by simp [Phi.set, h]

theorem Sim.fresh {w : World} {I : Nat → Prop} {φ : Phi} {h : Heap} {id : Nat} (S : Sim w I φ h) (hid : Heap.get h id = none) : φ id = none := by
  cases e : φ id with
  | none => rfl
  | some p => obtain ⟨x, hx⟩ := S.dom id p e; rw [hid] at hx; cases hx

/-- A new block, whose number is free; in the model it lies in a new block, or takes the place of one that is given up. -/
theorem Sim.new {w w' : World} {I : Nat → Prop} {φ : Phi} {h h0 : Heap} {id : Nat} {x : Blk} {p : Pl} (S : Sim w I φ h)
    (hid : Heap.get h id = none) (hx : writable x) (hnI : ¬ I p.cb) (hlt : p.cb < w'.heap.size)
    (hfree : ¬ Owned φ h p.cb) (hold : p.cb < w.heap.size → Owned φ h0 p.cb) (hsub : ∀ cb, Owned φ h cb → Owned φ h0 cb)
    (hos : w'.os = w.os) (htape : w'.tape = w.tape) (hout : w'.output = w.output) (hsize : w.heap.size ≤ w'.heap.size)
    (hsame : ∀ cb, cb ≠ p.cb → w'.heap[cb]? = w.heap[cb]?) (hfz : ∀ ad : Addr, ad.block = p.cb → w.frozen? ad = false)
    (hrep : (∀ y v, VRep w I φ y v → VRep w' I (φ.set id p) y v) → BRep w' I (φ.set id p) p x) :
    Sim w' I (φ.set id p) (Heap.put h id x) ∧ Ext w I φ h0 w' I (φ.set id p) (Heap.put h id x) := by
  have hfr := S.fresh hid
  have hφ : ∀ b q, φ b = some q → φ.set id p b = some q := by
    intro b q e
    rw [Phi.set_ne]; exact e
    intro hb; subst hb; rw [hfr] at e; cases e
  have hkeep : ∀ cb, I cb → w'.heap[cb]? = w.heap[cb]? := fun cb hI => hsame cb (fun e => hnI (e ▸ hI))
  have hv : ∀ y v, VRep w I φ y v → VRep w' I (φ.set id p) y v := fun y v r => r.mono (fun _ h => h) (fun cb o hI => cell_of_heap (hkeep cb hI) o) _ hφ
  have hfz' : ∀ ad : Addr, w'.frozen? ad = w.frozen? ad := by
    intro ad
    by_cases e : ad.block = p.cb
    · rw [(hrep hv).thawed hx e, hfz ad e]
    · exact frozen_of_heap (hsame _ e)
  have hback : ∀ c y q, Heap.get (Heap.put h id x) c = some y → φ.set id p c = some q → (c = id ∧ y = x ∧ q = p) ∨ (c ≠ id ∧ Heap.get h c = some y ∧ φ c = some q) := by
    intro c y q h1 h2
    rw [Heap.get_put_of] at h1
    by_cases e : id = c
    · subst e; rw [if_pos rfl] at h1; rw [Phi.set_same] at h2; cases h1; cases h2; exact .inl ⟨rfl, rfl, rfl⟩
    · rw [if_neg e] at h1; rw [Phi.set_ne (fun h => e h.symm)] at h2; exact .inr ⟨fun h => e h.symm, h1, h2⟩
  have hown : ∀ cb, Owned (φ.set id p) (Heap.put h id x) cb → cb = p.cb ∨ Owned φ h cb := by
    rintro cb ⟨c, y, q, h1, h2, h3, h4⟩
    rcases hback c y q h1 h3 with ⟨_, _, rfl⟩ | ⟨_, e2, e3⟩
    · exact .inl h4.symm
    · exact .inr ⟨c, y, q, e2, h2, e3, h4⟩
  refine ⟨⟨?_, ?_, ?_, ?_, ?_, ?_, S.glob.mono (fun _ e => e) (fun cb o hI => cell_of_heap (hkeep cb hI) o)⟩, ⟨hos, htape, hout, hsize, hφ, fun _ e => e, hkeep, ?_, ?_, fun _ e _ => .inl e, hfz'⟩⟩
  · intro c q hc
    rw [Heap.get_put_of]; split
    · exact ⟨_, rfl⟩
    · rename_i e; rw [Phi.set_ne (fun h => e h.symm)] at hc; exact S.dom c q hc
  · intro c y hc
    rw [Heap.get_put_of] at hc; split at hc
    · rename_i e; subst e; exact ⟨p, Phi.set_same _ _ _⟩
    · rename_i e; obtain ⟨q, hq⟩ := S.pl c y hc; exact ⟨q, hφ c q hq⟩
  · intro c y q hc hq
    rcases hback c y q hc hq with ⟨_, rfl, rfl⟩ | ⟨_, e2, e3⟩
    · exact hrep hv
    · refine (S.rep c y q e2 e3).mono hφ (fun _ e => e) hkeep (fun hy => ?_)
      have ho : Owned φ h q.cb := ⟨c, y, q, e2, hy, e3, rfl⟩
      exact hsame _ (fun e => hfree (e ▸ ho))
  · intro cb o
    rcases hown cb o with rfl | o
    · exact ⟨hnI, hlt⟩
    · obtain ⟨h1, h2⟩ := S.own cb o; exact ⟨h1, by omega⟩
  · intro c c' y y' q q' h1 h2 h3 h4 h5 h6 h7
    rcases hback c y q h1 h5 with ⟨a1, a2, a3⟩ | ⟨a1, a2, a3⟩ <;> rcases hback c' y' q' h2 h6 with ⟨b1, b2, b3⟩ | ⟨b1, b2, b3⟩
    · rw [a1, b1]
    · subst a3; exact absurd ⟨c', y', q', b2, h4, b3, h7.symm⟩ hfree
    · subst b3; exact absurd ⟨c, y, q, a2, h3, a3, h7⟩ hfree
    · exact S.inj c c' y y' q q' a2 b2 h3 h4 a3 b3 h7
  · intro cb hI; have := S.imm cb hI; omega
  · intro cb hc hn
    refine hsame cb (fun e => hn (e ▸ hold (e ▸ hc)))
  · intro cb o hc
    rcases hown cb o with rfl | o
    · exact hold hc
    · exact hsub cb o

theorem heap_push_old (w : World) (o : Obj) {cb : Nat} (h : cb < w.heap.size) : (w.heap.push o)[cb]? = w.heap[cb]? := by
  rw [Array.getElem?_push, if_neg (by omega)]
theorem heap_push_new (w : World) (o : Obj) : (w.heap.push o)[w.heap.size]? = some o := by simp

/-- A new block of the model. -/
theorem Sim.alloc {w w' : World} {I : Nat → Prop} {φ : Phi} {h : Heap} {id : Nat} {x : Blk} {o : Obj} {p : Pl} (S : Sim w I φ h)
    (hid : Heap.get h id = none) (hx : writable x) (hp : p.cb = w.heap.size) (hos : w'.os = w.os) (htape : w'.tape = w.tape) (hout : w'.output = w.output)
    (hheap : w'.heap = w.heap.push o) (hrep : (∀ y v, VRep w I φ y v → VRep w' I (φ.set id p) y v) → BRep w' I (φ.set id p) p x) :
    Sim w' I (φ.set id p) (Heap.put h id x) ∧ Ext w I φ h w' I (φ.set id p) (Heap.put h id x) := by
  refine S.new hid hx (fun hI => ?_) (by rw [hheap, hp]; simp) (fun ho => ?_) (fun hl => absurd hl (by omega)) (fun _ e => e) hos htape hout (by rw [hheap]; simp)
    (fun cb hne => by rw [hheap, Array.getElem?_push, if_neg (by omega)]) (fun ad e => by unfold World.frozen?; rw [e, hp, Array.getElem?_eq_none (Nat.le_refl _)]) hrep
  · have := S.imm _ hI; omega
  · have := (S.own _ ho).2; omega

theorem rowAt_one {cs : List AV} {i j : Nat} {c : AV} (h : rowAt [cs] i j = some c) : i = 0 ∧ cs[j]? = some c := by
  unfold rowAt at h
  cases i with
  | zero => exact ⟨rfl, by simpa using h⟩
  | succ i => simp at h

end Go.AM
