/- The evaluator AM: slices. -/
import Derived.Test.YtakcafdfbnibkaaGreatDoorB5
set_option linter.unusedVariables false
set_option linter.unusedSimpArgs false
namespace Go.AM

/-- Elements as the model's cells in a row. -/
def ERep (w : World) (I : Nat → Prop) (φ : Phi) (k : Nat) (es : List (List AV)) (va : Array Value) : Prop :=
  va.size = es.length * k ∧ ∀ i j c, rowAt es i j = some c → isCell c = true ∧ ∃ u, va[i * k + j]? = some u ∧ VRep w I φ c u

section
variable {E : Env} {P : Program} {w : World} {I : Nat → Prop} {φ : Phi} {h h' : Heap} {id : Nat} {t : Tmps} {a : Act} {v : AV}

theorem rowAt_take {rows : List (List AV)} {m i j : Nat} {c : AV} (h : rowAt (rows.take m) i j = some c) : i < m ∧ rowAt rows i j = some c := by
  unfold rowAt at *
  rw [List.getElem?_take] at h
  split at h
  · rename_i hs
    split at hs
    · rename_i hm; exact ⟨hm, by rw [hs]; exact h⟩
    · cases hs
  · cases h
theorem rowAt_drop {rows : List (List AV)} {m i j : Nat} {c : AV} (h : rowAt (rows.drop m) i j = some c) : rowAt rows (m + i) j = some c := by
  unfold rowAt at *
  rw [List.getElem?_drop] at h; exact h
theorem rowAt_append {xs ys : List (List AV)} {i j : Nat} {c : AV} (h : rowAt (xs ++ ys) i j = some c) :
    (i < xs.length ∧ rowAt xs i j = some c) ∨ (xs.length ≤ i ∧ rowAt ys (i - xs.length) j = some c) := by
  unfold rowAt at *
  rw [List.getElem?_append] at h
  by_cases hi : i < xs.length
  · rw [if_pos hi] at h; exact .inl ⟨hi, h⟩
  · rw [if_neg hi] at h; exact .inr ⟨by omega, h⟩

/-- A row of cells that is read from a place on. -/
theorem firstCells_at {k m cb o len cap : Nat} {rows : List (List AV)} (hk : ∀ e ∈ rows, e.length = k) (hm : m ≤ rows.length)
    (hcell : ∀ i j c, rowAt rows i j = some c → isCell c = true ∧ ∃ u, w.cell? (cellAt cb (o + i * k + j)) = some u ∧ VRep w I φ c u)
    : ∃ va, (∀ w' : World, w'.heap = w.heap → (Builtin.firstCells k m (.slice (some (cellAt cb o)) len cap)).run P w' = .ok va w') ∧ ERep w I φ k (rows.take m) va := by
  have hcw : ∀ w' : World, w'.heap = w.heap → ∀ ad, w'.cell? ad = w.cell? ad := fun w' hw ad => by unfold World.cell?; rw [hw]
  have hall : ∀ q, q < m * k → ∃ u, w.cell? ((cellAt cb o).add q) = some u := by
    intro q hq
    have hk0 : 0 < k := by
      rcases Nat.eq_zero_or_pos k with e | e
      · subst e; omega
      · exact e
    have hi : q / k < m := by rwa [Nat.div_lt_iff_lt_mul hk0]
    have hj : q % k < k := Nat.mod_lt _ hk0
    have hlt : q / k < rows.length := by omega
    have hel : rows[q / k].length = k := hk _ (List.getElem_mem hlt)
    obtain ⟨_, u, h1, _⟩ := hcell (q / k) (q % k) rows[q / k][q % k] (rowAt_of (List.getElem?_eq_getElem hlt) (List.getElem?_eq_getElem (by omega)))
    refine ⟨u, ?_⟩
    rw [add_cellAt, ← h1]
    congr 2
    have := Nat.div_add_mod q k
    rw [Nat.mul_comm] at this; omega
  have hload := fun (w' : World) (hw : w'.heap = w.heap) => run_loadCells (P := P) w' (cellAt cb o) (m * k) (fun q => (w.cell? ((cellAt cb o).add q)).getD _root_.Go.undef) (fun q hq => by
    obtain ⟨u, hu⟩ := hall q hq
    rw [hcw w' hw, hu]; rfl)
  refine ⟨_, fun w' hw => by simp only [Builtin.firstCells]; exact hload w' hw, by simp [Nat.min_eq_left hm], fun i j c e => ?_⟩
  obtain ⟨h1, h2⟩ := rowAt_take e
  obtain ⟨q1, u, q2, q3⟩ := hcell i j c h2
  obtain ⟨_, hjk⟩ := rowAt_lt hk h2
  refine ⟨q1, u, ?_, q3⟩
  have hlt := idx_lt h1 hjk
  simp [hlt, add_cellAt, ← Nat.add_assoc, q2]

/-- What the elements of a value come to in the model. -/
structure Elems (P : Program) (w : World) (I : Nat → Prop) (φ : Phi) (k : Nat) (es : List (List AV)) (cx : Value) : Prop where
  len : ∀ w', (Builtin.lenOf cx).run P w' = .ok es.length w'
  cells : (∀ e ∈ es, e.length = k) → ∀ m, m ≤ es.length → ∃ va, (∀ w' : World, w'.heap = w.heap → (Builtin.firstCells k m cx).run P w' = .ok va w') ∧ ERep w I φ k (es.take m) va

theorem elems_nil (k : Nat) : Elems P w I φ k [] (.slice none 0 0) :=
  ⟨fun _ => rfl, fun _ m hm => ⟨#[], fun w' _ => by simp [Builtin.firstCells], by simp [ERep, rowAt]⟩⟩

theorem elems_isl {k : Nat} {row : List (List AV)} {cap : Option Nat} {cx : Value} (r : VRep w I φ (.isl row cap) cx) : Elems P w I φ k row cx := by
  cases r with
  | isl f h1 h2 h3 h4 h5 h6 h7 =>
    rename_i cb d k' len ccap ad
    refine ⟨fun _ => by rw [h4]; rfl, fun hk m hm => ?_⟩
    by_cases hrow : row = []
    · subst hrow
      have hm0 : m = 0 := by simpa using hm
      subst hm0
      exact ⟨#[], fun w' _ => by simp [Builtin.firstCells, loadCells, loadCellsFrom], by simp [ERep, rowAt]⟩
    · obtain ⟨e, he⟩ := List.exists_mem_of_ne_nil row hrow
      have hkk : k' = k := by rw [← h1 e he, hk e he]
      subst hkk
      rcases h7 with h7 | h7
      · exact absurd h7 hrow
      · subst h7
        exact firstCells_at h1 hm (fun i j c e => ⟨(h2 i j c e).1, _, (h2 i j c e).2.2, (h3 i j c e).of_tree⟩)

theorem sect_eq {off len : Nat} {x : Blk} {es : List (List AV)} (hs : sect off len x = some es) : ∃ rows, rowsOf x = some rows ∧ es = (rows.drop off).take len ∧ es.length = len := by
  unfold sect at hs
  cases hr : rowsOf x with
  | none => rw [hr] at hs; cases hs
  | some rows =>
    rw [hr] at hs
    simp only at hs
    cases hb : (((rows.drop off).take len).length.beq len) with
    | false => rw [hb] at hs; cases hs
    | true => rw [hb] at hs; cases hs; exact ⟨rows, rfl, rfl, Nat.eq_of_beq_eq_true hb⟩

/-- The elements of a slice of a block. -/
theorem block_elems {b off len : Nat} {p : Pl} {x : Blk} {rows : List (List AV)} (S : Sim w I φ h) (hb : Heap.get h b = some x) (hp : φ b = some p) (hr : rowsOf x = some rows) :
    (∀ e ∈ (rows.drop off).take len, e.length = p.k) ∧ ∀ i j c, rowAt ((rows.drop off).take len) i j = some c →
      isCell c = true ∧ ∃ u, w.cell? (cellAt p.cb (p.d + off * p.k + i * p.k + j)) = some u ∧ VRep w I φ c u := by
  obtain ⟨h1, h2, h3⟩ := S.cells hb hp hr
  refine ⟨fun e he => h2 e (List.mem_of_mem_drop (List.mem_of_mem_take he)), fun i j c e => ?_⟩
  obtain ⟨_, e1⟩ := rowAt_take e
  obtain ⟨q1, u, q2, q3⟩ := h3 _ _ _ (rowAt_drop e1)
  exact ⟨q1, u, by rw [show p.d + off * p.k + i * p.k + j = p.d + (off + i) * p.k + j by rw [Nat.add_mul]; omega]; exact q2, q3⟩

theorem elems_sl {k b off len kk : Nat} {cap : Option Nat} {x : Blk} {es : List (List AV)} {cx : Value} (S : Sim w I φ h) (hb : Heap.get h b = some x)
    (r : VRep w I φ (.sl b off len kk cap) cx) (hs : sect off len x = some es) : Elems P w I φ k es cx := by
  cases r with
  | sl hp h0 h1 h2 h3 h4 h5 h6 =>
    rename_i ccap p ad
    obtain ⟨rows, e1, e2, e3⟩ := sect_eq hs
    obtain ⟨g1, g2⟩ := block_elems (off := off) (len := len) S hb hp e1
    refine ⟨fun _ => by rw [e3]; rfl, fun hk m hm => ?_⟩
    by_cases hes : es = []
    · subst hes
      have hm0 : m = 0 := by simpa using hm
      subst hm0
      exact ⟨#[], fun w' _ => by simp [Builtin.firstCells, loadCells, loadCellsFrom], by simp [ERep, rowAt]⟩
    · obtain ⟨e, he⟩ := List.exists_mem_of_ne_nil es hes
      have hpos : 0 < es.length := List.length_pos_iff.2 hes
      rcases h6 with h6 | h6
      · omega
      · subst h6
        rw [e2] at he hk hm ⊢
        have hkk : p.k = k := by rw [← g1 e he, hk e he]
        rw [← hkk]
        rw [hkk] at g1
        exact firstCells_at (by rw [hkk]; exact g1) hm g2

theorem elems_str {k : Nat} {s : ByteArray} {l : List UInt8} (hs : s.data.toList = l) : Elems P w I φ k (l.map fun b => [AV.int .u8 b.toNat]) (.string s) := by
  have hl : l.length = s.size := by rw [← hs, Array.length_toList]; rfl
  refine ⟨fun _ => by simp [Builtin.lenOf, hl], fun hk m hm => ?_⟩
  refine ⟨_, fun w' _ => by simp only [Builtin.firstCells]; rfl, ?_, fun i j c e => ?_⟩
  · have hm' : m ≤ s.size := by simpa [hl] using hm
    by_cases hl0 : l = []
    · subst hl0
      have : s.size = 0 := by simpa using hl.symm
      have hm0 : m = 0 := by omega
      subst hm0
      simp [ByteArray.data_extract]
    · obtain ⟨b, hb⟩ := List.exists_mem_of_ne_nil l hl0
      have hk1 : k = 1 := by
        have := hk [AV.int .u8 b.toNat] (List.mem_map.2 ⟨b, hb, rfl⟩)
        simpa using this.symm
      subst hk1
      simp [ByteArray.data_extract, hl]
  · obtain ⟨h1, h2⟩ := rowAt_take e
    unfold rowAt at h2
    rw [List.getElem?_map] at h2
    cases hb : l[i]? with
    | none => rw [hb] at h2; cases h2
    | some b =>
      rw [hb] at h2
      simp only [Option.map_some] at h2
      have hj : j = 0 ∧ c = AV.int .u8 b.toNat := by
        cases j with
        | zero => simp at h2; exact ⟨rfl, h2.symm⟩
        | succ j => simp at h2
      obtain ⟨rfl, rfl⟩ := hj
      have hk1 : k = 1 := by
        have := hk [AV.int .u8 b.toNat] (List.mem_map.2 ⟨b, List.mem_of_getElem? hb, rfl⟩)
        simpa using this.symm
      subst hk1
      refine ⟨rfl, .int .u8 b.toNat, ?_, .int _ _⟩
      have : s.data[i]? = some b := by rw [← hb, ← hs]; simp
      simp [ByteArray.data_extract, Array.getElem?_extract, this]
      have hlt : i < s.data.size := (Array.getElem?_eq_some_iff.1 this).1
      have hsz : s.data.size = s.size := rfl
      omega

/-- The elements of a value, as they are handed on. -/
theorem withElems_run {k : Nat} {x : AV} {cx : Value} {f : List (List AV) → Eff} {r : AV × Heap} (S : Sim w I φ h) (hx : VRep w I φ x cx)
    (hr : (withElems x f).run id h = some r) : ∃ es, (f es).run id h = some r ∧ Elems P w I φ k es cx := by
  unfold withElems at hr
  cases x with
  | nilsl => cases hx; exact ⟨[], hr, elems_nil k⟩
  | isl row cap => exact ⟨row, hr, elems_isl hx⟩
  | sl b off len kk cap =>
    obtain ⟨x, h1, h2⟩ := Eff.run_rd hr
    cases hs : sect off len x with
    | none => rw [hs] at h2; cases h2
    | some es => rw [hs] at h2; exact ⟨es, h2, elems_sl S h1 hx hs⟩
  | str l => cases hx with
    | str s hs => exact ⟨_, hr, elems_str hs⟩
  | _ => cases hr
end
end Go.AM
