/- The evaluator AM: how its values and heap stand for the model's. -/
import Derived.Test.YtakcafdfbnibkaaGreatDoorB0
namespace Go.AM

/-- Where a block lies: the model's block, its first cell, the cells of an element, how many elements, and room for how many. -/
structure Pl where
  cb : Nat
  d : Nat
  k : Nat
  n : Nat
  N : Nat

abbrev Phi := Nat → Option Pl
def noPhi : Phi := fun _ => none

def rowAt (row : List (List AV)) (i j : Nat) : Option AV :=
  match row[i]? with
  | some e => e[j]?
  | none => none

abbrev cellAt (cb o : Nat) : Addr := ⟨cb, o, none⟩

inductive VRep (w : World) (I : Nat → Prop) : Phi → AV → Value → Prop
  | any {φ : Phi} : VRep w I φ (.tuple []) (.tuple #[])
  | bool {φ : Phi} (b : Bool) : VRep w I φ (.bool b) (.bool b)
  | int {φ : Phi} (k : IntKind) (n : Int) : VRep w I φ (.int k n) (.int k n)
  | str {φ : Phi} {l : List UInt8} (s : ByteArray) : s.data.toList = l → VRep w I φ (.str l) (.string s)
  | nilptr {φ : Phi} : VRep w I φ .nilptr (.pointer none)
  | ptr {φ : Phi} {b i j : Nat} {p : Pl} : φ b = some p → VRep w I φ (.ptr b i j) (.pointer (some (cellAt p.cb (p.d + i * p.k + j))))
  | iptr {φ : Phi} {row : List (List AV)} {i j cb d k : Nat} (f : Nat → Nat → Value) : (∀ e, e ∈ row → e.length = k) →
      (∀ i j c, rowAt row i j = some c → isCell c = true ∧ I cb ∧ w.cell? (cellAt cb (d + i * k + j)) = some (f i j)) →
      (∀ i j c, rowAt row i j = some c → VRep w I noPhi c (f i j)) → VRep w I φ (.iptr row i j) (.pointer (some (cellAt cb (d + i * k + j))))
  | nilsl {φ : Phi} : VRep w I φ .nilsl (.slice none 0 0)
  | sl {φ : Phi} {b off len k ccap : Nat} {cap : Option Nat} {p : Pl} {a : Addr} : φ b = some p → p.k = k → off + len ≤ p.n → len ≤ ccap → off + ccap ≤ p.N →
      (∀ c, cap = some c → ccap = c) → (cap = none → off + ccap = p.N) → (ccap = 0 ∨ a = cellAt p.cb (p.d + off * p.k)) →
      VRep w I φ (.sl b off len k cap) (.slice (some a) len ccap)
  | isl {φ : Phi} {row : List (List AV)} {cb d k len ccap : Nat} {cap : Option Nat} {a : Addr} (f : Nat → Nat → Value) : (∀ e, e ∈ row → e.length = k) →
      (∀ i j c, rowAt row i j = some c → isCell c = true ∧ I cb ∧ w.cell? (cellAt cb (d + i * k + j)) = some (f i j)) →
      (∀ i j c, rowAt row i j = some c → VRep w I noPhi c (f i j)) → row.length = len → len ≤ ccap → (∀ c, cap = some c → ccap = c) →
      (row = [] ∨ a = cellAt cb d) → VRep w I φ (.isl row cap) (.slice (some a) len ccap)
  | nilmap {φ : Phi} : VRep w I φ .nilmap (.map none)
  | map {φ : Phi} {b : Nat} {p : Pl} : φ b = some p → VRep w I φ (.map b) (.map (some p.cb))
  | func {φ : Phi} {f : FuncId} {a b : List AV} (va vb : Array Value) : va.size = a.length → vb.size = b.length →
      (∀ (i : Nat) (x : AV), a[i]? = some x → VRep w I φ x (va.getD i _root_.Go.undef)) →
      (∀ (i : Nat) (x : AV), b[i]? = some x → VRep w I φ x (vb.getD i _root_.Go.undef)) → VRep w I φ (.func f a b) (.func (.func f) va vb)
  | nilfunc {φ : Phi} : VRep w I φ .nilfunc .nilFunc
  | iface {φ : Phi} {t : Nat} {x : AV} {v : Value} : VRep w I φ x v → VRep w I φ (.iface t x) (.iface t v)
  | niliface {φ : Phi} : VRep w I φ .niliface .nilIface
  | agg {φ : Phi} {a : List AV} (va : Array Value) : va.size = a.length →
      (∀ (i : Nat) (x : AV), a[i]? = some x → VRep w I φ x (va.getD i _root_.Go.undef)) → VRep w I φ (.agg a) (.agg va)
  | tuple {φ : Phi} {a : List AV} (va : Array Value) : va.size = a.length →
      (∀ (i : Nat) (x : AV), a[i]? = some x → VRep w I φ x (va.getD i _root_.Go.undef)) → VRep w I φ (.tuple a) (.tuple va)

theorem VRep.mono {w w' : World} {I I' : Nat → Prop} {φ : Phi} {x : AV} {v : Value} (h : VRep w I φ x v)
    (hI : ∀ cb, I cb → I' cb) (hc : ∀ cb o, I cb → w'.cell? (cellAt cb o) = w.cell? (cellAt cb o)) :
    ∀ φ' : Phi, (∀ b p, φ b = some p → φ' b = some p) → VRep w' I' φ' x v := by
  induction h with
  | any => exact fun _ _ => .any
  | bool b => exact fun _ _ => .bool b
  | int k n => exact fun _ _ => .int k n
  | str s e => exact fun _ _ => .str s e
  | nilptr => exact fun _ _ => .nilptr
  | ptr hp => exact fun _ hφ => .ptr (hφ _ _ hp)
  | iptr f hl hcell _ ih =>
    exact fun _ _ => .iptr f hl (fun i j c e => ⟨(hcell i j c e).1, hI _ (hcell i j c e).2.1, by rw [hc _ _ (hcell i j c e).2.1]; exact (hcell i j c e).2.2⟩)
      (fun i j c e => ih i j c e noPhi (fun _ _ h => by cases h))
  | nilsl => exact fun _ _ => .nilsl
  | sl hp h0 h1 h2 h3 h4 h5 h6 => exact fun _ hφ => .sl (hφ _ _ hp) h0 h1 h2 h3 h4 h5 h6
  | isl f hl hcell _ h1 h2 h3 h4 ih =>
    exact fun _ _ => .isl f hl (fun i j c e => ⟨(hcell i j c e).1, hI _ (hcell i j c e).2.1, by rw [hc _ _ (hcell i j c e).2.1]; exact (hcell i j c e).2.2⟩)
      (fun i j c e => ih i j c e noPhi (fun _ _ h => by cases h)) h1 h2 h3 h4
  | nilmap => exact fun _ _ => .nilmap
  | map hp => exact fun _ hφ => .map (hφ _ _ hp)
  | func va vb h1 h2 _ _ ih1 ih2 => exact fun φ' hφ => .func va vb h1 h2 (fun i x e => ih1 i x e φ' hφ) (fun i x e => ih2 i x e φ' hφ)
  | nilfunc => exact fun _ _ => .nilfunc
  | iface _ ih => exact fun φ' hφ => .iface (ih φ' hφ)
  | niliface => exact fun _ _ => .niliface
  | agg va h1 _ ih => exact fun φ' hφ => .agg va h1 (fun i x e => ih i x e φ' hφ)
  | tuple va h1 _ ih => exact fun φ' hφ => .tuple va h1 (fun i x e => ih i x e φ' hφ)

def writable : Blk → Prop
  | .cells _ _ _ => True
  | .map _ _ => True
  | .iter _ _ _ _ => True
  | _ => False

def BRep (w : World) (I : Nat → Prop) (φ : Phi) (p : Pl) : Blk → Prop
  | .cells slack k rows => p.k = k ∧ p.n = rows.length ∧ p.n ≤ p.N ∧ (slack = false → p.N = p.n) ∧ (∀ e, e ∈ rows → e.length = k) ∧
      ∃ cc el, w.heap[p.cb]? = some (.cells cc el (0, 0)) ∧ p.d + p.N * k ≤ cc.size ∧
        ∀ i j c, rowAt rows i j = some c → isCell c = true ∧ ∃ v, cc[p.d + i * k + j]? = some v ∧ VRep w I φ c v
  | .imm k rows => p.k = k ∧ p.n = rows.length ∧ p.n ≤ p.N ∧ (∀ e, e ∈ rows → e.length = k) ∧
        ∀ i j c, rowAt rows i j = some c → isCell c = true ∧ I p.cb ∧ ∃ v, w.cell? (cellAt p.cb (p.d + i * k + j)) = some v ∧ VRep w I noPhi c v
  | .map es clock => ∃ ces, w.heap[p.cb]? = some (.map ces clock) ∧ ces.size = es.length ∧
        ∀ (i : Nat) k v b, es[i]? = some (k, v, b) → ∃ ke : MapEntry, ces[i]? = some ke ∧ ke.born = b ∧ VRep w I φ k ke.key ∧ VRep w I φ v ke.val
  | .iter m since seen last => p.d = 0 ∧ ∃ cm, w.heap[p.cb]? = some (.mapIter cm since seen.toArray last) ∧
      (m = none → cm = none) ∧ ∀ b, m = some b → ∃ q, φ b = some q ∧ cm = some q.cb
  | .dead => True

def Owned (φ : Phi) (h : Heap) (cb : Nat) : Prop := ∃ b x p, Heap.get h b = some x ∧ writable x ∧ φ b = some p ∧ p.cb = cb

/-- The tables lie where they lay, and are read alone. -/
def GlobOK (w : World) (I : Nat → Prop) : Prop := ∀ g k l, globN g = some (k, l) → I g ∧ ∀ (j : Nat) (n : Int), l[j]? = some n → w.cell? (cellAt g j) = some (.int k n)
theorem GlobOK.mono {w w' : World} {I I' : Nat → Prop} (r : GlobOK w I) (hI : ∀ cb, I cb → I' cb) (hc : ∀ cb o, I cb → w'.cell? (cellAt cb o) = w.cell? (cellAt cb o)) : GlobOK w' I' :=
  fun g k l e => ⟨hI g (r g k l e).1, fun j n hj => (hc g j (r g k l e).1).trans ((r g k l e).2 j n hj)⟩

structure Sim (w : World) (I : Nat → Prop) (φ : Phi) (h : Heap) : Prop where
  dom : ∀ b p, φ b = some p → ∃ x, Heap.get h b = some x
  pl : ∀ b x, Heap.get h b = some x → ∃ p, φ b = some p
  rep : ∀ b x p, Heap.get h b = some x → φ b = some p → BRep w I φ p x
  own : ∀ cb, Owned φ h cb → ¬ I cb ∧ cb < w.heap.size
  inj : ∀ b b' x x' p p', Heap.get h b = some x → Heap.get h b' = some x' → writable x → writable x' → φ b = some p → φ b' = some p' → p.cb = p'.cb → b = b'
  imm : ∀ cb, I cb → cb < w.heap.size
  glob : GlobOK w I

structure Ext (w : World) (I : Nat → Prop) (φ : Phi) (h : Heap) (w' : World) (I' : Nat → Prop) (φ' : Phi) (h' : Heap) : Prop where
  os : w'.os = w.os
  tape : w'.tape = w.tape
  output : w'.output = w.output
  size : w.heap.size ≤ w'.heap.size
  phi : ∀ b p, φ b = some p → φ' b = some p
  imm : ∀ cb, I cb → I' cb
  keep : ∀ cb, I cb → w'.heap[cb]? = w.heap[cb]?
  frame : ∀ cb, cb < w.heap.size → ¬ Owned φ h cb → w'.heap[cb]? = w.heap[cb]?
  own : ∀ cb, Owned φ' h' cb → cb < w.heap.size → Owned φ h cb
  new : ∀ cb, I' cb → cb < w.heap.size → I cb ∨ Owned φ h cb
  fz : ∀ ad : Addr, w'.frozen? ad = w.frozen? ad

theorem Ext.refl (w : World) (I : Nat → Prop) (φ : Phi) (h : Heap) : Ext w I φ h w I φ h :=
  ⟨rfl, rfl, rfl, Nat.le_refl _, fun _ _ e => e, fun _ e => e, fun _ _ => rfl, fun _ _ _ => rfl, fun _ e _ => e, fun _ e _ => .inl e, fun _ => rfl⟩

theorem Ext.trans {w w1 w2 : World} {I I1 I2 : Nat → Prop} {φ φ1 φ2 : Phi} {h h1 h2 : Heap} (a : Ext w I φ h w1 I1 φ1 h1) (b : Ext w1 I1 φ1 h1 w2 I2 φ2 h2) :
    Ext w I φ h w2 I2 φ2 h2 where
  os := b.os.trans a.os
  tape := b.tape.trans a.tape
  output := b.output.trans a.output
  size := Nat.le_trans a.size b.size
  phi := fun x p e => b.phi x p (a.phi x p e)
  imm := fun c e => b.imm c (a.imm c e)
  keep := fun c e => (b.keep c (a.imm c e)).trans (a.keep c e)
  frame := fun c hc e => (b.frame c (Nat.lt_of_lt_of_le hc a.size) (fun o => e (a.own c o hc))).trans (a.frame c hc e)
  own := fun c o hc => a.own c (b.own c o (Nat.lt_of_lt_of_le hc a.size)) hc
  new := fun c e hc => (b.new c e (Nat.lt_of_lt_of_le hc a.size)).elim (fun e => a.new c e hc) (fun o => .inr (a.own c o hc))
  fz := fun ad => (b.fz ad).trans (a.fz ad)

theorem cell_of_heap {w w' : World} {cb : Nat} (h : w'.heap[cb]? = w.heap[cb]?) (o : Nat) : w'.cell? (cellAt cb o) = w.cell? (cellAt cb o) := by
  unfold World.cell?; rw [h]

theorem VRep.ext {w w' : World} {I I' : Nat → Prop} {φ φ' : Phi} {h h' : Heap} {x : AV} {v : Value} (r : VRep w I φ x v) (e : Ext w I φ h w' I' φ' h') :
    VRep w' I' φ' x v := r.mono e.imm (fun cb o hI => cell_of_heap (e.keep cb hI) o) φ' e.phi

theorem VRep.tree_ext {w w' : World} {I I' : Nat → Prop} {φ φ' : Phi} {h h' : Heap} {x : AV} {v : Value} (r : VRep w I noPhi x v) (e : Ext w I φ h w' I' φ' h') :
    VRep w' I' noPhi x v := r.mono e.imm (fun cb o hI => cell_of_heap (e.keep cb hI) o) noPhi (fun _ _ h => h)

/-- A tree is a value in every heap. -/
theorem VRep.of_tree {w : World} {I : Nat → Prop} {φ : Phi} {x : AV} {v : Value} (r : VRep w I noPhi x v) : VRep w I φ x v :=
  r.mono (fun _ h => h) (fun _ _ _ => rfl) φ (fun _ _ h => by cases h)

def TRep (w : World) (I : Nat → Prop) (φ : Phi) (t : Tmps) (tmps : Array Value) : Prop :=
  (∀ i, VRep w I φ (tget t i) (tmps.getD i _root_.Go.undef)) ∧ GlobOK w I

theorem TRep.ext {w w' : World} {I I' : Nat → Prop} {φ φ' : Phi} {h h' : Heap} {t : Tmps} {a : Array Value} (r : TRep w I φ t a) (e : Ext w I φ h w' I' φ' h') :
    TRep w' I' φ' t a := ⟨fun i => (r.1 i).ext e, r.2.mono e.imm (fun cb o hI => cell_of_heap (e.keep cb hI) o)⟩

theorem TRep.put {w : World} {I : Nat → Prop} {φ : Phi} {t : Tmps} {a : Array Value} {d : Nat} {x : AV} {v : Value} (r : TRep w I φ t a) (hd : d < a.size)
    (hv : VRep w I φ x v) : TRep w I φ (tset t d x) (a.setIfInBounds d v) := by
  refine ⟨?_, r.2⟩
  intro i
  rw [tget_tset_of]
  by_cases e : d = i
  · subst e; rw [if_pos rfl]; simpa [Array.getD, hd] using hv
  · rw [if_neg e]
    have := r.1 i
    simp only [Array.getD_eq_getD_getElem?] at *
    rw [Array.getElem?_setIfInBounds_ne e]; exact this

/-- What lies in a cell is no aggregate. -/
theorem VRep.cell {w : World} {I : Nat → Prop} {φ : Phi} {x : AV} {v : Value} (r : VRep w I φ x v) (h : isCell x = true) :
    (∀ vs, v ≠ .agg vs) ∧ (∀ vs, v ≠ .tuple vs) := by
  cases r <;> first | (simp [isCell] at h; done) | exact ⟨(fun _ e => by cases e), (fun _ e => by cases e)⟩

end Go.AM
