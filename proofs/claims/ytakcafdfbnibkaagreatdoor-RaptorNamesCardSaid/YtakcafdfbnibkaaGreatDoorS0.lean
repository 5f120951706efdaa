/- The chapter's example comes out as it tells: RaptorNames returns true. Conditions: none beside the card's: it takes no input; the table of math/bits that it reads lies as the program's text lays it (tied by the card). -/
import Derived.Test.YtakcafdfbnibkaaGreatDoorRows
import Derived.Test.YtakcafdfbnibkaaGreatDoorCards
import Derived.Test.YtakcafdfbnibkaaGreatDoorTie
import Derived.WalkKit
import Derived.ProofKit
import Derived.LaidMore
import Derived.OpenShut
import Derived.Stop.Joined
import Derived.SevenTiedAt
import Derived.Test.YtakcafdfbnibkaaGreatDoorR6
namespace Go.Proofs.YtakcafdfbnibkaaGreatDoor.raptorNames
open Go.ChangeShapes Go.WideShapes Go.ChangeAt Go.RowKit
set_option linter.unusedVariables false

theorem own : ownKnob Tryz.prog.godebug = none := by kernel_rfl
abbrev laid1 : List (String × DataW Unit) := [("math/bits.deBruijn64tab", Rows.laid_math_bits_deBruijn64tab)]
theorem gTab : Tryz.prog.globalNamed "math/bits.deBruijn64tab" = some 0 := by kernel_rfl
theorem tTab : (Tryz.prog.globals[0]?).map (·.type) = some 275 := by kernel_rfl
theorem c5 : Tryz.prog.cellsOf 5 = 1 := by kernel_rfl

theorem datum {H : Type} {k : IntKind} {l : List Int} (h : Go.AM.globN 0 = some (k, l)) : k = .u8 ∧ l.length = 64 ∧
    (Rows.laid_math_bits_deBruijn64tab : DataW H) = .agg (l.map fun n => .lit (.int .u8 n)) := by
  cases h
  exact ⟨rfl, rfl, rfl⟩

/-- The table lies as it is told. -/
theorem of_laid {W : World} (h : laidMetH Tryz.prog laid1 W) : ∀ g k l, Go.AM.globN g = some (k, l) →
    g < W.heap.size ∧ ∀ (j : Nat) (n : Int), l[j]? = some n → W.cell? (Go.AM.cellAt g j) = some (.int k n) := by
  intro g k l hgl
  have hg : g = 0 := by
    unfold Go.AM.globN at hgl
    cases hb : Nat.beq g 0 with
    | true => exact Nat.eq_of_beq_eq_true hb
    | false => rw [hb] at hgl; cases hgl
  subst hg
  obtain ⟨rfl, hl, hdat⟩ := datum (H := Unit) hgl
  rw [MakeChecks.laidMetH_plain _ _ _ (by kernel_rfl)] at h
  obtain ⟨ps, ⟨g0, t0, cs0, f0, p0, q0, hg0, ht0, hv0, hd0, _, _⟩, _, _⟩ := h
  obtain rfl := Option.some.inj (gTab.symm.trans hg0)
  obtain rfl := Option.some.inj (tTab.symm.trans ht0)
  obtain ⟨xs, m1, rfl, hx1, hlen, hn3, hel⟩ := DataW.trod_array Tryz.underlying275 hd0
  have hxm : l.map (fun n => (DataW.lit (.int .u8 n) : DataW Unit)) = xs.map (·.1) := by
    have h1 := congrArg Prod.fst hx1
    have h2 := hdat.symm.trans h1
    exact DataW.agg.inj h2
  have cell : ∀ (j : Nat) (n : Int), l[j]? = some n → W.cell? (Go.AM.cellAt 0 j) = some (.int .u8 n) := by
    intro j n hj
    have hjl : j < 64 := by
      rw [← hl]; exact (List.getElem?_eq_some_iff.1 hj).1
    have hjx : j < xs.length := by rw [hn3]; exact hjl
    have e1 := hel j hjl
    rw [List.getElem?_eq_getElem hjx] at e1
    obtain ⟨k, e2, e3, _⟩ := DataW.trod_int Tryz.underlying5 e1
    have e4 : (xs.map (·.1))[j]? = some (.lit (.int .u8 k)) := by
      rw [List.getElem?_map, List.getElem?_eq_getElem hjx, e3]; rfl
    rw [← hxm, List.getElem?_map, hj] at e4
    have e5 : n = k := by simpa using e4
    subst e5
    have e6 := World.var?_cell hg0 hv0 j
    rw [c5, Nat.mul_one] at e2
    have e7 : (cs0.toList.drop j)[0]? = some (.int .u8 n) := by
      have : ((cs0.toList.drop j).take 1)[0]? = some (.int .u8 n) := by rw [e2]; rfl
      rwa [List.getElem?_take_of_lt (by omega)] at this
    rw [List.getElem?_drop, Nat.add_zero, Array.getElem?_toList] at e7
    exact e6.trans e7
  refine ⟨?_, cell⟩
  have h0 : ∃ n, l[0]? = some n := ⟨l[0]'(by omega), List.getElem?_eq_getElem (by omega)⟩
  obtain ⟨n, hn⟩ := h0
  have hc := cell 0 n hn
  rcases Nat.lt_or_ge 0 W.heap.size with h | h
  · exact h
  · unfold World.cell? at hc
    rw [Array.getElem?_eq_none (by simpa using h)] at hc
    cases hc

theorem walk (w : World) (hL : laidMetH Tryz.prog laid1 w) :
    Calls Tryz.prog 3 #[] w fun e w' => e = .returned (.bool true) ∧ Grown w w' := by
  exact Go.AM.calls_flat (h85 e85 (List.Mem.head _)) (fun _ _ _ _ => Go.AM.vrep_true) w (of_laid hL)

/-- The door's own heap meets the condition: three closed facts. -/
theorem door_met (os : Os) (args : Array Value) : laidMetH Tryz.prog laid1 ((World.doorLaid Tryz.prog 400 os).forCall (fun _ _ => 0) ⟨#[], args, []⟩).memory :=
  laidMetH_of_parts3 (fuel := 8) (laidMet_of_run' 8 (by kernel_rfl) (by kernel_rfl)) (by kernel_rfl) (by kernel_rfl)

end Go.Proofs.YtakcafdfbnibkaaGreatDoor.raptorNames
