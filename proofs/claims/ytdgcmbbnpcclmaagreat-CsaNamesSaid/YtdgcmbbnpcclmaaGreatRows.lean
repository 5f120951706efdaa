/-
  No cell of these rows narrows 'for every input' (looked for: loops, veiled, ifaces, maps, wideKeys, modest, calm, conditions, laid).
  DERIVED. THE GIVEN ROWS OF THIS SEAT. 5 by the template 'for every input the law returns true; each argument reads behind the call as it read before'; 0 by the template 'total and deterministic' (their statements: YtdgcmbbnpcclmaaGreatTotals.lean).
  GIVEN WITH THE SEED: the statements are not yours to turn. If you find one false, say at which input.
  Laid BY PROGRAM, IN A SANDBOX (cutbox-rows.mjs): the forced cells as the released guide's own fill.sh prints them over the translation 89d864d60e05c21e… (all of the seat's roots in one cut). By AI agents, Wed Nov 11 2026. No macro, syntax, notation, axiom, sorry.
-/
import Derived.Test.YtdgcmbbnpcclmaaGreatChecked
import GoSem.Claim
import GoSem.ClaimJoined
import GoSem.ClaimMapViews
import Derived.JoinedTies
import Derived.KernelRfl
namespace Go.Proofs.YtdgcmbbnpcclmaaGreat
/- THE CELL 'sum', in the pinned program and in every row, IS THE sha256 OF THE DUMP (.gsa) THAT YtdgcmbbnpcclmaaGreatProg.lean LOADS. Nothing in Lean hashes anything: it is a label: what it is worth is what the hold of that sum in a sandbox is worth. -/
noncomputable def Tryz.pinned : Pinned := { name := "ytdgcmbbnpcclmaagreat", sum := "89d864d60e05c21e128e8015585c3199f08b05cbdca3760fe62834dfa18d1757", checked := Tryz.checked }
namespace Rows
def none {H : Type} : Left H := { results := [], args := [] }

/-- 'timetablelaw25.CsaUpdates': WHATEVER THE INPUT: true; the input reads as it did. -/
def csaUpdatesSpec : ChangeSpec := { name := "csaUpdates", fn := fun _ => fun
  | [d1, d2, d3] => { results := [.lit (.bool true)], args := [d1, d2, d3] }
  | _ => none }
def csaUpdatesRow : OpenClaim := { program := "ytdgcmbbnpcclmaagreat", sum := "89d864d60e05c21e128e8015585c3199f08b05cbdca3760fe62834dfa18d1757", func := "timetable/timetablelaw25.CsaUpdates", spec := "csaUpdates", unfollowed := true, recurses := true, apart := false }
def CsaUpdatesSaid : Prop := csaUpdatesRow.holds Tryz.pinned (OpenSpec.ofChange csaUpdatesSpec)

/-- ITS FALSE NEIGHBOUR: 'it returns false'. Refute it at one input. -/
def csaUpdatesWrong : ChangeSpec := { name := "csaUpdates", fn := fun _ => fun
  | [d1, d2, d3] => { results := [.lit (.bool false)], args := [d1, d2, d3] }
  | _ => none }
def CsaUpdatesWrongFalsely : Prop := csaUpdatesRow.holds Tryz.pinned (OpenSpec.ofChange csaUpdatesWrong)

/-- 'timetablelaw25.CsaRows': WHATEVER THE INPUT: true; the input reads as it did. -/
def csaRowsSpec : ChangeSpec := { name := "csaRows", fn := fun _ => fun
  | [d1, d2] => { results := [.lit (.bool true)], args := [d1, d2] }
  | _ => none }
def csaRowsRow : OpenClaim := { program := "ytdgcmbbnpcclmaagreat", sum := "89d864d60e05c21e128e8015585c3199f08b05cbdca3760fe62834dfa18d1757", func := "timetable/timetablelaw25.CsaRows", spec := "csaRows", unfollowed := true, recurses := true, apart := false }
def CsaRowsSaid : Prop := csaRowsRow.holds Tryz.pinned (OpenSpec.ofChange csaRowsSpec)

/-- ITS FALSE NEIGHBOUR: 'it returns false'. Refute it at one input. -/
def csaRowsWrong : ChangeSpec := { name := "csaRows", fn := fun _ => fun
  | [d1, d2] => { results := [.lit (.bool false)], args := [d1, d2] }
  | _ => none }
def CsaRowsWrongFalsely : Prop := csaRowsRow.holds Tryz.pinned (OpenSpec.ofChange csaRowsWrong)

/-- 'timetablelaw25.CsaNames': WHATEVER THE INPUT: true; the input reads as it did. -/
def csaNamesSpec : ChangeSpec := { name := "csaNames", fn := fun _ => fun
  | [] => { results := [.lit (.bool true)], args := [] }
  | _ => none }
def csaNamesRow : OpenClaim := { program := "ytdgcmbbnpcclmaagreat", sum := "89d864d60e05c21e128e8015585c3199f08b05cbdca3760fe62834dfa18d1757", func := "timetable/timetablelaw25.CsaNames", spec := "csaNames", unfollowed := true, recurses := true, apart := false }
def CsaNamesSaid : Prop := csaNamesRow.holds Tryz.pinned (OpenSpec.ofChange csaNamesSpec)

/-- ITS FALSE NEIGHBOUR: 'it returns false'. Refute it at one input. -/
def csaNamesWrong : ChangeSpec := { name := "csaNames", fn := fun _ => fun
  | [] => { results := [.lit (.bool false)], args := [] }
  | _ => none }
def CsaNamesWrongFalsely : Prop := csaNamesRow.holds Tryz.pinned (OpenSpec.ofChange csaNamesWrong)

/-- 'timetablelaw25.CsaCalls': WHATEVER THE INPUT: true; the input reads as it did. -/
def csaCallsSpec : ChangeSpec := { name := "csaCalls", fn := fun _ => fun
  | [d1, d2] => { results := [.lit (.bool true)], args := [d1, d2] }
  | _ => none }
def csaCallsRow : OpenClaim := { program := "ytdgcmbbnpcclmaagreat", sum := "89d864d60e05c21e128e8015585c3199f08b05cbdca3760fe62834dfa18d1757", func := "timetable/timetablelaw25.CsaCalls", spec := "csaCalls", unfollowed := true, recurses := true, apart := false }
def CsaCallsSaid : Prop := csaCallsRow.holds Tryz.pinned (OpenSpec.ofChange csaCallsSpec)

/-- ITS FALSE NEIGHBOUR: 'it returns false'. Refute it at one input. -/
def csaCallsWrong : ChangeSpec := { name := "csaCalls", fn := fun _ => fun
  | [d1, d2] => { results := [.lit (.bool false)], args := [d1, d2] }
  | _ => none }
def CsaCallsWrongFalsely : Prop := csaCallsRow.holds Tryz.pinned (OpenSpec.ofChange csaCallsWrong)

/-- 'timetablelaw25.CsaBrute': WHATEVER THE INPUT: true; the input reads as it did. -/
def csaBruteSpec : ChangeSpec := { name := "csaBrute", fn := fun _ => fun
  | [d1, d2] => { results := [.lit (.bool true)], args := [d1, d2] }
  | _ => none }
def csaBruteRow : OpenClaim := { program := "ytdgcmbbnpcclmaagreat", sum := "89d864d60e05c21e128e8015585c3199f08b05cbdca3760fe62834dfa18d1757", func := "timetable/timetablelaw25.CsaBrute", spec := "csaBrute", unfollowed := true, recurses := true, apart := false }
def CsaBruteSaid : Prop := csaBruteRow.holds Tryz.pinned (OpenSpec.ofChange csaBruteSpec)

/-- ITS FALSE NEIGHBOUR: 'it returns false'. Refute it at one input. -/
def csaBruteWrong : ChangeSpec := { name := "csaBrute", fn := fun _ => fun
  | [d1, d2] => { results := [.lit (.bool false)], args := [d1, d2] }
  | _ => none }
def CsaBruteWrongFalsely : Prop := csaBruteRow.holds Tryz.pinned (OpenSpec.ofChange csaBruteWrong)

/- THE SECOND FORM. 'bulk': how many values and letters a reading holds, each counted each time it is reached (what is shared counts as often as it is met; a slice's spare places count too). A statement '..UptoSaid' is the law's where the arguments, and the package variables that the reading takes, are together of bulk at most 1048576: NARROWER than '..Said'. Prove '..Said' where nothing that the law and all that it calls make is longer than what came in: it says more and counts as full. Else prove '..UptoSaid'. A law counts once. -/
mutual
def uptoBulk {H : Type} : DataW H → Nat
  | .lit (.string bytes) => bytes.length + 1
  | .lit _ => 1
  | .nil => 1
  | .ptr d => uptoBulk d + 1
  | .slice elems spare => uptoBulkAll elems + uptoBulkAll spare + 1
  | .agg parts => uptoBulkAll parts + 1
  | .iface _ d => uptoBulk d + 1
  | .map entries => uptoBulkEntries entries + 1
  | .held _ => 1
def uptoBulkAll {H : Type} : List (DataW H) → Nat
  | [] => 0
  | d :: r => uptoBulk d + uptoBulkAll r
def uptoBulkEntries {H : Type} : List (Lit × DataW H) → Nat
  | [] => 0
  | x :: r => uptoBulkEntry x + uptoBulkEntries r
def uptoBulkEntry {H : Type} : Lit × DataW H → Nat
  | (.string bytes, d) => bytes.length + uptoBulk d + 1
  | (_, d) => uptoBulk d + 1
 end
def uptoSmall : (H : Type) → List (DataW H) → Bool := fun _ ds => decide (uptoBulkAll ds ≤ 1048576)
def OpenSpec.upto (s : _root_.Go.ChangeSpec) : _root_.Go.OpenSpec := { _root_.Go.OpenSpec.ofChange s with cond := some uptoSmall }

/-- 'timetablelaw25.CsaUpdates', WHERE WHAT IT READS IS OF BULK AT MOST 1048576: true; the input reads as it did. -/
def csaUpdatesUptoRow : OpenClaim := { program := "ytdgcmbbnpcclmaagreat", sum := "89d864d60e05c21e128e8015585c3199f08b05cbdca3760fe62834dfa18d1757", func := "timetable/timetablelaw25.CsaUpdates", spec := "csaUpdates", unfollowed := true, recurses := true, apart := false, narrowed := true }
def CsaUpdatesUptoSaid : Prop := csaUpdatesUptoRow.holds Tryz.pinned (OpenSpec.upto csaUpdatesSpec)

/-- 'timetablelaw25.CsaRows', WHERE WHAT IT READS IS OF BULK AT MOST 1048576: true; the input reads as it did. -/
def csaRowsUptoRow : OpenClaim := { program := "ytdgcmbbnpcclmaagreat", sum := "89d864d60e05c21e128e8015585c3199f08b05cbdca3760fe62834dfa18d1757", func := "timetable/timetablelaw25.CsaRows", spec := "csaRows", unfollowed := true, recurses := true, apart := false, narrowed := true }
def CsaRowsUptoSaid : Prop := csaRowsUptoRow.holds Tryz.pinned (OpenSpec.upto csaRowsSpec)

/-- 'timetablelaw25.CsaNames', WHERE WHAT IT READS IS OF BULK AT MOST 1048576: true; the input reads as it did. -/
def csaNamesUptoRow : OpenClaim := { program := "ytdgcmbbnpcclmaagreat", sum := "89d864d60e05c21e128e8015585c3199f08b05cbdca3760fe62834dfa18d1757", func := "timetable/timetablelaw25.CsaNames", spec := "csaNames", unfollowed := true, recurses := true, apart := false, narrowed := true }
def CsaNamesUptoSaid : Prop := csaNamesUptoRow.holds Tryz.pinned (OpenSpec.upto csaNamesSpec)

/-- 'timetablelaw25.CsaCalls', WHERE WHAT IT READS IS OF BULK AT MOST 1048576: true; the input reads as it did. -/
def csaCallsUptoRow : OpenClaim := { program := "ytdgcmbbnpcclmaagreat", sum := "89d864d60e05c21e128e8015585c3199f08b05cbdca3760fe62834dfa18d1757", func := "timetable/timetablelaw25.CsaCalls", spec := "csaCalls", unfollowed := true, recurses := true, apart := false, narrowed := true }
def CsaCallsUptoSaid : Prop := csaCallsUptoRow.holds Tryz.pinned (OpenSpec.upto csaCallsSpec)

/-- 'timetablelaw25.CsaBrute', WHERE WHAT IT READS IS OF BULK AT MOST 1048576: true; the input reads as it did. -/
def csaBruteUptoRow : OpenClaim := { program := "ytdgcmbbnpcclmaagreat", sum := "89d864d60e05c21e128e8015585c3199f08b05cbdca3760fe62834dfa18d1757", func := "timetable/timetablelaw25.CsaBrute", spec := "csaBrute", unfollowed := true, recurses := true, apart := false, narrowed := true }
def CsaBruteUptoSaid : Prop := csaBruteUptoRow.holds Tryz.pinned (OpenSpec.upto csaBruteSpec)

end Rows
end Go.Proofs.YtdgcmbbnpcclmaaGreat
