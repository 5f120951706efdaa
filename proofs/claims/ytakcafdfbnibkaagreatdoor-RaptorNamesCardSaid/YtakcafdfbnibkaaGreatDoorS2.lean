/- The chapter's example comes out as it tells: RaptorNames returns true. Conditions: none beside the card's: it takes no input; the table of math/bits that it reads lies as the program's text lays it (tied by the card). -/
import Derived.Test.YtakcafdfbnibkaaGreatDoorRows
import Derived.Test.YtakcafdfbnibkaaGreatDoorCards
import Derived.Test.YtakcafdfbnibkaaGreatDoorTie
import Derived.WalkKit
import Derived.ProofKit
import Derived.LaidMore
import Derived.OpenShut
import Derived.Stop.Joined
import Derived.SevenTiedAt
import Derived.Test.YtakcafdfbnibkaaGreatDoorS1
namespace Go.Proofs.YtakcafdfbnibkaaGreatDoor.raptorNames
open Go.ChangeShapes Go.WideShapes Go.ChangeAt Go.RowKit
set_option linter.unusedVariables false


theorem proved : Rows.RaptorNamesCardSaid :=
  Claim7.holds_tied_plain_at .later [] [.data] true (true, "3091c7f33c101778ed3bf600e3e1cf5a3adbdcb7d0d0ceb684666ff2c21a51fc") true
    over (fun _ h => by cases h) (by kernel_rfl) (fun _ h => by cases h) raptorNames_row_tie rfl ⟨rfl, rfl⟩ (by kernel_rfl) rfl
    (fun f fn hf hfn => by
      obtain rfl : f = 3 := Option.some.inj ((show Tryz.prog.funcNamed "timetable/timetablelaw26.RaptorNames" = some 3 by kernel_rfl).symm.trans hf) |>.symm
      obtain rfl : fn = Tryz.f3 := (Option.some.inj (Tryz.func3.symm.trans hfn)).symm
      exact ⟨by kernel_rfl, fun j t ht => by
        rw [Tryz.params3] at ht
        simp at ht⟩)
    (by kernel_rfl)
#print axioms proved
end Go.Proofs.YtakcafdfbnibkaaGreatDoor.raptorNames
