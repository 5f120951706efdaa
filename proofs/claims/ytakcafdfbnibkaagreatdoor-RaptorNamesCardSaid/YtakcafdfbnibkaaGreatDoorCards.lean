/-
  DERIVED. GIVEN WITH THE SEED: THE CARDS: each row of YtakcafdfbnibkaaGreatDoorRows.lean that lists a variable, with what it lists TIED to the program's text (the seventh form; the later family's looks); each row that meets fmt, with fmt's text TOLD by the authors' own Lean function (tested against real Go, not proved from fmt's source: count such statements apart). THE CARD IS WHAT COUNTS. Prove the row's statement (the work); the ties are given (YtakcafdfbnibkaaGreatDoorTie.lean); close each card by the builder's one call (the guide's Derived/Test/ToyasCard.lean, 'card_holds'). Laid BY PROGRAM, IN A SANDBOX (cutbox-door.mjs). By AI agents, Wed Nov 11 2026. No macro, syntax, notation, axiom, sorry.
-/
import Derived.Test.YtakcafdfbnibkaaGreatDoorRows
import GoSem.ClaimSeven
namespace Go.Proofs.YtakcafdfbnibkaaGreatDoor
namespace Rows

/-- THE TIED CARD OF 'timetablelaw26.RaptorNames'. -/
def raptorNamesCard : Claim7 := { stood := { row := raptorNamesRow, standIns := [], harness := (true, "3091c7f33c101778ed3bf600e3e1cf5a3adbdcb7d0d0ceb684666ff2c21a51fc"), looks := true }, kinds := [], alts := [], laidByText := true, laidKinds := [.data], laidTests := true, laidLooks := .later }
def RaptorNamesCardSaid : Prop := Claim7.holds Tryz.pinned (.plain (OpenSpec.ofChange raptorNamesSpec)) raptorNamesCard

/-- THE TIED CARD OF 'timetablelaw27.ProfileNames'. -/
def profileNamesCard : Claim7 := { stood := { row := profileNamesRow, standIns := [], harness := (true, "3091c7f33c101778ed3bf600e3e1cf5a3adbdcb7d0d0ceb684666ff2c21a51fc"), looks := true }, kinds := [], alts := [], laidByText := true, laidKinds := [.data], laidTests := true, laidLooks := .later }
def ProfileNamesCardSaid : Prop := Claim7.holds Tryz.pinned (.plain (OpenSpec.ofChange profileNamesSpec)) profileNamesCard

/-- THE SECOND FORM's CARD OF 'timetablelaw26.RaptorNames'. -/
def raptorNamesUptoCard : Claim7 := { stood := { row := raptorNamesUptoRow, standIns := [], harness := (true, "3091c7f33c101778ed3bf600e3e1cf5a3adbdcb7d0d0ceb684666ff2c21a51fc"), looks := true }, kinds := [], alts := [], laidByText := true, laidKinds := [.data], laidTests := true, laidLooks := .later }
def RaptorNamesUptoCardSaid : Prop := Claim7.holds Tryz.pinned (.plain (OpenSpec.upto raptorNamesSpec)) raptorNamesUptoCard

/-- THE SECOND FORM's CARD OF 'timetablelaw27.ProfileNames'. -/
def profileNamesUptoCard : Claim7 := { stood := { row := profileNamesUptoRow, standIns := [], harness := (true, "3091c7f33c101778ed3bf600e3e1cf5a3adbdcb7d0d0ceb684666ff2c21a51fc"), looks := true }, kinds := [], alts := [], laidByText := true, laidKinds := [.data], laidTests := true, laidLooks := .later }
def ProfileNamesUptoCardSaid : Prop := Claim7.holds Tryz.pinned (.plain (OpenSpec.upto profileNamesSpec)) profileNamesUptoCard
end Rows
end Go.Proofs.YtakcafdfbnibkaaGreatDoor
