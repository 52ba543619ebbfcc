/-
  DERIVED. GIVEN WITH THE SEED: THE CARDS: each row of YtpjjkiidjofflaaGreatDoorRows.lean that lists a variable, with what it lists TIED to the program's text (the seventh form; the later family's looks); each row that meets fmt, with fmt's text TOLD by the authors' own Lean function (tested against real Go, not proved from fmt's source: count such statements apart). THE CARD IS WHAT COUNTS. Prove the row's statement (the work); the ties are given (YtpjjkiidjofflaaGreatDoorTie.lean); close each card by the builder's one call (the guide's Derived/Test/ToyasCard.lean, 'card_holds'). Laid BY PROGRAM, IN A SANDBOX (cutbox-door.mjs). By AI agents, Wed Nov 11 2026. No macro, syntax, notation, axiom, sorry.
-/
import Derived.Test.YtpjjkiidjofflaaGreatDoorRows
import GoSem.ClaimSeven
namespace Go.Proofs.YtpjjkiidjofflaaGreatDoor
namespace Rows

/-- THE TIED CARD OF 'barbicantop.TopRuns'. -/
def topRunsCard : Claim7 := { stood := { row := topRunsRow, standIns := [], harness := (true, "0e5359d558413bd436de7220272800d8048a787c0953e68772f9b950bcd687bf"), looks := true }, kinds := [], alts := [], laidByText := true, laidKinds := [.data, .data], laidTests := true, laidLooks := .later }
def TopRunsCardSaid : Prop := Claim7.holds Tryz.pinned (.plain (OpenSpec.ofChange topRunsSpec)) topRunsCard

/-- THE TIED CARD OF 'barbicantop.TopWalls'. -/
def topWallsCard : Claim7 := { stood := { row := topWallsRow, standIns := [], harness := (true, "0e5359d558413bd436de7220272800d8048a787c0953e68772f9b950bcd687bf"), looks := true }, kinds := [], alts := [], laidByText := true, laidKinds := [.data, .data], laidTests := true, laidLooks := .later }
def TopWallsCardSaid : Prop := Claim7.holds Tryz.pinned (.plain (OpenSpec.ofChange topWallsSpec)) topWallsCard

/-- THE SECOND FORM's CARD OF 'barbicantop.TopRuns'. -/
def topRunsUptoCard : Claim7 := { stood := { row := topRunsUptoRow, standIns := [], harness := (true, "0e5359d558413bd436de7220272800d8048a787c0953e68772f9b950bcd687bf"), looks := true }, kinds := [], alts := [], laidByText := true, laidKinds := [.data, .data], laidTests := true, laidLooks := .later }
def TopRunsUptoCardSaid : Prop := Claim7.holds Tryz.pinned (.plain (OpenSpec.upto topRunsSpec)) topRunsUptoCard

/-- THE SECOND FORM's CARD OF 'barbicantop.TopWalls'. -/
def topWallsUptoCard : Claim7 := { stood := { row := topWallsUptoRow, standIns := [], harness := (true, "0e5359d558413bd436de7220272800d8048a787c0953e68772f9b950bcd687bf"), looks := true }, kinds := [], alts := [], laidByText := true, laidKinds := [.data, .data], laidTests := true, laidLooks := .later }
def TopWallsUptoCardSaid : Prop := Claim7.holds Tryz.pinned (.plain (OpenSpec.upto topWallsSpec)) topWallsUptoCard
end Rows
end Go.Proofs.YtpjjkiidjofflaaGreatDoor
