/-
  DERIVED. GIVEN WITH THE SEED: THE CARDS: each row of YtencdcmbfeeekaaDoorRows.lean that lists a variable, with what it lists TIED to the program's text (the seventh form; the later family's looks); each row that meets fmt, with fmt's text TOLD by the authors' own Lean function (tested against real Go, not proved from fmt's source: count such statements apart). THE CARD IS WHAT COUNTS. Prove the row's statement (the work); the ties are given (YtencdcmbfeeekaaDoorTie.lean); close each card by the builder's one call (the guide's Derived/Test/ToyasCard.lean, 'card_holds'). Laid BY PROGRAM, IN A SANDBOX (cutbox-door.mjs). By AI agents, Wed Nov 11 2026. No macro, syntax, notation, axiom, sorry.
-/
import Derived.Test.YtencdcmbfeeekaaDoorRows
import GoSem.ClaimSeven
namespace Go.Proofs.YtencdcmbfeeekaaDoor
namespace Rows

/-- THE TIED CARD OF 'barbicanlaw.CodeChecks'. -/
def codeChecksCard : Claim7 := { stood := { row := codeChecksRow, standIns := [], harness := (true, "83927563b8e191992a773e15d6733e8abcf38b71f4d5a8dc6e0dff3d0557156e"), looks := false }, kinds := [], alts := [], laidByText := true, laidKinds := [.data], laidTests := true, laidLooks := .later }
def CodeChecksCardSaid : Prop := Claim7.holds Tryd.pinned (.plain (OpenSpec.ofChange codeChecksSpec)) codeChecksCard

/-- THE TIED CARD OF 'barbicanlaw.CodeEncodes'. -/
def codeEncodesCard : Claim7 := { stood := { row := codeEncodesRow, standIns := [], harness := (true, "83927563b8e191992a773e15d6733e8abcf38b71f4d5a8dc6e0dff3d0557156e"), looks := false }, kinds := [], alts := [], laidByText := true, laidKinds := [.data], laidTests := true, laidLooks := .later }
def CodeEncodesCardSaid : Prop := Claim7.holds Tryd.pinned (.plain (OpenSpec.ofChange codeEncodesSpec)) codeEncodesCard

/-- THE TIED CARD OF 'barbicanlaw.CodeDecodes'. -/
def codeDecodesCard : Claim7 := { stood := { row := codeDecodesRow, standIns := [], harness := (true, "83927563b8e191992a773e15d6733e8abcf38b71f4d5a8dc6e0dff3d0557156e"), looks := false }, kinds := [], alts := [], laidByText := true, laidKinds := [.data], laidTests := true, laidLooks := .later }
def CodeDecodesCardSaid : Prop := Claim7.holds Tryd.pinned (.plain (OpenSpec.ofChange codeDecodesSpec)) codeDecodesCard

/-- THE TIED CARD OF 'barbicanlaw.MemChecks'. -/
def memChecksCard : Claim7 := { stood := { row := memChecksRow, standIns := [], harness := (true, "83927563b8e191992a773e15d6733e8abcf38b71f4d5a8dc6e0dff3d0557156e"), looks := false }, kinds := [], alts := [], laidByText := true, laidKinds := [.data], laidTests := true, laidLooks := .later }
def MemChecksCardSaid : Prop := Claim7.holds Tryd.pinned (.plain (OpenSpec.ofChange memChecksSpec)) memChecksCard

/-- THE TIED CARD OF 'barbicankeep.CodeBack'. -/
def codeBackCard : Claim7 := { stood := { row := codeBackRow, standIns := [], harness := (true, "83927563b8e191992a773e15d6733e8abcf38b71f4d5a8dc6e0dff3d0557156e"), looks := false }, kinds := [], alts := [], laidByText := true, laidKinds := [.data], laidTests := true, laidLooks := .later }
def CodeBackCardSaid : Prop := Claim7.holds Tryd.pinned (.plain (OpenSpec.ofChange codeBackSpec)) codeBackCard

/-- THE TIED CARD OF 'barbicanlaw.MemData'. -/
def memDataCard : Claim7 := { stood := { row := memDataRow, standIns := [], harness := (true, "83927563b8e191992a773e15d6733e8abcf38b71f4d5a8dc6e0dff3d0557156e"), looks := false }, kinds := [], alts := [], laidByText := true, laidKinds := [.data], laidTests := true, laidLooks := .later }
def MemDataCardSaid : Prop := Claim7.holds Tryd.pinned (.plain (OpenSpec.ofChange memDataSpec)) memDataCard

/-- THE TIED CARD OF 'barbicanlaw.MemLoads'. -/
def memLoadsCard : Claim7 := { stood := { row := memLoadsRow, standIns := [], harness := (true, "83927563b8e191992a773e15d6733e8abcf38b71f4d5a8dc6e0dff3d0557156e"), looks := false }, kinds := [], alts := [], laidByText := true, laidKinds := [.data], laidTests := true, laidLooks := .later }
def MemLoadsCardSaid : Prop := Claim7.holds Tryd.pinned (.plain (OpenSpec.ofChange memLoadsSpec)) memLoadsCard

/-- THE TIED CARD OF 'barbicanlaw.MemStores'. -/
def memStoresCard : Claim7 := { stood := { row := memStoresRow, standIns := [], harness := (true, "83927563b8e191992a773e15d6733e8abcf38b71f4d5a8dc6e0dff3d0557156e"), looks := false }, kinds := [], alts := [], laidByText := true, laidKinds := [.data], laidTests := true, laidLooks := .later }
def MemStoresCardSaid : Prop := Claim7.holds Tryd.pinned (.plain (OpenSpec.ofChange memStoresSpec)) memStoresCard

/-- THE TIED CARD OF 'barbicankeep.StoresLoad'. -/
def storesLoadCard : Claim7 := { stood := { row := storesLoadRow, standIns := [], harness := (true, "83927563b8e191992a773e15d6733e8abcf38b71f4d5a8dc6e0dff3d0557156e"), looks := false }, kinds := [], alts := [], laidByText := true, laidKinds := [.data], laidTests := true, laidLooks := .later }
def StoresLoadCardSaid : Prop := Claim7.holds Tryd.pinned (.plain (OpenSpec.ofChange storesLoadSpec)) storesLoadCard

/-- THE TIED CARD OF 'barbicanlaw.MachRuns'. -/
def machRunsCard : Claim7 := { stood := { row := machRunsRow, standIns := [], harness := (true, "83927563b8e191992a773e15d6733e8abcf38b71f4d5a8dc6e0dff3d0557156e"), looks := false }, kinds := [], alts := [], laidByText := true, laidKinds := [.data], laidTests := true, laidLooks := .later }
def MachRunsCardSaid : Prop := Claim7.holds Tryd.pinned (.plain (OpenSpec.ofChange machRunsSpec)) machRunsCard

/-- THE TIED CARD OF 'barbicankeep.MachineLoops'. -/
def machineLoopsCard : Claim7 := { stood := { row := machineLoopsRow, standIns := [], harness := (true, "83927563b8e191992a773e15d6733e8abcf38b71f4d5a8dc6e0dff3d0557156e"), looks := false }, kinds := [], alts := [], laidByText := true, laidKinds := [.data], laidTests := true, laidLooks := .later }
def MachineLoopsCardSaid : Prop := Claim7.holds Tryd.pinned (.plain (OpenSpec.ofChange machineLoopsSpec)) machineLoopsCard

/-- THE TIED CARD OF 'barbicankeep.MachineDoes'. -/
def machineDoesCard : Claim7 := { stood := { row := machineDoesRow, standIns := [], harness := (true, "83927563b8e191992a773e15d6733e8abcf38b71f4d5a8dc6e0dff3d0557156e"), looks := false }, kinds := [], alts := [], laidByText := true, laidKinds := [.data], laidTests := true, laidLooks := .later }
def MachineDoesCardSaid : Prop := Claim7.holds Tryd.pinned (.plain (OpenSpec.ofChange machineDoesSpec)) machineDoesCard

/-- THE TIED CARD OF 'barbicankeep.MachineWalls'. -/
def machineWallsCard : Claim7 := { stood := { row := machineWallsRow, standIns := [], harness := (true, "83927563b8e191992a773e15d6733e8abcf38b71f4d5a8dc6e0dff3d0557156e"), looks := false }, kinds := [], alts := [], laidByText := true, laidKinds := [.data], laidTests := true, laidLooks := .later }
def MachineWallsCardSaid : Prop := Claim7.holds Tryd.pinned (.plain (OpenSpec.ofChange machineWallsSpec)) machineWallsCard

/-- THE SECOND FORM's CARD OF 'barbicanlaw.CodeChecks'. -/
def codeChecksUptoCard : Claim7 := { stood := { row := codeChecksUptoRow, standIns := [], harness := (true, "83927563b8e191992a773e15d6733e8abcf38b71f4d5a8dc6e0dff3d0557156e"), looks := false }, kinds := [], alts := [], laidByText := true, laidKinds := [.data], laidTests := true, laidLooks := .later }
def CodeChecksUptoCardSaid : Prop := Claim7.holds Tryd.pinned (.plain (OpenSpec.upto codeChecksSpec)) codeChecksUptoCard

/-- THE SECOND FORM's CARD OF 'barbicanlaw.CodeEncodes'. -/
def codeEncodesUptoCard : Claim7 := { stood := { row := codeEncodesUptoRow, standIns := [], harness := (true, "83927563b8e191992a773e15d6733e8abcf38b71f4d5a8dc6e0dff3d0557156e"), looks := false }, kinds := [], alts := [], laidByText := true, laidKinds := [.data], laidTests := true, laidLooks := .later }
def CodeEncodesUptoCardSaid : Prop := Claim7.holds Tryd.pinned (.plain (OpenSpec.upto codeEncodesSpec)) codeEncodesUptoCard

/-- THE SECOND FORM's CARD OF 'barbicanlaw.CodeDecodes'. -/
def codeDecodesUptoCard : Claim7 := { stood := { row := codeDecodesUptoRow, standIns := [], harness := (true, "83927563b8e191992a773e15d6733e8abcf38b71f4d5a8dc6e0dff3d0557156e"), looks := false }, kinds := [], alts := [], laidByText := true, laidKinds := [.data], laidTests := true, laidLooks := .later }
def CodeDecodesUptoCardSaid : Prop := Claim7.holds Tryd.pinned (.plain (OpenSpec.upto codeDecodesSpec)) codeDecodesUptoCard

/-- THE SECOND FORM's CARD OF 'barbicanlaw.MemChecks'. -/
def memChecksUptoCard : Claim7 := { stood := { row := memChecksUptoRow, standIns := [], harness := (true, "83927563b8e191992a773e15d6733e8abcf38b71f4d5a8dc6e0dff3d0557156e"), looks := false }, kinds := [], alts := [], laidByText := true, laidKinds := [.data], laidTests := true, laidLooks := .later }
def MemChecksUptoCardSaid : Prop := Claim7.holds Tryd.pinned (.plain (OpenSpec.upto memChecksSpec)) memChecksUptoCard

/-- THE SECOND FORM's CARD OF 'barbicankeep.CodeBack'. -/
def codeBackUptoCard : Claim7 := { stood := { row := codeBackUptoRow, standIns := [], harness := (true, "83927563b8e191992a773e15d6733e8abcf38b71f4d5a8dc6e0dff3d0557156e"), looks := false }, kinds := [], alts := [], laidByText := true, laidKinds := [.data], laidTests := true, laidLooks := .later }
def CodeBackUptoCardSaid : Prop := Claim7.holds Tryd.pinned (.plain (OpenSpec.upto codeBackSpec)) codeBackUptoCard

/-- THE SECOND FORM's CARD OF 'barbicanlaw.MemData'. -/
def memDataUptoCard : Claim7 := { stood := { row := memDataUptoRow, standIns := [], harness := (true, "83927563b8e191992a773e15d6733e8abcf38b71f4d5a8dc6e0dff3d0557156e"), looks := false }, kinds := [], alts := [], laidByText := true, laidKinds := [.data], laidTests := true, laidLooks := .later }
def MemDataUptoCardSaid : Prop := Claim7.holds Tryd.pinned (.plain (OpenSpec.upto memDataSpec)) memDataUptoCard

/-- THE SECOND FORM's CARD OF 'barbicanlaw.MemLoads'. -/
def memLoadsUptoCard : Claim7 := { stood := { row := memLoadsUptoRow, standIns := [], harness := (true, "83927563b8e191992a773e15d6733e8abcf38b71f4d5a8dc6e0dff3d0557156e"), looks := false }, kinds := [], alts := [], laidByText := true, laidKinds := [.data], laidTests := true, laidLooks := .later }
def MemLoadsUptoCardSaid : Prop := Claim7.holds Tryd.pinned (.plain (OpenSpec.upto memLoadsSpec)) memLoadsUptoCard

/-- THE SECOND FORM's CARD OF 'barbicanlaw.MemStores'. -/
def memStoresUptoCard : Claim7 := { stood := { row := memStoresUptoRow, standIns := [], harness := (true, "83927563b8e191992a773e15d6733e8abcf38b71f4d5a8dc6e0dff3d0557156e"), looks := false }, kinds := [], alts := [], laidByText := true, laidKinds := [.data], laidTests := true, laidLooks := .later }
def MemStoresUptoCardSaid : Prop := Claim7.holds Tryd.pinned (.plain (OpenSpec.upto memStoresSpec)) memStoresUptoCard

/-- THE SECOND FORM's CARD OF 'barbicankeep.StoresLoad'. -/
def storesLoadUptoCard : Claim7 := { stood := { row := storesLoadUptoRow, standIns := [], harness := (true, "83927563b8e191992a773e15d6733e8abcf38b71f4d5a8dc6e0dff3d0557156e"), looks := false }, kinds := [], alts := [], laidByText := true, laidKinds := [.data], laidTests := true, laidLooks := .later }
def StoresLoadUptoCardSaid : Prop := Claim7.holds Tryd.pinned (.plain (OpenSpec.upto storesLoadSpec)) storesLoadUptoCard

/-- THE SECOND FORM's CARD OF 'barbicanlaw.MachRuns'. -/
def machRunsUptoCard : Claim7 := { stood := { row := machRunsUptoRow, standIns := [], harness := (true, "83927563b8e191992a773e15d6733e8abcf38b71f4d5a8dc6e0dff3d0557156e"), looks := false }, kinds := [], alts := [], laidByText := true, laidKinds := [.data], laidTests := true, laidLooks := .later }
def MachRunsUptoCardSaid : Prop := Claim7.holds Tryd.pinned (.plain (OpenSpec.upto machRunsSpec)) machRunsUptoCard

/-- THE SECOND FORM's CARD OF 'barbicankeep.MachineLoops'. -/
def machineLoopsUptoCard : Claim7 := { stood := { row := machineLoopsUptoRow, standIns := [], harness := (true, "83927563b8e191992a773e15d6733e8abcf38b71f4d5a8dc6e0dff3d0557156e"), looks := false }, kinds := [], alts := [], laidByText := true, laidKinds := [.data], laidTests := true, laidLooks := .later }
def MachineLoopsUptoCardSaid : Prop := Claim7.holds Tryd.pinned (.plain (OpenSpec.upto machineLoopsSpec)) machineLoopsUptoCard

/-- THE SECOND FORM's CARD OF 'barbicankeep.MachineDoes'. -/
def machineDoesUptoCard : Claim7 := { stood := { row := machineDoesUptoRow, standIns := [], harness := (true, "83927563b8e191992a773e15d6733e8abcf38b71f4d5a8dc6e0dff3d0557156e"), looks := false }, kinds := [], alts := [], laidByText := true, laidKinds := [.data], laidTests := true, laidLooks := .later }
def MachineDoesUptoCardSaid : Prop := Claim7.holds Tryd.pinned (.plain (OpenSpec.upto machineDoesSpec)) machineDoesUptoCard

/-- THE SECOND FORM's CARD OF 'barbicankeep.MachineWalls'. -/
def machineWallsUptoCard : Claim7 := { stood := { row := machineWallsUptoRow, standIns := [], harness := (true, "83927563b8e191992a773e15d6733e8abcf38b71f4d5a8dc6e0dff3d0557156e"), looks := false }, kinds := [], alts := [], laidByText := true, laidKinds := [.data], laidTests := true, laidLooks := .later }
def MachineWallsUptoCardSaid : Prop := Claim7.holds Tryd.pinned (.plain (OpenSpec.upto machineWallsSpec)) machineWallsUptoCard
end Rows
end Go.Proofs.YtencdcmbfeeekaaDoor
