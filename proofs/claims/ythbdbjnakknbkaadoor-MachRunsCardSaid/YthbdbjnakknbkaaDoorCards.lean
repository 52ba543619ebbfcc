/-
  DERIVED. GIVEN WITH THE SEED: THE CARDS: each row of YthbdbjnakknbkaaDoorRows.lean that lists a variable, with what it lists TIED to the program's text (the seventh form; the later family's looks); each row that meets fmt, with fmt's text TOLD by the authors' own Lean function (tested against real Go, not proved from fmt's source: count such statements apart). THE CARD IS WHAT COUNTS. Prove the row's statement (the work); the ties are given (YthbdbjnakknbkaaDoorTie.lean); close each card by the builder's one call (the guide's Derived/Test/ToyasCard.lean, 'card_holds'). Laid BY PROGRAM, IN A SANDBOX (cutbox-door.mjs). By AI agents, Wed Nov 11 2026. No macro, syntax, notation, axiom, sorry.
-/
import Derived.Test.YthbdbjnakknbkaaDoorRows
import GoSem.ClaimSeven
namespace Go.Proofs.YthbdbjnakknbkaaDoor
namespace Rows

/-- THE TIED CARD OF 'barbicankeep.CodeBack'. -/
def codeBackCard : Claim7 := { stood := { row := codeBackRow, standIns := [], harness := (true, "948fe9d5f689236487cef229c8ca91743d7fc4f7560a14075ce9f4e4855dbe03"), looks := true }, kinds := [], alts := [], laidByText := true, laidKinds := [.data], laidTests := true, laidLooks := .later }
def CodeBackCardSaid : Prop := Claim7.holds Tryd.pinned (.plain (OpenSpec.ofChange codeBackSpec)) codeBackCard

/-- THE TIED CARD OF 'barbicankeep.StoresLoad'. -/
def storesLoadCard : Claim7 := { stood := { row := storesLoadRow, standIns := [], harness := (true, "948fe9d5f689236487cef229c8ca91743d7fc4f7560a14075ce9f4e4855dbe03"), looks := true }, kinds := [], alts := [], laidByText := true, laidKinds := [.data], laidTests := true, laidLooks := .later }
def StoresLoadCardSaid : Prop := Claim7.holds Tryd.pinned (.plain (OpenSpec.ofChange storesLoadSpec)) storesLoadCard

/-- THE TIED CARD OF 'barbicanlaw.MachRuns'. -/
def machRunsCard : Claim7 := { stood := { row := machRunsRow, standIns := [], harness := (true, "948fe9d5f689236487cef229c8ca91743d7fc4f7560a14075ce9f4e4855dbe03"), looks := true }, kinds := [], alts := [], laidByText := true, laidKinds := [.data], laidTests := true, laidLooks := .later }
def MachRunsCardSaid : Prop := Claim7.holds Tryd.pinned (.plain (OpenSpec.ofChange machRunsSpec)) machRunsCard

/-- THE TIED CARD OF 'barbicankeep.MachineLoops'. -/
def machineLoopsCard : Claim7 := { stood := { row := machineLoopsRow, standIns := [], harness := (true, "948fe9d5f689236487cef229c8ca91743d7fc4f7560a14075ce9f4e4855dbe03"), looks := true }, kinds := [], alts := [], laidByText := true, laidKinds := [.data], laidTests := true, laidLooks := .later }
def MachineLoopsCardSaid : Prop := Claim7.holds Tryd.pinned (.plain (OpenSpec.ofChange machineLoopsSpec)) machineLoopsCard

/-- THE TIED CARD OF 'barbicankeep.MachineDoes'. -/
def machineDoesCard : Claim7 := { stood := { row := machineDoesRow, standIns := [], harness := (true, "948fe9d5f689236487cef229c8ca91743d7fc4f7560a14075ce9f4e4855dbe03"), looks := true }, kinds := [], alts := [], laidByText := true, laidKinds := [.data], laidTests := true, laidLooks := .later }
def MachineDoesCardSaid : Prop := Claim7.holds Tryd.pinned (.plain (OpenSpec.ofChange machineDoesSpec)) machineDoesCard

/-- THE TIED CARD OF 'barbicankeep.MachineWalls'. -/
def machineWallsCard : Claim7 := { stood := { row := machineWallsRow, standIns := [], harness := (true, "948fe9d5f689236487cef229c8ca91743d7fc4f7560a14075ce9f4e4855dbe03"), looks := true }, kinds := [], alts := [], laidByText := true, laidKinds := [.data], laidTests := true, laidLooks := .later }
def MachineWallsCardSaid : Prop := Claim7.holds Tryd.pinned (.plain (OpenSpec.ofChange machineWallsSpec)) machineWallsCard

/-- THE TIED CARD OF 'barbicanlaw.TokenNumbers'. -/
def tokenNumbersCard : Claim7 := { stood := { row := tokenNumbersRow, standIns := [], harness := (true, "948fe9d5f689236487cef229c8ca91743d7fc4f7560a14075ce9f4e4855dbe03"), looks := true }, kinds := [], alts := [], laidByText := true, laidKinds := [.data, .data, .data, .sentinel, .sentinel], laidTests := true, laidLooks := .later }
def TokenNumbersCardSaid : Prop := Claim7.holds Tryd.pinned (.plain (OpenSpec.ofChange tokenNumbersSpec)) tokenNumbersCard

/-- THE TIED CARD OF 'barbicanlaw.TokenCuts'. -/
def tokenCutsCard : Claim7 := { stood := { row := tokenCutsRow, standIns := [], harness := (true, "948fe9d5f689236487cef229c8ca91743d7fc4f7560a14075ce9f4e4855dbe03"), looks := true }, kinds := [], alts := [], laidByText := true, laidKinds := [.data, .data, .data, .data, .sentinel, .sentinel, .pinned], laidTests := true, laidLooks := .later }
def TokenCutsCardSaid : Prop := Claim7.holds Tryd.pinned (.plain (OpenSpec.ofChange tokenCutsSpec)) tokenCutsCard

/-- THE TIED CARD OF 'barbicanlaw.TreeShows'. -/
def treeShowsCard : Claim7 := { stood := { row := treeShowsRow, standIns := [], harness := (true, "948fe9d5f689236487cef229c8ca91743d7fc4f7560a14075ce9f4e4855dbe03"), looks := true }, kinds := [], alts := [], laidByText := true, laidKinds := [.data, .data, .data, .widerDeep], laidTests := true, laidLooks := .later }
def TreeShowsCardSaid : Prop := Claim7.holds Tryd.pinned (.plain (OpenSpec.ofChange treeShowsSpec)) treeShowsCard

/-- THE SECOND FORM's CARD OF 'barbicankeep.CodeBack'. -/
def codeBackUptoCard : Claim7 := { stood := { row := codeBackUptoRow, standIns := [], harness := (true, "948fe9d5f689236487cef229c8ca91743d7fc4f7560a14075ce9f4e4855dbe03"), looks := true }, kinds := [], alts := [], laidByText := true, laidKinds := [.data], laidTests := true, laidLooks := .later }
def CodeBackUptoCardSaid : Prop := Claim7.holds Tryd.pinned (.plain (OpenSpec.upto codeBackSpec)) codeBackUptoCard

/-- THE SECOND FORM's CARD OF 'barbicankeep.StoresLoad'. -/
def storesLoadUptoCard : Claim7 := { stood := { row := storesLoadUptoRow, standIns := [], harness := (true, "948fe9d5f689236487cef229c8ca91743d7fc4f7560a14075ce9f4e4855dbe03"), looks := true }, kinds := [], alts := [], laidByText := true, laidKinds := [.data], laidTests := true, laidLooks := .later }
def StoresLoadUptoCardSaid : Prop := Claim7.holds Tryd.pinned (.plain (OpenSpec.upto storesLoadSpec)) storesLoadUptoCard

/-- THE SECOND FORM's CARD OF 'barbicanlaw.MachRuns'. -/
def machRunsUptoCard : Claim7 := { stood := { row := machRunsUptoRow, standIns := [], harness := (true, "948fe9d5f689236487cef229c8ca91743d7fc4f7560a14075ce9f4e4855dbe03"), looks := true }, kinds := [], alts := [], laidByText := true, laidKinds := [.data], laidTests := true, laidLooks := .later }
def MachRunsUptoCardSaid : Prop := Claim7.holds Tryd.pinned (.plain (OpenSpec.upto machRunsSpec)) machRunsUptoCard

/-- THE SECOND FORM's CARD OF 'barbicankeep.MachineLoops'. -/
def machineLoopsUptoCard : Claim7 := { stood := { row := machineLoopsUptoRow, standIns := [], harness := (true, "948fe9d5f689236487cef229c8ca91743d7fc4f7560a14075ce9f4e4855dbe03"), looks := true }, kinds := [], alts := [], laidByText := true, laidKinds := [.data], laidTests := true, laidLooks := .later }
def MachineLoopsUptoCardSaid : Prop := Claim7.holds Tryd.pinned (.plain (OpenSpec.upto machineLoopsSpec)) machineLoopsUptoCard

/-- THE SECOND FORM's CARD OF 'barbicankeep.MachineDoes'. -/
def machineDoesUptoCard : Claim7 := { stood := { row := machineDoesUptoRow, standIns := [], harness := (true, "948fe9d5f689236487cef229c8ca91743d7fc4f7560a14075ce9f4e4855dbe03"), looks := true }, kinds := [], alts := [], laidByText := true, laidKinds := [.data], laidTests := true, laidLooks := .later }
def MachineDoesUptoCardSaid : Prop := Claim7.holds Tryd.pinned (.plain (OpenSpec.upto machineDoesSpec)) machineDoesUptoCard

/-- THE SECOND FORM's CARD OF 'barbicankeep.MachineWalls'. -/
def machineWallsUptoCard : Claim7 := { stood := { row := machineWallsUptoRow, standIns := [], harness := (true, "948fe9d5f689236487cef229c8ca91743d7fc4f7560a14075ce9f4e4855dbe03"), looks := true }, kinds := [], alts := [], laidByText := true, laidKinds := [.data], laidTests := true, laidLooks := .later }
def MachineWallsUptoCardSaid : Prop := Claim7.holds Tryd.pinned (.plain (OpenSpec.upto machineWallsSpec)) machineWallsUptoCard

/-- THE SECOND FORM's CARD OF 'barbicanlaw.TokenNumbers'. -/
def tokenNumbersUptoCard : Claim7 := { stood := { row := tokenNumbersUptoRow, standIns := [], harness := (true, "948fe9d5f689236487cef229c8ca91743d7fc4f7560a14075ce9f4e4855dbe03"), looks := true }, kinds := [], alts := [], laidByText := true, laidKinds := [.data, .data, .data, .sentinel, .sentinel], laidTests := true, laidLooks := .later }
def TokenNumbersUptoCardSaid : Prop := Claim7.holds Tryd.pinned (.plain (OpenSpec.upto tokenNumbersSpec)) tokenNumbersUptoCard

/-- THE SECOND FORM's CARD OF 'barbicanlaw.TokenCuts'. -/
def tokenCutsUptoCard : Claim7 := { stood := { row := tokenCutsUptoRow, standIns := [], harness := (true, "948fe9d5f689236487cef229c8ca91743d7fc4f7560a14075ce9f4e4855dbe03"), looks := true }, kinds := [], alts := [], laidByText := true, laidKinds := [.data, .data, .data, .data, .sentinel, .sentinel, .pinned], laidTests := true, laidLooks := .later }
def TokenCutsUptoCardSaid : Prop := Claim7.holds Tryd.pinned (.plain (OpenSpec.upto tokenCutsSpec)) tokenCutsUptoCard

/-- THE SECOND FORM's CARD OF 'barbicanlaw.TreeShows'. -/
def treeShowsUptoCard : Claim7 := { stood := { row := treeShowsUptoRow, standIns := [], harness := (true, "948fe9d5f689236487cef229c8ca91743d7fc4f7560a14075ce9f4e4855dbe03"), looks := true }, kinds := [], alts := [], laidByText := true, laidKinds := [.data, .data, .data, .widerDeep], laidTests := true, laidLooks := .later }
def TreeShowsUptoCardSaid : Prop := Claim7.holds Tryd.pinned (.plain (OpenSpec.upto treeShowsSpec)) treeShowsUptoCard
end Rows
end Go.Proofs.YthbdbjnakknbkaaDoor
