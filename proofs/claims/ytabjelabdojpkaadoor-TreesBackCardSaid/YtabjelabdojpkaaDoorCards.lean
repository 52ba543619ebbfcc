/-
  DERIVED. GIVEN WITH THE SEED: THE CARDS: each row of YtabjelabdojpkaaDoorRows.lean that lists a variable, with what it lists TIED to the program's text (the seventh form; the later family's looks); each row that meets fmt, with fmt's text TOLD by the authors' own Lean function (tested against real Go, not proved from fmt's source: count such statements apart). THE CARD IS WHAT COUNTS. Prove the row's statement (the work); the ties are given (YtabjelabdojpkaaDoorTie.lean); close each card by the builder's one call (the guide's Derived/Test/ToyasCard.lean, 'card_holds'). Laid BY PROGRAM, IN A SANDBOX (cutbox-door.mjs). By AI agents, Wed Nov 11 2026. No macro, syntax, notation, axiom, sorry.
-/
import Derived.Test.YtabjelabdojpkaaDoorRows
import GoSem.ClaimSeven
namespace Go.Proofs.YtabjelabdojpkaaDoor
namespace Rows

/-- THE TIED CARD OF 'barbicanlaw.TreeShows'. -/
def treeShowsCard : Claim7 := { stood := { row := treeShowsRow, standIns := [], harness := (true, "82a0aada01a7cdc1af8545812fe41526fe317b756b72ee4a19006f966176a288"), looks := true }, kinds := [], alts := [], laidByText := true, laidKinds := [.data, .data, .data, .widerDeep], laidTests := true, laidLooks := .later }
def TreeShowsCardSaid : Prop := Claim7.holds Tryd.pinned (.plain (OpenSpec.ofChange treeShowsSpec)) treeShowsCard

/-- THE TIED CARD OF 'barbicankeep.TreesBad'. -/
def treesBadCard : Claim7 := { stood := { row := treesBadRow, standIns := [], harness := (true, "82a0aada01a7cdc1af8545812fe41526fe317b756b72ee4a19006f966176a288"), looks := true }, kinds := [], alts := [], laidByText := true, laidKinds := [.data, .data, .data, .data, .sentinel, .sentinel, .widerDeep, .pinned], laidTests := true, laidLooks := .later }
def TreesBadCardSaid : Prop := Claim7.holds Tryd.pinned (.plain (OpenSpec.ofChange treesBadSpec)) treesBadCard

/-- THE TIED CARD OF 'barbicankeep.TreesBack'. -/
def treesBackCard : Claim7 := { stood := { row := treesBackRow, standIns := [], harness := (true, "82a0aada01a7cdc1af8545812fe41526fe317b756b72ee4a19006f966176a288"), looks := true }, kinds := [], alts := [], laidByText := true, laidKinds := [.data, .data, .data, .data, .sentinel, .sentinel, .widerDeep, .data, .pinned], laidTests := true, laidLooks := .later }
def TreesBackCardSaid : Prop := Claim7.holds Tryd.pinned (.plain (OpenSpec.ofChange treesBackSpec)) treesBackCard

/-- THE SECOND FORM's CARD OF 'barbicanlaw.TreeShows'. -/
def treeShowsUptoCard : Claim7 := { stood := { row := treeShowsUptoRow, standIns := [], harness := (true, "82a0aada01a7cdc1af8545812fe41526fe317b756b72ee4a19006f966176a288"), looks := true }, kinds := [], alts := [], laidByText := true, laidKinds := [.data, .data, .data, .widerDeep], laidTests := true, laidLooks := .later }
def TreeShowsUptoCardSaid : Prop := Claim7.holds Tryd.pinned (.plain (OpenSpec.upto treeShowsSpec)) treeShowsUptoCard

/-- THE SECOND FORM's CARD OF 'barbicankeep.TreesBad'. -/
def treesBadUptoCard : Claim7 := { stood := { row := treesBadUptoRow, standIns := [], harness := (true, "82a0aada01a7cdc1af8545812fe41526fe317b756b72ee4a19006f966176a288"), looks := true }, kinds := [], alts := [], laidByText := true, laidKinds := [.data, .data, .data, .data, .sentinel, .sentinel, .widerDeep, .pinned], laidTests := true, laidLooks := .later }
def TreesBadUptoCardSaid : Prop := Claim7.holds Tryd.pinned (.plain (OpenSpec.upto treesBadSpec)) treesBadUptoCard

/-- THE SECOND FORM's CARD OF 'barbicankeep.TreesBack'. -/
def treesBackUptoCard : Claim7 := { stood := { row := treesBackUptoRow, standIns := [], harness := (true, "82a0aada01a7cdc1af8545812fe41526fe317b756b72ee4a19006f966176a288"), looks := true }, kinds := [], alts := [], laidByText := true, laidKinds := [.data, .data, .data, .data, .sentinel, .sentinel, .widerDeep, .data, .pinned], laidTests := true, laidLooks := .later }
def TreesBackUptoCardSaid : Prop := Claim7.holds Tryd.pinned (.plain (OpenSpec.upto treesBackSpec)) treesBackUptoCard
end Rows
end Go.Proofs.YtabjelabdojpkaaDoor
