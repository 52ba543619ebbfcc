/-
  DERIVED. GIVEN WITH THE SEED: THE CARDS: each row of YtjlaaanmjaihaaaDoorRows.lean that lists a variable, with what it lists TIED to the program's text (the seventh form; the later family's looks); each row that meets fmt, with fmt's text TOLD by the authors' own Lean function (tested against real Go, not proved from fmt's source: count such statements apart). THE CARD IS WHAT COUNTS. Prove the row's statement (the work); the ties are given (YtjlaaanmjaihaaaDoorTie.lean); close each card by the builder's one call (the guide's Derived/Test/ToyasCard.lean, 'card_holds'). Laid BY PROGRAM, IN A SANDBOX (cutbox-door.mjs). By AI agents, Wed Nov 11 2026. No macro, syntax, notation, axiom, sorry.
-/
import Derived.Test.YtjlaaanmjaihaaaDoorRows
import GoSem.ClaimSeven
namespace Go.Proofs.YtjlaaanmjaihaaaDoor
namespace Rows

/-- THE TIED CARD OF 'barbicanlaw.TokenCuts'. -/
def tokenCutsCard : Claim7 := { stood := { row := tokenCutsRow, standIns := [], harness := (true, "bee091a216e378d4f7af5c9ae0a7f210a329c8f327a0ff3816ea4ee2f8e341c7"), looks := true }, kinds := [], alts := [], laidByText := true, laidKinds := [.data, .data, .data, .data, .sentinel, .sentinel, .pinned], laidTests := true, laidLooks := .later }
def TokenCutsCardSaid : Prop := Claim7.holds Tryd.pinned (.plain (OpenSpec.ofChange tokenCutsSpec)) tokenCutsCard

/-- THE TIED CARD OF 'barbicankeep.TokensCut'. -/
def tokensCutCard : Claim7 := { stood := { row := tokensCutRow, standIns := [], harness := (true, "bee091a216e378d4f7af5c9ae0a7f210a329c8f327a0ff3816ea4ee2f8e341c7"), looks := true }, kinds := [], alts := [], laidByText := true, laidKinds := [.data, .data, .data, .data, .sentinel, .sentinel, .pinned], laidTests := true, laidLooks := .later }
def TokensCutCardSaid : Prop := Claim7.holds Tryd.pinned (.plain (OpenSpec.ofChange tokensCutSpec)) tokensCutCard

/-- THE SECOND FORM's CARD OF 'barbicanlaw.TokenCuts'. -/
def tokenCutsUptoCard : Claim7 := { stood := { row := tokenCutsUptoRow, standIns := [], harness := (true, "bee091a216e378d4f7af5c9ae0a7f210a329c8f327a0ff3816ea4ee2f8e341c7"), looks := true }, kinds := [], alts := [], laidByText := true, laidKinds := [.data, .data, .data, .data, .sentinel, .sentinel, .pinned], laidTests := true, laidLooks := .later }
def TokenCutsUptoCardSaid : Prop := Claim7.holds Tryd.pinned (.plain (OpenSpec.upto tokenCutsSpec)) tokenCutsUptoCard

/-- THE SECOND FORM's CARD OF 'barbicankeep.TokensCut'. -/
def tokensCutUptoCard : Claim7 := { stood := { row := tokensCutUptoRow, standIns := [], harness := (true, "bee091a216e378d4f7af5c9ae0a7f210a329c8f327a0ff3816ea4ee2f8e341c7"), looks := true }, kinds := [], alts := [], laidByText := true, laidKinds := [.data, .data, .data, .data, .sentinel, .sentinel, .pinned], laidTests := true, laidLooks := .later }
def TokensCutUptoCardSaid : Prop := Claim7.holds Tryd.pinned (.plain (OpenSpec.upto tokensCutSpec)) tokensCutUptoCard
end Rows
end Go.Proofs.YtjlaaanmjaihaaaDoor
