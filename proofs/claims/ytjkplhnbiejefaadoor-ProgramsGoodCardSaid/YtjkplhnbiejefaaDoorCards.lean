/-
  DERIVED. GIVEN WITH THE SEED: THE CARDS: each row of YtjkplhnbiejefaaDoorRows.lean that lists a variable, with what it lists TIED to the program's text (the seventh form; the later family's looks); each row that meets fmt, with fmt's text TOLD by the authors' own Lean function (tested against real Go, not proved from fmt's source: count such statements apart). THE CARD IS WHAT COUNTS. Prove the row's statement (the work); the ties are given (YtjkplhnbiejefaaDoorTie.lean); close each card by the builder's one call (the guide's Derived/Test/ToyasCard.lean, 'card_holds'). Laid BY PROGRAM, IN A SANDBOX (cutbox-door.mjs). By AI agents, Wed Nov 11 2026. No macro, syntax, notation, axiom, sorry.
-/
import Derived.Test.YtjkplhnbiejefaaDoorRows
import GoSem.ClaimSeven
namespace Go.Proofs.YtjkplhnbiejefaaDoor
namespace Rows

/-- THE TIED CARD OF 'barbicankeep.ProgramsGood'. -/
def programsGoodCard : Claim7 := { stood := { row := programsGoodRow, standIns := [], harness := (true, "2a49eac4821107bdbab0a3de43e5bef614a894600fb872b4ea0f083888822707"), looks := true }, kinds := [], alts := [], laidByText := true, laidKinds := [.data], laidTests := true, laidLooks := .later }
def ProgramsGoodCardSaid : Prop := Claim7.holds Tryd.pinned (.plain (OpenSpec.ofChange programsGoodSpec)) programsGoodCard

/-- THE SECOND FORM's CARD OF 'barbicankeep.ProgramsGood'. -/
def programsGoodUptoCard : Claim7 := { stood := { row := programsGoodUptoRow, standIns := [], harness := (true, "2a49eac4821107bdbab0a3de43e5bef614a894600fb872b4ea0f083888822707"), looks := true }, kinds := [], alts := [], laidByText := true, laidKinds := [.data], laidTests := true, laidLooks := .later }
def ProgramsGoodUptoCardSaid : Prop := Claim7.holds Tryd.pinned (.plain (OpenSpec.upto programsGoodSpec)) programsGoodUptoCard
end Rows
end Go.Proofs.YtjkplhnbiejefaaDoor
