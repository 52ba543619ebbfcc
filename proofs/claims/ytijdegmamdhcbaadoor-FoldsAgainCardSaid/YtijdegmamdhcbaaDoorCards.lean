/-
  DERIVED. GIVEN WITH THE SEED: THE CARDS: each row of YtijdegmamdhcbaaDoorRows.lean that lists a variable, with what it lists TIED to the program's text (the seventh form; the later family's looks); each row that meets fmt, with fmt's text TOLD by the authors' own Lean function (tested against real Go, not proved from fmt's source: count such statements apart). THE CARD IS WHAT COUNTS. Prove the row's statement (the work); the ties are given (YtijdegmamdhcbaaDoorTie.lean); close each card by the builder's one call (the guide's Derived/Test/ToyasCard.lean, 'card_holds'). Laid BY PROGRAM, IN A SANDBOX (cutbox-door.mjs). By AI agents, Wed Nov 11 2026. No macro, syntax, notation, axiom, sorry.
-/
import Derived.Test.YtijdegmamdhcbaaDoorRows
import GoSem.ClaimSeven
namespace Go.Proofs.YtijdegmamdhcbaaDoor
namespace Rows

/-- THE TIED CARD OF 'barbicantop.TopEntries'. -/
def topEntriesCard : Claim7 := { stood := { row := topEntriesRow, standIns := [], harness := (true, "2e8dc9e3341282823a1359a6f3929e894c3df14c6ce7e0c8772b19a5b5ea5201"), looks := true }, kinds := [], alts := [], laidByText := true, laidKinds := [.data, .data], laidTests := true, laidLooks := .later }
def TopEntriesCardSaid : Prop := Claim7.holds Tryd.pinned (.plain (OpenSpec.ofChange topEntriesSpec)) topEntriesCard

/-- THE TIED CARD OF 'barbicantop.TopFuel'. -/
def topFuelCard : Claim7 := { stood := { row := topFuelRow, standIns := [], harness := (true, "2e8dc9e3341282823a1359a6f3929e894c3df14c6ce7e0c8772b19a5b5ea5201"), looks := true }, kinds := [], alts := [], laidByText := true, laidKinds := [.data, .data], laidTests := true, laidLooks := .later }
def TopFuelCardSaid : Prop := Claim7.holds Tryd.pinned (.plain (OpenSpec.ofChange topFuelSpec)) topFuelCard

/-- THE TIED CARD OF 'barbicantop.TopHidden'. -/
def topHiddenCard : Claim7 := { stood := { row := topHiddenRow, standIns := [], harness := (true, "2e8dc9e3341282823a1359a6f3929e894c3df14c6ce7e0c8772b19a5b5ea5201"), looks := true }, kinds := [], alts := [], laidByText := true, laidKinds := [.data, .data], laidTests := true, laidLooks := .later }
def TopHiddenCardSaid : Prop := Claim7.holds Tryd.pinned (.plain (OpenSpec.ofChange topHiddenSpec)) topHiddenCard

/-- THE TIED CARD OF 'barbicankeep.GensPlace'. -/
def gensPlaceCard : Claim7 := { stood := { row := gensPlaceRow, standIns := [], harness := (true, "2e8dc9e3341282823a1359a6f3929e894c3df14c6ce7e0c8772b19a5b5ea5201"), looks := true }, kinds := [], alts := [], laidByText := true, laidKinds := [.data, .data], laidTests := true, laidLooks := .later }
def GensPlaceCardSaid : Prop := Claim7.holds Tryd.pinned (.plain (OpenSpec.ofChange gensPlaceSpec)) gensPlaceCard

/-- THE TIED CARD OF 'barbicankeep.CallsAlone'. -/
def callsAloneCard : Claim7 := { stood := { row := callsAloneRow, standIns := [], harness := (true, "2e8dc9e3341282823a1359a6f3929e894c3df14c6ce7e0c8772b19a5b5ea5201"), looks := true }, kinds := [], alts := [], laidByText := true, laidKinds := [.data], laidTests := true, laidLooks := .later }
def CallsAloneCardSaid : Prop := Claim7.holds Tryd.pinned (.plain (OpenSpec.ofChange callsAloneSpec)) callsAloneCard

/-- THE TIED CARD OF 'barbicankeep.CallsKeep'. -/
def callsKeepCard : Claim7 := { stood := { row := callsKeepRow, standIns := [], harness := (true, "2e8dc9e3341282823a1359a6f3929e894c3df14c6ce7e0c8772b19a5b5ea5201"), looks := true }, kinds := [], alts := [], laidByText := true, laidKinds := [.data], laidTests := true, laidLooks := .later }
def CallsKeepCardSaid : Prop := Claim7.holds Tryd.pinned (.plain (OpenSpec.ofChange callsKeepSpec)) callsKeepCard

/-- THE TIED CARD OF 'barbicankeep.FoldsAgain'. -/
def foldsAgainCard : Claim7 := { stood := { row := foldsAgainRow, standIns := [], harness := (true, "2e8dc9e3341282823a1359a6f3929e894c3df14c6ce7e0c8772b19a5b5ea5201"), looks := true }, kinds := [], alts := [], laidByText := true, laidKinds := [.data], laidTests := true, laidLooks := .later }
def FoldsAgainCardSaid : Prop := Claim7.holds Tryd.pinned (.plain (OpenSpec.ofChange foldsAgainSpec)) foldsAgainCard

/-- THE TIED CARD OF 'barbicankeep.LinksMay'. -/
def linksMayCard : Claim7 := { stood := { row := linksMayRow, standIns := [], harness := (true, "2e8dc9e3341282823a1359a6f3929e894c3df14c6ce7e0c8772b19a5b5ea5201"), looks := true }, kinds := [], alts := [], laidByText := true, laidKinds := [.data, .data], laidTests := true, laidLooks := .later }
def LinksMayCardSaid : Prop := Claim7.holds Tryd.pinned (.plain (OpenSpec.ofChange linksMaySpec)) linksMayCard

/-- THE SECOND FORM's CARD OF 'barbicantop.TopEntries'. -/
def topEntriesUptoCard : Claim7 := { stood := { row := topEntriesUptoRow, standIns := [], harness := (true, "2e8dc9e3341282823a1359a6f3929e894c3df14c6ce7e0c8772b19a5b5ea5201"), looks := true }, kinds := [], alts := [], laidByText := true, laidKinds := [.data, .data], laidTests := true, laidLooks := .later }
def TopEntriesUptoCardSaid : Prop := Claim7.holds Tryd.pinned (.plain (OpenSpec.upto topEntriesSpec)) topEntriesUptoCard

/-- THE SECOND FORM's CARD OF 'barbicantop.TopFuel'. -/
def topFuelUptoCard : Claim7 := { stood := { row := topFuelUptoRow, standIns := [], harness := (true, "2e8dc9e3341282823a1359a6f3929e894c3df14c6ce7e0c8772b19a5b5ea5201"), looks := true }, kinds := [], alts := [], laidByText := true, laidKinds := [.data, .data], laidTests := true, laidLooks := .later }
def TopFuelUptoCardSaid : Prop := Claim7.holds Tryd.pinned (.plain (OpenSpec.upto topFuelSpec)) topFuelUptoCard

/-- THE SECOND FORM's CARD OF 'barbicantop.TopHidden'. -/
def topHiddenUptoCard : Claim7 := { stood := { row := topHiddenUptoRow, standIns := [], harness := (true, "2e8dc9e3341282823a1359a6f3929e894c3df14c6ce7e0c8772b19a5b5ea5201"), looks := true }, kinds := [], alts := [], laidByText := true, laidKinds := [.data, .data], laidTests := true, laidLooks := .later }
def TopHiddenUptoCardSaid : Prop := Claim7.holds Tryd.pinned (.plain (OpenSpec.upto topHiddenSpec)) topHiddenUptoCard

/-- THE SECOND FORM's CARD OF 'barbicankeep.GensPlace'. -/
def gensPlaceUptoCard : Claim7 := { stood := { row := gensPlaceUptoRow, standIns := [], harness := (true, "2e8dc9e3341282823a1359a6f3929e894c3df14c6ce7e0c8772b19a5b5ea5201"), looks := true }, kinds := [], alts := [], laidByText := true, laidKinds := [.data, .data], laidTests := true, laidLooks := .later }
def GensPlaceUptoCardSaid : Prop := Claim7.holds Tryd.pinned (.plain (OpenSpec.upto gensPlaceSpec)) gensPlaceUptoCard

/-- THE SECOND FORM's CARD OF 'barbicankeep.CallsAlone'. -/
def callsAloneUptoCard : Claim7 := { stood := { row := callsAloneUptoRow, standIns := [], harness := (true, "2e8dc9e3341282823a1359a6f3929e894c3df14c6ce7e0c8772b19a5b5ea5201"), looks := true }, kinds := [], alts := [], laidByText := true, laidKinds := [.data], laidTests := true, laidLooks := .later }
def CallsAloneUptoCardSaid : Prop := Claim7.holds Tryd.pinned (.plain (OpenSpec.upto callsAloneSpec)) callsAloneUptoCard

/-- THE SECOND FORM's CARD OF 'barbicankeep.CallsKeep'. -/
def callsKeepUptoCard : Claim7 := { stood := { row := callsKeepUptoRow, standIns := [], harness := (true, "2e8dc9e3341282823a1359a6f3929e894c3df14c6ce7e0c8772b19a5b5ea5201"), looks := true }, kinds := [], alts := [], laidByText := true, laidKinds := [.data], laidTests := true, laidLooks := .later }
def CallsKeepUptoCardSaid : Prop := Claim7.holds Tryd.pinned (.plain (OpenSpec.upto callsKeepSpec)) callsKeepUptoCard

/-- THE SECOND FORM's CARD OF 'barbicankeep.FoldsAgain'. -/
def foldsAgainUptoCard : Claim7 := { stood := { row := foldsAgainUptoRow, standIns := [], harness := (true, "2e8dc9e3341282823a1359a6f3929e894c3df14c6ce7e0c8772b19a5b5ea5201"), looks := true }, kinds := [], alts := [], laidByText := true, laidKinds := [.data], laidTests := true, laidLooks := .later }
def FoldsAgainUptoCardSaid : Prop := Claim7.holds Tryd.pinned (.plain (OpenSpec.upto foldsAgainSpec)) foldsAgainUptoCard

/-- THE SECOND FORM's CARD OF 'barbicankeep.LinksMay'. -/
def linksMayUptoCard : Claim7 := { stood := { row := linksMayUptoRow, standIns := [], harness := (true, "2e8dc9e3341282823a1359a6f3929e894c3df14c6ce7e0c8772b19a5b5ea5201"), looks := true }, kinds := [], alts := [], laidByText := true, laidKinds := [.data, .data], laidTests := true, laidLooks := .later }
def LinksMayUptoCardSaid : Prop := Claim7.holds Tryd.pinned (.plain (OpenSpec.upto linksMaySpec)) linksMayUptoCard
end Rows
end Go.Proofs.YtijdegmamdhcbaaDoor
