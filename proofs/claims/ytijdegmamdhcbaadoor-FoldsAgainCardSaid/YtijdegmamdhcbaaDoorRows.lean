/-
  NARROWER THAN 'FOR EVERY INPUT', by the rows' own cells (each row's printed sentence says how): TopEntries: laid · TopFuel: laid · TopHidden: laid · GensPlace: laid · CallsAlone: laid · CallsKeep: laid · FoldsAgain: laid · LinksMay: laid.
  DERIVED. THE GIVEN ROWS OF THIS SEAT. 8 by the template 'for every input the law returns true; each argument reads behind the call as it read before'; 0 by the template 'total and deterministic' (their statements: YtijdegmamdhcbaaDoorTotals.lean).
  GIVEN WITH THE SEED: the statements are not yours to turn. If you find one false, say at which input.
  Laid BY PROGRAM, IN A SANDBOX (cutbox-rows.mjs): the forced cells as the released guide's own fill.sh prints them over the translation 0c8ed96d19f9ae63… (all of the seat's roots in one cut). By AI agents, Wed Nov 11 2026. No macro, syntax, notation, axiom, sorry.
-/
import Derived.Test.YtijdegmamdhcbaaDoorChecked
import GoSem.Claim
import GoSem.ClaimJoined
import GoSem.ClaimMapViews
import Derived.JoinedTies
import Derived.KernelRfl
namespace Go.Proofs.YtijdegmamdhcbaaDoor
/- THE CELL 'sum', in the pinned program and in every row, IS THE sha256 OF THE DUMP (.gsa) THAT YtijdegmamdhcbaaDoorProg.lean LOADS. Nothing in Lean hashes anything: it is a label: what it is worth is what the hold of that sum in a sandbox is worth. -/
noncomputable def Tryd.pinned : Pinned := { name := "ytijdegmamdhcbaadoor", sum := "0c8ed96d19f9ae63dcaa2957c214ed17847896cae45b06cd7a9c7415fb5ca676", checked := Tryd.checked }
namespace Rows
def none {H : Type} : Left H := { results := [], args := [] }

/- WHAT THE LISTED PACKAGE-LEVEL VARIABLES READ AS WHEN THE CALL BEGINS. Each datum BY PROGRAM (the guide's laid-datum.mjs) off the statement by which the dump's own 'gosem.cut.vars' lays the variable. In a bare row this is a premise. The card (YtijdegmamdhcbaaDoorCards.lean) ties it to the program's text. -/
def laid_barbican_code_of {H : Type} : DataW H := .agg [.agg [.lit (.int .i64 0), .lit (.int .i64 0), .lit (.int .i64 0)], .agg [.lit (.int .i64 65535), .lit (.int .i64 0), .lit (.int .i64 0)], .agg [.lit (.int .i64 0), .lit (.int .i64 0), .lit (.int .i64 0)], .agg [.lit (.int .i64 0), .lit (.int .i64 0), .lit (.int .i64 0)], .agg [.lit (.int .i64 7), .lit (.int .i64 0), .lit (.int .i64 0)], .agg [.lit (.int .i64 7), .lit (.int .i64 0), .lit (.int .i64 0)], .agg [.lit (.int .i64 0), .lit (.int .i64 0), .lit (.int .i64 0)], .agg [.lit (.int .i64 0), .lit (.int .i64 0), .lit (.int .i64 0)], .agg [.lit (.int .i64 10), .lit (.int .i64 0), .lit (.int .i64 0)], .agg [.lit (.int .i64 1199), .lit (.int .i64 0), .lit (.int .i64 0)], .agg [.lit (.int .i64 1199), .lit (.int .i64 0), .lit (.int .i64 0)], .agg [.lit (.int .i64 1199), .lit (.int .i64 4), .lit (.int .i64 0)], .agg [.lit (.int .i64 4), .lit (.int .i64 7), .lit (.int .i64 4)], .agg [.lit (.int .i64 0), .lit (.int .i64 0), .lit (.int .i64 0)], .agg [.lit (.int .i64 0), .lit (.int .i64 0), .lit (.int .i64 0)], .agg [.lit (.int .i64 0), .lit (.int .i64 0), .lit (.int .i64 0)]]
def laid_barbican_barbicankeep_units {H : Type} : DataW H := .agg [.lit (.string [111, 110, 101]), .lit (.string [116, 119, 111]), .lit (.string [116, 114, 105])]

/-- 'barbicantop.TopEntries': WHATEVER THE INPUT: true; the input reads as it did. -/
def topEntriesSpec : ChangeSpec := { name := "topEntries", fn := fun _ => fun
  | [d1, d2, d3] => { results := [.lit (.bool true)], args := [d1, d2, d3] }
  | _ => none }
def topEntriesRow : OpenClaim := { program := "ytijdegmamdhcbaadoor", sum := "0c8ed96d19f9ae63dcaa2957c214ed17847896cae45b06cd7a9c7415fb5ca676", func := "barbican/barbicantop.TopEntries", spec := "topEntries", unfollowed := true, recurses := true, named := ["barbican/barbicankeep.units", "barbican/code.of"], apart := false, laid := [("barbican/code.of", laid_barbican_code_of), ("barbican/barbicankeep.units", laid_barbican_barbicankeep_units)] }
def TopEntriesSaid : Prop := topEntriesRow.holds Tryd.pinned (OpenSpec.ofChange topEntriesSpec)

/-- ITS FALSE NEIGHBOUR: 'it returns false'. Refute it at one input. -/
def topEntriesWrong : ChangeSpec := { name := "topEntries", fn := fun _ => fun
  | [d1, d2, d3] => { results := [.lit (.bool false)], args := [d1, d2, d3] }
  | _ => none }
def TopEntriesWrongFalsely : Prop := topEntriesRow.holds Tryd.pinned (OpenSpec.ofChange topEntriesWrong)

/-- 'barbicantop.TopFuel': WHATEVER THE INPUT: true; the input reads as it did. -/
def topFuelSpec : ChangeSpec := { name := "topFuel", fn := fun _ => fun
  | [d1, d2, d3, d4] => { results := [.lit (.bool true)], args := [d1, d2, d3, d4] }
  | _ => none }
def topFuelRow : OpenClaim := { program := "ytijdegmamdhcbaadoor", sum := "0c8ed96d19f9ae63dcaa2957c214ed17847896cae45b06cd7a9c7415fb5ca676", func := "barbican/barbicantop.TopFuel", spec := "topFuel", unfollowed := true, recurses := true, named := ["barbican/barbicankeep.units", "barbican/code.of"], apart := false, laid := [("barbican/code.of", laid_barbican_code_of), ("barbican/barbicankeep.units", laid_barbican_barbicankeep_units)] }
def TopFuelSaid : Prop := topFuelRow.holds Tryd.pinned (OpenSpec.ofChange topFuelSpec)

/-- ITS FALSE NEIGHBOUR: 'it returns false'. Refute it at one input. -/
def topFuelWrong : ChangeSpec := { name := "topFuel", fn := fun _ => fun
  | [d1, d2, d3, d4] => { results := [.lit (.bool false)], args := [d1, d2, d3, d4] }
  | _ => none }
def TopFuelWrongFalsely : Prop := topFuelRow.holds Tryd.pinned (OpenSpec.ofChange topFuelWrong)

/-- 'barbicantop.TopHidden': WHATEVER THE INPUT: true; the input reads as it did. -/
def topHiddenSpec : ChangeSpec := { name := "topHidden", fn := fun _ => fun
  | [d1, d2, d3, d4] => { results := [.lit (.bool true)], args := [d1, d2, d3, d4] }
  | _ => none }
def topHiddenRow : OpenClaim := { program := "ytijdegmamdhcbaadoor", sum := "0c8ed96d19f9ae63dcaa2957c214ed17847896cae45b06cd7a9c7415fb5ca676", func := "barbican/barbicantop.TopHidden", spec := "topHidden", unfollowed := true, recurses := true, named := ["barbican/barbicankeep.units", "barbican/code.of"], apart := false, laid := [("barbican/code.of", laid_barbican_code_of), ("barbican/barbicankeep.units", laid_barbican_barbicankeep_units)] }
def TopHiddenSaid : Prop := topHiddenRow.holds Tryd.pinned (OpenSpec.ofChange topHiddenSpec)

/-- ITS FALSE NEIGHBOUR: 'it returns false'. Refute it at one input. -/
def topHiddenWrong : ChangeSpec := { name := "topHidden", fn := fun _ => fun
  | [d1, d2, d3, d4] => { results := [.lit (.bool false)], args := [d1, d2, d3, d4] }
  | _ => none }
def TopHiddenWrongFalsely : Prop := topHiddenRow.holds Tryd.pinned (OpenSpec.ofChange topHiddenWrong)

/-- 'barbicankeep.GensPlace': WHATEVER THE INPUT: true; the input reads as it did. -/
def gensPlaceSpec : ChangeSpec := { name := "gensPlace", fn := fun _ => fun
  | [d1, d2] => { results := [.lit (.bool true)], args := [d1, d2] }
  | _ => none }
def gensPlaceRow : OpenClaim := { program := "ytijdegmamdhcbaadoor", sum := "0c8ed96d19f9ae63dcaa2957c214ed17847896cae45b06cd7a9c7415fb5ca676", func := "barbican/barbicankeep.GensPlace", spec := "gensPlace", unfollowed := true, recurses := true, named := ["barbican/barbicankeep.units", "barbican/code.of"], apart := false, laid := [("barbican/code.of", laid_barbican_code_of), ("barbican/barbicankeep.units", laid_barbican_barbicankeep_units)] }
def GensPlaceSaid : Prop := gensPlaceRow.holds Tryd.pinned (OpenSpec.ofChange gensPlaceSpec)

/-- ITS FALSE NEIGHBOUR: 'it returns false'. Refute it at one input. -/
def gensPlaceWrong : ChangeSpec := { name := "gensPlace", fn := fun _ => fun
  | [d1, d2] => { results := [.lit (.bool false)], args := [d1, d2] }
  | _ => none }
def GensPlaceWrongFalsely : Prop := gensPlaceRow.holds Tryd.pinned (OpenSpec.ofChange gensPlaceWrong)

/-- 'barbicankeep.CallsAlone': WHATEVER THE INPUT: true; the input reads as it did. -/
def callsAloneSpec : ChangeSpec := { name := "callsAlone", fn := fun _ => fun
  | [d1, d2, d3, d4, d5] => { results := [.lit (.bool true)], args := [d1, d2, d3, d4, d5] }
  | _ => none }
def callsAloneRow : OpenClaim := { program := "ytijdegmamdhcbaadoor", sum := "0c8ed96d19f9ae63dcaa2957c214ed17847896cae45b06cd7a9c7415fb5ca676", func := "barbican/barbicankeep.CallsAlone", spec := "callsAlone", unfollowed := true, recurses := true, named := ["barbican/barbicankeep.units"], apart := false, laid := [("barbican/barbicankeep.units", laid_barbican_barbicankeep_units)] }
def CallsAloneSaid : Prop := callsAloneRow.holds Tryd.pinned (OpenSpec.ofChange callsAloneSpec)

/-- ITS FALSE NEIGHBOUR: 'it returns false'. Refute it at one input. -/
def callsAloneWrong : ChangeSpec := { name := "callsAlone", fn := fun _ => fun
  | [d1, d2, d3, d4, d5] => { results := [.lit (.bool false)], args := [d1, d2, d3, d4, d5] }
  | _ => none }
def CallsAloneWrongFalsely : Prop := callsAloneRow.holds Tryd.pinned (OpenSpec.ofChange callsAloneWrong)

/-- 'barbicankeep.CallsKeep': WHATEVER THE INPUT: true; the input reads as it did. -/
def callsKeepSpec : ChangeSpec := { name := "callsKeep", fn := fun _ => fun
  | [d1, d2, d3] => { results := [.lit (.bool true)], args := [d1, d2, d3] }
  | _ => none }
def callsKeepRow : OpenClaim := { program := "ytijdegmamdhcbaadoor", sum := "0c8ed96d19f9ae63dcaa2957c214ed17847896cae45b06cd7a9c7415fb5ca676", func := "barbican/barbicankeep.CallsKeep", spec := "callsKeep", unfollowed := true, recurses := true, named := ["barbican/barbicankeep.units"], apart := false, laid := [("barbican/barbicankeep.units", laid_barbican_barbicankeep_units)] }
def CallsKeepSaid : Prop := callsKeepRow.holds Tryd.pinned (OpenSpec.ofChange callsKeepSpec)

/-- ITS FALSE NEIGHBOUR: 'it returns false'. Refute it at one input. -/
def callsKeepWrong : ChangeSpec := { name := "callsKeep", fn := fun _ => fun
  | [d1, d2, d3] => { results := [.lit (.bool false)], args := [d1, d2, d3] }
  | _ => none }
def CallsKeepWrongFalsely : Prop := callsKeepRow.holds Tryd.pinned (OpenSpec.ofChange callsKeepWrong)

/-- 'barbicankeep.FoldsAgain': WHATEVER THE INPUT: true; the input reads as it did. -/
def foldsAgainSpec : ChangeSpec := { name := "foldsAgain", fn := fun _ => fun
  | [d1, d2, d3, d4] => { results := [.lit (.bool true)], args := [d1, d2, d3, d4] }
  | _ => none }
def foldsAgainRow : OpenClaim := { program := "ytijdegmamdhcbaadoor", sum := "0c8ed96d19f9ae63dcaa2957c214ed17847896cae45b06cd7a9c7415fb5ca676", func := "barbican/barbicankeep.FoldsAgain", spec := "foldsAgain", unfollowed := true, recurses := true, named := ["barbican/barbicankeep.units"], apart := false, laid := [("barbican/barbicankeep.units", laid_barbican_barbicankeep_units)] }
def FoldsAgainSaid : Prop := foldsAgainRow.holds Tryd.pinned (OpenSpec.ofChange foldsAgainSpec)

/-- ITS FALSE NEIGHBOUR: 'it returns false'. Refute it at one input. -/
def foldsAgainWrong : ChangeSpec := { name := "foldsAgain", fn := fun _ => fun
  | [d1, d2, d3, d4] => { results := [.lit (.bool false)], args := [d1, d2, d3, d4] }
  | _ => none }
def FoldsAgainWrongFalsely : Prop := foldsAgainRow.holds Tryd.pinned (OpenSpec.ofChange foldsAgainWrong)

/-- 'barbicankeep.LinksMay': WHATEVER THE INPUT: true; the input reads as it did. -/
def linksMaySpec : ChangeSpec := { name := "linksMay", fn := fun _ => fun
  | [d1, d2] => { results := [.lit (.bool true)], args := [d1, d2] }
  | _ => none }
def linksMayRow : OpenClaim := { program := "ytijdegmamdhcbaadoor", sum := "0c8ed96d19f9ae63dcaa2957c214ed17847896cae45b06cd7a9c7415fb5ca676", func := "barbican/barbicankeep.LinksMay", spec := "linksMay", unfollowed := true, recurses := true, named := ["barbican/barbicankeep.units", "barbican/code.of"], apart := false, laid := [("barbican/code.of", laid_barbican_code_of), ("barbican/barbicankeep.units", laid_barbican_barbicankeep_units)] }
def LinksMaySaid : Prop := linksMayRow.holds Tryd.pinned (OpenSpec.ofChange linksMaySpec)

/-- ITS FALSE NEIGHBOUR: 'it returns false'. Refute it at one input. -/
def linksMayWrong : ChangeSpec := { name := "linksMay", fn := fun _ => fun
  | [d1, d2] => { results := [.lit (.bool false)], args := [d1, d2] }
  | _ => none }
def LinksMayWrongFalsely : Prop := linksMayRow.holds Tryd.pinned (OpenSpec.ofChange linksMayWrong)

/- THE SECOND FORM. 'bulk': how many values and letters a reading holds, each counted each time it is reached (what is shared counts as often as it is met; a slice's spare places count too). A statement '..UptoSaid' is the law's where the arguments, and the package variables that the reading takes, are together of bulk at most 1048576: NARROWER than '..Said'. Prove '..Said' where nothing that the law and all that it calls make is longer than what came in: it says more and counts as full. Else prove '..UptoSaid'. A law counts once. -/
mutual
def uptoBulk {H : Type} : DataW H → Nat
  | .lit (.string bytes) => bytes.length + 1
  | .lit _ => 1
  | .nil => 1
  | .ptr d => uptoBulk d + 1
  | .slice elems spare => uptoBulkAll elems + uptoBulkAll spare + 1
  | .agg parts => uptoBulkAll parts + 1
  | .iface _ d => uptoBulk d + 1
  | .map entries => uptoBulkEntries entries + 1
  | .held _ => 1
def uptoBulkAll {H : Type} : List (DataW H) → Nat
  | [] => 0
  | d :: r => uptoBulk d + uptoBulkAll r
def uptoBulkEntries {H : Type} : List (Lit × DataW H) → Nat
  | [] => 0
  | x :: r => uptoBulkEntry x + uptoBulkEntries r
def uptoBulkEntry {H : Type} : Lit × DataW H → Nat
  | (.string bytes, d) => bytes.length + uptoBulk d + 1
  | (_, d) => uptoBulk d + 1
 end
def uptoSmall : (H : Type) → List (DataW H) → Bool := fun _ ds => decide (uptoBulkAll ds ≤ 1048576)
def OpenSpec.upto (s : _root_.Go.ChangeSpec) : _root_.Go.OpenSpec := { _root_.Go.OpenSpec.ofChange s with cond := some uptoSmall }

/-- 'barbicantop.TopEntries', WHERE WHAT IT READS IS OF BULK AT MOST 1048576: true; the input reads as it did. -/
def topEntriesUptoRow : OpenClaim := { program := "ytijdegmamdhcbaadoor", sum := "0c8ed96d19f9ae63dcaa2957c214ed17847896cae45b06cd7a9c7415fb5ca676", func := "barbican/barbicantop.TopEntries", spec := "topEntries", unfollowed := true, recurses := true, named := ["barbican/barbicankeep.units", "barbican/code.of"], apart := false, laid := [("barbican/code.of", laid_barbican_code_of), ("barbican/barbicankeep.units", laid_barbican_barbicankeep_units)], narrowed := true }
def TopEntriesUptoSaid : Prop := topEntriesUptoRow.holds Tryd.pinned (OpenSpec.upto topEntriesSpec)

/-- 'barbicantop.TopFuel', WHERE WHAT IT READS IS OF BULK AT MOST 1048576: true; the input reads as it did. -/
def topFuelUptoRow : OpenClaim := { program := "ytijdegmamdhcbaadoor", sum := "0c8ed96d19f9ae63dcaa2957c214ed17847896cae45b06cd7a9c7415fb5ca676", func := "barbican/barbicantop.TopFuel", spec := "topFuel", unfollowed := true, recurses := true, named := ["barbican/barbicankeep.units", "barbican/code.of"], apart := false, laid := [("barbican/code.of", laid_barbican_code_of), ("barbican/barbicankeep.units", laid_barbican_barbicankeep_units)], narrowed := true }
def TopFuelUptoSaid : Prop := topFuelUptoRow.holds Tryd.pinned (OpenSpec.upto topFuelSpec)

/-- 'barbicantop.TopHidden', WHERE WHAT IT READS IS OF BULK AT MOST 1048576: true; the input reads as it did. -/
def topHiddenUptoRow : OpenClaim := { program := "ytijdegmamdhcbaadoor", sum := "0c8ed96d19f9ae63dcaa2957c214ed17847896cae45b06cd7a9c7415fb5ca676", func := "barbican/barbicantop.TopHidden", spec := "topHidden", unfollowed := true, recurses := true, named := ["barbican/barbicankeep.units", "barbican/code.of"], apart := false, laid := [("barbican/code.of", laid_barbican_code_of), ("barbican/barbicankeep.units", laid_barbican_barbicankeep_units)], narrowed := true }
def TopHiddenUptoSaid : Prop := topHiddenUptoRow.holds Tryd.pinned (OpenSpec.upto topHiddenSpec)

/-- 'barbicankeep.GensPlace', WHERE WHAT IT READS IS OF BULK AT MOST 1048576: true; the input reads as it did. -/
def gensPlaceUptoRow : OpenClaim := { program := "ytijdegmamdhcbaadoor", sum := "0c8ed96d19f9ae63dcaa2957c214ed17847896cae45b06cd7a9c7415fb5ca676", func := "barbican/barbicankeep.GensPlace", spec := "gensPlace", unfollowed := true, recurses := true, named := ["barbican/barbicankeep.units", "barbican/code.of"], apart := false, laid := [("barbican/code.of", laid_barbican_code_of), ("barbican/barbicankeep.units", laid_barbican_barbicankeep_units)], narrowed := true }
def GensPlaceUptoSaid : Prop := gensPlaceUptoRow.holds Tryd.pinned (OpenSpec.upto gensPlaceSpec)

/-- 'barbicankeep.CallsAlone', WHERE WHAT IT READS IS OF BULK AT MOST 1048576: true; the input reads as it did. -/
def callsAloneUptoRow : OpenClaim := { program := "ytijdegmamdhcbaadoor", sum := "0c8ed96d19f9ae63dcaa2957c214ed17847896cae45b06cd7a9c7415fb5ca676", func := "barbican/barbicankeep.CallsAlone", spec := "callsAlone", unfollowed := true, recurses := true, named := ["barbican/barbicankeep.units"], apart := false, laid := [("barbican/barbicankeep.units", laid_barbican_barbicankeep_units)], narrowed := true }
def CallsAloneUptoSaid : Prop := callsAloneUptoRow.holds Tryd.pinned (OpenSpec.upto callsAloneSpec)

/-- 'barbicankeep.CallsKeep', WHERE WHAT IT READS IS OF BULK AT MOST 1048576: true; the input reads as it did. -/
def callsKeepUptoRow : OpenClaim := { program := "ytijdegmamdhcbaadoor", sum := "0c8ed96d19f9ae63dcaa2957c214ed17847896cae45b06cd7a9c7415fb5ca676", func := "barbican/barbicankeep.CallsKeep", spec := "callsKeep", unfollowed := true, recurses := true, named := ["barbican/barbicankeep.units"], apart := false, laid := [("barbican/barbicankeep.units", laid_barbican_barbicankeep_units)], narrowed := true }
def CallsKeepUptoSaid : Prop := callsKeepUptoRow.holds Tryd.pinned (OpenSpec.upto callsKeepSpec)

/-- 'barbicankeep.FoldsAgain', WHERE WHAT IT READS IS OF BULK AT MOST 1048576: true; the input reads as it did. -/
def foldsAgainUptoRow : OpenClaim := { program := "ytijdegmamdhcbaadoor", sum := "0c8ed96d19f9ae63dcaa2957c214ed17847896cae45b06cd7a9c7415fb5ca676", func := "barbican/barbicankeep.FoldsAgain", spec := "foldsAgain", unfollowed := true, recurses := true, named := ["barbican/barbicankeep.units"], apart := false, laid := [("barbican/barbicankeep.units", laid_barbican_barbicankeep_units)], narrowed := true }
def FoldsAgainUptoSaid : Prop := foldsAgainUptoRow.holds Tryd.pinned (OpenSpec.upto foldsAgainSpec)

/-- 'barbicankeep.LinksMay', WHERE WHAT IT READS IS OF BULK AT MOST 1048576: true; the input reads as it did. -/
def linksMayUptoRow : OpenClaim := { program := "ytijdegmamdhcbaadoor", sum := "0c8ed96d19f9ae63dcaa2957c214ed17847896cae45b06cd7a9c7415fb5ca676", func := "barbican/barbicankeep.LinksMay", spec := "linksMay", unfollowed := true, recurses := true, named := ["barbican/barbicankeep.units", "barbican/code.of"], apart := false, laid := [("barbican/code.of", laid_barbican_code_of), ("barbican/barbicankeep.units", laid_barbican_barbicankeep_units)], narrowed := true }
def LinksMayUptoSaid : Prop := linksMayUptoRow.holds Tryd.pinned (OpenSpec.upto linksMaySpec)

end Rows
end Go.Proofs.YtijdegmamdhcbaaDoor
