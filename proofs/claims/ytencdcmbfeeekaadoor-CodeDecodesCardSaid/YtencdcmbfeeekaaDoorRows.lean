/-
  NARROWER THAN 'FOR EVERY INPUT', by the rows' own cells (each row's printed sentence says how): CodeChecks: laid · CodeEncodes: laid · CodeDecodes: laid · MemChecks: laid · CodeBack: laid · MemData: laid · MemLoads: laid · MemStores: laid · StoresLoad: laid · MachRuns: laid · MachineLoops: laid · MachineDoes: laid · MachineWalls: laid.
  DERIVED. THE GIVEN ROWS OF THIS SEAT. 13 by the template 'for every input the law returns true; each argument reads behind the call as it read before'; 0 by the template 'total and deterministic' (their statements: YtencdcmbfeeekaaDoorTotals.lean).
  GIVEN WITH THE SEED: the statements are not yours to turn. If you find one false, say at which input.
  Laid BY PROGRAM, IN A SANDBOX (cutbox-rows.mjs): the forced cells as the released guide's own fill.sh prints them over the translation fb5d6088fc02959e… (all of the seat's roots in one cut). By AI agents, Wed Nov 11 2026. No macro, syntax, notation, axiom, sorry.
-/
import Derived.Test.YtencdcmbfeeekaaDoorChecked
import GoSem.Claim
import GoSem.ClaimJoined
import GoSem.ClaimMapViews
import Derived.JoinedTies
import Derived.KernelRfl
namespace Go.Proofs.YtencdcmbfeeekaaDoor
/- THE CELL 'sum', in the pinned program and in every row, IS THE sha256 OF THE DUMP (.gsa) THAT YtencdcmbfeeekaaDoorProg.lean LOADS. Nothing in Lean hashes anything: it is a label: what it is worth is what the hold of that sum in a sandbox is worth. -/
noncomputable def Tryd.pinned : Pinned := { name := "ytencdcmbfeeekaadoor", sum := "fb5d6088fc02959ecfc53fbad46c3fe266089e2caf8a7be8058891e45793b3f8", checked := Tryd.checked }
namespace Rows
def none {H : Type} : Left H := { results := [], args := [] }

/- WHAT THE LISTED PACKAGE-LEVEL VARIABLES READ AS WHEN THE CALL BEGINS. Each datum BY PROGRAM (the guide's laid-datum.mjs) off the statement by which the dump's own 'gosem.cut.vars' lays the variable. In a bare row this is a premise. The card (YtencdcmbfeeekaaDoorCards.lean) ties it to the program's text. -/
def laid_barbican_code_of {H : Type} : DataW H := .agg [.agg [.lit (.int .i64 0), .lit (.int .i64 0), .lit (.int .i64 0)], .agg [.lit (.int .i64 65535), .lit (.int .i64 0), .lit (.int .i64 0)], .agg [.lit (.int .i64 0), .lit (.int .i64 0), .lit (.int .i64 0)], .agg [.lit (.int .i64 0), .lit (.int .i64 0), .lit (.int .i64 0)], .agg [.lit (.int .i64 7), .lit (.int .i64 0), .lit (.int .i64 0)], .agg [.lit (.int .i64 7), .lit (.int .i64 0), .lit (.int .i64 0)], .agg [.lit (.int .i64 0), .lit (.int .i64 0), .lit (.int .i64 0)], .agg [.lit (.int .i64 0), .lit (.int .i64 0), .lit (.int .i64 0)], .agg [.lit (.int .i64 10), .lit (.int .i64 0), .lit (.int .i64 0)], .agg [.lit (.int .i64 1199), .lit (.int .i64 0), .lit (.int .i64 0)], .agg [.lit (.int .i64 1199), .lit (.int .i64 0), .lit (.int .i64 0)], .agg [.lit (.int .i64 1199), .lit (.int .i64 4), .lit (.int .i64 0)], .agg [.lit (.int .i64 4), .lit (.int .i64 7), .lit (.int .i64 4)], .agg [.lit (.int .i64 0), .lit (.int .i64 0), .lit (.int .i64 0)], .agg [.lit (.int .i64 0), .lit (.int .i64 0), .lit (.int .i64 0)], .agg [.lit (.int .i64 0), .lit (.int .i64 0), .lit (.int .i64 0)]]

/-- 'barbicanlaw.CodeChecks': WHATEVER THE INPUT: true; the input reads as it did. -/
def codeChecksSpec : ChangeSpec := { name := "codeChecks", fn := fun _ => fun
  | [d] => { results := [.lit (.bool true)], args := [d] }
  | _ => none }
def codeChecksRow : OpenClaim := { program := "ytencdcmbfeeekaadoor", sum := "fb5d6088fc02959ecfc53fbad46c3fe266089e2caf8a7be8058891e45793b3f8", func := "barbican/barbicanlaw.CodeChecks", spec := "codeChecks", named := ["barbican/code.of"], apart := false, laid := [("barbican/code.of", laid_barbican_code_of)] }
def CodeChecksSaid : Prop := codeChecksRow.holds Tryd.pinned (OpenSpec.ofChange codeChecksSpec)

/-- ITS FALSE NEIGHBOUR: 'it returns false'. Refute it at one input. -/
def codeChecksWrong : ChangeSpec := { name := "codeChecks", fn := fun _ => fun
  | [d] => { results := [.lit (.bool false)], args := [d] }
  | _ => none }
def CodeChecksWrongFalsely : Prop := codeChecksRow.holds Tryd.pinned (OpenSpec.ofChange codeChecksWrong)

/-- 'barbicanlaw.CodeEncodes': WHATEVER THE INPUT: true; the input reads as it did. -/
def codeEncodesSpec : ChangeSpec := { name := "codeEncodes", fn := fun _ => fun
  | [d] => { results := [.lit (.bool true)], args := [d] }
  | _ => none }
def codeEncodesRow : OpenClaim := { program := "ytencdcmbfeeekaadoor", sum := "fb5d6088fc02959ecfc53fbad46c3fe266089e2caf8a7be8058891e45793b3f8", func := "barbican/barbicanlaw.CodeEncodes", spec := "codeEncodes", named := ["barbican/code.of"], apart := false, laid := [("barbican/code.of", laid_barbican_code_of)] }
def CodeEncodesSaid : Prop := codeEncodesRow.holds Tryd.pinned (OpenSpec.ofChange codeEncodesSpec)

/-- ITS FALSE NEIGHBOUR: 'it returns false'. Refute it at one input. -/
def codeEncodesWrong : ChangeSpec := { name := "codeEncodes", fn := fun _ => fun
  | [d] => { results := [.lit (.bool false)], args := [d] }
  | _ => none }
def CodeEncodesWrongFalsely : Prop := codeEncodesRow.holds Tryd.pinned (OpenSpec.ofChange codeEncodesWrong)

/-- 'barbicanlaw.CodeDecodes': WHATEVER THE INPUT: true; the input reads as it did. -/
def codeDecodesSpec : ChangeSpec := { name := "codeDecodes", fn := fun _ => fun
  | [d] => { results := [.lit (.bool true)], args := [d] }
  | _ => none }
def codeDecodesRow : OpenClaim := { program := "ytencdcmbfeeekaadoor", sum := "fb5d6088fc02959ecfc53fbad46c3fe266089e2caf8a7be8058891e45793b3f8", func := "barbican/barbicanlaw.CodeDecodes", spec := "codeDecodes", named := ["barbican/code.of"], apart := false, laid := [("barbican/code.of", laid_barbican_code_of)] }
def CodeDecodesSaid : Prop := codeDecodesRow.holds Tryd.pinned (OpenSpec.ofChange codeDecodesSpec)

/-- ITS FALSE NEIGHBOUR: 'it returns false'. Refute it at one input. -/
def codeDecodesWrong : ChangeSpec := { name := "codeDecodes", fn := fun _ => fun
  | [d] => { results := [.lit (.bool false)], args := [d] }
  | _ => none }
def CodeDecodesWrongFalsely : Prop := codeDecodesRow.holds Tryd.pinned (OpenSpec.ofChange codeDecodesWrong)

/-- 'barbicanlaw.MemChecks': WHATEVER THE INPUT: true; the input reads as it did. -/
def memChecksSpec : ChangeSpec := { name := "memChecks", fn := fun _ => fun
  | [d] => { results := [.lit (.bool true)], args := [d] }
  | _ => none }
def memChecksRow : OpenClaim := { program := "ytencdcmbfeeekaadoor", sum := "fb5d6088fc02959ecfc53fbad46c3fe266089e2caf8a7be8058891e45793b3f8", func := "barbican/barbicanlaw.MemChecks", spec := "memChecks", named := ["barbican/code.of"], apart := false, laid := [("barbican/code.of", laid_barbican_code_of)] }
def MemChecksSaid : Prop := memChecksRow.holds Tryd.pinned (OpenSpec.ofChange memChecksSpec)

/-- ITS FALSE NEIGHBOUR: 'it returns false'. Refute it at one input. -/
def memChecksWrong : ChangeSpec := { name := "memChecks", fn := fun _ => fun
  | [d] => { results := [.lit (.bool false)], args := [d] }
  | _ => none }
def MemChecksWrongFalsely : Prop := memChecksRow.holds Tryd.pinned (OpenSpec.ofChange memChecksWrong)

/-- 'barbicankeep.CodeBack': WHATEVER THE INPUT: true; the input reads as it did. -/
def codeBackSpec : ChangeSpec := { name := "codeBack", fn := fun _ => fun
  | [d1, d2] => { results := [.lit (.bool true)], args := [d1, d2] }
  | _ => none }
def codeBackRow : OpenClaim := { program := "ytencdcmbfeeekaadoor", sum := "fb5d6088fc02959ecfc53fbad46c3fe266089e2caf8a7be8058891e45793b3f8", func := "barbican/barbicankeep.CodeBack", spec := "codeBack", named := ["barbican/code.of"], apart := false, laid := [("barbican/code.of", laid_barbican_code_of)] }
def CodeBackSaid : Prop := codeBackRow.holds Tryd.pinned (OpenSpec.ofChange codeBackSpec)

/-- ITS FALSE NEIGHBOUR: 'it returns false'. Refute it at one input. -/
def codeBackWrong : ChangeSpec := { name := "codeBack", fn := fun _ => fun
  | [d1, d2] => { results := [.lit (.bool false)], args := [d1, d2] }
  | _ => none }
def CodeBackWrongFalsely : Prop := codeBackRow.holds Tryd.pinned (OpenSpec.ofChange codeBackWrong)

/-- 'barbicanlaw.MemData': WHATEVER THE INPUT: true; the input reads as it did. -/
def memDataSpec : ChangeSpec := { name := "memData", fn := fun _ => fun
  | [d1, d2] => { results := [.lit (.bool true)], args := [d1, d2] }
  | _ => none }
def memDataRow : OpenClaim := { program := "ytencdcmbfeeekaadoor", sum := "fb5d6088fc02959ecfc53fbad46c3fe266089e2caf8a7be8058891e45793b3f8", func := "barbican/barbicanlaw.MemData", spec := "memData", unfollowed := true, recurses := true, named := ["barbican/code.of"], apart := false, laid := [("barbican/code.of", laid_barbican_code_of)] }
def MemDataSaid : Prop := memDataRow.holds Tryd.pinned (OpenSpec.ofChange memDataSpec)

/-- ITS FALSE NEIGHBOUR: 'it returns false'. Refute it at one input. -/
def memDataWrong : ChangeSpec := { name := "memData", fn := fun _ => fun
  | [d1, d2] => { results := [.lit (.bool false)], args := [d1, d2] }
  | _ => none }
def MemDataWrongFalsely : Prop := memDataRow.holds Tryd.pinned (OpenSpec.ofChange memDataWrong)

/-- 'barbicanlaw.MemLoads': WHATEVER THE INPUT: true; the input reads as it did. -/
def memLoadsSpec : ChangeSpec := { name := "memLoads", fn := fun _ => fun
  | [d1, d2, d3, d4] => { results := [.lit (.bool true)], args := [d1, d2, d3, d4] }
  | _ => none }
def memLoadsRow : OpenClaim := { program := "ytencdcmbfeeekaadoor", sum := "fb5d6088fc02959ecfc53fbad46c3fe266089e2caf8a7be8058891e45793b3f8", func := "barbican/barbicanlaw.MemLoads", spec := "memLoads", unfollowed := true, recurses := true, named := ["barbican/code.of"], apart := false, laid := [("barbican/code.of", laid_barbican_code_of)] }
def MemLoadsSaid : Prop := memLoadsRow.holds Tryd.pinned (OpenSpec.ofChange memLoadsSpec)

/-- ITS FALSE NEIGHBOUR: 'it returns false'. Refute it at one input. -/
def memLoadsWrong : ChangeSpec := { name := "memLoads", fn := fun _ => fun
  | [d1, d2, d3, d4] => { results := [.lit (.bool false)], args := [d1, d2, d3, d4] }
  | _ => none }
def MemLoadsWrongFalsely : Prop := memLoadsRow.holds Tryd.pinned (OpenSpec.ofChange memLoadsWrong)

/-- 'barbicanlaw.MemStores': WHATEVER THE INPUT: true; the input reads as it did. -/
def memStoresSpec : ChangeSpec := { name := "memStores", fn := fun _ => fun
  | [d1, d2, d3, d4, d5] => { results := [.lit (.bool true)], args := [d1, d2, d3, d4, d5] }
  | _ => none }
def memStoresRow : OpenClaim := { program := "ytencdcmbfeeekaadoor", sum := "fb5d6088fc02959ecfc53fbad46c3fe266089e2caf8a7be8058891e45793b3f8", func := "barbican/barbicanlaw.MemStores", spec := "memStores", unfollowed := true, recurses := true, named := ["barbican/code.of"], apart := false, laid := [("barbican/code.of", laid_barbican_code_of)] }
def MemStoresSaid : Prop := memStoresRow.holds Tryd.pinned (OpenSpec.ofChange memStoresSpec)

/-- ITS FALSE NEIGHBOUR: 'it returns false'. Refute it at one input. -/
def memStoresWrong : ChangeSpec := { name := "memStores", fn := fun _ => fun
  | [d1, d2, d3, d4, d5] => { results := [.lit (.bool false)], args := [d1, d2, d3, d4, d5] }
  | _ => none }
def MemStoresWrongFalsely : Prop := memStoresRow.holds Tryd.pinned (OpenSpec.ofChange memStoresWrong)

/-- 'barbicankeep.StoresLoad': WHATEVER THE INPUT: true; the input reads as it did. -/
def storesLoadSpec : ChangeSpec := { name := "storesLoad", fn := fun _ => fun
  | [d1, d2, d3] => { results := [.lit (.bool true)], args := [d1, d2, d3] }
  | _ => none }
def storesLoadRow : OpenClaim := { program := "ytencdcmbfeeekaadoor", sum := "fb5d6088fc02959ecfc53fbad46c3fe266089e2caf8a7be8058891e45793b3f8", func := "barbican/barbicankeep.StoresLoad", spec := "storesLoad", unfollowed := true, recurses := true, named := ["barbican/code.of"], apart := false, laid := [("barbican/code.of", laid_barbican_code_of)] }
def StoresLoadSaid : Prop := storesLoadRow.holds Tryd.pinned (OpenSpec.ofChange storesLoadSpec)

/-- ITS FALSE NEIGHBOUR: 'it returns false'. Refute it at one input. -/
def storesLoadWrong : ChangeSpec := { name := "storesLoad", fn := fun _ => fun
  | [d1, d2, d3] => { results := [.lit (.bool false)], args := [d1, d2, d3] }
  | _ => none }
def StoresLoadWrongFalsely : Prop := storesLoadRow.holds Tryd.pinned (OpenSpec.ofChange storesLoadWrong)

/-- 'barbicanlaw.MachRuns': WHATEVER THE INPUT: true; the input reads as it did. -/
def machRunsSpec : ChangeSpec := { name := "machRuns", fn := fun _ => fun
  | [d1, d2, d3, d4, d5, d6] => { results := [.lit (.bool true)], args := [d1, d2, d3, d4, d5, d6] }
  | _ => none }
def machRunsRow : OpenClaim := { program := "ytencdcmbfeeekaadoor", sum := "fb5d6088fc02959ecfc53fbad46c3fe266089e2caf8a7be8058891e45793b3f8", func := "barbican/barbicanlaw.MachRuns", spec := "machRuns", unfollowed := true, recurses := true, named := ["barbican/code.of"], apart := false, laid := [("barbican/code.of", laid_barbican_code_of)] }
def MachRunsSaid : Prop := machRunsRow.holds Tryd.pinned (OpenSpec.ofChange machRunsSpec)

/-- ITS FALSE NEIGHBOUR: 'it returns false'. Refute it at one input. -/
def machRunsWrong : ChangeSpec := { name := "machRuns", fn := fun _ => fun
  | [d1, d2, d3, d4, d5, d6] => { results := [.lit (.bool false)], args := [d1, d2, d3, d4, d5, d6] }
  | _ => none }
def MachRunsWrongFalsely : Prop := machRunsRow.holds Tryd.pinned (OpenSpec.ofChange machRunsWrong)

/-- 'barbicankeep.MachineLoops': WHATEVER THE INPUT: true; the input reads as it did. -/
def machineLoopsSpec : ChangeSpec := { name := "machineLoops", fn := fun _ => fun
  | [d1, d2] => { results := [.lit (.bool true)], args := [d1, d2] }
  | _ => none }
def machineLoopsRow : OpenClaim := { program := "ytencdcmbfeeekaadoor", sum := "fb5d6088fc02959ecfc53fbad46c3fe266089e2caf8a7be8058891e45793b3f8", func := "barbican/barbicankeep.MachineLoops", spec := "machineLoops", unfollowed := true, recurses := true, named := ["barbican/code.of"], apart := false, laid := [("barbican/code.of", laid_barbican_code_of)] }
def MachineLoopsSaid : Prop := machineLoopsRow.holds Tryd.pinned (OpenSpec.ofChange machineLoopsSpec)

/-- ITS FALSE NEIGHBOUR: 'it returns false'. Refute it at one input. -/
def machineLoopsWrong : ChangeSpec := { name := "machineLoops", fn := fun _ => fun
  | [d1, d2] => { results := [.lit (.bool false)], args := [d1, d2] }
  | _ => none }
def MachineLoopsWrongFalsely : Prop := machineLoopsRow.holds Tryd.pinned (OpenSpec.ofChange machineLoopsWrong)

/-- 'barbicankeep.MachineDoes': WHATEVER THE INPUT: true; the input reads as it did. -/
def machineDoesSpec : ChangeSpec := { name := "machineDoes", fn := fun _ => fun
  | [d1, d2, d3] => { results := [.lit (.bool true)], args := [d1, d2, d3] }
  | _ => none }
def machineDoesRow : OpenClaim := { program := "ytencdcmbfeeekaadoor", sum := "fb5d6088fc02959ecfc53fbad46c3fe266089e2caf8a7be8058891e45793b3f8", func := "barbican/barbicankeep.MachineDoes", spec := "machineDoes", unfollowed := true, recurses := true, named := ["barbican/code.of"], apart := false, laid := [("barbican/code.of", laid_barbican_code_of)] }
def MachineDoesSaid : Prop := machineDoesRow.holds Tryd.pinned (OpenSpec.ofChange machineDoesSpec)

/-- ITS FALSE NEIGHBOUR: 'it returns false'. Refute it at one input. -/
def machineDoesWrong : ChangeSpec := { name := "machineDoes", fn := fun _ => fun
  | [d1, d2, d3] => { results := [.lit (.bool false)], args := [d1, d2, d3] }
  | _ => none }
def MachineDoesWrongFalsely : Prop := machineDoesRow.holds Tryd.pinned (OpenSpec.ofChange machineDoesWrong)

/-- 'barbicankeep.MachineWalls': WHATEVER THE INPUT: true; the input reads as it did. -/
def machineWallsSpec : ChangeSpec := { name := "machineWalls", fn := fun _ => fun
  | [d1, d2] => { results := [.lit (.bool true)], args := [d1, d2] }
  | _ => none }
def machineWallsRow : OpenClaim := { program := "ytencdcmbfeeekaadoor", sum := "fb5d6088fc02959ecfc53fbad46c3fe266089e2caf8a7be8058891e45793b3f8", func := "barbican/barbicankeep.MachineWalls", spec := "machineWalls", unfollowed := true, recurses := true, named := ["barbican/code.of"], apart := false, laid := [("barbican/code.of", laid_barbican_code_of)] }
def MachineWallsSaid : Prop := machineWallsRow.holds Tryd.pinned (OpenSpec.ofChange machineWallsSpec)

/-- ITS FALSE NEIGHBOUR: 'it returns false'. Refute it at one input. -/
def machineWallsWrong : ChangeSpec := { name := "machineWalls", fn := fun _ => fun
  | [d1, d2] => { results := [.lit (.bool false)], args := [d1, d2] }
  | _ => none }
def MachineWallsWrongFalsely : Prop := machineWallsRow.holds Tryd.pinned (OpenSpec.ofChange machineWallsWrong)

/- THE SECOND FORM. 'bulk': how many values and letters a reading holds, each counted each time it is reached (what is shared counts as often as it is met; a slice's spare places count too). A statement '..UptoSaid' is the law's where the arguments, and the package variables that the reading takes, are together of bulk at most 1048576: NARROWER than '..Said'. Prove '..Said' where nothing that the law and all that it calls make is longer than what came in: it says more and counts as full. Else prove '..UptoSaid'. A law counts once. -/
mutual
def uptoBulk {H : Type} : DataW H → Nat
  | .lit (.string bytes) => bytes.length + 1
  | .lit _ => 1
  | .nil => 1
  | .ptr d => uptoBulk d + 1
  | .slice elems spare => uptoBulkAll elems + uptoBulkAll spare + 1
  | .agg parts => uptoBulkAll parts + 1
  | .iface _ d => uptoBulk d + 1
  | .map entries => uptoBulkEntries entries + 1
  | .held _ => 1
def uptoBulkAll {H : Type} : List (DataW H) → Nat
  | [] => 0
  | d :: r => uptoBulk d + uptoBulkAll r
def uptoBulkEntries {H : Type} : List (Lit × DataW H) → Nat
  | [] => 0
  | x :: r => uptoBulkEntry x + uptoBulkEntries r
def uptoBulkEntry {H : Type} : Lit × DataW H → Nat
  | (.string bytes, d) => bytes.length + uptoBulk d + 1
  | (_, d) => uptoBulk d + 1
 end
def uptoSmall : (H : Type) → List (DataW H) → Bool := fun _ ds => decide (uptoBulkAll ds ≤ 1048576)
def OpenSpec.upto (s : _root_.Go.ChangeSpec) : _root_.Go.OpenSpec := { _root_.Go.OpenSpec.ofChange s with cond := some uptoSmall }

/-- 'barbicanlaw.CodeChecks', WHERE WHAT IT READS IS OF BULK AT MOST 1048576: true; the input reads as it did. -/
def codeChecksUptoRow : OpenClaim := { program := "ytencdcmbfeeekaadoor", sum := "fb5d6088fc02959ecfc53fbad46c3fe266089e2caf8a7be8058891e45793b3f8", func := "barbican/barbicanlaw.CodeChecks", spec := "codeChecks", named := ["barbican/code.of"], apart := false, laid := [("barbican/code.of", laid_barbican_code_of)], narrowed := true }
def CodeChecksUptoSaid : Prop := codeChecksUptoRow.holds Tryd.pinned (OpenSpec.upto codeChecksSpec)

/-- 'barbicanlaw.CodeEncodes', WHERE WHAT IT READS IS OF BULK AT MOST 1048576: true; the input reads as it did. -/
def codeEncodesUptoRow : OpenClaim := { program := "ytencdcmbfeeekaadoor", sum := "fb5d6088fc02959ecfc53fbad46c3fe266089e2caf8a7be8058891e45793b3f8", func := "barbican/barbicanlaw.CodeEncodes", spec := "codeEncodes", named := ["barbican/code.of"], apart := false, laid := [("barbican/code.of", laid_barbican_code_of)], narrowed := true }
def CodeEncodesUptoSaid : Prop := codeEncodesUptoRow.holds Tryd.pinned (OpenSpec.upto codeEncodesSpec)

/-- 'barbicanlaw.CodeDecodes', WHERE WHAT IT READS IS OF BULK AT MOST 1048576: true; the input reads as it did. -/
def codeDecodesUptoRow : OpenClaim := { program := "ytencdcmbfeeekaadoor", sum := "fb5d6088fc02959ecfc53fbad46c3fe266089e2caf8a7be8058891e45793b3f8", func := "barbican/barbicanlaw.CodeDecodes", spec := "codeDecodes", named := ["barbican/code.of"], apart := false, laid := [("barbican/code.of", laid_barbican_code_of)], narrowed := true }
def CodeDecodesUptoSaid : Prop := codeDecodesUptoRow.holds Tryd.pinned (OpenSpec.upto codeDecodesSpec)

/-- 'barbicanlaw.MemChecks', WHERE WHAT IT READS IS OF BULK AT MOST 1048576: true; the input reads as it did. -/
def memChecksUptoRow : OpenClaim := { program := "ytencdcmbfeeekaadoor", sum := "fb5d6088fc02959ecfc53fbad46c3fe266089e2caf8a7be8058891e45793b3f8", func := "barbican/barbicanlaw.MemChecks", spec := "memChecks", named := ["barbican/code.of"], apart := false, laid := [("barbican/code.of", laid_barbican_code_of)], narrowed := true }
def MemChecksUptoSaid : Prop := memChecksUptoRow.holds Tryd.pinned (OpenSpec.upto memChecksSpec)

/-- 'barbicankeep.CodeBack', WHERE WHAT IT READS IS OF BULK AT MOST 1048576: true; the input reads as it did. -/
def codeBackUptoRow : OpenClaim := { program := "ytencdcmbfeeekaadoor", sum := "fb5d6088fc02959ecfc53fbad46c3fe266089e2caf8a7be8058891e45793b3f8", func := "barbican/barbicankeep.CodeBack", spec := "codeBack", named := ["barbican/code.of"], apart := false, laid := [("barbican/code.of", laid_barbican_code_of)], narrowed := true }
def CodeBackUptoSaid : Prop := codeBackUptoRow.holds Tryd.pinned (OpenSpec.upto codeBackSpec)

/-- 'barbicanlaw.MemData', WHERE WHAT IT READS IS OF BULK AT MOST 1048576: true; the input reads as it did. -/
def memDataUptoRow : OpenClaim := { program := "ytencdcmbfeeekaadoor", sum := "fb5d6088fc02959ecfc53fbad46c3fe266089e2caf8a7be8058891e45793b3f8", func := "barbican/barbicanlaw.MemData", spec := "memData", unfollowed := true, recurses := true, named := ["barbican/code.of"], apart := false, laid := [("barbican/code.of", laid_barbican_code_of)], narrowed := true }
def MemDataUptoSaid : Prop := memDataUptoRow.holds Tryd.pinned (OpenSpec.upto memDataSpec)

/-- 'barbicanlaw.MemLoads', WHERE WHAT IT READS IS OF BULK AT MOST 1048576: true; the input reads as it did. -/
def memLoadsUptoRow : OpenClaim := { program := "ytencdcmbfeeekaadoor", sum := "fb5d6088fc02959ecfc53fbad46c3fe266089e2caf8a7be8058891e45793b3f8", func := "barbican/barbicanlaw.MemLoads", spec := "memLoads", unfollowed := true, recurses := true, named := ["barbican/code.of"], apart := false, laid := [("barbican/code.of", laid_barbican_code_of)], narrowed := true }
def MemLoadsUptoSaid : Prop := memLoadsUptoRow.holds Tryd.pinned (OpenSpec.upto memLoadsSpec)

/-- 'barbicanlaw.MemStores', WHERE WHAT IT READS IS OF BULK AT MOST 1048576: true; the input reads as it did. -/
def memStoresUptoRow : OpenClaim := { program := "ytencdcmbfeeekaadoor", sum := "fb5d6088fc02959ecfc53fbad46c3fe266089e2caf8a7be8058891e45793b3f8", func := "barbican/barbicanlaw.MemStores", spec := "memStores", unfollowed := true, recurses := true, named := ["barbican/code.of"], apart := false, laid := [("barbican/code.of", laid_barbican_code_of)], narrowed := true }
def MemStoresUptoSaid : Prop := memStoresUptoRow.holds Tryd.pinned (OpenSpec.upto memStoresSpec)

/-- 'barbicankeep.StoresLoad', WHERE WHAT IT READS IS OF BULK AT MOST 1048576: true; the input reads as it did. -/
def storesLoadUptoRow : OpenClaim := { program := "ytencdcmbfeeekaadoor", sum := "fb5d6088fc02959ecfc53fbad46c3fe266089e2caf8a7be8058891e45793b3f8", func := "barbican/barbicankeep.StoresLoad", spec := "storesLoad", unfollowed := true, recurses := true, named := ["barbican/code.of"], apart := false, laid := [("barbican/code.of", laid_barbican_code_of)], narrowed := true }
def StoresLoadUptoSaid : Prop := storesLoadUptoRow.holds Tryd.pinned (OpenSpec.upto storesLoadSpec)

/-- 'barbicanlaw.MachRuns', WHERE WHAT IT READS IS OF BULK AT MOST 1048576: true; the input reads as it did. -/
def machRunsUptoRow : OpenClaim := { program := "ytencdcmbfeeekaadoor", sum := "fb5d6088fc02959ecfc53fbad46c3fe266089e2caf8a7be8058891e45793b3f8", func := "barbican/barbicanlaw.MachRuns", spec := "machRuns", unfollowed := true, recurses := true, named := ["barbican/code.of"], apart := false, laid := [("barbican/code.of", laid_barbican_code_of)], narrowed := true }
def MachRunsUptoSaid : Prop := machRunsUptoRow.holds Tryd.pinned (OpenSpec.upto machRunsSpec)

/-- 'barbicankeep.MachineLoops', WHERE WHAT IT READS IS OF BULK AT MOST 1048576: true; the input reads as it did. -/
def machineLoopsUptoRow : OpenClaim := { program := "ytencdcmbfeeekaadoor", sum := "fb5d6088fc02959ecfc53fbad46c3fe266089e2caf8a7be8058891e45793b3f8", func := "barbican/barbicankeep.MachineLoops", spec := "machineLoops", unfollowed := true, recurses := true, named := ["barbican/code.of"], apart := false, laid := [("barbican/code.of", laid_barbican_code_of)], narrowed := true }
def MachineLoopsUptoSaid : Prop := machineLoopsUptoRow.holds Tryd.pinned (OpenSpec.upto machineLoopsSpec)

/-- 'barbicankeep.MachineDoes', WHERE WHAT IT READS IS OF BULK AT MOST 1048576: true; the input reads as it did. -/
def machineDoesUptoRow : OpenClaim := { program := "ytencdcmbfeeekaadoor", sum := "fb5d6088fc02959ecfc53fbad46c3fe266089e2caf8a7be8058891e45793b3f8", func := "barbican/barbicankeep.MachineDoes", spec := "machineDoes", unfollowed := true, recurses := true, named := ["barbican/code.of"], apart := false, laid := [("barbican/code.of", laid_barbican_code_of)], narrowed := true }
def MachineDoesUptoSaid : Prop := machineDoesUptoRow.holds Tryd.pinned (OpenSpec.upto machineDoesSpec)

/-- 'barbicankeep.MachineWalls', WHERE WHAT IT READS IS OF BULK AT MOST 1048576: true; the input reads as it did. -/
def machineWallsUptoRow : OpenClaim := { program := "ytencdcmbfeeekaadoor", sum := "fb5d6088fc02959ecfc53fbad46c3fe266089e2caf8a7be8058891e45793b3f8", func := "barbican/barbicankeep.MachineWalls", spec := "machineWalls", unfollowed := true, recurses := true, named := ["barbican/code.of"], apart := false, laid := [("barbican/code.of", laid_barbican_code_of)], narrowed := true }
def MachineWallsUptoSaid : Prop := machineWallsUptoRow.holds Tryd.pinned (OpenSpec.upto machineWallsSpec)

end Rows
end Go.Proofs.YtencdcmbfeeekaaDoor
