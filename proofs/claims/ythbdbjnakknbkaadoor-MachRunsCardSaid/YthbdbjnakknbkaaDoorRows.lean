/-
  NARROWER THAN 'FOR EVERY INPUT', by the rows' own cells (each row's printed sentence says how): CodeBack: laid · StoresLoad: laid · MachRuns: laid · MachineLoops: laid · MachineDoes: laid · MachineWalls: laid · TokenNumbers: laid · TokenCuts: laid · TreeShows: loops, laid.
  DERIVED. THE GIVEN ROWS OF THIS SEAT. 9 by the template 'for every input the law returns true; each argument reads behind the call as it read before'; 0 by the template 'total and deterministic' (their statements: YthbdbjnakknbkaaDoorTotals.lean).
  GIVEN WITH THE SEED: the statements are not yours to turn. If you find one false, say at which input.
  Laid BY PROGRAM, IN A SANDBOX (cutbox-rows.mjs): the forced cells as the released guide's own fill.sh prints them over the translation 25cb0ddaf122cca1… (all of the seat's roots in one cut). By AI agents, Wed Nov 11 2026. No macro, syntax, notation, axiom, sorry.
-/
import Derived.Test.YthbdbjnakknbkaaDoorChecked
import GoSem.PinnedTables
import GoSem.Claim
import GoSem.ClaimJoined
import GoSem.ClaimMapViews
import Derived.JoinedTies
import Derived.KernelRfl
namespace Go.Proofs.YthbdbjnakknbkaaDoor
/- THE CELL 'sum', in the pinned program and in every row, IS THE sha256 OF THE DUMP (.gsa) THAT YthbdbjnakknbkaaDoorProg.lean LOADS. Nothing in Lean hashes anything: it is a label: what it is worth is what the hold of that sum in a sandbox is worth. -/
noncomputable def Tryd.pinned : Pinned := { name := "ythbdbjnakknbkaadoor", sum := "25cb0ddaf122cca1f3200e3a1daa1578ac16f1d04683846317669ddb7c82cf7a", checked := Tryd.checked }
namespace Rows
def none {H : Type} : Left H := { results := [], args := [] }

/- WHAT THE LISTED PACKAGE-LEVEL VARIABLES READ AS WHEN THE CALL BEGINS. Each datum BY PROGRAM (the guide's laid-datum.mjs) off the statement by which the dump's own 'gosem.cut.vars' lays the variable. In a bare row this is a premise. The card (YthbdbjnakknbkaaDoorCards.lean) ties it to the program's text. -/
def laid_barbican_code_of {H : Type} : DataW H := .agg [.agg [.lit (.int .i64 0), .lit (.int .i64 0), .lit (.int .i64 0)], .agg [.lit (.int .i64 65535), .lit (.int .i64 0), .lit (.int .i64 0)], .agg [.lit (.int .i64 0), .lit (.int .i64 0), .lit (.int .i64 0)], .agg [.lit (.int .i64 0), .lit (.int .i64 0), .lit (.int .i64 0)], .agg [.lit (.int .i64 7), .lit (.int .i64 0), .lit (.int .i64 0)], .agg [.lit (.int .i64 7), .lit (.int .i64 0), .lit (.int .i64 0)], .agg [.lit (.int .i64 0), .lit (.int .i64 0), .lit (.int .i64 0)], .agg [.lit (.int .i64 0), .lit (.int .i64 0), .lit (.int .i64 0)], .agg [.lit (.int .i64 10), .lit (.int .i64 0), .lit (.int .i64 0)], .agg [.lit (.int .i64 1199), .lit (.int .i64 0), .lit (.int .i64 0)], .agg [.lit (.int .i64 1199), .lit (.int .i64 0), .lit (.int .i64 0)], .agg [.lit (.int .i64 1199), .lit (.int .i64 4), .lit (.int .i64 0)], .agg [.lit (.int .i64 4), .lit (.int .i64 7), .lit (.int .i64 4)], .agg [.lit (.int .i64 0), .lit (.int .i64 0), .lit (.int .i64 0)], .agg [.lit (.int .i64 0), .lit (.int .i64 0), .lit (.int .i64 0)], .agg [.lit (.int .i64 0), .lit (.int .i64 0), .lit (.int .i64 0)]]
def laid_math_bits_deBruijn32tab {H : Type} : DataW H := .agg [.lit (.int .u8 0), .lit (.int .u8 1), .lit (.int .u8 28), .lit (.int .u8 2), .lit (.int .u8 29), .lit (.int .u8 14), .lit (.int .u8 24), .lit (.int .u8 3), .lit (.int .u8 30), .lit (.int .u8 22), .lit (.int .u8 20), .lit (.int .u8 15), .lit (.int .u8 25), .lit (.int .u8 17), .lit (.int .u8 4), .lit (.int .u8 8), .lit (.int .u8 31), .lit (.int .u8 27), .lit (.int .u8 13), .lit (.int .u8 23), .lit (.int .u8 21), .lit (.int .u8 19), .lit (.int .u8 16), .lit (.int .u8 7), .lit (.int .u8 26), .lit (.int .u8 12), .lit (.int .u8 18), .lit (.int .u8 6), .lit (.int .u8 11), .lit (.int .u8 5), .lit (.int .u8 10), .lit (.int .u8 9)]
def laid_math_bits_deBruijn64tab {H : Type} : DataW H := .agg [.lit (.int .u8 0), .lit (.int .u8 1), .lit (.int .u8 56), .lit (.int .u8 2), .lit (.int .u8 57), .lit (.int .u8 49), .lit (.int .u8 28), .lit (.int .u8 3), .lit (.int .u8 61), .lit (.int .u8 58), .lit (.int .u8 42), .lit (.int .u8 50), .lit (.int .u8 38), .lit (.int .u8 29), .lit (.int .u8 17), .lit (.int .u8 4), .lit (.int .u8 62), .lit (.int .u8 47), .lit (.int .u8 59), .lit (.int .u8 36), .lit (.int .u8 45), .lit (.int .u8 43), .lit (.int .u8 51), .lit (.int .u8 22), .lit (.int .u8 53), .lit (.int .u8 39), .lit (.int .u8 33), .lit (.int .u8 30), .lit (.int .u8 24), .lit (.int .u8 18), .lit (.int .u8 12), .lit (.int .u8 5), .lit (.int .u8 63), .lit (.int .u8 55), .lit (.int .u8 48), .lit (.int .u8 27), .lit (.int .u8 60), .lit (.int .u8 41), .lit (.int .u8 37), .lit (.int .u8 16), .lit (.int .u8 46), .lit (.int .u8 35), .lit (.int .u8 44), .lit (.int .u8 21), .lit (.int .u8 52), .lit (.int .u8 32), .lit (.int .u8 23), .lit (.int .u8 11), .lit (.int .u8 54), .lit (.int .u8 26), .lit (.int .u8 40), .lit (.int .u8 15), .lit (.int .u8 34), .lit (.int .u8 20), .lit (.int .u8 31), .lit (.int .u8 10), .lit (.int .u8 25), .lit (.int .u8 14), .lit (.int .u8 19), .lit (.int .u8 9), .lit (.int .u8 13), .lit (.int .u8 8), .lit (.int .u8 7), .lit (.int .u8 6)]
def laid_internal_strconv_uint64pow10 {H : Type} : DataW H := .agg [.lit (.int .u64 1), .lit (.int .u64 10), .lit (.int .u64 100), .lit (.int .u64 1000), .lit (.int .u64 10000), .lit (.int .u64 100000), .lit (.int .u64 1000000), .lit (.int .u64 10000000), .lit (.int .u64 100000000), .lit (.int .u64 1000000000), .lit (.int .u64 10000000000), .lit (.int .u64 100000000000), .lit (.int .u64 1000000000000), .lit (.int .u64 10000000000000), .lit (.int .u64 100000000000000), .lit (.int .u64 1000000000000000), .lit (.int .u64 10000000000000000), .lit (.int .u64 100000000000000000), .lit (.int .u64 1000000000000000000), .lit (.int .u64 10000000000000000000)]
def laid_strconv_ErrRange {H : Type} : DataW H := .iface "*errors.errorString" (.ptr (.agg [.lit (.string [118, 97, 108, 117, 101, 32, 111, 117, 116, 32, 111, 102, 32, 114, 97, 110, 103, 101])]))
def laid_strconv_ErrSyntax {H : Type} : DataW H := .iface "*errors.errorString" (.ptr (.agg [.lit (.string [105, 110, 118, 97, 108, 105, 100, 32, 115, 121, 110, 116, 97, 120])]))
def laid_unicode_utf8_acceptRanges {H : Type} : DataW H := .agg [.agg [.lit (.int .u8 128), .lit (.int .u8 191)], .agg [.lit (.int .u8 160), .lit (.int .u8 191)], .agg [.lit (.int .u8 128), .lit (.int .u8 159)], .agg [.lit (.int .u8 144), .lit (.int .u8 191)], .agg [.lit (.int .u8 128), .lit (.int .u8 143)], .agg [.lit (.int .u8 0), .lit (.int .u8 0)], .agg [.lit (.int .u8 0), .lit (.int .u8 0)], .agg [.lit (.int .u8 0), .lit (.int .u8 0)], .agg [.lit (.int .u8 0), .lit (.int .u8 0)], .agg [.lit (.int .u8 0), .lit (.int .u8 0)], .agg [.lit (.int .u8 0), .lit (.int .u8 0)], .agg [.lit (.int .u8 0), .lit (.int .u8 0)], .agg [.lit (.int .u8 0), .lit (.int .u8 0)], .agg [.lit (.int .u8 0), .lit (.int .u8 0)], .agg [.lit (.int .u8 0), .lit (.int .u8 0)], .agg [.lit (.int .u8 0), .lit (.int .u8 0)]]
/-- One of Go's own tables, pinned by name: the form's constant. -/
def laid_unicode_utf8_first : DataW Unit := Go.Pinned.utf8First
def laid_barbican_tree_ops {H : Type} : DataW H := .agg [.lit (.string []), .lit (.string [43]), .lit (.string [45]), .lit (.string [42]), .lit (.string [38]), .lit (.string [124]), .lit (.string [94]), .lit (.string [60]), .lit (.string [61, 61]), .lit (.string [60, 60]), .lit (.string [62, 62])]

/-- 'barbicankeep.CodeBack': WHATEVER THE INPUT: true; the input reads as it did. -/
def codeBackSpec : ChangeSpec := { name := "codeBack", fn := fun _ => fun
  | [d1, d2] => { results := [.lit (.bool true)], args := [d1, d2] }
  | _ => none }
def codeBackRow : OpenClaim := { program := "ythbdbjnakknbkaadoor", sum := "25cb0ddaf122cca1f3200e3a1daa1578ac16f1d04683846317669ddb7c82cf7a", func := "barbican/barbicankeep.CodeBack", spec := "codeBack", named := ["barbican/code.of"], apart := false, laid := [("barbican/code.of", laid_barbican_code_of)] }
def CodeBackSaid : Prop := codeBackRow.holds Tryd.pinned (OpenSpec.ofChange codeBackSpec)

/-- ITS FALSE NEIGHBOUR: 'it returns false'. Refute it at one input. -/
def codeBackWrong : ChangeSpec := { name := "codeBack", fn := fun _ => fun
  | [d1, d2] => { results := [.lit (.bool false)], args := [d1, d2] }
  | _ => none }
def CodeBackWrongFalsely : Prop := codeBackRow.holds Tryd.pinned (OpenSpec.ofChange codeBackWrong)

/-- 'barbicankeep.StoresLoad': WHATEVER THE INPUT: true; the input reads as it did. -/
def storesLoadSpec : ChangeSpec := { name := "storesLoad", fn := fun _ => fun
  | [d1, d2, d3] => { results := [.lit (.bool true)], args := [d1, d2, d3] }
  | _ => none }
def storesLoadRow : OpenClaim := { program := "ythbdbjnakknbkaadoor", sum := "25cb0ddaf122cca1f3200e3a1daa1578ac16f1d04683846317669ddb7c82cf7a", func := "barbican/barbicankeep.StoresLoad", spec := "storesLoad", unfollowed := true, recurses := true, named := ["barbican/code.of"], apart := false, laid := [("barbican/code.of", laid_barbican_code_of)] }
def StoresLoadSaid : Prop := storesLoadRow.holds Tryd.pinned (OpenSpec.ofChange storesLoadSpec)

/-- ITS FALSE NEIGHBOUR: 'it returns false'. Refute it at one input. -/
def storesLoadWrong : ChangeSpec := { name := "storesLoad", fn := fun _ => fun
  | [d1, d2, d3] => { results := [.lit (.bool false)], args := [d1, d2, d3] }
  | _ => none }
def StoresLoadWrongFalsely : Prop := storesLoadRow.holds Tryd.pinned (OpenSpec.ofChange storesLoadWrong)

/-- 'barbicanlaw.MachRuns': WHATEVER THE INPUT: true; the input reads as it did. -/
def machRunsSpec : ChangeSpec := { name := "machRuns", fn := fun _ => fun
  | [d1, d2, d3, d4, d5, d6] => { results := [.lit (.bool true)], args := [d1, d2, d3, d4, d5, d6] }
  | _ => none }
def machRunsRow : OpenClaim := { program := "ythbdbjnakknbkaadoor", sum := "25cb0ddaf122cca1f3200e3a1daa1578ac16f1d04683846317669ddb7c82cf7a", func := "barbican/barbicanlaw.MachRuns", spec := "machRuns", unfollowed := true, recurses := true, named := ["barbican/code.of"], apart := false, laid := [("barbican/code.of", laid_barbican_code_of)] }
def MachRunsSaid : Prop := machRunsRow.holds Tryd.pinned (OpenSpec.ofChange machRunsSpec)

/-- ITS FALSE NEIGHBOUR: 'it returns false'. Refute it at one input. -/
def machRunsWrong : ChangeSpec := { name := "machRuns", fn := fun _ => fun
  | [d1, d2, d3, d4, d5, d6] => { results := [.lit (.bool false)], args := [d1, d2, d3, d4, d5, d6] }
  | _ => none }
def MachRunsWrongFalsely : Prop := machRunsRow.holds Tryd.pinned (OpenSpec.ofChange machRunsWrong)

/-- 'barbicankeep.MachineLoops': WHATEVER THE INPUT: true; the input reads as it did. -/
def machineLoopsSpec : ChangeSpec := { name := "machineLoops", fn := fun _ => fun
  | [d1, d2] => { results := [.lit (.bool true)], args := [d1, d2] }
  | _ => none }
def machineLoopsRow : OpenClaim := { program := "ythbdbjnakknbkaadoor", sum := "25cb0ddaf122cca1f3200e3a1daa1578ac16f1d04683846317669ddb7c82cf7a", func := "barbican/barbicankeep.MachineLoops", spec := "machineLoops", unfollowed := true, recurses := true, named := ["barbican/code.of"], apart := false, laid := [("barbican/code.of", laid_barbican_code_of)] }
def MachineLoopsSaid : Prop := machineLoopsRow.holds Tryd.pinned (OpenSpec.ofChange machineLoopsSpec)

/-- ITS FALSE NEIGHBOUR: 'it returns false'. Refute it at one input. -/
def machineLoopsWrong : ChangeSpec := { name := "machineLoops", fn := fun _ => fun
  | [d1, d2] => { results := [.lit (.bool false)], args := [d1, d2] }
  | _ => none }
def MachineLoopsWrongFalsely : Prop := machineLoopsRow.holds Tryd.pinned (OpenSpec.ofChange machineLoopsWrong)

/-- 'barbicankeep.MachineDoes': WHATEVER THE INPUT: true; the input reads as it did. -/
def machineDoesSpec : ChangeSpec := { name := "machineDoes", fn := fun _ => fun
  | [d1, d2, d3] => { results := [.lit (.bool true)], args := [d1, d2, d3] }
  | _ => none }
def machineDoesRow : OpenClaim := { program := "ythbdbjnakknbkaadoor", sum := "25cb0ddaf122cca1f3200e3a1daa1578ac16f1d04683846317669ddb7c82cf7a", func := "barbican/barbicankeep.MachineDoes", spec := "machineDoes", unfollowed := true, recurses := true, named := ["barbican/code.of"], apart := false, laid := [("barbican/code.of", laid_barbican_code_of)] }
def MachineDoesSaid : Prop := machineDoesRow.holds Tryd.pinned (OpenSpec.ofChange machineDoesSpec)

/-- ITS FALSE NEIGHBOUR: 'it returns false'. Refute it at one input. -/
def machineDoesWrong : ChangeSpec := { name := "machineDoes", fn := fun _ => fun
  | [d1, d2, d3] => { results := [.lit (.bool false)], args := [d1, d2, d3] }
  | _ => none }
def MachineDoesWrongFalsely : Prop := machineDoesRow.holds Tryd.pinned (OpenSpec.ofChange machineDoesWrong)

/-- 'barbicankeep.MachineWalls': WHATEVER THE INPUT: true; the input reads as it did. -/
def machineWallsSpec : ChangeSpec := { name := "machineWalls", fn := fun _ => fun
  | [d1, d2] => { results := [.lit (.bool true)], args := [d1, d2] }
  | _ => none }
def machineWallsRow : OpenClaim := { program := "ythbdbjnakknbkaadoor", sum := "25cb0ddaf122cca1f3200e3a1daa1578ac16f1d04683846317669ddb7c82cf7a", func := "barbican/barbicankeep.MachineWalls", spec := "machineWalls", unfollowed := true, recurses := true, named := ["barbican/code.of"], apart := false, laid := [("barbican/code.of", laid_barbican_code_of)] }
def MachineWallsSaid : Prop := machineWallsRow.holds Tryd.pinned (OpenSpec.ofChange machineWallsSpec)

/-- ITS FALSE NEIGHBOUR: 'it returns false'. Refute it at one input. -/
def machineWallsWrong : ChangeSpec := { name := "machineWalls", fn := fun _ => fun
  | [d1, d2] => { results := [.lit (.bool false)], args := [d1, d2] }
  | _ => none }
def MachineWallsWrongFalsely : Prop := machineWallsRow.holds Tryd.pinned (OpenSpec.ofChange machineWallsWrong)

/-- 'barbicanlaw.TokenNumbers': WHATEVER THE INPUT: true; the input reads as it did. -/
def tokenNumbersSpec : ChangeSpec := { name := "tokenNumbers", fn := fun _ => fun
  | [d] => { results := [.lit (.bool true)], args := [d] }
  | _ => none }
def tokenNumbersRow : OpenClaim := { program := "ythbdbjnakknbkaadoor", sum := "25cb0ddaf122cca1f3200e3a1daa1578ac16f1d04683846317669ddb7c82cf7a", func := "barbican/barbicanlaw.TokenNumbers", spec := "tokenNumbers", named := ["strconv.ErrSyntax", "strconv.ErrRange", "internal/strconv.uint64pow10", "math/bits.deBruijn32tab", "math/bits.deBruijn64tab"], apart := false, laid := [("math/bits.deBruijn32tab", laid_math_bits_deBruijn32tab), ("math/bits.deBruijn64tab", laid_math_bits_deBruijn64tab), ("internal/strconv.uint64pow10", laid_internal_strconv_uint64pow10), ("strconv.ErrRange", laid_strconv_ErrRange), ("strconv.ErrSyntax", laid_strconv_ErrSyntax)] }
def TokenNumbersSaid : Prop := tokenNumbersRow.holds Tryd.pinned (OpenSpec.ofChange tokenNumbersSpec)

/-- ITS FALSE NEIGHBOUR: 'it returns false'. Refute it at one input. -/
def tokenNumbersWrong : ChangeSpec := { name := "tokenNumbers", fn := fun _ => fun
  | [d] => { results := [.lit (.bool false)], args := [d] }
  | _ => none }
def TokenNumbersWrongFalsely : Prop := tokenNumbersRow.holds Tryd.pinned (OpenSpec.ofChange tokenNumbersWrong)

/-- 'barbicanlaw.TokenCuts': WHATEVER THE INPUT: true; the input reads as it did. -/
def tokenCutsSpec : ChangeSpec := { name := "tokenCuts", fn := fun _ => fun
  | [d] => { results := [.lit (.bool true)], args := [d] }
  | _ => none }
def tokenCutsRow : OpenClaim := { program := "ythbdbjnakknbkaadoor", sum := "25cb0ddaf122cca1f3200e3a1daa1578ac16f1d04683846317669ddb7c82cf7a", func := "barbican/barbicanlaw.TokenCuts", spec := "tokenCuts", inPlace := ["internal/bytealg.IndexByteString", "internal/bytealg.IndexString"], unfollowed := true, recurses := true, named := ["strconv.ErrSyntax", "strconv.ErrRange", "internal/strconv.uint64pow10", "math/bits.deBruijn32tab", "math/bits.deBruijn64tab", "unicode/utf8.first", "unicode/utf8.acceptRanges", "internal/bytealg.MaxLen"], apart := false, laid := [("math/bits.deBruijn32tab", laid_math_bits_deBruijn32tab), ("math/bits.deBruijn64tab", laid_math_bits_deBruijn64tab), ("internal/strconv.uint64pow10", laid_internal_strconv_uint64pow10), ("unicode/utf8.acceptRanges", laid_unicode_utf8_acceptRanges), ("strconv.ErrRange", laid_strconv_ErrRange), ("strconv.ErrSyntax", laid_strconv_ErrSyntax), ("unicode/utf8.first", laid_unicode_utf8_first)] }
def TokenCutsSaid : Prop := tokenCutsRow.holds Tryd.pinned (OpenSpec.ofChange tokenCutsSpec)

/-- ITS FALSE NEIGHBOUR: 'it returns false'. Refute it at one input. -/
def tokenCutsWrong : ChangeSpec := { name := "tokenCuts", fn := fun _ => fun
  | [d] => { results := [.lit (.bool false)], args := [d] }
  | _ => none }
def TokenCutsWrongFalsely : Prop := tokenCutsRow.holds Tryd.pinned (OpenSpec.ofChange tokenCutsWrong)

/-- 'barbicanlaw.TreeShows': WHATEVER THE INPUT: true; the input reads as it did. -/
def treeShowsSpec : ChangeSpec := { name := "treeShows", fn := fun _ => fun
  | [d] => { results := [.lit (.bool true)], args := [d] }
  | _ => none }
def treeShowsRow : OpenClaim := { program := "ythbdbjnakknbkaadoor", sum := "25cb0ddaf122cca1f3200e3a1daa1578ac16f1d04683846317669ddb7c82cf7a", func := "barbican/barbicanlaw.TreeShows", spec := "treeShows", inPlace := ["internal/abi.NoEscape", "internal/bytealg.MakeNoZero"], unfollowed := true, recurses := true, named := ["internal/strconv.uint64pow10", "math/bits.deBruijn32tab", "math/bits.deBruijn64tab", "barbican/tree.ops"], loops := true, apart := false, laid := [("math/bits.deBruijn32tab", laid_math_bits_deBruijn32tab), ("math/bits.deBruijn64tab", laid_math_bits_deBruijn64tab), ("internal/strconv.uint64pow10", laid_internal_strconv_uint64pow10), ("barbican/tree.ops", laid_barbican_tree_ops)] }
def TreeShowsSaid : Prop := treeShowsRow.holds Tryd.pinned (OpenSpec.ofChange treeShowsSpec)

/-- ITS FALSE NEIGHBOUR: 'it returns false'. Refute it at one input. -/
def treeShowsWrong : ChangeSpec := { name := "treeShows", fn := fun _ => fun
  | [d] => { results := [.lit (.bool false)], args := [d] }
  | _ => none }
def TreeShowsWrongFalsely : Prop := treeShowsRow.holds Tryd.pinned (OpenSpec.ofChange treeShowsWrong)

/- THE SECOND FORM. 'bulk': how many values and letters a reading holds, each counted each time it is reached (what is shared counts as often as it is met; a slice's spare places count too). A statement '..UptoSaid' is the law's where the arguments, and the package variables that the reading takes, are together of bulk at most 1048576: NARROWER than '..Said'. Prove '..Said' where nothing that the law and all that it calls make is longer than what came in: it says more and counts as full. Else prove '..UptoSaid'. A law counts once. -/
mutual
def uptoBulk {H : Type} : DataW H → Nat
  | .lit (.string bytes) => bytes.length + 1
  | .lit _ => 1
  | .nil => 1
  | .ptr d => uptoBulk d + 1
  | .slice elems spare => uptoBulkAll elems + uptoBulkAll spare + 1
  | .agg parts => uptoBulkAll parts + 1
  | .iface _ d => uptoBulk d + 1
  | .map entries => uptoBulkEntries entries + 1
  | .held _ => 1
def uptoBulkAll {H : Type} : List (DataW H) → Nat
  | [] => 0
  | d :: r => uptoBulk d + uptoBulkAll r
def uptoBulkEntries {H : Type} : List (Lit × DataW H) → Nat
  | [] => 0
  | x :: r => uptoBulkEntry x + uptoBulkEntries r
def uptoBulkEntry {H : Type} : Lit × DataW H → Nat
  | (.string bytes, d) => bytes.length + uptoBulk d + 1
  | (_, d) => uptoBulk d + 1
 end
def uptoSmall : (H : Type) → List (DataW H) → Bool := fun _ ds => decide (uptoBulkAll ds ≤ 1048576)
def OpenSpec.upto (s : _root_.Go.ChangeSpec) : _root_.Go.OpenSpec := { _root_.Go.OpenSpec.ofChange s with cond := some uptoSmall }

/-- 'barbicankeep.CodeBack', WHERE WHAT IT READS IS OF BULK AT MOST 1048576: true; the input reads as it did. -/
def codeBackUptoRow : OpenClaim := { program := "ythbdbjnakknbkaadoor", sum := "25cb0ddaf122cca1f3200e3a1daa1578ac16f1d04683846317669ddb7c82cf7a", func := "barbican/barbicankeep.CodeBack", spec := "codeBack", named := ["barbican/code.of"], apart := false, laid := [("barbican/code.of", laid_barbican_code_of)], narrowed := true }
def CodeBackUptoSaid : Prop := codeBackUptoRow.holds Tryd.pinned (OpenSpec.upto codeBackSpec)

/-- 'barbicankeep.StoresLoad', WHERE WHAT IT READS IS OF BULK AT MOST 1048576: true; the input reads as it did. -/
def storesLoadUptoRow : OpenClaim := { program := "ythbdbjnakknbkaadoor", sum := "25cb0ddaf122cca1f3200e3a1daa1578ac16f1d04683846317669ddb7c82cf7a", func := "barbican/barbicankeep.StoresLoad", spec := "storesLoad", unfollowed := true, recurses := true, named := ["barbican/code.of"], apart := false, laid := [("barbican/code.of", laid_barbican_code_of)], narrowed := true }
def StoresLoadUptoSaid : Prop := storesLoadUptoRow.holds Tryd.pinned (OpenSpec.upto storesLoadSpec)

/-- 'barbicanlaw.MachRuns', WHERE WHAT IT READS IS OF BULK AT MOST 1048576: true; the input reads as it did. -/
def machRunsUptoRow : OpenClaim := { program := "ythbdbjnakknbkaadoor", sum := "25cb0ddaf122cca1f3200e3a1daa1578ac16f1d04683846317669ddb7c82cf7a", func := "barbican/barbicanlaw.MachRuns", spec := "machRuns", unfollowed := true, recurses := true, named := ["barbican/code.of"], apart := false, laid := [("barbican/code.of", laid_barbican_code_of)], narrowed := true }
def MachRunsUptoSaid : Prop := machRunsUptoRow.holds Tryd.pinned (OpenSpec.upto machRunsSpec)

/-- 'barbicankeep.MachineLoops', WHERE WHAT IT READS IS OF BULK AT MOST 1048576: true; the input reads as it did. -/
def machineLoopsUptoRow : OpenClaim := { program := "ythbdbjnakknbkaadoor", sum := "25cb0ddaf122cca1f3200e3a1daa1578ac16f1d04683846317669ddb7c82cf7a", func := "barbican/barbicankeep.MachineLoops", spec := "machineLoops", unfollowed := true, recurses := true, named := ["barbican/code.of"], apart := false, laid := [("barbican/code.of", laid_barbican_code_of)], narrowed := true }
def MachineLoopsUptoSaid : Prop := machineLoopsUptoRow.holds Tryd.pinned (OpenSpec.upto machineLoopsSpec)

/-- 'barbicankeep.MachineDoes', WHERE WHAT IT READS IS OF BULK AT MOST 1048576: true; the input reads as it did. -/
def machineDoesUptoRow : OpenClaim := { program := "ythbdbjnakknbkaadoor", sum := "25cb0ddaf122cca1f3200e3a1daa1578ac16f1d04683846317669ddb7c82cf7a", func := "barbican/barbicankeep.MachineDoes", spec := "machineDoes", unfollowed := true, recurses := true, named := ["barbican/code.of"], apart := false, laid := [("barbican/code.of", laid_barbican_code_of)], narrowed := true }
def MachineDoesUptoSaid : Prop := machineDoesUptoRow.holds Tryd.pinned (OpenSpec.upto machineDoesSpec)

/-- 'barbicankeep.MachineWalls', WHERE WHAT IT READS IS OF BULK AT MOST 1048576: true; the input reads as it did. -/
def machineWallsUptoRow : OpenClaim := { program := "ythbdbjnakknbkaadoor", sum := "25cb0ddaf122cca1f3200e3a1daa1578ac16f1d04683846317669ddb7c82cf7a", func := "barbican/barbicankeep.MachineWalls", spec := "machineWalls", unfollowed := true, recurses := true, named := ["barbican/code.of"], apart := false, laid := [("barbican/code.of", laid_barbican_code_of)], narrowed := true }
def MachineWallsUptoSaid : Prop := machineWallsUptoRow.holds Tryd.pinned (OpenSpec.upto machineWallsSpec)

/-- 'barbicanlaw.TokenNumbers', WHERE WHAT IT READS IS OF BULK AT MOST 1048576: true; the input reads as it did. -/
def tokenNumbersUptoRow : OpenClaim := { program := "ythbdbjnakknbkaadoor", sum := "25cb0ddaf122cca1f3200e3a1daa1578ac16f1d04683846317669ddb7c82cf7a", func := "barbican/barbicanlaw.TokenNumbers", spec := "tokenNumbers", named := ["strconv.ErrSyntax", "strconv.ErrRange", "internal/strconv.uint64pow10", "math/bits.deBruijn32tab", "math/bits.deBruijn64tab"], apart := false, laid := [("math/bits.deBruijn32tab", laid_math_bits_deBruijn32tab), ("math/bits.deBruijn64tab", laid_math_bits_deBruijn64tab), ("internal/strconv.uint64pow10", laid_internal_strconv_uint64pow10), ("strconv.ErrRange", laid_strconv_ErrRange), ("strconv.ErrSyntax", laid_strconv_ErrSyntax)], narrowed := true }
def TokenNumbersUptoSaid : Prop := tokenNumbersUptoRow.holds Tryd.pinned (OpenSpec.upto tokenNumbersSpec)

/-- 'barbicanlaw.TokenCuts', WHERE WHAT IT READS IS OF BULK AT MOST 1048576: true; the input reads as it did. -/
def tokenCutsUptoRow : OpenClaim := { program := "ythbdbjnakknbkaadoor", sum := "25cb0ddaf122cca1f3200e3a1daa1578ac16f1d04683846317669ddb7c82cf7a", func := "barbican/barbicanlaw.TokenCuts", spec := "tokenCuts", inPlace := ["internal/bytealg.IndexByteString", "internal/bytealg.IndexString"], unfollowed := true, recurses := true, named := ["strconv.ErrSyntax", "strconv.ErrRange", "internal/strconv.uint64pow10", "math/bits.deBruijn32tab", "math/bits.deBruijn64tab", "unicode/utf8.first", "unicode/utf8.acceptRanges", "internal/bytealg.MaxLen"], apart := false, laid := [("math/bits.deBruijn32tab", laid_math_bits_deBruijn32tab), ("math/bits.deBruijn64tab", laid_math_bits_deBruijn64tab), ("internal/strconv.uint64pow10", laid_internal_strconv_uint64pow10), ("unicode/utf8.acceptRanges", laid_unicode_utf8_acceptRanges), ("strconv.ErrRange", laid_strconv_ErrRange), ("strconv.ErrSyntax", laid_strconv_ErrSyntax), ("unicode/utf8.first", laid_unicode_utf8_first)], narrowed := true }
def TokenCutsUptoSaid : Prop := tokenCutsUptoRow.holds Tryd.pinned (OpenSpec.upto tokenCutsSpec)

/-- 'barbicanlaw.TreeShows', WHERE WHAT IT READS IS OF BULK AT MOST 1048576: true; the input reads as it did. -/
def treeShowsUptoRow : OpenClaim := { program := "ythbdbjnakknbkaadoor", sum := "25cb0ddaf122cca1f3200e3a1daa1578ac16f1d04683846317669ddb7c82cf7a", func := "barbican/barbicanlaw.TreeShows", spec := "treeShows", inPlace := ["internal/abi.NoEscape", "internal/bytealg.MakeNoZero"], unfollowed := true, recurses := true, named := ["internal/strconv.uint64pow10", "math/bits.deBruijn32tab", "math/bits.deBruijn64tab", "barbican/tree.ops"], loops := true, apart := false, laid := [("math/bits.deBruijn32tab", laid_math_bits_deBruijn32tab), ("math/bits.deBruijn64tab", laid_math_bits_deBruijn64tab), ("internal/strconv.uint64pow10", laid_internal_strconv_uint64pow10), ("barbican/tree.ops", laid_barbican_tree_ops)], narrowed := true }
def TreeShowsUptoSaid : Prop := treeShowsUptoRow.holds Tryd.pinned (OpenSpec.upto treeShowsSpec)

end Rows
end Go.Proofs.YthbdbjnakknbkaaDoor
