/-
  NARROWER THAN 'FOR EVERY INPUT', by the rows' own cells (each row's printed sentence says how): EvalChecks: loops · LinkData: loops · EvalCalls: loops · FoldMeans: loops.
  DERIVED. THE GIVEN ROWS OF THIS SEAT. 5 by the template 'for every input the law returns true; each argument reads behind the call as it read before'; 0 by the template 'total and deterministic' (their statements: YtibhhcncefkoiaaTotals.lean).
  GIVEN WITH THE SEED: the statements are not yours to turn. If you find one false, say at which input.
  Laid BY PROGRAM, IN A SANDBOX (cutbox-rows.mjs): the forced cells as the released guide's own fill.sh prints them over the translation c08fe3a3960e7201… (all of the seat's roots in one cut). By AI agents, Wed Nov 11 2026. No macro, syntax, notation, axiom, sorry.
-/
import Derived.Test.YtibhhcncefkoiaaChecked
import GoSem.Claim
import GoSem.ClaimJoined
import GoSem.ClaimMapViews
import Derived.JoinedTies
import Derived.KernelRfl
namespace Go.Proofs.Ytibhhcncefkoiaa
/- THE CELL 'sum', in the pinned program and in every row, IS THE sha256 OF THE DUMP (.gsa) THAT YtibhhcncefkoiaaProg.lean LOADS. Nothing in Lean hashes anything: it is a label: what it is worth is what the hold of that sum in a sandbox is worth. -/
noncomputable def Try.pinned : Pinned := { name := "ytibhhcncefkoiaa", sum := "c08fe3a3960e7201c090981bdb3ee2a883dbad31f00b48b70a4c722ffcba7f9a", checked := Try.checked }
namespace Rows
def none {H : Type} : Left H := { results := [], args := [] }

/-- 'barbicanlaw.LinkWith': WHATEVER THE INPUT: true; the input reads as it did. -/
def linkWithSpec : ChangeSpec := { name := "linkWith", fn := fun _ => fun
  | [d1, d2, d3, d4] => { results := [.lit (.bool true)], args := [d1, d2, d3, d4] }
  | _ => none }
def linkWithRow : OpenClaim := { program := "ytibhhcncefkoiaa", sum := "c08fe3a3960e7201c090981bdb3ee2a883dbad31f00b48b70a4c722ffcba7f9a", func := "barbican/barbicanlaw.LinkWith", spec := "linkWith", apart := false }
def LinkWithSaid : Prop := linkWithRow.holds Try.pinned (OpenSpec.ofChange linkWithSpec)

/-- ITS FALSE NEIGHBOUR: 'it returns false'. Refute it at one input. -/
def linkWithWrong : ChangeSpec := { name := "linkWith", fn := fun _ => fun
  | [d1, d2, d3, d4] => { results := [.lit (.bool false)], args := [d1, d2, d3, d4] }
  | _ => none }
def LinkWithWrongFalsely : Prop := linkWithRow.holds Try.pinned (OpenSpec.ofChange linkWithWrong)

/-- 'barbicanlaw.EvalChecks': WHATEVER THE INPUT: true; the input reads as it did. -/
def evalChecksSpec : ChangeSpec := { name := "evalChecks", fn := fun _ => fun
  | [d1, d2] => { results := [.lit (.bool true)], args := [d1, d2] }
  | _ => none }
def evalChecksRow : OpenClaim := { program := "ytibhhcncefkoiaa", sum := "c08fe3a3960e7201c090981bdb3ee2a883dbad31f00b48b70a4c722ffcba7f9a", func := "barbican/barbicanlaw.EvalChecks", spec := "evalChecks", unfollowed := true, recurses := true, loops := true, apart := false }
def EvalChecksSaid : Prop := evalChecksRow.holds Try.pinned (OpenSpec.ofChange evalChecksSpec)

/-- ITS FALSE NEIGHBOUR: 'it returns false'. Refute it at one input. -/
def evalChecksWrong : ChangeSpec := { name := "evalChecks", fn := fun _ => fun
  | [d1, d2] => { results := [.lit (.bool false)], args := [d1, d2] }
  | _ => none }
def EvalChecksWrongFalsely : Prop := evalChecksRow.holds Try.pinned (OpenSpec.ofChange evalChecksWrong)

/-- 'barbicanlaw.LinkData': WHATEVER THE INPUT: true; the input reads as it did. -/
def linkDataSpec : ChangeSpec := { name := "linkData", fn := fun _ => fun
  | [d1, d2] => { results := [.lit (.bool true)], args := [d1, d2] }
  | _ => none }
def linkDataRow : OpenClaim := { program := "ytibhhcncefkoiaa", sum := "c08fe3a3960e7201c090981bdb3ee2a883dbad31f00b48b70a4c722ffcba7f9a", func := "barbican/barbicanlaw.LinkData", spec := "linkData", unfollowed := true, recurses := true, loops := true, apart := false }
def LinkDataSaid : Prop := linkDataRow.holds Try.pinned (OpenSpec.ofChange linkDataSpec)

/-- ITS FALSE NEIGHBOUR: 'it returns false'. Refute it at one input. -/
def linkDataWrong : ChangeSpec := { name := "linkData", fn := fun _ => fun
  | [d1, d2] => { results := [.lit (.bool false)], args := [d1, d2] }
  | _ => none }
def LinkDataWrongFalsely : Prop := linkDataRow.holds Try.pinned (OpenSpec.ofChange linkDataWrong)

/-- 'barbicanlaw.EvalCalls': WHATEVER THE INPUT: true; the input reads as it did. -/
def evalCallsSpec : ChangeSpec := { name := "evalCalls", fn := fun _ => fun
  | [d1, d2, d3, d4, d5, d6, d7] => { results := [.lit (.bool true)], args := [d1, d2, d3, d4, d5, d6, d7] }
  | _ => none }
def evalCallsRow : OpenClaim := { program := "ytibhhcncefkoiaa", sum := "c08fe3a3960e7201c090981bdb3ee2a883dbad31f00b48b70a4c722ffcba7f9a", func := "barbican/barbicanlaw.EvalCalls", spec := "evalCalls", unfollowed := true, recurses := true, loops := true, apart := false }
def EvalCallsSaid : Prop := evalCallsRow.holds Try.pinned (OpenSpec.ofChange evalCallsSpec)

/-- ITS FALSE NEIGHBOUR: 'it returns false'. Refute it at one input. -/
def evalCallsWrong : ChangeSpec := { name := "evalCalls", fn := fun _ => fun
  | [d1, d2, d3, d4, d5, d6, d7] => { results := [.lit (.bool false)], args := [d1, d2, d3, d4, d5, d6, d7] }
  | _ => none }
def EvalCallsWrongFalsely : Prop := evalCallsRow.holds Try.pinned (OpenSpec.ofChange evalCallsWrong)

/-- 'barbicanlaw.FoldMeans': WHATEVER THE INPUT: true; the input reads as it did. -/
def foldMeansSpec : ChangeSpec := { name := "foldMeans", fn := fun _ => fun
  | [d1, d2, d3, d4, d5, d6, d7] => { results := [.lit (.bool true)], args := [d1, d2, d3, d4, d5, d6, d7] }
  | _ => none }
def foldMeansRow : OpenClaim := { program := "ytibhhcncefkoiaa", sum := "c08fe3a3960e7201c090981bdb3ee2a883dbad31f00b48b70a4c722ffcba7f9a", func := "barbican/barbicanlaw.FoldMeans", spec := "foldMeans", unfollowed := true, recurses := true, loops := true, apart := false }
def FoldMeansSaid : Prop := foldMeansRow.holds Try.pinned (OpenSpec.ofChange foldMeansSpec)

/-- ITS FALSE NEIGHBOUR: 'it returns false'. Refute it at one input. -/
def foldMeansWrong : ChangeSpec := { name := "foldMeans", fn := fun _ => fun
  | [d1, d2, d3, d4, d5, d6, d7] => { results := [.lit (.bool false)], args := [d1, d2, d3, d4, d5, d6, d7] }
  | _ => none }
def FoldMeansWrongFalsely : Prop := foldMeansRow.holds Try.pinned (OpenSpec.ofChange foldMeansWrong)

/- THE SECOND FORM. 'bulk': how many values and letters a reading holds, each counted each time it is reached (what is shared counts as often as it is met; a slice's spare places count too). A statement '..UptoSaid' is the law's where the arguments, and the package variables that the reading takes, are together of bulk at most 1048576: NARROWER than '..Said'. Prove '..Said' where nothing that the law and all that it calls make is longer than what came in: it says more and counts as full. Else prove '..UptoSaid'. A law counts once. -/
mutual
def uptoBulk {H : Type} : DataW H → Nat
  | .lit (.string bytes) => bytes.length + 1
  | .lit _ => 1
  | .nil => 1
  | .ptr d => uptoBulk d + 1
  | .slice elems spare => uptoBulkAll elems + uptoBulkAll spare + 1
  | .agg parts => uptoBulkAll parts + 1
  | .iface _ d => uptoBulk d + 1
  | .map entries => uptoBulkEntries entries + 1
  | .held _ => 1
def uptoBulkAll {H : Type} : List (DataW H) → Nat
  | [] => 0
  | d :: r => uptoBulk d + uptoBulkAll r
def uptoBulkEntries {H : Type} : List (Lit × DataW H) → Nat
  | [] => 0
  | x :: r => uptoBulkEntry x + uptoBulkEntries r
def uptoBulkEntry {H : Type} : Lit × DataW H → Nat
  | (.string bytes, d) => bytes.length + uptoBulk d + 1
  | (_, d) => uptoBulk d + 1
 end
def uptoSmall : (H : Type) → List (DataW H) → Bool := fun _ ds => decide (uptoBulkAll ds ≤ 1048576)
def OpenSpec.upto (s : _root_.Go.ChangeSpec) : _root_.Go.OpenSpec := { _root_.Go.OpenSpec.ofChange s with cond := some uptoSmall }

/-- 'barbicanlaw.LinkWith', WHERE WHAT IT READS IS OF BULK AT MOST 1048576: true; the input reads as it did. -/
def linkWithUptoRow : OpenClaim := { program := "ytibhhcncefkoiaa", sum := "c08fe3a3960e7201c090981bdb3ee2a883dbad31f00b48b70a4c722ffcba7f9a", func := "barbican/barbicanlaw.LinkWith", spec := "linkWith", apart := false, narrowed := true }
def LinkWithUptoSaid : Prop := linkWithUptoRow.holds Try.pinned (OpenSpec.upto linkWithSpec)

/-- 'barbicanlaw.EvalChecks', WHERE WHAT IT READS IS OF BULK AT MOST 1048576: true; the input reads as it did. -/
def evalChecksUptoRow : OpenClaim := { program := "ytibhhcncefkoiaa", sum := "c08fe3a3960e7201c090981bdb3ee2a883dbad31f00b48b70a4c722ffcba7f9a", func := "barbican/barbicanlaw.EvalChecks", spec := "evalChecks", unfollowed := true, recurses := true, loops := true, apart := false, narrowed := true }
def EvalChecksUptoSaid : Prop := evalChecksUptoRow.holds Try.pinned (OpenSpec.upto evalChecksSpec)

/-- 'barbicanlaw.LinkData', WHERE WHAT IT READS IS OF BULK AT MOST 1048576: true; the input reads as it did. -/
def linkDataUptoRow : OpenClaim := { program := "ytibhhcncefkoiaa", sum := "c08fe3a3960e7201c090981bdb3ee2a883dbad31f00b48b70a4c722ffcba7f9a", func := "barbican/barbicanlaw.LinkData", spec := "linkData", unfollowed := true, recurses := true, loops := true, apart := false, narrowed := true }
def LinkDataUptoSaid : Prop := linkDataUptoRow.holds Try.pinned (OpenSpec.upto linkDataSpec)

/-- 'barbicanlaw.EvalCalls', WHERE WHAT IT READS IS OF BULK AT MOST 1048576: true; the input reads as it did. -/
def evalCallsUptoRow : OpenClaim := { program := "ytibhhcncefkoiaa", sum := "c08fe3a3960e7201c090981bdb3ee2a883dbad31f00b48b70a4c722ffcba7f9a", func := "barbican/barbicanlaw.EvalCalls", spec := "evalCalls", unfollowed := true, recurses := true, loops := true, apart := false, narrowed := true }
def EvalCallsUptoSaid : Prop := evalCallsUptoRow.holds Try.pinned (OpenSpec.upto evalCallsSpec)

/-- 'barbicanlaw.FoldMeans', WHERE WHAT IT READS IS OF BULK AT MOST 1048576: true; the input reads as it did. -/
def foldMeansUptoRow : OpenClaim := { program := "ytibhhcncefkoiaa", sum := "c08fe3a3960e7201c090981bdb3ee2a883dbad31f00b48b70a4c722ffcba7f9a", func := "barbican/barbicanlaw.FoldMeans", spec := "foldMeans", unfollowed := true, recurses := true, loops := true, apart := false, narrowed := true }
def FoldMeansUptoSaid : Prop := foldMeansUptoRow.holds Try.pinned (OpenSpec.upto foldMeansSpec)

end Rows
end Go.Proofs.Ytibhhcncefkoiaa
