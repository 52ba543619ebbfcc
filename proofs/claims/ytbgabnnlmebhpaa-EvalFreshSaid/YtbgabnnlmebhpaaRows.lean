/-
  NARROWER THAN 'FOR EVERY INPUT', by the rows' own cells (each row's printed sentence says how): NamesWords: loops · NamesUnits: loops · NamesFuncs: loops · TreeChecks: loops · NamesChecks: loops · EvalFresh: loops · EvalChecks: loops · LinkData: loops · FoldMeans: loops · GenMeans: loops · EvalCalls: loops · LinkMeans: loops.
  DERIVED. THE GIVEN ROWS OF THIS SEAT. 21 by the template 'for every input the law returns true; each argument reads behind the call as it read before'; 0 by the template 'total and deterministic' (their statements: YtbgabnnlmebhpaaTotals.lean).
  GIVEN WITH THE SEED: the statements are not yours to turn. If you find one false, say at which input.
  Laid BY PROGRAM, IN A SANDBOX (cutbox-rows.mjs): the forced cells as the released guide's own fill.sh prints them over the translation d5163b37c5aeeb80… (all of the seat's roots in one cut). By AI agents, Wed Nov 11 2026. No macro, syntax, notation, axiom, sorry.
-/
import Derived.Test.YtbgabnnlmebhpaaChecked
import GoSem.Claim
import GoSem.ClaimJoined
import GoSem.ClaimMapViews
import Derived.JoinedTies
import Derived.KernelRfl
namespace Go.Proofs.Ytbgabnnlmebhpaa
/- THE CELL 'sum', in the pinned program and in every row, IS THE sha256 OF THE DUMP (.gsa) THAT YtbgabnnlmebhpaaProg.lean LOADS. Nothing in Lean hashes anything: it is a label: what it is worth is what the hold of that sum in a sandbox is worth. -/
noncomputable def Try.pinned : Pinned := { name := "ytbgabnnlmebhpaa", sum := "d5163b37c5aeeb803ccf54446a20fa9163375fd342051b2f15a3f44a457ffead", checked := Try.checked }
namespace Rows
def none {H : Type} : Left H := { results := [], args := [] }

/-- 'barbicanlaw.Names': WHATEVER THE INPUT: true; the input reads as it did. -/
def namesSpec : ChangeSpec := { name := "names", fn := fun _ => fun
  | [] => { results := [.lit (.bool true)], args := [] }
  | _ => none }
def namesRow : OpenClaim := { program := "ytbgabnnlmebhpaa", sum := "d5163b37c5aeeb803ccf54446a20fa9163375fd342051b2f15a3f44a457ffead", func := "barbican/barbicanlaw.Names", spec := "names", apart := false }
def NamesSaid : Prop := namesRow.holds Try.pinned (OpenSpec.ofChange namesSpec)

/-- ITS FALSE NEIGHBOUR: 'it returns false'. Refute it at one input. -/
def namesWrong : ChangeSpec := { name := "names", fn := fun _ => fun
  | [] => { results := [.lit (.bool false)], args := [] }
  | _ => none }
def NamesWrongFalsely : Prop := namesRow.holds Try.pinned (OpenSpec.ofChange namesWrong)

/-- 'barbicanlaw.WordIs': WHATEVER THE INPUT: true; the input reads as it did. -/
def wordIsSpec : ChangeSpec := { name := "wordIs", fn := fun _ => fun
  | [d] => { results := [.lit (.bool true)], args := [d] }
  | _ => none }
def wordIsRow : OpenClaim := { program := "ytbgabnnlmebhpaa", sum := "d5163b37c5aeeb803ccf54446a20fa9163375fd342051b2f15a3f44a457ffead", func := "barbican/barbicanlaw.WordIs", spec := "wordIs", apart := false }
def WordIsSaid : Prop := wordIsRow.holds Try.pinned (OpenSpec.ofChange wordIsSpec)

/-- ITS FALSE NEIGHBOUR: 'it returns false'. Refute it at one input. -/
def wordIsWrong : ChangeSpec := { name := "wordIs", fn := fun _ => fun
  | [d] => { results := [.lit (.bool false)], args := [d] }
  | _ => none }
def WordIsWrongFalsely : Prop := wordIsRow.holds Try.pinned (OpenSpec.ofChange wordIsWrong)

/-- 'barbicanlaw.MemWords': WHATEVER THE INPUT: true; the input reads as it did. -/
def memWordsSpec : ChangeSpec := { name := "memWords", fn := fun _ => fun
  | [d] => { results := [.lit (.bool true)], args := [d] }
  | _ => none }
def memWordsRow : OpenClaim := { program := "ytbgabnnlmebhpaa", sum := "d5163b37c5aeeb803ccf54446a20fa9163375fd342051b2f15a3f44a457ffead", func := "barbican/barbicanlaw.MemWords", spec := "memWords", apart := false }
def MemWordsSaid : Prop := memWordsRow.holds Try.pinned (OpenSpec.ofChange memWordsSpec)

/-- ITS FALSE NEIGHBOUR: 'it returns false'. Refute it at one input. -/
def memWordsWrong : ChangeSpec := { name := "memWords", fn := fun _ => fun
  | [d] => { results := [.lit (.bool false)], args := [d] }
  | _ => none }
def MemWordsWrongFalsely : Prop := memWordsRow.holds Try.pinned (OpenSpec.ofChange memWordsWrong)

/-- 'barbicanlaw.NamesWords': WHATEVER THE INPUT: true; the input reads as it did. -/
def namesWordsSpec : ChangeSpec := { name := "namesWords", fn := fun _ => fun
  | [d] => { results := [.lit (.bool true)], args := [d] }
  | _ => none }
def namesWordsRow : OpenClaim := { program := "ytbgabnnlmebhpaa", sum := "d5163b37c5aeeb803ccf54446a20fa9163375fd342051b2f15a3f44a457ffead", func := "barbican/barbicanlaw.NamesWords", spec := "namesWords", recurses := true, loops := true, apart := false }
def NamesWordsSaid : Prop := namesWordsRow.holds Try.pinned (OpenSpec.ofChange namesWordsSpec)

/-- ITS FALSE NEIGHBOUR: 'it returns false'. Refute it at one input. -/
def namesWordsWrong : ChangeSpec := { name := "namesWords", fn := fun _ => fun
  | [d] => { results := [.lit (.bool false)], args := [d] }
  | _ => none }
def NamesWordsWrongFalsely : Prop := namesWordsRow.holds Try.pinned (OpenSpec.ofChange namesWordsWrong)

/-- 'barbicanlaw.LinkWith': WHATEVER THE INPUT: true; the input reads as it did. -/
def linkWithSpec : ChangeSpec := { name := "linkWith", fn := fun _ => fun
  | [d1, d2, d3, d4] => { results := [.lit (.bool true)], args := [d1, d2, d3, d4] }
  | _ => none }
def linkWithRow : OpenClaim := { program := "ytbgabnnlmebhpaa", sum := "d5163b37c5aeeb803ccf54446a20fa9163375fd342051b2f15a3f44a457ffead", func := "barbican/barbicanlaw.LinkWith", spec := "linkWith", apart := false }
def LinkWithSaid : Prop := linkWithRow.holds Try.pinned (OpenSpec.ofChange linkWithSpec)

/-- ITS FALSE NEIGHBOUR: 'it returns false'. Refute it at one input. -/
def linkWithWrong : ChangeSpec := { name := "linkWith", fn := fun _ => fun
  | [d1, d2, d3, d4] => { results := [.lit (.bool false)], args := [d1, d2, d3, d4] }
  | _ => none }
def LinkWithWrongFalsely : Prop := linkWithRow.holds Try.pinned (OpenSpec.ofChange linkWithWrong)

/-- 'barbicanlaw.NamesUnits': WHATEVER THE INPUT: true; the input reads as it did. -/
def namesUnitsSpec : ChangeSpec := { name := "namesUnits", fn := fun _ => fun
  | [d1, d2] => { results := [.lit (.bool true)], args := [d1, d2] }
  | _ => none }
def namesUnitsRow : OpenClaim := { program := "ytbgabnnlmebhpaa", sum := "d5163b37c5aeeb803ccf54446a20fa9163375fd342051b2f15a3f44a457ffead", func := "barbican/barbicanlaw.NamesUnits", spec := "namesUnits", unfollowed := true, recurses := true, loops := true, apart := false }
def NamesUnitsSaid : Prop := namesUnitsRow.holds Try.pinned (OpenSpec.ofChange namesUnitsSpec)

/-- ITS FALSE NEIGHBOUR: 'it returns false'. Refute it at one input. -/
def namesUnitsWrong : ChangeSpec := { name := "namesUnits", fn := fun _ => fun
  | [d1, d2] => { results := [.lit (.bool false)], args := [d1, d2] }
  | _ => none }
def NamesUnitsWrongFalsely : Prop := namesUnitsRow.holds Try.pinned (OpenSpec.ofChange namesUnitsWrong)

/-- 'barbicanlaw.NamesFuncs': WHATEVER THE INPUT: true; the input reads as it did. -/
def namesFuncsSpec : ChangeSpec := { name := "namesFuncs", fn := fun _ => fun
  | [d1, d2] => { results := [.lit (.bool true)], args := [d1, d2] }
  | _ => none }
def namesFuncsRow : OpenClaim := { program := "ytbgabnnlmebhpaa", sum := "d5163b37c5aeeb803ccf54446a20fa9163375fd342051b2f15a3f44a457ffead", func := "barbican/barbicanlaw.NamesFuncs", spec := "namesFuncs", unfollowed := true, recurses := true, loops := true, apart := false }
def NamesFuncsSaid : Prop := namesFuncsRow.holds Try.pinned (OpenSpec.ofChange namesFuncsSpec)

/-- ITS FALSE NEIGHBOUR: 'it returns false'. Refute it at one input. -/
def namesFuncsWrong : ChangeSpec := { name := "namesFuncs", fn := fun _ => fun
  | [d1, d2] => { results := [.lit (.bool false)], args := [d1, d2] }
  | _ => none }
def NamesFuncsWrongFalsely : Prop := namesFuncsRow.holds Try.pinned (OpenSpec.ofChange namesFuncsWrong)

/-- 'barbicanlaw.TokenWords': WHATEVER THE INPUT: true; the input reads as it did. -/
def tokenWordsSpec : ChangeSpec := { name := "tokenWords", fn := fun _ => fun
  | [d] => { results := [.lit (.bool true)], args := [d] }
  | _ => none }
def tokenWordsRow : OpenClaim := { program := "ytbgabnnlmebhpaa", sum := "d5163b37c5aeeb803ccf54446a20fa9163375fd342051b2f15a3f44a457ffead", func := "barbican/barbicanlaw.TokenWords", spec := "tokenWords", unfollowed := true, recurses := true, apart := false }
def TokenWordsSaid : Prop := tokenWordsRow.holds Try.pinned (OpenSpec.ofChange tokenWordsSpec)

/-- ITS FALSE NEIGHBOUR: 'it returns false'. Refute it at one input. -/
def tokenWordsWrong : ChangeSpec := { name := "tokenWords", fn := fun _ => fun
  | [d] => { results := [.lit (.bool false)], args := [d] }
  | _ => none }
def TokenWordsWrongFalsely : Prop := tokenWordsRow.holds Try.pinned (OpenSpec.ofChange tokenWordsWrong)

/-- 'barbicanlaw.EvalCopies': WHATEVER THE INPUT: true; the input reads as it did. -/
def evalCopiesSpec : ChangeSpec := { name := "evalCopies", fn := fun _ => fun
  | [d] => { results := [.lit (.bool true)], args := [d] }
  | _ => none }
def evalCopiesRow : OpenClaim := { program := "ytbgabnnlmebhpaa", sum := "d5163b37c5aeeb803ccf54446a20fa9163375fd342051b2f15a3f44a457ffead", func := "barbican/barbicanlaw.EvalCopies", spec := "evalCopies", apart := false }
def EvalCopiesSaid : Prop := evalCopiesRow.holds Try.pinned (OpenSpec.ofChange evalCopiesSpec)

/-- ITS FALSE NEIGHBOUR: 'it returns false'. Refute it at one input. -/
def evalCopiesWrong : ChangeSpec := { name := "evalCopies", fn := fun _ => fun
  | [d] => { results := [.lit (.bool false)], args := [d] }
  | _ => none }
def EvalCopiesWrongFalsely : Prop := evalCopiesRow.holds Try.pinned (OpenSpec.ofChange evalCopiesWrong)

/-- 'barbicanlaw.TreeIdents': WHATEVER THE INPUT: true; the input reads as it did. -/
def treeIdentsSpec : ChangeSpec := { name := "treeIdents", fn := fun _ => fun
  | [d] => { results := [.lit (.bool true)], args := [d] }
  | _ => none }
def treeIdentsRow : OpenClaim := { program := "ytbgabnnlmebhpaa", sum := "d5163b37c5aeeb803ccf54446a20fa9163375fd342051b2f15a3f44a457ffead", func := "barbican/barbicanlaw.TreeIdents", spec := "treeIdents", unfollowed := true, recurses := true, apart := false }
def TreeIdentsSaid : Prop := treeIdentsRow.holds Try.pinned (OpenSpec.ofChange treeIdentsSpec)

/-- ITS FALSE NEIGHBOUR: 'it returns false'. Refute it at one input. -/
def treeIdentsWrong : ChangeSpec := { name := "treeIdents", fn := fun _ => fun
  | [d] => { results := [.lit (.bool false)], args := [d] }
  | _ => none }
def TreeIdentsWrongFalsely : Prop := treeIdentsRow.holds Try.pinned (OpenSpec.ofChange treeIdentsWrong)

/-- 'barbicanlaw.WordDoes': WHATEVER THE INPUT: true; the input reads as it did. -/
def wordDoesSpec : ChangeSpec := { name := "wordDoes", fn := fun _ => fun
  | [d1, d2, d3] => { results := [.lit (.bool true)], args := [d1, d2, d3] }
  | _ => none }
def wordDoesRow : OpenClaim := { program := "ytbgabnnlmebhpaa", sum := "d5163b37c5aeeb803ccf54446a20fa9163375fd342051b2f15a3f44a457ffead", func := "barbican/barbicanlaw.WordDoes", spec := "wordDoes", apart := false }
def WordDoesSaid : Prop := wordDoesRow.holds Try.pinned (OpenSpec.ofChange wordDoesSpec)

/-- ITS FALSE NEIGHBOUR: 'it returns false'. Refute it at one input. -/
def wordDoesWrong : ChangeSpec := { name := "wordDoes", fn := fun _ => fun
  | [d1, d2, d3] => { results := [.lit (.bool false)], args := [d1, d2, d3] }
  | _ => none }
def WordDoesWrongFalsely : Prop := wordDoesRow.holds Try.pinned (OpenSpec.ofChange wordDoesWrong)

/-- 'barbicankeep.WordsRound': WHATEVER THE INPUT: true; the input reads as it did. -/
def wordsRoundSpec : ChangeSpec := { name := "wordsRound", fn := fun _ => fun
  | [d1, d2, d3] => { results := [.lit (.bool true)], args := [d1, d2, d3] }
  | _ => none }
def wordsRoundRow : OpenClaim := { program := "ytbgabnnlmebhpaa", sum := "d5163b37c5aeeb803ccf54446a20fa9163375fd342051b2f15a3f44a457ffead", func := "barbican/barbicankeep.WordsRound", spec := "wordsRound", unfollowed := true, recurses := true, apart := false }
def WordsRoundSaid : Prop := wordsRoundRow.holds Try.pinned (OpenSpec.ofChange wordsRoundSpec)

/-- ITS FALSE NEIGHBOUR: 'it returns false'. Refute it at one input. -/
def wordsRoundWrong : ChangeSpec := { name := "wordsRound", fn := fun _ => fun
  | [d1, d2, d3] => { results := [.lit (.bool false)], args := [d1, d2, d3] }
  | _ => none }
def WordsRoundWrongFalsely : Prop := wordsRoundRow.holds Try.pinned (OpenSpec.ofChange wordsRoundWrong)

/-- 'barbicanlaw.TreeChecks': WHATEVER THE INPUT: true; the input reads as it did. -/
def treeChecksSpec : ChangeSpec := { name := "treeChecks", fn := fun _ => fun
  | [d] => { results := [.lit (.bool true)], args := [d] }
  | _ => none }
def treeChecksRow : OpenClaim := { program := "ytbgabnnlmebhpaa", sum := "d5163b37c5aeeb803ccf54446a20fa9163375fd342051b2f15a3f44a457ffead", func := "barbican/barbicanlaw.TreeChecks", spec := "treeChecks", unfollowed := true, recurses := true, loops := true, apart := false }
def TreeChecksSaid : Prop := treeChecksRow.holds Try.pinned (OpenSpec.ofChange treeChecksSpec)

/-- ITS FALSE NEIGHBOUR: 'it returns false'. Refute it at one input. -/
def treeChecksWrong : ChangeSpec := { name := "treeChecks", fn := fun _ => fun
  | [d] => { results := [.lit (.bool false)], args := [d] }
  | _ => none }
def TreeChecksWrongFalsely : Prop := treeChecksRow.holds Try.pinned (OpenSpec.ofChange treeChecksWrong)

/-- 'barbicanlaw.NamesChecks': WHATEVER THE INPUT: true; the input reads as it did. -/
def namesChecksSpec : ChangeSpec := { name := "namesChecks", fn := fun _ => fun
  | [d] => { results := [.lit (.bool true)], args := [d] }
  | _ => none }
def namesChecksRow : OpenClaim := { program := "ytbgabnnlmebhpaa", sum := "d5163b37c5aeeb803ccf54446a20fa9163375fd342051b2f15a3f44a457ffead", func := "barbican/barbicanlaw.NamesChecks", spec := "namesChecks", unfollowed := true, recurses := true, loops := true, apart := false }
def NamesChecksSaid : Prop := namesChecksRow.holds Try.pinned (OpenSpec.ofChange namesChecksSpec)

/-- ITS FALSE NEIGHBOUR: 'it returns false'. Refute it at one input. -/
def namesChecksWrong : ChangeSpec := { name := "namesChecks", fn := fun _ => fun
  | [d] => { results := [.lit (.bool false)], args := [d] }
  | _ => none }
def NamesChecksWrongFalsely : Prop := namesChecksRow.holds Try.pinned (OpenSpec.ofChange namesChecksWrong)

/-- 'barbicanlaw.EvalFresh': WHATEVER THE INPUT: true; the input reads as it did. -/
def evalFreshSpec : ChangeSpec := { name := "evalFresh", fn := fun _ => fun
  | [d] => { results := [.lit (.bool true)], args := [d] }
  | _ => none }
def evalFreshRow : OpenClaim := { program := "ytbgabnnlmebhpaa", sum := "d5163b37c5aeeb803ccf54446a20fa9163375fd342051b2f15a3f44a457ffead", func := "barbican/barbicanlaw.EvalFresh", spec := "evalFresh", unfollowed := true, recurses := true, loops := true, apart := false }
def EvalFreshSaid : Prop := evalFreshRow.holds Try.pinned (OpenSpec.ofChange evalFreshSpec)

/-- ITS FALSE NEIGHBOUR: 'it returns false'. Refute it at one input. -/
def evalFreshWrong : ChangeSpec := { name := "evalFresh", fn := fun _ => fun
  | [d] => { results := [.lit (.bool false)], args := [d] }
  | _ => none }
def EvalFreshWrongFalsely : Prop := evalFreshRow.holds Try.pinned (OpenSpec.ofChange evalFreshWrong)

/-- 'barbicanlaw.EvalChecks': WHATEVER THE INPUT: true; the input reads as it did. -/
def evalChecksSpec : ChangeSpec := { name := "evalChecks", fn := fun _ => fun
  | [d1, d2] => { results := [.lit (.bool true)], args := [d1, d2] }
  | _ => none }
def evalChecksRow : OpenClaim := { program := "ytbgabnnlmebhpaa", sum := "d5163b37c5aeeb803ccf54446a20fa9163375fd342051b2f15a3f44a457ffead", func := "barbican/barbicanlaw.EvalChecks", spec := "evalChecks", unfollowed := true, recurses := true, loops := true, apart := false }
def EvalChecksSaid : Prop := evalChecksRow.holds Try.pinned (OpenSpec.ofChange evalChecksSpec)

/-- ITS FALSE NEIGHBOUR: 'it returns false'. Refute it at one input. -/
def evalChecksWrong : ChangeSpec := { name := "evalChecks", fn := fun _ => fun
  | [d1, d2] => { results := [.lit (.bool false)], args := [d1, d2] }
  | _ => none }
def EvalChecksWrongFalsely : Prop := evalChecksRow.holds Try.pinned (OpenSpec.ofChange evalChecksWrong)

/-- 'barbicanlaw.LinkData': WHATEVER THE INPUT: true; the input reads as it did. -/
def linkDataSpec : ChangeSpec := { name := "linkData", fn := fun _ => fun
  | [d1, d2] => { results := [.lit (.bool true)], args := [d1, d2] }
  | _ => none }
def linkDataRow : OpenClaim := { program := "ytbgabnnlmebhpaa", sum := "d5163b37c5aeeb803ccf54446a20fa9163375fd342051b2f15a3f44a457ffead", func := "barbican/barbicanlaw.LinkData", spec := "linkData", unfollowed := true, recurses := true, loops := true, apart := false }
def LinkDataSaid : Prop := linkDataRow.holds Try.pinned (OpenSpec.ofChange linkDataSpec)

/-- ITS FALSE NEIGHBOUR: 'it returns false'. Refute it at one input. -/
def linkDataWrong : ChangeSpec := { name := "linkData", fn := fun _ => fun
  | [d1, d2] => { results := [.lit (.bool false)], args := [d1, d2] }
  | _ => none }
def LinkDataWrongFalsely : Prop := linkDataRow.holds Try.pinned (OpenSpec.ofChange linkDataWrong)

/-- 'barbicanlaw.FoldMeans': WHATEVER THE INPUT: true; the input reads as it did. -/
def foldMeansSpec : ChangeSpec := { name := "foldMeans", fn := fun _ => fun
  | [d1, d2, d3, d4, d5, d6, d7] => { results := [.lit (.bool true)], args := [d1, d2, d3, d4, d5, d6, d7] }
  | _ => none }
def foldMeansRow : OpenClaim := { program := "ytbgabnnlmebhpaa", sum := "d5163b37c5aeeb803ccf54446a20fa9163375fd342051b2f15a3f44a457ffead", func := "barbican/barbicanlaw.FoldMeans", spec := "foldMeans", unfollowed := true, recurses := true, loops := true, apart := false }
def FoldMeansSaid : Prop := foldMeansRow.holds Try.pinned (OpenSpec.ofChange foldMeansSpec)

/-- ITS FALSE NEIGHBOUR: 'it returns false'. Refute it at one input. -/
def foldMeansWrong : ChangeSpec := { name := "foldMeans", fn := fun _ => fun
  | [d1, d2, d3, d4, d5, d6, d7] => { results := [.lit (.bool false)], args := [d1, d2, d3, d4, d5, d6, d7] }
  | _ => none }
def FoldMeansWrongFalsely : Prop := foldMeansRow.holds Try.pinned (OpenSpec.ofChange foldMeansWrong)

/-- 'barbicanlaw.GenMeans': WHATEVER THE INPUT: true; the input reads as it did. -/
def genMeansSpec : ChangeSpec := { name := "genMeans", fn := fun _ => fun
  | [d1, d2, d3, d4, d5, d6] => { results := [.lit (.bool true)], args := [d1, d2, d3, d4, d5, d6] }
  | _ => none }
def genMeansRow : OpenClaim := { program := "ytbgabnnlmebhpaa", sum := "d5163b37c5aeeb803ccf54446a20fa9163375fd342051b2f15a3f44a457ffead", func := "barbican/barbicanlaw.GenMeans", spec := "genMeans", unfollowed := true, recurses := true, loops := true, apart := false }
def GenMeansSaid : Prop := genMeansRow.holds Try.pinned (OpenSpec.ofChange genMeansSpec)

/-- ITS FALSE NEIGHBOUR: 'it returns false'. Refute it at one input. -/
def genMeansWrong : ChangeSpec := { name := "genMeans", fn := fun _ => fun
  | [d1, d2, d3, d4, d5, d6] => { results := [.lit (.bool false)], args := [d1, d2, d3, d4, d5, d6] }
  | _ => none }
def GenMeansWrongFalsely : Prop := genMeansRow.holds Try.pinned (OpenSpec.ofChange genMeansWrong)

/-- 'barbicanlaw.EvalCalls': WHATEVER THE INPUT: true; the input reads as it did. -/
def evalCallsSpec : ChangeSpec := { name := "evalCalls", fn := fun _ => fun
  | [d1, d2, d3, d4, d5, d6, d7] => { results := [.lit (.bool true)], args := [d1, d2, d3, d4, d5, d6, d7] }
  | _ => none }
def evalCallsRow : OpenClaim := { program := "ytbgabnnlmebhpaa", sum := "d5163b37c5aeeb803ccf54446a20fa9163375fd342051b2f15a3f44a457ffead", func := "barbican/barbicanlaw.EvalCalls", spec := "evalCalls", unfollowed := true, recurses := true, loops := true, apart := false }
def EvalCallsSaid : Prop := evalCallsRow.holds Try.pinned (OpenSpec.ofChange evalCallsSpec)

/-- ITS FALSE NEIGHBOUR: 'it returns false'. Refute it at one input. -/
def evalCallsWrong : ChangeSpec := { name := "evalCalls", fn := fun _ => fun
  | [d1, d2, d3, d4, d5, d6, d7] => { results := [.lit (.bool false)], args := [d1, d2, d3, d4, d5, d6, d7] }
  | _ => none }
def EvalCallsWrongFalsely : Prop := evalCallsRow.holds Try.pinned (OpenSpec.ofChange evalCallsWrong)

/-- 'barbicanlaw.LinkMeans': WHATEVER THE INPUT: true; the input reads as it did. -/
def linkMeansSpec : ChangeSpec := { name := "linkMeans", fn := fun _ => fun
  | [d1, d2, d3, d4, d5] => { results := [.lit (.bool true)], args := [d1, d2, d3, d4, d5] }
  | _ => none }
def linkMeansRow : OpenClaim := { program := "ytbgabnnlmebhpaa", sum := "d5163b37c5aeeb803ccf54446a20fa9163375fd342051b2f15a3f44a457ffead", func := "barbican/barbicanlaw.LinkMeans", spec := "linkMeans", unfollowed := true, recurses := true, loops := true, apart := false }
def LinkMeansSaid : Prop := linkMeansRow.holds Try.pinned (OpenSpec.ofChange linkMeansSpec)

/-- ITS FALSE NEIGHBOUR: 'it returns false'. Refute it at one input. -/
def linkMeansWrong : ChangeSpec := { name := "linkMeans", fn := fun _ => fun
  | [d1, d2, d3, d4, d5] => { results := [.lit (.bool false)], args := [d1, d2, d3, d4, d5] }
  | _ => none }
def LinkMeansWrongFalsely : Prop := linkMeansRow.holds Try.pinned (OpenSpec.ofChange linkMeansWrong)

/- THE SECOND FORM. 'bulk': how many values and letters a reading holds, each counted each time it is reached (what is shared counts as often as it is met; a slice's spare places count too). A statement '..UptoSaid' is the law's where the arguments, and the package variables that the reading takes, are together of bulk at most 1048576: NARROWER than '..Said'. Prove '..Said' where nothing that the law and all that it calls make is longer than what came in: it says more and counts as full. Else prove '..UptoSaid'. A law counts once. -/
mutual
def uptoBulk {H : Type} : DataW H → Nat
  | .lit (.string bytes) => bytes.length + 1
  | .lit _ => 1
  | .nil => 1
  | .ptr d => uptoBulk d + 1
  | .slice elems spare => uptoBulkAll elems + uptoBulkAll spare + 1
  | .agg parts => uptoBulkAll parts + 1
  | .iface _ d => uptoBulk d + 1
  | .map entries => uptoBulkEntries entries + 1
  | .held _ => 1
def uptoBulkAll {H : Type} : List (DataW H) → Nat
  | [] => 0
  | d :: r => uptoBulk d + uptoBulkAll r
def uptoBulkEntries {H : Type} : List (Lit × DataW H) → Nat
  | [] => 0
  | x :: r => uptoBulkEntry x + uptoBulkEntries r
def uptoBulkEntry {H : Type} : Lit × DataW H → Nat
  | (.string bytes, d) => bytes.length + uptoBulk d + 1
  | (_, d) => uptoBulk d + 1
 end
def uptoSmall : (H : Type) → List (DataW H) → Bool := fun _ ds => decide (uptoBulkAll ds ≤ 1048576)
def OpenSpec.upto (s : _root_.Go.ChangeSpec) : _root_.Go.OpenSpec := { _root_.Go.OpenSpec.ofChange s with cond := some uptoSmall }

/-- 'barbicanlaw.Names', WHERE WHAT IT READS IS OF BULK AT MOST 1048576: true; the input reads as it did. -/
def namesUptoRow : OpenClaim := { program := "ytbgabnnlmebhpaa", sum := "d5163b37c5aeeb803ccf54446a20fa9163375fd342051b2f15a3f44a457ffead", func := "barbican/barbicanlaw.Names", spec := "names", apart := false, narrowed := true }
def NamesUptoSaid : Prop := namesUptoRow.holds Try.pinned (OpenSpec.upto namesSpec)

/-- 'barbicanlaw.WordIs', WHERE WHAT IT READS IS OF BULK AT MOST 1048576: true; the input reads as it did. -/
def wordIsUptoRow : OpenClaim := { program := "ytbgabnnlmebhpaa", sum := "d5163b37c5aeeb803ccf54446a20fa9163375fd342051b2f15a3f44a457ffead", func := "barbican/barbicanlaw.WordIs", spec := "wordIs", apart := false, narrowed := true }
def WordIsUptoSaid : Prop := wordIsUptoRow.holds Try.pinned (OpenSpec.upto wordIsSpec)

/-- 'barbicanlaw.MemWords', WHERE WHAT IT READS IS OF BULK AT MOST 1048576: true; the input reads as it did. -/
def memWordsUptoRow : OpenClaim := { program := "ytbgabnnlmebhpaa", sum := "d5163b37c5aeeb803ccf54446a20fa9163375fd342051b2f15a3f44a457ffead", func := "barbican/barbicanlaw.MemWords", spec := "memWords", apart := false, narrowed := true }
def MemWordsUptoSaid : Prop := memWordsUptoRow.holds Try.pinned (OpenSpec.upto memWordsSpec)

/-- 'barbicanlaw.NamesWords', WHERE WHAT IT READS IS OF BULK AT MOST 1048576: true; the input reads as it did. -/
def namesWordsUptoRow : OpenClaim := { program := "ytbgabnnlmebhpaa", sum := "d5163b37c5aeeb803ccf54446a20fa9163375fd342051b2f15a3f44a457ffead", func := "barbican/barbicanlaw.NamesWords", spec := "namesWords", recurses := true, loops := true, apart := false, narrowed := true }
def NamesWordsUptoSaid : Prop := namesWordsUptoRow.holds Try.pinned (OpenSpec.upto namesWordsSpec)

/-- 'barbicanlaw.LinkWith', WHERE WHAT IT READS IS OF BULK AT MOST 1048576: true; the input reads as it did. -/
def linkWithUptoRow : OpenClaim := { program := "ytbgabnnlmebhpaa", sum := "d5163b37c5aeeb803ccf54446a20fa9163375fd342051b2f15a3f44a457ffead", func := "barbican/barbicanlaw.LinkWith", spec := "linkWith", apart := false, narrowed := true }
def LinkWithUptoSaid : Prop := linkWithUptoRow.holds Try.pinned (OpenSpec.upto linkWithSpec)

/-- 'barbicanlaw.NamesUnits', WHERE WHAT IT READS IS OF BULK AT MOST 1048576: true; the input reads as it did. -/
def namesUnitsUptoRow : OpenClaim := { program := "ytbgabnnlmebhpaa", sum := "d5163b37c5aeeb803ccf54446a20fa9163375fd342051b2f15a3f44a457ffead", func := "barbican/barbicanlaw.NamesUnits", spec := "namesUnits", unfollowed := true, recurses := true, loops := true, apart := false, narrowed := true }
def NamesUnitsUptoSaid : Prop := namesUnitsUptoRow.holds Try.pinned (OpenSpec.upto namesUnitsSpec)

/-- 'barbicanlaw.NamesFuncs', WHERE WHAT IT READS IS OF BULK AT MOST 1048576: true; the input reads as it did. -/
def namesFuncsUptoRow : OpenClaim := { program := "ytbgabnnlmebhpaa", sum := "d5163b37c5aeeb803ccf54446a20fa9163375fd342051b2f15a3f44a457ffead", func := "barbican/barbicanlaw.NamesFuncs", spec := "namesFuncs", unfollowed := true, recurses := true, loops := true, apart := false, narrowed := true }
def NamesFuncsUptoSaid : Prop := namesFuncsUptoRow.holds Try.pinned (OpenSpec.upto namesFuncsSpec)

/-- 'barbicanlaw.TokenWords', WHERE WHAT IT READS IS OF BULK AT MOST 1048576: true; the input reads as it did. -/
def tokenWordsUptoRow : OpenClaim := { program := "ytbgabnnlmebhpaa", sum := "d5163b37c5aeeb803ccf54446a20fa9163375fd342051b2f15a3f44a457ffead", func := "barbican/barbicanlaw.TokenWords", spec := "tokenWords", unfollowed := true, recurses := true, apart := false, narrowed := true }
def TokenWordsUptoSaid : Prop := tokenWordsUptoRow.holds Try.pinned (OpenSpec.upto tokenWordsSpec)

/-- 'barbicanlaw.EvalCopies', WHERE WHAT IT READS IS OF BULK AT MOST 1048576: true; the input reads as it did. -/
def evalCopiesUptoRow : OpenClaim := { program := "ytbgabnnlmebhpaa", sum := "d5163b37c5aeeb803ccf54446a20fa9163375fd342051b2f15a3f44a457ffead", func := "barbican/barbicanlaw.EvalCopies", spec := "evalCopies", apart := false, narrowed := true }
def EvalCopiesUptoSaid : Prop := evalCopiesUptoRow.holds Try.pinned (OpenSpec.upto evalCopiesSpec)

/-- 'barbicanlaw.TreeIdents', WHERE WHAT IT READS IS OF BULK AT MOST 1048576: true; the input reads as it did. -/
def treeIdentsUptoRow : OpenClaim := { program := "ytbgabnnlmebhpaa", sum := "d5163b37c5aeeb803ccf54446a20fa9163375fd342051b2f15a3f44a457ffead", func := "barbican/barbicanlaw.TreeIdents", spec := "treeIdents", unfollowed := true, recurses := true, apart := false, narrowed := true }
def TreeIdentsUptoSaid : Prop := treeIdentsUptoRow.holds Try.pinned (OpenSpec.upto treeIdentsSpec)

/-- 'barbicanlaw.WordDoes', WHERE WHAT IT READS IS OF BULK AT MOST 1048576: true; the input reads as it did. -/
def wordDoesUptoRow : OpenClaim := { program := "ytbgabnnlmebhpaa", sum := "d5163b37c5aeeb803ccf54446a20fa9163375fd342051b2f15a3f44a457ffead", func := "barbican/barbicanlaw.WordDoes", spec := "wordDoes", apart := false, narrowed := true }
def WordDoesUptoSaid : Prop := wordDoesUptoRow.holds Try.pinned (OpenSpec.upto wordDoesSpec)

/-- 'barbicankeep.WordsRound', WHERE WHAT IT READS IS OF BULK AT MOST 1048576: true; the input reads as it did. -/
def wordsRoundUptoRow : OpenClaim := { program := "ytbgabnnlmebhpaa", sum := "d5163b37c5aeeb803ccf54446a20fa9163375fd342051b2f15a3f44a457ffead", func := "barbican/barbicankeep.WordsRound", spec := "wordsRound", unfollowed := true, recurses := true, apart := false, narrowed := true }
def WordsRoundUptoSaid : Prop := wordsRoundUptoRow.holds Try.pinned (OpenSpec.upto wordsRoundSpec)

/-- 'barbicanlaw.TreeChecks', WHERE WHAT IT READS IS OF BULK AT MOST 1048576: true; the input reads as it did. -/
def treeChecksUptoRow : OpenClaim := { program := "ytbgabnnlmebhpaa", sum := "d5163b37c5aeeb803ccf54446a20fa9163375fd342051b2f15a3f44a457ffead", func := "barbican/barbicanlaw.TreeChecks", spec := "treeChecks", unfollowed := true, recurses := true, loops := true, apart := false, narrowed := true }
def TreeChecksUptoSaid : Prop := treeChecksUptoRow.holds Try.pinned (OpenSpec.upto treeChecksSpec)

/-- 'barbicanlaw.NamesChecks', WHERE WHAT IT READS IS OF BULK AT MOST 1048576: true; the input reads as it did. -/
def namesChecksUptoRow : OpenClaim := { program := "ytbgabnnlmebhpaa", sum := "d5163b37c5aeeb803ccf54446a20fa9163375fd342051b2f15a3f44a457ffead", func := "barbican/barbicanlaw.NamesChecks", spec := "namesChecks", unfollowed := true, recurses := true, loops := true, apart := false, narrowed := true }
def NamesChecksUptoSaid : Prop := namesChecksUptoRow.holds Try.pinned (OpenSpec.upto namesChecksSpec)

/-- 'barbicanlaw.EvalFresh', WHERE WHAT IT READS IS OF BULK AT MOST 1048576: true; the input reads as it did. -/
def evalFreshUptoRow : OpenClaim := { program := "ytbgabnnlmebhpaa", sum := "d5163b37c5aeeb803ccf54446a20fa9163375fd342051b2f15a3f44a457ffead", func := "barbican/barbicanlaw.EvalFresh", spec := "evalFresh", unfollowed := true, recurses := true, loops := true, apart := false, narrowed := true }
def EvalFreshUptoSaid : Prop := evalFreshUptoRow.holds Try.pinned (OpenSpec.upto evalFreshSpec)

/-- 'barbicanlaw.EvalChecks', WHERE WHAT IT READS IS OF BULK AT MOST 1048576: true; the input reads as it did. -/
def evalChecksUptoRow : OpenClaim := { program := "ytbgabnnlmebhpaa", sum := "d5163b37c5aeeb803ccf54446a20fa9163375fd342051b2f15a3f44a457ffead", func := "barbican/barbicanlaw.EvalChecks", spec := "evalChecks", unfollowed := true, recurses := true, loops := true, apart := false, narrowed := true }
def EvalChecksUptoSaid : Prop := evalChecksUptoRow.holds Try.pinned (OpenSpec.upto evalChecksSpec)

/-- 'barbicanlaw.LinkData', WHERE WHAT IT READS IS OF BULK AT MOST 1048576: true; the input reads as it did. -/
def linkDataUptoRow : OpenClaim := { program := "ytbgabnnlmebhpaa", sum := "d5163b37c5aeeb803ccf54446a20fa9163375fd342051b2f15a3f44a457ffead", func := "barbican/barbicanlaw.LinkData", spec := "linkData", unfollowed := true, recurses := true, loops := true, apart := false, narrowed := true }
def LinkDataUptoSaid : Prop := linkDataUptoRow.holds Try.pinned (OpenSpec.upto linkDataSpec)

/-- 'barbicanlaw.FoldMeans', WHERE WHAT IT READS IS OF BULK AT MOST 1048576: true; the input reads as it did. -/
def foldMeansUptoRow : OpenClaim := { program := "ytbgabnnlmebhpaa", sum := "d5163b37c5aeeb803ccf54446a20fa9163375fd342051b2f15a3f44a457ffead", func := "barbican/barbicanlaw.FoldMeans", spec := "foldMeans", unfollowed := true, recurses := true, loops := true, apart := false, narrowed := true }
def FoldMeansUptoSaid : Prop := foldMeansUptoRow.holds Try.pinned (OpenSpec.upto foldMeansSpec)

/-- 'barbicanlaw.GenMeans', WHERE WHAT IT READS IS OF BULK AT MOST 1048576: true; the input reads as it did. -/
def genMeansUptoRow : OpenClaim := { program := "ytbgabnnlmebhpaa", sum := "d5163b37c5aeeb803ccf54446a20fa9163375fd342051b2f15a3f44a457ffead", func := "barbican/barbicanlaw.GenMeans", spec := "genMeans", unfollowed := true, recurses := true, loops := true, apart := false, narrowed := true }
def GenMeansUptoSaid : Prop := genMeansUptoRow.holds Try.pinned (OpenSpec.upto genMeansSpec)

/-- 'barbicanlaw.EvalCalls', WHERE WHAT IT READS IS OF BULK AT MOST 1048576: true; the input reads as it did. -/
def evalCallsUptoRow : OpenClaim := { program := "ytbgabnnlmebhpaa", sum := "d5163b37c5aeeb803ccf54446a20fa9163375fd342051b2f15a3f44a457ffead", func := "barbican/barbicanlaw.EvalCalls", spec := "evalCalls", unfollowed := true, recurses := true, loops := true, apart := false, narrowed := true }
def EvalCallsUptoSaid : Prop := evalCallsUptoRow.holds Try.pinned (OpenSpec.upto evalCallsSpec)

/-- 'barbicanlaw.LinkMeans', WHERE WHAT IT READS IS OF BULK AT MOST 1048576: true; the input reads as it did. -/
def linkMeansUptoRow : OpenClaim := { program := "ytbgabnnlmebhpaa", sum := "d5163b37c5aeeb803ccf54446a20fa9163375fd342051b2f15a3f44a457ffead", func := "barbican/barbicanlaw.LinkMeans", spec := "linkMeans", unfollowed := true, recurses := true, loops := true, apart := false, narrowed := true }
def LinkMeansUptoSaid : Prop := linkMeansUptoRow.holds Try.pinned (OpenSpec.upto linkMeansSpec)

end Rows
end Go.Proofs.Ytbgabnnlmebhpaa
