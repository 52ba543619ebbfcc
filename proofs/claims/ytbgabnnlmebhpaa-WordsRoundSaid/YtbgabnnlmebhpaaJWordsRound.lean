/-
  The closed facts of the row of the law WordsRound, each reckoned by the kernel. The law itself is proved in another text.
-/
import Derived.Test.YtbgabnnlmebhpaaKer
namespace Go.Proofs.Ytbgabnnlmebhpaa
open Go.ChangeShapes Go.WideShapes Go.ChangeAt

set_option maxHeartbeats 8000000 in
theorem WordsRound_closed : joinedFacts Try.prog 14 Try.f14 Rows.wordsRoundSpec Rows.wordsRoundRow = true := by
  simp only [joinedFacts, laidOut, mapsRowed_ok, stops_ok, stopKnobs_ok, stopsHeard_ok, mayEnter_ok, Bool.and_eq_true, Bool.and_true]
  repeat' apply And.intro
  all_goals (as_aux_lemma => kernel_rfl)
theorem WordsRound_named : Try.prog.funcNamed Rows.wordsRoundRow.func = some 14 := by kernel_rfl
theorem WordsRound_inst : Try.f14.isInstance Try.prog Rows.wordsRoundRow.origin Rows.wordsRoundRow.targs := of_decide_eq_true (by kernel_rfl)
theorem WordsRound_wrap : Try.f14.isWrapper Try.prog Rows.wordsRoundRow.wrapper Rows.wordsRoundRow.mainSum := by
  unfold Func.isWrapper
  first
    | (rw [if_pos (by decide +kernel)]; kernel_rfl)
    | (rw [if_neg (by decide +kernel)]; exact ⟨rfl, rfl⟩)
theorem WordsRound_over (lifted : ∀ (os : Os) (_ : os.Started) (H : Type) (enc : TypeId × Value → H), ReturnsInHanded {} Try.checked os 14 .any (Rows.wordsRoundSpec.pre6 enc Try.prog Try.f14 Rows.wordsRoundRow.domain false) (Rows.wordsRoundSpec.post enc Try.prog Try.f14 false true false false)) :
    Rows.wordsRoundRow.holds Try.pinned (OpenSpec.ofChange Rows.wordsRoundSpec) :=
  OpenClaim.holds_of_wide 14 Try.f14 rfl rfl rfl rfl rfl rfl rfl ⟨rfl, rfl, rfl, rfl, rfl⟩ rfl rfl rfl rfl rfl WordsRound_named Try.func14 WordsRound_closed WordsRound_inst WordsRound_wrap
    (fun os started H enc _ => lifted os started H enc)
end Go.Proofs.Ytbgabnnlmebhpaa
