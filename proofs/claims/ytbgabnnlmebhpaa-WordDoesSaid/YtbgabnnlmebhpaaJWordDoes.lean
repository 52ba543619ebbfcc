/-
  The closed facts of the row of the law WordDoes, each reckoned by the kernel. The law itself is proved in another text.
-/
import Derived.Test.YtbgabnnlmebhpaaKer
namespace Go.Proofs.Ytbgabnnlmebhpaa
open Go.ChangeShapes Go.WideShapes Go.ChangeAt

set_option maxHeartbeats 8000000 in
theorem WordDoes_closed : joinedFacts Try.prog 13 Try.f13 Rows.wordDoesSpec Rows.wordDoesRow = true := by
  simp only [joinedFacts, laidOut, mapsRowed_ok, stops_ok, stopKnobs_ok, stopsHeard_ok, mayEnter_ok, Bool.and_eq_true, Bool.and_true]
  repeat' apply And.intro
  all_goals (as_aux_lemma => kernel_rfl)
theorem WordDoes_named : Try.prog.funcNamed Rows.wordDoesRow.func = some 13 := by kernel_rfl
theorem WordDoes_inst : Try.f13.isInstance Try.prog Rows.wordDoesRow.origin Rows.wordDoesRow.targs := of_decide_eq_true (by kernel_rfl)
theorem WordDoes_wrap : Try.f13.isWrapper Try.prog Rows.wordDoesRow.wrapper Rows.wordDoesRow.mainSum := by
  unfold Func.isWrapper
  first
    | (rw [if_pos (by decide +kernel)]; kernel_rfl)
    | (rw [if_neg (by decide +kernel)]; exact ⟨rfl, rfl⟩)
theorem WordDoes_over (lifted : ∀ (os : Os) (_ : os.Started) (H : Type) (enc : TypeId × Value → H), ReturnsInHanded {} Try.checked os 13 .any (Rows.wordDoesSpec.pre6 enc Try.prog Try.f13 Rows.wordDoesRow.domain false) (Rows.wordDoesSpec.post enc Try.prog Try.f13 false true false false)) :
    Rows.wordDoesRow.holds Try.pinned (OpenSpec.ofChange Rows.wordDoesSpec) :=
  OpenClaim.holds_of_wide 13 Try.f13 rfl rfl rfl rfl rfl rfl rfl ⟨rfl, rfl, rfl, rfl, rfl⟩ rfl rfl rfl rfl rfl WordDoes_named Try.func13 WordDoes_closed WordDoes_inst WordDoes_wrap
    (fun os started H enc _ => lifted os started H enc)
end Go.Proofs.Ytbgabnnlmebhpaa
