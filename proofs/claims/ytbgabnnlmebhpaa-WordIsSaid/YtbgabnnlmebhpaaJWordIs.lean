/-
  The closed facts of the row of the law WordIs, each reckoned by the kernel. The law itself is proved in another text.
-/
import Derived.Test.YtbgabnnlmebhpaaKer
namespace Go.Proofs.Ytbgabnnlmebhpaa
open Go.ChangeShapes Go.WideShapes Go.ChangeAt

set_option maxHeartbeats 8000000 in
theorem WordIs_closed : joinedFacts Try.prog 4 Try.f4 Rows.wordIsSpec Rows.wordIsRow = true := by
  simp only [joinedFacts, laidOut, mapsRowed_ok, stops_ok, stopKnobs_ok, stopsHeard_ok, mayEnter_ok, Bool.and_eq_true, Bool.and_true, and_true, true_and]
  repeat' apply And.intro
  all_goals (as_aux_lemma => kernel_rfl)
theorem WordIs_named : Try.prog.funcNamed Rows.wordIsRow.func = some 4 := by kernel_rfl
theorem WordIs_inst : Try.f4.isInstance Try.prog Rows.wordIsRow.origin Rows.wordIsRow.targs := of_decide_eq_true (by kernel_rfl)
theorem WordIs_wrap : Try.f4.isWrapper Try.prog Rows.wordIsRow.wrapper Rows.wordIsRow.mainSum := by
  unfold Func.isWrapper
  first
    | (rw [if_pos (by decide +kernel)]; kernel_rfl)
    | (rw [if_neg (by decide +kernel)]; exact ⟨rfl, rfl⟩)
theorem WordIs_over (lifted : ∀ (os : Os) (_ : os.Started) (H : Type) (enc : TypeId × Value → H), ReturnsInHanded {} Try.checked os 4 .any (Rows.wordIsSpec.pre6 enc Try.prog Try.f4 Rows.wordIsRow.domain false) (Rows.wordIsSpec.post enc Try.prog Try.f4 false true false false)) :
    Rows.wordIsRow.holds Try.pinned (OpenSpec.ofChange Rows.wordIsSpec) :=
  OpenClaim.holds_of_wide 4 Try.f4 rfl rfl rfl rfl rfl rfl rfl ⟨rfl, rfl, rfl, rfl, rfl⟩ rfl rfl rfl rfl rfl WordIs_named Try.func4 WordIs_closed WordIs_inst WordIs_wrap
    (fun os started H enc _ => lifted os started H enc)
end Go.Proofs.Ytbgabnnlmebhpaa
