/-
  The closed facts of the row of the law EvalCopies, each reckoned by the kernel. The law itself is proved in another text.
-/
import Derived.Test.YtbgabnnlmebhpaaKer
namespace Go.Proofs.Ytbgabnnlmebhpaa
open Go.ChangeShapes Go.WideShapes Go.ChangeAt

set_option maxHeartbeats 8000000 in
theorem EvalCopies_closed : joinedFacts Try.prog 11 Try.f11 Rows.evalCopiesSpec Rows.evalCopiesRow = true := by
  simp only [joinedFacts, laidOut, mapsRowed_ok, stops_ok, stopKnobs_ok, stopsHeard_ok, mayEnter_ok, Bool.and_eq_true, Bool.and_true]
  repeat' apply And.intro
  all_goals (as_aux_lemma => kernel_rfl)
theorem EvalCopies_named : Try.prog.funcNamed Rows.evalCopiesRow.func = some 11 := by kernel_rfl
theorem EvalCopies_inst : Try.f11.isInstance Try.prog Rows.evalCopiesRow.origin Rows.evalCopiesRow.targs := of_decide_eq_true (by kernel_rfl)
theorem EvalCopies_wrap : Try.f11.isWrapper Try.prog Rows.evalCopiesRow.wrapper Rows.evalCopiesRow.mainSum := by
  unfold Func.isWrapper
  first
    | (rw [if_pos (by decide +kernel)]; kernel_rfl)
    | (rw [if_neg (by decide +kernel)]; exact ⟨rfl, rfl⟩)
theorem EvalCopies_over (lifted : ∀ (os : Os) (_ : os.Started) (H : Type) (enc : TypeId × Value → H), ReturnsInHanded {} Try.checked os 11 .any (Rows.evalCopiesSpec.pre6 enc Try.prog Try.f11 Rows.evalCopiesRow.domain false) (Rows.evalCopiesSpec.post enc Try.prog Try.f11 false true false false)) :
    Rows.evalCopiesRow.holds Try.pinned (OpenSpec.ofChange Rows.evalCopiesSpec) :=
  OpenClaim.holds_of_wide 11 Try.f11 rfl rfl rfl rfl rfl rfl rfl ⟨rfl, rfl, rfl, rfl, rfl⟩ rfl rfl rfl rfl rfl EvalCopies_named Try.func11 EvalCopies_closed EvalCopies_inst EvalCopies_wrap
    (fun os started H enc _ => lifted os started H enc)
end Go.Proofs.Ytbgabnnlmebhpaa
