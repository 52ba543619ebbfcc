/-
  The closed facts of the row of the law EvalFresh, each reckoned by the kernel. The law itself is proved in another text.
-/
import Derived.Test.YtbgabnnlmebhpaaKer
namespace Go.Proofs.Ytbgabnnlmebhpaa
open Go.ChangeShapes Go.WideShapes Go.ChangeAt

set_option maxHeartbeats 8000000 in
theorem EvalFresh_closed : joinedFacts Try.prog 17 Try.f17 Rows.evalFreshSpec Rows.evalFreshRow = true := by
  simp only [joinedFacts, laidOut, mapsRowed_ok, stops_ok, stopKnobs_ok, stopsHeard_ok, mayEnter_ok, Bool.and_eq_true, Bool.and_true]
  repeat' apply And.intro
  all_goals (as_aux_lemma => kernel_rfl)
theorem EvalFresh_named : Try.prog.funcNamed Rows.evalFreshRow.func = some 17 := by kernel_rfl
theorem EvalFresh_inst : Try.f17.isInstance Try.prog Rows.evalFreshRow.origin Rows.evalFreshRow.targs := of_decide_eq_true (by kernel_rfl)
theorem EvalFresh_wrap : Try.f17.isWrapper Try.prog Rows.evalFreshRow.wrapper Rows.evalFreshRow.mainSum := by
  unfold Func.isWrapper
  first
    | (rw [if_pos (by decide +kernel)]; kernel_rfl)
    | (rw [if_neg (by decide +kernel)]; exact ⟨rfl, rfl⟩)
theorem EvalFresh_over (lifted : ∀ (os : Os) (_ : os.Started) (H : Type) (enc : TypeId × Value → H), ReturnsInHanded {} Try.checked os 17 .any (Rows.evalFreshSpec.pre6 enc Try.prog Try.f17 Rows.evalFreshRow.domain false) (Rows.evalFreshSpec.post enc Try.prog Try.f17 false true false false)) :
    Rows.evalFreshRow.holds Try.pinned (OpenSpec.ofChange Rows.evalFreshSpec) :=
  OpenClaim.holds_of_wide 17 Try.f17 rfl rfl rfl rfl rfl rfl rfl ⟨rfl, rfl, rfl, rfl, rfl⟩ rfl rfl rfl rfl rfl EvalFresh_named Try.func17 EvalFresh_closed EvalFresh_inst EvalFresh_wrap
    (fun os started H enc _ => lifted os started H enc)
end Go.Proofs.Ytbgabnnlmebhpaa
