/-
  The closed facts of the row of the law TreeChecks, each reckoned by the kernel. The law itself is proved in another text.
-/
import Derived.Test.YtbgabnnlmebhpaaKer
namespace Go.Proofs.Ytbgabnnlmebhpaa
open Go.ChangeShapes Go.WideShapes Go.ChangeAt

set_option maxHeartbeats 8000000 in
theorem TreeChecks_closed : joinedFacts Try.prog 15 Try.f15 Rows.treeChecksSpec Rows.treeChecksRow = true := by
  simp only [joinedFacts, laidOut, mapsRowed_ok, stops_ok, stopKnobs_ok, stopsHeard_ok, mayEnter_ok, Bool.and_eq_true, Bool.and_true]
  repeat' apply And.intro
  all_goals (as_aux_lemma => kernel_rfl)
theorem TreeChecks_named : Try.prog.funcNamed Rows.treeChecksRow.func = some 15 := by kernel_rfl
theorem TreeChecks_inst : Try.f15.isInstance Try.prog Rows.treeChecksRow.origin Rows.treeChecksRow.targs := of_decide_eq_true (by kernel_rfl)
theorem TreeChecks_wrap : Try.f15.isWrapper Try.prog Rows.treeChecksRow.wrapper Rows.treeChecksRow.mainSum := by
  unfold Func.isWrapper
  first
    | (rw [if_pos (by decide +kernel)]; kernel_rfl)
    | (rw [if_neg (by decide +kernel)]; exact ⟨rfl, rfl⟩)
theorem TreeChecks_over (lifted : ∀ (os : Os) (_ : os.Started) (H : Type) (enc : TypeId × Value → H), ReturnsInHanded {} Try.checked os 15 .any (Rows.treeChecksSpec.pre6 enc Try.prog Try.f15 Rows.treeChecksRow.domain false) (Rows.treeChecksSpec.post enc Try.prog Try.f15 false true false false)) :
    Rows.treeChecksRow.holds Try.pinned (OpenSpec.ofChange Rows.treeChecksSpec) :=
  OpenClaim.holds_of_wide 15 Try.f15 rfl rfl rfl rfl rfl rfl rfl ⟨rfl, rfl, rfl, rfl, rfl⟩ rfl rfl rfl rfl rfl TreeChecks_named Try.func15 TreeChecks_closed TreeChecks_inst TreeChecks_wrap
    (fun os started H enc _ => lifted os started H enc)
end Go.Proofs.Ytbgabnnlmebhpaa
