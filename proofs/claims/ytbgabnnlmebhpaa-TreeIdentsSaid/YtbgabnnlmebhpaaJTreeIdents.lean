/-
  The closed facts of the row of the law TreeIdents, each reckoned by the kernel. The law itself is proved in another text.
-/
import Derived.Test.YtbgabnnlmebhpaaKer
namespace Go.Proofs.Ytbgabnnlmebhpaa
open Go.ChangeShapes Go.WideShapes Go.ChangeAt

set_option maxHeartbeats 8000000 in
theorem TreeIdents_closed : joinedFacts Try.prog 12 Try.f12 Rows.treeIdentsSpec Rows.treeIdentsRow = true := by
  simp only [joinedFacts, laidOut, mapsRowed_ok, stops_ok, stopKnobs_ok, stopsHeard_ok, mayEnter_ok, Bool.and_eq_true, Bool.and_true]
  repeat' apply And.intro
  all_goals (as_aux_lemma => kernel_rfl)
theorem TreeIdents_named : Try.prog.funcNamed Rows.treeIdentsRow.func = some 12 := by kernel_rfl
theorem TreeIdents_inst : Try.f12.isInstance Try.prog Rows.treeIdentsRow.origin Rows.treeIdentsRow.targs := of_decide_eq_true (by kernel_rfl)
theorem TreeIdents_wrap : Try.f12.isWrapper Try.prog Rows.treeIdentsRow.wrapper Rows.treeIdentsRow.mainSum := by
  unfold Func.isWrapper
  first
    | (rw [if_pos (by decide +kernel)]; kernel_rfl)
    | (rw [if_neg (by decide +kernel)]; exact ⟨rfl, rfl⟩)
theorem TreeIdents_over (lifted : ∀ (os : Os) (_ : os.Started) (H : Type) (enc : TypeId × Value → H), ReturnsInHanded {} Try.checked os 12 .any (Rows.treeIdentsSpec.pre6 enc Try.prog Try.f12 Rows.treeIdentsRow.domain false) (Rows.treeIdentsSpec.post enc Try.prog Try.f12 false true false false)) :
    Rows.treeIdentsRow.holds Try.pinned (OpenSpec.ofChange Rows.treeIdentsSpec) :=
  OpenClaim.holds_of_wide 12 Try.f12 rfl rfl rfl rfl rfl rfl rfl ⟨rfl, rfl, rfl, rfl, rfl⟩ rfl rfl rfl rfl rfl TreeIdents_named Try.func12 TreeIdents_closed TreeIdents_inst TreeIdents_wrap
    (fun os started H enc _ => lifted os started H enc)
end Go.Proofs.Ytbgabnnlmebhpaa
