/-
  The closed facts of the row of the law Names, each reckoned by the kernel. The law itself is proved in another text.
-/
import Derived.Test.YtbgabnnlmebhpaaKer
namespace Go.Proofs.Ytbgabnnlmebhpaa
open Go.ChangeShapes Go.WideShapes Go.ChangeAt

set_option maxHeartbeats 8000000 in
theorem Names_closed : joinedFacts Try.prog 3 Try.f3 Rows.namesSpec Rows.namesRow = true := by
  simp only [joinedFacts, laidOut, mapsRowed_ok, stops_ok, stopKnobs_ok, stopsHeard_ok, mayEnter_ok, Bool.and_eq_true, Bool.and_true]
  repeat' apply And.intro
  all_goals (as_aux_lemma => kernel_rfl)
theorem Names_named : Try.prog.funcNamed Rows.namesRow.func = some 3 := by kernel_rfl
theorem Names_inst : Try.f3.isInstance Try.prog Rows.namesRow.origin Rows.namesRow.targs := of_decide_eq_true (by kernel_rfl)
theorem Names_wrap : Try.f3.isWrapper Try.prog Rows.namesRow.wrapper Rows.namesRow.mainSum := by
  unfold Func.isWrapper
  first
    | (rw [if_pos (by decide +kernel)]; kernel_rfl)
    | (rw [if_neg (by decide +kernel)]; exact ⟨rfl, rfl⟩)
theorem Names_over (lifted : ∀ (os : Os) (_ : os.Started) (H : Type) (enc : TypeId × Value → H), ReturnsInHanded {} Try.checked os 3 .any (Rows.namesSpec.pre6 enc Try.prog Try.f3 Rows.namesRow.domain false) (Rows.namesSpec.post enc Try.prog Try.f3 false true false false)) :
    Rows.namesRow.holds Try.pinned (OpenSpec.ofChange Rows.namesSpec) :=
  OpenClaim.holds_of_wide 3 Try.f3 rfl rfl rfl rfl rfl rfl rfl ⟨rfl, rfl, rfl, rfl, rfl⟩ rfl rfl rfl rfl rfl Names_named Try.func3 Names_closed Names_inst Names_wrap
    (fun os started H enc _ => lifted os started H enc)
end Go.Proofs.Ytbgabnnlmebhpaa
