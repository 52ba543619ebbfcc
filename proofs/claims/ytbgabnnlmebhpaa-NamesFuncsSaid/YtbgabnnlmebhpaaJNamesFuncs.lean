/-
  The closed facts of the row of the law NamesFuncs, each reckoned by the kernel. The law itself is proved in another text.
-/
import Derived.Test.YtbgabnnlmebhpaaKer
namespace Go.Proofs.Ytbgabnnlmebhpaa
open Go.ChangeShapes Go.WideShapes Go.ChangeAt

set_option maxHeartbeats 8000000 in
theorem NamesFuncs_closed : joinedFacts Try.prog 9 Try.f9 Rows.namesFuncsSpec Rows.namesFuncsRow = true := by
  simp only [joinedFacts, laidOut, mapsRowed_ok, stops_ok, stopKnobs_ok, stopsHeard_ok, mayEnter_ok, Bool.and_eq_true, Bool.and_true]
  repeat' apply And.intro
  all_goals (as_aux_lemma => kernel_rfl)
theorem NamesFuncs_named : Try.prog.funcNamed Rows.namesFuncsRow.func = some 9 := by kernel_rfl
theorem NamesFuncs_inst : Try.f9.isInstance Try.prog Rows.namesFuncsRow.origin Rows.namesFuncsRow.targs := of_decide_eq_true (by kernel_rfl)
theorem NamesFuncs_wrap : Try.f9.isWrapper Try.prog Rows.namesFuncsRow.wrapper Rows.namesFuncsRow.mainSum := by
  unfold Func.isWrapper
  first
    | (rw [if_pos (by decide +kernel)]; kernel_rfl)
    | (rw [if_neg (by decide +kernel)]; exact ⟨rfl, rfl⟩)
theorem NamesFuncs_over (lifted : ∀ (os : Os) (_ : os.Started) (H : Type) (enc : TypeId × Value → H), ReturnsInHanded {} Try.checked os 9 .any (Rows.namesFuncsSpec.pre6 enc Try.prog Try.f9 Rows.namesFuncsRow.domain false) (Rows.namesFuncsSpec.post enc Try.prog Try.f9 false true false false)) :
    Rows.namesFuncsRow.holds Try.pinned (OpenSpec.ofChange Rows.namesFuncsSpec) :=
  OpenClaim.holds_of_wide 9 Try.f9 rfl rfl rfl rfl rfl rfl rfl ⟨rfl, rfl, rfl, rfl, rfl⟩ rfl rfl rfl rfl rfl NamesFuncs_named Try.func9 NamesFuncs_closed NamesFuncs_inst NamesFuncs_wrap
    (fun os started H enc _ => lifted os started H enc)
end Go.Proofs.Ytbgabnnlmebhpaa
