/-
  The closed facts of the row of the law NamesUnits, each reckoned by the kernel. The law itself is proved in another text.
-/
import Derived.Test.YtbgabnnlmebhpaaKer
namespace Go.Proofs.Ytbgabnnlmebhpaa
open Go.ChangeShapes Go.WideShapes Go.ChangeAt

set_option maxHeartbeats 8000000 in
theorem NamesUnits_closed : joinedFacts Try.prog 8 Try.f8 Rows.namesUnitsSpec Rows.namesUnitsRow = true := by
  simp only [joinedFacts, laidOut, mapsRowed_ok, stops_ok, stopKnobs_ok, stopsHeard_ok, mayEnter_ok, Bool.and_eq_true, Bool.and_true]
  repeat' apply And.intro
  all_goals (as_aux_lemma => kernel_rfl)
theorem NamesUnits_named : Try.prog.funcNamed Rows.namesUnitsRow.func = some 8 := by kernel_rfl
theorem NamesUnits_inst : Try.f8.isInstance Try.prog Rows.namesUnitsRow.origin Rows.namesUnitsRow.targs := of_decide_eq_true (by kernel_rfl)
theorem NamesUnits_wrap : Try.f8.isWrapper Try.prog Rows.namesUnitsRow.wrapper Rows.namesUnitsRow.mainSum := by
  unfold Func.isWrapper
  first
    | (rw [if_pos (by decide +kernel)]; kernel_rfl)
    | (rw [if_neg (by decide +kernel)]; exact ⟨rfl, rfl⟩)
theorem NamesUnits_over (lifted : ∀ (os : Os) (_ : os.Started) (H : Type) (enc : TypeId × Value → H), ReturnsInHanded {} Try.checked os 8 .any (Rows.namesUnitsSpec.pre6 enc Try.prog Try.f8 Rows.namesUnitsRow.domain false) (Rows.namesUnitsSpec.post enc Try.prog Try.f8 false true false false)) :
    Rows.namesUnitsRow.holds Try.pinned (OpenSpec.ofChange Rows.namesUnitsSpec) :=
  OpenClaim.holds_of_wide 8 Try.f8 rfl rfl rfl rfl rfl rfl rfl ⟨rfl, rfl, rfl, rfl, rfl⟩ rfl rfl rfl rfl rfl NamesUnits_named Try.func8 NamesUnits_closed NamesUnits_inst NamesUnits_wrap
    (fun os started H enc _ => lifted os started H enc)
end Go.Proofs.Ytbgabnnlmebhpaa
