/-
  The closed facts of the row of the law LinkData, each reckoned by the kernel. The law itself is proved in another text.
-/
import Derived.Test.YtibhhcncefkoiaaKer
namespace Go.Proofs.Ytibhhcncefkoiaa
open Go.ChangeShapes Go.WideShapes Go.ChangeAt

set_option maxHeartbeats 8000000 in
theorem LinkData_closed : joinedFacts Try.prog 5 Try.f5 Rows.linkDataSpec Rows.linkDataRow = true := by
  simp only [joinedFacts, laidOut, mapsRowed_ok, stops_ok, stopKnobs_ok, stopsHeard_ok, mayEnter_ok, Bool.and_eq_true, Bool.and_true]
  repeat' apply And.intro
  all_goals (as_aux_lemma => kernel_rfl)
theorem LinkData_named : Try.prog.funcNamed Rows.linkDataRow.func = some 5 := by kernel_rfl
theorem LinkData_inst : Try.f5.isInstance Try.prog Rows.linkDataRow.origin Rows.linkDataRow.targs := of_decide_eq_true (by kernel_rfl)
theorem LinkData_wrap : Try.f5.isWrapper Try.prog Rows.linkDataRow.wrapper Rows.linkDataRow.mainSum := by
  unfold Func.isWrapper
  first
    | (rw [if_pos (by decide +kernel)]; kernel_rfl)
    | (rw [if_neg (by decide +kernel)]; exact ⟨rfl, rfl⟩)
theorem LinkData_over (lifted : ∀ (os : Os) (_ : os.Started) (H : Type) (enc : TypeId × Value → H), ReturnsInHanded {} Try.checked os 5 .any (Rows.linkDataSpec.pre6 enc Try.prog Try.f5 Rows.linkDataRow.domain false) (Rows.linkDataSpec.post enc Try.prog Try.f5 false true false false)) :
    Rows.linkDataRow.holds Try.pinned (OpenSpec.ofChange Rows.linkDataSpec) :=
  OpenClaim.holds_of_wide 5 Try.f5 rfl rfl rfl rfl rfl rfl rfl ⟨rfl, rfl, rfl, rfl, rfl⟩ rfl rfl rfl rfl rfl LinkData_named Try.func5 LinkData_closed LinkData_inst LinkData_wrap
    (fun os started H enc _ => lifted os started H enc)
end Go.Proofs.Ytibhhcncefkoiaa
