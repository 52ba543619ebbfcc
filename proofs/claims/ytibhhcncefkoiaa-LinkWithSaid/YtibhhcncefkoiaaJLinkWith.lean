/-
  The closed facts of the row of the law LinkWith, each reckoned by the kernel. The law itself is proved in another text.
-/
import Derived.Test.YtibhhcncefkoiaaKer
namespace Go.Proofs.Ytibhhcncefkoiaa
open Go.ChangeShapes Go.WideShapes Go.ChangeAt

set_option maxHeartbeats 8000000 in
theorem LinkWith_closed : joinedFacts Try.prog 3 Try.f3 Rows.linkWithSpec Rows.linkWithRow = true := by
  simp only [joinedFacts, laidOut, mapsRowed_ok, stops_ok, stopKnobs_ok, stopsHeard_ok, mayEnter_ok, Bool.and_eq_true, Bool.and_true]
  repeat' apply And.intro
  all_goals (as_aux_lemma => kernel_rfl)
theorem LinkWith_named : Try.prog.funcNamed Rows.linkWithRow.func = some 3 := by kernel_rfl
theorem LinkWith_inst : Try.f3.isInstance Try.prog Rows.linkWithRow.origin Rows.linkWithRow.targs := of_decide_eq_true (by kernel_rfl)
theorem LinkWith_wrap : Try.f3.isWrapper Try.prog Rows.linkWithRow.wrapper Rows.linkWithRow.mainSum := by
  unfold Func.isWrapper
  first
    | (rw [if_pos (by decide +kernel)]; kernel_rfl)
    | (rw [if_neg (by decide +kernel)]; exact ⟨rfl, rfl⟩)
theorem LinkWith_over (lifted : ∀ (os : Os) (_ : os.Started) (H : Type) (enc : TypeId × Value → H), ReturnsInHanded {} Try.checked os 3 .any (Rows.linkWithSpec.pre6 enc Try.prog Try.f3 Rows.linkWithRow.domain false) (Rows.linkWithSpec.post enc Try.prog Try.f3 false true false false)) :
    Rows.linkWithRow.holds Try.pinned (OpenSpec.ofChange Rows.linkWithSpec) :=
  OpenClaim.holds_of_wide 3 Try.f3 rfl rfl rfl rfl rfl rfl rfl ⟨rfl, rfl, rfl, rfl, rfl⟩ rfl rfl rfl rfl rfl LinkWith_named Try.func3 LinkWith_closed LinkWith_inst LinkWith_wrap
    (fun os started H enc _ => lifted os started H enc)
end Go.Proofs.Ytibhhcncefkoiaa
