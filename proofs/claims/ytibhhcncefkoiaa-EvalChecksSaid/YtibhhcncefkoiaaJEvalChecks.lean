/-
  The closed facts of the row of the law EvalChecks, each reckoned by the kernel. The law itself is proved in another text.
-/
import Derived.Test.YtibhhcncefkoiaaKer
namespace Go.Proofs.Ytibhhcncefkoiaa
open Go.ChangeShapes Go.WideShapes Go.ChangeAt

set_option maxHeartbeats 8000000 in
theorem EvalChecks_closed : joinedFacts Try.prog 4 Try.f4 Rows.evalChecksSpec Rows.evalChecksRow = true := by
  simp only [joinedFacts, laidOut, mapsRowed_ok, stops_ok, stopKnobs_ok, stopsHeard_ok, mayEnter_ok, Bool.and_eq_true, Bool.and_true]
  repeat' apply And.intro
  all_goals (as_aux_lemma => kernel_rfl)
theorem EvalChecks_named : Try.prog.funcNamed Rows.evalChecksRow.func = some 4 := by kernel_rfl
theorem EvalChecks_inst : Try.f4.isInstance Try.prog Rows.evalChecksRow.origin Rows.evalChecksRow.targs := of_decide_eq_true (by kernel_rfl)
theorem EvalChecks_wrap : Try.f4.isWrapper Try.prog Rows.evalChecksRow.wrapper Rows.evalChecksRow.mainSum := by
  unfold Func.isWrapper
  first
    | (rw [if_pos (by decide +kernel)]; kernel_rfl)
    | (rw [if_neg (by decide +kernel)]; exact ⟨rfl, rfl⟩)
theorem EvalChecks_over (lifted : ∀ (os : Os) (_ : os.Started) (H : Type) (enc : TypeId × Value → H), ReturnsInHanded {} Try.checked os 4 .any (Rows.evalChecksSpec.pre6 enc Try.prog Try.f4 Rows.evalChecksRow.domain false) (Rows.evalChecksSpec.post enc Try.prog Try.f4 false true false false)) :
    Rows.evalChecksRow.holds Try.pinned (OpenSpec.ofChange Rows.evalChecksSpec) :=
  OpenClaim.holds_of_wide 4 Try.f4 rfl rfl rfl rfl rfl rfl rfl ⟨rfl, rfl, rfl, rfl, rfl⟩ rfl rfl rfl rfl rfl EvalChecks_named Try.func4 EvalChecks_closed EvalChecks_inst EvalChecks_wrap
    (fun os started H enc _ => lifted os started H enc)
end Go.Proofs.Ytibhhcncefkoiaa
