/-
  The closed facts of the row of the law NamesChecks, each reckoned by the kernel. The law itself is proved in another text.
-/
import Derived.Test.YtbgabnnlmebhpaaKer
namespace Go.Proofs.Ytbgabnnlmebhpaa
open Go.ChangeShapes Go.WideShapes Go.ChangeAt

set_option maxHeartbeats 8000000 in
theorem NamesChecks_closed : joinedFacts Try.prog 16 Try.f16 Rows.namesChecksSpec Rows.namesChecksRow = true := by
  simp only [joinedFacts, laidOut, mapsRowed_ok, stops_ok, stopKnobs_ok, stopsHeard_ok, mayEnter_ok, Bool.and_eq_true, Bool.and_true]
  repeat' apply And.intro
  all_goals (as_aux_lemma => kernel_rfl)
theorem NamesChecks_named : Try.prog.funcNamed Rows.namesChecksRow.func = some 16 := by kernel_rfl
theorem NamesChecks_inst : Try.f16.isInstance Try.prog Rows.namesChecksRow.origin Rows.namesChecksRow.targs := of_decide_eq_true (by kernel_rfl)
theorem NamesChecks_wrap : Try.f16.isWrapper Try.prog Rows.namesChecksRow.wrapper Rows.namesChecksRow.mainSum := by
  unfold Func.isWrapper
  first
    | (rw [if_pos (by decide +kernel)]; kernel_rfl)
    | (rw [if_neg (by decide +kernel)]; exact ⟨rfl, rfl⟩)
theorem NamesChecks_over (lifted : ∀ (os : Os) (_ : os.Started) (H : Type) (enc : TypeId × Value → H), ReturnsInHanded {} Try.checked os 16 .any (Rows.namesChecksSpec.pre6 enc Try.prog Try.f16 Rows.namesChecksRow.domain false) (Rows.namesChecksSpec.post enc Try.prog Try.f16 false true false false)) :
    Rows.namesChecksRow.holds Try.pinned (OpenSpec.ofChange Rows.namesChecksSpec) :=
  OpenClaim.holds_of_wide 16 Try.f16 rfl rfl rfl rfl rfl rfl rfl ⟨rfl, rfl, rfl, rfl, rfl⟩ rfl rfl rfl rfl rfl NamesChecks_named Try.func16 NamesChecks_closed NamesChecks_inst NamesChecks_wrap
    (fun os started H enc _ => lifted os started H enc)
end Go.Proofs.Ytbgabnnlmebhpaa
