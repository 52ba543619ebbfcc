/-
  The closed facts of the row of the law TokenWords, each reckoned by the kernel. The law itself is proved in another text.
-/
import Derived.Test.YtbgabnnlmebhpaaKer
namespace Go.Proofs.Ytbgabnnlmebhpaa
open Go.ChangeShapes Go.WideShapes Go.ChangeAt

set_option maxHeartbeats 8000000 in
theorem TokenWords_closed : joinedFacts Try.prog 10 Try.f10 Rows.tokenWordsSpec Rows.tokenWordsRow = true := by
  simp only [joinedFacts, laidOut, mapsRowed_ok, stops_ok, stopKnobs_ok, stopsHeard_ok, mayEnter_ok, Bool.and_eq_true, Bool.and_true]
  repeat' apply And.intro
  all_goals (as_aux_lemma => kernel_rfl)
theorem TokenWords_named : Try.prog.funcNamed Rows.tokenWordsRow.func = some 10 := by kernel_rfl
theorem TokenWords_inst : Try.f10.isInstance Try.prog Rows.tokenWordsRow.origin Rows.tokenWordsRow.targs := of_decide_eq_true (by kernel_rfl)
theorem TokenWords_wrap : Try.f10.isWrapper Try.prog Rows.tokenWordsRow.wrapper Rows.tokenWordsRow.mainSum := by
  unfold Func.isWrapper
  first
    | (rw [if_pos (by decide +kernel)]; kernel_rfl)
    | (rw [if_neg (by decide +kernel)]; exact ⟨rfl, rfl⟩)
theorem TokenWords_over (lifted : ∀ (os : Os) (_ : os.Started) (H : Type) (enc : TypeId × Value → H), ReturnsInHanded {} Try.checked os 10 .any (Rows.tokenWordsSpec.pre6 enc Try.prog Try.f10 Rows.tokenWordsRow.domain false) (Rows.tokenWordsSpec.post enc Try.prog Try.f10 false true false false)) :
    Rows.tokenWordsRow.holds Try.pinned (OpenSpec.ofChange Rows.tokenWordsSpec) :=
  OpenClaim.holds_of_wide 10 Try.f10 rfl rfl rfl rfl rfl rfl rfl ⟨rfl, rfl, rfl, rfl, rfl⟩ rfl rfl rfl rfl rfl TokenWords_named Try.func10 TokenWords_closed TokenWords_inst TokenWords_wrap
    (fun os started H enc _ => lifted os started H enc)
end Go.Proofs.Ytbgabnnlmebhpaa
