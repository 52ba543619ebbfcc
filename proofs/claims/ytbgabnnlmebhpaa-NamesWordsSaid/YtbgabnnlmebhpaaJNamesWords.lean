/-
  The closed facts of the row of the law NamesWords, each reckoned by the kernel. The law itself is proved in another text.
-/
import Derived.Test.YtbgabnnlmebhpaaKer
namespace Go.Proofs.Ytbgabnnlmebhpaa
open Go.ChangeShapes Go.WideShapes Go.ChangeAt

set_option maxHeartbeats 8000000 in
theorem NamesWords_closed : joinedFacts Try.prog 6 Try.f6 Rows.namesWordsSpec Rows.namesWordsRow = true := by
  simp only [joinedFacts, laidOut, mapsRowed_ok, stops_ok, stopKnobs_ok, stopsHeard_ok, mayEnter_ok, Bool.and_eq_true, Bool.and_true]
  repeat' apply And.intro
  all_goals (as_aux_lemma => kernel_rfl)
theorem NamesWords_named : Try.prog.funcNamed Rows.namesWordsRow.func = some 6 := by kernel_rfl
theorem NamesWords_inst : Try.f6.isInstance Try.prog Rows.namesWordsRow.origin Rows.namesWordsRow.targs := of_decide_eq_true (by kernel_rfl)
theorem NamesWords_wrap : Try.f6.isWrapper Try.prog Rows.namesWordsRow.wrapper Rows.namesWordsRow.mainSum := by
  unfold Func.isWrapper
  first
    | (rw [if_pos (by decide +kernel)]; kernel_rfl)
    | (rw [if_neg (by decide +kernel)]; exact ⟨rfl, rfl⟩)
theorem NamesWords_over (lifted : ∀ (os : Os) (_ : os.Started) (H : Type) (enc : TypeId × Value → H), ReturnsInHanded {} Try.checked os 6 .any (Rows.namesWordsSpec.pre6 enc Try.prog Try.f6 Rows.namesWordsRow.domain false) (Rows.namesWordsSpec.post enc Try.prog Try.f6 false true false false)) :
    Rows.namesWordsRow.holds Try.pinned (OpenSpec.ofChange Rows.namesWordsSpec) :=
  OpenClaim.holds_of_wide 6 Try.f6 rfl rfl rfl rfl rfl rfl rfl ⟨rfl, rfl, rfl, rfl, rfl⟩ rfl rfl rfl rfl rfl NamesWords_named Try.func6 NamesWords_closed NamesWords_inst NamesWords_wrap
    (fun os started H enc _ => lifted os started H enc)
end Go.Proofs.Ytbgabnnlmebhpaa
