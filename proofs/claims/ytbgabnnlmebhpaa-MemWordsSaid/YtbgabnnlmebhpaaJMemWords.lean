/-
  The closed facts of the row of the law MemWords, each reckoned by the kernel. The law itself is proved in another text.
-/
import Derived.Test.YtbgabnnlmebhpaaKer
namespace Go.Proofs.Ytbgabnnlmebhpaa
open Go.ChangeShapes Go.WideShapes Go.ChangeAt

set_option maxHeartbeats 8000000 in
theorem MemWords_closed : joinedFacts Try.prog 5 Try.f5 Rows.memWordsSpec Rows.memWordsRow = true := by
  simp only [joinedFacts, laidOut, mapsRowed_ok, stops_ok, stopKnobs_ok, stopsHeard_ok, mayEnter_ok, Bool.and_eq_true, Bool.and_true]
  repeat' apply And.intro
  all_goals (as_aux_lemma => kernel_rfl)
theorem MemWords_named : Try.prog.funcNamed Rows.memWordsRow.func = some 5 := by kernel_rfl
theorem MemWords_inst : Try.f5.isInstance Try.prog Rows.memWordsRow.origin Rows.memWordsRow.targs := of_decide_eq_true (by kernel_rfl)
theorem MemWords_wrap : Try.f5.isWrapper Try.prog Rows.memWordsRow.wrapper Rows.memWordsRow.mainSum := by
  unfold Func.isWrapper
  first
    | (rw [if_pos (by decide +kernel)]; kernel_rfl)
    | (rw [if_neg (by decide +kernel)]; exact ⟨rfl, rfl⟩)
theorem MemWords_over (lifted : ∀ (os : Os) (_ : os.Started) (H : Type) (enc : TypeId × Value → H), ReturnsInHanded {} Try.checked os 5 .any (Rows.memWordsSpec.pre6 enc Try.prog Try.f5 Rows.memWordsRow.domain false) (Rows.memWordsSpec.post enc Try.prog Try.f5 false true false false)) :
    Rows.memWordsRow.holds Try.pinned (OpenSpec.ofChange Rows.memWordsSpec) :=
  OpenClaim.holds_of_wide 5 Try.f5 rfl rfl rfl rfl rfl rfl rfl ⟨rfl, rfl, rfl, rfl, rfl⟩ rfl rfl rfl rfl rfl MemWords_named Try.func5 MemWords_closed MemWords_inst MemWords_wrap
    (fun os started H enc _ => lifted os started H enc)
end Go.Proofs.Ytbgabnnlmebhpaa
