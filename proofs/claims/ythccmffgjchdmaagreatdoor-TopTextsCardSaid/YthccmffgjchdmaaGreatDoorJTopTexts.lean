/-
  The closed facts of the row of the law TopTexts, each reckoned by the kernel. The law itself is proved in another text.
-/
import Derived.Test.YthccmffgjchdmaaGreatDoorKer
import Derived.Deep.DeepHandedRow
import Derived.SevenTiedAt
namespace Go.Proofs.YthccmffgjchdmaaGreatDoor
open Go.ChangeShapes Go.WideShapes Go.ChangeAt

set_option maxHeartbeats 8000000 in
theorem TopTexts_closed : joinedFacts Tryz.prog 3 Tryz.f3 Rows.topTextsSpec Rows.topTextsRow = true := by
  simp only [joinedFacts, laidOut, mapsRowed_ok, stops_ok, stopKnobs_ok, stopsHeard_ok, mayEnter_ok, Bool.and_eq_true, Bool.and_true]
  repeat' apply And.intro
  all_goals (as_aux_lemma => kernel_rfl)
theorem TopTexts_named : Tryz.prog.funcNamed Rows.topTextsRow.func = some 3 := by kernel_rfl
theorem TopTexts_inst : Tryz.f3.isInstance Tryz.prog Rows.topTextsRow.origin Rows.topTextsRow.targs := of_decide_eq_true (by kernel_rfl)
theorem TopTexts_wrap : Tryz.f3.isWrapper Tryz.prog Rows.topTextsRow.wrapper Rows.topTextsRow.mainSum := by
  unfold Func.isWrapper
  first
    | (rw [if_pos (by decide +kernel)]; kernel_rfl)
    | (rw [if_neg (by decide +kernel)]; exact ⟨rfl, rfl⟩)
set_option maxRecDepth 100000 in
theorem TopTexts_over (lifted : ∀ (os : Os) (_ : os.Started) (H : Type) (enc : TypeId × Value → H) (F : Stop.Interp), ReturnsInHanded {} Tryz.checked os 3 .any ((OpenSpec.ofChange Rows.topTextsSpec).preRow enc Tryz.prog Tryz.f3 Rows.topTextsRow.domain false Rows.topTextsRow.laid) (((OpenSpec.ofChange Rows.topTextsSpec).at F).post enc Tryz.prog Tryz.f3 false true false false)) :
    Rows.topTextsRow.holds Tryz.pinned (OpenSpec.ofChange Rows.topTextsSpec) :=
  OpenClaim.holds_of_cond 3 Tryz.f3 rfl rfl rfl rfl rfl rfl rfl ⟨rfl, rfl, rfl, rfl, rfl⟩ rfl rfl rfl rfl rfl TopTexts_named Tryz.func3 TopTexts_closed TopTexts_inst TopTexts_wrap
    (fun os started H enc _ F => by rw [OpenClaim.pre_eq_preRow]; exact lifted os started H enc F)
set_option maxRecDepth 100000 in
theorem TopTexts_plain (f : FuncId) (fn : Func) (hf : Tryz.pinned.checked.prog.funcNamed Rows.topTextsRow.func = some f) (hfn : Tryz.pinned.checked.prog.funcs[f]? = some fn) :
    true = Tryz.pinned.checked.prog.looks [] ∧ ∀ (j : Nat) t, fn.params[j]? = some t → Tryz.pinned.checked.prog.wantsStandIn t = false := by
  obtain rfl : f = 3 := Option.some.inj ((show Tryz.prog.funcNamed Rows.topTextsRow.func = some 3 from TopTexts_named).symm.trans hf) |>.symm
  obtain rfl : fn = Tryz.f3 := (Option.some.inj (Tryz.func3.symm.trans hfn)).symm
  have hall : Tryz.f3.params.toList.all (fun t => !Tryz.prog.wantsStandIn t) = true := by kernel_rfl
  refine ⟨by kernel_rfl, fun j t ht => ?_⟩
  have := List.all_eq_true.1 hall t (by simpa using Array.mem_of_getElem? ht)
  show Tryz.prog.wantsStandIn t = false
  simpa using this
end Go.Proofs.YthccmffgjchdmaaGreatDoor
