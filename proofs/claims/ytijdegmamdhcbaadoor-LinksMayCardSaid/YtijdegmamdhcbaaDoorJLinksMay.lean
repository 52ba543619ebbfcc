/-
  The closed facts of the row of the law LinksMay, each reckoned by the kernel. The law itself is proved in another text.
-/
import Derived.Test.YtijdegmamdhcbaaDoorKer
import Derived.Deep.DeepHandedRow
import Derived.SevenTiedAt
namespace Go.Proofs.YtijdegmamdhcbaaDoor
open Go.ChangeShapes Go.WideShapes Go.ChangeAt

set_option maxHeartbeats 8000000 in
theorem LinksMay_closed : joinedFacts Tryd.prog 10 Tryd.f10 Rows.linksMaySpec Rows.linksMayRow = true := by
  simp only [joinedFacts, laidOut, mapsRowed_ok, stops_ok, stopKnobs_ok, stopsHeard_ok, mayEnter_ok, Bool.and_eq_true, Bool.and_true]
  repeat' apply And.intro
  all_goals (as_aux_lemma => kernel_rfl)
theorem LinksMay_named : Tryd.prog.funcNamed Rows.linksMayRow.func = some 10 := by kernel_rfl
theorem LinksMay_inst : Tryd.f10.isInstance Tryd.prog Rows.linksMayRow.origin Rows.linksMayRow.targs := of_decide_eq_true (by kernel_rfl)
theorem LinksMay_wrap : Tryd.f10.isWrapper Tryd.prog Rows.linksMayRow.wrapper Rows.linksMayRow.mainSum := by
  unfold Func.isWrapper
  first
    | (rw [if_pos (by decide +kernel)]; kernel_rfl)
    | (rw [if_neg (by decide +kernel)]; exact ⟨rfl, rfl⟩)
set_option maxRecDepth 100000 in
theorem LinksMay_over (lifted : ∀ (os : Os) (_ : os.Started) (H : Type) (enc : TypeId × Value → H) (F : Stop.Interp), ReturnsInHanded {} Tryd.checked os 10 .any ((OpenSpec.ofChange Rows.linksMaySpec).preRow enc Tryd.prog Tryd.f10 Rows.linksMayRow.domain false Rows.linksMayRow.laid) (((OpenSpec.ofChange Rows.linksMaySpec).at F).post enc Tryd.prog Tryd.f10 false true false false)) :
    Rows.linksMayRow.holds Tryd.pinned (OpenSpec.ofChange Rows.linksMaySpec) :=
  OpenClaim.holds_of_cond 10 Tryd.f10 rfl rfl rfl rfl rfl rfl rfl ⟨rfl, rfl, rfl, rfl, rfl⟩ rfl rfl rfl rfl rfl LinksMay_named Tryd.func10 LinksMay_closed LinksMay_inst LinksMay_wrap
    (fun os started H enc _ F => by rw [OpenClaim.pre_eq_preRow]; exact lifted os started H enc F)
set_option maxRecDepth 100000 in
theorem LinksMay_plain (f : FuncId) (fn : Func) (hf : Tryd.pinned.checked.prog.funcNamed Rows.linksMayRow.func = some f) (hfn : Tryd.pinned.checked.prog.funcs[f]? = some fn) :
    true = Tryd.pinned.checked.prog.looks [] ∧ ∀ (j : Nat) t, fn.params[j]? = some t → Tryd.pinned.checked.prog.wantsStandIn t = false := by
  obtain rfl : f = 10 := Option.some.inj ((show Tryd.prog.funcNamed Rows.linksMayRow.func = some 10 from LinksMay_named).symm.trans hf) |>.symm
  obtain rfl : fn = Tryd.f10 := (Option.some.inj (Tryd.func10.symm.trans hfn)).symm
  have hall : Tryd.f10.params.toList.all (fun t => !Tryd.prog.wantsStandIn t) = true := by kernel_rfl
  refine ⟨by kernel_rfl, fun j t ht => ?_⟩
  have := List.all_eq_true.1 hall t (by simpa using Array.mem_of_getElem? ht)
  show Tryd.prog.wantsStandIn t = false
  simpa using this
end Go.Proofs.YtijdegmamdhcbaaDoor
