/-
  The closed facts of the row of the law TopEntries, each reckoned by the kernel. The law itself is proved in another text.
-/
import Derived.Test.YtijdegmamdhcbaaDoorKer
import Derived.Deep.DeepHandedRow
import Derived.SevenTiedAt
namespace Go.Proofs.YtijdegmamdhcbaaDoor
open Go.ChangeShapes Go.WideShapes Go.ChangeAt

set_option maxHeartbeats 8000000 in
theorem TopEntries_closed : joinedFacts Tryd.prog 3 Tryd.f3 Rows.topEntriesSpec Rows.topEntriesRow = true := by
  simp only [joinedFacts, laidOut, mapsRowed_ok, stops_ok, stopKnobs_ok, stopsHeard_ok, mayEnter_ok, Bool.and_eq_true, Bool.and_true]
  repeat' apply And.intro
  all_goals (as_aux_lemma => kernel_rfl)
theorem TopEntries_named : Tryd.prog.funcNamed Rows.topEntriesRow.func = some 3 := by kernel_rfl
theorem TopEntries_inst : Tryd.f3.isInstance Tryd.prog Rows.topEntriesRow.origin Rows.topEntriesRow.targs := of_decide_eq_true (by kernel_rfl)
theorem TopEntries_wrap : Tryd.f3.isWrapper Tryd.prog Rows.topEntriesRow.wrapper Rows.topEntriesRow.mainSum := by
  unfold Func.isWrapper
  first
    | (rw [if_pos (by decide +kernel)]; kernel_rfl)
    | (rw [if_neg (by decide +kernel)]; exact ⟨rfl, rfl⟩)
set_option maxRecDepth 100000 in
theorem TopEntries_over (lifted : ∀ (os : Os) (_ : os.Started) (H : Type) (enc : TypeId × Value → H) (F : Stop.Interp), ReturnsInHanded {} Tryd.checked os 3 .any ((OpenSpec.ofChange Rows.topEntriesSpec).preRow enc Tryd.prog Tryd.f3 Rows.topEntriesRow.domain false Rows.topEntriesRow.laid) (((OpenSpec.ofChange Rows.topEntriesSpec).at F).post enc Tryd.prog Tryd.f3 false true false false)) :
    Rows.topEntriesRow.holds Tryd.pinned (OpenSpec.ofChange Rows.topEntriesSpec) :=
  OpenClaim.holds_of_cond 3 Tryd.f3 rfl rfl rfl rfl rfl rfl rfl ⟨rfl, rfl, rfl, rfl, rfl⟩ rfl rfl rfl rfl rfl TopEntries_named Tryd.func3 TopEntries_closed TopEntries_inst TopEntries_wrap
    (fun os started H enc _ F => by rw [OpenClaim.pre_eq_preRow]; exact lifted os started H enc F)
set_option maxRecDepth 100000 in
theorem TopEntries_plain (f : FuncId) (fn : Func) (hf : Tryd.pinned.checked.prog.funcNamed Rows.topEntriesRow.func = some f) (hfn : Tryd.pinned.checked.prog.funcs[f]? = some fn) :
    true = Tryd.pinned.checked.prog.looks [] ∧ ∀ (j : Nat) t, fn.params[j]? = some t → Tryd.pinned.checked.prog.wantsStandIn t = false := by
  obtain rfl : f = 3 := Option.some.inj ((show Tryd.prog.funcNamed Rows.topEntriesRow.func = some 3 from TopEntries_named).symm.trans hf) |>.symm
  obtain rfl : fn = Tryd.f3 := (Option.some.inj (Tryd.func3.symm.trans hfn)).symm
  have hall : Tryd.f3.params.toList.all (fun t => !Tryd.prog.wantsStandIn t) = true := by kernel_rfl
  refine ⟨by kernel_rfl, fun j t ht => ?_⟩
  have := List.all_eq_true.1 hall t (by simpa using Array.mem_of_getElem? ht)
  show Tryd.prog.wantsStandIn t = false
  simpa using this
end Go.Proofs.YtijdegmamdhcbaaDoor
