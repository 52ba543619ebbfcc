/-
  The closed facts of the row of the law MachineLoops, each reckoned by the kernel. The law itself is proved in another text.
-/
import Derived.Test.YthbdbjnakknbkaaDoorKer
import Derived.Deep.DeepHandedRow
import Derived.SevenTiedAt
namespace Go.Proofs.YthbdbjnakknbkaaDoor
open Go.ChangeShapes Go.WideShapes Go.ChangeAt

set_option maxHeartbeats 8000000 in
theorem MachineLoops_closed : joinedFacts Tryd.prog 6 Tryd.f6 Rows.machineLoopsSpec Rows.machineLoopsRow = true := by
  simp only [joinedFacts, laidOut, mapsRowed_ok, stops_ok, stopKnobs_ok, stopsHeard_ok, mayEnter_ok, Bool.and_eq_true, Bool.and_true]
  repeat' apply And.intro
  all_goals (as_aux_lemma => kernel_rfl)
theorem MachineLoops_named : Tryd.prog.funcNamed Rows.machineLoopsRow.func = some 6 := by kernel_rfl
theorem MachineLoops_inst : Tryd.f6.isInstance Tryd.prog Rows.machineLoopsRow.origin Rows.machineLoopsRow.targs := of_decide_eq_true (by kernel_rfl)
theorem MachineLoops_wrap : Tryd.f6.isWrapper Tryd.prog Rows.machineLoopsRow.wrapper Rows.machineLoopsRow.mainSum := by
  unfold Func.isWrapper
  first
    | (rw [if_pos (by decide +kernel)]; kernel_rfl)
    | (rw [if_neg (by decide +kernel)]; exact ⟨rfl, rfl⟩)
set_option maxRecDepth 100000 in
theorem MachineLoops_over (lifted : ∀ (os : Os) (_ : os.Started) (H : Type) (enc : TypeId × Value → H) (F : Stop.Interp), ReturnsInHanded {} Tryd.checked os 6 .any ((OpenSpec.ofChange Rows.machineLoopsSpec).preRow enc Tryd.prog Tryd.f6 Rows.machineLoopsRow.domain false Rows.machineLoopsRow.laid) (((OpenSpec.ofChange Rows.machineLoopsSpec).at F).post enc Tryd.prog Tryd.f6 false true false false)) :
    Rows.machineLoopsRow.holds Tryd.pinned (OpenSpec.ofChange Rows.machineLoopsSpec) :=
  OpenClaim.holds_of_cond 6 Tryd.f6 rfl rfl rfl rfl rfl rfl rfl ⟨rfl, rfl, rfl, rfl, rfl⟩ rfl rfl rfl rfl rfl MachineLoops_named Tryd.func6 MachineLoops_closed MachineLoops_inst MachineLoops_wrap
    (fun os started H enc _ F => by rw [OpenClaim.pre_eq_preRow]; exact lifted os started H enc F)
set_option maxRecDepth 100000 in
theorem MachineLoops_plain (f : FuncId) (fn : Func) (hf : Tryd.pinned.checked.prog.funcNamed Rows.machineLoopsRow.func = some f) (hfn : Tryd.pinned.checked.prog.funcs[f]? = some fn) :
    true = Tryd.pinned.checked.prog.looks [] ∧ ∀ (j : Nat) t, fn.params[j]? = some t → Tryd.pinned.checked.prog.wantsStandIn t = false := by
  obtain rfl : f = 6 := Option.some.inj ((show Tryd.prog.funcNamed Rows.machineLoopsRow.func = some 6 from MachineLoops_named).symm.trans hf) |>.symm
  obtain rfl : fn = Tryd.f6 := (Option.some.inj (Tryd.func6.symm.trans hfn)).symm
  have hall : Tryd.f6.params.toList.all (fun t => !Tryd.prog.wantsStandIn t) = true := by kernel_rfl
  refine ⟨by kernel_rfl, fun j t ht => ?_⟩
  have := List.all_eq_true.1 hall t (by simpa using Array.mem_of_getElem? ht)
  show Tryd.prog.wantsStandIn t = false
  simpa using this
end Go.Proofs.YthbdbjnakknbkaaDoor
