/-
  The closed facts of the row of the law GensPlace, each reckoned by the kernel. The law itself is proved in another text.
-/
import Derived.Test.YtijdegmamdhcbaaDoorKer
import Derived.Deep.DeepHandedRow
import Derived.SevenTiedAt
namespace Go.Proofs.YtijdegmamdhcbaaDoor
open Go.ChangeShapes Go.WideShapes Go.ChangeAt

set_option maxHeartbeats 8000000 in
theorem GensPlace_closed : joinedFacts Tryd.prog 6 Tryd.f6 Rows.gensPlaceSpec Rows.gensPlaceRow = true := by
  simp only [joinedFacts, laidOut, mapsRowed_ok, stops_ok, stopKnobs_ok, stopsHeard_ok, mayEnter_ok, Bool.and_eq_true, Bool.and_true]
  repeat' apply And.intro
  all_goals (as_aux_lemma => kernel_rfl)
theorem GensPlace_named : Tryd.prog.funcNamed Rows.gensPlaceRow.func = some 6 := by kernel_rfl
theorem GensPlace_inst : Tryd.f6.isInstance Tryd.prog Rows.gensPlaceRow.origin Rows.gensPlaceRow.targs := of_decide_eq_true (by kernel_rfl)
theorem GensPlace_wrap : Tryd.f6.isWrapper Tryd.prog Rows.gensPlaceRow.wrapper Rows.gensPlaceRow.mainSum := by
  unfold Func.isWrapper
  first
    | (rw [if_pos (by decide +kernel)]; kernel_rfl)
    | (rw [if_neg (by decide +kernel)]; exact ⟨rfl, rfl⟩)
set_option maxRecDepth 100000 in
theorem GensPlace_over (lifted : ∀ (os : Os) (_ : os.Started) (H : Type) (enc : TypeId × Value → H) (F : Stop.Interp), ReturnsInHanded {} Tryd.checked os 6 .any ((OpenSpec.ofChange Rows.gensPlaceSpec).preRow enc Tryd.prog Tryd.f6 Rows.gensPlaceRow.domain false Rows.gensPlaceRow.laid) (((OpenSpec.ofChange Rows.gensPlaceSpec).at F).post enc Tryd.prog Tryd.f6 false true false false)) :
    Rows.gensPlaceRow.holds Tryd.pinned (OpenSpec.ofChange Rows.gensPlaceSpec) :=
  OpenClaim.holds_of_cond 6 Tryd.f6 rfl rfl rfl rfl rfl rfl rfl ⟨rfl, rfl, rfl, rfl, rfl⟩ rfl rfl rfl rfl rfl GensPlace_named Tryd.func6 GensPlace_closed GensPlace_inst GensPlace_wrap
    (fun os started H enc _ F => by rw [OpenClaim.pre_eq_preRow]; exact lifted os started H enc F)
set_option maxRecDepth 100000 in
theorem GensPlace_plain (f : FuncId) (fn : Func) (hf : Tryd.pinned.checked.prog.funcNamed Rows.gensPlaceRow.func = some f) (hfn : Tryd.pinned.checked.prog.funcs[f]? = some fn) :
    true = Tryd.pinned.checked.prog.looks [] ∧ ∀ (j : Nat) t, fn.params[j]? = some t → Tryd.pinned.checked.prog.wantsStandIn t = false := by
  obtain rfl : f = 6 := Option.some.inj ((show Tryd.prog.funcNamed Rows.gensPlaceRow.func = some 6 from GensPlace_named).symm.trans hf) |>.symm
  obtain rfl : fn = Tryd.f6 := (Option.some.inj (Tryd.func6.symm.trans hfn)).symm
  have hall : Tryd.f6.params.toList.all (fun t => !Tryd.prog.wantsStandIn t) = true := by kernel_rfl
  refine ⟨by kernel_rfl, fun j t ht => ?_⟩
  have := List.all_eq_true.1 hall t (by simpa using Array.mem_of_getElem? ht)
  show Tryd.prog.wantsStandIn t = false
  simpa using this
end Go.Proofs.YtijdegmamdhcbaaDoor
