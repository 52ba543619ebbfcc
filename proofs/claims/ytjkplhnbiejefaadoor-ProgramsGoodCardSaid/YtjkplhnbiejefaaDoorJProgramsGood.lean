/-
  The closed facts of the row of the law ProgramsGood, each reckoned by the kernel. The law itself is proved in another text.
-/
import Derived.Test.YtjkplhnbiejefaaDoorKer
import Derived.Deep.DeepHandedRow
import Derived.SevenTiedAt
namespace Go.Proofs.YtjkplhnbiejefaaDoor
open Go.ChangeShapes Go.WideShapes Go.ChangeAt

set_option maxHeartbeats 8000000 in
theorem ProgramsGood_closed:joinedFacts Tryd.prog 3 Tryd.f3 Rows.programsGoodSpec Rows.programsGoodRow=true:=by
 simp only[joinedFacts,laidOut,mapsRowed_ok,stops_ok,stopKnobs_ok,stopsHeard_ok,mayEnter_ok,Bool.and_eq_true,Bool.and_true]
 repeat' apply And.intro
 all_goals (as_aux_lemma=>kernel_rfl)
theorem ProgramsGood_named:Tryd.prog.funcNamed Rows.programsGoodRow.func=some 3:=by kernel_rfl
theorem ProgramsGood_inst:Tryd.f3.isInstance Tryd.prog Rows.programsGoodRow.origin Rows.programsGoodRow.targs:=of_decide_eq_true (by kernel_rfl)
theorem ProgramsGood_wrap:Tryd.f3.isWrapper Tryd.prog Rows.programsGoodRow.wrapper Rows.programsGoodRow.mainSum:=by
 unfold Func.isWrapper
 first
  | (rw[if_pos (by decide +kernel)];kernel_rfl)
  | (rw[if_neg (by decide +kernel)];exact ⟨rfl,rfl⟩)
set_option maxRecDepth 100000 in
theorem ProgramsGood_over (lifted:∀ (os:Os) (_:os.Started) (H:Type) (enc:TypeId × Value→H) (F:Stop.Interp),ReturnsInHanded {} Tryd.checked os 3 .any ((OpenSpec.ofChange Rows.programsGoodSpec).preRow enc Tryd.prog Tryd.f3 Rows.programsGoodRow.domain false Rows.programsGoodRow.laid) (((OpenSpec.ofChange Rows.programsGoodSpec).at F).post enc Tryd.prog Tryd.f3 false true false false)) :
  Rows.programsGoodRow.holds Tryd.pinned (OpenSpec.ofChange Rows.programsGoodSpec) :=
 OpenClaim.holds_of_cond 3 Tryd.f3 rfl rfl rfl rfl rfl rfl rfl ⟨rfl,rfl,rfl,rfl,rfl⟩ rfl rfl rfl rfl rfl ProgramsGood_named Tryd.func3 ProgramsGood_closed ProgramsGood_inst ProgramsGood_wrap
  (fun os started H enc _ F=>by rw[OpenClaim.pre_eq_preRow];exact lifted os started H enc F)
set_option maxRecDepth 100000 in
theorem ProgramsGood_plain (f:FuncId) (fn:Func) (hf:Tryd.pinned.checked.prog.funcNamed Rows.programsGoodRow.func=some f) (hfn:Tryd.pinned.checked.prog.funcs[f]?=some fn) :
  true=Tryd.pinned.checked.prog.looks []∧∀ (j:Nat) t,fn.params[j]?=some t→Tryd.pinned.checked.prog.wantsStandIn t=false:=by
 obtain rfl:f=3:=Option.some.inj ((show Tryd.prog.funcNamed Rows.programsGoodRow.func=some 3 from ProgramsGood_named).symm.trans hf) |>.symm
 obtain rfl:fn=Tryd.f3:=(Option.some.inj (Tryd.func3.symm.trans hfn)).symm
 have hall:Tryd.f3.params.toList.all (fun t=>!Tryd.prog.wantsStandIn t)=true:=by kernel_rfl
 refine ⟨by kernel_rfl,fun j t ht=>?_⟩
 have:=List.all_eq_true.1 hall t (by simpa using Array.mem_of_getElem? ht)
 show Tryd.prog.wantsStandIn t=false
 simpa using this
end Go.Proofs.YtjkplhnbiejefaaDoor
