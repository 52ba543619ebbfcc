/-
  The closed facts of the row of the law TreesBack, each reckoned by the kernel. The law itself is proved in another text.
-/
import Derived.Test.YtabjelabdojpkaaDoorKer
import Derived.Deep.DeepHandedRow
import Derived.SevenTiedAt
namespace Go.Proofs.YtabjelabdojpkaaDoor
open Go.ChangeShapes Go.WideShapes Go.ChangeAt

set_option maxHeartbeats 8000000 in
theorem TreesBack_closed:joinedFacts Tryd.prog 5 Tryd.f5 Rows.treesBackSpec Rows.treesBackRow=true:=by
 simp only[joinedFacts,laidOut,mapsRowed_ok,stops_ok,stopKnobs_ok,stopsHeard_ok,mayEnter_ok,Bool.and_eq_true,Bool.and_true]
 repeat' apply And.intro
 all_goals (as_aux_lemma=>kernel_rfl)
theorem TreesBack_named:Tryd.prog.funcNamed Rows.treesBackRow.func=some 5:=by kernel_rfl
theorem TreesBack_inst:Tryd.f5.isInstance Tryd.prog Rows.treesBackRow.origin Rows.treesBackRow.targs:=of_decide_eq_true (by kernel_rfl)
theorem TreesBack_wrap:Tryd.f5.isWrapper Tryd.prog Rows.treesBackRow.wrapper Rows.treesBackRow.mainSum:=by
 unfold Func.isWrapper
 first
  | (rw[if_pos (by decide +kernel)];kernel_rfl)
  | (rw[if_neg (by decide +kernel)];exact ⟨rfl,rfl⟩)
set_option maxRecDepth 100000 in
theorem TreesBack_over (lifted:∀ (os:Os) (_:os.Started) (H:Type) (enc:TypeId × Value→H) (F:Stop.Interp),ReturnsInHanded {} Tryd.checked os 5 .any ((OpenSpec.ofChange Rows.treesBackSpec).preRow enc Tryd.prog Tryd.f5 Rows.treesBackRow.domain false Rows.treesBackRow.laid) (((OpenSpec.ofChange Rows.treesBackSpec).at F).post enc Tryd.prog Tryd.f5 false true false false)) :
  Rows.treesBackRow.holds Tryd.pinned (OpenSpec.ofChange Rows.treesBackSpec) :=
 OpenClaim.holds_of_cond 5 Tryd.f5 rfl rfl rfl rfl rfl rfl rfl ⟨rfl,rfl,rfl,rfl,rfl⟩ rfl rfl rfl rfl rfl TreesBack_named Tryd.func5 TreesBack_closed TreesBack_inst TreesBack_wrap
  (fun os started H enc _ F=>by rw[OpenClaim.pre_eq_preRow];exact lifted os started H enc F)
set_option maxRecDepth 100000 in
theorem TreesBack_plain (f:FuncId) (fn:Func) (hf:Tryd.pinned.checked.prog.funcNamed Rows.treesBackRow.func=some f) (hfn:Tryd.pinned.checked.prog.funcs[f]?=some fn) :
  true=Tryd.pinned.checked.prog.looks []∧∀ (j:Nat) t,fn.params[j]?=some t→Tryd.pinned.checked.prog.wantsStandIn t=false:=by
 obtain rfl:f=5:=Option.some.inj ((show Tryd.prog.funcNamed Rows.treesBackRow.func=some 5 from TreesBack_named).symm.trans hf) |>.symm
 obtain rfl:fn=Tryd.f5:=(Option.some.inj (Tryd.func5.symm.trans hfn)).symm
 have hall:Tryd.f5.params.toList.all (fun t=>!Tryd.prog.wantsStandIn t)=true:=by kernel_rfl
 refine ⟨by kernel_rfl,fun j t ht=>?_⟩
 have:=List.all_eq_true.1 hall t (by simpa using Array.mem_of_getElem? ht)
 show Tryd.prog.wantsStandIn t=false
 simpa using this
end Go.Proofs.YtabjelabdojpkaaDoor
