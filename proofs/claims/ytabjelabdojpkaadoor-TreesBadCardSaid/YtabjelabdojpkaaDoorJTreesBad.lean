/-
  The closed facts of the row of the law TreesBad, each reckoned by the kernel. The law itself is proved in another text.
-/
import Derived.Test.YtabjelabdojpkaaDoorKer
import Derived.Deep.DeepHandedRow
import Derived.SevenTiedAt
namespace Go.Proofs.YtabjelabdojpkaaDoor
open Go.ChangeShapes Go.WideShapes Go.ChangeAt

set_option maxHeartbeats 8000000 in
theorem TreesBad_closed:joinedFacts Tryd.prog 4 Tryd.f4 Rows.treesBadSpec Rows.treesBadRow=true:=by
 simp only[joinedFacts,laidOut,mapsRowed_ok,stops_ok,stopKnobs_ok,stopsHeard_ok,mayEnter_ok,Bool.and_eq_true,Bool.and_true]
 repeat' apply And.intro
 all_goals (as_aux_lemma=>kernel_rfl)
theorem TreesBad_named:Tryd.prog.funcNamed Rows.treesBadRow.func=some 4:=by kernel_rfl
theorem TreesBad_inst:Tryd.f4.isInstance Tryd.prog Rows.treesBadRow.origin Rows.treesBadRow.targs:=of_decide_eq_true (by kernel_rfl)
theorem TreesBad_wrap:Tryd.f4.isWrapper Tryd.prog Rows.treesBadRow.wrapper Rows.treesBadRow.mainSum:=by
 unfold Func.isWrapper
 first
  | (rw[if_pos (by decide +kernel)];kernel_rfl)
  | (rw[if_neg (by decide +kernel)];exact ⟨rfl,rfl⟩)
set_option maxRecDepth 100000 in
theorem TreesBad_over (lifted:∀ (os:Os) (_:os.Started) (H:Type) (enc:TypeId × Value→H) (F:Stop.Interp),ReturnsInHanded {} Tryd.checked os 4 .any ((OpenSpec.ofChange Rows.treesBadSpec).preRow enc Tryd.prog Tryd.f4 Rows.treesBadRow.domain false Rows.treesBadRow.laid) (((OpenSpec.ofChange Rows.treesBadSpec).at F).post enc Tryd.prog Tryd.f4 false true false false)) :
  Rows.treesBadRow.holds Tryd.pinned (OpenSpec.ofChange Rows.treesBadSpec) :=
 OpenClaim.holds_of_cond 4 Tryd.f4 rfl rfl rfl rfl rfl rfl rfl ⟨rfl,rfl,rfl,rfl,rfl⟩ rfl rfl rfl rfl rfl TreesBad_named Tryd.func4 TreesBad_closed TreesBad_inst TreesBad_wrap
  (fun os started H enc _ F=>by rw[OpenClaim.pre_eq_preRow];exact lifted os started H enc F)
set_option maxRecDepth 100000 in
theorem TreesBad_plain (f:FuncId) (fn:Func) (hf:Tryd.pinned.checked.prog.funcNamed Rows.treesBadRow.func=some f) (hfn:Tryd.pinned.checked.prog.funcs[f]?=some fn) :
  true=Tryd.pinned.checked.prog.looks []∧∀ (j:Nat) t,fn.params[j]?=some t→Tryd.pinned.checked.prog.wantsStandIn t=false:=by
 obtain rfl:f=4:=Option.some.inj ((show Tryd.prog.funcNamed Rows.treesBadRow.func=some 4 from TreesBad_named).symm.trans hf) |>.symm
 obtain rfl:fn=Tryd.f4:=(Option.some.inj (Tryd.func4.symm.trans hfn)).symm
 have hall:Tryd.f4.params.toList.all (fun t=>!Tryd.prog.wantsStandIn t)=true:=by kernel_rfl
 refine ⟨by kernel_rfl,fun j t ht=>?_⟩
 have:=List.all_eq_true.1 hall t (by simpa using Array.mem_of_getElem? ht)
 show Tryd.prog.wantsStandIn t=false
 simpa using this
end Go.Proofs.YtabjelabdojpkaaDoor
