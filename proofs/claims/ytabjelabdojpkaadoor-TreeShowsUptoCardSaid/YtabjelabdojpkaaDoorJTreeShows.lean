/-
  The closed facts of the row of the law TreeShows, each reckoned by the kernel. The law itself is proved in another text.
-/
import Derived.Test.YtabjelabdojpkaaDoorKer
import Derived.Deep.DeepHandedRow
import Derived.JoinedCond
import Derived.SevenTiedAt
namespace Go.Proofs.YtabjelabdojpkaaDoor
open Go.ChangeShapes Go.WideShapes Go.ChangeAt

set_option maxHeartbeats 8000000 in
theorem TreeShows_closed:joinedFacts Tryd.prog 3 Tryd.f3 (Rows.OpenSpec.upto Rows.treeShowsSpec).bare Rows.treeShowsUptoRow=true:=by
 simp only[joinedFacts,laidOut,mapsRowed_ok,stops_ok,stopKnobs_ok,stopsHeard_ok,mayEnter_ok,Bool.and_eq_true,Bool.and_true]
 repeat' apply And.intro
 all_goals (as_aux_lemma=>kernel_rfl)
theorem TreeShows_named:Tryd.prog.funcNamed Rows.treeShowsUptoRow.func=some 3:=by kernel_rfl
theorem TreeShows_inst:Tryd.f3.isInstance Tryd.prog Rows.treeShowsUptoRow.origin Rows.treeShowsUptoRow.targs:=of_decide_eq_true (by kernel_rfl)
theorem TreeShows_wrap:Tryd.f3.isWrapper Tryd.prog Rows.treeShowsUptoRow.wrapper Rows.treeShowsUptoRow.mainSum:=by
 unfold Func.isWrapper
 first
  | (rw[if_pos (by decide +kernel)];kernel_rfl)
  | (rw[if_neg (by decide +kernel)];exact ⟨rfl,rfl⟩)
set_option maxRecDepth 100000 in
theorem TreeShows_over (lifted:∀ (os:Os) (_:os.Started) (H:Type) (enc:TypeId × Value→H) (F:Stop.Interp),ReturnsInHanded {} Tryd.checked os 3 .any ((Rows.OpenSpec.upto Rows.treeShowsSpec).preRow enc Tryd.prog Tryd.f3 Rows.treeShowsUptoRow.domain false Rows.treeShowsUptoRow.laid) (((Rows.OpenSpec.upto Rows.treeShowsSpec).at F).post enc Tryd.prog Tryd.f3 false true false false)) :
  Rows.treeShowsUptoRow.holds Tryd.pinned (Rows.OpenSpec.upto Rows.treeShowsSpec) :=
 OpenClaim.holds_of_cond 3 Tryd.f3 rfl rfl rfl rfl rfl rfl rfl ⟨rfl,rfl,rfl,rfl,rfl⟩ rfl rfl rfl rfl rfl TreeShows_named Tryd.func3 TreeShows_closed TreeShows_inst TreeShows_wrap
  (fun os started H enc _ F=>by rw[OpenClaim.pre_eq_preRow];exact lifted os started H enc F)
set_option maxRecDepth 100000 in
theorem TreeShows_plain (f:FuncId) (fn:Func) (hf:Tryd.pinned.checked.prog.funcNamed Rows.treeShowsUptoRow.func=some f) (hfn:Tryd.pinned.checked.prog.funcs[f]?=some fn) :
  true=Tryd.pinned.checked.prog.looks []∧∀ (j:Nat) t,fn.params[j]?=some t→Tryd.pinned.checked.prog.wantsStandIn t=false:=by
 obtain rfl:f=3:=Option.some.inj ((show Tryd.prog.funcNamed Rows.treeShowsUptoRow.func=some 3 from TreeShows_named).symm.trans hf) |>.symm
 obtain rfl:fn=Tryd.f3:=(Option.some.inj (Tryd.func3.symm.trans hfn)).symm
 have hall:Tryd.f3.params.toList.all (fun t=>!Tryd.prog.wantsStandIn t)=true:=by kernel_rfl
 refine ⟨by kernel_rfl,fun j t ht=>?_⟩
 have:=List.all_eq_true.1 hall t (by simpa using Array.mem_of_getElem? ht)
 show Tryd.prog.wantsStandIn t=false
 simpa using this
end Go.Proofs.YtabjelabdojpkaaDoor
