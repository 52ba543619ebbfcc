/-
  The closed facts of the row of the law FoldsAgain, each reckoned by the kernel. The law itself is proved in another text.
-/
import Derived.Test.YtijdegmamdhcbaaDoorKer
import Derived.Deep.DeepHandedRow
import Derived.SevenTiedAt
namespace Go.Proofs.YtijdegmamdhcbaaDoor
open Go.ChangeShapes Go.WideShapes Go.ChangeAt

set_option maxHeartbeats 8000000 in
theorem FoldsAgain_closed:joinedFacts Tryd.prog 9 Tryd.f9 Rows.foldsAgainSpec Rows.foldsAgainRow=true:=by
 simp only[joinedFacts,laidOut,mapsRowed_ok,stops_ok,stopKnobs_ok,stopsHeard_ok,mayEnter_ok,Bool.and_eq_true,Bool.and_true]
 repeat' apply And.intro
 all_goals (as_aux_lemma=>kernel_rfl)
theorem FoldsAgain_named:Tryd.prog.funcNamed Rows.foldsAgainRow.func=some 9:=by kernel_rfl
theorem FoldsAgain_inst:Tryd.f9.isInstance Tryd.prog Rows.foldsAgainRow.origin Rows.foldsAgainRow.targs:=of_decide_eq_true (by kernel_rfl)
theorem FoldsAgain_wrap:Tryd.f9.isWrapper Tryd.prog Rows.foldsAgainRow.wrapper Rows.foldsAgainRow.mainSum:=by
 unfold Func.isWrapper
 first
  | (rw[if_pos (by decide +kernel)];kernel_rfl)
  | (rw[if_neg (by decide +kernel)];exact ⟨rfl,rfl⟩)
set_option maxRecDepth 100000 in
theorem FoldsAgain_over (lifted:∀ (os:Os) (_:os.Started) (H:Type) (enc:TypeId × Value→H) (F:Stop.Interp),ReturnsInHanded {} Tryd.checked os 9 .any ((OpenSpec.ofChange Rows.foldsAgainSpec).preRow enc Tryd.prog Tryd.f9 Rows.foldsAgainRow.domain false Rows.foldsAgainRow.laid) (((OpenSpec.ofChange Rows.foldsAgainSpec).at F).post enc Tryd.prog Tryd.f9 false true false false)) :
  Rows.foldsAgainRow.holds Tryd.pinned (OpenSpec.ofChange Rows.foldsAgainSpec) :=
 OpenClaim.holds_of_cond 9 Tryd.f9 rfl rfl rfl rfl rfl rfl rfl ⟨rfl,rfl,rfl,rfl,rfl⟩ rfl rfl rfl rfl rfl FoldsAgain_named Tryd.func9 FoldsAgain_closed FoldsAgain_inst FoldsAgain_wrap
  (fun os started H enc _ F=>by rw[OpenClaim.pre_eq_preRow];exact lifted os started H enc F)
set_option maxRecDepth 100000 in
theorem FoldsAgain_plain (f:FuncId) (fn:Func) (hf:Tryd.pinned.checked.prog.funcNamed Rows.foldsAgainRow.func=some f) (hfn:Tryd.pinned.checked.prog.funcs[f]?=some fn) :
  true=Tryd.pinned.checked.prog.looks []∧∀ (j:Nat) t,fn.params[j]?=some t→Tryd.pinned.checked.prog.wantsStandIn t=false:=by
 obtain rfl:f=9:=Option.some.inj ((show Tryd.prog.funcNamed Rows.foldsAgainRow.func=some 9 from FoldsAgain_named).symm.trans hf) |>.symm
 obtain rfl:fn=Tryd.f9:=(Option.some.inj (Tryd.func9.symm.trans hfn)).symm
 have hall:Tryd.f9.params.toList.all (fun t=>!Tryd.prog.wantsStandIn t)=true:=by kernel_rfl
 refine ⟨by kernel_rfl,fun j t ht=>?_⟩
 have:=List.all_eq_true.1 hall t (by simpa using Array.mem_of_getElem? ht)
 show Tryd.prog.wantsStandIn t=false
 simpa using this
end Go.Proofs.YtijdegmamdhcbaaDoor
