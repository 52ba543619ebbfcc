/-
  The closed facts of the row of the law TokenCuts, each reckoned by the kernel. The law itself is proved in another text.
-/
import Derived.Test.YtjlaaanmjaihaaaDoorKer
import Derived.Deep.DeepHandedRow
import Derived.SevenTiedAt
namespace Go.Proofs.YtjlaaanmjaihaaaDoor
open Go.ChangeShapes Go.WideShapes Go.ChangeAt

set_option maxHeartbeats 8000000 in
theorem TokenCuts_closed:joinedFacts Tryd.prog 3 Tryd.f3 Rows.tokenCutsSpec Rows.tokenCutsRow=true:=by
 simp only[joinedFacts,laidOut,mapsRowed_ok,stops_ok,stopKnobs_ok,stopsHeard_ok,mayEnter_ok,Bool.and_eq_true,Bool.and_true]
 repeat' apply And.intro
 all_goals (as_aux_lemma=>kernel_rfl)
theorem TokenCuts_named:Tryd.prog.funcNamed Rows.tokenCutsRow.func=some 3:=by kernel_rfl
theorem TokenCuts_inst:Tryd.f3.isInstance Tryd.prog Rows.tokenCutsRow.origin Rows.tokenCutsRow.targs:=of_decide_eq_true (by kernel_rfl)
theorem TokenCuts_wrap:Tryd.f3.isWrapper Tryd.prog Rows.tokenCutsRow.wrapper Rows.tokenCutsRow.mainSum:=by
 unfold Func.isWrapper
 first
  | (rw[if_pos (by decide +kernel)];kernel_rfl)
  | (rw[if_neg (by decide +kernel)];exact ⟨rfl,rfl⟩)
set_option maxRecDepth 100000 in
theorem TokenCuts_over (lifted:∀ (os:Os) (_:os.Started) (H:Type) (enc:TypeId × Value→H) (F:Stop.Interp),ReturnsInHanded {} Tryd.checked os 3 .any ((OpenSpec.ofChange Rows.tokenCutsSpec).preRow enc Tryd.prog Tryd.f3 Rows.tokenCutsRow.domain false Rows.tokenCutsRow.laid) (((OpenSpec.ofChange Rows.tokenCutsSpec).at F).post enc Tryd.prog Tryd.f3 false true false false)) :
  Rows.tokenCutsRow.holds Tryd.pinned (OpenSpec.ofChange Rows.tokenCutsSpec) :=
 OpenClaim.holds_of_cond 3 Tryd.f3 rfl rfl rfl rfl rfl rfl rfl ⟨rfl,rfl,rfl,rfl,rfl⟩ rfl rfl rfl rfl rfl TokenCuts_named Tryd.func3 TokenCuts_closed TokenCuts_inst TokenCuts_wrap
  (fun os started H enc _ F=>by rw[OpenClaim.pre_eq_preRow];exact lifted os started H enc F)
set_option maxRecDepth 100000 in
theorem TokenCuts_plain (f:FuncId) (fn:Func) (hf:Tryd.pinned.checked.prog.funcNamed Rows.tokenCutsRow.func=some f) (hfn:Tryd.pinned.checked.prog.funcs[f]?=some fn) :
  true=Tryd.pinned.checked.prog.looks []∧∀ (j:Nat) t,fn.params[j]?=some t→Tryd.pinned.checked.prog.wantsStandIn t=false:=by
 obtain rfl:f=3:=Option.some.inj ((show Tryd.prog.funcNamed Rows.tokenCutsRow.func=some 3 from TokenCuts_named).symm.trans hf) |>.symm
 obtain rfl:fn=Tryd.f3:=(Option.some.inj (Tryd.func3.symm.trans hfn)).symm
 have hall:Tryd.f3.params.toList.all (fun t=>!Tryd.prog.wantsStandIn t)=true:=by kernel_rfl
 refine ⟨by kernel_rfl,fun j t ht=>?_⟩
 have:=List.all_eq_true.1 hall t (by simpa using Array.mem_of_getElem? ht)
 show Tryd.prog.wantsStandIn t=false
 simpa using this
end Go.Proofs.YtjlaaanmjaihaaaDoor
