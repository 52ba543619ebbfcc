/-
  The closed facts of the row of the law CallsKeep, each reckoned by the kernel. The law itself is proved in another text.
-/
import Derived.Test.YtijdegmamdhcbaaDoorKer
import Derived.Deep.DeepHandedRow
import Derived.SevenTiedAt
namespace Go.Proofs.YtijdegmamdhcbaaDoor
open Go.ChangeShapes Go.WideShapes Go.ChangeAt

set_option maxHeartbeats 8000000 in
theorem CallsKeep_closed:joinedFacts Tryd.prog 8 Tryd.f8 Rows.callsKeepSpec Rows.callsKeepRow=true:=by
 simp only[joinedFacts,laidOut,mapsRowed_ok,stops_ok,stopKnobs_ok,stopsHeard_ok,mayEnter_ok,Bool.and_eq_true,Bool.and_true]
 repeat' apply And.intro
 all_goals (as_aux_lemma=>kernel_rfl)
theorem CallsKeep_named:Tryd.prog.funcNamed Rows.callsKeepRow.func=some 8:=by kernel_rfl
theorem CallsKeep_inst:Tryd.f8.isInstance Tryd.prog Rows.callsKeepRow.origin Rows.callsKeepRow.targs:=of_decide_eq_true (by kernel_rfl)
theorem CallsKeep_wrap:Tryd.f8.isWrapper Tryd.prog Rows.callsKeepRow.wrapper Rows.callsKeepRow.mainSum:=by
 unfold Func.isWrapper
 first
  | (rw[if_pos (by decide +kernel)];kernel_rfl)
  | (rw[if_neg (by decide +kernel)];exact ⟨rfl,rfl⟩)
set_option maxRecDepth 100000 in
theorem CallsKeep_over (lifted:∀ (os:Os) (_:os.Started) (H:Type) (enc:TypeId × Value→H) (F:Stop.Interp),ReturnsInHanded {} Tryd.checked os 8 .any ((OpenSpec.ofChange Rows.callsKeepSpec).preRow enc Tryd.prog Tryd.f8 Rows.callsKeepRow.domain false Rows.callsKeepRow.laid) (((OpenSpec.ofChange Rows.callsKeepSpec).at F).post enc Tryd.prog Tryd.f8 false true false false)) :
  Rows.callsKeepRow.holds Tryd.pinned (OpenSpec.ofChange Rows.callsKeepSpec) :=
 OpenClaim.holds_of_cond 8 Tryd.f8 rfl rfl rfl rfl rfl rfl rfl ⟨rfl,rfl,rfl,rfl,rfl⟩ rfl rfl rfl rfl rfl CallsKeep_named Tryd.func8 CallsKeep_closed CallsKeep_inst CallsKeep_wrap
  (fun os started H enc _ F=>by rw[OpenClaim.pre_eq_preRow];exact lifted os started H enc F)
set_option maxRecDepth 100000 in
theorem CallsKeep_plain (f:FuncId) (fn:Func) (hf:Tryd.pinned.checked.prog.funcNamed Rows.callsKeepRow.func=some f) (hfn:Tryd.pinned.checked.prog.funcs[f]?=some fn) :
  true=Tryd.pinned.checked.prog.looks []∧∀ (j:Nat) t,fn.params[j]?=some t→Tryd.pinned.checked.prog.wantsStandIn t=false:=by
 obtain rfl:f=8:=Option.some.inj ((show Tryd.prog.funcNamed Rows.callsKeepRow.func=some 8 from CallsKeep_named).symm.trans hf) |>.symm
 obtain rfl:fn=Tryd.f8:=(Option.some.inj (Tryd.func8.symm.trans hfn)).symm
 have hall:Tryd.f8.params.toList.all (fun t=>!Tryd.prog.wantsStandIn t)=true:=by kernel_rfl
 refine ⟨by kernel_rfl,fun j t ht=>?_⟩
 have:=List.all_eq_true.1 hall t (by simpa using Array.mem_of_getElem? ht)
 show Tryd.prog.wantsStandIn t=false
 simpa using this
end Go.Proofs.YtijdegmamdhcbaaDoor
