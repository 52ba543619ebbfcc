/-
  The closed facts of the row of the law CallsAlone, each reckoned by the kernel. The law itself is proved in another text.
-/
import Derived.Test.YtijdegmamdhcbaaDoorKer
import Derived.Deep.DeepHandedRow
import Derived.SevenTiedAt
namespace Go.Proofs.YtijdegmamdhcbaaDoor
open Go.ChangeShapes Go.WideShapes Go.ChangeAt

set_option maxHeartbeats 8000000 in
theorem CallsAlone_closed:joinedFacts Tryd.prog 7 Tryd.f7 Rows.callsAloneSpec Rows.callsAloneRow=true:=by
 simp only[joinedFacts,laidOut,mapsRowed_ok,stops_ok,stopKnobs_ok,stopsHeard_ok,mayEnter_ok,Bool.and_eq_true,Bool.and_true]
 repeat' apply And.intro
 all_goals (as_aux_lemma=>kernel_rfl)
theorem CallsAlone_named:Tryd.prog.funcNamed Rows.callsAloneRow.func=some 7:=by kernel_rfl
theorem CallsAlone_inst:Tryd.f7.isInstance Tryd.prog Rows.callsAloneRow.origin Rows.callsAloneRow.targs:=of_decide_eq_true (by kernel_rfl)
theorem CallsAlone_wrap:Tryd.f7.isWrapper Tryd.prog Rows.callsAloneRow.wrapper Rows.callsAloneRow.mainSum:=by
 unfold Func.isWrapper
 first
  | (rw[if_pos (by decide +kernel)];kernel_rfl)
  | (rw[if_neg (by decide +kernel)];exact ⟨rfl,rfl⟩)
set_option maxRecDepth 100000 in
theorem CallsAlone_over (lifted:∀ (os:Os) (_:os.Started) (H:Type) (enc:TypeId × Value→H) (F:Stop.Interp),ReturnsInHanded {} Tryd.checked os 7 .any ((OpenSpec.ofChange Rows.callsAloneSpec).preRow enc Tryd.prog Tryd.f7 Rows.callsAloneRow.domain false Rows.callsAloneRow.laid) (((OpenSpec.ofChange Rows.callsAloneSpec).at F).post enc Tryd.prog Tryd.f7 false true false false)) :
  Rows.callsAloneRow.holds Tryd.pinned (OpenSpec.ofChange Rows.callsAloneSpec) :=
 OpenClaim.holds_of_cond 7 Tryd.f7 rfl rfl rfl rfl rfl rfl rfl ⟨rfl,rfl,rfl,rfl,rfl⟩ rfl rfl rfl rfl rfl CallsAlone_named Tryd.func7 CallsAlone_closed CallsAlone_inst CallsAlone_wrap
  (fun os started H enc _ F=>by rw[OpenClaim.pre_eq_preRow];exact lifted os started H enc F)
set_option maxRecDepth 100000 in
theorem CallsAlone_plain (f:FuncId) (fn:Func) (hf:Tryd.pinned.checked.prog.funcNamed Rows.callsAloneRow.func=some f) (hfn:Tryd.pinned.checked.prog.funcs[f]?=some fn) :
  true=Tryd.pinned.checked.prog.looks []∧∀ (j:Nat) t,fn.params[j]?=some t→Tryd.pinned.checked.prog.wantsStandIn t=false:=by
 obtain rfl:f=7:=Option.some.inj ((show Tryd.prog.funcNamed Rows.callsAloneRow.func=some 7 from CallsAlone_named).symm.trans hf) |>.symm
 obtain rfl:fn=Tryd.f7:=(Option.some.inj (Tryd.func7.symm.trans hfn)).symm
 have hall:Tryd.f7.params.toList.all (fun t=>!Tryd.prog.wantsStandIn t)=true:=by kernel_rfl
 refine ⟨by kernel_rfl,fun j t ht=>?_⟩
 have:=List.all_eq_true.1 hall t (by simpa using Array.mem_of_getElem? ht)
 show Tryd.prog.wantsStandIn t=false
 simpa using this
end Go.Proofs.YtijdegmamdhcbaaDoor
