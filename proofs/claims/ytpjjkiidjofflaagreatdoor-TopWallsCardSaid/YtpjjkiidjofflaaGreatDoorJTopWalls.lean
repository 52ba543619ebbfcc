/-
  The closed facts of the row of the law TopWalls, each reckoned by the kernel. The law itself is proved in another text.
-/
import Derived.Test.YtpjjkiidjofflaaGreatDoorKer
import Derived.Deep.DeepHandedRow
import Derived.SevenTiedAt
namespace Go.Proofs.YtpjjkiidjofflaaGreatDoor
open Go.ChangeShapes Go.WideShapes Go.ChangeAt

set_option maxHeartbeats 8000000 in
theorem TopWalls_closed:joinedFacts Tryz.prog 4 Tryz.f4 Rows.topWallsSpec Rows.topWallsRow=true:=by
 simp only[joinedFacts,laidOut,mapsRowed_ok,stops_ok,stopKnobs_ok,stopsHeard_ok,mayEnter_ok,Bool.and_eq_true,Bool.and_true]
 repeat' apply And.intro
 all_goals (as_aux_lemma=>kernel_rfl)
theorem TopWalls_named:Tryz.prog.funcNamed Rows.topWallsRow.func=some 4:=by kernel_rfl
theorem TopWalls_inst:Tryz.f4.isInstance Tryz.prog Rows.topWallsRow.origin Rows.topWallsRow.targs:=of_decide_eq_true (by kernel_rfl)
theorem TopWalls_wrap:Tryz.f4.isWrapper Tryz.prog Rows.topWallsRow.wrapper Rows.topWallsRow.mainSum:=by
 unfold Func.isWrapper
 first
  | (rw[if_pos (by decide +kernel)];kernel_rfl)
  | (rw[if_neg (by decide +kernel)];exact ⟨rfl,rfl⟩)
set_option maxRecDepth 100000 in
theorem TopWalls_over (lifted:∀ (os:Os) (_:os.Started) (H:Type) (enc:TypeId × Value→H) (F:Stop.Interp),ReturnsInHanded {} Tryz.checked os 4 .any ((OpenSpec.ofChange Rows.topWallsSpec).preRow enc Tryz.prog Tryz.f4 Rows.topWallsRow.domain false Rows.topWallsRow.laid) (((OpenSpec.ofChange Rows.topWallsSpec).at F).post enc Tryz.prog Tryz.f4 false true false false)) :
  Rows.topWallsRow.holds Tryz.pinned (OpenSpec.ofChange Rows.topWallsSpec) :=
 OpenClaim.holds_of_cond 4 Tryz.f4 rfl rfl rfl rfl rfl rfl rfl ⟨rfl,rfl,rfl,rfl,rfl⟩ rfl rfl rfl rfl rfl TopWalls_named Tryz.func4 TopWalls_closed TopWalls_inst TopWalls_wrap
  (fun os started H enc _ F=>by rw[OpenClaim.pre_eq_preRow];exact lifted os started H enc F)
set_option maxRecDepth 100000 in
theorem TopWalls_plain (f:FuncId) (fn:Func) (hf:Tryz.pinned.checked.prog.funcNamed Rows.topWallsRow.func=some f) (hfn:Tryz.pinned.checked.prog.funcs[f]?=some fn) :
  true=Tryz.pinned.checked.prog.looks []∧∀ (j:Nat) t,fn.params[j]?=some t→Tryz.pinned.checked.prog.wantsStandIn t=false:=by
 obtain rfl:f=4:=Option.some.inj ((show Tryz.prog.funcNamed Rows.topWallsRow.func=some 4 from TopWalls_named).symm.trans hf) |>.symm
 obtain rfl:fn=Tryz.f4:=(Option.some.inj (Tryz.func4.symm.trans hfn)).symm
 have hall:Tryz.f4.params.toList.all (fun t=>!Tryz.prog.wantsStandIn t)=true:=by kernel_rfl
 refine ⟨by kernel_rfl,fun j t ht=>?_⟩
 have:=List.all_eq_true.1 hall t (by simpa using Array.mem_of_getElem? ht)
 show Tryz.prog.wantsStandIn t=false
 simpa using this
end Go.Proofs.YtpjjkiidjofflaaGreatDoor
