/-
  The closed facts of the row of the law EvalCalls, each reckoned by the kernel. The law itself is proved in another text.
-/
import Derived.Test.YtcpbfpgighaonaaKer
namespace Go.Proofs.Ytcpbfpgighaonaa
open Go.ChangeShapes Go.WideShapes Go.ChangeAt

set_option maxHeartbeats 8000000 in
theorem EvalCalls_closed:joinedFacts Try.prog 3 Try.f3 Rows.evalCallsSpec Rows.evalCallsRow=true:=by
 simp only[joinedFacts,laidOut,mapsRowed_ok,stops_ok,stopKnobs_ok,stopsHeard_ok,mayEnter_ok,Bool.and_eq_true,Bool.and_true]
 repeat' apply And.intro
 all_goals (as_aux_lemma=>kernel_rfl)
theorem EvalCalls_named:Try.prog.funcNamed Rows.evalCallsRow.func=some 3:=by kernel_rfl
theorem EvalCalls_inst:Try.f3.isInstance Try.prog Rows.evalCallsRow.origin Rows.evalCallsRow.targs:=of_decide_eq_true (by kernel_rfl)
theorem EvalCalls_wrap:Try.f3.isWrapper Try.prog Rows.evalCallsRow.wrapper Rows.evalCallsRow.mainSum:=by
 unfold Func.isWrapper
 first
  | (rw[if_pos (by decide +kernel)];kernel_rfl)
  | (rw[if_neg (by decide +kernel)];exact ⟨rfl,rfl⟩)
theorem EvalCalls_over (lifted:∀ (os:Os) (_:os.Started) (H:Type) (enc:TypeId × Value→H),ReturnsInHanded {} Try.checked os 3 .any (Rows.evalCallsSpec.pre6 enc Try.prog Try.f3 Rows.evalCallsRow.domain false) (Rows.evalCallsSpec.post enc Try.prog Try.f3 false true false false)) :
  Rows.evalCallsRow.holds Try.pinned (OpenSpec.ofChange Rows.evalCallsSpec) :=
 OpenClaim.holds_of_wide 3 Try.f3 rfl rfl rfl rfl rfl rfl rfl ⟨rfl,rfl,rfl,rfl,rfl⟩ rfl rfl rfl rfl rfl EvalCalls_named Try.func3 EvalCalls_closed EvalCalls_inst EvalCalls_wrap
  (fun os started H enc _=>lifted os started H enc)
end Go.Proofs.Ytcpbfpgighaonaa
