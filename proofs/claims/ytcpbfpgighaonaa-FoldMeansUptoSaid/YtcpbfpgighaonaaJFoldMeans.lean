/-
  The closed facts of the row of the law FoldMeans, each reckoned by the kernel. The law itself is proved in another text.
-/
import Derived.Test.YtcpbfpgighaonaaKer
import Derived.JoinedCond
namespace Go.Proofs.Ytcpbfpgighaonaa
open Go.ChangeShapes Go.WideShapes Go.ChangeAt

set_option maxHeartbeats 8000000 in
theorem FoldMeans_closed:joinedFacts Try.prog 4 Try.f4 (Rows.OpenSpec.upto Rows.foldMeansSpec).bare Rows.foldMeansUptoRow=true:=by
 simp only[joinedFacts,laidOut,mapsRowed_ok,stops_ok,stopKnobs_ok,stopsHeard_ok,mayEnter_ok,Bool.and_eq_true,Bool.and_true]
 repeat' apply And.intro
 all_goals (as_aux_lemma=>kernel_rfl)
theorem FoldMeans_named:Try.prog.funcNamed Rows.foldMeansUptoRow.func=some 4:=by kernel_rfl
theorem FoldMeans_inst:Try.f4.isInstance Try.prog Rows.foldMeansUptoRow.origin Rows.foldMeansUptoRow.targs:=of_decide_eq_true (by kernel_rfl)
theorem FoldMeans_wrap:Try.f4.isWrapper Try.prog Rows.foldMeansUptoRow.wrapper Rows.foldMeansUptoRow.mainSum:=by
 unfold Func.isWrapper
 first
  | (rw[if_pos (by decide +kernel)];kernel_rfl)
  | (rw[if_neg (by decide +kernel)];exact ⟨rfl,rfl⟩)
theorem FoldMeans_over (lifted:∀ (os:Os) (_:os.Started) (H:Type) (enc:TypeId × Value→H) (F:Stop.Interp),ReturnsInHanded {} Try.checked os 4 .any ((Rows.OpenSpec.upto Rows.foldMeansSpec).pre6 enc Try.prog Try.f4 Rows.foldMeansUptoRow.domain false) (((Rows.OpenSpec.upto Rows.foldMeansSpec).at F).post enc Try.prog Try.f4 false true false false)) :
  Rows.foldMeansUptoRow.holds Try.pinned (Rows.OpenSpec.upto Rows.foldMeansSpec) :=
 OpenClaim.holds_of_cond 4 Try.f4 rfl rfl rfl rfl rfl rfl rfl ⟨rfl,rfl,rfl,rfl,rfl⟩ rfl rfl rfl rfl rfl FoldMeans_named Try.func4 FoldMeans_closed FoldMeans_inst FoldMeans_wrap
  (fun os started H enc _ F=>lifted os started H enc F)
end Go.Proofs.Ytcpbfpgighaonaa
