import Derived.Test.YthcmdjkaepclhaaKer
import Derived.JoinedCond
namespace Go.Proofs.Ythcmdjkaepclhaa
open Go.ChangeShapes Go.WideShapes Go.ChangeAt
set_option maxHeartbeats 8000000 in
theorem LinkMeans_closed:joinedFacts Try.prog 4 Try.f4 (Rows.OpenSpec.upto Rows.linkMeansSpec).bare Rows.linkMeansUptoRow=true:=by
 simp only[joinedFacts,laidOut,mapsRowed_ok,stops_ok,stopKnobs_ok,stopsHeard_ok,mayEnter_ok,Bool.and_eq_true,Bool.and_true]
 repeat' apply And.intro
 all_goals (as_aux_lemma=>kernel_rfl)
theorem LinkMeans_named:Try.prog.funcNamed Rows.linkMeansUptoRow.func=some 4:=by kernel_rfl
theorem LinkMeans_inst:Try.f4.isInstance Try.prog Rows.linkMeansUptoRow.origin Rows.linkMeansUptoRow.targs:=of_decide_eq_true (by kernel_rfl)
theorem LinkMeans_wrap:Try.f4.isWrapper Try.prog Rows.linkMeansUptoRow.wrapper Rows.linkMeansUptoRow.mainSum:=by
 unfold Func.isWrapper
 first
  | (rw[if_pos (by decide +kernel)];kernel_rfl)
  | (rw[if_neg (by decide +kernel)];exact ⟨rfl,rfl⟩)
theorem LinkMeans_over (lifted:∀ (os:Os) (_:os.Started) (H:Type) (enc:TypeId × Value->H) (F:Stop.Interp),ReturnsInHanded {} Try.checked os 4 .any ((Rows.OpenSpec.upto Rows.linkMeansSpec).pre6 enc Try.prog Try.f4 Rows.linkMeansUptoRow.domain false) (((Rows.OpenSpec.upto Rows.linkMeansSpec).at F).post enc Try.prog Try.f4 false true false false)) :
  Rows.linkMeansUptoRow.holds Try.pinned (Rows.OpenSpec.upto Rows.linkMeansSpec) :=
 OpenClaim.holds_of_cond 4 Try.f4 rfl rfl rfl rfl rfl rfl rfl ⟨rfl,rfl,rfl,rfl,rfl⟩ rfl rfl rfl rfl rfl LinkMeans_named Try.func4 LinkMeans_closed LinkMeans_inst LinkMeans_wrap
  (fun os started H enc _ F=>lifted os started H enc F)
end Go.Proofs.Ythcmdjkaepclhaa
