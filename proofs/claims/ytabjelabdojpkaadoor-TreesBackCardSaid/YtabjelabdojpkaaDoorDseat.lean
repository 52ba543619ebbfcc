/-
  Facts of this seat's translation, by the kernel: the plain types, and what the frame of a law asks.
-/
import Derived.Test.YtabjelabdojpkaaDoorDlaw
import Derived.Test.YtabjelabdojpkaaDoorKer
import Derived.OpenShut
namespace Go.Proofs.YtabjelabdojpkaaDoor
open Go.Dm Go.Eng Go.RowKit Go.ChangeShapes Go.WideShapes Go.ChangeAt

theorem hM:Mix Tryd.prog:=⟨by kernel_rfl⟩
def plainS:List TypeId:=[3
 ,9
 ,22
 ,124
 ,50
 ,23
 ,104
 ,76
 ,78
 ,52
 ,54,4
 ,24
 ,26
 ,37
 ,102
 ,36
 ]
theorem plainS_ok:plainSet Tryd.prog plainS=true:=by kernel_rfl
theorem pars_ok {ts:List TypeId} (h:parsOk Tryd.prog plainS ts=true):∀ t∈ts,t∈plainS∧Tryd.prog.readableRec t=true∧t < Tryd.prog.types.size:=parsOk_ok h
end Go.Proofs.YtabjelabdojpkaaDoor
