/-
  Facts of this seat's translation, by the kernel: the plain types, and what the frame of a law asks.
-/
import Derived.Test.YtabjelabdojpkaaGreatDoorDlaw
import Derived.Test.YtabjelabdojpkaaGreatDoorKer
import Derived.OpenShut
namespace Go.Proofs.YtabjelabdojpkaaGreatDoor
open Go.Dm Go.Eng Go.RowKit Go.ChangeShapes Go.WideShapes Go.ChangeAt

theorem hM:Mix Tryz.prog:=⟨by kernel_rfl⟩
def plainS:List TypeId:=[3
 ,9
 ,22
 ,43
 ,23
 ,94
 ,68
 ,70
 ,45
 ,47,4
 ,24
 ,26
 ]
theorem plainS_ok:plainSet Tryz.prog plainS=true:=by kernel_rfl
theorem pars_ok {ts:List TypeId} (h:parsOk Tryz.prog plainS ts=true):∀ t∈ts,t∈plainS∧Tryz.prog.readableRec t=true∧t < Tryz.prog.types.size:=parsOk_ok h
end Go.Proofs.YtabjelabdojpkaaGreatDoor
