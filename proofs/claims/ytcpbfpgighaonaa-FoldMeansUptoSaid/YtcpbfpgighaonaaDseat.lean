/-
  Facts of this seat's translation, by the kernel: the plain types, and what the frame of a law asks.
-/
import Derived.Test.YtcpbfpgighaonaaDlaw
import Derived.Test.YtcpbfpgighaonaaKer
import Derived.OpenShut
namespace Go.Proofs.Ytcpbfpgighaonaa
open Go.Dm Go.Eng Go.RowKit Go.ChangeShapes Go.WideShapes Go.ChangeAt

theorem hM:Mix Try.prog:=⟨by kernel_rfl⟩
def plainS:List TypeId:=[3
 ,9
 ,39
 ,24
 ,48
 ,50
 ,23
 ,75
 ,40
 ,98
 ,94
 ,96
 ,44
 ,46,4
 ,41
 ,43
 ,22
 ]
theorem plainS_ok:plainSet Try.prog plainS=true:=by kernel_rfl
theorem pars_ok {ts:List TypeId} (h:parsOk Try.prog plainS ts=true):∀ t∈ts,t∈plainS∧Try.prog.readableRec t=true∧t < Try.prog.types.size:=parsOk_ok h
end Go.Proofs.Ytcpbfpgighaonaa
