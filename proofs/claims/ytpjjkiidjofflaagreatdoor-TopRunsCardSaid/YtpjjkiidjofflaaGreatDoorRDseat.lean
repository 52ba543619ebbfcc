import Derived.Test.YtpjjkiidjofflaaGreatDoorRDlaw
import Derived.Test.YtpjjkiidjofflaaGreatDoorRKer
import Derived.OpenShut
namespace Go.Proofs.YtpjjkiidjofflaaGreatDoor
open Go.Dm Go.Eng Go.RowKit Go.ChangeShapes Go.WideShapes Go.ChangeAt
theorem hM:Mix Tryz.prog:=⟨by kernel_rfl⟩
def plainS:List TypeId:=[3
 ,9
 ,40
 ,30
 ,90
 ,127
 ,76
 ,81
 ,77
 ,79
 ,26
 ,28
 ,92
 ,29
 ,103
 ,41
 ,132
 ,130
 ,135
 ,63
 ,65,4
 ,42
 ,44
 ,25
 ,24
 ,22
 ]
theorem plainS_ok:Zgt Tryz.prog plainS=true:=by kernel_rfl
theorem pars_ok {ts:List TypeId} (h:parsOk Tryz.prog plainS ts=true):∀t∈ts,t∈plainS/\Tryz.prog.readableRec t=true/\t < Tryz.prog.types.size:=parsOk_ok h
end Go.Proofs.YtpjjkiidjofflaaGreatDoor
