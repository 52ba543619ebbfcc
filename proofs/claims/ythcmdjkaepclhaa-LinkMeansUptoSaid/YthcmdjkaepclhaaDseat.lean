import Derived.Test.YthcmdjkaepclhaaDlaw
import Derived.Test.YthcmdjkaepclhaaKer
import Derived.OpenShut
namespace Go.Proofs.Ythcmdjkaepclhaa
open Go.Dm Go.Eng Go.RowKit Go.ChangeShapes Go.WideShapes Go.ChangeAt
theorem hM:Mix Try.prog:=⟨by kernel_rfl⟩
def plainS:List TypeId:=[3
 ,9
 ,32
 ,24
 ,71
 ,67
 ,27
 ,48
 ,41
 ,43
 ,38
 ,40
 ,73
 ,23
 ,59
 ,33
 ,97
 ,91
 ,93
 ,44
 ,46,4
 ,34
 ,36
 ,22
 ]
theorem plainS_ok:plainSet Try.prog plainS=true:=by kernel_rfl
theorem pars_ok {ts:List TypeId} (h:parsOk Try.prog plainS ts=true):∀ t∈ts,t∈plainS/\Try.prog.readableRec t=true/\t < Try.prog.types.size:=parsOk_ok h
end Go.Proofs.Ythcmdjkaepclhaa
