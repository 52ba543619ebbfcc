/-
  Facts of this seat's translation, by the kernel: the plain types, and what the frame of a law asks.
-/
import Derived.Test.YtijdegmamdhcbaaDoorDlaw
import Derived.Test.YtijdegmamdhcbaaDoorKer
import Derived.OpenShut
namespace Go.Proofs.YtijdegmamdhcbaaDoor
open Go.Dm Go.Eng Go.RowKit Go.ChangeShapes Go.WideShapes Go.ChangeAt

theorem hM:Mix Tryd.prog:=⟨by kernel_rfl⟩
def plainS:List TypeId:=[3
 ,9
 ,70
 ,30
 ,91
 ,55
 ,43
 ,48
 ,44
 ,46
 ,26
 ,28
 ,93
 ,29
 ,112
 ,71
 ,85
 ,83
 ,88
 ,86
 ,90,4
 ,72
 ,74
 ,25
 ,24
 ,22
 ]
theorem plainS_ok:plainSet Tryd.prog plainS=true:=by kernel_rfl
theorem pars_ok {ts:List TypeId} (h:parsOk Tryd.prog plainS ts=true):∀ t∈ts,t∈plainS∧Tryd.prog.readableRec t=true∧t < Tryd.prog.types.size:=parsOk_ok h
end Go.Proofs.YtijdegmamdhcbaaDoor
