/-
  Facts of this seat's translation, by the kernel: the plain types, and what the frame of a law asks.
-/
import Derived.Test.YtjkplhnbiejefaaDoorDlaw
import Derived.Test.YtjkplhnbiejefaaDoorKer
import Derived.OpenShut
namespace Go.Proofs.YtjkplhnbiejefaaDoor
open Go.Dm Go.Eng Go.RowKit Go.ChangeShapes Go.WideShapes Go.ChangeAt

theorem hM:Mix Tryd.prog:=⟨by kernel_rfl⟩
def plainS:List TypeId:=[3
 ,9
 ,35
 ,66
 ,45
 ,38
 ,29
 ,27
 ,34
 ,32
 ,37,4
 ,39
 ,41
 ,23
 ,52
 ,22
 ]
theorem plainS_ok:plainSet Tryd.prog plainS=true:=by kernel_rfl
theorem pars_ok {ts:List TypeId} (h:parsOk Tryd.prog plainS ts=true):∀ t∈ts,t∈plainS∧Tryd.prog.readableRec t=true∧t < Tryd.prog.types.size:=parsOk_ok h
end Go.Proofs.YtjkplhnbiejefaaDoor
