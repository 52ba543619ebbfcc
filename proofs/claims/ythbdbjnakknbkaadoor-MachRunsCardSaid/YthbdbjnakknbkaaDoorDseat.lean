/-
  Facts of this seat's translation, by the kernel: the plain types, and what the frame of a law asks.
-/
import Derived.Test.YthbdbjnakknbkaaDoorDlaw
import Derived.Test.YthbdbjnakknbkaaDoorKer
import Derived.OpenShut
namespace Go.Proofs.YthbdbjnakknbkaaDoor
open Go.Dm Go.Eng Go.RowKit Go.ChangeShapes Go.WideShapes Go.ChangeAt

theorem hM : Mix Tryd.prog := ⟨by kernel_rfl⟩
def plainS : List TypeId := [3
 , 9
 , 66
 , 28
 , 38
 , 23
 , 80
 , 76
 , 78
 , 25
 , 27
 , 116
 , 67
 , 169
 , 145
 , 147
 , 117
 , 119, 4
 , 68
 , 70
 , 75
 , 22
  ]
theorem plainS_ok : plainSet Tryd.prog plainS = true := by kernel_rfl
theorem pars_ok {ts : List TypeId} (h : parsOk Tryd.prog plainS ts = true) : ∀ t ∈ ts, t ∈ plainS ∧ Tryd.prog.readableRec t = true ∧ t < Tryd.prog.types.size := parsOk_ok h
end Go.Proofs.YthbdbjnakknbkaaDoor
