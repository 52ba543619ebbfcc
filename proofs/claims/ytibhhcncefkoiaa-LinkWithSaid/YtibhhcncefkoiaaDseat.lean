/-
  Facts of this seat's translation, by the kernel: the plain types, and what the frame of a law asks.
-/
import Derived.Test.YtibhhcncefkoiaaDlaw
import Derived.Test.YtibhhcncefkoiaaKer
import Derived.OpenShut
namespace Go.Proofs.Ytibhhcncefkoiaa
open Go.Dm Go.Eng Go.RowKit Go.ChangeShapes Go.WideShapes Go.ChangeAt

theorem hM : Mix Try.prog := ⟨by kernel_rfl⟩
def plainS : List TypeId := [3
 , 9
 , 60
 , 43
 , 72
 , 71
 , 25
 , 37
 , 26
 , 33
 , 22
 , 24
 , 74
 , 40
 , 77
 , 61
 , 119
 , 115
 , 117
 , 65
 , 67, 4
 , 62
 , 64
 , 39
  ]
theorem plainS_ok : plainSet Try.prog plainS = true := by kernel_rfl
theorem pars_ok {ts : List TypeId} (h : parsOk Try.prog plainS ts = true) : ∀ t ∈ ts, t ∈ plainS ∧ Try.prog.readableRec t = true ∧ t < Try.prog.types.size := parsOk_ok h
end Go.Proofs.Ytibhhcncefkoiaa
