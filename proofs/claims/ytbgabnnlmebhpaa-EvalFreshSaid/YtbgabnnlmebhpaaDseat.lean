/-
  Facts of this seat's translation, by the kernel: the plain types, and what the frame of a law asks.
-/
import Derived.Test.YtbgabnnlmebhpaaDlaw
import Derived.Test.YtbgabnnlmebhpaaKer
import Derived.OpenShut
namespace Go.Proofs.Ytbgabnnlmebhpaa
open Go.Dm Go.Eng Go.RowKit Go.ChangeShapes Go.WideShapes Go.ChangeAt

theorem hM : Mix Try.prog := ⟨by kernel_rfl⟩
def plainS : List TypeId := [3
 , 9
 , 32
 , 24
 , 110
 , 103
 , 40
 , 50
 , 41
 , 47
 , 27
 , 29
 , 112
 , 58
 , 99
 , 33
 , 153
 , 148
 , 150
 , 83
 , 85, 4
 , 34
 , 36
 , 52
  ]
theorem plainS_ok : plainSet Try.prog plainS = true := by kernel_rfl
theorem pars_ok {ts : List TypeId} (h : parsOk Try.prog plainS ts = true) : ∀ t ∈ ts, t ∈ plainS ∧ Try.prog.readableRec t = true ∧ t < Try.prog.types.size := parsOk_ok h
end Go.Proofs.Ytbgabnnlmebhpaa
