/-
  Facts of this seat's translation, by the kernel: what the frame of a law's row asks of the program as a whole.
-/
import Derived.Test.YthccmffgjchdmaaGreatDoorRows
import Derived.ProofKit
namespace Go.Proofs.YthccmffgjchdmaaGreatDoor
theorem own:ownKnob Tryz.prog.godebug=none:=by kernel_rfl
theorem laidOut:laidOutB Tryz.prog=true:=by kernel_rfl
theorem mapsRowed_ok:mapsRowed Tryz.prog=true:=by kernel_rfl
theorem stops_ok:(Tryz.prog.stops == [])=true:=by kernel_rfl
theorem stopKnobs_ok:(Tryz.prog.stopKnobs == [])=true:=by kernel_rfl
theorem stopsHeard_ok:Tryz.prog.stopsHeard=true:=by kernel_rfl
theorem mayEnter_ok:Tryz.prog.mayEnter=true:=by kernel_rfl
end Go.Proofs.YthccmffgjchdmaaGreatDoor
