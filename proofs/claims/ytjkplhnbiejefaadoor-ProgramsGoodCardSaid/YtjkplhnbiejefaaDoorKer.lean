/-
  Facts of this seat's translation, by the kernel: what the frame of a law's row asks of the program as a whole.
-/
import Derived.Test.YtjkplhnbiejefaaDoorRows
import Derived.ProofKit
namespace Go.Proofs.YtjkplhnbiejefaaDoor
theorem own:ownKnob Tryd.prog.godebug=none:=by kernel_rfl
theorem laidOut:laidOutB Tryd.prog=true:=by kernel_rfl
theorem mapsRowed_ok:mapsRowed Tryd.prog=true:=by kernel_rfl
theorem stops_ok:(Tryd.prog.stops == [])=true:=by kernel_rfl
theorem stopKnobs_ok:(Tryd.prog.stopKnobs == [])=true:=by kernel_rfl
theorem stopsHeard_ok:Tryd.prog.stopsHeard=true:=by kernel_rfl
theorem mayEnter_ok:Tryd.prog.mayEnter=true:=by kernel_rfl
end Go.Proofs.YtjkplhnbiejefaaDoor
