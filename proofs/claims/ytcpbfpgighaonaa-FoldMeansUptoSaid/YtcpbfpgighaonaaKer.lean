/-
  Facts of this seat's translation, by the kernel: what the frame of a law's row asks of the program as a whole.
-/
import Derived.Test.YtcpbfpgighaonaaRows
import Derived.ProofKit
namespace Go.Proofs.Ytcpbfpgighaonaa
theorem own:ownKnob Try.prog.godebug=none:=by kernel_rfl
theorem laidOut:laidOutB Try.prog=true:=by kernel_rfl
theorem mapsRowed_ok:mapsRowed Try.prog=true:=by kernel_rfl
theorem stops_ok:(Try.prog.stops == [])=true:=by kernel_rfl
theorem stopKnobs_ok:(Try.prog.stopKnobs == [])=true:=by kernel_rfl
theorem stopsHeard_ok:Try.prog.stopsHeard=true:=by kernel_rfl
theorem mayEnter_ok:Try.prog.mayEnter=true:=by kernel_rfl
end Go.Proofs.Ytcpbfpgighaonaa
