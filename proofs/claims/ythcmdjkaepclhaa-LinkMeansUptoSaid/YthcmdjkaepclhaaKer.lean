import Derived.Test.YthcmdjkaepclhaaRows
import Derived.ProofKit
namespace Go.Proofs.Ythcmdjkaepclhaa
theorem own:ownKnob Try.prog.godebug=none:=by kernel_rfl
theorem laidOut:laidOutB Try.prog=true:=by kernel_rfl
theorem mapsRowed_ok:mapsRowed Try.prog=true:=by kernel_rfl
theorem stops_ok:(Try.prog.stops == [])=true:=by kernel_rfl
theorem stopKnobs_ok:(Try.prog.stopKnobs == [])=true:=by kernel_rfl
theorem stopsHeard_ok:Try.prog.stopsHeard=true:=by kernel_rfl
theorem mayEnter_ok:Try.prog.mayEnter=true:=by kernel_rfl
end Go.Proofs.Ythcmdjkaepclhaa
