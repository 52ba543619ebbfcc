import Derived.Test.YthccmffgjchdmaaGreatDoorRows
import Derived.ProofKit
open Go Go.Proofs Go.Proofs.YthccmffgjchdmaaGreatDoor
namespace ZN
theorem own:ownKnob Tryz.prog.godebug=none:=by kernel_rfl
theorem laidOut:laidOutB Tryz.prog=true:=by kernel_rfl
theorem mapsRowed_ok:mapsRowed Tryz.prog=true:=by kernel_rfl
theorem stops_ok:(Tryz.prog.stops == [])=true:=by kernel_rfl
theorem stopKnobs_ok:(Tryz.prog.stopKnobs == [])=true:=by kernel_rfl
theorem stopsHeard_ok:Tryz.prog.stopsHeard=true:=by kernel_rfl
theorem mayEnter_ok:Tryz.prog.mayEnter=true:=by kernel_rfl
end ZN
