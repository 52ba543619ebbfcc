import Derived.Test.YtpjjkiidjofflaaGreatDoorRDtypes
import Derived.Test.YtpjjkiidjofflaaGreatDoorRDseat
namespace Go.Proofs.YtpjjkiidjofflaaGreatDoor
open Go Go.Dm Barb
theorem dec_int {f:Nat} {g:GV} (h:Zbt Tryz.prog f 3 g):∃n,g=.int n/\I64 n:=dec_lit Tryz.underlying3 h
end Go.Proofs.YtpjjkiidjofflaaGreatDoor
