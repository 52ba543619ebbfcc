/-
  The table of package code, as this seat's rows list it: its cells are at hand wherever the rows' condition holds.
-/
import Derived.Test.YtabjelabdojpkaaGreatDoorDcard
import Derived.Test.YtabjelabdojpkaaGreatDoorDseat
import Derived.Lib.ItoaNum
namespace Go.Proofs.YtabjelabdojpkaaGreatDoor
open Go Go.Dm Go.Eng

structure Lv where
 t0:TypeId
 p0:Value
 t1:TypeId
 p1:Value
abbrev libG (L:Lv):Gl:=[(0,[.raw (.iface L.t0 L.p0)]),(1,[.raw (.iface L.t1 L.p1)]),(2,Lib.pow10Tab.map fun z=>.raw (.int .u64 z))]
abbrev gl (L:Lv):Gl:=(6,[.str [],.str [43],.str [45],.str [42],.str [38],.str [124],.str [94],.str [60],.str [61,61],.str [60,60],.str [62,62]]) :: libG L
end Go.Proofs.YtabjelabdojpkaaGreatDoor
