/-
  The table of package code, as this seat's rows list it: its cells are at hand wherever the rows' condition holds.
-/
import Derived.Test.YtabjelabdojpkaaDoorDcard
import Derived.Test.YtabjelabdojpkaaDoorDseat
import Derived.Lib.ItoaNum
namespace Go.Proofs.YtabjelabdojpkaaDoor
open Go Go.Dm Go.Eng

structure Lv where
 t0:TypeId
 p0:Value
 t1:TypeId
 p1:Value
abbrev libG (L:Lv):Gl:=[(4,[.raw (.iface L.t0 L.p0)]),(5,[.raw (.iface L.t1 L.p1)]),(3,Lib.pow10Tab.map fun z=>.raw (.int .u64 z))]
abbrev gl (L:Lv):Gl:=(1,[.str [],.str [43],.str [45],.str [42],.str [38],.str [124],.str [94],.str [60],.str [61,61],.str [60,60],.str [62,62]]) :: (0,[.str [111,110,101],.str [116,119,111],.str [116,114,105]]) :: libG L
end Go.Proofs.YtabjelabdojpkaaDoor
