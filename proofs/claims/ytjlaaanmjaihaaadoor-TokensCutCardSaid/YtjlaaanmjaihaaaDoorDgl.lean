/-
  The table of package code, as this seat's rows list it: its cells are at hand wherever the rows' condition holds.
-/
import Derived.Test.YtjlaaanmjaihaaaDoorDcard
import Derived.Test.YtjlaaanmjaihaaaDoorDseat
import Derived.Lib.ItoaNum
namespace Go.Proofs.YtjlaaanmjaihaaaDoor
open Go Go.Dm Go.Eng

structure Lv where
 t0:TypeId
 p0:Value
 t1:TypeId
 p1:Value
abbrev libG (L:Lv):Gl:=[(1,[.raw (.iface L.t0 L.p0)]),(2,[.raw (.iface L.t1 L.p1)]),(3,Lib.pow10Tab.map fun z=>.raw (.int .u64 z))]
abbrev gl (L:Lv):Gl:=libG L
end Go.Proofs.YtjlaaanmjaihaaaDoor
