/-
  The table of package code, as this seat's rows list it: its cells are at hand wherever the rows' condition holds.
-/
import Derived.Test.YtijdegmamdhcbaaDoorDcard
import Derived.Test.YtijdegmamdhcbaaDoorDseat
namespace Go.Proofs.YtijdegmamdhcbaaDoor
open Go Go.Dm Go.Eng

def ofRows:List (List Int):=[[0,0,0],[65535,0,0],[0,0,0],[0,0,0],[7,0,0],[7,0,0],[0,0,0],[0,0,0],[10,0,0],[1199,0,0],[1199,0,0],[1199,4,0],[4,7,4],[0,0,0],[0,0,0],[0,0,0]]
abbrev gl:Gl:=[(0,[.str [111,110,101],.str [116,119,111],.str [116,114,105]])]
end Go.Proofs.YtijdegmamdhcbaaDoor
