/-
  The table of package barbicankeep, as this seat's rows list it.
-/
import Derived.Test.YtjkplhnbiejefaaDoorDcard
import Derived.Test.YtjkplhnbiejefaaDoorDseat
namespace Go.Proofs.YtjkplhnbiejefaaDoor
open Go Go.Dm Go.Eng
abbrev gl:Gl:=[(0,[.str [111,110,101],.str [116,119,111],.str [116,114,105]])]
end Go.Proofs.YtjkplhnbiejefaaDoor
