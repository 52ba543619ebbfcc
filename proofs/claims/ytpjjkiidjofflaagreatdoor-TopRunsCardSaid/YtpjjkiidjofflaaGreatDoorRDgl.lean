import Derived.Test.YtpjjkiidjofflaaGreatDoorRDcard
import Derived.Test.YtpjjkiidjofflaaGreatDoorRDseat
namespace Go.Proofs.YtpjjkiidjofflaaGreatDoor
open Go Go.Dm Go.Eng
def ofRows:List (List Int):=[[0,0,0],[65535,0,0],[0,0,0],[0,0,0],[7,0,0],[7,0,0],[0,0,0],[0,0,0],[10,0,0],[1199,0,0],[1199,0,0],[1199,4,0],[4,7,4],[0,0,0],[0,0,0],[0,0,0]]
abbrev gl:Gl:=[(0,[.str [111,110,101],.str [116,119,111],.str [116,114,105]]),(1,ofRows.flatten.map .int)]
end Go.Proofs.YtpjjkiidjofflaaGreatDoor
