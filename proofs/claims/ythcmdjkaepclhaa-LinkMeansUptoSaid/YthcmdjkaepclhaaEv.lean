import Derived.Test.YthcmdjkaepclhaaCl
import Derived.Test.YthcmdjkaepclhaaSi
namespace Go.Proofs.Ythcmdjkaepclhaa
open Go Go.Dm Go.Eng Barb
end Go.Proofs.Ythcmdjkaepclhaa
