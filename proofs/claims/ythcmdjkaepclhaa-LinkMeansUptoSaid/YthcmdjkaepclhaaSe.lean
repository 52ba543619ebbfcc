import Derived.Test.YthcmdjkaepclhaaDa4
namespace Go.Dm
open Go Go.Eng Go.RowKit
section
variable {P:Program}
end
end Go.Dm
