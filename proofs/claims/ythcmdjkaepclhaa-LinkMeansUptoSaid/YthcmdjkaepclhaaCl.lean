import Derived.Test.YthcmdjkaepclhaaWd
namespace Go.Dm
open Go Go.Eng Go.RowKit
theorem retNilRow {Q:Out->Prop} {h:Heap} {e sz:Nat} (hs:srcOk [.nil e sz]=true) (q:Q (.ret (.row 0) [.row [] e sz])):RetTo Q h .nils :=
 ⟨[.nil e sz],.row 0,[.row [] e sz],⟨hs,.inl rfl,.inr ⟨.inr rfl,trivial⟩,rfl⟩,q⟩
end Go.Dm
namespace Go.Proofs.Ythcmdjkaepclhaa
open Go Go.Dm Go.Eng Barb
def RowIs (xs:List (List GV)) (e:TypeId) (sz:Nat):Out->Prop:=fun o=>o=.ret (.row 0) [.row xs e sz]
end Go.Proofs.Ythcmdjkaepclhaa
