/-
  slices.Clone: the contracts; rows that are returned.
-/
import Derived.Test.YtjkplhnbiejefaaDoorWd
namespace Go.Dm
open Go Go.Eng Go.RowKit
theorem retNilRow {Q:Out→Prop} {h:Heap} {e sz:Nat} (hs:srcOk [.nil e sz]=true) (q:Q (.ret (.row 0) [.row [] e sz])):RetTo Q h .nils :=
 ⟨[.nil e sz],.row 0,[.row [] e sz],⟨hs,.inl rfl,.inr ⟨.inr rfl,trivial⟩,rfl⟩,q⟩
theorem retSl {h:Heap} {i k:Nat} {xs ys:List (List GV)} {t:TypeId} (hi:h[i]?=some (.row xs t k)) (hx:xs=ys):RetTo (Is (.g (.sl k ys))) h (.row i):=by
 subst hx
 refine retIs (.inl ?_)
 simp only[conv,kp,hi]
theorem retNl {h:Heap} {k:Nat} {xs:List (List GV)} (hx:xs=[]):RetTo (Is (.g (.sl k xs))) h .nils:=retIs (.inr (.inr hx))
end Go.Dm
namespace Go.Proofs.YtjkplhnbiejefaaDoor
open Go Go.Dm Go.Eng Barb

def RowIs (xs:List (List GV)) (e:TypeId) (sz:Nat):Out→Prop:=fun o=>o=.ret (.row 0) [.row xs e sz]
end Go.Proofs.YtjkplhnbiejefaaDoor
