/-
  Lists of numbers that are the same; returns of a list and a fault: lines that walks share.
-/
import Derived.Test.YtjkplhnbiejefaaDoorWd
namespace Go.Dm
open Go Go.Eng Go.RowKit Barb
theorem retNE {h:Heap} {k:Nat} {e e':Int} {xs:List (List GV)} (he:e=e') (hx:xs=[]):RetTo (Is (.tuple [.g (.sl k xs),.g (.int e')])) h (.tuple [.nils,.g (.int e)]):=by
 subst he;subst hx
 exact retIs (.inr (.inr ⟨lkNil,lk rfl,trivial⟩))
theorem retRE {h:Heap} {i:Nat} {k:Nat} {e e':Int} {xs ys:List (List GV)} {t:TypeId} (hi:h[i]?=some (.row xs t k)) (he:e=e') (hx:xs=ys):RetTo (Is (.tuple [.g (.sl k ys),.g (.int e')])) h (.tuple [.row i,.g (.int e)]):=by
 subst he;subst hx
 refine retIs (.inl ?_)
 simp only[conv,List.map_cons,List.map_nil,kp,hi]
end Go.Dm
namespace Go.Proofs.YtjkplhnbiejefaaDoor
open Go Go.Dm Go.Eng Barb
end Go.Proofs.YtjkplhnbiejefaaDoor
