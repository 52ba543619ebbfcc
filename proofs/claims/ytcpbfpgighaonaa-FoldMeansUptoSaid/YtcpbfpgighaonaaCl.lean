/-
  slices.Clone: the contracts; rows that are returned.
-/
import Derived.Test.YtcpbfpgighaonaaWd
namespace Go.Dm
open Go Go.Eng Go.RowKit
theorem retNilRow {Q:Out→Prop} {h:Heap} {e sz:Nat} (hs:srcOk [.nil e sz]=true) (q:Q (.ret (.row 0) [.row [] e sz])):RetTo Q h .nils :=
 ⟨[.nil e sz],.row 0,[.row [] e sz],⟨hs,.inl rfl,.inr ⟨.inr rfl,trivial⟩,rfl⟩,q⟩
theorem retSl {h:Heap} {i k:Nat} {xs ys:List (List GV)} {t:TypeId} (hi:h[i]?=some (.row xs t k)) (hx:xs=ys):RetTo (Is (.g (.sl k ys))) h (.row i):=by
 subst hx
 refine retIs (.inl ?_)
 simp only[conv,kp,hi]
theorem retNl {h:Heap} {k:Nat} {xs:List (List GV)} (hx:xs=[]):RetTo (Is (.g (.sl k xs))) h .nils:=retIs (.inr (.inr hx))
end Go.Dm
namespace Go.Proofs.Ytcpbfpgighaonaa
open Go Go.Dm Go.Eng Barb

def RowIs (xs:List (List GV)) (e:TypeId) (sz:Nat):Out→Prop:=fun o=>o=.ret (.row 0) [.row xs e sz]
theorem Clone_any (xs:List (List GV)) (hx:xs.length*8≤140737488351232):CT Try.prog [] 19 [.g (.sl 1 xs)] (RowIs xs 3 1):=by
 refine enter hT hF hM Try.func19 rfl 8 rfl (by kernel_rfl) [.tmp 2] rfl [.g (.sl 1 xs)] rfl _ ?_
 intro p hp
 refine ⟨fun h=>⟨rfl,retNilRow rfl (by rw[hp h];rfl)⟩,fun h=>?_⟩
 refine ⟨[],rfl,rfl,trivial,?_⟩
 refine ⟨⟨by simp only[maxLen,List.length_nil];omega,by simp only[List.length_nil];omega⟩,?_⟩
 exact ⟨rfl,retRow (ys:=xs) rfl rfl rfl⟩
theorem Clone_is (xs:List (List GV)) (hx:xs.length*8≤140737488351232):CT Try.prog [] 19 [.g (.sl 1 xs)] (Is (.g (.sl 1 xs))):=by
 refine enter hT hF hM Try.func19 rfl 8 rfl (by kernel_rfl) [.tmp 2] rfl [.g (.sl 1 xs)] rfl _ ?_
 intro p hp
 refine ⟨fun h=>⟨rfl,retNl (hp h)⟩,fun h=>?_⟩
 refine ⟨[],rfl,rfl,trivial,?_⟩
 refine ⟨⟨by simp only[maxLen,List.length_nil];omega,by simp only[List.length_nil];omega⟩,?_⟩
 exact ⟨rfl,retSl rfl rfl⟩
end Go.Proofs.Ytcpbfpgighaonaa
