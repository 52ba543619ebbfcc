import Derived.Test.YthcmdjkaepclhaaWd
namespace Go.Dm
open Go Go.Eng Go.RowKit Barb
theorem retNE {h:Heap} {k:Nat} {e e':Int} {xs:List (List GV)} (he:e=e') (hx:xs=[]):RetTo (Is (.tuple [.g (.sl k xs),.g (.int e')])) h (.tuple [.nils,.g (.int e)]):=by
 subst he;subst hx
 exact retIs (.inr (.inr ⟨lkNil,lk rfl,trivial⟩))
theorem retRE {h:Heap} {i:Nat} {k:Nat} {e e':Int} {xs ys:List (List GV)} {t:TypeId} (hi:h[i]?=some (.row xs t k)) (he:e=e') (hx:xs=ys):RetTo (Is (.tuple [.g (.sl k ys),.g (.int e')])) h (.tuple [.row i,.g (.int e)]):=by
 subst he;subst hx
 refine retIs (.inl ?_)
 simp only[conv,List.map_cons,List.map_nil,kp,hi]
end Go.Dm
namespace Go.Proofs.Ythcmdjkaepclhaa
open Go Go.Dm Go.Eng Barb
theorem sameInts_any (a b:List Int) (ha:a.length<=9223372036854775807):CT Try.prog [] 28 [.g (.sl 1 (a.map intG)),.g (.sl 1 (b.map intG))] (Is (.pb (a=b))):=by
 have la:(a.map intG).length=a.length:=by simp
 have lb:(b.map intG).length=b.length:=by simp
 refine enter hT hF hM Try.func28 rfl 26 rfl (by kernel_rfl) [.tmp 4] rfl [.g (.sl 1 (a.map intG)),.g (.sl 1 (b.map intG))] rfl _ ?_
 refine ⟨fun h=>⟨rfl,retF (fun e=>h (by rw[e]))⟩,fun h=>?_⟩
 have hab:a.length=b.length:=by omega
 refine loopR (ι:=Nat) (fun i=>[(5,.g (.int (i:Int)))]) (fun _=>[]) (fun i=>i<=a.length/\∀ j (hj:j < a.length) (hj':j < b.length),j < i->a[j]=b[j]) (fun i=>a.length - i)
  ⟨0,[],⟨rfl,.inl rfl,.inr ⟨lk rfl,trivial⟩,rfl⟩,Nat.zero_le _,fun j _ _ h=>absurd h (Nat.not_lt_zero j)⟩ ?_
 intro Rd hRd i ⟨hi,hall⟩
 refine ⟨fun h1=>?_,fun h1=>?_⟩
 ·have h2:i < a.length:=by omega
  have h3:i < b.length:=by omega
  refine ⟨none,rfl,i,_,rfl,gm h2,?_⟩
  refine ⟨i,_,rfl,gm h3,?_⟩
  refine ⟨fun h4=>⟨rfl,retF (fun e=>h4 (by subst e;rfl))⟩,fun h4=>⟨_,I64.wrap (by unfold I64;omega),?_⟩⟩
  refine hRd _ _ _ ⟨i+1,[],⟨rfl,.inl rfl,.inr ⟨lk rfl,trivial⟩,rfl⟩,⟨h2,fun j hj hj' hji=>?_⟩,by omega⟩
  by_cases e:j=i
  ·subst e;exact h4
  ·exact hall j hj hj' (by omega)
 ·exact ⟨rfl,retT (List.ext_getElem hab (fun j h2 h3=>hall j h2 h3 (by omega)))⟩
end Go.Proofs.Ythcmdjkaepclhaa
