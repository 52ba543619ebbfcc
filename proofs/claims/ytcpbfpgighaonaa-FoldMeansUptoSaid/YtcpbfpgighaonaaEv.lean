/-
  eval.Copy, and cells that are the same: the contracts.
-/
import Derived.Test.YtcpbfpgighaonaaCl
import Derived.Test.YtcpbfpgighaonaaSi
namespace Go.Proofs.Ytcpbfpgighaonaa
open Go Go.Dm Go.Eng Barb

set_option maxRecDepth 20000 in
theorem Copy_any (cs:List Cells) (hI:∀ c∈cs,Cells.I c) (hl:cs.length*48≤140737488351232):CT Try.prog [] 17 [.g (.sl 2 (cs.map Cells.g))] (Is (.g (.sl 2 (cs.map Cells.g)))):=by
 have lc:(cs.map Cells.g).length=cs.length:=by simp
 refine enter hT hF hM Try.func17 rfl 40 rfl (by kernel_rfl) [.tmp 2] rfl [.g (.sl 2 (cs.map Cells.g))] rfl _ ?_
 refine loopR (ι:=Nat) (fun i=>[(11,.g (.int (i:Int))),(3,.row 0)]) (fun i=>[.row ((cs.take i).map Cells.g) 50 2]) (fun i=>i≤cs.length) (fun i=>cs.length - i)
  ⟨0,[.nil 50 2],⟨rfl,.inl rfl,.inr ⟨lk rfl,.inr rfl,trivial⟩,rfl⟩,Nat.zero_le _⟩ ?_
 intro Rd hRd i hi
 refine ⟨fun h1=>?_,fun h1=>?_⟩
 rotate_left
 ·have hil:i=cs.length:=by omega
  exact ⟨rfl,retSl rfl (by rw[hil,List.take_length])⟩
 have h2:i < cs.length:=by omega
 obtain ⟨⟨_,hv⟩,ha,hal⟩:=hI _ (List.getElem_mem h2)
 have la:(cs[i].arrays.map intsG).length=cs[i].arrays.length:=by simp
 refine ⟨i,_,rfl,gm h2,?_⟩
 refine callIs (.inl rfl) (Clone_is (cs[i].vars.map intG) (by rw[List.length_map];exact hv)) ?_
 refine loopR (ι:=Nat) (fun j=>[(22,.g (.int (j:Int))),(6,.ptr 1 0),(3,.row 0)]) (fun j=>[.row ((cs.take i).map Cells.g) 50 2,.blk [.g (.sl 1 (cs[i].vars.map intG)),.row 2] 50,.row ((cs[i].arrays.take j).map intsG) 24 1]) (fun j=>j≤cs[i].arrays.length) (fun j=>cs[i].arrays.length - j)
  ⟨0,[.old 0,.old 2,.nil 24 1],⟨rfl,.inr ⟨⟨rfl,rfl,rfl⟩,⟨rfl,.inr ⟨lk rfl,.inr rfl,trivial⟩⟩,⟨rfl,rfl,rfl⟩,trivial⟩,.inr ⟨lk rfl,lk rfl,lk rfl,trivial⟩,rfl⟩,Nat.zero_le _⟩ ?_
 intro Rj hRj j hj
 refine ⟨fun h3=>?_,fun h3=>?_⟩
 ·have h4:j < cs[i].arrays.length:=by omega
  obtain ⟨_,hb⟩:=ha _ (List.getElem_mem h4)
  refine ⟨j,_,rfl,gm h4,?_⟩
  refine ⟨some 2000,rfl,_,_,.inl rfl,Clone_is (cs[i].arrays[j].map intG) (by rw[List.length_map];exact hb),rfl,?_⟩
  refine ⟨[[.sl 1 (cs[i].arrays[j].map intG)]],rfl,rfl,⟨rfl,trivial⟩,⟨_,rfl⟩,?_⟩
  refine ⟨⟨by simp only[maxLen,List.length_cons,List.length_nil,List.length_map,List.length_take];omega,by simp only[List.length_cons,List.length_nil,List.length_map,List.length_take];omega⟩,?_⟩
  refine ⟨_,I64.wrap (by unfold I64;omega),?_⟩
  refine hRj _ _ _ ⟨j+1,[.old 0,.old 1,.old 4],⟨rfl,.inr ⟨⟨rfl,rfl,rfl⟩,⟨rfl,.inl rfl⟩,⟨?_,rfl,rfl⟩,trivial⟩,.inr ⟨lk rfl,lk rfl,lk rfl,trivial⟩,rfl⟩,h4,by omega⟩
  rw[take_one h4,List.map_append];rfl
 ·have hjl:j=cs[i].arrays.length:=by omega
  have hfull:(cs[i].arrays.take j).map intsG=cs[i].arrays.map intsG:=by rw[hjl,List.take_length]
  refine ⟨[[.sl 1 (cs[i].vars.map intG),.sl 1 (cs[i].arrays.map intsG)]],rfl,rfl,⟨rfl,congrArg (GV.sl 1) hfull,trivial⟩,?_⟩
  refine ⟨⟨by simp only[maxLen,List.length_cons,List.length_nil,List.length_map,List.length_take];omega,by simp only[List.length_cons,List.length_nil,List.length_map,List.length_take];omega⟩,?_⟩
  refine ⟨_,I64.wrap (by unfold I64;omega),?_⟩
  refine hRd _ _ _ ⟨i+1,[.old 4],⟨rfl,.inr ⟨⟨?_,rfl,rfl⟩,trivial⟩,.inr ⟨lk rfl,lk rfl,trivial⟩,rfl⟩,h2,by omega⟩
  rw[take_one h2,List.map_append];rfl
set_option maxRecDepth 20000 in
theorem sameCells_any (cs:List Cells) (hI:∀ c∈cs,Cells.I c) (hl:cs.length*48≤140737488351232):CT Try.prog [] 9 [.g (.sl 2 (cs.map Cells.g)),.g (.sl 2 (cs.map Cells.g))] (Is (.g (.bool true))):=by
 have lc:(cs.map Cells.g).length=cs.length:=by simp
 refine enter hT hF hM Try.func9 rfl 73 rfl (by kernel_rfl) [.tmp 4] rfl [.g (.sl 2 (cs.map Cells.g)),.g (.sl 2 (cs.map Cells.g))] rfl _ ?_
 refine ⟨fun h=>absurd rfl h,fun _=>?_⟩
 refine loopR (ι:=Nat) (fun i=>[(5,.g (.int (i:Int)))]) (fun _=>[]) (fun i=>i≤cs.length) (fun i=>cs.length - i)
  ⟨0,[],⟨rfl,.inl rfl,.inr ⟨lk rfl,trivial⟩,rfl⟩,Nat.zero_le _⟩ ?_
 intro Rd hRd i hi
 refine ⟨fun h1=>?_,fun h1=>⟨rfl,retIs (.inl rfl)⟩⟩
 have h2:i < cs.length:=by omega
 obtain ⟨⟨_,hv⟩,ha,hal⟩:=hI _ (List.getElem_mem h2)
 have la:(cs[i].arrays.map intsG).length=cs[i].arrays.length:=by simp
 refine ⟨none,rfl,i,_,rfl,gm h2,i,_,rfl,gm h2,?_⟩
 refine ⟨_,_,.inl rfl,sameInts_any cs[i].vars cs[i].vars (by omega),rfl,?_⟩
 refine ⟨fun h=>absurd rfl h,fun _=>⟨i,_,rfl,gm h2,i,_,rfl,gm h2,fun h=>absurd rfl h,fun _=>?_⟩⟩
 refine loopR (ι:=Nat) (fun j=>[(6,.g (.int (j:Int)))]) (fun _=>[]) (fun j=>j≤cs[i].arrays.length) (fun j=>cs[i].arrays.length - j)
  ⟨0,[],⟨rfl,.inl rfl,.inr ⟨lk rfl,trivial⟩,rfl⟩,Nat.zero_le _⟩ ?_
 intro Rj hRj j hj
 refine ⟨i,_,rfl,gm h2,?_⟩
 refine ⟨fun h3=>?_,fun h3=>⟨_,I64.wrap (by unfold I64;omega),?_⟩⟩
 ·have h4:j < cs[i].arrays.length:=by omega
  obtain ⟨_,hb⟩:=ha _ (List.getElem_mem h4)
  refine ⟨none,rfl,i,_,rfl,gm h2,j,_,rfl,gm h4,i,_,rfl,gm h2,j,_,rfl,gm h4,?_⟩
  refine ⟨_,_,.inl rfl,sameInts_any cs[i].arrays[j] cs[i].arrays[j] (by omega),rfl,?_⟩
  refine ⟨fun h=>absurd rfl h,fun _=>⟨_,I64.wrap (by unfold I64;omega),?_⟩⟩
  exact hRj _ _ _ ⟨j+1,[],⟨rfl,.inl rfl,.inr ⟨lk rfl,trivial⟩,rfl⟩,h4,by omega⟩
 ·exact hRd _ _ _ ⟨i+1,[],⟨rfl,.inl rfl,.inr ⟨lk rfl,trivial⟩,rfl⟩,h2,by omega⟩
end Go.Proofs.Ytcpbfpgighaonaa
