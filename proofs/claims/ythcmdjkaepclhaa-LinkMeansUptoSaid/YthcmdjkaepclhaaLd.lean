import Derived.Test.YthcmdjkaepclhaaEk
import Derived.Test.YthcmdjkaepclhaaSi
namespace Barb
open Go Go.Dm Go.Eng
def flatC (c:Cells):List Int:=c.vars++c.arrays.flatten
def flatN (cs:List Cells):List Int:=cs.flatMap flatC
noncomputable def dataL (p:List Unit) (cs:List Cells):List Int:=if cellsE p cs=0 then flatN cs else []
theorem flat_ten:∀ (l:List (List Int)),(∀ a∈l,a.length<=10)->l.flatten.length<=10*l.length
 | [],_=>by simp
 | a :: l,h=>by
  have h1:=flat_ten l (fun b hb=>h b (List.mem_cons_of_mem _ hb))
  have h2:=h a List.mem_cons_self
  simp only[List.flatten_cons,List.length_append,List.length_cons]
  omega
theorem flatN_succ {cs:List Cells} {i:Nat} (h:i < cs.length):flatN (cs.take (i+1))=flatN (cs.take i)++cs[i].vars++cs[i].arrays.flatten:=by
 unfold flatN
 rw[take_one h,List.flatMap_append]
 simp only[List.flatMap_cons,List.flatMap_nil,List.append_nil,flatC,List.append_assoc]
theorem flatten_succ {l:List (List Int)} {j:Nat} (h:j < l.length):(l.take (j+1)).flatten=(l.take j).flatten++l[j]:=by
 rw[take_one h,List.flatten_append]
 simp only[List.flatten_cons,List.flatten_nil,List.append_nil]
theorem flatN_len:∀ (l:List Cells),(∀ c∈l,(flatC c).length<=38)->(flatN l).length<=38*l.length
 | [],_=>by simp[flatN]
 | a :: l,h=>by
  have h1:=flatN_len l (fun b hb=>h b (List.mem_cons_of_mem _ hb))
  have h2:=h a List.mem_cons_self
  unfold flatN at h1 ⊢
  simp only[List.flatMap_cons,List.length_append,List.length_cons]
  omega
theorem cell_small {u:Unit} {c:Cells} (hu:unitE u=0) (hc:cellOk u c):c.vars.length<=8/\c.arrays.length<=3/\∀ a∈c.arrays,a.length<=10:=by
 obtain ⟨h1,h2,_,h4⟩:=unitE_ok hu
 obtain ⟨⟨c1,c2⟩,c3⟩:=hc
 refine ⟨by have:=c1.1;omega,by omega,fun a ha=>?_⟩
 obtain ⟨j,hj,rfl⟩:=List.getElem_of_mem ha
 have:=(c3 j hj (by omega)).1
 have:=(h4 _ (List.getElem_mem (show j < u.arrays.length by omega))).2
 omega
theorem flatC_len {c:Cells} (h1:c.vars.length<=8) (h2:c.arrays.length<=3) (h3:∀ a∈c.arrays,a.length<=10):(flatC c).length<=38:=by
 have:=flat_ten _ h3
 unfold flatC
 simp only[List.length_append]
 omega
theorem cells_small {p:List Unit} {cs:List Cells} (h:cellsE p cs=0):cs.length<=5/\(∀ c∈cs,c.vars.length<=8/\c.arrays.length<=3/\∀ a∈c.arrays,a.length<=10):=by
 obtain ⟨hp,hl,hc⟩:=cellsE_ok h
 obtain ⟨h5,hu⟩:=progE_fine hp
 refine ⟨by omega,fun c hm=>?_⟩
 obtain ⟨j,hj,rfl⟩:=List.getElem_of_mem hm
 exact cell_small (hu _ (List.getElem_mem (show j < p.length by omega))) (hc j hj (by omega))
theorem room8 {n:Nat} (h:n<=1000):n<=maxLen/\n*8<=140737488355328:=by unfold maxLen;omega
end Barb
namespace Go.Proofs.Ythcmdjkaepclhaa
open Go Go.Dm Go.Eng Barb
set_option maxRecDepth 20000 in
theorem DataOf_any (p:List Barb.Unit) (hp:progI p) (cs:List Cells) (hI:∀ c∈cs,Cells.I c) (hl:cs.length*48<=140737488351232):CT Try.prog [] 25 [.g (.sl 4 (p.map Unit.g)),.g (.sl 2 (cs.map Cells.g))] (Is (.tuple [.g (.sl 1 ((dataL p cs).map intG)),.g (.int (cellsE p cs))])):=by
 have lc:(cs.map Cells.g).length=cs.length:=by simp
 refine enter hT hF hM Try.func25 rfl 50 rfl (by kernel_rfl) [.tmp 4,.tmp 5] rfl [.g (.sl 4 (p.map Unit.g)),.g (.sl 2 (cs.map Cells.g))] rfl _ ?_
 refine callIs (.inl rfl) (CellsFault_any p hp cs hI hl) ⟨fun h=>⟨rfl,retNE rfl (by unfold dataL;rw[if_neg h];rfl)⟩,fun hE=>?_⟩
 obtain ⟨h5,hs⟩:=cells_small hE
 refine loopR (ι:=Nat) (fun i=>[(8,.g (.int (i:Int))),(7,.row 0)]) (fun i=>[.row ((flatN (cs.take i)).map intG) 3 1]) (fun i=>i<=cs.length) (fun i=>cs.length - i)
  ⟨0,[.nil 3 1],⟨rfl,.inl rfl,.inr ⟨lk rfl,.inr rfl,trivial⟩,rfl⟩,Nat.zero_le _⟩ ?_
 intro Rd hRd i hi
 refine ⟨fun b0=>?_,fun b0=>?_⟩
 rotate_left
 ·have hil:i=cs.length:=by omega
  exact ⟨rfl,retRE rfl hE.symm (by unfold dataL;rw[if_pos hE,hil,List.take_length])⟩
 have b1:i < cs.length:=by omega
 have hlen:=flatN_len (cs.take i) (fun c hc=>by obtain ⟨h1,h2,h3⟩:=hs c (List.mem_of_mem_take hc);exact flatC_len h1 h2 h3)
 rw[List.length_take] at hlen
 have hnext:flatN (cs.take (i+1))=flatN (cs.take i)++cs[i].vars++cs[i].arrays.flatten:=flatN_succ b1
 obtain ⟨s1,s2,s3⟩:=hs _ (List.getElem_mem b1)
 have gc:=gm (f:=Cells.g) b1
 generalize cs[i]=c at *
 generalize flatN (cs.take i)=F at *
 have la:(c.arrays.map intsG).length=c.arrays.length:=by simp
 refine ⟨i,_,rfl,gc,?_⟩
 refine ⟨room8 (by simp only[List.length_map];omega),?_⟩
 refine loopR (ι:=Nat) (fun j=>[(9,.g (.int (j:Int))),(7,.row 0)]) (fun j=>[.row ((F++c.vars++(c.arrays.take j).flatten).map intG) 3 1]) (fun j=>j<=c.arrays.length) (fun j=>c.arrays.length - j)
  ⟨0,[.old 1],⟨rfl,.inr ⟨⟨by simp,rfl,rfl⟩,trivial⟩,.inr ⟨lk rfl,lk rfl,trivial⟩,rfl⟩,Nat.zero_le _⟩ ?_
 intro Rj hRj j hj
 refine ⟨i,_,rfl,gc,?_⟩
 refine ⟨fun h3=>?_,fun h3=>?_⟩
 ·have h4:j < c.arrays.length:=by omega
  have hj10:=flat_ten (c.arrays.take j) (fun a ha=>s3 a (List.mem_of_mem_take ha))
  rw[List.length_take] at hj10
  have ha10:=s3 _ (List.getElem_mem h4)
  have hn2:(F++c.vars++(c.arrays.take (j+1)).flatten)=(F++c.vars++(c.arrays.take j).flatten)++c.arrays[j]:=by
   rw[flatten_succ h4,<- List.append_assoc]
  refine ⟨i,_,rfl,gc,j,_,rfl,gm h4,?_⟩
  refine ⟨room8 (by simp only[List.length_map,List.length_append];omega),?_⟩
  refine ⟨_,I64.wrap (by unfold I64;omega),?_⟩
  exact hRj _ _ _ ⟨j+1,[.old 1],⟨rfl,.inr ⟨⟨by rw[hn2,List.map_append (l₂:=c.arrays[j])],rfl,rfl⟩,trivial⟩,.inr ⟨lk rfl,lk rfl,trivial⟩,rfl⟩,h4,by omega⟩
 ·have hjl:j=c.arrays.length:=by omega
  refine ⟨_,I64.wrap (by unfold I64;omega),?_⟩
  exact hRd _ _ _ ⟨i+1,[.old 0],⟨rfl,.inr ⟨⟨by rw[hnext,hjl,List.take_length],rfl,rfl⟩,trivial⟩,.inr ⟨lk rfl,lk rfl,trivial⟩,rfl⟩,b1,by omega⟩
end Go.Proofs.Ythcmdjkaepclhaa
