/-
  link.Data, and the words that the document says stores have: the contracts.
-/
import Derived.Test.YtcpbfpgighaonaaEk
import Derived.Test.YtcpbfpgighaonaaSi
namespace Barb
open Go Go.Dm Go.Eng
def flatC (c:Cells):List Int:=c.vars++c.arrays.flatten
def flatN (cs:List Cells):List Int:=cs.flatMap flatC
noncomputable def dataL (p:List Unit) (cs:List Cells):List Int:=if cellsE p cs=0 then flatN cs else []
theorem flat_ten:∀ (l:List (List Int)),(∀ a∈l,a.length≤10)→l.flatten.length≤10*l.length
 | [],_=>by simp
 | a :: l,h=>by
  have h1:=flat_ten l (fun b hb=>h b (List.mem_cons_of_mem _ hb))
  have h2:=h a List.mem_cons_self
  simp only[List.flatten_cons,List.length_append,List.length_cons]
  omega
theorem flatN_succ {cs:List Cells} {i:Nat} (h:i < cs.length):flatN (cs.take (i+1))=flatN (cs.take i)++cs[i].vars++cs[i].arrays.flatten:=by
 unfold flatN
 rw[take_one h,List.flatMap_append]
 simp only[List.flatMap_cons,List.flatMap_nil,List.append_nil,flatC,List.append_assoc]
theorem flatten_succ {l:List (List Int)} {j:Nat} (h:j < l.length):(l.take (j+1)).flatten=(l.take j).flatten++l[j]:=by
 rw[take_one h,List.flatten_append]
 simp only[List.flatten_cons,List.flatten_nil,List.append_nil]
theorem flatN_len:∀ (l:List Cells),(∀ c∈l,(flatC c).length≤38)→(flatN l).length≤38*l.length
 | [],_=>by simp[flatN]
 | a :: l,h=>by
  have h1:=flatN_len l (fun b hb=>h b (List.mem_cons_of_mem _ hb))
  have h2:=h a List.mem_cons_self
  unfold flatN at h1 ⊢
  simp only[List.flatMap_cons,List.length_append,List.length_cons]
  omega
theorem cell_small {u:Unit} {c:Cells} (hu:unitE u=0) (hc:cellOk u c):c.vars.length≤8∧c.arrays.length≤3∧∀ a∈c.arrays,a.length≤10:=by
 obtain ⟨h1,h2,_,h4⟩:=unitE_ok hu
 obtain ⟨⟨c1,c2⟩,c3⟩:=hc
 refine ⟨by have:=c1.1;omega,by omega,fun a ha=>?_⟩
 obtain ⟨j,hj,rfl⟩:=List.getElem_of_mem ha
 have:=(c3 j hj (by omega)).1
 have:=(h4 _ (List.getElem_mem (show j < u.arrays.length by omega))).2
 omega
theorem flatC_len {c:Cells} (h1:c.vars.length≤8) (h2:c.arrays.length≤3) (h3:∀ a∈c.arrays,a.length≤10):(flatC c).length≤38:=by
 have:=flat_ten _ h3
 unfold flatC
 simp only[List.length_append]
 omega
theorem cells_small {p:List Unit} {cs:List Cells} (h:cellsE p cs=0):cs.length≤5∧(∀ c∈cs,c.vars.length≤8∧c.arrays.length≤3∧∀ a∈c.arrays,a.length≤10):=by
 obtain ⟨hp,hl,hc⟩:=cellsE_ok h
 obtain ⟨h5,hu⟩:=progE_fine hp
 refine ⟨by omega,fun c hm=>?_⟩
 obtain ⟨j,hj,rfl⟩:=List.getElem_of_mem hm
 exact cell_small (hu _ (List.getElem_mem (show j < p.length by omega))) (hc j hj (by omega))
theorem dataL_len (p:List Unit) (cs:List Cells):(dataL p cs).length≤190:=by
 unfold dataL
 by_cases h:cellsE p cs=0
 ·rw[if_pos h]
  obtain ⟨h5,hs⟩:=cells_small h
  have:=flatN_len cs (fun c hc=>by obtain ⟨h1,h2,h3⟩:=hs c hc;exact flatC_len h1 h2 h3)
  omega
 ·rw[if_neg h];simp
theorem room8 {n:Nat} (h:n≤1000):n≤maxLen∧n*8≤140737488355328:=by unfold maxLen;omega
end Barb
namespace Go.Proofs.Ytcpbfpgighaonaa
open Go Go.Dm Go.Eng Barb

end Go.Proofs.Ytcpbfpgighaonaa
