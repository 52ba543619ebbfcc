/-
  eval.Copy: stores in memory of their own, to be written.
-/
import Derived.Test.YtcpbfpgighaonaaEh
import Derived.Test.YtcpbfpgighaonaaCl
namespace Barb
open Go Go.Dm Go.Eng
theorem zip_snoc {α β γ:Type} (f:α→β→γ):∀ (xs:List α) (ys:List β) (a:α) (b:β),xs.length=ys.length→List.zipWith f (xs++[a]) (ys++[b])=List.zipWith f xs ys++[f a b]
 | [],[],_,_,_=>rfl
 | [],_ :: _,_,_,h=>by simp at h
 | _ :: _,[],_,_,h=>by simp at h
 | x :: xs,y :: ys,a,b,h=>by
  simp only[List.cons_append,List.zipWith_cons_cons]
  rw[zip_snoc f xs ys a b (by simpa using h)]
theorem many_snoc (t:Nat):∀ (N:List CN) (C:List Cells) (n:CN) (c:Cells),N.length=C.length→manyZ t (N++[n]) (C++[c])=manyZ t N C++cellZ t n c
 | [],[],_,_,_=>by simp[manyZ]
 | [],_ :: _,_,_,h=>by simp at h
 | _ :: _,[],_,_,h=>by simp at h
 | m :: N,d :: C,n,c,h=>by
  simp only[List.cons_append,manyZ]
  rw[many_snoc t N C n c (by simpa using h),List.append_assoc]
end Barb
namespace Go.Proofs.Ytcpbfpgighaonaa
open Go Go.Dm Go.Eng Go.RowKit Barb
set_option maxRecDepth 20000 in
theorem CopyOwn_any (cs:List Cells) (hI:∀ c∈cs,Cells.I c) (hl:cs.length*48≤140737488351232):CT Try.prog [] 17 [.g (.sl 2 (cs.map Cells.g))]
  (fun out=>∃ N,NI N cs∧out=.ret (.row 0) [.row (N.map CN.g) 50 2,.many (manyZ 3 N cs) []]):=by
 have lc:(cs.map Cells.g).length=cs.length:=by simp
 refine enterJ [] hT hF hM Try.func17 rfl 40 rfl (by kernel_rfl) [.tmp 2] rfl [.g (.sl 2 (cs.map Cells.g))] rfl _ ?_
 refine loopR (ι:=List CN) (fun N=>[(11,.g (.int (N.length:Int))),(3,.row 0)]) (fun N=>[.row (N.map CN.g) 50 2,.many (manyZ 3 N (cs.take N.length)) []]) (fun N=>N.length≤cs.length∧NI N (cs.take N.length)) (fun N=>cs.length - N.length)
  ⟨[],[.nil 50 2,.many0],⟨rfl,.inl rfl,.inr ⟨lk rfl,.inr rfl,trivial⟩,rfl⟩,Nat.zero_le _,⟨rfl,fun i h=>by simp at h⟩⟩ ?_
 rintro Rd hRd N ⟨hi,hN⟩
 have lN:(N.map CN.g).length=N.length:=List.length_map _
 refine ⟨fun h1=>?_,fun h1=>?_⟩
 rotate_left
 ·have hil:N.length=cs.length:=by omega
  rw[hil,List.take_length] at hN
  exact ⟨rfl,[.old 0,.old 1],.row 0,[.row (N.map CN.g) 50 2,.many (manyZ 3 N cs) []],⟨rfl,.inr ⟨⟨rfl,rfl,rfl⟩,⟨by rw[hil,List.take_length],rfl⟩,trivial⟩,.inl rfl,rfl⟩,N,hN,rfl⟩
 have h2:N.length < cs.length:=by omega
 obtain ⟨⟨_,hv⟩,ha,hal⟩:=hI _ (List.getElem_mem h2)
 have noI:∀ (l:List Int),∀ r∈l.map intG,∀ g∈r,noV g:=fun l r hr g hg=>by
  obtain ⟨x,_,rfl⟩:=List.mem_map.1 hr
  rcases List.mem_singleton.1 hg with rfl
  trivial
 refine ⟨N.length,_,rfl,gm h2,?_⟩
 refine .inl ?_
 refine .inr (semRow (.inl rfl) (Clone_any (cs[N.length].vars.map intG) (by rw[List.length_map];exact hv)) (noI _) ?_)
 refine .inl ?_
 refine .inr (ghNameC 4 0 1 3 rfl rfl rfl rfl (fun v=>ghHide 1 3 v (rowZ 3 cs[N.length].vars) rfl List.mem_cons_self rfl ⟨rfl,rfl,rfl⟩ (ghNo ?_)))
 have la:(cs[N.length].arrays.map intsG).length=cs[N.length].arrays.length:=by simp
 refine loopR (ι:=List Value) (fun vs=>[(22,.g (.int (vs.length:Int))),(3,.row 0),(6,.ptr 1 0)]) (fun vs=>[.row (N.map CN.g) 50 2,.blk [.g (.raw v),.row 2] 50,.row (vs.map fun a=>[.raw a]) 24 1,
   .many (manyZ 3 N (cs.take N.length)++(v,rowZ 3 cs[N.length].vars) :: List.zipWith (fun v l=>(v,rowZ 3 l)) vs (cs[N.length].arrays.take vs.length)) []]) (fun vs=>vs.length≤cs[N.length].arrays.length) (fun vs=>cs[N.length].arrays.length - vs.length)
  ⟨[],[.old 0,.old 4,.nil 24 1,.old 1],⟨rfl,.inr ⟨⟨rfl,rfl,rfl⟩,⟨rfl,.inr ⟨lk rfl,.inr rfl,trivial⟩⟩,⟨rfl,rfl,rfl⟩,⟨List.Perm.refl _,rfl⟩,trivial⟩,.inr ⟨lk rfl,lk rfl,lk rfl,trivial⟩,rfl⟩,Nat.zero_le _⟩ ?_
 intro Rj hRj vs hj
 have lv:(vs.map fun a=>[GV.raw a]).length=vs.length:=List.length_map _
 refine ⟨fun h3=>?_,fun h3=>?_⟩
 ·have h4:vs.length < cs[N.length].arrays.length:=by omega
  obtain ⟨_,hb⟩:=ha _ (List.getElem_mem h4)
  have hclone:=Clone_any (cs[N.length].arrays[vs.length].map intG) (by rw[List.length_map];exact hb)
  have hroom:(vs.map fun a=>[GV.raw a]).length+1≤maxLen∧((vs.map fun a=>[GV.raw a]).length+1)*24≤140737488355328:=⟨by unfold maxLen;omega,by omega⟩
  refine ⟨vs.length,_,rfl,gm h4,?_⟩
  refine ⟨some 60001,(.lead 0 (.lead 2 (.two (.run 1 (.run 3 (.run 4 (.run 5 (.lead 6 (.run 7 .done)))))) (.run 3 (.two (.run 1 (.run 4 (.run 5 (.lead 6 (.run 7 .done))))) (.run 4 (.run 1 (.run 5 (.lead 6 (.run 7 .done)))))))))),rfl,?_⟩
  refine ⟨.inr (semRow (.inl rfl) hclone (noI _) (ghName 3 4 rfl rfl (fun a=>ghHide 3 4 a (rowZ 3 cs[N.length].arrays[vs.length]) rfl List.mem_cons_self rfl ⟨rfl,rfl,rfl⟩ (ghNo ⟨[[.raw a]],rfl,rfl,⟨rfl,trivial⟩,⟨hroom,.inl (.inl (?_))⟩⟩)))),.inr (semRow (.inl rfl) hclone (noI _) (⟨ghName 3 4 rfl rfl (fun a=>ghHide 3 4 a (rowZ 3 cs[N.length].arrays[vs.length]) rfl List.mem_cons_self rfl ⟨rfl,rfl,rfl⟩ (ghNo ⟨[[.raw a]],rfl,rfl,⟨rfl,trivial⟩,⟨hroom,.inl (.inl (?_))⟩⟩)),ghName 3 4 rfl rfl (fun a=>ghHide 3 4 a (rowZ 3 cs[N.length].arrays[vs.length]) rfl List.mem_cons_self rfl ⟨rfl,rfl,rfl⟩ (ghNo ⟨[[.raw a]],rfl,rfl,⟨rfl,trivial⟩,⟨hroom,.inl (.inl (?_))⟩⟩))⟩))⟩
  all_goals
   refine ⟨_,I64.wrap (by unfold I64;omega),?_⟩
   refine hRj _ _ _ ⟨vs++[a],[.old 0,.old 1,.old 6,.old 3],⟨rfl,.inr ⟨⟨rfl,rfl,rfl⟩,⟨rfl,.inl rfl⟩,⟨by rw[List.map_append];rfl,rfl,rfl⟩,⟨?_,rfl⟩,trivial⟩,.inr ⟨lkI (by simp),lk rfl,lk rfl,trivial⟩,rfl⟩,by simp;omega,by simp;omega⟩
   rw[List.length_append,List.length_singleton,take_one h4,zip_snoc _ _ _ _ _ (by simp;omega)]
   simp
 ·have hjl:vs.length=cs[N.length].arrays.length:=by omega
  have hzl:(cs[N.length].arrays.take vs.length)=cs[N.length].arrays:=by rw[hjl,List.take_length]
  refine ⟨[[.raw v,.sl 1 (vs.map fun a=>[.raw a])]],rfl,rfl,⟨rfl,rfl,trivial⟩,?_⟩
  refine ⟨⟨by simp only[maxLen,List.length_cons,List.length_nil,List.length_map];omega,by simp only[List.length_cons,List.length_nil,List.length_map];omega⟩,.inl ?_⟩
  refine ⟨_,I64.wrap (by unfold I64;omega),?_⟩
  have hlen:N.length=(cs.take N.length).length:=by rw[List.length_take];omega
  refine hRd _ _ _ ⟨N++[⟨v,vs⟩],[.old 5,.old 3],⟨rfl,.inr ⟨⟨by rw[List.map_append];rfl,rfl,rfl⟩,⟨?_,rfl⟩,trivial⟩,.inr ⟨lkI (by simp),lk rfl,trivial⟩,rfl⟩,⟨by simp;omega,?_⟩,by simp;omega⟩
  ·rw[List.length_append,List.length_singleton,take_one h2,many_snoc _ _ _ _ _ hlen,hzl]
   exact List.Perm.refl _
  ·rw[List.length_append,List.length_singleton,take_one h2]
   refine ⟨by simp;omega,fun i hi1 hi2=>?_⟩
   by_cases hin:i < N.length
   ·rw[List.getElem_append_left hin,List.getElem_append_left (by omega)]
    exact hN.ar i hin (by omega)
   ·have hie:i=N.length:=by simp at hi1;omega
    subst hie
    rw[List.getElem_append_right (by omega),List.getElem_append_right (by omega)]
    simpa using hjl
end Go.Proofs.Ytcpbfpgighaonaa
