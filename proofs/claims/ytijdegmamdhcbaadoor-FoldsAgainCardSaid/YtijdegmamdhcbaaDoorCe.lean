/-
  Cells of raw things: the contract of Cells.
-/
import Derived.Test.YtijdegmamdhcbaaDoorGc
import Derived.Test.YtijdegmamdhcbaaDoorPm
import Derived.Test.YtijdegmamdhcbaaDoorUf
namespace Barb
open Go Go.Dm Go.Eng
structure PC (p:List Unit):Prop where
 len:p.length≤1000
 vars:∀ u∈p,u.vars.length≤1000
 arrs:∀ u∈p,u.arrays.length≤1000
 size:∀ u∈p,∀ a∈u.arrays,0≤a.size∧a.size≤1000
theorem arrsC_len (c:Int):∀ (l:List Arr) (n:Int),(arrsC c l n).length=l.length
 | [],_=>rfl
 | _ :: l,n=>by simp only[arrsC,List.length_cons,arrsC_len c l]
theorem cells_row (l:List Cells) (c:Cells):l.map Cells.g++[[.sl 1 (c.vars.map intG),.sl 1 (c.arrays.map intsG)]]=(l++[c]).map Cells.g:=by rw[List.map_append];rfl
theorem ints_row (l:List Int) (n:Int):l.map intG++[[.int n]]=(l++[n]).map intG:=by rw[List.map_append];rfl
theorem intss_row (l:List (List Int)) (n:List Int):l.map intsG++[[.sl 1 (n.map intG)]]=(l++[n]).map intsG:=by rw[List.map_append];rfl
theorem fill_set (A:List (List GV)) (q sz:Nat) (h:q < sz) (hA:A.length=q) (x z:List GV):(A++List.replicate (sz - q) z).set q x=(A++[x])++List.replicate (sz - (q+1)) z:=by
 obtain ⟨m,hm⟩:∃ m,sz - q=m+1:=⟨sz - q - 1,by omega⟩
 rw[hm,show sz - (q+1)=m by omega,List.replicate_succ,List.set_append_right _ _ (by omega),hA,Nat.sub_self,List.set_cons_zero]
 simp
end Barb
namespace Go.Proofs.YtijdegmamdhcbaaDoor
open Go Go.Dm Go.Eng Go.RowKit Barb
set_option maxRecDepth 20000 in
set_option maxHeartbeats 8000000 in
theorem Cells_Q (p:List Barb.Unit) (hp:PC p) (r:Raw) (hr:r.I) (Q:Out→Prop) (hQ:∀ (h:Heap) (i:Nat),h[i]?=some (.row ((cellsP p r).map Cells.g) 93 2)→RetTo Q h (.row i)) :
  CT Tryd.prog gl 22 [.g (.sl 4 (p.map Unit.g)),.agg r.d] Q:=by
 obtain ⟨_,ra,rb,rc⟩:=hr
 have lp:(p.map Unit.g).length=p.length:=List.length_map _
 have na:=pickN_lo r.a (many:=7) (by decide)
 have nb:=pickN_lo r.b (many:=5) (by decide)
 have nc:=pickN_lo r.c (many:=9) (by decide)
 have pa:=picked_any r.a 7 ra (by decide)
 have pb:=picked_any r.b 5 rb (by decide)
 have pc:=picked_any r.c 9 rc (by decide)
 unfold cellsP at hQ
 generalize pickN r.a 7=n0 at na pa hQ
 generalize pickN r.b 5=b at nb pb hQ
 generalize pickN r.c 9=c at nc pc hQ
 have hlen:=hp.len
 refine enter hT hF hM Tryd.func22 rfl 83 rfl (by kernel_rfl) [.tmp 4] rfl [.g (.sl 4 (p.map Unit.g)),.agg r.d] rfl _ ?_
 refine callIs (.inl rfl) pa ?_
 refine loopR (ι:=Nat) (fun i=>[(3,.ptr 0 0),(5,.row 1),(6,.g (.int (endL b c (p.take i) n0))),(19,.g (.int (i:Int)))]) (fun i=>[.blk r.d 24,.row ((cellsL b c (p.take i) n0).map Cells.g) 93 2]) (fun i=>i≤p.length) (fun i=>p.length - i)
  ⟨0,[.old 0,.nil 93 2],⟨rfl,.inl rfl,.inr ⟨lk rfl,.inr rfl,lk rfl,lk rfl,trivial⟩,rfl⟩,Nat.zero_le _⟩ ?_
 intro Rd hRd i hi
 refine ⟨fun hlt=>?_,fun hge=>?_⟩
 rotate_left
 ·have hil:i=p.length:=by omega
  exact ⟨rfl,hQ _ _ (by rw[hil,List.take_length];rfl)⟩
 have hil:i < p.length:=by omega
 have hmem:=List.getElem_mem hil
 have hv:=hp.vars _ hmem
 have ha:=hp.arrs _ hmem
 have hs:=hp.size _ hmem
 have hn1:=endL_rng (b:=b) (c:=c) (p.take i) (n:=n0) (by omega)
 have hlo:=cellsL_len b c (p.take i) n0
 rw[List.length_take] at hlo
 have hnext:cellsL b c (p.take (i+1)) n0=cellsL b c (p.take i) n0++[cellsU b c p[i] (endL b c (p.take i) n0)]:=by rw[take_one hil,cellsL_snoc]
 have hnend:endL b c (p.take (i+1)) n0=endU b c p[i] (endL b c (p.take i) n0):=by rw[take_one hil,endL_snoc]
 refine ⟨i,_,rfl,gm hil,?_⟩
 generalize hou:cellsL b c (p.take i) n0=out at hnext hlo
 generalize endL b c (p.take i) n0=n1 at hn1 hnext hnend
 generalize p[i]=u at hv ha hs hnext hnend
 have lu:(u.vars.map strG).length=u.vars.length:=List.length_map _
 have la:(u.arrays.map Arr.g).length=u.arrays.length:=List.length_map _
 refine loopR (ι:=Nat) (fun k=>[(3,.ptr 0 0),(5,.row 1),(6,.g (.int (iterI (nextV b) k n1))),(8,.ptr 2 0),(9,.ptr 3 0),(19,.g (.int (i:Int))),(27,.g (.int (k:Int)))])
  (fun k=>[.blk r.d 24,.row (out.map Cells.g) 93 2,.blk u.d 74,.blk [.row 4,.nils] 93,.row ((rowI (nextV b) k n1).map intG) 3 1]) (fun k=>k≤u.vars.length) (fun k=>u.vars.length - k)
  ⟨0,[.old 0,.old 1,.old 2,.old 3,.nil 3 1],⟨rfl,.inr ⟨⟨rfl,.inl rfl⟩,⟨rfl,rfl,rfl⟩,⟨rfl,.inl rfl⟩,⟨rfl,.inr ⟨.inr rfl,lk rfl,trivial⟩⟩,⟨rfl,rfl,rfl⟩,trivial⟩,.inr ⟨lk rfl,lk rfl,lk rfl,lk rfl,lk rfl,lk rfl,lk rfl,trivial⟩,rfl⟩,Nat.zero_le _⟩ ?_
 intro Rd2 hRd2 k hk
 refine ⟨fun hklt=>?_,fun hkge=>?_⟩
 ·have hkl:k < u.vars.length:=by omega
  have hnk:=iterV_rng (b:=b) k hn1
  have hst:iterI (nextV b) (k+1) n1=nextV b (iterI (nextV b) k n1):=rfl
  have hrow:=rowI_succ (nextV b) k n1
  have hrl:=rowI_len (nextV b) k n1
  generalize iterI (nextV b) k n1=n at hnk hst hrow
  generalize rowI (nextV b) k n1=row at hrow hrl
  refine ⟨[[.int n]],rfl,rfl,⟨rfl,trivial⟩,?_⟩
  refine ⟨⟨by simp[maxLen];omega,by simp;omega⟩,?_⟩
  refine ⟨by unfold I64;omega,callIs (.inl rfl) pb ⟨_,I64.wrap (by unfold I64;omega),by decide,?_⟩⟩
  refine ⟨_,I64.wrap (by unfold I64;omega),?_⟩
  exact hRd2 _ _ _ ⟨k+1,[.old 0,.old 1,.old 2,.old 3,.old 6],⟨rfl,.inr ⟨⟨rfl,.inl rfl⟩,⟨rfl,rfl,rfl⟩,⟨rfl,.inl rfl⟩,⟨rfl,.inl rfl⟩,⟨by rw[hrow];exact ints_row row n,rfl,rfl⟩,trivial⟩,.inr ⟨lk rfl,lk rfl,lkI (by rw[hst];unfold nextV;rw[Int.tmod_eq_emod_of_nonneg (by omega)]),lk rfl,lk rfl,lk rfl,lkI (by push_cast;rfl),trivial⟩,rfl⟩,hkl,by show u.vars.length - (k+1) < u.vars.length - k;omega⟩
 have hke:k=u.vars.length:=by omega
 subst hke
 have hn2:=iterV_rng (b:=b) u.vars.length hn1
 have hcu:cellsU b c u n1=⟨rowI (nextV b) u.vars.length n1,arrsC c u.arrays (iterI (nextV b) u.vars.length n1)⟩:=rfl
 have heu:endU b c u n1=endA c u.arrays (iterI (nextV b) u.vars.length n1):=rfl
 rw[hcu] at hnext
 rw[heu] at hnend
 generalize rowI (nextV b) u.vars.length n1=vs at hnext
 generalize iterI (nextV b) u.vars.length n1=n2 at hn2 hnext hnend
 refine loopR (ι:=Nat) (fun j=>[(3,.ptr 0 0),(5,.row 1),(6,.g (.int (endA c (u.arrays.take j) n2))),(8,.ptr 2 0),(9,.ptr 3 0),(19,.g (.int (i:Int))),(46,.g (.int (j:Int)))])
  (fun j=>[.blk r.d 24,.row (out.map Cells.g) 93 2,.blk u.d 74,.blk [.row 4,.row 5] 93,.row (vs.map intG) 3 1,.row ((arrsC c (u.arrays.take j) n2).map intsG) 30 1]) (fun j=>j≤u.arrays.length) (fun j=>u.arrays.length - j)
  ⟨0,[.old 0,.old 1,.old 2,.old 3,.old 4,.nil 30 1],⟨rfl,.inr ⟨⟨rfl,.inl rfl⟩,⟨rfl,rfl,rfl⟩,⟨rfl,.inl rfl⟩,⟨rfl,.inr ⟨lk rfl,.inr rfl,trivial⟩⟩,⟨rfl,rfl,rfl⟩,⟨rfl,rfl,rfl⟩,trivial⟩,.inr ⟨lk rfl,lk rfl,lk rfl,lk rfl,lk rfl,lk rfl,lk rfl,trivial⟩,rfl⟩,Nat.zero_le _⟩ ?_
 intro Rd3 hRd3 j hj
 refine ⟨fun hjlt=>?_,fun hjge=>?_⟩
 rotate_left
 ·have hje:j=u.arrays.length:=by omega
  rw[hje,List.take_length] at *
  refine ⟨[[.sl 1 (vs.map intG),.sl 1 ((arrsC c u.arrays n2).map intsG)]],rfl,rfl,⟨seesRow rfl rfl,seesRow rfl rfl,trivial⟩,?_⟩
  refine ⟨⟨by simp[maxLen];omega,by simp;omega⟩,?_⟩
  refine ⟨_,I64.wrap (by unfold I64;omega),?_⟩
  exact hRd _ _ _ ⟨i+1,[.old 0,.old 7],⟨rfl,.inr ⟨⟨rfl,.inl rfl⟩,⟨by rw[hnext];exact cells_row out ⟨vs,arrsC c u.arrays n2⟩,rfl,rfl⟩,trivial⟩,.inr ⟨lk rfl,lk rfl,lkI hnend.symm,lkI (by push_cast;rfl),trivial⟩,rfl⟩,hil,by show p.length - (i+1) < p.length - i;omega⟩
 have hjl:j < u.arrays.length:=by omega
 have hsz:=hs _ (List.getElem_mem hjl)
 have hn3:=endA_rng (c:=c) (u.arrays.take j) hn2
 have ht1:arrsC c (u.arrays.take (j+1)) n2=arrsC c (u.arrays.take j) n2++[rowI (nextA c) u.arrays[j].size.toNat (endA c (u.arrays.take j) n2)]:=by rw[take_one hjl,arrsC_snoc]
 have ht2:endA c (u.arrays.take (j+1)) n2=iterI (nextA c) u.arrays[j].size.toNat (endA c (u.arrays.take j) n2):=by rw[take_one hjl,endA_snoc]
 have hal:(arrsC c (u.arrays.take j) n2).length≤1000:=by rw[arrsC_len,List.length_take];omega
 refine ⟨j,_,rfl,gm hjl,?_⟩
 generalize arrsC c (u.arrays.take j) n2=arrs at ht1 hal
 generalize endA c (u.arrays.take j) n2=n3 at hn3 ht1 ht2
 generalize u.arrays[j]=ar at hsz ht1 ht2
 obtain ⟨sz,hsz'⟩:∃ sz:Nat,ar.size=(sz:Int):=⟨ar.size.toNat,by omega⟩
 rw[show ar.size.toNat=sz by omega] at ht1 ht2
 refine ⟨sz,sz,[.int 0],dJ hsz',dJ hsz',Nat.le_refl _,(by show 8*sz≤140737488355328;omega),by unfold maxLen;omega,⟨rfl,trivial⟩,?_⟩
 refine loopR (ι:=Nat) (fun q=>[(3,.ptr 0 0),(5,.row 1),(6,.g (.int (iterI (nextA c) q n3))),(8,.ptr 2 0),(9,.ptr 3 0),(12,.row 6),(19,.g (.int (i:Int))),(46,.g (.int (j:Int))),(55,.g (.int (q:Int)))])
  (fun q=>[.blk r.d 24,.row (out.map Cells.g) 93 2,.blk u.d 74,.blk [.row 4,.row 5] 93,.row (vs.map intG) 3 1,.row (arrs.map intsG) 30 1,.row ((rowI (nextA c) q n3).map intG++List.replicate (sz - q) [.int 0]) 3 1]) (fun q=>q≤sz) (fun q=>sz - q)
  ⟨0,[.old 0,.old 1,.old 2,.old 3,.old 4,.old 5,.old 7],⟨rfl,.inl rfl,.inr ⟨lk rfl,lk rfl,lk rfl,lk rfl,lk rfl,lk rfl,lk rfl,lk rfl,lk rfl,trivial⟩,rfl⟩,Nat.zero_le _⟩ ?_
 intro Rd4 hRd4 q hq
 have hlr:(List.replicate sz ([GV.int 0]:List GV)).length=sz:=List.length_replicate
 refine ⟨fun hqlt=>?_,fun hqge=>?_⟩
 ·have hql:q < sz:=by omega
  have hnq:=iterA_rng (c:=c) q hn3
  have hst:iterI (nextA c) (q+1) n3=nextA c (iterI (nextA c) q n3):=rfl
  have hrow:=rowI_succ (nextA c) q n3
  have hrl:=rowI_len (nextA c) q n3
  generalize iterI (nextA c) q n3=n at hnq hst hrow
  generalize rowI (nextA c) q n3=row at hrow hrl
  have hrl':(row.map intG).length=q:=by rw[List.length_map];exact hrl
  have hget:(row.map intG++List.replicate (sz - q) ([GV.int 0]:List GV))[q]?=some [.int 0]:=by
   rw[List.getElem?_append_right (by omega),hrl',Nat.sub_self,List.getElem?_replicate,if_pos (by omega)]
  refine ⟨q,rfl,(by show q < (row.map intG++List.replicate (sz - q) ([GV.int 0]:List GV)).length;rw[List.length_append,hrl',List.length_replicate];omega),?_⟩
  refine ⟨_,[.int n],hget,⟨rfl,trivial⟩,Nat.le_refl 1,(fun h=>by cases h),?_⟩
  refine ⟨by unfold I64;omega,callIs (.inl rfl) pc ⟨_,I64.wrap (by unfold I64;omega),by decide,?_⟩⟩
  refine ⟨_,I64.wrap (by unfold I64;omega),?_⟩
  exact hRd4 _ _ _ ⟨q+1,[.old 0,.old 1,.old 2,.old 3,.old 4,.old 5,.old 6],⟨rfl,.inr ⟨⟨rfl,.inl rfl⟩,⟨rfl,rfl,rfl⟩,⟨rfl,.inl rfl⟩,⟨rfl,.inl rfl⟩,⟨rfl,rfl,rfl⟩,⟨rfl,rfl,rfl⟩,⟨(fill_set (row.map intG) q sz hql hrl' [.int n] [.int 0]).trans (by rw[hrow,ints_row]),rfl,rfl⟩,trivial⟩,.inr ⟨lk rfl,lk rfl,lkI (by rw[hst];unfold nextA;rw[Int.tmod_eq_emod_of_nonneg (by omega)]),lk rfl,lk rfl,lk rfl,lk rfl,lk rfl,lkI (by push_cast;rfl),trivial⟩,rfl⟩,hql,by show sz - (q+1) < sz - q;omega⟩
 ·have hqe:q=sz:=by omega
  subst hqe
  refine ⟨[[.sl 1 ((rowI (nextA c) q n3).map intG++List.replicate (q - q) [.int 0])]],rfl,rfl,⟨seesRow rfl rfl,trivial⟩,?_⟩
  refine ⟨⟨by simp[maxLen];omega,by simp;omega⟩,?_⟩
  refine ⟨_,I64.wrap (by unfold I64;omega),?_⟩
  exact hRd3 _ _ _ ⟨j+1,[.old 0,.old 1,.old 2,.old 3,.old 4,.old 8],⟨rfl,.inr ⟨⟨rfl,.inl rfl⟩,⟨rfl,rfl,rfl⟩,⟨rfl,.inl rfl⟩,⟨rfl,.inl rfl⟩,⟨rfl,rfl,rfl⟩,⟨by rw[ht1,Nat.sub_self,List.replicate_zero,List.append_nil];exact intss_row _ _,rfl,rfl⟩,trivial⟩,.inr ⟨lk rfl,lk rfl,lkI ht2.symm,lk rfl,lk rfl,lk rfl,lkI (by push_cast;rfl),trivial⟩,rfl⟩,hjl,by show u.arrays.length - (j+1) < u.arrays.length - j;omega⟩
end Go.Proofs.YtijdegmamdhcbaaDoor
