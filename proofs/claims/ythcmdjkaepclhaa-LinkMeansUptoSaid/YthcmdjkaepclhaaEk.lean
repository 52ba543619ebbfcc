import Derived.Test.YthcmdjkaepclhaaNq
namespace Barb
open Go Go.Dm Go.Eng
def wordsOk (l:List Int) (n:Int):Prop:=(l.length:Int)=n/\∀ x∈l,0<=x/\x<=65535
def cellOk (u:Unit) (c:Cells):Prop:=(wordsOk c.vars u.vars.length/\c.arrays.length=u.arrays.length)/\∀ k (h:k < c.arrays.length) (h':k < u.arrays.length),wordsOk c.arrays[k] u.arrays[k].size
def cellsOk (p:List Unit) (cs:List Cells):Prop:=∀ i (h:i < cs.length) (h':i < p.length),cellOk p[i] cs[i]
noncomputable def cellsE (p:List Unit) (cs:List Cells):Int:=if progE p≠0 then progE p else if ¬(cs.length=p.length) then 8 else @ite _ (cellsOk p cs) (Classical.propDecidable _) 0 8
theorem progE_fine {p:List Unit} (h:progE p=0):p.length<=5/\∀ u∈p,unitE u=0:=by
 unfold progE at h
 by_cases h5:5 < p.length
 ·rw[if_pos h5] at h;omega
 ·rw[if_neg h5] at h
  by_cases h1:firstE unitE p≠0
  ·rw[if_pos h1] at h;exact absurd h h1
  ·exact ⟨by omega,firstE_all (Classical.not_not.1 h1)⟩
theorem cellsE_no {p:List Unit} {cs:List Cells} {i:Nat} (hp:progE p=0) (hl:cs.length=p.length) (h:i < cs.length) (h':i < p.length) (hb:¬cellOk p[i] cs[i]):cellsE p cs=8:=by
 unfold cellsE
 rw[if_neg (fun h=>h hp),if_neg (fun h=>h hl),if_neg (fun hc=>hb (hc i h h'))]
theorem cellsE_yes {p:List Unit} {cs:List Cells} (hp:progE p=0) (hl:cs.length=p.length) (hc:cellsOk p cs):cellsE p cs=0:=by
 unfold cellsE
 rw[if_neg (fun h=>h hp),if_neg (fun h=>h hl),if_pos hc]
theorem cellsE_ok {p:List Unit} {cs:List Cells} (h:cellsE p cs=0):progE p=0/\cs.length=p.length/\cellsOk p cs:=by
 unfold cellsE at h
 by_cases hp:progE p≠0
 ·rw[if_pos hp] at h;exact absurd h hp
 ·rw[if_neg hp] at h
  by_cases hl:¬(cs.length=p.length)
  ·rw[if_pos hl] at h;omega
  ·rw[if_neg hl] at h
   refine ⟨Classical.not_not.1 hp,Classical.not_not.1 hl,Classical.byContradiction fun hc=>?_⟩
   rw[if_neg hc] at h;omega
theorem allw_end {l:List Int} (h:∀ j (hj:j < l.length),¬¬(0<=l[j]/\l[j]<=65535)):∀ x∈l,0<=x/\x<=65535:=fun x hx=>by
 obtain ⟨j,hj,rfl⟩:=List.getElem_of_mem hx
 exact Classical.not_not.1 (h j hj)
end Barb
namespace Go.Proofs.Ythcmdjkaepclhaa
open Go Go.Dm Go.Eng Barb
theorem wordsMay_any (l:List Int) (hl:l.length<=9223372036854775807) (n:Int):CT Try.prog [] 23 [.g (.sl 1 (l.map intG)),.g (.int n)] (Is (.pb (wordsOk l n))):=by
 have ll:(l.map intG).length=l.length:=by simp
 refine enter hT hF hM Try.func23 rfl 22 rfl (by kernel_rfl) [.tmp 4] rfl [.g (.sl 1 (l.map intG)),.g (.int n)] rfl _ ?_
 refine loopR (ι:=Nat) (fun i=>[(5,.g (.int (i:Int)))]) (fun _=>[]) (fun i=>i<=l.length/\∀ j (hj:j < l.length),j < i->¬(fun n:Int=>¬(0<=n/\n<=65535)) l[j]) (fun i=>l.length - i)
  ⟨0,[],⟨rfl,.inl rfl,.inr ⟨lk rfl,trivial⟩,rfl⟩,Nat.zero_le _,alln_0 (q:=fun n:Int=>¬(0<=n/\n<=65535))⟩ ?_
 intro Rd hRd i ⟨hi,ha⟩
 refine ⟨fun h=>?_,fun h=>?_⟩
 ·have h1:i < l.length:=by omega
  refine ⟨i,_,rfl,gm h1,?_⟩
  refine callIs (.inl rfl) (IsWord_any l[i]) ⟨fun h2=>⟨rfl,retF (fun h3=>h2 (h3.2 _ (List.getElem_mem h1)))⟩,fun h2=>⟨_,I64.wrap (by unfold I64;omega),?_⟩⟩
  exact hRd _ _ _ ⟨i+1,[],⟨rfl,.inl rfl,.inr ⟨lk rfl,trivial⟩,rfl⟩,⟨h1,alln_step (q:=fun n:Int=>¬(0<=n/\n<=65535)) h1 ha (fun h3=>h3 h2)⟩,by omega⟩
 ·exact ⟨rfl,retP ⟨fun h2=>⟨by rw[<- ll];exact h2,allw_end (fun j hj=>ha j hj (by omega))⟩,fun h2=>by rw[ll];exact h2.1⟩⟩
set_option maxRecDepth 20000 in
set_option maxHeartbeats 1000000 in
theorem CellsFault_any (p:List Barb.Unit) (hp:progI p) (cs:List Cells) (hI:∀ c∈cs,Cells.I c) (hl:cs.length*48<=140737488351232):CT Try.prog [] 11 [.g (.sl 4 (p.map Unit.g)),.g (.sl 2 (cs.map Cells.g))] (Is (.g (.int (cellsE p cs)))):=by
 have lp:(p.map Unit.g).length=p.length:=by simp
 have lc:(cs.map Cells.g).length=cs.length:=by simp
 refine enter hT hF hM Try.func11 rfl 81 rfl (by kernel_rfl) [.tmp 4] rfl [.g (.sl 4 (p.map Unit.g)),.g (.sl 2 (cs.map Cells.g))] rfl _ ?_
 refine callIs (.inl rfl) (ProgramFault_any p hp) ⟨fun h=>⟨rfl,retI (by unfold cellsE;rw[if_pos h])⟩,fun hE=>?_⟩
 refine ⟨fun h=>⟨rfl,retI (by unfold cellsE;rw[if_neg (fun h'=>h' hE),if_pos (by omega)])⟩,fun h=>?_⟩
 have hlen:cs.length=p.length:=by omega
 refine loopR (ι:=Nat) (fun i=>[(6,.g (.int (i:Int)))]) (fun _=>[]) (fun i=>i<=cs.length/\∀ j (hj:j < cs.length) (hj':j < p.length),j < i->cellOk p[j] cs[j]) (fun i=>cs.length - i)
  ⟨0,[],⟨rfl,.inl rfl,.inr ⟨lk rfl,trivial⟩,rfl⟩,Nat.zero_le _,fun j _ _ h=>absurd h (Nat.not_lt_zero j)⟩ ?_
 intro Rd hRd i ⟨hi,ha⟩
 refine ⟨fun b0=>?_,fun b0=>⟨rfl,retI (cellsE_yes hE hlen (fun j hj hj'=>ha j hj hj' (by omega))).symm⟩⟩
 have b1:i < cs.length:=by omega
 have b1':i < p.length:=by omega
 obtain ⟨⟨_,hv⟩,hai,hal⟩:=hI _ (List.getElem_mem b1)
 have bad:¬cellOk p[i] cs[i]->cellsE p cs=8:=cellsE_no hE hlen b1 b1'
 have next:cellOk p[i] cs[i]->∀ j (hj:j < cs.length) (hj':j < p.length),j < i+1->cellOk p[j] cs[j]:=fun h0 j hj hj' hji=>by
  by_cases e:j=i
  ·subst e;exact h0
  ·exact ha j hj hj' (by omega)
 have gc:=gm (f:=Cells.g) b1
 have gp:=gm (f:=Unit.g) b1'
 generalize cs[i]=c at *
 generalize p[i]=u at *
 have lv:(u.vars.map strG).length=u.vars.length:=by simp
 have la:(u.arrays.map Arr.g).length=u.arrays.length:=by simp
 have lca:(c.arrays.map intsG).length=c.arrays.length:=by simp
 refine ⟨none,rfl,i,_,rfl,gc,i,_,rfl,gp,?_⟩
 refine ⟨_,_,.inl rfl,wordsMay_any c.vars (by omega) _,rfl,?_⟩
 refine ⟨fun h1=>⟨rfl,retI (bad (fun h2=>h1 (by rw[lv];exact h2.1.1))).symm⟩,fun h1=>?_⟩
 refine ⟨i,_,rfl,gc,i,_,rfl,gp,?_⟩
 refine ⟨fun h2=>⟨rfl,retI (bad (fun h3=>h2 (by rw[la,lca];exact congrArg _ h3.1.2))).symm⟩,fun h2=>?_⟩
 have hca:c.arrays.length=u.arrays.length:=by omega
 refine loopR (ι:=Nat) (fun k=>[(7,.g (.int (k:Int)))]) (fun _=>[]) (fun k=>k<=c.arrays.length/\∀ j (hj:j < c.arrays.length) (hj':j < u.arrays.length),j < k->wordsOk c.arrays[j] u.arrays[j].size) (fun k=>c.arrays.length - k)
  ⟨0,[],⟨rfl,.inl rfl,.inr ⟨lk rfl,trivial⟩,rfl⟩,Nat.zero_le _,fun j _ _ h=>absurd h (Nat.not_lt_zero j)⟩ ?_
 intro Rk hRk k ⟨hk,hb⟩
 refine ⟨i,_,rfl,gc,?_⟩
 refine ⟨fun c0=>?_,fun c0=>⟨_,I64.wrap (by unfold I64;omega),?_⟩⟩
 ·have c1:k < c.arrays.length:=by omega
  have c1':k < u.arrays.length:=by omega
  obtain ⟨_,hkl⟩:=hai _ (List.getElem_mem c1)
  refine ⟨none,rfl,i,_,rfl,gc,k,_,rfl,gm c1,i,_,rfl,gp,k,_,rfl,gm c1',?_⟩
  refine ⟨_,_,.inl rfl,wordsMay_any c.arrays[k] (by omega) u.arrays[k].size,rfl,?_⟩
  refine ⟨fun h3=>⟨rfl,retI (bad (fun h4=>h3 (h4.2 k c1 c1'))).symm⟩,fun h3=>⟨_,I64.wrap (by unfold I64;omega),?_⟩⟩
  refine hRk _ _ _ ⟨k+1,[],⟨rfl,.inl rfl,.inr ⟨lk rfl,trivial⟩,rfl⟩,⟨c1,fun j hj hj' hjk=>?_⟩,by omega⟩
  by_cases e:j=k
  ·subst e;exact h3
  ·exact hb j hj hj' (by omega)
 ·refine hRd _ _ _ ⟨i+1,[],⟨rfl,.inl rfl,.inr ⟨lk rfl,trivial⟩,rfl⟩,⟨b1,next ⟨⟨by rw[<- lv];exact h1,hca⟩,fun j hj hj'=>hb j hj hj' (by omega)⟩⟩,by omega⟩
end Go.Proofs.Ythcmdjkaepclhaa
