import Derived.Test.YthcmdjkaepclhaaCk
namespace Barb
open Go Go.Dm Go.Eng
def firstN (f:Nat->Int):Nat->Int
 | 0=>0
 | n+1=>if firstN f n≠0 then firstN f n else f n
theorem firstN_all {f:Nat->Int}:∀ {n:Nat},(∀ j,j < n->f j=0)->firstN f n=0
 | 0,_=>rfl
 | n+1,h=>by
  have h0:=firstN_all (f:=f) (n:=n) (fun j hj=>h j (by omega))
  simp only[firstN];rw[if_neg (fun h=>h h0)];exact h n (by omega)
theorem firstN_at {f:Nat->Int}:∀ {n i:Nat},i < n->(∀ j,j < i->f j=0)->f i≠0->firstN f n=f i
 | 0,i,h,_,_=>by omega
 | n+1,i,h,ha,h1=>by
  simp only[firstN]
  by_cases e:i=n
  ·subst e;rw[if_neg (fun h=>h (firstN_all ha))]
  ·rw[firstN_at (by omega) ha h1,if_pos h1]
theorem firstN_zero {f:Nat->Int}:∀ {n:Nat},firstN f n=0->∀ j,j < n->f j=0
 | 0,_,j,h=>by omega
 | n+1,h,j,hj=>by
  simp only[firstN] at h
  by_cases h0:firstN f n=0
  ·rw[if_neg (fun h=>h h0)] at h
   by_cases e:j=n
   ·subst e;exact h
   ·exact firstN_zero h0 j (by omega)
  ·rw[if_pos h0] at h;exact absurd h h0
abbrev Part.d (p:Part):List D:=[.g (.sl 4 (p.code.map Instr.g)),.g (.sl 2 (p.entries.map Entry.g)),.g (.int p.lo),.g (.int p.hi)]
def entBad (n:Nat) (x:Entry):Prop:=¬(0<=x.at_/\x.at_ < n)\/¬(0<=x.params/\x.params<=4)
instance (n:Nat) (x:Entry):Decidable (entBad n x):=by unfold entBad;infer_instance
def entE (n:Nat) (x:Entry):Int:=if entBad n x then 2 else 0
def partE (p:Part) (lo:Int):Int :=
 if 1200 < p.code.length\/8 < p.entries.length then 1 else if firstE instrE p.code≠0 then firstE instrE p.code else if firstE (entE p.code.length) p.entries≠0 then firstE (entE p.code.length) p.entries
 else if ¬p.lo=lo\/p.hi < p.lo\/250 < p.hi then 8 else 0
def fromAt (m:List Part) (i:Nat):Int:=(0 :: m.map Part.hi).getD i 0
theorem fromAt_succ {m:List Part} {i:Nat} (h:i < m.length):fromAt m (i+1)=m[i].hi:=by simp[fromAt,h]
def imgF (m:List Part) (i:Nat):Int:=if h:i < m.length then partE m[i] (fromAt m i) else 0
theorem imgF_at {m:List Part} {i:Nat} (h:i < m.length):imgF m i=partE m[i] (fromAt m i):=by unfold imgF;rw[dif_pos h]
def imgE (m:List Part):Int:=if 5 < m.length then 1 else firstN (imgF m) m.length
abbrev imgD (m:List Part):List D:=[.g (.sl 4 (m.map Part.g))]
end Barb
namespace Go.Proofs.Ythcmdjkaepclhaa
open Go Go.Dm Go.Eng Barb
set_option maxRecDepth 20000 in
set_option maxHeartbeats 1000000 in
theorem ImageFault_any (m:Image) (hm:Image.I m):CT Try.prog [] 22 [.agg (imgD m)] (Is (.g (.int (imgE m)))):=by
 obtain ⟨hI,hl⟩:=hm
 have lm:(m.map Part.g).length=m.length:=by simp
 refine enter hT hF hM Try.func22 rfl 94 rfl (by kernel_rfl) [.tmp 2] rfl [.agg (imgD m)] rfl _ ?_
 refine ⟨fun a1=>⟨rfl,retI (by unfold imgE;rw[if_pos (by omega)])⟩,fun a1=>?_⟩
 have e0:imgE m=firstN (imgF m) m.length:=by unfold imgE;rw[if_neg (by omega)]
 refine loopR (ι:=Nat) (fun i=>[(4,.g (.int (i:Int))),(3,.g (.int (fromAt m i))),(1,.ptr 0 0)]) (fun _=>[.blk (imgD m) 40]) (fun i=>i<=m.length/\∀ j,j < i->imgF m j=0) (fun i=>m.length - i)
  ⟨0,[.old 0],⟨rfl,.inl rfl,.inr ⟨lk rfl,lk rfl,lk rfl,trivial⟩,rfl⟩,Nat.zero_le _,fun j h=>absurd h (Nat.not_lt_zero j)⟩ ?_
 intro Rd hRd i ⟨hi,haI⟩
 refine ⟨fun b0=>?_,fun b0=>?_⟩
 rotate_left
 ·exact ⟨rfl,retI (by rw[e0,firstN_all (fun j hj=>haI j (by omega))])⟩
 have b1:i < m.length:=by omega
 have hF:=imgF_at b1
 have fin:∀ v:Int,v≠0->partE m[i] (fromAt m i)=v->imgE m=v:=fun v h0 h=>by rw[e0,firstN_at b1 haI (by rw[hF,h];exact h0),hF,h]
 have next:partE m[i] (fromAt m i)=0->∀ j,j < i+1->imgF m j=0:=fun h j hj=>by
  by_cases hji:j=i
  ·subst hji;rw[hF];exact h
  ·exact haI j (by omega)
 have hsucc:=fromAt_succ b1
 obtain ⟨_,_,_,_,hcl,hel⟩:=hI _ (List.getElem_mem b1)
 refine ⟨i,_,rfl,gm b1,?_⟩
 generalize m[i]=p at *
 have lc:(p.code.map Instr.g).length=p.code.length:=by simp
 have le:(p.entries.map Entry.g).length=p.entries.length:=by simp
 have e:partE p (fromAt m i)=partE p (fromAt m i):=rfl
 conv at e=>rhs;unfold partE
 refine ⟨fun a1=>⟨rfl,retI (fin 1 (by decide) (by rw[e,if_pos (by omega)])).symm⟩,fun a1=>⟨fun a2=>⟨rfl,retI (fin 1 (by decide) (by rw[e,if_pos (by omega)])).symm⟩,fun a2=>?_⟩⟩
 rw[if_neg (by omega)] at e
 refine loopR (ι:=Nat) (fun k=>[(6,.g (.int (k:Int))),(5,.ptr 1 0),(1,.ptr 0 0)]) (fun _=>[.blk (imgD m) 40,.blk p.d 43]) (fun k=>k<=p.code.length/\∀ j (hj:j < p.code.length),j < k->instrE p.code[j]=0) (fun k=>p.code.length - k)
  ⟨0,[.old 0,.old 1],⟨rfl,.inl rfl,.inr ⟨lk rfl,lk rfl,lk rfl,trivial⟩,rfl⟩,Nat.zero_le _,none0⟩ ?_
 intro Rk hRk k ⟨hk,ha⟩
 refine ⟨fun c0=>?_,fun c0=>?_⟩
 ·have c1:k < p.code.length:=by omega
  refine ⟨k,_,rfl,gm c1,?_⟩
  refine callIs (.inl rfl) (InstrFault_any p.code[k]) ?_
  refine ⟨fun b3=>⟨rfl,retI (fin _ b3 (by rw[e,firstE_at c1 ha b3,if_pos b3])).symm⟩,fun b3=>⟨_,I64.wrap (by unfold I64;omega),?_⟩⟩
  exact hRk _ _ _ ⟨k+1,[.old 0,.old 1],⟨rfl,.inl rfl,.inr ⟨lk rfl,lk rfl,lk rfl,trivial⟩,rfl⟩,⟨c1,firstE_step c1 ha b3⟩,by omega⟩
 have hc0:firstE instrE p.code=0:=firstE_end (by omega) ha
 rw[if_neg (fun h=>h hc0)] at e
 clear hRk ha hk c0
 refine loopR (ι:=Nat) (fun k=>[(8,.g (.int (k:Int))),(5,.ptr 1 0),(1,.ptr 0 0)]) (fun _=>[.blk (imgD m) 40,.blk p.d 43]) (fun k=>k<=p.entries.length/\∀ j (hj:j < p.entries.length),j < k->entE p.code.length p.entries[j]=0) (fun k=>p.entries.length - k)
  ⟨0,[.old 0,.old 1],⟨rfl,.inl rfl,.inr ⟨lk rfl,lk rfl,lk rfl,trivial⟩,rfl⟩,Nat.zero_le _,none0⟩ ?_
 intro Rk hRk k ⟨hk,ha⟩
 refine ⟨fun c0=>?_,fun c0=>?_⟩
 ·have c1:k < p.entries.length:=by omega
  have bad:entBad p.code.length p.entries[k]->∀ h:Heap,RetTo (Is (.g (.int (imgE m)))) h (.g (.int 2)):=fun hb h=>by
   have hz:entE p.code.length p.entries[k]=2:=by unfold entE;rw[if_pos hb]
   exact retI (fin 2 (by decide) (by rw[e,firstE_at c1 ha (by rw[hz];decide),hz,if_pos (by decide)])).symm
  unfold entBad at bad
  refine ⟨none,rfl,k,_,rfl,gm c1,?_⟩
  refine ⟨by unfold I64;omega,?_⟩
  refine ⟨_,_,.inl rfl,In_any _ 0 _,rfl,?_⟩
  refine ⟨fun d1=>⟨rfl,bad (by omega) _⟩,fun d1=>?_⟩
  refine ⟨k,_,rfl,gm c1,?_⟩
  refine ⟨_,_,.inl rfl,In_any _ 0 4,rfl,?_⟩
  refine ⟨fun d2=>⟨rfl,bad (by omega) _⟩,fun d2=>⟨_,I64.wrap (by unfold I64;omega),?_⟩⟩
  exact hRk _ _ _ ⟨k+1,[.old 0,.old 1],⟨rfl,.inl rfl,.inr ⟨lk rfl,lk rfl,lk rfl,trivial⟩,rfl⟩,⟨c1,firstE_step c1 ha (by unfold entE;rw[if_neg (by unfold entBad;omega)])⟩,by omega⟩
 have he0:firstE (entE p.code.length) p.entries=0:=firstE_end (by omega) ha
 rw[if_neg (fun h=>h he0)] at e
 refine ⟨fun d1=>⟨rfl,retI (fin 8 (by decide) (by rw[e,if_pos (.inl d1)])).symm⟩,fun d1=>?_⟩
 refine callIs (.inl rfl) (In_any p.hi p.lo 250) ⟨fun d2=>⟨rfl,retI (fin 8 (by decide) (by rw[e,if_pos (by omega)])).symm⟩,fun d2=>?_⟩
 refine ⟨_,I64.wrap (by unfold I64;omega),?_⟩
 exact hRd _ _ _ ⟨i+1,[.old 0],⟨rfl,.inl rfl,.inr ⟨lk rfl,lkI hsucc.symm,lk rfl,trivial⟩,rfl⟩,⟨b1,next (by rw[e,if_neg (by omega)])⟩,by omega⟩
end Go.Proofs.Ythcmdjkaepclhaa
