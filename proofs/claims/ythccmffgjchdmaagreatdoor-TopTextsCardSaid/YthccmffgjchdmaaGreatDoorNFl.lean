import Derived.Test.YthccmffgjchdmaaGreatDoorNFd
import Derived.Test.YthccmffgjchdmaaGreatDoorNGn
import Derived.Test.YthccmffgjchdmaaGreatDoorNWd
import Derived.Test.YthccmffgjchdmaaGreatDoorNNq
import Derived.Test.YthccmffgjchdmaaGreatDoorNQm
open Go Go.Proofs Go.Proofs.YthccmffgjchdmaaGreatDoor
namespace Barb
open Go Go.Dm Go.Eng ZN
def ZdW:List Fun->List Int->List Entry
 | f :: l,a :: m=>if f.isOpen then ⟨a,f.params.length⟩ :: ZdW l m else ZdW l m
 | _,_=>[]
def ZaR (p:List Unit) (k:Nat):Int:=Zar (p.take k)
noncomputable def Zkx (p:List Unit) (k:Nat):Part:=⟨Zmj p k (ZaR p k),ZdW (p.getD k noU).funcs (ZiE p k (ZaR p k)),ZaR p k,ZaR p (k+1)⟩
noncomputable def Zcp (p:List Unit) (k:Nat):List Part:=(List.range k).map (Zkx p)
noncomputable def Zk1 (p:List Unit):Int:=Zal (λk=>ZiD p (k:Nat) (ZaR p k)) (List.range p.length)
noncomputable def ZfD (p:List Unit):Int:=if ZbC p≠0 then ZbC p else Zk1 (Zb5 p)
noncomputable def Zcl (p:List Unit):Zax:=if ZfD p=0 then Zcp (Zb5 p) p.length else []
theorem ZgN {p:List Unit} {k:Nat} (h:k < p.length):ZaR p (k+1)=ZaR p k+ZaC p[k]:=by unfold ZaR Zar;rw[ZaJ h,Yaf,YbE];simp
theorem Zpk (p:List Unit) (k:Nat):Zcp p (k+1)=Zcp p k++[Zkx p k]:=by unfold Zcp;rw[Ycs,Yaf];rfl
theorem Zn6:∀(l:List Fun) (m:List Int) (j:Nat) (hj:j < l.length) (hm:j < m.length),ZdW (l.take (j+1)) m=ZdW (l.take j) m++if l[j].isOpen then [⟨m[j],l[j].params.length⟩] else []
 | f :: l,a :: m,0,_,_=>by simp[ZdW]
 | f :: l,a :: m,j+1,hj,hm=>by
  have:=Zn6 l m j (by simpa using hj) (by simpa using hm);simp only[List.take_succ_cons,ZdW,List.getElem_cons_succ];rw[this];split
  ·simp
  ·rfl
theorem Zj3:∀(l:List Fun) (m:List Int),(ZdW l m).length<=l.length
 | [],_=>by simp[ZdW]
 | _ :: _,[]=>by simp[ZdW]
 | f :: l,a :: m=>by
  have:=Zj3 l m;simp only[ZdW];split
  ·simp only[List.length_cons];omega
  ·simp only[List.length_cons];omega
theorem ZwU {p:List Unit} {k:Nat} (hk:k < p.length) {base:Int} (h:ZiD p k base=0):(ZiE p k base).length=p[k].funcs.length:=by unfold ZiE;rw[if_pos h,Int.toNat_natCast,show p.getD k noU=p[k] by simp[hk]];exact Zgg _ _ _ _ _
theorem Zgq (p:List Unit) (h:∀u∈p,0<=ZaC u) (k:Nat):0<=ZaR p k/\ZaR p k<=Zar p:=by
 have nn:∀l:List Unit,(∀u∈l,0<=ZaC u)->0<=Zar l:=by
  intro l
  induction l with
  | nil=>intro _;simp[Zar]
  | cons u l ih =>intro h;have h1:=h u Yae;have h2:=ih (λv hv=>h v (Yad _ hv));unfold Zar at h2 ⊢;rw[Yan,List.sum_cons];omega
 have e:Zar p=Zar (p.take k)+Zar (p.drop k):=by unfold Zar;rw[<- YbE,<- Yaf,Ya7]
 have h1:=nn (p.take k) (λu hu=>h u (YaK hu));have h2:=nn (p.drop k) (λu hu=>h u (Ya5 hu));unfold ZaR;omega
theorem Zcs {u:Unit} (h:Zbm u=0):0<=ZaC u/\ZaC u<=40:=by obtain ⟨_,ju,mw,_,_,nj,_⟩:=ZaQ h;have:=ZiP (l:=u.arrays) (λa ha=>(ZcC (nj a ha)).2);unfold ZaC;omega
end Barb
namespace ZN
open Go Go.Dm Go.Eng Go.RowKit Barb
variable {L:Lv}
theorem ZtK {h:Zae} {p:List Barb.Unit} {e:Int} (he:ZfD p=e) (h0:e≠0):Zby (Is (.tuple [.agg (ZqF (Zcl p)),.g (.int (ZfD p))])) h (.tuple [.agg [.nils],.g (.int e)]):=by
 have:Zcl p=[]:=by unfold Zcl;rw[if_neg (by rw[he];exact h0)]
 rw[this,he];exact ZbN (.inr (.inr ⟨.inr ⟨Zel,trivial⟩,lk rfl,trivial⟩))
set_option maxRecDepth 20000 in
set_option maxHeartbeats 8000000 in
theorem ZfC (p:List Barb.Unit) (hp:Zpa p) (hN:ZuS p):CT Tryz.prog (gl L) 7 [.g (.sl 4 (p.map Unit.g))] (Is (.tuple [.agg (ZqF (Zcl p)),.g (.int (ZfD p))])):=by
 have e:ZfD p=ZfD p:=rfl
 conv at e=>rhs;unfold ZfD
 refine enter hT hF hM Tryz.func7 rfl 86 rfl (by kernel_rfl) [.cell 2 28,.tmp 3] rfl [.g (.sl 4 (p.map Unit.g))] rfl _ ?_;refine Zad (.inl rfl) (ZjR p hp hN) ?_;refine ⟨λh=>⟨rfl,ZtK (by rw[e,if_pos h]) h⟩,λh=>?_⟩;have aE:ZbC p=0:=by omega
 rw[if_neg (λh'=>h' aE)] at e;have hV:Zsj p=Zb5 p:=by unfold Zsj;rw[if_pos aE]
 rw[hV];obtain ⟨hg,hf⟩:=ZhX aE hN;have hI:=Zpb hg hf;have gT:=ZeJ p;have sG:ZfD p=0->Zcl p=Zcp (Zb5 p) (Zb5 p).length:=λh0=>by unfold Zcl;rw[if_pos h0,gT]
 generalize Zb5 p=q at *;clear hV;have lq:(q.map Unit.g).length=q.length:=Yaa _;obtain ⟨qU,kS,gU,_⟩:=Zbk hg;have eX:=Zgq q (λu hu=>(Zcs (kS u hu)).1);refine ZaO (ι:=Nat) (λk=>[(2,.ptr 0 0),(4,.g (.sl 4 (q.map Unit.g))),(6,.ptr 1 0),(7,.g (.int (ZaR q k))),(26,.g (.sl 4 (q.map Unit.g))),(27,.g (.int (q.map Unit.g).length)),(28,.g (.int (k:Int)))])
  (λk=>[.blk [.nils] 28,.blk [.row 2] 28,.row ((Zcp q k).map Part.g) 87 4])
  (λk=>k<=q.length/\∀i,i < k->ZiD q (i:Nat) (ZaR q i)=0) (λk=>q.length - k)
  ⟨0,[.old 0,.old 1,.nil 87 4],⟨rfl,.inr ⟨⟨rfl,.inl rfl⟩,⟨rfl,.inr ⟨.inr rfl,trivial⟩⟩,⟨rfl,rfl,rfl⟩,trivial⟩,.inr ⟨lk rfl,lk rfl,lk rfl,lkI (by simp[ZaR,Zar]),lk rfl,lk rfl,lk rfl,trivial⟩,rfl⟩,Yat _,λi hi=>absurd hi (by omega)⟩ ?_
 rintro Rd aj k ⟨hk,eR⟩;refine ⟨λc1=>?_,λc1=>?_⟩
 rotate_left
 ·have eJ:k=q.length:=by have:¬(k:Int) < ((q.map Unit.g).length:Nat):=c1;omega
  have h0:ZfD p=0:=by rw[e];exact Zap (λi hi=>eR i (by rw[Ya1] at hi;omega))
  rw[sG h0,h0,eJ];exact ⟨rfl,ZbN (.inl rfl)⟩
 have aB:k < q.length:=by have:(k:Int) < ((q.map Unit.g).length:Nat):=c1;omega
 have ax:q[k]∈q:=Yai aB;have nY:q.getD k noU=q[k]:=by simp[aB]
 obtain ⟨_,ju,mw,pY,_,nj,nh⟩:=ZaQ (kS _ ax);have ah:∀a∈q[k].arrays,1<=a.size/\a.size<=10:=λa ha=>(ZcC (nj a ha)).2;have hw:=Zcs (kS _ ax);have bm:=eX k;have rL:=ZpQ (L:=L) q hI hf k (ZaR q k) (by omega);have tK:ZiD q k (ZaR q k)=0->(ZiE q k (ZaR q k)).length=q[k].funcs.length:=λh=>ZwU aB h;have vX:=ZgN aB;have gV:=Zpk q k;have kJ:Zkx q k=⟨Zmj q k (ZaR q k),ZdW q[k].funcs (ZiE q k (ZaR q k)),ZaR q k,ZaR q (k+1)⟩:=by unfold Zkx;rw[nY]
 rw[kJ] at gV;have c8:ZiD q k (ZaR q k)≠0->ZfD p=ZiD q k (ZaR q k):=λh=>by
  rw[e];have j6:k < (List.range q.length).length:=by rw[List.length_range];exact aB
  have:=Za3 (f:=λk=>ZiD q (k:Nat) (ZaR q k)) j6 (λj hj l0=>by rw[Yca];exact eR j l0) (by rw[Yca];exact h);rw[Yca] at this;exact this
 have tj:(Zcp q k).length<=5:=by unfold Zcp;rw[Yaa,List.length_range];omega
 have bT:(q.map Unit.g)[k]?=some (Unit.g q[k]):=gm aB;have xd:=Zkr (L:=L) q[k] ju ah mw;have nK:IntKind.i64.wrap (ZaR q k+ZaC q[k])=ZaR q (k+1):=by rw[vX];exact I64.wrap (by unfold I64;omega)
 generalize cP:ZaR q k=b0 at *;generalize bG:ZaR q (k+1)=b1 at *;generalize Zmj q k b0=code at *;generalize ZiE q k b0=ats at *;generalize ig:ZiD q k b0=ge at *;generalize Zcp q k=ps at *;generalize q[k]=u at *;refine ⟨k,_,rfl,bT,?_⟩;refine Zad (.inl rfl) rL ?_;refine ⟨λg1=>⟨rfl,ZtK (c8 g1) g1⟩,λg1=>?_⟩;have g0:ge=0:=by omega
 have bn:=tK g0;refine Zad (.inl rfl) xd ?_;refine ⟨_,nK,?_⟩;have lf:(u.funcs.map Fun.g).length=u.funcs.length:=Yaa _;have la:(ats.map ZaU).length=ats.length:=Yaa _;refine ZaO (ι:=Nat) (λj=>[(2,.ptr 0 0),(4,.g (.sl 4 (q.map Unit.g))),(6,.ptr 1 0),(11,.g (.sl 1 (ats.map ZaU))),(13,.ptr 4 0),(26,.g (.sl 4 (q.map Unit.g))),(27,.g (.int (q.map Unit.g).length)),(28,.g (.int (k:Int))),(53,.g (.sl 4 (u.funcs.map Fun.g))),(54,.g (.int (u.funcs.map Fun.g).length)),(55,.g (.int (j:Int)))])
  (λj=>[.blk [.nils] 28,.blk [.row 2] 28,.row (ps.map Part.g) 87 4,.blk u.d 37,.blk [.g (.sl 4 (code.map Instr.g)),.row 5,.g (.int b0),.g (.int b1)] 87,.row ((ZdW (u.funcs.take j) ats).map Entry.g) 89 2])
  (λj=>j<=u.funcs.length) (λj=>u.funcs.length - j)
  ⟨0,[.old 0,.old 1,.old 2,.old 3,.old 4,.nil 89 2],⟨rfl,.inr ⟨⟨rfl,.inl rfl⟩,⟨rfl,.inl rfl⟩,⟨rfl,rfl,rfl⟩,⟨rfl,.inl rfl⟩,⟨rfl,.inr ⟨lk rfl,.inr rfl,lk rfl,lk rfl,trivial⟩⟩,⟨(by rw[List.take_zero];rfl),rfl,rfl⟩,trivial⟩,.inr ⟨lk rfl,lk rfl,lk rfl,lk rfl,lk rfl,lk rfl,lk rfl,lk rfl,lk rfl,lk rfl,lk rfl,trivial⟩,rfl⟩,Yat _⟩ ?_
 intro Rj aI j hj;have gn:=Zj3 (u.funcs.take j) ats;rw[Yam] at gn;refine ⟨λd1=>?_,λd1=>?_⟩
 ·have aD:j < u.funcs.length:=by have:(j:Int) < ((u.funcs.map Fun.g).length:Nat):=d1;omega
  have tG:j < ats.length:=by omega
  have cx:=Zn6 u.funcs ats j aD tG;generalize ZdW (u.funcs.take j) ats=es at *;cases kk:u.funcs[j].isOpen with
  | true =>rw[kk,if_pos rfl] at cx;refine ⟨j,_,rfl,(gm aD).trans (congrArg some (Fun.g_open kk)),?_⟩;refine ⟨some 2000,rfl,?_⟩;refine ⟨j,_,rfl,gm tG,?_⟩;refine ⟨[[.int ats[j],.int (u.funcs[j].params.map ZaT).length]],rfl,rfl,⟨rfl,rfl,trivial⟩,⟨_,rfl⟩,?_⟩;refine ⟨⟨by simp[maxLen];omega,by simp;omega⟩,?_⟩;refine ⟨_,I64.wrap (by unfold I64;omega),?_⟩;exact aI _ _ _ ⟨j+1,[.old 0,.old 1,.old 2,.old 3,.old 4,.old 8],⟨rfl,.inr ⟨⟨rfl,.inl rfl⟩,⟨rfl,.inl rfl⟩,⟨rfl,rfl,rfl⟩,⟨rfl,.inl rfl⟩,⟨rfl,.inl rfl⟩,⟨(by rw[cx,Yaf,Yaa];rfl),rfl,rfl⟩,trivial⟩,.inr ⟨lk rfl,lk rfl,lk rfl,lk rfl,lk rfl,lk rfl,lk rfl,lk rfl,lk rfl,lk rfl,lkI (by push_cast;rfl),trivial⟩,rfl⟩,aD,by show u.funcs.length - (j+1) < u.funcs.length - j;omega⟩
  | false =>rw[kk,if_neg (by decide),YaF] at cx;refine ⟨j,_,rfl,(gm aD).trans (congrArg some (Fun.g_open kk)),?_⟩;refine ⟨_,I64.wrap (by unfold I64;omega),?_⟩;exact aI _ _ _ ⟨j+1,[.old 0,.old 1,.old 2,.old 3,.old 4,.old 5],⟨rfl,.inr ⟨⟨rfl,.inl rfl⟩,⟨rfl,.inl rfl⟩,⟨rfl,rfl,rfl⟩,⟨rfl,.inl rfl⟩,⟨rfl,.inl rfl⟩,⟨(by rw[cx]),rfl,rfl⟩,trivial⟩,.inr ⟨lk rfl,lk rfl,lk rfl,lk rfl,lk rfl,lk rfl,lk rfl,lk rfl,lk rfl,lk rfl,lkI (by push_cast;rfl),trivial⟩,rfl⟩,aD,by show u.funcs.length - (j+1) < u.funcs.length - j;omega⟩
 ·have gE:j=u.funcs.length:=by have:¬(j:Int) < ((u.funcs.map Fun.g).length:Nat):=d1;omega
  subst gE;rw[YaH] at *;refine ⟨[[.sl 4 (code.map Instr.g),.sl 2 ((ZdW u.funcs ats).map Entry.g),.int b0,.int b1]],rfl,rfl,⟨rfl,ZbH rfl rfl,rfl,rfl,trivial⟩,?_⟩;refine ⟨⟨by simp[maxLen];omega,by simp;omega⟩,?_⟩;refine ⟨_,I64.wrap (by unfold I64;omega),?_⟩;refine aj _ _ _ ⟨k+1,[.old 0,.old 1,.old 7],⟨rfl,.inr ⟨⟨rfl,.inl rfl⟩,⟨rfl,.inl rfl⟩,⟨(by rw[gV,Yaf];rfl),rfl,rfl⟩,trivial⟩,.inr ⟨lk rfl,lk rfl,lk rfl,lkI bG.symm,lk rfl,lk rfl,lkI (by push_cast;rfl),trivial⟩,rfl⟩,⟨aB,λi hi=>?_⟩,by show q.length - (k+1) < q.length - k;omega⟩;rcases Nat.lt_succ_iff_lt_or_eq.1 hi with h | rfl
  ·exact eR i h
  ·rw[cP,ig];exact g0
end ZN
namespace Barb
open Go Go.Dm Go.Eng ZN
theorem ZwT {p:List Unit} (hg:ZbC p=0) {k:Nat} (hk:k < p.length) {base:Int} (hb:0<=base/\base+ZaC p[k]<=250):ZiD p k base=if (Zit p p[k] base).length > 1200\/(Zew p p[k] base).most > 40 then 1 else 0:=by unfold ZiD;rw[if_neg (λh=>h hg),if_neg (by omega),show p.getD (k:Int).toNat ⟨[],[],[],[]⟩=p[k] by rw[Int.toNat_natCast];simp[hk],if_neg (by omega)]
structure GenGood (p:List Unit) (k:Nat) (base:Int) (u:Unit):Prop where
 short:(Zmj p k base).length<=1200
 form:∀x∈Zmj p k base,Zbz x=0
 many:(ZiE p k base).length=u.funcs.length
 at_:∀n∈ZiE p k base,0<=n/\n < ((Zmj p k base).length:Int)
theorem ZqK {p:List Unit} (hg:ZbC p=0) {k:Nat} (hk:k < p.length) {base:Int} (hb:0<=base/\base+ZaC p[k]<=250) (h0:ZiD p k base=0):GenGood p k base p[k]:=by
 have dv:p.getD (k:Int).toNat noU=p[k]:=by rw[Int.toNat_natCast];simp[hk]
 have h1:Zmj p k base=Zit p p[k] base:=by unfold Zmj;rw[if_pos h0,dv]
 have h2:ZiE p k base=Zjb p p[k] base p[k].funcs ⟨[],[],0,0⟩:=by unfold ZiE;rw[if_pos h0,dv]
 have ax:p[k]∈p:=Yai hk;have hw:=Zcs ((Zbk hg).2.1 _ ax);have h3:(Zit p p[k] base).length<=1200:=by
  rw[ZwT hg hk hb] at h0;by_cases hx:(Zit p p[k] base).length > 1200\/(Zew p p[k] base).most > 40
  ·rw[if_pos hx] at h0;omega
  ·omega
 have h5:(Zit p p[k] base).length=(Zew p p[k] base).code.length:=ZhL _ _ _;refine ⟨by rw[h1];exact h3,by rw[h1];exact ZvH (λf hf=>Zpx hg ax (by omega) hf) h3,by rw[h2];exact Zgg _ _ _ _ _,λn hn=>?_⟩;rw[h2] at hn;have:=ZmD p p[k] base p[k].funcs ⟨[],[],0,0⟩ n hn;rw[h1,h5];exact ⟨by have:=this.1;simp at this;exact this,this.2⟩
theorem Zn7:∀(l:List Fun) (m:List Int) (x:Entry),x∈ZdW l m->x.at_∈m/\∃f∈l,x.params=f.params.length
 | [],_,x,h=>by simp[ZdW] at h
 | _ :: _,[],x,h=>by simp[ZdW] at h
 | f :: l,a :: m,x,h=>by
  simp only[ZdW] at h;have tl:x∈ZdW l m->x.at_∈a :: m/\∃g∈f :: l,x.params=g.params.length:=λh=>by obtain ⟨h1,g,h2,h3⟩:=Zn7 l m x h;exact ⟨Yad _ h1,g,Yad _ h2,h3⟩
  split at h
  ·rcases Yav.1 h with rfl | h
   ·exact ⟨Yae,f,Yae,rfl⟩
   ·exact tl h
  ·exact tl h
theorem ZwG {x:Instr} (h:Zbz x=0):x.I:=by
 unfold Zbz at h;by_cases h1:¬(1<=x.op/\x.op<=15)
 ·rw[if_pos h1] at h;omega
 rw[if_neg h1] at h;by_cases h2:Zb6 x
 ·rw[if_pos h2] at h;omega
 unfold Zb6 at h2;have a1:bdA x.op<=65535:=by unfold bdA;(repeat' split)<;>omega
 have a2:bdB x.op<=65535:=by unfold bdB;(repeat' split)<;>omega
 have a3:bdC x.op<=65535:=by unfold bdC;(repeat' split)<;>omega
 unfold Instr.I I64;omega
theorem ZeE (q:List Unit) (n:Nat):(Zcp q n).length=n:=by unfold Zcp;simp
theorem Zhe (q:List Unit) (n i:Nat) (h:i < (Zcp q n).length):(Zcp q n)[i]=Zkx q i:=by
 have h':i < n:=by rw[ZeE] at h;exact h
 exact Ya2 ((Yak h).symm.trans (by unfold Zcp;simp[h']))
theorem ZqP (q:List Unit) (n i:Nat) (h:i<=n):Zea (Zcp q n) i=ZaR q i:=by
 cases i with
 | zero=>simp[Zea,ZaR,Zar]
 | succ i =>
  have hl:i < (Zcp q n).length:=by rw[ZeE];omega
  rw[ZdV hl,Zhe];rfl
theorem Zqz {q:List Unit} (h:Zk1 q=0) {k:Nat} (hk:k < q.length):ZiD q k (ZaR q k)=0:=Zaf h k (Ya1.2 hk)
theorem Zrh {q:List Unit} (hg:ZbC q=0) {k:Nat} (hk:k < q.length):0<=ZaR q k/\ZaR q k+ZaC q[k]<=250/\0<=ZaC q[k]:=by obtain ⟨_,hU,hw,_⟩:=Zbk hg;have hb:=Zgq q (λu hu=>(Zcs (hU u hu)).1);have h1:=hb k;have h2:=hb (k+1);have h3:=Zcs (hU _ (Yai hk));rw[ZgN hk] at h2;omega
theorem Zk0 {q:List Unit} (hg:ZbC q=0) (h:Zk1 q=0) {k:Nat} (hk:k < q.length):ZjE (Zkx q k) (ZaR q k)=0/\(Zkx q k).I:=by
 obtain ⟨b1,b2,b3⟩:=Zrh hg hk;have G:=ZqK hg hk ⟨b1,b2⟩ (Zqz h hk);have ax:q[k]∈q:=Yai hk;obtain ⟨_,_,_,pY,_,_,nh⟩:=ZaQ ((Zbk hg).2.1 _ ax);have nY:q.getD k noU=q[k]:=by simp[hk]
 have gn:=Zj3 q[k].funcs (ZiE q k (ZaR q k));have wJ:=Zn7 q[k].funcs (ZiE q k (ZaR q k));have ga:=ZgN hk;have eO:∀x∈ZdW q[k].funcs (ZiE q k (ZaR q k)),(0<=x.at_/\x.at_ < ((Zmj q k (ZaR q k)).length:Int))/\0<=x.params/\x.params<=4:=λx hx=>by obtain ⟨m1,f,m2,m3⟩:=wJ x hx;have:=G.at_ _ m1;have:=(Zb7 (nh f m2)).2.1;omega
 have pE:=G.short;unfold Zkx;rw[nY];refine ⟨?_,⟨λx hx=>ZwG (G.form x hx),λx hx=>?_,?_,?_,?_,?_⟩⟩
 ·unfold ZjE;dsimp only;rw[if_neg (by omega),if_neg (λhc=>hc (Zap G.form)),if_neg (λhc=>hc (Zap (λx hx=>by
   have:=eO x hx;unfold ZuX;rw[if_neg (by unfold Zhp;omega)]))),if_neg (by omega)]
 ·have:=eO x hx;unfold Entry.I I64;dsimp only at *;omega
 ·show I64 (ZaR q k);unfold I64;omega
 ·show I64 (ZaR q (k+1));unfold I64;omega
 ·show (Zmj q k (ZaR q k)).length*32<=_;omega
 ·show (ZdW q[k].funcs (ZiE q k (ZaR q k))).length*16<=_;omega
theorem ZwH {q:List Unit} (hg:ZbC q=0) (h:Zk1 q=0):Zi1 (Zcp q q.length)=0/\Zax.I (Zcp q q.length)/\ZbX (Zcp q q.length)=Zar q:=by
 obtain ⟨h5,_⟩:=Zbk hg;have hl:=ZeE q q.length;refine ⟨?_,⟨λx hx=>?_,by omega⟩,?_⟩
 ·unfold Zi1;rw[if_neg (by omega)];refine Zf9 (λj hj=>?_);rw[Zmg hj,Zhe,ZqP _ _ _ (by omega)];exact (Zk0 hg h (by omega)).1
 ·obtain ⟨j,hj,rfl⟩:=YaR hx;rw[Zhe];exact (Zk0 hg h (by omega)).2
 ·unfold ZbX;rw[hl,ZqP _ _ _ (Yas _)];unfold ZaR;rw[YaH]
theorem ZqR:∀(l:List (List Int)) (m:List Arr),l.length=m.length->(∀k (h:k < l.length) (h':k < m.length),ZdL l[k] m[k].size)->((l.flatten).length:Int)=sizes m
 | [],[],_,_=>by simp[sizes]
 | a :: l,b :: m,hl,h=>by have h1:=ZqR l m (by simpa using hl) (λk hk ae=>by have:=h (k+1) (by simpa using hk) (by simpa using ae);simpa using this);have h2:=(h 0 (by simp) (by simp)).1;simp only[List.getElem_cons_zero] at h2;unfold sizes at h1 ⊢;simp only[List.flatten_cons,Yab,Yan,List.sum_cons];omega
theorem Zpw {u:Unit} {c:Cells} (h:ZcM u c):((ZnX c).length:Int)=ZaC u:=by obtain ⟨⟨h1,h2⟩,h3⟩:=h;have:=ZqR c.arrays u.arrays h2 h3;unfold ZnX ZaC;rw[Yab];have:=h1.1;push_cast;omega
theorem ZjV:∀(p:List Unit) (cs:List Cells),cs.length=p.length->ZgL p cs->((ZeL cs).length:Int)=Zar p
 | [],[],_,_=>by simp[ZeL,Zar]
 | u :: p,c :: cs,hl,h=>by have h1:=ZjV p cs (by simpa using hl) (λi hi bc=>by have:=h (i+1) (by simpa using hi) (by simpa using bc);simpa using this);have h2:=Zpw (h 0 (by simp) (by simp));simp only[List.getElem_cons_zero] at h2;unfold ZeL Zar at *;simp only[Ybb,Yab,Yan,List.sum_cons];push_cast;omega
theorem Zsm {p:List Unit} {cs:List Cells} (hl:cs.length=p.length) (h:ZgL p cs):∀x∈ZeL cs,Zgi x:=by
 intro x hx;unfold ZeL at hx;obtain ⟨c,hc,hx⟩:=Ybe.1 hx;obtain ⟨i,hi,rfl⟩:=YaR hc;obtain ⟨⟨h1,h2⟩,h3⟩:=h i hi (by omega);unfold ZnX at hx;rcases Yar.1 hx with hx | hx
 ·exact h1.2 x hx
 ·obtain ⟨a,ha,vk⟩:=List.mem_flatten.1 hx;obtain ⟨k,hk,rfl⟩:=YaR ha;exact (h3 k hk (by omega)).2 x vk
theorem Zr7 {p:List Unit} (hg:ZbC p=0) (hN:ZuS p) (h:ZfD p=0):Zi1 (Zcl p)=0/\Zax.I (Zcl p)/\ZbX (Zcl p)=Zar p/\(Zcl p).length=p.length:=by
 have hq:=(ZhX hg hN).1;have h1:Zk1 (Zb5 p)=0:=by unfold ZfD at h;rw[if_neg (λh'=>h' hg)] at h;exact h
 have e:Zcl p=Zcp (Zb5 p) (Zb5 p).length:=by unfold Zcl;rw[if_pos h,ZeJ]
 obtain ⟨a,b,c⟩:=ZwH hq h1;rw[e];exact ⟨a,b,by rw[c];exact ZjQ p,by rw[ZeE,ZeJ]⟩
end Barb
