import Derived.Test.YthccmffgjchdmaaGreatDoorNDa4
namespace Go.Dm
open Go Go.Eng Go.RowKit
section
variable {C:Ctx} {h h':Zae} {β β':Nat->Value} {V:Nat->Prop} {w:World}
theorem RelD.same (hr:RelD C h β V w) (qW:∀(i:Nat) (o:Obj),h'[i]?=some o->Zco h' β' V w i o)
  (qN:∀(i j:Nat) (o o':Obj) (k:Nat),h'[i]?=some o->o.live=true->h'[j]?=some o'->o'.live=true->Bk o (β' i) k->Bk o' (β' j) k->i=j)
  (hin:∀(i:Nat) (o:Obj) (k:Nat),h'[i]?=some o->o.live=true->Bk o (β' i) k->∃j o',h[j]?=some o'/\o'.live=true/\Bk o' (β j) k):RelD C h' β' V w:=by
 refine ⟨qW,qN,λi o k hi hl hk=>?_,λi o k hi hl hk=>?_,hr.vlt,hr.vin,hr.vnew,hr.fr,hr.gl⟩
 ·obtain ⟨j,o',h1,h2,h3⟩:=hin i o k hi hl hk;exact hr.mine j o' k h1 h2 h3
 ·obtain ⟨j,o',h1,h2,h3⟩:=hin i o k hi hl hk;exact hr.vout j o' k h1 h2 h3
def Ob0.obj:Ob0->Obj
 | .row xs e sz=>.row xs e sz
 | .blk cs t=>.blk (cs.map .g) t
def ZBF (i:Nat):Ob0->D
 | .row _ _ _=>.row i
 | .blk _ _=>.ptr i 0
theorem Zzh {v:Value} {o:Ob0} {i:Nat} (ho:ZiH V w v o) (hv:β i=v):Zco h β V w i o.obj:=by
 subst hv;cases o with
 | row xs e sz=>exact ho
 | blk cs t =>obtain ⟨g,vs,h1,h2,h3⟩:=ho;exact ⟨g,vs,h1,h2,(Zic _ _).2 h3⟩
theorem ZxL (o:Ob0) (v:Value) (k:Nat):Bk o.obj v k↔bk v=some k:=by cases o<;>exact Ya3
theorem Zwe {v:Value} {o:Ob0} {i:Nat} (ho:ZiH V w v o) (hv:β i=v) (hi:h[i]?=some o.obj):Zab h β V w (ZBF i o) v:=by
 cases o with
 | row xs e sz=>simp only[ZBF,Zab,hi,Ob0.obj];exact hv.symm
 | blk cs t =>obtain ⟨g,vs,h1,h2,h3⟩:=ho;simp only[ZBF,Zab,hi,Ob0.obj];exact ⟨g,hv.trans h1,h1⟩
section
variable {G:Gl} {d:D} {K:KD}
theorem ZiC (k:K d h):ZaW G d h K:=λ_ _ β V _ _ hr hd=>⟨d,h,β,V,k,hr,hd,LeH.refl _ _,ZaI.refl _ _⟩
theorem ZA8 {d':D} (hl:∀(β:Nat->Value) (V:Nat->Prop) (w:World) (v:Value),Zab h β V w d v->Zab h β V w d' v) (k:ZaW G d' h K):ZaW G d h K:=λC w β V v hG hr hd=>k C w β V v hG hr (hl β V w v hd)
theorem ZA9 {h2:Zae} (e:h=h2) (k:ZaW G d h2 K):ZaW G d h K:=by subst e;exact k
theorem ZeA {m i:Nat} {o o':Obj} (hi:(h.set m o)[i]?=some o'):(i=m/\o'=o)\/(i≠m/\h[i]?=some o'):=by
 by_cases e:i=m
 ·subst e;have hl:i < h.length:=by have:=(Yac.1 hi).1;simpa using this
  rw[YbA hl] at hi;injection hi with hi;exact .inl ⟨rfl,hi.symm⟩
 ·rw[YaV (λe'=>e e'.symm)] at hi;exact .inr ⟨e,hi⟩
theorem Zbo {i:Nat} {o o':Obj} (hi:(h++[o])[i]?=some o'):(i=h.length/\o'=o)\/(i < h.length/\h[i]?=some o'):=by
 by_cases e:i < h.length
 ·rw[Yal e] at hi;exact .inr ⟨e,hi⟩
 ·rw[Yaj (by omega)] at hi;have hl:=(Yac.1 hi).1;simp at hl;have:i=h.length:=by omega
  subst this;simp at hi;exact .inl ⟨rfl,hi.symm⟩
theorem RelD.tags (hr:RelD C h β V w) {m:Nat} {l l':List (Value × Ob0)} {ts ts':List (Value × Nat)} (hm:h[m]?=some (.many l ts)) (hp:l.Perm l') (ht:∀t∈ts',t∈ts\/ZpM h β t):RelD C (h.set m (.many l' ts')) β V w:=by
 have le:LeH h β (h.set m (.many l' ts')) β:=Zc4 hm trivial;have bB:=hr.obj m _ hm;refine hr.same (λi o hi=>?_) (λi j o o' k hi hl hj bQ hk ae=>?_) (λi o k hi hl hk=>?_)
 ·rcases ZeA hi with ⟨rfl,rfl⟩ | ⟨aC,hi⟩
  ·refine ⟨λp jW=>bB.1 p (hp.mem_iff.2 jW),(hp.pairwise_iff (λh=>h.symm)).1 bB.2.1,λt jS=>?_⟩;rcases ht t jS with h1 | h1
   ·exact (bB.2.2 t h1).le le
   ·exact h1.le le
  ·exact (hr.obj i o hi).keep le (ZaI.refl _ _) rfl (λ_ _=>rfl)
 ·have key:∀(i:Nat) (o:Obj) (k:Nat),(h.set m (.many l' ts'))[i]?=some o->Bk o (β i) k->o.live=true->∃o0,h[i]?=some o0/\o0.live=true/\Bk o0 (β i) k:=by
   intro i o k hi hk hl;rcases ZeA hi with ⟨rfl,rfl⟩ | ⟨aC,hi⟩
   ·obtain ⟨p,h1,h2⟩:=hk;exact ⟨_,hm,rfl,p,hp.mem_iff.2 h1,h2⟩
   ·exact ⟨o,hi,hl,hk⟩
  obtain ⟨o1,a1,a2,a3⟩:=key i o k hi hk hl;obtain ⟨o2,b1,b2,b3⟩:=key j o' k hj ae bQ;exact hr.sep i j o1 o2 k a1 a2 b1 b2 a3 b3
 ·rcases ZeA hi with ⟨rfl,rfl⟩ | ⟨aC,hi⟩
  ·obtain ⟨p,h1,h2⟩:=hk;exact ⟨_,_,hm,rfl,p,hp.mem_iff.2 h1,h2⟩
  ·exact ⟨i,o,hi,hl,hk⟩
theorem Zzr {v:Value} (m q:Nat) {l:List (Value × Ob0)} {ts:List (Value × Nat)} {xs:List (List GV)} {e sz:Nat} (hm:h[m]?=some (.many l ts)) (ht:(v,q)∈ts) (hq:h[q]?=some (.row xs e sz)) (k:ZaW G (.row q) h K):ZaW G (.g (.raw v)) h K:=λC w β V u hG hr hd=>by refine k C w β V u hG hr ?_;obtain ⟨o,ho,hb⟩:=(hr.obj m _ hm).2.2 _ ht;rw[hq] at ho;injection ho with ho;subst ho;simp only[Zab,ZaS] at hd;simp only[Zab,hq];exact hd.1.trans (hb rfl).symm
theorem ZxT (m q:Nat) {l:List (Value × Ob0)} {ts:List (Value × Nat)} {xs:List (List GV)} {e sz:Nat} (hm:h[m]?=some (.many l ts)) (hq:h[q]?=some (.row xs e sz)) (k:∀v:Value,ZaW G (.g (.raw v)) (h.set m (.many l ((v,q) :: ts))) K):ZaW G (.row q) h K:=λC w β V u hG hr hd=>by
 have bF:=hd;simp only[Zab,hq] at hd;subst hd;have h1:=hr.tags (l':=l) (ts':=(β q,q) :: ts) hm (Yap _) (λt ht=>by
  rcases Yav.1 ht with rfl | ht
  ·exact .inr ⟨_,hq,λ_=>rfl⟩
  ·exact .inl ht)
 obtain ⟨vs,ak,_⟩:=hr.obj q _ hq;have cx:(β q).oneCell'=true/\ZaG (β q)=[β q]:=by
  rcases ak.2 with ⟨hn,_⟩ | ⟨g,cap,cur,hb,_⟩
  ·rw[hn];exact ⟨rfl,rfl⟩
  ·rw[hb];exact ⟨rfl,rfl⟩
 obtain ⟨d2,h2,β2,V2,l1,l2,l3,l4,l5⟩:=k (β q) C w β V (β q) hG h1 (by simp only[Zab,ZaS];exact ⟨trivial,cx⟩);exact ⟨d2,h2,β2,V2,l1,l2,l3,(Zc4 hm (o':=.many l ((β q,q) :: ts)) trivial).trans l4,l5⟩
theorem ZdU (m q:Nat) {l:List (Value × Ob0)} {ts:List (Value × Nat)} {o:Obj} (ts':Value->List (Value × Nat)) (hm:h[m]?=some (.many l ts)) (hq:h[q]?=some o) (hs:∀v,∀t∈ts' v,t∈(v,q) :: ts) (k:∀v:Value,ZaW G d (h.set m (.many l (ts' v))) K):ZaW G d h K:=λC w β V u hG hr hd=>by
 have h1:=hr.tags (l':=l) (ts':=ts' (β q)) hm (Yap _) (λt ht=>by
  rcases Yav.1 (hs _ t ht) with rfl | ht
  ·exact .inr ⟨_,hq,λ_=>rfl⟩
  ·exact .inl ht)
 have le:LeH h β (h.set m (.many l (ts' (β q)))) β:=Zc4 hm trivial;obtain ⟨d2,h2,β2,V2,l1,l2,l3,l4,l5⟩:=k (β q) C w β V u hG h1 (Zab.mono le (ZaI.refl _ _) _ _ hd);exact ⟨d2,h2,β2,V2,l1,l2,l3,le.trans l4,l5⟩
theorem RelD.lend (hr:RelD C h β V w) {m:Nat} {l1 l2:List (Value × Ob0)} {ts:List (Value × Nat)} {v:Value} {o:Ob0} (hm:h[m]?=some (.many (l1++(v,o) :: l2) ts)) :
  RelD C (h.set m (.many (l1++l2) ((v,h.length) :: ts))++[o.obj]) (upf β h.length v) V w/\LeH h β (h.set m (.many (l1++l2) ((v,h.length) :: ts))++[o.obj]) (upf β h.length v):=by
 have tw:m < h.length:=(Yac.1 hm).1;have hlen:(h.set m (.many (l1++l2) ((v,h.length) :: ts))).length=h.length:=by simp
 have le:LeH h β (h.set m (.many (l1++l2) ((v,h.length) :: ts))++[o.obj]) (upf β h.length v):=by have a1:LeH h β (h.set m (.many (l1++l2) ((v,h.length) :: ts))) β:=Zc4 hm trivial;have a2:=ZdS (h.set m (.many (l1++l2) ((v,h.length) :: ts))) β o.obj v;rw[hlen] at a2;exact a1.trans a2
 have bB:=hr.obj m _ hm;have gU:=Ybt.1 bB.2.1;have aU:=List.pairwise_cons.1 gU.2.1;have dN:ZiH V w v o:=bB.1 (v,o) (by simp);have at_:∀(i:Nat) (x:Obj),(h.set m (.many (l1++l2) ((v,h.length) :: ts))++[o.obj])[i]?=some x->(i=h.length/\x=o.obj)\/(i=m/\x=.many (l1++l2) ((v,h.length) :: ts))\/(i < h.length/\i≠m/\h[i]?=some x):=by
  intro i x hi;rcases Zbo hi with ⟨rfl,rfl⟩ | ⟨hl,hi⟩
  ·exact .inl ⟨hlen,rfl⟩
  ·rcases ZeA hi with ⟨rfl,rfl⟩ | ⟨aC,hi⟩
   ·exact .inr (.inl ⟨rfl,rfl⟩)
   ·exact .inr (.inr ⟨by omega,aC,hi⟩)
 have ax:∀p,p∈l1++l2->p∈l1++(v,o) :: l2:=λp hp=>by
  rcases Yar.1 hp with hp | hp
  ·exact Yar.2 (.inl hp)
  ·exact Yar.2 (.inr (Yad _ hp))
 have bK:∀p∈l1++l2,∀k,bk p.1=some k->bk v≠some k:=λp hp k hk=>by
  rcases Yar.1 hp with hp | hp
  ·exact gU.2.2 p hp (v,o) Yae k hk
  ·exact λhv=>aU.1 p hp k hv hk
 refine ⟨hr.same (λi x hi=>?_) (λi j x y k hi hl hj bQ hk ae=>?_) (λi x k hi hl hk=>?_),le⟩
 ·rcases at_ i x hi with ⟨rfl,rfl⟩ | ⟨rfl,rfl⟩ | ⟨az,aC,hi⟩
  ·exact Zzh dN (ZbT _ _ _)
  ·refine ⟨λp hp=>bB.1 p (ax p hp),Ybt.2 ⟨gU.1,aU.2,λa ha b hb=>gU.2.2 a ha b (Yad _ hb)⟩,λt ht=>?_⟩;rcases Yav.1 ht with rfl | ht
   ·exact ⟨o.obj,by rw[Yaj (by rw[hlen];exact Yas _),hlen];simp,λ_=>ZbT _ _ _⟩
   ·exact (bB.2.2 t ht).le le
  ·exact (hr.obj i x hi).keep le (ZaI.refl _ _) (ZdA (by omega)) (λ_ _=>rfl)
 ·have own:∀(i:Nat) (x:Obj),(h.set m (.many (l1++l2) ((v,h.length) :: ts))++[o.obj])[i]?=some x->x.live=true->Bk x (upf β h.length v i) k->(i=h.length/\bk v=some k)\/(i=m/\∃p∈l1++l2,bk p.1=some k)\/(i < h.length/\i≠m/\h[i]?=some x/\Bk x (β i) k):=by
   intro i x hi hl hk;rcases at_ i x hi with ⟨rfl,rfl⟩ | ⟨rfl,rfl⟩ | ⟨az,aC,hi⟩
   ·rw[ZbT] at hk;exact .inl ⟨rfl,(ZxL o v k).1 hk⟩
   ·exact .inr (.inl ⟨rfl,hk⟩)
   ·rw[ZdA (by omega)] at hk;exact .inr (.inr ⟨az,aC,hi,hk⟩)
  have pz:∀p∈l1++(v,o) :: l2,bk p.1=some k->Bk (.many (l1++(v,o) :: l2) ts) (β m) k:=λp hp hk=>⟨p,hp,hk⟩;rcases own i x hi hl hk with ⟨rfl,e1⟩ | ⟨rfl,p,hp,e1⟩ | ⟨az,aC,bc,e1⟩<;>rcases own j y hj bQ ae with ⟨rfl,e2⟩ | ⟨rfl,q,hq,e2⟩ | ⟨aD,tt,cn,e2⟩
  ·rfl
  ·exact absurd e1 (bK q hq k e2)
  ·have:=hr.sep m j _ y k hm rfl cn bQ (pz (v,o) (by simp) e1) e2;exact absurd this.symm tt
  ·exact absurd e2 (bK p hp k e1)
  ·rfl
  ·have:=hr.sep _ j _ y k hm rfl cn bQ (pz p (ax p hp) e1) e2;exact absurd this.symm tt
  ·have:=hr.sep i m x _ k bc hl hm rfl e1 (pz (v,o) (by simp) e2);exact absurd this aC
  ·have:=hr.sep i _ x _ k bc hl hm rfl e1 (pz q (ax q hq) e2);exact absurd this aC
  ·exact hr.sep i j x y k bc hl cn bQ e1 e2
 ·rcases at_ i x hi with ⟨rfl,rfl⟩ | ⟨rfl,rfl⟩ | ⟨az,aC,hi⟩
  ·rw[ZbT] at hk;exact ⟨m,_,hm,rfl,(v,o),by simp,(ZxL o v k).1 hk⟩
  ·obtain ⟨p,hp,e1⟩:=hk;exact ⟨_,_,hm,rfl,p,ax p hp,e1⟩
  ·rw[ZdA (by omega)] at hk;exact ⟨i,x,hi,hl,hk⟩
theorem ZxU {v:Value} (m:Nat) (l1 l2:List (Value × Ob0)) (o:Ob0) {l:List (Value × Ob0)} {ts:List (Value × Nat)} (hm:h[m]?=some (.many l ts)) (hl:l=l1++(v,o) :: l2) (k:ZaW G (ZBF h.length o) (h.set m (.many (l1++l2) ((v,h.length) :: ts))++[o.obj]) K):ZaW G (.g (.raw v)) h K:=λC w β V u hG hr hd=>by subst hl;obtain ⟨h1,le⟩:=hr.lend hm;simp only[Zab,ZaS] at hd;have hu:=hd.1;subst hu;have dN:ZiH V w u o:=(hr.obj m _ hm).1 (u,o) (by simp);obtain ⟨d2,h2,β2,V2,k1,k2,k3,k4,k5⟩:=k C w _ V u hG h1 (Zwe dN (ZbT _ _ _) (by rw[Yaj (by simp)];simp));exact ⟨d2,h2,β2,V2,k1,k2,k3,le.trans k4,k5⟩
def Zus:Obj->Ob0->Prop
 | .row xs e sz,.row ys e' aW=>xs=ys/\e=e'/\sz=aW
 | .blk cs t,.blk gs t'=>Zih cs=some gs/\t=t'
 | _,_=>False
theorem Zur {i:Nat} {o:Obj} {z:Ob0} (hz:Zus o z) (ho:Zco h β V w i o):ZiH V w (β i) z:=by
 cases o with
 | row xs e sz =>
  cases z with
  | row ys e' aW=>obtain ⟨rfl,rfl,rfl⟩:=hz;exact ho
  | blk=>exact hz.elim
 | blk cs t =>
  cases z with
  | row ys e' aW=>exact hz.elim
  | blk gs t' =>obtain ⟨h1,rfl⟩:=hz;obtain ⟨g,vs,h2,h3,h4⟩:=ho;exact ⟨g,vs,h2,h3,ZhJ h1 h4⟩
 | many=>exact hz.elim
 | dead=>exact hz.elim
theorem ZeF {o:Obj} {z:Ob0} (hz:Zus o z):o.live=true:=by cases o<;>first | rfl | exact hz.elim
theorem Zme {o:Obj} {z:Ob0} (hz:Zus o z) {v:Value} {k:Nat}:Bk o v k↔bk v=some k:=by cases o<;>first | exact Ya3 | exact hz.elim
theorem RelD.hide (hr:RelD C h β V w) {m q:Nat} {l:List (Value × Ob0)} {ts:List (Value × Nat)} {v:Value} {o:Obj} {z:Ob0} (hm:h[m]?=some (.many l ts)) (ht:(v,q)∈ts) (hq:h[q]?=some o) (hz:Zus o z) :
  RelD C ((h.set m (.many (l++[(v,z)]) ts)).set q .dead) β V w/\LeH h β ((h.set m (.many (l++[(v,z)]) ts)).set q .dead) β:=by
 have tw:m < h.length:=(Yac.1 hm).1;have gT:q < h.length:=(Yac.1 hq).1;have dY:m≠q:=λe=>by subst e;rw[hm] at hq;injection hq with hq;subst hq;exact hz
 have le:LeH h β ((h.set m (.many (l++[(v,z)]) ts)).set q .dead) β:=by have a1:LeH h β (h.set m (.many (l++[(v,z)]) ts)) β:=Zc4 hm trivial;refine a1.trans (Zc4 (o:=o) (by rw[YaV dY];exact hq) (by cases o<;>trivial))
 have bB:=hr.obj m _ hm;have hv:β q=v:=by obtain ⟨o',aP,hb⟩:=bB.2.2 _ ht;rw[hq] at aP;injection aP with aP;subst aP;exact hb (ZeF hz)
 have fi:ZiH V w v z:=by rw[<- hv];exact Zur hz (hr.obj q o hq)
 have at_:∀(i:Nat) (x:Obj),((h.set m (.many (l++[(v,z)]) ts)).set q .dead)[i]?=some x->x=.dead\/(i=m/\x=.many (l++[(v,z)]) ts)\/(i≠q/\i≠m/\h[i]?=some x):=by
  intro i x hi;rcases ZeA hi with ⟨rfl,rfl⟩ | ⟨aC,hi⟩
  ·exact .inl rfl
  ·rcases ZeA hi with ⟨rfl,rfl⟩ | ⟨q8,hi⟩
   ·exact .inr (.inl ⟨rfl,rfl⟩)
   ·exact .inr (.inr ⟨aC,q8,hi⟩)
 have bK:∀p∈l,Zvv p (v,z):=λp hp k hk vt=>by have h1:Bk (.many l ts) (β m) k:=⟨p,hp,hk⟩;have h2:Bk o (β q) k:=(Zme hz).2 (by rw[hv];exact vt);exact dY (hr.sep m q _ o k hm rfl hq (ZeF hz) h1 h2)
 have own:∀(i:Nat) (x:Obj) (k:Nat),((h.set m (.many (l++[(v,z)]) ts)).set q .dead)[i]?=some x->x.live=true->Bk x (β i) k->(i=m/\((∃p∈l,bk p.1=some k)\/bk v=some k))\/(i≠q/\i≠m/\h[i]?=some x/\Bk x (β i) k):=by
  intro i x k hi hl hk;rcases at_ i x hi with rfl | ⟨rfl,rfl⟩ | ⟨h1,h2,h3⟩
  ·cases hl
  ·obtain ⟨p,hp,e⟩:=hk;rcases Yar.1 hp with hp | hp
   ·exact .inl ⟨rfl,.inl ⟨p,hp,e⟩⟩
   ·rw[Yaz] at hp;subst hp;exact .inl ⟨rfl,.inr e⟩
  ·exact .inr ⟨h1,h2,h3,hk⟩
 refine ⟨hr.same (λi x hi=>?_) (λi j x y k hi hl hj bQ hk ae=>?_) (λi x k hi hl hk=>?_),le⟩
 ·rcases at_ i x hi with rfl | ⟨rfl,rfl⟩ | ⟨h1,h2,h3⟩
  ·trivial
  ·refine ⟨λp hp=>?_,Ybt.2 ⟨bB.2.1,YbY _ _,λa ha b hb=>?_⟩,λt ht=>(bB.2.2 t ht).le le⟩
   ·rcases Yar.1 hp with hp | hp
    ·exact bB.1 p hp
    ·rw[Yaz] at hp;subst hp;exact fi
   ·rw[Yaz] at hb;subst hb;exact bK a ha
  ·exact (hr.obj i x h3).keep le (ZaI.refl _ _) rfl (λ_ _=>rfl)
 ·have nA:(∃p∈l,bk p.1=some k)\/bk v=some k->(Bk (.many l ts) (β m) k)\/Bk o (β q) k:=λh=>by
   rcases h with h | h
   ·exact .inl h
   ·exact .inr ((Zme hz).2 (by rw[hv];exact h))
  rcases own i x k hi hl hk with ⟨rfl,e1⟩ | ⟨a1,a2,a3,a4⟩<;>rcases own j y k hj bQ ae with ⟨rfl,e2⟩ | ⟨b1,b2,b3,b4⟩
  ·rfl
  ·rcases nA e1 with e1 | e1
   ·exact absurd (hr.sep _ j _ y k hm rfl b3 bQ e1 b4).symm b2
   ·exact absurd (hr.sep q j o y k hq (ZeF hz) b3 bQ e1 b4).symm b1
  ·rcases nA e2 with e2 | e2
   ·exact absurd (hr.sep i _ x _ k a3 hl hm rfl a4 e2) a2
   ·exact absurd (hr.sep i q x o k a3 hl hq (ZeF hz) a4 e2) a1
  ·exact hr.sep i j x y k a3 hl b3 bQ a4 b4
 ·rcases own i x k hi hl hk with ⟨rfl,e1 | e1⟩ | ⟨a1,a2,a3,a4⟩
  ·exact ⟨_,_,hm,rfl,e1⟩
  ·exact ⟨q,o,hq,ZeF hz,(Zme hz).2 (by rw[hv];exact e1)⟩
  ·exact ⟨i,x,a3,hl,a4⟩
theorem ZqI (m q:Nat) (v:Value) (z:Ob0) {l:List (Value × Ob0)} {ts:List (Value × Nat)} {o:Obj} (hm:h[m]?=some (.many l ts)) (ht:(v,q)∈ts) (hq:h[q]?=some o) (hz:Zus o z) (k:ZaW G d ((h.set m (.many (l++[(v,z)]) ts)).set q .dead) K):ZaW G d h K:=λC w β V u hG hr hd=>by obtain ⟨h1,le⟩:=hr.hide hm ht hq hz;obtain ⟨d2,h2,β2,V2,k1,k2,k3,k4,k5⟩:=k C w β V u hG h1 (Zab.mono le (ZaI.refl _ _) _ _ hd);exact ⟨d2,h2,β2,V2,k1,k2,k3,le.trans k4,k5⟩
theorem ZA7 (m:Nat) (e sz:Nat) {l:List (Value × Ob0)} {ts:List (Value × Nat)} (h0:0 < sz) (hm:h[m]?=some (.many l ts)) (k:ZaW G d (h.set m (.many (l++[(.slice none 0 0,.row [] e sz)]) ts)) K):ZaW G d h K:=λC w β V u hG hr hd=>by
 have le:LeH h β (h.set m (.many (l++[(.slice none 0 0,.row [] e sz)]) ts)) β:=Zc4 hm trivial;have bB:=hr.obj m _ hm;have nb:∀(k:Nat) (p:Value × Ob0),p∈l++[(.slice none 0 0,.row [] e sz)]->bk p.1=some k->p∈l:=λk p hp hk=>by
  rcases Yar.1 hp with hp | hp
  ·exact hp
  ·rw[Yaz] at hp;subst hp;cases hk
 have own:∀(i:Nat) (x:Obj) (k:Nat),(h.set m (.many (l++[(.slice none 0 0,.row [] e sz)]) ts))[i]?=some x->x.live=true->Bk x (β i) k->∃y,h[i]?=some y/\y.live=true/\Bk y (β i) k:=by
  intro i x k hi hl hk;rcases ZeA hi with ⟨rfl,rfl⟩ | ⟨aC,hi⟩
  ·obtain ⟨p,hp,e1⟩:=hk;exact ⟨_,hm,rfl,p,nb _ p hp e1,e1⟩
  ·exact ⟨x,hi,hl,hk⟩
 have h1:RelD C (h.set m (.many (l++[(.slice none 0 0,.row [] e sz)]) ts)) β V w:=by
  refine hr.same (λi x hi=>?_) (λi j x y k hi hl hj bQ hk ae=>?_) (λi x k hi hl hk=>?_)
  ·rcases ZeA hi with ⟨rfl,rfl⟩ | ⟨aC,hi⟩
   ·refine ⟨λp hp=>?_,Ybt.2 ⟨bB.2.1,YbY _ _,λa ha b hb=>?_⟩,λt ht=>(bB.2.2 t ht).le le⟩
    ·rcases Yar.1 hp with hp | hp
     ·exact bB.1 p hp
     ·rw[Yaz] at hp;subst hp;exact ⟨[],World.ownsRow_nil w 0 e sz,trivial,λr hr=>by simp at hr,h0⟩
    ·rw[Yaz] at hb;subst hb;intro k _ hk;cases hk
   ·exact (hr.obj i x hi).keep le (ZaI.refl _ _) rfl (λ_ _=>rfl)
  ·obtain ⟨x',a1,a2,a3⟩:=own i x k hi hl hk;obtain ⟨y',b1,b2,b3⟩:=own j y k hj bQ ae;exact hr.sep i j x' y' k a1 a2 b1 b2 a3 b3
  ·obtain ⟨x',a1,a2,a3⟩:=own i x k hi hl hk;exact ⟨i,x',a1,a2,a3⟩
 obtain ⟨d2,h2,β2,V2,k1,k2,k3,k4,k5⟩:=k C w β V u hG h1 (Zab.mono le (ZaI.refl _ _) _ _ hd);exact ⟨d2,h2,β2,V2,k1,k2,k3,le.trans k4,k5⟩
def ZhI:List D->List D
 | []=>[]
 | .nils :: l=>.g (.raw (.slice none 0 0)) :: ZhI l
 | d :: l=>d :: ZhI l
theorem ZjC:∀{ds:List D} {vs:List Value},Zaa h β V w ds vs->Zaa h β V w (ZhI ds) vs
 | [],vs,hr=>hr
 | d :: ds,vs,hr=>by
  simp only[Zaa] at hr;obtain ⟨v,us,rfl,h1,h2⟩:=hr;have h3:=ZjC h2;cases d<;>first | (simp only[ZhI,Zaa];exact ⟨_,_,rfl,h1,h3⟩) | skip
  simp only[ZhI,Zaa];refine ⟨_,_,rfl,?_,h3⟩;simp only[Zab] at h1;subst h1;simp only[Zab,ZaS];exact ⟨trivial,rfl,rfl⟩
theorem ZA6 {cs:List D} (k:ZaW G (.agg (ZhI cs)) h K):ZaW G (.agg cs) h K:=ZA8 (λβ V w v hr=>by
 simp only[Zab] at hr ⊢;obtain ⟨us,hv,h1⟩:=hr;exact ⟨us,hv,ZjC h1⟩) k
theorem ZBa {q n:Nat} {xs:List (List GV)} {e sz:Nat} (hq:h[q]?=some (.row xs e sz)) (hn:n<=xs.length) (k:ZaW G (.row h.length) (h.set q .dead++[.row (xs.take n) e sz]) K):ZaW G (.rs q 0 n) h K:=λC w β V u hG hr hd=>by
 simp only[Zab,hq] at hd;obtain ⟨_,A,mm,cap,hb,hu⟩:=hd;obtain ⟨vs,ak,hv,hx,h0⟩:=hr.obj q _ hq;have gT:q < h.length:=(Yac.1 hq).1;have aS:w.ownsRow 0 e sz u n (vs.take (n*sz))/\bk u=bk (β q)\/(w.ownsRow 0 e sz u n (vs.take (n*sz))/\bk u=none):=by
  rcases ak.2 with ⟨iX,bC⟩ | ⟨g,bV,cur,cH,q1,q2,q3,q4,q5,q6⟩
  ·rw[iX] at hb;injection hb with e1 e2 e3;subst e1;subst e3;have fC:n=0:=by omega
   subst fC;rw[hu];exact .inr ⟨by simpa using World.ownsRow_nil w 0 e sz,by simp[bk]⟩
  ·rw[cH] at hb;injection hb with e1 e2 e3;subst e1;subst e3;have qD:u=.slice (some ⟨g,0,none⟩) n bV:=by
    rw[hu];by_cases hc:bV=0
    ·simp[hc]
    ·simp[hc,Addr.add]
   have hl:=ak.1;have hmul:n*sz<=xs.length*sz:=YaJ _ hn;rw[qD,cH];refine .inl ⟨⟨by rw[Yam];omega,.inr ⟨g,bV,cur,rfl,q1,q2,by omega,q4,q5,?_⟩⟩,rfl⟩;rw[<- q6,YbK,Ybd hmul]
 have cO:w.ownsRow 0 e sz u n (vs.take (n*sz)):=by rcases aS with h | h<;>exact h.1
 have bm:∀k,bk u=some k->bk (β q)=some k:=λk hk=>by
  rcases aS with h | h
  ·rw[<- h.2];exact hk
  ·rw[h.2] at hk;cases hk
 have qH:∀(ys:List (List GV)) (n:Nat),(∀r∈ys,r.length=sz)->(ys.take n).flatten=ys.flatten.take (n*sz):=by
  intro ys
  induction ys with
  | nil=>intro n _;simp
  | cons y ys ih =>
   intro n hy;cases n with
   | zero=>simp
   | succ n =>have gQ:=hy y Yae;have hd:y.take ((n+1)*sz)=y:=Yay (by rw[gQ,YaW];omega);rw[List.take_succ_cons,List.flatten_cons,List.flatten_cons,Ybr,hd,gQ,YaW,Ya6,ih n (λr hr=>hy r (Yad _ hr))]
 have le:=Zpl h β q (.row (xs.take n) e sz) u;have h1:RelD C (h.set q .dead++[.row (xs.take n) e sz]) (upf β h.length u) V w:=by
  refine hr.upd (G:=λ_=>False) (Fr.refl _ w) h.length (.row (xs.take n) e sz) (by rw[Yaj (by simp)];simp) (λj o hj ho hl=>?_) le (λk hk=>hk.elim) (λhm=>?_) (λk hk=>?_)
  ·rcases Zbo ho with ⟨rfl,rfl⟩ | ⟨aD,ho⟩
   ·simp at hj
   ·rcases ZeA ho with ⟨rfl,rfl⟩ | ⟨aC,ho⟩
    ·cases hl
    ·exact ⟨ho,ZdA hj,λ_ _ h=>h⟩
  ·refine ⟨vs.take (n*sz),?_,?_,λr hr=>hx r (YaK hr),h0⟩
   ·rw[ZbT,Yam,Ybd hn];exact cO
   ·rw[qH xs n hx];exact hv.take _
  ·rw[ZbT] at hk;refine .inr ⟨q,_,hq,rfl,bm k hk,.inr (λo' aP=>?_)⟩;rw[Yal (by simpa using gT)] at aP;simp[gT] at aP;subst aP;rfl
 obtain ⟨d2,h2,β2,V2,k1,k2,k3,k4,k5⟩:=k C w _ V u hG h1 (by
  simp only[Zab];rw[Yaj (by simp)];simp only[Ybw,Ybq,List.getElem?_cons_zero];exact (ZbT _ _ _).symm)
 exact ⟨d2,h2,β2,V2,k1,k2,k3,le.trans k4,k5⟩
theorem RelD.recell (hr:RelD C h β V w) {j:Nat} {cs cN:List D} {t:TypeId} (hj:h[j]?=some (.blk cs t)) (hc:∀g vs,β j=.pointer (some ⟨g,0,none⟩)->w.heap[g]?=some (.cells ⟨vs⟩ t (0,0))->Zaa h β V w cs vs->Zaa h β V w cN vs):RelD C (h.set j (.blk cN t)) β V w:=by
 have le:LeH h β (h.set j (.blk cN t)) β:=Zc4 hj trivial;have own:∀(i:Nat) (x:Obj) (k:Nat),(h.set j (.blk cN t))[i]?=some x->x.live=true->Bk x (β i) k->∃y,h[i]?=some y/\y.live=true/\Bk y (β i) k:=by
  intro i x k hi hl hk;rcases ZeA hi with ⟨rfl,rfl⟩ | ⟨aC,hi⟩
  ·exact ⟨_,hj,rfl,hk⟩
  ·exact ⟨x,hi,hl,hk⟩
 refine hr.same (λi x hi=>?_) (λi j x y k hi hl hj bQ hk ae=>?_) (λi x k hi hl hk=>?_)
 ·rcases ZeA hi with ⟨rfl,rfl⟩ | ⟨aC,hi⟩
  ·obtain ⟨g,vs,h1,h2,h3⟩:=hr.obj _ _ hj;exact ⟨g,vs,h1,h2,Zaa.mono le (ZaI.refl _ _) _ _ (hc g vs h1 h2 h3)⟩
  ·exact (hr.obj i x hi).keep le (ZaI.refl _ _) rfl (λ_ _=>rfl)
 ·obtain ⟨x',a1,a2,a3⟩:=own i x k hi hl hk;obtain ⟨y',b1,b2,b3⟩:=own j y k hj bQ ae;exact hr.sep i j x' y' k a1 a2 b1 b2 a3 b3
 ·obtain ⟨x',a1,a2,a3⟩:=own i x k hi hl hk;exact ⟨i,x',a1,a2,a3⟩
theorem Zxe {cs:List D} {vs:List Value} (hr:Zaa h β V w cs vs) {off:Nat} {d:D} (hc:cs[off]?=some d):∃v,vs[off]?=some v/\Zab h β V w d v:=hr.get hc
theorem Zxd {cs:List D} {vs:List Value} (hr:Zaa h β V w cs vs) {off:Nat} {v:Value} (hv:vs[off]?=some v) {d':D} (hd:Zab h β V w d' v):Zaa h β V w (cs.set off d') vs:=by
 have e:vs.set off v=vs:=by
  apply Ybx;intro i;rw[List.getElem?_set];by_cases hi:off=i
  ·subst hi;have hl:off < vs.length:=(Yac.1 hv).1;simp[hl,(List.getElem?_eq_some_iff.1 hv).2]
  ·simp[hi]
 have:=hr.set off hd;rwa [e] at this
theorem Zy4 {g g':Nat} (h:Value.pointer (some ⟨g,0,none⟩)=Value.pointer (some ⟨g',0,none⟩)):g=g':=by injection h with h;injection h with h;injection h with h
theorem Zu4 {vs dm:List Value} {t t':TypeId} {g:Nat} (h1:w.heap[g]?=some (.cells ⟨vs⟩ t (0,0))) (h2:w.heap[g]?=some (.cells ⟨dm⟩ t' (0,0))):vs=dm:=by rw[h1] at h2;injection h2 with h2;injection h2 with h2;injection h2 with h2
theorem ZqJ (j off q n:Nat) {cs:List D} {t:TypeId} {xs:List (List GV)} {e sz:Nat} (hj:h[j]?=some (.blk cs t)) (hc:cs[off]?=some (.rs q 0 n)) (hq:h[q]?=some (.row xs e sz)) (hn:n<=xs.length)
  (k:ZaW G d ((h.set q .dead++[Obj.row (xs.take n) e sz]).set j (.blk (cs.set off (.row h.length)) t)) K):ZaW G d h K:=λC w β V u hG hr hd=>by
 have aD:j < h.length:=(Yac.1 hj).1;have vK:q≠j:=λe'=>by subst e';rw[hq] at hj;cases hj
 obtain ⟨g,vs,b1,b2,b3⟩:=hr.obj j _ hj;obtain ⟨v,c1,c2⟩:=Zxe b3 hc;have key:ZaW G (.rs q 0 n) h (λd' h'=>d'=D.row h.length/\h'=h.set q .dead++[Obj.row (xs.take n) e sz]):=ZBa hq hn (ZiC ⟨rfl,rfl⟩);obtain ⟨d',h',β',V',⟨rfl,rfl⟩,k2,k3,k4,k5⟩:=key C w β V v hG hr c2;have cn:(h.set q .dead++[Obj.row (xs.take n) e sz])[j]?=some (.blk cs t):=by rw[Yal (by simpa using aD),YaV vK];exact hj
 have au:β' j=β j:=by obtain ⟨o',p1,p2,p3⟩:=k4 j _ hj;rw[cn] at p1;injection p1 with p1;subst p1;exact p3 rfl
 have h3:RelD C ((h.set q .dead++[Obj.row (xs.take n) e sz]).set j (.blk (cs.set off (.row h.length)) t)) β' V' w :=
  k2.recell cn (λg' dm p1 p2 p3=>by
   have eg:g'=g:=Zy4 (by rw[<- p1,au,b1]);subst eg;have ev:=Zu4 p2 b2;subst ev;exact Zxd p3 c1 k3)
 have le:LeH (h.set q .dead++[Obj.row (xs.take n) e sz]) β' ((h.set q .dead++[Obj.row (xs.take n) e sz]).set j (.blk (cs.set off (.row h.length)) t)) β':=Zc4 cn trivial;obtain ⟨d2,h2,β2,V2,l1,l2,l3,l4,l5⟩:=k C w β' V' u hG h3 (Zab.mono (k4.trans le) k5 _ _ hd);exact ⟨d2,h2,β2,V2,l1,l2,l3,(k4.trans le).trans l4,k5.trans l5⟩
theorem Zi2 (m:Nat) (l1 l2:List (Value × Ob0)) (p:Value × Ob0) {l:List (Value × Ob0)} {ts:List (Value × Nat)} (hm:h[m]?=some (.many l ts)) (hl:l=l1++p :: l2) (k:ZaW G d (h.set m (.many (l1++l2) ts)) K):ZaW G d h K:=λC w β V u hG hr hd=>by
 subst hl;have le:LeH h β (h.set m (.many (l1++l2) ts)) β:=Zc4 hm trivial;have bB:=hr.obj m _ hm;have gU:=Ybt.1 bB.2.1;have aU:=List.pairwise_cons.1 gU.2.1;have ax:∀q,q∈l1++l2->q∈l1++p :: l2:=λq hq=>by
  rcases Yar.1 hq with hq | hq
  ·exact Yar.2 (.inl hq)
  ·exact Yar.2 (.inr (Yad _ hq))
 have own:∀(i:Nat) (x:Obj) (k:Nat),(h.set m (.many (l1++l2) ts))[i]?=some x->x.live=true->Bk x (β i) k->∃y,h[i]?=some y/\y.live=true/\Bk y (β i) k:=by
  intro i x k hi hl hk;rcases ZeA hi with ⟨rfl,rfl⟩ | ⟨aC,hi⟩
  ·obtain ⟨q,hq,e1⟩:=hk;exact ⟨_,hm,rfl,q,ax q hq,e1⟩
  ·exact ⟨x,hi,hl,hk⟩
 have h1:RelD C (h.set m (.many (l1++l2) ts)) β V w:=by
  refine hr.same (λi x hi=>?_) (λi j x y k hi hl hj bQ hk ae=>?_) (λi x k hi hl hk=>?_)
  ·rcases ZeA hi with ⟨rfl,rfl⟩ | ⟨aC,hi⟩
   ·exact ⟨λq hq=>bB.1 q (ax q hq),Ybt.2 ⟨gU.1,aU.2,λa ha b hb=>gU.2.2 a ha b (Yad _ hb)⟩,λt ht=>(bB.2.2 t ht).le le⟩
   ·exact (hr.obj i x hi).keep le (ZaI.refl _ _) rfl (λ_ _=>rfl)
  ·obtain ⟨x',a1,a2,a3⟩:=own i x k hi hl hk;obtain ⟨y',b1,b2,b3⟩:=own j y k hj bQ ae;exact hr.sep i j x' y' k a1 a2 b1 b2 a3 b3
  ·obtain ⟨x',a1,a2,a3⟩:=own i x k hi hl hk;exact ⟨i,x',a1,a2,a3⟩
 obtain ⟨d2,h2,β2,V2,k1,k2,k3,k4,k5⟩:=k C w β V u hG h1 (Zab.mono le (ZaI.refl _ _) _ _ hd);exact ⟨d2,h2,β2,V2,k1,k2,k3,le.trans k4,k5⟩
end
end
section
variable {P:Program} {T:Tab} {F:FuncId->Bool} {G:Gl}
theorem ZrL {g:FuncId} {all:List D} {h:Zae} {d:D} {K Qp:KD} (hc:CTR P G g all h d) (hk:K d h):ZcH P G g all h K Qp:=λC w β V aa hG hr hd =>
 (hc C w β V aa hG hr hd).mono λe w' he=>by
  cases e with
  | returned v=>exact ⟨d,h,β,V,hk,he.1,he.2.1,LeH.refl _ _,he.2.2⟩
  | panicked ch=>exact he.elim
  | outgrown=>exact he.elim
def noV:GV->Prop
 | .sl _ _=>False
 | _=>True
theorem Zzk {V V':Nat->Prop} {w w':World} {g:GV} {v:Value} (hn:noV g) (h:ZaS V w g v):ZaS V' w' g v:=by
 cases g<;>first | exact hn.elim | simpa only[ZaS] using h
theorem Zqm {V V':Nat->Prop} {w w':World}:∀{gs:List GV} {vs:List Value},(∀g∈gs,noV g)->Zbg V w gs vs->Zbg V' w' gs vs
 | [],[],_,_=>trivial
 | [],_ :: _,_,h=>h.elim
 | _ :: _,[],_,h=>h.elim
 | g :: _,_ :: _,hn,h=>⟨Zzk (hn g Yae) h.1,Zqm (λg hg=>hn g (Yad _ hg)) h.2⟩
theorem ZAu {g:FuncId} {all as:List D} {h:Zae} {xs:List (List GV)} {e sz:Nat} {K Qp:KD} (hl:Ze0 (all.map (conv h [] 4)) as) (ff:CT P G g as (λo=>o=.ret (.row 0) [.row xs e sz])) (hn:∀r∈xs,∀g∈r,noV g) (hk:K (.row h.length) (h++[.row xs e sz])):ZcH P G g all h K Qp:=by
 intro C w β V aa hG hr hd;subst hG;have kh:=Zf7 hr (ZcT all);have an:Zaa [] (Zbd [] β) (ZhQ h (ZcT all) β V) w (all.map (conv h [] 4)) aa:=by refine Zcx (src:=[]) hr (λi=>i∈ZcT all) (λk hk=>.inl hk) (λi o k h1 h2 h3 h4=>.inr ⟨i,o,h1,h2,h3,h4⟩) 4 all aa (λd hd i hi _=>ZhT hd i hi (λj hj=>hj)) hd
 have fR:Zaa [] (λ_=>undef) (ZhQ h (ZcT all) β V) w as aa:=by have:=Zny hl an;exact Zaa.mono (h':=[]) (λi o hi=>by simp at hi) (ZaI.refl _ _) _ _ this
 refine (ff w _ aa kh.vlt kh.gl fR).mono λe' w' he=>?_;cases e' with
 | returned v =>
  obtain ⟨d,h',β',V',hq,ab,bF⟩:=he;injection hq with e1 e2;subst e1;subst e2;obtain ⟨vs,ak,hv,hx,h0⟩:=ab.obj 0 _ rfl;have br:RelD ⟨w,λ_=>False,V,C.G⟩ [.row xs e sz] β' V w':=by
   have hm:ZaI V w V w':=λk hk=>⟨hk,ab.fr.block k (hr.vlt k hk) (λh=>h)⟩;refine ⟨λi o hi=>?_,ab.sep,ab.mine,λi o k hi hl hk hv=>ab.vout i o k hi hl hk (ab.vin k (.inl hv)),λk hk=>ab.vlt k (ab.vin k (.inl hk)),λk hk=>hk,λk hk=>.inl hk,ab.fr,hr.gl.move hm⟩;cases i with
   | zero =>simp at hi;subst hi;exact ⟨vs,ak,Zqm (λg hg=>by obtain ⟨r,hr,wx⟩:=List.mem_flatten.1 hg;exact hn r hr g wx) hv,hx,h0⟩
   | succ i=>simp at hi
  have hj:=Zia hr br;refine ⟨.row h.length,h++[.row xs e sz],_,V,hk,hj,?_,Zmb _ _ _ _,λk hk=>⟨hk,ab.fr.block k (hr.vlt k hk) (λh=>h)⟩⟩;have:=ZpZ (h:=h) (β:=β) (V:=V) 4 (.row 0) v (by simpa only[Zab] using bF:Zab [.row xs e sz] β' V w' (.row 0) v);simpa [sh,shO] using this
 | panicked ch =>
  obtain ⟨d,t,u,β',V',rfl,hq,_⟩:=he;cases hq
 | outgrown=>exact he.elim
theorem Zag {g:FuncId} {all:List D} {h:Zae} {K Qp:KD} {hin:Zae} {as:List D} {Q:Out->Prop} {b:Nat} (σ:List Nat) (hg:fnOk P g=true) (bt:ZgK h σ all=true) (bm:Nat.ble b σ.length=true) (ht:TurnTo h (σ.map .old) all hin as) (hc:CTH P G g b hin as Q)
  (hk:∀d h',Q (.ret d h')->K (rnD (rnI σ b h.length) 4 d) (Ziy h σ b h')) (hp:∀d h',Q (.panH d h')->Qp (rnD (rnI σ b h.length) 4 d) (Ziy h σ b h')):fnOk P g=true/\(Zdh P G g all h K Qp\/ZcH P G g all h K Qp) :=
 ⟨hg,.inl ⟨σ,b,hin,as,Q,bt,bm,ht,hc,hk,hp⟩⟩
end
end Go.Dm
