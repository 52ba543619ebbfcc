import Derived.Test.YtpjjkiidjofflaaGreatDoorWDa4
namespace Go.Dm
open Go Go.Eng Go.RowKit
section
variable {C:Ctx} {h h':Zad} {β β':Nat->Value} {V:Nat->Prop} {w:World}
theorem RelD.same (hr:RelD C h β V w) (hobj:∀(i:Nat) (o:Obj),h'[i]?=some o->Zcb h' β' V w i o)
  (hsep:∀(i j:Nat) (o o':Obj) (k:Nat),h'[i]?=some o->o.live=true->h'[j]?=some o'->o'.live=true->Bk o (β' i) k->Bk o' (β' j) k->i=j)
  (hin:∀(i:Nat) (o:Obj) (k:Nat),h'[i]?=some o->o.live=true->Bk o (β' i) k->∃j o',h[j]?=some o'/\o'.live=true/\Bk o' (β j) k):RelD C h' β' V w:=by
 refine ⟨hobj,hsep,λi o k hi hl hk=>?_,λi o k hi hl hk=>?_,hr.vlt,hr.vin,hr.vnew,hr.fr,hr.gl⟩
 ·obtain ⟨j,o',h1,h2,h3⟩:=hin i o k hi hl hk;exact hr.mine j o' k h1 h2 h3
 ·obtain ⟨j,o',h1,h2,h3⟩:=hin i o k hi hl hk;exact hr.vout j o' k h1 h2 h3
def Ob0.obj:Ob0->Obj
 | .row xs e sz=>.row xs e sz
 | .blk cs t=>.blk (cs.map .g) t
def ZBB (i:Nat):Ob0->D
 | .row _ _ _=>.row i
 | .blk _ _=>.ptr i 0
theorem ZyL {v:Value} {o:Ob0} {i:Nat} (ho:Zhi V w v o) (hv:β i=v):Zcb h β V w i o.obj:=by
 subst hv;cases o with
 | row xs e sz=>exact ho
 | blk cs t =>obtain ⟨g,vs,h1,h2,h3⟩:=ho;exact ⟨g,vs,h1,h2,(Zh1 _ _).2 h3⟩
theorem Zxt (o:Ob0) (v:Value) (k:Nat):Bk o.obj v k↔bk v=some k:=by cases o<;>exact Ybg
theorem ZvS {v:Value} {o:Ob0} {i:Nat} (ho:Zhi V w v o) (hv:β i=v) (hi:h[i]?=some o.obj):Zaa h β V w (ZBB i o) v:=by
 cases o with
 | row xs e sz=>simp only[ZBB,Zaa,hi,Ob0.obj];exact hv.symm
 | blk cs t =>obtain ⟨g,vs,h1,h2,h3⟩:=ho;simp only[ZBB,Zaa,hi,Ob0.obj];exact ⟨g,hv.trans h1,h1⟩
section
variable {G:Gl} {d:D} {K:KD}
theorem Ze2 (k:K d h):ZaE G d h K:=λ_ _ β V _ _ hr hd=>⟨d,h,β,V,k,hr,hd,LeH.refl _ _,ZaB.refl _ _⟩
theorem ZAW {d':D} (hl:∀(β:Nat->Value) (V:Nat->Prop) (w:World) (v:Value),Zaa h β V w d v->Zaa h β V w d' v) (k:ZaE G d' h K):ZaE G d h K:=λC w β V v hG hr hd=>k C w β V v hG hr (hl β V w v hd)
theorem ZAX {h2:Zad} (e:h=h2) (k:ZaE G d h2 K):ZaE G d h K:=by subst e;exact k
theorem Zei {m i:Nat} {o o':Obj} (hi:(h.set m o)[i]?=some o'):(i=m/\o'=o)\/(i≠m/\h[i]?=some o'):=by
 by_cases e:i=m
 ·subst e;have hl:i < h.length:=by have:=(Yaa.1 hi).1;simpa using this
  rw[YbH hl] at hi;injection hi with hi;exact .inl ⟨rfl,hi.symm⟩
 ·rw[YaR (λe'=>e e'.symm)] at hi;exact .inr ⟨e,hi⟩
theorem Zbb {i:Nat} {o o':Obj} (hi:(h++[o])[i]?=some o'):(i=h.length/\o'=o)\/(i < h.length/\h[i]?=some o'):=by
 by_cases e:i < h.length
 ·rw[Yaj e] at hi;exact .inr ⟨e,hi⟩
 ·rw[Yak (by omega)] at hi;have hl:=(Yaa.1 hi).1;simp at hl;have:i=h.length:=by omega
  subst this;simp at hi;exact .inl ⟨rfl,hi.symm⟩
theorem RelD.tags (hr:RelD C h β V w) {m:Nat} {l l':List (Value × Ob0)} {ts ts':List (Value × Nat)} (hm:h[m]?=some (.many l ts)) (hp:l.Perm l') (ht:∀t∈ts',t∈ts\/Zpy h β t):RelD C (h.set m (.many l' ts')) β V w:=by
 have le:LeH h β (h.set m (.many l' ts')) β:=Zcv hm trivial;have hob:=hr.obj m _ hm;refine hr.same (λi o hi=>?_) (λi j o o' k hi hl hj hl' hk hk'=>?_) (λi o k hi hl hk=>?_)
 ·rcases Zei hi with ⟨rfl,rfl⟩ | ⟨hne,hi⟩
  ·refine ⟨λp hp'=>hob.1 p (hp.mem_iff.2 hp'),(hp.pairwise_iff (λh=>h.symm)).1 hob.2.1,λt ht'=>?_⟩;rcases ht t ht' with h1 | h1
   ·exact (hob.2.2 t h1).le le
   ·exact h1.le le
  ·exact (hr.obj i o hi).keep le (ZaB.refl _ _) rfl (λ_ _=>rfl)
 ·have key:∀(i:Nat) (o:Obj) (k:Nat),(h.set m (.many l' ts'))[i]?=some o->Bk o (β i) k->o.live=true->∃o0,h[i]?=some o0/\o0.live=true/\Bk o0 (β i) k:=by
   intro i o k hi hk hl;rcases Zei hi with ⟨rfl,rfl⟩ | ⟨hne,hi⟩
   ·obtain ⟨p,h1,h2⟩:=hk;exact ⟨_,hm,rfl,p,hp.mem_iff.2 h1,h2⟩
   ·exact ⟨o,hi,hl,hk⟩
  obtain ⟨o1,a1,a2,a3⟩:=key i o k hi hk hl;obtain ⟨o2,b1,b2,b3⟩:=key j o' k hj hk' hl';exact hr.sep i j o1 o2 k a1 a2 b1 b2 a3 b3
 ·rcases Zei hi with ⟨rfl,rfl⟩ | ⟨hne,hi⟩
  ·obtain ⟨p,h1,h2⟩:=hk;exact ⟨_,_,hm,rfl,p,hp.mem_iff.2 h1,h2⟩
  ·exact ⟨i,o,hi,hl,hk⟩
theorem Zy1 {v:Value} (m q:Nat) {l:List (Value × Ob0)} {ts:List (Value × Nat)} {xs:List (List GV)} {e sz:Nat} (hm:h[m]?=some (.many l ts)) (ht:(v,q)∈ts) (hq:h[q]?=some (.row xs e sz)) (k:ZaE G (.row q) h K):ZaE G (.g (.raw v)) h K:=λC w β V u hG hr hd=>by refine k C w β V u hG hr ?_;obtain ⟨o,ho,hb⟩:=(hr.obj m _ hm).2.2 _ ht;rw[hq] at ho;injection ho with ho;subst ho;simp only[Zaa,ZaW] at hd;simp only[Zaa,hq];exact hd.1.trans (hb rfl).symm
theorem ZkQ (m q:Nat) {l:List (Value × Ob0)} {ts:List (Value × Nat)} {xs:List (List GV)} {e sz:Nat} (hm:h[m]?=some (.many l ts)) (hq:h[q]?=some (.row xs e sz)) (k:∀v:Value,ZaE G (.g (.raw v)) (h.set m (.many l ((v,q) :: ts))) K):ZaE G (.row q) h K:=λC w β V u hG hr hd=>by
 have hd':=hd;simp only[Zaa,hq] at hd;subst hd;have h1:=hr.tags (l':=l) (ts':=(β q,q) :: ts) hm (Yag _) (λt ht=>by
  rcases Yav.1 ht with rfl | ht
  ·exact .inr ⟨_,hq,λ_=>rfl⟩
  ·exact .inl ht)
 obtain ⟨vs,hown,_⟩:=hr.obj q _ hq;have hone:(β q).oneCell'=true/\ZaF (β q)=[β q]:=by
  rcases hown.2 with ⟨hn,_⟩ | ⟨g,cap,cur,hb,_⟩
  ·rw[hn];exact ⟨rfl,rfl⟩
  ·rw[hb];exact ⟨rfl,rfl⟩
 obtain ⟨d2,h2,β2,V2,l1,l2,l3,l4,l5⟩:=k (β q) C w β V (β q) hG h1 (by simp only[Zaa,ZaW];exact ⟨trivial,hone⟩);exact ⟨d2,h2,β2,V2,l1,l2,l3,(Zcv hm (o':=.many l ((β q,q) :: ts)) trivial).trans l4,l5⟩
theorem ZdP (m q:Nat) {l:List (Value × Ob0)} {ts:List (Value × Nat)} {o:Obj} (ts':Value->List (Value × Nat)) (hm:h[m]?=some (.many l ts)) (hq:h[q]?=some o) (hs:∀v,∀t∈ts' v,t∈(v,q) :: ts) (k:∀v:Value,ZaE G d (h.set m (.many l (ts' v))) K):ZaE G d h K:=λC w β V u hG hr hd=>by
 have h1:=hr.tags (l':=l) (ts':=ts' (β q)) hm (Yag _) (λt ht=>by
  rcases Yav.1 (hs _ t ht) with rfl | ht
  ·exact .inr ⟨_,hq,λ_=>rfl⟩
  ·exact .inl ht)
 have le:LeH h β (h.set m (.many l (ts' (β q)))) β:=Zcv hm trivial;obtain ⟨d2,h2,β2,V2,l1,l2,l3,l4,l5⟩:=k (β q) C w β V u hG h1 (Zaa.mono le (ZaB.refl _ _) _ _ hd);exact ⟨d2,h2,β2,V2,l1,l2,l3,le.trans l4,l5⟩
theorem RelD.lend (hr:RelD C h β V w) {m:Nat} {l1 l2:List (Value × Ob0)} {ts:List (Value × Nat)} {v:Value} {o:Ob0} (hm:h[m]?=some (.many (l1++(v,o) :: l2) ts)) :
  RelD C (h.set m (.many (l1++l2) ((v,h.length) :: ts))++[o.obj]) (upf β h.length v) V w/\LeH h β (h.set m (.many (l1++l2) ((v,h.length) :: ts))++[o.obj]) (upf β h.length v):=by
 have hml:m < h.length:=(Yaa.1 hm).1;have hlen:(h.set m (.many (l1++l2) ((v,h.length) :: ts))).length=h.length:=by simp
 have le:LeH h β (h.set m (.many (l1++l2) ((v,h.length) :: ts))++[o.obj]) (upf β h.length v):=by have a1:LeH h β (h.set m (.many (l1++l2) ((v,h.length) :: ts))) β:=Zcv hm trivial;have a2:=Zdo (h.set m (.many (l1++l2) ((v,h.length) :: ts))) β o.obj v;rw[hlen] at a2;exact a1.trans a2
 have hob:=hr.obj m _ hm;have hpw:=Ybx.1 hob.2.1;have hcs:=List.pairwise_cons.1 hpw.2.1;have hv0:Zhi V w v o:=hob.1 (v,o) (by simp);have at_:∀(i:Nat) (x:Obj),(h.set m (.many (l1++l2) ((v,h.length) :: ts))++[o.obj])[i]?=some x->(i=h.length/\x=o.obj)\/(i=m/\x=.many (l1++l2) ((v,h.length) :: ts))\/(i < h.length/\i≠m/\h[i]?=some x):=by
  intro i x hi;rcases Zbb hi with ⟨rfl,rfl⟩ | ⟨hl,hi⟩
  ·exact .inl ⟨hlen,rfl⟩
  ·rcases Zei hi with ⟨rfl,rfl⟩ | ⟨hne,hi⟩
   ·exact .inr (.inl ⟨rfl,rfl⟩)
   ·exact .inr (.inr ⟨by omega,hne,hi⟩)
 have hmem:∀p,p∈l1++l2->p∈l1++(v,o) :: l2:=λp hp=>by
  rcases Yao.1 hp with hp | hp
  ·exact Yao.2 (.inl hp)
  ·exact Yao.2 (.inr (Yad _ hp))
 have hno:∀p∈l1++l2,∀k,bk p.1=some k->bk v≠some k:=λp hp k hk=>by
  rcases Yao.1 hp with hp | hp
  ·exact hpw.2.2 p hp (v,o) Yac k hk
  ·exact λhv=>hcs.1 p hp k hv hk
 refine ⟨hr.same (λi x hi=>?_) (λi j x y k hi hl hj hl' hk hk'=>?_) (λi x k hi hl hk=>?_),le⟩
 ·rcases at_ i x hi with ⟨rfl,rfl⟩ | ⟨rfl,rfl⟩ | ⟨hil,hne,hi⟩
  ·exact ZyL hv0 (Zbt _ _ _)
  ·refine ⟨λp hp=>hob.1 p (hmem p hp),Ybx.2 ⟨hpw.1,hcs.2,λa ha b hb=>hpw.2.2 a ha b (Yad _ hb)⟩,λt ht=>?_⟩;rcases Yav.1 ht with rfl | ht
   ·exact ⟨o.obj,by rw[Yak (by rw[hlen];exact Yax _),hlen];simp,λ_=>Zbt _ _ _⟩
   ·exact (hob.2.2 t ht).le le
  ·exact (hr.obj i x hi).keep le (ZaB.refl _ _) (Zdq (by omega)) (λ_ _=>rfl)
 ·have own:∀(i:Nat) (x:Obj),(h.set m (.many (l1++l2) ((v,h.length) :: ts))++[o.obj])[i]?=some x->x.live=true->Bk x (upf β h.length v i) k->(i=h.length/\bk v=some k)\/(i=m/\∃p∈l1++l2,bk p.1=some k)\/(i < h.length/\i≠m/\h[i]?=some x/\Bk x (β i) k):=by
   intro i x hi hl hk;rcases at_ i x hi with ⟨rfl,rfl⟩ | ⟨rfl,rfl⟩ | ⟨hil,hne,hi⟩
   ·rw[Zbt] at hk;exact .inl ⟨rfl,(Zxt o v k).1 hk⟩
   ·exact .inr (.inl ⟨rfl,hk⟩)
   ·rw[Zdq (by omega)] at hk;exact .inr (.inr ⟨hil,hne,hi,hk⟩)
  have inm:∀p∈l1++(v,o) :: l2,bk p.1=some k->Bk (.many (l1++(v,o) :: l2) ts) (β m) k:=λp hp hk=>⟨p,hp,hk⟩;rcases own i x hi hl hk with ⟨rfl,e1⟩ | ⟨rfl,p,hp,e1⟩ | ⟨hil,hne,hi',e1⟩<;>rcases own j y hj hl' hk' with ⟨rfl,e2⟩ | ⟨rfl,q,hq,e2⟩ | ⟨hjl,hnj,hj',e2⟩
  ·rfl
  ·exact absurd e1 (hno q hq k e2)
  ·have:=hr.sep m j _ y k hm rfl hj' hl' (inm (v,o) (by simp) e1) e2;exact absurd this.symm hnj
  ·exact absurd e2 (hno p hp k e1)
  ·rfl
  ·have:=hr.sep _ j _ y k hm rfl hj' hl' (inm p (hmem p hp) e1) e2;exact absurd this.symm hnj
  ·have:=hr.sep i m x _ k hi' hl hm rfl e1 (inm (v,o) (by simp) e2);exact absurd this hne
  ·have:=hr.sep i _ x _ k hi' hl hm rfl e1 (inm q (hmem q hq) e2);exact absurd this hne
  ·exact hr.sep i j x y k hi' hl hj' hl' e1 e2
 ·rcases at_ i x hi with ⟨rfl,rfl⟩ | ⟨rfl,rfl⟩ | ⟨hil,hne,hi⟩
  ·rw[Zbt] at hk;exact ⟨m,_,hm,rfl,(v,o),by simp,(Zxt o v k).1 hk⟩
  ·obtain ⟨p,hp,e1⟩:=hk;exact ⟨_,_,hm,rfl,p,hmem p hp,e1⟩
  ·rw[Zdq (by omega)] at hk;exact ⟨i,x,hi,hl,hk⟩
theorem ZxB {v:Value} (m:Nat) (l1 l2:List (Value × Ob0)) (o:Ob0) {l:List (Value × Ob0)} {ts:List (Value × Nat)} (hm:h[m]?=some (.many l ts)) (hl:l=l1++(v,o) :: l2) (k:ZaE G (ZBB h.length o) (h.set m (.many (l1++l2) ((v,h.length) :: ts))++[o.obj]) K):ZaE G (.g (.raw v)) h K:=λC w β V u hG hr hd=>by subst hl;obtain ⟨h1,le⟩:=hr.lend hm;simp only[Zaa,ZaW] at hd;have hu:=hd.1;subst hu;have hv0:Zhi V w u o:=(hr.obj m _ hm).1 (u,o) (by simp);obtain ⟨d2,h2,β2,V2,k1,k2,k3,k4,k5⟩:=k C w _ V u hG h1 (ZvS hv0 (Zbt _ _ _) (by rw[Yak (by simp)];simp));exact ⟨d2,h2,β2,V2,k1,k2,k3,le.trans k4,k5⟩
def Zt4:Obj->Ob0->Prop
 | .row xs e sz,.row ys e' sz'=>xs=ys/\e=e'/\sz=sz'
 | .blk cs t,.blk gs t'=>Zh5 cs=some gs/\t=t'
 | _,_=>False
theorem Zt3 {i:Nat} {o:Obj} {z:Ob0} (hz:Zt4 o z) (ho:Zcb h β V w i o):Zhi V w (β i) z:=by
 cases o with
 | row xs e sz =>
  cases z with
  | row ys e' sz'=>obtain ⟨rfl,rfl,rfl⟩:=hz;exact ho
  | blk=>exact hz.elim
 | blk cs t =>
  cases z with
  | row ys e' sz'=>exact hz.elim
  | blk gs t' =>obtain ⟨h1,rfl⟩:=hz;obtain ⟨g,vs,h2,h3,h4⟩:=ho;exact ⟨g,vs,h2,h3,Zhw h1 h4⟩
 | many=>exact hz.elim
 | dead=>exact hz.elim
theorem Zeo {o:Obj} {z:Ob0} (hz:Zt4 o z):o.live=true:=by cases o<;>first | rfl | exact hz.elim
theorem ZlP {o:Obj} {z:Ob0} (hz:Zt4 o z) {v:Value} {k:Nat}:Bk o v k↔bk v=some k:=by cases o<;>first | exact Ybg | exact hz.elim
theorem RelD.hide (hr:RelD C h β V w) {m q:Nat} {l:List (Value × Ob0)} {ts:List (Value × Nat)} {v:Value} {o:Obj} {z:Ob0} (hm:h[m]?=some (.many l ts)) (ht:(v,q)∈ts) (hq:h[q]?=some o) (hz:Zt4 o z) :
  RelD C ((h.set m (.many (l++[(v,z)]) ts)).set q .dead) β V w/\LeH h β ((h.set m (.many (l++[(v,z)]) ts)).set q .dead) β:=by
 have hml:m < h.length:=(Yaa.1 hm).1;have hql:q < h.length:=(Yaa.1 hq).1;have hmq:m≠q:=λe=>by subst e;rw[hm] at hq;injection hq with hq;subst hq;exact hz
 have le:LeH h β ((h.set m (.many (l++[(v,z)]) ts)).set q .dead) β:=by have a1:LeH h β (h.set m (.many (l++[(v,z)]) ts)) β:=Zcv hm trivial;refine a1.trans (Zcv (o:=o) (by rw[YaR hmq];exact hq) (by cases o<;>trivial))
 have hob:=hr.obj m _ hm;have hv:β q=v:=by obtain ⟨o',ho',hb⟩:=hob.2.2 _ ht;rw[hq] at ho';injection ho' with ho';subst ho';exact hb (Zeo hz)
 have hz0:Zhi V w v z:=by rw[<- hv];exact Zt3 hz (hr.obj q o hq)
 have at_:∀(i:Nat) (x:Obj),((h.set m (.many (l++[(v,z)]) ts)).set q .dead)[i]?=some x->x=.dead\/(i=m/\x=.many (l++[(v,z)]) ts)\/(i≠q/\i≠m/\h[i]?=some x):=by
  intro i x hi;rcases Zei hi with ⟨rfl,rfl⟩ | ⟨hne,hi⟩
  ·exact .inl rfl
  ·rcases Zei hi with ⟨rfl,rfl⟩ | ⟨hne',hi⟩
   ·exact .inr (.inl ⟨rfl,rfl⟩)
   ·exact .inr (.inr ⟨hne,hne',hi⟩)
 have hno:∀p∈l,Zvf p (v,z):=λp hp k hk hvk=>by have h1:Bk (.many l ts) (β m) k:=⟨p,hp,hk⟩;have h2:Bk o (β q) k:=(ZlP hz).2 (by rw[hv];exact hvk);exact hmq (hr.sep m q _ o k hm rfl hq (Zeo hz) h1 h2)
 have own:∀(i:Nat) (x:Obj) (k:Nat),((h.set m (.many (l++[(v,z)]) ts)).set q .dead)[i]?=some x->x.live=true->Bk x (β i) k->(i=m/\((∃p∈l,bk p.1=some k)\/bk v=some k))\/(i≠q/\i≠m/\h[i]?=some x/\Bk x (β i) k):=by
  intro i x k hi hl hk;rcases at_ i x hi with rfl | ⟨rfl,rfl⟩ | ⟨h1,h2,h3⟩
  ·cases hl
  ·obtain ⟨p,hp,e⟩:=hk;rcases Yao.1 hp with hp | hp
   ·exact .inl ⟨rfl,.inl ⟨p,hp,e⟩⟩
   ·rw[Yay] at hp;subst hp;exact .inl ⟨rfl,.inr e⟩
  ·exact .inr ⟨h1,h2,h3,hk⟩
 refine ⟨hr.same (λi x hi=>?_) (λi j x y k hi hl hj hl' hk hk'=>?_) (λi x k hi hl hk=>?_),le⟩
 ·rcases at_ i x hi with rfl | ⟨rfl,rfl⟩ | ⟨h1,h2,h3⟩
  ·trivial
  ·refine ⟨λp hp=>?_,Ybx.2 ⟨hob.2.1,Yb9 _ _,λa ha b hb=>?_⟩,λt ht=>(hob.2.2 t ht).le le⟩
   ·rcases Yao.1 hp with hp | hp
    ·exact hob.1 p hp
    ·rw[Yay] at hp;subst hp;exact hz0
   ·rw[Yay] at hb;subst hb;exact hno a ha
  ·exact (hr.obj i x h3).keep le (ZaB.refl _ _) rfl (λ_ _=>rfl)
 ·have mown:(∃p∈l,bk p.1=some k)\/bk v=some k->(Bk (.many l ts) (β m) k)\/Bk o (β q) k:=λh=>by
   rcases h with h | h
   ·exact .inl h
   ·exact .inr ((ZlP hz).2 (by rw[hv];exact h))
  rcases own i x k hi hl hk with ⟨rfl,e1⟩ | ⟨a1,a2,a3,a4⟩<;>rcases own j y k hj hl' hk' with ⟨rfl,e2⟩ | ⟨b1,b2,b3,b4⟩
  ·rfl
  ·rcases mown e1 with e1 | e1
   ·exact absurd (hr.sep _ j _ y k hm rfl b3 hl' e1 b4).symm b2
   ·exact absurd (hr.sep q j o y k hq (Zeo hz) b3 hl' e1 b4).symm b1
  ·rcases mown e2 with e2 | e2
   ·exact absurd (hr.sep i _ x _ k a3 hl hm rfl a4 e2) a2
   ·exact absurd (hr.sep i q x o k a3 hl hq (Zeo hz) a4 e2) a1
  ·exact hr.sep i j x y k a3 hl b3 hl' a4 b4
 ·rcases own i x k hi hl hk with ⟨rfl,e1 | e1⟩ | ⟨a1,a2,a3,a4⟩
  ·exact ⟨_,_,hm,rfl,e1⟩
  ·exact ⟨q,o,hq,Zeo hz,(ZlP hz).2 (by rw[hv];exact e1)⟩
  ·exact ⟨i,x,a3,hl,a4⟩
theorem Zd2 (m q:Nat) (v:Value) (z:Ob0) {l:List (Value × Ob0)} {ts:List (Value × Nat)} {o:Obj} (hm:h[m]?=some (.many l ts)) (ht:(v,q)∈ts) (hq:h[q]?=some o) (hz:Zt4 o z) (k:ZaE G d ((h.set m (.many (l++[(v,z)]) ts)).set q .dead) K):ZaE G d h K:=λC w β V u hG hr hd=>by obtain ⟨h1,le⟩:=hr.hide hm ht hq hz;obtain ⟨d2,h2,β2,V2,k1,k2,k3,k4,k5⟩:=k C w β V u hG h1 (Zaa.mono le (ZaB.refl _ _) _ _ hd);exact ⟨d2,h2,β2,V2,k1,k2,k3,le.trans k4,k5⟩
theorem ZAV (m:Nat) (e sz:Nat) {l:List (Value × Ob0)} {ts:List (Value × Nat)} (h0:0 < sz) (hm:h[m]?=some (.many l ts)) (k:ZaE G d (h.set m (.many (l++[(.slice none 0 0,.row [] e sz)]) ts)) K):ZaE G d h K:=λC w β V u hG hr hd=>by
 have le:LeH h β (h.set m (.many (l++[(.slice none 0 0,.row [] e sz)]) ts)) β:=Zcv hm trivial;have hob:=hr.obj m _ hm;have nb:∀(k:Nat) (p:Value × Ob0),p∈l++[(.slice none 0 0,.row [] e sz)]->bk p.1=some k->p∈l:=λk p hp hk=>by
  rcases Yao.1 hp with hp | hp
  ·exact hp
  ·rw[Yay] at hp;subst hp;cases hk
 have own:∀(i:Nat) (x:Obj) (k:Nat),(h.set m (.many (l++[(.slice none 0 0,.row [] e sz)]) ts))[i]?=some x->x.live=true->Bk x (β i) k->∃y,h[i]?=some y/\y.live=true/\Bk y (β i) k:=by
  intro i x k hi hl hk;rcases Zei hi with ⟨rfl,rfl⟩ | ⟨hne,hi⟩
  ·obtain ⟨p,hp,e1⟩:=hk;exact ⟨_,hm,rfl,p,nb _ p hp e1,e1⟩
  ·exact ⟨x,hi,hl,hk⟩
 have h1:RelD C (h.set m (.many (l++[(.slice none 0 0,.row [] e sz)]) ts)) β V w:=by
  refine hr.same (λi x hi=>?_) (λi j x y k hi hl hj hl' hk hk'=>?_) (λi x k hi hl hk=>?_)
  ·rcases Zei hi with ⟨rfl,rfl⟩ | ⟨hne,hi⟩
   ·refine ⟨λp hp=>?_,Ybx.2 ⟨hob.2.1,Yb9 _ _,λa ha b hb=>?_⟩,λt ht=>(hob.2.2 t ht).le le⟩
    ·rcases Yao.1 hp with hp | hp
     ·exact hob.1 p hp
     ·rw[Yay] at hp;subst hp;exact ⟨[],World.ownsRow_nil w 0 e sz,trivial,λr hr=>by simp at hr,h0⟩
    ·rw[Yay] at hb;subst hb;intro k _ hk;cases hk
   ·exact (hr.obj i x hi).keep le (ZaB.refl _ _) rfl (λ_ _=>rfl)
  ·obtain ⟨x',a1,a2,a3⟩:=own i x k hi hl hk;obtain ⟨y',b1,b2,b3⟩:=own j y k hj hl' hk';exact hr.sep i j x' y' k a1 a2 b1 b2 a3 b3
  ·obtain ⟨x',a1,a2,a3⟩:=own i x k hi hl hk;exact ⟨i,x',a1,a2,a3⟩
 obtain ⟨d2,h2,β2,V2,k1,k2,k3,k4,k5⟩:=k C w β V u hG h1 (Zaa.mono le (ZaB.refl _ _) _ _ hd);exact ⟨d2,h2,β2,V2,k1,k2,k3,le.trans k4,k5⟩
def Zhu:List D->List D
 | []=>[]
 | .nils :: l=>.g (.raw (.slice none 0 0)) :: Zhu l
 | d :: l=>d :: Zhu l
theorem Zjm:∀{ds:List D} {vs:List Value},Zac h β V w ds vs->Zac h β V w (Zhu ds) vs
 | [],vs,hr=>hr
 | d :: ds,vs,hr=>by
  simp only[Zac] at hr;obtain ⟨v,us,rfl,h1,h2⟩:=hr;have h3:=Zjm h2;cases d<;>first | (simp only[Zhu,Zac];exact ⟨_,_,rfl,h1,h3⟩) | skip
  simp only[Zhu,Zac];refine ⟨_,_,rfl,?_,h3⟩;simp only[Zaa] at h1;subst h1;simp only[Zaa,ZaW];exact ⟨trivial,rfl,rfl⟩
theorem ZAU {cs:List D} (k:ZaE G (.agg (Zhu cs)) h K):ZaE G (.agg cs) h K:=ZAW (λβ V w v hr=>by
 simp only[Zaa] at hr ⊢;obtain ⟨us,hv,h1⟩:=hr;exact ⟨us,hv,Zjm h1⟩) k
theorem ZAY {q n:Nat} {xs:List (List GV)} {e sz:Nat} (hq:h[q]?=some (.row xs e sz)) (hn:n<=xs.length) (k:ZaE G (.row h.length) (h.set q .dead++[.row (xs.take n) e sz]) K):ZaE G (.rs q 0 n) h K:=λC w β V u hG hr hd=>by
 simp only[Zaa,hq] at hd;obtain ⟨_,A,mm,cap,hb,hu⟩:=hd;obtain ⟨vs,hown,hv,hx,h0⟩:=hr.obj q _ hq;have hql:q < h.length:=(Yaa.1 hq).1;have hpre:w.ownsRow 0 e sz u n (vs.take (n*sz))/\bk u=bk (β q)\/(w.ownsRow 0 e sz u n (vs.take (n*sz))/\bk u=none):=by
  rcases hown.2 with ⟨hnl,hl0⟩ | ⟨g,cap',cur,hbv,q1,q2,q3,q4,q5,q6⟩
  ·rw[hnl] at hb;injection hb with e1 e2 e3;subst e1;subst e3;have hn0:n=0:=by omega
   subst hn0;rw[hu];exact .inr ⟨by simpa using World.ownsRow_nil w 0 e sz,by simp[bk]⟩
  ·rw[hbv] at hb;injection hb with e1 e2 e3;subst e1;subst e3;have hu':u=.slice (some ⟨g,0,none⟩) n cap':=by
    rw[hu];by_cases hc:cap'=0
    ·simp[hc]
    ·simp[hc,Addr.add]
   have hl:=hown.1;have hmul:n*sz<=xs.length*sz:=YaQ _ hn;rw[hu',hbv];refine .inl ⟨⟨by rw[Yan];omega,.inr ⟨g,cap',cur,rfl,q1,q2,by omega,q4,q5,?_⟩⟩,rfl⟩;rw[<- q6,YbS,Ybb hmul]
 have hown':w.ownsRow 0 e sz u n (vs.take (n*sz)):=by rcases hpre with h | h<;>exact h.1
 have hbk:∀k,bk u=some k->bk (β q)=some k:=λk hk=>by
  rcases hpre with h | h
  ·rw[<- h.2];exact hk
  ·rw[h.2] at hk;cases hk
 have htf:∀(ys:List (List GV)) (n:Nat),(∀r∈ys,r.length=sz)->(ys.take n).flatten=ys.flatten.take (n*sz):=by
  intro ys
  induction ys with
  | nil=>intro n _;simp
  | cons y ys ih =>
   intro n hy;cases n with
   | zero=>simp
   | succ n =>have hyl:=hy y Yac;have hd:y.take ((n+1)*sz)=y:=YaJ (by rw[hyl,YaY];omega);rw[List.take_succ_cons,List.flatten_cons,List.flatten_cons,Ybu,hd,hyl,YaY,Ya8,ih n (λr hr=>hy r (Yad _ hr))]
 have le:=Zo4 h β q (.row (xs.take n) e sz) u;have h1:RelD C (h.set q .dead++[.row (xs.take n) e sz]) (upf β h.length u) V w:=by
  refine hr.upd (G:=λ_=>False) (Fr.refl _ w) h.length (.row (xs.take n) e sz) (by rw[Yak (by simp)];simp) (λj o hj ho hl=>?_) le (λk hk=>hk.elim) (λhm=>?_) (λk hk=>?_)
  ·rcases Zbb ho with ⟨rfl,rfl⟩ | ⟨hjl,ho⟩
   ·simp at hj
   ·rcases Zei ho with ⟨rfl,rfl⟩ | ⟨hne,ho⟩
    ·cases hl
    ·exact ⟨ho,Zdq hj,λ_ _ h=>h⟩
  ·refine ⟨vs.take (n*sz),?_,?_,λr hr=>hx r (YaH hr),h0⟩
   ·rw[Zbt,Yan,Ybb hn];exact hown'
   ·rw[htf xs n hx];exact hv.take _
  ·rw[Zbt] at hk;refine .inr ⟨q,_,hq,rfl,hbk k hk,.inr (λo' ho'=>?_)⟩;rw[Yaj (by simpa using hql)] at ho';simp[hql] at ho';subst ho';rfl
 obtain ⟨d2,h2,β2,V2,k1,k2,k3,k4,k5⟩:=k C w _ V u hG h1 (by
  simp only[Zaa];rw[Yak (by simp)];simp only[Ybd,Ybk,List.getElem?_cons_zero];exact (Zbt _ _ _).symm)
 exact ⟨d2,h2,β2,V2,k1,k2,k3,le.trans k4,k5⟩
theorem RelD.recell (hr:RelD C h β V w) {j:Nat} {cs cs':List D} {t:TypeId} (hj:h[j]?=some (.blk cs t)) (hc:∀g vs,β j=.pointer (some ⟨g,0,none⟩)->w.heap[g]?=some (.cells ⟨vs⟩ t (0,0))->Zac h β V w cs vs->Zac h β V w cs' vs):RelD C (h.set j (.blk cs' t)) β V w:=by
 have le:LeH h β (h.set j (.blk cs' t)) β:=Zcv hj trivial;have own:∀(i:Nat) (x:Obj) (k:Nat),(h.set j (.blk cs' t))[i]?=some x->x.live=true->Bk x (β i) k->∃y,h[i]?=some y/\y.live=true/\Bk y (β i) k:=by
  intro i x k hi hl hk;rcases Zei hi with ⟨rfl,rfl⟩ | ⟨hne,hi⟩
  ·exact ⟨_,hj,rfl,hk⟩
  ·exact ⟨x,hi,hl,hk⟩
 refine hr.same (λi x hi=>?_) (λi j x y k hi hl hj hl' hk hk'=>?_) (λi x k hi hl hk=>?_)
 ·rcases Zei hi with ⟨rfl,rfl⟩ | ⟨hne,hi⟩
  ·obtain ⟨g,vs,h1,h2,h3⟩:=hr.obj _ _ hj;exact ⟨g,vs,h1,h2,Zac.mono le (ZaB.refl _ _) _ _ (hc g vs h1 h2 h3)⟩
  ·exact (hr.obj i x hi).keep le (ZaB.refl _ _) rfl (λ_ _=>rfl)
 ·obtain ⟨x',a1,a2,a3⟩:=own i x k hi hl hk;obtain ⟨y',b1,b2,b3⟩:=own j y k hj hl' hk';exact hr.sep i j x' y' k a1 a2 b1 b2 a3 b3
 ·obtain ⟨x',a1,a2,a3⟩:=own i x k hi hl hk;exact ⟨i,x',a1,a2,a3⟩
theorem Zmd {cs:List D} {vs:List Value} (hr:Zac h β V w cs vs) {off:Nat} {d:D} (hc:cs[off]?=some d):∃v,vs[off]?=some v/\Zaa h β V w d v:=hr.get hc
theorem Zmc {cs:List D} {vs:List Value} (hr:Zac h β V w cs vs) {off:Nat} {v:Value} (hv:vs[off]?=some v) {d':D} (hd:Zaa h β V w d' v):Zac h β V w (cs.set off d') vs:=by
 have e:vs.set off v=vs:=by
  apply YbD;intro i;rw[YbP];by_cases hi:off=i
  ·subst hi;have hl:off < vs.length:=(Yaa.1 hv).1;simp[hl,(List.getElem?_eq_some_iff.1 hv).2]
  ·simp[hi]
 have:=hr.set off hd;rwa [e] at this
theorem Ztx {g g':Nat} (h:Value.pointer (some ⟨g,0,none⟩)=Value.pointer (some ⟨g',0,none⟩)):g=g':=by injection h with h;injection h with h;injection h with h
theorem ZnV {vs vs':List Value} {t t':TypeId} {g:Nat} (h1:w.heap[g]?=some (.cells ⟨vs⟩ t (0,0))) (h2:w.heap[g]?=some (.cells ⟨vs'⟩ t' (0,0))):vs=vs':=by rw[h1] at h2;injection h2 with h2;injection h2 with h2;injection h2 with h2
theorem Zqs (j off q n:Nat) {cs:List D} {t:TypeId} {xs:List (List GV)} {e sz:Nat} (hj:h[j]?=some (.blk cs t)) (hc:cs[off]?=some (.rs q 0 n)) (hq:h[q]?=some (.row xs e sz)) (hn:n<=xs.length)
  (k:ZaE G d ((h.set q .dead++[Obj.row (xs.take n) e sz]).set j (.blk (cs.set off (.row h.length)) t)) K):ZaE G d h K:=λC w β V u hG hr hd=>by
 have hjl:j < h.length:=(Yaa.1 hj).1;have hqj:q≠j:=λe'=>by subst e';rw[hq] at hj;cases hj
 obtain ⟨g,vs,b1,b2,b3⟩:=hr.obj j _ hj;obtain ⟨v,c1,c2⟩:=Zmd b3 hc;have key:ZaE G (.rs q 0 n) h (λd' h'=>d'=D.row h.length/\h'=h.set q .dead++[Obj.row (xs.take n) e sz]):=ZAY hq hn (Ze2 ⟨rfl,rfl⟩);obtain ⟨d',h',β',V',⟨rfl,rfl⟩,k2,k3,k4,k5⟩:=key C w β V v hG hr c2;have hj':(h.set q .dead++[Obj.row (xs.take n) e sz])[j]?=some (.blk cs t):=by rw[Yaj (by simpa using hjl),YaR hqj];exact hj
 have hb':β' j=β j:=by obtain ⟨o',p1,p2,p3⟩:=k4 j _ hj;rw[hj'] at p1;injection p1 with p1;subst p1;exact p3 rfl
 have h3:RelD C ((h.set q .dead++[Obj.row (xs.take n) e sz]).set j (.blk (cs.set off (.row h.length)) t)) β' V' w :=
  k2.recell hj' (λg' vs' p1 p2 p3=>by
   have eg:g'=g:=Ztx (by rw[<- p1,hb',b1]);subst eg;have ev:=ZnV p2 b2;subst ev;exact Zmc p3 c1 k3)
 have le:LeH (h.set q .dead++[Obj.row (xs.take n) e sz]) β' ((h.set q .dead++[Obj.row (xs.take n) e sz]).set j (.blk (cs.set off (.row h.length)) t)) β':=Zcv hj' trivial;obtain ⟨d2,h2,β2,V2,l1,l2,l3,l4,l5⟩:=k C w β' V' u hG h3 (Zaa.mono (k4.trans le) k5 _ _ hd);exact ⟨d2,h2,β2,V2,l1,l2,l3,(k4.trans le).trans l4,k5.trans l5⟩
theorem Zy2 (j off m q:Nat) {cs:List D} {t:TypeId} {l:List (Value × Ob0)} {ts:List (Value × Nat)} {xs:List (List GV)} {e sz:Nat} (hj:h[j]?=some (.blk cs t)) (hc:cs[off]?=some (.row q)) (hm:h[m]?=some (.many l ts)) (hq:h[q]?=some (.row xs e sz))
  (k:∀v:Value,ZaE G d ((h.set m (.many l ((v,q) :: ts))).set j (.blk (cs.set off (.g (.raw v))) t)) K):ZaE G d h K:=λC w β V u hG hr hd=>by
 have hmj:m≠j:=λe'=>by subst e';rw[hm] at hj;cases hj
 obtain ⟨g,vs,b1,b2,b3⟩:=hr.obj j _ hj;obtain ⟨v,c1,c2⟩:=Zmd b3 hc;have key:ZaE G (.row q) h (λd' h'=>∃v',d'=D.g (.raw v')/\h'=h.set m (Obj.many l ((v',q) :: ts))):=ZkQ m q hm hq (λv'=>Ze2 ⟨v',rfl,rfl⟩);obtain ⟨d',h',β',V',⟨v',rfl,rfl⟩,k2,k3,k4,k5⟩:=key C w β V v hG hr c2;have hj':(h.set m (.many l ((v',q) :: ts)))[j]?=some (.blk cs t):=by rw[YaR hmj];exact hj
 have hb':β' j=β j:=by obtain ⟨o',p1,p2,p3⟩:=k4 j _ hj;rw[hj'] at p1;injection p1 with p1;subst p1;exact p3 rfl
 have h3:RelD C ((h.set m (.many l ((v',q) :: ts))).set j (.blk (cs.set off (.g (.raw v'))) t)) β' V' w :=
  k2.recell hj' (λg' vs' p1 p2 p3=>by
   have eg:g'=g:=Ztx (by rw[<- p1,hb',b1]);subst eg;have ev:=ZnV p2 b2;subst ev;exact Zmc p3 c1 k3)
 have le:LeH (h.set m (.many l ((v',q) :: ts))) β' ((h.set m (.many l ((v',q) :: ts))).set j (.blk (cs.set off (.g (.raw v'))) t)) β':=Zcv hj' trivial;obtain ⟨d2,h2,β2,V2,l1,l2,l3,l4,l5⟩:=k v' C w β' V' u hG h3 (Zaa.mono (k4.trans le) k5 _ _ hd);exact ⟨d2,h2,β2,V2,l1,l2,l3,(k4.trans le).trans l4,k5.trans l5⟩
theorem ZiO (m:Nat) (l1 l2:List (Value × Ob0)) (p:Value × Ob0) {l:List (Value × Ob0)} {ts:List (Value × Nat)} (hm:h[m]?=some (.many l ts)) (hl:l=l1++p :: l2) (k:ZaE G d (h.set m (.many (l1++l2) ts)) K):ZaE G d h K:=λC w β V u hG hr hd=>by
 subst hl;have le:LeH h β (h.set m (.many (l1++l2) ts)) β:=Zcv hm trivial;have hob:=hr.obj m _ hm;have hpw:=Ybx.1 hob.2.1;have hcs:=List.pairwise_cons.1 hpw.2.1;have hmem:∀q,q∈l1++l2->q∈l1++p :: l2:=λq hq=>by
  rcases Yao.1 hq with hq | hq
  ·exact Yao.2 (.inl hq)
  ·exact Yao.2 (.inr (Yad _ hq))
 have own:∀(i:Nat) (x:Obj) (k:Nat),(h.set m (.many (l1++l2) ts))[i]?=some x->x.live=true->Bk x (β i) k->∃y,h[i]?=some y/\y.live=true/\Bk y (β i) k:=by
  intro i x k hi hl hk;rcases Zei hi with ⟨rfl,rfl⟩ | ⟨hne,hi⟩
  ·obtain ⟨q,hq,e1⟩:=hk;exact ⟨_,hm,rfl,q,hmem q hq,e1⟩
  ·exact ⟨x,hi,hl,hk⟩
 have h1:RelD C (h.set m (.many (l1++l2) ts)) β V w:=by
  refine hr.same (λi x hi=>?_) (λi j x y k hi hl hj hl' hk hk'=>?_) (λi x k hi hl hk=>?_)
  ·rcases Zei hi with ⟨rfl,rfl⟩ | ⟨hne,hi⟩
   ·exact ⟨λq hq=>hob.1 q (hmem q hq),Ybx.2 ⟨hpw.1,hcs.2,λa ha b hb=>hpw.2.2 a ha b (Yad _ hb)⟩,λt ht=>(hob.2.2 t ht).le le⟩
   ·exact (hr.obj i x hi).keep le (ZaB.refl _ _) rfl (λ_ _=>rfl)
  ·obtain ⟨x',a1,a2,a3⟩:=own i x k hi hl hk;obtain ⟨y',b1,b2,b3⟩:=own j y k hj hl' hk';exact hr.sep i j x' y' k a1 a2 b1 b2 a3 b3
  ·obtain ⟨x',a1,a2,a3⟩:=own i x k hi hl hk;exact ⟨i,x',a1,a2,a3⟩
 obtain ⟨d2,h2,β2,V2,k1,k2,k3,k4,k5⟩:=k C w β V u hG h1 (Zaa.mono le (ZaB.refl _ _) _ _ hd);exact ⟨d2,h2,β2,V2,k1,k2,k3,le.trans k4,k5⟩
end
end
section
variable {P:Program} {T:Tab} {F:FuncId->Bool} {G:Gl}
theorem Zru {g:FuncId} {all:List D} {h:Zad} {d:D} {K Qp:KD} (hc:CTR P G g all h d) (hk:K d h):ZbB P G g all h K Qp:=λC w β V vals hG hr hd =>
 (hc C w β V vals hG hr hd).mono λe w' he=>by
  cases e with
  | returned v=>exact ⟨d,h,β,V,hk,he.1,he.2.1,LeH.refl _ _,he.2.2⟩
  | panicked ch=>exact he.elim
  | outgrown=>exact he.elim
def noV:GV->Prop
 | .sl _ _=>False
 | _=>True
theorem ZyN {V V':Nat->Prop} {w w':World} {g:GV} {v:Value} (hn:noV g) (h:ZaW V w g v):ZaW V' w' g v:=by
 cases g<;>first | exact hn.elim | simpa only[ZaW] using h
theorem Zqc {V V':Nat->Prop} {w w':World}:∀{gs:List GV} {vs:List Value},(∀g∈gs,noV g)->Za9 V w gs vs->Za9 V' w' gs vs
 | [],[],_,_=>trivial
 | [],_ :: _,_,h=>h.elim
 | _ :: _,[],_,h=>h.elim
 | g :: _,_ :: _,hn,h=>⟨ZyN (hn g Yac) h.1,Zqc (λg hg=>hn g (Yad _ hg)) h.2⟩
theorem ZmL {g:FuncId} {all as:List D} {h:Zad} {xs:List (List GV)} {e sz:Nat} {K Qp:KD} (hl:ZdX (all.map (conv h [] 4)) as) (hct:CT P G g as (λo=>o=.ret (.row 0) [.row xs e sz])) (hn:∀r∈xs,∀g∈r,noV g) (hk:K (.row h.length) (h++[.row xs e sz])):ZbB P G g all h K Qp:=by
 intro C w β V vals hG hr hd;subst hG;have hck:=ZeK hr (ZcI all);have hargs:Zac [] (Za4 [] β) (Zg3 h (ZcI all) β V) w (all.map (conv h [] 4)) vals:=by refine Zcj (src:=[]) hr (λi=>i∈ZcI all) (λk hk=>.inl hk) (λi o k h1 h2 h3 h4=>.inr ⟨i,o,h1,h2,h3,h4⟩) 4 all vals (λd hd i hi _=>ZhG hd i hi (λj hj=>hj)) hd
 have hargs':Zac [] (λ_=>undef) (Zg3 h (ZcI all) β V) w as vals:=by have:=Znk hl hargs;exact Zac.mono (h':=[]) (λi o hi=>by simp at hi) (ZaB.refl _ _) _ _ this
 refine (hct w _ vals hck.vlt hck.gl hargs').mono λe' w' he=>?_;cases e' with
 | returned v =>
  obtain ⟨d,h',β',V',hq,hrel,hd'⟩:=he;injection hq with e1 e2;subst e1;subst e2;obtain ⟨vs,hown,hv,hx,h0⟩:=hrel.obj 0 _ rfl;have hrel2:RelD ⟨w,λ_=>False,V,C.G⟩ [.row xs e sz] β' V w':=by
   have hm:ZaB V w V w':=λk hk=>⟨hk,hrel.fr.block k (hr.vlt k hk) (λh=>h)⟩;refine ⟨λi o hi=>?_,hrel.sep,hrel.mine,λi o k hi hl hk hv=>hrel.vout i o k hi hl hk (hrel.vin k (.inl hv)),λk hk=>hrel.vlt k (hrel.vin k (.inl hk)),λk hk=>hk,λk hk=>.inl hk,hrel.fr,hr.gl.move hm⟩;cases i with
   | zero =>simp at hi;subst hi;exact ⟨vs,hown,Zqc (λg hg=>by obtain ⟨r,hr,hgr⟩:=List.mem_flatten.1 hg;exact hn r hr g hgr) hv,hx,h0⟩
   | succ i=>simp at hi
  have hj:=ZhZ hr hrel2;refine ⟨.row h.length,h++[.row xs e sz],_,V,hk,hj,?_,ZlO _ _ _ _,λk hk=>⟨hk,hrel.fr.block k (hr.vlt k hk) (λh=>h)⟩⟩;have:=ZpS (h:=h) (β:=β) (V:=V) 4 (.row 0) v (by simpa only[Zaa] using hd':Zaa [.row xs e sz] β' V w' (.row 0) v);simpa [sh,shO] using this
 | panicked ch =>
  obtain ⟨d,t,u,β',V',rfl,hq,_⟩:=he;cases hq
 | outgrown=>exact he.elim
theorem Zee {g:FuncId} {all:List D} {h:Zad} {K Qp:KD} {hin:Zad} {as:List D} {Q:Out->Prop} {b:Nat} (σ:List Nat) (hg:fnOk P g=true) (hcl:Zgw h σ all=true) (hbk:Nat.ble b σ.length=true) (ht:TurnTo h (σ.map .old) all hin as) (hc:CTH P G g b hin as Q)
  (hk:∀d h',Q (.ret d h')->K (rnD (rnI σ b h.length) 4 d) (Zhv h σ b h')) (hp:∀d h',Q (.panH d h')->Qp (rnD (rnI σ b h.length) 4 d) (Zhv h σ b h')):fnOk P g=true/\(Zb7 P G g all h K Qp\/ZbB P G g all h K Qp) :=
 ⟨hg,.inl ⟨σ,b,hin,as,Q,hcl,hbk,ht,hc,hk,hp⟩⟩
end
end Go.Dm
