/-
  The second engine: steps that turn nothing but what is said of memory; calls told by what they do; functions that are entered with memory laid away. It holds of every program.
-/
import Derived.Test.YtjkplhnbiejefaaDoorDa4
namespace Go.Dm
open Go Go.Eng Go.RowKit

section
variable {C:Ctx} {h h':Heap} {β β':Nat→Value} {V:Nat→Prop} {w:World}

theorem RelD.same (hr:RelD C h β V w) (hobj:∀ (i:Nat) (o:Obj),h'[i]?=some o→ObjOk h' β' V w i o)
  (hsep:∀ (i j:Nat) (o o':Obj) (k:Nat),h'[i]?=some o→o.live=true→h'[j]?=some o'→o'.live=true→Bk o (β' i) k→Bk o' (β' j) k→i=j)
  (hin:∀ (i:Nat) (o:Obj) (k:Nat),h'[i]?=some o→o.live=true→Bk o (β' i) k→∃ j o',h[j]?=some o'∧o'.live=true∧Bk o' (β j) k):RelD C h' β' V w:=by
 refine ⟨hobj,hsep,fun i o k hi hl hk=>?_,fun i o k hi hl hk=>?_,hr.vlt,hr.vin,hr.vnew,hr.fr,hr.gl⟩
 ·obtain ⟨j,o',h1,h2,h3⟩:=hin i o k hi hl hk
  exact hr.mine j o' k h1 h2 h3
 ·obtain ⟨j,o',h1,h2,h3⟩:=hin i o k hi hl hk
  exact hr.vout j o' k h1 h2 h3

def Ob0.obj:Ob0→Obj
 | .row xs e sz=>.row xs e sz
 | .blk cs t=>.blk (cs.map .g) t
def refO (i:Nat):Ob0→D
 | .row _ _ _=>.row i
 | .blk _ _=>.ptr i 0
theorem ob0_obj {v:Value} {o:Ob0} {i:Nat} (ho:Ob0Ok V w v o) (hv:β i=v):ObjOk h β V w i o.obj:=by
 subst hv
 cases o with
 | row xs e sz=>exact ho
 | blk cs t =>
  obtain ⟨g,vs,h1,h2,h3⟩:=ho
  exact ⟨g,vs,h1,h2,(RepDL_g _ _).2 h3⟩
theorem obj_live (o:Ob0):o.obj.live=true:=by cases o<;>rfl
theorem obj_Bk (o:Ob0) (v:Value) (k:Nat):Bk o.obj v k↔bk v=some k:=by cases o<;>exact Iff.rfl
theorem refO_rep {v:Value} {o:Ob0} {i:Nat} (ho:Ob0Ok V w v o) (hv:β i=v) (hi:h[i]?=some o.obj):RepD h β V w (refO i o) v:=by
 cases o with
 | row xs e sz=>simp only[refO,RepD,hi,Ob0.obj];exact hv.symm
 | blk cs t =>
  obtain ⟨g,vs,h1,h2,h3⟩:=ho
  simp only[refO,RepD,hi,Ob0.obj]
  exact ⟨g,hv.trans h1,h1⟩

section
variable {G:Gl} {d:D} {K:KD}
theorem ghNo (k:K d h):GhostTo G d h K:=fun _ _ β V _ _ hr hd=>⟨d,h,β,V,k,hr,hd,LeH.refl _ _,Moved.refl _ _⟩
theorem ghThen {K':KD} (k:GhostTo G d h K') (hk:∀ d' h',K' d' h'→GhostTo G d' h' K):GhostTo G d h K:=fun C w β V v hG hr hd=>by
 obtain ⟨d1,h1,β1,V1,k1,k2,k3,k4,k5⟩:=k C w β V v hG hr hd
 obtain ⟨d2,h2,β2,V2,l1,l2,l3,l4,l5⟩:=hk d1 h1 k1 C w β1 V1 v hG k2 k3
 exact ⟨d2,h2,β2,V2,l1,l2,l3,k4.trans l4,k5.trans l5⟩
theorem ghLike {d':D} (hl:∀ (β:Nat→Value) (V:Nat→Prop) (w:World) (v:Value),RepD h β V w d v→RepD h β V w d' v) (k:GhostTo G d' h K):GhostTo G d h K:=fun C w β V v hG hr hd=>k C w β V v hG hr (hl β V w v hd)
theorem ghEq {h2:Heap} (e:h=h2) (k:GhostTo G d h2 K):GhostTo G d h K:=by subst e;exact k

theorem set_at {m i:Nat} {o o':Obj} (hi:(h.set m o)[i]?=some o'):(i=m∧o'=o)∨(i≠m∧h[i]?=some o'):=by
 by_cases e:i=m
 ·subst e
  have hl:i < h.length:=by have:=(List.getElem?_eq_some_iff.1 hi).1;simpa using this
  rw[List.getElem?_set_self hl] at hi
  injection hi with hi
  exact .inl ⟨rfl,hi.symm⟩
 ·rw[List.getElem?_set_ne (fun e'=>e e'.symm)] at hi
  exact .inr ⟨e,hi⟩
theorem snoc_at {i:Nat} {o o':Obj} (hi:(h++[o])[i]?=some o'):(i=h.length∧o'=o)∨(i < h.length∧h[i]?=some o'):=by
 by_cases e:i < h.length
 ·rw[List.getElem?_append_left e] at hi;exact .inr ⟨e,hi⟩
 ·rw[List.getElem?_append_right (by omega)] at hi
  have hl:=(List.getElem?_eq_some_iff.1 hi).1
  simp at hl
  have:i=h.length:=by omega
  subst this
  simp at hi
  exact .inl ⟨rfl,hi.symm⟩

theorem RelD.tags (hr:RelD C h β V w) {m:Nat} {l l':List (Value × Ob0)} {ts ts':List (Value × Nat)} (hm:h[m]?=some (.many l ts)) (hp:l.Perm l') (ht:∀ t∈ts',t∈ts∨TagOk h β t):RelD C (h.set m (.many l' ts')) β V w:=by
 have le:LeH h β (h.set m (.many l' ts')) β:=le_set hm trivial
 have hob:=hr.obj m _ hm
 refine hr.same (fun i o hi=>?_) (fun i j o o' k hi hl hj hl' hk hk'=>?_) (fun i o k hi hl hk=>?_)
 ·rcases set_at hi with ⟨rfl,rfl⟩ | ⟨hne,hi⟩
  ·refine ⟨fun p hp'=>hob.1 p (hp.mem_iff.2 hp'),(hp.pairwise_iff (fun h=>h.symm)).1 hob.2.1,fun t ht'=>?_⟩
   rcases ht t ht' with h1 | h1
   ·exact (hob.2.2 t h1).le le
   ·exact h1.le le
  ·exact (hr.obj i o hi).keep le (Moved.refl _ _) rfl (fun _ _=>rfl)
 ·have key:∀ (i:Nat) (o:Obj) (k:Nat),(h.set m (.many l' ts'))[i]?=some o→Bk o (β i) k→o.live=true→∃ o0,h[i]?=some o0∧o0.live=true∧Bk o0 (β i) k:=by
   intro i o k hi hk hl
   rcases set_at hi with ⟨rfl,rfl⟩ | ⟨hne,hi⟩
   ·obtain ⟨p,h1,h2⟩:=hk
    exact ⟨_,hm,rfl,p,hp.mem_iff.2 h1,h2⟩
   ·exact ⟨o,hi,hl,hk⟩
  obtain ⟨o1,a1,a2,a3⟩:=key i o k hi hk hl
  obtain ⟨o2,b1,b2,b3⟩:=key j o' k hj hk' hl'
  exact hr.sep i j o1 o2 k a1 a2 b1 b2 a3 b3
 ·rcases set_at hi with ⟨rfl,rfl⟩ | ⟨hne,hi⟩
  ·obtain ⟨p,h1,h2⟩:=hk
   exact ⟨_,_,hm,rfl,p,hp.mem_iff.2 h1,h2⟩
  ·exact ⟨i,o,hi,hl,hk⟩

theorem ghTag {v:Value} (m q:Nat) {l:List (Value × Ob0)} {ts:List (Value × Nat)} {xs:List (List GV)} {e sz:Nat} (hm:h[m]?=some (.many l ts)) (ht:(v,q)∈ts) (hq:h[q]?=some (.row xs e sz)) (k:GhostTo G (.row q) h K):GhostTo G (.g (.raw v)) h K:=fun C w β V u hG hr hd=>by
 refine k C w β V u hG hr ?_
 obtain ⟨o,ho,hb⟩:=(hr.obj m _ hm).2.2 _ ht
 rw[hq] at ho
 injection ho with ho
 subst ho
 simp only[RepD,RepV] at hd
 simp only[RepD,hq]
 exact hd.1.trans (hb rfl).symm
theorem ghTagB {v:Value} (m q:Nat) {l:List (Value × Ob0)} {ts:List (Value × Nat)} {cs:List D} {t:TypeId} (hm:h[m]?=some (.many l ts)) (ht:(v,q)∈ts) (hq:h[q]?=some (.blk cs t)) (k:GhostTo G (.ptr q 0) h K):GhostTo G (.g (.raw v)) h K:=fun C w β V u hG hr hd=>by
 refine k C w β V u hG hr ?_
 obtain ⟨o,ho,hb⟩:=(hr.obj m _ hm).2.2 _ ht
 rw[hq] at ho
 injection ho with ho
 subst ho
 obtain ⟨g,vs,h1,_⟩:=hr.obj q _ hq
 simp only[RepD,RepV] at hd
 simp only[RepD,hq]
 exact ⟨g,h1,hd.1.trans ((hb rfl).symm.trans h1)⟩
theorem ghName (m q:Nat) {l:List (Value × Ob0)} {ts:List (Value × Nat)} {xs:List (List GV)} {e sz:Nat} (hm:h[m]?=some (.many l ts)) (hq:h[q]?=some (.row xs e sz)) (k:∀ v:Value,GhostTo G (.g (.raw v)) (h.set m (.many l ((v,q) :: ts))) K):GhostTo G (.row q) h K:=fun C w β V u hG hr hd=>by
 have hd':=hd
 simp only[RepD,hq] at hd
 subst hd
 have h1:=hr.tags (l':=l) (ts':=(β q,q) :: ts) hm (List.Perm.refl _) (fun t ht=>by
  rcases List.mem_cons.1 ht with rfl | ht
  ·exact .inr ⟨_,hq,fun _=>rfl⟩
  ·exact .inl ht)
 obtain ⟨vs,hown,_⟩:=hr.obj q _ hq
 have hone:(β q).oneCell'=true∧cellsL (β q)=[β q]:=by
  rcases hown.2 with ⟨hn,_⟩ | ⟨g,cap,cur,hb,_⟩
  ·rw[hn];exact ⟨rfl,rfl⟩
  ·rw[hb];exact ⟨rfl,rfl⟩
 obtain ⟨d2,h2,β2,V2,l1,l2,l3,l4,l5⟩:=k (β q) C w β V (β q) hG h1 (by simp only[RepD,RepV];exact ⟨trivial,hone⟩)
 exact ⟨d2,h2,β2,V2,l1,l2,l3,(le_set hm (o':=.many l ((β q,q) :: ts)) trivial).trans l4,l5⟩
theorem ghNameB (m q:Nat) {l:List (Value × Ob0)} {ts:List (Value × Nat)} {cs:List D} {t:TypeId} (hm:h[m]?=some (.many l ts)) (hq:h[q]?=some (.blk cs t)) (k:∀ v:Value,GhostTo G (.g (.raw v)) (h.set m (.many l ((v,q) :: ts))) K):GhostTo G (.ptr q 0) h K:=fun C w β V u hG hr hd=>by
 obtain ⟨g,vs,hb,hrest⟩:=hr.obj q _ hq
 simp only[RepD,hq] at hd
 obtain ⟨g',hb',hu⟩:=hd
 have e:u=β q:=by rw[hu,hb']
 subst e
 have h1:=hr.tags (l':=l) (ts':=(β q,q) :: ts) hm (List.Perm.refl _) (fun t ht=>by
  rcases List.mem_cons.1 ht with rfl | ht
  ·exact .inr ⟨_,hq,fun _=>rfl⟩
  ·exact .inl ht)
 have hone:(β q).oneCell'=true∧cellsL (β q)=[β q]:=by rw[hb];exact ⟨rfl,rfl⟩
 obtain ⟨d2,h2,β2,V2,l1,l2,l3,l4,l5⟩:=k (β q) C w β V (β q) hG h1 (by simp only[RepD,RepV];exact ⟨trivial,hone⟩)
 exact ⟨d2,h2,β2,V2,l1,l2,l3,(le_set hm (o':=.many l ((β q,q) :: ts)) trivial).trans l4,l5⟩
theorem ghNameN (m q:Nat) {l:List (Value × Ob0)} {ts:List (Value × Nat)} {o:Obj} (ts':Value→List (Value × Nat)) (hm:h[m]?=some (.many l ts)) (hq:h[q]?=some o) (hs:∀ v,∀ t∈ts' v,t∈(v,q) :: ts) (k:∀ v:Value,GhostTo G d (h.set m (.many l (ts' v))) K):GhostTo G d h K:=fun C w β V u hG hr hd=>by
 have h1:=hr.tags (l':=l) (ts':=ts' (β q)) hm (List.Perm.refl _) (fun t ht=>by
  rcases List.mem_cons.1 (hs _ t ht) with rfl | ht
  ·exact .inr ⟨_,hq,fun _=>rfl⟩
  ·exact .inl ht)
 have le:LeH h β (h.set m (.many l (ts' (β q)))) β:=le_set hm trivial
 obtain ⟨d2,h2,β2,V2,l1,l2,l3,l4,l5⟩:=k (β q) C w β V u hG h1 (RepD.mono le (Moved.refl _ _) _ _ hd)
 exact ⟨d2,h2,β2,V2,l1,l2,l3,le.trans l4,l5⟩
theorem ghDrop (m:Nat) {l l':List (Value × Ob0)} {ts:List (Value × Nat)} (ts':List (Value × Nat)) (hm:h[m]?=some (.many l ts)) (hp:l.Perm l') (hs:∀ t∈ts',t∈ts) (k:GhostTo G d (h.set m (.many l' ts')) K):GhostTo G d h K:=fun C w β V u hG hr hd=>by
 have h1:=hr.tags (l':=l') (ts':=ts') hm hp (fun t ht=>.inl (hs t ht))
 have le:LeH h β (h.set m (.many l' ts')) β:=le_set hm trivial
 obtain ⟨d2,h2,β2,V2,l1,l2,l3,l4,l5⟩:=k C w β V u hG h1 (RepD.mono le (Moved.refl _ _) _ _ hd)
 exact ⟨d2,h2,β2,V2,l1,l2,l3,le.trans l4,l5⟩

theorem RelD.lend (hr:RelD C h β V w) {m:Nat} {l1 l2:List (Value × Ob0)} {ts:List (Value × Nat)} {v:Value} {o:Ob0} (hm:h[m]?=some (.many (l1++(v,o) :: l2) ts)) :
  RelD C (h.set m (.many (l1++l2) ((v,h.length) :: ts))++[o.obj]) (upf β h.length v) V w∧LeH h β (h.set m (.many (l1++l2) ((v,h.length) :: ts))++[o.obj]) (upf β h.length v):=by
 have hml:m < h.length:=(List.getElem?_eq_some_iff.1 hm).1
 have hlen:(h.set m (.many (l1++l2) ((v,h.length) :: ts))).length=h.length:=by simp
 have le:LeH h β (h.set m (.many (l1++l2) ((v,h.length) :: ts))++[o.obj]) (upf β h.length v):=by
  have a1:LeH h β (h.set m (.many (l1++l2) ((v,h.length) :: ts))) β:=le_set hm trivial
  have a2:=le_snoc (h.set m (.many (l1++l2) ((v,h.length) :: ts))) β o.obj v
  rw[hlen] at a2
  exact a1.trans a2
 have hob:=hr.obj m _ hm
 have hpw:=List.pairwise_append.1 hob.2.1
 have hcs:=List.pairwise_cons.1 hpw.2.1
 have hv0:Ob0Ok V w v o:=hob.1 (v,o) (by simp)
 have at_:∀ (i:Nat) (x:Obj),(h.set m (.many (l1++l2) ((v,h.length) :: ts))++[o.obj])[i]?=some x→(i=h.length∧x=o.obj)∨(i=m∧x=.many (l1++l2) ((v,h.length) :: ts))∨(i < h.length∧i≠m∧h[i]?=some x):=by
  intro i x hi
  rcases snoc_at hi with ⟨rfl,rfl⟩ | ⟨hl,hi⟩
  ·exact .inl ⟨hlen,rfl⟩
  ·rcases set_at hi with ⟨rfl,rfl⟩ | ⟨hne,hi⟩
   ·exact .inr (.inl ⟨rfl,rfl⟩)
   ·exact .inr (.inr ⟨by omega,hne,hi⟩)
 have hmem:∀ p,p∈l1++l2→p∈l1++(v,o) :: l2:=fun p hp=>by
  rcases List.mem_append.1 hp with hp | hp
  ·exact List.mem_append.2 (.inl hp)
  ·exact List.mem_append.2 (.inr (List.mem_cons_of_mem _ hp))
 have hno:∀ p∈l1++l2,∀ k,bk p.1=some k→bk v≠some k:=fun p hp k hk=>by
  rcases List.mem_append.1 hp with hp | hp
  ·exact hpw.2.2 p hp (v,o) List.mem_cons_self k hk
  ·exact fun hv=>hcs.1 p hp k hv hk
 refine ⟨hr.same (fun i x hi=>?_) (fun i j x y k hi hl hj hl' hk hk'=>?_) (fun i x k hi hl hk=>?_),le⟩
 ·rcases at_ i x hi with ⟨rfl,rfl⟩ | ⟨rfl,rfl⟩ | ⟨hil,hne,hi⟩
  ·exact ob0_obj hv0 (upf_eq _ _ _)
  ·refine ⟨fun p hp=>hob.1 p (hmem p hp),List.pairwise_append.2 ⟨hpw.1,hcs.2,fun a ha b hb=>hpw.2.2 a ha b (List.mem_cons_of_mem _ hb)⟩,fun t ht=>?_⟩
   rcases List.mem_cons.1 ht with rfl | ht
   ·exact ⟨o.obj,by rw[List.getElem?_append_right (by rw[hlen];exact Nat.le_refl _),hlen];simp,fun _=>upf_eq _ _ _⟩
   ·exact (hob.2.2 t ht).le le
  ·exact (hr.obj i x hi).keep le (Moved.refl _ _) (upf_ne (by omega)) (fun _ _=>rfl)
 ·have own:∀ (i:Nat) (x:Obj),(h.set m (.many (l1++l2) ((v,h.length) :: ts))++[o.obj])[i]?=some x→x.live=true→Bk x (upf β h.length v i) k→(i=h.length∧bk v=some k)∨(i=m∧∃ p∈l1++l2,bk p.1=some k)∨(i < h.length∧i≠m∧h[i]?=some x∧Bk x (β i) k):=by
   intro i x hi hl hk
   rcases at_ i x hi with ⟨rfl,rfl⟩ | ⟨rfl,rfl⟩ | ⟨hil,hne,hi⟩
   ·rw[upf_eq] at hk;exact .inl ⟨rfl,(obj_Bk o v k).1 hk⟩
   ·exact .inr (.inl ⟨rfl,hk⟩)
   ·rw[upf_ne (by omega)] at hk;exact .inr (.inr ⟨hil,hne,hi,hk⟩)
  have inm:∀ p∈l1++(v,o) :: l2,bk p.1=some k→Bk (.many (l1++(v,o) :: l2) ts) (β m) k:=fun p hp hk=>⟨p,hp,hk⟩
  rcases own i x hi hl hk with ⟨rfl,e1⟩ | ⟨rfl,p,hp,e1⟩ | ⟨hil,hne,hi',e1⟩<;>rcases own j y hj hl' hk' with ⟨rfl,e2⟩ | ⟨rfl,q,hq,e2⟩ | ⟨hjl,hnj,hj',e2⟩
  ·rfl
  ·exact absurd e1 (hno q hq k e2)
  ·have:=hr.sep m j _ y k hm rfl hj' hl' (inm (v,o) (by simp) e1) e2
   exact absurd this.symm hnj
  ·exact absurd e2 (hno p hp k e1)
  ·rfl
  ·have:=hr.sep _ j _ y k hm rfl hj' hl' (inm p (hmem p hp) e1) e2
   exact absurd this.symm hnj
  ·have:=hr.sep i m x _ k hi' hl hm rfl e1 (inm (v,o) (by simp) e2)
   exact absurd this hne
  ·have:=hr.sep i _ x _ k hi' hl hm rfl e1 (inm q (hmem q hq) e2)
   exact absurd this hne
  ·exact hr.sep i j x y k hi' hl hj' hl' e1 e2
 ·rcases at_ i x hi with ⟨rfl,rfl⟩ | ⟨rfl,rfl⟩ | ⟨hil,hne,hi⟩
  ·rw[upf_eq] at hk
   exact ⟨m,_,hm,rfl,(v,o),by simp,(obj_Bk o v k).1 hk⟩
  ·obtain ⟨p,hp,e1⟩:=hk
   exact ⟨_,_,hm,rfl,p,hmem p hp,e1⟩
  ·rw[upf_ne (by omega)] at hk
   exact ⟨i,x,hi,hl,hk⟩
theorem ghLend {v:Value} (m:Nat) (l1 l2:List (Value × Ob0)) (o:Ob0) {l:List (Value × Ob0)} {ts:List (Value × Nat)} (hm:h[m]?=some (.many l ts)) (hl:l=l1++(v,o) :: l2) (k:GhostTo G (refO h.length o) (h.set m (.many (l1++l2) ((v,h.length) :: ts))++[o.obj]) K):GhostTo G (.g (.raw v)) h K:=fun C w β V u hG hr hd=>by
 subst hl
 obtain ⟨h1,le⟩:=hr.lend hm
 simp only[RepD,RepV] at hd
 have hu:=hd.1
 subst hu
 have hv0:Ob0Ok V w u o:=(hr.obj m _ hm).1 (u,o) (by simp)
 obtain ⟨d2,h2,β2,V2,k1,k2,k3,k4,k5⟩:=k C w _ V u hG h1 (refO_rep hv0 (upf_eq _ _ _) (by rw[List.getElem?_append_right (by simp)];simp))
 exact ⟨d2,h2,β2,V2,k1,k2,k3,le.trans k4,k5⟩

def isOb0:Obj→Ob0→Prop
 | .row xs e sz,.row ys e' sz'=>xs=ys∧e=e'∧sz=sz'
 | .blk cs t,.blk gs t'=>plains cs=some gs∧t=t'
 | _,_=>False
theorem isOb0_rep {i:Nat} {o:Obj} {z:Ob0} (hz:isOb0 o z) (ho:ObjOk h β V w i o):Ob0Ok V w (β i) z:=by
 cases o with
 | row xs e sz =>
  cases z with
  | row ys e' sz'=>obtain ⟨rfl,rfl,rfl⟩:=hz;exact ho
  | blk=>exact hz.elim
 | blk cs t =>
  cases z with
  | row ys e' sz'=>exact hz.elim
  | blk gs t' =>
   obtain ⟨h1,rfl⟩:=hz
   obtain ⟨g,vs,h2,h3,h4⟩:=ho
   exact ⟨g,vs,h2,h3,plains_rep h1 h4⟩
 | many=>exact hz.elim
 | dead=>exact hz.elim
theorem isOb0_live {o:Obj} {z:Ob0} (hz:isOb0 o z):o.live=true:=by cases o<;>first | rfl | exact hz.elim
theorem isOb0_Bk {o:Obj} {z:Ob0} (hz:isOb0 o z) {v:Value} {k:Nat}:Bk o v k↔bk v=some k:=by cases o<;>first | exact Iff.rfl | exact hz.elim
theorem RelD.hide (hr:RelD C h β V w) {m q:Nat} {l:List (Value × Ob0)} {ts:List (Value × Nat)} {v:Value} {o:Obj} {z:Ob0} (hm:h[m]?=some (.many l ts)) (ht:(v,q)∈ts) (hq:h[q]?=some o) (hz:isOb0 o z) :
  RelD C ((h.set m (.many (l++[(v,z)]) ts)).set q .dead) β V w∧LeH h β ((h.set m (.many (l++[(v,z)]) ts)).set q .dead) β:=by
 have hml:m < h.length:=(List.getElem?_eq_some_iff.1 hm).1
 have hql:q < h.length:=(List.getElem?_eq_some_iff.1 hq).1
 have hmq:m≠q:=fun e=>by
  subst e
  rw[hm] at hq
  injection hq with hq
  subst hq
  exact hz
 have le:LeH h β ((h.set m (.many (l++[(v,z)]) ts)).set q .dead) β:=by
  have a1:LeH h β (h.set m (.many (l++[(v,z)]) ts)) β:=le_set hm trivial
  refine a1.trans (le_set (o:=o) (by rw[List.getElem?_set_ne hmq];exact hq) (by cases o<;>trivial))
 have hob:=hr.obj m _ hm
 have hv:β q=v:=by
  obtain ⟨o',ho',hb⟩:=hob.2.2 _ ht
  rw[hq] at ho'
  injection ho' with ho'
  subst ho'
  exact hb (isOb0_live hz)
 have hz0:Ob0Ok V w v z:=by rw[← hv];exact isOb0_rep hz (hr.obj q o hq)
 have at_:∀ (i:Nat) (x:Obj),((h.set m (.many (l++[(v,z)]) ts)).set q .dead)[i]?=some x→x=.dead∨(i=m∧x=.many (l++[(v,z)]) ts)∨(i≠q∧i≠m∧h[i]?=some x):=by
  intro i x hi
  rcases set_at hi with ⟨rfl,rfl⟩ | ⟨hne,hi⟩
  ·exact .inl rfl
  ·rcases set_at hi with ⟨rfl,rfl⟩ | ⟨hne',hi⟩
   ·exact .inr (.inl ⟨rfl,rfl⟩)
   ·exact .inr (.inr ⟨hne,hne',hi⟩)
 have hno:∀ p∈l,Apart p (v,z):=fun p hp k hk hvk=>by
  have h1:Bk (.many l ts) (β m) k:=⟨p,hp,hk⟩
  have h2:Bk o (β q) k:=(isOb0_Bk hz).2 (by rw[hv];exact hvk)
  exact hmq (hr.sep m q _ o k hm rfl hq (isOb0_live hz) h1 h2)
 have own:∀ (i:Nat) (x:Obj) (k:Nat),((h.set m (.many (l++[(v,z)]) ts)).set q .dead)[i]?=some x→x.live=true→Bk x (β i) k→(i=m∧((∃ p∈l,bk p.1=some k)∨bk v=some k))∨(i≠q∧i≠m∧h[i]?=some x∧Bk x (β i) k):=by
  intro i x k hi hl hk
  rcases at_ i x hi with rfl | ⟨rfl,rfl⟩ | ⟨h1,h2,h3⟩
  ·cases hl
  ·obtain ⟨p,hp,e⟩:=hk
   rcases List.mem_append.1 hp with hp | hp
   ·exact .inl ⟨rfl,.inl ⟨p,hp,e⟩⟩
   ·rw[List.mem_singleton] at hp
    subst hp
    exact .inl ⟨rfl,.inr e⟩
  ·exact .inr ⟨h1,h2,h3,hk⟩
 refine ⟨hr.same (fun i x hi=>?_) (fun i j x y k hi hl hj hl' hk hk'=>?_) (fun i x k hi hl hk=>?_),le⟩
 ·rcases at_ i x hi with rfl | ⟨rfl,rfl⟩ | ⟨h1,h2,h3⟩
  ·trivial
  ·refine ⟨fun p hp=>?_,List.pairwise_append.2 ⟨hob.2.1,List.pairwise_singleton _ _,fun a ha b hb=>?_⟩,fun t ht=>(hob.2.2 t ht).le le⟩
   ·rcases List.mem_append.1 hp with hp | hp
    ·exact hob.1 p hp
    ·rw[List.mem_singleton] at hp
     subst hp
     exact hz0
   ·rw[List.mem_singleton] at hb
    subst hb
    exact hno a ha
  ·exact (hr.obj i x h3).keep le (Moved.refl _ _) rfl (fun _ _=>rfl)
 ·have mown:(∃ p∈l,bk p.1=some k)∨bk v=some k→(Bk (.many l ts) (β m) k)∨Bk o (β q) k:=fun h=>by
   rcases h with h | h
   ·exact .inl h
   ·exact .inr ((isOb0_Bk hz).2 (by rw[hv];exact h))
  rcases own i x k hi hl hk with ⟨rfl,e1⟩ | ⟨a1,a2,a3,a4⟩<;>rcases own j y k hj hl' hk' with ⟨rfl,e2⟩ | ⟨b1,b2,b3,b4⟩
  ·rfl
  ·rcases mown e1 with e1 | e1
   ·exact absurd (hr.sep _ j _ y k hm rfl b3 hl' e1 b4).symm b2
   ·exact absurd (hr.sep q j o y k hq (isOb0_live hz) b3 hl' e1 b4).symm b1
  ·rcases mown e2 with e2 | e2
   ·exact absurd (hr.sep i _ x _ k a3 hl hm rfl a4 e2) a2
   ·exact absurd (hr.sep i q x o k a3 hl hq (isOb0_live hz) a4 e2) a1
  ·exact hr.sep i j x y k a3 hl b3 hl' a4 b4
 ·rcases own i x k hi hl hk with ⟨rfl,e1 | e1⟩ | ⟨a1,a2,a3,a4⟩
  ·exact ⟨_,_,hm,rfl,e1⟩
  ·exact ⟨q,o,hq,isOb0_live hz,(isOb0_Bk hz).2 (by rw[hv];exact e1)⟩
  ·exact ⟨i,x,a3,hl,a4⟩
theorem ghHide (m q:Nat) (v:Value) (z:Ob0) {l:List (Value × Ob0)} {ts:List (Value × Nat)} {o:Obj} (hm:h[m]?=some (.many l ts)) (ht:(v,q)∈ts) (hq:h[q]?=some o) (hz:isOb0 o z) (k:GhostTo G d ((h.set m (.many (l++[(v,z)]) ts)).set q .dead) K):GhostTo G d h K:=fun C w β V u hG hr hd=>by
 obtain ⟨h1,le⟩:=hr.hide hm ht hq hz
 obtain ⟨d2,h2,β2,V2,k1,k2,k3,k4,k5⟩:=k C w β V u hG h1 (RepD.mono le (Moved.refl _ _) _ _ hd)
 exact ⟨d2,h2,β2,V2,k1,k2,k3,le.trans k4,k5⟩

theorem ghNil (m:Nat) (e sz:Nat) {l:List (Value × Ob0)} {ts:List (Value × Nat)} (h0:0 < sz) (hm:h[m]?=some (.many l ts)) (k:GhostTo G d (h.set m (.many (l++[(.slice none 0 0,.row [] e sz)]) ts)) K):GhostTo G d h K:=fun C w β V u hG hr hd=>by
 have le:LeH h β (h.set m (.many (l++[(.slice none 0 0,.row [] e sz)]) ts)) β:=le_set hm trivial
 have hob:=hr.obj m _ hm
 have nb:∀ (k:Nat) (p:Value × Ob0),p∈l++[(.slice none 0 0,.row [] e sz)]→bk p.1=some k→p∈l:=fun k p hp hk=>by
  rcases List.mem_append.1 hp with hp | hp
  ·exact hp
  ·rw[List.mem_singleton] at hp
   subst hp
   cases hk
 have own:∀ (i:Nat) (x:Obj) (k:Nat),(h.set m (.many (l++[(.slice none 0 0,.row [] e sz)]) ts))[i]?=some x→x.live=true→Bk x (β i) k→∃ y,h[i]?=some y∧y.live=true∧Bk y (β i) k:=by
  intro i x k hi hl hk
  rcases set_at hi with ⟨rfl,rfl⟩ | ⟨hne,hi⟩
  ·obtain ⟨p,hp,e1⟩:=hk
   exact ⟨_,hm,rfl,p,nb _ p hp e1,e1⟩
  ·exact ⟨x,hi,hl,hk⟩
 have h1:RelD C (h.set m (.many (l++[(.slice none 0 0,.row [] e sz)]) ts)) β V w:=by
  refine hr.same (fun i x hi=>?_) (fun i j x y k hi hl hj hl' hk hk'=>?_) (fun i x k hi hl hk=>?_)
  ·rcases set_at hi with ⟨rfl,rfl⟩ | ⟨hne,hi⟩
   ·refine ⟨fun p hp=>?_,List.pairwise_append.2 ⟨hob.2.1,List.pairwise_singleton _ _,fun a ha b hb=>?_⟩,fun t ht=>(hob.2.2 t ht).le le⟩
    ·rcases List.mem_append.1 hp with hp | hp
     ·exact hob.1 p hp
     ·rw[List.mem_singleton] at hp
      subst hp
      exact ⟨[],World.ownsRow_nil w 0 e sz,trivial,fun r hr=>by simp at hr,h0⟩
    ·rw[List.mem_singleton] at hb
     subst hb
     intro k _ hk
     cases hk
   ·exact (hr.obj i x hi).keep le (Moved.refl _ _) rfl (fun _ _=>rfl)
  ·obtain ⟨x',a1,a2,a3⟩:=own i x k hi hl hk
   obtain ⟨y',b1,b2,b3⟩:=own j y k hj hl' hk'
   exact hr.sep i j x' y' k a1 a2 b1 b2 a3 b3
  ·obtain ⟨x',a1,a2,a3⟩:=own i x k hi hl hk
   exact ⟨i,x',a1,a2,a3⟩
 obtain ⟨d2,h2,β2,V2,k1,k2,k3,k4,k5⟩:=k C w β V u hG h1 (RepD.mono le (Moved.refl _ _) _ _ hd)
 exact ⟨d2,h2,β2,V2,k1,k2,k3,le.trans k4,k5⟩
def rawNils:List D→List D
 | []=>[]
 | .nils :: l=>.g (.raw (.slice none 0 0)) :: rawNils l
 | d :: l=>d :: rawNils l
theorem rawNils_rep:∀ {ds:List D} {vs:List Value},RepDL h β V w ds vs→RepDL h β V w (rawNils ds) vs
 | [],vs,hr=>hr
 | d :: ds,vs,hr=>by
  simp only[RepDL] at hr
  obtain ⟨v,us,rfl,h1,h2⟩:=hr
  have h3:=rawNils_rep h2
  cases d<;>first | (simp only[rawNils,RepDL];exact ⟨_,_,rfl,h1,h3⟩) | skip
  simp only[rawNils,RepDL]
  refine ⟨_,_,rfl,?_,h3⟩
  simp only[RepD] at h1
  subst h1
  simp only[RepD,RepV]
  exact ⟨trivial,rfl,rfl⟩
theorem ghRaw {cs:List D} (k:GhostTo G (.agg (rawNils cs)) h K):GhostTo G (.agg cs) h K:=ghLike (fun β V w v hr=>by
 simp only[RepD] at hr ⊢
 obtain ⟨us,hv,h1⟩:=hr
 exact ⟨us,hv,rawNils_rep h1⟩) k

theorem ghCut {q n:Nat} {xs:List (List GV)} {e sz:Nat} (hq:h[q]?=some (.row xs e sz)) (hn:n≤xs.length) (k:GhostTo G (.row h.length) (h.set q .dead++[.row (xs.take n) e sz]) K):GhostTo G (.rs q 0 n) h K:=fun C w β V u hG hr hd=>by
 simp only[RepD,hq] at hd
 obtain ⟨_,A,mm,cap,hb,hu⟩:=hd
 obtain ⟨vs,hown,hv,hx,h0⟩:=hr.obj q _ hq
 have hql:q < h.length:=(List.getElem?_eq_some_iff.1 hq).1
 have hpre:w.ownsRow 0 e sz u n (vs.take (n*sz))∧bk u=bk (β q)∨(w.ownsRow 0 e sz u n (vs.take (n*sz))∧bk u=none):=by
  rcases hown.2 with ⟨hnl,hl0⟩ | ⟨g,cap',cur,hbv,q1,q2,q3,q4,q5,q6⟩
  ·rw[hnl] at hb
   injection hb with e1 e2 e3
   subst e1;subst e3
   have hn0:n=0:=by omega
   subst hn0
   rw[hu]
   exact .inr ⟨by simpa using World.ownsRow_nil w 0 e sz,by simp[bk]⟩
  ·rw[hbv] at hb
   injection hb with e1 e2 e3
   subst e1;subst e3
   have hu':u=.slice (some ⟨g,0,none⟩) n cap':=by
    rw[hu]
    by_cases hc:cap'=0
    ·simp[hc]
    ·simp[hc,Addr.add]
   have hl:=hown.1
   have hmul:n*sz≤xs.length*sz:=Nat.mul_le_mul_right _ hn
   rw[hu',hbv]
   refine .inl ⟨⟨by rw[List.length_take];omega,.inr ⟨g,cap',cur,rfl,q1,q2,by omega,q4,q5,?_⟩⟩,rfl⟩
   rw[← q6,List.take_take,Nat.min_eq_left hmul]
 have hown':w.ownsRow 0 e sz u n (vs.take (n*sz)):=by rcases hpre with h | h<;>exact h.1
 have hbk:∀ k,bk u=some k→bk (β q)=some k:=fun k hk=>by
  rcases hpre with h | h
  ·rw[← h.2];exact hk
  ·rw[h.2] at hk;cases hk
 have htf:∀ (ys:List (List GV)) (n:Nat),(∀ r∈ys,r.length=sz)→(ys.take n).flatten=ys.flatten.take (n*sz):=by
  intro ys
  induction ys with
  | nil=>intro n _;simp
  | cons y ys ih =>
   intro n hy
   cases n with
   | zero=>simp
   | succ n =>
    have hyl:=hy y List.mem_cons_self
    have hd:y.take ((n+1)*sz)=y:=List.take_of_length_le (by rw[hyl,Nat.succ_mul];omega)
    rw[List.take_succ_cons,List.flatten_cons,List.flatten_cons,List.take_append,hd,hyl,Nat.succ_mul,Nat.add_sub_cancel,ih n (fun r hr=>hy r (List.mem_cons_of_mem _ hr))]
 have le:=le_grow h β q (.row (xs.take n) e sz) u
 have h1:RelD C (h.set q .dead++[.row (xs.take n) e sz]) (upf β h.length u) V w:=by
  refine hr.upd (G:=fun _=>False) (Fr.refl _ w) h.length (.row (xs.take n) e sz) (by rw[List.getElem?_append_right (by simp)];simp) (fun j o hj ho hl=>?_) le (fun k hk=>hk.elim) (fun hm=>?_) (fun k hk=>?_)
  ·rcases snoc_at ho with ⟨rfl,rfl⟩ | ⟨hjl,ho⟩
   ·simp at hj
   ·rcases set_at ho with ⟨rfl,rfl⟩ | ⟨hne,ho⟩
    ·cases hl
    ·exact ⟨ho,upf_ne hj,fun _ _ h=>h⟩
  ·refine ⟨vs.take (n*sz),?_,?_,fun r hr=>hx r (List.mem_of_mem_take hr),h0⟩
   ·rw[upf_eq,List.length_take,Nat.min_eq_left hn];exact hown'
   ·rw[htf xs n hx];exact hv.take _
  ·rw[upf_eq] at hk
   refine .inr ⟨q,_,hq,rfl,hbk k hk,.inr (fun o' ho'=>?_)⟩
   rw[List.getElem?_append_left (by simpa using hql)] at ho'
   simp[hql] at ho'
   subst ho'
   rfl
 obtain ⟨d2,h2,β2,V2,k1,k2,k3,k4,k5⟩:=k C w _ V u hG h1 (by
  simp only[RepD]
  rw[List.getElem?_append_right (by simp)]
  simp only[List.length_set,Nat.sub_self,List.getElem?_cons_zero]
  exact (upf_eq _ _ _).symm)
 exact ⟨d2,h2,β2,V2,k1,k2,k3,le.trans k4,k5⟩
theorem RelD.recell (hr:RelD C h β V w) {j:Nat} {cs cs':List D} {t:TypeId} (hj:h[j]?=some (.blk cs t)) (hc:∀ g vs,β j=.pointer (some ⟨g,0,none⟩)→w.heap[g]?=some (.cells ⟨vs⟩ t (0,0))→RepDL h β V w cs vs→RepDL h β V w cs' vs):RelD C (h.set j (.blk cs' t)) β V w:=by
 have le:LeH h β (h.set j (.blk cs' t)) β:=le_set hj trivial
 have own:∀ (i:Nat) (x:Obj) (k:Nat),(h.set j (.blk cs' t))[i]?=some x→x.live=true→Bk x (β i) k→∃ y,h[i]?=some y∧y.live=true∧Bk y (β i) k:=by
  intro i x k hi hl hk
  rcases set_at hi with ⟨rfl,rfl⟩ | ⟨hne,hi⟩
  ·exact ⟨_,hj,rfl,hk⟩
  ·exact ⟨x,hi,hl,hk⟩
 refine hr.same (fun i x hi=>?_) (fun i j x y k hi hl hj hl' hk hk'=>?_) (fun i x k hi hl hk=>?_)
 ·rcases set_at hi with ⟨rfl,rfl⟩ | ⟨hne,hi⟩
  ·obtain ⟨g,vs,h1,h2,h3⟩:=hr.obj _ _ hj
   exact ⟨g,vs,h1,h2,RepDL.mono le (Moved.refl _ _) _ _ (hc g vs h1 h2 h3)⟩
  ·exact (hr.obj i x hi).keep le (Moved.refl _ _) rfl (fun _ _=>rfl)
 ·obtain ⟨x',a1,a2,a3⟩:=own i x k hi hl hk
  obtain ⟨y',b1,b2,b3⟩:=own j y k hj hl' hk'
  exact hr.sep i j x' y' k a1 a2 b1 b2 a3 b3
 ·obtain ⟨x',a1,a2,a3⟩:=own i x k hi hl hk
  exact ⟨i,x',a1,a2,a3⟩
theorem cell_rep {cs:List D} {vs:List Value} (hr:RepDL h β V w cs vs) {off:Nat} {d:D} (hc:cs[off]?=some d):∃ v,vs[off]?=some v∧RepD h β V w d v:=hr.get hc
theorem cell_set {cs:List D} {vs:List Value} (hr:RepDL h β V w cs vs) {off:Nat} {v:Value} (hv:vs[off]?=some v) {d':D} (hd:RepD h β V w d' v):RepDL h β V w (cs.set off d') vs:=by
 have e:vs.set off v=vs:=by
  apply List.ext_getElem?
  intro i
  rw[List.getElem?_set]
  by_cases hi:off=i
  ·subst hi
   have hl:off < vs.length:=(List.getElem?_eq_some_iff.1 hv).1
   simp[hl,(List.getElem?_eq_some_iff.1 hv).2]
  ·simp[hi]
 have:=hr.set off hd
 rwa [e] at this
theorem ptr_inj {g g':Nat} (h:Value.pointer (some ⟨g,0,none⟩)=Value.pointer (some ⟨g',0,none⟩)):g=g':=by
 injection h with h
 injection h with h
 injection h with h
theorem cells_inj {vs vs':List Value} {t t':TypeId} {g:Nat} (h1:w.heap[g]?=some (.cells ⟨vs⟩ t (0,0))) (h2:w.heap[g]?=some (.cells ⟨vs'⟩ t' (0,0))):vs=vs':=by
 rw[h1] at h2
 injection h2 with h2
 injection h2 with h2
 injection h2 with h2
theorem ghCutB (j off q n:Nat) {cs:List D} {t:TypeId} {xs:List (List GV)} {e sz:Nat} (hj:h[j]?=some (.blk cs t)) (hc:cs[off]?=some (.rs q 0 n)) (hq:h[q]?=some (.row xs e sz)) (hn:n≤xs.length)
  (k:GhostTo G d ((h.set q .dead++[Obj.row (xs.take n) e sz]).set j (.blk (cs.set off (.row h.length)) t)) K):GhostTo G d h K:=fun C w β V u hG hr hd=>by
 have hjl:j < h.length:=(List.getElem?_eq_some_iff.1 hj).1
 have hqj:q≠j:=fun e'=>by subst e';rw[hq] at hj;cases hj
 obtain ⟨g,vs,b1,b2,b3⟩:=hr.obj j _ hj
 obtain ⟨v,c1,c2⟩:=cell_rep b3 hc
 have key:GhostTo G (.rs q 0 n) h (fun d' h'=>d'=D.row h.length∧h'=h.set q .dead++[Obj.row (xs.take n) e sz]):=ghCut hq hn (ghNo ⟨rfl,rfl⟩)
 obtain ⟨d',h',β',V',⟨rfl,rfl⟩,k2,k3,k4,k5⟩:=key C w β V v hG hr c2
 have hj':(h.set q .dead++[Obj.row (xs.take n) e sz])[j]?=some (.blk cs t):=by
  rw[List.getElem?_append_left (by simpa using hjl),List.getElem?_set_ne hqj];exact hj
 have hb':β' j=β j:=by
  obtain ⟨o',p1,p2,p3⟩:=k4 j _ hj
  rw[hj'] at p1
  injection p1 with p1
  subst p1
  exact p3 rfl
 have h3:RelD C ((h.set q .dead++[Obj.row (xs.take n) e sz]).set j (.blk (cs.set off (.row h.length)) t)) β' V' w :=
  k2.recell hj' (fun g' vs' p1 p2 p3=>by
   have eg:g'=g:=ptr_inj (by rw[← p1,hb',b1])
   subst eg
   have ev:=cells_inj p2 b2
   subst ev
   exact cell_set p3 c1 k3)
 have le:LeH (h.set q .dead++[Obj.row (xs.take n) e sz]) β' ((h.set q .dead++[Obj.row (xs.take n) e sz]).set j (.blk (cs.set off (.row h.length)) t)) β':=le_set hj' trivial
 obtain ⟨d2,h2,β2,V2,l1,l2,l3,l4,l5⟩:=k C w β' V' u hG h3 (RepD.mono (k4.trans le) k5 _ _ hd)
 exact ⟨d2,h2,β2,V2,l1,l2,l3,(k4.trans le).trans l4,k5.trans l5⟩
theorem ghNameC (j off m q:Nat) {cs:List D} {t:TypeId} {l:List (Value × Ob0)} {ts:List (Value × Nat)} {xs:List (List GV)} {e sz:Nat} (hj:h[j]?=some (.blk cs t)) (hc:cs[off]?=some (.row q)) (hm:h[m]?=some (.many l ts)) (hq:h[q]?=some (.row xs e sz))
  (k:∀ v:Value,GhostTo G d ((h.set m (.many l ((v,q) :: ts))).set j (.blk (cs.set off (.g (.raw v))) t)) K):GhostTo G d h K:=fun C w β V u hG hr hd=>by
 have hmj:m≠j:=fun e'=>by subst e';rw[hm] at hj;cases hj
 obtain ⟨g,vs,b1,b2,b3⟩:=hr.obj j _ hj
 obtain ⟨v,c1,c2⟩:=cell_rep b3 hc
 have key:GhostTo G (.row q) h (fun d' h'=>∃ v',d'=D.g (.raw v')∧h'=h.set m (Obj.many l ((v',q) :: ts))):=ghName m q hm hq (fun v'=>ghNo ⟨v',rfl,rfl⟩)
 obtain ⟨d',h',β',V',⟨v',rfl,rfl⟩,k2,k3,k4,k5⟩:=key C w β V v hG hr c2
 have hj':(h.set m (.many l ((v',q) :: ts)))[j]?=some (.blk cs t):=by rw[List.getElem?_set_ne hmj];exact hj
 have hb':β' j=β j:=by
  obtain ⟨o',p1,p2,p3⟩:=k4 j _ hj
  rw[hj'] at p1
  injection p1 with p1
  subst p1
  exact p3 rfl
 have h3:RelD C ((h.set m (.many l ((v',q) :: ts))).set j (.blk (cs.set off (.g (.raw v'))) t)) β' V' w :=
  k2.recell hj' (fun g' vs' p1 p2 p3=>by
   have eg:g'=g:=ptr_inj (by rw[← p1,hb',b1])
   subst eg
   have ev:=cells_inj p2 b2
   subst ev
   exact cell_set p3 c1 k3)
 have le:LeH (h.set m (.many l ((v',q) :: ts))) β' ((h.set m (.many l ((v',q) :: ts))).set j (.blk (cs.set off (.g (.raw v'))) t)) β':=le_set hj' trivial
 obtain ⟨d2,h2,β2,V2,l1,l2,l3,l4,l5⟩:=k v' C w β' V' u hG h3 (RepD.mono (k4.trans le) k5 _ _ hd)
 exact ⟨d2,h2,β2,V2,l1,l2,l3,(k4.trans le).trans l4,k5.trans l5⟩
theorem ghForget (m:Nat) (l1 l2:List (Value × Ob0)) (p:Value × Ob0) {l:List (Value × Ob0)} {ts:List (Value × Nat)} (hm:h[m]?=some (.many l ts)) (hl:l=l1++p :: l2) (k:GhostTo G d (h.set m (.many (l1++l2) ts)) K):GhostTo G d h K:=fun C w β V u hG hr hd=>by
 subst hl
 have le:LeH h β (h.set m (.many (l1++l2) ts)) β:=le_set hm trivial
 have hob:=hr.obj m _ hm
 have hpw:=List.pairwise_append.1 hob.2.1
 have hcs:=List.pairwise_cons.1 hpw.2.1
 have hmem:∀ q,q∈l1++l2→q∈l1++p :: l2:=fun q hq=>by
  rcases List.mem_append.1 hq with hq | hq
  ·exact List.mem_append.2 (.inl hq)
  ·exact List.mem_append.2 (.inr (List.mem_cons_of_mem _ hq))
 have own:∀ (i:Nat) (x:Obj) (k:Nat),(h.set m (.many (l1++l2) ts))[i]?=some x→x.live=true→Bk x (β i) k→∃ y,h[i]?=some y∧y.live=true∧Bk y (β i) k:=by
  intro i x k hi hl hk
  rcases set_at hi with ⟨rfl,rfl⟩ | ⟨hne,hi⟩
  ·obtain ⟨q,hq,e1⟩:=hk
   exact ⟨_,hm,rfl,q,hmem q hq,e1⟩
  ·exact ⟨x,hi,hl,hk⟩
 have h1:RelD C (h.set m (.many (l1++l2) ts)) β V w:=by
  refine hr.same (fun i x hi=>?_) (fun i j x y k hi hl hj hl' hk hk'=>?_) (fun i x k hi hl hk=>?_)
  ·rcases set_at hi with ⟨rfl,rfl⟩ | ⟨hne,hi⟩
   ·exact ⟨fun q hq=>hob.1 q (hmem q hq),List.pairwise_append.2 ⟨hpw.1,hcs.2,fun a ha b hb=>hpw.2.2 a ha b (List.mem_cons_of_mem _ hb)⟩,fun t ht=>(hob.2.2 t ht).le le⟩
   ·exact (hr.obj i x hi).keep le (Moved.refl _ _) rfl (fun _ _=>rfl)
  ·obtain ⟨x',a1,a2,a3⟩:=own i x k hi hl hk
   obtain ⟨y',b1,b2,b3⟩:=own j y k hj hl' hk'
   exact hr.sep i j x' y' k a1 a2 b1 b2 a3 b3
  ·obtain ⟨x',a1,a2,a3⟩:=own i x k hi hl hk
   exact ⟨i,x',a1,a2,a3⟩
 obtain ⟨d2,h2,β2,V2,k1,k2,k3,k4,k5⟩:=k C w β V u hG h1 (RepD.mono le (Moved.refl _ _) _ _ hd)
 exact ⟨d2,h2,β2,V2,k1,k2,k3,le.trans k4,k5⟩
end
end

section
variable {P:Program} {T:Tab} {F:FuncId→Bool} {G:Gl}

theorem semCT {g:FuncId} {all as:List D} {h:Heap} {Q:Out→Prop} {K Qp:KD} (hl:likeA (all.map (conv h [] 4)) as) (hct:CT P G g as Q) (hk:∀ d h',Q (.ret d h')→K (sh h.length 4 d) (after h (idsL all) d h')) (hp:∀ d,Q (.pan d)→Qp d (kills h (idsL all))):SemCall P G g all h K Qp:=by
 intro C w β V vals hG hr hd
 subst hG
 refine (call_sound (st:=⟨fun _=>.any,h,[]⟩) (next:=fun v w'=>∃ d h' β' V',K d h'∧RelD C h' β' V' w'∧RepD h' β' V' w' d v∧LeH h β h' β'∧Moved V w V' w')
  (qp:=fun ch w'=>∃ d h' t u β' V',ch=[{ v:=.iface t u,recovered:=false }]∧Qp d h'∧RelD C h' β' V' w'∧RepD h' β' V' w' d (.iface t u)∧LeH h β h' β'∧Moved V w V' w')
  hr (fun d h' v w' β' V' a b c e f=>⟨d,h',β',V',a,b,c,e,f⟩) (fun d h' t u w' β' V' a b c e f=>⟨d,h',t,u,β',V',rfl,a,b,c,e,f⟩) hd hl hct hk hp).mono fun e w' he=>?_
 cases e with
 | returned v=>exact he
 | panicked ch=>exact he
 | outgrown=>exact he
theorem semIs {g:FuncId} {all as:List D} {h:Heap} {d:D} {K Qp:KD} (hl:likeA (all.map (conv h [] 4)) as) (hct:CT P G g as (Is d)) (hk:K (sh h.length 4 d) (after h (idsL all) d [])):SemCall P G g all h K Qp :=
 semCT hl hct (fun d' h' hq=>by injection hq with e1 e2;subst e1;subst e2;exact hk) (fun d' hq=>by cases hq)
theorem semRd {g:FuncId} {all:List D} {h:Heap} {d:D} {K Qp:KD} (hc:CTR P G g all h d) (hk:K d h):SemCall P G g all h K Qp:=fun C w β V vals hG hr hd =>
 (hc C w β V vals hG hr hd).mono fun e w' he=>by
  cases e with
  | returned v=>exact ⟨d,h,β,V,hk,he.1,he.2.1,LeH.refl _ _,he.2.2⟩
  | panicked ch=>exact he.elim
  | outgrown=>exact he.elim

def noV:GV→Prop
 | .sl _ _=>False
 | _=>True
theorem noV_rep {V V':Nat→Prop} {w w':World} {g:GV} {v:Value} (hn:noV g) (h:RepV V w g v):RepV V' w' g v:=by
 cases g<;>first | exact hn.elim | simpa only[RepV] using h
theorem noVL_rep {V V':Nat→Prop} {w w':World}:∀ {gs:List GV} {vs:List Value},(∀ g∈gs,noV g)→RepL V w gs vs→RepL V' w' gs vs
 | [],[],_,_=>trivial
 | [],_ :: _,_,h=>h.elim
 | _ :: _,[],_,h=>h.elim
 | g :: _,_ :: _,hn,h=>⟨noV_rep (hn g List.mem_cons_self) h.1,noVL_rep (fun g hg=>hn g (List.mem_cons_of_mem _ hg)) h.2⟩
theorem semRow {g:FuncId} {all as:List D} {h:Heap} {xs:List (List GV)} {e sz:Nat} {K Qp:KD} (hl:likeA (all.map (conv h [] 4)) as) (hct:CT P G g as (fun o=>o=.ret (.row 0) [.row xs e sz])) (hn:∀ r∈xs,∀ g∈r,noV g) (hk:K (.row h.length) (h++[.row xs e sz])):SemCall P G g all h K Qp:=by
 intro C w β V vals hG hr hd
 subst hG
 have hck:=kill_rel hr (idsL all)
 have hargs:RepDL [] (turnβ [] β) (killV h (idsL all) β V) w (all.map (conv h [] 4)) vals:=by
  refine convL_rep (src:=[]) hr (fun i=>i∈idsL all) (fun k hk=>.inl hk) (fun i o k h1 h2 h3 h4=>.inr ⟨i,o,h1,h2,h3,h4⟩) 4 all vals (fun d hd i hi _=>ids_mem hd i hi (fun j hj=>hj)) hd
 have hargs':RepDL [] (fun _=>undef) (killV h (idsL all) β V) w as vals:=by
  have:=likeA_rep hl hargs
  exact RepDL.mono (h':=[]) (fun i o hi=>by simp at hi) (Moved.refl _ _) _ _ this
 refine (hct w _ vals hck.vlt hck.gl hargs').mono fun e' w' he=>?_
 cases e' with
 | returned v =>
  obtain ⟨d,h',β',V',hq,hrel,hd'⟩:=he
  injection hq with e1 e2
  subst e1
  subst e2
  obtain ⟨vs,hown,hv,hx,h0⟩:=hrel.obj 0 _ rfl
  have hrel2:RelD ⟨w,fun _=>False,V,C.G⟩ [.row xs e sz] β' V w':=by
   have hm:Moved V w V w':=fun k hk=>⟨hk,hrel.fr.block k (hr.vlt k hk) (fun h=>h)⟩
   refine ⟨fun i o hi=>?_,hrel.sep,hrel.mine,fun i o k hi hl hk hv=>hrel.vout i o k hi hl hk (hrel.vin k (.inl hv)),fun k hk=>hrel.vlt k (hrel.vin k (.inl hk)),fun k hk=>hk,fun k hk=>.inl hk,hrel.fr,hr.gl.move hm⟩
   cases i with
   | zero =>
    simp at hi
    subst hi
    exact ⟨vs,hown,noVL_rep (fun g hg=>by obtain ⟨r,hr,hgr⟩:=List.mem_flatten.1 hg;exact hn r hr g hgr) hv,hx,h0⟩
   | succ i=>simp at hi
  have hj:=after_join hr hrel2
  refine ⟨.row h.length,h++[.row xs e sz],_,V,hk,hj,?_,join_le _ _ _ _,fun k hk=>⟨hk,hrel.fr.block k (hr.vlt k hk) (fun h=>h)⟩⟩
  have:=sh_rep (h:=h) (β:=β) (V:=V) 4 (.row 0) v (by simpa only[RepD] using hd':RepD [.row xs e sz] β' V w' (.row 0) v)
  simpa [sh,shO] using this
 | panicked ch =>
  obtain ⟨d,t,u,β',V',rfl,hq,_⟩:=he
  cases hq
 | outgrown=>exact he.elim

theorem callS {g:FuncId} {all:List D} {h:Heap} {K Qp:KD} (hg:fnOk P g=true) (hs:SemCall P G g all h K Qp):fnOk P g=true∧(OwnCall P G g all h K Qp∨SemCall P G g all h K Qp):=⟨hg,.inr hs⟩
theorem callO {g:FuncId} {all:List D} {h:Heap} {K Qp:KD} {hin:Heap} {as:List D} {Q:Out→Prop} {b:Nat} (σ:List Nat) (hg:fnOk P g=true) (hcl:closedσ h σ all=true) (hbk:Nat.ble b σ.length=true) (ht:TurnTo h (σ.map .old) all hin as) (hc:CTH P G g b hin as Q)
  (hk:∀ d h',Q (.ret d h')→K (rnD (rnI σ b h.length) 4 d) (putH h σ b h')) (hp:∀ d h',Q (.panH d h')→Qp (rnD (rnI σ b h.length) 4 d) (putH h σ b h')):fnOk P g=true∧(OwnCall P G g all h K Qp∨SemCall P G g all h K Qp) :=
 ⟨hg,.inl ⟨σ,b,hin,as,Q,hcl,hbk,ht,hc,hk,hp⟩⟩
end
end Go.Dm
