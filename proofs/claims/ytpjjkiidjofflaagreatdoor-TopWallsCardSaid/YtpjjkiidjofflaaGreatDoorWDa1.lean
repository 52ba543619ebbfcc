import Derived.Test.YtpjjkiidjofflaaGreatDoorWEng
import Derived.Laws.IdiomStrings
namespace Go.Dm
open Go Go.Eng Go.RowKit
inductive GV where
 | int (n:Int)
 | str (l:List UInt8)
 | bool (b:Bool)
 | u8 (n:Int)
 | sl (k:Nat) (xs:List (List GV))
 | raw (v:Value)
mutual
def ZaW (V:Nat->Prop) (w:World):GV->Value->Prop
 | .int n,v=>v=.int .i64 n
 | .str l,v=>v=.string ⟨⟨l⟩⟩
 | .bool b,v=>v=.bool b
 | .u8 n,v=>v=.int .u8 n
 | .raw u,v=>v=u/\v.oneCell'=true/\ZaF v=[v]
 | .sl k xs,v=>∃A cap,v=.slice A xs.length cap/\xs.length<=cap/\(0 < xs.length->∃a,A=some a/\V a.block/\Zav V w k a 0 xs)/\(A=none->cap=0)
def Zav (V:Nat->Prop) (w:World) (k:Nat) (a:Addr):Nat->List (List GV)->Prop
 | _,[]=>True
 | j,r :: rs=>(r.length=k/\ZaG V w a (j*k) r)/\Zav V w k a (j+1) rs
def ZaG (V:Nat->Prop) (w:World) (a:Addr):Nat->List GV->Prop
 | _,[]=>True
 | i,g :: gs=>(∃u,w.cell? (a.add i)=some u/\ZaW V w g u)/\ZaG V w a (i+1) gs
end
def Za9 (V:Nat->Prop) (w:World):List GV->List Value->Prop
 | [],[]=>True
 | g :: gs,v :: vs=>ZaW V w g v/\Za9 V w gs vs
 | _,_=>False
def ZaB (V:Nat->Prop) (w:World) (V':Nat->Prop) (w':World):Prop:=∀k,V k->V' k/\w'.heap[k]?=w.heap[k]?
theorem ZaB.refl (V:Nat->Prop) (w:World):ZaB V w V w:=λ_ h=>⟨h,rfl⟩
theorem ZaB.trans {V V' V'':Nat->Prop} {w w' w'':World} (h:ZaB V w V' w') (k:ZaB V' w' V'' w''):ZaB V w V'' w'':=λi hi=>⟨(k i (h i hi).1).1,(k i (h i hi).1).2.trans (h i hi).2⟩
mutual
theorem ZaW.move {V V':Nat->Prop} {w w':World} (h:ZaB V w V' w'):∀(g:GV) (v:Value),ZaW V w g v->ZaW V' w' g v
 | .int _,_,hr=>hr
 | .str _,_,hr=>hr
 | .bool _,_,hr=>hr
 | .u8 _,_,hr=>hr
 | .raw _,_,hr=>hr
 | .sl k xs,v,hr=>by simp only[ZaW] at hr ⊢;obtain ⟨A,cap,hv,hc,ha⟩:=hr;refine ⟨A,cap,hv,hc,λh0=>?_,ha.2⟩;obtain ⟨a,hA,hV,hall⟩:=ha.1 h0;exact ⟨a,hA,(h _ hV).1,Zav.move h hV xs 0 hall⟩
theorem Zav.move {V V':Nat->Prop} {w w':World} (h:ZaB V w V' w') {k:Nat} {a:Addr} (ha:V a.block):∀(xs:List (List GV)) (j:Nat),Zav V w k a j xs->Zav V' w' k a j xs
 | [],_,_=>by simp[Zav]
 | r :: rs,j,hr=>by simp only[Zav] at hr ⊢;exact ⟨⟨hr.1.1,ZaG.move h ha r _ hr.1.2⟩,Zav.move h ha rs _ hr.2⟩
theorem ZaG.move {V V':Nat->Prop} {w w':World} (h:ZaB V w V' w') {a:Addr} (ha:V a.block):∀(gs:List GV) (i:Nat),ZaG V w a i gs->ZaG V' w' a i gs
 | [],_,_=>by simp[ZaG]
 | g :: gs,i,hr=>by simp only[ZaG] at hr ⊢;obtain ⟨⟨u,hu,hg⟩,hr⟩:=hr;refine ⟨⟨u,?_,ZaW.move h g u hg⟩,ZaG.move h ha gs _ hr⟩;rw[World.cell?_of_block (w:=w) (w':=w') (a:=a.add i) (by rw[Zfx];exact (h _ ha).2)];exact hu
end
theorem Za9.move {V V':Nat->Prop} {w w':World} (h:ZaB V w V' w'):∀(gs:List GV) (vs:List Value),Za9 V w gs vs->Za9 V' w' gs vs
 | [],[],_=>trivial
 | [],_ :: _,hr=>hr.elim
 | _ :: _,[],hr=>hr.elim
 | g :: gs,v :: vs,hr=>⟨ZaW.move h g v hr.1,Za9.move h gs vs hr.2⟩
theorem ZgB (a:Addr) (i j:Nat):(a.add i).add j=a.add (i+j):=by unfold Addr.add;by_cases hi:i=0<;>by_cases hj:j=0<;>simp[hi,hj,Nat.add_assoc]
theorem Za9.len {V:Nat->Prop} {w:World}:∀{gs:List GV} {vs:List Value},Za9 V w gs vs->gs.length=vs.length
 | [],[],_=>rfl
 | [],_ :: _,h=>h.elim
 | _ :: _,[],h=>h.elim
 | _ :: _,_ :: _,h=>by simp[Za9.len h.2]
theorem Za9.get {V:Nat->Prop} {w:World}:∀{gs:List GV} {vs:List Value},Za9 V w gs vs->∀{i:Nat} {g:GV},gs[i]?=some g->∃v,vs[i]?=some v/\ZaW V w g v
 | [],[],_,i,g,hi=>by simp at hi
 | [],_ :: _,h,_,_,_=>h.elim
 | _ :: _,[],h,_,_,_=>h.elim
 | _ :: _,v :: _,h,0,g,hi=>by simp at hi;subst hi;exact ⟨v,rfl,h.1⟩
 | _ :: _,_ :: _,h,i+1,g,hi=>by obtain ⟨v,h1,h2⟩:=Za9.get h.2 (i:=i) (g:=g) (by simpa using hi);exact ⟨v,by simpa using h1,h2⟩
theorem Za9.append {V:Nat->Prop} {w:World}:∀{gs hs:List GV} {vs us:List Value},Za9 V w gs vs->Za9 V w hs us->Za9 V w (gs++hs) (vs++us)
 | [],_,[],_,_,k=>k
 | [],_,_ :: _,_,h,_=>h.elim
 | _ :: _,_,[],_,h,_=>h.elim
 | _ :: _,_,_ :: _,_,h,k=>⟨h.1,Za9.append h.2 k⟩
theorem Za9.take {V:Nat->Prop} {w:World}:∀{gs:List GV} {vs:List Value} (n:Nat),Za9 V w gs vs->Za9 V w (gs.take n) (vs.take n)
 | [],[],n,_=>by simp[Za9]
 | [],_ :: _,_,h=>h.elim
 | _ :: _,[],_,h=>h.elim
 | _ :: _,_ :: _,0,_=>by simp[Za9]
 | _ :: _,_ :: _,n+1,h=>by simp only[List.take_succ_cons];exact ⟨h.1,Za9.take n h.2⟩
theorem Za9.drop {V:Nat->Prop} {w:World}:∀{gs:List GV} {vs:List Value} (n:Nat),Za9 V w gs vs->Za9 V w (gs.drop n) (vs.drop n)
 | [],[],n,_=>by simp[Za9]
 | [],_ :: _,_,h=>h.elim
 | _ :: _,[],_,h=>h.elim
 | _ :: _,_ :: _,0,h=>h
 | _ :: _,_ :: _,n+1,h=>by simp only[Ybf];exact Za9.drop n h.2
theorem Zav.get {V:Nat->Prop} {w:World} {k:Nat} {a:Addr}:∀(xs:List (List GV)) (j0 j:Nat) (r:List GV),Zav V w k a j0 xs->xs[j]?=some r->r.length=k/\ZaG V w a ((j0+j)*k) r
 | [],_,j,r,_,hj=>by simp at hj
 | x :: xs,j0,0,r,h,hj=>by simp only[Zav] at h;simp at hj;subst hj;exact h.1
 | x :: xs,j0,j+1,r,h,hj=>by simp only[Zav] at h;have:=Zav.get xs (j0+1) j r h.2 (by simpa using hj);rwa [show j0+1+j=j0+(j+1) from by omega] at this
theorem ZaG.cells {V:Nat->Prop} {w:World} {a:Addr}:∀(gs:List GV) (i:Nat),ZaG V w a i gs->∃vs,Za9 V w gs vs/\vs.length=gs.length/\∀j v,vs[j]?=some v->w.cell? (a.add (i+j))=some v
 | [],_,_=>⟨[],trivial,rfl,λj v h=>by simp at h⟩
 | g :: gs,i,h=>by
  simp only[ZaG] at h;obtain ⟨⟨u,hu,hg⟩,hr⟩:=h;obtain ⟨vs,h1,h2,h3⟩:=ZaG.cells gs (i+1) hr;refine ⟨u :: vs,⟨hg,h1⟩,by simp[h2],λj v hj=>?_⟩;cases j with
  | zero=>simp at hj;subst hj;exact hu
  | succ j =>have:=h3 j v (by simpa using hj);rwa [show i+1+j=i+(j+1) from by omega] at this
theorem ZaG.of_cells {V:Nat->Prop} {w:World} {a:Addr}:∀(gs:List GV) (vs:List Value) (i:Nat),Za9 V w gs vs->(∀j v,vs[j]?=some v->w.cell? (a.add (i+j))=some v)->ZaG V w a i gs
 | [],[],_,_,_=>by simp[ZaG]
 | [],_ :: _,_,h,_=>h.elim
 | _ :: _,[],_,h,_=>h.elim
 | g :: gs,v :: vs,i,h,hc=>by simp only[ZaG];refine ⟨⟨v,by simpa using hc 0 v rfl,h.1⟩,ZaG.of_cells gs vs (i+1) h.2 (λj u hj=>?_)⟩;have:=hc (j+1) u (by simpa using hj);rwa [show i+(j+1)=i+1+j from by omega] at this
theorem ZaG.shift {V:Nat->Prop} {w:World} {a:Addr}:∀(gs:List GV) (i o:Nat),ZaG V w a (i+o) gs↔ZaG V w (a.add o) i gs
 | [],_,_=>by simp[ZaG]
 | g :: gs,i,o=>by simp only[ZaG];rw[ZgB,Nat.add_comm o i,show i+o+1=i+1+o from by omega,ZaG.shift gs (i+1) o]
theorem Zav.of_flat {V:Nat->Prop} {w:World} {k:Nat} {a:Addr}:∀(xs:List (List GV)) (vs:List Value) (j:Nat),(∀r∈xs,r.length=k)->Za9 V w xs.flatten vs->(∀i v,vs[i]?=some v->w.cell? (a.add (j*k+i))=some v)->Zav V w k a j xs
 | [],_,_,_,_,_=>by simp[Zav]
 | r :: xs,vs,j,hk,h,hc=>by
  have hr:=hk r Yac;simp only[List.flatten_cons] at h;have h1:Za9 V w r (vs.take k):=by have:=h.take k;rwa [Ya9 (by omega),YaJ (by omega)] at this
  have h2:Za9 V w xs.flatten (vs.drop k):=by have:=h.drop k;rwa [List.drop_append_of_le_length (by omega),YbV (by omega),List.nil_append] at this
  simp only[Zav];refine ⟨⟨hr,ZaG.of_cells r _ _ h1 (λi v hi=>hc i v ?_)⟩,Zav.of_flat xs (vs.drop k) (j+1) (λr hr=>hk r (Yad _ hr)) h2 (λi v hi=>?_)⟩
  ·have hil:i < k:=by have:=(Yaa.1 hi).1;simp at this;omega
   rwa [Yaz hil] at hi
  ·rw[YaX] at hi;have:=hc (k+i) v hi;rwa [show j*k+(k+i)=(j+1)*k+i from by rw[YaY];omega] at this
theorem Zav.flat {V:Nat->Prop} {w:World} {k:Nat} {a:Addr}:∀(xs:List (List GV)) (j:Nat),Zav V w k a j xs->∃vs,Za9 V w xs.flatten vs/\vs.length=xs.length*k/\(∀r∈xs,r.length=k)/\∀i v,vs[i]?=some v->w.cell? (a.add (j*k+i))=some v
 | [],_,_=>⟨[],trivial,by simp,λr h=>by simp at h,λi v h=>by simp at h⟩
 | r :: xs,j,h=>by
  simp only[Zav] at h;obtain ⟨vs,h1,h2,h3,h4⟩:=Zav.flat xs (j+1) h.2;obtain ⟨us,g1,g2,g3⟩:=ZaG.cells r _ h.1.2;have hr:=h.1.1;refine ⟨us++vs,by simp only[List.flatten_cons];exact g1.append h1,by simp[h2,g2,hr,Nat.succ_mul];omega,λr' hr'=>?_,λi v hi=>?_⟩
  ·rcases Yav.1 hr' with rfl | hr'
   ·exact hr
   ·exact h3 r' hr'
  ·by_cases hl:i < us.length
   ·rw[Yaj hl] at hi;exact g3 i v hi
   ·rw[Yak (by omega)] at hi;have:=h4 (i - us.length) v hi;rwa [show (j+1)*k+(i - us.length)=j*k+i from by rw[YaY];omega] at this
theorem ZaW.sl_of {V:Nat->Prop} {w:World} {k:Nat} {xs:List (List GV)} {a:Addr} {cap:Nat} (hc:xs.length<=cap) (h:0 < xs.length->V a.block/\Zav V w k a 0 xs):ZaW V w (.sl k xs) (.slice (some a) xs.length cap):=by simp only[ZaW];exact ⟨some a,cap,rfl,hc,λh0=>⟨a,rfl,h h0⟩,λe=>(by cases e)⟩
theorem ZaW.sl_nil {V:Nat->Prop} {w:World} (k:Nat):ZaW V w (.sl k []) (.slice none 0 0):=by simp only[ZaW];exact ⟨none,0,rfl,Yax _,λh=>absurd h (by simp),λ_=>rfl⟩
theorem Zav.drop {V:Nat->Prop} {w:World} {k:Nat} {a:Addr}:∀(xs:List (List GV)) (j l:Nat),Zav V w k a j xs->Zav V w k a (j+l) (xs.drop l)
 | [],_,_,_=>by simp[Zav]
 | _ :: _,_,0,h=>h
 | r :: xs,j,l+1,h=>by simp only[Zav] at h;have:=Zav.drop xs (j+1) l h.2;rw[show j+1+l=j+(l+1) from by omega] at this;simpa using this
theorem Zav.take {V:Nat->Prop} {w:World} {k:Nat} {a:Addr}:∀(xs:List (List GV)) (j l:Nat),Zav V w k a j xs->Zav V w k a j (xs.take l)
 | [],_,_,_=>by simp[Zav]
 | _ :: _,_,0,_=>by simp[Zav]
 | r :: xs,j,l+1,h=>by simp only[Zav,List.take_succ_cons] at h ⊢;exact ⟨h.1,Zav.take xs (j+1) l h.2⟩
theorem Zav.shift {V:Nat->Prop} {w:World} {k:Nat} {a:Addr}:∀(xs:List (List GV)) (j o:Nat),Zav V w k a (j+o) xs↔Zav V w k (a.add (o*k)) j xs
 | [],_,_=>by simp[Zav]
 | r :: xs,j,o=>by simp only[Zav];rw[show (j+o)*k=j*k+o*k from by rw[Ybw],ZaG.shift,show j+o+1=j+1+o from by omega,Zav.shift xs (j+1) o]
theorem ZaW.piece {V:Nat->Prop} {w:World} {k:Nat} {xs:List (List GV)} {A:Option Addr} {n cap:Nat} (h:ZaW V w (.sl k xs) (.slice A n cap)) {l hh:Nat} (h1:l<=hh) (h2:hh<=xs.length) :
  ZaW V w (.sl k ((xs.take hh).drop l)) (.slice (if cap=l then A else A.map (·.add (l*k))) (hh - l) (cap - l)):=by
 simp only[ZaW] at h ⊢;obtain ⟨A',cap',hv,hc,ha⟩:=h;injection hv with e1 e2 e3;subst e1;subst e2;subst e3;have hlen:((xs.take hh).drop l).length=hh - l:=by simp;omega
 refine ⟨_,cap - l,by rw[hlen],by rw[hlen];omega,λh0=>?_,λe=>?_⟩
 rotate_left
 ·by_cases hcl:cap=l
  ·omega
  ·rw[if_neg hcl] at e;have:=ha.2 (by simpa using e);omega
 rw[hlen] at h0;have hcl:cap≠l:=by omega
 obtain ⟨a,rfl,hV,hall⟩:=ha.1 (by omega);refine ⟨a.add (l*k),by rw[if_neg hcl];rfl,by rw[Zfx];exact hV,?_⟩;have:=((hall.take xs 0 hh).drop _ 0 l);exact (Zav.shift _ 0 l).1 this
inductive D where
 | g (x:GV)
 | pb (p:Prop)
 | pn (p:Prop)
 | nils
 | row (i:Nat)
 | rs (i lo n:Nat)
 | ptr (i off:Nat)
 | el (i j off:Nat)
 | fp (r:List GV) (off:Nat)
 | nilP
 | nilF
 | nilI
 | fn (f:FuncId) (fs cs:List D)
 | iface (t:TypeId) (x:D)
 | agg (cs:List D)
 | tuple (vs:List D)
 | any
inductive Ob0 where
 | row (xs:List (List GV)) (e:TypeId) (sz:Nat)
 | blk (cs:List GV) (t:TypeId)
inductive Obj where
 | blk (cs:List D) (t:TypeId)
 | row (xs:List (List GV)) (e:TypeId) (sz:Nat)
 | many (l:List (Value × Ob0)) (ts:List (Value × Nat))
 | dead
abbrev Zad:=List Obj
def Obj.live:Obj->Bool
 | .dead=>false
 | _=>true
def bk:Value->Option Nat
 | .pointer (some a)=>some a.block
 | .slice (some a) _ _=>some a.block
 | _=>none
def Bk:Obj->Value->Nat->Prop
 | .many l _,_,k=>∃p∈l,bk p.1=some k
 | .blk _ _,v,k=>bk v=some k
 | .row _ _ _,v,k=>bk v=some k
 | .dead,v,k=>bk v=some k
def ZCl (u:Value) (lo n sz:Nat) (v:Value):Prop:=∃A m cap,u=.slice A m cap/\v=.slice (if cap=lo then A else A.map (·.add (lo*sz))) n (cap - lo)
mutual
def Zaa (h:Zad) (β:Nat->Value) (V:Nat->Prop) (w:World):D->Value->Prop
 | .g x,v=>ZaW V w x v
 | .pb p,v=>∃b,v=.bool b/\(b=true↔p)
 | .pn p,v=>∃b,v=.bool b/\(b=true↔¬p)
 | .nils,v=>v=.slice none 0 0
 | .row i,v=>match h[i]? with
  | some (.row _ _ _)=>v=β i
  | some .dead=>True
  | _=>False
 | .rs i lo n,v=>match h[i]? with
  | some (.row xs _ sz)=>lo+n<=xs.length/\ZCl (β i) lo n sz v
  | some (.blk _ _)=>∃g c,β i=.pointer (some ⟨g,0,none⟩)/\v=.slice (some ⟨g,lo,none⟩) n c
  | some .dead=>True
  | _=>False
 | .ptr i off,v=>match h[i]? with
  | some (.blk _ _)=>∃g,β i=.pointer (some ⟨g,0,none⟩)/\v=.pointer (some ⟨g,off,none⟩)
  | some .dead=>True
  | _=>False
 | .el i j off,v=>match h[i]? with
  | some (.row xs _ sz)=>j < xs.length/\∃g n c,β i=.slice (some ⟨g,0,none⟩) n c/\v=.pointer (some ⟨g,j*sz+off,none⟩)
  | some .dead=>True
  | _=>False
 | .fp r off,v=>∃a,v=.pointer (some (a.add off))/\V a.block/\ZaG V w a 0 r
 | .nilP,v=>v=.pointer none
 | .nilF,v=>v=.nilFunc
 | .nilI,v=>v=.nilIface
 | .fn f fs cs,v=>∃us ts,v=.func (.func f) ⟨us⟩ ⟨ts⟩/\Zac h β V w fs us/\Zac h β V w cs ts
 | .iface t x,v=>∃u,v=.iface t u/\Zaa h β V w x u
 | .agg cs,v=>∃us,v=.agg ⟨us⟩/\Zac h β V w cs us
 | .tuple vs,v=>∃us,v=.tuple ⟨us⟩/\Zac h β V w vs us
 | .any,_=>True
def Zac (h:Zad) (β:Nat->Value) (V:Nat->Prop) (w:World):List D->List Value->Prop
 | [],vs=>vs=[]
 | d :: ds,vs=>∃v us,vs=v :: us/\Zaa h β V w d v/\Zac h β V w ds us
end
def Zhi (V:Nat->Prop) (w:World) (v:Value):Ob0->Prop
 | .blk cs t=>∃g vs,v=.pointer (some ⟨g,0,none⟩)/\w.heap[g]?=some (.cells ⟨vs⟩ t (0,0))/\Za9 V w cs vs
 | .row xs e sz=>∃vs,w.ownsRow 0 e sz v xs.length vs/\Za9 V w xs.flatten vs/\(∀r∈xs,r.length=sz)/\0 < sz
def Zpy (h:Zad) (β:Nat->Value) (t:Value × Nat):Prop:=∃o,h[t.2]?=some o/\(o.live=true->β t.2=t.1)
def Zvf (p q:Value × Ob0):Prop:=∀k,bk p.1=some k->bk q.1≠some k
def Zcb (h:Zad) (β:Nat->Value) (V:Nat->Prop) (w:World) (i:Nat):Obj->Prop
 | .blk cs t=>∃g vs,β i=.pointer (some ⟨g,0,none⟩)/\w.heap[g]?=some (.cells ⟨vs⟩ t (0,0))/\Zac h β V w cs vs
 | .row xs e sz=>∃vs,w.ownsRow 0 e sz (β i) xs.length vs/\Za9 V w xs.flatten vs/\(∀r∈xs,r.length=sz)/\0 < sz
 | .many l ts=>(∀p∈l,Zhi V w p.1 p.2)/\l.Pairwise Zvf/\∀t∈ts,Zpy h β t
 | .dead=>True
abbrev Gl:=List (Nat × List GV)
def Zok (G:Gl) (V:Nat->Prop) (w:World):Prop:=∀p∈G,V p.1/\ZaG V w ⟨p.1,0,none⟩ 0 p.2
theorem Zok.move {G:Gl} {V V':Nat->Prop} {w w':World} (h:Zok G V w) (hm:ZaB V w V' w'):Zok G V' w':=λp hp=>⟨(hm _ (h p hp).1).1,ZaG.move hm (h p hp).1 _ _ (h p hp).2⟩
structure Ctx where
 w0:World
 own:Nat->Prop
 V0:Nat->Prop
 G:Gl
structure RelD (C:Ctx) (h:Zad) (β:Nat->Value) (V:Nat->Prop) (w:World):Prop where
 obj:∀(i:Nat) (o:Obj),h[i]?=some o->Zcb h β V w i o
 sep:∀(i j:Nat) (o o':Obj) (k:Nat),h[i]?=some o->o.live=true->h[j]?=some o'->o'.live=true->Bk o (β i) k->Bk o' (β j) k->i=j
 mine:∀(i:Nat) (o:Obj) (k:Nat),h[i]?=some o->o.live=true->Bk o (β i) k->C.w0.heap.size<=k\/C.own k
 vout:∀(i:Nat) (o:Obj) (k:Nat),h[i]?=some o->o.live=true->Bk o (β i) k->¬ V k
 vlt:∀k,V k->k < w.heap.size
 vin:∀k,C.V0 k->V k
 vnew:∀k,V k->C.V0 k\/C.w0.heap.size<=k\/C.own k
 fr:Fr C.own C.w0 w
 gl:Zok C.G V w
def OLe:Obj->Obj->Prop
 | _,.dead=>True
 | .blk _ _,.blk _ _=>True
 | .row xs _ sz,.row ys _ sz'=>xs.length=ys.length/\sz=sz'
 | .many _ _,.many _ _=>True
 | _,_=>False
theorem OLe.refl (o:Obj):OLe o o:=by cases o<;>simp[OLe]
def LeH (h:Zad) (β:Nat->Value) (h':Zad) (β':Nat->Value):Prop:=∀(i:Nat) (o:Obj),h[i]?=some o->∃o',h'[i]?=some o'/\OLe o o'/\(o'.live=true->β' i=β i)
theorem LeH.refl (h:Zad) (β:Nat->Value):LeH h β h β:=λ_ o ho=>⟨o,ho,OLe.refl o,λ_=>rfl⟩
section
variable {h h':Zad} {β β':Nat->Value} {V V':Nat->Prop} {w w':World}
mutual
theorem Zaa.mono (hl:LeH h β h' β') (hm:ZaB V w V' w'):∀(d:D) (v:Value),Zaa h β V w d v->Zaa h' β' V' w' d v
 | .g x,v,hr=>by simp only[Zaa] at hr ⊢;exact ZaW.move hm x v hr
 | .pb p,v,hr=>by simp only[Zaa] at hr ⊢;exact hr
 | .pn p,v,hr=>by simp only[Zaa] at hr ⊢;exact hr
 | .nils,v,hr=>by simp only[Zaa] at hr ⊢;exact hr
 | .row i,v,hr=>by
  simp only[Zaa] at hr ⊢;cases ho:h[i]? with
  | none=>rw[ho] at hr;exact hr.elim
  | some o =>
   obtain ⟨o',ho',hle,hb⟩:=hl i o ho;rw[ho] at hr;rw[ho'];cases o<;>cases o'<;>simp_all [OLe,Obj.live]
 | .rs i lo n,v,hr=>by
  simp only[Zaa] at hr ⊢;cases ho:h[i]? with
  | none=>rw[ho] at hr;exact hr.elim
  | some o =>
   obtain ⟨o',ho',hle,hb⟩:=hl i o ho;rw[ho] at hr;rw[ho'];cases o<;>cases o'<;>simp_all [OLe,Obj.live]
 | .ptr i off,v,hr=>by
  simp only[Zaa] at hr ⊢;cases ho:h[i]? with
  | none=>rw[ho] at hr;exact hr.elim
  | some o =>
   obtain ⟨o',ho',hle,hb⟩:=hl i o ho;rw[ho] at hr;rw[ho'];cases o<;>cases o'<;>simp_all [OLe,Obj.live]
 | .el i j off,v,hr=>by
  simp only[Zaa] at hr ⊢;cases ho:h[i]? with
  | none=>rw[ho] at hr;exact hr.elim
  | some o =>
   obtain ⟨o',ho',hle,hb⟩:=hl i o ho;rw[ho] at hr;rw[ho'];cases o<;>cases o'<;>simp_all [OLe,Obj.live]
 | .fp r off,v,hr=>by simp only[Zaa] at hr ⊢;obtain ⟨a,hv,hV,hrow⟩:=hr;exact ⟨a,hv,(hm _ hV).1,ZaG.move hm hV r 0 hrow⟩
 | .nilP,v,hr=>by simp only[Zaa] at hr ⊢;exact hr
 | .nilF,v,hr=>by simp only[Zaa] at hr ⊢;exact hr
 | .nilI,v,hr=>by simp only[Zaa] at hr ⊢;exact hr
 | .fn f fs cs,v,hr=>by simp only[Zaa] at hr ⊢;obtain ⟨us,ts,hv,h1,h2⟩:=hr;exact ⟨us,ts,hv,Zac.mono hl hm fs us h1,Zac.mono hl hm cs ts h2⟩
 | .iface t x,v,hr=>by simp only[Zaa] at hr ⊢;obtain ⟨u,hv,h1⟩:=hr;exact ⟨u,hv,Zaa.mono hl hm x u h1⟩
 | .agg cs,v,hr=>by simp only[Zaa] at hr ⊢;obtain ⟨us,hv,h1⟩:=hr;exact ⟨us,hv,Zac.mono hl hm cs us h1⟩
 | .tuple cs,v,hr=>by simp only[Zaa] at hr ⊢;obtain ⟨us,hv,h1⟩:=hr;exact ⟨us,hv,Zac.mono hl hm cs us h1⟩
 | .any,v,hr=>by simp only[Zaa]
theorem Zac.mono (hl:LeH h β h' β') (hm:ZaB V w V' w'):∀(ds:List D) (vs:List Value),Zac h β V w ds vs->Zac h' β' V' w' ds vs
 | [],vs,hr=>by simp only[Zac] at hr ⊢;exact hr
 | d :: ds,vs,hr=>by simp only[Zac] at hr ⊢;obtain ⟨v,us,hv,h1,h2⟩:=hr;exact ⟨v,us,hv,Zaa.mono hl hm d v h1,Zac.mono hl hm ds us h2⟩
end
end
theorem Zac.len {h:Zad} {β:Nat->Value} {V:Nat->Prop} {w:World}:∀{ds:List D} {vs:List Value},Zac h β V w ds vs->ds.length=vs.length
 | [],vs,hr=>by simp only[Zac] at hr;subst hr;rfl
 | d :: ds,vs,hr=>by simp only[Zac] at hr;obtain ⟨v,us,rfl,h1,h2⟩:=hr;simp[Zac.len h2]
theorem Zac.get {h:Zad} {β:Nat->Value} {V:Nat->Prop} {w:World}:∀{ds:List D} {vs:List Value},Zac h β V w ds vs->∀{i:Nat} {d:D},ds[i]?=some d->∃v,vs[i]?=some v/\Zaa h β V w d v
 | [],vs,hr,i,d,hi=>by simp at hi
 | d :: ds,vs,hr,i,d',hi=>by
  simp only[Zac] at hr;obtain ⟨v,us,rfl,h1,h2⟩:=hr;cases i with
  | zero=>simp at hi;subst hi;exact ⟨v,rfl,h1⟩
  | succ i =>obtain ⟨v',h3,h4⟩:=Zac.get h2 (i:=i) (d:=d') (by simpa using hi);exact ⟨v',by simpa using h3,h4⟩
theorem Zac.append {h:Zad} {β:Nat->Value} {V:Nat->Prop} {w:World}:∀{ds es:List D} {vs us:List Value},Zac h β V w ds vs->Zac h β V w es us->Zac h β V w (ds++es) (vs++us)
 | [],_,vs,us,hr,k=>by simp only[Zac] at hr;subst hr;exact k
 | d :: ds,es,vs,us,hr,k=>by simp only[Zac] at hr;obtain ⟨v,us',rfl,h1,h2⟩:=hr;simp only[List.cons_append,Zac];exact ⟨v,_,rfl,h1,Zac.append h2 k⟩
theorem Zac.take {h:Zad} {β:Nat->Value} {V:Nat->Prop} {w:World}:∀{ds:List D} {vs:List Value} (n:Nat),Zac h β V w ds vs->Zac h β V w (ds.take n) (vs.take n)
 | [],vs,n,hr=>by simp only[Zac] at hr;subst hr;simp[Zac]
 | d :: ds,vs,0,hr=>by simp[Zac]
 | d :: ds,vs,n+1,hr=>by simp only[Zac] at hr;obtain ⟨v,us,rfl,h1,h2⟩:=hr;simp only[List.take_succ_cons,Zac];exact ⟨v,_,rfl,h1,Zac.take n h2⟩
theorem Zac.drop {h:Zad} {β:Nat->Value} {V:Nat->Prop} {w:World}:∀{ds:List D} {vs:List Value} (n:Nat),Zac h β V w ds vs->Zac h β V w (ds.drop n) (vs.drop n)
 | [],vs,n,hr=>by simp only[Zac] at hr;subst hr;simp[Zac]
 | d :: ds,vs,0,hr=>hr
 | d :: ds,vs,n+1,hr=>by simp only[Zac] at hr;obtain ⟨v,us,rfl,h1,h2⟩:=hr;simp only[Ybf];exact Zac.drop n h2
theorem Zac.set {h:Zad} {β:Nat->Value} {V:Nat->Prop} {w:World}:∀{ds:List D} {vs:List Value} (i:Nat) {d:D} {v:Value},Zac h β V w ds vs->Zaa h β V w d v->Zac h β V w (ds.set i d) (vs.set i v)
 | [],vs,i,d,v,hr,_=>by simp only[Zac] at hr;subst hr;simp[Zac]
 | d0 :: ds,vs,0,d,v,hr,hd=>by simp only[Zac] at hr;obtain ⟨v0,us,rfl,h1,h2⟩:=hr;simp only[List.set_cons_zero,Zac];exact ⟨v,us,rfl,hd,h2⟩
 | d0 :: ds,vs,i+1,d,v,hr,hd=>by simp only[Zac] at hr;obtain ⟨v0,us,rfl,h1,h2⟩:=hr;simp only[List.set_cons_succ,Zac];exact ⟨v0,_,rfl,h1,Zac.set i h2 hd⟩
theorem Za9.set {V:Nat->Prop} {w:World}:∀{ds:List GV} {vs:List Value} (i:Nat) {d:GV} {v:Value},Za9 V w ds vs->ZaW V w d v->Za9 V w (ds.set i d) (vs.set i v)
 | [],[],i,d,v,_,_=>by simp[Za9]
 | [],_ :: _,_,_,_,h,_=>h.elim
 | _ :: _,[],_,_,_,h,_=>h.elim
 | d0 :: ds,_ :: _,0,d,v,hr,hd=>⟨hd,hr.2⟩
 | d0 :: ds,_ :: _,i+1,d,v,hr,hd=>⟨hr.1,Za9.set i hr.2 hd⟩
theorem Zh1 {h:Zad} {β:Nat->Value} {V:Nat->Prop} {w:World}:∀(gs:List GV) (vs:List Value),Zac h β V w (gs.map .g) vs↔Za9 V w gs vs
 | [],[]=>by simp[Zac,Za9]
 | [],_ :: _=>by simp[Zac,Za9]
 | g :: gs,[]=>by simp[Zac,Za9]
 | g :: gs,v :: vs=>by
  simp only[Yar,Zac,Za9];constructor
  ·rintro ⟨v',us,e,h1,h2⟩;injection e with e1 e2;subst e1;subst e2;simp only[Zaa] at h1;exact ⟨h1,(Zh1 gs _).1 h2⟩
  ·rintro ⟨h1,h2⟩;exact ⟨v,vs,rfl,by simp only[Zaa];exact h1,(Zh1 gs vs).2 h2⟩
section
variable {C:Ctx} {h h':Zad} {β β':Nat->Value} {V:Nat->Prop} {w w':World}
theorem Zly {e sz n:Nat} {v:Value} {xs:List Value} (ho:w.ownsRow 0 e sz v n xs) {k:Nat} (hk:bk v=some k):v.ownBlock=some k:=by
 rcases ho.2 with ⟨rfl,_⟩ | ⟨g,cap,cur,rfl,_⟩
 ·simp[bk] at hk
 ·simpa [bk,Value.ownBlock] using hk
theorem Zgz {e sz n:Nat} {v:Value} {xs:List Value} (ho:w.ownsRow 0 e sz v n xs) {k:Nat} (hk:v.ownBlock=some k):bk v=some k:=by
 rcases ho.2 with ⟨rfl,_⟩ | ⟨g,cap,cur,rfl,_⟩
 ·simp[Value.ownBlock] at hk
 ·simpa [bk,Value.ownBlock] using hk
theorem Zhi.lt {v:Value} {o:Ob0} (ho:Zhi V w v o) {k:Nat} (hk:bk v=some k):k < w.heap.size:=by
 cases o with
 | blk cs t =>obtain ⟨g,vs,hb,hg,_⟩:=ho;rw[hb] at hk;simp[bk] at hk;subst hk;exact (Ya1.1 hg).1
 | row xs e sz =>obtain ⟨vs,hv,_⟩:=ho;exact (hv.lt k (Zly hv hk)).2
theorem Zcb.lt {i:Nat} {o:Obj} (ho:Zcb h β V w i o) (hl:o.live=true) {k:Nat} (hk:Bk o (β i) k):k < w.heap.size:=by
 cases o with
 | many l ts=>obtain ⟨p,hp,hk⟩:=hk;exact (ho.1 p hp).lt hk
 | blk cs t =>obtain ⟨g,vs,hb,hg,_⟩:=ho;rw[hb] at hk;simp[Bk,bk] at hk;subst hk;exact (Ya1.1 hg).1
 | row xs e sz =>obtain ⟨vs,hv,_⟩:=ho;exact (hv.lt k (Zly hv hk)).2
 | dead=>cases hl
theorem RelD.lt (hr:RelD C h β V w) {i:Nat} {o:Obj} (hi:h[i]?=some o) (hl:o.live=true) {k:Nat} (hk:Bk o (β i) k):k < w.heap.size:=(hr.obj i o hi).lt hl hk
theorem Zhi.keep {v:Value} {o:Ob0} (ho:Zhi V w v o) {V':Nat->Prop} (hm:ZaB V w V' w') (hk:∀k,bk v=some k->w'.heap[k]?=w.heap[k]?):Zhi V' w' v o:=by
 cases o with
 | blk cs t =>obtain ⟨g,vs,hb',hg,hc⟩:=ho;exact ⟨g,vs,hb',(hk g (by rw[hb'];rfl)).trans hg,Za9.move hm _ _ hc⟩
 | row xs e sz =>obtain ⟨vs,hv,hc,h1,h2⟩:=ho;exact ⟨vs,Zm8 hv (λk hk'=>hk k (Zgz hv hk')),Za9.move hm _ _ hc,h1,h2⟩
theorem Zmm {o o':Obj} (h:OLe o o') (hl:o'.live=true):o.live=true:=by
 cases o<;>cases o'<;>simp_all [OLe,Obj.live]
theorem Zpy.le {t:Value × Nat} (ht:Zpy h β t) (hle:LeH h β h' β'):Zpy h' β' t:=by obtain ⟨o,ho,hb⟩:=ht;obtain ⟨o',h1,h2,h3⟩:=hle _ o ho;exact ⟨o',h1,λhl=>(h3 hl).trans (hb (Zmm h2 hl))⟩
theorem Zcb.keep {i:Nat} {o:Obj} (ho:Zcb h β V w i o) (hle:LeH h β h' β') {V':Nat->Prop} (hm:ZaB V w V' w') (hb:β' i=β i) (hk:∀k,Bk o (β i) k->w'.heap[k]?=w.heap[k]?):Zcb h' β' V' w' i o:=by
 cases o with
 | many l ts=>exact ⟨λp hp=>(ho.1 p hp).keep hm (λk hk'=>hk k ⟨p,hp,hk'⟩),ho.2.1,λt ht=>(ho.2.2 t ht).le hle⟩
 | blk cs t =>obtain ⟨g,vs,hb',hg,hc⟩:=ho;exact ⟨g,vs,hb.trans hb',(hk g (by rw[hb'];rfl)).trans hg,Zac.mono hle hm _ _ hc⟩
 | row xs e sz =>obtain ⟨vs,hv,hc,h1,h2⟩:=ho;refine ⟨vs,?_,Za9.move hm _ _ hc,h1,h2⟩;rw[hb];exact Zm8 hv (λk hk'=>hk k (Zgz hv hk'))
 | dead=>trivial
theorem RelD.moved {G:Nat->Prop} (hr:RelD C h β V w) (hf:Fr G w w') (hG:∀k,G k->∃i o,h[i]?=some o/\o.live=true/\Bk o (β i) k):ZaB V w V w':=λk hk =>
 ⟨hk,hf.block k (hr.vlt k hk) (λhg=>by
  obtain ⟨i,o,hi,hl,hbk⟩:=hG k hg;exact hr.vout i o k hi hl hbk hk)⟩
theorem RelD.upd {G:Nat->Prop} (hr:RelD C h β V w) (hf:Fr G w w') (i0:Nat) (o0:Obj) (h0:h'[i0]?=some o0)
  (hoth:∀(j:Nat) (o:Obj),j≠i0->h'[j]?=some o->o.live=true->h[j]?=some o/\β' j=β j/\∀k,Bk o (β j) k->¬ G k)
  (le:LeH h β h' β')
  (hG:∀k,G k->∃i o,h[i]?=some o/\o.live=true/\Bk o (β i) k)
  (hok:ZaB V w V w'->Zcb h' β' V w' i0 o0)
  (hb:∀k,Bk o0 (β' i0) k->w.heap.size<=k\/∃i o,h[i]?=some o/\o.live=true/\Bk o (β i) k/\(i=i0\/∀o',h'[i]?=some o'->o'.live=false)) :
  RelD C h' β' V w':=by
 have hm:ZaB V w V w':=λk hk=>⟨hk,hf.block k (hr.vlt k hk) (λhg=>by
  obtain ⟨i,o,hi,hl,hbk⟩:=hG k hg;exact hr.vout i o k hi hl hbk hk)⟩
 refine ⟨?_,?_,?_,?_,?_,hr.vin,hr.vnew,?_,hr.gl.move hm⟩
 ·intro j o hj;by_cases hj0:j=i0
  ·subst hj0;rw[h0] at hj;injection hj with hj;subst hj;exact hok hm
  ·cases hl:o.live with
   | false=>cases o<;>simp_all [Obj.live,Zcb]
   | true =>obtain ⟨h1,h2,h3⟩:=hoth j o hj0 hj hl;exact (hr.obj j o h1).keep le hm h2 (λk hk=>hf.block k (hr.lt h1 hl hk) (h3 k hk))
 ·have key:∀(j:Nat) (o:Obj) (k:Nat),j≠i0->h'[j]?=some o->o.live=true->Bk o0 (β' i0) k->Bk o (β' j) k->False:=by
   intro j o k hj hjo hl hk hk';obtain ⟨h1,h2,h3⟩:=hoth j o hj hjo hl;rw[h2] at hk';rcases hb k hk with hfr | ⟨i,o',hi,hl',hbi,hor⟩
   ·have:=hr.lt h1 hl hk';omega
   ·have:i=j:=hr.sep i j o' o k hi hl' h1 hl hbi hk';subst this;rcases hor with e | e
    ·exact hj e
    ·rw[e o hjo] at hl;cases hl
  intro i j o o' k hi hl hj hl' hbi hbj;by_cases hi0:i=i0
  ·by_cases hj0:j=i0
   ·rw[hi0,hj0]
   ·subst hi0;rw[h0] at hi;injection hi with hi;subst hi;exact (key j o' k hj0 hj hl' hbi hbj).elim
  ·by_cases hj0:j=i0
   ·subst hj0;rw[h0] at hj;injection hj with hj;subst hj;exact (key i o k hi0 hi hl hbj hbi).elim
   ·obtain ⟨a1,a2,_⟩:=hoth i o hi0 hi hl;obtain ⟨b1,b2,_⟩:=hoth j o' hj0 hj hl';rw[a2] at hbi;rw[b2] at hbj;exact hr.sep i j o o' k a1 hl b1 hl' hbi hbj
 ·intro i o k hi hl hk;by_cases hi0:i=i0
  ·subst hi0;rw[h0] at hi;injection hi with hi;subst hi;rcases hb k hk with hfr | ⟨i',o',hi',hl',hbi,_⟩
   ·exact .inl (YaB hr.fr.size hfr)
   ·exact hr.mine i' o' k hi' hl' hbi
  ·obtain ⟨a1,a2,_⟩:=hoth i o hi0 hi hl;rw[a2] at hk;exact hr.mine i o k a1 hl hk
 ·intro i o k hi hl hk;by_cases hi0:i=i0
  ·subst hi0;rw[h0] at hi;injection hi with hi;subst hi;rcases hb k hk with hfr | ⟨i',o',hi',hl',hbi,_⟩
   ·intro hv;have:=hr.vlt k hv;omega
   ·exact hr.vout i' o' k hi' hl' hbi
  ·obtain ⟨a1,a2,_⟩:=hoth i o hi0 hi hl;rw[a2] at hk;exact hr.vout i o k a1 hl hk
 ·intro k hk;exact Ya2 (hr.vlt k hk) hf.size
 ·refine ⟨hf.os.trans hr.fr.os,hf.tape.trans hr.fr.tape,hf.output.trans hr.fr.output,YaB hr.fr.size hf.size,λk hk hn=>?_⟩;rw[hf.block k (Ya2 hk hr.fr.size) (λhg=>?_)]
  ·exact hr.fr.block k hk hn
  ·obtain ⟨i,o,hi,hl,hbk⟩:=hG k hg;rcases hr.mine i o k hi hl hbk with hm | hm
   ·omega
   ·exact hn hm
def upf (β:Nat->Value) (i:Nat) (v:Value):Nat->Value:=λk=>if k=i then v else β k
theorem Zbt (β:Nat->Value) (i:Nat) (v:Value):upf β i v i=v:=by simp[upf]
theorem Zdq {β:Nat->Value} {i k:Nat} {v:Value} (h:k≠i):upf β i v k=β k:=by simp[upf,h]
theorem Zdo (h:Zad) (β:Nat->Value) (o:Obj) (v:Value):LeH h β (h++[o]) (upf β h.length v):=by intro i o' ho;have hl:i < h.length:=(Yaa.1 ho).1;exact ⟨o',by rw[Yaj hl];exact ho,OLe.refl o',λ_=>Zdq (by omega)⟩
theorem Zll {h:Zad} {β:Nat->Value} {o0:Obj} {v:Value} {G:Nat->Prop} (hG:∀k,¬ G k):∀(j:Nat) (o:Obj),j≠h.length->(h++[o0])[j]?=some o->o.live=true->h[j]?=some o/\upf β h.length v j=β j/\∀k,Bk o (β j) k->¬ G k:=by
 intro j o hj ho hl;have hlt:j < h.length:=by have:=(Yaa.1 ho).1;simp at this;omega
 rw[Yaj hlt] at ho;exact ⟨ho,Zdq hj,λk _=>hG k⟩
theorem Zd3 (w:World) (o:Go.Obj):Fr (λ_=>False) w (w.alloc o):=Fr.alloc _ w o
theorem RelD.alloc_blk (hr:RelD C h β V w) (cs:List D) (vs:List Value) (t:TypeId) (hc:Zac h β V w cs vs) :
  RelD C (h++[.blk cs t]) (upf β h.length (.pointer (some ⟨w.heap.size,0,none⟩))) V (w.alloc (.cells ⟨vs⟩ t)):=by
 refine hr.upd (G:=λ_=>False) (Zd3 w _) h.length (.blk cs t) (by simp) (Zll (λ_ h=>h)) (Zdo _ _ _ _) (λk hk=>hk.elim) (λhm=>?_) (λk hk=>?_)
 ·exact ⟨w.heap.size,vs,Zbt _ _ _,heap_alloc_new w _,Zac.mono (Zdo _ _ _ _) hm _ _ hc⟩
 ·rw[Zbt] at hk;simp[Bk,bk] at hk;exact .inl (by omega)
theorem RelD.alloc_row (hr:RelD C h β V w) (xs:List (List GV)) (vs:List Value) (cap:Nat) (cur:Array Value) (e:TypeId) (sz:Nat) (hx:∀r∈xs,r.length=sz) (h0:0 < sz) (hv:Za9 V w xs.flatten vs)
  (hnc:xs.length<=cap) (hcm:cap<=maxLen) (hsz:cur.size=cap*sz) (ht:cur.toList.take (xs.length*sz)=vs) :
  RelD C (h++[.row xs e sz]) (upf β h.length (.slice (some ⟨w.heap.size,0,none⟩) xs.length cap)) V (w.alloc (.cells cur e)):=by
 refine hr.upd (G:=λ_=>False) (Zd3 w _) h.length (.row xs e sz) (by simp) (Zll (λ_ h=>h)) (Zdo _ _ _ _) (λk hk=>hk.elim) (λhm=>?_) (λk hk=>?_)
 ·refine ⟨vs,?_,Za9.move hm _ _ hv,hx,h0⟩;rw[Zbt];refine ⟨?_,.inr ⟨w.heap.size,cap,cur,rfl,Yau _,heap_alloc_new w _,hnc,hcm,hsz,ht⟩⟩;rw[<- ht,Yan,show cur.toList.length=cap*sz from by rw[Array.length_toList (xs:=cur),hsz]];exact Ybb (YaQ _ hnc)
 ·rw[Zbt] at hk;simp[Bk,bk] at hk;exact .inl (by omega)
theorem Zs8 {h:Zad} {β:Nat->Value} {i0:Nat} {o0:Obj} {G:Nat->Prop} (hG:∀(j:Nat) (o:Obj) (k:Nat),j≠i0->h[j]?=some o->o.live=true->Bk o (β j) k->¬ G k):∀(j:Nat) (o:Obj),j≠i0->(h.set i0 o0)[j]?=some o->o.live=true->h[j]?=some o/\β j=β j/\∀k,Bk o (β j) k->¬ G k:=by intro j o hj ho hl;rw[YaR (λe=>hj e.symm)] at ho;exact ⟨ho,rfl,λk hk=>hG j o k hj ho hl hk⟩
theorem Zcv {h:Zad} {β:Nat->Value} {i:Nat} {o o':Obj} (hi:h[i]?=some o) (hle:OLe o o'):LeH h β (h.set i o') β:=by
 intro j oj hj;by_cases hij:j=i
 ·subst hij;rw[hi] at hj;injection hj with hj;subst hj;exact ⟨o',by simp[(List.getElem?_eq_some_iff.1 hi).1],hle,λ_=>rfl⟩
 ·exact ⟨oj,by rw[YaR (λe=>hij e.symm)];exact hj,OLe.refl _,λ_=>rfl⟩
theorem RelD.set_blk (hr:RelD C h β V w) {i:Nat} {cs:List D} {t:TypeId} (hi:h[i]?=some (.blk cs t)) {g:Nat} (hg:β i=.pointer (some ⟨g,0,none⟩)) (cs':List D) (vs':List Value) (hc:Zac h β V w cs' vs') :
  RelD C (h.set i (.blk cs' t)) β V (w.setRow g ⟨vs'⟩):=by
 obtain ⟨g',vs,hb,hgg,hcs⟩:=hr.obj i _ hi;have e:g'=g:=by rw[hb] at hg;simpa using hg
 subst e;refine hr.upd (G:=λk=>k=g') (Fr.setRow w g' _) i (.blk cs' t) (by simp[(List.getElem?_eq_some_iff.1 hi).1]) (Zs8 (λj o k hj ho hl hk hkg=>?_)) (Zcv hi trivial) (λk hk=>⟨i,_,hi,rfl,by subst hk;rw[hb];rfl⟩) (λhm=>?_) (λk hk=>.inr ⟨i,_,hi,rfl,hk,.inl rfl⟩)
 ·subst hkg;exact hj (hr.sep j i o _ k ho hl hi rfl hk (by rw[hb];rfl))
 ·exact ⟨g',vs',hb,setRow_heap w g' _ _ _ _ hgg,Zac.mono (Zcv hi (o':=.blk cs' t) trivial) hm _ _ hc⟩
theorem RelD.set_row (hr:RelD C h β V w) {i:Nat} {xs:List (List GV)} {e:TypeId} {sz:Nat} (hi:h[i]?=some (.row xs e sz)) {g n c:Nat} (hg:β i=.slice (some ⟨g,0,none⟩) n c) (xs':List (List GV)) (vs':List Value) (hv:Za9 V w xs'.flatten vs')
  (hx:∀r∈xs',r.length=sz) (hlen:xs'.length=xs.length) (cur':Array Value) (hcur:∀cur,w.heap[g]?=some (.cells cur e (0,0))->cur'.size=cur.size) (ht:cur'.toList.take (xs.length*sz)=vs') :
  RelD C (h.set i (.row xs' e sz)) β V (w.setRow g cur'):=by
 obtain ⟨vs,hown,hvs,hxs,h0⟩:=hr.obj i _ hi;have hbk:bk (β i)=some g:=by rw[hg];rfl
 refine hr.upd (G:=λk=>k=g) (Fr.setRow w g _) i (.row xs' e sz) (by simp[(List.getElem?_eq_some_iff.1 hi).1]) (Zs8 (λj o k hj ho hl hk hkg=>?_)) (Zcv hi ⟨hlen.symm,rfl⟩) (λk hk=>⟨i,_,hi,rfl,by subst hk;exact hbk⟩) (λhm=>?_) (λk hk=>.inr ⟨i,_,hi,rfl,hk,.inl rfl⟩)
 ·subst hkg;exact hj (hr.sep j i o _ k ho hl hi rfl hk hbk)
 ·refine ⟨vs',?_,Za9.move hm _ _ hv,hx,h0⟩;rcases hown.2 with ⟨hnil,_⟩ | ⟨g',cap,cur,hv',hb0,hh,hnc,hcm,hsz,htk⟩
  ·rw[hnil] at hg;cases hg
  ·have eg:g'=g:=by rw[hv'] at hg;injection hg with e1 _ _;injection e1 with e1;injection e1
   subst eg;have hcs:=hcur cur hh;have hle:xs.length*sz<=cap*sz:=YaQ _ hnc;refine ⟨?_,.inr ⟨g',cap,cur',by rw[hlen];exact hv',hb0,setRow_heap w g' _ _ _ _ hh,by rw[hlen];exact hnc,hcm,by rw[hcs];exact hsz,by rw[hlen];exact ht⟩⟩;rw[<- ht,Yan,show cur'.toList.length=cap*sz from by rw[Array.length_toList (xs:=cur'),hcs,hsz],hlen];exact Ybb hle
theorem RelD.grow_row (hr:RelD C h β V w) {i:Nat} {xs0:List (List GV)} {e0:TypeId} {sz0:Nat} (hi:h[i]?=some (.row xs0 e0 sz0)) (xs:List (List GV)) (vs:List Value) (v':Value) (e:TypeId) (sz:Nat)
  (hv:Za9 V w xs.flatten vs) (hx:∀r∈xs,r.length=sz) (h0:0 < sz) (hown:w'.ownsRow 0 e sz v' xs.length vs) (hg:w.grownBy w' (β i).ownBlock)
  (hb:v'.ownBlock=(β i).ownBlock\/v'.ownBlock=some w.heap.size) :
  RelD C (h.set i .dead++[.row xs e sz]) (upf β h.length v') V w':=by
 obtain ⟨vs0,hown0,_⟩:=hr.obj i _ hi;have hil:i < h.length:=(Yaa.1 hi).1;have hlen:(h.set i .dead).length=h.length:=by simp
 have hget:∀j,j < h.length->j≠i->(h.set i .dead++[Obj.row xs e sz])[j]?=h[j]?:=by intro j hj hji;rw[Yaj (by simpa using hj),YaR (λe=>hji e.symm)]
 have hgi:(h.set i .dead++[Obj.row xs e sz])[i]?=some .dead:=by rw[Yaj (by simpa using hil)];simp[hil]
 have le:LeH h β (h.set i .dead++[Obj.row xs e sz]) (upf β h.length v'):=by
  intro j oj hj;have hjl:j < h.length:=(Yaa.1 hj).1;by_cases hji:j=i
  ·subst hji;exact ⟨.dead,hgi,by cases oj<;>trivial,λh=>by cases h⟩
  ·exact ⟨oj,by rw[hget j hjl hji];exact hj,OLe.refl _,λ_=>Zdq (by omega)⟩
 refine hr.upd (G:=λk=>some k=(β i).ownBlock) ⟨hg.os,hg.tape,hg.output,hg.size,λk hk hn=>hg.block k hk hn⟩ h.length (.row xs e sz) (by rw[Yak (by simp)];simp) (λj o hj ho hl=>?_) le (λk hk=>⟨i,_,hi,rfl,Zgz hown0 hk.symm⟩) (λhm=>?_) (λk hk=>?_)
 ·have hjl:j < h.length:=by have:=(Yaa.1 ho).1;simp at this;omega
  by_cases hji:j=i
  ·subst hji;rw[hgi] at ho;injection ho with ho;subst ho;cases hl
  ·rw[hget j hjl hji] at ho;refine ⟨ho,Zdq hj,λk hk hkg=>?_⟩;exact hji (hr.sep j i o _ k ho hl hi rfl hk (Zgz hown0 hkg.symm))
 ·refine ⟨vs,?_,Za9.move hm _ _ hv,hx,h0⟩;rw[Zbt];exact hown
 ·rw[Zbt] at hk;have hk:=Zly hown hk;rcases hb with hb | hb
  ·refine .inr ⟨i,_,hi,rfl,Zgz hown0 (by rw[<- hb];exact hk),.inr (λo' ho'=>?_)⟩;rw[hgi] at ho';injection ho' with ho';subst ho';rfl
  ·rw[hk] at hb;injection hb with hb;exact .inl (by omega)
theorem RelD.grow_nil (hr:RelD C h β V w) (xs:List (List GV)) (vs:List Value) (v':Value) (e:TypeId) (sz:Nat)
  (hv:Za9 V w xs.flatten vs) (hx:∀r∈xs,r.length=sz) (h0:0 < sz) (hown:w'.ownsRow 0 e sz v' xs.length vs) (hg:w.grownBy w' none)
  (hb:v'.ownBlock=none\/v'.ownBlock=some w.heap.size) :
  RelD C (h++[.row xs e sz]) (upf β h.length v') V w':=by
 refine hr.upd (G:=λ_=>False) ⟨hg.os,hg.tape,hg.output,hg.size,λk hk hn=>hg.block k hk (by simp)⟩ h.length (.row xs e sz) (by simp) (Zll (λ_ h=>h)) (Zdo _ _ _ _) (λk hk=>hk.elim) (λhm=>?_) (λk hk=>?_)
 ·refine ⟨vs,?_,Za9.move hm _ _ hv,hx,h0⟩;rw[Zbt];exact hown
 ·rw[Zbt] at hk;have hk:=Zly hown hk;rw[hk] at hb;simp at hb;exact .inl (by omega)
end
inductive Src where
 | old (i:Nat)
 | nil (e:TypeId) (sz:Nat)
 | many0
def kp:List Src->Nat->Nat->Option Nat
 | [],_,_=>none
 | .old j :: l,p,i=>bif Nat.beq j i then some p else kp l (p+1) i
 | .nil _ _ :: l,p,i=>kp l (p+1) i
 | .many0 :: l,p,i=>kp l (p+1) i
def ZdG:List Src->Bool
 | []=>true
 | .old j :: l=>(match kp l 0 j with | some _=>false | none=>true) && ZdG l
 | .nil _ sz :: l=>Nat.blt 0 sz && ZdG l
 | .many0 :: l=>ZdG l
def Zh5:List D->Option (List GV)
 | []=>some []
 | .g x :: l=>match Zh5 l with
  | some gs=>some (x :: gs)
  | none=>none
 | _ :: _=>none
def conv (h:Zad) (src:List Src):Nat->D->D
 | 0,_=>.any
 | n+1,d=>match d with
  | .row i=>match kp src 0 i with
   | some j=>.row j
   | none=>match h[i]? with
    | some (.row xs _ sz)=>.g (.sl sz xs)
    | _=>.any
  | .rs i lo m=>match kp src 0 i with
   | some j=>.rs j lo m
   | none=>match h[i]? with
    | some (.row xs _ sz)=>.g (.sl sz ((xs.drop lo).take m))
    | _=>.any
  | .ptr i off=>match kp src 0 i with
   | some j=>.ptr j off
   | none=>match h[i]? with
    | some (.blk cs _)=>match Zh5 cs with
     | some gs=>.fp gs off
     | none=>.any
    | _=>.any
  | .el i j off=>match kp src 0 i with
   | some i'=>.el i' j off
   | none=>.any
  | .fn f fs cs=>.fn f (fs.map (conv h src n)) (cs.map (conv h src n))
  | .iface t x=>.iface t (conv h src n x)
  | .agg cs=>.agg (cs.map (conv h src n))
  | .tuple vs=>.tuple (vs.map (conv h src n))
  | d=>d
def ids:Nat->D->List Nat
 | 0,_=>[]
 | n+1,d=>match d with
  | .row i=>[i]
  | .rs i _ _=>[i]
  | .ptr i _=>[i]
  | .el i _ _=>[i]
  | .fn _ fs cs=>fs.flatMap (ids n)++cs.flatMap (ids n)
  | .iface _ x=>ids n x
  | .agg cs=>cs.flatMap (ids n)
  | .tuple vs=>vs.flatMap (ids n)
  | _=>[]
def Zov (src:List Src):List (Value × Nat)->List (Value × Nat)
 | []=>[]
 | (v,q) :: l=>match kp src 0 q with
  | some j=>(v,j) :: Zov src l
  | none=>Zov src l
def Za7 (h:Zad) (src:List Src):Src->Obj
 | .old i=>match h[i]? with
  | some (.blk cs t)=>.blk (cs.map (conv h src 3)) t
  | some (.row xs e sz)=>.row xs e sz
  | some (.many l ts)=>.many l (Zov src ts)
  | _=>.dead
 | .nil e sz=>.row [] e sz
 | .many0=>.many [] []
def Zbu (h:Zad) (src:List Src):Zad:=src.map (Za7 h src)
def Za4 (src:List Src) (β:Nat->Value) (j:Nat):Value:=match src[j]? with
 | some (.old i)=>β i
 | _=>.slice none 0 0
theorem Zeb:∀{src:List Src} {p i q:Nat},kp src p i=some q->p<=q/\src[q - p]?=some (.old i)
 | [],p,i,q,h=>by simp[kp] at h
 | .old j :: l,p,i,q,h=>by
  simp only[kp] at h;cases hb:Nat.beq j i with
  | true =>rw[hb] at h;simp at h;subst h;have:=Yap hb;subst this;exact ⟨Yax _,by simp⟩
  | false =>rw[hb] at h;simp only[cond_false] at h;obtain ⟨h1,h2⟩:=Zeb h;refine ⟨by omega,?_⟩;rw[show q - p=(q - (p+1))+1 from by omega];simpa using h2
 | .nil e sz :: l,p,i,q,h=>by simp only[kp] at h;obtain ⟨h1,h2⟩:=Zeb h;refine ⟨by omega,?_⟩;rw[show q - p=(q - (p+1))+1 from by omega];simpa using h2
 | .many0 :: l,p,i,q,h=>by simp only[kp] at h;obtain ⟨h1,h2⟩:=Zeb h;refine ⟨by omega,?_⟩;rw[show q - p=(q - (p+1))+1 from by omega];simpa using h2
theorem Zi7 {src:List Src}:∀{ts:List (Value × Nat)} {t:Value × Nat},t∈Zov src ts->∃q,(t.1,q)∈ts/\kp src 0 q=some t.2
 | [],t,h=>by simp[Zov] at h
 | (v,q) :: l,t,h=>by
  simp only[Zov] at h;split at h
  ·rename_i j hj;rcases Yav.1 h with rfl | h
   ·exact ⟨q,Yac,hj⟩
   ·obtain ⟨q',h1,h2⟩:=Zi7 h;exact ⟨q',Yad _ h1,h2⟩
  ·obtain ⟨q',h1,h2⟩:=Zi7 h;exact ⟨q',Yad _ h1,h2⟩
theorem ZrQ:∀{src:List Src} {p i j:Nat},src[j]?=some (.old i)->∃q,kp src p i=some q
 | [],p,i,j,h=>by simp at h
 | .old j' :: l,p,i,j,h=>by
  simp only[kp];cases hb:Nat.beq j' i with
  | true=>exact ⟨p,rfl⟩
  | false =>
   cases j with
   | zero=>simp at h;subst h;rw[YaO] at hb;cases hb
   | succ j=>exact ZrQ (by simpa using h)
 | .nil e sz :: l,p,i,j,h=>by
  simp only[kp];cases j with
  | zero=>simp at h
  | succ j=>exact ZrQ (by simpa using h)
 | .many0 :: l,p,i,j,h=>by
  simp only[kp];cases j with
  | zero=>simp at h
  | succ j=>exact ZrQ (by simpa using h)
theorem Zno:∀{src:List Src},ZdG src=true->∀{i a b:Nat},src[a]?=some (.old i)->src[b]?=some (.old i)->a=b
 | [],_,i,a,b,h,_=>by simp at h
 | .old j :: l,hs,i,a,b,ha,hb=>by
  simp only[ZdG,Yaf] at hs;have no:∀c:Nat,l[c]?≠some (Src.old j):=by intro c hc;obtain ⟨q,hq⟩:=ZrQ (p:=0) hc;rw[hq] at hs;exact absurd hs.1 (by simp)
  cases a with
  | zero =>
   cases b with
   | zero=>rfl
   | succ b=>simp at ha hb;subst ha;exact absurd hb (no b)
  | succ a =>
   cases b with
   | zero=>simp at ha hb;subst hb;exact absurd ha (no a)
   | succ b=>rw[Zno hs.2 (i:=i) (a:=a) (b:=b) (by simpa using ha) (by simpa using hb)]
 | .nil e sz :: l,hs,i,a,b,ha,hb=>by
  simp only[ZdG,Yaf] at hs;cases a with
  | zero=>simp at ha
  | succ a =>
   cases b with
   | zero=>simp at hb
   | succ b=>rw[Zno hs.2 (i:=i) (a:=a) (b:=b) (by simpa using ha) (by simpa using hb)]
 | .many0 :: l,hs,i,a,b,ha,hb=>by
  simp only[ZdG] at hs;cases a with
  | zero=>simp at ha
  | succ a =>
   cases b with
   | zero=>simp at hb
   | succ b=>rw[Zno hs (i:=i) (a:=a) (b:=b) (by simpa using ha) (by simpa using hb)]
theorem ZgN:∀{src:List Src},ZdG src=true->∀{a e sz:Nat},src[a]?=some (.nil e sz)->0 < sz
 | [],_,a,e,sz,h=>by simp at h
 | .old j :: l,hs,a,e,sz,h=>by
  simp only[ZdG,Yaf] at hs;cases a with
  | zero=>simp at h
  | succ a=>exact ZgN hs.2 (by simpa using h)
 | .nil e' sz' :: l,hs,a,e,sz,h=>by
  simp only[ZdG,Yaf] at hs;cases a with
  | zero=>simp at h;obtain ⟨rfl,rfl⟩:=h;exact Yaw hs.1
  | succ a=>exact ZgN hs.2 (by simpa using h)
 | .many0 :: l,hs,a,e,sz,h=>by
  simp only[ZdG] at hs;cases a with
  | zero=>simp at h
  | succ a=>exact ZgN hs (by simpa using h)
theorem Zhw {h:Zad} {β:Nat->Value} {V:Nat->Prop} {w:World}:∀{cs:List D} {gs:List GV} {vs:List Value},Zh5 cs=some gs->Zac h β V w cs vs->Za9 V w gs vs
 | [],gs,vs,hp,hr=>by simp[Zh5] at hp;subst hp;simp only[Zac] at hr;subst hr;trivial
 | d :: cs,gs,vs,hp,hr=>by
  simp only[Zac] at hr;obtain ⟨v,us,rfl,h1,h2⟩:=hr;cases d<;>simp only[Zh5] at hp<;>try (cases hp;done)
  rename_i x;cases hl:Zh5 cs with
  | none=>rw[hl] at hp;cases hp
  | some gs' =>rw[hl] at hp;simp at hp;subst hp;simp only[Zaa] at h1;exact ⟨h1,Zhw hl h2⟩
section
variable {C:Ctx} {h h':Zad} {β β':Nat->Value} {V V':Nat->Prop} {w w':World} {src:List Src}
theorem Zek {i:Nat} {xs:List (List GV)} {e sz:Nat} (ho:Zcb h β V w i (.row xs e sz)) (hV:∀k,V k->V' k) (hb:∀k,bk (β i)=some k->V' k):ZaW V' w (.sl sz xs) (β i):=by
 obtain ⟨vs,hown,hv,hx,h0⟩:=ho;have hv':Za9 V' w xs.flatten vs:=Za9.move (λk hk=>⟨hV k hk,rfl⟩) _ _ hv;rcases hown.2 with ⟨hn,h1⟩ | ⟨g,cap,cur,hbv,hb0,hg,hnc,hcm,hsz,ht⟩
 ·have:xs=[]:=Ybi h1;subst this;rw[hn];exact ZaW.sl_nil sz
 ·rw[hbv];refine ZaW.sl_of hnc (λ_=>⟨hb g (by rw[hbv];rfl),Zav.of_flat xs vs 0 hx hv' (λj v hj=>?_)⟩);have:=hown.cells (g:=g) (by rw[hbv];rfl) j v hj;rw[show 0*sz+j=j from by omega];exact this
mutual
theorem ZqT (hr:RelD C h β V w) (Z:Nat->Prop) (hV:∀k,V k->V' k) (hZ:∀(i:Nat) (o:Obj) (k:Nat),Z i->h[i]?=some o->o.live=true->Bk o (β i) k->V' k) :
  ∀(n:Nat) (d:D) (v:Value),(∀i∈ids n d,kp src 0 i=none->Z i)->Zaa h β V w d v->Zaa (Zbu h src) (Za4 src β) V' w (conv h src n d) v
 | 0,d,v,_,_=>by simp only[conv,Zaa]
 | n+1,.g x,v,hz,hd=>by simp only[conv,Zaa] at hd ⊢;exact ZaW.move (λk hk=>⟨hV k hk,rfl⟩) _ _ hd
 | n+1,.pb p,v,hz,hd=>by simp only[conv,Zaa] at hd ⊢;exact hd
 | n+1,.pn p,v,hz,hd=>by simp only[conv,Zaa] at hd ⊢;exact hd
 | n+1,.nils,v,hz,hd=>by simp only[conv,Zaa] at hd ⊢;exact hd
 | n+1,.row i,v,hz,hd=>by
  simp only[conv];cases hk:kp src 0 i with
  | some j =>
   obtain ⟨_,hj⟩:=Zeb hk;have hj:src[j]?=some (.old i):=hj;simp only[Zaa] at hd ⊢;have hT:(Zbu h src)[j]?=some (Za7 h src (.old i)):=by simp[Zbu,hj]
   have hB:Za4 src β j=β i:=by simp[Za4,hj]
   rw[hT,hB];cases ho:h[i]? with
   | none=>rw[ho] at hd;exact hd.elim
   | some o=>rw[ho] at hd;cases o<;>simp_all [Za7]
  | none =>
   cases ho:h[i]? with
   | none=>simp only[Zaa]
   | some o =>
    cases o with
    | blk cs t=>simp only[Zaa]
    | many l ts=>simp only[Zaa]
    | dead=>simp only[Zaa]
    | row xs e sz =>simp only[Zaa] at hd ⊢;rw[ho] at hd;simp only at hd;subst hd;exact Zek (hr.obj i _ ho) hV (λk hk'=>hZ i _ k (hz i (by simp[ids]) hk) ho rfl hk')
 | n+1,.rs i lo m,v,hz,hd=>by
  simp only[conv];cases hk:kp src 0 i with
  | some j =>
   obtain ⟨_,hj⟩:=Zeb hk;have hj:src[j]?=some (.old i):=hj;simp only[Zaa] at hd ⊢;have hT:(Zbu h src)[j]?=some (Za7 h src (.old i)):=by simp[Zbu,hj]
   have hB:Za4 src β j=β i:=by simp[Za4,hj]
   rw[hT,hB];cases ho:h[i]? with
   | none=>rw[ho] at hd;exact hd.elim
   | some o=>rw[ho] at hd;cases o<;>simp_all [Za7]
  | none =>
   cases ho:h[i]? with
   | none=>simp only[Zaa]
   | some o =>
    cases o with
    | blk cs t=>simp only[Zaa]
    | many l ts=>simp only[Zaa]
    | dead=>simp only[Zaa]
    | row xs e sz =>simp only[Zaa] at hd ⊢;rw[ho] at hd;simp only at hd;obtain ⟨hlm,A,q,cap,hb,rfl⟩:=hd;have hfz:=Zek (hr.obj i _ ho) hV (λk hk'=>hZ i _ k (hz i (by simp[ids]) hk) ho rfl hk');rw[hb] at hfz;have:=hfz.piece (l:=lo) (hh:=lo+m) (by omega) hlm;rw[Yco,Yb8] at this;exact this
 | n+1,.ptr i off,v,hz,hd=>by
  simp only[conv];cases hk:kp src 0 i with
  | some j =>
   obtain ⟨_,hj⟩:=Zeb hk;have hj:src[j]?=some (.old i):=hj;simp only[Zaa] at hd ⊢;have hT:(Zbu h src)[j]?=some (Za7 h src (.old i)):=by simp[Zbu,hj]
   have hB:Za4 src β j=β i:=by simp[Za4,hj]
   rw[hT,hB];cases ho:h[i]? with
   | none=>rw[ho] at hd;exact hd.elim
   | some o=>rw[ho] at hd;cases o<;>simp_all [Za7]
  | none =>
   cases ho:h[i]? with
   | none=>simp only[Zaa]
   | some o =>
    cases o with
    | row xs e sz=>simp only[Zaa]
    | many l ts=>simp only[Zaa]
    | dead=>simp only[Zaa]
    | blk cs t =>
     simp only;cases hp:Zh5 cs with
     | none=>simp only[Zaa]
     | some gs =>
      simp only[Zaa] at hd ⊢;rw[ho] at hd;simp only at hd;obtain ⟨g,hb,rfl⟩:=hd;obtain ⟨g',vs,hb',hg,hc⟩:=hr.obj i _ ho;have e:g'=g:=by rw[hb] at hb';injection hb' with hb';injection hb' with hb';injection hb' with hb';exact hb'.symm
      subst e;refine ⟨⟨g',0,none⟩,by rw[Zcm,YaA],hZ i _ g' (hz i (by simp[ids]) hk) ho rfl (by rw[hb];rfl),ZaG.of_cells gs vs 0 (Za9.move (λk hk=>⟨hV k hk,rfl⟩) _ _ (Zhw hp hc)) (λj u hj=>?_)⟩;rw[Zcm,cell_of_row w _ _ _ _ _ hg];simpa using hj
 | n+1,.el i j off,v,hz,hd=>by
  simp only[conv];cases hk:kp src 0 i with
  | some q =>
   obtain ⟨_,hj⟩:=Zeb hk;have hj:src[q]?=some (.old i):=hj;simp only[Zaa] at hd ⊢;have hT:(Zbu h src)[q]?=some (Za7 h src (.old i)):=by simp[Zbu,hj]
   have hB:Za4 src β q=β i:=by simp[Za4,hj]
   rw[hT,hB];cases ho:h[i]? with
   | none=>rw[ho] at hd;exact hd.elim
   | some o=>rw[ho] at hd;cases o<;>simp_all [Za7]
  | none=>simp only[Zaa]
 | n+1,.fp r off,v,hz,hd=>by simp only[conv,Zaa] at hd ⊢;obtain ⟨a,hv,hVa,hrow⟩:=hd;exact ⟨a,hv,hV _ hVa,ZaG.move (λk hk=>⟨hV k hk,rfl⟩) hVa _ _ hrow⟩
 | n+1,.nilP,v,hz,hd=>by simp only[conv,Zaa] at hd ⊢;exact hd
 | n+1,.nilF,v,hz,hd=>by simp only[conv,Zaa] at hd ⊢;exact hd
 | n+1,.nilI,v,hz,hd=>by simp only[conv,Zaa] at hd ⊢;exact hd
 | n+1,.fn f fs cs,v,hz,hd=>by simp only[conv,Zaa] at hd ⊢;obtain ⟨us,ts,hv,h1,h2⟩:=hd;exact ⟨us,ts,hv,Zcj hr Z hV hZ n fs us (λd hd i hi=>hz i (by simp only[ids,Yao,Ybe];exact .inl ⟨d,hd,hi⟩)) h1,Zcj hr Z hV hZ n cs ts (λd hd i hi=>hz i (by simp only[ids,Yao,Ybe];exact .inr ⟨d,hd,hi⟩)) h2⟩
 | n+1,.iface t x,v,hz,hd=>by simp only[conv,Zaa] at hd ⊢;obtain ⟨u,hv,h1⟩:=hd;exact ⟨u,hv,ZqT hr Z hV hZ n x u (λi hi=>hz i (by simp only[ids];exact hi)) h1⟩
 | n+1,.agg cs,v,hz,hd=>by simp only[conv,Zaa] at hd ⊢;obtain ⟨us,hv,h1⟩:=hd;exact ⟨us,hv,Zcj hr Z hV hZ n cs us (λd hd i hi=>hz i (by simp only[ids,Ybe];exact ⟨d,hd,hi⟩)) h1⟩
 | n+1,.tuple cs,v,hz,hd=>by simp only[conv,Zaa] at hd ⊢;obtain ⟨us,hv,h1⟩:=hd;exact ⟨us,hv,Zcj hr Z hV hZ n cs us (λd hd i hi=>hz i (by simp only[ids,Ybe];exact ⟨d,hd,hi⟩)) h1⟩
 | n+1,.any,v,hz,hd=>by simp only[conv,Zaa]
theorem Zcj (hr:RelD C h β V w) (Z:Nat->Prop) (hV:∀k,V k->V' k) (hZ:∀(i:Nat) (o:Obj) (k:Nat),Z i->h[i]?=some o->o.live=true->Bk o (β i) k->V' k) :
  ∀(n:Nat) (ds:List D) (vs:List Value),(∀d∈ds,∀i∈ids n d,kp src 0 i=none->Z i)->Zac h β V w ds vs->Zac (Zbu h src) (Za4 src β) V' w (ds.map (conv h src n)) vs
 | n,[],vs,_,hd=>by simp only[Zac,YaS] at hd ⊢;exact hd
 | n,d :: ds,vs,hz,hd=>by simp only[Zac,Yar] at hd ⊢;obtain ⟨v,us,hv,h1,h2⟩:=hd;exact ⟨v,us,hv,ZqT hr Z hV hZ n d v (hz d Yac) h1,Zcj hr Z hV hZ n ds us (λd hd=>hz d (Yad _ hd)) h2⟩
end
def ZmD (h:Zad) (src:List Src) (β:Nat->Value) (V:Nat->Prop):Nat->Prop:=λk=>V k\/∃i o,kp src 0 i=none/\h[i]?=some o/\o.live=true/\Bk o (β i) k
theorem ZsQ (hr:RelD C h β V w) (n:Nat) (d:List D) (v:List Value) (hd:Zac h β V w d v):Zac (Zbu h src) (Za4 src β) (ZmD h src β V) w (d.map (conv h src n)) v :=
 Zcj hr (λi=>kp src 0 i=none) (λ_ hk=>.inl hk) (λi o _ h1 h2 h3 h4=>.inr ⟨i,o,h1,h2,h3,h4⟩) n d v (λ_ _ _ _ h=>h) hd
theorem ZsT {ts:List (Value × Nat)} (h3:∀t∈ts,Zpy h β t) {t:Value × Nat} (ht:t∈Zov src ts):Zpy (Zbu h src) (Za4 src β) t:=by
 obtain ⟨q,hq,hk⟩:=Zi7 ht;have hj:src[t.2]?=some (.old q):=(Zeb hk).2;obtain ⟨o,ho,hb⟩:=h3 _ hq;refine ⟨Za7 h src (.old q),by simp[Zbu,hj],λhl=>?_⟩;have:Za4 src β t.2=β q:=by simp[Za4,hj]
 rw[this];exact hb (by cases o<;>simp_all [Za7,Obj.live])
theorem Zvs (hr:RelD C h β V w) (hs:ZdG src=true):RelD C (Zbu h src) (Za4 src β) (ZmD h src β V) w:=by
 have at_:∀(j:Nat) (o:Obj),(Zbu h src)[j]?=some o->∃s,src[j]?=some s/\o=Za7 h src s:=by
  intro j o hj;unfold Zbu at hj;rw[YaC] at hj;cases hsj:src[j]? with
  | none=>rw[hsj] at hj;cases hj
  | some s=>rw[hsj] at hj;simp at hj;exact ⟨s,rfl,hj.symm⟩
 have old:∀(j:Nat) (o:Obj) (k:Nat),(Zbu h src)[j]?=some o->o.live=true->Bk o (Za4 src β j) k->∃i o',src[j]?=some (.old i)/\h[i]?=some o'/\o'.live=true/\Bk o' (β i) k:=by
  intro j o k hj hl hk;obtain ⟨s,hsj,rfl⟩:=at_ j o hj;cases s with
  | nil e sz=>simp[Za7,Bk,Za4,hsj,bk] at hk
  | many0=>simp[Za7,Bk] at hk
  | old i =>
   have hB:Za4 src β j=β i:=by simp[Za4,hsj]
   rw[hB] at hk;cases ho:h[i]? with
   | none=>simp[Za7,ho,Obj.live] at hl
   | some o' =>
    cases o' with
    | dead=>simp[Za7,ho,Obj.live] at hl
    | blk cs t=>exact ⟨i,_,hsj,ho,rfl,by simpa only[Za7,ho,Bk] using hk⟩
    | row xs e sz=>exact ⟨i,_,hsj,ho,rfl,by simpa only[Za7,ho,Bk] using hk⟩
    | many l ts=>exact ⟨i,_,hsj,ho,rfl,by simpa only[Za7,ho,Bk] using hk⟩
 refine ⟨?_,?_,?_,?_,?_,?_,?_,hr.fr,hr.gl.move (λk hk=>⟨.inl hk,rfl⟩)⟩
 ·intro j o hj;obtain ⟨s,hsj,rfl⟩:=at_ j o hj;cases s with
  | nil e sz =>
   have hB:Za4 src β j=.slice none 0 0:=by simp[Za4,hsj]
   refine ⟨[],?_,trivial,λr hr=>by simp at hr,ZgN hs hsj⟩;rw[hB];exact World.ownsRow_nil w 0 e sz
  | many0 =>simp only[Za7,Zcb];exact ⟨λp hp=>(by simp at hp),List.Pairwise.nil,λt ht=>(by simp at ht)⟩
  | old i =>
   have hB:Za4 src β j=β i:=by simp[Za4,hsj]
   cases ho:h[i]? with
   | none=>simp[Za7,ho,Zcb]
   | some o' =>
    cases o' with
    | dead=>simp[Za7,ho,Zcb]
    | blk cs t =>obtain ⟨g,vs,hb,hg,hc⟩:=hr.obj i _ ho;simp only[Za7,ho,Zcb];exact ⟨g,vs,hB.trans hb,hg,ZsQ hr 3 _ _ hc⟩
    | row xs e sz =>obtain ⟨vs,hown,hv,hx,h0⟩:=hr.obj i _ ho;simp only[Za7,ho,Zcb];exact ⟨vs,by rw[hB];exact hown,Za9.move (λk hk=>⟨.inl hk,rfl⟩) _ _ hv,hx,h0⟩
    | many l ts =>obtain ⟨h1,h2,h3⟩:=hr.obj i _ ho;simp only[Za7,ho,Zcb];exact ⟨λp hp=>(h1 p hp).keep (λk hk=>⟨.inl hk,rfl⟩) (λ_ _=>rfl),h2,λt ht=>ZsT h3 ht⟩
 ·intro a b o o' k ha hla hb hlb hka hkb;obtain ⟨i,oi,hi1,hi2,hi3,hi4⟩:=old a o k ha hla hka;obtain ⟨j,oj,hj1,hj2,hj3,hj4⟩:=old b o' k hb hlb hkb;have:=hr.sep i j oi oj k hi2 hi3 hj2 hj3 hi4 hj4;subst this;exact Zno hs hi1 hj1
 ·intro j o k hj hl hk;obtain ⟨i,oi,hi1,hi2,hi3,hi4⟩:=old j o k hj hl hk;exact hr.mine i oi k hi2 hi3 hi4
 ·intro j o k hj hl hk hv;obtain ⟨i,oi,hi1,hi2,hi3,hi4⟩:=old j o k hj hl hk;rcases hv with hv | ⟨i',o',hn,h1,h2,h3⟩
  ·exact hr.vout i oi k hi2 hi3 hi4 hv
  ·have:=hr.sep i i' oi o' k hi2 hi3 h1 h2 hi4 h3;subst this;obtain ⟨q,hq⟩:=ZrQ (p:=0) hi1;rw[hn] at hq;cases hq
 ·intro k hk;rcases hk with hk | ⟨i,o,_,h1,h2,h3⟩
  ·exact hr.vlt k hk
  ·exact hr.lt h1 h2 h3
 ·intro k hk;exact .inl (hr.vin k hk)
 ·intro k hk;rcases hk with hk | ⟨i,o,_,h1,h2,h3⟩
  ·exact hr.vnew k hk
  ·exact .inr (hr.mine i o k h1 h2 h3)
end
def ZlK (R:D->D->Prop):List D->List D->Prop
 | [],[]=>True
 | d :: ds,e :: es=>R d e/\ZlK R ds es
 | _,_=>False
def ZiV (N:Nat->Bool):Nat->D->D->Prop
 | 0,d,d'=>d=d'
 | n+1,d,d'=>d=d'\/match d,d' with
  | _,.any=>True
  | .pb p,.pb q=>(p↔q)
  | .pb p,.g (.bool b)=>(b=true↔p)
  | .pn p,.pb q=>(¬p↔q)
  | .pn p,.g (.bool b)=>(b=true↔¬p)
  | .g (.bool b),.pb q=>(b=true↔q)
  | .g (.int a),.g (.int b)=>a=b
  | .g (.str a),.g (.str b)=>a=b
  | .g (.sl k a),.g (.sl k' b)=>k=k'/\a=b
  | .nils,.g (.sl _ xs)=>xs=[]
  | .nils,.row j=>N j=true
  | .agg cs,.agg ds=>ZlK (ZiV N n) cs ds
  | .tuple cs,.tuple ds=>ZlK (ZiV N n) cs ds
  | .fn f fs cs,.fn g gs ds=>f=g/\ZlK (ZiV N n) fs gs/\ZlK (ZiV N n) cs ds
  | .iface t x,.iface t' x'=>t=t'/\ZiV N n x x'
  | _,_=>False
section
variable {h:Zad} {β:Nat->Value} {V:Nat->Prop} {w:World} {N:Nat->Bool}
theorem ZcG {R:D->D->Prop} (hR:∀d d' v,R d d'->Zaa h β V w d v->Zaa h β V w d' v):∀(ds es:List D) (vs:List Value),ZlK R ds es->Zac h β V w ds vs->Zac h β V w es vs
 | [],[],vs,_,hr=>hr
 | [],_ :: _,_,hl,_=>hl.elim
 | _ :: _,[],_,hl,_=>hl.elim
 | d :: ds,e :: es,vs,hl,hr=>by simp only[Zac] at hr ⊢;obtain ⟨v,us,hv,h1,h2⟩:=hr;exact ⟨v,us,hv,hR d e v hl.1 h1,ZcG hR ds es us hl.2 h2⟩
theorem ZiK (hN:∀j,N j=true->β j=.slice none 0 0/\∃xs e sz,h[j]?=some (.row xs e sz)):∀(n:Nat) (d d':D) (v:Value),ZiV N n d d'->Zaa h β V w d v->Zaa h β V w d' v:=by
 intro n
 induction n with
 | zero=>intro d d' v hl hr;simp only[ZiV] at hl;subst hl;exact hr
 | succ n ih =>
  intro d d' v hl hr;simp only[ZiV] at hl;rcases hl with rfl | hl
  ·exact hr
  ·split at hl
   ·simp only[Zaa]
   ·simp only[Zaa] at hr ⊢;obtain ⟨b,hv,hb⟩:=hr;exact ⟨b,hv,hb.trans hl⟩
   ·simp only[Zaa] at hr ⊢;obtain ⟨b,hv,hb⟩:=hr;rename_i p c;have:b=c:=by cases b<;>cases c<;>simp_all
    subst this;simpa [ZaW] using hv
   ·simp only[Zaa] at hr ⊢;obtain ⟨b,hv,hb⟩:=hr;exact ⟨b,hv,hb.trans hl⟩
   ·simp only[Zaa] at hr ⊢;obtain ⟨b,hv,hb⟩:=hr;rename_i p c;have:b=c:=by
     have:=hb.trans hl.symm;cases b<;>cases c<;>simp_all
    subst this;simpa [ZaW] using hv
   ·simp only[Zaa,ZaW] at hr ⊢;exact ⟨_,hr,hl⟩
   ·subst hl;exact hr
   ·subst hl;exact hr
   ·obtain ⟨rfl,rfl⟩:=hl;exact hr
   ·subst hl;simp only[Zaa] at hr ⊢;subst hr;exact ZaW.sl_nil _
   ·simp only[Zaa] at hr ⊢;obtain ⟨h1,xs,e,sz,h2⟩:=hN _ hl;rw[h2,hr,h1]
   ·simp only[Zaa] at hr ⊢;obtain ⟨us,hv,h1⟩:=hr;exact ⟨us,hv,ZcG ih _ _ _ hl h1⟩
   ·simp only[Zaa] at hr ⊢;obtain ⟨us,hv,h1⟩:=hr;exact ⟨us,hv,ZcG ih _ _ _ hl h1⟩
   ·obtain ⟨rfl,l1,l2⟩:=hl;simp only[Zaa] at hr ⊢;obtain ⟨us,ts,hv,h1,h2⟩:=hr;exact ⟨us,ts,hv,ZcG ih _ _ _ l1 h1,ZcG ih _ _ _ l2 h2⟩
   ·obtain ⟨rfl,l1⟩:=hl;simp only[Zaa] at hr ⊢;obtain ⟨us,hv,h1⟩:=hr;exact ⟨us,hv,ih _ _ _ l1 h1⟩
   ·exact hl.elim
end
def N0:Nat->Bool:=λ_=>false
def ZdX (ds es:List D):Prop:=ds=es\/ZlK (ZiV N0 4) ds es
theorem Znk {h:Zad} {β:Nat->Value} {V:Nat->Prop} {w:World} {ds es:List D} {vs:List Value} (hl:ZdX ds es) (hr:Zac h β V w ds vs):Zac h β V w es vs:=by
 rcases hl with rfl | hl
 ·exact hr
 ·exact ZcG (ZiK (N:=N0) (λj h=>by cases h) 4) _ _ _ hl hr
def ZlJ (N:Nat->Bool):Obj->Obj->Prop
 | _,.dead=>True
 | .blk cs t,.blk ds t'=>t=t'/\(cs=ds\/ZlK (ZiV N 4) cs ds)
 | .row xs e sz,.row ys e' sz'=>xs=ys/\e=e'/\sz=sz'
 | .many l ts,.many l' ts'=>l.Perm l'/\ts=ts'
 | _,_=>False
def Zj9 (N:Nat->Bool):Zad->Zad->Prop
 | [],[]=>True
 | a :: l,b :: m=>ZlJ N a b/\Zj9 N l m
 | _,_=>False
theorem ZcH {N:Nat->Bool}:∀{h h':Zad},Zj9 N h h'->(∀(i:Nat) (o:Obj),h[i]?=some o->∃o',h'[i]?=some o'/\ZlJ N o o')/\∀(i:Nat) (o':Obj),h'[i]?=some o'->∃o,h[i]?=some o/\ZlJ N o o'
 | [],[],_=>⟨λi o h=>by simp at h,λi o h=>by simp at h⟩
 | [],_ :: _,h=>h.elim
 | _ :: _,[],h=>h.elim
 | a :: l,b :: m,h=>by
  obtain ⟨h1,h2⟩:=ZcH h.2;refine ⟨λi o hi=>?_,λi o hi=>?_⟩
  ·cases i with
   | zero=>simp at hi;subst hi;exact ⟨b,rfl,h.1⟩
   | succ i=>obtain ⟨o',h3,h4⟩:=h1 i o (by simpa using hi);exact ⟨o',by simpa using h3,h4⟩
  ·cases i with
   | zero=>simp at hi;subst hi;exact ⟨a,rfl,h.1⟩
   | succ i=>obtain ⟨o',h3,h4⟩:=h2 i o (by simpa using hi);exact ⟨o',by simpa using h3,h4⟩
theorem ZlI {N:Nat->Bool} {o o':Obj} (h:ZlJ N o o'):OLe o o':=by
 cases o<;>cases o'<;>simp_all [ZlJ,OLe]
theorem Zc6 {N:Nat->Bool} {o o':Obj} (h:ZlJ N o o') (hl:o'.live=true):o.live=true:=by
 cases o<;>cases o'<;>simp_all [ZlJ,Obj.live]
theorem ZfJ {N:Nat->Bool} {o o':Obj} (h:ZlJ N o o') (hl:o'.live=true) {v:Value} {k:Nat} (hk:Bk o' v k):Bk o v k:=by
 cases o' with
 | dead=>cases hl
 | blk cs t=>cases o<;>first | exact h.elim | exact hk
 | row xs e sz=>cases o<;>first | exact h.elim | exact hk
 | many l ts =>
  cases o with
  | many l' ts' =>obtain ⟨p,h1,h2⟩:=hk;exact ⟨p,h.1.mem_iff.2 h1,h2⟩
  | _=>exact h.elim
theorem Zvf.symm {p q:Value × Ob0} (h:Zvf p q):Zvf q p:=λk hq hp=>h k hp hq
theorem ZlL {N:Nat->Bool} {h h':Zad} {β:Nat->Value} (hl:Zj9 N h h'):LeH h β h' β:=λi o hi=>by obtain ⟨o',h1,h2⟩:=(ZcH hl).1 i o hi;exact ⟨o',h1,ZlI h2,λ_=>rfl⟩
theorem Znj {N:Nat->Bool} {C:Ctx} {h h':Zad} {β:Nat->Value} {V:Nat->Prop} {w:World} (hr:RelD C h β V w) (hl:Zj9 N h h') (hN:∀j,N j=true->β j=.slice none 0 0/\∃xs e sz,h[j]?=some (.row xs e sz)) (hN':∀j,N j=true->∃xs e sz,h'[j]?=some (.row xs e sz)):RelD C h' β V w:=by
 have hle:LeH h β h' β:=ZlL hl;refine ⟨λi o' hi=>?_,λi j o o' k hi hli hj hlj hki hkj=>?_,λi o k hi hli hk=>?_,λi o k hi hli hk=>?_,hr.vlt,hr.vin,hr.vnew,hr.fr,hr.gl⟩
 ·obtain ⟨o,ho,hlo⟩:=(ZcH hl).2 i o' hi;have hob:=hr.obj i o ho;cases o' with
  | dead=>trivial
  | blk ds t' =>
   cases o with
   | blk cs t =>
    obtain ⟨rfl,hcs⟩:=hlo;obtain ⟨g,vs,hb,hg,hc⟩:=hob;refine ⟨g,vs,hb,hg,?_⟩;have hc':=Zac.mono hle (ZaB.refl V w) _ _ hc;rcases hcs with rfl | hcs
    ·exact hc'
    ·exact ZcG (ZiK (N:=N) (λj hj=>⟨(hN j hj).1,hN' j hj⟩) 4) _ _ _ hcs hc'
   | _=>exact hlo.elim
  | row ys e' sz' =>
   cases o with
   | row xs e sz=>obtain ⟨rfl,rfl,rfl⟩:=hlo;exact hob
   | _=>exact hlo.elim
  | many l' ts' =>
   cases o with
   | many l ts =>obtain ⟨hp,rfl⟩:=hlo;exact ⟨λp hp'=>hob.1 p (hp.mem_iff.2 hp'),(hp.pairwise_iff (λh=>h.symm)).1 hob.2.1,λt ht=>(hob.2.2 t ht).le hle⟩
   | _=>exact hlo.elim
 ·obtain ⟨a,ha,hla⟩:=(ZcH hl).2 i o hi;obtain ⟨b,hb,hlb⟩:=(ZcH hl).2 j o' hj;exact hr.sep i j a b k ha (Zc6 hla hli) hb (Zc6 hlb hlj) (ZfJ hla hli hki) (ZfJ hlb hlj hkj)
 ·obtain ⟨a,ha,hla⟩:=(ZcH hl).2 i o hi;exact hr.mine i a k ha (Zc6 hla hli) (ZfJ hla hli hk)
 ·obtain ⟨a,ha,hla⟩:=(ZcH hl).2 i o hi;exact hr.vout i a k ha (Zc6 hla hli) (ZfJ hla hli hk)
def Zjs (src:List Src) (j:Nat):Bool:=match src[j]? with
 | some (.nil _ _)=>true
 | _=>false
theorem ZlA {h:Zad} {src:List Src} {β:Nat->Value} {j:Nat} (hj:Zjs src j=true):Za4 src β j=.slice none 0 0/\∃xs e sz,(Zbu h src)[j]?=some (.row xs e sz):=by
 unfold Zjs at hj;split at hj
 ·rename_i e sz hs;exact ⟨by simp[Za4,hs],[],e,sz,by simp[Zbu,hs,Za7]⟩
 ·cases hj
def Zmt:List Src->Zad->Bool
 | [],_=>true
 | .old _ :: l,_ :: h=>Zmt l h
 | .nil _ _ :: l,.row _ _ _ :: h=>Zmt l h
 | .many0 :: l,_ :: h=>Zmt l h
 | _,_=>false
theorem Zgi:∀{src:List Src} {h:Zad},Zmt src h=true->∀j,Zjs src j=true->∃xs e sz,h[j]?=some (.row xs e sz)
 | [],h,_,j,hj=>by simp[Zjs] at hj
 | .old i :: l,[],hn,_,_=>by simp[Zmt] at hn
 | .old i :: l,o :: h,hn,0,hj=>by simp[Zjs] at hj
 | .old i :: l,o :: h,hn,j+1,hj=>by simp only[Zmt] at hn;obtain ⟨xs,e,sz,h1⟩:=Zgi hn j (by simpa [Zjs] using hj);exact ⟨xs,e,sz,by simpa using h1⟩
 | .many0 :: l,[],hn,_,_=>by simp[Zmt] at hn
 | .many0 :: l,o :: h,hn,0,hj=>by simp[Zjs] at hj
 | .many0 :: l,o :: h,hn,j+1,hj=>by simp only[Zmt] at hn;obtain ⟨xs,e,sz,h1⟩:=Zgi hn j (by simpa [Zjs] using hj);exact ⟨xs,e,sz,by simpa using h1⟩
 | .nil e sz :: l,h,hn,j,hj=>by
  cases h with
  | nil=>simp[Zmt] at hn
  | cons o h =>
   cases o with
   | row xs e' sz' =>
    cases j with
    | zero=>exact ⟨xs,e',sz',rfl⟩
    | succ j =>simp only[Zmt] at hn;obtain ⟨xs,e,sz,h1⟩:=Zgi hn j (by simpa [Zjs] using hj);exact ⟨xs,e,sz,by simpa using h1⟩
   | _=>simp[Zmt] at hn
theorem Zc7 (N:Nat->Bool):∀h:Zad,Zj9 N h h
 | []=>trivial
 | .blk cs t :: h=>⟨⟨rfl,.inl rfl⟩,Zc7 N h⟩
 | .row xs e sz :: h=>⟨⟨rfl,rfl,rfl⟩,Zc7 N h⟩
 | .many l ts :: h=>⟨⟨Yag _,rfl⟩,Zc7 N h⟩
 | .dead :: h=>⟨by simp[ZlJ],Zc7 N h⟩
structure TurnTo (h:Zad) (src:List Src) (ds:List D) (h':Zad) (ds':List D):Prop where
 ok:ZdG src=true
 hp:Zbu h src=h'\/Zj9 (Zjs src) (Zbu h src) h'
 dl:ds.map (conv h src 4)=ds'\/ZlK (ZiV (Zjs src) 4) (ds.map (conv h src 4)) ds'
 nr:Zmt src h'=true
theorem TurnTo.use {h h':Zad} {src:List Src} {ds ds':List D} (ht:TurnTo h src ds h' ds') {C:Ctx} {β:Nat->Value} {V:Nat->Prop} {w:World} (hr:RelD C h β V w) {vs:List Value} (hd:Zac h β V w ds vs) :
  RelD C h' (Za4 src β) (ZmD h src β V) w/\Zac h' (Za4 src β) (ZmD h src β V) w ds' vs:=by
 have h1:=Zvs (src:=src) hr ht.ok;have h2:=ZsQ (src:=src) hr 4 _ _ hd;have hhp:Zj9 (Zjs src) (Zbu h src) h':=by
  rcases ht.hp with e | e
  ·rw[<- e];exact Zc7 _ _
  ·exact e
 have h3:=Znj h1 hhp (λj hj=>ZlA hj) (Zgi ht.nr);refine ⟨h3,?_⟩;have h4:=Zac.mono (ZlL (β:=Za4 src β) hhp) (ZaB.refl _ w) _ _ h2;rcases ht.dl with h | h
 ·rw[<- h];exact h4
 ·exact ZcG (ZiK (N:=Zjs src) (λj hj=>⟨(ZlA (h:=[]) hj).1,Zgi ht.nr j hj⟩) 4) _ _ _ h h4
theorem lk {N:Nat->Bool} {n:Nat} {d d':D} (e:d=d'):ZiV N (n+1) d d':=.inl e
theorem lkI {N:Nat->Bool} {n:Nat} {a b:Int} (e:a=b):ZiV N (n+1) (.g (.int a)) (.g (.int b)):=.inr e
theorem lkL {N:Nat->Bool} {n k:Nat} {a b:List (List GV)} (e:a=b):ZiV N (n+1) (.g (.sl k a)) (.g (.sl k b)):=.inr ⟨rfl,e⟩
theorem lkP {N:Nat->Bool} {n:Nat} {a b:Prop} (e:a↔b):ZiV N (n+1) (.pb a) (.pb b):=.inr e
theorem Zst {N:Nat->Bool} {n:Nat} {p:Prop} {b:Bool} (e:b=true↔p):ZiV N (n+1) (.g (.bool b)) (.pb p):=.inr e
theorem Zg0 {N:Nat->Bool} {n k:Nat}:ZiV N (n+1) .nils (.g (.sl k [])):=.inr rfl
def I64 (x:Int):Prop:=-9223372036854775808<=x/\x<=9223372036854775807
theorem I64.wrap {x:Int} (h:I64 x):IntKind.i64.wrap x=x:=ZrV.of h.1 h.2
def of1:Value->D
 | .int .i64 n=>.g (.int n)
 | .int .u8 n=>.g (.u8 n)
 | .bool b=>.g (.bool b)
 | .string s=>.g (.str s.data.toList)
 | .slice none 0 0=>.nils
 | .pointer none=>.nilP
 | .nilFunc=>.nilF
 | .nilIface=>.nilI
 | _=>.any
def ofV:Value->D
 | .agg ⟨cs⟩=>.agg (cs.map of1)
 | v=>of1 v
abbrev Env:=Nat->D
def Env.set (e:Env) (d:Nat) (x:D):Env:=λi=>bif Nat.beq i d then x else e i
structure St where
 env:Env
 h:Zad
 df:List Deferred
def glD:Gl->Nat->D
 | [],_=>.any
 | (b',cs) :: l,b=>bif Nat.beq b' b then .fp cs 0 else glD l b
def sv (G:Gl) (st:St):Operand->D
 | .tmp t=>st.env t
 | .const v=>ofV v
 | .global b=>glD G b
 | .func f=>.fn f [] []
def Zec (h:Zad):D->Bool
 | .agg _ | .any | .tuple _=>false
 | .row i | .rs i _ _ | .el i _ _=>match h[i]? with
  | some (.row _ _ _)=>true
  | _=>false
 | .ptr i _=>match h[i]? with
  | some (.blk _ _)=>true
  | _=>false
 | _=>true
def ZhL (h:Zad):List D->Bool
 | []=>true
 | d :: ds=>Zec h d && ZhL h ds
def ZeX (h:Zad):D->Option (List D)
 | .agg cs=>bif ZhL h cs then some cs else none
 | d=>bif Zec h d then some [d] else none
def Zdy {α:Type}:List α->Nat->List α->List α
 | l,_,[]=>l
 | l,k,v :: vs=>Zdy (l.set k v) (k+1) vs
def Zke (place:Nat->Option (Nat × Nat)):List D->List (Nat × List D)->Option (List D)
 | cs,[]=>some cs
 | cs,(i,v) :: rest =>
  match place i with
  | none=>none
  | some (off,size)=>bif Nat.beq v.length size && Nat.ble (off+size) cs.length then Zke place (Zdy cs off v) rest else none
def Zlp (sz:Nat):Nat->List (Nat × List D)->Nat->Bool
 | i,[],len=>Nat.beq i len
 | i,(j,v) :: l,len=>Nat.beq j i && (Nat.beq v.length sz && Zlp sz (i+1) l len)
def Zup:List (Nat × List D)->List D
 | []=>[]
 | (_,v) :: l=>v++Zup l
def ZcD (h:Zad) (f:Operand->D):List (Nat × Operand)->Option (List (Nat × List D))
 | []=>some []
 | (i,o) :: l=>match ZeX h (f o),ZcD h f l with
  | some ds,some r=>some ((i,ds) :: r)
  | _,_=>none
def Zvh (z:List D):Nat->List D
 | 0=>[]
 | n+1=>z++Zvh z n
def Zzb (sz:Nat) (z:List D) (len:Nat) (ps:List (Nat × List D)):Option (List D):=bif Zlp sz 0 ps len then some (Zup ps) else Zke (λi=>some (i*sz,sz)) (Zvh z len) ps
def Zu7 (h:Zad):D->GV->Prop
 | .g x,y=>x=y
 | .pb p,y=>∃b,y=.bool b/\(b=true↔p)
 | .pn p,y=>∃b,y=.bool b/\(b=true↔¬p)
 | .nils,y=>∃k,y=.sl k []
 | .row i,y=>match h[i]? with
  | some (.row xs _ sz)=>.sl sz xs=y
  | _=>False
 | .rs i lo n,y=>match h[i]? with
  | some (.row xs _ sz)=>.sl sz ((xs.drop lo).take n)=y
  | _=>False
 | _,_=>False
def ZgC (h:Zad):List D->List GV->Prop
 | [],[]=>True
 | d :: ds,y :: ys=>Zu7 h d y/\ZgC h ds ys
 | _,_=>False
def Zra (sz:Nat):List (List GV)->Bool
 | []=>true
 | r :: l=>Nat.beq r.length sz && Zra sz l
def ZbS (h:Zad):List Nat->Zad
 | []=>h
 | i :: l=>ZbS (h.set i .dead) l
def ZcI:List D->List Nat
 | []=>[]
 | d :: l=>ids 4 d++ZcI l
def ZcF:Nat->D->Bool
 | 0,_=>false
 | n+1,d=>match d with
  | .g (.int _) | .g (.str _) | .g (.bool _) | .g (.u8 _) | .pb _ | .pn _ | .nils | .nilP | .nilF | .nilI=>true
  | .tuple ds | .agg ds=>ds.all (ZcF n)
  | .iface _ x=>ZcF n x
  | _=>false
def sh (m:Nat):Nat->D->D
 | 0,_=>.any
 | n+1,d=>match d with
  | .row i=>.row (i+m)
  | .rs i lo k=>.rs (i+m) lo k
  | .ptr i off=>.ptr (i+m) off
  | .el i j off=>.el (i+m) j off
  | .fn f fs cs=>.fn f (fs.map (sh m n)) (cs.map (sh m n))
  | .iface t x=>.iface t (sh m n x)
  | .agg cs=>.agg (cs.map (sh m n))
  | .tuple cs=>.tuple (cs.map (sh m n))
  | d=>d
def rnT (f:Nat->Nat):List (Value × Nat)->List (Value × Nat)
 | []=>[]
 | (v,q) :: l=>(v,f q) :: rnT f l
def shO (m:Nat):Obj->Obj
 | .blk cs t=>.blk (cs.map (sh m 4)) t
 | .many l ts=>.many l (rnT (·+m) ts)
 | o=>o
def ZrU {α:Type}:List α->Bool
 | []=>true
 | _=>false
def after (h:Zad) (l:List Nat) (d:D) (h':Zad):Zad:=bif ZcF 4 d && ZrU h' then h else ZbS h l++h'.map (shO h.length)
abbrev KD:=D->Zad->Prop
inductive Out where
 | ret (d:D) (h:Zad)
 | pan (d:D)
 | panH (d:D) (h:Zad)
def rnD (f:Nat->Nat):Nat->D->D
 | 0,_=>.any
 | n+1,d=>match d with
  | .row i=>.row (f i)
  | .rs i lo k=>.rs (f i) lo k
  | .ptr i off=>.ptr (f i) off
  | .el i j off=>.el (f i) j off
  | .fn g fs cs=>.fn g (fs.map (rnD f n)) (cs.map (rnD f n))
  | .iface t x=>.iface t (rnD f n x)
  | .agg cs=>.agg (cs.map (rnD f n))
  | .tuple cs=>.tuple (cs.map (rnD f n))
  | d=>d
def rnO (f:Nat->Nat):Obj->Obj
 | .blk cs t=>.blk (cs.map (rnD f 4)) t
 | .many l ts=>.many l (rnT f ts)
 | o=>o
def atN:List Nat->Nat->Nat
 | [],_=>0
 | a :: _,0=>a
 | _ :: l,n+1=>atN l n
def rnI (σ:List Nat) (b n i:Nat):Nat:=bif Nat.blt i b then atN σ i else i - b+n
def ZBC (src:List Src) (b:Nat) (f:Nat->Nat) (h':Zad) (p:Nat) (o:Obj):Obj:=match kp src 0 p with
 | none=>o
 | some k=>bif Nat.blt k b then (match h'[k]? with | some o'=>rnO f o' | none=>.dead) else .dead
def Zlu (src:List Src) (b:Nat) (f:Nat->Nat) (h':Zad):Nat->Zad->Zad
 | _,[]=>[]
 | p,o :: l=>ZBC src b f h' p o :: Zlu src b f h' (p+1) l
def Zhv (h:Zad) (σ:List Nat) (b:Nat) (h':Zad):Zad :=
 Zlu (σ.map .old) b (rnI σ b h.length) h' 0 h++(h'.drop b).map (rnO (rnI σ b h.length))
def inσ:List Nat->Nat->Bool
 | [],_=>false
 | a :: l,i=>Nat.beq a i || inσ l i
def ZB7:Obj->List Nat
 | .blk cs _=>ZcI cs
 | .many _ ts=>ts.map (·.2)
 | _=>[]
def orS (b:Bool) (A B:Prop):Prop:=bif b then A\/B else A
theorem ZtF {b:Bool} {A B:Prop} (h:A):orS b A B:=by cases b with | true=>exact Or.inl h | false=>exact h
theorem ZoV {b:Bool} {A B:Prop} (h:orS b A B):A\/B:=by cases b with | true=>exact h | false=>exact Or.inl h
def ZdO:Zad->Bool
 | []=>false
 | .many _ _ :: _=>true
 | _ :: l=>ZdO l
def Zo8 (h:Zad) (i:Nat):Bool:=match h[i]? with
 | some (.blk _ _)=>true
 | _=>false
def Zgw (h:Zad) (σ:List Nat) (all:List D):Bool:=(ZcI all).all (inσ σ) && σ.all λi=>match h[i]? with
 | some o=>(ZB7 o).all (inσ σ)
 | none=>false
def Zva (G:Gl) (Q:Out->Prop) (V:Nat->Prop) (w:World):Ending->World->Prop
 | .returned v,w'=>∃d h' β' V',Q (.ret d h')/\RelD ⟨w,λ_=>False,V,G⟩ h' β' V' w'/\Zaa h' β' V' w' d v
 | .panicked ch,w'=>∃d t u β' V',ch=[{ v:=.iface t u,recovered:=false }]/\Q (.pan d)/\RelD ⟨w,λ_=>False,V,G⟩ [] β' V' w'/\Zaa [] β' V' w' d (.iface t u)
 | .outgrown,_=>False
def CT (P:Program) (G:Gl) (g:FuncId) (as:List D) (Q:Out->Prop):Prop :=
 ∀(w:World) (V:Nat->Prop) (vals:List Value),(∀k,V k->k < w.heap.size)->Zok G V w->Zac [] (λ_=>undef) V w as vals->Calls P g ⟨vals⟩ w (Zva G Q V w)
def ZfS (h:Zad) (β:Nat->Value) (k:Nat):Prop:=∃i o,h[i]?=some o/\o.live=true/\Bk o (β i) k
def Zir (h h':Zad) (β β':Nat->Value) (i:Nat):Prop:=(∃o o',h[i]?=some o/\h'[i]?=some o'/\OLe o o'/\o'.live=true)/\β' i=β i
def ZzL (G:Gl) (Q:Out->Prop) (b:Nat) (hin:Zad) (β:Nat->Value) (V:Nat->Prop) (w:World):Ending->World->Prop
 | .returned v,w'=>∃d h' β' V',Q (.ret d h')/\RelD ⟨w,ZfS hin β,V,G⟩ h' β' V' w'/\Zaa h' β' V' w' d v/\∀i,i < b->Zir hin h' β β' i
 | .panicked ch,w'=>∃d h' t u β' V',ch=[{ v:=.iface t u,recovered:=false }]/\Q (.panH d h')/\RelD ⟨w,ZfS hin β,V,G⟩ h' β' V' w'/\Zaa h' β' V' w' d (.iface t u)/\∀i,i < b->Zir hin h' β β' i
 | .outgrown,_=>False
def CTH (P:Program) (G:Gl) (g:FuncId) (b:Nat) (hin:Zad) (as:List D) (Q:Out->Prop):Prop :=
 ∀(w:World) (β:Nat->Value) (V:Nat->Prop) (vals:List Value),RelD ⟨w,ZfS hin β,V,G⟩ hin β V w->Zac hin β V w as vals->Calls P g ⟨vals⟩ w (ZzL G Q b hin β V w)
def ZbB (P:Program) (G:Gl) (g:FuncId) (all:List D) (h:Zad) (K Qp:KD):Prop :=
 ∀(C:Ctx) (w:World) (β:Nat->Value) (V:Nat->Prop) (vals:List Value),C.G=G->RelD C h β V w->Zac h β V w all vals->Calls P g ⟨vals⟩ w fun
  | .returned v,w'=>∃d h' β' V',K d h'/\RelD C h' β' V' w'/\Zaa h' β' V' w' d v/\LeH h β h' β'/\ZaB V w V' w'
  | .panicked ch,w'=>∃d h' t u β' V',ch=[{ v:=.iface t u,recovered:=false }]/\Qp d h'/\RelD C h' β' V' w'/\Zaa h' β' V' w' d (.iface t u)/\LeH h β h' β'/\ZaB V w V' w'
  | .outgrown,_=>False
def CTR (P:Program) (G:Gl) (g:FuncId) (all:List D) (h:Zad) (d:D):Prop :=
 ∀(C:Ctx) (w:World) (β:Nat->Value) (V:Nat->Prop) (vals:List Value),C.G=G->RelD C h β V w->Zac h β V w all vals->Calls P g ⟨vals⟩ w fun
  | .returned v,w'=>RelD C h β V w'/\Zaa h β V w' d v/\ZaB V w V w'
  | _,_=>False
def Is (d:D):Out->Prop:=λo=>o=.ret d []
def Zb7 (P:Program) (G:Gl) (g:FuncId) (all:List D) (h:Zad) (K Qp:KD):Prop :=
 ∃(σ:List Nat) (b:Nat) (hin:Zad) (as:List D) (Q:Out->Prop),Zgw h σ all=true/\Nat.ble b σ.length=true/\TurnTo h (σ.map .old) all hin as/\CTH P G g b hin as Q /\
  (∀d h',Q (.ret d h')->K (rnD (rnI σ b h.length) 4 d) (Zhv h σ b h'))/\(∀d h',Q (.panH d h')->Qp (rnD (rnI σ b h.length) 4 d) (Zhv h σ b h'))
def Zfs (c:D) (A B:Prop):Prop :=
 match c with
 | .g (.bool true)=>A
 | .g (.bool false)=>B
 | .pb p=>(p->A)/\(¬p->B)
 | .pn p=>(¬p->A)/\(p->B)
 | _=>False
def Zoq (op:BinOp) (x y:D) (K:D->Prop):Prop :=
 match op,x,y with
 | .add,.g (.int a),.g (.int b)=>∃c,IntKind.i64.wrap (a+b)=c/\K (.g (.int c))
 | .sub,.g (.int a),.g (.int b)=>I64 (a - b)/\K (.g (.int (a - b)))
 | .mul,.g (.int a),.g (.int b)=>I64 (a*b)/\K (.g (.int (a*b)))
 | .add,.g (.u8 a),.g (.u8 b)=>K (.g (.u8 (IntKind.u8.wrap (a+b))))
 | .sub,.g (.u8 a),.g (.u8 b)=>K (.g (.u8 (IntKind.u8.wrap (a - b))))
 | .quo,.g (.int a),.g (.int b)=>b≠0/\I64 (a.tdiv b)/\K (.g (.int (a.tdiv b)))
 | .rem,.g (.int a),.g (.int b)=>b≠0/\K (.g (.int (a.tmod b)))
 | .and,.g (.int a),.g (.int b)=>∃c,(Op.intBits .and .i64 a b=pure (.int .i64 c))/\K (.g (.int c))
 | .or,.g (.int a),.g (.int b)=>∃c,(Op.intBits .or .i64 a b=pure (.int .i64 c))/\K (.g (.int c))
 | .xor,.g (.int a),.g (.int b)=>∃c,(Op.intBits .xor .i64 a b=pure (.int .i64 c))/\K (.g (.int c))
 | .shl,.g (.int a),.g (.int b)=>0<=b/\I64 (a*2 ^ (min b.toNat 64))/\K (.g (.int (a*2 ^ (min b.toNat 64))))
 | .shr,.g (.int a),.g (.int b)=>0<=b/\K (.g (.int (a.fdiv (2 ^ (min b.toNat 64)))))
 | .eql,.g (.int a),.g (.int b)=>K (.pb (a=b))
 | .neq,.g (.int a),.g (.int b)=>K (.pn (a=b))
 | .lss,.g (.int a),.g (.int b)=>K (.pb (a < b))
 | .leq,.g (.int a),.g (.int b)=>K (.pb (a<=b))
 | .gtr,.g (.int a),.g (.int b)=>K (.pb (b < a))
 | .geq,.g (.int a),.g (.int b)=>K (.pb (b<=a))
 | .eql,.g (.u8 a),.g (.u8 b)=>K (.pb (a=b))
 | .neq,.g (.u8 a),.g (.u8 b)=>K (.pn (a=b))
 | .lss,.g (.u8 a),.g (.u8 b)=>K (.pb (a < b))
 | .leq,.g (.u8 a),.g (.u8 b)=>K (.pb (a<=b))
 | .gtr,.g (.u8 a),.g (.u8 b)=>K (.pb (b < a))
 | .geq,.g (.u8 a),.g (.u8 b)=>K (.pb (b<=a))
 | .eql,.g (.str a),.g (.str b)=>K (.pb (a=b))
 | .neq,.g (.str a),.g (.str b)=>K (.pn (a=b))
 | .add,.g (.str a),.g (.str b)=>a.length+b.length<=9223372036854775807/\K (.g (.str (a++b)))
 | _,_,_=>False
def ZxV (op:BinOp) (x y:D) (K:D->Prop):Prop :=
 match op,x,y with
 | .eql,.g (.sl _ xs),.nils=>∀p:Prop,(p->xs=[])->K (.pb p)
 | .neq,.g (.sl _ xs),.nils=>∀p:Prop,(p->xs=[])->K (.pn p)
 | .eql,.nils,.nils=>K (.g (.bool true))
 | .neq,.nils,.nils=>K (.g (.bool false))
 | _,_,_=>False
def ZB3:Nat->Value->Prop
 | 0,.int .i64 _=>True
 | 1,.string _=>True
 | 2,.bool _=>True
 | _,_=>False
def Zt1:List Nat->List Value->Prop
 | [],[]=>True
 | k :: ks,v :: vs=>ZB3 k v/\Zt1 ks vs
 | _,_=>False
def ZCH (P:Program) (t:TypeId) (ks:List Nat):Prop :=
 ∀(xs ys:List Value) (op:BinOp) (ox oy:Operand) (w:World),Zt1 ks xs->Zt1 ks ys->(op=.eql\/op=.neq) ->
  ∃b:Bool,(do eqGuard op t ox oy (.agg ⟨xs⟩) (.agg ⟨ys⟩);binOp op t (.agg ⟨xs⟩) (.agg ⟨ys⟩)).run P w=.ok (.bool b) w/\(op=.eql->(b=true↔xs=ys))/\(op=.neq->(b=true↔¬xs=ys))
def Zkh:List D->List D->Option (List Nat × Prop)
 | [],[]=>some ([],True)
 | .g (.int a) :: l,.g (.int b) :: m=>match Zkh l m with
  | some (ks,p)=>some (0 :: ks,a=b/\p)
  | none=>none
 | .g (.str a) :: l,.g (.str b) :: m=>match Zkh l m with
  | some (ks,p)=>some (1 :: ks,a=b/\p)
  | none=>none
 | .g (.bool a) :: l,.g (.bool b) :: m=>match Zkh l m with
  | some (ks,p)=>some (2 :: ks,a=b/\p)
  | none=>none
 | _,_=>none
def Zi1 (P:Program) (t:TypeId) (op:BinOp) (x y:D) (K:D->Prop):Prop :=
 match op,x,y with
 | .eql,.agg cs,.agg ds=>match Zkh cs ds with
  | some (ks,p)=>ZCH P t ks/\K (.pb p)
  | none=>False
 | .neq,.agg cs,.agg ds=>match Zkh cs ds with
  | some (ks,p)=>ZCH P t ks/\K (.pn p)
  | none=>False
 | _,_,_=>False
def ZeY (s:List UInt8):List (List GV):=s.map λc=>[.u8 (c.toNat:Int)]
def asP:D->Option Prop
 | .pb p=>some p
 | .pn p=>some (¬p)
 | .g (.bool b)=>some (b=true)
 | _=>none
def Zey (op:BinOp) (x y:D) (K:D->Prop):Prop :=
 match op,asP x,asP y with
 | .eql,some p,some q=>K (.pb (p↔q))
 | .neq,some p,some q=>K (.pn (p↔q))
 | _,_,_=>False
def ZzX (op:UnOp) (x:D) (K:D->Prop):Prop :=
 match op,x with
 | .not,.pb p=>K (.pn p)
 | .not,.pn p=>K (.pb p)
 | .not,.g (.bool true)=>K (.g (.bool false))
 | .not,.g (.bool false)=>K (.g (.bool true))
 | .neg,.g (.int a)=>I64 (0 - a)/\K (.g (.int (0 - a)))
 | _,_=>False
def ldG (i:TI) (r:List GV) (off:Nat) (K:D->Prop):Prop :=
 match i.agg with
 | false=>match r[off]? with
  | some x=>K (.g x)
  | none=>False
 | true=>bif Nat.ble (off+i.size) r.length then K (.agg ((List.take i.size (r.drop off)).map .g)) else False
def ZCd (o:Option D) (K:D->Prop):Prop:=match o with
 | some d=>K d
 | none=>False
theorem Zug {o:Option D} {K:D->Prop} (h:ZCd o K):∃d,o=some d/\K d:=by
 cases o with
 | none=>exact h.elim
 | some d=>exact ⟨d,rfl,h⟩
theorem Zy3 {o:Option D} {K:D->Prop} {d:D} (h:o=some d) (k:K d):ZCd o K:=by rw[h];exact k
theorem Zh8 {i:TI} {r:List GV} {off:Nat} {K:D->Prop} {x:GV} (hi:i.agg=false) (h:r[off]?=some x) (k:K (.g x)):ldG i r off K:=by unfold ldG;rw[hi,h];exact k
def ZsA (T:Tab) (t:TypeId) (p:D) (h:Zad) (K:D->Prop):Prop :=
 match T t with
 | none=>False
 | some i =>
  match p with
  | .ptr j off =>
   match h[j]? with
   | some (.blk cs _)=>match i.agg with
    | false=>ZCd cs[off]? K
    | true=>bif Nat.ble (off+i.size) cs.length then K (.agg (List.take i.size (cs.drop off))) else False
   | _=>False
  | .el j k off =>
   match h[j]? with
   | some (.row xs _ _)=>∃r,xs[k]?=some r/\ldG i r off K
   | _=>False
  | .fp r off=>ldG i r off K
  | _=>False
def Zoo (T:Tab) (t:TypeId) (p:D) (y:D) (h:Zad) (K:Zad->Prop):Prop :=
 match T t with
 | none=>False
 | some i =>
  match ZeX h y with
  | none=>False
  | some ds=>bif Nat.beq ds.length i.size then
   match p with
   | .ptr j off =>
    match h[j]? with
    | some (.blk cs ty)=>bif Nat.ble (off+i.size) cs.length then K (h.set j (.blk (Zdy cs off ds) ty)) else False
    | _=>False
   | .el j k off =>
    match h[j]? with
    | some (.row xs e sz)=>∃r gs,xs[k]?=some r/\ZgC h ds gs/\off+i.size<=r.length/\j ∉ ZcI ds/\K (ZbS (h.set j (.row (xs.set k (Zdy r off gs)) e sz)) (ZcI ds))
    | _=>False
   | _=>False
   else False
def ZBz (h:Zad) (sz:Nat):D->Option (List (List GV))
 | .nils=>some []
 | .g (.sl k xs)=>bif Nat.beq k sz then some xs else none
 | .row j=>match h[j]? with
  | some (.row ys _ sz')=>bif Nat.beq sz' sz then some ys else none
  | _=>none
 | .rs j lo n=>match h[j]? with
  | some (.row ys _ sz')=>bif Nat.beq sz' sz then some ((ys.drop lo).take n) else none
  | _=>none
 | _=>none
def ZoL (ei:TI) (n:Nat):Prop:=n<=maxLen/\n*ei.bytes<=140737488355328
def Zlg (T:Tab) (t:TypeId) (x y:D) (h:Zad) (K:KD):Prop :=
 match T t with
 | some { kind:=.slice e,.. } =>
  match T e with
  | none=>False
  | some ei =>
   match ZBz h ei.size y with
   | none=>False
   | some news=>bif Nat.blt 0 ei.size then
    match x with
    | .nils=>ZoL ei news.length/\K (.row h.length) (h++[.row news e ei.size])
    | .row i=>match h[i]? with
     | some (.row xs e' sz')=>bif Nat.beq e' e && Nat.beq sz' ei.size then ZoL ei (xs.length+news.length)/\K (.row h.length) (h.set i .dead++[.row (xs++news) e ei.size]) else False
     | _=>False
    | .rs i 0 n=>match h[i]? with
     | some (.row xs e' sz')=>bif Nat.beq e' e && Nat.beq sz' ei.size then n<=xs.length/\ZoL ei (n+news.length)/\K (.row h.length) (h.set i .dead++[.row (xs.take n++news) e ei.size]) else False
     | _=>False
    | _=>False
    else False
 | _=>False
def Zop (T:Tab) (t:TypeId) (x:D) (lo hi:Option D) (h:Zad) (K:D->Prop):Prop :=
 match T t,x with
 | some { kind:=.str,.. },.g (.str s) =>
  match lo,hi with
  | none,none=>K (.g (.str s))
  | none,some p=>∃hh:Nat,p=.g (.int (hh:Int))/\hh<=s.length/\K (.g (.str (s.take hh)))
  | some p,none=>∃l:Nat,p=.g (.int (l:Int))/\l<=s.length/\K (.g (.str (s.drop l)))
  | some p,some q=>∃l hh:Nat,p=.g (.int (l:Int))/\q=.g (.int (hh:Int))/\l<=hh/\hh<=s.length/\K (.g (.str ((s.take hh).drop l)))
 | some { kind:=.slice e,.. },.g (.sl k xs) =>
  match T e with
  | none=>False
  | some ei=>bif Nat.beq k ei.size then
   match lo,hi with
   | none,none=>K (.g (.sl k xs))
   | none,some p=>∃hh:Nat,p=.g (.int (hh:Int))/\hh<=xs.length/\K (.g (.sl k (xs.take hh)))
   | some p,none=>∃l:Nat,p=.g (.int (l:Int))/\l<=xs.length/\K (.g (.sl k (xs.drop l)))
   | some p,some q=>∃l hh:Nat,p=.g (.int (l:Int))/\q=.g (.int (hh:Int))/\l<=hh/\hh<=xs.length/\K (.g (.sl k ((xs.take hh).drop l)))
   else False
 | some { kind:=.slice e,.. },.row i =>
  match T e,h[i]? with
  | some ei,some (.row xs _ sz)=>bif Nat.beq sz ei.size then
   match lo,hi with
   | none,none=>K (.row i)
   | none,some p=>∃hh:Nat,p=.g (.int (hh:Int))/\hh<=xs.length/\K (.rs i 0 hh)
   | some p,none=>∃l:Nat,p=.g (.int (l:Int))/\l<=xs.length/\K (.rs i l (xs.length - l))
   | some p,some q=>∃l hh:Nat,p=.g (.int (l:Int))/\q=.g (.int (hh:Int))/\l<=hh/\hh<=xs.length/\K (.rs i l (hh - l))
   else False
  | _,_=>False
 | some { kind:=.array n e,.. },.ptr i o=>match lo,hi,T e,h[i]? with
  | none,none,some ei,some (.blk cs _)=>bif Nat.ble (o+n*ei.size) cs.length && Nat.blt 0 n then K (.rs i o n) else False
  | _,_,_,_=>False
 | _,_=>False
def Zxj (T:Tab) (t:TypeId) (x y:D) (h:Zad) (K:KD):Prop :=
 match T t with
 | some { kind:=.slice e,.. }=>match T e with
  | some ei=>bif Nat.beq ei.size 1 then
   match x,ZBz h 1 y with
   | .rs i o n,some news=>match h[i]? with
    | some (.blk cs ty)=>bif Nat.ble (o+n) cs.length then ∃cs',cs'=Zdy cs o (((news.take n).flatten).map .g)/\K (.g (.int ((min news.length n:Nat):Int))) (h.set i (.blk cs' ty)) else False
    | _=>False
   | _,_=>False
   else False
  | none=>False
 | _=>False
def ZsE (T:Tab) (t:TypeId) (x:D) (h:Zad) (K:KD):Prop :=
 match T t with
 | some { kind:=.slice e,.. }=>match T e,x with
  | some ei,.rs i lo n=>match h[i]? with
   | some (.row xs e' sz)=>bif Nat.beq e' e && Nat.beq sz ei.size then
     0 < n/\lo+n<=xs.length/\∃z:List GV,ZgC [] (ei.zero.map of1) z/\K (.tuple []) (h.set i (.row (xs.take lo++(List.replicate n z++xs.drop (lo+n))) e sz)) else False
   | _=>False
  | _,_=>False
 | _=>False
def ZmB (i:TI) (x:D) (h:Zad) (K:D->Prop):Prop :=
 match i.kind,x with
 | .slice _,.g (.sl _ xs)=>K (.g (.int (xs.length:Int)))
 | .slice _,.nils=>K (.g (.int 0))
 | .slice _,.row j=>match h[j]? with
  | some (.row xs _ _)=>K (.g (.int (xs.length:Int)))
  | _=>False
 | .slice _,.rs j _ n=>match h[j]? with
  | some (.row _ _ _)=>K (.g (.int (n:Int)))
  | _=>False
 | .str,.g (.str s)=>K (.g (.int (s.length:Int)))
 | _,_=>False
def Zgb (T:Tab) (t:TypeId) (x ix:D) (h:Zad) (K:D->Prop):Prop :=
 match T t with
 | some { kind:=.slice e,.. }=>match T e,x with
  | some ei,.g (.sl k xs)=>bif Nat.beq k ei.size then ∃(j:Nat) (r:List GV),ix=.g (.int (j:Int))/\xs[j]?=some r/\K (.fp r 0) else False
  | some ei,.g (.raw v)=>∃(m q:Nat) (l:List (Value × Ob0)) (ts:List (Value × Nat)) (xs:List (List GV)) (ty:TypeId) (j:Nat),h[m]?=some (.many l ts)/\(v,q)∈ts/\h[q]?=some (.row xs ty ei.size)/\ix=.g (.int (j:Int))/\j < xs.length/\K (.el q j 0)
  | some ei,.row i=>match h[i]? with
   | some (.row xs _ sz)=>bif Nat.beq sz ei.size then ∃j:Nat,ix=.g (.int (j:Int))/\j < xs.length/\K (.el i j 0) else False
   | _=>False
  | some ei,.rs i lo n=>match h[i]? with
   | some (.row _ _ sz)=>bif Nat.beq sz ei.size then ∃j:Nat,ix=.g (.int (j:Int))/\j < n/\K (.el i (lo+j) 0) else False
   | _=>False
  | _,_=>False
 | some { kind:=.array n e,.. }=>match T e,x with
  | some ei,.ptr i o=>match h[i]? with
   | some (.blk _ _)=>∃j:Nat,ix=.g (.int (j:Int))/\j < n/\K (.ptr i (o+j*ei.size))
   | _=>False
  | some ei,.fp r o=>∃j:Nat,ix=.g (.int (j:Int))/\j < n/\K (.fp r (o+j*ei.size))
  | some ei,.el i k o=>match h[i]? with
   | some (.row _ _ _)=>∃j:Nat,ix=.g (.int (j:Int))/\j < n/\K (.el i k (o+j*ei.size))
   | _=>False
  | _,_=>False
 | _=>False
def Zb5:List D->(List D->Prop)->Prop
 | [],K=>K []
 | d :: l,K=>Zb5 l λl=>K (d :: l)
theorem ZaZ:∀(l:List D) (K:List D->Prop),Zb5 l K=K l
 | [],_=>rfl
 | d :: l,K=>by simp only[Zb5,ZaZ l]
def ZeW (d:D) (K:D->Prop):Prop :=
 match d with
 | .g x=>K (.g x)
 | .pb p=>K (.pb p)
 | .pn p=>K (.pn p)
 | .nils=>K .nils
 | .row i=>K (.row i)
 | .rs i lo n=>K (.rs i lo n)
 | .ptr i o=>K (.ptr i o)
 | .el i j o=>K (.el i j o)
 | .fp r o=>K (.fp r o)
 | .nilP=>K .nilP
 | .nilF=>K .nilF
 | .nilI=>K .nilI
 | .fn f fs cs=>K (.fn f fs cs)
 | .iface t x=>K (.iface t x)
 | .agg cs=>Zb5 cs λcs=>K (.agg cs)
 | .tuple cs=>Zb5 cs λcs=>K (.tuple cs)
 | .any=>K .any
theorem Zfk (d:D) (K:D->Prop):ZeW d K=K d:=by cases d<;>simp only[ZeW,ZaZ]
def Zep:Zad->(Zad->Prop)->Prop
 | [],K=>K []
 | .blk cs t :: l,K=>Zb5 cs λcs=>Zep l λl=>K (.blk cs t :: l)
 | .row xs e sz :: l,K=>Zep l λl=>K (.row xs e sz :: l)
 | .many xs ts :: l,K=>Zep l λl=>K (.many xs ts :: l)
 | .dead :: l,K=>Zep l λl=>K (.dead :: l)
theorem Zdj:∀(l:Zad) (K:Zad->Prop),Zep l K=K l
 | [],_=>rfl
 | .blk cs t :: l,K=>by simp only[Zep,ZaZ,Zdj l]
 | .row xs e sz :: l,K=>by simp only[Zep,Zdj l]
 | .many xs ts :: l,K=>by simp only[Zep,Zdj l]
 | .dead :: l,K=>by simp only[Zep,Zdj l]
def ZaK (P:Program) (T:Tab) (F:FuncId->Bool) (G:Gl) (o:Op) (st:St) (K:KD) (Qp:KD):Prop :=
 match o with
 | .move x=>K (sv G st x) st.h
 | .assign x=>K (sv G st x) st.h
 | .pick c a b=>Zfs (sv G st c) (K (sv G st a) st.h) (K (sv G st b) st.h)
 | .alloc t=>match T t with
  | none=>False
  | some i=>K (.ptr st.h.length 0) (st.h++[.blk (i.zero.map of1) t])
 | .box t x=>match ZeX st.h (sv G st x) with
  | none=>False
  | some ds=>K (.ptr st.h.length 0) (st.h++[.blk ds t])
 | .build t parts=>match T t with
  | some { kind:=.struct fs,zero:=z,.. }=>match ZcD st.h (sv G st) parts.toList with
   | none=>False
   | some ps=>match Zke (fs[·]?) (z.map of1) ps with
    | some cs=>K (.agg cs) st.h
    | none=>False
  | _=>False
 | .buildSlice t len parts=>match T t with
  | some { kind:=.slice e,.. }=>match T e with
   | some ei=>match ZcD st.h (sv G st) parts.toList with
    | none=>False
    | some ps=>match Zzb ei.size (ei.zero.map of1) len ps with
     | some cs=>bif Nat.ble (len*ei.size) 16777216 && Nat.blt 0 ei.size then
       ∃xs,xs.length=len/\Zra ei.size xs=true/\ZgC st.h cs xs.flatten/\K (.row st.h.length) (ZbS st.h (ZcI cs)++[.row xs e ei.size]) else False
     | none=>False
   | none=>False
  | _=>False
 | .makeSlice t l c=>match T t with
  | some { kind:=.slice e,.. }=>match T e with
   | some ei=>bif Nat.blt 0 ei.size then ∃(len cap:Nat) (z:List GV),sv G st l=.g (.int (len:Int))/\sv G st c=.g (.int (cap:Int))/\len<=cap/\ei.bytes*cap<=140737488355328/\cap<=maxLen /\
     ZgC [] (ei.zero.map of1) z/\K (.row st.h.length) (st.h++[.row (List.replicate len z) e ei.size]) else False
   | none=>False
  | _=>False
 | .load t x=>ZsA T t (sv G st x) st.h λd=>K d st.h
 | .store t x y=>Zoo T t (sv G st x) (sv G st y) st.h λh=>K .any h
 | .nilCheck x=>match sv G st x with
  | .ptr i o=>match st.h[i]? with
   | some (.blk _ _)=>K (.ptr i o) st.h
   | _=>False
  | .el i j o=>match st.h[i]? with
   | some (.row _ _ _)=>K (.el i j o) st.h
   | _=>False
  | .fp r o=>K (.fp r o) st.h
  | .fn f fs cs=>K (.fn f fs cs) st.h
  | _=>False
 | .binOp op t x y _=>match T t with
  | some { kind:=.bool,.. }=>Zey op (sv G st x) (sv G st y) λv=>K v st.h
  | some { kind:=.slice _,.. }=>ZxV op (sv G st x) (sv G st y) λv=>K v st.h
  | some { kind:=.struct _,.. }=>Zi1 P t op (sv G st x) (sv G st y) λv=>K v st.h
  | _=>Zoq op (sv G st x) (sv G st y) λv=>K v st.h
 | .unOp op _ x=>ZzX op (sv G st x) λv=>K v st.h
 | .convert src dst x=>match T src,T dst,sv G st x with
  | some _,some { kind:=.int .i64,.. },.g (.int n)=>I64 n/\K (.g (.int n)) st.h
  | some _,some { kind:=.int .i64,.. },.g (.u8 n)=>I64 n/\K (.g (.int n)) st.h
  | some _,some { kind:=.int .u8,.. },.g (.int n)=>K (.g (.u8 (IntKind.u8.wrap n))) st.h
  | some { kind:=.str,.. },some { kind:=.slice e,.. },.g (.str s)=>match T e with
   | some { kind:=.int .u8,.. }=>K (.g (.sl 1 (ZeY s))) st.h
   | _=>False
  | _,_,_=>False
 | .fieldAddr s x f=>match T s with
  | some { kind:=.struct fs,.. }=>match fs[f]? with
   | some (off,_)=>match sv G st x with
    | .ptr i o=>match st.h[i]? with
     | some (.blk _ _)=>K (.ptr i (o+off)) st.h
     | _=>False
    | .el i j o=>match st.h[i]? with
     | some (.row _ _ _)=>K (.el i j (o+off)) st.h
     | _=>False
    | .fp r o=>K (.fp r (o+off)) st.h
    | _=>False
   | none=>False
  | _=>False
 | .indexAddr t x ix=>Zgb T t (sv G st x) (sv G st ix) st.h λd=>K d st.h
 | .index t x ix=>match T t,sv G st x with
  | some { kind:=.str,.. },.g (.str s)=>∃(j:Nat) (c:UInt8),sv G st ix=.g (.int (j:Int))/\s[j]?=some c/\K (.g (.u8 (c.toNat:Int))) st.h
  | _,_=>False
 | .slice t x lo hi none=>Zop T t (sv G st x) (lo.map (sv G st)) (hi.map (sv G st)) st.h λd=>K d st.h
 | .extract t i=>match sv G st t with
  | .tuple vs=>match vs[i]? with
   | some d=>K d st.h
   | none=>False
  | _=>False
 | .makeFunc (.func f) first captured=>K (.fn f (first.toList.map (sv G st)) (captured.toList.map (sv G st))) st.h
 | .makeInterface t x=>match T t with
  | some { kind:=.iface,.. }=>False
  | some _=>K (.iface t (sv G st x)) st.h
  | none=>False
 | .panic x=>match sv G st x with
  | .iface t d=>Qp (.iface t d) st.h
  | _=>False
 | .call { callee:=.builtin .len,args,argTypes }=>match argTypes.toList,args.toList with
  | [t],[x]=>match T t with
   | some i=>ZmB i (sv G st x) st.h λd=>K d st.h
   | none=>False
  | _,_=>False
 | .call { callee:=.builtin .max,args,.. }=>match args.toList with
  | [x,y]=>match sv G st x,sv G st y with
   | .g (.int a),.g (.int b)=>K (.g (.int (if b > a then b else a))) st.h
   | _,_=>False
  | _=>False
 | .call { callee:=.builtin .min,args,.. }=>match args.toList with
  | [x,y]=>match sv G st x,sv G st y with
   | .g (.int a),.g (.int b)=>K (.g (.int (if b < a then b else a))) st.h
   | _,_=>False
  | _=>False
 | .call { callee:=.builtin .append,args,argTypes }=>match argTypes.toList,args.toList with
  | [t,t'],[x,y]=>bif Nat.beq t t' then Zlg T t (sv G st x) (sv G st y) st.h K else False
  | _,_=>False
 | .call { callee:=.builtin .copy,args,argTypes }=>match argTypes.toList,args.toList with
  | [t,_],[x,y]=>Zxj T t (sv G st x) (sv G st y) st.h K
  | _,_=>False
 | .call { callee:=.builtin .clear,args,argTypes }=>match argTypes.toList,args.toList with
  | [t],[x]=>ZsE T t (sv G st x) st.h K
  | _,_=>False
 | .call { callee:=.value f,args,.. }=>match sv G st f with
  | .fn g fs cs=>bif F g then Zb5 (fs++(args.toList.map (sv G st)++cs)) λall =>
    orS (ZdO st.h) (∃as Q,ZdX (all.map (conv st.h [] 4)) as/\CT P G g as Q/\(∀d h',Q (.ret d h')->K (sh st.h.length 4 d) (after st.h (ZcI all) d h'))/\(∀d,Q (.pan d)->Qp d (ZbS st.h (ZcI all)))) (ZbB P G g all st.h K Qp)
   else Zb5 (fs++(args.toList.map (sv G st)++cs)) λall=>fnOk P g=true/\(Zb7 P G g all st.h K Qp\/ZbB P G g all st.h K Qp)
  | _=>False
 | _=>False
section
variable {h:Zad} {β:Nat->Value} {V:Nat->Prop} {w:World}
theorem ZtK (v:Value):Zaa h β V w (of1 v) v:=by unfold of1;split<;>simp only[Zaa,ZaW]
theorem Zfc:∀(cs:List Value),Zac h β V w (cs.map of1) cs
 | []=>by simp[Zac]
 | c :: cs=>by simp only[Yar,Zac];exact ⟨c,cs,rfl,ZtK c,Zfc cs⟩
theorem ZyG (v:Value):Zaa h β V w (ofV v) v:=by
 unfold ofV;split
 ·rename_i cs;simp only[Zaa];exact ⟨cs,rfl,Zfc cs⟩
 ·exact ZtK _
theorem Zy0 {G:Gl} (hG:Zok G V w) (b:Nat):Zaa h β V w (glD G b) (.pointer (some ⟨b,0,none⟩)):=by
 induction G with
 | nil=>simp only[glD,Zaa]
 | cons p l ih =>
  obtain ⟨b',cs⟩:=p;simp only[glD];cases hb:Nat.beq b' b with
  | true =>have:=Yap hb;subst this;obtain ⟨h1,h2⟩:=hG (b',cs) Yac;simp only[cond_true,Zaa];exact ⟨⟨b',0,none⟩,rfl,h1,h2⟩
  | false=>exact ih (λp hp=>hG p (Yad _ hp))
def ZbO (st:St) (β:Nat->Value) (V:Nat->Prop) (w:World) (a:Act):Prop:=∀i,Zaa st.h β V w (st.env i) (a.tmps.getD i undef)
theorem ZbO.eval {G:Gl} {st:St} {a:Act} (he:ZbO st β V w a) (hG:Zok G V w) (x:Operand):Zaa st.h β V w (sv G st x) (a.eval x):=by
 cases x with
 | tmp t=>exact he t
 | const v=>exact ZyG v
 | global g=>exact Zy0 hG g
 | func f=>simp only[sv,Zaa];exact ⟨[],[],rfl,by simp[Zac],by simp[Zac]⟩
theorem ZnG {d:D} {v:Value} (hf:Zec h d=true) (hd:Zaa h β V w d v) (hr:∀(i:Nat) (o:Obj),h[i]?=some o->Zcb h β V w i o):v.oneCell'=true/\ZaF v=[v]:=by
 have row:∀(i:Nat) (xs:List (List GV)) (e sz:Nat),h[i]?=some (.row xs e sz)->∃A n c,β i=.slice A n c:=by
  intro i xs e sz hi;obtain ⟨vs,hown,_⟩:=hr i _ hi;rcases hown.2 with ⟨hn,_⟩ | ⟨g,cap,cur,hb,_⟩
  ·exact ⟨_,_,_,hn⟩
  ·exact ⟨_,_,_,hb⟩
 cases d with
 | g x =>
  simp only[Zaa] at hd;cases x with
  | sl k xs=>simp only[ZaW] at hd;obtain ⟨A,cap,rfl,_⟩:=hd;exact ⟨rfl,rfl⟩
  | raw u=>simp only[ZaW] at hd;exact hd.2
  | _=>simp only[ZaW] at hd;subst hd;exact ⟨rfl,rfl⟩
 | pb p=>simp only[Zaa] at hd;obtain ⟨b,rfl,_⟩:=hd;exact ⟨rfl,rfl⟩
 | pn p=>simp only[Zaa] at hd;obtain ⟨b,rfl,_⟩:=hd;exact ⟨rfl,rfl⟩
 | nils=>simp only[Zaa] at hd;subst hd;exact ⟨rfl,rfl⟩
 | row i =>
  simp only[Zec] at hf;simp only[Zaa] at hd;split at hf
  ·rename_i xs e sz hi;rw[hi] at hd;obtain ⟨A,n,c,hb⟩:=row i _ _ _ hi;simp only at hd;rw[hb] at hd;subst hd;exact ⟨rfl,rfl⟩
  ·cases hf
 | rs i lo n =>
  simp only[Zec] at hf;simp only[Zaa] at hd;split at hf
  ·rename_i xs e sz hi;rw[hi] at hd;obtain ⟨_,A,m,cap,_,rfl⟩:=hd;exact ⟨rfl,rfl⟩
  ·cases hf
 | ptr i off =>
  simp only[Zec] at hf;simp only[Zaa] at hd;split at hf
  ·rename_i cs t hi;rw[hi] at hd;obtain ⟨g,_,rfl⟩:=hd;exact ⟨rfl,rfl⟩
  ·cases hf
 | el i j off =>
  simp only[Zec] at hf;simp only[Zaa] at hd;split at hf
  ·rename_i xs e sz hi;rw[hi] at hd;obtain ⟨_,g,n,c,_,rfl⟩:=hd;exact ⟨rfl,rfl⟩
  ·cases hf
 | fp r off=>simp only[Zaa] at hd;obtain ⟨a,rfl,_⟩:=hd;exact ⟨rfl,rfl⟩
 | nilP=>simp only[Zaa] at hd;subst hd;exact ⟨rfl,rfl⟩
 | nilF=>simp only[Zaa] at hd;subst hd;exact ⟨rfl,rfl⟩
 | nilI=>simp only[Zaa] at hd;subst hd;exact ⟨rfl,rfl⟩
 | fn f fs cs=>simp only[Zaa] at hd;obtain ⟨us,ts,rfl,_⟩:=hd;exact ⟨rfl,rfl⟩
 | iface t x=>simp only[Zaa] at hd;obtain ⟨u,rfl,_⟩:=hd;exact ⟨rfl,rfl⟩
 | agg cs=>cases hf
 | tuple cs=>cases hf
 | any=>cases hf
theorem ZnE (hr:∀(i:Nat) (o:Obj),h[i]?=some o->Zcb h β V w i o):∀(ds:List D) (vs:List Value),ZhL h ds=true->Zac h β V w ds vs->flat vs=true
 | [],vs,_,hd=>by simp only[Zac] at hd;subst hd;rfl
 | d :: ds,vs,hf,hd=>by simp only[Zac] at hd;obtain ⟨v,us,rfl,h1,h2⟩:=hd;simp only[ZhL,Yaf] at hf;simp only[flat,Yaf];exact ⟨(ZnG hf.1 h1 hr).1,ZnE hr ds us hf.2 h2⟩
theorem ZhV (hr:∀(i:Nat) (o:Obj),h[i]?=some o->Zcb h β V w i o) {d:D} {v:Value} {ds:List D} (hc:ZeX h d=some ds) (hd:Zaa h β V w d v):Zac h β V w ds (ZaF v)/\flat (ZaF v)=true:=by
 unfold ZeX at hc;split at hc
 ·rename_i cs;cases hf:ZhL h cs with
  | false=>rw[hf] at hc;cases hc
  | true =>rw[hf] at hc;simp at hc;subst hc;simp only[Zaa] at hd;obtain ⟨us,rfl,h1⟩:=hd;exact ⟨h1,ZnE hr cs us hf h1⟩
 ·cases hf:Zec h d with
  | false=>rw[hf] at hc;cases hc
  | true =>rw[hf] at hc;simp at hc;subst hc;obtain ⟨h1,h2⟩:=ZnG hf hd hr;rw[h2];exact ⟨by simp only[Zac];exact ⟨v,[],rfl,hd,rfl⟩,by simp[flat,h1]⟩
theorem ZoF {α:Type} (vs:List α):∀(l:List α) (o:Nat),(Zdy l o vs).length=l.length:=by
 induction vs with
 | nil=>intro l o;rfl
 | cons v vs ih=>intro l o;simp[Zdy,ih]
theorem ZiD:∀(ds:List D) (vs:List Value) (cs:List D) (us:List Value) (o:Nat),Zac h β V w cs us->Zac h β V w ds vs->Zac h β V w (Zdy cs o ds) (Ze7 us o vs)
 | [],vs,cs,us,o,hc,hd=>by simp only[Zac] at hd;subst hd;simpa [Zdy,Ze7] using hc
 | d :: ds,vs,cs,us,o,hc,hd=>by simp only[Zac] at hd;obtain ⟨v,vs',rfl,h1,h2⟩:=hd;simp only[Zdy,Ze7];exact ZiD ds vs' _ _ _ (hc.set o h1) h2
theorem ZpU:∀(ds:List GV) (vs:List Value) (cs:List GV) (us:List Value) (o:Nat),Za9 V w cs us->Za9 V w ds vs->Za9 V w (Zdy cs o ds) (Ze7 us o vs)
 | [],[],cs,us,o,hc,hd=>by simpa [Zdy,Ze7] using hc
 | [],_ :: _,_,_,_,_,hd=>hd.elim
 | _ :: _,[],_,_,_,_,hd=>hd.elim
 | d :: ds,v :: vs,cs,us,o,hc,hd=>by simp only[Zdy,Ze7];exact ZpU ds vs _ _ _ (hc.set o hd.1) hd.2
theorem ZjK (place:Nat->Option (Nat × Nat)):∀(ps:List (Nat × List D)) (qs:List (Nat × List Value)) (cs out:List D) (us:List Value),Zke place cs ps=some out->Zac h β V w cs us ->
  ps.length=qs.length->(∀(i:Nat) p q,ps[i]?=some p->qs[i]?=some q->p.1=q.1/\Zac h β V w p.2 q.2)->∃vout,Zkd place us qs=some vout/\Zac h β V w out vout
 | [],qs,cs,out,us,hf,hc,hl,_=>by
  cases qs with
  | nil=>simp[Zke] at hf;subst hf;exact ⟨us,rfl,hc⟩
  | cons=>simp at hl
 | (i,d) :: ps,qs,cs,out,us,hf,hc,hl,hp=>by
  cases qs with
  | nil=>simp at hl
  | cons q qs =>
   obtain ⟨i',v⟩:=q;obtain ⟨rfl,hv⟩:=hp 0 (i,d) (i',v) rfl rfl;simp only[Zke] at hf;simp only[Zkd];cases hpl:place i with
   | none=>rw[hpl] at hf;cases hf
   | some os =>
    obtain ⟨off,size⟩:=os;rw[hpl] at hf;simp only at hf ⊢;cases hb:Nat.beq d.length size && Nat.ble (off+size) cs.length with
    | false=>rw[hb] at hf;cases hf
    | true =>rw[hb] at hf;simp only[cond_true] at hf;have e1:v.length=d.length:=hv.len.symm;have e2:us.length=cs.length:=hc.len.symm;rw[e1,e2,hb];simp only[cond_true];exact ZjK place ps qs _ out _ hf (ZiD _ _ _ _ _ hc hv) (by simpa using hl) (λj p q hp1 hq1=>hp (j+1) p q (by simpa using hp1) (by simpa using hq1))
theorem ZhA (hr:∀(i:Nat) (o:Obj),h[i]?=some o->Zcb h β V w i o) {f:Operand->D} {ev:Operand->Value} (he:∀x,Zaa h β V w (f x) (ev x)):∀(l:List (Nat × Operand)) (ps:List (Nat × List D)),ZcD h f l=some ps ->
  ps.length=(l.map λp=>(p.1,ZaF (ev p.2))).length/\∀(i:Nat) p q,ps[i]?=some p->(l.map λp=>(p.1,ZaF (ev p.2)))[i]?=some q->p.1=q.1/\Zac h β V w p.2 q.2
 | [],ps,hp=>by simp[ZcD] at hp;subst hp;exact ⟨rfl,λi p q h=>by simp at h⟩
 | (i,o) :: l,ps,hp=>by
  simp only[ZcD] at hp;split at hp
  ·rename_i ds r h1 h2;injection hp with hp;subst hp;obtain ⟨hl,hh⟩:=ZhA hr he l r h2;refine ⟨by simpa using hl,λj p q hp hq=>?_⟩;cases j with
   | zero =>simp at hp hq;subst hp;subst hq;exact ⟨rfl,(ZhV hr h1 (he o)).1⟩
   | succ j=>exact hh j p q (by simpa using hp) (by simpa using hq)
  ·cases hp
theorem Zp2 (z:List D) (zs:List Value) (hz:Zac h β V w z zs):∀n,Zac h β V w (Zvh z n) (Zd9 zs n)
 | 0=>by simp[Zvh,Zd9,Zac]
 | n+1=>by simp only[Zvh,Zd9];exact hz.append (Zp2 z zs hz n)
theorem ZpV {sz:Nat}:∀{ps:List (Nat × List D)} {i len:Nat},Zlp sz i ps len=true->i<=len
 | [],i,len,h=>by simp only[Zlp] at h;have:=Yap h;omega
 | (j,v) :: ps,i,len,h=>by simp only[Zlp,Yaf] at h;have:=ZpV h.2.2;omega
theorem ZpT {α:Type}:∀(v:List α) (pre z rest:List α),v.length=z.length->Zdy (pre++(z++rest)) pre.length v=pre++(v++rest)
 | [],pre,z,rest,h=>by cases z with | nil=>rfl | cons=>simp at h
 | x :: v,pre,z,rest,h=>by
  cases z with
  | nil=>simp at h
  | cons y z =>
   simp only[Zdy];have e:(pre++(y :: z++rest)).set pre.length x=(pre++[x])++(z++rest):=by simp
   have hl:pre.length+1=(pre++[x]).length:=by simp
   rw[e,hl,ZpT v (pre++[x]) z rest (by simpa using h)];simp
theorem ZqC {sz:Nat} {z:List D} (hz:z.length=sz):∀(ps:List (Nat × List D)) (i len:Nat) (pre:List D),pre.length=i*sz->Zlp sz i ps len=true->Zke (λi=>some (i*sz,sz)) (pre++Zvh z (len - i)) ps=some (pre++Zup ps)
 | [],i,len,pre,hp,h=>by simp only[Zlp] at h;have:=Yap h;subst this;simp[Zke,Zup,Zvh]
 | (j,v) :: ps,i,len,pre,hp,h=>by
  simp only[Zlp,Yaf] at h;have hj:=Yap h.1;have hv:=Yap h.2.1;subst hj;have hle:=ZpV h.2.2;have hn:len - j=(len - (j+1))+1:=by omega
  rw[hn];simp only[Zke,Zvh,Zup];have hb:(Nat.beq v.length sz && Nat.ble (j*sz+sz) (pre++(z++Zvh z (len - (j+1)))).length)=true:=by rw[Yaf];refine ⟨h.2.1,Ybr ?_⟩;simp[hp,hz]
  rw[hb];simp only[cond_true];rw[<- hp,ZpT v pre z _ (by rw[hv,hz])];have:=ZqC hz ps (j+1) len (pre++v) (by simp[hp,hv,Nat.succ_mul]) h.2.2;rw[Yas] at this;rw[this,Yas]
theorem Zr4 {sz:Nat} {z:List D} (hz:z.length=sz) {len:Nat} {ps:List (Nat × List D)} {cs:List D} (h:Zzb sz z len ps=some cs):Zke (λi=>some (i*sz,sz)) (Zvh z len) ps=some cs:=by
 unfold Zzb at h;cases hs:Zlp sz 0 ps len with
 | false=>rw[hs] at h;exact h
 | true =>rw[hs] at h;simp only[cond_true] at h;have:=ZqC hz ps 0 len [] (by simp) hs;simp only[List.nil_append,Nat.sub_zero] at this;rw[this];exact h
def Zg3 (h:Zad) (l:List Nat) (β:Nat->Value) (V:Nat->Prop):Nat->Prop:=λk=>V k\/∃i o,i∈l/\h[i]?=some o/\o.live=true/\Bk o (β i) k
theorem Zfg:∀(l:List Nat) (h:Zad) (i:Nat) (o:Obj),(ZbS h l)[i]?=some o->(o=.dead/\(∃o',h[i]?=some o'))\/(i ∉ l/\h[i]?=some o)
 | [],h,i,o,hi=>.inr ⟨by simp,hi⟩
 | a :: l,h,i,o,hi=>by
  simp only[ZbS] at hi;rcases Zfg l (h.set a .dead) i o hi with ⟨rfl,o',ho'⟩ | ⟨hn,ho⟩
  ·left;refine ⟨rfl,?_⟩;by_cases hai:a=i
   ·subst hai;have:a < h.length:=by have:=(Yaa.1 ho').1;simpa using this
    exact ⟨_,Yaq this⟩
   ·rw[YaR hai] at ho';exact ⟨o',ho'⟩
  ·by_cases hai:a=i
   ·subst hai;have hl:a < h.length:=by have:=(Yaa.1 ho).1;simpa using this
    left;rw[YbH hl] at ho;injection ho with ho;exact ⟨ho.symm,_,Yaq hl⟩
   ·right;rw[YaR hai] at ho;exact ⟨by simp[hn];exact λe=>hai e.symm,ho⟩
theorem Zci:∀(l:List Nat) (h:Zad),(ZbS h l).length=h.length
 | [],h=>rfl
 | a :: l,h=>by simp only[ZbS];rw[Zci l];simp
theorem ZeJ (l:List Nat) (h:Zad) (β:Nat->Value):LeH h β (ZbS h l) β:=by
 intro i o hi;have hl:i < (ZbS h l).length:=by rw[Zci];exact (Yaa.1 hi).1
 refine ⟨(ZbS h l)[i],Yaq hl,?_,λ_=>rfl⟩;rcases Zfg l h i _ (Yaq hl) with ⟨e,_⟩ | ⟨_,e⟩
 ·rw[e];cases o<;>trivial
 ·rw[hi] at e;injection e with e;rw[<- e];exact OLe.refl _
theorem Zbw (h:Zad) (l:List Nat) (β:Nat->Value) (V:Nat->Prop) (w:World):ZaB V w (Zg3 h l β V) w:=λ_ hk=>⟨.inl hk,rfl⟩
theorem ZeK {C:Ctx} (hr:RelD C h β V w) (l:List Nat):RelD C (ZbS h l) β (Zg3 h l β V) w:=by
 have Zj3:∀(i:Nat) (o:Obj),(ZbS h l)[i]?=some o->o.live=true->i ∉ l/\h[i]?=some o:=by
  intro i o hi hl;rcases Zfg l h i o hi with ⟨rfl,_⟩ | h1
  ·cases hl
  ·exact h1
 refine ⟨λi o hi=>?_,λi j o o' k hi hl hj hl' hk hk'=>?_,λi o k hi hl hk=>?_,λi o k hi hl hk=>?_,λk hk=>?_,λk hk=>.inl (hr.vin k hk),λk hk=>?_,hr.fr,hr.gl.move (Zbw h l β V w)⟩
 ·cases hl:o.live with
  | false=>cases o<;>simp_all [Obj.live,Zcb]
  | true =>obtain ⟨_,h2⟩:=Zj3 i o hi hl;exact (hr.obj i o h2).keep (ZeJ l h β) (Zbw h l β V w) rfl (λ_ _=>rfl)
 ·exact hr.sep i j o o' k (Zj3 i o hi hl).2 hl (Zj3 j o' hj hl').2 hl' hk hk'
 ·exact hr.mine i o k (Zj3 i o hi hl).2 hl hk
 ·obtain ⟨h1,h2⟩:=Zj3 i o hi hl;rintro (hv | ⟨i',o',g1,g2,g3,g4⟩)
  ·exact hr.vout i o k h2 hl hk hv
  ·have:=hr.sep i i' o o' k h2 hl g2 g3 hk g4;subst this;exact h1 g1
 ·rcases hk with hk | ⟨i',o',g1,g2,g3,g4⟩
  ·exact hr.vlt k hk
  ·exact hr.lt g2 g3 g4
 ·rcases hk with hk | ⟨i',o',g1,g2,g3,g4⟩
  ·exact hr.vnew k hk
  ·exact .inr (hr.mine i' o' k g2 g3 g4)
theorem ZhG {l:List Nat}:∀{ds:List D} {d:D},d∈ds->∀i∈ids 4 d,(∀j∈ZcI ds,j∈l)->i∈l
 | [],d,hd,i,hi,hl=>by simp at hd
 | e :: ds,d,hd,i,hi,hl=>by
  rcases Yav.1 hd with rfl | hd
  ·exact hl i (by simp only[ZcI,Yao];exact .inl hi)
  ·exact ZhG hd i hi (λj hj=>hl j (by simp only[ZcI,Yao];exact .inr hj))
theorem Zlq {C:Ctx} (hr:RelD C h β V w) {l:List Nat} {d:D} {v:Value} {y:GV} (hs:Zu7 h d y) (hd:Zaa h β V w d v) (hl:∀i∈ids 4 d,i∈l):ZaW (Zg3 h l β V) w y v:=by
 cases d with
 | g x=>simp only[Zu7] at hs;subst hs;simp only[Zaa] at hd;exact ZaW.move (Zbw h l β V w) _ _ hd
 | pb p =>
  obtain ⟨b,rfl,hb⟩:=hs;simp only[Zaa] at hd;obtain ⟨b',rfl,hb'⟩:=hd;have:b'=b:=by have:=hb'.trans hb.symm;cases b<;>cases b'<;>simp_all
  subst this;simp only[ZaW]
 | pn p =>
  obtain ⟨b,rfl,hb⟩:=hs;simp only[Zaa] at hd;obtain ⟨b',rfl,hb'⟩:=hd;have:b'=b:=by have:=hb'.trans hb.symm;cases b<;>cases b'<;>simp_all
  subst this;simp only[ZaW]
 | nils =>obtain ⟨k,rfl⟩:=hs;simp only[Zaa] at hd;subst hd;exact ZaW.sl_nil k
 | row i =>
  simp only[Zu7] at hs;simp only[Zaa] at hd;split at hs
  ·rename_i xs e sz hi;subst hs;rw[hi] at hd;simp only at hd;subst hd;exact Zek (hr.obj i _ hi) (λk hk=>.inl hk) (λk hk=>.inr ⟨i,_,hl i (by simp[ids]),hi,rfl,hk⟩)
  ·exact hs.elim
 | rs i lo n =>
  simp only[Zu7] at hs;simp only[Zaa] at hd;split at hs
  ·rename_i xs e sz hi;subst hs;rw[hi] at hd;simp only at hd;obtain ⟨hlm,A,q,cap,hb,rfl⟩:=hd;have hfz:=Zek (V':=Zg3 h l β V) (hr.obj i _ hi) (λk hk=>.inl hk) (λk hk=>.inr ⟨i,_,hl i (by simp[ids]),hi,rfl,hk⟩);rw[hb] at hfz;have:=hfz.piece (l:=lo) (hh:=lo+n) (by omega) hlm;rw[Yco,Yb8] at this;exact this
  ·exact hs.elim
 | _=>exact hs.elim
theorem Ze9 {C:Ctx} (hr:RelD C h β V w) {l:List Nat}:∀{ds:List D} {vs:List Value} {ys:List GV},ZgC h ds ys->Zac h β V w ds vs->(∀j∈ZcI ds,j∈l)->Za9 (Zg3 h l β V) w ys vs
 | [],vs,[],_,hd,_=>by simp only[Zac] at hd;subst hd;trivial
 | [],_,_ :: _,hs,_,_=>hs.elim
 | _ :: _,_,[],hs,_,_=>hs.elim
 | d :: ds,vs,y :: ys,hs,hd,hl=>by simp only[Zac] at hd;obtain ⟨v,us,rfl,h1,h2⟩:=hd;exact ⟨Zlq hr hs.1 h1 (λi hi=>hl i (by simp only[ZcI,Yao];exact .inl hi)),Ze9 hr hs.2 h2 (λj hj=>hl j (by simp only[ZcI,Yao];exact .inr hj))⟩
theorem Zla {sz:Nat}:∀{xs:List (List GV)},Zra sz xs=true->∀r∈xs,r.length=sz
 | [],_,r,hr=>by simp at hr
 | x :: xs,h,r,hr=>by
  simp only[Zra,Yaf] at h;rcases Yav.1 hr with rfl | hr
  ·exact Yap h.1
  ·exact Zla h.2 r hr
end
def Nx (C:Ctx) (h:Zad) (β:Nat->Value) (V:Nat->Prop) (w:World) (K:KD) (next:Value->World->Prop):Prop :=
 ∀d h' v w' β' V',K d h'->RelD C h' β' V' w'->Zaa h' β' V' w' d v->LeH h β h' β'->ZaB V w V' w'->next v w'
def Px (C:Ctx) (h:Zad) (β:Nat->Value) (V:Nat->Prop) (w:World) (Qp:KD) (qp:List PanicEntry->World->Prop):Prop :=
 ∀d h' t u w' β' V',Qp d h'->RelD C h' β' V' w'->Zaa h' β' V' w' d (.iface t u)->LeH h β h' β'->ZaB V w V' w'->qp [{ v:=.iface t u,recovered:=false }] w'
section
variable {P:Program} {T:Tab} {F:FuncId->Bool} {C:Ctx} {st:St} {a:Act} {w:World} {β:Nat->Value} {V:Nat->Prop} {K:KD} {Qp:KD} {next:Value->World->Prop} {qp:List PanicEntry->World->Prop}
theorem Nx.same (hN:Nx C st.h β V w K next) (hr:RelD C st.h β V w) {d:D} {v:Value} (hk:K d st.h) (hd:Zaa st.h β V w d v):next v w:=hN d st.h v w β V hk hr hd (LeH.refl _ _) (ZaB.refl _ _)
theorem Zdp {o:Oper} {x:Sem Value} {v:Value} {d:D} (hN:Nx C st.h β V w K next) (hr:RelD C st.h β V w) (hx:execOp a.eval o=(do pure (.value (<- x)))) (hrun:x.run P w=.ok v w) (hk:K d st.h) (hd:Zaa st.h β V w d v) :
  Zbj P next qp ((execOp a.eval o).run P w):=by rw[Go.Eng.run_v hx hrun];exact hN.same hr hk hd
theorem Zfs.use {c:D} {A B:Prop} {v:Value} {h:Zad} (hc:Zfs c A B) (hd:Zaa h β V w c v):∃b:Bool,v=.bool b/\(b=true->A)/\(b=false->B):=by
 unfold Zfs at hc;split at hc
 ·simp only[Zaa,ZaW] at hd;exact ⟨true,hd,λ_=>hc,λe=>(by cases e)⟩
 ·simp only[Zaa,ZaW] at hd;exact ⟨false,hd,λe=>(by cases e),λ_=>hc⟩
 ·simp only[Zaa] at hd;obtain ⟨b,rfl,hb⟩:=hd;exact ⟨b,rfl,λe=>hc.1 (hb.1 e),λe=>hc.2 (λhp=>by rw[hb.2 hp] at e;cases e)⟩
 ·simp only[Zaa] at hd;obtain ⟨b,rfl,hb⟩:=hd;refine ⟨b,rfl,λe=>hc.1 (hb.1 e),λe=>hc.2 (Yam.1 (λhp=>?_))⟩;rw[hb.2 hp] at e;cases e
 ·exact hc.elim
section
variable (hr:RelD C st.h β V w) (he:ZbO st β V w a) (hN:Nx C st.h β V w K next)
include hr he hN
theorem Zxo {x:Operand} {o:Oper} (ho:o.op=.move x\/o.op=.assign x) (h:K (sv C.G st x) st.h):Zbj P next qp ((execOp a.eval o).run P w):=by
 have:(execOp a.eval o).run P w=.ok (.value (a.eval x)) w:=by rcases ho with ho | ho<;>simp[execOp,ho]
 rw[this];exact hN.same hr h (he.eval hr.gl x)
theorem ZAd {c x y:Operand} {o:Oper} (ho:o.op=.pick c x y) (h:Zfs (sv C.G st c) (K (sv C.G st x) st.h) (K (sv C.G st y) st.h)):Zbj P next qp ((execOp a.eval o).run P w):=by
 obtain ⟨b,hv,ht,hf⟩:=Zfs.use h (he.eval hr.gl c);cases b with
 | true =>
  have:(execOp a.eval o).run P w=.ok (.value (a.eval x)) w:=by simp[execOp,ho,hv,asBool]
  rw[this];exact hN.same hr (ht rfl) (he.eval hr.gl x)
 | false =>
  have:(execOp a.eval o).run P w=.ok (.value (a.eval y)) w:=by simp[execOp,ho,hv,asBool]
  rw[this];exact hN.same hr (hf rfl) (he.eval hr.gl y)
omit he in
theorem ZAe {ds:List D} {vs:List Value} {t:TypeId} (hd:Zac st.h β V w ds vs) (h:K (.ptr st.h.length 0) (st.h++[.blk ds t])):next (.pointer (some ⟨w.heap.size,0,none⟩)) (w.alloc (.cells ⟨vs⟩ t)):=by have hr':=hr.alloc_blk ds vs t hd;refine hN _ _ _ _ _ _ h hr' ?_ (Zdo _ _ _ _) (hr.moved (Zd3 w _) (λk hk=>hk.elim));simp only[Zaa];rw[Yak (Yax _)];simp only[Ybk,List.getElem?_cons_zero];exact ⟨w.heap.size,Zbt _ _ _,rfl⟩
omit he in
theorem Zyr (hT:TabOk P T) {t:TypeId} {o:Oper} (ho:o.op=.alloc t) (h:ZaK P T F C.G (.alloc t) st K Qp):Zbj P next qp ((execOp a.eval o).run P w):=by
 simp only[ZaK] at h;cases ht:T t with
 | none=>rw[ht] at h;exact h.elim
 | some i =>
  rw[ht] at h;obtain ⟨inf,z,hinf,_,_,hz,hzc⟩:=(hT t i ht).inf;have hrun:(execOp a.eval o).run P w=.ok (.value (.pointer (some ⟨w.heap.size,0,none⟩))) (w.alloc (.cells i.zero.toArray t)):=by simp[execOp,ho,Instr.alloc,zeroValue,typeInfo,hinf,hz,newVar,newRow,hzc]
  rw[hrun];exact ZAe hr hN (Zfc _) h
theorem ZBS {t:TypeId} {x:Operand} {o:Oper} (ho:o.op=.box t x) (h:ZaK P T F C.G (.box t x) st K Qp):Zbj P next qp ((execOp a.eval o).run P w):=by
 simp only[ZaK] at h;split at h
 ·exact h.elim
 ·rename_i ds hds;have hrun:(execOp a.eval o).run P w=.ok (.value (.pointer (some ⟨w.heap.size,0,none⟩))) (w.alloc (.cells (ZaF (a.eval x)).toArray t)):=by simp[execOp,ho,Instr.box,newVar,newRow,Zes]
  rw[hrun];exact ZAe hr hN (ZhV hr.obj hds (he.eval hr.gl x)).1 h
theorem Zyq (hT:TabOk P T) {t:TypeId} {parts:Array (Nat × Operand)} {o:Oper} (ho:o.op=.build t parts) (h:ZaK P T F C.G (.build t parts) st K Qp):Zbj P next qp ((execOp a.eval o).run P w):=by
 simp only[ZaK] at h;split at h
 ·rename_i agg size bytes z fs ht;split at h
  ·exact h.elim
  ·rename_i ps hps;split at h
   ·rename_i cs hcs;obtain ⟨hl,hp⟩:=ZhA hr.obj (λx=>he.eval hr.gl x) _ _ hps;obtain ⟨vout,hfo,hrep⟩:=ZjK _ ps _ _ _ _ hcs (Zfc (h:=st.h) (β:=β) (V:=V) (w:=w) z) hl hp;have hmap:(parts.toList.map fun (p:Nat × Operand)=>(p.1,ZaF (a.eval p.2)))=((parts.map fun (p:Nat × Operand)=>(p.1,a.eval p.2)).toList.map λp=>(p.1,ZaF p.2)):=by simp[List.map_map,Function.comp_def]
    rw[hmap] at hfo;have hrun:=ZmT hT ht rfl (parts.map fun (p:Nat × Operand)=>(p.1,a.eval p.2)) vout hfo w;have:(execOp a.eval o).run P w=.ok (.value (.agg vout.toArray)) w:=by simp only[execOp,ho,Sem.run_bind,hrun,Result.andThen_ok,Sem.run_pure]
    rw[this];refine hN.same hr h ?_;simp only[Zaa];exact ⟨vout,rfl,hrep⟩
   ·exact h.elim
 ·exact h.elim
theorem ZmR (hT:TabOk P T) {t:TypeId} {len:Nat} {parts:Array (Nat × Operand)} {o:Oper} (ho:o.op=.buildSlice t len parts) (h:ZaK P T F C.G (.buildSlice t len parts) st K Qp):Zbj P next qp ((execOp a.eval o).run P w):=by
 simp only[ZaK] at h;split at h
 ·rename_i agg size bytes z e ht;split at h
  ·rename_i ei hte;split at h
   ·exact h.elim
   ·rename_i ps hps;split at h
    ·rename_i cs hcs;cases hb:Nat.ble (len*ei.size) 16777216 && Nat.blt 0 ei.size with
     | false=>rw[hb] at h;exact h.elim
     | true =>
      rw[hb] at h;simp only[Yaf] at hb;have h1:len*ei.size<=16777216:=Yaw hb.1;have h2:0 < ei.size:=Yaw hb.2;obtain ⟨xs,hxl,hal,hsees,hk⟩:=h;obtain ⟨d,hd,hdk,_⟩:=(hT t _ ht).d;have hdk:d=.slice e:=hdk;subst hdk;obtain ⟨inf,zv,hinf,hsz,_,hz,hzc⟩:=(hT e ei hte).inf;have hzl:ei.zero.length=ei.size:=(hT e ei hte).zsize;have hcs:=Zr4 (by simpa using hzl) hcs;obtain ⟨hl,hp⟩:=ZhA hr.obj (λx=>he.eval hr.gl x) _ _ hps;obtain ⟨vout,hfo,hrep⟩:=ZjK _ ps _ _ _ _ hcs (Zp2 _ _ (Zfc (h:=st.h) (β:=β) (V:=V) (w:=w) ei.zero) len) hl hp;have hmap:(parts.toList.map fun (p:Nat × Operand)=>(p.1,ZaF (a.eval p.2)))=((parts.map fun (p:Nat × Operand)=>(p.1,a.eval p.2)).toList.map λp=>(p.1,ZaF p.2)):=by simp[List.map_map,Function.comp_def]
      rw[hmap] at hfo;have hfe:=Zuq (λi=>some (i*ei.size,ei.size)) _ (Zd9 ei.zero len) vout hfo;have hcl:vout.length=len*ei.size:=by rw[ZnJ _ _ _ _ hfo,ZeH,hzl]
      have hm:=Zju ei.zero (by omega) len;rw[hzl] at hm;have hrun:(Instr.buildSlice t len (parts.map fun (p:Nat × Operand)=>(p.1,a.eval p.2))).run P w=.ok (.slice (some ⟨w.heap.size,0,none⟩) len len) (w.alloc (.cells vout.toArray e)):=by
       have n1:¬ (len*inf.size > 2 ^ 24):=by rw[hsz];omega
       simp only[Instr.buildSlice,Sem.run_bind,run_underlying hd,Result.andThen_ok,sizeOf,typeInfo,run_program,hinf,Sem.run_pure,Sem.run_ite];rw[if_neg n1];by_cases h0:len*inf.size=0
       ·rw[if_pos h0];have hl0:len*ei.size=0:=by rw[<- hsz];exact h0
        have hlen0:len=0:=by rcases Nat.mul_eq_zero.1 hl0 with h | h<;>omega
        subst hlen0;simp only[Ycz];have:(Array.map (λi=>(#[]:Array Value)[i % (#[]:Array Value).size]!) (Array.range 0))=(Zd9 ei.zero 0).toArray:=by simp[Zd9]
        rw[this,hsz,hfe];simp[newRow]
       ·rw[if_neg h0];simp only[Sem.run_bind,zeroValue,typeInfo,run_program,Result.andThen_ok,hinf,Sem.run_pure,hz,hzc];rw[hsz];have hm':Array.map (λi=>ei.zero.toArray[i % ei.zero.toArray.size]!) (Array.range (len*ei.size))=(Zd9 ei.zero len).toArray:=hm;rw[hm',hfe];simp[newRow]
      have hrun2:(execOp a.eval o).run P w=.ok (.value (.slice (some ⟨w.heap.size,0,none⟩) len len)) (w.alloc (.cells vout.toArray e)):=by simp only[execOp,ho,Sem.run_bind,hrun,Result.andThen_ok,Sem.run_pure]
      rw[hrun2];have hv:=Ze9 hr (l:=ZcI cs) hsees hrep (λj hj=>hj);have hrk:=ZeK hr (ZcI cs);have hxm:=Zla hal;have hr':=hrk.alloc_row xs vout len vout.toArray e ei.size hxm h2 hv (by omega) (by simp only[maxLen];have:=YcE len h2;omega) (by simpa using hcl) (by rw[hxl,<- hcl];simp);rw[hxl,Zci] at hr';have hle:LeH st.h β (ZbS st.h (ZcI cs)++[.row xs e ei.size]) (upf β st.h.length (.slice (some ⟨w.heap.size,0,none⟩) len len)):=by
       have:=Zdo (ZbS st.h (ZcI cs)) β (.row xs e ei.size) (.slice (some ⟨w.heap.size,0,none⟩) len len);rw[Zci] at this;intro i o hi;obtain ⟨o1,h1,h2,h3⟩:=ZeJ (ZcI cs) st.h β i o hi;obtain ⟨o2,h4,h5,h6⟩:=this i o1 h1;refine ⟨o2,h4,?_,h6⟩;have:o2=o1:=by have hil:i < (ZbS st.h (ZcI cs)).length:=(Yaa.1 h1).1;rw[Yaj hil,h1] at h4;injection h4 with h4;exact h4.symm
       rw[this];exact h2
      refine hN _ _ _ _ _ _ hk hr' ?_ hle ((Zbw _ _ _ _ _).trans (hrk.moved (Zd3 w _) (λk hk=>hk.elim)));simp only[Zaa];rw[Yak (by rw[Zci];exact Yax _),Zci];simp only[Ybk,List.getElem?_cons_zero];exact (Zbt _ _ _).symm
    ·exact h.elim
  ·exact h.elim
 ·exact h.elim
theorem ZoH (hT:TabOk P T) {t:TypeId} {l c:Operand} {o:Oper} (ho:o.op=.makeSlice t l c) (h:ZaK P T F C.G (.makeSlice t l c) st K Qp):Zbj P next qp ((execOp a.eval o).run P w):=by
 simp only[ZaK] at h;split at h
 ·rename_i agg size bytes z0 e hs;split at h
  ·rename_i ei hte;cases hpos:Nat.blt 0 ei.size with
   | false=>rw[hpos] at h;exact h.elim
   | true =>
    rw[hpos] at h;have hpos:0 < ei.size:=Yaw hpos;obtain ⟨len,cap,z,hl,hc,hlc,hb,hm,hsees,hk⟩:=h;obtain ⟨d,hd,hdk,_⟩:=(hT t _ hs).d;have hdk:d=.slice e:=hdk;subst hdk;obtain ⟨inf,zv,hinf,hsz,hby,hz,hzc⟩:=(hT e ei hte).inf;have hzl:ei.zero.length=ei.size:=(hT e ei hte).zsize;have hmm:=hm;simp only[maxLen] at hmm;have hbI:(inf.bytes:Int)*(cap:Int)<=281474976710656:=by
     have:((inf.bytes*cap:Nat):Int)<=281474976710656:=by rw[hby];omega
     rwa [Int.natCast_mul] at this
    have hrun:=run_make (P:=P) w t e inf zv hd hinf hz .i64 .i64 (len:Int) (cap:Int) (by omega) (by omega) hbI (by omega);simp only[Int.toNat_natCast] at hrun;have hcells:madeCells zv.cells (cap*inf.size)=(Zd9 ei.zero cap).toArray:=by rw[hsz,hzc];have:=Zju ei.zero (by omega) cap;rw[hzl] at this;exact this
    rw[hcells] at hrun;have hel:a.eval l=.int .i64 (len:Int):=by have:=he.eval hr.gl l;rw[hl] at this;simpa [Zaa,ZaW] using this
    have hec:a.eval c=.int .i64 (cap:Int):=by have:=he.eval hr.gl c;rw[hc] at this;simpa [Zaa,ZaW] using this
    have hrun2:(execOp a.eval o).run P w=.ok (.value (.slice (some ⟨w.heap.size,0,none⟩) len cap)) (w.alloc (.cells (Zd9 ei.zero cap).toArray e)) :=
     Go.Eng.run_v (x:=Instr.makeSlice t (a.eval l) (a.eval c)) (by simp[execOp,ho]) (by rw[hel,hec];exact hrun)
    rw[hrun2];have htake:∀(m k:Nat),k<=m->(Zd9 ei.zero m).take (k*ei.size)=Zd9 ei.zero k:=by
     intro m
     induction m with
     | zero =>
      intro k hk;have:k=0:=by omega
      subst this;simp[Zd9]
     | succ m ih =>
      intro k hk;cases k with
      | zero=>simp[Zd9]
      | succ k=>simp only[Zd9];rw[Ybu,YaJ (by rw[hzl,YaY];omega),hzl,show (k+1)*ei.size - ei.size=k*ei.size from by rw[YaY];omega,ih k (by omega)]
    have hz0:Za9 V w z ei.zero:=by have h0:RelD ⟨w,λ_=>False,V,[]⟩ [] (λ_=>undef) V w:=⟨λi o h=>by simp at h,λi j o o' k h=>by simp at h,λi o k h=>by simp at h,λi o k h=>by simp at h,hr.vlt,λk hk=>hk,λk hk=>.inl hk,Fr.refl _ _,λp hp=>by simp at hp⟩;have:=Ze9 h0 (l:=ZcI (ei.zero.map of1)) hsees (Zfc ei.zero) (λj hj=>hj);exact Za9.move (λk hk=>⟨by rcases hk with hk | ⟨i,o,_,h2,_⟩;exact hk;simp at h2,rfl⟩) _ _ this
    have hzlen:z.length=ei.size:=by rw[hz0.len,hzl]
    have hrep:∀n,Za9 V w (List.replicate n z).flatten (Zd9 ei.zero n):=by
     intro n
     induction n with
     | zero=>simp[Zd9,Za9]
     | succ n ih=>rw[List.replicate_succ,List.flatten_cons,Zd9];exact hz0.append ih
    have hr':=hr.alloc_row (List.replicate len z) (Zd9 ei.zero len) cap (Zd9 ei.zero cap).toArray e ei.size (λr hr=>by rw[YcA hr];exact hzlen) hpos (hrep len) (by simpa using hlc) hm (by simp[ZeH,hzl]) (by simpa using htake cap len hlc);rw[Ycf] at hr';refine hN _ _ _ _ _ _ hk hr' ?_ (Zdo _ _ _ _) (hr.moved (Zd3 w _) (λk hk=>hk.elim));simp only[Zaa];rw[Yak (Yax _)];simp only[Ybk,List.getElem?_cons_zero];exact (Zbt _ _ _).symm
  ·exact h.elim
 ·exact h.elim
end
theorem ZtW {t:TypeId} {i:TI} (hi:InfoOk P t i) {h:Zad} {r:List GV} {off:Nat} {k:D->Prop} (hl:ldG i r off k) {ad:Addr} {vs:List Value} (hv:Za9 V w r vs) (hc:∀j v,vs[j]?=some v->w.cell? (ad.add j)=some v) :
  ∃d v,k d/\Zaa h β V w d v/\(loadVar t (ad.add off)).run P w=.ok v w:=by
 unfold ldG at hl;cases hagg:i.agg with
 | false =>
  rw[hagg] at hl;simp only at hl;split at hl
  ·rename_i x hx;obtain ⟨v,hv1,hv2⟩:=hv.get hx;exact ⟨_,v,hl,by simp only[Zaa];exact hv2,ZdH hi hagg (hc off v hv1)⟩
  ·exact hl.elim
 | true =>
  rw[hagg] at hl;simp only at hl;cases hb:Nat.ble (off+i.size) r.length with
  | false=>rw[hb] at hl;exact hl.elim
  | true =>
   rw[hb] at hl;have hle:=Yaw hb;refine ⟨_,.agg ⟨List.take i.size (vs.drop off)⟩,hl,?_,ZdI hi hagg (vs:=List.take i.size (vs.drop off)) (by rw[Yan,Ya6,<- hv.len];omega) (λj v hj=>?_)⟩
   ·simp only[Zaa];exact ⟨_,rfl,(Zh1 _ _).2 ((hv.drop off).take i.size)⟩
   ·rw[ZgB];have hjl:j < i.size:=by have:=(Yaa.1 hj).1;simp at this;omega
    rw[Yaz hjl,YaX] at hj;exact hc _ v hj
theorem ZwL {C:Ctx} {h:Zad} (hr:RelD C h β V w) {j k:Nat} {xs:List (List GV)} {e sz:Nat} (hj:h[j]?=some (.row xs e sz)) {r:List GV} (hk:xs[k]?=some r) {g n c:Nat} (hb:β j=.slice (some ⟨g,0,none⟩) n c) :
  ∃vs,Za9 V w r vs/\r.length=sz/\∀i v,vs[i]?=some v->w.cell? ((⟨g,k*sz,none⟩:Addr).add i)=some v:=by
 obtain ⟨vs,hown,hv,hx,h0⟩:=hr.obj j _ hj;have hrl:r.length=sz:=hx r (YaL hk);have hcells:=hown.cells (g:=g) (by rw[hb];rfl);refine ⟨(vs.drop (k*sz)).take sz,?_,hrl,λi v hi=>?_⟩
 ·have hd:((xs.flatten).drop (k*sz)).take sz=r:=by
   have key:∀(xs:List (List GV)) (k:Nat),(∀r∈xs,r.length=sz)->xs[k]?=some r->((xs.flatten).drop (k*sz)).take sz=r:=by
    intro xs
    induction xs with
    | nil=>intro k _ hk;simp at hk
    | cons x xs ih =>
     intro k hx hk;have hxl:=hx x Yac;cases k with
     | zero =>simp at hk;subst hk;rw[List.flatten_cons,Ycz,YcG,Ya9 (by omega),YaJ (by omega)]
     | succ k =>rw[List.flatten_cons,YcB,YbV (by rw[hxl,YaY];omega),hxl,YaY,Ya8,List.nil_append];exact ih k (λr hr=>hx r (Yad _ hr)) (by simpa using hk)
   exact key xs k hx hk
  have:=(hv.drop (k*sz)).take sz;rwa [hd] at this
 ·have hil:i < sz:=by have:=(Yaa.1 hi).1;simp at this;omega
  rw[Yaz hil,YaX] at hi;have:=hcells (k*sz+i) v hi;rw[Zcm] at this ⊢;rwa [YaA] at this
end
section
variable {P:Program} {T:Tab} {F:FuncId->Bool} {C:Ctx} {st:St} {a:Act} {w:World} {β:Nat->Value} {V:Nat->Prop} {K:KD} {Qp:KD} {next:Value->World->Prop} {qp:List PanicEntry->World->Prop}
theorem Zp1 {h:Zad} (n:Int):Zaa h β V w (.g (.int n)) (.int .i64 n):=by simp only[Zaa,ZaW]
theorem ZBV {h:Zad} (n:Int):Zaa h β V w (.g (.u8 n)) (.int .u8 n):=by simp only[Zaa,ZaW]
theorem ZCr {h:Zad} (n:List UInt8):Zaa h β V w (.g (.str n)) (.string ⟨⟨n⟩⟩):=by simp only[Zaa,ZaW]
theorem ZCs {h:Zad} (b:Bool):Zaa h β V w (.g (.bool b)) (.bool b):=by simp only[Zaa,ZaW]
theorem ZBW {h:Zad} (p:Prop) [Decidable p]:Zaa h β V w (.pb p) (.bool (decide p)):=by simp only[Zaa];exact ⟨_,rfl,decide_eq_true_iff⟩
theorem ZBX {h:Zad} (p:Prop) [Decidable p]:Zaa h β V w (.pn p) (.bool (!decide p)):=by simp only[Zaa];exact ⟨_,rfl,by simp⟩
theorem ZwZ {op:BinOp} {x y:D} {k:D->Prop} {h:Zad} {vx vy:Value} (hv:Zoq op x y k) (hx:Zaa h β V w x vx) (hy:Zaa h β V w y vy) (t:TypeId) (ox oy:Operand) :
  ∃d v,k d/\Zaa h β V w d v/\∀w:World,(do eqGuard op t ox oy vx vy;binOp op t vx vy).run P w=.ok v w:=by
 unfold Zoq at hv;split at hv<;>first | exact hv.elim | skip
 all_goals (simp only[Zaa,ZaW] at hx hy;subst hx;subst hy)
 all_goals first
  | (obtain ⟨c,hc,hk⟩:=hv;refine ⟨_,_,hk,Zp1 _,λw=>?_⟩;simp[eqGuard,binOp,Op.intArith,hc];done)
  | (obtain ⟨hc,hk⟩:=hv;refine ⟨_,_,hk,Zp1 _,λw=>?_⟩;have hw:=I64.wrap hc;simp[eqGuard,binOp,Op.intArith,hw];done)
  | (obtain ⟨c,hc,hk⟩:=hv;refine ⟨_,_,hk,Zp1 _,λw=>?_⟩;simp only[eqGuard,binOp,Sem.run_bind];simp;done)
  | (obtain ⟨h0,hc,hk⟩:=hv;refine ⟨_,_,hk,Zp1 _,λw=>?_⟩;have hw:=I64.wrap hc;simp[eqGuard,binOp,Op.intDiv,h0,hw];done)
  | (obtain ⟨h0,hc,hk⟩:=hv;refine ⟨_,_,hk,Zp1 _,λw=>?_⟩;have hw:=I64.wrap hc;simp[eqGuard,binOp,Op.shift,IntKind.bits];rw[if_neg (by omega)];simp[hw];done)
  | (obtain ⟨h0,hk⟩:=hv;refine ⟨_,_,hk,Zp1 _,λw=>?_⟩;simp[eqGuard,binOp,Op.intDiv,h0];done)
  | (obtain ⟨h0,hk⟩:=hv;refine ⟨_,_,hk,Zp1 _,λw=>?_⟩;have h1:=Int.not_lt.2 h0;simp[eqGuard,binOp,Op.shift,IntKind.bits,h1];done)
  | (obtain ⟨h0,hk⟩:=hv;refine ⟨_,_,hk,ZCr _,λw=>?_⟩;have h1:=YbI.2 h0;simp[eqGuard,binOp,run_string_add_if,Zx8];exact h0)
  | (refine ⟨_,_,hv,ZBV _,λw=>?_⟩;simp[eqGuard,binOp,Op.intArith];done)
  | (refine ⟨_,.bool (decide _),hv,ZBW _,λw=>?_⟩;simp[eqGuard,binOp,Op.intCmp];done)
  | (refine ⟨_,.bool (decide _),hv,ZBW _,λw=>?_⟩;simp[eqGuard,binOp,Op.intCmp];rfl)
  | (refine ⟨_,.bool (!decide _),hv,ZBX _,λw=>?_⟩;simp[eqGuard,binOp,Op.intCmp];done)
  | (refine ⟨_,.bool (!decide _),hv,ZBX _,λw=>?_⟩;simp[eqGuard,binOp,Op.intCmp];rfl)
  | (refine ⟨_,.bool (decide _),hv,ZBW _,λw=>?_⟩;simp only[eqGuard,binOp,Op.stringOp,Zxn];rfl)
  | (refine ⟨_,.bool (!decide _),hv,ZBX _,λw=>?_⟩;simp only[eqGuard,binOp,Op.stringOp,Zxn];rfl)
  | skip
theorem Zmh {d:D} {p:Prop} {v:Value} {h:Zad} (ha:asP d=some p) (hd:Zaa h β V w d v):∃b,v=.bool b/\(b=true↔p):=by
 unfold asP at ha;split at ha
 ·injection ha with ha;subst ha;simpa only[Zaa] using hd
 ·injection ha with ha;subst ha;simpa only[Zaa] using hd
 ·injection ha with ha;subst ha;simp only[Zaa,ZaW] at hd;exact ⟨_,hd,Ybg⟩
 ·cases ha
theorem Zpv (hT:TabOk P T) {op:BinOp} {x y:D} {k:D->Prop} {h:Zad} {vx vy:Value} (hv:Zey op x y k) (hx:Zaa h β V w x vx) (hy:Zaa h β V w y vy) {t:TypeId} {i:TI} (ht:T t=some i) (hk:i.kind=.bool) (ox oy:Operand) :
  ∃d v,k d/\Zaa h β V w d v/\∀w:World,(do eqGuard op t ox oy vx vy;binOp op t vx vy).run P w=.ok v w:=by
 obtain ⟨d,hd,hdk,_⟩:=(hT t i ht).d;rw[hk] at hdk;have hdk:d=.bool:=hdk;subst hdk;unfold Zey at hv;split at hv
 ·rename_i p q hp hq;obtain ⟨b,rfl,hb⟩:=Zmh hp hx;obtain ⟨c,rfl,hc⟩:=Zmh hq hy;refine ⟨_,.bool (b == c),hv,by simp only[Zaa];refine ⟨_,rfl,?_⟩;rw[<- hb,<- hc];cases b<;>cases c<;>simp,λw=>?_⟩;simp[eqGuard,run_eql_bool w t _ _ hd]
 ·rename_i p q hp hq;obtain ⟨b,rfl,hb⟩:=Zmh hp hx;obtain ⟨c,rfl,hc⟩:=Zmh hq hy;refine ⟨_,.bool (!(b == c)),hv,by simp only[Zaa];refine ⟨_,rfl,?_⟩;rw[<- hb,<- hc];cases b<;>cases c<;>simp,λw=>?_⟩;simp[eqGuard,run_neq_bool w t _ _ hd]
 ·exact hv.elim
theorem Zio (w:World) (d:Nat) (t e:TypeId) (a:Option Addr) (l c:Nat) (h:P.underlying t=some (.slice e)):(Op.equalIn (d+1) t (.slice a l c) (.slice none 0 0)).run P w=.ok a.isNone w:=by
 cases a<;>simp[Op.equalIn,run_underlying h]
theorem ZcO (w:World) (t e:TypeId) (a:Option Addr) (l c:Nat) (h:P.underlying t=some (.slice e)):(Op.equal t (.slice a l c) (.slice none 0 0)).run P w=.ok a.isNone w:=Zio w 9999 t e a l c h
theorem Zk6 (V:Nat->Prop) (w:World):∀s:List UInt8,Za9 V w (ZeY s).flatten (s.map (λc=>Value.int .u8 (c.toNat:Int)))
 | []=>by simp[ZeY,Za9]
 | c :: s=>by have:=Zk6 V w s;simp only[ZeY,Yar,List.flatten_cons,List.singleton_append,Za9,ZaW,true_and] at this ⊢;exact this
theorem Zwc (hT:TabOk P T) {op:BinOp} {x y:D} {k:D->Prop} {h:Zad} {vx vy:Value} (hv:ZxV op x y k) (hx:Zaa h β V w x vx) (hy:Zaa h β V w y vy) {t e:TypeId} {i:TI} (ht:T t=some i) (hk:i.kind=.slice e) (ox oy:Operand) :
  ∃d v,k d/\Zaa h β V w d v/\∀w:World,(do eqGuard op t ox oy vx vy;binOp op t vx vy).run P w=.ok v w:=by
 obtain ⟨d,hd,hdk,_⟩:=(hT t i ht).d;rw[hk] at hdk;have hdk:d=.slice e:=hdk;subst hdk;unfold ZxV at hv;split at hv
 ·rename_i n xs;simp only[Zaa,ZaW] at hx hy;obtain ⟨A,cap,rfl,h1,h2,h3⟩:=hx;subst hy;refine ⟨_,.bool A.isNone,hv (A.isNone=true) (λhn=>?_),by simp only[Zaa];exact ⟨_,rfl,Ybg⟩,λw=>?_⟩
  ·cases xs with
   | nil=>rfl
   | cons r xs=>obtain ⟨b,hb,_⟩:=h2 (by simp);rw[hb] at hn;cases hn
  ·simp[eqGuard,binOp,ZcO w t e A _ _ hd]
 ·rename_i n xs;simp only[Zaa,ZaW] at hx hy;obtain ⟨A,cap,rfl,h1,h2,h3⟩:=hx;subst hy;refine ⟨_,.bool (!A.isNone),hv (A.isNone=true) (λhn=>?_),by simp only[Zaa];exact ⟨_,rfl,by cases A<;>simp⟩,λw=>?_⟩
  ·cases xs with
   | nil=>rfl
   | cons r xs=>obtain ⟨b,hb,_⟩:=h2 (by simp);rw[hb] at hn;cases hn
  ·simp[eqGuard,binOp,ZcO w t e A _ _ hd]
 ·simp only[Zaa] at hx hy;subst hx;subst hy;exact ⟨_,.bool true,hv,ZCs _,λw=>by simp[eqGuard,binOp,ZcO w t e none _ _ hd]⟩
 ·simp only[Zaa] at hx hy;subst hx;subst hy;exact ⟨_,.bool false,hv,ZCs _,λw=>by simp[eqGuard,binOp,ZcO w t e none _ _ hd]⟩
 ·exact hv.elim
theorem ZqK {h:Zad}:∀{cs ds:List D} {ks:List Nat} {p:Prop} {xs ys:List Value},Zkh cs ds=some (ks,p)->Zac h β V w cs xs->Zac h β V w ds ys->Zt1 ks xs/\Zt1 ks ys/\(xs=ys↔p):=by
 intro cs
 induction cs with
 | nil =>
  intro ds ks p xs ys he hx hy;cases ds with
  | nil =>simp only[Zkh] at he;injection he with he;injection he with e1 e2;subst e1;subst e2;simp only[Zac] at hx hy;subst hx;subst hy;exact ⟨trivial,trivial,by simp⟩
  | cons d ds=>simp[Zkh] at he
 | cons c cs ih =>
  intro ds ks p xs ys he hx hy;cases ds with
  | nil=>simp[Zkh] at he
  | cons d ds =>
   simp only[Zac] at hx hy;obtain ⟨v,vs,rfl,hv,hvs⟩:=hx;obtain ⟨u,us,rfl,hu,hus⟩:=hy;cases c with
   | g x =>
    cases d with
    | g y =>
     cases x with
     | int a=>cases y with
      | int b =>
       simp only[Zkh] at he;cases hrec:Zkh cs ds with
       | none=>rw[hrec] at he;cases he
       | some q =>obtain ⟨ks',p'⟩:=q;rw[hrec] at he;injection he with he;injection he with k1 k2;subst k1;subst k2;obtain ⟨h1,h2,h3⟩:=ih hrec hvs hus;simp only[Zaa,ZaW] at hv hu;subst hv;subst hu;exact ⟨⟨trivial,h1⟩,⟨trivial,h2⟩,by simp[h3]⟩
      | _=>simp[Zkh] at he
     | str a=>cases y with
      | str b =>
       simp only[Zkh] at he;cases hrec:Zkh cs ds with
       | none=>rw[hrec] at he;cases he
       | some q =>obtain ⟨ks',p'⟩:=q;rw[hrec] at he;injection he with he;injection he with k1 k2;subst k1;subst k2;obtain ⟨h1,h2,h3⟩:=ih hrec hvs hus;simp only[Zaa,ZaW] at hv hu;subst hv;subst hu;exact ⟨⟨trivial,h1⟩,⟨trivial,h2⟩,by simp[h3]⟩
      | _=>simp[Zkh] at he
     | bool a=>cases y with
      | bool b =>
       simp only[Zkh] at he;cases hrec:Zkh cs ds with
       | none=>rw[hrec] at he;cases he
       | some q =>obtain ⟨ks',p'⟩:=q;rw[hrec] at he;injection he with he;injection he with k1 k2;subst k1;subst k2;obtain ⟨h1,h2,h3⟩:=ih hrec hvs hus;simp only[Zaa,ZaW] at hv hu;subst hv;subst hu;exact ⟨⟨trivial,h1⟩,⟨trivial,h2⟩,by simp[h3]⟩
      | _=>simp[Zkh] at he
     | _=>cases y<;>simp[Zkh] at he
    | _=>simp[Zkh] at he
   | _=>cases d<;>simp[Zkh] at he
theorem Zs2 {t:TypeId} {op:BinOp} {x y:D} {k:D->Prop} {h:Zad} {vx vy:Value} (hv:Zi1 P t op x y k) (hx:Zaa h β V w x vx) (hy:Zaa h β V w y vy) (ox oy:Operand) :
  ∃d v,k d/\Zaa h β V w d v/\∀w:World,(do eqGuard op t ox oy vx vy;binOp op t vx vy).run P w=.ok v w:=by
 unfold Zi1 at hv;split at hv
 ·split at hv
  ·rename_i ks p he;simp only[Zaa] at hx hy;obtain ⟨us,rfl,h1⟩:=hx;obtain ⟨vs,rfl,h2⟩:=hy;obtain ⟨k1,k2,k3⟩:=ZqK he h1 h2;obtain ⟨b,hb,e1,_⟩:=hv.1 us vs .eql ox oy w k1 k2 (.inl rfl);refine ⟨_,.bool b,hv.2,by simp only[Zaa];exact ⟨b,rfl,(e1 rfl).trans k3⟩,λw'=>?_⟩;obtain ⟨b',hb',e1',_⟩:=hv.1 us vs .eql ox oy w' k1 k2 (.inl rfl);have:b'=b:=by have:=(e1' rfl).trans (e1 rfl).symm;cases b<;>cases b'<;>simp_all
   rw[hb',this]
  ·exact hv.elim
 ·split at hv
  ·rename_i ks p he;simp only[Zaa] at hx hy;obtain ⟨us,rfl,h1⟩:=hx;obtain ⟨vs,rfl,h2⟩:=hy;obtain ⟨k1,k2,k3⟩:=ZqK he h1 h2;obtain ⟨b,hb,_,e1⟩:=hv.1 us vs .neq ox oy w k1 k2 (.inr rfl);refine ⟨_,.bool b,hv.2,by simp only[Zaa];exact ⟨b,rfl,(e1 rfl).trans (not_congr k3)⟩,λw'=>?_⟩;obtain ⟨b',hb',_,e1'⟩:=hv.1 us vs .neq ox oy w' k1 k2 (.inr rfl);have:b'=b:=by have:=(e1' rfl).trans (e1 rfl).symm;cases b<;>cases b'<;>simp_all
   rw[hb',this]
  ·exact hv.elim
 ·exact hv.elim
section
variable (hr:RelD C st.h β V w) (he:ZbO st β V w a) (hN:Nx C st.h β V w K next)
include hr he hN
theorem ZBT (hT:TabOk P T) {op:BinOp} {t t':TypeId} {x y:Operand} {o:Oper} (ho:o.op=.binOp op t x y t') (h:ZaK P T F C.G (.binOp op t x y t') st K Qp):Zbj P next qp ((execOp a.eval o).run P w):=by
 have fin:(∃d v,K d st.h/\Zaa st.h β V w d v/\∀w:World,(do eqGuard op t x y (a.eval x) (a.eval y);binOp op t (a.eval x) (a.eval y)).run P w=.ok v w)->Zbj P next qp ((execOp a.eval o).run P w):=by rintro ⟨d,v,hk,hd,hrun⟩;exact Zdp hN hr (x:=do eqGuard op t x y (a.eval x) (a.eval y);binOp op t (a.eval x) (a.eval y)) (by simp[execOp,ho]) (hrun w) hk hd
 simp only[ZaK] at h;split at h
 ·rename_i ht;exact fin (Zpv hT h (he.eval hr.gl x) (he.eval hr.gl y) ht rfl x y)
 ·rename_i ht;exact fin (Zwc hT h (he.eval hr.gl x) (he.eval hr.gl y) ht rfl x y)
 ·exact fin (Zs2 h (he.eval hr.gl x) (he.eval hr.gl y) x y)
 ·exact fin (ZwZ h (he.eval hr.gl x) (he.eval hr.gl y) t x y)
theorem ZCP {op:UnOp} {t:TypeId} {x:Operand} {o:Oper} (ho:o.op=.unOp op t x) (h:ZaK P T F C.G (.unOp op t x) st K Qp):Zbj P next qp ((execOp a.eval o).run P w):=by
 have fin:∀(d:D) (v:Value),K d st.h->Zaa st.h β V w d v->(Op.unary op (a.eval x)).run P w=.ok v w->Zbj P next qp ((execOp a.eval o).run P w):=λd v hk hd hrun =>
  Zdp hN hr (x:=Op.unary op (a.eval x)) (by simp[execOp,ho]) hrun hk hd
 have hx:=he.eval hr.gl x;simp only[ZaK] at h;unfold ZzX at h;split at h
 ·rename_i e;rw[e] at hx;simp only[Zaa] at hx;obtain ⟨b,hb,hbp⟩:=hx;refine fin _ (.bool (!b)) h ?_ (by rw[hb];rfl);simp only[Zaa];exact ⟨!b,rfl,by rw[<- hbp];cases b<;>simp⟩
 ·rename_i e;rw[e] at hx;simp only[Zaa] at hx;obtain ⟨b,hb,hbp⟩:=hx;refine fin _ (.bool (!b)) h ?_ (by rw[hb];rfl);simp only[Zaa];refine ⟨!b,rfl,?_⟩;constructor
  ·intro hn;refine Yam.1 (λhp=>?_);rw[hbp.2 hp] at hn;cases hn
  ·intro hp;cases b with
   | true=>exact absurd hp (hbp.1 rfl)
   | false=>rfl
 ·rename_i e;rw[e] at hx;simp only[Zaa,ZaW] at hx;exact fin _ (.bool false) h (by simp only[Zaa,ZaW]) (by rw[hx];rfl)
 ·rename_i e;rw[e] at hx;simp only[Zaa,ZaW] at hx;exact fin _ (.bool true) h (by simp only[Zaa,ZaW]) (by rw[hx];rfl)
 ·rename_i e;rw[e] at hx;simp only[Zaa,ZaW] at hx;obtain ⟨hc,hk⟩:=h;have hw:=I64.wrap hc;exact fin _ _ hk (Zp1 _) (by rw[hx];simp[Op.unary,Op.intArith] at hw ⊢;exact hw)
 ·exact h.elim
theorem Zta (hT:TabOk P T) {src dst:TypeId} {x:Operand} {o:Oper} (ho:o.op=.convert src dst x) (h:ZaK P T F C.G (.convert src dst x) st K Qp):Zbj P next qp ((execOp a.eval o).run P w):=by
 have he':execOp a.eval o=(do pure (.value (<- convert src dst (a.eval x)))):=by simp[execOp,ho]
 have hx:=he.eval hr.gl x;simp only[ZaK] at h;split at h
 ·rename_i hs hd e;rw[e] at hx;simp only[Zaa,ZaW] at hx;obtain ⟨hc,hk⟩:=h;obtain ⟨d1,hd1,_⟩:=(hT src _ hs).d;obtain ⟨d,hd2,hdk,_⟩:=(hT dst _ hd).d;have hdk:d=.int .i64:=hdk;subst hdk;refine Zdp hN hr he' ?_ hk (Zp1 _);rw[hx];have hw:=I64.wrap hc;simp[convert,run_underlying hd1,run_underlying hd2,Conv.intToInt,hw]
 ·rename_i hs hd e;rw[e] at hx;simp only[Zaa,ZaW] at hx;obtain ⟨hc,hk⟩:=h;obtain ⟨d1,hd1,_⟩:=(hT src _ hs).d;obtain ⟨d,hd2,hdk,_⟩:=(hT dst _ hd).d;have hdk:d=.int .i64:=hdk;subst hdk;refine Zdp hN hr he' ?_ hk (Zp1 _);rw[hx];have hw:=I64.wrap hc;simp[convert,run_underlying hd1,run_underlying hd2,Conv.intToInt,hw]
 ·rename_i hs hd e;rw[e] at hx;simp only[Zaa,ZaW] at hx;obtain ⟨d1,hd1,_⟩:=(hT src _ hs).d;obtain ⟨d,hd2,hdk,_⟩:=(hT dst _ hd).d;have hdk:d=.int .u8:=hdk;subst hdk;refine Zdp hN hr he' ?_ h (ZBV _);rw[hx];simp[convert,run_underlying hd1,run_underlying hd2,Conv.intToInt]
 ·rename_i e s hs hd ex;split at h
  ·rename_i hte;rw[ex] at hx;simp only[Zaa,ZaW] at hx;obtain ⟨d1,hd1,hk1,_⟩:=(hT src _ hs).d;have hk1:d1=.string:=hk1;subst hk1;obtain ⟨d2,hd2,hk2,_⟩:=(hT dst _ hd).d;have hk2:d2=.slice e:=hk2;subst hk2;obtain ⟨d3,hd3,hk3,_⟩:=(hT e _ hte).d;have hk3:d3=.int .u8:=hk3;subst hk3;have hrun:=run_bytes_of_string (P:=P) w src dst e ⟨⟨s⟩⟩ hd1 hd2 hd3;have hrun2:=Go.Eng.run_v (o:=o) (ρ:=a.eval) he' (by rw[hx];exact hrun);rw[hrun2];generalize hcap:grownCap w (ByteArray.size ⟨⟨s⟩⟩) 0 e=cap;have hge:s.length<=cap:=by rw[<- hcap];exact grownCap_ge w _ 0 e
   have hcell:∀j v,(s.map (λc=>Value.int .u8 (c.toNat:Int)))[j]?=some v->(w.drew.alloc (.cells (bytesRow ⟨⟨s⟩⟩ cap) e ((bytesRow ⟨⟨s⟩⟩ cap).size,(bytesRow ⟨⟨s⟩⟩ cap).size+1))).cell? ((⟨w.heap.size,0,none⟩:Addr).add (0*1+j))=some v:=by
    intro j v hj;have hjl:j < s.length:=by have:=(Yaa.1 hj).1;simpa using this
    have h1:(w.drew.alloc (.cells (bytesRow ⟨⟨s⟩⟩ cap) e ((bytesRow ⟨⟨s⟩⟩ cap).size,(bytesRow ⟨⟨s⟩⟩ cap).size+1))).cell? ((⟨w.heap.size,0,none⟩:Addr).add (0*1+j))=(bytesRow ⟨⟨s⟩⟩ cap)[j]?:=by
     have:=World.cell?_alloc_mark w.drew (bytesRow ⟨⟨s⟩⟩ cap) e ((bytesRow ⟨⟨s⟩⟩ cap).size,(bytesRow ⟨⟨s⟩⟩ cap).size+1) j;have e0:(⟨w.heap.size,0,none⟩:Addr).add (0*1+j)=⟨w.heap.size,j,none⟩:=by simp only[Addr.add];split<;>simp_all
     rw[e0];exact this
    rw[h1,bytesRow_at ⟨⟨s⟩⟩ cap j (by simpa using hjl)];simp[List.getElem?_eq_getElem hjl] at hj;rw[<- hj];simp
   have hfr:Fr (λ_=>False) w (w.drew.alloc (.cells (bytesRow ⟨⟨s⟩⟩ cap) e ((bytesRow ⟨⟨s⟩⟩ cap).size,(bytesRow ⟨⟨s⟩⟩ cap).size+1))):=⟨rfl,rfl,rfl,by show w.heap.size<=(w.heap.push _).size;simp,λk hk _=>by show (w.heap.push _)[k]?=_;exact Array.getElem?_push_lt hk |>.trans (YaI hk).symm⟩;have hm0:ZaB V w (λk=>V k\/k=w.heap.size) (w.drew.alloc (.cells (bytesRow ⟨⟨s⟩⟩ cap) e ((bytesRow ⟨⟨s⟩⟩ cap).size,(bytesRow ⟨⟨s⟩⟩ cap).size+1))):=λk hk=>⟨.inl hk,hfr.block k (hr.vlt k hk) (λh=>h)⟩;refine hN _ _ _ _ β (λk=>V k\/k=w.heap.size) h ?_ ?_ (LeH.refl _ _) hm0
   ·refine ⟨λi o hi=>?_,hr.sep,hr.mine,λi o k hi hlv hb hV=>?_,λk hk=>?_,λk hk=>.inl (hr.vin k hk),λk hk=>?_,?_,hr.gl.move hm0⟩
    ·cases hlv:o.live with
     | false=>cases o<;>simp_all [Obj.live,Zcb]
     | true=>exact (hr.obj i o hi).keep (LeH.refl _ β) hm0 rfl (λk hk=>hfr.block k (hr.lt hi hlv hk) (λh=>h))
    ·rcases hV with hV | hV
     ·exact hr.vout i o k hi hlv hb hV
     ·have:=hr.lt hi hlv hb;omega
    ·rcases hk with hk | hk
     ·exact Ya2 (hr.vlt k hk) hfr.size
     ·subst hk;show _ < (w.heap.push _).size;simp
    ·rcases hk with hk | hk
     ·exact hr.vnew k hk
     ·subst hk;exact .inr (.inl hr.fr.size)
    ·refine ⟨hfr.os.trans hr.fr.os,hfr.tape.trans hr.fr.tape,hfr.output.trans hr.fr.output,YaB hr.fr.size hfr.size,λk hk hn=>?_⟩;rw[hfr.block k (Ya2 hk hr.fr.size) (λh=>h)];exact hr.fr.block k hk hn
   ·simp only[Zaa,ZaW];refine ⟨some ⟨w.heap.size,0,none⟩,cap,?_,by simpa [ZeY] using hge,λ_=>⟨_,rfl,.inr rfl,?_⟩,λh=>by cases h⟩
    ·simp only[ZeY,Yab];rfl
    ·refine Zav.of_flat _ (s.map (λc=>Value.int .u8 (c.toNat:Int))) 0 (λr hr=>?_) ?_ hcell
     ·obtain ⟨c,_,rfl⟩:=YaW.1 hr;rfl
     ·exact Zk6 _ _ s
  ·exact h.elim
 ·exact h.elim
theorem ZoJ (hT:TabOk P T) {t:TypeId} {x:Operand} {f:Nat} {o:Oper} (ho:o.op=.fieldAddr t x f) (h:ZaK P T F C.G (.fieldAddr t x f) st K Qp):Zbj P next qp ((execOp a.eval o).run P w):=by
 have he':execOp a.eval o=(do pure (.value (<- Instr.fieldAt t (a.eval x) f))):=by simp[execOp,ho]
 have hx:=he.eval hr.gl x;simp only[ZaK] at h;split at h
 ·rename_i hs;split at h
  ·rename_i off sz hf;split at h
   ·rename_i i o' e;rw[e] at hx;split at h
    ·rename_i cs ty hi;simp only[Zaa,hi] at hx;obtain ⟨g,hb,hv⟩:=hx;refine Zdp hN hr he' (v:=.pointer (some ⟨g,o'+off,none⟩)) ?_ h (by simp only[Zaa,hi];exact ⟨g,hb,rfl⟩);rw[hv,Zc4 hT hs rfl hf,Zcm]
    ·exact h.elim
   ·rename_i i j o' e;rw[e] at hx;split at h
    ·rename_i xs ty sz' hi;simp only[Zaa,hi] at hx;obtain ⟨hj,g,n,c,hb,hv⟩:=hx;refine Zdp hN hr he' (v:=.pointer (some ⟨g,j*sz'+o'+off,none⟩)) ?_ h (by simp only[Zaa,hi];exact ⟨hj,g,n,c,hb,by rw[Ybc]⟩);rw[hv,Zc4 hT hs rfl hf,Zcm]
    ·exact h.elim
   ·rename_i r o' e;rw[e] at hx;simp only[Zaa] at hx;obtain ⟨ad,hv,hV,hrow⟩:=hx;refine Zdp hN hr he' (v:=.pointer (some ((ad.add o').add off))) ?_ h (by simp only[Zaa];exact ⟨ad,by rw[ZgB],hV,hrow⟩);rw[hv,Zc4 hT hs rfl hf]
   ·exact h.elim
  ·exact h.elim
 ·exact h.elim
omit hN in
theorem ZkM {x:Operand} {n:Int} (e:sv C.G st x=.g (.int n)):a.eval x=.int .i64 n:=by have hx:=he.eval hr.gl x;rw[e] at hx;simpa only[Zaa,ZaW] using hx
theorem ZoI (hT:TabOk P T) {t:TypeId} {x ix:Operand} {o:Oper} (ho:o.op=.indexAddr t x ix) (h:ZaK P T F C.G (.indexAddr t x ix) st K Qp):Zbj P next qp ((execOp a.eval o).run P w):=by
 have he':execOp a.eval o=(do pure (.value (<- Instr.indexAt t (a.eval x) (a.eval ix)))):=by simp[execOp,ho]
 have hx:=he.eval hr.gl x;simp only[ZaK] at h;unfold Zgb at h;split at h
 ·rename_i e hs;split at h
  ·rename_i ei k xs hte ex;cases hb:Nat.beq k ei.size with
   | false=>rw[hb] at h;exact h.elim
   | true =>rw[hb] at h;have hke:=Yap hb;subst hke;obtain ⟨j,r,hj,hxj,hk⟩:=h;rw[ex] at hx;simp only[Zaa,ZaW] at hx;obtain ⟨A,cap,hv,hc,ha⟩:=hx;have hl:j < xs.length:=(Yaa.1 hxj).1;obtain ⟨ad,rfl,hV,hall⟩:=ha.1 (by omega);obtain ⟨hlen,hrow⟩:=Zav.get xs 0 j r hall hxj;rw[YaA] at hrow;refine Zdp hN hr he' (v:=.pointer (some (ad.add (j*ei.size)))) ?_ hk (by simp only[Zaa];exact ⟨ad.add (j*ei.size),by rw[ZgB,Nat.add_zero],by rw[Zfx];exact hV,(ZaG.shift r 0 (j*ei.size)).1 (by rwa [YaA])⟩);rw[hv,ZkM hr he hj];exact Zdb hT hs rfl hte ad xs.length cap j hl w
  ·rename_i ei u hte ex;obtain ⟨m,q,l,ts,xs,ty,j,hm,hq,hi,hj,hl,hk⟩:=h;rw[ex] at hx;simp only[Zaa,ZaW] at hx;obtain ⟨o',ho',hβ⟩:=(hr.obj m _ hm).2.2 _ hq;rw[hi] at ho';injection ho' with ho';subst ho';obtain ⟨vs,hown,_⟩:=hr.obj q _ hi;rcases hown.2 with ⟨_,h0⟩ | ⟨g,cap,cur,hbv,_⟩
   ·omega
   ·refine Zdp hN hr he' (v:=.pointer (some ⟨g,0+j*ei.size,none⟩)) ?_ hk (by simp only[Zaa,hi];exact ⟨hl,g,_,_,hbv,by rw[YaA,Nat.add_zero]⟩);have hu:β q=u:=hβ rfl;rw[hx.1,<- hu,hbv,ZkM hr he hj,Zdb hT hs rfl hte _ xs.length cap j hl w,Zcm]
  ·rename_i ei i hte ex;split at h
   ·rename_i xs ty sz hi;cases hb:Nat.beq sz ei.size with
    | false=>rw[hb] at h;exact h.elim
    | true =>
     rw[hb] at h;have hke:=Yap hb;subst hke;obtain ⟨j,hj,hl,hk⟩:=h;rw[ex] at hx;simp only[Zaa,hi] at hx;obtain ⟨vs,hown,_⟩:=hr.obj i _ hi;rcases hown.2 with ⟨_,h0⟩ | ⟨g,cap,cur,hbv,_⟩
     ·omega
     ·refine Zdp hN hr he' (v:=.pointer (some ⟨g,0+j*ei.size,none⟩)) ?_ hk (by simp only[Zaa,hi];exact ⟨hl,g,_,_,hbv,by rw[YaA,Nat.add_zero]⟩);rw[hx,hbv,ZkM hr he hj,Zdb hT hs rfl hte _ xs.length cap j hl w,Zcm]
   ·exact h.elim
  ·rename_i ei i lo n hte ex;split at h
   ·rename_i xs ty sz hi;cases hb:Nat.beq sz ei.size with
    | false=>rw[hb] at h;exact h.elim
    | true =>
     rw[hb] at h;have hke:=Yap hb;subst hke;obtain ⟨j,hj,hl,hk⟩:=h;rw[ex] at hx;simp only[Zaa,hi] at hx;obtain ⟨hln,A,m,cap,hbe,hv⟩:=hx;obtain ⟨vs,hown,_⟩:=hr.obj i _ hi;rcases hown.2 with ⟨_,h0⟩ | ⟨g,cap',cur,hbv,_,_,hnc,_⟩
     ·omega
     ·rw[hbv] at hbe;injection hbe with e1 e2 e3;subst e1;subst e3;have hne:cap'≠lo:=by omega
      rw[if_neg hne] at hv;simp only[Option.map_some,Zcm,YaA] at hv;refine Zdp hN hr he' (v:=.pointer (some ⟨g,lo*ei.size+j*ei.size,none⟩)) ?_ hk (by simp only[Zaa,hi];exact ⟨by omega,g,_,_,hbv,by rw[Nat.add_zero,Ybw]⟩);rw[hv,ZkM hr he hj,Zdb hT hs rfl hte _ n _ j hl w,Zcm]
   ·exact h.elim
  ·exact h.elim
 ·rename_i n e hs;split at h
  ·rename_i ei i o' hte ex;rw[ex] at hx;split at h
   ·rename_i cs ty hi;obtain ⟨j,hj,hl,hk⟩:=h;simp only[Zaa,hi] at hx;obtain ⟨g,hb,hv⟩:=hx;refine Zdp hN hr he' (v:=.pointer (some ⟨g,o'+j*ei.size,none⟩)) ?_ hk (by simp only[Zaa,hi];exact ⟨g,hb,rfl⟩);rw[hv,ZkM hr he hj,ZdJ hT hs rfl hte _ j hl w,Zcm]
   ·exact h.elim
  ·rename_i ei r o' hte ex;obtain ⟨j,hj,hl,hk⟩:=h;rw[ex] at hx;simp only[Zaa] at hx;obtain ⟨ad,hv,hV,hrow⟩:=hx;refine Zdp hN hr he' (v:=.pointer (some ((ad.add o').add (j*ei.size)))) ?_ hk (by simp only[Zaa];exact ⟨ad,by rw[ZgB],hV,hrow⟩);rw[hv,ZkM hr he hj];exact ZdJ hT hs rfl hte _ j hl w
  ·rename_i ei i k' o' hte ex;rw[ex] at hx;split at h
   ·rename_i xs ty sz' hi;obtain ⟨j,hj,hl,hk⟩:=h;simp only[Zaa,hi] at hx;obtain ⟨hkl,g,nn,c,hb,hv⟩:=hx;refine Zdp hN hr he' (v:=.pointer (some ⟨g,k'*sz'+o'+j*ei.size,none⟩)) ?_ hk (by simp only[Zaa,hi];exact ⟨hkl,g,nn,c,hb,by rw[Ybc]⟩);rw[hv,ZkM hr he hj,ZdJ hT hs rfl hte _ j hl w,Zcm]
   ·exact h.elim
  ·exact h.elim
 ·exact h.elim
theorem Zyo (hT:TabOk P T) {t:TypeId} {x ix:Operand} {o:Oper} (ho:o.op=.index t x ix) (h:ZaK P T F C.G (.index t x ix) st K Qp):Zbj P next qp ((execOp a.eval o).run P w):=by
 have he':execOp a.eval o=(do pure (.value (<- Instr.index t (a.eval x) (a.eval ix)))):=by simp[execOp,ho]
 have hx:=he.eval hr.gl x;simp only[ZaK] at h;split at h
 ·rename_i s hs ex;obtain ⟨j,c,hi,hj,hk⟩:=h;rw[ex] at hx;simp only[Zaa,ZaW] at hx;obtain ⟨d,hd,hdk,_⟩:=(hT t _ hs).d;have hdk:d=.string:=hdk;subst hdk;refine Zdp hN hr he' ?_ hk (ZBV _);rw[hx,ZkM hr he hi];have h1:(0:Int)<=(j:Int):=by omega
  have h2:(⟨⟨s⟩⟩:ByteArray)[j]?=some c:=by obtain ⟨hl,hc⟩:=Yaa.1 hj;have hsz:j < (⟨⟨s⟩⟩:ByteArray).size:=hl;rw[getElem?_pos (⟨⟨s⟩⟩:ByteArray) j hsz];exact congrArg some hc
  simp[Instr.index,run_underlying hd,asIntOf,h2]
 ·exact h.elim
theorem Zym (hT:TabOk P T) {t:TypeId} {x:Operand} {lo hi:Option Operand} {o:Oper} (ho:o.op=.slice t x lo hi none) (h:ZaK P T F C.G (.slice t x lo hi none) st K Qp):Zbj P next qp ((execOp a.eval o).run P w):=by
 have he':execOp a.eval o=(do pure (.value (<- Instr.sliceAt t (a.eval x) (lo.map a.eval) (hi.map a.eval) none))):=by simp[execOp,ho]
 have hx:=he.eval hr.gl x;simp only[ZaK] at h;unfold Zop at h;split at h
 ·rename_i s hs ex;rw[ex] at hx;simp only[Zaa,ZaW] at hx;obtain ⟨d,hd,hdk,_⟩:=(hT t _ hs).d;have hdk:d=.string:=hdk;subst hdk;have fin:∀(l hh:Nat) (s':List UInt8),(match lo.map a.eval with | none=>l=0 | some p=>p=.int .i64 (l:Int))->(match hi.map a.eval with | none=>hh=s.length | some p=>p=.int .i64 (hh:Int))->l<=hh->hh<=s.length->s'=(s.take hh).drop l->K (.g (.str s')) st.h ->
    Zbj P next qp ((execOp a.eval o).run P w):=by intro l hh s' hlo hhi h1 h2 he2 hk;subst he2;refine Zdp hN hr he' ?_ hk (ZCr _);have hb:=ZfG (P:=P) (w:=w) false s.length s.length l hh (lo.map a.eval) (hi.map a.eval) hlo hhi h1 h2;rw[hx];simp only[Instr.sliceAt,Instr.slice,Sem.run_bind,run_underlying hd,Result.andThen_ok];have hsz:(⟨⟨s⟩⟩:ByteArray).size=s.length:=rfl;rw[hsz];simp[hb,ZnK ⟨⟨s⟩⟩ l hh h2]
  split at h
  ·rename_i e1 e2;have e1:lo=none:=by simpa using e1
   have e2:hi=none:=by simpa using e2
   subst e1;subst e2;exact fin 0 s.length s rfl rfl (by omega) (by omega) (by simp) h
  ·rename_i p e1 e2;have e1:lo=none:=by simpa using e1
   obtain ⟨q,rfl,rfl⟩:=YaD.1 e2;subst e1;obtain ⟨hh,hp,hl,hk⟩:=h;exact fin 0 hh _ rfl (ZkM hr he hp) (by omega) hl (by simp) hk
  ·rename_i p e1 e2;have e2:hi=none:=by simpa using e2
   obtain ⟨q,rfl,rfl⟩:=YaD.1 e1;subst e2;obtain ⟨l,hp,hl,hk⟩:=h;exact fin l s.length _ (ZkM hr he hp) rfl hl (by omega) (by simp) hk
  ·rename_i p p' e1 e2;obtain ⟨q,rfl,rfl⟩:=YaD.1 e1;obtain ⟨q',rfl,rfl⟩:=YaD.1 e2;obtain ⟨l,hh,hp,hp',h1,h2,hk⟩:=h;exact fin l hh _ (ZkM hr he hp) (ZkM hr he hp') h1 h2 rfl hk
 ·rename_i e k xs hs ex;split at h
  ·exact h.elim
  ·rename_i ei hte;cases hb:Nat.beq k ei.size with
   | false=>rw[hb] at h;exact h.elim
   | true =>
    rw[hb] at h;simp only[cond_true] at h;have hke:=Yap hb;subst hke;rw[ex] at hx;simp only[Zaa] at hx;obtain ⟨d,hd,hdk,_⟩:=(hT t _ hs).d;have hdk:d=.slice e:=hdk;subst hdk;obtain ⟨inf,z,hinf,hsz,_⟩:=(hT e ei hte).inf;have hx':=hx;simp only[ZaW] at hx';obtain ⟨A,cap,hv,hc,_⟩:=hx';rw[hv] at hx;have fin:∀(l hh:Nat) (xs':List (List GV)),(match lo.map a.eval with | none=>l=0 | some p=>p=.int .i64 (l:Int))->(match hi.map a.eval with | none=>hh=xs.length | some p=>p=.int .i64 (hh:Int))->l<=hh->hh<=xs.length->xs'=(xs.take hh).drop l->K (.g (.sl ei.size xs')) st.h ->
      Zbj P next qp ((execOp a.eval o).run P w):=by intro l hh xs' hlo hhi h1 h2 he2 hk;subst he2;refine Zdp hN hr he' (v:=.slice (if cap=l then A else A.map (·.add (l*ei.size))) (hh - l) (cap - l)) ?_ hk (by simp only[Zaa];exact hx.piece h1 h2);have hb:=ZfG (P:=P) (w:=w) true xs.length cap l hh (lo.map a.eval) (hi.map a.eval) hlo hhi h1 (by omega);rw[hv];simp only[Instr.sliceAt,Instr.slice,Sem.run_bind,run_underlying hd,Result.andThen_ok];simp[hb,sizeOf,typeInfo,hinf,hsz]
    split at h
    ·rename_i e1 e2;have e1:lo=none:=by simpa using e1
     have e2:hi=none:=by simpa using e2
     subst e1;subst e2;exact fin 0 xs.length xs rfl rfl (by omega) (by omega) (by simp) h
    ·rename_i p e1 e2;have e1:lo=none:=by simpa using e1
     obtain ⟨q,rfl,rfl⟩:=YaD.1 e2;subst e1;obtain ⟨hh,hp,hl,hk⟩:=h;exact fin 0 hh _ rfl (ZkM hr he hp) (by omega) hl (by simp) hk
    ·rename_i p e1 e2;have e2:hi=none:=by simpa using e2
     obtain ⟨q,rfl,rfl⟩:=YaD.1 e1;subst e2;obtain ⟨l,hp,hl,hk⟩:=h;exact fin l xs.length _ (ZkM hr he hp) rfl hl (by omega) (by simp) hk
    ·rename_i p p' e1 e2;obtain ⟨q,rfl,rfl⟩:=YaD.1 e1;obtain ⟨q',rfl,rfl⟩:=YaD.1 e2;obtain ⟨l,hh,hp,hp',h1,h2,hk⟩:=h;exact fin l hh _ (ZkM hr he hp) (ZkM hr he hp') h1 h2 rfl hk
 ·rename_i e i hs ex;split at h
  ·rename_i ei xs ty sz hte hi';cases hb:Nat.beq sz ei.size with
   | false=>rw[hb] at h;exact h.elim
   | true =>
    rw[hb] at h;simp only[cond_true] at h;have hke:=Yap hb;subst hke;rw[ex] at hx;simp only[Zaa,hi'] at hx;obtain ⟨d,hd,hdk,_⟩:=(hT t _ hs).d;have hdk:d=.slice e:=hdk;subst hdk;obtain ⟨inf,z,hinf,hsz,_⟩:=(hT e ei hte).inf;obtain ⟨vs,hown,_⟩:=hr.obj i _ hi';have hshape:∃A cap,β i=.slice A xs.length cap/\xs.length<=cap:=by
     rcases hown.2 with ⟨hn,h0⟩ | ⟨g,cap,cur,hbv,_,_,hnc,_⟩
     ·exact ⟨none,0,by rw[hn,h0],by omega⟩
     ·exact ⟨_,cap,hbv,hnc⟩
    obtain ⟨A,cap,hbe,hnc⟩:=hshape;have run:∀(l hh:Nat),(match lo.map a.eval with | none=>l=0 | some p=>p=.int .i64 (l:Int))->(match hi.map a.eval with | none=>hh=xs.length | some p=>p=.int .i64 (hh:Int))->l<=hh->hh<=xs.length ->
      (Instr.sliceAt t (a.eval x) (lo.map a.eval) (hi.map a.eval) none).run P w=.ok (.slice (if cap=l then A else A.map (·.add (l*ei.size))) (hh - l) (cap - l)) w:=by intro l hh hlo hhi h1 h2;have hb:=ZfG (P:=P) (w:=w) true xs.length cap l hh (lo.map a.eval) (hi.map a.eval) hlo hhi h1 (by omega);rw[hx,hbe];simp only[Instr.sliceAt,Instr.slice,Sem.run_bind,run_underlying hd,Result.andThen_ok];simp[hb,sizeOf,typeInfo,hinf,hsz]
    have fin:∀(l hh m:Nat),(match lo.map a.eval with | none=>l=0 | some p=>p=.int .i64 (l:Int))->(match hi.map a.eval with | none=>hh=xs.length | some p=>p=.int .i64 (hh:Int))->l<=hh->hh<=xs.length->m=hh - l->K (.rs i l m) st.h ->
      Zbj P next qp ((execOp a.eval o).run P w):=by intro l hh m hlo hhi h1 h2 hm hk;subst hm;refine Zdp hN hr he' (run l hh hlo hhi h1 h2) hk ?_;simp only[Zaa,hi'];exact ⟨by omega,A,xs.length,cap,hbe,rfl⟩
    split at h
    ·rename_i e1 e2;have e1:lo=none:=by simpa using e1
     have e2:hi=none:=by simpa using e2
     subst e1;subst e2;refine Zdp hN hr he' (run 0 xs.length rfl rfl (by omega) (by omega)) h ?_;simp only[Zaa,hi',hbe,Nat.sub_zero,Ycz];by_cases hc0:cap=0
     ·simp[hc0]
     ·cases A<;>simp[hc0,Addr.add]
    ·rename_i p e1 e2;have e1:lo=none:=by simpa using e1
     obtain ⟨q,rfl,rfl⟩:=YaD.1 e2;subst e1;obtain ⟨hh,hp,hl,hk⟩:=h;exact fin 0 hh _ rfl (ZkM hr he hp) (by omega) hl (by simp) hk
    ·rename_i p e1 e2;have e2:hi=none:=by simpa using e2
     obtain ⟨q,rfl,rfl⟩:=YaD.1 e1;subst e2;obtain ⟨l,hp,hl,hk⟩:=h;exact fin l xs.length _ (ZkM hr he hp) rfl hl (by omega) rfl hk
    ·rename_i p p' e1 e2;obtain ⟨q,rfl,rfl⟩:=YaD.1 e1;obtain ⟨q',rfl,rfl⟩:=YaD.1 e2;obtain ⟨l,hh,hp,hp',h1,h2,hk⟩:=h;exact fin l hh _ (ZkM hr he hp) (ZkM hr he hp') h1 h2 rfl hk
  ·exact h.elim
 ·rename_i n e i o' hs ex;rw[ex] at hx;split at h
  ·rename_i ti cs ty e1 e2 e3 hi';have e1:lo=none:=by simpa using e1
   have e2:hi=none:=by simpa using e2
   subst e1;subst e2;cases hb:Nat.ble (o'+n*ti.size) cs.length && Nat.blt 0 n with
   | false=>rw[hb] at h;exact h.elim
   | true =>rw[hb] at h;simp only[cond_true] at h;simp only[Yaf] at hb;have hn:0 < n:=Yaw hb.2;obtain ⟨d,hd,hdk,_⟩:=(hT t _ hs).d;have hdk:d=.array n e:=hdk;subst hdk;obtain ⟨inf,z,hinf,hsz,_⟩:=(hT e ti e3).inf;simp only[Zaa,hi'] at hx;obtain ⟨g,hb',hv⟩:=hx;refine Zdp hN hr he' (v:=.slice (some ⟨g,o',none⟩) n n) ?_ h (by simp only[Zaa,hi'];exact ⟨g,n,hb',rfl⟩);have hb:=ZfG (P:=P) (w:=w) false n n 0 n none none rfl rfl (by omega) (by omega);rw[hv];simp only[Instr.sliceAt,Sem.run_bind,run_underlying hd,Result.andThen_ok,Option.map_none];simp[hb,sizeOf,typeInfo,hinf,Instr.sureAddr,Nat.pos_iff_ne_zero.1 hn,Addr.add]
  ·exact h.elim
 ·exact h.elim
end
end
end Go.Dm
