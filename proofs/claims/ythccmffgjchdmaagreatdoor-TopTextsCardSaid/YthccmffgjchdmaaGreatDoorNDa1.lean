import Derived.Test.YthccmffgjchdmaaGreatDoorNEng
import Derived.Laws.IdiomStrings
namespace Go.Dm
open Go Go.Eng Go.RowKit
inductive GV where
 | int (n:Int)
 | str (l:List UInt8)
 | bool (b:Bool)
 | u8 (n:Int)
 | sl (k:Nat) (xs:List (List GV))
 | raw (v:Value)
mutual
def ZaS (V:Nat->Prop) (w:World):GV->Value->Prop
 | .int n,v=>v=.int .i64 n
 | .str l,v=>v=.string ⟨⟨l⟩⟩
 | .bool b,v=>v=.bool b
 | .u8 n,v=>v=.int .u8 n
 | .raw u,v=>v=u/\v.oneCell'=true/\ZaG v=[v]
 | .sl k xs,v=>∃A cap,v=.slice A xs.length cap/\xs.length<=cap/\(0 < xs.length->∃a,A=some a/\V a.block/\ZaB V w k a 0 xs)/\(A=none->cap=0)
def ZaB (V:Nat->Prop) (w:World) (k:Nat) (a:Addr):Nat->List (List GV)->Prop
 | _,[]=>True
 | j,r :: rs=>(r.length=k/\Zav V w a (j*k) r)/\ZaB V w k a (j+1) rs
def Zav (V:Nat->Prop) (w:World) (a:Addr):Nat->List GV->Prop
 | _,[]=>True
 | i,g :: gs=>(∃u,w.cell? (a.add i)=some u/\ZaS V w g u)/\Zav V w a (i+1) gs
end
def Zbg (V:Nat->Prop) (w:World):List GV->List Value->Prop
 | [],[]=>True
 | g :: gs,v :: vs=>ZaS V w g v/\Zbg V w gs vs
 | _,_=>False
def ZaI (V:Nat->Prop) (w:World) (V':Nat->Prop) (w':World):Prop:=∀k,V k->V' k/\w'.heap[k]?=w.heap[k]?
theorem ZaI.refl (V:Nat->Prop) (w:World):ZaI V w V w:=λ_ h=>⟨h,rfl⟩
theorem ZaI.trans {V V' V'':Nat->Prop} {w w' bH:World} (h:ZaI V w V' w') (k:ZaI V' w' V'' bH):ZaI V w V'' bH:=λi hi=>⟨(k i (h i hi).1).1,(k i (h i hi).1).2.trans (h i hi).2⟩
mutual
theorem ZaS.move {V V':Nat->Prop} {w w':World} (h:ZaI V w V' w'):∀(g:GV) (v:Value),ZaS V w g v->ZaS V' w' g v
 | .int _,_,hr=>hr
 | .str _,_,hr=>hr
 | .bool _,_,hr=>hr
 | .u8 _,_,hr=>hr
 | .raw _,_,hr=>hr
 | .sl k xs,v,hr=>by simp only[ZaS] at hr ⊢;obtain ⟨A,cap,hv,hc,ha⟩:=hr;refine ⟨A,cap,hv,hc,λh0=>?_,ha.2⟩;obtain ⟨a,hA,hV,av⟩:=ha.1 h0;exact ⟨a,hA,(h _ hV).1,ZaB.move h hV xs 0 av⟩
theorem ZaB.move {V V':Nat->Prop} {w w':World} (h:ZaI V w V' w') {k:Nat} {a:Addr} (ha:V a.block):∀(xs:List (List GV)) (j:Nat),ZaB V w k a j xs->ZaB V' w' k a j xs
 | [],_,_=>by simp[ZaB]
 | r :: rs,j,hr=>by simp only[ZaB] at hr ⊢;exact ⟨⟨hr.1.1,Zav.move h ha r _ hr.1.2⟩,ZaB.move h ha rs _ hr.2⟩
theorem Zav.move {V V':Nat->Prop} {w w':World} (h:ZaI V w V' w') {a:Addr} (ha:V a.block):∀(gs:List GV) (i:Nat),Zav V w a i gs->Zav V' w' a i gs
 | [],_,_=>by simp[Zav]
 | g :: gs,i,hr=>by simp only[Zav] at hr ⊢;obtain ⟨⟨u,hu,hg⟩,hr⟩:=hr;refine ⟨⟨u,?_,ZaS.move h g u hg⟩,Zav.move h ha gs _ hr⟩;rw[World.cell?_of_block (w:=w) (w':=w') (a:=a.add i) (by rw[ZfS];exact (h _ ha).2)];exact hu
end
theorem Zbg.move {V V':Nat->Prop} {w w':World} (h:ZaI V w V' w'):∀(gs:List GV) (vs:List Value),Zbg V w gs vs->Zbg V' w' gs vs
 | [],[],_=>trivial
 | [],_ :: _,hr=>hr.elim
 | _ :: _,[],hr=>hr.elim
 | g :: gs,v :: vs,hr=>⟨ZaS.move h g v hr.1,Zbg.move h gs vs hr.2⟩
theorem ZgP (a:Addr) (i j:Nat):(a.add i).add j=a.add (i+j):=by unfold Addr.add;by_cases hi:i=0<;>by_cases hj:j=0<;>simp[hi,hj,Nat.add_assoc]
theorem Zbg.len {V:Nat->Prop} {w:World}:∀{gs:List GV} {vs:List Value},Zbg V w gs vs->gs.length=vs.length
 | [],[],_=>rfl
 | [],_ :: _,h=>h.elim
 | _ :: _,[],h=>h.elim
 | _ :: _,_ :: _,h=>by simp[Zbg.len h.2]
theorem Zbg.get {V:Nat->Prop} {w:World}:∀{gs:List GV} {vs:List Value},Zbg V w gs vs->∀{i:Nat} {g:GV},gs[i]?=some g->∃v,vs[i]?=some v/\ZaS V w g v
 | [],[],_,i,g,hi=>by simp at hi
 | [],_ :: _,h,_,_,_=>h.elim
 | _ :: _,[],h,_,_,_=>h.elim
 | _ :: _,v :: _,h,0,g,hi=>by simp at hi;subst hi;exact ⟨v,rfl,h.1⟩
 | _ :: _,_ :: _,h,i+1,g,hi=>by obtain ⟨v,h1,h2⟩:=Zbg.get h.2 (i:=i) (g:=g) (by simpa using hi);exact ⟨v,by simpa using h1,h2⟩
theorem Zbg.append {V:Nat->Prop} {w:World}:∀{gs hs:List GV} {vs us:List Value},Zbg V w gs vs->Zbg V w hs us->Zbg V w (gs++hs) (vs++us)
 | [],_,[],_,_,k=>k
 | [],_,_ :: _,_,h,_=>h.elim
 | _ :: _,_,[],_,h,_=>h.elim
 | _ :: _,_,_ :: _,_,h,k=>⟨h.1,Zbg.append h.2 k⟩
theorem Zbg.take {V:Nat->Prop} {w:World}:∀{gs:List GV} {vs:List Value} (n:Nat),Zbg V w gs vs->Zbg V w (gs.take n) (vs.take n)
 | [],[],n,_=>by simp[Zbg]
 | [],_ :: _,_,h=>h.elim
 | _ :: _,[],_,h=>h.elim
 | _ :: _,_ :: _,0,_=>by simp[Zbg]
 | _ :: _,_ :: _,n+1,h=>by simp only[List.take_succ_cons];exact ⟨h.1,Zbg.take n h.2⟩
theorem Zbg.drop {V:Nat->Prop} {w:World}:∀{gs:List GV} {vs:List Value} (n:Nat),Zbg V w gs vs->Zbg V w (gs.drop n) (vs.drop n)
 | [],[],n,_=>by simp[Zbg]
 | [],_ :: _,_,h=>h.elim
 | _ :: _,[],_,h=>h.elim
 | _ :: _,_ :: _,0,h=>h
 | _ :: _,_ :: _,n+1,h=>by simp only[Ybz];exact Zbg.drop n h.2
theorem ZaB.get {V:Nat->Prop} {w:World} {k:Nat} {a:Addr}:∀(xs:List (List GV)) (j0 j:Nat) (r:List GV),ZaB V w k a j0 xs->xs[j]?=some r->r.length=k/\Zav V w a ((j0+j)*k) r
 | [],_,j,r,_,hj=>by simp at hj
 | x :: xs,j0,0,r,h,hj=>by simp only[ZaB] at h;simp at hj;subst hj;exact h.1
 | x :: xs,j0,j+1,r,h,hj=>by simp only[ZaB] at h;have:=ZaB.get xs (j0+1) j r h.2 (by simpa using hj);rwa [show j0+1+j=j0+(j+1) from by omega] at this
theorem Zav.cells {V:Nat->Prop} {w:World} {a:Addr}:∀(gs:List GV) (i:Nat),Zav V w a i gs->∃vs,Zbg V w gs vs/\vs.length=gs.length/\∀j v,vs[j]?=some v->w.cell? (a.add (i+j))=some v
 | [],_,_=>⟨[],trivial,rfl,λj v h=>by simp at h⟩
 | g :: gs,i,h=>by
  simp only[Zav] at h;obtain ⟨⟨u,hu,hg⟩,hr⟩:=h;obtain ⟨vs,h1,h2,h3⟩:=Zav.cells gs (i+1) hr;refine ⟨u :: vs,⟨hg,h1⟩,by simp[h2],λj v hj=>?_⟩;cases j with
  | zero=>simp at hj;subst hj;exact hu
  | succ j =>have:=h3 j v (by simpa using hj);rwa [show i+1+j=i+(j+1) from by omega] at this
theorem Zav.of_cells {V:Nat->Prop} {w:World} {a:Addr}:∀(gs:List GV) (vs:List Value) (i:Nat),Zbg V w gs vs->(∀j v,vs[j]?=some v->w.cell? (a.add (i+j))=some v)->Zav V w a i gs
 | [],[],_,_,_=>by simp[Zav]
 | [],_ :: _,_,h,_=>h.elim
 | _ :: _,[],_,h,_=>h.elim
 | g :: gs,v :: vs,i,h,hc=>by simp only[Zav];refine ⟨⟨v,by simpa using hc 0 v rfl,h.1⟩,Zav.of_cells gs vs (i+1) h.2 (λj u hj=>?_)⟩;have:=hc (j+1) u (by simpa using hj);rwa [show i+(j+1)=i+1+j from by omega] at this
theorem Zav.shift {V:Nat->Prop} {w:World} {a:Addr}:∀(gs:List GV) (i o:Nat),Zav V w a (i+o) gs↔Zav V w (a.add o) i gs
 | [],_,_=>by simp[Zav]
 | g :: gs,i,o=>by simp only[Zav];rw[ZgP,Nat.add_comm o i,show i+o+1=i+1+o from by omega,Zav.shift gs (i+1) o]
theorem ZaB.of_flat {V:Nat->Prop} {w:World} {k:Nat} {a:Addr}:∀(xs:List (List GV)) (vs:List Value) (j:Nat),(∀r∈xs,r.length=k)->Zbg V w xs.flatten vs->(∀i v,vs[i]?=some v->w.cell? (a.add (j*k+i))=some v)->ZaB V w k a j xs
 | [],_,_,_,_,_=>by simp[ZaB]
 | r :: xs,vs,j,hk,h,hc=>by
  have hr:=hk r Yae;simp only[List.flatten_cons] at h;have h1:Zbg V w r (vs.take k):=by have:=h.take k;rwa [Ybp (by omega),Yay (by omega)] at this
  have h2:Zbg V w xs.flatten (vs.drop k):=by have:=h.drop k;rwa [List.drop_append_of_le_length (by omega),YbM (by omega),List.nil_append] at this
  simp only[ZaB];refine ⟨⟨hr,Zav.of_cells r _ _ h1 (λi v hi=>hc i v ?_)⟩,ZaB.of_flat xs (vs.drop k) (j+1) (λr hr=>hk r (Yad _ hr)) h2 (λi v hi=>?_)⟩
  ·have az:i < k:=by have:=(Yac.1 hi).1;simp at this;omega
   rwa [Yaw az] at hi
  ·rw[YaT] at hi;have:=hc (k+i) v hi;rwa [show j*k+(k+i)=(j+1)*k+i from by rw[YaW];omega] at this
theorem ZaB.flat {V:Nat->Prop} {w:World} {k:Nat} {a:Addr}:∀(xs:List (List GV)) (j:Nat),ZaB V w k a j xs->∃vs,Zbg V w xs.flatten vs/\vs.length=xs.length*k/\(∀r∈xs,r.length=k)/\∀i v,vs[i]?=some v->w.cell? (a.add (j*k+i))=some v
 | [],_,_=>⟨[],trivial,by simp,λr h=>by simp at h,λi v h=>by simp at h⟩
 | r :: xs,j,h=>by
  simp only[ZaB] at h;obtain ⟨vs,h1,h2,h3,h4⟩:=ZaB.flat xs (j+1) h.2;obtain ⟨us,g1,g2,g3⟩:=Zav.cells r _ h.1.2;have hr:=h.1.1;refine ⟨us++vs,by simp only[List.flatten_cons];exact g1.append h1,by simp[h2,g2,hr,Nat.succ_mul];omega,λr' aL=>?_,λi v hi=>?_⟩
  ·rcases Yav.1 aL with rfl | aL
   ·exact hr
   ·exact h3 r' aL
  ·by_cases hl:i < us.length
   ·rw[Yal hl] at hi;exact g3 i v hi
   ·rw[Yaj (by omega)] at hi;have:=h4 (i - us.length) v hi;rwa [show (j+1)*k+(i - us.length)=j*k+i from by rw[YaW];omega] at this
theorem ZaS.sl_of {V:Nat->Prop} {w:World} {k:Nat} {xs:List (List GV)} {a:Addr} {cap:Nat} (hc:xs.length<=cap) (h:0 < xs.length->V a.block/\ZaB V w k a 0 xs):ZaS V w (.sl k xs) (.slice (some a) xs.length cap):=by simp only[ZaS];exact ⟨some a,cap,rfl,hc,λh0=>⟨a,rfl,h h0⟩,λe=>(by cases e)⟩
theorem ZaS.sl_nil {V:Nat->Prop} {w:World} (k:Nat):ZaS V w (.sl k []) (.slice none 0 0):=by simp only[ZaS];exact ⟨none,0,rfl,Yas _,λh=>absurd h (by simp),λ_=>rfl⟩
theorem ZaB.drop {V:Nat->Prop} {w:World} {k:Nat} {a:Addr}:∀(xs:List (List GV)) (j l:Nat),ZaB V w k a j xs->ZaB V w k a (j+l) (xs.drop l)
 | [],_,_,_=>by simp[ZaB]
 | _ :: _,_,0,h=>h
 | r :: xs,j,l+1,h=>by simp only[ZaB] at h;have:=ZaB.drop xs (j+1) l h.2;rw[show j+1+l=j+(l+1) from by omega] at this;simpa using this
theorem ZaB.take {V:Nat->Prop} {w:World} {k:Nat} {a:Addr}:∀(xs:List (List GV)) (j l:Nat),ZaB V w k a j xs->ZaB V w k a j (xs.take l)
 | [],_,_,_=>by simp[ZaB]
 | _ :: _,_,0,_=>by simp[ZaB]
 | r :: xs,j,l+1,h=>by simp only[ZaB,List.take_succ_cons] at h ⊢;exact ⟨h.1,ZaB.take xs (j+1) l h.2⟩
theorem ZaB.shift {V:Nat->Prop} {w:World} {k:Nat} {a:Addr}:∀(xs:List (List GV)) (j o:Nat),ZaB V w k a (j+o) xs↔ZaB V w k (a.add (o*k)) j xs
 | [],_,_=>by simp[ZaB]
 | r :: xs,j,o=>by simp only[ZaB];rw[show (j+o)*k=j*k+o*k from by rw[Ybj],Zav.shift,show j+o+1=j+1+o from by omega,ZaB.shift xs (j+1) o]
theorem ZaS.piece {V:Nat->Prop} {w:World} {k:Nat} {xs:List (List GV)} {A:Option Addr} {n cap:Nat} (h:ZaS V w (.sl k xs) (.slice A n cap)) {l hh:Nat} (h1:l<=hh) (h2:hh<=xs.length) :
  ZaS V w (.sl k ((xs.take hh).drop l)) (.slice (if cap=l then A else A.map (·.add (l*k))) (hh - l) (cap - l)):=by
 simp only[ZaS] at h ⊢;obtain ⟨A',bV,hv,hc,ha⟩:=h;injection hv with e1 e2 e3;subst e1;subst e2;subst e3;have hlen:((xs.take hh).drop l).length=hh - l:=by simp;omega
 refine ⟨_,cap - l,by rw[hlen],by rw[hlen];omega,λh0=>?_,λe=>?_⟩
 rotate_left
 ·by_cases bt:cap=l
  ·omega
  ·rw[if_neg bt] at e;have:=ha.2 (by simpa using e);omega
 rw[hlen] at h0;have bt:cap≠l:=by omega
 obtain ⟨a,rfl,hV,av⟩:=ha.1 (by omega);refine ⟨a.add (l*k),by rw[if_neg bt];rfl,by rw[ZfS];exact hV,?_⟩;have:=((av.take xs 0 hh).drop _ 0 l);exact (ZaB.shift _ 0 l).1 this
inductive D where
 | g (x:GV)
 | pb (p:Prop)
 | pn (p:Prop)
 | nils
 | row (i:Nat)
 | rs (i lo n:Nat)
 | ptr (i off:Nat)
 | el (i j off:Nat)
 | fp (r:List GV) (off:Nat)
 | nilP
 | nilF
 | nilI
 | fn (f:FuncId) (fs cs:List D)
 | iface (t:TypeId) (x:D)
 | agg (cs:List D)
 | tuple (vs:List D)
 | any
inductive Ob0 where
 | row (xs:List (List GV)) (e:TypeId) (sz:Nat)
 | blk (cs:List GV) (t:TypeId)
inductive Obj where
 | blk (cs:List D) (t:TypeId)
 | row (xs:List (List GV)) (e:TypeId) (sz:Nat)
 | many (l:List (Value × Ob0)) (ts:List (Value × Nat))
 | dead
abbrev Zae:=List Obj
def Obj.live:Obj->Bool
 | .dead=>false
 | _=>true
def bk:Value->Option Nat
 | .pointer (some a)=>some a.block
 | .slice (some a) _ _=>some a.block
 | _=>none
def Bk:Obj->Value->Nat->Prop
 | .many l _,_,k=>∃p∈l,bk p.1=some k
 | .blk _ _,v,k=>bk v=some k
 | .row _ _ _,v,k=>bk v=some k
 | .dead,v,k=>bk v=some k
def ZCx (u:Value) (lo n sz:Nat) (v:Value):Prop:=∃A m cap,u=.slice A m cap/\v=.slice (if cap=lo then A else A.map (·.add (lo*sz))) n (cap - lo)
mutual
def Zab (h:Zae) (β:Nat->Value) (V:Nat->Prop) (w:World):D->Value->Prop
 | .g x,v=>ZaS V w x v
 | .pb p,v=>∃b,v=.bool b/\(b=true↔p)
 | .pn p,v=>∃b,v=.bool b/\(b=true↔¬p)
 | .nils,v=>v=.slice none 0 0
 | .row i,v=>match h[i]? with
  | some (.row _ _ _)=>v=β i
  | some .dead=>True
  | _=>False
 | .rs i lo n,v=>match h[i]? with
  | some (.row xs _ sz)=>lo+n<=xs.length/\ZCx (β i) lo n sz v
  | some (.blk _ _)=>∃g c,β i=.pointer (some ⟨g,0,none⟩)/\v=.slice (some ⟨g,lo,none⟩) n c
  | some .dead=>True
  | _=>False
 | .ptr i off,v=>match h[i]? with
  | some (.blk _ _)=>∃g,β i=.pointer (some ⟨g,0,none⟩)/\v=.pointer (some ⟨g,off,none⟩)
  | some .dead=>True
  | _=>False
 | .el i j off,v=>match h[i]? with
  | some (.row xs _ sz)=>j < xs.length/\∃g n c,β i=.slice (some ⟨g,0,none⟩) n c/\v=.pointer (some ⟨g,j*sz+off,none⟩)
  | some .dead=>True
  | _=>False
 | .fp r off,v=>∃a,v=.pointer (some (a.add off))/\V a.block/\Zav V w a 0 r
 | .nilP,v=>v=.pointer none
 | .nilF,v=>v=.nilFunc
 | .nilI,v=>v=.nilIface
 | .fn f fs cs,v=>∃us ts,v=.func (.func f) ⟨us⟩ ⟨ts⟩/\Zaa h β V w fs us/\Zaa h β V w cs ts
 | .iface t x,v=>∃u,v=.iface t u/\Zab h β V w x u
 | .agg cs,v=>∃us,v=.agg ⟨us⟩/\Zaa h β V w cs us
 | .tuple vs,v=>∃us,v=.tuple ⟨us⟩/\Zaa h β V w vs us
 | .any,_=>True
def Zaa (h:Zae) (β:Nat->Value) (V:Nat->Prop) (w:World):List D->List Value->Prop
 | [],vs=>vs=[]
 | d :: ds,vs=>∃v us,vs=v :: us/\Zab h β V w d v/\Zaa h β V w ds us
end
def ZiH (V:Nat->Prop) (w:World) (v:Value):Ob0->Prop
 | .blk cs t=>∃g vs,v=.pointer (some ⟨g,0,none⟩)/\w.heap[g]?=some (.cells ⟨vs⟩ t (0,0))/\Zbg V w cs vs
 | .row xs e sz=>∃vs,w.ownsRow 0 e sz v xs.length vs/\Zbg V w xs.flatten vs/\(∀r∈xs,r.length=sz)/\0 < sz
def ZpM (h:Zae) (β:Nat->Value) (t:Value × Nat):Prop:=∃o,h[t.2]?=some o/\(o.live=true->β t.2=t.1)
def Zvv (p q:Value × Ob0):Prop:=∀k,bk p.1=some k->bk q.1≠some k
def Zco (h:Zae) (β:Nat->Value) (V:Nat->Prop) (w:World) (i:Nat):Obj->Prop
 | .blk cs t=>∃g vs,β i=.pointer (some ⟨g,0,none⟩)/\w.heap[g]?=some (.cells ⟨vs⟩ t (0,0))/\Zaa h β V w cs vs
 | .row xs e sz=>∃vs,w.ownsRow 0 e sz (β i) xs.length vs/\Zbg V w xs.flatten vs/\(∀r∈xs,r.length=sz)/\0 < sz
 | .many l ts=>(∀p∈l,ZiH V w p.1 p.2)/\l.Pairwise Zvv/\∀t∈ts,ZpM h β t
 | .dead=>True
abbrev Gl:=List (Nat × List GV)
def whole (w:World) (b:Nat):List GV->Prop
 | .raw _ :: l=>∃cs t x,w.heap[b]?=some (.cells cs t x)/\cs.size=l.length+1
 | _=>True
theorem Zrv {w w':World} {b:Nat} (h:w'.heap[b]?=w.heap[b]?):∀{l:List GV},whole w b l->whole w' b l:=by
 intro l hl;cases l with
 | nil=>trivial
 | cons g l=>cases g<;>first | trivial | (obtain ⟨cs,t,x,h1,h2⟩:=hl;exact ⟨cs,t,x,h.trans h1,h2⟩)
def Zis (G:Gl) (V:Nat->Prop) (w:World):Prop:=∀p∈G,V p.1/\Zav V w ⟨p.1,0,none⟩ 0 p.2/\whole w p.1 p.2
theorem Zis.move {G:Gl} {V V':Nat->Prop} {w w':World} (h:Zis G V w) (hm:ZaI V w V' w'):Zis G V' w':=λp hp=>⟨(hm _ (h p hp).1).1,Zav.move hm (h p hp).1 _ _ (h p hp).2.1,Zrv (hm _ (h p hp).1).2 (h p hp).2.2⟩
structure Ctx where
 w0:World
 own:Nat->Prop
 V0:Nat->Prop
 G:Gl
structure RelD (C:Ctx) (h:Zae) (β:Nat->Value) (V:Nat->Prop) (w:World):Prop where
 obj:∀(i:Nat) (o:Obj),h[i]?=some o->Zco h β V w i o
 sep:∀(i j:Nat) (o o':Obj) (k:Nat),h[i]?=some o->o.live=true->h[j]?=some o'->o'.live=true->Bk o (β i) k->Bk o' (β j) k->i=j
 mine:∀(i:Nat) (o:Obj) (k:Nat),h[i]?=some o->o.live=true->Bk o (β i) k->C.w0.heap.size<=k\/C.own k
 vout:∀(i:Nat) (o:Obj) (k:Nat),h[i]?=some o->o.live=true->Bk o (β i) k->¬ V k
 vlt:∀k,V k->k < w.heap.size
 vin:∀k,C.V0 k->V k
 vnew:∀k,V k->C.V0 k\/C.w0.heap.size<=k\/C.own k
 fr:Fr C.own C.w0 w
 gl:Zis C.G V w
def OLe:Obj->Obj->Prop
 | _,.dead=>True
 | .blk _ _,.blk _ _=>True
 | .row xs _ sz,.row ys _ aW=>xs.length=ys.length/\sz=aW
 | .many _ _,.many _ _=>True
 | _,_=>False
theorem OLe.refl (o:Obj):OLe o o:=by cases o<;>simp[OLe]
def LeH (h:Zae) (β:Nat->Value) (h':Zae) (β':Nat->Value):Prop:=∀(i:Nat) (o:Obj),h[i]?=some o->∃o',h'[i]?=some o'/\OLe o o'/\(o'.live=true->β' i=β i)
theorem LeH.refl (h:Zae) (β:Nat->Value):LeH h β h β:=λ_ o ho=>⟨o,ho,OLe.refl o,λ_=>rfl⟩
section
variable {h h':Zae} {β β':Nat->Value} {V V':Nat->Prop} {w w':World}
mutual
theorem Zab.mono (hl:LeH h β h' β') (hm:ZaI V w V' w'):∀(d:D) (v:Value),Zab h β V w d v->Zab h' β' V' w' d v
 | .g x,v,hr=>by simp only[Zab] at hr ⊢;exact ZaS.move hm x v hr
 | .pb p,v,hr=>by simp only[Zab] at hr ⊢;exact hr
 | .pn p,v,hr=>by simp only[Zab] at hr ⊢;exact hr
 | .nils,v,hr=>by simp only[Zab] at hr ⊢;exact hr
 | .row i,v,hr=>by
  simp only[Zab] at hr ⊢;cases ho:h[i]? with
  | none=>rw[ho] at hr;exact hr.elim
  | some o =>
   obtain ⟨o',aP,hle,hb⟩:=hl i o ho;rw[ho] at hr;rw[aP];cases o<;>cases o'<;>simp_all [OLe,Obj.live]
 | .rs i lo n,v,hr=>by
  simp only[Zab] at hr ⊢;cases ho:h[i]? with
  | none=>rw[ho] at hr;exact hr.elim
  | some o =>
   obtain ⟨o',aP,hle,hb⟩:=hl i o ho;rw[ho] at hr;rw[aP];cases o<;>cases o'<;>simp_all [OLe,Obj.live]
 | .ptr i off,v,hr=>by
  simp only[Zab] at hr ⊢;cases ho:h[i]? with
  | none=>rw[ho] at hr;exact hr.elim
  | some o =>
   obtain ⟨o',aP,hle,hb⟩:=hl i o ho;rw[ho] at hr;rw[aP];cases o<;>cases o'<;>simp_all [OLe,Obj.live]
 | .el i j off,v,hr=>by
  simp only[Zab] at hr ⊢;cases ho:h[i]? with
  | none=>rw[ho] at hr;exact hr.elim
  | some o =>
   obtain ⟨o',aP,hle,hb⟩:=hl i o ho;rw[ho] at hr;rw[aP];cases o<;>cases o'<;>simp_all [OLe,Obj.live]
 | .fp r off,v,hr=>by simp only[Zab] at hr ⊢;obtain ⟨a,hv,hV,aF⟩:=hr;exact ⟨a,hv,(hm _ hV).1,Zav.move hm hV r 0 aF⟩
 | .nilP,v,hr=>by simp only[Zab] at hr ⊢;exact hr
 | .nilF,v,hr=>by simp only[Zab] at hr ⊢;exact hr
 | .nilI,v,hr=>by simp only[Zab] at hr ⊢;exact hr
 | .fn f fs cs,v,hr=>by simp only[Zab] at hr ⊢;obtain ⟨us,ts,hv,h1,h2⟩:=hr;exact ⟨us,ts,hv,Zaa.mono hl hm fs us h1,Zaa.mono hl hm cs ts h2⟩
 | .iface t x,v,hr=>by simp only[Zab] at hr ⊢;obtain ⟨u,hv,h1⟩:=hr;exact ⟨u,hv,Zab.mono hl hm x u h1⟩
 | .agg cs,v,hr=>by simp only[Zab] at hr ⊢;obtain ⟨us,hv,h1⟩:=hr;exact ⟨us,hv,Zaa.mono hl hm cs us h1⟩
 | .tuple cs,v,hr=>by simp only[Zab] at hr ⊢;obtain ⟨us,hv,h1⟩:=hr;exact ⟨us,hv,Zaa.mono hl hm cs us h1⟩
 | .any,v,hr=>by simp only[Zab]
theorem Zaa.mono (hl:LeH h β h' β') (hm:ZaI V w V' w'):∀(ds:List D) (vs:List Value),Zaa h β V w ds vs->Zaa h' β' V' w' ds vs
 | [],vs,hr=>by simp only[Zaa] at hr ⊢;exact hr
 | d :: ds,vs,hr=>by simp only[Zaa] at hr ⊢;obtain ⟨v,us,hv,h1,h2⟩:=hr;exact ⟨v,us,hv,Zab.mono hl hm d v h1,Zaa.mono hl hm ds us h2⟩
end
end
theorem Zaa.len {h:Zae} {β:Nat->Value} {V:Nat->Prop} {w:World}:∀{ds:List D} {vs:List Value},Zaa h β V w ds vs->ds.length=vs.length
 | [],vs,hr=>by simp only[Zaa] at hr;subst hr;rfl
 | d :: ds,vs,hr=>by simp only[Zaa] at hr;obtain ⟨v,us,rfl,h1,h2⟩:=hr;simp[Zaa.len h2]
theorem Zaa.get {h:Zae} {β:Nat->Value} {V:Nat->Prop} {w:World}:∀{ds:List D} {vs:List Value},Zaa h β V w ds vs->∀{i:Nat} {d:D},ds[i]?=some d->∃v,vs[i]?=some v/\Zab h β V w d v
 | [],vs,hr,i,d,hi=>by simp at hi
 | d :: ds,vs,hr,i,d',hi=>by
  simp only[Zaa] at hr;obtain ⟨v,us,rfl,h1,h2⟩:=hr;cases i with
  | zero=>simp at hi;subst hi;exact ⟨v,rfl,h1⟩
  | succ i =>obtain ⟨v',h3,h4⟩:=Zaa.get h2 (i:=i) (d:=d') (by simpa using hi);exact ⟨v',by simpa using h3,h4⟩
theorem Zaa.append {h:Zae} {β:Nat->Value} {V:Nat->Prop} {w:World}:∀{ds es:List D} {vs us:List Value},Zaa h β V w ds vs->Zaa h β V w es us->Zaa h β V w (ds++es) (vs++us)
 | [],_,vs,us,hr,k=>by simp only[Zaa] at hr;subst hr;exact k
 | d :: ds,es,vs,us,hr,k=>by simp only[Zaa] at hr;obtain ⟨v,kt,rfl,h1,h2⟩:=hr;simp only[List.cons_append,Zaa];exact ⟨v,_,rfl,h1,Zaa.append h2 k⟩
theorem Zaa.take {h:Zae} {β:Nat->Value} {V:Nat->Prop} {w:World}:∀{ds:List D} {vs:List Value} (n:Nat),Zaa h β V w ds vs->Zaa h β V w (ds.take n) (vs.take n)
 | [],vs,n,hr=>by simp only[Zaa] at hr;subst hr;simp[Zaa]
 | d :: ds,vs,0,hr=>by simp[Zaa]
 | d :: ds,vs,n+1,hr=>by simp only[Zaa] at hr;obtain ⟨v,us,rfl,h1,h2⟩:=hr;simp only[List.take_succ_cons,Zaa];exact ⟨v,_,rfl,h1,Zaa.take n h2⟩
theorem Zaa.drop {h:Zae} {β:Nat->Value} {V:Nat->Prop} {w:World}:∀{ds:List D} {vs:List Value} (n:Nat),Zaa h β V w ds vs->Zaa h β V w (ds.drop n) (vs.drop n)
 | [],vs,n,hr=>by simp only[Zaa] at hr;subst hr;simp[Zaa]
 | d :: ds,vs,0,hr=>hr
 | d :: ds,vs,n+1,hr=>by simp only[Zaa] at hr;obtain ⟨v,us,rfl,h1,h2⟩:=hr;simp only[Ybz];exact Zaa.drop n h2
theorem Zaa.set {h:Zae} {β:Nat->Value} {V:Nat->Prop} {w:World}:∀{ds:List D} {vs:List Value} (i:Nat) {d:D} {v:Value},Zaa h β V w ds vs->Zab h β V w d v->Zaa h β V w (ds.set i d) (vs.set i v)
 | [],vs,i,d,v,hr,_=>by simp only[Zaa] at hr;subst hr;simp[Zaa]
 | d0 :: ds,vs,0,d,v,hr,hd=>by simp only[Zaa] at hr;obtain ⟨v0,us,rfl,h1,h2⟩:=hr;simp only[List.set_cons_zero,Zaa];exact ⟨v,us,rfl,hd,h2⟩
 | d0 :: ds,vs,i+1,d,v,hr,hd=>by simp only[Zaa] at hr;obtain ⟨v0,us,rfl,h1,h2⟩:=hr;simp only[List.set_cons_succ,Zaa];exact ⟨v0,_,rfl,h1,Zaa.set i h2 hd⟩
theorem Zbg.set {V:Nat->Prop} {w:World}:∀{ds:List GV} {vs:List Value} (i:Nat) {d:GV} {v:Value},Zbg V w ds vs->ZaS V w d v->Zbg V w (ds.set i d) (vs.set i v)
 | [],[],i,d,v,_,_=>by simp[Zbg]
 | [],_ :: _,_,_,_,h,_=>h.elim
 | _ :: _,[],_,_,_,h,_=>h.elim
 | d0 :: ds,_ :: _,0,d,v,hr,hd=>⟨hd,hr.2⟩
 | d0 :: ds,_ :: _,i+1,d,v,hr,hd=>⟨hr.1,Zbg.set i hr.2 hd⟩
theorem Zic {h:Zae} {β:Nat->Value} {V:Nat->Prop} {w:World}:∀(gs:List GV) (vs:List Value),Zaa h β V w (gs.map .g) vs↔Zbg V w gs vs
 | [],[]=>by simp[Zaa,Zbg]
 | [],_ :: _=>by simp[Zaa,Zbg]
 | g :: gs,[]=>by simp[Zaa,Zbg]
 | g :: gs,v :: vs=>by
  simp only[Yan,Zaa,Zbg];constructor
  ·rintro ⟨v',us,e,h1,h2⟩;injection e with e1 e2;subst e1;subst e2;simp only[Zab] at h1;exact ⟨h1,(Zic gs _).1 h2⟩
  ·rintro ⟨h1,h2⟩;exact ⟨v,vs,rfl,by simp only[Zab];exact h1,(Zic gs vs).2 h2⟩
section
variable {C:Ctx} {h h':Zae} {β β':Nat->Value} {V:Nat->Prop} {w w':World}
theorem ZlO {e sz n:Nat} {v:Value} {xs:List Value} (ho:w.ownsRow 0 e sz v n xs) {k:Nat} (hk:bk v=some k):v.ownBlock=some k:=by
 rcases ho.2 with ⟨rfl,_⟩ | ⟨g,cap,cur,rfl,_⟩
 ·simp[bk] at hk
 ·simpa [bk,Value.ownBlock] using hk
theorem ZgM {e sz n:Nat} {v:Value} {xs:List Value} (ho:w.ownsRow 0 e sz v n xs) {k:Nat} (hk:v.ownBlock=some k):bk v=some k:=by
 rcases ho.2 with ⟨rfl,_⟩ | ⟨g,cap,cur,rfl,_⟩
 ·simp[Value.ownBlock] at hk
 ·simpa [bk,Value.ownBlock] using hk
theorem ZiH.lt {v:Value} {o:Ob0} (ho:ZiH V w v o) {k:Nat} (hk:bk v=some k):k < w.heap.size:=by
 cases o with
 | blk cs t =>obtain ⟨g,vs,hb,hg,_⟩:=ho;rw[hb] at hk;simp[bk] at hk;subst hk;exact (YaQ.1 hg).1
 | row xs e sz =>obtain ⟨vs,hv,_⟩:=ho;exact (hv.lt k (ZlO hv hk)).2
theorem Zco.lt {i:Nat} {o:Obj} (ho:Zco h β V w i o) (hl:o.live=true) {k:Nat} (hk:Bk o (β i) k):k < w.heap.size:=by
 cases o with
 | many l ts=>obtain ⟨p,hp,hk⟩:=hk;exact (ho.1 p hp).lt hk
 | blk cs t =>obtain ⟨g,vs,hb,hg,_⟩:=ho;rw[hb] at hk;simp[Bk,bk] at hk;subst hk;exact (YaQ.1 hg).1
 | row xs e sz =>obtain ⟨vs,hv,_⟩:=ho;exact (hv.lt k (ZlO hv hk)).2
 | dead=>cases hl
theorem RelD.lt (hr:RelD C h β V w) {i:Nat} {o:Obj} (hi:h[i]?=some o) (hl:o.live=true) {k:Nat} (hk:Bk o (β i) k):k < w.heap.size:=(hr.obj i o hi).lt hl hk
theorem ZiH.keep {v:Value} {o:Ob0} (ho:ZiH V w v o) {V':Nat->Prop} (hm:ZaI V w V' w') (hk:∀k,bk v=some k->w'.heap[k]?=w.heap[k]?):ZiH V' w' v o:=by
 cases o with
 | blk cs t =>obtain ⟨g,vs,au,hg,hc⟩:=ho;exact ⟨g,vs,au,(hk g (by rw[au];rfl)).trans hg,Zbg.move hm _ _ hc⟩
 | row xs e sz =>obtain ⟨vs,hv,hc,h1,h2⟩:=ho;exact ⟨vs,Znr hv (λk ae=>hk k (ZgM hv ae)),Zbg.move hm _ _ hc,h1,h2⟩
theorem ZmH {o o':Obj} (h:OLe o o') (hl:o'.live=true):o.live=true:=by
 cases o<;>cases o'<;>simp_all [OLe,Obj.live]
theorem ZpM.le {t:Value × Nat} (ht:ZpM h β t) (hle:LeH h β h' β'):ZpM h' β' t:=by obtain ⟨o,ho,hb⟩:=ht;obtain ⟨o',h1,h2,h3⟩:=hle _ o ho;exact ⟨o',h1,λhl=>(h3 hl).trans (hb (ZmH h2 hl))⟩
theorem Zco.keep {i:Nat} {o:Obj} (ho:Zco h β V w i o) (hle:LeH h β h' β') {V':Nat->Prop} (hm:ZaI V w V' w') (hb:β' i=β i) (hk:∀k,Bk o (β i) k->w'.heap[k]?=w.heap[k]?):Zco h' β' V' w' i o:=by
 cases o with
 | many l ts=>exact ⟨λp hp=>(ho.1 p hp).keep hm (λk ae=>hk k ⟨p,hp,ae⟩),ho.2.1,λt ht=>(ho.2.2 t ht).le hle⟩
 | blk cs t =>obtain ⟨g,vs,au,hg,hc⟩:=ho;exact ⟨g,vs,hb.trans au,(hk g (by rw[au];rfl)).trans hg,Zaa.mono hle hm _ _ hc⟩
 | row xs e sz =>obtain ⟨vs,hv,hc,h1,h2⟩:=ho;refine ⟨vs,?_,Zbg.move hm _ _ hc,h1,h2⟩;rw[hb];exact Znr hv (λk ae=>hk k (ZgM hv ae))
 | dead=>trivial
theorem RelD.moved {G:Nat->Prop} (hr:RelD C h β V w) (hf:Fr G w w') (hG:∀k,G k->∃i o,h[i]?=some o/\o.live=true/\Bk o (β i) k):ZaI V w V w':=λk hk =>
 ⟨hk,hf.block k (hr.vlt k hk) (λhg=>by
  obtain ⟨i,o,hi,hl,bm⟩:=hG k hg;exact hr.vout i o k hi hl bm hk)⟩
theorem RelD.upd {G:Nat->Prop} (hr:RelD C h β V w) (hf:Fr G w w') (i0:Nat) (o0:Obj) (h0:h'[i0]?=some o0)
  (cT:∀(j:Nat) (o:Obj),j≠i0->h'[j]?=some o->o.live=true->h[j]?=some o/\β' j=β j/\∀k,Bk o (β j) k->¬ G k)
  (le:LeH h β h' β')
  (hG:∀k,G k->∃i o,h[i]?=some o/\o.live=true/\Bk o (β i) k)
  (aR:ZaI V w V w'->Zco h' β' V w' i0 o0)
  (hb:∀k,Bk o0 (β' i0) k->w.heap.size<=k\/∃i o,h[i]?=some o/\o.live=true/\Bk o (β i) k/\(i=i0\/∀o',h'[i]?=some o'->o'.live=false)) :
  RelD C h' β' V w':=by
 have hm:ZaI V w V w':=λk hk=>⟨hk,hf.block k (hr.vlt k hk) (λhg=>by
  obtain ⟨i,o,hi,hl,bm⟩:=hG k hg;exact hr.vout i o k hi hl bm hk)⟩
 refine ⟨?_,?_,?_,?_,?_,hr.vin,hr.vnew,?_,hr.gl.move hm⟩
 ·intro j o hj;by_cases j9:j=i0
  ·subst j9;rw[h0] at hj;injection hj with hj;subst hj;exact aR hm
  ·cases hl:o.live with
   | false=>cases o<;>simp_all [Obj.live,Zco]
   | true =>obtain ⟨h1,h2,h3⟩:=cT j o j9 hj hl;exact (hr.obj j o h1).keep le hm h2 (λk hk=>hf.block k (hr.lt h1 hl hk) (h3 k hk))
 ·have key:∀(j:Nat) (o:Obj) (k:Nat),j≠i0->h'[j]?=some o->o.live=true->Bk o0 (β' i0) k->Bk o (β' j) k->False:=by
   intro j o k hj tD hl hk ae;obtain ⟨h1,h2,h3⟩:=cT j o hj tD hl;rw[h2] at ae;rcases hb k hk with fc | ⟨i,o',hi,bQ,jD,vQ⟩
   ·have:=hr.lt h1 hl ae;omega
   ·have:i=j:=hr.sep i j o' o k hi bQ h1 hl jD ae;subst this;rcases vQ with e | e
    ·exact hj e
    ·rw[e o tD] at hl;cases hl
  intro i j o o' k hi hl hj bQ jD p9;by_cases gG:i=i0
  ·by_cases j9:j=i0
   ·rw[gG,j9]
   ·subst gG;rw[h0] at hi;injection hi with hi;subst hi;exact (key j o' k j9 hj bQ jD p9).elim
  ·by_cases j9:j=i0
   ·subst j9;rw[h0] at hj;injection hj with hj;subst hj;exact (key i o k gG hi hl p9 jD).elim
   ·obtain ⟨a1,a2,_⟩:=cT i o gG hi hl;obtain ⟨b1,b2,_⟩:=cT j o' j9 hj bQ;rw[a2] at jD;rw[b2] at p9;exact hr.sep i j o o' k a1 hl b1 bQ jD p9
 ·intro i o k hi hl hk;by_cases gG:i=i0
  ·subst gG;rw[h0] at hi;injection hi with hi;subst hi;rcases hb k hk with fc | ⟨i',o',bc,bQ,jD,_⟩
   ·exact .inl (YaC hr.fr.size fc)
   ·exact hr.mine i' o' k bc bQ jD
  ·obtain ⟨a1,a2,_⟩:=cT i o gG hi hl;rw[a2] at hk;exact hr.mine i o k a1 hl hk
 ·intro i o k hi hl hk;by_cases gG:i=i0
  ·subst gG;rw[h0] at hi;injection hi with hi;subst hi;rcases hb k hk with fc | ⟨i',o',bc,bQ,jD,_⟩
   ·intro hv;have:=hr.vlt k hv;omega
   ·exact hr.vout i' o' k bc bQ jD
  ·obtain ⟨a1,a2,_⟩:=cT i o gG hi hl;rw[a2] at hk;exact hr.vout i o k a1 hl hk
 ·intro k hk;exact YaX (hr.vlt k hk) hf.size
 ·refine ⟨hf.os.trans hr.fr.os,hf.tape.trans hr.fr.tape,hf.output.trans hr.fr.output,YaC hr.fr.size hf.size,λk hk hn=>?_⟩;rw[hf.block k (YaX hk hr.fr.size) (λhg=>?_)]
  ·exact hr.fr.block k hk hn
  ·obtain ⟨i,o,hi,hl,bm⟩:=hG k hg;rcases hr.mine i o k hi hl bm with hm | hm
   ·omega
   ·exact hn hm
def upf (β:Nat->Value) (i:Nat) (v:Value):Nat->Value:=λk=>if k=i then v else β k
theorem ZbT (β:Nat->Value) (i:Nat) (v:Value):upf β i v i=v:=by simp[upf]
theorem ZdA {β:Nat->Value} {i k:Nat} {v:Value} (h:k≠i):upf β i v k=β k:=by simp[upf,h]
theorem ZdS (h:Zae) (β:Nat->Value) (o:Obj) (v:Value):LeH h β (h++[o]) (upf β h.length v):=by intro i o' ho;have hl:i < h.length:=(Yac.1 ho).1;exact ⟨o',by rw[Yal hl];exact ho,OLe.refl o',λ_=>ZdA (by omega)⟩
theorem ZlC {h:Zae} {β:Nat->Value} {o0:Obj} {v:Value} {G:Nat->Prop} (hG:∀k,¬ G k):∀(j:Nat) (o:Obj),j≠h.length->(h++[o0])[j]?=some o->o.live=true->h[j]?=some o/\upf β h.length v j=β j/\∀k,Bk o (β j) k->¬ G k:=by
 intro j o hj ho hl;have aG:j < h.length:=by have:=(Yac.1 ho).1;simp at this;omega
 rw[Yal aG] at ho;exact ⟨ho,ZdA hj,λk _=>hG k⟩
theorem Ze4 (w:World) (o:Go.Obj):Fr (λ_=>False) w (w.alloc o):=Fr.alloc _ w o
theorem RelD.alloc_blk (hr:RelD C h β V w) (cs:List D) (vs:List Value) (t:TypeId) (hc:Zaa h β V w cs vs) :
  RelD C (h++[.blk cs t]) (upf β h.length (.pointer (some ⟨w.heap.size,0,none⟩))) V (w.alloc (.cells ⟨vs⟩ t)):=by
 refine hr.upd (G:=λ_=>False) (Ze4 w _) h.length (.blk cs t) (by simp) (ZlC (λ_ h=>h)) (ZdS _ _ _ _) (λk hk=>hk.elim) (λhm=>?_) (λk hk=>?_)
 ·exact ⟨w.heap.size,vs,ZbT _ _ _,heap_alloc_new w _,Zaa.mono (ZdS _ _ _ _) hm _ _ hc⟩
 ·rw[ZbT] at hk;simp[Bk,bk] at hk;exact .inl (by omega)
theorem RelD.alloc_row (hr:RelD C h β V w) (xs:List (List GV)) (vs:List Value) (cap:Nat) (cur:Array Value) (e:TypeId) (sz:Nat) (hx:∀r∈xs,r.length=sz) (h0:0 < sz) (hv:Zbg V w xs.flatten vs)
  (dH:xs.length<=cap) (iu:cap<=maxLen) (ah:cur.size=cap*sz) (ht:cur.toList.take (xs.length*sz)=vs) :
  RelD C (h++[.row xs e sz]) (upf β h.length (.slice (some ⟨w.heap.size,0,none⟩) xs.length cap)) V (w.alloc (.cells cur e)):=by
 refine hr.upd (G:=λ_=>False) (Ze4 w _) h.length (.row xs e sz) (by simp) (ZlC (λ_ h=>h)) (ZdS _ _ _ _) (λk hk=>hk.elim) (λhm=>?_) (λk hk=>?_)
 ·refine ⟨vs,?_,Zbg.move hm _ _ hv,hx,h0⟩;rw[ZbT];refine ⟨?_,.inr ⟨w.heap.size,cap,cur,rfl,Yat _,heap_alloc_new w _,dH,iu,ah,ht⟩⟩;rw[<- ht,Yam,show cur.toList.length=cap*sz from by rw[Array.length_toList (xs:=cur),ah]];exact Ybd (YaJ _ dH)
 ·rw[ZbT] at hk;simp[Bk,bk] at hk;exact .inl (by omega)
theorem ZoV {h:Zae} {β:Nat->Value} {i0:Nat} {o0:Obj} {G:Nat->Prop} (hG:∀(j:Nat) (o:Obj) (k:Nat),j≠i0->h[j]?=some o->o.live=true->Bk o (β j) k->¬ G k):∀(j:Nat) (o:Obj),j≠i0->(h.set i0 o0)[j]?=some o->o.live=true->h[j]?=some o/\β j=β j/\∀k,Bk o (β j) k->¬ G k:=by intro j o hj ho hl;rw[YaV (λe=>hj e.symm)] at ho;exact ⟨ho,rfl,λk hk=>hG j o k hj ho hl hk⟩
theorem Zc4 {h:Zae} {β:Nat->Value} {i:Nat} {o o':Obj} (hi:h[i]?=some o) (hle:OLe o o'):LeH h β (h.set i o') β:=by
 intro j oj hj;by_cases kO:j=i
 ·subst kO;rw[hi] at hj;injection hj with hj;subst hj;exact ⟨o',by simp[(List.getElem?_eq_some_iff.1 hi).1],hle,λ_=>rfl⟩
 ·exact ⟨oj,by rw[YaV (λe=>kO e.symm)];exact hj,OLe.refl _,λ_=>rfl⟩
theorem RelD.set_blk (hr:RelD C h β V w) {i:Nat} {cs:List D} {t:TypeId} (hi:h[i]?=some (.blk cs t)) {g:Nat} (hg:β i=.pointer (some ⟨g,0,none⟩)) (cN:List D) (dm:List Value) (hc:Zaa h β V w cN dm) :
  RelD C (h.set i (.blk cN t)) β V (w.setRow g ⟨dm⟩):=by
 obtain ⟨g',vs,hb,l8,aU⟩:=hr.obj i _ hi;have e:g'=g:=by rw[hb] at hg;simpa using hg
 subst e;refine hr.upd (G:=λk=>k=g') (Fr.setRow w g' _) i (.blk cN t) (by simp[(List.getElem?_eq_some_iff.1 hi).1]) (ZoV (λj o k hj ho hl hk lY=>?_)) (Zc4 hi trivial) (λk hk=>⟨i,_,hi,rfl,by subst hk;rw[hb];rfl⟩) (λhm=>?_) (λk hk=>.inr ⟨i,_,hi,rfl,hk,.inl rfl⟩)
 ·subst lY;exact hj (hr.sep j i o _ k ho hl hi rfl hk (by rw[hb];rfl))
 ·exact ⟨g',dm,hb,setRow_heap w g' _ _ _ _ l8,Zaa.mono (Zc4 hi (o':=.blk cN t) trivial) hm _ _ hc⟩
theorem RelD.set_row (hr:RelD C h β V w) {i:Nat} {xs:List (List GV)} {e:TypeId} {sz:Nat} (hi:h[i]?=some (.row xs e sz)) {g n c:Nat} (hg:β i=.slice (some ⟨g,0,none⟩) n c) (jL:List (List GV)) (dm:List Value) (hv:Zbg V w jL.flatten dm)
  (hx:∀r∈jL,r.length=sz) (hlen:jL.length=xs.length) (gO:Array Value) (mj:∀cur,w.heap[g]?=some (.cells cur e (0,0))->gO.size=cur.size) (ht:gO.toList.take (xs.length*sz)=dm) :
  RelD C (h.set i (.row jL e sz)) β V (w.setRow g gO):=by
 obtain ⟨vs,ak,ew,eu,h0⟩:=hr.obj i _ hi;have bm:bk (β i)=some g:=by rw[hg];rfl
 refine hr.upd (G:=λk=>k=g) (Fr.setRow w g _) i (.row jL e sz) (by simp[(List.getElem?_eq_some_iff.1 hi).1]) (ZoV (λj o k hj ho hl hk lY=>?_)) (Zc4 hi ⟨hlen.symm,rfl⟩) (λk hk=>⟨i,_,hi,rfl,by subst hk;exact bm⟩) (λhm=>?_) (λk hk=>.inr ⟨i,_,hi,rfl,hk,.inl rfl⟩)
 ·subst lY;exact hj (hr.sep j i o _ k ho hl hi rfl hk bm)
 ·refine ⟨dm,?_,Zbg.move hm _ _ hv,hx,h0⟩;rcases ak.2 with ⟨jY,_⟩ | ⟨g',cap,cur,dh,cP,hh,dH,iu,ah,dn⟩
  ·rw[jY] at hg;cases hg
  ·have eg:g'=g:=by rw[dh] at hg;injection hg with e1 _ _;injection e1 with e1;injection e1
   subst eg;have aU:=mj cur hh;have hle:xs.length*sz<=cap*sz:=YaJ _ dH;refine ⟨?_,.inr ⟨g',cap,gO,by rw[hlen];exact dh,cP,setRow_heap w g' _ _ _ _ hh,by rw[hlen];exact dH,iu,by rw[aU];exact ah,by rw[hlen];exact ht⟩⟩;rw[<- ht,Yam,show gO.toList.length=cap*sz from by rw[Array.length_toList (xs:=gO),aU,ah],hlen];exact Ybd hle
theorem RelD.grow_row (hr:RelD C h β V w) {i:Nat} {uC:List (List GV)} {e0:TypeId} {uO:Nat} (hi:h[i]?=some (.row uC e0 uO)) (xs:List (List GV)) (vs:List Value) (v':Value) (e:TypeId) (sz:Nat)
  (hv:Zbg V w xs.flatten vs) (hx:∀r∈xs,r.length=sz) (h0:0 < sz) (ak:w'.ownsRow 0 e sz v' xs.length vs) (hg:w.grownBy w' (β i).ownBlock)
  (hb:v'.ownBlock=(β i).ownBlock\/v'.ownBlock=some w.heap.size) :
  RelD C (h.set i .dead++[.row xs e sz]) (upf β h.length v') V w':=by
 obtain ⟨mF,cd,_⟩:=hr.obj i _ hi;have az:i < h.length:=(Yac.1 hi).1;have hlen:(h.set i .dead).length=h.length:=by simp
 have bT:∀j,j < h.length->j≠i->(h.set i .dead++[Obj.row xs e sz])[j]?=h[j]?:=by intro j hj cL;rw[Yal (by simpa using hj),YaV (λe=>cL e.symm)]
 have rK:(h.set i .dead++[Obj.row xs e sz])[i]?=some .dead:=by rw[Yal (by simpa using az)];simp[az]
 have le:LeH h β (h.set i .dead++[Obj.row xs e sz]) (upf β h.length v'):=by
  intro j oj hj;have aD:j < h.length:=(Yac.1 hj).1;by_cases cL:j=i
  ·subst cL;exact ⟨.dead,rK,by cases oj<;>trivial,λh=>by cases h⟩
  ·exact ⟨oj,by rw[bT j aD cL];exact hj,OLe.refl _,λ_=>ZdA (by omega)⟩
 refine hr.upd (G:=λk=>some k=(β i).ownBlock) ⟨hg.os,hg.tape,hg.output,hg.size,λk hk hn=>hg.block k hk hn⟩ h.length (.row xs e sz) (by rw[Yaj (by simp)];simp) (λj o hj ho hl=>?_) le (λk hk=>⟨i,_,hi,rfl,ZgM cd hk.symm⟩) (λhm=>?_) (λk hk=>?_)
 ·have aD:j < h.length:=by have:=(Yac.1 ho).1;simp at this;omega
  by_cases cL:j=i
  ·subst cL;rw[rK] at ho;injection ho with ho;subst ho;cases hl
  ·rw[bT j aD cL] at ho;refine ⟨ho,ZdA hj,λk hk lY=>?_⟩;exact cL (hr.sep j i o _ k ho hl hi rfl hk (ZgM cd lY.symm))
 ·refine ⟨vs,?_,Zbg.move hm _ _ hv,hx,h0⟩;rw[ZbT];exact ak
 ·rw[ZbT] at hk;have hk:=ZlO ak hk;rcases hb with hb | hb
  ·refine .inr ⟨i,_,hi,rfl,ZgM cd (by rw[<- hb];exact hk),.inr (λo' aP=>?_)⟩;rw[rK] at aP;injection aP with aP;subst aP;rfl
  ·rw[hk] at hb;injection hb with hb;exact .inl (by omega)
theorem RelD.grow_nil (hr:RelD C h β V w) (xs:List (List GV)) (vs:List Value) (v':Value) (e:TypeId) (sz:Nat)
  (hv:Zbg V w xs.flatten vs) (hx:∀r∈xs,r.length=sz) (h0:0 < sz) (ak:w'.ownsRow 0 e sz v' xs.length vs) (hg:w.grownBy w' none)
  (hb:v'.ownBlock=none\/v'.ownBlock=some w.heap.size) :
  RelD C (h++[.row xs e sz]) (upf β h.length v') V w':=by
 refine hr.upd (G:=λ_=>False) ⟨hg.os,hg.tape,hg.output,hg.size,λk hk hn=>hg.block k hk (by simp)⟩ h.length (.row xs e sz) (by simp) (ZlC (λ_ h=>h)) (ZdS _ _ _ _) (λk hk=>hk.elim) (λhm=>?_) (λk hk=>?_)
 ·refine ⟨vs,?_,Zbg.move hm _ _ hv,hx,h0⟩;rw[ZbT];exact ak
 ·rw[ZbT] at hk;have hk:=ZlO ak hk;rw[hk] at hb;simp at hb;exact .inl (by omega)
end
inductive Src where
 | old (i:Nat)
 | nil (e:TypeId) (sz:Nat)
 | many0
def kp:List Src->Nat->Nat->Option Nat
 | [],_,_=>none
 | .old j :: l,p,i=>bif Nat.beq j i then some p else kp l (p+1) i
 | .nil _ _ :: l,p,i=>kp l (p+1) i
 | .many0 :: l,p,i=>kp l (p+1) i
def Zef:List Src->Bool
 | []=>true
 | .old j :: l=>(match kp l 0 j with | some _=>false | none=>true) && Zef l
 | .nil _ sz :: l=>Nat.blt 0 sz && Zef l
 | .many0 :: l=>Zef l
def Zih:List D->Option (List GV)
 | []=>some []
 | .g x :: l=>match Zih l with
  | some gs=>some (x :: gs)
  | none=>none
 | _ :: _=>none
def conv (h:Zae) (src:List Src):Nat->D->D
 | 0,_=>.any
 | n+1,d=>match d with
  | .row i=>match kp src 0 i with
   | some j=>.row j
   | none=>match h[i]? with
    | some (.row xs _ sz)=>.g (.sl sz xs)
    | _=>.any
  | .rs i lo m=>match kp src 0 i with
   | some j=>.rs j lo m
   | none=>match h[i]? with
    | some (.row xs _ sz)=>.g (.sl sz ((xs.drop lo).take m))
    | _=>.any
  | .ptr i off=>match kp src 0 i with
   | some j=>.ptr j off
   | none=>match h[i]? with
    | some (.blk cs _)=>match Zih cs with
     | some gs=>.fp gs off
     | none=>.any
    | _=>.any
  | .el i j off=>match kp src 0 i with
   | some i'=>.el i' j off
   | none=>.any
  | .fn f fs cs=>.fn f (fs.map (conv h src n)) (cs.map (conv h src n))
  | .iface t x=>.iface t (conv h src n x)
  | .agg cs=>.agg (cs.map (conv h src n))
  | .tuple vs=>.tuple (vs.map (conv h src n))
  | d=>d
def ids:Nat->D->List Nat
 | 0,_=>[]
 | n+1,d=>match d with
  | .row i=>[i]
  | .rs i _ _=>[i]
  | .ptr i _=>[i]
  | .el i _ _=>[i]
  | .fn _ fs cs=>fs.flatMap (ids n)++cs.flatMap (ids n)
  | .iface _ x=>ids n x
  | .agg cs=>cs.flatMap (ids n)
  | .tuple vs=>vs.flatMap (ids n)
  | _=>[]
def ZoM (src:List Src):List (Value × Nat)->List (Value × Nat)
 | []=>[]
 | (v,q) :: l=>match kp src 0 q with
  | some j=>(v,j) :: ZoM src l
  | none=>ZoM src l
def Zbn (h:Zae) (src:List Src):Src->Obj
 | .old i=>match h[i]? with
  | some (.blk cs t)=>.blk (cs.map (conv h src 3)) t
  | some (.row xs e sz)=>.row xs e sz
  | some (.many l ts)=>.many l (ZoM src ts)
  | _=>.dead
 | .nil e sz=>.row [] e sz
 | .many0=>.many [] []
def ZbW (h:Zae) (src:List Src):Zae:=src.map (Zbn h src)
def Zbd (src:List Src) (β:Nat->Value) (j:Nat):Value:=match src[j]? with
 | some (.old i)=>β i
 | _=>.slice none 0 0
theorem Zem:∀{src:List Src} {p i q:Nat},kp src p i=some q->p<=q/\src[q - p]?=some (.old i)
 | [],p,i,q,h=>by simp[kp] at h
 | .old j :: l,p,i,q,h=>by
  simp only[kp] at h;cases hb:Nat.beq j i with
  | true =>rw[hb] at h;simp at h;subst h;have:=Yaq hb;subst this;exact ⟨Yas _,by simp⟩
  | false =>rw[hb] at h;simp only[cond_false] at h;obtain ⟨h1,h2⟩:=Zem h;refine ⟨by omega,?_⟩;rw[show q - p=(q - (p+1))+1 from by omega];simpa using h2
 | .nil e sz :: l,p,i,q,h=>by simp only[kp] at h;obtain ⟨h1,h2⟩:=Zem h;refine ⟨by omega,?_⟩;rw[show q - p=(q - (p+1))+1 from by omega];simpa using h2
 | .many0 :: l,p,i,q,h=>by simp only[kp] at h;obtain ⟨h1,h2⟩:=Zem h;refine ⟨by omega,?_⟩;rw[show q - p=(q - (p+1))+1 from by omega];simpa using h2
theorem Zjm {src:List Src}:∀{ts:List (Value × Nat)} {t:Value × Nat},t∈ZoM src ts->∃q,(t.1,q)∈ts/\kp src 0 q=some t.2
 | [],t,h=>by simp[ZoM] at h
 | (v,q) :: l,t,h=>by
  simp only[ZoM] at h;split at h
  ·rename_i j hj;rcases Yav.1 h with rfl | h
   ·exact ⟨q,Yae,hj⟩
   ·obtain ⟨q',h1,h2⟩:=Zjm h;exact ⟨q',Yad _ h1,h2⟩
  ·obtain ⟨q',h1,h2⟩:=Zjm h;exact ⟨q',Yad _ h1,h2⟩
theorem Zsb:∀{src:List Src} {p i j:Nat},src[j]?=some (.old i)->∃q,kp src p i=some q
 | [],p,i,j,h=>by simp at h
 | .old j' :: l,p,i,j,h=>by
  simp only[kp];cases hb:Nat.beq j' i with
  | true=>exact ⟨p,rfl⟩
  | false =>
   cases j with
   | zero=>simp at h;subst h;rw[YaY] at hb;cases hb
   | succ j=>exact Zsb (by simpa using h)
 | .nil e sz :: l,p,i,j,h=>by
  simp only[kp];cases j with
  | zero=>simp at h
  | succ j=>exact Zsb (by simpa using h)
 | .many0 :: l,p,i,j,h=>by
  simp only[kp];cases j with
  | zero=>simp at h
  | succ j=>exact Zsb (by simpa using h)
theorem ZnD:∀{src:List Src},Zef src=true->∀{i a b:Nat},src[a]?=some (.old i)->src[b]?=some (.old i)->a=b
 | [],_,i,a,b,h,_=>by simp at h
 | .old j :: l,hs,i,a,b,ha,hb=>by
  simp only[Zef,Yag] at hs;have no:∀c:Nat,l[c]?≠some (Src.old j):=by intro c hc;obtain ⟨q,hq⟩:=Zsb (p:=0) hc;rw[hq] at hs;exact absurd hs.1 (by simp)
  cases a with
  | zero =>
   cases b with
   | zero=>rfl
   | succ b=>simp at ha hb;subst ha;exact absurd hb (no b)
  | succ a =>
   cases b with
   | zero=>simp at ha hb;subst hb;exact absurd ha (no a)
   | succ b=>rw[ZnD hs.2 (i:=i) (a:=a) (b:=b) (by simpa using ha) (by simpa using hb)]
 | .nil e sz :: l,hs,i,a,b,ha,hb=>by
  simp only[Zef,Yag] at hs;cases a with
  | zero=>simp at ha
  | succ a =>
   cases b with
   | zero=>simp at hb
   | succ b=>rw[ZnD hs.2 (i:=i) (a:=a) (b:=b) (by simpa using ha) (by simpa using hb)]
 | .many0 :: l,hs,i,a,b,ha,hb=>by
  simp only[Zef] at hs;cases a with
  | zero=>simp at ha
  | succ a =>
   cases b with
   | zero=>simp at hb
   | succ b=>rw[ZnD hs (i:=i) (a:=a) (b:=b) (by simpa using ha) (by simpa using hb)]
theorem Zg0:∀{src:List Src},Zef src=true->∀{a e sz:Nat},src[a]?=some (.nil e sz)->0 < sz
 | [],_,a,e,sz,h=>by simp at h
 | .old j :: l,hs,a,e,sz,h=>by
  simp only[Zef,Yag] at hs;cases a with
  | zero=>simp at h
  | succ a=>exact Zg0 hs.2 (by simpa using h)
 | .nil e' aW :: l,hs,a,e,sz,h=>by
  simp only[Zef,Yag] at hs;cases a with
  | zero=>simp at h;obtain ⟨rfl,rfl⟩:=h;exact Yau hs.1
  | succ a=>exact Zg0 hs.2 (by simpa using h)
 | .many0 :: l,hs,a,e,sz,h=>by
  simp only[Zef] at hs;cases a with
  | zero=>simp at h
  | succ a=>exact Zg0 hs (by simpa using h)
theorem ZhJ {h:Zae} {β:Nat->Value} {V:Nat->Prop} {w:World}:∀{cs:List D} {gs:List GV} {vs:List Value},Zih cs=some gs->Zaa h β V w cs vs->Zbg V w gs vs
 | [],gs,vs,hp,hr=>by simp[Zih] at hp;subst hp;simp only[Zaa] at hr;subst hr;trivial
 | d :: cs,gs,vs,hp,hr=>by
  simp only[Zaa] at hr;obtain ⟨v,us,rfl,h1,h2⟩:=hr;cases d<;>simp only[Zih] at hp<;>try (cases hp;done)
  rename_i x;cases hl:Zih cs with
  | none=>rw[hl] at hp;cases hp
  | some yH =>rw[hl] at hp;simp at hp;subst hp;simp only[Zab] at h1;exact ⟨h1,ZhJ hl h2⟩
section
variable {C:Ctx} {h h':Zae} {β β':Nat->Value} {V V':Nat->Prop} {w w':World} {src:List Src}
theorem Zf1 {i:Nat} {xs:List (List GV)} {e sz:Nat} (ho:Zco h β V w i (.row xs e sz)) (hV:∀k,V k->V' k) (hb:∀k,bk (β i)=some k->V' k):ZaS V' w (.sl sz xs) (β i):=by
 obtain ⟨vs,ak,hv,hx,h0⟩:=ho;have dh:Zbg V' w xs.flatten vs:=Zbg.move (λk hk=>⟨hV k hk,rfl⟩) _ _ hv;rcases ak.2 with ⟨hn,h1⟩ | ⟨g,cap,cur,cH,cP,hg,dH,iu,ah,ht⟩
 ·have:xs=[]:=YaP h1;subst this;rw[hn];exact ZaS.sl_nil sz
 ·rw[cH];refine ZaS.sl_of dH (λ_=>⟨hb g (by rw[cH];rfl),ZaB.of_flat xs vs 0 hx dh (λj v hj=>?_)⟩);have:=ak.cells (g:=g) (by rw[cH];rfl) j v hj;rw[show 0*sz+j=j from by omega];exact this
mutual
theorem Zrf (hr:RelD C h β V w) (Z:Nat->Prop) (hV:∀k,V k->V' k) (hZ:∀(i:Nat) (o:Obj) (k:Nat),Z i->h[i]?=some o->o.live=true->Bk o (β i) k->V' k) :
  ∀(n:Nat) (d:D) (v:Value),(∀i∈ids n d,kp src 0 i=none->Z i)->Zab h β V w d v->Zab (ZbW h src) (Zbd src β) V' w (conv h src n d) v
 | 0,d,v,_,_=>by simp only[conv,Zab]
 | n+1,.g x,v,hz,hd=>by simp only[conv,Zab] at hd ⊢;exact ZaS.move (λk hk=>⟨hV k hk,rfl⟩) _ _ hd
 | n+1,.pb p,v,hz,hd=>by simp only[conv,Zab] at hd ⊢;exact hd
 | n+1,.pn p,v,hz,hd=>by simp only[conv,Zab] at hd ⊢;exact hd
 | n+1,.nils,v,hz,hd=>by simp only[conv,Zab] at hd ⊢;exact hd
 | n+1,.row i,v,hz,hd=>by
  simp only[conv];cases hk:kp src 0 i with
  | some j =>
   obtain ⟨_,hj⟩:=Zem hk;have hj:src[j]?=some (.old i):=hj;simp only[Zab] at hd ⊢;have hT:(ZbW h src)[j]?=some (Zbn h src (.old i)):=by simp[ZbW,hj]
   have hB:Zbd src β j=β i:=by simp[Zbd,hj]
   rw[hT,hB];cases ho:h[i]? with
   | none=>rw[ho] at hd;exact hd.elim
   | some o=>rw[ho] at hd;cases o<;>simp_all [Zbn]
  | none =>
   cases ho:h[i]? with
   | none=>simp only[Zab]
   | some o =>
    cases o with
    | blk cs t=>simp only[Zab]
    | many l ts=>simp only[Zab]
    | dead=>simp only[Zab]
    | row xs e sz =>simp only[Zab] at hd ⊢;rw[ho] at hd;simp only at hd;subst hd;exact Zf1 (hr.obj i _ ho) hV (λk ae=>hZ i _ k (hz i (by simp[ids]) hk) ho rfl ae)
 | n+1,.rs i lo m,v,hz,hd=>by
  simp only[conv];cases hk:kp src 0 i with
  | some j =>
   obtain ⟨_,hj⟩:=Zem hk;have hj:src[j]?=some (.old i):=hj;simp only[Zab] at hd ⊢;have hT:(ZbW h src)[j]?=some (Zbn h src (.old i)):=by simp[ZbW,hj]
   have hB:Zbd src β j=β i:=by simp[Zbd,hj]
   rw[hT,hB];cases ho:h[i]? with
   | none=>rw[ho] at hd;exact hd.elim
   | some o=>rw[ho] at hd;cases o<;>simp_all [Zbn]
  | none =>
   cases ho:h[i]? with
   | none=>simp only[Zab]
   | some o =>
    cases o with
    | blk cs t=>simp only[Zab]
    | many l ts=>simp only[Zab]
    | dead=>simp only[Zab]
    | row xs e sz =>simp only[Zab] at hd ⊢;rw[ho] at hd;simp only at hd;obtain ⟨lV,A,q,cap,hb,rfl⟩:=hd;have mV:=Zf1 (hr.obj i _ ho) hV (λk ae=>hZ i _ k (hz i (by simp[ids]) hk) ho rfl ae);rw[hb] at mV;have:=mV.piece (l:=lo) (hh:=lo+m) (by omega) lV;rw[YbX,Yco] at this;exact this
 | n+1,.ptr i off,v,hz,hd=>by
  simp only[conv];cases hk:kp src 0 i with
  | some j =>
   obtain ⟨_,hj⟩:=Zem hk;have hj:src[j]?=some (.old i):=hj;simp only[Zab] at hd ⊢;have hT:(ZbW h src)[j]?=some (Zbn h src (.old i)):=by simp[ZbW,hj]
   have hB:Zbd src β j=β i:=by simp[Zbd,hj]
   rw[hT,hB];cases ho:h[i]? with
   | none=>rw[ho] at hd;exact hd.elim
   | some o=>rw[ho] at hd;cases o<;>simp_all [Zbn]
  | none =>
   cases ho:h[i]? with
   | none=>simp only[Zab]
   | some o =>
    cases o with
    | row xs e sz=>simp only[Zab]
    | many l ts=>simp only[Zab]
    | dead=>simp only[Zab]
    | blk cs t =>
     simp only;cases hp:Zih cs with
     | none=>simp only[Zab]
     | some gs =>
      simp only[Zab] at hd ⊢;rw[ho] at hd;simp only at hd;obtain ⟨g,hb,rfl⟩:=hd;obtain ⟨g',vs,au,hg,hc⟩:=hr.obj i _ ho;have e:g'=g:=by rw[hb] at au;injection au with au;injection au with au;injection au with au;exact au.symm
      subst e;refine ⟨⟨g',0,none⟩,by rw[Zb8,YaA],hZ i _ g' (hz i (by simp[ids]) hk) ho rfl (by rw[hb];rfl),Zav.of_cells gs vs 0 (Zbg.move (λk hk=>⟨hV k hk,rfl⟩) _ _ (ZhJ hp hc)) (λj u hj=>?_)⟩;rw[Zb8,cell_of_row w _ _ _ _ _ hg];simpa using hj
 | n+1,.el i j off,v,hz,hd=>by
  simp only[conv];cases hk:kp src 0 i with
  | some q =>
   obtain ⟨_,hj⟩:=Zem hk;have hj:src[q]?=some (.old i):=hj;simp only[Zab] at hd ⊢;have hT:(ZbW h src)[q]?=some (Zbn h src (.old i)):=by simp[ZbW,hj]
   have hB:Zbd src β q=β i:=by simp[Zbd,hj]
   rw[hT,hB];cases ho:h[i]? with
   | none=>rw[ho] at hd;exact hd.elim
   | some o=>rw[ho] at hd;cases o<;>simp_all [Zbn]
  | none=>simp only[Zab]
 | n+1,.fp r off,v,hz,hd=>by simp only[conv,Zab] at hd ⊢;obtain ⟨a,hv,tV,aF⟩:=hd;exact ⟨a,hv,hV _ tV,Zav.move (λk hk=>⟨hV k hk,rfl⟩) tV _ _ aF⟩
 | n+1,.nilP,v,hz,hd=>by simp only[conv,Zab] at hd ⊢;exact hd
 | n+1,.nilF,v,hz,hd=>by simp only[conv,Zab] at hd ⊢;exact hd
 | n+1,.nilI,v,hz,hd=>by simp only[conv,Zab] at hd ⊢;exact hd
 | n+1,.fn f fs cs,v,hz,hd=>by simp only[conv,Zab] at hd ⊢;obtain ⟨us,ts,hv,h1,h2⟩:=hd;exact ⟨us,ts,hv,Zcx hr Z hV hZ n fs us (λd hd i hi=>hz i (by simp only[ids,Yar,Ybe];exact .inl ⟨d,hd,hi⟩)) h1,Zcx hr Z hV hZ n cs ts (λd hd i hi=>hz i (by simp only[ids,Yar,Ybe];exact .inr ⟨d,hd,hi⟩)) h2⟩
 | n+1,.iface t x,v,hz,hd=>by simp only[conv,Zab] at hd ⊢;obtain ⟨u,hv,h1⟩:=hd;exact ⟨u,hv,Zrf hr Z hV hZ n x u (λi hi=>hz i (by simp only[ids];exact hi)) h1⟩
 | n+1,.agg cs,v,hz,hd=>by simp only[conv,Zab] at hd ⊢;obtain ⟨us,hv,h1⟩:=hd;exact ⟨us,hv,Zcx hr Z hV hZ n cs us (λd hd i hi=>hz i (by simp only[ids,Ybe];exact ⟨d,hd,hi⟩)) h1⟩
 | n+1,.tuple cs,v,hz,hd=>by simp only[conv,Zab] at hd ⊢;obtain ⟨us,hv,h1⟩:=hd;exact ⟨us,hv,Zcx hr Z hV hZ n cs us (λd hd i hi=>hz i (by simp only[ids,Ybe];exact ⟨d,hd,hi⟩)) h1⟩
 | n+1,.any,v,hz,hd=>by simp only[conv,Zab]
theorem Zcx (hr:RelD C h β V w) (Z:Nat->Prop) (hV:∀k,V k->V' k) (hZ:∀(i:Nat) (o:Obj) (k:Nat),Z i->h[i]?=some o->o.live=true->Bk o (β i) k->V' k) :
  ∀(n:Nat) (ds:List D) (vs:List Value),(∀d∈ds,∀i∈ids n d,kp src 0 i=none->Z i)->Zaa h β V w ds vs->Zaa (ZbW h src) (Zbd src β) V' w (ds.map (conv h src n)) vs
 | n,[],vs,_,hd=>by simp only[Zaa,YaI] at hd ⊢;exact hd
 | n,d :: ds,vs,hz,hd=>by simp only[Zaa,Yan] at hd ⊢;obtain ⟨v,us,hv,h1,h2⟩:=hd;exact ⟨v,us,hv,Zrf hr Z hV hZ n d v (hz d Yae) h1,Zcx hr Z hV hZ n ds us (λd hd=>hz d (Yad _ hd)) h2⟩
end
def Zjk (h:Zae) (src:List Src) (β:Nat->Value) (V:Nat->Prop):Nat->Prop:=λk=>V k\/∃i o,kp src 0 i=none/\h[i]?=some o/\o.live=true/\Bk o (β i) k
theorem Zte (hr:RelD C h β V w) (n:Nat) (d:List D) (v:List Value) (hd:Zaa h β V w d v):Zaa (ZbW h src) (Zbd src β) (Zjk h src β V) w (d.map (conv h src n)) v :=
 Zcx hr (λi=>kp src 0 i=none) (λ_ hk=>.inl hk) (λi o _ h1 h2 h3 h4=>.inr ⟨i,o,h1,h2,h3,h4⟩) n d v (λ_ _ _ _ h=>h) hd
theorem Zth {ts:List (Value × Nat)} (h3:∀t∈ts,ZpM h β t) {t:Value × Nat} (ht:t∈ZoM src ts):ZpM (ZbW h src) (Zbd src β) t:=by
 obtain ⟨q,hq,hk⟩:=Zjm ht;have hj:src[t.2]?=some (.old q):=(Zem hk).2;obtain ⟨o,ho,hb⟩:=h3 _ hq;refine ⟨Zbn h src (.old q),by simp[ZbW,hj],λhl=>?_⟩;have:Zbd src β t.2=β q:=by simp[Zbd,hj]
 rw[this];exact hb (by cases o<;>simp_all [Zbn,Obj.live])
theorem ZvK (hr:RelD C h β V w) (hs:Zef src=true):RelD C (ZbW h src) (Zbd src β) (Zjk h src β V) w:=by
 have at_:∀(j:Nat) (o:Obj),(ZbW h src)[j]?=some o->∃s,src[j]?=some s/\o=Zbn h src s:=by
  intro j o hj;unfold ZbW at hj;rw[YaE] at hj;cases e9:src[j]? with
  | none=>rw[e9] at hj;cases hj
  | some s=>rw[e9] at hj;simp at hj;exact ⟨s,rfl,hj.symm⟩
 have old:∀(j:Nat) (o:Obj) (k:Nat),(ZbW h src)[j]?=some o->o.live=true->Bk o (Zbd src β j) k->∃i o',src[j]?=some (.old i)/\h[i]?=some o'/\o'.live=true/\Bk o' (β i) k:=by
  intro j o k hj hl hk;obtain ⟨s,e9,rfl⟩:=at_ j o hj;cases s with
  | nil e sz=>simp[Zbn,Bk,Zbd,e9,bk] at hk
  | many0=>simp[Zbn,Bk] at hk
  | old i =>
   have hB:Zbd src β j=β i:=by simp[Zbd,e9]
   rw[hB] at hk;cases ho:h[i]? with
   | none=>simp[Zbn,ho,Obj.live] at hl
   | some o' =>
    cases o' with
    | dead=>simp[Zbn,ho,Obj.live] at hl
    | blk cs t=>exact ⟨i,_,e9,ho,rfl,by simpa only[Zbn,ho,Bk] using hk⟩
    | row xs e sz=>exact ⟨i,_,e9,ho,rfl,by simpa only[Zbn,ho,Bk] using hk⟩
    | many l ts=>exact ⟨i,_,e9,ho,rfl,by simpa only[Zbn,ho,Bk] using hk⟩
 refine ⟨?_,?_,?_,?_,?_,?_,?_,hr.fr,hr.gl.move (λk hk=>⟨.inl hk,rfl⟩)⟩
 ·intro j o hj;obtain ⟨s,e9,rfl⟩:=at_ j o hj;cases s with
  | nil e sz =>
   have hB:Zbd src β j=.slice none 0 0:=by simp[Zbd,e9]
   refine ⟨[],?_,trivial,λr hr=>by simp at hr,Zg0 hs e9⟩;rw[hB];exact World.ownsRow_nil w 0 e sz
  | many0 =>simp only[Zbn,Zco];exact ⟨λp hp=>(by simp at hp),List.Pairwise.nil,λt ht=>(by simp at ht)⟩
  | old i =>
   have hB:Zbd src β j=β i:=by simp[Zbd,e9]
   cases ho:h[i]? with
   | none=>simp[Zbn,ho,Zco]
   | some o' =>
    cases o' with
    | dead=>simp[Zbn,ho,Zco]
    | blk cs t =>obtain ⟨g,vs,hb,hg,hc⟩:=hr.obj i _ ho;simp only[Zbn,ho,Zco];exact ⟨g,vs,hB.trans hb,hg,Zte hr 3 _ _ hc⟩
    | row xs e sz =>obtain ⟨vs,ak,hv,hx,h0⟩:=hr.obj i _ ho;simp only[Zbn,ho,Zco];exact ⟨vs,by rw[hB];exact ak,Zbg.move (λk hk=>⟨.inl hk,rfl⟩) _ _ hv,hx,h0⟩
    | many l ts =>obtain ⟨h1,h2,h3⟩:=hr.obj i _ ho;simp only[Zbn,ho,Zco];exact ⟨λp hp=>(h1 p hp).keep (λk hk=>⟨.inl hk,rfl⟩) (λ_ _=>rfl),h2,λt ht=>Zth h3 ht⟩
 ·intro a b o o' k ha gZ hb mQ rz kN;obtain ⟨i,oi,mU,dK,ie,ic⟩:=old a o k ha gZ rz;obtain ⟨j,oj,pR,dt,ov,rD⟩:=old b o' k hb mQ kN;have:=hr.sep i j oi oj k dK ie dt ov ic rD;subst this;exact ZnD hs mU pR
 ·intro j o k hj hl hk;obtain ⟨i,oi,mU,dK,ie,ic⟩:=old j o k hj hl hk;exact hr.mine i oi k dK ie ic
 ·intro j o k hj hl hk hv;obtain ⟨i,oi,mU,dK,ie,ic⟩:=old j o k hj hl hk;rcases hv with hv | ⟨i',o',hn,h1,h2,h3⟩
  ·exact hr.vout i oi k dK ie ic hv
  ·have:=hr.sep i i' oi o' k dK ie h1 h2 ic h3;subst this;obtain ⟨q,hq⟩:=Zsb (p:=0) mU;rw[hn] at hq;cases hq
 ·intro k hk;rcases hk with hk | ⟨i,o,_,h1,h2,h3⟩
  ·exact hr.vlt k hk
  ·exact hr.lt h1 h2 h3
 ·intro k hk;exact .inl (hr.vin k hk)
 ·intro k hk;rcases hk with hk | ⟨i,o,_,h1,h2,h3⟩
  ·exact hr.vnew k hk
  ·exact .inr (hr.mine i o k h1 h2 h3)
end
def Zl4 (R:D->D->Prop):List D->List D->Prop
 | [],[]=>True
 | d :: ds,e :: es=>R d e/\Zl4 R ds es
 | _,_=>False
def ZiI (N:Nat->Bool):Nat->D->D->Prop
 | 0,d,d'=>d=d'
 | n+1,d,d'=>d=d'\/match d,d' with
  | _,.any=>True
  | .pb p,.pb q=>(p↔q)
  | .pb p,.g (.bool b)=>(b=true↔p)
  | .pn p,.pb q=>(¬p↔q)
  | .pn p,.g (.bool b)=>(b=true↔¬p)
  | .g (.bool b),.pb q=>(b=true↔q)
  | .g (.int a),.g (.int b)=>a=b
  | .g (.str a),.g (.str b)=>a=b
  | .g (.sl k a),.g (.sl k' b)=>k=k'/\a=b
  | .nils,.g (.sl _ xs)=>xs=[]
  | .nils,.row j=>N j=true
  | .agg cs,.agg ds=>Zl4 (ZiI N n) cs ds
  | .tuple cs,.tuple ds=>Zl4 (ZiI N n) cs ds
  | .fn f fs cs,.fn g gs ds=>f=g/\Zl4 (ZiI N n) fs gs/\Zl4 (ZiI N n) cs ds
  | .iface t x,.iface t' x'=>t=t'/\ZiI N n x x'
  | _,_=>False
section
variable {h:Zae} {β:Nat->Value} {V:Nat->Prop} {w:World} {N:Nat->Bool}
theorem ZcR {R:D->D->Prop} (hR:∀d d' v,R d d'->Zab h β V w d v->Zab h β V w d' v):∀(ds es:List D) (vs:List Value),Zl4 R ds es->Zaa h β V w ds vs->Zaa h β V w es vs
 | [],[],vs,_,hr=>hr
 | [],_ :: _,_,hl,_=>hl.elim
 | _ :: _,[],_,hl,_=>hl.elim
 | d :: ds,e :: es,vs,hl,hr=>by simp only[Zaa] at hr ⊢;obtain ⟨v,us,hv,h1,h2⟩:=hr;exact ⟨v,us,hv,hR d e v hl.1 h1,ZcR hR ds es us hl.2 h2⟩
theorem ZiX (hN:∀j,N j=true->β j=.slice none 0 0/\∃xs e sz,h[j]?=some (.row xs e sz)):∀(n:Nat) (d d':D) (v:Value),ZiI N n d d'->Zab h β V w d v->Zab h β V w d' v:=by
 intro n
 induction n with
 | zero=>intro d d' v hl hr;simp only[ZiI] at hl;subst hl;exact hr
 | succ n ih =>
  intro d d' v hl hr;simp only[ZiI] at hl;rcases hl with rfl | hl
  ·exact hr
  ·split at hl
   ·simp only[Zab]
   ·simp only[Zab] at hr ⊢;obtain ⟨b,hv,hb⟩:=hr;exact ⟨b,hv,hb.trans hl⟩
   ·simp only[Zab] at hr ⊢;obtain ⟨b,hv,hb⟩:=hr;rename_i p c;have:b=c:=by cases b<;>cases c<;>simp_all
    subst this;simpa [ZaS] using hv
   ·simp only[Zab] at hr ⊢;obtain ⟨b,hv,hb⟩:=hr;exact ⟨b,hv,hb.trans hl⟩
   ·simp only[Zab] at hr ⊢;obtain ⟨b,hv,hb⟩:=hr;rename_i p c;have:b=c:=by
     have:=hb.trans hl.symm;cases b<;>cases c<;>simp_all
    subst this;simpa [ZaS] using hv
   ·simp only[Zab,ZaS] at hr ⊢;exact ⟨_,hr,hl⟩
   ·subst hl;exact hr
   ·subst hl;exact hr
   ·obtain ⟨rfl,rfl⟩:=hl;exact hr
   ·subst hl;simp only[Zab] at hr ⊢;subst hr;exact ZaS.sl_nil _
   ·simp only[Zab] at hr ⊢;obtain ⟨h1,xs,e,sz,h2⟩:=hN _ hl;rw[h2,hr,h1]
   ·simp only[Zab] at hr ⊢;obtain ⟨us,hv,h1⟩:=hr;exact ⟨us,hv,ZcR ih _ _ _ hl h1⟩
   ·simp only[Zab] at hr ⊢;obtain ⟨us,hv,h1⟩:=hr;exact ⟨us,hv,ZcR ih _ _ _ hl h1⟩
   ·obtain ⟨rfl,l1,l2⟩:=hl;simp only[Zab] at hr ⊢;obtain ⟨us,ts,hv,h1,h2⟩:=hr;exact ⟨us,ts,hv,ZcR ih _ _ _ l1 h1,ZcR ih _ _ _ l2 h2⟩
   ·obtain ⟨rfl,l1⟩:=hl;simp only[Zab] at hr ⊢;obtain ⟨us,hv,h1⟩:=hr;exact ⟨us,hv,ih _ _ _ l1 h1⟩
   ·exact hl.elim
end
def N0:Nat->Bool:=λ_=>false
def Ze0 (ds es:List D):Prop:=ds=es\/Zl4 (ZiI N0 4) ds es
theorem Zny {h:Zae} {β:Nat->Value} {V:Nat->Prop} {w:World} {ds es:List D} {vs:List Value} (hl:Ze0 ds es) (hr:Zaa h β V w ds vs):Zaa h β V w es vs:=by
 rcases hl with rfl | hl
 ·exact hr
 ·exact ZcR (ZiX (N:=N0) (λj h=>by cases h) 4) _ _ _ hl hr
def Zl3 (N:Nat->Bool):Obj->Obj->Prop
 | _,.dead=>True
 | .blk cs t,.blk ds t'=>t=t'/\(cs=ds\/Zl4 (ZiI N 4) cs ds)
 | .row xs e sz,.row ys e' aW=>xs=ys/\e=e'/\sz=aW
 | .many l ts,.many l' ts'=>l.Perm l'/\ts=ts'
 | _,_=>False
def Zky (N:Nat->Bool):Zae->Zae->Prop
 | [],[]=>True
 | a :: l,b :: m=>Zl3 N a b/\Zky N l m
 | _,_=>False
theorem ZcS {N:Nat->Bool}:∀{h h':Zae},Zky N h h'->(∀(i:Nat) (o:Obj),h[i]?=some o->∃o',h'[i]?=some o'/\Zl3 N o o')/\∀(i:Nat) (o':Obj),h'[i]?=some o'->∃o,h[i]?=some o/\Zl3 N o o'
 | [],[],_=>⟨λi o h=>by simp at h,λi o h=>by simp at h⟩
 | [],_ :: _,h=>h.elim
 | _ :: _,[],h=>h.elim
 | a :: l,b :: m,h=>by
  obtain ⟨h1,h2⟩:=ZcS h.2;refine ⟨λi o hi=>?_,λi o hi=>?_⟩
  ·cases i with
   | zero=>simp at hi;subst hi;exact ⟨b,rfl,h.1⟩
   | succ i=>obtain ⟨o',h3,h4⟩:=h1 i o (by simpa using hi);exact ⟨o',by simpa using h3,h4⟩
  ·cases i with
   | zero=>simp at hi;subst hi;exact ⟨a,rfl,h.1⟩
   | succ i=>obtain ⟨o',h3,h4⟩:=h2 i o (by simpa using hi);exact ⟨o',by simpa using h3,h4⟩
theorem Zl2 {N:Nat->Bool} {o o':Obj} (h:Zl3 N o o'):OLe o o':=by
 cases o<;>cases o'<;>simp_all [Zl3,OLe]
theorem Zdc {N:Nat->Bool} {o o':Obj} (h:Zl3 N o o') (hl:o'.live=true):o.live=true:=by
 cases o<;>cases o'<;>simp_all [Zl3,Obj.live]
theorem Zf5 {N:Nat->Bool} {o o':Obj} (h:Zl3 N o o') (hl:o'.live=true) {v:Value} {k:Nat} (hk:Bk o' v k):Bk o v k:=by
 cases o' with
 | dead=>cases hl
 | blk cs t=>cases o<;>first | exact h.elim | exact hk
 | row xs e sz=>cases o<;>first | exact h.elim | exact hk
 | many l ts =>
  cases o with
  | many l' ts' =>obtain ⟨p,h1,h2⟩:=hk;exact ⟨p,h.1.mem_iff.2 h1,h2⟩
  | _=>exact h.elim
theorem Zvv.symm {p q:Value × Ob0} (h:Zvv p q):Zvv q p:=λk hq hp=>h k hp hq
theorem Zl5 {N:Nat->Bool} {h h':Zae} {β:Nat->Value} (hl:Zky N h h'):LeH h β h' β:=λi o hi=>by obtain ⟨o',h1,h2⟩:=(ZcS hl).1 i o hi;exact ⟨o',h1,Zl2 h2,λ_=>rfl⟩
theorem Znx {N:Nat->Bool} {C:Ctx} {h h':Zae} {β:Nat->Value} {V:Nat->Prop} {w:World} (hr:RelD C h β V w) (hl:Zky N h h') (hN:∀j,N j=true->β j=.slice none 0 0/\∃xs e sz,h[j]?=some (.row xs e sz)) (xm:∀j,N j=true->∃xs e sz,h'[j]?=some (.row xs e sz)):RelD C h' β V w:=by
 have hle:LeH h β h' β:=Zl5 hl;refine ⟨λi o' hi=>?_,λi j o o' k hi ct hj kL aN oq=>?_,λi o k hi ct hk=>?_,λi o k hi ct hk=>?_,hr.vlt,hr.vin,hr.vnew,hr.fr,hr.gl⟩
 ·obtain ⟨o,ho,aT⟩:=(ZcS hl).2 i o' hi;have bB:=hr.obj i o ho;cases o' with
  | dead=>trivial
  | blk ds t' =>
   cases o with
   | blk cs t =>
    obtain ⟨rfl,aU⟩:=aT;obtain ⟨g,vs,hb,hg,hc⟩:=bB;refine ⟨g,vs,hb,hg,?_⟩;have mo:=Zaa.mono hle (ZaI.refl V w) _ _ hc;rcases aU with rfl | aU
    ·exact mo
    ·exact ZcR (ZiX (N:=N) (λj hj=>⟨(hN j hj).1,xm j hj⟩) 4) _ _ _ aU mo
   | _=>exact aT.elim
  | row ys e' aW =>
   cases o with
   | row xs e sz=>obtain ⟨rfl,rfl,rfl⟩:=aT;exact bB
   | _=>exact aT.elim
  | many l' ts' =>
   cases o with
   | many l ts =>obtain ⟨hp,rfl⟩:=aT;exact ⟨λp jW=>bB.1 p (hp.mem_iff.2 jW),(hp.pairwise_iff (λh=>h.symm)).1 bB.2.1,λt ht=>(bB.2.2 t ht).le hle⟩
   | _=>exact aT.elim
 ·obtain ⟨a,ha,gZ⟩:=(ZcS hl).2 i o hi;obtain ⟨b,hb,mQ⟩:=(ZcS hl).2 j o' hj;exact hr.sep i j a b k ha (Zdc gZ ct) hb (Zdc mQ kL) (Zf5 gZ ct aN) (Zf5 mQ kL oq)
 ·obtain ⟨a,ha,gZ⟩:=(ZcS hl).2 i o hi;exact hr.mine i a k ha (Zdc gZ ct) (Zf5 gZ ct hk)
 ·obtain ⟨a,ha,gZ⟩:=(ZcS hl).2 i o hi;exact hr.vout i a k ha (Zdc gZ ct) (Zf5 gZ ct hk)
def ZjJ (src:List Src) (j:Nat):Bool:=match src[j]? with
 | some (.nil _ _)=>true
 | _=>false
theorem ZlU {h:Zae} {src:List Src} {β:Nat->Value} {j:Nat} (hj:ZjJ src j=true):Zbd src β j=.slice none 0 0/\∃xs e sz,(ZbW h src)[j]?=some (.row xs e sz):=by
 unfold ZjJ at hj;split at hj
 ·rename_i e sz hs;exact ⟨by simp[Zbd,hs],[],e,sz,by simp[ZbW,hs,Zbn]⟩
 ·cases hj
def ZoE:List Src->Zae->Bool
 | [],_=>true
 | .old _ :: l,_ :: h=>ZoE l h
 | .nil _ _ :: l,.row _ _ _ :: h=>ZoE l h
 | .many0 :: l,_ :: h=>ZoE l h
 | _,_=>false
theorem Zgz:∀{src:List Src} {h:Zae},ZoE src h=true->∀j,ZjJ src j=true->∃xs e sz,h[j]?=some (.row xs e sz)
 | [],h,_,j,hj=>by simp[ZjJ] at hj
 | .old i :: l,[],hn,_,_=>by simp[ZoE] at hn
 | .old i :: l,o :: h,hn,0,hj=>by simp[ZjJ] at hj
 | .old i :: l,o :: h,hn,j+1,hj=>by simp only[ZoE] at hn;obtain ⟨xs,e,sz,h1⟩:=Zgz hn j (by simpa [ZjJ] using hj);exact ⟨xs,e,sz,by simpa using h1⟩
 | .many0 :: l,[],hn,_,_=>by simp[ZoE] at hn
 | .many0 :: l,o :: h,hn,0,hj=>by simp[ZjJ] at hj
 | .many0 :: l,o :: h,hn,j+1,hj=>by simp only[ZoE] at hn;obtain ⟨xs,e,sz,h1⟩:=Zgz hn j (by simpa [ZjJ] using hj);exact ⟨xs,e,sz,by simpa using h1⟩
 | .nil e sz :: l,h,hn,j,hj=>by
  cases h with
  | nil=>simp[ZoE] at hn
  | cons o h =>
   cases o with
   | row xs e' aW =>
    cases j with
    | zero=>exact ⟨xs,e',aW,rfl⟩
    | succ j =>simp only[ZoE] at hn;obtain ⟨xs,e,sz,h1⟩:=Zgz hn j (by simpa [ZjJ] using hj);exact ⟨xs,e,sz,by simpa using h1⟩
   | _=>simp[ZoE] at hn
theorem Zdd (N:Nat->Bool):∀h:Zae,Zky N h h
 | []=>trivial
 | .blk cs t :: h=>⟨⟨rfl,.inl rfl⟩,Zdd N h⟩
 | .row xs e sz :: h=>⟨⟨rfl,rfl,rfl⟩,Zdd N h⟩
 | .many l ts :: h=>⟨⟨Yap _,rfl⟩,Zdd N h⟩
 | .dead :: h=>⟨by simp[Zl3],Zdd N h⟩
structure TurnTo (h:Zae) (src:List Src) (ds:List D) (h':Zae) (jK:List D):Prop where
 ok:Zef src=true
 hp:ZbW h src=h'\/Zky (ZjJ src) (ZbW h src) h'
 dl:ds.map (conv h src 4)=jK\/Zl4 (ZiI (ZjJ src) 4) (ds.map (conv h src 4)) jK
 nr:ZoE src h'=true
theorem TurnTo.use {h h':Zae} {src:List Src} {ds jK:List D} (ht:TurnTo h src ds h' jK) {C:Ctx} {β:Nat->Value} {V:Nat->Prop} {w:World} (hr:RelD C h β V w) {vs:List Value} (hd:Zaa h β V w ds vs) :
  RelD C h' (Zbd src β) (Zjk h src β V) w/\Zaa h' (Zbd src β) (Zjk h src β V) w jK vs:=by
 have h1:=ZvK (src:=src) hr ht.ok;have h2:=Zte (src:=src) hr 4 _ _ hd;have tH:Zky (ZjJ src) (ZbW h src) h':=by
  rcases ht.hp with e | e
  ·rw[<- e];exact Zdd _ _
  ·exact e
 have h3:=Znx h1 tH (λj hj=>ZlU hj) (Zgz ht.nr);refine ⟨h3,?_⟩;have h4:=Zaa.mono (Zl5 (β:=Zbd src β) tH) (ZaI.refl _ w) _ _ h2;rcases ht.dl with h | h
 ·rw[<- h];exact h4
 ·exact ZcR (ZiX (N:=ZjJ src) (λj hj=>⟨(ZlU (h:=[]) hj).1,Zgz ht.nr j hj⟩) 4) _ _ _ h h4
theorem lk {N:Nat->Bool} {n:Nat} {d d':D} (e:d=d'):ZiI N (n+1) d d':=.inl e
theorem lkI {N:Nat->Bool} {n:Nat} {a b:Int} (e:a=b):ZiI N (n+1) (.g (.int a)) (.g (.int b)):=.inr e
theorem lkL {N:Nat->Bool} {n k:Nat} {a b:List (List GV)} (e:a=b):ZiI N (n+1) (.g (.sl k a)) (.g (.sl k b)):=.inr ⟨rfl,e⟩
theorem lkP {N:Nat->Bool} {n:Nat} {a b:Prop} (e:a↔b):ZiI N (n+1) (.pb a) (.pb b):=.inr e
theorem Zqt {N:Nat->Bool} {n:Nat} {p:Prop} {b:Bool} (e:b=true↔p):ZiI N (n+1) (.g (.bool b)) (.pb p):=.inr e
theorem Zel {N:Nat->Bool} {n k:Nat}:ZiI N (n+1) .nils (.g (.sl k [])):=.inr rfl
def I64 (x:Int):Prop:=-9223372036854775808<=x/\x<=9223372036854775807
theorem I64.wrap {x:Int} (h:I64 x):IntKind.i64.wrap x=x:=Zse.of h.1 h.2
def of1:Value->D
 | .int .i64 n=>.g (.int n)
 | .int .u8 n=>.g (.u8 n)
 | .bool b=>.g (.bool b)
 | .string s=>.g (.str s.data.toList)
 | .slice none 0 0=>.nils
 | .pointer none=>.nilP
 | .nilFunc=>.nilF
 | .nilIface=>.nilI
 | _=>.any
def ofV:Value->D
 | .agg ⟨cs⟩=>.agg (cs.map of1)
 | v=>of1 v
abbrev Env:=Nat->D
def Env.set (e:Env) (d:Nat) (x:D):Env:=λi=>bif Nat.beq i d then x else e i
structure St where
 env:Env
 h:Zae
 df:List Deferred
def glD:Gl->Nat->D
 | [],_=>.any
 | (b',cs) :: l,b=>bif Nat.beq b' b then .fp cs 0 else glD l b
def sv (G:Gl) (st:St):Operand->D
 | .tmp t=>st.env t
 | .const v=>ofV v
 | .global b=>glD G b
 | .func f=>.fn f [] []
def Zep (h:Zae):D->Bool
 | .agg _ | .any | .tuple _=>false
 | .row i | .rs i _ _ | .el i _ _=>match h[i]? with
  | some (.row _ _ _)=>true
  | _=>false
 | .ptr i _=>match h[i]? with
  | some (.blk _ _)=>true
  | _=>false
 | _=>true
def ZhZ (h:Zae):List D->Bool
 | []=>true
 | d :: ds=>Zep h d && ZhZ h ds
def Zfk (h:Zae):D->Option (List D)
 | .agg cs=>bif ZhZ h cs then some cs else none
 | d=>bif Zep h d then some [d] else none
def ZdI {α:Type}:List α->Nat->List α->List α
 | l,_,[]=>l
 | l,k,v :: vs=>ZdI (l.set k v) (k+1) vs
def ZkE (place:Nat->Option (Nat × Nat)):List D->List (Nat × List D)->Option (List D)
 | cs,[]=>some cs
 | cs,(i,v) :: rest =>
  match place i with
  | none=>none
  | some (off,size)=>bif Nat.beq v.length size && Nat.ble (off+size) cs.length then ZkE place (ZdI cs off v) rest else none
def ZlF (sz:Nat):Nat->List (Nat × List D)->Nat->Bool
 | i,[],len=>Nat.beq i len
 | i,(j,v) :: l,len=>Nat.beq j i && (Nat.beq v.length sz && ZlF sz (i+1) l len)
def ZuO:List (Nat × List D)->List D
 | []=>[]
 | (_,v) :: l=>v++ZuO l
def ZcP (h:Zae) (f:Operand->D):List (Nat × Operand)->Option (List (Nat × List D))
 | []=>some []
 | (i,o) :: l=>match Zfk h (f o),ZcP h f l with
  | some ds,some r=>some ((i,ds) :: r)
  | _,_=>none
def Zvx (z:List D):Nat->List D
 | 0=>[]
 | n+1=>z++Zvx z n
def Zzy (sz:Nat) (z:List D) (len:Nat) (ps:List (Nat × List D)):Option (List D):=bif ZlF sz 0 ps len then some (ZuO ps) else ZkE (λi=>some (i*sz,sz)) (Zvx z len) ps
def Zvn (h:Zae):D->GV->Prop
 | .g x,y=>x=y
 | .pb p,y=>∃b,y=.bool b/\(b=true↔p)
 | .pn p,y=>∃b,y=.bool b/\(b=true↔¬p)
 | .nils,y=>∃k,y=.sl k []
 | .row i,y=>match h[i]? with
  | some (.row xs _ sz)=>.sl sz xs=y
  | _=>False
 | .rs i lo n,y=>match h[i]? with
  | some (.row xs _ sz)=>.sl sz ((xs.drop lo).take n)=y
  | _=>False
 | _,_=>False
def ZgQ (h:Zae):List D->List GV->Prop
 | [],[]=>True
 | d :: ds,y :: ys=>Zvn h d y/\ZgQ h ds ys
 | _,_=>False
def Zrp (sz:Nat):List (List GV)->Bool
 | []=>true
 | r :: l=>Nat.beq r.length sz && Zrp sz l
def Zb4 (h:Zae):List Nat->Zae
 | []=>h
 | i :: l=>Zb4 (h.set i .dead) l
def ZcT:List D->List Nat
 | []=>[]
 | d :: l=>ids 4 d++ZcT l
def ZcQ:Nat->D->Bool
 | 0,_=>false
 | n+1,d=>match d with
  | .g (.int _) | .g (.str _) | .g (.bool _) | .g (.u8 _) | .pb _ | .pn _ | .nils | .nilP | .nilF | .nilI=>true
  | .tuple ds | .agg ds=>ds.all (ZcQ n)
  | .iface _ x=>ZcQ n x
  | _=>false
def sh (m:Nat):Nat->D->D
 | 0,_=>.any
 | n+1,d=>match d with
  | .row i=>.row (i+m)
  | .rs i lo k=>.rs (i+m) lo k
  | .ptr i off=>.ptr (i+m) off
  | .el i j off=>.el (i+m) j off
  | .fn f fs cs=>.fn f (fs.map (sh m n)) (cs.map (sh m n))
  | .iface t x=>.iface t (sh m n x)
  | .agg cs=>.agg (cs.map (sh m n))
  | .tuple cs=>.tuple (cs.map (sh m n))
  | d=>d
def rnT (f:Nat->Nat):List (Value × Nat)->List (Value × Nat)
 | []=>[]
 | (v,q) :: l=>(v,f q) :: rnT f l
def shO (m:Nat):Obj->Obj
 | .blk cs t=>.blk (cs.map (sh m 4)) t
 | .many l ts=>.many l (rnT (·+m) ts)
 | o=>o
def Zsd {α:Type}:List α->Bool
 | []=>true
 | _=>false
def after (h:Zae) (l:List Nat) (d:D) (h':Zae):Zae:=bif ZcQ 4 d && Zsd h' then h else Zb4 h l++h'.map (shO h.length)
abbrev KD:=D->Zae->Prop
inductive Out where
 | ret (d:D) (h:Zae)
 | pan (d:D)
 | panH (d:D) (h:Zae)
def rnD (f:Nat->Nat):Nat->D->D
 | 0,_=>.any
 | n+1,d=>match d with
  | .row i=>.row (f i)
  | .rs i lo k=>.rs (f i) lo k
  | .ptr i off=>.ptr (f i) off
  | .el i j off=>.el (f i) j off
  | .fn g fs cs=>.fn g (fs.map (rnD f n)) (cs.map (rnD f n))
  | .iface t x=>.iface t (rnD f n x)
  | .agg cs=>.agg (cs.map (rnD f n))
  | .tuple cs=>.tuple (cs.map (rnD f n))
  | d=>d
def rnO (f:Nat->Nat):Obj->Obj
 | .blk cs t=>.blk (cs.map (rnD f 4)) t
 | .many l ts=>.many l (rnT f ts)
 | o=>o
def atN:List Nat->Nat->Nat
 | [],_=>0
 | a :: _,0=>a
 | _ :: l,n+1=>atN l n
def rnI (σ:List Nat) (b n i:Nat):Nat:=bif Nat.blt i b then atN σ i else i - b+n
def ZBG (src:List Src) (b:Nat) (f:Nat->Nat) (h':Zae) (p:Nat) (o:Obj):Obj:=match kp src 0 p with
 | none=>o
 | some k=>bif Nat.blt k b then (match h'[k]? with | some o'=>rnO f o' | none=>.dead) else .dead
def ZrQ (src:List Src) (b:Nat) (f:Nat->Nat) (h':Zae):Nat->Zae->Zae
 | _,[]=>[]
 | p,o :: l=>ZBG src b f h' p o :: ZrQ src b f h' (p+1) l
def Ziy (h:Zae) (σ:List Nat) (b:Nat) (h':Zae):Zae :=
 ZrQ (σ.map .old) b (rnI σ b h.length) h' 0 h++(h'.drop b).map (rnO (rnI σ b h.length))
def inσ:List Nat->Nat->Bool
 | [],_=>false
 | a :: l,i=>Nat.beq a i || inσ l i
def ZCi:Obj->List Nat
 | .blk cs _=>ZcT cs
 | .many _ ts=>ts.map (·.2)
 | _=>[]
def orS (b:Bool) (A B:Prop):Prop:=bif b then A\/B else A
theorem ZrX {b:Bool} {A B:Prop} (h:A):orS b A B:=by cases b with | true=>exact Or.inl h | false=>exact h
theorem Zpe {b:Bool} {A B:Prop} (h:orS b A B):A\/B:=by cases b with | true=>exact h | false=>exact Or.inl h
def ZdT:Zae->Bool
 | []=>false
 | .many _ _ :: _=>true
 | _ :: l=>ZdT l
def Zsf (h:Zae) (i:Nat):Bool:=match h[i]? with
 | some (.blk _ _)=>true
 | _=>false
def ZgK (h:Zae) (σ:List Nat) (all:List D):Bool:=(ZcT all).all (inσ σ) && σ.all λi=>match h[i]? with
 | some o=>(ZCi o).all (inσ σ)
 | none=>false
def ZpO (G:Gl) (Q:Out->Prop) (V:Nat->Prop) (w:World):Ending->World->Prop
 | .returned v,w'=>∃d h' β' V',Q (.ret d h')/\RelD ⟨w,λ_=>False,V,G⟩ h' β' V' w'/\Zab h' β' V' w' d v
 | .panicked ch,w'=>∃d t u β' V',ch=[{ v:=.iface t u,recovered:=false }]/\Q (.pan d)/\RelD ⟨w,λ_=>False,V,G⟩ [] β' V' w'/\Zab [] β' V' w' d (.iface t u)
 | .outgrown,_=>False
def CT (P:Program) (G:Gl) (g:FuncId) (as:List D) (Q:Out->Prop):Prop :=
 ∀(w:World) (V:Nat->Prop) (aa:List Value),(∀k,V k->k < w.heap.size)->Zis G V w->Zaa [] (λ_=>undef) V w as aa->Calls P g ⟨aa⟩ w (ZpO G Q V w)
def ZiA (h:Zae) (β:Nat->Value) (k:Nat):Prop:=∃i o,h[i]?=some o/\o.live=true/\Bk o (β i) k
def Zox (h h':Zae) (β β':Nat->Value) (i:Nat):Prop:=(∃o o',h[i]?=some o/\h'[i]?=some o'/\OLe o o'/\o'.live=true)/\β' i=β i
def Zxo (G:Gl) (Q:Out->Prop) (b:Nat) (hin:Zae) (β:Nat->Value) (V:Nat->Prop) (w:World):Ending->World->Prop
 | .returned v,w'=>∃d h' β' V',Q (.ret d h')/\RelD ⟨w,ZiA hin β,V,G⟩ h' β' V' w'/\Zab h' β' V' w' d v/\∀i,i < b->Zox hin h' β β' i
 | .panicked ch,w'=>∃d h' t u β' V',ch=[{ v:=.iface t u,recovered:=false }]/\Q (.panH d h')/\RelD ⟨w,ZiA hin β,V,G⟩ h' β' V' w'/\Zab h' β' V' w' d (.iface t u)/\∀i,i < b->Zox hin h' β β' i
 | .outgrown,_=>False
def CTH (P:Program) (G:Gl) (g:FuncId) (b:Nat) (hin:Zae) (as:List D) (Q:Out->Prop):Prop :=
 ∀(w:World) (β:Nat->Value) (V:Nat->Prop) (aa:List Value),RelD ⟨w,ZiA hin β,V,G⟩ hin β V w->Zaa hin β V w as aa->Calls P g ⟨aa⟩ w (Zxo G Q b hin β V w)
def ZcH (P:Program) (G:Gl) (g:FuncId) (all:List D) (h:Zae) (K Qp:KD):Prop :=
 ∀(C:Ctx) (w:World) (β:Nat->Value) (V:Nat->Prop) (aa:List Value),C.G=G->RelD C h β V w->Zaa h β V w all aa->Calls P g ⟨aa⟩ w fun
  | .returned v,w'=>∃d h' β' V',K d h'/\RelD C h' β' V' w'/\Zab h' β' V' w' d v/\LeH h β h' β'/\ZaI V w V' w'
  | .panicked ch,w'=>∃d h' t u β' V',ch=[{ v:=.iface t u,recovered:=false }]/\Qp d h'/\RelD C h' β' V' w'/\Zab h' β' V' w' d (.iface t u)/\LeH h β h' β'/\ZaI V w V' w'
  | .outgrown,_=>False
def CTR (P:Program) (G:Gl) (g:FuncId) (all:List D) (h:Zae) (d:D):Prop :=
 ∀(C:Ctx) (w:World) (β:Nat->Value) (V:Nat->Prop) (aa:List Value),C.G=G->RelD C h β V w->Zaa h β V w all aa->Calls P g ⟨aa⟩ w fun
  | .returned v,w'=>RelD C h β V w'/\Zab h β V w' d v/\ZaI V w V w'
  | _,_=>False
def Is (d:D):Out->Prop:=λo=>o=.ret d []
def Zdh (P:Program) (G:Gl) (g:FuncId) (all:List D) (h:Zae) (K Qp:KD):Prop :=
 ∃(σ:List Nat) (b:Nat) (hin:Zae) (as:List D) (Q:Out->Prop),ZgK h σ all=true/\Nat.ble b σ.length=true/\TurnTo h (σ.map .old) all hin as/\CTH P G g b hin as Q /\
  (∀d h',Q (.ret d h')->K (rnD (rnI σ b h.length) 4 d) (Ziy h σ b h'))/\(∀d h',Q (.panH d h')->Qp (rnD (rnI σ b h.length) 4 d) (Ziy h σ b h'))
def ZfP (c:D) (A B:Prop):Prop :=
 match c with
 | .g (.bool true)=>A
 | .g (.bool false)=>B
 | .pb p=>(p->A)/\(¬p->B)
 | .pn p=>(¬p->A)/\(p->B)
 | _=>False
def ZoJ (op:BinOp) (x y:D) (K:D->Prop):Prop :=
 match op,x,y with
 | .add,.g (.int a),.g (.int b)=>∃c,IntKind.i64.wrap (a+b)=c/\K (.g (.int c))
 | .sub,.g (.int a),.g (.int b)=>I64 (a - b)/\K (.g (.int (a - b)))
 | .mul,.g (.int a),.g (.int b)=>I64 (a*b)/\K (.g (.int (a*b)))
 | .add,.g (.u8 a),.g (.u8 b)=>K (.g (.u8 (IntKind.u8.wrap (a+b))))
 | .sub,.g (.u8 a),.g (.u8 b)=>K (.g (.u8 (IntKind.u8.wrap (a - b))))
 | .quo,.g (.int a),.g (.int b)=>b≠0/\I64 (a.tdiv b)/\K (.g (.int (a.tdiv b)))
 | .rem,.g (.int a),.g (.int b)=>b≠0/\K (.g (.int (a.tmod b)))
 | .and,.g (.int a),.g (.int b)=>∃c,(Op.intBits .and .i64 a b=pure (.int .i64 c))/\K (.g (.int c))
 | .or,.g (.int a),.g (.int b)=>∃c,(Op.intBits .or .i64 a b=pure (.int .i64 c))/\K (.g (.int c))
 | .xor,.g (.int a),.g (.int b)=>∃c,(Op.intBits .xor .i64 a b=pure (.int .i64 c))/\K (.g (.int c))
 | .shl,.g (.int a),.g (.int b)=>0<=b/\I64 (a*2 ^ (min b.toNat 64))/\K (.g (.int (a*2 ^ (min b.toNat 64))))
 | .shr,.g (.int a),.g (.int b)=>0<=b/\K (.g (.int (a.fdiv (2 ^ (min b.toNat 64)))))
 | .eql,.g (.int a),.g (.int b)=>K (.pb (a=b))
 | .neq,.g (.int a),.g (.int b)=>K (.pn (a=b))
 | .lss,.g (.int a),.g (.int b)=>K (.pb (a < b))
 | .leq,.g (.int a),.g (.int b)=>K (.pb (a<=b))
 | .gtr,.g (.int a),.g (.int b)=>K (.pb (b < a))
 | .geq,.g (.int a),.g (.int b)=>K (.pb (b<=a))
 | .eql,.g (.u8 a),.g (.u8 b)=>K (.pb (a=b))
 | .neq,.g (.u8 a),.g (.u8 b)=>K (.pn (a=b))
 | .lss,.g (.u8 a),.g (.u8 b)=>K (.pb (a < b))
 | .leq,.g (.u8 a),.g (.u8 b)=>K (.pb (a<=b))
 | .gtr,.g (.u8 a),.g (.u8 b)=>K (.pb (b < a))
 | .geq,.g (.u8 a),.g (.u8 b)=>K (.pb (b<=a))
 | .eql,.g (.str a),.g (.str b)=>K (.pb (a=b))
 | .neq,.g (.str a),.g (.str b)=>K (.pn (a=b))
 | .add,.g (.str a),.g (.str b)=>a.length+b.length<=9223372036854775807/\K (.g (.str (a++b)))
 | _,_,_=>False
def Zyf (op:BinOp) (x y:D) (K:D->Prop):Prop :=
 match op,x,y with
 | .eql,.g (.sl _ xs),.nils=>∀p:Prop,(p->xs=[])->K (.pb p)
 | .neq,.g (.sl _ xs),.nils=>∀p:Prop,(p->xs=[])->K (.pn p)
 | .eql,.nils,.nils=>K (.g (.bool true))
 | .neq,.nils,.nils=>K (.g (.bool false))
 | _,_,_=>False
def ZCf:Nat->Value->Prop
 | 0,.int .i64 _=>True
 | 1,.string _=>True
 | 2,.bool _=>True
 | _,_=>False
def Zup:List Nat->List Value->Prop
 | [],[]=>True
 | k :: ks,v :: vs=>ZCf k v/\Zup ks vs
 | _,_=>False
def ZCR (P:Program) (t:TypeId) (ks:List Nat):Prop :=
 ∀(xs ys:List Value) (op:BinOp) (ox oy:Operand) (w:World),Zup ks xs->Zup ks ys->(op=.eql\/op=.neq) ->
  ∃b:Bool,(do eqGuard op t ox oy (.agg ⟨xs⟩) (.agg ⟨ys⟩);binOp op t (.agg ⟨xs⟩) (.agg ⟨ys⟩)).run P w=.ok (.bool b) w/\(op=.eql->(b=true↔xs=ys))/\(op=.neq->(b=true↔¬xs=ys))
def ZkG:List D->List D->Option (List Nat × Prop)
 | [],[]=>some ([],True)
 | .g (.int a) :: l,.g (.int b) :: m=>match ZkG l m with
  | some (ks,p)=>some (0 :: ks,a=b/\p)
  | none=>none
 | .g (.str a) :: l,.g (.str b) :: m=>match ZkG l m with
  | some (ks,p)=>some (1 :: ks,a=b/\p)
  | none=>none
 | .g (.bool a) :: l,.g (.bool b) :: m=>match ZkG l m with
  | some (ks,p)=>some (2 :: ks,a=b/\p)
  | none=>none
 | _,_=>none
def Zjf (P:Program) (t:TypeId) (op:BinOp) (x y:D) (K:D->Prop):Prop :=
 match op,x,y with
 | .eql,.agg cs,.agg ds=>match ZkG cs ds with
  | some (ks,p)=>ZCR P t ks/\K (.pb p)
  | none=>False
 | .neq,.agg cs,.agg ds=>match ZkG cs ds with
  | some (ks,p)=>ZCR P t ks/\K (.pn p)
  | none=>False
 | _,_,_=>False
def Zfm (s:List UInt8):List (List GV):=s.map λc=>[.u8 (c.toNat:Int)]
def asP:D->Option Prop
 | .pb p=>some p
 | .pn p=>some (¬p)
 | .g (.bool b)=>some (b=true)
 | _=>none
def ZeS (op:BinOp) (x y:D) (K:D->Prop):Prop :=
 match op,asP x,asP y with
 | .eql,some p,some q=>K (.pb (p↔q))
 | .neq,some p,some q=>K (.pn (p↔q))
 | _,_,_=>False
def ZAd (op:UnOp) (x:D) (K:D->Prop):Prop :=
 match op,x with
 | .not,.pb p=>K (.pn p)
 | .not,.pn p=>K (.pb p)
 | .not,.g (.bool true)=>K (.g (.bool false))
 | .not,.g (.bool false)=>K (.g (.bool true))
 | .neg,.g (.int a)=>I64 (0 - a)/\K (.g (.int (0 - a)))
 | _,_=>False
def ldG (i:TI) (r:List GV) (off:Nat) (K:D->Prop):Prop :=
 match i.agg with
 | false=>match r[off]? with
  | some x=>K (.g x)
  | none=>False
 | true=>bif Nat.ble (off+i.size) r.length then K (.agg ((List.take i.size (r.drop off)).map .g)) else False
def ZCl (o:Option D) (K:D->Prop):Prop:=match o with
 | some d=>K d
 | none=>False
theorem Zuz {o:Option D} {K:D->Prop} (h:ZCl o K):∃d,o=some d/\K d:=by
 cases o with
 | none=>exact h.elim
 | some d=>exact ⟨d,rfl,h⟩
theorem Zzs {o:Option D} {K:D->Prop} {d:D} (h:o=some d) (k:K d):ZCl o K:=by rw[h];exact k
theorem ZcI {i:TI} {r:List GV} {off:Nat} {K:D->Prop} {x:GV} (hi:i.agg=false) (h:r[off]?=some x) (k:K (.g x)):ldG i r off K:=by unfold ldG;rw[hi,h];exact k
def ZsU (T:Tab) (t:TypeId) (p:D) (h:Zae) (K:D->Prop):Prop :=
 match T t with
 | none=>False
 | some i =>
  match p with
  | .ptr j off =>
   match h[j]? with
   | some (.blk cs _)=>match i.agg with
    | false=>ZCl cs[off]? K
    | true=>bif Nat.ble (off+i.size) cs.length then K (.agg (List.take i.size (cs.drop off))) else False
   | _=>False
  | .el j k off =>
   match h[j]? with
   | some (.row xs _ _)=>∃r,xs[k]?=some r/\ldG i r off K
   | _=>False
  | .fp r off=>ldG i r off K
  | _=>False
def ZoH (T:Tab) (t:TypeId) (p:D) (y:D) (h:Zae) (K:Zae->Prop):Prop :=
 match T t with
 | none=>False
 | some i =>
  match Zfk h y with
  | none=>False
  | some ds=>bif Nat.beq ds.length i.size then
   match p with
   | .ptr j off =>
    match h[j]? with
    | some (.blk cs ty)=>bif Nat.ble (off+i.size) cs.length then K (h.set j (.blk (ZdI cs off ds) ty)) else False
    | _=>False
   | .el j k off =>
    match h[j]? with
    | some (.row xs e sz)=>∃r gs,xs[k]?=some r/\ZgQ h ds gs/\off+i.size<=r.length/\j ∉ ZcT ds/\K (Zb4 (h.set j (.row (xs.set k (ZdI r off gs)) e sz)) (ZcT ds))
    | _=>False
   | _=>False
   else False
def ZBD (h:Zae) (sz:Nat):D->Option (List (List GV))
 | .nils=>some []
 | .g (.sl k xs)=>bif Nat.beq k sz then some xs else none
 | .row j=>match h[j]? with
  | some (.row ys _ aW)=>bif Nat.beq aW sz then some ys else none
  | _=>none
 | .rs j lo n=>match h[j]? with
  | some (.row ys _ aW)=>bif Nat.beq aW sz then some ((ys.drop lo).take n) else none
  | _=>none
 | _=>none
def Zo3 (ei:TI) (n:Nat):Prop:=n<=maxLen/\n*ei.bytes<=140737488355328
def Zlt (T:Tab) (t:TypeId) (x y:D) (h:Zae) (K:KD):Prop :=
 match T t with
 | some { kind:=.slice e,.. } =>
  match T e with
  | none=>False
  | some ei =>
   match ZBD h ei.size y with
   | none=>False
   | some news=>bif Nat.blt 0 ei.size then
    match x with
    | .nils=>Zo3 ei news.length/\K (.row h.length) (h++[.row news e ei.size])
    | .row i=>match h[i]? with
     | some (.row xs e' aW)=>bif Nat.beq e' e && Nat.beq aW ei.size then Zo3 ei (xs.length+news.length)/\K (.row h.length) (h.set i .dead++[.row (xs++news) e ei.size]) else False
     | _=>False
    | .rs i 0 n=>match h[i]? with
     | some (.row xs e' aW)=>bif Nat.beq e' e && Nat.beq aW ei.size then n<=xs.length/\Zo3 ei (n+news.length)/\K (.row h.length) (h.set i .dead++[.row (xs.take n++news) e ei.size]) else False
     | _=>False
    | _=>False
    else False
 | _=>False
def ZoI (T:Tab) (t:TypeId) (x:D) (lo hi:Option D) (h:Zae) (K:D->Prop):Prop :=
 match T t,x with
 | some { kind:=.str,.. },.g (.str s) =>
  match lo,hi with
  | none,none=>K (.g (.str s))
  | none,some p=>∃hh:Nat,p=.g (.int (hh:Int))/\hh<=s.length/\K (.g (.str (s.take hh)))
  | some p,none=>∃l:Nat,p=.g (.int (l:Int))/\l<=s.length/\K (.g (.str (s.drop l)))
  | some p,some q=>∃l hh:Nat,p=.g (.int (l:Int))/\q=.g (.int (hh:Int))/\l<=hh/\hh<=s.length/\K (.g (.str ((s.take hh).drop l)))
 | some { kind:=.slice e,.. },.g (.sl k xs) =>
  match T e with
  | none=>False
  | some ei=>bif Nat.beq k ei.size then
   match lo,hi with
   | none,none=>K (.g (.sl k xs))
   | none,some p=>∃hh:Nat,p=.g (.int (hh:Int))/\hh<=xs.length/\K (.g (.sl k (xs.take hh)))
   | some p,none=>∃l:Nat,p=.g (.int (l:Int))/\l<=xs.length/\K (.g (.sl k (xs.drop l)))
   | some p,some q=>∃l hh:Nat,p=.g (.int (l:Int))/\q=.g (.int (hh:Int))/\l<=hh/\hh<=xs.length/\K (.g (.sl k ((xs.take hh).drop l)))
   else False
 | some { kind:=.slice e,.. },.row i =>
  match T e,h[i]? with
  | some ei,some (.row xs _ sz)=>bif Nat.beq sz ei.size then
   match lo,hi with
   | none,none=>K (.row i)
   | none,some p=>∃hh:Nat,p=.g (.int (hh:Int))/\hh<=xs.length/\K (.rs i 0 hh)
   | some p,none=>∃l:Nat,p=.g (.int (l:Int))/\l<=xs.length/\K (.rs i l (xs.length - l))
   | some p,some q=>∃l hh:Nat,p=.g (.int (l:Int))/\q=.g (.int (hh:Int))/\l<=hh/\hh<=xs.length/\K (.rs i l (hh - l))
   else False
  | _,_=>False
 | some { kind:=.array n e,.. },.ptr i o=>match lo,hi,T e,h[i]? with
  | none,none,some ei,some (.blk cs _)=>bif Nat.ble (o+n*ei.size) cs.length && Nat.blt 0 n then K (.rs i o n) else False
  | _,_,_,_=>False
 | some { kind:=.array n e,.. },.fp r 0=>match lo,hi,T e with
  | some p,none,some ei=>∃l:Nat,p=.g (.int (l:Int))/\ei.size=1/\r.length=n/\l < n/\K (.g (.sl 1 ((r.drop l).map λg=>[g])))
  | _,_,_=>False
 | _,_=>False
def Zxu (T:Tab) (t:TypeId) (x y:D) (h:Zae) (K:KD):Prop :=
 match T t with
 | some { kind:=.slice e,.. }=>match T e with
  | some ei=>bif Nat.beq ei.size 1 then
   match x,ZBD h 1 y with
   | .rs i o n,some news=>match h[i]? with
    | some (.blk cs ty)=>bif Nat.ble (o+n) cs.length then ∃cN,cN=ZdI cs o (((news.take n).flatten).map .g)/\K (.g (.int ((min news.length n:Nat):Int))) (h.set i (.blk cN ty)) else False
    | _=>False
   | _,_=>False
   else False
  | none=>False
 | _=>False
def ZsY (T:Tab) (t:TypeId) (x:D) (h:Zae) (K:KD):Prop :=
 match T t with
 | some { kind:=.slice e,.. }=>match T e,x with
  | some ei,.rs i lo n=>match h[i]? with
   | some (.row xs e' sz)=>bif Nat.beq e' e && Nat.beq sz ei.size then
     0 < n/\lo+n<=xs.length/\∃z:List GV,ZgQ [] (ei.zero.map of1) z/\K (.tuple []) (h.set i (.row (xs.take lo++(List.replicate n z++xs.drop (lo+n))) e sz)) else False
   | _=>False
  | _,_=>False
 | _=>False
def ZmR (i:TI) (x:D) (h:Zae) (K:D->Prop):Prop :=
 match i.kind,x with
 | .slice _,.g (.sl _ xs)=>K (.g (.int (xs.length:Int)))
 | .slice _,.nils=>K (.g (.int 0))
 | .slice _,.row j=>match h[j]? with
  | some (.row xs _ _)=>K (.g (.int (xs.length:Int)))
  | _=>False
 | .slice _,.rs j _ n=>match h[j]? with
  | some (.row _ _ _)=>K (.g (.int (n:Int)))
  | _=>False
 | .str,.g (.str s)=>K (.g (.int (s.length:Int)))
 | _,_=>False
def Zgu (T:Tab) (t:TypeId) (x ix:D) (h:Zae) (K:D->Prop):Prop :=
 match T t with
 | some { kind:=.slice e,.. }=>match T e,x with
  | some ei,.g (.sl k xs)=>bif Nat.beq k ei.size then ∃(j:Nat) (r:List GV),ix=.g (.int (j:Int))/\xs[j]?=some r/\K (.fp r 0) else False
  | some ei,.g (.raw v)=>∃(m q:Nat) (l:List (Value × Ob0)) (ts:List (Value × Nat)) (xs:List (List GV)) (ty:TypeId) (j:Nat),h[m]?=some (.many l ts)/\(v,q)∈ts/\h[q]?=some (.row xs ty ei.size)/\ix=.g (.int (j:Int))/\j < xs.length/\K (.el q j 0)
  | some ei,.row i=>match h[i]? with
   | some (.row xs _ sz)=>bif Nat.beq sz ei.size then ∃j:Nat,ix=.g (.int (j:Int))/\j < xs.length/\K (.el i j 0) else False
   | _=>False
  | some ei,.rs i lo n=>match h[i]? with
   | some (.row _ _ sz)=>bif Nat.beq sz ei.size then ∃j:Nat,ix=.g (.int (j:Int))/\j < n/\K (.el i (lo+j) 0) else False
   | _=>False
  | _,_=>False
 | some { kind:=.array n e,.. }=>match T e,x with
  | some ei,.ptr i o=>match h[i]? with
   | some (.blk _ _)=>∃j:Nat,ix=.g (.int (j:Int))/\j < n/\K (.ptr i (o+j*ei.size))
   | _=>False
  | some ei,.fp r o=>∃j:Nat,ix=.g (.int (j:Int))/\j < n/\K (.fp r (o+j*ei.size))
  | some ei,.el i k o=>match h[i]? with
   | some (.row _ _ _)=>∃j:Nat,ix=.g (.int (j:Int))/\j < n/\K (.el i k (o+j*ei.size))
   | _=>False
  | _,_=>False
 | _=>False
def Zcd:List D->(List D->Prop)->Prop
 | [],K=>K []
 | d :: l,K=>Zcd l λl=>K (d :: l)
theorem Zba:∀(l:List D) (K:List D->Prop),Zcd l K=K l
 | [],_=>rfl
 | d :: l,K=>by simp only[Zcd,Zba l]
def Zfi (d:D) (K:D->Prop):Prop :=
 match d with
 | .g x=>K (.g x)
 | .pb p=>K (.pb p)
 | .pn p=>K (.pn p)
 | .nils=>K .nils
 | .row i=>K (.row i)
 | .rs i lo n=>K (.rs i lo n)
 | .ptr i o=>K (.ptr i o)
 | .el i j o=>K (.el i j o)
 | .fp r o=>K (.fp r o)
 | .nilP=>K .nilP
 | .nilF=>K .nilF
 | .nilI=>K .nilI
 | .fn f fs cs=>K (.fn f fs cs)
 | .iface t x=>K (.iface t x)
 | .agg cs=>Zcd cs λcs=>K (.agg cs)
 | .tuple cs=>Zcd cs λcs=>K (.tuple cs)
 | .any=>K .any
theorem ZfJ (d:D) (K:D->Prop):Zfi d K=K d:=by cases d<;>simp only[Zfi,Zba]
def ZeH:Zae->(Zae->Prop)->Prop
 | [],K=>K []
 | .blk cs t :: l,K=>Zcd cs λcs=>ZeH l λl=>K (.blk cs t :: l)
 | .row xs e sz :: l,K=>ZeH l λl=>K (.row xs e sz :: l)
 | .many xs ts :: l,K=>ZeH l λl=>K (.many xs ts :: l)
 | .dead :: l,K=>ZeH l λl=>K (.dead :: l)
theorem Zdm:∀(l:Zae) (K:Zae->Prop),ZeH l K=K l
 | [],_=>rfl
 | .blk cs t :: l,K=>by simp only[ZeH,Zba,Zdm l]
 | .row xs e sz :: l,K=>by simp only[ZeH,Zdm l]
 | .many xs ts :: l,K=>by simp only[ZeH,Zdm l]
 | .dead :: l,K=>by simp only[ZeH,Zdm l]
def Zvs (P:Program) (t:TypeId) (f off:Nat):Prop:=∃fields fl,P.underlying t=some (.struct fields)/\fields[f]?=some fl/\fl.offset=off/\∀w,(isAgg fl.type).run P w=.ok false w
def ZaN (P:Program) (T:Tab) (F:FuncId->Bool) (G:Gl) (o:Op) (st:St) (K:KD) (Qp:KD):Prop :=
 match o with
 | .move x=>K (sv G st x) st.h
 | .assign x=>K (sv G st x) st.h
 | .pick c a b=>ZfP (sv G st c) (K (sv G st a) st.h) (K (sv G st b) st.h)
 | .alloc t=>match T t with
  | none=>False
  | some i=>K (.ptr st.h.length 0) (st.h++[.blk (i.zero.map of1) t])
 | .box t x=>match Zfk st.h (sv G st x) with
  | none=>False
  | some ds=>K (.ptr st.h.length 0) (st.h++[.blk ds t])
 | .build t parts=>match T t with
  | some { kind:=.struct fs,zero:=z,.. }=>match ZcP st.h (sv G st) parts.toList with
   | none=>False
   | some ps=>match ZkE (fs[·]?) (z.map of1) ps with
    | some cs=>K (.agg cs) st.h
    | none=>False
  | _=>False
 | .buildSlice t len parts=>match T t with
  | some { kind:=.slice e,.. }=>match T e with
   | some ei=>match ZcP st.h (sv G st) parts.toList with
    | none=>False
    | some ps=>match Zzy ei.size (ei.zero.map of1) len ps with
     | some cs=>bif Nat.ble (len*ei.size) 16777216 && Nat.blt 0 ei.size then
       ∃xs,xs.length=len/\Zrp ei.size xs=true/\ZgQ st.h cs xs.flatten/\K (.row st.h.length) (Zb4 st.h (ZcT cs)++[.row xs e ei.size]) else False
     | none=>False
   | none=>False
  | _=>False
 | .makeSlice t l c=>match T t with
  | some { kind:=.slice e,.. }=>match T e with
   | some ei=>bif Nat.blt 0 ei.size then ∃(len cap:Nat) (z:List GV),sv G st l=.g (.int (len:Int))/\sv G st c=.g (.int (cap:Int))/\len<=cap/\ei.bytes*cap<=140737488355328/\cap<=maxLen /\
     ZgQ [] (ei.zero.map of1) z/\K (.row st.h.length) (st.h++[.row (List.replicate len z) e ei.size]) else False
   | none=>False
  | _=>False
 | .load t x=>ZsU T t (sv G st x) st.h λd=>K d st.h
 | .store t x y=>ZoH T t (sv G st x) (sv G st y) st.h λh=>K .any h
 | .nilCheck x=>match sv G st x with
  | .ptr i o=>match st.h[i]? with
   | some (.blk _ _)=>K (.ptr i o) st.h
   | _=>False
  | .el i j o=>match st.h[i]? with
   | some (.row _ _ _)=>K (.el i j o) st.h
   | _=>False
  | .fp r o=>K (.fp r o) st.h
  | .fn f fs cs=>K (.fn f fs cs) st.h
  | _=>False
 | .binOp op t x y _=>match T t with
  | some { kind:=.bool,.. }=>ZeS op (sv G st x) (sv G st y) λv=>K v st.h
  | some { kind:=.slice _,.. }=>Zyf op (sv G st x) (sv G st y) λv=>K v st.h
  | some { kind:=.struct _,.. }=>Zjf P t op (sv G st x) (sv G st y) λv=>K v st.h
  | _=>ZoJ op (sv G st x) (sv G st y) λv=>K v st.h
 | .unOp op _ x=>ZAd op (sv G st x) λv=>K v st.h
 | .convert src dst x=>match T src,T dst,sv G st x with
  | some _,some { kind:=.int .i64,.. },.g (.int n)=>I64 n/\K (.g (.int n)) st.h
  | some _,some { kind:=.int .i64,.. },.g (.u8 n)=>I64 n/\K (.g (.int n)) st.h
  | some _,some { kind:=.int .u8,.. },.g (.int n)=>K (.g (.u8 (IntKind.u8.wrap n))) st.h
  | some { kind:=.str,.. },some { kind:=.slice e,.. },.g (.str s)=>match T e with
   | some { kind:=.int .u8,.. }=>K (.g (.sl 1 (Zfm s))) st.h
   | _=>False
  | _,_,_=>False
 | .fieldAddr s x f=>match T s with
  | some { kind:=.struct fs,.. }=>match fs[f]? with
   | some (off,_)=>match sv G st x with
    | .ptr i o=>match st.h[i]? with
     | some (.blk _ _)=>K (.ptr i (o+off)) st.h
     | _=>False
    | .el i j o=>match st.h[i]? with
     | some (.row _ _ _)=>K (.el i j (o+off)) st.h
     | _=>False
    | .fp r o=>K (.fp r (o+off)) st.h
    | _=>False
   | none=>False
  | _=>False
 | .indexAddr t x ix=>Zgu T t (sv G st x) (sv G st ix) st.h λd=>K d st.h
 | .index t x ix=>match T t,sv G st x with
  | some { kind:=.str,.. },.g (.str s)=>∃(j:Nat) (c:UInt8),sv G st ix=.g (.int (j:Int))/\s[j]?=some c/\K (.g (.u8 (c.toNat:Int))) st.h
  | _,_=>False
 | .slice t x lo hi none=>ZoI T t (sv G st x) (lo.map (sv G st)) (hi.map (sv G st)) st.h λd=>K d st.h
 | .extract t i=>match sv G st t with
  | .tuple vs=>match vs[i]? with
   | some d=>K d st.h
   | none=>False
  | _=>False
 | .field t x f=>match sv G st x with
  | .agg cs=>∃(off:Nat) (d:D),Zvs P t f off/\cs[off]?=some d/\K d st.h
  | _=>False
 | .makeFunc (.func f) first captured=>K (.fn f (first.toList.map (sv G st)) (captured.toList.map (sv G st))) st.h
 | .makeInterface t x=>match T t with
  | some { kind:=.iface,.. }=>False
  | some _=>K (.iface t (sv G st x)) st.h
  | none=>False
 | .panic x=>match sv G st x with
  | .iface t d=>Qp (.iface t d) st.h
  | _=>False
 | .call { callee:=.builtin .len,args,argTypes }=>match argTypes.toList,args.toList with
  | [t],[x]=>match T t with
   | some i=>ZmR i (sv G st x) st.h λd=>K d st.h
   | none=>False
  | _,_=>False
 | .call { callee:=.builtin .max,args,.. }=>match args.toList with
  | [x,y]=>match sv G st x,sv G st y with
   | .g (.int a),.g (.int b)=>K (.g (.int (if b > a then b else a))) st.h
   | _,_=>False
  | _=>False
 | .call { callee:=.builtin .min,args,.. }=>match args.toList with
  | [x,y]=>match sv G st x,sv G st y with
   | .g (.int a),.g (.int b)=>K (.g (.int (if b < a then b else a))) st.h
   | _,_=>False
  | _=>False
 | .call { callee:=.builtin .append,args,argTypes }=>match argTypes.toList,args.toList with
  | [t,t'],[x,y]=>bif Nat.beq t t' then Zlt T t (sv G st x) (sv G st y) st.h K else False
  | _,_=>False
 | .call { callee:=.builtin .copy,args,argTypes }=>match argTypes.toList,args.toList with
  | [t,_],[x,y]=>Zxu T t (sv G st x) (sv G st y) st.h K
  | _,_=>False
 | .call { callee:=.builtin .clear,args,argTypes }=>match argTypes.toList,args.toList with
  | [t],[x]=>ZsY T t (sv G st x) st.h K
  | _,_=>False
 | .call { callee:=.value f,args,.. }=>match sv G st f with
  | .fn g fs cs=>bif F g then Zcd (fs++(args.toList.map (sv G st)++cs)) λall =>
    orS (ZdT st.h) (∃as Q,Ze0 (all.map (conv st.h [] 4)) as/\CT P G g as Q/\(∀d h',Q (.ret d h')->K (sh st.h.length 4 d) (after st.h (ZcT all) d h'))/\(∀d,Q (.pan d)->Qp d (Zb4 st.h (ZcT all)))) (ZcH P G g all st.h K Qp)
   else Zcd (fs++(args.toList.map (sv G st)++cs)) λall=>fnOk P g=true/\(Zdh P G g all st.h K Qp\/ZcH P G g all st.h K Qp)
  | _=>False
 | _=>False
section
variable {h:Zae} {β:Nat->Value} {V:Nat->Prop} {w:World}
theorem Zt7 (v:Value):Zab h β V w (of1 v) v:=by unfold of1;split<;>simp only[Zab,ZaS]
theorem Zfw:∀(cs:List Value),Zaa h β V w (cs.map of1) cs
 | []=>by simp[Zaa]
 | c :: cs=>by simp only[Yan,Zaa];exact ⟨c,cs,rfl,Zt7 c,Zfw cs⟩
theorem Zzc (v:Value):Zab h β V w (ofV v) v:=by
 unfold ofV;split
 ·rename_i cs;simp only[Zab];exact ⟨cs,rfl,Zfw cs⟩
 ·exact Zt7 _
theorem Zzq {G:Gl} (hG:Zis G V w) (b:Nat):Zab h β V w (glD G b) (.pointer (some ⟨b,0,none⟩)):=by
 induction G with
 | nil=>simp only[glD,Zab]
 | cons p l ih =>
  obtain ⟨b',cs⟩:=p;simp only[glD];cases hb:Nat.beq b' b with
  | true =>have:=Yaq hb;subst this;obtain ⟨h1,h2,_⟩:=hG (b',cs) Yae;simp only[cond_true,Zab];exact ⟨⟨b',0,none⟩,rfl,h1,h2⟩
  | false=>exact ih (λp hp=>hG p (Yad _ hp))
def ZbS (st:St) (β:Nat->Value) (V:Nat->Prop) (w:World) (a:Act):Prop:=∀i,Zab st.h β V w (st.env i) (a.tmps.getD i undef)
theorem ZbS.eval {G:Gl} {st:St} {a:Act} (he:ZbS st β V w a) (hG:Zis G V w) (x:Operand):Zab st.h β V w (sv G st x) (a.eval x):=by
 cases x with
 | tmp t=>exact he t
 | const v=>exact Zzc v
 | global g=>exact Zzq hG g
 | func f=>simp only[sv,Zab];exact ⟨[],[],rfl,by simp[Zaa],by simp[Zaa]⟩
theorem ZnY {d:D} {v:Value} (hf:Zep h d=true) (hd:Zab h β V w d v) (hr:∀(i:Nat) (o:Obj),h[i]?=some o->Zco h β V w i o):v.oneCell'=true/\ZaG v=[v]:=by
 have row:∀(i:Nat) (xs:List (List GV)) (e sz:Nat),h[i]?=some (.row xs e sz)->∃A n c,β i=.slice A n c:=by
  intro i xs e sz hi;obtain ⟨vs,ak,_⟩:=hr i _ hi;rcases ak.2 with ⟨hn,_⟩ | ⟨g,cap,cur,hb,_⟩
  ·exact ⟨_,_,_,hn⟩
  ·exact ⟨_,_,_,hb⟩
 cases d with
 | g x =>
  simp only[Zab] at hd;cases x with
  | sl k xs=>simp only[ZaS] at hd;obtain ⟨A,cap,rfl,_⟩:=hd;exact ⟨rfl,rfl⟩
  | raw u=>simp only[ZaS] at hd;exact hd.2
  | _=>simp only[ZaS] at hd;subst hd;exact ⟨rfl,rfl⟩
 | pb p=>simp only[Zab] at hd;obtain ⟨b,rfl,_⟩:=hd;exact ⟨rfl,rfl⟩
 | pn p=>simp only[Zab] at hd;obtain ⟨b,rfl,_⟩:=hd;exact ⟨rfl,rfl⟩
 | nils=>simp only[Zab] at hd;subst hd;exact ⟨rfl,rfl⟩
 | row i =>
  simp only[Zep] at hf;simp only[Zab] at hd;split at hf
  ·rename_i xs e sz hi;rw[hi] at hd;obtain ⟨A,n,c,hb⟩:=row i _ _ _ hi;simp only at hd;rw[hb] at hd;subst hd;exact ⟨rfl,rfl⟩
  ·cases hf
 | rs i lo n =>
  simp only[Zep] at hf;simp only[Zab] at hd;split at hf
  ·rename_i xs e sz hi;rw[hi] at hd;obtain ⟨_,A,m,cap,_,rfl⟩:=hd;exact ⟨rfl,rfl⟩
  ·cases hf
 | ptr i off =>
  simp only[Zep] at hf;simp only[Zab] at hd;split at hf
  ·rename_i cs t hi;rw[hi] at hd;obtain ⟨g,_,rfl⟩:=hd;exact ⟨rfl,rfl⟩
  ·cases hf
 | el i j off =>
  simp only[Zep] at hf;simp only[Zab] at hd;split at hf
  ·rename_i xs e sz hi;rw[hi] at hd;obtain ⟨_,g,n,c,_,rfl⟩:=hd;exact ⟨rfl,rfl⟩
  ·cases hf
 | fp r off=>simp only[Zab] at hd;obtain ⟨a,rfl,_⟩:=hd;exact ⟨rfl,rfl⟩
 | nilP=>simp only[Zab] at hd;subst hd;exact ⟨rfl,rfl⟩
 | nilF=>simp only[Zab] at hd;subst hd;exact ⟨rfl,rfl⟩
 | nilI=>simp only[Zab] at hd;subst hd;exact ⟨rfl,rfl⟩
 | fn f fs cs=>simp only[Zab] at hd;obtain ⟨us,ts,rfl,_⟩:=hd;exact ⟨rfl,rfl⟩
 | iface t x=>simp only[Zab] at hd;obtain ⟨u,rfl,_⟩:=hd;exact ⟨rfl,rfl⟩
 | agg cs=>cases hf
 | tuple cs=>cases hf
 | any=>cases hf
theorem ZnV (hr:∀(i:Nat) (o:Obj),h[i]?=some o->Zco h β V w i o):∀(ds:List D) (vs:List Value),ZhZ h ds=true->Zaa h β V w ds vs->flat vs=true
 | [],vs,_,hd=>by simp only[Zaa] at hd;subst hd;rfl
 | d :: ds,vs,hf,hd=>by simp only[Zaa] at hd;obtain ⟨v,us,rfl,h1,h2⟩:=hd;simp only[ZhZ,Yag] at hf;simp only[flat,Yag];exact ⟨(ZnY hf.1 h1 hr).1,ZnV hr ds us hf.2 h2⟩
theorem Zh8 (hr:∀(i:Nat) (o:Obj),h[i]?=some o->Zco h β V w i o) {d:D} {v:Value} {ds:List D} (hc:Zfk h d=some ds) (hd:Zab h β V w d v):Zaa h β V w ds (ZaG v)/\flat (ZaG v)=true:=by
 unfold Zfk at hc;split at hc
 ·rename_i cs;cases hf:ZhZ h cs with
  | false=>rw[hf] at hc;cases hc
  | true =>rw[hf] at hc;simp at hc;subst hc;simp only[Zab] at hd;obtain ⟨us,rfl,h1⟩:=hd;exact ⟨h1,ZnV hr cs us hf h1⟩
 ·cases hf:Zep h d with
  | false=>rw[hf] at hc;cases hc
  | true =>rw[hf] at hc;simp at hc;subst hc;obtain ⟨h1,h2⟩:=ZnY hf hd hr;rw[h2];exact ⟨by simp only[Zaa];exact ⟨v,[],rfl,hd,rfl⟩,by simp[flat,h1]⟩
theorem ZoX {α:Type} (vs:List α):∀(l:List α) (o:Nat),(ZdI l o vs).length=l.length:=by
 induction vs with
 | nil=>intro l o;rfl
 | cons v vs ih=>intro l o;simp[ZdI,ih]
theorem ZiR:∀(ds:List D) (vs:List Value) (cs:List D) (us:List Value) (o:Nat),Zaa h β V w cs us->Zaa h β V w ds vs->Zaa h β V w (ZdI cs o ds) (Zfs us o vs)
 | [],vs,cs,us,o,hc,hd=>by simp only[Zaa] at hd;subst hd;simpa [ZdI,Zfs] using hc
 | d :: ds,vs,cs,us,o,hc,hd=>by simp only[Zaa] at hd;obtain ⟨v,dm,rfl,h1,h2⟩:=hd;simp only[ZdI,Zfs];exact ZiR ds dm _ _ _ (hc.set o h1) h2
theorem Zp2:∀(ds:List GV) (vs:List Value) (cs:List GV) (us:List Value) (o:Nat),Zbg V w cs us->Zbg V w ds vs->Zbg V w (ZdI cs o ds) (Zfs us o vs)
 | [],[],cs,us,o,hc,hd=>by simpa [ZdI,Zfs] using hc
 | [],_ :: _,_,_,_,_,hd=>hd.elim
 | _ :: _,[],_,_,_,_,hd=>hd.elim
 | d :: ds,v :: vs,cs,us,o,hc,hd=>by simp only[ZdI,Zfs];exact Zp2 ds vs _ _ _ (hc.set o hd.1) hd.2
theorem ZjZ (place:Nat->Option (Nat × Nat)):∀(ps:List (Nat × List D)) (qs:List (Nat × List Value)) (cs out:List D) (us:List Value),ZkE place cs ps=some out->Zaa h β V w cs us ->
  ps.length=qs.length->(∀(i:Nat) p q,ps[i]?=some p->qs[i]?=some q->p.1=q.1/\Zaa h β V w p.2 q.2)->∃vout,ZkD place us qs=some vout/\Zaa h β V w out vout
 | [],qs,cs,out,us,hf,hc,hl,_=>by
  cases qs with
  | nil=>simp[ZkE] at hf;subst hf;exact ⟨us,rfl,hc⟩
  | cons=>simp at hl
 | (i,d) :: ps,qs,cs,out,us,hf,hc,hl,hp=>by
  cases qs with
  | nil=>simp at hl
  | cons q qs =>
   obtain ⟨i',v⟩:=q;obtain ⟨rfl,hv⟩:=hp 0 (i,d) (i',v) rfl rfl;simp only[ZkE] at hf;simp only[ZkD];cases hpl:place i with
   | none=>rw[hpl] at hf;cases hf
   | some os =>
    obtain ⟨off,size⟩:=os;rw[hpl] at hf;simp only at hf ⊢;cases hb:Nat.beq d.length size && Nat.ble (off+size) cs.length with
    | false=>rw[hb] at hf;cases hf
    | true =>rw[hb] at hf;simp only[cond_true] at hf;have e1:v.length=d.length:=hv.len.symm;have e2:us.length=cs.length:=hc.len.symm;rw[e1,e2,hb];simp only[cond_true];exact ZjZ place ps qs _ out _ hf (ZiR _ _ _ _ _ hc hv) (by simpa using hl) (λj p q mK lG=>hp (j+1) p q (by simpa using mK) (by simpa using lG))
theorem ZhM (hr:∀(i:Nat) (o:Obj),h[i]?=some o->Zco h β V w i o) {f:Operand->D} {ev:Operand->Value} (he:∀x,Zab h β V w (f x) (ev x)):∀(l:List (Nat × Operand)) (ps:List (Nat × List D)),ZcP h f l=some ps ->
  ps.length=(l.map λp=>(p.1,ZaG (ev p.2))).length/\∀(i:Nat) p q,ps[i]?=some p->(l.map λp=>(p.1,ZaG (ev p.2)))[i]?=some q->p.1=q.1/\Zaa h β V w p.2 q.2
 | [],ps,hp=>by simp[ZcP] at hp;subst hp;exact ⟨rfl,λi p q h=>by simp at h⟩
 | (i,o) :: l,ps,hp=>by
  simp only[ZcP] at hp;split at hp
  ·rename_i ds r h1 h2;injection hp with hp;subst hp;obtain ⟨hl,hh⟩:=ZhM hr he l r h2;refine ⟨by simpa using hl,λj p q hp hq=>?_⟩;cases j with
   | zero =>simp at hp hq;subst hp;subst hq;exact ⟨rfl,(Zh8 hr h1 (he o)).1⟩
   | succ j=>exact hh j p q (by simpa using hp) (by simpa using hq)
  ·cases hp
theorem Zp9 (z:List D) (zs:List Value) (hz:Zaa h β V w z zs):∀n,Zaa h β V w (Zvx z n) (Zej zs n)
 | 0=>by simp[Zvx,Zej,Zaa]
 | n+1=>by simp only[Zvx,Zej];exact hz.append (Zp9 z zs hz n)
theorem Zp3 {sz:Nat}:∀{ps:List (Nat × List D)} {i len:Nat},ZlF sz i ps len=true->i<=len
 | [],i,len,h=>by simp only[ZlF] at h;have:=Yaq h;omega
 | (j,v) :: ps,i,len,h=>by simp only[ZlF,Yag] at h;have:=Zp3 h.2.2;omega
theorem Zp1 {α:Type}:∀(v:List α) (pre z rest:List α),v.length=z.length->ZdI (pre++(z++rest)) pre.length v=pre++(v++rest)
 | [],pre,z,rest,h=>by cases z with | nil=>rfl | cons=>simp at h
 | x :: v,pre,z,rest,h=>by
  cases z with
  | nil=>simp at h
  | cons y z =>
   simp only[ZdI];have e:(pre++(y :: z++rest)).set pre.length x=(pre++[x])++(z++rest):=by simp
   have hl:pre.length+1=(pre++[x]).length:=by simp
   rw[e,hl,Zp1 v (pre++[x]) z rest (by simpa using h)];simp
theorem ZqT {sz:Nat} {z:List D} (hz:z.length=sz):∀(ps:List (Nat × List D)) (i len:Nat) (pre:List D),pre.length=i*sz->ZlF sz i ps len=true->ZkE (λi=>some (i*sz,sz)) (pre++Zvx z (len - i)) ps=some (pre++ZuO ps)
 | [],i,len,pre,hp,h=>by simp only[ZlF] at h;have:=Yaq h;subst this;simp[ZkE,ZuO,Zvx]
 | (j,v) :: ps,i,len,pre,hp,h=>by
  simp only[ZlF,Yag] at h;have hj:=Yaq h.1;have hv:=Yaq h.2.1;subst hj;have hle:=Zp3 h.2.2;have hn:len - j=(len - (j+1))+1:=by omega
  rw[hn];simp only[ZkE,Zvx,ZuO];have hb:(Nat.beq v.length sz && Nat.ble (j*sz+sz) (pre++(z++Zvx z (len - (j+1)))).length)=true:=by rw[Yag];refine ⟨h.2.1,Ybo ?_⟩;simp[hp,hz]
  rw[hb];simp only[cond_true];rw[<- hp,Zp1 v pre z _ (by rw[hv,hz])];have:=ZqT hz ps (j+1) len (pre++v) (by simp[hp,hv,Nat.succ_mul]) h.2.2;rw[Yax] at this;rw[this,Yax]
theorem Zsq {sz:Nat} {z:List D} (hz:z.length=sz) {len:Nat} {ps:List (Nat × List D)} {cs:List D} (h:Zzy sz z len ps=some cs):ZkE (λi=>some (i*sz,sz)) (Zvx z len) ps=some cs:=by
 unfold Zzy at h;cases hs:ZlF sz 0 ps len with
 | false=>rw[hs] at h;exact h
 | true =>rw[hs] at h;simp only[cond_true] at h;have:=ZqT hz ps 0 len [] (by simp) hs;simp only[List.nil_append,Nat.sub_zero] at this;rw[this];exact h
def ZhQ (h:Zae) (l:List Nat) (β:Nat->Value) (V:Nat->Prop):Nat->Prop:=λk=>V k\/∃i o,i∈l/\h[i]?=some o/\o.live=true/\Bk o (β i) k
theorem ZfF:∀(l:List Nat) (h:Zae) (i:Nat) (o:Obj),(Zb4 h l)[i]?=some o->(o=.dead/\(∃o',h[i]?=some o'))\/(i ∉ l/\h[i]?=some o)
 | [],h,i,o,hi=>.inr ⟨by simp,hi⟩
 | a :: l,h,i,o,hi=>by
  simp only[Zb4] at hi;rcases ZfF l (h.set a .dead) i o hi with ⟨rfl,o',aP⟩ | ⟨hn,ho⟩
  ·left;refine ⟨rfl,?_⟩;by_cases jE:a=i
   ·subst jE;have:a < h.length:=by have:=(Yac.1 aP).1;simpa using this
    exact ⟨_,Yak this⟩
   ·rw[YaV jE] at aP;exact ⟨o',aP⟩
  ·by_cases jE:a=i
   ·subst jE;have hl:a < h.length:=by have:=(Yac.1 ho).1;simpa using this
    left;rw[YbA hl] at ho;injection ho with ho;exact ⟨ho.symm,_,Yak hl⟩
   ·right;rw[YaV jE] at ho;exact ⟨by simp[hn];exact λe=>jE e.symm,ho⟩
theorem Zcv:∀(l:List Nat) (h:Zae),(Zb4 h l).length=h.length
 | [],h=>rfl
 | a :: l,h=>by simp only[Zb4];rw[Zcv l];simp
theorem Zf6 (l:List Nat) (h:Zae) (β:Nat->Value):LeH h β (Zb4 h l) β:=by
 intro i o hi;have hl:i < (Zb4 h l).length:=by rw[Zcv];exact (Yac.1 hi).1
 refine ⟨(Zb4 h l)[i],Yak hl,?_,λ_=>rfl⟩;rcases ZfF l h i _ (Yak hl) with ⟨e,_⟩ | ⟨_,e⟩
 ·rw[e];cases o<;>trivial
 ·rw[hi] at e;injection e with e;rw[<- e];exact OLe.refl _
theorem Zb1 (h:Zae) (l:List Nat) (β:Nat->Value) (V:Nat->Prop) (w:World):ZaI V w (ZhQ h l β V) w:=λ_ hk=>⟨.inl hk,rfl⟩
theorem Zf7 {C:Ctx} (hr:RelD C h β V w) (l:List Nat):RelD C (Zb4 h l) β (ZhQ h l β V) w:=by
 have Zko:∀(i:Nat) (o:Obj),(Zb4 h l)[i]?=some o->o.live=true->i ∉ l/\h[i]?=some o:=by
  intro i o hi hl;rcases ZfF l h i o hi with ⟨rfl,_⟩ | h1
  ·cases hl
  ·exact h1
 refine ⟨λi o hi=>?_,λi j o o' k hi hl hj bQ hk ae=>?_,λi o k hi hl hk=>?_,λi o k hi hl hk=>?_,λk hk=>?_,λk hk=>.inl (hr.vin k hk),λk hk=>?_,hr.fr,hr.gl.move (Zb1 h l β V w)⟩
 ·cases hl:o.live with
  | false=>cases o<;>simp_all [Obj.live,Zco]
  | true =>obtain ⟨_,h2⟩:=Zko i o hi hl;exact (hr.obj i o h2).keep (Zf6 l h β) (Zb1 h l β V w) rfl (λ_ _=>rfl)
 ·exact hr.sep i j o o' k (Zko i o hi hl).2 hl (Zko j o' hj bQ).2 bQ hk ae
 ·exact hr.mine i o k (Zko i o hi hl).2 hl hk
 ·obtain ⟨h1,h2⟩:=Zko i o hi hl;rintro (hv | ⟨i',o',g1,g2,g3,g4⟩)
  ·exact hr.vout i o k h2 hl hk hv
  ·have:=hr.sep i i' o o' k h2 hl g2 g3 hk g4;subst this;exact h1 g1
 ·rcases hk with hk | ⟨i',o',g1,g2,g3,g4⟩
  ·exact hr.vlt k hk
  ·exact hr.lt g2 g3 g4
 ·rcases hk with hk | ⟨i',o',g1,g2,g3,g4⟩
  ·exact hr.vnew k hk
  ·exact .inr (hr.mine i' o' k g2 g3 g4)
theorem ZhT {l:List Nat}:∀{ds:List D} {d:D},d∈ds->∀i∈ids 4 d,(∀j∈ZcT ds,j∈l)->i∈l
 | [],d,hd,i,hi,hl=>by simp at hd
 | e :: ds,d,hd,i,hi,hl=>by
  rcases Yav.1 hd with rfl | hd
  ·exact hl i (by simp only[ZcT,Yar];exact .inl hi)
  ·exact ZhT hd i hi (λj hj=>hl j (by simp only[ZcT,Yar];exact .inr hj))
theorem ZlG {C:Ctx} (hr:RelD C h β V w) {l:List Nat} {d:D} {v:Value} {y:GV} (hs:Zvn h d y) (hd:Zab h β V w d v) (hl:∀i∈ids 4 d,i∈l):ZaS (ZhQ h l β V) w y v:=by
 cases d with
 | g x=>simp only[Zvn] at hs;subst hs;simp only[Zab] at hd;exact ZaS.move (Zb1 h l β V w) _ _ hd
 | pb p =>
  obtain ⟨b,rfl,hb⟩:=hs;simp only[Zab] at hd;obtain ⟨b',rfl,au⟩:=hd;have:b'=b:=by have:=au.trans hb.symm;cases b<;>cases b'<;>simp_all
  subst this;simp only[ZaS]
 | pn p =>
  obtain ⟨b,rfl,hb⟩:=hs;simp only[Zab] at hd;obtain ⟨b',rfl,au⟩:=hd;have:b'=b:=by have:=au.trans hb.symm;cases b<;>cases b'<;>simp_all
  subst this;simp only[ZaS]
 | nils =>obtain ⟨k,rfl⟩:=hs;simp only[Zab] at hd;subst hd;exact ZaS.sl_nil k
 | row i =>
  simp only[Zvn] at hs;simp only[Zab] at hd;split at hs
  ·rename_i xs e sz hi;subst hs;rw[hi] at hd;simp only at hd;subst hd;exact Zf1 (hr.obj i _ hi) (λk hk=>.inl hk) (λk hk=>.inr ⟨i,_,hl i (by simp[ids]),hi,rfl,hk⟩)
  ·exact hs.elim
 | rs i lo n =>
  simp only[Zvn] at hs;simp only[Zab] at hd;split at hs
  ·rename_i xs e sz hi;subst hs;rw[hi] at hd;simp only at hd;obtain ⟨lV,A,q,cap,hb,rfl⟩:=hd;have mV:=Zf1 (V':=ZhQ h l β V) (hr.obj i _ hi) (λk hk=>.inl hk) (λk hk=>.inr ⟨i,_,hl i (by simp[ids]),hi,rfl,hk⟩);rw[hb] at mV;have:=mV.piece (l:=lo) (hh:=lo+n) (by omega) lV;rw[YbX,Yco] at this;exact this
  ·exact hs.elim
 | _=>exact hs.elim
theorem Zft {C:Ctx} (hr:RelD C h β V w) {l:List Nat}:∀{ds:List D} {vs:List Value} {ys:List GV},ZgQ h ds ys->Zaa h β V w ds vs->(∀j∈ZcT ds,j∈l)->Zbg (ZhQ h l β V) w ys vs
 | [],vs,[],_,hd,_=>by simp only[Zaa] at hd;subst hd;trivial
 | [],_,_ :: _,hs,_,_=>hs.elim
 | _ :: _,_,[],hs,_,_=>hs.elim
 | d :: ds,vs,y :: ys,hs,hd,hl=>by simp only[Zaa] at hd;obtain ⟨v,us,rfl,h1,h2⟩:=hd;exact ⟨ZlG hr hs.1 h1 (λi hi=>hl i (by simp only[ZcT,Yar];exact .inl hi)),Zft hr hs.2 h2 (λj hj=>hl j (by simp only[ZcT,Yar];exact .inr hj))⟩
theorem Zll {sz:Nat}:∀{xs:List (List GV)},Zrp sz xs=true->∀r∈xs,r.length=sz
 | [],_,r,hr=>by simp at hr
 | x :: xs,h,r,hr=>by
  simp only[Zrp,Yag] at h;rcases Yav.1 hr with rfl | hr
  ·exact Yaq h.1
  ·exact Zll h.2 r hr
end
def Nx (C:Ctx) (h:Zae) (β:Nat->Value) (V:Nat->Prop) (w:World) (K:KD) (next:Value->World->Prop):Prop :=
 ∀d h' v w' β' V',K d h'->RelD C h' β' V' w'->Zab h' β' V' w' d v->LeH h β h' β'->ZaI V w V' w'->next v w'
def Px (C:Ctx) (h:Zae) (β:Nat->Value) (V:Nat->Prop) (w:World) (Qp:KD) (qp:List PanicEntry->World->Prop):Prop :=
 ∀d h' t u w' β' V',Qp d h'->RelD C h' β' V' w'->Zab h' β' V' w' d (.iface t u)->LeH h β h' β'->ZaI V w V' w'->qp [{ v:=.iface t u,recovered:=false }] w'
section
variable {P:Program} {T:Tab} {F:FuncId->Bool} {C:Ctx} {st:St} {a:Act} {w:World} {β:Nat->Value} {V:Nat->Prop} {K:KD} {Qp:KD} {next:Value->World->Prop} {qp:List PanicEntry->World->Prop}
theorem Nx.same (hN:Nx C st.h β V w K next) (hr:RelD C st.h β V w) {d:D} {v:Value} (hk:K d st.h) (hd:Zab st.h β V w d v):next v w:=hN d st.h v w β V hk hr hd (LeH.refl _ _) (ZaI.refl _ _)
theorem Zdf {o:Oper} {x:Sem Value} {v:Value} {d:D} (hN:Nx C st.h β V w K next) (hr:RelD C st.h β V w) (hx:execOp a.eval o=(do pure (.value (<- x)))) (al:x.run P w=.ok v w) (hk:K d st.h) (hd:Zab st.h β V w d v) :
  Zbu P next qp ((execOp a.eval o).run P w):=by rw[Go.Eng.run_v hx al];exact hN.same hr hk hd
theorem ZfP.use {c:D} {A B:Prop} {v:Value} {h:Zae} (hc:ZfP c A B) (hd:Zab h β V w c v):∃b:Bool,v=.bool b/\(b=true->A)/\(b=false->B):=by
 unfold ZfP at hc;split at hc
 ·simp only[Zab,ZaS] at hd;exact ⟨true,hd,λ_=>hc,λe=>(by cases e)⟩
 ·simp only[Zab,ZaS] at hd;exact ⟨false,hd,λe=>(by cases e),λ_=>hc⟩
 ·simp only[Zab] at hd;obtain ⟨b,rfl,hb⟩:=hd;exact ⟨b,rfl,λe=>hc.1 (hb.1 e),λe=>hc.2 (λhp=>by rw[hb.2 hp] at e;cases e)⟩
 ·simp only[Zab] at hd;obtain ⟨b,rfl,hb⟩:=hd;refine ⟨b,rfl,λe=>hc.1 (hb.1 e),λe=>hc.2 (Yah.1 (λhp=>?_))⟩;rw[hb.2 hp] at e;cases e
 ·exact hc.elim
section
variable (hr:RelD C st.h β V w) (he:ZbS st β V w a) (hN:Nx C st.h β V w K next)
include hr he hN
theorem ZxD {x:Operand} {o:Oper} (ho:o.op=.move x\/o.op=.assign x) (h:K (sv C.G st x) st.h):Zbu P next qp ((execOp a.eval o).run P w):=by
 have:(execOp a.eval o).run P w=.ok (.value (a.eval x)) w:=by rcases ho with ho | ho<;>simp[execOp,ho]
 rw[this];exact hN.same hr h (he.eval hr.gl x)
theorem ZAv {c x y:Operand} {o:Oper} (ho:o.op=.pick c x y) (h:ZfP (sv C.G st c) (K (sv C.G st x) st.h) (K (sv C.G st y) st.h)):Zbu P next qp ((execOp a.eval o).run P w):=by
 obtain ⟨b,hv,ht,hf⟩:=ZfP.use h (he.eval hr.gl c);cases b with
 | true =>
  have:(execOp a.eval o).run P w=.ok (.value (a.eval x)) w:=by simp[execOp,ho,hv,asBool]
  rw[this];exact hN.same hr (ht rfl) (he.eval hr.gl x)
 | false =>
  have:(execOp a.eval o).run P w=.ok (.value (a.eval y)) w:=by simp[execOp,ho,hv,asBool]
  rw[this];exact hN.same hr (hf rfl) (he.eval hr.gl y)
omit he in
theorem ZAw {ds:List D} {vs:List Value} {t:TypeId} (hd:Zaa st.h β V w ds vs) (h:K (.ptr st.h.length 0) (st.h++[.blk ds t])):next (.pointer (some ⟨w.heap.size,0,none⟩)) (w.alloc (.cells ⟨vs⟩ t)):=by have aL:=hr.alloc_blk ds vs t hd;refine hN _ _ _ _ _ _ h aL ?_ (ZdS _ _ _ _) (hr.moved (Ze4 w _) (λk hk=>hk.elim));simp only[Zab];rw[Yaj (Yas _)];simp only[Ybq,List.getElem?_cons_zero];exact ⟨w.heap.size,ZbT _ _ _,rfl⟩
omit he in
theorem ZyU (hT:TabOk P T) {t:TypeId} {o:Oper} (ho:o.op=.alloc t) (h:ZaN P T F C.G (.alloc t) st K Qp):Zbu P next qp ((execOp a.eval o).run P w):=by
 simp only[ZaN] at h;cases ht:T t with
 | none=>rw[ht] at h;exact h.elim
 | some i =>
  rw[ht] at h;obtain ⟨inf,z,aJ,_,_,hz,gy⟩:=(hT t i ht).inf;have al:(execOp a.eval o).run P w=.ok (.value (.pointer (some ⟨w.heap.size,0,none⟩))) (w.alloc (.cells i.zero.toArray t)):=by simp[execOp,ho,Instr.alloc,zeroValue,typeInfo,aJ,hz,newVar,newRow,gy]
  rw[al];exact ZAw hr hN (Zfw _) h
theorem ZB0 {t:TypeId} {x:Operand} {o:Oper} (ho:o.op=.box t x) (h:ZaN P T F C.G (.box t x) st K Qp):Zbu P next qp ((execOp a.eval o).run P w):=by
 simp only[ZaN] at h;split at h
 ·exact h.elim
 ·rename_i ds jg;have al:(execOp a.eval o).run P w=.ok (.value (.pointer (some ⟨w.heap.size,0,none⟩))) (w.alloc (.cells (ZaG (a.eval x)).toArray t)):=by simp[execOp,ho,Instr.box,newVar,newRow,ZeM]
  rw[al];exact ZAw hr hN (Zh8 hr.obj jg (he.eval hr.gl x)).1 h
theorem ZyT (hT:TabOk P T) {t:TypeId} {parts:Array (Nat × Operand)} {o:Oper} (ho:o.op=.build t parts) (h:ZaN P T F C.G (.build t parts) st K Qp):Zbu P next qp ((execOp a.eval o).run P w):=by
 simp only[ZaN] at h;split at h
 ·rename_i agg size bytes z fs ht;split at h
  ·exact h.elim
  ·rename_i ps eG;split at h
   ·rename_i cs aU;obtain ⟨hl,hp⟩:=ZhM hr.obj (λx=>he.eval hr.gl x) _ _ eG;obtain ⟨vout,ij,ba⟩:=ZjZ _ ps _ _ _ _ aU (Zfw (h:=st.h) (β:=β) (V:=V) (w:=w) z) hl hp;have lQ:(parts.toList.map fun (p:Nat × Operand)=>(p.1,ZaG (a.eval p.2)))=((parts.map fun (p:Nat × Operand)=>(p.1,a.eval p.2)).toList.map λp=>(p.1,ZaG p.2)):=by simp[List.map_map,Function.comp_def]
    rw[lQ] at ij;have al:=Znb hT ht rfl (parts.map fun (p:Nat × Operand)=>(p.1,a.eval p.2)) vout ij w;have:(execOp a.eval o).run P w=.ok (.value (.agg vout.toArray)) w:=by simp only[execOp,ho,Sem.run_bind,al,Result.andThen_ok,Sem.run_pure]
    rw[this];refine hN.same hr h ?_;simp only[Zab];exact ⟨vout,rfl,ba⟩
   ·exact h.elim
 ·exact h.elim
theorem Zm9 (hT:TabOk P T) {t:TypeId} {len:Nat} {parts:Array (Nat × Operand)} {o:Oper} (ho:o.op=.buildSlice t len parts) (h:ZaN P T F C.G (.buildSlice t len parts) st K Qp):Zbu P next qp ((execOp a.eval o).run P w):=by
 simp only[ZaN] at h;split at h
 ·rename_i agg size bytes z e ht;split at h
  ·rename_i ei aO;split at h
   ·exact h.elim
   ·rename_i ps eG;split at h
    ·rename_i cs aU;cases hb:Nat.ble (len*ei.size) 16777216 && Nat.blt 0 ei.size with
     | false=>rw[hb] at h;exact h.elim
     | true =>
      rw[hb] at h;simp only[Yag] at hb;have h1:len*ei.size<=16777216:=Yau hb.1;have h2:0 < ei.size:=Yau hb.2;obtain ⟨xs,fj,bn,cX,hk⟩:=h;obtain ⟨d,hd,aA,_⟩:=(hT t _ ht).d;have aA:d=.slice e:=aA;subst aA;obtain ⟨inf,zv,aJ,ah,_,hz,gy⟩:=(hT e ei aO).inf;have fX:ei.zero.length=ei.size:=(hT e ei aO).zsize;have aU:=Zsq (by simpa using fX) aU;obtain ⟨hl,hp⟩:=ZhM hr.obj (λx=>he.eval hr.gl x) _ _ eG;obtain ⟨vout,ij,ba⟩:=ZjZ _ ps _ _ _ _ aU (Zp9 _ _ (Zfw (h:=st.h) (β:=β) (V:=V) (w:=w) ei.zero) len) hl hp;have lQ:(parts.toList.map fun (p:Nat × Operand)=>(p.1,ZaG (a.eval p.2)))=((parts.map fun (p:Nat × Operand)=>(p.1,a.eval p.2)).toList.map λp=>(p.1,ZaG p.2)):=by simp[List.map_map,Function.comp_def]
      rw[lQ] at ij;have jc:=ZuR (λi=>some (i*ei.size,ei.size)) _ (Zej ei.zero len) vout ij;have bt:vout.length=len*ei.size:=by rw[Zn1 _ _ _ _ ij,Ze1,fX]
      have hm:=ZjK ei.zero (by omega) len;rw[fX] at hm;have al:(Instr.buildSlice t len (parts.map fun (p:Nat × Operand)=>(p.1,a.eval p.2))).run P w=.ok (.slice (some ⟨w.heap.size,0,none⟩) len len) (w.alloc (.cells vout.toArray e)):=by
       have n1:¬ (len*inf.size > 2 ^ 24):=by rw[ah];omega
       simp only[Instr.buildSlice,Sem.run_bind,run_underlying hd,Result.andThen_ok,sizeOf,typeInfo,run_program,aJ,Sem.run_pure,Sem.run_ite];rw[if_neg n1];by_cases h0:len*inf.size=0
       ·rw[if_pos h0];have bC:len*ei.size=0:=by rw[<- ah];exact h0
        have oe:len=0:=by rcases Nat.mul_eq_zero.1 bC with h | h<;>omega
        subst oe;simp only[Ych];have:(Array.map (λi=>(#[]:Array Value)[i % (#[]:Array Value).size]!) (Array.range 0))=(Zej ei.zero 0).toArray:=by simp[Zej]
        rw[this,ah,jc];simp[newRow]
       ·rw[if_neg h0];simp only[Sem.run_bind,zeroValue,typeInfo,run_program,Result.andThen_ok,aJ,Sem.run_pure,hz,gy];rw[ah];have lR:Array.map (λi=>ei.zero.toArray[i % ei.zero.toArray.size]!) (Array.range (len*ei.size))=(Zej ei.zero len).toArray:=hm;rw[lR,jc];simp[newRow]
      have cY:(execOp a.eval o).run P w=.ok (.value (.slice (some ⟨w.heap.size,0,none⟩) len len)) (w.alloc (.cells vout.toArray e)):=by simp only[execOp,ho,Sem.run_bind,al,Result.andThen_ok,Sem.run_pure]
      rw[cY];have hv:=Zft hr (l:=ZcT cs) cX ba (λj hj=>hj);have nV:=Zf7 hr (ZcT cs);have vi:=Zll bn;have aL:=nV.alloc_row xs vout len vout.toArray e ei.size vi h2 hv (by omega) (by simp only[maxLen];have:=Ycp len h2;omega) (by simpa using bt) (by rw[fj,<- bt];simp);rw[fj,Zcv] at aL;have hle:LeH st.h β (Zb4 st.h (ZcT cs)++[.row xs e ei.size]) (upf β st.h.length (.slice (some ⟨w.heap.size,0,none⟩) len len)):=by
       have:=ZdS (Zb4 st.h (ZcT cs)) β (.row xs e ei.size) (.slice (some ⟨w.heap.size,0,none⟩) len len);rw[Zcv] at this;intro i o hi;obtain ⟨o1,h1,h2,h3⟩:=Zf6 (ZcT cs) st.h β i o hi;obtain ⟨o2,h4,h5,h6⟩:=this i o1 h1;refine ⟨o2,h4,?_,h6⟩;have:o2=o1:=by have az:i < (Zb4 st.h (ZcT cs)).length:=(Yac.1 h1).1;rw[Yal az,h1] at h4;injection h4 with h4;exact h4.symm
       rw[this];exact h2
      refine hN _ _ _ _ _ _ hk aL ?_ hle ((Zb1 _ _ _ _ _).trans (nV.moved (Ze4 w _) (λk hk=>hk.elim)));simp only[Zab];rw[Yaj (by rw[Zcv];exact Yas _),Zcv];simp only[Ybq,List.getElem?_cons_zero];exact (ZbT _ _ _).symm
    ·exact h.elim
  ·exact h.elim
 ·exact h.elim
theorem ZoZ (hT:TabOk P T) {t:TypeId} {l c:Operand} {o:Oper} (ho:o.op=.makeSlice t l c) (h:ZaN P T F C.G (.makeSlice t l c) st K Qp):Zbu P next qp ((execOp a.eval o).run P w):=by
 simp only[ZaN] at h;split at h
 ·rename_i agg size bytes z0 e hs;split at h
  ·rename_i ei aO;cases cw:Nat.blt 0 ei.size with
   | false=>rw[cw] at h;exact h.elim
   | true =>
    rw[cw] at h;have cw:0 < ei.size:=Yau cw;obtain ⟨len,cap,z,hl,hc,rv,hb,hm,cX,hk⟩:=h;obtain ⟨d,hd,aA,_⟩:=(hT t _ hs).d;have aA:d=.slice e:=aA;subst aA;obtain ⟨inf,zv,aJ,ah,jB,hz,gy⟩:=(hT e ei aO).inf;have fX:ei.zero.length=ei.size:=(hT e ei aO).zsize;have lP:=hm;simp only[maxLen] at lP;have gu:(inf.bytes:Int)*(cap:Int)<=281474976710656:=by
     have:((inf.bytes*cap:Nat):Int)<=281474976710656:=by rw[jB];omega
     rwa [Int.natCast_mul] at this
    have al:=run_make (P:=P) w t e inf zv hd aJ hz .i64 .i64 (len:Int) (cap:Int) (by omega) (by omega) gu (by omega);simp only[Int.toNat_natCast] at al;have bu:madeCells zv.cells (cap*inf.size)=(Zej ei.zero cap).toArray:=by rw[ah,gy];have:=ZjK ei.zero (by omega) cap;rw[fX] at this;exact this
    rw[bu] at al;have gn:a.eval l=.int .i64 (len:Int):=by have:=he.eval hr.gl l;rw[hl] at this;simpa [Zab,ZaS] using this
    have wL:a.eval c=.int .i64 (cap:Int):=by have:=he.eval hr.gl c;rw[hc] at this;simpa [Zab,ZaS] using this
    have cY:(execOp a.eval o).run P w=.ok (.value (.slice (some ⟨w.heap.size,0,none⟩) len cap)) (w.alloc (.cells (Zej ei.zero cap).toArray e)) :=
     Go.Eng.run_v (x:=Instr.makeSlice t (a.eval l) (a.eval c)) (by simp[execOp,ho]) (by rw[gn,wL];exact al)
    rw[cY];have kD:∀(m k:Nat),k<=m->(Zej ei.zero m).take (k*ei.size)=Zej ei.zero k:=by
     intro m
     induction m with
     | zero =>
      intro k hk;have:k=0:=by omega
      subst this;simp[Zej]
     | succ m ih =>
      intro k hk;cases k with
      | zero=>simp[Zej]
      | succ k=>simp only[Zej];rw[Ybr,Yay (by rw[fX,YaW];omega),fX,show (k+1)*ei.size - ei.size=k*ei.size from by rw[YaW];omega,ih k (by omega)]
    have fi:Zbg V w z ei.zero:=by have h0:RelD ⟨w,λ_=>False,V,[]⟩ [] (λ_=>undef) V w:=⟨λi o h=>by simp at h,λi j o o' k h=>by simp at h,λi o k h=>by simp at h,λi o k h=>by simp at h,hr.vlt,λk hk=>hk,λk hk=>.inl hk,Fr.refl _ _,λp hp=>by simp at hp⟩;have:=Zft h0 (l:=ZcT (ei.zero.map of1)) cX (Zfw ei.zero) (λj hj=>hj);exact Zbg.move (λk hk=>⟨by rcases hk with hk | ⟨i,o,_,h2,_⟩;exact hk;simp at h2,rfl⟩) _ _ this
    have iB:z.length=ei.size:=by rw[fi.len,fX]
    have ba:∀n,Zbg V w (List.replicate n z).flatten (Zej ei.zero n):=by
     intro n
     induction n with
     | zero=>simp[Zej,Zbg]
     | succ n ih=>rw[List.replicate_succ,List.flatten_cons,Zej];exact fi.append ih
    have aL:=hr.alloc_row (List.replicate len z) (Zej ei.zero len) cap (Zej ei.zero cap).toArray e ei.size (λr hr=>by rw[Yci hr];exact iB) cw (ba len) (by simpa using rv) hm (by simp[Ze1,fX]) (by simpa using kD cap len rv);rw[YbO] at aL;refine hN _ _ _ _ _ _ hk aL ?_ (ZdS _ _ _ _) (hr.moved (Ze4 w _) (λk hk=>hk.elim));simp only[Zab];rw[Yaj (Yas _)];simp only[Ybq,List.getElem?_cons_zero];exact (ZbT _ _ _).symm
  ·exact h.elim
 ·exact h.elim
end
theorem Zum {t:TypeId} {i:TI} (hi:InfoOk P t i) {h:Zae} {r:List GV} {off:Nat} {k:D->Prop} (hl:ldG i r off k) {ad:Addr} {vs:List Value} (hv:Zbg V w r vs) (hc:∀j v,vs[j]?=some v->w.cell? (ad.add j)=some v) :
  ∃d v,k d/\Zab h β V w d v/\(loadVar t (ad.add off)).run P w=.ok v w:=by
 unfold ldG at hl;cases bw:i.agg with
 | false =>
  rw[bw] at hl;simp only at hl;split at hl
  ·rename_i x hx;obtain ⟨v,cF,cu⟩:=hv.get hx;exact ⟨_,v,hl,by simp only[Zab];exact cu,ZdO hi bw (hc off v cF)⟩
  ·exact hl.elim
 | true =>
  rw[bw] at hl;simp only at hl;cases hb:Nat.ble (off+i.size) r.length with
  | false=>rw[hb] at hl;exact hl.elim
  | true =>
   rw[hb] at hl;have hle:=Yau hb;refine ⟨_,.agg ⟨List.take i.size (vs.drop off)⟩,hl,?_,ZdP hi bw (vs:=List.take i.size (vs.drop off)) (by rw[Yam,YaM,<- hv.len];omega) (λj v hj=>?_)⟩
   ·simp only[Zab];exact ⟨_,rfl,(Zic _ _).2 ((hv.drop off).take i.size)⟩
   ·rw[ZgP];have aD:j < i.size:=by have:=(Yac.1 hj).1;simp at this;omega
    rw[Yaw aD,YaT] at hj;exact hc _ v hj
theorem Zw6 {C:Ctx} {h:Zae} (hr:RelD C h β V w) {j k:Nat} {xs:List (List GV)} {e sz:Nat} (hj:h[j]?=some (.row xs e sz)) {r:List GV} (hk:xs[k]?=some r) {g n c:Nat} (hb:β j=.slice (some ⟨g,0,none⟩) n c) :
  ∃vs,Zbg V w r vs/\r.length=sz/\∀i v,vs[i]?=some v->w.cell? ((⟨g,k*sz,none⟩:Addr).add i)=some v:=by
 obtain ⟨vs,ak,hv,hx,h0⟩:=hr.obj j _ hj;have fa:r.length=sz:=hx r (YaL hk);have bu:=ak.cells (g:=g) (by rw[hb];rfl);refine ⟨(vs.drop (k*sz)).take sz,?_,fa,λi v hi=>?_⟩
 ·have hd:((xs.flatten).drop (k*sz)).take sz=r:=by
   have key:∀(xs:List (List GV)) (k:Nat),(∀r∈xs,r.length=sz)->xs[k]?=some r->((xs.flatten).drop (k*sz)).take sz=r:=by
    intro xs
    induction xs with
    | nil=>intro k _ hk;simp at hk
    | cons x xs ih =>
     intro k hx hk;have fj:=hx x Yae;cases k with
     | zero =>simp at hk;subst hk;rw[List.flatten_cons,Ych,List.drop_zero,Ybp (by omega),Yay (by omega)]
     | succ k =>rw[List.flatten_cons,Ycj,YbM (by rw[fj,YaW];omega),fj,YaW,Ya6,List.nil_append];exact ih k (λr hr=>hx r (Yad _ hr)) (by simpa using hk)
   exact key xs k hx hk
  have:=(hv.drop (k*sz)).take sz;rwa [hd] at this
 ·have az:i < sz:=by have:=(Yac.1 hi).1;simp at this;omega
  rw[Yaw az,YaT] at hi;have:=bu (k*sz+i) v hi;rw[Zb8] at this ⊢;rwa [YaA] at this
end
section
variable {P:Program} {T:Tab} {F:FuncId->Bool} {C:Ctx} {st:St} {a:Act} {w:World} {β:Nat->Value} {V:Nat->Prop} {K:KD} {Qp:KD} {next:Value->World->Prop} {qp:List PanicEntry->World->Prop}
theorem Zp8 {h:Zae} (n:Int):Zab h β V w (.g (.int n)) (.int .i64 n):=by simp only[Zab,ZaS]
theorem ZB3 {h:Zae} (n:Int):Zab h β V w (.g (.u8 n)) (.int .u8 n):=by simp only[Zab,ZaS]
theorem ZCE {h:Zae} (n:List UInt8):Zab h β V w (.g (.str n)) (.string ⟨⟨n⟩⟩):=by simp only[Zab,ZaS]
theorem ZCF {h:Zae} (b:Bool):Zab h β V w (.g (.bool b)) (.bool b):=by simp only[Zab,ZaS]
theorem ZB4 {h:Zae} (p:Prop) [Decidable p]:Zab h β V w (.pb p) (.bool (decide p)):=by simp only[Zab];exact ⟨_,rfl,decide_eq_true_iff⟩
theorem ZB5 {h:Zae} (p:Prop) [Decidable p]:Zab h β V w (.pn p) (.bool (!decide p)):=by simp only[Zab];exact ⟨_,rfl,by simp⟩
theorem Zxg {op:BinOp} {x y:D} {k:D->Prop} {h:Zae} {vx vy:Value} (hv:ZoJ op x y k) (hx:Zab h β V w x vx) (hy:Zab h β V w y vy) (t:TypeId) (ox oy:Operand) :
  ∃d v,k d/\Zab h β V w d v/\∀w:World,(do eqGuard op t ox oy vx vy;binOp op t vx vy).run P w=.ok v w:=by
 unfold ZoJ at hv;split at hv<;>first | exact hv.elim | skip
 all_goals (simp only[Zab,ZaS] at hx hy;subst hx;subst hy)
 all_goals first
  | (obtain ⟨c,hc,hk⟩:=hv;refine ⟨_,_,hk,Zp8 _,λw=>?_⟩;simp[eqGuard,binOp,Op.intArith,hc];done)
  | (obtain ⟨hc,hk⟩:=hv;refine ⟨_,_,hk,Zp8 _,λw=>?_⟩;have hw:=I64.wrap hc;simp[eqGuard,binOp,Op.intArith,hw];done)
  | (obtain ⟨c,hc,hk⟩:=hv;refine ⟨_,_,hk,Zp8 _,λw=>?_⟩;simp only[eqGuard,binOp,Sem.run_bind];simp;done)
  | (obtain ⟨h0,hc,hk⟩:=hv;refine ⟨_,_,hk,Zp8 _,λw=>?_⟩;have hw:=I64.wrap hc;simp[eqGuard,binOp,Op.intDiv,h0,hw];done)
  | (obtain ⟨h0,hc,hk⟩:=hv;refine ⟨_,_,hk,Zp8 _,λw=>?_⟩;have hw:=I64.wrap hc;simp[eqGuard,binOp,Op.shift,IntKind.bits];rw[if_neg (by omega)];simp[hw];done)
  | (obtain ⟨h0,hk⟩:=hv;refine ⟨_,_,hk,Zp8 _,λw=>?_⟩;simp[eqGuard,binOp,Op.intDiv,h0];done)
  | (obtain ⟨h0,hk⟩:=hv;refine ⟨_,_,hk,Zp8 _,λw=>?_⟩;have h1:=Int.not_lt.2 h0;simp[eqGuard,binOp,Op.shift,IntKind.bits,h1];done)
  | (obtain ⟨h0,hk⟩:=hv;refine ⟨_,_,hk,ZCE _,λw=>?_⟩;have h1:=YbB.2 h0;simp[eqGuard,binOp,run_string_add_if,Zyw];exact h0)
  | (refine ⟨_,_,hv,ZB3 _,λw=>?_⟩;simp[eqGuard,binOp,Op.intArith];done)
  | (refine ⟨_,.bool (decide _),hv,ZB4 _,λw=>?_⟩;simp[eqGuard,binOp,Op.intCmp];done)
  | (refine ⟨_,.bool (decide _),hv,ZB4 _,λw=>?_⟩;simp[eqGuard,binOp,Op.intCmp];rfl)
  | (refine ⟨_,.bool (!decide _),hv,ZB5 _,λw=>?_⟩;simp[eqGuard,binOp,Op.intCmp];done)
  | (refine ⟨_,.bool (!decide _),hv,ZB5 _,λw=>?_⟩;simp[eqGuard,binOp,Op.intCmp];rfl)
  | (refine ⟨_,.bool (decide _),hv,ZB4 _,λw=>?_⟩;simp only[eqGuard,binOp,Op.stringOp,str_eq];rfl)
  | (refine ⟨_,.bool (!decide _),hv,ZB5 _,λw=>?_⟩;simp only[eqGuard,binOp,Op.stringOp,str_eq];rfl)
  | skip
theorem ZmE {d:D} {p:Prop} {v:Value} {h:Zae} (ha:asP d=some p) (hd:Zab h β V w d v):∃b,v=.bool b/\(b=true↔p):=by
 unfold asP at ha;split at ha
 ·injection ha with ha;subst ha;simpa only[Zab] using hd
 ·injection ha with ha;subst ha;simpa only[Zab] using hd
 ·injection ha with ha;subst ha;simp only[Zab,ZaS] at hd;exact ⟨_,hd,Ya3⟩
 ·cases ha
theorem ZpH (hT:TabOk P T) {op:BinOp} {x y:D} {k:D->Prop} {h:Zae} {vx vy:Value} (hv:ZeS op x y k) (hx:Zab h β V w x vx) (hy:Zab h β V w y vy) {t:TypeId} {i:TI} (ht:T t=some i) (hk:i.kind=.bool) (ox oy:Operand) :
  ∃d v,k d/\Zab h β V w d v/\∀w:World,(do eqGuard op t ox oy vx vy;binOp op t vx vy).run P w=.ok v w:=by
 obtain ⟨d,hd,aA,_⟩:=(hT t i ht).d;rw[hk] at aA;have aA:d=.bool:=aA;subst aA;unfold ZeS at hv;split at hv
 ·rename_i p q hp hq;obtain ⟨b,rfl,hb⟩:=ZmE hp hx;obtain ⟨c,rfl,hc⟩:=ZmE hq hy;refine ⟨_,.bool (b == c),hv,by simp only[Zab];refine ⟨_,rfl,?_⟩;rw[<- hb,<- hc];cases b<;>cases c<;>simp,λw=>?_⟩;simp[eqGuard,run_eql_bool w t _ _ hd]
 ·rename_i p q hp hq;obtain ⟨b,rfl,hb⟩:=ZmE hp hx;obtain ⟨c,rfl,hc⟩:=ZmE hq hy;refine ⟨_,.bool (!(b == c)),hv,by simp only[Zab];refine ⟨_,rfl,?_⟩;rw[<- hb,<- hc];cases b<;>cases c<;>simp,λw=>?_⟩;simp[eqGuard,run_neq_bool w t _ _ hd]
 ·exact hv.elim
theorem ZiG (w:World) (d:Nat) (t e:TypeId) (a:Option Addr) (l c:Nat) (h:P.underlying t=some (.slice e)):(Op.equalIn (d+1) t (.slice a l c) (.slice none 0 0)).run P w=.ok a.isNone w:=by
 cases a<;>simp[Op.equalIn,run_underlying h]
theorem ZcU (w:World) (t e:TypeId) (a:Option Addr) (l c:Nat) (h:P.underlying t=some (.slice e)):(Op.equal t (.slice a l c) (.slice none 0 0)).run P w=.ok a.isNone w:=ZiG w 9999 t e a l c h
theorem Zlh (V:Nat->Prop) (w:World):∀s:List UInt8,Zbg V w (Zfm s).flatten (s.map (λc=>Value.int .u8 (c.toNat:Int)))
 | []=>by simp[Zfm,Zbg]
 | c :: s=>by have:=Zlh V w s;simp only[Zfm,Yan,List.flatten_cons,List.singleton_append,Zbg,ZaS,true_and] at this ⊢;exact this
theorem Zwx (hT:TabOk P T) {op:BinOp} {x y:D} {k:D->Prop} {h:Zae} {vx vy:Value} (hv:Zyf op x y k) (hx:Zab h β V w x vx) (hy:Zab h β V w y vy) {t e:TypeId} {i:TI} (ht:T t=some i) (hk:i.kind=.slice e) (ox oy:Operand) :
  ∃d v,k d/\Zab h β V w d v/\∀w:World,(do eqGuard op t ox oy vx vy;binOp op t vx vy).run P w=.ok v w:=by
 obtain ⟨d,hd,aA,_⟩:=(hT t i ht).d;rw[hk] at aA;have aA:d=.slice e:=aA;subst aA;unfold Zyf at hv;split at hv
 ·rename_i n xs;simp only[Zab,ZaS] at hx hy;obtain ⟨A,cap,rfl,h1,h2,h3⟩:=hx;subst hy;refine ⟨_,.bool A.isNone,hv (A.isNone=true) (λhn=>?_),by simp only[Zab];exact ⟨_,rfl,Ya3⟩,λw=>?_⟩
  ·cases xs with
   | nil=>rfl
   | cons r xs=>obtain ⟨b,hb,_⟩:=h2 (by simp);rw[hb] at hn;cases hn
  ·simp[eqGuard,binOp,ZcU w t e A _ _ hd]
 ·rename_i n xs;simp only[Zab,ZaS] at hx hy;obtain ⟨A,cap,rfl,h1,h2,h3⟩:=hx;subst hy;refine ⟨_,.bool (!A.isNone),hv (A.isNone=true) (λhn=>?_),by simp only[Zab];exact ⟨_,rfl,by cases A<;>simp⟩,λw=>?_⟩
  ·cases xs with
   | nil=>rfl
   | cons r xs=>obtain ⟨b,hb,_⟩:=h2 (by simp);rw[hb] at hn;cases hn
  ·simp[eqGuard,binOp,ZcU w t e A _ _ hd]
 ·simp only[Zab] at hx hy;subst hx;subst hy;exact ⟨_,.bool true,hv,ZCF _,λw=>by simp[eqGuard,binOp,ZcU w t e none _ _ hd]⟩
 ·simp only[Zab] at hx hy;subst hx;subst hy;exact ⟨_,.bool false,hv,ZCF _,λw=>by simp[eqGuard,binOp,ZcU w t e none _ _ hd]⟩
 ·exact hv.elim
theorem Zq3 {h:Zae}:∀{cs ds:List D} {ks:List Nat} {p:Prop} {xs ys:List Value},ZkG cs ds=some (ks,p)->Zaa h β V w cs xs->Zaa h β V w ds ys->Zup ks xs/\Zup ks ys/\(xs=ys↔p):=by
 intro cs
 induction cs with
 | nil =>
  intro ds ks p xs ys he hx hy;cases ds with
  | nil =>simp only[ZkG] at he;injection he with he;injection he with e1 e2;subst e1;subst e2;simp only[Zaa] at hx hy;subst hx;subst hy;exact ⟨trivial,trivial,by simp⟩
  | cons d ds=>simp[ZkG] at he
 | cons c cs ih =>
  intro ds ks p xs ys he hx hy;cases ds with
  | nil=>simp[ZkG] at he
  | cons d ds =>
   simp only[Zaa] at hx hy;obtain ⟨v,vs,rfl,hv,ew⟩:=hx;obtain ⟨u,us,rfl,hu,ft⟩:=hy;cases c with
   | g x =>
    cases d with
    | g y =>
     cases x with
     | int a=>cases y with
      | int b =>
       simp only[ZkG] at he;cases bA:ZkG cs ds with
       | none=>rw[bA] at he;cases he
       | some q =>obtain ⟨sX,p'⟩:=q;rw[bA] at he;injection he with he;injection he with k1 k2;subst k1;subst k2;obtain ⟨h1,h2,h3⟩:=ih bA ew ft;simp only[Zab,ZaS] at hv hu;subst hv;subst hu;exact ⟨⟨trivial,h1⟩,⟨trivial,h2⟩,by simp[h3]⟩
      | _=>simp[ZkG] at he
     | str a=>cases y with
      | str b =>
       simp only[ZkG] at he;cases bA:ZkG cs ds with
       | none=>rw[bA] at he;cases he
       | some q =>obtain ⟨sX,p'⟩:=q;rw[bA] at he;injection he with he;injection he with k1 k2;subst k1;subst k2;obtain ⟨h1,h2,h3⟩:=ih bA ew ft;simp only[Zab,ZaS] at hv hu;subst hv;subst hu;exact ⟨⟨trivial,h1⟩,⟨trivial,h2⟩,by simp[h3]⟩
      | _=>simp[ZkG] at he
     | bool a=>cases y with
      | bool b =>
       simp only[ZkG] at he;cases bA:ZkG cs ds with
       | none=>rw[bA] at he;cases he
       | some q =>obtain ⟨sX,p'⟩:=q;rw[bA] at he;injection he with he;injection he with k1 k2;subst k1;subst k2;obtain ⟨h1,h2,h3⟩:=ih bA ew ft;simp only[Zab,ZaS] at hv hu;subst hv;subst hu;exact ⟨⟨trivial,h1⟩,⟨trivial,h2⟩,by simp[h3]⟩
      | _=>simp[ZkG] at he
     | _=>cases y<;>simp[ZkG] at he
    | _=>simp[ZkG] at he
   | _=>cases d<;>simp[ZkG] at he
theorem Zto {t:TypeId} {op:BinOp} {x y:D} {k:D->Prop} {h:Zae} {vx vy:Value} (hv:Zjf P t op x y k) (hx:Zab h β V w x vx) (hy:Zab h β V w y vy) (ox oy:Operand) :
  ∃d v,k d/\Zab h β V w d v/\∀w:World,(do eqGuard op t ox oy vx vy;binOp op t vx vy).run P w=.ok v w:=by
 unfold Zjf at hv;split at hv
 ·split at hv
  ·rename_i ks p he;simp only[Zab] at hx hy;obtain ⟨us,rfl,h1⟩:=hx;obtain ⟨vs,rfl,h2⟩:=hy;obtain ⟨k1,k2,k3⟩:=Zq3 he h1 h2;obtain ⟨b,hb,e1,_⟩:=hv.1 us vs .eql ox oy w k1 k2 (.inl rfl);refine ⟨_,.bool b,hv.2,by simp only[Zab];exact ⟨b,rfl,(e1 rfl).trans k3⟩,λw'=>?_⟩;obtain ⟨b',au,pw,_⟩:=hv.1 us vs .eql ox oy w' k1 k2 (.inl rfl);have:b'=b:=by have:=(pw rfl).trans (e1 rfl).symm;cases b<;>cases b'<;>simp_all
   rw[au,this]
  ·exact hv.elim
 ·split at hv
  ·rename_i ks p he;simp only[Zab] at hx hy;obtain ⟨us,rfl,h1⟩:=hx;obtain ⟨vs,rfl,h2⟩:=hy;obtain ⟨k1,k2,k3⟩:=Zq3 he h1 h2;obtain ⟨b,hb,_,e1⟩:=hv.1 us vs .neq ox oy w k1 k2 (.inr rfl);refine ⟨_,.bool b,hv.2,by simp only[Zab];exact ⟨b,rfl,(e1 rfl).trans (not_congr k3)⟩,λw'=>?_⟩;obtain ⟨b',au,_,pw⟩:=hv.1 us vs .neq ox oy w' k1 k2 (.inr rfl);have:b'=b:=by have:=(pw rfl).trans (e1 rfl).symm;cases b<;>cases b'<;>simp_all
   rw[au,this]
  ·exact hv.elim
 ·exact hv.elim
section
variable (hr:RelD C st.h β V w) (he:ZbS st β V w a) (hN:Nx C st.h β V w K next)
include hr he hN
theorem ZB1 (hT:TabOk P T) {op:BinOp} {t t':TypeId} {x y:Operand} {o:Oper} (ho:o.op=.binOp op t x y t') (h:ZaN P T F C.G (.binOp op t x y t') st K Qp):Zbu P next qp ((execOp a.eval o).run P w):=by
 have fin:(∃d v,K d st.h/\Zab st.h β V w d v/\∀w:World,(do eqGuard op t x y (a.eval x) (a.eval y);binOp op t (a.eval x) (a.eval y)).run P w=.ok v w)->Zbu P next qp ((execOp a.eval o).run P w):=by rintro ⟨d,v,hk,hd,al⟩;exact Zdf hN hr (x:=do eqGuard op t x y (a.eval x) (a.eval y);binOp op t (a.eval x) (a.eval y)) (by simp[execOp,ho]) (al w) hk hd
 simp only[ZaN] at h;split at h
 ·rename_i ht;exact fin (ZpH hT h (he.eval hr.gl x) (he.eval hr.gl y) ht rfl x y)
 ·rename_i ht;exact fin (Zwx hT h (he.eval hr.gl x) (he.eval hr.gl y) ht rfl x y)
 ·exact fin (Zto h (he.eval hr.gl x) (he.eval hr.gl y) x y)
 ·exact fin (Zxg h (he.eval hr.gl x) (he.eval hr.gl y) t x y)
theorem ZC0 {op:UnOp} {t:TypeId} {x:Operand} {o:Oper} (ho:o.op=.unOp op t x) (h:ZaN P T F C.G (.unOp op t x) st K Qp):Zbu P next qp ((execOp a.eval o).run P w):=by
 have fin:∀(d:D) (v:Value),K d st.h->Zab st.h β V w d v->(Op.unary op (a.eval x)).run P w=.ok v w->Zbu P next qp ((execOp a.eval o).run P w):=λd v hk hd al =>
  Zdf hN hr (x:=Op.unary op (a.eval x)) (by simp[execOp,ho]) al hk hd
 have hx:=he.eval hr.gl x;simp only[ZaN] at h;unfold ZAd at h;split at h
 ·rename_i e;rw[e] at hx;simp only[Zab] at hx;obtain ⟨b,hb,p7⟩:=hx;refine fin _ (.bool (!b)) h ?_ (by rw[hb];rfl);simp only[Zab];exact ⟨!b,rfl,by rw[<- p7];cases b<;>simp⟩
 ·rename_i e;rw[e] at hx;simp only[Zab] at hx;obtain ⟨b,hb,p7⟩:=hx;refine fin _ (.bool (!b)) h ?_ (by rw[hb];rfl);simp only[Zab];refine ⟨!b,rfl,?_⟩;constructor
  ·intro hn;refine Yah.1 (λhp=>?_);rw[p7.2 hp] at hn;cases hn
  ·intro hp;cases b with
   | true=>exact absurd hp (p7.1 rfl)
   | false=>rfl
 ·rename_i e;rw[e] at hx;simp only[Zab,ZaS] at hx;exact fin _ (.bool false) h (by simp only[Zab,ZaS]) (by rw[hx];rfl)
 ·rename_i e;rw[e] at hx;simp only[Zab,ZaS] at hx;exact fin _ (.bool true) h (by simp only[Zab,ZaS]) (by rw[hx];rfl)
 ·rename_i e;rw[e] at hx;simp only[Zab,ZaS] at hx;obtain ⟨hc,hk⟩:=h;have hw:=I64.wrap hc;exact fin _ _ hk (Zp8 _) (by rw[hx];simp[Op.unary,Op.intArith] at hw ⊢;exact hw)
 ·exact h.elim
theorem ZtB (hT:TabOk P T) {src dst:TypeId} {x:Operand} {o:Oper} (ho:o.op=.convert src dst x) (h:ZaN P T F C.G (.convert src dst x) st K Qp):Zbu P next qp ((execOp a.eval o).run P w):=by
 have bp:execOp a.eval o=(do pure (.value (<- convert src dst (a.eval x)))):=by simp[execOp,ho]
 have hx:=he.eval hr.gl x;simp only[ZaN] at h;split at h
 ·rename_i hs hd e;rw[e] at hx;simp only[Zab,ZaS] at hx;obtain ⟨hc,hk⟩:=h;obtain ⟨d1,jy,_⟩:=(hT src _ hs).d;obtain ⟨d,fe,aA,_⟩:=(hT dst _ hd).d;have aA:d=.int .i64:=aA;subst aA;refine Zdf hN hr bp ?_ hk (Zp8 _);rw[hx];have hw:=I64.wrap hc;simp[convert,run_underlying jy,run_underlying fe,Conv.intToInt,hw]
 ·rename_i hs hd e;rw[e] at hx;simp only[Zab,ZaS] at hx;obtain ⟨hc,hk⟩:=h;obtain ⟨d1,jy,_⟩:=(hT src _ hs).d;obtain ⟨d,fe,aA,_⟩:=(hT dst _ hd).d;have aA:d=.int .i64:=aA;subst aA;refine Zdf hN hr bp ?_ hk (Zp8 _);rw[hx];have hw:=I64.wrap hc;simp[convert,run_underlying jy,run_underlying fe,Conv.intToInt,hw]
 ·rename_i hs hd e;rw[e] at hx;simp only[Zab,ZaS] at hx;obtain ⟨d1,jy,_⟩:=(hT src _ hs).d;obtain ⟨d,fe,aA,_⟩:=(hT dst _ hd).d;have aA:d=.int .u8:=aA;subst aA;refine Zdf hN hr bp ?_ h (ZB3 _);rw[hx];simp[convert,run_underlying jy,run_underlying fe,Conv.intToInt]
 ·rename_i e s hs hd ex;split at h
  ·rename_i aO;rw[ex] at hx;simp only[Zab,ZaS] at hx;obtain ⟨d1,jy,bJ,_⟩:=(hT src _ hs).d;have bJ:d1=.string:=bJ;subst bJ;obtain ⟨d2,fe,bS,_⟩:=(hT dst _ hd).d;have bS:d2=.slice e:=bS;subst bS;obtain ⟨d3,jh,j8,_⟩:=(hT e _ aO).d;have j8:d3=.int .u8:=j8;subst j8;have al:=run_bytes_of_string (P:=P) w src dst e ⟨⟨s⟩⟩ jy fe jh;have cY:=Go.Eng.run_v (o:=o) (ρ:=a.eval) bp (by rw[hx];exact al);rw[cY];generalize ki:grownCap w (ByteArray.size ⟨⟨s⟩⟩) 0 e=cap;have ig:s.length<=cap:=by rw[<- ki];exact grownCap_ge w _ 0 e
   have eU:∀j v,(s.map (λc=>Value.int .u8 (c.toNat:Int)))[j]?=some v->(w.drew.alloc (.cells (bytesRow ⟨⟨s⟩⟩ cap) e ((bytesRow ⟨⟨s⟩⟩ cap).size,(bytesRow ⟨⟨s⟩⟩ cap).size+1))).cell? ((⟨w.heap.size,0,none⟩:Addr).add (0*1+j))=some v:=by
    intro j v hj;have aD:j < s.length:=by have:=(Yac.1 hj).1;simpa using this
    have h1:(w.drew.alloc (.cells (bytesRow ⟨⟨s⟩⟩ cap) e ((bytesRow ⟨⟨s⟩⟩ cap).size,(bytesRow ⟨⟨s⟩⟩ cap).size+1))).cell? ((⟨w.heap.size,0,none⟩:Addr).add (0*1+j))=(bytesRow ⟨⟨s⟩⟩ cap)[j]?:=by
     have:=World.cell?_alloc_mark w.drew (bytesRow ⟨⟨s⟩⟩ cap) e ((bytesRow ⟨⟨s⟩⟩ cap).size,(bytesRow ⟨⟨s⟩⟩ cap).size+1) j;have e0:(⟨w.heap.size,0,none⟩:Addr).add (0*1+j)=⟨w.heap.size,j,none⟩:=by simp only[Addr.add];split<;>simp_all
     rw[e0];exact this
    rw[h1,bytesRow_at ⟨⟨s⟩⟩ cap j (by simpa using aD)];simp[List.getElem?_eq_getElem aD] at hj;rw[<- hj];simp
   have fc:Fr (λ_=>False) w (w.drew.alloc (.cells (bytesRow ⟨⟨s⟩⟩ cap) e ((bytesRow ⟨⟨s⟩⟩ cap).size,(bytesRow ⟨⟨s⟩⟩ cap).size+1))):=⟨rfl,rfl,rfl,by show w.heap.size<=(w.heap.push _).size;simp,λk hk _=>by show (w.heap.push _)[k]?=_;exact Array.getElem?_push_lt hk |>.trans (YaD hk).symm⟩;have ri:ZaI V w (λk=>V k\/k=w.heap.size) (w.drew.alloc (.cells (bytesRow ⟨⟨s⟩⟩ cap) e ((bytesRow ⟨⟨s⟩⟩ cap).size,(bytesRow ⟨⟨s⟩⟩ cap).size+1))):=λk hk=>⟨.inl hk,fc.block k (hr.vlt k hk) (λh=>h)⟩;refine hN _ _ _ _ β (λk=>V k\/k=w.heap.size) h ?_ ?_ (LeH.refl _ _) ri
   ·refine ⟨λi o hi=>?_,hr.sep,hr.mine,λi o k hi fb hb hV=>?_,λk hk=>?_,λk hk=>.inl (hr.vin k hk),λk hk=>?_,?_,hr.gl.move ri⟩
    ·cases fb:o.live with
     | false=>cases o<;>simp_all [Obj.live,Zco]
     | true=>exact (hr.obj i o hi).keep (LeH.refl _ β) ri rfl (λk hk=>fc.block k (hr.lt hi fb hk) (λh=>h))
    ·rcases hV with hV | hV
     ·exact hr.vout i o k hi fb hb hV
     ·have:=hr.lt hi fb hb;omega
    ·rcases hk with hk | hk
     ·exact YaX (hr.vlt k hk) fc.size
     ·subst hk;show _ < (w.heap.push _).size;simp
    ·rcases hk with hk | hk
     ·exact hr.vnew k hk
     ·subst hk;exact .inr (.inl hr.fr.size)
    ·refine ⟨fc.os.trans hr.fr.os,fc.tape.trans hr.fr.tape,fc.output.trans hr.fr.output,YaC hr.fr.size fc.size,λk hk hn=>?_⟩;rw[fc.block k (YaX hk hr.fr.size) (λh=>h)];exact hr.fr.block k hk hn
   ·simp only[Zab,ZaS];refine ⟨some ⟨w.heap.size,0,none⟩,cap,?_,by simpa [Zfm] using ig,λ_=>⟨_,rfl,.inr rfl,?_⟩,λh=>by cases h⟩
    ·simp only[Zfm,Yaa];rfl
    ·refine ZaB.of_flat _ (s.map (λc=>Value.int .u8 (c.toNat:Int))) 0 (λr hr=>?_) ?_ eU
     ·obtain ⟨c,_,rfl⟩:=YaU.1 hr;rfl
     ·exact Zlh _ _ s
  ·exact h.elim
 ·exact h.elim
theorem Zo1 (hT:TabOk P T) {t:TypeId} {x:Operand} {f:Nat} {o:Oper} (ho:o.op=.fieldAddr t x f) (h:ZaN P T F C.G (.fieldAddr t x f) st K Qp):Zbu P next qp ((execOp a.eval o).run P w):=by
 have bp:execOp a.eval o=(do pure (.value (<- Instr.fieldAt t (a.eval x) f))):=by simp[execOp,ho]
 have hx:=he.eval hr.gl x;simp only[ZaN] at h;split at h
 ·rename_i hs;split at h
  ·rename_i off sz hf;split at h
   ·rename_i i o' e;rw[e] at hx;split at h
    ·rename_i cs ty hi;simp only[Zab,hi] at hx;obtain ⟨g,hb,hv⟩:=hx;refine Zdf hN hr bp (v:=.pointer (some ⟨g,o'+off,none⟩)) ?_ h (by simp only[Zab,hi];exact ⟨g,hb,rfl⟩);rw[hv,Zc9 hT hs rfl hf,Zb8]
    ·exact h.elim
   ·rename_i i j o' e;rw[e] at hx;split at h
    ·rename_i xs ty aW hi;simp only[Zab,hi] at hx;obtain ⟨hj,g,n,c,hb,hv⟩:=hx;refine Zdf hN hr bp (v:=.pointer (some ⟨g,j*aW+o'+off,none⟩)) ?_ h (by simp only[Zab,hi];exact ⟨hj,g,n,c,hb,by rw[Ycb]⟩);rw[hv,Zc9 hT hs rfl hf,Zb8]
    ·exact h.elim
   ·rename_i r o' e;rw[e] at hx;simp only[Zab] at hx;obtain ⟨ad,hv,hV,aF⟩:=hx;refine Zdf hN hr bp (v:=.pointer (some ((ad.add o').add off))) ?_ h (by simp only[Zab];exact ⟨ad,by rw[ZgP],hV,aF⟩);rw[hv,Zc9 hT hs rfl hf]
   ·exact h.elim
  ·exact h.elim
 ·exact h.elim
omit hN in
theorem ZkC {x:Operand} {n:Int} (e:sv C.G st x=.g (.int n)):a.eval x=.int .i64 n:=by have hx:=he.eval hr.gl x;rw[e] at hx;simpa only[Zab,ZaS] using hx
theorem Zo0 (hT:TabOk P T) {t:TypeId} {x ix:Operand} {o:Oper} (ho:o.op=.indexAddr t x ix) (h:ZaN P T F C.G (.indexAddr t x ix) st K Qp):Zbu P next qp ((execOp a.eval o).run P w):=by
 have bp:execOp a.eval o=(do pure (.value (<- Instr.indexAt t (a.eval x) (a.eval ix)))):=by simp[execOp,ho]
 have hx:=he.eval hr.gl x;simp only[ZaN] at h;unfold Zgu at h;split at h
 ·rename_i e hs;split at h
  ·rename_i ei k xs aO ex;cases hb:Nat.beq k ei.size with
   | false=>rw[hb] at h;exact h.elim
   | true =>rw[hb] at h;have eJ:=Yaq hb;subst eJ;obtain ⟨j,r,hj,nI,hk⟩:=h;rw[ex] at hx;simp only[Zab,ZaS] at hx;obtain ⟨A,cap,hv,hc,ha⟩:=hx;have hl:j < xs.length:=(Yac.1 nI).1;obtain ⟨ad,rfl,hV,av⟩:=ha.1 (by omega);obtain ⟨hlen,aF⟩:=ZaB.get xs 0 j r av nI;rw[YaA] at aF;refine Zdf hN hr bp (v:=.pointer (some (ad.add (j*ei.size)))) ?_ hk (by simp only[Zab];exact ⟨ad.add (j*ei.size),by rw[ZgP,Nat.add_zero],by rw[ZfS];exact hV,(Zav.shift r 0 (j*ei.size)).1 (by rwa [YaA])⟩);rw[hv,ZkC hr he hj];exact Zdi hT hs rfl aO ad xs.length cap j hl w
  ·rename_i ei u aO ex;obtain ⟨m,q,l,ts,xs,ty,j,hm,hq,hi,hj,hl,hk⟩:=h;rw[ex] at hx;simp only[Zab,ZaS] at hx;obtain ⟨o',aP,hβ⟩:=(hr.obj m _ hm).2.2 _ hq;rw[hi] at aP;injection aP with aP;subst aP;obtain ⟨vs,ak,_⟩:=hr.obj q _ hi;rcases ak.2 with ⟨_,h0⟩ | ⟨g,cap,cur,cH,_⟩
   ·omega
   ·refine Zdf hN hr bp (v:=.pointer (some ⟨g,0+j*ei.size,none⟩)) ?_ hk (by simp only[Zab,hi];exact ⟨hl,g,_,_,cH,by rw[YaA,Nat.add_zero]⟩);have hu:β q=u:=hβ rfl;rw[hx.1,<- hu,cH,ZkC hr he hj,Zdi hT hs rfl aO _ xs.length cap j hl w,Zb8]
  ·rename_i ei i aO ex;split at h
   ·rename_i xs ty sz hi;cases hb:Nat.beq sz ei.size with
    | false=>rw[hb] at h;exact h.elim
    | true =>
     rw[hb] at h;have eJ:=Yaq hb;subst eJ;obtain ⟨j,hj,hl,hk⟩:=h;rw[ex] at hx;simp only[Zab,hi] at hx;obtain ⟨vs,ak,_⟩:=hr.obj i _ hi;rcases ak.2 with ⟨_,h0⟩ | ⟨g,cap,cur,cH,_⟩
     ·omega
     ·refine Zdf hN hr bp (v:=.pointer (some ⟨g,0+j*ei.size,none⟩)) ?_ hk (by simp only[Zab,hi];exact ⟨hl,g,_,_,cH,by rw[YaA,Nat.add_zero]⟩);rw[hx,cH,ZkC hr he hj,Zdi hT hs rfl aO _ xs.length cap j hl w,Zb8]
   ·exact h.elim
  ·rename_i ei i lo n aO ex;split at h
   ·rename_i xs ty sz hi;cases hb:Nat.beq sz ei.size with
    | false=>rw[hb] at h;exact h.elim
    | true =>
     rw[hb] at h;have eJ:=Yaq hb;subst eJ;obtain ⟨j,hj,hl,hk⟩:=h;rw[ex] at hx;simp only[Zab,hi] at hx;obtain ⟨mP,A,m,cap,eW,hv⟩:=hx;obtain ⟨vs,ak,_⟩:=hr.obj i _ hi;rcases ak.2 with ⟨_,h0⟩ | ⟨g,bV,cur,cH,_,_,dH,_⟩
     ·omega
     ·rw[cH] at eW;injection eW with e1 e2 e3;subst e1;subst e3;have aC:bV≠lo:=by omega
      rw[if_neg aC] at hv;simp only[Option.map_some,Zb8,YaA] at hv;refine Zdf hN hr bp (v:=.pointer (some ⟨g,lo*ei.size+j*ei.size,none⟩)) ?_ hk (by simp only[Zab,hi];exact ⟨by omega,g,_,_,cH,by rw[Nat.add_zero,Ybj]⟩);rw[hv,ZkC hr he hj,Zdi hT hs rfl aO _ n _ j hl w,Zb8]
   ·exact h.elim
  ·exact h.elim
 ·rename_i n e hs;split at h
  ·rename_i ei i o' aO ex;rw[ex] at hx;split at h
   ·rename_i cs ty hi;obtain ⟨j,hj,hl,hk⟩:=h;simp only[Zab,hi] at hx;obtain ⟨g,hb,hv⟩:=hx;refine Zdf hN hr bp (v:=.pointer (some ⟨g,o'+j*ei.size,none⟩)) ?_ hk (by simp only[Zab,hi];exact ⟨g,hb,rfl⟩);rw[hv,ZkC hr he hj,ZdQ hT hs rfl aO _ j hl w,Zb8]
   ·exact h.elim
  ·rename_i ei r o' aO ex;obtain ⟨j,hj,hl,hk⟩:=h;rw[ex] at hx;simp only[Zab] at hx;obtain ⟨ad,hv,hV,aF⟩:=hx;refine Zdf hN hr bp (v:=.pointer (some ((ad.add o').add (j*ei.size)))) ?_ hk (by simp only[Zab];exact ⟨ad,by rw[ZgP],hV,aF⟩);rw[hv,ZkC hr he hj];exact ZdQ hT hs rfl aO _ j hl w
  ·rename_i ei i k' o' aO ex;rw[ex] at hx;split at h
   ·rename_i xs ty aW hi;obtain ⟨j,hj,hl,hk⟩:=h;simp only[Zab,hi] at hx;obtain ⟨aB,g,nn,c,hb,hv⟩:=hx;refine Zdf hN hr bp (v:=.pointer (some ⟨g,k'*aW+o'+j*ei.size,none⟩)) ?_ hk (by simp only[Zab,hi];exact ⟨aB,g,nn,c,hb,by rw[Ycb]⟩);rw[hv,ZkC hr he hj,ZdQ hT hs rfl aO _ j hl w,Zb8]
   ·exact h.elim
  ·exact h.elim
 ·exact h.elim
theorem ZyQ (hT:TabOk P T) {t:TypeId} {x ix:Operand} {o:Oper} (ho:o.op=.index t x ix) (h:ZaN P T F C.G (.index t x ix) st K Qp):Zbu P next qp ((execOp a.eval o).run P w):=by
 have bp:execOp a.eval o=(do pure (.value (<- Instr.index t (a.eval x) (a.eval ix)))):=by simp[execOp,ho]
 have hx:=he.eval hr.gl x;simp only[ZaN] at h;split at h
 ·rename_i s hs ex;obtain ⟨j,c,hi,hj,hk⟩:=h;rw[ex] at hx;simp only[Zab,ZaS] at hx;obtain ⟨d,hd,aA,_⟩:=(hT t _ hs).d;have aA:d=.string:=aA;subst aA;refine Zdf hN hr bp ?_ hk (ZB3 _);rw[hx,ZkC hr he hi];have h1:(0:Int)<=(j:Int):=by omega
  have h2:(⟨⟨s⟩⟩:ByteArray)[j]?=some c:=by obtain ⟨hl,hc⟩:=Yac.1 hj;have ah:j < (⟨⟨s⟩⟩:ByteArray).size:=hl;rw[getElem?_pos (⟨⟨s⟩⟩:ByteArray) j ah];exact congrArg some hc
  simp[Instr.index,run_underlying hd,asIntOf,h2]
 ·exact h.elim
theorem ZyO (hT:TabOk P T) {t:TypeId} {x:Operand} {lo hi:Option Operand} {o:Oper} (ho:o.op=.slice t x lo hi none) (h:ZaN P T F C.G (.slice t x lo hi none) st K Qp):Zbu P next qp ((execOp a.eval o).run P w):=by
 have bp:execOp a.eval o=(do pure (.value (<- Instr.sliceAt t (a.eval x) (lo.map a.eval) (hi.map a.eval) none))):=by simp[execOp,ho]
 have hx:=he.eval hr.gl x;simp only[ZaN] at h;unfold ZoI at h;split at h
 ·rename_i s hs ex;rw[ex] at hx;simp only[Zab,ZaS] at hx;obtain ⟨d,hd,aA,_⟩:=(hT t _ hs).d;have aA:d=.string:=aA;subst aA;have fin:∀(l hh:Nat) (s':List UInt8),(match lo.map a.eval with | none=>l=0 | some p=>p=.int .i64 (l:Int))->(match hi.map a.eval with | none=>hh=s.length | some p=>p=.int .i64 (hh:Int))->l<=hh->hh<=s.length->s'=(s.take hh).drop l->K (.g (.str s')) st.h ->
    Zbu P next qp ((execOp a.eval o).run P w):=by intro l hh s' aT du h1 h2 cz hk;subst cz;refine Zdf hN hr bp ?_ hk (ZCE _);have hb:=ZeC (P:=P) (w:=w) false s.length s.length l hh (lo.map a.eval) (hi.map a.eval) aT du h1 h2;rw[hx];simp only[Instr.sliceAt,Instr.slice,Sem.run_bind,run_underlying hd,Result.andThen_ok];have ah:(⟨⟨s⟩⟩:ByteArray).size=s.length:=rfl;rw[ah];simp[hb,Zn2 ⟨⟨s⟩⟩ l hh h2]
  split at h
  ·rename_i e1 e2;have e1:lo=none:=by simpa using e1
   have e2:hi=none:=by simpa using e2
   subst e1;subst e2;exact fin 0 s.length s rfl rfl (by omega) (by omega) (by simp) h
  ·rename_i p e1 e2;have e1:lo=none:=by simpa using e1
   obtain ⟨q,rfl,rfl⟩:=YaB.1 e2;subst e1;obtain ⟨hh,hp,hl,hk⟩:=h;exact fin 0 hh _ rfl (ZkC hr he hp) (by omega) hl (by simp) hk
  ·rename_i p e1 e2;have e2:hi=none:=by simpa using e2
   obtain ⟨q,rfl,rfl⟩:=YaB.1 e1;subst e2;obtain ⟨l,hp,hl,hk⟩:=h;exact fin l s.length _ (ZkC hr he hp) rfl hl (by omega) (by simp) hk
  ·rename_i p p' e1 e2;obtain ⟨q,rfl,rfl⟩:=YaB.1 e1;obtain ⟨q',rfl,rfl⟩:=YaB.1 e2;obtain ⟨l,hh,hp,jW,h1,h2,hk⟩:=h;exact fin l hh _ (ZkC hr he hp) (ZkC hr he jW) h1 h2 rfl hk
 ·rename_i e k xs hs ex;split at h
  ·exact h.elim
  ·rename_i ei aO;cases hb:Nat.beq k ei.size with
   | false=>rw[hb] at h;exact h.elim
   | true =>
    rw[hb] at h;simp only[cond_true] at h;have eJ:=Yaq hb;subst eJ;rw[ex] at hx;simp only[Zab] at hx;obtain ⟨d,hd,aA,_⟩:=(hT t _ hs).d;have aA:d=.slice e:=aA;subst aA;obtain ⟨inf,z,aJ,ah,_⟩:=(hT e ei aO).inf;have de:=hx;simp only[ZaS] at de;obtain ⟨A,cap,hv,hc,_⟩:=de;rw[hv] at hx;have fin:∀(l hh:Nat) (jL:List (List GV)),(match lo.map a.eval with | none=>l=0 | some p=>p=.int .i64 (l:Int))->(match hi.map a.eval with | none=>hh=xs.length | some p=>p=.int .i64 (hh:Int))->l<=hh->hh<=xs.length->jL=(xs.take hh).drop l->K (.g (.sl ei.size jL)) st.h ->
      Zbu P next qp ((execOp a.eval o).run P w):=by intro l hh jL aT du h1 h2 cz hk;subst cz;refine Zdf hN hr bp (v:=.slice (if cap=l then A else A.map (·.add (l*ei.size))) (hh - l) (cap - l)) ?_ hk (by simp only[Zab];exact hx.piece h1 h2);have hb:=ZeC (P:=P) (w:=w) true xs.length cap l hh (lo.map a.eval) (hi.map a.eval) aT du h1 (by omega);rw[hv];simp only[Instr.sliceAt,Instr.slice,Sem.run_bind,run_underlying hd,Result.andThen_ok];simp[hb,sizeOf,typeInfo,aJ,ah]
    split at h
    ·rename_i e1 e2;have e1:lo=none:=by simpa using e1
     have e2:hi=none:=by simpa using e2
     subst e1;subst e2;exact fin 0 xs.length xs rfl rfl (by omega) (by omega) (by simp) h
    ·rename_i p e1 e2;have e1:lo=none:=by simpa using e1
     obtain ⟨q,rfl,rfl⟩:=YaB.1 e2;subst e1;obtain ⟨hh,hp,hl,hk⟩:=h;exact fin 0 hh _ rfl (ZkC hr he hp) (by omega) hl (by simp) hk
    ·rename_i p e1 e2;have e2:hi=none:=by simpa using e2
     obtain ⟨q,rfl,rfl⟩:=YaB.1 e1;subst e2;obtain ⟨l,hp,hl,hk⟩:=h;exact fin l xs.length _ (ZkC hr he hp) rfl hl (by omega) (by simp) hk
    ·rename_i p p' e1 e2;obtain ⟨q,rfl,rfl⟩:=YaB.1 e1;obtain ⟨q',rfl,rfl⟩:=YaB.1 e2;obtain ⟨l,hh,hp,jW,h1,h2,hk⟩:=h;exact fin l hh _ (ZkC hr he hp) (ZkC hr he jW) h1 h2 rfl hk
 ·rename_i e i hs ex;split at h
  ·rename_i ei xs ty sz aO bc;cases hb:Nat.beq sz ei.size with
   | false=>rw[hb] at h;exact h.elim
   | true =>
    rw[hb] at h;simp only[cond_true] at h;have eJ:=Yaq hb;subst eJ;rw[ex] at hx;simp only[Zab,bc] at hx;obtain ⟨d,hd,aA,_⟩:=(hT t _ hs).d;have aA:d=.slice e:=aA;subst aA;obtain ⟨inf,z,aJ,ah,_⟩:=(hT e ei aO).inf;obtain ⟨vs,ak,_⟩:=hr.obj i _ bc;have lA:∃A cap,β i=.slice A xs.length cap/\xs.length<=cap:=by
     rcases ak.2 with ⟨hn,h0⟩ | ⟨g,cap,cur,cH,_,_,dH,_⟩
     ·exact ⟨none,0,by rw[hn,h0],by omega⟩
     ·exact ⟨_,cap,cH,dH⟩
    obtain ⟨A,cap,eW,dH⟩:=lA;have run:∀(l hh:Nat),(match lo.map a.eval with | none=>l=0 | some p=>p=.int .i64 (l:Int))->(match hi.map a.eval with | none=>hh=xs.length | some p=>p=.int .i64 (hh:Int))->l<=hh->hh<=xs.length ->
      (Instr.sliceAt t (a.eval x) (lo.map a.eval) (hi.map a.eval) none).run P w=.ok (.slice (if cap=l then A else A.map (·.add (l*ei.size))) (hh - l) (cap - l)) w:=by intro l hh aT du h1 h2;have hb:=ZeC (P:=P) (w:=w) true xs.length cap l hh (lo.map a.eval) (hi.map a.eval) aT du h1 (by omega);rw[hx,eW];simp only[Instr.sliceAt,Instr.slice,Sem.run_bind,run_underlying hd,Result.andThen_ok];simp[hb,sizeOf,typeInfo,aJ,ah]
    have fin:∀(l hh m:Nat),(match lo.map a.eval with | none=>l=0 | some p=>p=.int .i64 (l:Int))->(match hi.map a.eval with | none=>hh=xs.length | some p=>p=.int .i64 (hh:Int))->l<=hh->hh<=xs.length->m=hh - l->K (.rs i l m) st.h ->
      Zbu P next qp ((execOp a.eval o).run P w):=by intro l hh m aT du h1 h2 hm hk;subst hm;refine Zdf hN hr bp (run l hh aT du h1 h2) hk ?_;simp only[Zab,bc];exact ⟨by omega,A,xs.length,cap,eW,rfl⟩
    split at h
    ·rename_i e1 e2;have e1:lo=none:=by simpa using e1
     have e2:hi=none:=by simpa using e2
     subst e1;subst e2;refine Zdf hN hr bp (run 0 xs.length rfl rfl (by omega) (by omega)) h ?_;simp only[Zab,bc,eW,Nat.sub_zero,Ych];by_cases iv:cap=0
     ·simp[iv]
     ·cases A<;>simp[iv,Addr.add]
    ·rename_i p e1 e2;have e1:lo=none:=by simpa using e1
     obtain ⟨q,rfl,rfl⟩:=YaB.1 e2;subst e1;obtain ⟨hh,hp,hl,hk⟩:=h;exact fin 0 hh _ rfl (ZkC hr he hp) (by omega) hl (by simp) hk
    ·rename_i p e1 e2;have e2:hi=none:=by simpa using e2
     obtain ⟨q,rfl,rfl⟩:=YaB.1 e1;subst e2;obtain ⟨l,hp,hl,hk⟩:=h;exact fin l xs.length _ (ZkC hr he hp) rfl hl (by omega) rfl hk
    ·rename_i p p' e1 e2;obtain ⟨q,rfl,rfl⟩:=YaB.1 e1;obtain ⟨q',rfl,rfl⟩:=YaB.1 e2;obtain ⟨l,hh,hp,jW,h1,h2,hk⟩:=h;exact fin l hh _ (ZkC hr he hp) (ZkC hr he jW) h1 h2 rfl hk
  ·exact h.elim
 ·rename_i n e i o' hs ex;rw[ex] at hx;split at h
  ·rename_i ti cs ty e1 e2 e3 bc;have e1:lo=none:=by simpa using e1
   have e2:hi=none:=by simpa using e2
   subst e1;subst e2;cases hb:Nat.ble (o'+n*ti.size) cs.length && Nat.blt 0 n with
   | false=>rw[hb] at h;exact h.elim
   | true =>rw[hb] at h;simp only[cond_true] at h;simp only[Yag] at hb;have hn:0 < n:=Yau hb.2;obtain ⟨d,hd,aA,_⟩:=(hT t _ hs).d;have aA:d=.array n e:=aA;subst aA;obtain ⟨inf,z,aJ,ah,_⟩:=(hT e ti e3).inf;simp only[Zab,bc] at hx;obtain ⟨g,au,hv⟩:=hx;refine Zdf hN hr bp (v:=.slice (some ⟨g,o',none⟩) n n) ?_ h (by simp only[Zab,bc];exact ⟨g,n,au,rfl⟩);have hb:=ZeC (P:=P) (w:=w) false n n 0 n none none rfl rfl (by omega) (by omega);rw[hv];simp only[Instr.sliceAt,Sem.run_bind,run_underlying hd,Result.andThen_ok,Option.map_none];simp[hb,sizeOf,typeInfo,aJ,Instr.sureAddr,Nat.pos_iff_ne_zero.1 hn,Addr.add]
  ·exact h.elim
 ·rename_i n e r hs ex;rw[ex] at hx;split at h
  ·rename_i p ei e1 e2 e3;have e2:hi=none:=by simpa using e2
   obtain ⟨q,rfl,hq⟩:=YaB.1 e1;subst e2;obtain ⟨l,hp,bM,vF,hl,hk⟩:=h;obtain ⟨d,hd,aA,_⟩:=(hT t _ hs).d;have aA:d=.array n e:=aA;subst aA;obtain ⟨inf,z,aJ,ah,_⟩:=(hT e ei e3).inf;simp only[Zab] at hx;obtain ⟨a',hv,hV,aF⟩:=hx;have lH:a.eval q=.int .i64 (l:Int):=ZkC hr he (hq.trans hp);refine Zdf hN hr bp (v:=.slice (some (a'.add l)) (n - l) (n - l)) ?_ hk ?_
   ·have hb:=ZeC (P:=P) (w:=w) false n n l n (some (.int .i64 (l:Int))) none rfl rfl (by omega) (by omega);rw[hv];simp only[Instr.sliceAt,Sem.run_bind,run_underlying hd,Result.andThen_ok,Option.map_none,Option.map_some,lH];have h0:a'.add 0=a':=by unfold Addr.add;rw[if_pos rfl]
    simp[hb,sizeOf,typeInfo,aJ,Instr.sureAddr,h0,ah,bM];intro e;omega
   ·have fa:Zav V w (a'.add l) 0 (r.drop l):=(Zav.shift _ 0 l).1 (by
     have:∀(gs:List GV) (i k:Nat),Zav V w a' i gs->Zav V w a' (i+k) (gs.drop k):=by
      intro gs
      induction gs with
      | nil=>intro i k _;simp[Zav]
      | cons g gs ih =>
       intro i k h;cases k with
       | zero=>exact h
       | succ k =>simp only[Zav] at h;have:=ih (i+1) k h.2;rw[show i+(k+1)=i+1+k from by omega];simpa using this
     exact this r 0 l aF)
    have av:∀(gs:List GV) (i:Nat),Zav V w (a'.add l) i gs->ZaB V w 1 (a'.add l) i (gs.map λg=>[g]):=by
     intro gs
     induction gs with
     | nil=>intro i _;simp[ZaB]
     | cons g gs ih =>intro i h;simp only[Zav] at h;simp only[Yan,ZaB,Zav,List.length_cons,List.length_nil,YaA,Nat.mul_one,and_true,true_and];exact ⟨h.1,ih (i+1) h.2⟩
    have hlen:((r.drop l).map λg=>[g]).length=n - l:=by rw[Yaa,YaM,vF]
    simp only[Zab,ZaS];refine ⟨some (a'.add l),n - l,by rw[hlen],by rw[hlen];exact Yas _,λ_=>⟨_,rfl,by rw[show (a'.add l).block=a'.block from by unfold Addr.add;split<;>rfl];exact hV,av _ 0 fa⟩,λh=>by cases h⟩
  ·exact h.elim
 ·exact h.elim
end
end
end Go.Dm
