/-
  The second engine, first part: abstract data and memory, and how they stand in a world. No statement of the seat is proved here. It holds of every program whose table of types is met.
-/
import Derived.Test.YtjkplhnbiejefaaDoorEng
import Derived.Laws.IdiomStrings
namespace Go.Dm
open Go Go.Eng Go.RowKit

inductive GV where
 | int (n:Int)
 | str (l:List UInt8)
 | bool (b:Bool)
 | u8 (n:Int)
 | sl (k:Nat) (xs:List (List GV))
 | raw (v:Value)

mutual
def RepV (V:Nat→Prop) (w:World):GV→Value→Prop
 | .int n,v=>v=.int .i64 n
 | .str l,v=>v=.string ⟨⟨l⟩⟩
 | .bool b,v=>v=.bool b
 | .u8 n,v=>v=.int .u8 n
 | .raw u,v=>v=u∧v.oneCell'=true∧cellsL v=[v]
 | .sl k xs,v=>∃ A cap,v=.slice A xs.length cap∧xs.length≤cap∧(0 < xs.length→∃ a,A=some a∧V a.block∧RepAll V w k a 0 xs)∧(A=none→cap=0)
def RepAll (V:Nat→Prop) (w:World) (k:Nat) (a:Addr):Nat→List (List GV)→Prop
 | _,[]=>True
 | j,r :: rs=>(r.length=k∧RepRow V w a (j*k) r)∧RepAll V w k a (j+1) rs
def RepRow (V:Nat→Prop) (w:World) (a:Addr):Nat→List GV→Prop
 | _,[]=>True
 | i,g :: gs=>(∃ u,w.cell? (a.add i)=some u∧RepV V w g u)∧RepRow V w a (i+1) gs
end

def RepL (V:Nat→Prop) (w:World):List GV→List Value→Prop
 | [],[]=>True
 | g :: gs,v :: vs=>RepV V w g v∧RepL V w gs vs
 | _,_=>False

def Moved (V:Nat→Prop) (w:World) (V':Nat→Prop) (w':World):Prop:=∀ k,V k→V' k∧w'.heap[k]?=w.heap[k]?

theorem Moved.refl (V:Nat→Prop) (w:World):Moved V w V w:=fun _ h=>⟨h,rfl⟩
theorem Moved.trans {V V' V'':Nat→Prop} {w w' w'':World} (h:Moved V w V' w') (k:Moved V' w' V'' w''):Moved V w V'' w'':=fun i hi=>⟨(k i (h i hi).1).1,(k i (h i hi).1).2.trans (h i hi).2⟩

mutual
theorem RepV.move {V V':Nat→Prop} {w w':World} (h:Moved V w V' w'):∀ (g:GV) (v:Value),RepV V w g v→RepV V' w' g v
 | .int _,_,hr=>hr
 | .str _,_,hr=>hr
 | .bool _,_,hr=>hr
 | .u8 _,_,hr=>hr
 | .raw _,_,hr=>hr
 | .sl k xs,v,hr=>by
  simp only[RepV] at hr ⊢
  obtain ⟨A,cap,hv,hc,ha⟩:=hr
  refine ⟨A,cap,hv,hc,fun h0=>?_,ha.2⟩
  obtain ⟨a,hA,hV,hall⟩:=ha.1 h0
  exact ⟨a,hA,(h _ hV).1,RepAll.move h hV xs 0 hall⟩
theorem RepAll.move {V V':Nat→Prop} {w w':World} (h:Moved V w V' w') {k:Nat} {a:Addr} (ha:V a.block):∀ (xs:List (List GV)) (j:Nat),RepAll V w k a j xs→RepAll V' w' k a j xs
 | [],_,_=>by simp[RepAll]
 | r :: rs,j,hr=>by
  simp only[RepAll] at hr ⊢
  exact ⟨⟨hr.1.1,RepRow.move h ha r _ hr.1.2⟩,RepAll.move h ha rs _ hr.2⟩
theorem RepRow.move {V V':Nat→Prop} {w w':World} (h:Moved V w V' w') {a:Addr} (ha:V a.block):∀ (gs:List GV) (i:Nat),RepRow V w a i gs→RepRow V' w' a i gs
 | [],_,_=>by simp[RepRow]
 | g :: gs,i,hr=>by
  simp only[RepRow] at hr ⊢
  obtain ⟨⟨u,hu,hg⟩,hr⟩:=hr
  refine ⟨⟨u,?_,RepV.move h g u hg⟩,RepRow.move h ha gs _ hr⟩
  rw[World.cell?_of_block (w:=w) (w':=w') (a:=a.add i) (by rw[add_block];exact (h _ ha).2)]
  exact hu
end
theorem RepL.move {V V':Nat→Prop} {w w':World} (h:Moved V w V' w'):∀ (gs:List GV) (vs:List Value),RepL V w gs vs→RepL V' w' gs vs
 | [],[],_=>trivial
 | [],_ :: _,hr=>hr.elim
 | _ :: _,[],hr=>hr.elim
 | g :: gs,v :: vs,hr=>⟨RepV.move h g v hr.1,RepL.move h gs vs hr.2⟩

theorem add_add (a:Addr) (i j:Nat):(a.add i).add j=a.add (i+j):=by
 unfold Addr.add
 by_cases hi:i=0<;>by_cases hj:j=0<;>simp[hi,hj,Nat.add_assoc]

theorem RepL.len {V:Nat→Prop} {w:World}:∀ {gs:List GV} {vs:List Value},RepL V w gs vs→gs.length=vs.length
 | [],[],_=>rfl
 | [],_ :: _,h=>h.elim
 | _ :: _,[],h=>h.elim
 | _ :: _,_ :: _,h=>by simp[RepL.len h.2]
theorem RepL.get {V:Nat→Prop} {w:World}:∀ {gs:List GV} {vs:List Value},RepL V w gs vs→∀ {i:Nat} {g:GV},gs[i]?=some g→∃ v,vs[i]?=some v∧RepV V w g v
 | [],[],_,i,g,hi=>by simp at hi
 | [],_ :: _,h,_,_,_=>h.elim
 | _ :: _,[],h,_,_,_=>h.elim
 | _ :: _,v :: _,h,0,g,hi=>by simp at hi;subst hi;exact ⟨v,rfl,h.1⟩
 | _ :: _,_ :: _,h,i+1,g,hi=>by
  obtain ⟨v,h1,h2⟩:=RepL.get h.2 (i:=i) (g:=g) (by simpa using hi)
  exact ⟨v,by simpa using h1,h2⟩
theorem RepL.getv {V:Nat→Prop} {w:World} {gs:List GV} {vs:List Value} (h:RepL V w gs vs) {i:Nat} {v:Value} (hi:vs[i]?=some v):∃ g,gs[i]?=some g∧RepV V w g v:=by
 have hl:i < gs.length:=by rw[h.len];exact (List.getElem?_eq_some_iff.1 hi).1
 obtain ⟨v',h1,h2⟩:=h.get (List.getElem?_eq_getElem hl)
 rw[hi] at h1
 injection h1 with h1
 subst h1
 exact ⟨_,List.getElem?_eq_getElem hl,h2⟩
theorem RepL.append {V:Nat→Prop} {w:World}:∀ {gs hs:List GV} {vs us:List Value},RepL V w gs vs→RepL V w hs us→RepL V w (gs++hs) (vs++us)
 | [],_,[],_,_,k=>k
 | [],_,_ :: _,_,h,_=>h.elim
 | _ :: _,_,[],_,h,_=>h.elim
 | _ :: _,_,_ :: _,_,h,k=>⟨h.1,RepL.append h.2 k⟩
theorem RepL.take {V:Nat→Prop} {w:World}:∀ {gs:List GV} {vs:List Value} (n:Nat),RepL V w gs vs→RepL V w (gs.take n) (vs.take n)
 | [],[],n,_=>by simp[RepL]
 | [],_ :: _,_,h=>h.elim
 | _ :: _,[],_,h=>h.elim
 | _ :: _,_ :: _,0,_=>by simp[RepL]
 | _ :: _,_ :: _,n+1,h=>by simp only[List.take_succ_cons];exact ⟨h.1,RepL.take n h.2⟩
theorem RepL.drop {V:Nat→Prop} {w:World}:∀ {gs:List GV} {vs:List Value} (n:Nat),RepL V w gs vs→RepL V w (gs.drop n) (vs.drop n)
 | [],[],n,_=>by simp[RepL]
 | [],_ :: _,_,h=>h.elim
 | _ :: _,[],_,h=>h.elim
 | _ :: _,_ :: _,0,h=>h
 | _ :: _,_ :: _,n+1,h=>by simp only[List.drop_succ_cons];exact RepL.drop n h.2

theorem RepAll.get {V:Nat→Prop} {w:World} {k:Nat} {a:Addr}:∀ (xs:List (List GV)) (j0 j:Nat) (r:List GV),RepAll V w k a j0 xs→xs[j]?=some r→r.length=k∧RepRow V w a ((j0+j)*k) r
 | [],_,j,r,_,hj=>by simp at hj
 | x :: xs,j0,0,r,h,hj=>by
  simp only[RepAll] at h
  simp at hj
  subst hj
  exact h.1
 | x :: xs,j0,j+1,r,h,hj=>by
  simp only[RepAll] at h
  have:=RepAll.get xs (j0+1) j r h.2 (by simpa using hj)
  rwa [show j0+1+j=j0+(j+1) from by omega] at this

theorem RepRow.cells {V:Nat→Prop} {w:World} {a:Addr}:∀ (gs:List GV) (i:Nat),RepRow V w a i gs→∃ vs,RepL V w gs vs∧vs.length=gs.length∧∀ j v,vs[j]?=some v→w.cell? (a.add (i+j))=some v
 | [],_,_=>⟨[],trivial,rfl,fun j v h=>by simp at h⟩
 | g :: gs,i,h=>by
  simp only[RepRow] at h
  obtain ⟨⟨u,hu,hg⟩,hr⟩:=h
  obtain ⟨vs,h1,h2,h3⟩:=RepRow.cells gs (i+1) hr
  refine ⟨u :: vs,⟨hg,h1⟩,by simp[h2],fun j v hj=>?_⟩
  cases j with
  | zero=>simp at hj;subst hj;exact hu
  | succ j =>
   have:=h3 j v (by simpa using hj)
   rwa [show i+1+j=i+(j+1) from by omega] at this
theorem RepRow.of_cells {V:Nat→Prop} {w:World} {a:Addr}:∀ (gs:List GV) (vs:List Value) (i:Nat),RepL V w gs vs→(∀ j v,vs[j]?=some v→w.cell? (a.add (i+j))=some v)→RepRow V w a i gs
 | [],[],_,_,_=>by simp[RepRow]
 | [],_ :: _,_,h,_=>h.elim
 | _ :: _,[],_,h,_=>h.elim
 | g :: gs,v :: vs,i,h,hc=>by
  simp only[RepRow]
  refine ⟨⟨v,by simpa using hc 0 v rfl,h.1⟩,RepRow.of_cells gs vs (i+1) h.2 (fun j u hj=>?_)⟩
  have:=hc (j+1) u (by simpa using hj)
  rwa [show i+(j+1)=i+1+j from by omega] at this
theorem RepRow.shift {V:Nat→Prop} {w:World} {a:Addr}:∀ (gs:List GV) (i o:Nat),RepRow V w a (i+o) gs↔RepRow V w (a.add o) i gs
 | [],_,_=>by simp[RepRow]
 | g :: gs,i,o=>by
  simp only[RepRow]
  rw[add_add,Nat.add_comm o i,show i+o+1=i+1+o from by omega,RepRow.shift gs (i+1) o]

theorem RepAll.of_flat {V:Nat→Prop} {w:World} {k:Nat} {a:Addr}:∀ (xs:List (List GV)) (vs:List Value) (j:Nat),(∀ r∈xs,r.length=k)→RepL V w xs.flatten vs→(∀ i v,vs[i]?=some v→w.cell? (a.add (j*k+i))=some v)→RepAll V w k a j xs
 | [],_,_,_,_,_=>by simp[RepAll]
 | r :: xs,vs,j,hk,h,hc=>by
  have hr:=hk r List.mem_cons_self
  simp only[List.flatten_cons] at h
  have h1:RepL V w r (vs.take k):=by
   have:=h.take k
   rwa [List.take_append_of_le_length (by omega),List.take_of_length_le (by omega)] at this
  have h2:RepL V w xs.flatten (vs.drop k):=by
   have:=h.drop k
   rwa [List.drop_append_of_le_length (by omega),List.drop_of_length_le (by omega),List.nil_append] at this
  simp only[RepAll]
  refine ⟨⟨hr,RepRow.of_cells r _ _ h1 (fun i v hi=>hc i v ?_)⟩,RepAll.of_flat xs (vs.drop k) (j+1) (fun r hr=>hk r (List.mem_cons_of_mem _ hr)) h2 (fun i v hi=>?_)⟩
  ·have hil:i < k:=by have:=(List.getElem?_eq_some_iff.1 hi).1;simp at this;omega
   rwa [List.getElem?_take_of_lt hil] at hi
  ·rw[List.getElem?_drop] at hi
   have:=hc (k+i) v hi
   rwa [show j*k+(k+i)=(j+1)*k+i from by rw[Nat.succ_mul];omega] at this
theorem RepAll.flat {V:Nat→Prop} {w:World} {k:Nat} {a:Addr}:∀ (xs:List (List GV)) (j:Nat),RepAll V w k a j xs→∃ vs,RepL V w xs.flatten vs∧vs.length=xs.length*k∧(∀ r∈xs,r.length=k)∧∀ i v,vs[i]?=some v→w.cell? (a.add (j*k+i))=some v
 | [],_,_=>⟨[],trivial,by simp,fun r h=>by simp at h,fun i v h=>by simp at h⟩
 | r :: xs,j,h=>by
  simp only[RepAll] at h
  obtain ⟨vs,h1,h2,h3,h4⟩:=RepAll.flat xs (j+1) h.2
  obtain ⟨us,g1,g2,g3⟩:=RepRow.cells r _ h.1.2
  have hr:=h.1.1
  refine ⟨us++vs,by simp only[List.flatten_cons];exact g1.append h1,by simp[h2,g2,hr,Nat.succ_mul];omega,fun r' hr'=>?_,fun i v hi=>?_⟩
  ·rcases List.mem_cons.1 hr' with rfl | hr'
   ·exact hr
   ·exact h3 r' hr'
  ·by_cases hl:i < us.length
   ·rw[List.getElem?_append_left hl] at hi;exact g3 i v hi
   ·rw[List.getElem?_append_right (by omega)] at hi
    have:=h4 (i - us.length) v hi
    rwa [show (j+1)*k+(i - us.length)=j*k+i from by rw[Nat.succ_mul];omega] at this

theorem RepV.sl_of {V:Nat→Prop} {w:World} {k:Nat} {xs:List (List GV)} {a:Addr} {cap:Nat} (hc:xs.length≤cap) (h:0 < xs.length→V a.block∧RepAll V w k a 0 xs):RepV V w (.sl k xs) (.slice (some a) xs.length cap):=by
 simp only[RepV]
 exact ⟨some a,cap,rfl,hc,fun h0=>⟨a,rfl,h h0⟩,fun e=>(by cases e)⟩
theorem RepV.sl_nil {V:Nat→Prop} {w:World} (k:Nat):RepV V w (.sl k []) (.slice none 0 0):=by
 simp only[RepV]
 exact ⟨none,0,rfl,Nat.le_refl _,fun h=>absurd h (by simp),fun _=>rfl⟩
theorem RepAll.drop {V:Nat→Prop} {w:World} {k:Nat} {a:Addr}:∀ (xs:List (List GV)) (j l:Nat),RepAll V w k a j xs→RepAll V w k a (j+l) (xs.drop l)
 | [],_,_,_=>by simp[RepAll]
 | _ :: _,_,0,h=>h
 | r :: xs,j,l+1,h=>by
  simp only[RepAll] at h
  have:=RepAll.drop xs (j+1) l h.2
  rw[show j+1+l=j+(l+1) from by omega] at this
  simpa using this
theorem RepAll.take {V:Nat→Prop} {w:World} {k:Nat} {a:Addr}:∀ (xs:List (List GV)) (j l:Nat),RepAll V w k a j xs→RepAll V w k a j (xs.take l)
 | [],_,_,_=>by simp[RepAll]
 | _ :: _,_,0,_=>by simp[RepAll]
 | r :: xs,j,l+1,h=>by
  simp only[RepAll,List.take_succ_cons] at h ⊢
  exact ⟨h.1,RepAll.take xs (j+1) l h.2⟩
theorem RepAll.shift {V:Nat→Prop} {w:World} {k:Nat} {a:Addr}:∀ (xs:List (List GV)) (j o:Nat),RepAll V w k a (j+o) xs↔RepAll V w k (a.add (o*k)) j xs
 | [],_,_=>by simp[RepAll]
 | r :: xs,j,o=>by
  simp only[RepAll]
  rw[show (j+o)*k=j*k+o*k from by rw[Nat.add_mul],RepRow.shift,show j+o+1=j+1+o from by omega,RepAll.shift xs (j+1) o]
theorem RepV.piece {V:Nat→Prop} {w:World} {k:Nat} {xs:List (List GV)} {A:Option Addr} {n cap:Nat} (h:RepV V w (.sl k xs) (.slice A n cap)) {l hh:Nat} (h1:l≤hh) (h2:hh≤xs.length) :
  RepV V w (.sl k ((xs.take hh).drop l)) (.slice (if cap=l then A else A.map (·.add (l*k))) (hh - l) (cap - l)):=by
 simp only[RepV] at h ⊢
 obtain ⟨A',cap',hv,hc,ha⟩:=h
 injection hv with e1 e2 e3
 subst e1;subst e2;subst e3
 have hlen:((xs.take hh).drop l).length=hh - l:=by simp;omega
 refine ⟨_,cap - l,by rw[hlen],by rw[hlen];omega,fun h0=>?_,fun e=>?_⟩
 rotate_left
 ·by_cases hcl:cap=l
  ·omega
  ·rw[if_neg hcl] at e
   have:=ha.2 (by simpa using e)
   omega
 rw[hlen] at h0
 have hcl:cap≠l:=by omega
 obtain ⟨a,rfl,hV,hall⟩:=ha.1 (by omega)
 refine ⟨a.add (l*k),by rw[if_neg hcl];rfl,by rw[add_block];exact hV,?_⟩
 have:=((hall.take xs 0 hh).drop _ 0 l)
 exact (RepAll.shift _ 0 l).1 this

inductive D where
 | g (x:GV)
 | pb (p:Prop)
 | pn (p:Prop)
 | nils
 | row (i:Nat)
 | rs (i lo n:Nat)
 | ptr (i off:Nat)
 | el (i j off:Nat)
 | fp (r:List GV) (off:Nat)
 | nilP
 | nilF
 | nilI
 | fn (f:FuncId) (fs cs:List D)
 | iface (t:TypeId) (x:D)
 | agg (cs:List D)
 | tuple (vs:List D)
 | any

inductive Ob0 where
 | row (xs:List (List GV)) (e:TypeId) (sz:Nat)
 | blk (cs:List GV) (t:TypeId)
inductive Obj where
 | blk (cs:List D) (t:TypeId)
 | row (xs:List (List GV)) (e:TypeId) (sz:Nat)
 | many (l:List (Value × Ob0)) (ts:List (Value × Nat))
 | dead
abbrev Heap:=List Obj
def Obj.live:Obj→Bool
 | .dead=>false
 | _=>true

def bk:Value→Option Nat
 | .pointer (some a)=>some a.block
 | .slice (some a) _ _=>some a.block
 | _=>none
def Bk:Obj→Value→Nat→Prop
 | .many l _,_,k=>∃ p∈l,bk p.1=some k
 | .blk _ _,v,k=>bk v=some k
 | .row _ _ _,v,k=>bk v=some k
 | .dead,v,k=>bk v=some k

def SubS (u:Value) (lo n sz:Nat) (v:Value):Prop:=∃ A m cap,u=.slice A m cap∧v=.slice (if cap=lo then A else A.map (·.add (lo*sz))) n (cap - lo)

mutual
def RepD (h:Heap) (β:Nat→Value) (V:Nat→Prop) (w:World):D→Value→Prop
 | .g x,v=>RepV V w x v
 | .pb p,v=>∃ b,v=.bool b∧(b=true↔p)
 | .pn p,v=>∃ b,v=.bool b∧(b=true↔¬p)
 | .nils,v=>v=.slice none 0 0
 | .row i,v=>match h[i]? with
  | some (.row _ _ _)=>v=β i
  | some .dead=>True
  | _=>False
 | .rs i lo n,v=>match h[i]? with
  | some (.row xs _ sz)=>lo+n≤xs.length∧SubS (β i) lo n sz v
  | some (.blk _ _)=>∃ g c,β i=.pointer (some ⟨g,0,none⟩)∧v=.slice (some ⟨g,lo,none⟩) n c
  | some .dead=>True
  | _=>False
 | .ptr i off,v=>match h[i]? with
  | some (.blk _ _)=>∃ g,β i=.pointer (some ⟨g,0,none⟩)∧v=.pointer (some ⟨g,off,none⟩)
  | some .dead=>True
  | _=>False
 | .el i j off,v=>match h[i]? with
  | some (.row xs _ sz)=>j < xs.length∧∃ g n c,β i=.slice (some ⟨g,0,none⟩) n c∧v=.pointer (some ⟨g,j*sz+off,none⟩)
  | some .dead=>True
  | _=>False
 | .fp r off,v=>∃ a,v=.pointer (some (a.add off))∧V a.block∧RepRow V w a 0 r
 | .nilP,v=>v=.pointer none
 | .nilF,v=>v=.nilFunc
 | .nilI,v=>v=.nilIface
 | .fn f fs cs,v=>∃ us ts,v=.func (.func f) ⟨us⟩ ⟨ts⟩∧RepDL h β V w fs us∧RepDL h β V w cs ts
 | .iface t x,v=>∃ u,v=.iface t u∧RepD h β V w x u
 | .agg cs,v=>∃ us,v=.agg ⟨us⟩∧RepDL h β V w cs us
 | .tuple vs,v=>∃ us,v=.tuple ⟨us⟩∧RepDL h β V w vs us
 | .any,_=>True
def RepDL (h:Heap) (β:Nat→Value) (V:Nat→Prop) (w:World):List D→List Value→Prop
 | [],vs=>vs=[]
 | d :: ds,vs=>∃ v us,vs=v :: us∧RepD h β V w d v∧RepDL h β V w ds us
end

def Ob0Ok (V:Nat→Prop) (w:World) (v:Value):Ob0→Prop
 | .blk cs t=>∃ g vs,v=.pointer (some ⟨g,0,none⟩)∧w.heap[g]?=some (.cells ⟨vs⟩ t (0,0))∧RepL V w cs vs
 | .row xs e sz=>∃ vs,w.ownsRow 0 e sz v xs.length vs∧RepL V w xs.flatten vs∧(∀ r∈xs,r.length=sz)∧0 < sz
def TagOk (h:Heap) (β:Nat→Value) (t:Value × Nat):Prop:=∃ o,h[t.2]?=some o∧(o.live=true→β t.2=t.1)
def Apart (p q:Value × Ob0):Prop:=∀ k,bk p.1=some k→bk q.1≠some k
def ObjOk (h:Heap) (β:Nat→Value) (V:Nat→Prop) (w:World) (i:Nat):Obj→Prop
 | .blk cs t=>∃ g vs,β i=.pointer (some ⟨g,0,none⟩)∧w.heap[g]?=some (.cells ⟨vs⟩ t (0,0))∧RepDL h β V w cs vs
 | .row xs e sz=>∃ vs,w.ownsRow 0 e sz (β i) xs.length vs∧RepL V w xs.flatten vs∧(∀ r∈xs,r.length=sz)∧0 < sz
 | .many l ts=>(∀ p∈l,Ob0Ok V w p.1 p.2)∧l.Pairwise Apart∧∀ t∈ts,TagOk h β t
 | .dead=>True

abbrev Gl:=List (Nat × List GV)
def whole (w:World) (b:Nat):List GV→Prop
 | .raw _ :: l=>∃ cs t x,w.heap[b]?=some (.cells cs t x)∧cs.size=l.length+1
 | _=>True
theorem whole_move {w w':World} {b:Nat} (h:w'.heap[b]?=w.heap[b]?):∀ {l:List GV},whole w b l→whole w' b l:=by
 intro l hl
 cases l with
 | nil=>trivial
 | cons g l=>cases g<;>first | trivial | (obtain ⟨cs,t,x,h1,h2⟩:=hl;exact ⟨cs,t,x,h.trans h1,h2⟩)
def GlOk (G:Gl) (V:Nat→Prop) (w:World):Prop:=∀ p∈G,V p.1∧RepRow V w ⟨p.1,0,none⟩ 0 p.2∧whole w p.1 p.2
theorem GlOk.move {G:Gl} {V V':Nat→Prop} {w w':World} (h:GlOk G V w) (hm:Moved V w V' w'):GlOk G V' w':=fun p hp=>⟨(hm _ (h p hp).1).1,RepRow.move hm (h p hp).1 _ _ (h p hp).2.1,whole_move (hm _ (h p hp).1).2 (h p hp).2.2⟩

structure Ctx where
 w0:World
 own:Nat→Prop
 V0:Nat→Prop
 G:Gl

structure RelD (C:Ctx) (h:Heap) (β:Nat→Value) (V:Nat→Prop) (w:World):Prop where
 obj:∀ (i:Nat) (o:Obj),h[i]?=some o→ObjOk h β V w i o
 sep:∀ (i j:Nat) (o o':Obj) (k:Nat),h[i]?=some o→o.live=true→h[j]?=some o'→o'.live=true→Bk o (β i) k→Bk o' (β j) k→i=j
 mine:∀ (i:Nat) (o:Obj) (k:Nat),h[i]?=some o→o.live=true→Bk o (β i) k→C.w0.heap.size≤k∨C.own k
 vout:∀ (i:Nat) (o:Obj) (k:Nat),h[i]?=some o→o.live=true→Bk o (β i) k→¬ V k
 vlt:∀ k,V k→k < w.heap.size
 vin:∀ k,C.V0 k→V k
 vnew:∀ k,V k→C.V0 k∨C.w0.heap.size≤k∨C.own k
 fr:Fr C.own C.w0 w
 gl:GlOk C.G V w

def OLe:Obj→Obj→Prop
 | _,.dead=>True
 | .blk _ _,.blk _ _=>True
 | .row xs _ sz,.row ys _ sz'=>xs.length=ys.length∧sz=sz'
 | .many _ _,.many _ _=>True
 | _,_=>False
theorem OLe.refl (o:Obj):OLe o o:=by cases o<;>simp[OLe]
def LeH (h:Heap) (β:Nat→Value) (h':Heap) (β':Nat→Value):Prop:=∀ (i:Nat) (o:Obj),h[i]?=some o→∃ o',h'[i]?=some o'∧OLe o o'∧(o'.live=true→β' i=β i)
theorem LeH.refl (h:Heap) (β:Nat→Value):LeH h β h β:=fun _ o ho=>⟨o,ho,OLe.refl o,fun _=>rfl⟩

section
variable {h h':Heap} {β β':Nat→Value} {V V':Nat→Prop} {w w':World}
mutual
theorem RepD.mono (hl:LeH h β h' β') (hm:Moved V w V' w'):∀ (d:D) (v:Value),RepD h β V w d v→RepD h' β' V' w' d v
 | .g x,v,hr=>by simp only[RepD] at hr ⊢;exact RepV.move hm x v hr
 | .pb p,v,hr=>by simp only[RepD] at hr ⊢;exact hr
 | .pn p,v,hr=>by simp only[RepD] at hr ⊢;exact hr
 | .nils,v,hr=>by simp only[RepD] at hr ⊢;exact hr
 | .row i,v,hr=>by
  simp only[RepD] at hr ⊢
  cases ho:h[i]? with
  | none=>rw[ho] at hr;exact hr.elim
  | some o =>
   obtain ⟨o',ho',hle,hb⟩:=hl i o ho
   rw[ho] at hr
   rw[ho']
   cases o<;>cases o'<;>simp_all [OLe,Obj.live]
 | .rs i lo n,v,hr=>by
  simp only[RepD] at hr ⊢
  cases ho:h[i]? with
  | none=>rw[ho] at hr;exact hr.elim
  | some o =>
   obtain ⟨o',ho',hle,hb⟩:=hl i o ho
   rw[ho] at hr
   rw[ho']
   cases o<;>cases o'<;>simp_all [OLe,Obj.live]
 | .ptr i off,v,hr=>by
  simp only[RepD] at hr ⊢
  cases ho:h[i]? with
  | none=>rw[ho] at hr;exact hr.elim
  | some o =>
   obtain ⟨o',ho',hle,hb⟩:=hl i o ho
   rw[ho] at hr
   rw[ho']
   cases o<;>cases o'<;>simp_all [OLe,Obj.live]
 | .el i j off,v,hr=>by
  simp only[RepD] at hr ⊢
  cases ho:h[i]? with
  | none=>rw[ho] at hr;exact hr.elim
  | some o =>
   obtain ⟨o',ho',hle,hb⟩:=hl i o ho
   rw[ho] at hr
   rw[ho']
   cases o<;>cases o'<;>simp_all [OLe,Obj.live]
 | .fp r off,v,hr=>by
  simp only[RepD] at hr ⊢
  obtain ⟨a,hv,hV,hrow⟩:=hr
  exact ⟨a,hv,(hm _ hV).1,RepRow.move hm hV r 0 hrow⟩
 | .nilP,v,hr=>by simp only[RepD] at hr ⊢;exact hr
 | .nilF,v,hr=>by simp only[RepD] at hr ⊢;exact hr
 | .nilI,v,hr=>by simp only[RepD] at hr ⊢;exact hr
 | .fn f fs cs,v,hr=>by
  simp only[RepD] at hr ⊢
  obtain ⟨us,ts,hv,h1,h2⟩:=hr
  exact ⟨us,ts,hv,RepDL.mono hl hm fs us h1,RepDL.mono hl hm cs ts h2⟩
 | .iface t x,v,hr=>by
  simp only[RepD] at hr ⊢
  obtain ⟨u,hv,h1⟩:=hr
  exact ⟨u,hv,RepD.mono hl hm x u h1⟩
 | .agg cs,v,hr=>by
  simp only[RepD] at hr ⊢
  obtain ⟨us,hv,h1⟩:=hr
  exact ⟨us,hv,RepDL.mono hl hm cs us h1⟩
 | .tuple cs,v,hr=>by
  simp only[RepD] at hr ⊢
  obtain ⟨us,hv,h1⟩:=hr
  exact ⟨us,hv,RepDL.mono hl hm cs us h1⟩
 | .any,v,hr=>by simp only[RepD]
theorem RepDL.mono (hl:LeH h β h' β') (hm:Moved V w V' w'):∀ (ds:List D) (vs:List Value),RepDL h β V w ds vs→RepDL h' β' V' w' ds vs
 | [],vs,hr=>by simp only[RepDL] at hr ⊢;exact hr
 | d :: ds,vs,hr=>by
  simp only[RepDL] at hr ⊢
  obtain ⟨v,us,hv,h1,h2⟩:=hr
  exact ⟨v,us,hv,RepD.mono hl hm d v h1,RepDL.mono hl hm ds us h2⟩
end
end

theorem RepDL.len {h:Heap} {β:Nat→Value} {V:Nat→Prop} {w:World}:∀ {ds:List D} {vs:List Value},RepDL h β V w ds vs→ds.length=vs.length
 | [],vs,hr=>by simp only[RepDL] at hr;subst hr;rfl
 | d :: ds,vs,hr=>by
  simp only[RepDL] at hr
  obtain ⟨v,us,rfl,h1,h2⟩:=hr
  simp[RepDL.len h2]
theorem RepDL.get {h:Heap} {β:Nat→Value} {V:Nat→Prop} {w:World}:∀ {ds:List D} {vs:List Value},RepDL h β V w ds vs→∀ {i:Nat} {d:D},ds[i]?=some d→∃ v,vs[i]?=some v∧RepD h β V w d v
 | [],vs,hr,i,d,hi=>by simp at hi
 | d :: ds,vs,hr,i,d',hi=>by
  simp only[RepDL] at hr
  obtain ⟨v,us,rfl,h1,h2⟩:=hr
  cases i with
  | zero=>simp at hi;subst hi;exact ⟨v,rfl,h1⟩
  | succ i =>
   obtain ⟨v',h3,h4⟩:=RepDL.get h2 (i:=i) (d:=d') (by simpa using hi)
   exact ⟨v',by simpa using h3,h4⟩
theorem RepDL.append {h:Heap} {β:Nat→Value} {V:Nat→Prop} {w:World}:∀ {ds es:List D} {vs us:List Value},RepDL h β V w ds vs→RepDL h β V w es us→RepDL h β V w (ds++es) (vs++us)
 | [],_,vs,us,hr,k=>by simp only[RepDL] at hr;subst hr;exact k
 | d :: ds,es,vs,us,hr,k=>by
  simp only[RepDL] at hr
  obtain ⟨v,us',rfl,h1,h2⟩:=hr
  simp only[List.cons_append,RepDL]
  exact ⟨v,_,rfl,h1,RepDL.append h2 k⟩
theorem RepDL.take {h:Heap} {β:Nat→Value} {V:Nat→Prop} {w:World}:∀ {ds:List D} {vs:List Value} (n:Nat),RepDL h β V w ds vs→RepDL h β V w (ds.take n) (vs.take n)
 | [],vs,n,hr=>by simp only[RepDL] at hr;subst hr;simp[RepDL]
 | d :: ds,vs,0,hr=>by simp[RepDL]
 | d :: ds,vs,n+1,hr=>by
  simp only[RepDL] at hr
  obtain ⟨v,us,rfl,h1,h2⟩:=hr
  simp only[List.take_succ_cons,RepDL]
  exact ⟨v,_,rfl,h1,RepDL.take n h2⟩
theorem RepDL.drop {h:Heap} {β:Nat→Value} {V:Nat→Prop} {w:World}:∀ {ds:List D} {vs:List Value} (n:Nat),RepDL h β V w ds vs→RepDL h β V w (ds.drop n) (vs.drop n)
 | [],vs,n,hr=>by simp only[RepDL] at hr;subst hr;simp[RepDL]
 | d :: ds,vs,0,hr=>hr
 | d :: ds,vs,n+1,hr=>by
  simp only[RepDL] at hr
  obtain ⟨v,us,rfl,h1,h2⟩:=hr
  simp only[List.drop_succ_cons]
  exact RepDL.drop n h2
theorem RepDL.set {h:Heap} {β:Nat→Value} {V:Nat→Prop} {w:World}:∀ {ds:List D} {vs:List Value} (i:Nat) {d:D} {v:Value},RepDL h β V w ds vs→RepD h β V w d v→RepDL h β V w (ds.set i d) (vs.set i v)
 | [],vs,i,d,v,hr,_=>by simp only[RepDL] at hr;subst hr;simp[RepDL]
 | d0 :: ds,vs,0,d,v,hr,hd=>by
  simp only[RepDL] at hr
  obtain ⟨v0,us,rfl,h1,h2⟩:=hr
  simp only[List.set_cons_zero,RepDL]
  exact ⟨v,us,rfl,hd,h2⟩
 | d0 :: ds,vs,i+1,d,v,hr,hd=>by
  simp only[RepDL] at hr
  obtain ⟨v0,us,rfl,h1,h2⟩:=hr
  simp only[List.set_cons_succ,RepDL]
  exact ⟨v0,_,rfl,h1,RepDL.set i h2 hd⟩
theorem RepL.set {V:Nat→Prop} {w:World}:∀ {ds:List GV} {vs:List Value} (i:Nat) {d:GV} {v:Value},RepL V w ds vs→RepV V w d v→RepL V w (ds.set i d) (vs.set i v)
 | [],[],i,d,v,_,_=>by simp[RepL]
 | [],_ :: _,_,_,_,h,_=>h.elim
 | _ :: _,[],_,_,_,h,_=>h.elim
 | d0 :: ds,_ :: _,0,d,v,hr,hd=>⟨hd,hr.2⟩
 | d0 :: ds,_ :: _,i+1,d,v,hr,hd=>⟨hr.1,RepL.set i hr.2 hd⟩
theorem RepDL_g {h:Heap} {β:Nat→Value} {V:Nat→Prop} {w:World}:∀ (gs:List GV) (vs:List Value),RepDL h β V w (gs.map .g) vs↔RepL V w gs vs
 | [],[]=>by simp[RepDL,RepL]
 | [],_ :: _=>by simp[RepDL,RepL]
 | g :: gs,[]=>by simp[RepDL,RepL]
 | g :: gs,v :: vs=>by
  simp only[List.map_cons,RepDL,RepL]
  constructor
  ·rintro ⟨v',us,e,h1,h2⟩
   injection e with e1 e2
   subst e1;subst e2
   simp only[RepD] at h1
   exact ⟨h1,(RepDL_g gs _).1 h2⟩
  ·rintro ⟨h1,h2⟩
   exact ⟨v,vs,rfl,by simp only[RepD];exact h1,(RepDL_g gs vs).2 h2⟩
end Go.Dm
/-
  The second engine, second part: steps of memory. It holds of every program.
-/
namespace Go.Dm
open Go Go.Eng Go.RowKit

section
variable {C:Ctx} {h h':Heap} {β β':Nat→Value} {V:Nat→Prop} {w w':World}

theorem owns_bk {e sz n:Nat} {v:Value} {xs:List Value} (ho:w.ownsRow 0 e sz v n xs) {k:Nat} (hk:bk v=some k):v.ownBlock=some k:=by
 rcases ho.2 with ⟨rfl,_⟩ | ⟨g,cap,cur,rfl,_⟩
 ·simp[bk] at hk
 ·simpa [bk,Value.ownBlock] using hk
theorem bk_owns {e sz n:Nat} {v:Value} {xs:List Value} (ho:w.ownsRow 0 e sz v n xs) {k:Nat} (hk:v.ownBlock=some k):bk v=some k:=by
 rcases ho.2 with ⟨rfl,_⟩ | ⟨g,cap,cur,rfl,_⟩
 ·simp[Value.ownBlock] at hk
 ·simpa [bk,Value.ownBlock] using hk

theorem Ob0Ok.lt {v:Value} {o:Ob0} (ho:Ob0Ok V w v o) {k:Nat} (hk:bk v=some k):k < w.heap.size:=by
 cases o with
 | blk cs t =>
  obtain ⟨g,vs,hb,hg,_⟩:=ho
  rw[hb] at hk
  simp[bk] at hk
  subst hk
  exact (Array.getElem?_eq_some_iff.1 hg).1
 | row xs e sz =>
  obtain ⟨vs,hv,_⟩:=ho
  exact (hv.lt k (owns_bk hv hk)).2
theorem ObjOk.lt {i:Nat} {o:Obj} (ho:ObjOk h β V w i o) (hl:o.live=true) {k:Nat} (hk:Bk o (β i) k):k < w.heap.size:=by
 cases o with
 | many l ts=>obtain ⟨p,hp,hk⟩:=hk;exact (ho.1 p hp).lt hk
 | blk cs t =>
  obtain ⟨g,vs,hb,hg,_⟩:=ho
  rw[hb] at hk
  simp[Bk,bk] at hk
  subst hk
  exact (Array.getElem?_eq_some_iff.1 hg).1
 | row xs e sz =>
  obtain ⟨vs,hv,_⟩:=ho
  exact (hv.lt k (owns_bk hv hk)).2
 | dead=>cases hl

theorem RelD.lt (hr:RelD C h β V w) {i:Nat} {o:Obj} (hi:h[i]?=some o) (hl:o.live=true) {k:Nat} (hk:Bk o (β i) k):k < w.heap.size:=(hr.obj i o hi).lt hl hk

theorem Ob0Ok.keep {v:Value} {o:Ob0} (ho:Ob0Ok V w v o) {V':Nat→Prop} (hm:Moved V w V' w') (hk:∀ k,bk v=some k→w'.heap[k]?=w.heap[k]?):Ob0Ok V' w' v o:=by
 cases o with
 | blk cs t =>
  obtain ⟨g,vs,hb',hg,hc⟩:=ho
  exact ⟨g,vs,hb',(hk g (by rw[hb'];rfl)).trans hg,RepL.move hm _ _ hc⟩
 | row xs e sz =>
  obtain ⟨vs,hv,hc,h1,h2⟩:=ho
  exact ⟨vs,owns_keep hv (fun k hk'=>hk k (bk_owns hv hk')),RepL.move hm _ _ hc,h1,h2⟩
theorem OLe_live {o o':Obj} (h:OLe o o') (hl:o'.live=true):o.live=true:=by
 cases o<;>cases o'<;>simp_all [OLe,Obj.live]
theorem TagOk.le {t:Value × Nat} (ht:TagOk h β t) (hle:LeH h β h' β'):TagOk h' β' t:=by
 obtain ⟨o,ho,hb⟩:=ht
 obtain ⟨o',h1,h2,h3⟩:=hle _ o ho
 exact ⟨o',h1,fun hl=>(h3 hl).trans (hb (OLe_live h2 hl))⟩
theorem ObjOk.keep {i:Nat} {o:Obj} (ho:ObjOk h β V w i o) (hle:LeH h β h' β') {V':Nat→Prop} (hm:Moved V w V' w') (hb:β' i=β i) (hk:∀ k,Bk o (β i) k→w'.heap[k]?=w.heap[k]?):ObjOk h' β' V' w' i o:=by
 cases o with
 | many l ts=>exact ⟨fun p hp=>(ho.1 p hp).keep hm (fun k hk'=>hk k ⟨p,hp,hk'⟩),ho.2.1,fun t ht=>(ho.2.2 t ht).le hle⟩
 | blk cs t =>
  obtain ⟨g,vs,hb',hg,hc⟩:=ho
  exact ⟨g,vs,hb.trans hb',(hk g (by rw[hb'];rfl)).trans hg,RepDL.mono hle hm _ _ hc⟩
 | row xs e sz =>
  obtain ⟨vs,hv,hc,h1,h2⟩:=ho
  refine ⟨vs,?_,RepL.move hm _ _ hc,h1,h2⟩
  rw[hb]
  exact owns_keep hv (fun k hk'=>hk k (bk_owns hv hk'))
 | dead=>trivial

theorem RelD.moved {G:Nat→Prop} (hr:RelD C h β V w) (hf:Fr G w w') (hG:∀ k,G k→∃ i o,h[i]?=some o∧o.live=true∧Bk o (β i) k):Moved V w V w':=fun k hk =>
 ⟨hk,hf.block k (hr.vlt k hk) (fun hg=>by
  obtain ⟨i,o,hi,hl,hbk⟩:=hG k hg
  exact hr.vout i o k hi hl hbk hk)⟩

theorem RelD.upd {G:Nat→Prop} (hr:RelD C h β V w) (hf:Fr G w w') (i0:Nat) (o0:Obj) (h0:h'[i0]?=some o0)
  (hoth:∀ (j:Nat) (o:Obj),j≠i0→h'[j]?=some o→o.live=true→h[j]?=some o∧β' j=β j∧∀ k,Bk o (β j) k→¬ G k)
  (le:LeH h β h' β')
  (hG:∀ k,G k→∃ i o,h[i]?=some o∧o.live=true∧Bk o (β i) k)
  (hok:Moved V w V w'→ObjOk h' β' V w' i0 o0)
  (hb:∀ k,Bk o0 (β' i0) k→w.heap.size≤k∨∃ i o,h[i]?=some o∧o.live=true∧Bk o (β i) k∧(i=i0∨∀ o',h'[i]?=some o'→o'.live=false)) :
  RelD C h' β' V w':=by
 have hm:Moved V w V w':=fun k hk=>⟨hk,hf.block k (hr.vlt k hk) (fun hg=>by
  obtain ⟨i,o,hi,hl,hbk⟩:=hG k hg
  exact hr.vout i o k hi hl hbk hk)⟩
 refine ⟨?_,?_,?_,?_,?_,hr.vin,hr.vnew,?_,hr.gl.move hm⟩
 ·intro j o hj
  by_cases hj0:j=i0
  ·subst hj0
   rw[h0] at hj
   injection hj with hj
   subst hj
   exact hok hm
  ·cases hl:o.live with
   | false=>cases o<;>simp_all [Obj.live,ObjOk]
   | true =>
    obtain ⟨h1,h2,h3⟩:=hoth j o hj0 hj hl
    exact (hr.obj j o h1).keep le hm h2 (fun k hk=>hf.block k (hr.lt h1 hl hk) (h3 k hk))
 ·have key:∀ (j:Nat) (o:Obj) (k:Nat),j≠i0→h'[j]?=some o→o.live=true→Bk o0 (β' i0) k→Bk o (β' j) k→False:=by
   intro j o k hj hjo hl hk hk'
   obtain ⟨h1,h2,h3⟩:=hoth j o hj hjo hl
   rw[h2] at hk'
   rcases hb k hk with hfr | ⟨i,o',hi,hl',hbi,hor⟩
   ·have:=hr.lt h1 hl hk'
    omega
   ·have:i=j:=hr.sep i j o' o k hi hl' h1 hl hbi hk'
    subst this
    rcases hor with e | e
    ·exact hj e
    ·rw[e o hjo] at hl;cases hl
  intro i j o o' k hi hl hj hl' hbi hbj
  by_cases hi0:i=i0
  ·by_cases hj0:j=i0
   ·rw[hi0,hj0]
   ·subst hi0
    rw[h0] at hi
    injection hi with hi
    subst hi
    exact (key j o' k hj0 hj hl' hbi hbj).elim
  ·by_cases hj0:j=i0
   ·subst hj0
    rw[h0] at hj
    injection hj with hj
    subst hj
    exact (key i o k hi0 hi hl hbj hbi).elim
   ·obtain ⟨a1,a2,_⟩:=hoth i o hi0 hi hl
    obtain ⟨b1,b2,_⟩:=hoth j o' hj0 hj hl'
    rw[a2] at hbi
    rw[b2] at hbj
    exact hr.sep i j o o' k a1 hl b1 hl' hbi hbj
 ·intro i o k hi hl hk
  by_cases hi0:i=i0
  ·subst hi0
   rw[h0] at hi
   injection hi with hi
   subst hi
   rcases hb k hk with hfr | ⟨i',o',hi',hl',hbi,_⟩
   ·exact .inl (Nat.le_trans hr.fr.size hfr)
   ·exact hr.mine i' o' k hi' hl' hbi
  ·obtain ⟨a1,a2,_⟩:=hoth i o hi0 hi hl
   rw[a2] at hk
   exact hr.mine i o k a1 hl hk
 ·intro i o k hi hl hk
  by_cases hi0:i=i0
  ·subst hi0
   rw[h0] at hi
   injection hi with hi
   subst hi
   rcases hb k hk with hfr | ⟨i',o',hi',hl',hbi,_⟩
   ·intro hv
    have:=hr.vlt k hv
    omega
   ·exact hr.vout i' o' k hi' hl' hbi
  ·obtain ⟨a1,a2,_⟩:=hoth i o hi0 hi hl
   rw[a2] at hk
   exact hr.vout i o k a1 hl hk
 ·intro k hk
  exact Nat.lt_of_lt_of_le (hr.vlt k hk) hf.size
 ·refine ⟨hf.os.trans hr.fr.os,hf.tape.trans hr.fr.tape,hf.output.trans hr.fr.output,Nat.le_trans hr.fr.size hf.size,fun k hk hn=>?_⟩
  rw[hf.block k (Nat.lt_of_lt_of_le hk hr.fr.size) (fun hg=>?_)]
  ·exact hr.fr.block k hk hn
  ·obtain ⟨i,o,hi,hl,hbk⟩:=hG k hg
   rcases hr.mine i o k hi hl hbk with hm | hm
   ·omega
   ·exact hn hm

def upf (β:Nat→Value) (i:Nat) (v:Value):Nat→Value:=fun k=>if k=i then v else β k
theorem upf_eq (β:Nat→Value) (i:Nat) (v:Value):upf β i v i=v:=by simp[upf]
theorem upf_ne {β:Nat→Value} {i k:Nat} {v:Value} (h:k≠i):upf β i v k=β k:=by simp[upf,h]

theorem le_snoc (h:Heap) (β:Nat→Value) (o:Obj) (v:Value):LeH h β (h++[o]) (upf β h.length v):=by
 intro i o' ho
 have hl:i < h.length:=(List.getElem?_eq_some_iff.1 ho).1
 exact ⟨o',by rw[List.getElem?_append_left hl];exact ho,OLe.refl o',fun _=>upf_ne (by omega)⟩
theorem snoc_oth {h:Heap} {β:Nat→Value} {o0:Obj} {v:Value} {G:Nat→Prop} (hG:∀ k,¬ G k):∀ (j:Nat) (o:Obj),j≠h.length→(h++[o0])[j]?=some o→o.live=true→h[j]?=some o∧upf β h.length v j=β j∧∀ k,Bk o (β j) k→¬ G k:=by
 intro j o hj ho hl
 have hlt:j < h.length:=by
  have:=(List.getElem?_eq_some_iff.1 ho).1
  simp at this
  omega
 rw[List.getElem?_append_left hlt] at ho
 exact ⟨ho,upf_ne hj,fun k _=>hG k⟩

theorem fr_alloc (w:World) (o:Go.Obj):Fr (fun _=>False) w (w.alloc o):=Fr.alloc _ w o

theorem RelD.alloc_blk (hr:RelD C h β V w) (cs:List D) (vs:List Value) (t:TypeId) (hc:RepDL h β V w cs vs) :
  RelD C (h++[.blk cs t]) (upf β h.length (.pointer (some ⟨w.heap.size,0,none⟩))) V (w.alloc (.cells ⟨vs⟩ t)):=by
 refine hr.upd (G:=fun _=>False) (fr_alloc w _) h.length (.blk cs t) (by simp) (snoc_oth (fun _ h=>h)) (le_snoc _ _ _ _) (fun k hk=>hk.elim) (fun hm=>?_) (fun k hk=>?_)
 ·exact ⟨w.heap.size,vs,upf_eq _ _ _,heap_alloc_new w _,RepDL.mono (le_snoc _ _ _ _) hm _ _ hc⟩
 ·rw[upf_eq] at hk
  simp[Bk,bk] at hk
  exact .inl (by omega)

theorem RelD.alloc_row (hr:RelD C h β V w) (xs:List (List GV)) (vs:List Value) (cap:Nat) (cur:Array Value) (e:TypeId) (sz:Nat) (hx:∀ r∈xs,r.length=sz) (h0:0 < sz) (hv:RepL V w xs.flatten vs)
  (hnc:xs.length≤cap) (hcm:cap≤maxLen) (hsz:cur.size=cap*sz) (ht:cur.toList.take (xs.length*sz)=vs) :
  RelD C (h++[.row xs e sz]) (upf β h.length (.slice (some ⟨w.heap.size,0,none⟩) xs.length cap)) V (w.alloc (.cells cur e)):=by
 refine hr.upd (G:=fun _=>False) (fr_alloc w _) h.length (.row xs e sz) (by simp) (snoc_oth (fun _ h=>h)) (le_snoc _ _ _ _) (fun k hk=>hk.elim) (fun hm=>?_) (fun k hk=>?_)
 ·refine ⟨vs,?_,RepL.move hm _ _ hv,hx,h0⟩
  rw[upf_eq]
  refine ⟨?_,.inr ⟨w.heap.size,cap,cur,rfl,Nat.zero_le _,heap_alloc_new w _,hnc,hcm,hsz,ht⟩⟩
  rw[← ht,List.length_take,show cur.toList.length=cap*sz from by rw[Array.length_toList (xs:=cur),hsz]]
  exact Nat.min_eq_left (Nat.mul_le_mul_right _ hnc)
 ·rw[upf_eq] at hk
  simp[Bk,bk] at hk
  exact .inl (by omega)

theorem RelD.nil_row (hr:RelD C h β V w) (e:TypeId) (sz:Nat) (h0:0 < sz) :
  RelD C (h++[.row [] e sz]) (upf β h.length (.slice none 0 0)) V w:=by
 refine hr.upd (G:=fun _=>False) (Fr.refl _ w) h.length (.row [] e sz) (by simp) (snoc_oth (fun _ h=>h)) (le_snoc _ _ _ _) (fun k hk=>hk.elim) (fun hm=>?_) (fun k hk=>?_)
 ·refine ⟨[],?_,trivial,fun r hr=>by simp at hr,h0⟩
  rw[upf_eq]
  exact World.ownsRow_nil w 0 e sz
 ·rw[upf_eq] at hk
  simp[Bk,bk] at hk

theorem set_oth {h:Heap} {β:Nat→Value} {i0:Nat} {o0:Obj} {G:Nat→Prop} (hG:∀ (j:Nat) (o:Obj) (k:Nat),j≠i0→h[j]?=some o→o.live=true→Bk o (β j) k→¬ G k):∀ (j:Nat) (o:Obj),j≠i0→(h.set i0 o0)[j]?=some o→o.live=true→h[j]?=some o∧β j=β j∧∀ k,Bk o (β j) k→¬ G k:=by
 intro j o hj ho hl
 rw[List.getElem?_set_ne (fun e=>hj e.symm)] at ho
 exact ⟨ho,rfl,fun k hk=>hG j o k hj ho hl hk⟩
theorem le_set {h:Heap} {β:Nat→Value} {i:Nat} {o o':Obj} (hi:h[i]?=some o) (hle:OLe o o'):LeH h β (h.set i o') β:=by
 intro j oj hj
 by_cases hij:j=i
 ·subst hij
  rw[hi] at hj
  injection hj with hj
  subst hj
  exact ⟨o',by simp[(List.getElem?_eq_some_iff.1 hi).1],hle,fun _=>rfl⟩
 ·exact ⟨oj,by rw[List.getElem?_set_ne (fun e=>hij e.symm)];exact hj,OLe.refl _,fun _=>rfl⟩

theorem RelD.set_blk (hr:RelD C h β V w) {i:Nat} {cs:List D} {t:TypeId} (hi:h[i]?=some (.blk cs t)) {g:Nat} (hg:β i=.pointer (some ⟨g,0,none⟩)) (cs':List D) (vs':List Value) (hc:RepDL h β V w cs' vs') :
  RelD C (h.set i (.blk cs' t)) β V (w.setRow g ⟨vs'⟩):=by
 obtain ⟨g',vs,hb,hgg,hcs⟩:=hr.obj i _ hi
 have e:g'=g:=by rw[hb] at hg;simpa using hg
 subst e
 refine hr.upd (G:=fun k=>k=g') (Fr.setRow w g' _) i (.blk cs' t) (by simp[(List.getElem?_eq_some_iff.1 hi).1]) (set_oth (fun j o k hj ho hl hk hkg=>?_)) (le_set hi trivial) (fun k hk=>⟨i,_,hi,rfl,by subst hk;rw[hb];rfl⟩) (fun hm=>?_) (fun k hk=>.inr ⟨i,_,hi,rfl,hk,.inl rfl⟩)
 ·subst hkg
  exact hj (hr.sep j i o _ k ho hl hi rfl hk (by rw[hb];rfl))
 ·exact ⟨g',vs',hb,setRow_heap w g' _ _ _ _ hgg,RepDL.mono (le_set hi (o':=.blk cs' t) trivial) hm _ _ hc⟩

theorem RelD.set_row (hr:RelD C h β V w) {i:Nat} {xs:List (List GV)} {e:TypeId} {sz:Nat} (hi:h[i]?=some (.row xs e sz)) {g n c:Nat} (hg:β i=.slice (some ⟨g,0,none⟩) n c) (xs':List (List GV)) (vs':List Value) (hv:RepL V w xs'.flatten vs')
  (hx:∀ r∈xs',r.length=sz) (hlen:xs'.length=xs.length) (cur':Array Value) (hcur:∀ cur,w.heap[g]?=some (.cells cur e (0,0))→cur'.size=cur.size) (ht:cur'.toList.take (xs.length*sz)=vs') :
  RelD C (h.set i (.row xs' e sz)) β V (w.setRow g cur'):=by
 obtain ⟨vs,hown,hvs,hxs,h0⟩:=hr.obj i _ hi
 have hbk:bk (β i)=some g:=by rw[hg];rfl
 refine hr.upd (G:=fun k=>k=g) (Fr.setRow w g _) i (.row xs' e sz) (by simp[(List.getElem?_eq_some_iff.1 hi).1]) (set_oth (fun j o k hj ho hl hk hkg=>?_)) (le_set hi ⟨hlen.symm,rfl⟩) (fun k hk=>⟨i,_,hi,rfl,by subst hk;exact hbk⟩) (fun hm=>?_) (fun k hk=>.inr ⟨i,_,hi,rfl,hk,.inl rfl⟩)
 ·subst hkg
  exact hj (hr.sep j i o _ k ho hl hi rfl hk hbk)
 ·refine ⟨vs',?_,RepL.move hm _ _ hv,hx,h0⟩
  rcases hown.2 with ⟨hnil,_⟩ | ⟨g',cap,cur,hv',hb0,hh,hnc,hcm,hsz,htk⟩
  ·rw[hnil] at hg;cases hg
  ·have eg:g'=g:=by rw[hv'] at hg;injection hg with e1 _ _;injection e1 with e1;injection e1
   subst eg
   have hcs:=hcur cur hh
   have hle:xs.length*sz≤cap*sz:=Nat.mul_le_mul_right _ hnc
   refine ⟨?_,.inr ⟨g',cap,cur',by rw[hlen];exact hv',hb0,setRow_heap w g' _ _ _ _ hh,by rw[hlen];exact hnc,hcm,by rw[hcs];exact hsz,by rw[hlen];exact ht⟩⟩
   rw[← ht,List.length_take,show cur'.toList.length=cap*sz from by rw[Array.length_toList (xs:=cur'),hcs,hsz],hlen]
   exact Nat.min_eq_left hle

theorem RelD.grow_row (hr:RelD C h β V w) {i:Nat} {xs0:List (List GV)} {e0:TypeId} {sz0:Nat} (hi:h[i]?=some (.row xs0 e0 sz0)) (xs:List (List GV)) (vs:List Value) (v':Value) (e:TypeId) (sz:Nat)
  (hv:RepL V w xs.flatten vs) (hx:∀ r∈xs,r.length=sz) (h0:0 < sz) (hown:w'.ownsRow 0 e sz v' xs.length vs) (hg:w.grownBy w' (β i).ownBlock)
  (hb:v'.ownBlock=(β i).ownBlock∨v'.ownBlock=some w.heap.size) :
  RelD C (h.set i .dead++[.row xs e sz]) (upf β h.length v') V w':=by
 obtain ⟨vs0,hown0,_⟩:=hr.obj i _ hi
 have hil:i < h.length:=(List.getElem?_eq_some_iff.1 hi).1
 have hlen:(h.set i .dead).length=h.length:=by simp
 have hget:∀ j,j < h.length→j≠i→(h.set i .dead++[Obj.row xs e sz])[j]?=h[j]?:=by
  intro j hj hji
  rw[List.getElem?_append_left (by simpa using hj),List.getElem?_set_ne (fun e=>hji e.symm)]
 have hgi:(h.set i .dead++[Obj.row xs e sz])[i]?=some .dead:=by
  rw[List.getElem?_append_left (by simpa using hil)]
  simp[hil]
 have le:LeH h β (h.set i .dead++[Obj.row xs e sz]) (upf β h.length v'):=by
  intro j oj hj
  have hjl:j < h.length:=(List.getElem?_eq_some_iff.1 hj).1
  by_cases hji:j=i
  ·subst hji
   exact ⟨.dead,hgi,by cases oj<;>trivial,fun h=>by cases h⟩
  ·exact ⟨oj,by rw[hget j hjl hji];exact hj,OLe.refl _,fun _=>upf_ne (by omega)⟩
 refine hr.upd (G:=fun k=>some k=(β i).ownBlock) ⟨hg.os,hg.tape,hg.output,hg.size,fun k hk hn=>hg.block k hk hn⟩ h.length (.row xs e sz) (by rw[List.getElem?_append_right (by simp)];simp) (fun j o hj ho hl=>?_) le (fun k hk=>⟨i,_,hi,rfl,bk_owns hown0 hk.symm⟩) (fun hm=>?_) (fun k hk=>?_)
 ·have hjl:j < h.length:=by
   have:=(List.getElem?_eq_some_iff.1 ho).1
   simp at this
   omega
  by_cases hji:j=i
  ·subst hji
   rw[hgi] at ho
   injection ho with ho
   subst ho
   cases hl
  ·rw[hget j hjl hji] at ho
   refine ⟨ho,upf_ne hj,fun k hk hkg=>?_⟩
   exact hji (hr.sep j i o _ k ho hl hi rfl hk (bk_owns hown0 hkg.symm))
 ·refine ⟨vs,?_,RepL.move hm _ _ hv,hx,h0⟩
  rw[upf_eq]
  exact hown
 ·rw[upf_eq] at hk
  have hk:=owns_bk hown hk
  rcases hb with hb | hb
  ·refine .inr ⟨i,_,hi,rfl,bk_owns hown0 (by rw[← hb];exact hk),.inr (fun o' ho'=>?_)⟩
   rw[hgi] at ho'
   injection ho' with ho'
   subst ho'
   rfl
  ·rw[hk] at hb
   injection hb with hb
   exact .inl (by omega)
theorem RelD.grow_nil (hr:RelD C h β V w) (xs:List (List GV)) (vs:List Value) (v':Value) (e:TypeId) (sz:Nat)
  (hv:RepL V w xs.flatten vs) (hx:∀ r∈xs,r.length=sz) (h0:0 < sz) (hown:w'.ownsRow 0 e sz v' xs.length vs) (hg:w.grownBy w' none)
  (hb:v'.ownBlock=none∨v'.ownBlock=some w.heap.size) :
  RelD C (h++[.row xs e sz]) (upf β h.length v') V w':=by
 refine hr.upd (G:=fun _=>False) ⟨hg.os,hg.tape,hg.output,hg.size,fun k hk hn=>hg.block k hk (by simp)⟩ h.length (.row xs e sz) (by simp) (snoc_oth (fun _ h=>h)) (le_snoc _ _ _ _) (fun k hk=>hk.elim) (fun hm=>?_) (fun k hk=>?_)
 ·refine ⟨vs,?_,RepL.move hm _ _ hv,hx,h0⟩
  rw[upf_eq]
  exact hown
 ·rw[upf_eq] at hk
  have hk:=owns_bk hown hk
  rw[hk] at hb
  simp at hb
  exact .inl (by omega)
end
end Go.Dm
/-
  The second engine, third part: memory is told anew (some objects kept, others given away for good), likeness of abstract values, contracts, and what stands behind a call. It holds of every program.
-/
namespace Go.Dm
open Go Go.Eng Go.RowKit

inductive Src where
 | old (i:Nat)
 | nil (e:TypeId) (sz:Nat)
 | many0

def kp:List Src→Nat→Nat→Option Nat
 | [],_,_=>none
 | .old j :: l,p,i=>bif Nat.beq j i then some p else kp l (p+1) i
 | .nil _ _ :: l,p,i=>kp l (p+1) i
 | .many0 :: l,p,i=>kp l (p+1) i
def srcOk:List Src→Bool
 | []=>true
 | .old j :: l=>(match kp l 0 j with | some _=>false | none=>true) && srcOk l
 | .nil _ sz :: l=>Nat.blt 0 sz && srcOk l
 | .many0 :: l=>srcOk l

def plains:List D→Option (List GV)
 | []=>some []
 | .g x :: l=>match plains l with
  | some gs=>some (x :: gs)
  | none=>none
 | _ :: _=>none

def conv (h:Heap) (src:List Src):Nat→D→D
 | 0,_=>.any
 | n+1,d=>match d with
  | .row i=>match kp src 0 i with
   | some j=>.row j
   | none=>match h[i]? with
    | some (.row xs _ sz)=>.g (.sl sz xs)
    | _=>.any
  | .rs i lo m=>match kp src 0 i with
   | some j=>.rs j lo m
   | none=>match h[i]? with
    | some (.row xs _ sz)=>.g (.sl sz ((xs.drop lo).take m))
    | _=>.any
  | .ptr i off=>match kp src 0 i with
   | some j=>.ptr j off
   | none=>match h[i]? with
    | some (.blk cs _)=>match plains cs with
     | some gs=>.fp gs off
     | none=>.any
    | _=>.any
  | .el i j off=>match kp src 0 i with
   | some i'=>.el i' j off
   | none=>.any
  | .fn f fs cs=>.fn f (fs.map (conv h src n)) (cs.map (conv h src n))
  | .iface t x=>.iface t (conv h src n x)
  | .agg cs=>.agg (cs.map (conv h src n))
  | .tuple vs=>.tuple (vs.map (conv h src n))
  | d=>d

def ids:Nat→D→List Nat
 | 0,_=>[]
 | n+1,d=>match d with
  | .row i=>[i]
  | .rs i _ _=>[i]
  | .ptr i _=>[i]
  | .el i _ _=>[i]
  | .fn _ fs cs=>fs.flatMap (ids n)++cs.flatMap (ids n)
  | .iface _ x=>ids n x
  | .agg cs=>cs.flatMap (ids n)
  | .tuple vs=>vs.flatMap (ids n)
  | _=>[]

def tagsT (src:List Src):List (Value × Nat)→List (Value × Nat)
 | []=>[]
 | (v,q) :: l=>match kp src 0 q with
  | some j=>(v,j) :: tagsT src l
  | none=>tagsT src l
def turnO (h:Heap) (src:List Src):Src→Obj
 | .old i=>match h[i]? with
  | some (.blk cs t)=>.blk (cs.map (conv h src 3)) t
  | some (.row xs e sz)=>.row xs e sz
  | some (.many l ts)=>.many l (tagsT src ts)
  | _=>.dead
 | .nil e sz=>.row [] e sz
 | .many0=>.many [] []
def turnH (h:Heap) (src:List Src):Heap:=src.map (turnO h src)
def turnβ (src:List Src) (β:Nat→Value) (j:Nat):Value:=match src[j]? with
 | some (.old i)=>β i
 | _=>.slice none 0 0

theorem kp_some:∀ {src:List Src} {p i q:Nat},kp src p i=some q→p≤q∧src[q - p]?=some (.old i)
 | [],p,i,q,h=>by simp[kp] at h
 | .old j :: l,p,i,q,h=>by
  simp only[kp] at h
  cases hb:Nat.beq j i with
  | true =>
   rw[hb] at h
   simp at h
   subst h
   have:=Nat.eq_of_beq_eq_true hb
   subst this
   exact ⟨Nat.le_refl _,by simp⟩
  | false =>
   rw[hb] at h
   simp only[cond_false] at h
   obtain ⟨h1,h2⟩:=kp_some h
   refine ⟨by omega,?_⟩
   rw[show q - p=(q - (p+1))+1 from by omega]
   simpa using h2
 | .nil e sz :: l,p,i,q,h=>by
  simp only[kp] at h
  obtain ⟨h1,h2⟩:=kp_some h
  refine ⟨by omega,?_⟩
  rw[show q - p=(q - (p+1))+1 from by omega]
  simpa using h2
 | .many0 :: l,p,i,q,h=>by
  simp only[kp] at h
  obtain ⟨h1,h2⟩:=kp_some h
  refine ⟨by omega,?_⟩
  rw[show q - p=(q - (p+1))+1 from by omega]
  simpa using h2
theorem tagsT_mem {src:List Src}:∀ {ts:List (Value × Nat)} {t:Value × Nat},t∈tagsT src ts→∃ q,(t.1,q)∈ts∧kp src 0 q=some t.2
 | [],t,h=>by simp[tagsT] at h
 | (v,q) :: l,t,h=>by
  simp only[tagsT] at h
  split at h
  ·rename_i j hj
   rcases List.mem_cons.1 h with rfl | h
   ·exact ⟨q,List.mem_cons_self,hj⟩
   ·obtain ⟨q',h1,h2⟩:=tagsT_mem h
    exact ⟨q',List.mem_cons_of_mem _ h1,h2⟩
  ·obtain ⟨q',h1,h2⟩:=tagsT_mem h
   exact ⟨q',List.mem_cons_of_mem _ h1,h2⟩
theorem kp_of:∀ {src:List Src} {p i j:Nat},src[j]?=some (.old i)→∃ q,kp src p i=some q
 | [],p,i,j,h=>by simp at h
 | .old j' :: l,p,i,j,h=>by
  simp only[kp]
  cases hb:Nat.beq j' i with
  | true=>exact ⟨p,rfl⟩
  | false =>
   cases j with
   | zero=>simp at h;subst h;rw[Nat.beq_refl] at hb;cases hb
   | succ j=>exact kp_of (by simpa using h)
 | .nil e sz :: l,p,i,j,h=>by
  simp only[kp]
  cases j with
  | zero=>simp at h
  | succ j=>exact kp_of (by simpa using h)
 | .many0 :: l,p,i,j,h=>by
  simp only[kp]
  cases j with
  | zero=>simp at h
  | succ j=>exact kp_of (by simpa using h)
theorem kp_inj:∀ {src:List Src},srcOk src=true→∀ {i a b:Nat},src[a]?=some (.old i)→src[b]?=some (.old i)→a=b
 | [],_,i,a,b,h,_=>by simp at h
 | .old j :: l,hs,i,a,b,ha,hb=>by
  simp only[srcOk,Bool.and_eq_true] at hs
  have no:∀ c:Nat,l[c]?≠some (Src.old j):=by
   intro c hc
   obtain ⟨q,hq⟩:=kp_of (p:=0) hc
   rw[hq] at hs
   exact absurd hs.1 (by simp)
  cases a with
  | zero =>
   cases b with
   | zero=>rfl
   | succ b=>simp at ha hb;subst ha;exact absurd hb (no b)
  | succ a =>
   cases b with
   | zero=>simp at ha hb;subst hb;exact absurd ha (no a)
   | succ b=>rw[kp_inj hs.2 (i:=i) (a:=a) (b:=b) (by simpa using ha) (by simpa using hb)]
 | .nil e sz :: l,hs,i,a,b,ha,hb=>by
  simp only[srcOk,Bool.and_eq_true] at hs
  cases a with
  | zero=>simp at ha
  | succ a =>
   cases b with
   | zero=>simp at hb
   | succ b=>rw[kp_inj hs.2 (i:=i) (a:=a) (b:=b) (by simpa using ha) (by simpa using hb)]
 | .many0 :: l,hs,i,a,b,ha,hb=>by
  simp only[srcOk] at hs
  cases a with
  | zero=>simp at ha
  | succ a =>
   cases b with
   | zero=>simp at hb
   | succ b=>rw[kp_inj hs (i:=i) (a:=a) (b:=b) (by simpa using ha) (by simpa using hb)]
theorem srcOk_nil:∀ {src:List Src},srcOk src=true→∀ {a e sz:Nat},src[a]?=some (.nil e sz)→0 < sz
 | [],_,a,e,sz,h=>by simp at h
 | .old j :: l,hs,a,e,sz,h=>by
  simp only[srcOk,Bool.and_eq_true] at hs
  cases a with
  | zero=>simp at h
  | succ a=>exact srcOk_nil hs.2 (by simpa using h)
 | .nil e' sz' :: l,hs,a,e,sz,h=>by
  simp only[srcOk,Bool.and_eq_true] at hs
  cases a with
  | zero=>simp at h;obtain ⟨rfl,rfl⟩:=h;exact Nat.le_of_ble_eq_true hs.1
  | succ a=>exact srcOk_nil hs.2 (by simpa using h)
 | .many0 :: l,hs,a,e,sz,h=>by
  simp only[srcOk] at hs
  cases a with
  | zero=>simp at h
  | succ a=>exact srcOk_nil hs (by simpa using h)

theorem plains_rep {h:Heap} {β:Nat→Value} {V:Nat→Prop} {w:World}:∀ {cs:List D} {gs:List GV} {vs:List Value},plains cs=some gs→RepDL h β V w cs vs→RepL V w gs vs
 | [],gs,vs,hp,hr=>by simp[plains] at hp;subst hp;simp only[RepDL] at hr;subst hr;trivial
 | d :: cs,gs,vs,hp,hr=>by
  simp only[RepDL] at hr
  obtain ⟨v,us,rfl,h1,h2⟩:=hr
  cases d<;>simp only[plains] at hp<;>try (cases hp;done)
  rename_i x
  cases hl:plains cs with
  | none=>rw[hl] at hp;cases hp
  | some gs' =>
   rw[hl] at hp
   simp at hp
   subst hp
   simp only[RepD] at h1
   exact ⟨h1,plains_rep hl h2⟩

section
variable {C:Ctx} {h h':Heap} {β β':Nat→Value} {V V':Nat→Prop} {w w':World} {src:List Src}

theorem row_frozen {i:Nat} {xs:List (List GV)} {e sz:Nat} (ho:ObjOk h β V w i (.row xs e sz)) (hV:∀ k,V k→V' k) (hb:∀ k,bk (β i)=some k→V' k):RepV V' w (.sl sz xs) (β i):=by
 obtain ⟨vs,hown,hv,hx,h0⟩:=ho
 have hv':RepL V' w xs.flatten vs:=RepL.move (fun k hk=>⟨hV k hk,rfl⟩) _ _ hv
 rcases hown.2 with ⟨hn,h1⟩ | ⟨g,cap,cur,hbv,hb0,hg,hnc,hcm,hsz,ht⟩
 ·have:xs=[]:=List.eq_nil_of_length_eq_zero h1
  subst this
  rw[hn]
  exact RepV.sl_nil sz
 ·rw[hbv]
  refine RepV.sl_of hnc (fun _=>⟨hb g (by rw[hbv];rfl),RepAll.of_flat xs vs 0 hx hv' (fun j v hj=>?_)⟩)
  have:=hown.cells (g:=g) (by rw[hbv];rfl) j v hj
  rw[show 0*sz+j=j from by omega]
  exact this

mutual
theorem conv_rep (hr:RelD C h β V w) (Z:Nat→Prop) (hV:∀ k,V k→V' k) (hZ:∀ (i:Nat) (o:Obj) (k:Nat),Z i→h[i]?=some o→o.live=true→Bk o (β i) k→V' k) :
  ∀ (n:Nat) (d:D) (v:Value),(∀ i∈ids n d,kp src 0 i=none→Z i)→RepD h β V w d v→RepD (turnH h src) (turnβ src β) V' w (conv h src n d) v
 | 0,d,v,_,_=>by simp only[conv,RepD]
 | n+1,.g x,v,hz,hd=>by
  simp only[conv,RepD] at hd ⊢
  exact RepV.move (fun k hk=>⟨hV k hk,rfl⟩) _ _ hd
 | n+1,.pb p,v,hz,hd=>by simp only[conv,RepD] at hd ⊢;exact hd
 | n+1,.pn p,v,hz,hd=>by simp only[conv,RepD] at hd ⊢;exact hd
 | n+1,.nils,v,hz,hd=>by simp only[conv,RepD] at hd ⊢;exact hd
 | n+1,.row i,v,hz,hd=>by
  simp only[conv]
  cases hk:kp src 0 i with
  | some j =>
   obtain ⟨_,hj⟩:=kp_some hk
   have hj:src[j]?=some (.old i):=hj
   simp only[RepD] at hd ⊢
   have hT:(turnH h src)[j]?=some (turnO h src (.old i)):=by simp[turnH,hj]
   have hB:turnβ src β j=β i:=by simp[turnβ,hj]
   rw[hT,hB]
   cases ho:h[i]? with
   | none=>rw[ho] at hd;exact hd.elim
   | some o=>rw[ho] at hd;cases o<;>simp_all [turnO]
  | none =>
   cases ho:h[i]? with
   | none=>simp only[RepD]
   | some o =>
    cases o with
    | blk cs t=>simp only[RepD]
    | many l ts=>simp only[RepD]
    | dead=>simp only[RepD]
    | row xs e sz =>
     simp only[RepD] at hd ⊢
     rw[ho] at hd
     simp only at hd
     subst hd
     exact row_frozen (hr.obj i _ ho) hV (fun k hk'=>hZ i _ k (hz i (by simp[ids]) hk) ho rfl hk')
 | n+1,.rs i lo m,v,hz,hd=>by
  simp only[conv]
  cases hk:kp src 0 i with
  | some j =>
   obtain ⟨_,hj⟩:=kp_some hk
   have hj:src[j]?=some (.old i):=hj
   simp only[RepD] at hd ⊢
   have hT:(turnH h src)[j]?=some (turnO h src (.old i)):=by simp[turnH,hj]
   have hB:turnβ src β j=β i:=by simp[turnβ,hj]
   rw[hT,hB]
   cases ho:h[i]? with
   | none=>rw[ho] at hd;exact hd.elim
   | some o=>rw[ho] at hd;cases o<;>simp_all [turnO]
  | none =>
   cases ho:h[i]? with
   | none=>simp only[RepD]
   | some o =>
    cases o with
    | blk cs t=>simp only[RepD]
    | many l ts=>simp only[RepD]
    | dead=>simp only[RepD]
    | row xs e sz =>
     simp only[RepD] at hd ⊢
     rw[ho] at hd
     simp only at hd
     obtain ⟨hlm,A,q,cap,hb,rfl⟩:=hd
     have hfz:=row_frozen (hr.obj i _ ho) hV (fun k hk'=>hZ i _ k (hz i (by simp[ids]) hk) ho rfl hk')
     rw[hb] at hfz
     have:=hfz.piece (l:=lo) (hh:=lo+m) (by omega) hlm
     rw[List.drop_take,Nat.add_sub_cancel_left] at this
     exact this
 | n+1,.ptr i off,v,hz,hd=>by
  simp only[conv]
  cases hk:kp src 0 i with
  | some j =>
   obtain ⟨_,hj⟩:=kp_some hk
   have hj:src[j]?=some (.old i):=hj
   simp only[RepD] at hd ⊢
   have hT:(turnH h src)[j]?=some (turnO h src (.old i)):=by simp[turnH,hj]
   have hB:turnβ src β j=β i:=by simp[turnβ,hj]
   rw[hT,hB]
   cases ho:h[i]? with
   | none=>rw[ho] at hd;exact hd.elim
   | some o=>rw[ho] at hd;cases o<;>simp_all [turnO]
  | none =>
   cases ho:h[i]? with
   | none=>simp only[RepD]
   | some o =>
    cases o with
    | row xs e sz=>simp only[RepD]
    | many l ts=>simp only[RepD]
    | dead=>simp only[RepD]
    | blk cs t =>
     simp only
     cases hp:plains cs with
     | none=>simp only[RepD]
     | some gs =>
      simp only[RepD] at hd ⊢
      rw[ho] at hd
      simp only at hd
      obtain ⟨g,hb,rfl⟩:=hd
      obtain ⟨g',vs,hb',hg,hc⟩:=hr.obj i _ ho
      have e:g'=g:=by rw[hb] at hb';injection hb' with hb';injection hb' with hb';injection hb' with hb';exact hb'.symm
      subst e
      refine ⟨⟨g',0,none⟩,by rw[add_mk,Nat.zero_add],hZ i _ g' (hz i (by simp[ids]) hk) ho rfl (by rw[hb];rfl),RepRow.of_cells gs vs 0 (RepL.move (fun k hk=>⟨hV k hk,rfl⟩) _ _ (plains_rep hp hc)) (fun j u hj=>?_)⟩
      rw[add_mk,cell_of_row w _ _ _ _ _ hg]
      simpa using hj
 | n+1,.el i j off,v,hz,hd=>by
  simp only[conv]
  cases hk:kp src 0 i with
  | some q =>
   obtain ⟨_,hj⟩:=kp_some hk
   have hj:src[q]?=some (.old i):=hj
   simp only[RepD] at hd ⊢
   have hT:(turnH h src)[q]?=some (turnO h src (.old i)):=by simp[turnH,hj]
   have hB:turnβ src β q=β i:=by simp[turnβ,hj]
   rw[hT,hB]
   cases ho:h[i]? with
   | none=>rw[ho] at hd;exact hd.elim
   | some o=>rw[ho] at hd;cases o<;>simp_all [turnO]
  | none=>simp only[RepD]
 | n+1,.fp r off,v,hz,hd=>by
  simp only[conv,RepD] at hd ⊢
  obtain ⟨a,hv,hVa,hrow⟩:=hd
  exact ⟨a,hv,hV _ hVa,RepRow.move (fun k hk=>⟨hV k hk,rfl⟩) hVa _ _ hrow⟩
 | n+1,.nilP,v,hz,hd=>by simp only[conv,RepD] at hd ⊢;exact hd
 | n+1,.nilF,v,hz,hd=>by simp only[conv,RepD] at hd ⊢;exact hd
 | n+1,.nilI,v,hz,hd=>by simp only[conv,RepD] at hd ⊢;exact hd
 | n+1,.fn f fs cs,v,hz,hd=>by
  simp only[conv,RepD] at hd ⊢
  obtain ⟨us,ts,hv,h1,h2⟩:=hd
  exact ⟨us,ts,hv,convL_rep hr Z hV hZ n fs us (fun d hd i hi=>hz i (by simp only[ids,List.mem_append,List.mem_flatMap];exact .inl ⟨d,hd,hi⟩)) h1,convL_rep hr Z hV hZ n cs ts (fun d hd i hi=>hz i (by simp only[ids,List.mem_append,List.mem_flatMap];exact .inr ⟨d,hd,hi⟩)) h2⟩
 | n+1,.iface t x,v,hz,hd=>by
  simp only[conv,RepD] at hd ⊢
  obtain ⟨u,hv,h1⟩:=hd
  exact ⟨u,hv,conv_rep hr Z hV hZ n x u (fun i hi=>hz i (by simp only[ids];exact hi)) h1⟩
 | n+1,.agg cs,v,hz,hd=>by
  simp only[conv,RepD] at hd ⊢
  obtain ⟨us,hv,h1⟩:=hd
  exact ⟨us,hv,convL_rep hr Z hV hZ n cs us (fun d hd i hi=>hz i (by simp only[ids,List.mem_flatMap];exact ⟨d,hd,hi⟩)) h1⟩
 | n+1,.tuple cs,v,hz,hd=>by
  simp only[conv,RepD] at hd ⊢
  obtain ⟨us,hv,h1⟩:=hd
  exact ⟨us,hv,convL_rep hr Z hV hZ n cs us (fun d hd i hi=>hz i (by simp only[ids,List.mem_flatMap];exact ⟨d,hd,hi⟩)) h1⟩
 | n+1,.any,v,hz,hd=>by simp only[conv,RepD]
theorem convL_rep (hr:RelD C h β V w) (Z:Nat→Prop) (hV:∀ k,V k→V' k) (hZ:∀ (i:Nat) (o:Obj) (k:Nat),Z i→h[i]?=some o→o.live=true→Bk o (β i) k→V' k) :
  ∀ (n:Nat) (ds:List D) (vs:List Value),(∀ d∈ds,∀ i∈ids n d,kp src 0 i=none→Z i)→RepDL h β V w ds vs→RepDL (turnH h src) (turnβ src β) V' w (ds.map (conv h src n)) vs
 | n,[],vs,_,hd=>by simp only[RepDL,List.map_nil] at hd ⊢;exact hd
 | n,d :: ds,vs,hz,hd=>by
  simp only[RepDL,List.map_cons] at hd ⊢
  obtain ⟨v,us,hv,h1,h2⟩:=hd
  exact ⟨v,us,hv,conv_rep hr Z hV hZ n d v (hz d List.mem_cons_self) h1,convL_rep hr Z hV hZ n ds us (fun d hd=>hz d (List.mem_cons_of_mem _ hd)) h2⟩
end

def turnV (h:Heap) (src:List Src) (β:Nat→Value) (V:Nat→Prop):Nat→Prop:=fun k=>V k∨∃ i o,kp src 0 i=none∧h[i]?=some o∧o.live=true∧Bk o (β i) k

theorem turn_d (hr:RelD C h β V w) (n:Nat) (d:D) (v:Value) (hd:RepD h β V w d v):RepD (turnH h src) (turnβ src β) (turnV h src β V) w (conv h src n d) v :=
 conv_rep hr (fun i=>kp src 0 i=none) (fun _ hk=>.inl hk) (fun i o _ h1 h2 h3 h4=>.inr ⟨i,o,h1,h2,h3,h4⟩) n d v (fun _ _ h=>h) hd
theorem turn_dl (hr:RelD C h β V w) (n:Nat) (d:List D) (v:List Value) (hd:RepDL h β V w d v):RepDL (turnH h src) (turnβ src β) (turnV h src β V) w (d.map (conv h src n)) v :=
 convL_rep hr (fun i=>kp src 0 i=none) (fun _ hk=>.inl hk) (fun i o _ h1 h2 h3 h4=>.inr ⟨i,o,h1,h2,h3,h4⟩) n d v (fun _ _ _ _ h=>h) hd

theorem tagT_ok {ts:List (Value × Nat)} (h3:∀ t∈ts,TagOk h β t) {t:Value × Nat} (ht:t∈tagsT src ts):TagOk (turnH h src) (turnβ src β) t:=by
 obtain ⟨q,hq,hk⟩:=tagsT_mem ht
 have hj:src[t.2]?=some (.old q):=(kp_some hk).2
 obtain ⟨o,ho,hb⟩:=h3 _ hq
 refine ⟨turnO h src (.old q),by simp[turnH,hj],fun hl=>?_⟩
 have:turnβ src β t.2=β q:=by simp[turnβ,hj]
 rw[this]
 exact hb (by cases o<;>simp_all [turnO,Obj.live])
theorem turn_rel (hr:RelD C h β V w) (hs:srcOk src=true):RelD C (turnH h src) (turnβ src β) (turnV h src β V) w:=by
 have at_:∀ (j:Nat) (o:Obj),(turnH h src)[j]?=some o→∃ s,src[j]?=some s∧o=turnO h src s:=by
  intro j o hj
  unfold turnH at hj
  rw[List.getElem?_map] at hj
  cases hsj:src[j]? with
  | none=>rw[hsj] at hj;cases hj
  | some s=>rw[hsj] at hj;simp at hj;exact ⟨s,rfl,hj.symm⟩
 have old:∀ (j:Nat) (o:Obj) (k:Nat),(turnH h src)[j]?=some o→o.live=true→Bk o (turnβ src β j) k→∃ i o',src[j]?=some (.old i)∧h[i]?=some o'∧o'.live=true∧Bk o' (β i) k:=by
  intro j o k hj hl hk
  obtain ⟨s,hsj,rfl⟩:=at_ j o hj
  cases s with
  | nil e sz=>simp[turnO,Bk,turnβ,hsj,bk] at hk
  | many0=>simp[turnO,Bk] at hk
  | old i =>
   have hB:turnβ src β j=β i:=by simp[turnβ,hsj]
   rw[hB] at hk
   cases ho:h[i]? with
   | none=>simp[turnO,ho,Obj.live] at hl
   | some o' =>
    cases o' with
    | dead=>simp[turnO,ho,Obj.live] at hl
    | blk cs t=>exact ⟨i,_,hsj,ho,rfl,by simpa only[turnO,ho,Bk] using hk⟩
    | row xs e sz=>exact ⟨i,_,hsj,ho,rfl,by simpa only[turnO,ho,Bk] using hk⟩
    | many l ts=>exact ⟨i,_,hsj,ho,rfl,by simpa only[turnO,ho,Bk] using hk⟩
 refine ⟨?_,?_,?_,?_,?_,?_,?_,hr.fr,hr.gl.move (fun k hk=>⟨.inl hk,rfl⟩)⟩
 ·intro j o hj
  obtain ⟨s,hsj,rfl⟩:=at_ j o hj
  cases s with
  | nil e sz =>
   have hB:turnβ src β j=.slice none 0 0:=by simp[turnβ,hsj]
   refine ⟨[],?_,trivial,fun r hr=>by simp at hr,srcOk_nil hs hsj⟩
   rw[hB]
   exact World.ownsRow_nil w 0 e sz
  | many0 =>
   simp only[turnO,ObjOk]
   exact ⟨fun p hp=>(by simp at hp),List.Pairwise.nil,fun t ht=>(by simp at ht)⟩
  | old i =>
   have hB:turnβ src β j=β i:=by simp[turnβ,hsj]
   cases ho:h[i]? with
   | none=>simp[turnO,ho,ObjOk]
   | some o' =>
    cases o' with
    | dead=>simp[turnO,ho,ObjOk]
    | blk cs t =>
     obtain ⟨g,vs,hb,hg,hc⟩:=hr.obj i _ ho
     simp only[turnO,ho,ObjOk]
     exact ⟨g,vs,hB.trans hb,hg,turn_dl hr 3 _ _ hc⟩
    | row xs e sz =>
     obtain ⟨vs,hown,hv,hx,h0⟩:=hr.obj i _ ho
     simp only[turnO,ho,ObjOk]
     exact ⟨vs,by rw[hB];exact hown,RepL.move (fun k hk=>⟨.inl hk,rfl⟩) _ _ hv,hx,h0⟩
    | many l ts =>
     obtain ⟨h1,h2,h3⟩:=hr.obj i _ ho
     simp only[turnO,ho,ObjOk]
     exact ⟨fun p hp=>(h1 p hp).keep (fun k hk=>⟨.inl hk,rfl⟩) (fun _ _=>rfl),h2,fun t ht=>tagT_ok h3 ht⟩
 ·intro a b o o' k ha hla hb hlb hka hkb
  obtain ⟨i,oi,hi1,hi2,hi3,hi4⟩:=old a o k ha hla hka
  obtain ⟨j,oj,hj1,hj2,hj3,hj4⟩:=old b o' k hb hlb hkb
  have:=hr.sep i j oi oj k hi2 hi3 hj2 hj3 hi4 hj4
  subst this
  exact kp_inj hs hi1 hj1
 ·intro j o k hj hl hk
  obtain ⟨i,oi,hi1,hi2,hi3,hi4⟩:=old j o k hj hl hk
  exact hr.mine i oi k hi2 hi3 hi4
 ·intro j o k hj hl hk hv
  obtain ⟨i,oi,hi1,hi2,hi3,hi4⟩:=old j o k hj hl hk
  rcases hv with hv | ⟨i',o',hn,h1,h2,h3⟩
  ·exact hr.vout i oi k hi2 hi3 hi4 hv
  ·have:=hr.sep i i' oi o' k hi2 hi3 h1 h2 hi4 h3
   subst this
   obtain ⟨q,hq⟩:=kp_of (p:=0) hi1
   rw[hn] at hq
   cases hq
 ·intro k hk
  rcases hk with hk | ⟨i,o,_,h1,h2,h3⟩
  ·exact hr.vlt k hk
  ·exact hr.lt h1 h2 h3
 ·intro k hk
  exact .inl (hr.vin k hk)
 ·intro k hk
  rcases hk with hk | ⟨i,o,_,h1,h2,h3⟩
  ·exact hr.vnew k hk
  ·exact .inr (hr.mine i o k h1 h2 h3)
end

def likeL (R:D→D→Prop):List D→List D→Prop
 | [],[]=>True
 | d :: ds,e :: es=>R d e∧likeL R ds es
 | _,_=>False
def Like (N:Nat→Bool):Nat→D→D→Prop
 | 0,d,d'=>d=d'
 | n+1,d,d'=>d=d'∨match d,d' with
  | _,.any=>True
  | .pb p,.pb q=>(p↔q)
  | .pb p,.g (.bool b)=>(b=true↔p)
  | .pn p,.pb q=>(¬p↔q)
  | .pn p,.g (.bool b)=>(b=true↔¬p)
  | .g (.bool b),.pb q=>(b=true↔q)
  | .g (.int a),.g (.int b)=>a=b
  | .g (.str a),.g (.str b)=>a=b
  | .g (.sl k a),.g (.sl k' b)=>k=k'∧a=b
  | .nils,.g (.sl _ xs)=>xs=[]
  | .nils,.row j=>N j=true
  | .agg cs,.agg ds=>likeL (Like N n) cs ds
  | .tuple cs,.tuple ds=>likeL (Like N n) cs ds
  | .fn f fs cs,.fn g gs ds=>f=g∧likeL (Like N n) fs gs∧likeL (Like N n) cs ds
  | .iface t x,.iface t' x'=>t=t'∧Like N n x x'
  | _,_=>False

section
variable {h:Heap} {β:Nat→Value} {V:Nat→Prop} {w:World} {N:Nat→Bool}
theorem likeL_rep {R:D→D→Prop} (hR:∀ d d' v,R d d'→RepD h β V w d v→RepD h β V w d' v):∀ (ds es:List D) (vs:List Value),likeL R ds es→RepDL h β V w ds vs→RepDL h β V w es vs
 | [],[],vs,_,hr=>hr
 | [],_ :: _,_,hl,_=>hl.elim
 | _ :: _,[],_,hl,_=>hl.elim
 | d :: ds,e :: es,vs,hl,hr=>by
  simp only[RepDL] at hr ⊢
  obtain ⟨v,us,hv,h1,h2⟩:=hr
  exact ⟨v,us,hv,hR d e v hl.1 h1,likeL_rep hR ds es us hl.2 h2⟩
theorem like_rep (hN:∀ j,N j=true→β j=.slice none 0 0∧∃ xs e sz,h[j]?=some (.row xs e sz)):∀ (n:Nat) (d d':D) (v:Value),Like N n d d'→RepD h β V w d v→RepD h β V w d' v:=by
 intro n
 induction n with
 | zero=>intro d d' v hl hr;simp only[Like] at hl;subst hl;exact hr
 | succ n ih =>
  intro d d' v hl hr
  simp only[Like] at hl
  rcases hl with rfl | hl
  ·exact hr
  ·split at hl
   ·simp only[RepD]
   ·simp only[RepD] at hr ⊢;obtain ⟨b,hv,hb⟩:=hr;exact ⟨b,hv,hb.trans hl⟩
   ·simp only[RepD] at hr ⊢
    obtain ⟨b,hv,hb⟩:=hr
    rename_i p c
    have:b=c:=by cases b<;>cases c<;>simp_all
    subst this
    simpa [RepV] using hv
   ·simp only[RepD] at hr ⊢;obtain ⟨b,hv,hb⟩:=hr;exact ⟨b,hv,hb.trans hl⟩
   ·simp only[RepD] at hr ⊢
    obtain ⟨b,hv,hb⟩:=hr
    rename_i p c
    have:b=c:=by
     have:=hb.trans hl.symm
     cases b<;>cases c<;>simp_all
    subst this
    simpa [RepV] using hv
   ·simp only[RepD,RepV] at hr ⊢;exact ⟨_,hr,hl⟩
   ·subst hl;exact hr
   ·subst hl;exact hr
   ·obtain ⟨rfl,rfl⟩:=hl;exact hr
   ·subst hl
    simp only[RepD] at hr ⊢
    subst hr
    exact RepV.sl_nil _
   ·simp only[RepD] at hr ⊢
    obtain ⟨h1,xs,e,sz,h2⟩:=hN _ hl
    rw[h2,hr,h1]
   ·simp only[RepD] at hr ⊢;obtain ⟨us,hv,h1⟩:=hr;exact ⟨us,hv,likeL_rep ih _ _ _ hl h1⟩
   ·simp only[RepD] at hr ⊢;obtain ⟨us,hv,h1⟩:=hr;exact ⟨us,hv,likeL_rep ih _ _ _ hl h1⟩
   ·obtain ⟨rfl,l1,l2⟩:=hl
    simp only[RepD] at hr ⊢;obtain ⟨us,ts,hv,h1,h2⟩:=hr;exact ⟨us,ts,hv,likeL_rep ih _ _ _ l1 h1,likeL_rep ih _ _ _ l2 h2⟩
   ·obtain ⟨rfl,l1⟩:=hl
    simp only[RepD] at hr ⊢;obtain ⟨us,hv,h1⟩:=hr;exact ⟨us,hv,ih _ _ _ l1 h1⟩
   ·exact hl.elim
end
def N0:Nat→Bool:=fun _=>false
def likeA (ds es:List D):Prop:=ds=es∨likeL (Like N0 4) ds es
theorem likeA_rep {h:Heap} {β:Nat→Value} {V:Nat→Prop} {w:World} {ds es:List D} {vs:List Value} (hl:likeA ds es) (hr:RepDL h β V w ds vs):RepDL h β V w es vs:=by
 rcases hl with rfl | hl
 ·exact hr
 ·exact likeL_rep (like_rep (N:=N0) (fun j h=>by cases h) 4) _ _ _ hl hr

def likeO (N:Nat→Bool):Obj→Obj→Prop
 | _,.dead=>True
 | .blk cs t,.blk ds t'=>t=t'∧(cs=ds∨likeL (Like N 4) cs ds)
 | .row xs e sz,.row ys e' sz'=>xs=ys∧e=e'∧sz=sz'
 | .many l ts,.many l' ts'=>l.Perm l'∧ts=ts'
 | _,_=>False
def likeH (N:Nat→Bool):Heap→Heap→Prop
 | [],[]=>True
 | a :: l,b :: m=>likeO N a b∧likeH N l m
 | _,_=>False
theorem likeH_at {N:Nat→Bool}:∀ {h h':Heap},likeH N h h'→(∀ (i:Nat) (o:Obj),h[i]?=some o→∃ o',h'[i]?=some o'∧likeO N o o')∧∀ (i:Nat) (o':Obj),h'[i]?=some o'→∃ o,h[i]?=some o∧likeO N o o'
 | [],[],_=>⟨fun i o h=>by simp at h,fun i o h=>by simp at h⟩
 | [],_ :: _,h=>h.elim
 | _ :: _,[],h=>h.elim
 | a :: l,b :: m,h=>by
  obtain ⟨h1,h2⟩:=likeH_at h.2
  refine ⟨fun i o hi=>?_,fun i o hi=>?_⟩
  ·cases i with
   | zero=>simp at hi;subst hi;exact ⟨b,rfl,h.1⟩
   | succ i=>obtain ⟨o',h3,h4⟩:=h1 i o (by simpa using hi);exact ⟨o',by simpa using h3,h4⟩
  ·cases i with
   | zero=>simp at hi;subst hi;exact ⟨a,rfl,h.1⟩
   | succ i=>obtain ⟨o',h3,h4⟩:=h2 i o (by simpa using hi);exact ⟨o',by simpa using h3,h4⟩
theorem likeO_le {N:Nat→Bool} {o o':Obj} (h:likeO N o o'):OLe o o':=by
 cases o<;>cases o'<;>simp_all [likeO,OLe]
theorem likeO_live {N:Nat→Bool} {o o':Obj} (h:likeO N o o') (hl:o'.live=true):o.live=true:=by
 cases o<;>cases o'<;>simp_all [likeO,Obj.live]
theorem likeO_Bk {N:Nat→Bool} {o o':Obj} (h:likeO N o o') (hl:o'.live=true) {v:Value} {k:Nat} (hk:Bk o' v k):Bk o v k:=by
 cases o' with
 | dead=>cases hl
 | blk cs t=>cases o<;>first | exact h.elim | exact hk
 | row xs e sz=>cases o<;>first | exact h.elim | exact hk
 | many l ts =>
  cases o with
  | many l' ts' =>
   obtain ⟨p,h1,h2⟩:=hk
   exact ⟨p,h.1.mem_iff.2 h1,h2⟩
  | _=>exact h.elim
theorem Apart.symm {p q:Value × Ob0} (h:Apart p q):Apart q p:=fun k hq hp=>h k hp hq
theorem likeH_le {N:Nat→Bool} {h h':Heap} {β:Nat→Value} (hl:likeH N h h'):LeH h β h' β:=fun i o hi=>by
 obtain ⟨o',h1,h2⟩:=(likeH_at hl).1 i o hi
 exact ⟨o',h1,likeO_le h2,fun _=>rfl⟩
theorem likeH_rel {N:Nat→Bool} {C:Ctx} {h h':Heap} {β:Nat→Value} {V:Nat→Prop} {w:World} (hr:RelD C h β V w) (hl:likeH N h h') (hN:∀ j,N j=true→β j=.slice none 0 0∧∃ xs e sz,h[j]?=some (.row xs e sz)) (hN':∀ j,N j=true→∃ xs e sz,h'[j]?=some (.row xs e sz)):RelD C h' β V w:=by
 have hle:LeH h β h' β:=likeH_le hl
 refine ⟨fun i o' hi=>?_,fun i j o o' k hi hli hj hlj hki hkj=>?_,fun i o k hi hli hk=>?_,fun i o k hi hli hk=>?_,hr.vlt,hr.vin,hr.vnew,hr.fr,hr.gl⟩
 ·obtain ⟨o,ho,hlo⟩:=(likeH_at hl).2 i o' hi
  have hob:=hr.obj i o ho
  cases o' with
  | dead=>trivial
  | blk ds t' =>
   cases o with
   | blk cs t =>
    obtain ⟨rfl,hcs⟩:=hlo
    obtain ⟨g,vs,hb,hg,hc⟩:=hob
    refine ⟨g,vs,hb,hg,?_⟩
    have hc':=RepDL.mono hle (Moved.refl V w) _ _ hc
    rcases hcs with rfl | hcs
    ·exact hc'
    ·exact likeL_rep (like_rep (N:=N) (fun j hj=>⟨(hN j hj).1,hN' j hj⟩) 4) _ _ _ hcs hc'
   | _=>exact hlo.elim
  | row ys e' sz' =>
   cases o with
   | row xs e sz=>obtain ⟨rfl,rfl,rfl⟩:=hlo;exact hob
   | _=>exact hlo.elim
  | many l' ts' =>
   cases o with
   | many l ts =>
    obtain ⟨hp,rfl⟩:=hlo
    exact ⟨fun p hp'=>hob.1 p (hp.mem_iff.2 hp'),(hp.pairwise_iff (fun h=>h.symm)).1 hob.2.1,fun t ht=>(hob.2.2 t ht).le hle⟩
   | _=>exact hlo.elim
 ·obtain ⟨a,ha,hla⟩:=(likeH_at hl).2 i o hi
  obtain ⟨b,hb,hlb⟩:=(likeH_at hl).2 j o' hj
  exact hr.sep i j a b k ha (likeO_live hla hli) hb (likeO_live hlb hlj) (likeO_Bk hla hli hki) (likeO_Bk hlb hlj hkj)
 ·obtain ⟨a,ha,hla⟩:=(likeH_at hl).2 i o hi
  exact hr.mine i a k ha (likeO_live hla hli) (likeO_Bk hla hli hk)
 ·obtain ⟨a,ha,hla⟩:=(likeH_at hl).2 i o hi
  exact hr.vout i a k ha (likeO_live hla hli) (likeO_Bk hla hli hk)

def newN (src:List Src) (j:Nat):Bool:=match src[j]? with
 | some (.nil _ _)=>true
 | _=>false
theorem newN_ok {h:Heap} {src:List Src} {β:Nat→Value} {j:Nat} (hj:newN src j=true):turnβ src β j=.slice none 0 0∧∃ xs e sz,(turnH h src)[j]?=some (.row xs e sz):=by
 unfold newN at hj
 split at hj
 ·rename_i e sz hs
  exact ⟨by simp[turnβ,hs],[],e,sz,by simp[turnH,hs,turnO]⟩
 ·cases hj

def nrOk:List Src→Heap→Bool
 | [],_=>true
 | .old _ :: l,_ :: h=>nrOk l h
 | .nil _ _ :: l,.row _ _ _ :: h=>nrOk l h
 | .many0 :: l,_ :: h=>nrOk l h
 | _,_=>false
theorem nrOk_at:∀ {src:List Src} {h:Heap},nrOk src h=true→∀ j,newN src j=true→∃ xs e sz,h[j]?=some (.row xs e sz)
 | [],h,_,j,hj=>by simp[newN] at hj
 | .old i :: l,[],hn,_,_=>by simp[nrOk] at hn
 | .old i :: l,o :: h,hn,0,hj=>by simp[newN] at hj
 | .old i :: l,o :: h,hn,j+1,hj=>by
  simp only[nrOk] at hn
  obtain ⟨xs,e,sz,h1⟩:=nrOk_at hn j (by simpa [newN] using hj)
  exact ⟨xs,e,sz,by simpa using h1⟩
 | .many0 :: l,[],hn,_,_=>by simp[nrOk] at hn
 | .many0 :: l,o :: h,hn,0,hj=>by simp[newN] at hj
 | .many0 :: l,o :: h,hn,j+1,hj=>by
  simp only[nrOk] at hn
  obtain ⟨xs,e,sz,h1⟩:=nrOk_at hn j (by simpa [newN] using hj)
  exact ⟨xs,e,sz,by simpa using h1⟩
 | .nil e sz :: l,h,hn,j,hj=>by
  cases h with
  | nil=>simp[nrOk] at hn
  | cons o h =>
   cases o with
   | row xs e' sz' =>
    cases j with
    | zero=>exact ⟨xs,e',sz',rfl⟩
    | succ j =>
     simp only[nrOk] at hn
     obtain ⟨xs,e,sz,h1⟩:=nrOk_at hn j (by simpa [newN] using hj)
     exact ⟨xs,e,sz,by simpa using h1⟩
   | _=>simp[nrOk] at hn
theorem likeH_refl (N:Nat→Bool):∀ h:Heap,likeH N h h
 | []=>trivial
 | .blk cs t :: h=>⟨⟨rfl,.inl rfl⟩,likeH_refl N h⟩
 | .row xs e sz :: h=>⟨⟨rfl,rfl,rfl⟩,likeH_refl N h⟩
 | .many l ts :: h=>⟨⟨List.Perm.refl _,rfl⟩,likeH_refl N h⟩
 | .dead :: h=>⟨by simp[likeO],likeH_refl N h⟩

structure TurnTo (h:Heap) (src:List Src) (ds:List D) (h':Heap) (ds':List D):Prop where
 ok:srcOk src=true
 hp:turnH h src=h'∨likeH (newN src) (turnH h src) h'
 dl:ds.map (conv h src 4)=ds'∨likeL (Like (newN src) 4) (ds.map (conv h src 4)) ds'
 nr:nrOk src h'=true
theorem TurnTo.use {h h':Heap} {src:List Src} {ds ds':List D} (ht:TurnTo h src ds h' ds') {C:Ctx} {β:Nat→Value} {V:Nat→Prop} {w:World} (hr:RelD C h β V w) {vs:List Value} (hd:RepDL h β V w ds vs) :
  RelD C h' (turnβ src β) (turnV h src β V) w∧RepDL h' (turnβ src β) (turnV h src β V) w ds' vs:=by
 have h1:=turn_rel (src:=src) hr ht.ok
 have h2:=turn_dl (src:=src) hr 4 _ _ hd
 have hhp:likeH (newN src) (turnH h src) h':=by
  rcases ht.hp with e | e
  ·rw[← e];exact likeH_refl _ _
  ·exact e
 have h3:=likeH_rel h1 hhp (fun j hj=>newN_ok hj) (nrOk_at ht.nr)
 refine ⟨h3,?_⟩
 have h4:=RepDL.mono (likeH_le (β:=turnβ src β) hhp) (Moved.refl _ w) _ _ h2
 rcases ht.dl with h | h
 ·rw[← h];exact h4
 ·exact likeL_rep (like_rep (N:=newN src) (fun j hj=>⟨(newN_ok (h:=[]) hj).1,nrOk_at ht.nr j hj⟩) 4) _ _ _ h h4
theorem lk {N:Nat→Bool} {n:Nat} {d d':D} (e:d=d'):Like N (n+1) d d':=.inl e
theorem lkI {N:Nat→Bool} {n:Nat} {a b:Int} (e:a=b):Like N (n+1) (.g (.int a)) (.g (.int b)):=.inr e
theorem lkS {N:Nat→Bool} {n:Nat} {a b:List UInt8} (e:a=b):Like N (n+1) (.g (.str a)) (.g (.str b)):=.inr e
theorem lkL {N:Nat→Bool} {n k:Nat} {a b:List (List GV)} (e:a=b):Like N (n+1) (.g (.sl k a)) (.g (.sl k b)):=.inr ⟨rfl,e⟩
theorem lkP {N:Nat→Bool} {n:Nat} {a b:Prop} (e:a↔b):Like N (n+1) (.pb a) (.pb b):=.inr e
theorem lkNP {N:Nat→Bool} {n:Nat} {a b:Prop} (e:¬a↔b):Like N (n+1) (.pn a) (.pb b):=.inr e
theorem lkPB {N:Nat→Bool} {n:Nat} {p:Prop} {b:Bool} (e:b=true↔p):Like N (n+1) (.pb p) (.g (.bool b)):=.inr e
theorem lkBP {N:Nat→Bool} {n:Nat} {p:Prop} {b:Bool} (e:b=true↔p):Like N (n+1) (.g (.bool b)) (.pb p):=.inr e
theorem lkA {N:Nat→Bool} {n:Nat} (d:D):Like N (n+1) d .any:=.inr trivial
theorem lkNil {N:Nat→Bool} {n k:Nat}:Like N (n+1) .nils (.g (.sl k [])):=.inr rfl
end Go.Dm
/-
  The second engine, fourth part: what each operation asks. It holds of every program whose table of types is met.
-/
namespace Go.Dm
open Go Go.Eng Go.RowKit

def I64 (x:Int):Prop:=-9223372036854775808≤x∧x≤9223372036854775807
theorem I64.wrap {x:Int} (h:I64 x):IntKind.i64.wrap x=x:=isI64.of h.1 h.2

def of1:Value→D
 | .int .i64 n=>.g (.int n)
 | .int .u8 n=>.g (.u8 n)
 | .bool b=>.g (.bool b)
 | .string s=>.g (.str s.data.toList)
 | .slice none 0 0=>.nils
 | .pointer none=>.nilP
 | .nilFunc=>.nilF
 | .nilIface=>.nilI
 | _=>.any
def ofV:Value→D
 | .agg ⟨cs⟩=>.agg (cs.map of1)
 | v=>of1 v

abbrev Env:=Nat→D
def Env.set (e:Env) (d:Nat) (x:D):Env:=fun i=>bif Nat.beq i d then x else e i

structure St where
 env:Env
 h:Heap
 df:List Deferred

def glD:Gl→Nat→D
 | [],_=>.any
 | (b',cs) :: l,b=>bif Nat.beq b' b then .fp cs 0 else glD l b
def sv (G:Gl) (st:St):Operand→D
 | .tmp t=>st.env t
 | .const v=>ofV v
 | .global b=>glD G b
 | .func f=>.fn f [] []

def flat1 (h:Heap):D→Bool
 | .agg _ | .any | .tuple _=>false
 | .row i | .rs i _ _ | .el i _ _=>match h[i]? with
  | some (.row _ _ _)=>true
  | _=>false
 | .ptr i _=>match h[i]? with
  | some (.blk _ _)=>true
  | _=>false
 | _=>true
def flatD (h:Heap):List D→Bool
 | []=>true
 | d :: ds=>flat1 h d && flatD h ds
def cellsD (h:Heap):D→Option (List D)
 | .agg cs=>bif flatD h cs then some cs else none
 | d=>bif flat1 h d then some [d] else none

def setL {α:Type}:List α→Nat→List α→List α
 | l,_,[]=>l
 | l,k,v :: vs=>setL (l.set k v) (k+1) vs

def fillD (place:Nat→Option (Nat × Nat)):List D→List (Nat × List D)→Option (List D)
 | cs,[]=>some cs
 | cs,(i,v) :: rest =>
  match place i with
  | none=>none
  | some (off,size)=>bif Nat.beq v.length size && Nat.ble (off+size) cs.length then fillD place (setL cs off v) rest else none
def seqOk (sz:Nat):Nat→List (Nat × List D)→Nat→Bool
 | i,[],len=>Nat.beq i len
 | i,(j,v) :: l,len=>Nat.beq j i && (Nat.beq v.length sz && seqOk sz (i+1) l len)
def flatP:List (Nat × List D)→List D
 | []=>[]
 | (_,v) :: l=>v++flatP l
def partsD (h:Heap) (f:Operand→D):List (Nat × Operand)→Option (List (Nat × List D))
 | []=>some []
 | (i,o) :: l=>match cellsD h (f o),partsD h f l with
  | some ds,some r=>some ((i,ds) :: r)
  | _,_=>none
def repD (z:List D):Nat→List D
 | 0=>[]
 | n+1=>z++repD z n

def fillS (sz:Nat) (z:List D) (len:Nat) (ps:List (Nat × List D)):Option (List D):=bif seqOk sz 0 ps len then some (flatP ps) else fillD (fun i=>some (i*sz,sz)) (repD z len) ps
def Sees (h:Heap):D→GV→Prop
 | .g x,y=>x=y
 | .pb p,y=>∃ b,y=.bool b∧(b=true↔p)
 | .pn p,y=>∃ b,y=.bool b∧(b=true↔¬p)
 | .nils,y=>∃ k,y=.sl k []
 | .row i,y=>match h[i]? with
  | some (.row xs _ sz)=>.sl sz xs=y
  | _=>False
 | .rs i lo n,y=>match h[i]? with
  | some (.row xs _ sz)=>.sl sz ((xs.drop lo).take n)=y
  | _=>False
 | _,_=>False
def SeesL (h:Heap):List D→List GV→Prop
 | [],[]=>True
 | d :: ds,y :: ys=>Sees h d y∧SeesL h ds ys
 | _,_=>False
def allLen (sz:Nat):List (List GV)→Bool
 | []=>true
 | r :: l=>Nat.beq r.length sz && allLen sz l

def kills (h:Heap):List Nat→Heap
 | []=>h
 | i :: l=>kills (h.set i .dead) l
def idsL:List D→List Nat
 | []=>[]
 | d :: l=>ids 4 d++idsL l

def memFree:Nat→D→Bool
 | 0,_=>false
 | n+1,d=>match d with
  | .g (.int _) | .g (.str _) | .g (.bool _) | .g (.u8 _) | .pb _ | .pn _ | .nils | .nilP | .nilF | .nilI=>true
  | .tuple ds | .agg ds=>ds.all (memFree n)
  | .iface _ x=>memFree n x
  | _=>false
def sh (m:Nat):Nat→D→D
 | 0,_=>.any
 | n+1,d=>match d with
  | .row i=>.row (i+m)
  | .rs i lo k=>.rs (i+m) lo k
  | .ptr i off=>.ptr (i+m) off
  | .el i j off=>.el (i+m) j off
  | .fn f fs cs=>.fn f (fs.map (sh m n)) (cs.map (sh m n))
  | .iface t x=>.iface t (sh m n x)
  | .agg cs=>.agg (cs.map (sh m n))
  | .tuple cs=>.tuple (cs.map (sh m n))
  | d=>d
def rnT (f:Nat→Nat):List (Value × Nat)→List (Value × Nat)
 | []=>[]
 | (v,q) :: l=>(v,f q) :: rnT f l
def shO (m:Nat):Obj→Obj
 | .blk cs t=>.blk (cs.map (sh m 4)) t
 | .many l ts=>.many l (rnT (·+m) ts)
 | o=>o
def isNil {α:Type}:List α→Bool
 | []=>true
 | _=>false
def after (h:Heap) (l:List Nat) (d:D) (h':Heap):Heap:=bif memFree 4 d && isNil h' then h else kills h l++h'.map (shO h.length)

abbrev KD:=D→Heap→Prop
inductive Out where
 | ret (d:D) (h:Heap)
 | pan (d:D)
 | panH (d:D) (h:Heap)

def rnD (f:Nat→Nat):Nat→D→D
 | 0,_=>.any
 | n+1,d=>match d with
  | .row i=>.row (f i)
  | .rs i lo k=>.rs (f i) lo k
  | .ptr i off=>.ptr (f i) off
  | .el i j off=>.el (f i) j off
  | .fn g fs cs=>.fn g (fs.map (rnD f n)) (cs.map (rnD f n))
  | .iface t x=>.iface t (rnD f n x)
  | .agg cs=>.agg (cs.map (rnD f n))
  | .tuple cs=>.tuple (cs.map (rnD f n))
  | d=>d
def rnO (f:Nat→Nat):Obj→Obj
 | .blk cs t=>.blk (cs.map (rnD f 4)) t
 | .many l ts=>.many l (rnT f ts)
 | o=>o
def atN:List Nat→Nat→Nat
 | [],_=>0
 | a :: _,0=>a
 | _ :: l,n+1=>atN l n
def rnI (σ:List Nat) (b n i:Nat):Nat:=bif Nat.blt i b then atN σ i else i - b+n
def putE (src:List Src) (b:Nat) (f:Nat→Nat) (h':Heap) (p:Nat) (o:Obj):Obj:=match kp src 0 p with
 | none=>o
 | some k=>bif Nat.blt k b then (match h'[k]? with | some o'=>rnO f o' | none=>.dead) else .dead
def putO (src:List Src) (b:Nat) (f:Nat→Nat) (h':Heap):Nat→Heap→Heap
 | _,[]=>[]
 | p,o :: l=>putE src b f h' p o :: putO src b f h' (p+1) l
def putH (h:Heap) (σ:List Nat) (b:Nat) (h':Heap):Heap :=
 putO (σ.map .old) b (rnI σ b h.length) h' 0 h++(h'.drop b).map (rnO (rnI σ b h.length))
def inσ:List Nat→Nat→Bool
 | [],_=>false
 | a :: l,i=>Nat.beq a i || inσ l i
def idsO:Obj→List Nat
 | .blk cs _=>idsL cs
 | .many _ ts=>ts.map (·.2)
 | _=>[]
def orS (b:Bool) (A B:Prop):Prop:=bif b then A∨B else A
theorem orS_l {b:Bool} {A B:Prop} (h:A):orS b A B:=by cases b with | true=>exact Or.inl h | false=>exact h
theorem orS_get {b:Bool} {A B:Prop} (h:orS b A B):A∨B:=by cases b with | true=>exact h | false=>exact Or.inl h
def hasMany:Heap→Bool
 | []=>false
 | .many _ _ :: _=>true
 | _ :: l=>hasMany l
def isBlk (h:Heap) (i:Nat):Bool:=match h[i]? with
 | some (.blk _ _)=>true
 | _=>false
def closedσ (h:Heap) (σ:List Nat) (all:List D):Bool:=(idsL all).all (inσ σ) && σ.all fun i=>match h[i]? with
 | some o=>(idsO o).all (inσ σ)
 | none=>false

def PostC (G:Gl) (Q:Out→Prop) (V:Nat→Prop) (w:World):Ending→World→Prop
 | .returned v,w'=>∃ d h' β' V',Q (.ret d h')∧RelD ⟨w,fun _=>False,V,G⟩ h' β' V' w'∧RepD h' β' V' w' d v
 | .panicked ch,w'=>∃ d t u β' V',ch=[{ v:=.iface t u,recovered:=false }]∧Q (.pan d)∧RelD ⟨w,fun _=>False,V,G⟩ [] β' V' w'∧RepD [] β' V' w' d (.iface t u)
 | .outgrown,_=>False

def CT (P:Program) (G:Gl) (g:FuncId) (as:List D) (Q:Out→Prop):Prop :=
 ∀ (w:World) (V:Nat→Prop) (vals:List Value),(∀ k,V k→k < w.heap.size)→GlOk G V w→RepDL [] (fun _=>undef) V w as vals→Calls P g ⟨vals⟩ w (PostC G Q V w)
def ownB (h:Heap) (β:Nat→Value) (k:Nat):Prop:=∃ i o,h[i]?=some o∧o.live=true∧Bk o (β i) k
def Stays (h h':Heap) (β β':Nat→Value) (i:Nat):Prop:=(∃ o o',h[i]?=some o∧h'[i]?=some o'∧OLe o o'∧o'.live=true)∧β' i=β i
def PostH (G:Gl) (Q:Out→Prop) (b:Nat) (hin:Heap) (β:Nat→Value) (V:Nat→Prop) (w:World):Ending→World→Prop
 | .returned v,w'=>∃ d h' β' V',Q (.ret d h')∧RelD ⟨w,ownB hin β,V,G⟩ h' β' V' w'∧RepD h' β' V' w' d v∧∀ i,i < b→Stays hin h' β β' i
 | .panicked ch,w'=>∃ d h' t u β' V',ch=[{ v:=.iface t u,recovered:=false }]∧Q (.panH d h')∧RelD ⟨w,ownB hin β,V,G⟩ h' β' V' w'∧RepD h' β' V' w' d (.iface t u)∧∀ i,i < b→Stays hin h' β β' i
 | .outgrown,_=>False
def CTH (P:Program) (G:Gl) (g:FuncId) (b:Nat) (hin:Heap) (as:List D) (Q:Out→Prop):Prop :=
 ∀ (w:World) (β:Nat→Value) (V:Nat→Prop) (vals:List Value),RelD ⟨w,ownB hin β,V,G⟩ hin β V w→RepDL hin β V w as vals→Calls P g ⟨vals⟩ w (PostH G Q b hin β V w)
def SemCall (P:Program) (G:Gl) (g:FuncId) (all:List D) (h:Heap) (K Qp:KD):Prop :=
 ∀ (C:Ctx) (w:World) (β:Nat→Value) (V:Nat→Prop) (vals:List Value),C.G=G→RelD C h β V w→RepDL h β V w all vals→Calls P g ⟨vals⟩ w fun
  | .returned v,w'=>∃ d h' β' V',K d h'∧RelD C h' β' V' w'∧RepD h' β' V' w' d v∧LeH h β h' β'∧Moved V w V' w'
  | .panicked ch,w'=>∃ d h' t u β' V',ch=[{ v:=.iface t u,recovered:=false }]∧Qp d h'∧RelD C h' β' V' w'∧RepD h' β' V' w' d (.iface t u)∧LeH h β h' β'∧Moved V w V' w'
  | .outgrown,_=>False
def CTR (P:Program) (G:Gl) (g:FuncId) (all:List D) (h:Heap) (d:D):Prop :=
 ∀ (C:Ctx) (w:World) (β:Nat→Value) (V:Nat→Prop) (vals:List Value),C.G=G→RelD C h β V w→RepDL h β V w all vals→Calls P g ⟨vals⟩ w fun
  | .returned v,w'=>RelD C h β V w'∧RepD h β V w' d v∧Moved V w V w'
  | _,_=>False
def Is (d:D):Out→Prop:=fun o=>o=.ret d []

def OwnCall (P:Program) (G:Gl) (g:FuncId) (all:List D) (h:Heap) (K Qp:KD):Prop :=
 ∃ (σ:List Nat) (b:Nat) (hin:Heap) (as:List D) (Q:Out→Prop),closedσ h σ all=true∧Nat.ble b σ.length=true∧TurnTo h (σ.map .old) all hin as∧CTH P G g b hin as Q ∧
  (∀ d h',Q (.ret d h')→K (rnD (rnI σ b h.length) 4 d) (putH h σ b h'))∧(∀ d h',Q (.panH d h')→Qp (rnD (rnI σ b h.length) 4 d) (putH h σ b h'))

def bcase (c:D) (A B:Prop):Prop :=
 match c with
 | .g (.bool true)=>A
 | .g (.bool false)=>B
 | .pb p=>(p→A)∧(¬p→B)
 | .pn p=>(¬p→A)∧(p→B)
 | _=>False

def vcBin (op:BinOp) (x y:D) (K:D→Prop):Prop :=
 match op,x,y with
 | .add,.g (.int a),.g (.int b)=>∃ c,IntKind.i64.wrap (a+b)=c∧K (.g (.int c))
 | .sub,.g (.int a),.g (.int b)=>I64 (a - b)∧K (.g (.int (a - b)))
 | .mul,.g (.int a),.g (.int b)=>I64 (a*b)∧K (.g (.int (a*b)))
 | .add,.g (.u8 a),.g (.u8 b)=>K (.g (.u8 (IntKind.u8.wrap (a+b))))
 | .sub,.g (.u8 a),.g (.u8 b)=>K (.g (.u8 (IntKind.u8.wrap (a - b))))
 | .quo,.g (.int a),.g (.int b)=>b≠0∧I64 (a.tdiv b)∧K (.g (.int (a.tdiv b)))
 | .rem,.g (.int a),.g (.int b)=>b≠0∧K (.g (.int (a.tmod b)))
 | .and,.g (.int a),.g (.int b)=>∃ c,(Op.intBits .and .i64 a b=pure (.int .i64 c))∧K (.g (.int c))
 | .or,.g (.int a),.g (.int b)=>∃ c,(Op.intBits .or .i64 a b=pure (.int .i64 c))∧K (.g (.int c))
 | .xor,.g (.int a),.g (.int b)=>∃ c,(Op.intBits .xor .i64 a b=pure (.int .i64 c))∧K (.g (.int c))
 | .shl,.g (.int a),.g (.int b)=>0≤b∧I64 (a*2 ^ (min b.toNat 64))∧K (.g (.int (a*2 ^ (min b.toNat 64))))
 | .shr,.g (.int a),.g (.int b)=>0≤b∧K (.g (.int (a.fdiv (2 ^ (min b.toNat 64)))))
 | .eql,.g (.int a),.g (.int b)=>K (.pb (a=b))
 | .neq,.g (.int a),.g (.int b)=>K (.pn (a=b))
 | .lss,.g (.int a),.g (.int b)=>K (.pb (a < b))
 | .leq,.g (.int a),.g (.int b)=>K (.pb (a≤b))
 | .gtr,.g (.int a),.g (.int b)=>K (.pb (b < a))
 | .geq,.g (.int a),.g (.int b)=>K (.pb (b≤a))
 | .eql,.g (.u8 a),.g (.u8 b)=>K (.pb (a=b))
 | .neq,.g (.u8 a),.g (.u8 b)=>K (.pn (a=b))
 | .lss,.g (.u8 a),.g (.u8 b)=>K (.pb (a < b))
 | .leq,.g (.u8 a),.g (.u8 b)=>K (.pb (a≤b))
 | .gtr,.g (.u8 a),.g (.u8 b)=>K (.pb (b < a))
 | .geq,.g (.u8 a),.g (.u8 b)=>K (.pb (b≤a))
 | .eql,.g (.str a),.g (.str b)=>K (.pb (a=b))
 | .neq,.g (.str a),.g (.str b)=>K (.pn (a=b))
 | .add,.g (.str a),.g (.str b)=>a.length+b.length≤9223372036854775807∧K (.g (.str (a++b)))
 | _,_,_=>False

def vcNil (op:BinOp) (x y:D) (K:D→Prop):Prop :=
 match op,x,y with
 | .eql,.g (.sl _ xs),.nils=>∀ p:Prop,(p→xs=[])→K (.pb p)
 | .neq,.g (.sl _ xs),.nils=>∀ p:Prop,(p→xs=[])→K (.pn p)
 | .eql,.nils,.nils=>K (.g (.bool true))
 | .neq,.nils,.nils=>K (.g (.bool false))
 | _,_,_=>False
def kindV:Nat→Value→Prop
 | 0,.int .i64 _=>True
 | 1,.string _=>True
 | 2,.bool _=>True
 | _,_=>False
def kindL:List Nat→List Value→Prop
 | [],[]=>True
 | k :: ks,v :: vs=>kindV k v∧kindL ks vs
 | _,_=>False
def StEq (P:Program) (t:TypeId) (ks:List Nat):Prop :=
 ∀ (xs ys:List Value) (op:BinOp) (ox oy:Operand) (w:World),kindL ks xs→kindL ks ys→(op=.eql∨op=.neq) →
  ∃ b:Bool,(do eqGuard op t ox oy (.agg ⟨xs⟩) (.agg ⟨ys⟩);binOp op t (.agg ⟨xs⟩) (.agg ⟨ys⟩)).run P w=.ok (.bool b) w∧(op=.eql→(b=true↔xs=ys))∧(op=.neq→(b=true↔¬xs=ys))
def eqCs:List D→List D→Option (List Nat × Prop)
 | [],[]=>some ([],True)
 | .g (.int a) :: l,.g (.int b) :: m=>match eqCs l m with
  | some (ks,p)=>some (0 :: ks,a=b∧p)
  | none=>none
 | .g (.str a) :: l,.g (.str b) :: m=>match eqCs l m with
  | some (ks,p)=>some (1 :: ks,a=b∧p)
  | none=>none
 | .g (.bool a) :: l,.g (.bool b) :: m=>match eqCs l m with
  | some (ks,p)=>some (2 :: ks,a=b∧p)
  | none=>none
 | _,_=>none
def vcStEq (P:Program) (t:TypeId) (op:BinOp) (x y:D) (K:D→Prop):Prop :=
 match op,x,y with
 | .eql,.agg cs,.agg ds=>match eqCs cs ds with
  | some (ks,p)=>StEq P t ks∧K (.pb p)
  | none=>False
 | .neq,.agg cs,.agg ds=>match eqCs cs ds with
  | some (ks,p)=>StEq P t ks∧K (.pn p)
  | none=>False
 | _,_,_=>False
def bytesG (s:List UInt8):List (List GV):=s.map fun c=>[.u8 (c.toNat:Int)]

def asP:D→Option Prop
 | .pb p=>some p
 | .pn p=>some (¬p)
 | .g (.bool b)=>some (b=true)
 | _=>none
def vcBoolEq (op:BinOp) (x y:D) (K:D→Prop):Prop :=
 match op,asP x,asP y with
 | .eql,some p,some q=>K (.pb (p↔q))
 | .neq,some p,some q=>K (.pn (p↔q))
 | _,_,_=>False

def vcUn (op:UnOp) (x:D) (K:D→Prop):Prop :=
 match op,x with
 | .not,.pb p=>K (.pn p)
 | .not,.pn p=>K (.pb p)
 | .not,.g (.bool true)=>K (.g (.bool false))
 | .not,.g (.bool false)=>K (.g (.bool true))
 | .neg,.g (.int a)=>I64 (0 - a)∧K (.g (.int (0 - a)))
 | _,_=>False

def ldG (i:TI) (r:List GV) (off:Nat) (K:D→Prop):Prop :=
 match i.agg with
 | false=>match r[off]? with
  | some x=>K (.g x)
  | none=>False
 | true=>bif Nat.ble (off+i.size) r.length then K (.agg ((List.take i.size (r.drop off)).map .g)) else False

def getK (o:Option D) (K:D→Prop):Prop:=match o with
 | some d=>K d
 | none=>False
theorem getK_ok {o:Option D} {K:D→Prop} (h:getK o K):∃ d,o=some d∧K d:=by
 cases o with
 | none=>exact h.elim
 | some d=>exact ⟨d,rfl,h⟩
theorem getK_at {o:Option D} {K:D→Prop} {d:D} (h:o=some d) (k:K d):getK o K:=by rw[h];exact k
theorem ldG_at {i:TI} {r:List GV} {off:Nat} {K:D→Prop} {x:GV} (hi:i.agg=false) (h:r[off]?=some x) (k:K (.g x)):ldG i r off K:=by
 unfold ldG
 rw[hi,h]
 exact k
def vcLoad (T:Tab) (t:TypeId) (p:D) (h:Heap) (K:D→Prop):Prop :=
 match T t with
 | none=>False
 | some i =>
  match p with
  | .ptr j off =>
   match h[j]? with
   | some (.blk cs _)=>match i.agg with
    | false=>getK cs[off]? K
    | true=>bif Nat.ble (off+i.size) cs.length then K (.agg (List.take i.size (cs.drop off))) else False
   | _=>False
  | .el j k off =>
   match h[j]? with
   | some (.row xs _ _)=>∃ r,xs[k]?=some r∧ldG i r off K
   | _=>False
  | .fp r off=>ldG i r off K
  | _=>False

def vcStore (T:Tab) (t:TypeId) (p:D) (y:D) (h:Heap) (K:Heap→Prop):Prop :=
 match T t with
 | none=>False
 | some i =>
  match cellsD h y with
  | none=>False
  | some ds=>bif Nat.beq ds.length i.size then
   match p with
   | .ptr j off =>
    match h[j]? with
    | some (.blk cs ty)=>bif Nat.ble (off+i.size) cs.length then K (h.set j (.blk (setL cs off ds) ty)) else False
    | _=>False
   | .el j k off =>
    match h[j]? with
    | some (.row xs e sz)=>∃ r gs,xs[k]?=some r∧SeesL h ds gs∧off+i.size≤r.length∧j ∉ idsL ds∧K (kills (h.set j (.row (xs.set k (setL r off gs)) e sz)) (idsL ds))
    | _=>False
   | _=>False
   else False

def srcD (h:Heap) (sz:Nat):D→Option (List (List GV))
 | .nils=>some []
 | .g (.sl k xs)=>bif Nat.beq k sz then some xs else none
 | .row j=>match h[j]? with
  | some (.row ys _ sz')=>bif Nat.beq sz' sz then some ys else none
  | _=>none
 | .rs j lo n=>match h[j]? with
  | some (.row ys _ sz')=>bif Nat.beq sz' sz then some ((ys.drop lo).take n) else none
  | _=>none
 | _=>none

def roomFor (ei:TI) (n:Nat):Prop:=n≤maxLen∧n*ei.bytes≤140737488355328

def vcAppend (T:Tab) (t:TypeId) (x y:D) (h:Heap) (K:KD):Prop :=
 match T t with
 | some { kind:=.slice e,.. } =>
  match T e with
  | none=>False
  | some ei =>
   match srcD h ei.size y with
   | none=>False
   | some news=>bif Nat.blt 0 ei.size then
    match x with
    | .nils=>roomFor ei news.length∧K (.row h.length) (h++[.row news e ei.size])
    | .row i=>match h[i]? with
     | some (.row xs e' sz')=>bif Nat.beq e' e && Nat.beq sz' ei.size then roomFor ei (xs.length+news.length)∧K (.row h.length) (h.set i .dead++[.row (xs++news) e ei.size]) else False
     | _=>False
    | .rs i 0 n=>match h[i]? with
     | some (.row xs e' sz')=>bif Nat.beq e' e && Nat.beq sz' ei.size then n≤xs.length∧roomFor ei (n+news.length)∧K (.row h.length) (h.set i .dead++[.row (xs.take n++news) e ei.size]) else False
     | _=>False
    | _=>False
    else False
 | _=>False

def vcSlice (T:Tab) (t:TypeId) (x:D) (lo hi:Option D) (h:Heap) (K:D→Prop):Prop :=
 match T t,x with
 | some { kind:=.str,.. },.g (.str s) =>
  match lo,hi with
  | none,none=>K (.g (.str s))
  | none,some p=>∃ hh:Nat,p=.g (.int (hh:Int))∧hh≤s.length∧K (.g (.str (s.take hh)))
  | some p,none=>∃ l:Nat,p=.g (.int (l:Int))∧l≤s.length∧K (.g (.str (s.drop l)))
  | some p,some q=>∃ l hh:Nat,p=.g (.int (l:Int))∧q=.g (.int (hh:Int))∧l≤hh∧hh≤s.length∧K (.g (.str ((s.take hh).drop l)))
 | some { kind:=.slice e,.. },.g (.sl k xs) =>
  match T e with
  | none=>False
  | some ei=>bif Nat.beq k ei.size then
   match lo,hi with
   | none,none=>K (.g (.sl k xs))
   | none,some p=>∃ hh:Nat,p=.g (.int (hh:Int))∧hh≤xs.length∧K (.g (.sl k (xs.take hh)))
   | some p,none=>∃ l:Nat,p=.g (.int (l:Int))∧l≤xs.length∧K (.g (.sl k (xs.drop l)))
   | some p,some q=>∃ l hh:Nat,p=.g (.int (l:Int))∧q=.g (.int (hh:Int))∧l≤hh∧hh≤xs.length∧K (.g (.sl k ((xs.take hh).drop l)))
   else False
 | some { kind:=.slice e,.. },.row i =>
  match T e,h[i]? with
  | some ei,some (.row xs _ sz)=>bif Nat.beq sz ei.size then
   match lo,hi with
   | none,none=>K (.row i)
   | none,some p=>∃ hh:Nat,p=.g (.int (hh:Int))∧hh≤xs.length∧K (.rs i 0 hh)
   | some p,none=>∃ l:Nat,p=.g (.int (l:Int))∧l≤xs.length∧K (.rs i l (xs.length - l))
   | some p,some q=>∃ l hh:Nat,p=.g (.int (l:Int))∧q=.g (.int (hh:Int))∧l≤hh∧hh≤xs.length∧K (.rs i l (hh - l))
   else False
  | _,_=>False
 | some { kind:=.array n e,.. },.ptr i o=>match lo,hi,T e,h[i]? with
  | none,none,some ei,some (.blk cs _)=>bif Nat.ble (o+n*ei.size) cs.length && Nat.blt 0 n then K (.rs i o n) else False
  | _,_,_,_=>False
 | some { kind:=.array n e,.. },.fp r 0=>match lo,hi,T e with
  | some p,none,some ei=>∃ l:Nat,p=.g (.int (l:Int))∧ei.size=1∧r.length=n∧l < n∧K (.g (.sl 1 ((r.drop l).map fun g=>[g])))
  | _,_,_=>False
 | _,_=>False

def vcCopy (T:Tab) (t:TypeId) (x y:D) (h:Heap) (K:KD):Prop :=
 match T t with
 | some { kind:=.slice e,.. }=>match T e with
  | some ei=>bif Nat.beq ei.size 1 then
   match x,srcD h 1 y with
   | .rs i o n,some news=>match h[i]? with
    | some (.blk cs ty)=>bif Nat.ble (o+n) cs.length then ∃ cs',cs'=setL cs o (((news.take n).flatten).map .g)∧K (.g (.int ((min news.length n:Nat):Int))) (h.set i (.blk cs' ty)) else False
    | _=>False
   | _,_=>False
   else False
  | none=>False
 | _=>False

def vcClear (T:Tab) (t:TypeId) (x:D) (h:Heap) (K:KD):Prop :=
 match T t with
 | some { kind:=.slice e,.. }=>match T e,x with
  | some ei,.rs i lo n=>match h[i]? with
   | some (.row xs e' sz)=>bif Nat.beq e' e && Nat.beq sz ei.size then
     0 < n∧lo+n≤xs.length∧∃ z:List GV,SeesL [] (ei.zero.map of1) z∧K (.tuple []) (h.set i (.row (xs.take lo++(List.replicate n z++xs.drop (lo+n))) e sz)) else False
   | _=>False
  | _,_=>False
 | _=>False
def vcLen (i:TI) (x:D) (h:Heap) (K:D→Prop):Prop :=
 match i.kind,x with
 | .slice _,.g (.sl _ xs)=>K (.g (.int (xs.length:Int)))
 | .slice _,.nils=>K (.g (.int 0))
 | .slice _,.row j=>match h[j]? with
  | some (.row xs _ _)=>K (.g (.int (xs.length:Int)))
  | _=>False
 | .slice _,.rs j _ n=>match h[j]? with
  | some (.row _ _ _)=>K (.g (.int (n:Int)))
  | _=>False
 | .str,.g (.str s)=>K (.g (.int (s.length:Int)))
 | _,_=>False

def vcIndexAddr (T:Tab) (t:TypeId) (x ix:D) (h:Heap) (K:D→Prop):Prop :=
 match T t with
 | some { kind:=.slice e,.. }=>match T e,x with
  | some ei,.g (.sl k xs)=>bif Nat.beq k ei.size then ∃ (j:Nat) (r:List GV),ix=.g (.int (j:Int))∧xs[j]?=some r∧K (.fp r 0) else False
  | some ei,.g (.raw v)=>∃ (m q:Nat) (l:List (Value × Ob0)) (ts:List (Value × Nat)) (xs:List (List GV)) (ty:TypeId) (j:Nat),h[m]?=some (.many l ts)∧(v,q)∈ts∧h[q]?=some (.row xs ty ei.size)∧ix=.g (.int (j:Int))∧j < xs.length∧K (.el q j 0)
  | some ei,.row i=>match h[i]? with
   | some (.row xs _ sz)=>bif Nat.beq sz ei.size then ∃ j:Nat,ix=.g (.int (j:Int))∧j < xs.length∧K (.el i j 0) else False
   | _=>False
  | some ei,.rs i lo n=>match h[i]? with
   | some (.row _ _ sz)=>bif Nat.beq sz ei.size then ∃ j:Nat,ix=.g (.int (j:Int))∧j < n∧K (.el i (lo+j) 0) else False
   | _=>False
  | _,_=>False
 | some { kind:=.array n e,.. }=>match T e,x with
  | some ei,.ptr i o=>match h[i]? with
   | some (.blk _ _)=>∃ j:Nat,ix=.g (.int (j:Int))∧j < n∧K (.ptr i (o+j*ei.size))
   | _=>False
  | some ei,.fp r o=>∃ j:Nat,ix=.g (.int (j:Int))∧j < n∧K (.fp r (o+j*ei.size))
  | some ei,.el i k o=>match h[i]? with
   | some (.row _ _ _)=>∃ j:Nat,ix=.g (.int (j:Int))∧j < n∧K (.el i k (o+j*ei.size))
   | _=>False
  | _,_=>False
 | _=>False

def forceDL:List D→(List D→Prop)→Prop
 | [],K=>K []
 | d :: l,K=>forceDL l fun l=>K (d :: l)
theorem forceDL_eq:∀ (l:List D) (K:List D→Prop),forceDL l K=K l
 | [],_=>rfl
 | d :: l,K=>by simp only[forceDL,forceDL_eq l]
def forceD (d:D) (K:D→Prop):Prop :=
 match d with
 | .g x=>K (.g x)
 | .pb p=>K (.pb p)
 | .pn p=>K (.pn p)
 | .nils=>K .nils
 | .row i=>K (.row i)
 | .rs i lo n=>K (.rs i lo n)
 | .ptr i o=>K (.ptr i o)
 | .el i j o=>K (.el i j o)
 | .fp r o=>K (.fp r o)
 | .nilP=>K .nilP
 | .nilF=>K .nilF
 | .nilI=>K .nilI
 | .fn f fs cs=>K (.fn f fs cs)
 | .iface t x=>K (.iface t x)
 | .agg cs=>forceDL cs fun cs=>K (.agg cs)
 | .tuple cs=>forceDL cs fun cs=>K (.tuple cs)
 | .any=>K .any
theorem forceD_eq (d:D) (K:D→Prop):forceD d K=K d:=by cases d<;>simp only[forceD,forceDL_eq]
def forceH:Heap→(Heap→Prop)→Prop
 | [],K=>K []
 | .blk cs t :: l,K=>forceDL cs fun cs=>forceH l fun l=>K (.blk cs t :: l)
 | .row xs e sz :: l,K=>forceH l fun l=>K (.row xs e sz :: l)
 | .many xs ts :: l,K=>forceH l fun l=>K (.many xs ts :: l)
 | .dead :: l,K=>forceH l fun l=>K (.dead :: l)
theorem forceH_eq:∀ (l:Heap) (K:Heap→Prop),forceH l K=K l
 | [],_=>rfl
 | .blk cs t :: l,K=>by simp only[forceH,forceDL_eq,forceH_eq l]
 | .row xs e sz :: l,K=>by simp only[forceH,forceH_eq l]
 | .many xs ts :: l,K=>by simp only[forceH,forceH_eq l]
 | .dead :: l,K=>by simp only[forceH,forceH_eq l]

def FieldOk (P:Program) (t:TypeId) (f off:Nat):Prop:=∃ fields fl,P.underlying t=some (.struct fields)∧fields[f]?=some fl∧fl.offset=off∧∀ w,(isAgg fl.type).run P w=.ok false w
def vcOp (P:Program) (T:Tab) (F:FuncId→Bool) (G:Gl) (o:Op) (st:St) (K:KD) (Qp:KD):Prop :=
 match o with
 | .move x=>K (sv G st x) st.h
 | .assign x=>K (sv G st x) st.h
 | .pick c a b=>bcase (sv G st c) (K (sv G st a) st.h) (K (sv G st b) st.h)
 | .alloc t=>match T t with
  | none=>False
  | some i=>K (.ptr st.h.length 0) (st.h++[.blk (i.zero.map of1) t])
 | .box t x=>match cellsD st.h (sv G st x) with
  | none=>False
  | some ds=>K (.ptr st.h.length 0) (st.h++[.blk ds t])
 | .build t parts=>match T t with
  | some { kind:=.struct fs,zero:=z,.. }=>match partsD st.h (sv G st) parts.toList with
   | none=>False
   | some ps=>match fillD (fs[·]?) (z.map of1) ps with
    | some cs=>K (.agg cs) st.h
    | none=>False
  | _=>False
 | .buildSlice t len parts=>match T t with
  | some { kind:=.slice e,.. }=>match T e with
   | some ei=>match partsD st.h (sv G st) parts.toList with
    | none=>False
    | some ps=>match fillS ei.size (ei.zero.map of1) len ps with
     | some cs=>bif Nat.ble (len*ei.size) 16777216 && Nat.blt 0 ei.size then
       ∃ xs,xs.length=len∧allLen ei.size xs=true∧SeesL st.h cs xs.flatten∧K (.row st.h.length) (kills st.h (idsL cs)++[.row xs e ei.size]) else False
     | none=>False
   | none=>False
  | _=>False
 | .makeSlice t l c=>match T t with
  | some { kind:=.slice e,.. }=>match T e with
   | some ei=>bif Nat.blt 0 ei.size then ∃ (len cap:Nat) (z:List GV),sv G st l=.g (.int (len:Int))∧sv G st c=.g (.int (cap:Int))∧len≤cap∧ei.bytes*cap≤140737488355328∧cap≤maxLen ∧
     SeesL [] (ei.zero.map of1) z∧K (.row st.h.length) (st.h++[.row (List.replicate len z) e ei.size]) else False
   | none=>False
  | _=>False
 | .load t x=>vcLoad T t (sv G st x) st.h fun d=>K d st.h
 | .store t x y=>vcStore T t (sv G st x) (sv G st y) st.h fun h=>K .any h
 | .nilCheck x=>match sv G st x with
  | .ptr i o=>match st.h[i]? with
   | some (.blk _ _)=>K (.ptr i o) st.h
   | _=>False
  | .el i j o=>match st.h[i]? with
   | some (.row _ _ _)=>K (.el i j o) st.h
   | _=>False
  | .fp r o=>K (.fp r o) st.h
  | .fn f fs cs=>K (.fn f fs cs) st.h
  | _=>False
 | .binOp op t x y _=>match T t with
  | some { kind:=.bool,.. }=>vcBoolEq op (sv G st x) (sv G st y) fun v=>K v st.h
  | some { kind:=.slice _,.. }=>vcNil op (sv G st x) (sv G st y) fun v=>K v st.h
  | some { kind:=.struct _,.. }=>vcStEq P t op (sv G st x) (sv G st y) fun v=>K v st.h
  | _=>vcBin op (sv G st x) (sv G st y) fun v=>K v st.h
 | .unOp op _ x=>vcUn op (sv G st x) fun v=>K v st.h
 | .convert src dst x=>match T src,T dst,sv G st x with
  | some _,some { kind:=.int .i64,.. },.g (.int n)=>I64 n∧K (.g (.int n)) st.h
  | some _,some { kind:=.int .i64,.. },.g (.u8 n)=>I64 n∧K (.g (.int n)) st.h
  | some _,some { kind:=.int .u8,.. },.g (.int n)=>K (.g (.u8 (IntKind.u8.wrap n))) st.h
  | some { kind:=.str,.. },some { kind:=.slice e,.. },.g (.str s)=>match T e with
   | some { kind:=.int .u8,.. }=>K (.g (.sl 1 (bytesG s))) st.h
   | _=>False
  | _,_,_=>False
 | .fieldAddr s x f=>match T s with
  | some { kind:=.struct fs,.. }=>match fs[f]? with
   | some (off,_)=>match sv G st x with
    | .ptr i o=>match st.h[i]? with
     | some (.blk _ _)=>K (.ptr i (o+off)) st.h
     | _=>False
    | .el i j o=>match st.h[i]? with
     | some (.row _ _ _)=>K (.el i j (o+off)) st.h
     | _=>False
    | .fp r o=>K (.fp r (o+off)) st.h
    | _=>False
   | none=>False
  | _=>False
 | .indexAddr t x ix=>vcIndexAddr T t (sv G st x) (sv G st ix) st.h fun d=>K d st.h
 | .index t x ix=>match T t,sv G st x with
  | some { kind:=.str,.. },.g (.str s)=>∃ (j:Nat) (c:UInt8),sv G st ix=.g (.int (j:Int))∧s[j]?=some c∧K (.g (.u8 (c.toNat:Int))) st.h
  | _,_=>False
 | .slice t x lo hi none=>vcSlice T t (sv G st x) (lo.map (sv G st)) (hi.map (sv G st)) st.h fun d=>K d st.h
 | .extract t i=>match sv G st t with
  | .tuple vs=>match vs[i]? with
   | some d=>K d st.h
   | none=>False
  | _=>False
 | .field t x f=>match sv G st x with
  | .agg cs=>∃ (off:Nat) (d:D),FieldOk P t f off∧cs[off]?=some d∧K d st.h
  | _=>False
 | .makeFunc (.func f) first captured=>K (.fn f (first.toList.map (sv G st)) (captured.toList.map (sv G st))) st.h
 | .makeInterface t x=>match T t with
  | some { kind:=.iface,.. }=>False
  | some _=>K (.iface t (sv G st x)) st.h
  | none=>False
 | .panic x=>match sv G st x with
  | .iface t d=>Qp (.iface t d) st.h
  | _=>False
 | .call { callee:=.builtin .len,args,argTypes }=>match argTypes.toList,args.toList with
  | [t],[x]=>match T t with
   | some i=>vcLen i (sv G st x) st.h fun d=>K d st.h
   | none=>False
  | _,_=>False
 | .call { callee:=.builtin .max,args,.. }=>match args.toList with
  | [x,y]=>match sv G st x,sv G st y with
   | .g (.int a),.g (.int b)=>K (.g (.int (if b > a then b else a))) st.h
   | _,_=>False
  | _=>False
 | .call { callee:=.builtin .min,args,.. }=>match args.toList with
  | [x,y]=>match sv G st x,sv G st y with
   | .g (.int a),.g (.int b)=>K (.g (.int (if b < a then b else a))) st.h
   | _,_=>False
  | _=>False
 | .call { callee:=.builtin .append,args,argTypes }=>match argTypes.toList,args.toList with
  | [t,t'],[x,y]=>bif Nat.beq t t' then vcAppend T t (sv G st x) (sv G st y) st.h K else False
  | _,_=>False
 | .call { callee:=.builtin .copy,args,argTypes }=>match argTypes.toList,args.toList with
  | [t,_],[x,y]=>vcCopy T t (sv G st x) (sv G st y) st.h K
  | _,_=>False
 | .call { callee:=.builtin .clear,args,argTypes }=>match argTypes.toList,args.toList with
  | [t],[x]=>vcClear T t (sv G st x) st.h K
  | _,_=>False
 | .call { callee:=.value f,args,.. }=>match sv G st f with
  | .fn g fs cs=>bif F g then forceDL (fs++(args.toList.map (sv G st)++cs)) fun all =>
    orS (hasMany st.h) (∃ as Q,likeA (all.map (conv st.h [] 4)) as∧CT P G g as Q∧(∀ d h',Q (.ret d h')→K (sh st.h.length 4 d) (after st.h (idsL all) d h'))∧(∀ d,Q (.pan d)→Qp d (kills st.h (idsL all)))) (SemCall P G g all st.h K Qp)
   else forceDL (fs++(args.toList.map (sv G st)++cs)) fun all=>fnOk P g=true∧(OwnCall P G g all st.h K Qp∨SemCall P G g all st.h K Qp)
  | _=>False
 | _=>False
end Go.Dm
/-
  The second engine, fifth part: each operation's clause suffices for its run (first half). It holds of every program whose table of types is met.
-/
namespace Go.Dm
open Go Go.Eng Go.RowKit

section
variable {h:Heap} {β:Nat→Value} {V:Nat→Prop} {w:World}

theorem of1_rep (v:Value):RepD h β V w (of1 v) v:=by
 unfold of1
 split<;>simp only[RepD,RepV]
theorem ofL_rep:∀ (cs:List Value),RepDL h β V w (cs.map of1) cs
 | []=>by simp[RepDL]
 | c :: cs=>by simp only[List.map_cons,RepDL];exact ⟨c,cs,rfl,of1_rep c,ofL_rep cs⟩
theorem ofV_rep (v:Value):RepD h β V w (ofV v) v:=by
 unfold ofV
 split
 ·rename_i cs
  simp only[RepD]
  exact ⟨cs,rfl,ofL_rep cs⟩
 ·exact of1_rep _

theorem glD_rep {G:Gl} (hG:GlOk G V w) (b:Nat):RepD h β V w (glD G b) (.pointer (some ⟨b,0,none⟩)):=by
 induction G with
 | nil=>simp only[glD,RepD]
 | cons p l ih =>
  obtain ⟨b',cs⟩:=p
  simp only[glD]
  cases hb:Nat.beq b' b with
  | true =>
   have:=Nat.eq_of_beq_eq_true hb
   subst this
   obtain ⟨h1,h2,_⟩:=hG (b',cs) List.mem_cons_self
   simp only[cond_true,RepD]
   exact ⟨⟨b',0,none⟩,rfl,h1,h2⟩
  | false=>exact ih (fun p hp=>hG p (List.mem_cons_of_mem _ hp))

def EnvOk (st:St) (β:Nat→Value) (V:Nat→Prop) (w:World) (a:Act):Prop:=∀ i,RepD st.h β V w (st.env i) (a.tmps.getD i undef)
theorem EnvOk.eval {G:Gl} {st:St} {a:Act} (he:EnvOk st β V w a) (hG:GlOk G V w) (x:Operand):RepD st.h β V w (sv G st x) (a.eval x):=by
 cases x with
 | tmp t=>exact he t
 | const v=>exact ofV_rep v
 | global g=>exact glD_rep hG g
 | func f=>simp only[sv,RepD];exact ⟨[],[],rfl,by simp[RepDL],by simp[RepDL]⟩

theorem flat1_rep {d:D} {v:Value} (hf:flat1 h d=true) (hd:RepD h β V w d v) (hr:∀ (i:Nat) (o:Obj),h[i]?=some o→ObjOk h β V w i o):v.oneCell'=true∧cellsL v=[v]:=by
 have row:∀ (i:Nat) (xs:List (List GV)) (e sz:Nat),h[i]?=some (.row xs e sz)→∃ A n c,β i=.slice A n c:=by
  intro i xs e sz hi
  obtain ⟨vs,hown,_⟩:=hr i _ hi
  rcases hown.2 with ⟨hn,_⟩ | ⟨g,cap,cur,hb,_⟩
  ·exact ⟨_,_,_,hn⟩
  ·exact ⟨_,_,_,hb⟩
 cases d with
 | g x =>
  simp only[RepD] at hd
  cases x with
  | sl k xs=>simp only[RepV] at hd;obtain ⟨A,cap,rfl,_⟩:=hd;exact ⟨rfl,rfl⟩
  | raw u=>simp only[RepV] at hd;exact hd.2
  | _=>simp only[RepV] at hd;subst hd;exact ⟨rfl,rfl⟩
 | pb p=>simp only[RepD] at hd;obtain ⟨b,rfl,_⟩:=hd;exact ⟨rfl,rfl⟩
 | pn p=>simp only[RepD] at hd;obtain ⟨b,rfl,_⟩:=hd;exact ⟨rfl,rfl⟩
 | nils=>simp only[RepD] at hd;subst hd;exact ⟨rfl,rfl⟩
 | row i =>
  simp only[flat1] at hf
  simp only[RepD] at hd
  split at hf
  ·rename_i xs e sz hi
   rw[hi] at hd
   obtain ⟨A,n,c,hb⟩:=row i _ _ _ hi
   simp only at hd
   rw[hb] at hd
   subst hd
   exact ⟨rfl,rfl⟩
  ·cases hf
 | rs i lo n =>
  simp only[flat1] at hf
  simp only[RepD] at hd
  split at hf
  ·rename_i xs e sz hi
   rw[hi] at hd
   obtain ⟨_,A,m,cap,_,rfl⟩:=hd
   exact ⟨rfl,rfl⟩
  ·cases hf
 | ptr i off =>
  simp only[flat1] at hf
  simp only[RepD] at hd
  split at hf
  ·rename_i cs t hi
   rw[hi] at hd
   obtain ⟨g,_,rfl⟩:=hd
   exact ⟨rfl,rfl⟩
  ·cases hf
 | el i j off =>
  simp only[flat1] at hf
  simp only[RepD] at hd
  split at hf
  ·rename_i xs e sz hi
   rw[hi] at hd
   obtain ⟨_,g,n,c,_,rfl⟩:=hd
   exact ⟨rfl,rfl⟩
  ·cases hf
 | fp r off=>simp only[RepD] at hd;obtain ⟨a,rfl,_⟩:=hd;exact ⟨rfl,rfl⟩
 | nilP=>simp only[RepD] at hd;subst hd;exact ⟨rfl,rfl⟩
 | nilF=>simp only[RepD] at hd;subst hd;exact ⟨rfl,rfl⟩
 | nilI=>simp only[RepD] at hd;subst hd;exact ⟨rfl,rfl⟩
 | fn f fs cs=>simp only[RepD] at hd;obtain ⟨us,ts,rfl,_⟩:=hd;exact ⟨rfl,rfl⟩
 | iface t x=>simp only[RepD] at hd;obtain ⟨u,rfl,_⟩:=hd;exact ⟨rfl,rfl⟩
 | agg cs=>cases hf
 | tuple cs=>cases hf
 | any=>cases hf

theorem flatD_rep (hr:∀ (i:Nat) (o:Obj),h[i]?=some o→ObjOk h β V w i o):∀ (ds:List D) (vs:List Value),flatD h ds=true→RepDL h β V w ds vs→flat vs=true
 | [],vs,_,hd=>by simp only[RepDL] at hd;subst hd;rfl
 | d :: ds,vs,hf,hd=>by
  simp only[RepDL] at hd
  obtain ⟨v,us,rfl,h1,h2⟩:=hd
  simp only[flatD,Bool.and_eq_true] at hf
  simp only[flat,Bool.and_eq_true]
  exact ⟨(flat1_rep hf.1 h1 hr).1,flatD_rep hr ds us hf.2 h2⟩

theorem cellsD_rep (hr:∀ (i:Nat) (o:Obj),h[i]?=some o→ObjOk h β V w i o) {d:D} {v:Value} {ds:List D} (hc:cellsD h d=some ds) (hd:RepD h β V w d v):RepDL h β V w ds (cellsL v)∧flat (cellsL v)=true:=by
 unfold cellsD at hc
 split at hc
 ·rename_i cs
  cases hf:flatD h cs with
  | false=>rw[hf] at hc;cases hc
  | true =>
   rw[hf] at hc
   simp at hc
   subst hc
   simp only[RepD] at hd
   obtain ⟨us,rfl,h1⟩:=hd
   exact ⟨h1,flatD_rep hr cs us hf h1⟩
 ·cases hf:flat1 h d with
  | false=>rw[hf] at hc;cases hc
  | true =>
   rw[hf] at hc
   simp at hc
   subst hc
   obtain ⟨h1,h2⟩:=flat1_rep hf hd hr
   rw[h2]
   exact ⟨by simp only[RepDL];exact ⟨v,[],rfl,hd,rfl⟩,by simp[flat,h1]⟩

theorem setL_length {α:Type} (vs:List α):∀ (l:List α) (o:Nat),(setL l o vs).length=l.length:=by
 induction vs with
 | nil=>intro l o;rfl
 | cons v vs ih=>intro l o;simp[setL,ih]
theorem setL_rep:∀ (ds:List D) (vs:List Value) (cs:List D) (us:List Value) (o:Nat),RepDL h β V w cs us→RepDL h β V w ds vs→RepDL h β V w (setL cs o ds) (setAt us o vs)
 | [],vs,cs,us,o,hc,hd=>by simp only[RepDL] at hd;subst hd;simpa [setL,setAt] using hc
 | d :: ds,vs,cs,us,o,hc,hd=>by
  simp only[RepDL] at hd
  obtain ⟨v,vs',rfl,h1,h2⟩:=hd
  simp only[setL,setAt]
  exact setL_rep ds vs' _ _ _ (hc.set o h1) h2
theorem setG_rep:∀ (ds:List GV) (vs:List Value) (cs:List GV) (us:List Value) (o:Nat),RepL V w cs us→RepL V w ds vs→RepL V w (setL cs o ds) (setAt us o vs)
 | [],[],cs,us,o,hc,hd=>by simpa [setL,setAt] using hc
 | [],_ :: _,_,_,_,_,hd=>hd.elim
 | _ :: _,[],_,_,_,_,hd=>hd.elim
 | d :: ds,v :: vs,cs,us,o,hc,hd=>by
  simp only[setL,setAt]
  exact setG_rep ds vs _ _ _ (hc.set o hd.1) hd.2

theorem fillD_rep (place:Nat→Option (Nat × Nat)):∀ (ps:List (Nat × List D)) (qs:List (Nat × List Value)) (cs out:List D) (us:List Value),fillD place cs ps=some out→RepDL h β V w cs us →
  ps.length=qs.length→(∀ (i:Nat) p q,ps[i]?=some p→qs[i]?=some q→p.1=q.1∧RepDL h β V w p.2 q.2)→∃ vout,fillO place us qs=some vout∧RepDL h β V w out vout
 | [],qs,cs,out,us,hf,hc,hl,_=>by
  cases qs with
  | nil=>simp[fillD] at hf;subst hf;exact ⟨us,rfl,hc⟩
  | cons=>simp at hl
 | (i,d) :: ps,qs,cs,out,us,hf,hc,hl,hp=>by
  cases qs with
  | nil=>simp at hl
  | cons q qs =>
   obtain ⟨i',v⟩:=q
   obtain ⟨rfl,hv⟩:=hp 0 (i,d) (i',v) rfl rfl
   simp only[fillD] at hf
   simp only[fillO]
   cases hpl:place i with
   | none=>rw[hpl] at hf;cases hf
   | some os =>
    obtain ⟨off,size⟩:=os
    rw[hpl] at hf
    simp only at hf ⊢
    cases hb:Nat.beq d.length size && Nat.ble (off+size) cs.length with
    | false=>rw[hb] at hf;cases hf
    | true =>
     rw[hb] at hf
     simp only[cond_true] at hf
     have e1:v.length=d.length:=hv.len.symm
     have e2:us.length=cs.length:=hc.len.symm
     rw[e1,e2,hb]
     simp only[cond_true]
     exact fillD_rep place ps qs _ out _ hf (setL_rep _ _ _ _ _ hc hv) (by simpa using hl) (fun j p q hp1 hq1=>hp (j+1) p q (by simpa using hp1) (by simpa using hq1))

theorem partsD_rep (hr:∀ (i:Nat) (o:Obj),h[i]?=some o→ObjOk h β V w i o) {f:Operand→D} {ev:Operand→Value} (he:∀ x,RepD h β V w (f x) (ev x)):∀ (l:List (Nat × Operand)) (ps:List (Nat × List D)),partsD h f l=some ps →
  ps.length=(l.map fun p=>(p.1,cellsL (ev p.2))).length∧∀ (i:Nat) p q,ps[i]?=some p→(l.map fun p=>(p.1,cellsL (ev p.2)))[i]?=some q→p.1=q.1∧RepDL h β V w p.2 q.2
 | [],ps,hp=>by simp[partsD] at hp;subst hp;exact ⟨rfl,fun i p q h=>by simp at h⟩
 | (i,o) :: l,ps,hp=>by
  simp only[partsD] at hp
  split at hp
  ·rename_i ds r h1 h2
   injection hp with hp
   subst hp
   obtain ⟨hl,hh⟩:=partsD_rep hr he l r h2
   refine ⟨by simpa using hl,fun j p q hp hq=>?_⟩
   cases j with
   | zero =>
    simp at hp hq
    subst hp
    subst hq
    exact ⟨rfl,(cellsD_rep hr h1 (he o)).1⟩
   | succ j=>exact hh j p q (by simpa using hp) (by simpa using hq)
  ·cases hp

theorem repD_rep (z:List D) (zs:List Value) (hz:RepDL h β V w z zs):∀ n,RepDL h β V w (repD z n) (repL zs n)
 | 0=>by simp[repD,repL,RepDL]
 | n+1=>by simp only[repD,repL];exact hz.append (repD_rep z zs hz n)

theorem seqOk_le {sz:Nat}:∀ {ps:List (Nat × List D)} {i len:Nat},seqOk sz i ps len=true→i≤len
 | [],i,len,h=>by simp only[seqOk] at h;have:=Nat.eq_of_beq_eq_true h;omega
 | (j,v) :: ps,i,len,h=>by
  simp only[seqOk,Bool.and_eq_true] at h
  have:=seqOk_le h.2.2
  omega
theorem setL_mid {α:Type}:∀ (v:List α) (pre z rest:List α),v.length=z.length→setL (pre++(z++rest)) pre.length v=pre++(v++rest)
 | [],pre,z,rest,h=>by cases z with | nil=>rfl | cons=>simp at h
 | x :: v,pre,z,rest,h=>by
  cases z with
  | nil=>simp at h
  | cons y z =>
   simp only[setL]
   have e:(pre++(y :: z++rest)).set pre.length x=(pre++[x])++(z++rest):=by simp
   have hl:pre.length+1=(pre++[x]).length:=by simp
   rw[e,hl,setL_mid v (pre++[x]) z rest (by simpa using h)]
   simp
theorem fillS_go {sz:Nat} {z:List D} (hz:z.length=sz):∀ (ps:List (Nat × List D)) (i len:Nat) (pre:List D),pre.length=i*sz→seqOk sz i ps len=true→fillD (fun i=>some (i*sz,sz)) (pre++repD z (len - i)) ps=some (pre++flatP ps)
 | [],i,len,pre,hp,h=>by
  simp only[seqOk] at h
  have:=Nat.eq_of_beq_eq_true h
  subst this
  simp[fillD,flatP,repD]
 | (j,v) :: ps,i,len,pre,hp,h=>by
  simp only[seqOk,Bool.and_eq_true] at h
  have hj:=Nat.eq_of_beq_eq_true h.1
  have hv:=Nat.eq_of_beq_eq_true h.2.1
  subst hj
  have hle:=seqOk_le h.2.2
  have hn:len - j=(len - (j+1))+1:=by omega
  rw[hn]
  simp only[fillD,repD,flatP]
  have hb:(Nat.beq v.length sz && Nat.ble (j*sz+sz) (pre++(z++repD z (len - (j+1)))).length)=true:=by
   rw[Bool.and_eq_true]
   refine ⟨h.2.1,Nat.ble_eq_true_of_le ?_⟩
   simp[hp,hz]
  rw[hb]
  simp only[cond_true]
  rw[← hp,setL_mid v pre z _ (by rw[hv,hz])]
  have:=fillS_go hz ps (j+1) len (pre++v) (by simp[hp,hv,Nat.succ_mul]) h.2.2
  rw[List.append_assoc] at this
  rw[this,List.append_assoc]
theorem fillS_fill {sz:Nat} {z:List D} (hz:z.length=sz) {len:Nat} {ps:List (Nat × List D)} {cs:List D} (h:fillS sz z len ps=some cs):fillD (fun i=>some (i*sz,sz)) (repD z len) ps=some cs:=by
 unfold fillS at h
 cases hs:seqOk sz 0 ps len with
 | false=>rw[hs] at h;exact h
 | true =>
  rw[hs] at h
  simp only[cond_true] at h
  have:=fillS_go hz ps 0 len [] (by simp) hs
  simp only[List.nil_append,Nat.sub_zero] at this
  rw[this]
  exact h

def killV (h:Heap) (l:List Nat) (β:Nat→Value) (V:Nat→Prop):Nat→Prop:=fun k=>V k∨∃ i o,i∈l∧h[i]?=some o∧o.live=true∧Bk o (β i) k
theorem kills_get:∀ (l:List Nat) (h:Heap) (i:Nat) (o:Obj),(kills h l)[i]?=some o→(o=.dead∧(∃ o',h[i]?=some o'))∨(i ∉ l∧h[i]?=some o)
 | [],h,i,o,hi=>.inr ⟨by simp,hi⟩
 | a :: l,h,i,o,hi=>by
  simp only[kills] at hi
  rcases kills_get l (h.set a .dead) i o hi with ⟨rfl,o',ho'⟩ | ⟨hn,ho⟩
  ·left
   refine ⟨rfl,?_⟩
   by_cases hai:a=i
   ·subst hai
    have:a < h.length:=by have:=(List.getElem?_eq_some_iff.1 ho').1;simpa using this
    exact ⟨_,List.getElem?_eq_getElem this⟩
   ·rw[List.getElem?_set_ne hai] at ho'
    exact ⟨o',ho'⟩
  ·by_cases hai:a=i
   ·subst hai
    have hl:a < h.length:=by have:=(List.getElem?_eq_some_iff.1 ho).1;simpa using this
    left
    rw[List.getElem?_set_self hl] at ho
    injection ho with ho
    exact ⟨ho.symm,_,List.getElem?_eq_getElem hl⟩
   ·right
    rw[List.getElem?_set_ne hai] at ho
    exact ⟨by simp[hn];exact fun e=>hai e.symm,ho⟩
theorem kills_len:∀ (l:List Nat) (h:Heap),(kills h l).length=h.length
 | [],h=>rfl
 | a :: l,h=>by simp only[kills];rw[kills_len l];simp
theorem kills_le (l:List Nat) (h:Heap) (β:Nat→Value):LeH h β (kills h l) β:=by
 intro i o hi
 have hl:i < (kills h l).length:=by rw[kills_len];exact (List.getElem?_eq_some_iff.1 hi).1
 refine ⟨(kills h l)[i],List.getElem?_eq_getElem hl,?_,fun _=>rfl⟩
 rcases kills_get l h i _ (List.getElem?_eq_getElem hl) with ⟨e,_⟩ | ⟨_,e⟩
 ·rw[e];cases o<;>trivial
 ·rw[hi] at e
  injection e with e
  rw[← e]
  exact OLe.refl _
theorem kill_moved (h:Heap) (l:List Nat) (β:Nat→Value) (V:Nat→Prop) (w:World):Moved V w (killV h l β V) w:=fun _ hk=>⟨.inl hk,rfl⟩
theorem kill_rel {C:Ctx} (hr:RelD C h β V w) (l:List Nat):RelD C (kills h l) β (killV h l β V) w:=by
 have alive:∀ (i:Nat) (o:Obj),(kills h l)[i]?=some o→o.live=true→i ∉ l∧h[i]?=some o:=by
  intro i o hi hl
  rcases kills_get l h i o hi with ⟨rfl,_⟩ | h1
  ·cases hl
  ·exact h1
 refine ⟨fun i o hi=>?_,fun i j o o' k hi hl hj hl' hk hk'=>?_,fun i o k hi hl hk=>?_,fun i o k hi hl hk=>?_,fun k hk=>?_,fun k hk=>.inl (hr.vin k hk),fun k hk=>?_,hr.fr,hr.gl.move (kill_moved h l β V w)⟩
 ·cases hl:o.live with
  | false=>cases o<;>simp_all [Obj.live,ObjOk]
  | true =>
   obtain ⟨_,h2⟩:=alive i o hi hl
   exact (hr.obj i o h2).keep (kills_le l h β) (kill_moved h l β V w) rfl (fun _ _=>rfl)
 ·exact hr.sep i j o o' k (alive i o hi hl).2 hl (alive j o' hj hl').2 hl' hk hk'
 ·exact hr.mine i o k (alive i o hi hl).2 hl hk
 ·obtain ⟨h1,h2⟩:=alive i o hi hl
  rintro (hv | ⟨i',o',g1,g2,g3,g4⟩)
  ·exact hr.vout i o k h2 hl hk hv
  ·have:=hr.sep i i' o o' k h2 hl g2 g3 hk g4
   subst this
   exact h1 g1
 ·rcases hk with hk | ⟨i',o',g1,g2,g3,g4⟩
  ·exact hr.vlt k hk
  ·exact hr.lt g2 g3 g4
 ·rcases hk with hk | ⟨i',o',g1,g2,g3,g4⟩
  ·exact hr.vnew k hk
  ·exact .inr (hr.mine i' o' k g2 g3 g4)

theorem ids_mem {l:List Nat}:∀ {ds:List D} {d:D},d∈ds→∀ i∈ids 4 d,(∀ j∈idsL ds,j∈l)→i∈l
 | [],d,hd,i,hi,hl=>by simp at hd
 | e :: ds,d,hd,i,hi,hl=>by
  rcases List.mem_cons.1 hd with rfl | hd
  ·exact hl i (by simp only[idsL,List.mem_append];exact .inl hi)
  ·exact ids_mem hd i hi (fun j hj=>hl j (by simp only[idsL,List.mem_append];exact .inr hj))

theorem sees_rep {C:Ctx} (hr:RelD C h β V w) {l:List Nat} {d:D} {v:Value} {y:GV} (hs:Sees h d y) (hd:RepD h β V w d v) (hl:∀ i∈ids 4 d,i∈l):RepV (killV h l β V) w y v:=by
 cases d with
 | g x=>simp only[Sees] at hs;subst hs;simp only[RepD] at hd;exact RepV.move (kill_moved h l β V w) _ _ hd
 | pb p =>
  obtain ⟨b,rfl,hb⟩:=hs
  simp only[RepD] at hd
  obtain ⟨b',rfl,hb'⟩:=hd
  have:b'=b:=by have:=hb'.trans hb.symm;cases b<;>cases b'<;>simp_all
  subst this
  simp only[RepV]
 | pn p =>
  obtain ⟨b,rfl,hb⟩:=hs
  simp only[RepD] at hd
  obtain ⟨b',rfl,hb'⟩:=hd
  have:b'=b:=by have:=hb'.trans hb.symm;cases b<;>cases b'<;>simp_all
  subst this
  simp only[RepV]
 | nils =>
  obtain ⟨k,rfl⟩:=hs
  simp only[RepD] at hd
  subst hd
  exact RepV.sl_nil k
 | row i =>
  simp only[Sees] at hs
  simp only[RepD] at hd
  split at hs
  ·rename_i xs e sz hi
   subst hs
   rw[hi] at hd
   simp only at hd
   subst hd
   exact row_frozen (hr.obj i _ hi) (fun k hk=>.inl hk) (fun k hk=>.inr ⟨i,_,hl i (by simp[ids]),hi,rfl,hk⟩)
  ·exact hs.elim
 | rs i lo n =>
  simp only[Sees] at hs
  simp only[RepD] at hd
  split at hs
  ·rename_i xs e sz hi
   subst hs
   rw[hi] at hd
   simp only at hd
   obtain ⟨hlm,A,q,cap,hb,rfl⟩:=hd
   have hfz:=row_frozen (V':=killV h l β V) (hr.obj i _ hi) (fun k hk=>.inl hk) (fun k hk=>.inr ⟨i,_,hl i (by simp[ids]),hi,rfl,hk⟩)
   rw[hb] at hfz
   have:=hfz.piece (l:=lo) (hh:=lo+n) (by omega) hlm
   rw[List.drop_take,Nat.add_sub_cancel_left] at this
   exact this
  ·exact hs.elim
 | _=>exact hs.elim
theorem seesL_rep {C:Ctx} (hr:RelD C h β V w) {l:List Nat}:∀ {ds:List D} {vs:List Value} {ys:List GV},SeesL h ds ys→RepDL h β V w ds vs→(∀ j∈idsL ds,j∈l)→RepL (killV h l β V) w ys vs
 | [],vs,[],_,hd,_=>by simp only[RepDL] at hd;subst hd;trivial
 | [],_,_ :: _,hs,_,_=>hs.elim
 | _ :: _,_,[],hs,_,_=>hs.elim
 | d :: ds,vs,y :: ys,hs,hd,hl=>by
  simp only[RepDL] at hd
  obtain ⟨v,us,rfl,h1,h2⟩:=hd
  exact ⟨sees_rep hr hs.1 h1 (fun i hi=>hl i (by simp only[idsL,List.mem_append];exact .inl hi)),seesL_rep hr hs.2 h2 (fun j hj=>hl j (by simp only[idsL,List.mem_append];exact .inr hj))⟩
theorem allLen_mem {sz:Nat}:∀ {xs:List (List GV)},allLen sz xs=true→∀ r∈xs,r.length=sz
 | [],_,r,hr=>by simp at hr
 | x :: xs,h,r,hr=>by
  simp only[allLen,Bool.and_eq_true] at h
  rcases List.mem_cons.1 hr with rfl | hr
  ·exact Nat.eq_of_beq_eq_true h.1
  ·exact allLen_mem h.2 r hr
theorem flat_len {sz:Nat} {α:Type}:∀ {xs:List (List α)},(∀ r∈xs,r.length=sz)→xs.flatten.length=xs.length*sz
 | [],_=>by simp
 | x :: xs,h=>by
  have:=flat_len (xs:=xs) (fun r hr=>h r (List.mem_cons_of_mem _ hr))
  have hx:=h x List.mem_cons_self
  rw[List.flatten_cons,List.length_append,this,hx,List.length_cons,Nat.succ_mul]
  omega
end
end Go.Dm
/-
  The second engine, sixth part: each operation's clause suffices for its run. It holds of every program whose table of types is met.
-/
namespace Go.Dm
open Go Go.Eng Go.RowKit

def Nx (C:Ctx) (h:Heap) (β:Nat→Value) (V:Nat→Prop) (w:World) (K:KD) (next:Value→World→Prop):Prop :=
 ∀ d h' v w' β' V',K d h'→RelD C h' β' V' w'→RepD h' β' V' w' d v→LeH h β h' β'→Moved V w V' w'→next v w'
def Px (C:Ctx) (h:Heap) (β:Nat→Value) (V:Nat→Prop) (w:World) (Qp:KD) (qp:List PanicEntry→World→Prop):Prop :=
 ∀ d h' t u w' β' V',Qp d h'→RelD C h' β' V' w'→RepD h' β' V' w' d (.iface t u)→LeH h β h' β'→Moved V w V' w'→qp [{ v:=.iface t u,recovered:=false }] w'

section
variable {P:Program} {T:Tab} {F:FuncId→Bool} {C:Ctx} {st:St} {a:Act} {w:World} {β:Nat→Value} {V:Nat→Prop} {K:KD} {Qp:KD} {next:Value→World→Prop} {qp:List PanicEntry→World→Prop}

theorem Nx.same (hN:Nx C st.h β V w K next) (hr:RelD C st.h β V w) {d:D} {v:Value} (hk:K d st.h) (hd:RepD st.h β V w d v):next v w:=hN d st.h v w β V hk hr hd (LeH.refl _ _) (Moved.refl _ _)

theorem fin_v {o:Oper} {x:Sem Value} {v:Value} {d:D} (hN:Nx C st.h β V w K next) (hr:RelD C st.h β V w) (hx:execOp a.eval o=(do pure (.value (← x)))) (hrun:x.run P w=.ok v w) (hk:K d st.h) (hd:RepD st.h β V w d v) :
  OpRun P next qp ((execOp a.eval o).run P w):=by
 rw[Go.Eng.run_v hx hrun]
 exact hN.same hr hk hd

theorem bcase.use {c:D} {A B:Prop} {v:Value} {h:Heap} (hc:bcase c A B) (hd:RepD h β V w c v):∃ b:Bool,v=.bool b∧(b=true→A)∧(b=false→B):=by
 unfold bcase at hc
 split at hc
 ·simp only[RepD,RepV] at hd;exact ⟨true,hd,fun _=>hc,fun e=>(by cases e)⟩
 ·simp only[RepD,RepV] at hd;exact ⟨false,hd,fun e=>(by cases e),fun _=>hc⟩
 ·simp only[RepD] at hd
  obtain ⟨b,rfl,hb⟩:=hd
  exact ⟨b,rfl,fun e=>hc.1 (hb.1 e),fun e=>hc.2 (fun hp=>by rw[hb.2 hp] at e;cases e)⟩
 ·simp only[RepD] at hd
  obtain ⟨b,rfl,hb⟩:=hd
  refine ⟨b,rfl,fun e=>hc.1 (hb.1 e),fun e=>hc.2 (Classical.not_not.1 (fun hp=>?_))⟩
  rw[hb.2 hp] at e
  cases e
 ·exact hc.elim

section
variable (hr:RelD C st.h β V w) (he:EnvOk st β V w a) (hN:Nx C st.h β V w K next)
include hr he hN

theorem s_move {x:Operand} {o:Oper} (ho:o.op=.move x∨o.op=.assign x) (h:K (sv C.G st x) st.h):OpRun P next qp ((execOp a.eval o).run P w):=by
 have:(execOp a.eval o).run P w=.ok (.value (a.eval x)) w:=by rcases ho with ho | ho<;>simp[execOp,ho]
 rw[this]
 exact hN.same hr h (he.eval hr.gl x)

theorem s_pick {c x y:Operand} {o:Oper} (ho:o.op=.pick c x y) (h:bcase (sv C.G st c) (K (sv C.G st x) st.h) (K (sv C.G st y) st.h)):OpRun P next qp ((execOp a.eval o).run P w):=by
 obtain ⟨b,hv,ht,hf⟩:=bcase.use h (he.eval hr.gl c)
 cases b with
 | true =>
  have:(execOp a.eval o).run P w=.ok (.value (a.eval x)) w:=by simp[execOp,ho,hv,asBool]
  rw[this]
  exact hN.same hr (ht rfl) (he.eval hr.gl x)
 | false =>
  have:(execOp a.eval o).run P w=.ok (.value (a.eval y)) w:=by simp[execOp,ho,hv,asBool]
  rw[this]
  exact hN.same hr (hf rfl) (he.eval hr.gl y)

omit he in
theorem s_new {ds:List D} {vs:List Value} {t:TypeId} (hd:RepDL st.h β V w ds vs) (h:K (.ptr st.h.length 0) (st.h++[.blk ds t])):next (.pointer (some ⟨w.heap.size,0,none⟩)) (w.alloc (.cells ⟨vs⟩ t)):=by
 have hr':=hr.alloc_blk ds vs t hd
 refine hN _ _ _ _ _ _ h hr' ?_ (le_snoc _ _ _ _) (hr.moved (fr_alloc w _) (fun k hk=>hk.elim))
 simp only[RepD]
 rw[List.getElem?_append_right (Nat.le_refl _)]
 simp only[Nat.sub_self,List.getElem?_cons_zero]
 exact ⟨w.heap.size,upf_eq _ _ _,rfl⟩

omit he in
theorem s_alloc (hT:TabOk P T) {t:TypeId} {o:Oper} (ho:o.op=.alloc t) (h:vcOp P T F C.G (.alloc t) st K Qp):OpRun P next qp ((execOp a.eval o).run P w):=by
 simp only[vcOp] at h
 cases ht:T t with
 | none=>rw[ht] at h;exact h.elim
 | some i =>
  rw[ht] at h
  obtain ⟨inf,z,hinf,_,_,hz,hzc⟩:=(hT t i ht).inf
  have hrun:(execOp a.eval o).run P w=.ok (.value (.pointer (some ⟨w.heap.size,0,none⟩))) (w.alloc (.cells i.zero.toArray t)):=by
   simp[execOp,ho,Instr.alloc,zeroValue,typeInfo,hinf,hz,newVar,newRow,hzc]
  rw[hrun]
  exact s_new hr hN (ofL_rep _) h

theorem s_box {t:TypeId} {x:Operand} {o:Oper} (ho:o.op=.box t x) (h:vcOp P T F C.G (.box t x) st K Qp):OpRun P next qp ((execOp a.eval o).run P w):=by
 simp only[vcOp] at h
 split at h
 ·exact h.elim
 ·rename_i ds hds
  have hrun:(execOp a.eval o).run P w=.ok (.value (.pointer (some ⟨w.heap.size,0,none⟩))) (w.alloc (.cells (cellsL (a.eval x)).toArray t)):=by
   simp[execOp,ho,Instr.box,newVar,newRow,cellsL_eq]
  rw[hrun]
  exact s_new hr hN (cellsD_rep hr.obj hds (he.eval hr.gl x)).1 h

theorem s_build (hT:TabOk P T) {t:TypeId} {parts:Array (Nat × Operand)} {o:Oper} (ho:o.op=.build t parts) (h:vcOp P T F C.G (.build t parts) st K Qp):OpRun P next qp ((execOp a.eval o).run P w):=by
 simp only[vcOp] at h
 split at h
 ·rename_i agg size bytes z fs ht
  split at h
  ·exact h.elim
  ·rename_i ps hps
   split at h
   ·rename_i cs hcs
    obtain ⟨hl,hp⟩:=partsD_rep hr.obj (fun x=>he.eval hr.gl x) _ _ hps
    obtain ⟨vout,hfo,hrep⟩:=fillD_rep _ ps _ _ _ _ hcs (ofL_rep (h:=st.h) (β:=β) (V:=V) (w:=w) z) hl hp
    have hmap:(parts.toList.map fun (p:Nat × Operand)=>(p.1,cellsL (a.eval p.2)))=((parts.map fun (p:Nat × Operand)=>(p.1,a.eval p.2)).toList.map fun p=>(p.1,cellsL p.2)):=by
     simp[List.map_map,Function.comp_def]
    rw[hmap] at hfo
    have hrun:=run_build_st hT ht rfl (parts.map fun (p:Nat × Operand)=>(p.1,a.eval p.2)) vout hfo w
    have:(execOp a.eval o).run P w=.ok (.value (.agg vout.toArray)) w:=by simp only[execOp,ho,Sem.run_bind,hrun,Result.andThen_ok,Sem.run_pure]
    rw[this]
    refine hN.same hr h ?_
    simp only[RepD]
    exact ⟨vout,rfl,hrep⟩
   ·exact h.elim
 ·exact h.elim

theorem s_buildSlice (hT:TabOk P T) {t:TypeId} {len:Nat} {parts:Array (Nat × Operand)} {o:Oper} (ho:o.op=.buildSlice t len parts) (h:vcOp P T F C.G (.buildSlice t len parts) st K Qp):OpRun P next qp ((execOp a.eval o).run P w):=by
 simp only[vcOp] at h
 split at h
 ·rename_i agg size bytes z e ht
  split at h
  ·rename_i ei hte
   split at h
   ·exact h.elim
   ·rename_i ps hps
    split at h
    ·rename_i cs hcs
     cases hb:Nat.ble (len*ei.size) 16777216 && Nat.blt 0 ei.size with
     | false=>rw[hb] at h;exact h.elim
     | true =>
      rw[hb] at h
      simp only[Bool.and_eq_true] at hb
      have h1:len*ei.size≤16777216:=Nat.le_of_ble_eq_true hb.1
      have h2:0 < ei.size:=Nat.le_of_ble_eq_true hb.2
      obtain ⟨xs,hxl,hal,hsees,hk⟩:=h
      obtain ⟨d,hd,hdk,_⟩:=(hT t _ ht).d
      have hdk:d=.slice e:=hdk
      subst hdk
      obtain ⟨inf,zv,hinf,hsz,_,hz,hzc⟩:=(hT e ei hte).inf
      have hzl:ei.zero.length=ei.size:=(hT e ei hte).zsize
      have hcs:=fillS_fill (by simpa using hzl) hcs
      obtain ⟨hl,hp⟩:=partsD_rep hr.obj (fun x=>he.eval hr.gl x) _ _ hps
      obtain ⟨vout,hfo,hrep⟩:=fillD_rep _ ps _ _ _ _ hcs (repD_rep _ _ (ofL_rep (h:=st.h) (β:=β) (V:=V) (w:=w) ei.zero) len) hl hp
      have hmap:(parts.toList.map fun (p:Nat × Operand)=>(p.1,cellsL (a.eval p.2)))=((parts.map fun (p:Nat × Operand)=>(p.1,a.eval p.2)).toList.map fun p=>(p.1,cellsL p.2)):=by
       simp[List.map_map,Function.comp_def]
      rw[hmap] at hfo
      have hfe:=fill_eq (fun i=>some (i*ei.size,ei.size)) _ (repL ei.zero len) vout hfo
      have hcl:vout.length=len*ei.size:=by rw[fillO_length _ _ _ _ hfo,length_repL,hzl]
      have hm:=made_repL ei.zero (by omega) len
      rw[hzl] at hm
      have hrun:(Instr.buildSlice t len (parts.map fun (p:Nat × Operand)=>(p.1,a.eval p.2))).run P w=.ok (.slice (some ⟨w.heap.size,0,none⟩) len len) (w.alloc (.cells vout.toArray e)):=by
       have n1:¬ (len*inf.size > 2 ^ 24):=by rw[hsz];omega
       simp only[Instr.buildSlice,Sem.run_bind,run_underlying hd,Result.andThen_ok,sizeOf,typeInfo,run_program,hinf,Sem.run_pure,Sem.run_ite]
       rw[if_neg n1]
       by_cases h0:len*inf.size=0
       ·rw[if_pos h0]
        have hl0:len*ei.size=0:=by rw[← hsz];exact h0
        have hlen0:len=0:=by rcases Nat.mul_eq_zero.1 hl0 with h | h<;>omega
        subst hlen0
        simp only[Nat.zero_mul]
        have:(Array.map (fun i=>(#[]:Array Value)[i % (#[]:Array Value).size]!) (Array.range 0))=(repL ei.zero 0).toArray:=by simp[repL]
        rw[this,hsz,hfe]
        simp[newRow]
       ·rw[if_neg h0]
        simp only[Sem.run_bind,zeroValue,typeInfo,run_program,Result.andThen_ok,hinf,Sem.run_pure,hz,hzc]
        rw[hsz]
        have hm':Array.map (fun i=>ei.zero.toArray[i % ei.zero.toArray.size]!) (Array.range (len*ei.size))=(repL ei.zero len).toArray:=hm
        rw[hm',hfe]
        simp[newRow]
      have hrun2:(execOp a.eval o).run P w=.ok (.value (.slice (some ⟨w.heap.size,0,none⟩) len len)) (w.alloc (.cells vout.toArray e)):=by simp only[execOp,ho,Sem.run_bind,hrun,Result.andThen_ok,Sem.run_pure]
      rw[hrun2]
      have hv:=seesL_rep hr (l:=idsL cs) hsees hrep (fun j hj=>hj)
      have hrk:=kill_rel hr (idsL cs)
      have hxm:=allLen_mem hal
      have hr':=hrk.alloc_row xs vout len vout.toArray e ei.size hxm h2 hv (by omega) (by simp only[maxLen];have:=Nat.le_mul_of_pos_right len h2;omega) (by simpa using hcl) (by rw[hxl,← hcl];simp)
      rw[hxl,kills_len] at hr'
      have hle:LeH st.h β (kills st.h (idsL cs)++[.row xs e ei.size]) (upf β st.h.length (.slice (some ⟨w.heap.size,0,none⟩) len len)):=by
       have:=le_snoc (kills st.h (idsL cs)) β (.row xs e ei.size) (.slice (some ⟨w.heap.size,0,none⟩) len len)
       rw[kills_len] at this
       intro i o hi
       obtain ⟨o1,h1,h2,h3⟩:=kills_le (idsL cs) st.h β i o hi
       obtain ⟨o2,h4,h5,h6⟩:=this i o1 h1
       refine ⟨o2,h4,?_,h6⟩
       have:o2=o1:=by
        have hil:i < (kills st.h (idsL cs)).length:=(List.getElem?_eq_some_iff.1 h1).1
        rw[List.getElem?_append_left hil,h1] at h4
        injection h4 with h4
        exact h4.symm
       rw[this]
       exact h2
      refine hN _ _ _ _ _ _ hk hr' ?_ hle ((kill_moved _ _ _ _ _).trans (hrk.moved (fr_alloc w _) (fun k hk=>hk.elim)))
      simp only[RepD]
      rw[List.getElem?_append_right (by rw[kills_len];exact Nat.le_refl _),kills_len]
      simp only[Nat.sub_self,List.getElem?_cons_zero]
      exact (upf_eq _ _ _).symm
    ·exact h.elim
  ·exact h.elim
 ·exact h.elim

theorem s_makeSlice (hT:TabOk P T) {t:TypeId} {l c:Operand} {o:Oper} (ho:o.op=.makeSlice t l c) (h:vcOp P T F C.G (.makeSlice t l c) st K Qp):OpRun P next qp ((execOp a.eval o).run P w):=by
 simp only[vcOp] at h
 split at h
 ·rename_i agg size bytes z0 e hs
  split at h
  ·rename_i ei hte
   cases hpos:Nat.blt 0 ei.size with
   | false=>rw[hpos] at h;exact h.elim
   | true =>
    rw[hpos] at h
    have hpos:0 < ei.size:=Nat.le_of_ble_eq_true hpos
    obtain ⟨len,cap,z,hl,hc,hlc,hb,hm,hsees,hk⟩:=h
    obtain ⟨d,hd,hdk,_⟩:=(hT t _ hs).d
    have hdk:d=.slice e:=hdk
    subst hdk
    obtain ⟨inf,zv,hinf,hsz,hby,hz,hzc⟩:=(hT e ei hte).inf
    have hzl:ei.zero.length=ei.size:=(hT e ei hte).zsize
    have hmm:=hm
    simp only[maxLen] at hmm
    have hbI:(inf.bytes:Int)*(cap:Int)≤281474976710656:=by
     have:((inf.bytes*cap:Nat):Int)≤281474976710656:=by rw[hby];omega
     rwa [Int.natCast_mul] at this
    have hrun:=run_make (P:=P) w t e inf zv hd hinf hz .i64 .i64 (len:Int) (cap:Int) (by omega) (by omega) hbI (by omega)
    simp only[Int.toNat_natCast] at hrun
    have hcells:madeCells zv.cells (cap*inf.size)=(repL ei.zero cap).toArray:=by
     rw[hsz,hzc]
     have:=made_repL ei.zero (by omega) cap
     rw[hzl] at this
     exact this
    rw[hcells] at hrun
    have hel:a.eval l=.int .i64 (len:Int):=by have:=he.eval hr.gl l;rw[hl] at this;simpa [RepD,RepV] using this
    have hec:a.eval c=.int .i64 (cap:Int):=by have:=he.eval hr.gl c;rw[hc] at this;simpa [RepD,RepV] using this
    have hrun2:(execOp a.eval o).run P w=.ok (.value (.slice (some ⟨w.heap.size,0,none⟩) len cap)) (w.alloc (.cells (repL ei.zero cap).toArray e)) :=
     Go.Eng.run_v (x:=Instr.makeSlice t (a.eval l) (a.eval c)) (by simp[execOp,ho]) (by rw[hel,hec];exact hrun)
    rw[hrun2]
    have htake:∀ (m k:Nat),k≤m→(repL ei.zero m).take (k*ei.size)=repL ei.zero k:=by
     intro m
     induction m with
     | zero =>
      intro k hk
      have:k=0:=by omega
      subst this;simp[repL]
     | succ m ih =>
      intro k hk
      cases k with
      | zero=>simp[repL]
      | succ k=>simp only[repL];rw[List.take_append,List.take_of_length_le (by rw[hzl,Nat.succ_mul];omega),hzl,show (k+1)*ei.size - ei.size=k*ei.size from by rw[Nat.succ_mul];omega,ih k (by omega)]
    have hz0:RepL V w z ei.zero:=by
     have h0:RelD ⟨w,fun _=>False,V,[]⟩ [] (fun _=>undef) V w:=⟨fun i o h=>by simp at h,fun i j o o' k h=>by simp at h,fun i o k h=>by simp at h,fun i o k h=>by simp at h,hr.vlt,fun k hk=>hk,fun k hk=>.inl hk,Fr.refl _ _,fun p hp=>by simp at hp⟩
     have:=seesL_rep h0 (l:=idsL (ei.zero.map of1)) hsees (ofL_rep ei.zero) (fun j hj=>hj)
     exact RepL.move (fun k hk=>⟨by rcases hk with hk | ⟨i,o,_,h2,_⟩;exact hk;simp at h2,rfl⟩) _ _ this
    have hzlen:z.length=ei.size:=by rw[hz0.len,hzl]
    have hrep:∀ n,RepL V w (List.replicate n z).flatten (repL ei.zero n):=by
     intro n
     induction n with
     | zero=>simp[repL,RepL]
     | succ n ih=>rw[List.replicate_succ,List.flatten_cons,repL];exact hz0.append ih
    have hr':=hr.alloc_row (List.replicate len z) (repL ei.zero len) cap (repL ei.zero cap).toArray e ei.size (fun r hr=>by rw[List.eq_of_mem_replicate hr];exact hzlen) hpos (hrep len) (by simpa using hlc) hm (by simp[length_repL,hzl]) (by simpa using htake cap len hlc)
    rw[List.length_replicate] at hr'
    refine hN _ _ _ _ _ _ hk hr' ?_ (le_snoc _ _ _ _) (hr.moved (fr_alloc w _) (fun k hk=>hk.elim))
    simp only[RepD]
    rw[List.getElem?_append_right (Nat.le_refl _)]
    simp only[Nat.sub_self,List.getElem?_cons_zero]
    exact (upf_eq _ _ _).symm
  ·exact h.elim
 ·exact h.elim
end

theorem ldG_run {t:TypeId} {i:TI} (hi:InfoOk P t i) {h:Heap} {r:List GV} {off:Nat} {k:D→Prop} (hl:ldG i r off k) {ad:Addr} {vs:List Value} (hv:RepL V w r vs) (hc:∀ j v,vs[j]?=some v→w.cell? (ad.add j)=some v) :
  ∃ d v,k d∧RepD h β V w d v∧(loadVar t (ad.add off)).run P w=.ok v w:=by
 unfold ldG at hl
 cases hagg:i.agg with
 | false =>
  rw[hagg] at hl
  simp only at hl
  split at hl
  ·rename_i x hx
   obtain ⟨v,hv1,hv2⟩:=hv.get hx
   exact ⟨_,v,hl,by simp only[RepD];exact hv2,run_loadVar_one hi hagg (hc off v hv1)⟩
  ·exact hl.elim
 | true =>
  rw[hagg] at hl
  simp only at hl
  cases hb:Nat.ble (off+i.size) r.length with
  | false=>rw[hb] at hl;exact hl.elim
  | true =>
   rw[hb] at hl
   have hle:=Nat.le_of_ble_eq_true hb
   refine ⟨_,.agg ⟨List.take i.size (vs.drop off)⟩,hl,?_,run_loadVar_agg hi hagg (vs:=List.take i.size (vs.drop off)) (by rw[List.length_take,List.length_drop,← hv.len];omega) (fun j v hj=>?_)⟩
   ·simp only[RepD]
    exact ⟨_,rfl,(RepDL_g _ _).2 ((hv.drop off).take i.size)⟩
   ·rw[add_add]
    have hjl:j < i.size:=by have:=(List.getElem?_eq_some_iff.1 hj).1;simp at this;omega
    rw[List.getElem?_take_of_lt hjl,List.getElem?_drop] at hj
    exact hc _ v hj

theorem el_cells {C:Ctx} {h:Heap} (hr:RelD C h β V w) {j k:Nat} {xs:List (List GV)} {e sz:Nat} (hj:h[j]?=some (.row xs e sz)) {r:List GV} (hk:xs[k]?=some r) {g n c:Nat} (hb:β j=.slice (some ⟨g,0,none⟩) n c) :
  ∃ vs,RepL V w r vs∧r.length=sz∧∀ i v,vs[i]?=some v→w.cell? ((⟨g,k*sz,none⟩:Addr).add i)=some v:=by
 obtain ⟨vs,hown,hv,hx,h0⟩:=hr.obj j _ hj
 have hrl:r.length=sz:=hx r (List.mem_of_getElem? hk)
 have hcells:=hown.cells (g:=g) (by rw[hb];rfl)
 refine ⟨(vs.drop (k*sz)).take sz,?_,hrl,fun i v hi=>?_⟩
 ·have hd:((xs.flatten).drop (k*sz)).take sz=r:=by
   have key:∀ (xs:List (List GV)) (k:Nat),(∀ r∈xs,r.length=sz)→xs[k]?=some r→((xs.flatten).drop (k*sz)).take sz=r:=by
    intro xs
    induction xs with
    | nil=>intro k _ hk;simp at hk
    | cons x xs ih =>
     intro k hx hk
     have hxl:=hx x List.mem_cons_self
     cases k with
     | zero =>
      simp at hk
      subst hk
      rw[List.flatten_cons,Nat.zero_mul,List.drop_zero,List.take_append_of_le_length (by omega),List.take_of_length_le (by omega)]
     | succ k =>
      rw[List.flatten_cons,List.drop_append,List.drop_of_length_le (by rw[hxl,Nat.succ_mul];omega),hxl,Nat.succ_mul,Nat.add_sub_cancel,List.nil_append]
      exact ih k (fun r hr=>hx r (List.mem_cons_of_mem _ hr)) (by simpa using hk)
   exact key xs k hx hk
  have:=(hv.drop (k*sz)).take sz
  rwa [hd] at this
 ·have hil:i < sz:=by have:=(List.getElem?_eq_some_iff.1 hi).1;simp at this;omega
  rw[List.getElem?_take_of_lt hil,List.getElem?_drop] at hi
  have:=hcells (k*sz+i) v hi
  rw[add_mk] at this ⊢
  rwa [Nat.zero_add] at this
end
end Go.Dm
/-
  The second engine, seventh part: the other operations' clauses suffice for their runs. It holds of every program whose table of types is met.
-/
namespace Go.Dm
open Go Go.Eng Go.RowKit

section
variable {P:Program} {T:Tab} {F:FuncId→Bool} {C:Ctx} {st:St} {a:Act} {w:World} {β:Nat→Value} {V:Nat→Prop} {K:KD} {Qp:KD} {next:Value→World→Prop} {qp:List PanicEntry→World→Prop}

theorem repI {h:Heap} (n:Int):RepD h β V w (.g (.int n)) (.int .i64 n):=by simp only[RepD,RepV]
theorem repU {h:Heap} (n:Int):RepD h β V w (.g (.u8 n)) (.int .u8 n):=by simp only[RepD,RepV]
theorem repS {h:Heap} (n:List UInt8):RepD h β V w (.g (.str n)) (.string ⟨⟨n⟩⟩):=by simp only[RepD,RepV]
theorem repB {h:Heap} (b:Bool):RepD h β V w (.g (.bool b)) (.bool b):=by simp only[RepD,RepV]
theorem repP {h:Heap} (p:Prop) [Decidable p]:RepD h β V w (.pb p) (.bool (decide p)):=by simp only[RepD];exact ⟨_,rfl,decide_eq_true_iff⟩
theorem repN {h:Heap} (p:Prop) [Decidable p]:RepD h β V w (.pn p) (.bool (!decide p)):=by simp only[RepD];exact ⟨_,rfl,by simp⟩
theorem bin_runD {op:BinOp} {x y:D} {k:D→Prop} {h:Heap} {vx vy:Value} (hv:vcBin op x y k) (hx:RepD h β V w x vx) (hy:RepD h β V w y vy) (t:TypeId) (ox oy:Operand) :
  ∃ d v,k d∧RepD h β V w d v∧∀ w:World,(do eqGuard op t ox oy vx vy;binOp op t vx vy).run P w=.ok v w:=by
 unfold vcBin at hv
 split at hv<;>first | exact hv.elim | skip
 all_goals (simp only[RepD,RepV] at hx hy;subst hx;subst hy)
 all_goals first
  | (obtain ⟨c,hc,hk⟩:=hv;refine ⟨_,_,hk,repI _,fun w=>?_⟩;simp[eqGuard,binOp,Op.intArith,hc];done)
  | (obtain ⟨hc,hk⟩:=hv;refine ⟨_,_,hk,repI _,fun w=>?_⟩;have hw:=I64.wrap hc;simp[eqGuard,binOp,Op.intArith,hw];done)
  | (obtain ⟨c,hc,hk⟩:=hv;refine ⟨_,_,hk,repI _,fun w=>?_⟩;simp only[eqGuard,binOp,Sem.run_bind];simp;done)
  | (obtain ⟨h0,hc,hk⟩:=hv;refine ⟨_,_,hk,repI _,fun w=>?_⟩;have hw:=I64.wrap hc;simp[eqGuard,binOp,Op.intDiv,h0,hw];done)
  | (obtain ⟨h0,hc,hk⟩:=hv;refine ⟨_,_,hk,repI _,fun w=>?_⟩;have hw:=I64.wrap hc;simp[eqGuard,binOp,Op.shift,IntKind.bits];rw[if_neg (by omega)];simp[hw];done)
  | (obtain ⟨h0,hk⟩:=hv;refine ⟨_,_,hk,repI _,fun w=>?_⟩;simp[eqGuard,binOp,Op.intDiv,h0];done)
  | (obtain ⟨h0,hk⟩:=hv;refine ⟨_,_,hk,repI _,fun w=>?_⟩;have h1:=Int.not_lt.2 h0;simp[eqGuard,binOp,Op.shift,IntKind.bits,h1];done)
  | (obtain ⟨h0,hk⟩:=hv;refine ⟨_,_,hk,repS _,fun w=>?_⟩;have h1:=Nat.not_lt.2 h0;simp[eqGuard,binOp,run_string_add_if,str_add];exact h0)
  | (refine ⟨_,_,hv,repU _,fun w=>?_⟩;simp[eqGuard,binOp,Op.intArith];done)
  | (refine ⟨_,.bool (decide _),hv,repP _,fun w=>?_⟩;simp[eqGuard,binOp,Op.intCmp];done)
  | (refine ⟨_,.bool (decide _),hv,repP _,fun w=>?_⟩;simp[eqGuard,binOp,Op.intCmp];rfl)
  | (refine ⟨_,.bool (!decide _),hv,repN _,fun w=>?_⟩;simp[eqGuard,binOp,Op.intCmp];done)
  | (refine ⟨_,.bool (!decide _),hv,repN _,fun w=>?_⟩;simp[eqGuard,binOp,Op.intCmp];rfl)
  | (refine ⟨_,.bool (decide _),hv,repP _,fun w=>?_⟩;simp only[eqGuard,binOp,Op.stringOp,str_eq];rfl)
  | (refine ⟨_,.bool (!decide _),hv,repN _,fun w=>?_⟩;simp only[eqGuard,binOp,Op.stringOp,str_eq];rfl)
  | skip

theorem asP_rep {d:D} {p:Prop} {v:Value} {h:Heap} (ha:asP d=some p) (hd:RepD h β V w d v):∃ b,v=.bool b∧(b=true↔p):=by
 unfold asP at ha
 split at ha
 ·injection ha with ha;subst ha;simpa only[RepD] using hd
 ·injection ha with ha;subst ha;simpa only[RepD] using hd
 ·injection ha with ha;subst ha;simp only[RepD,RepV] at hd;exact ⟨_,hd,Iff.rfl⟩
 ·cases ha

theorem boolEq_runD (hT:TabOk P T) {op:BinOp} {x y:D} {k:D→Prop} {h:Heap} {vx vy:Value} (hv:vcBoolEq op x y k) (hx:RepD h β V w x vx) (hy:RepD h β V w y vy) {t:TypeId} {i:TI} (ht:T t=some i) (hk:i.kind=.bool) (ox oy:Operand) :
  ∃ d v,k d∧RepD h β V w d v∧∀ w:World,(do eqGuard op t ox oy vx vy;binOp op t vx vy).run P w=.ok v w:=by
 obtain ⟨d,hd,hdk,_⟩:=(hT t i ht).d
 rw[hk] at hdk
 have hdk:d=.bool:=hdk
 subst hdk
 unfold vcBoolEq at hv
 split at hv
 ·rename_i p q hp hq
  obtain ⟨b,rfl,hb⟩:=asP_rep hp hx
  obtain ⟨c,rfl,hc⟩:=asP_rep hq hy
  refine ⟨_,.bool (b == c),hv,by simp only[RepD];refine ⟨_,rfl,?_⟩;rw[← hb,← hc];cases b<;>cases c<;>simp,fun w=>?_⟩
  simp[eqGuard,run_eql_bool w t _ _ hd]
 ·rename_i p q hp hq
  obtain ⟨b,rfl,hb⟩:=asP_rep hp hx
  obtain ⟨c,rfl,hc⟩:=asP_rep hq hy
  refine ⟨_,.bool (!(b == c)),hv,by simp only[RepD];refine ⟨_,rfl,?_⟩;rw[← hb,← hc];cases b<;>cases c<;>simp,fun w=>?_⟩
  simp[eqGuard,run_neq_bool w t _ _ hd]
 ·exact hv.elim

theorem eqlIn_slice_nil0 (w:World) (d:Nat) (t e:TypeId) (a:Option Addr) (l c:Nat) (h:P.underlying t=some (.slice e)):(Op.equalIn (d+1) t (.slice a l c) (.slice none 0 0)).run P w=.ok a.isNone w:=by
 cases a<;>simp[Op.equalIn,run_underlying h]
theorem eqlIn_slice_nil (w:World) (t e:TypeId) (a:Option Addr) (l c:Nat) (h:P.underlying t=some (.slice e)):(Op.equal t (.slice a l c) (.slice none 0 0)).run P w=.ok a.isNone w:=eqlIn_slice_nil0 w 9999 t e a l c h
theorem bytesG_rep (V:Nat→Prop) (w:World):∀ s:List UInt8,RepL V w (bytesG s).flatten (s.map (fun c=>Value.int .u8 (c.toNat:Int)))
 | []=>by simp[bytesG,RepL]
 | c :: s=>by
  have:=bytesG_rep V w s
  simp only[bytesG,List.map_cons,List.flatten_cons,List.singleton_append,RepL,RepV,true_and] at this ⊢
  exact this
theorem nil_runD (hT:TabOk P T) {op:BinOp} {x y:D} {k:D→Prop} {h:Heap} {vx vy:Value} (hv:vcNil op x y k) (hx:RepD h β V w x vx) (hy:RepD h β V w y vy) {t e:TypeId} {i:TI} (ht:T t=some i) (hk:i.kind=.slice e) (ox oy:Operand) :
  ∃ d v,k d∧RepD h β V w d v∧∀ w:World,(do eqGuard op t ox oy vx vy;binOp op t vx vy).run P w=.ok v w:=by
 obtain ⟨d,hd,hdk,_⟩:=(hT t i ht).d
 rw[hk] at hdk
 have hdk:d=.slice e:=hdk
 subst hdk
 unfold vcNil at hv
 split at hv
 ·rename_i n xs
  simp only[RepD,RepV] at hx hy
  obtain ⟨A,cap,rfl,h1,h2,h3⟩:=hx
  subst hy
  refine ⟨_,.bool A.isNone,hv (A.isNone=true) (fun hn=>?_),by simp only[RepD];exact ⟨_,rfl,Iff.rfl⟩,fun w=>?_⟩
  ·cases xs with
   | nil=>rfl
   | cons r xs=>obtain ⟨b,hb,_⟩:=h2 (by simp);rw[hb] at hn;cases hn
  ·simp[eqGuard,binOp,eqlIn_slice_nil w t e A _ _ hd]
 ·rename_i n xs
  simp only[RepD,RepV] at hx hy
  obtain ⟨A,cap,rfl,h1,h2,h3⟩:=hx
  subst hy
  refine ⟨_,.bool (!A.isNone),hv (A.isNone=true) (fun hn=>?_),by simp only[RepD];exact ⟨_,rfl,by cases A<;>simp⟩,fun w=>?_⟩
  ·cases xs with
   | nil=>rfl
   | cons r xs=>obtain ⟨b,hb,_⟩:=h2 (by simp);rw[hb] at hn;cases hn
  ·simp[eqGuard,binOp,eqlIn_slice_nil w t e A _ _ hd]
 ·simp only[RepD] at hx hy
  subst hx;subst hy
  exact ⟨_,.bool true,hv,repB _,fun w=>by simp[eqGuard,binOp,eqlIn_slice_nil w t e none _ _ hd]⟩
 ·simp only[RepD] at hx hy
  subst hx;subst hy
  exact ⟨_,.bool false,hv,repB _,fun w=>by simp[eqGuard,binOp,eqlIn_slice_nil w t e none _ _ hd]⟩
 ·exact hv.elim

theorem eqCs_rep {h:Heap}:∀ {cs ds:List D} {ks:List Nat} {p:Prop} {xs ys:List Value},eqCs cs ds=some (ks,p)→RepDL h β V w cs xs→RepDL h β V w ds ys→kindL ks xs∧kindL ks ys∧(xs=ys↔p):=by
 intro cs
 induction cs with
 | nil =>
  intro ds ks p xs ys he hx hy
  cases ds with
  | nil =>
   simp only[eqCs] at he
   injection he with he
   injection he with e1 e2
   subst e1;subst e2
   simp only[RepDL] at hx hy
   subst hx;subst hy
   exact ⟨trivial,trivial,by simp⟩
  | cons d ds=>simp[eqCs] at he
 | cons c cs ih =>
  intro ds ks p xs ys he hx hy
  cases ds with
  | nil=>simp[eqCs] at he
  | cons d ds =>
   simp only[RepDL] at hx hy
   obtain ⟨v,vs,rfl,hv,hvs⟩:=hx
   obtain ⟨u,us,rfl,hu,hus⟩:=hy
   cases c with
   | g x =>
    cases d with
    | g y =>
     cases x with
     | int a=>cases y with
      | int b =>
       simp only[eqCs] at he
       cases hrec:eqCs cs ds with
       | none=>rw[hrec] at he;cases he
       | some q =>
        obtain ⟨ks',p'⟩:=q
        rw[hrec] at he
        injection he with he
        injection he with k1 k2
        subst k1;subst k2
        obtain ⟨h1,h2,h3⟩:=ih hrec hvs hus
        simp only[RepD,RepV] at hv hu
        subst hv;subst hu
        exact ⟨⟨trivial,h1⟩,⟨trivial,h2⟩,by simp[h3]⟩
      | _=>simp[eqCs] at he
     | str a=>cases y with
      | str b =>
       simp only[eqCs] at he
       cases hrec:eqCs cs ds with
       | none=>rw[hrec] at he;cases he
       | some q =>
        obtain ⟨ks',p'⟩:=q
        rw[hrec] at he
        injection he with he
        injection he with k1 k2
        subst k1;subst k2
        obtain ⟨h1,h2,h3⟩:=ih hrec hvs hus
        simp only[RepD,RepV] at hv hu
        subst hv;subst hu
        exact ⟨⟨trivial,h1⟩,⟨trivial,h2⟩,by simp[h3]⟩
      | _=>simp[eqCs] at he
     | bool a=>cases y with
      | bool b =>
       simp only[eqCs] at he
       cases hrec:eqCs cs ds with
       | none=>rw[hrec] at he;cases he
       | some q =>
        obtain ⟨ks',p'⟩:=q
        rw[hrec] at he
        injection he with he
        injection he with k1 k2
        subst k1;subst k2
        obtain ⟨h1,h2,h3⟩:=ih hrec hvs hus
        simp only[RepD,RepV] at hv hu
        subst hv;subst hu
        exact ⟨⟨trivial,h1⟩,⟨trivial,h2⟩,by simp[h3]⟩
      | _=>simp[eqCs] at he
     | _=>cases y<;>simp[eqCs] at he
    | _=>simp[eqCs] at he
   | _=>cases d<;>simp[eqCs] at he
theorem stEq_runD {t:TypeId} {op:BinOp} {x y:D} {k:D→Prop} {h:Heap} {vx vy:Value} (hv:vcStEq P t op x y k) (hx:RepD h β V w x vx) (hy:RepD h β V w y vy) (ox oy:Operand) :
  ∃ d v,k d∧RepD h β V w d v∧∀ w:World,(do eqGuard op t ox oy vx vy;binOp op t vx vy).run P w=.ok v w:=by
 unfold vcStEq at hv
 split at hv
 ·split at hv
  ·rename_i ks p he
   simp only[RepD] at hx hy
   obtain ⟨us,rfl,h1⟩:=hx
   obtain ⟨vs,rfl,h2⟩:=hy
   obtain ⟨k1,k2,k3⟩:=eqCs_rep he h1 h2
   obtain ⟨b,hb,e1,_⟩:=hv.1 us vs .eql ox oy w k1 k2 (.inl rfl)
   refine ⟨_,.bool b,hv.2,by simp only[RepD];exact ⟨b,rfl,(e1 rfl).trans k3⟩,fun w'=>?_⟩
   obtain ⟨b',hb',e1',_⟩:=hv.1 us vs .eql ox oy w' k1 k2 (.inl rfl)
   have:b'=b:=by have:=(e1' rfl).trans (e1 rfl).symm;cases b<;>cases b'<;>simp_all
   rw[hb',this]
  ·exact hv.elim
 ·split at hv
  ·rename_i ks p he
   simp only[RepD] at hx hy
   obtain ⟨us,rfl,h1⟩:=hx
   obtain ⟨vs,rfl,h2⟩:=hy
   obtain ⟨k1,k2,k3⟩:=eqCs_rep he h1 h2
   obtain ⟨b,hb,_,e1⟩:=hv.1 us vs .neq ox oy w k1 k2 (.inr rfl)
   refine ⟨_,.bool b,hv.2,by simp only[RepD];exact ⟨b,rfl,(e1 rfl).trans (not_congr k3)⟩,fun w'=>?_⟩
   obtain ⟨b',hb',_,e1'⟩:=hv.1 us vs .neq ox oy w' k1 k2 (.inr rfl)
   have:b'=b:=by have:=(e1' rfl).trans (e1 rfl).symm;cases b<;>cases b'<;>simp_all
   rw[hb',this]
  ·exact hv.elim
 ·exact hv.elim

section
variable (hr:RelD C st.h β V w) (he:EnvOk st β V w a) (hN:Nx C st.h β V w K next)
include hr he hN

theorem s_bin (hT:TabOk P T) {op:BinOp} {t t':TypeId} {x y:Operand} {o:Oper} (ho:o.op=.binOp op t x y t') (h:vcOp P T F C.G (.binOp op t x y t') st K Qp):OpRun P next qp ((execOp a.eval o).run P w):=by
 have fin:(∃ d v,K d st.h∧RepD st.h β V w d v∧∀ w:World,(do eqGuard op t x y (a.eval x) (a.eval y);binOp op t (a.eval x) (a.eval y)).run P w=.ok v w)→OpRun P next qp ((execOp a.eval o).run P w):=by
  rintro ⟨d,v,hk,hd,hrun⟩
  exact fin_v hN hr (x:=do eqGuard op t x y (a.eval x) (a.eval y);binOp op t (a.eval x) (a.eval y)) (by simp[execOp,ho]) (hrun w) hk hd
 simp only[vcOp] at h
 split at h
 ·rename_i ht
  exact fin (boolEq_runD hT h (he.eval hr.gl x) (he.eval hr.gl y) ht rfl x y)
 ·rename_i ht
  exact fin (nil_runD hT h (he.eval hr.gl x) (he.eval hr.gl y) ht rfl x y)
 ·exact fin (stEq_runD h (he.eval hr.gl x) (he.eval hr.gl y) x y)
 ·exact fin (bin_runD h (he.eval hr.gl x) (he.eval hr.gl y) t x y)

theorem s_un {op:UnOp} {t:TypeId} {x:Operand} {o:Oper} (ho:o.op=.unOp op t x) (h:vcOp P T F C.G (.unOp op t x) st K Qp):OpRun P next qp ((execOp a.eval o).run P w):=by
 have fin:∀ (d:D) (v:Value),K d st.h→RepD st.h β V w d v→(Op.unary op (a.eval x)).run P w=.ok v w→OpRun P next qp ((execOp a.eval o).run P w):=fun d v hk hd hrun =>
  fin_v hN hr (x:=Op.unary op (a.eval x)) (by simp[execOp,ho]) hrun hk hd
 have hx:=he.eval hr.gl x
 simp only[vcOp] at h
 unfold vcUn at h
 split at h
 ·rename_i e
  rw[e] at hx
  simp only[RepD] at hx
  obtain ⟨b,hb,hbp⟩:=hx
  refine fin _ (.bool (!b)) h ?_ (by rw[hb];rfl)
  simp only[RepD]
  exact ⟨!b,rfl,by rw[← hbp];cases b<;>simp⟩
 ·rename_i e
  rw[e] at hx
  simp only[RepD] at hx
  obtain ⟨b,hb,hbp⟩:=hx
  refine fin _ (.bool (!b)) h ?_ (by rw[hb];rfl)
  simp only[RepD]
  refine ⟨!b,rfl,?_⟩
  constructor
  ·intro hn
   refine Classical.not_not.1 (fun hp=>?_)
   rw[hbp.2 hp] at hn
   cases hn
  ·intro hp
   cases b with
   | true=>exact absurd hp (hbp.1 rfl)
   | false=>rfl
 ·rename_i e
  rw[e] at hx
  simp only[RepD,RepV] at hx
  exact fin _ (.bool false) h (by simp only[RepD,RepV]) (by rw[hx];rfl)
 ·rename_i e
  rw[e] at hx
  simp only[RepD,RepV] at hx
  exact fin _ (.bool true) h (by simp only[RepD,RepV]) (by rw[hx];rfl)
 ·rename_i e
  rw[e] at hx
  simp only[RepD,RepV] at hx
  obtain ⟨hc,hk⟩:=h
  have hw:=I64.wrap hc
  exact fin _ _ hk (repI _) (by rw[hx];simp[Op.unary,Op.intArith] at hw ⊢;exact hw)
 ·exact h.elim

theorem s_convert (hT:TabOk P T) {src dst:TypeId} {x:Operand} {o:Oper} (ho:o.op=.convert src dst x) (h:vcOp P T F C.G (.convert src dst x) st K Qp):OpRun P next qp ((execOp a.eval o).run P w):=by
 have he':execOp a.eval o=(do pure (.value (← convert src dst (a.eval x)))):=by simp[execOp,ho]
 have hx:=he.eval hr.gl x
 simp only[vcOp] at h
 split at h
 ·rename_i hs hd e
  rw[e] at hx
  simp only[RepD,RepV] at hx
  obtain ⟨hc,hk⟩:=h
  obtain ⟨d1,hd1,_⟩:=(hT src _ hs).d
  obtain ⟨d,hd2,hdk,_⟩:=(hT dst _ hd).d
  have hdk:d=.int .i64:=hdk
  subst hdk
  refine fin_v hN hr he' ?_ hk (repI _)
  rw[hx]
  have hw:=I64.wrap hc
  simp[convert,run_underlying hd1,run_underlying hd2,Conv.intToInt,hw]
 ·rename_i hs hd e
  rw[e] at hx
  simp only[RepD,RepV] at hx
  obtain ⟨hc,hk⟩:=h
  obtain ⟨d1,hd1,_⟩:=(hT src _ hs).d
  obtain ⟨d,hd2,hdk,_⟩:=(hT dst _ hd).d
  have hdk:d=.int .i64:=hdk
  subst hdk
  refine fin_v hN hr he' ?_ hk (repI _)
  rw[hx]
  have hw:=I64.wrap hc
  simp[convert,run_underlying hd1,run_underlying hd2,Conv.intToInt,hw]
 ·rename_i hs hd e
  rw[e] at hx
  simp only[RepD,RepV] at hx
  obtain ⟨d1,hd1,_⟩:=(hT src _ hs).d
  obtain ⟨d,hd2,hdk,_⟩:=(hT dst _ hd).d
  have hdk:d=.int .u8:=hdk
  subst hdk
  refine fin_v hN hr he' ?_ h (repU _)
  rw[hx]
  simp[convert,run_underlying hd1,run_underlying hd2,Conv.intToInt]
 ·rename_i e s hs hd ex
  split at h
  ·rename_i hte
   rw[ex] at hx
   simp only[RepD,RepV] at hx
   obtain ⟨d1,hd1,hk1,_⟩:=(hT src _ hs).d
   have hk1:d1=.string:=hk1
   subst hk1
   obtain ⟨d2,hd2,hk2,_⟩:=(hT dst _ hd).d
   have hk2:d2=.slice e:=hk2
   subst hk2
   obtain ⟨d3,hd3,hk3,_⟩:=(hT e _ hte).d
   have hk3:d3=.int .u8:=hk3
   subst hk3
   have hrun:=run_bytes_of_string (P:=P) w src dst e ⟨⟨s⟩⟩ hd1 hd2 hd3
   have hrun2:=Go.Eng.run_v (o:=o) (ρ:=a.eval) he' (by rw[hx];exact hrun)
   rw[hrun2]
   generalize hcap:grownCap w (ByteArray.size ⟨⟨s⟩⟩) 0 e=cap
   have hge:s.length≤cap:=by rw[← hcap];exact grownCap_ge w _ 0 e
   have hcell:∀ j v,(s.map (fun c=>Value.int .u8 (c.toNat:Int)))[j]?=some v→(w.drew.alloc (.cells (bytesRow ⟨⟨s⟩⟩ cap) e ((bytesRow ⟨⟨s⟩⟩ cap).size,(bytesRow ⟨⟨s⟩⟩ cap).size+1))).cell? ((⟨w.heap.size,0,none⟩:Addr).add (0*1+j))=some v:=by
    intro j v hj
    have hjl:j < s.length:=by have:=(List.getElem?_eq_some_iff.1 hj).1;simpa using this
    have h1:(w.drew.alloc (.cells (bytesRow ⟨⟨s⟩⟩ cap) e ((bytesRow ⟨⟨s⟩⟩ cap).size,(bytesRow ⟨⟨s⟩⟩ cap).size+1))).cell? ((⟨w.heap.size,0,none⟩:Addr).add (0*1+j))=(bytesRow ⟨⟨s⟩⟩ cap)[j]?:=by
     have:=World.cell?_alloc_mark w.drew (bytesRow ⟨⟨s⟩⟩ cap) e ((bytesRow ⟨⟨s⟩⟩ cap).size,(bytesRow ⟨⟨s⟩⟩ cap).size+1) j
     have e0:(⟨w.heap.size,0,none⟩:Addr).add (0*1+j)=⟨w.heap.size,j,none⟩:=by
      simp only[Addr.add]
      split<;>simp_all
     rw[e0]
     exact this
    rw[h1,bytesRow_at ⟨⟨s⟩⟩ cap j (by simpa using hjl)]
    simp[List.getElem?_eq_getElem hjl] at hj
    rw[← hj]
    simp
   have hfr:Fr (fun _=>False) w (w.drew.alloc (.cells (bytesRow ⟨⟨s⟩⟩ cap) e ((bytesRow ⟨⟨s⟩⟩ cap).size,(bytesRow ⟨⟨s⟩⟩ cap).size+1))):=⟨rfl,rfl,rfl,by show w.heap.size≤(w.heap.push _).size;simp,fun k hk _=>by show (w.heap.push _)[k]?=_;exact Array.getElem?_push_lt hk |>.trans (Array.getElem?_eq_getElem hk).symm⟩
   have hm0:Moved V w (fun k=>V k∨k=w.heap.size) (w.drew.alloc (.cells (bytesRow ⟨⟨s⟩⟩ cap) e ((bytesRow ⟨⟨s⟩⟩ cap).size,(bytesRow ⟨⟨s⟩⟩ cap).size+1))):=fun k hk=>⟨.inl hk,hfr.block k (hr.vlt k hk) (fun h=>h)⟩
   refine hN _ _ _ _ β (fun k=>V k∨k=w.heap.size) h ?_ ?_ (LeH.refl _ _) hm0
   ·refine ⟨fun i o hi=>?_,hr.sep,hr.mine,fun i o k hi hlv hb hV=>?_,fun k hk=>?_,fun k hk=>.inl (hr.vin k hk),fun k hk=>?_,?_,hr.gl.move hm0⟩
    ·cases hlv:o.live with
     | false=>cases o<;>simp_all [Obj.live,ObjOk]
     | true=>exact (hr.obj i o hi).keep (LeH.refl _ β) hm0 rfl (fun k hk=>hfr.block k (hr.lt hi hlv hk) (fun h=>h))
    ·rcases hV with hV | hV
     ·exact hr.vout i o k hi hlv hb hV
     ·have:=hr.lt hi hlv hb
      omega
    ·rcases hk with hk | hk
     ·exact Nat.lt_of_lt_of_le (hr.vlt k hk) hfr.size
     ·subst hk
      show _ < (w.heap.push _).size
      simp
    ·rcases hk with hk | hk
     ·exact hr.vnew k hk
     ·subst hk
      exact .inr (.inl hr.fr.size)
    ·refine ⟨hfr.os.trans hr.fr.os,hfr.tape.trans hr.fr.tape,hfr.output.trans hr.fr.output,Nat.le_trans hr.fr.size hfr.size,fun k hk hn=>?_⟩
     rw[hfr.block k (Nat.lt_of_lt_of_le hk hr.fr.size) (fun h=>h)]
     exact hr.fr.block k hk hn
   ·simp only[RepD,RepV]
    refine ⟨some ⟨w.heap.size,0,none⟩,cap,?_,by simpa [bytesG] using hge,fun _=>⟨_,rfl,.inr rfl,?_⟩,fun h=>by cases h⟩
    ·simp only[bytesG,List.length_map];rfl
    ·refine RepAll.of_flat _ (s.map (fun c=>Value.int .u8 (c.toNat:Int))) 0 (fun r hr=>?_) ?_ hcell
     ·obtain ⟨c,_,rfl⟩:=List.mem_map.1 hr
      rfl
     ·exact bytesG_rep _ _ s
  ·exact h.elim
 ·exact h.elim

theorem s_fieldAddr (hT:TabOk P T) {t:TypeId} {x:Operand} {f:Nat} {o:Oper} (ho:o.op=.fieldAddr t x f) (h:vcOp P T F C.G (.fieldAddr t x f) st K Qp):OpRun P next qp ((execOp a.eval o).run P w):=by
 have he':execOp a.eval o=(do pure (.value (← Instr.fieldAt t (a.eval x) f))):=by simp[execOp,ho]
 have hx:=he.eval hr.gl x
 simp only[vcOp] at h
 split at h
 ·rename_i hs
  split at h
  ·rename_i off sz hf
   split at h
   ·rename_i i o' e
    rw[e] at hx
    split at h
    ·rename_i cs ty hi
     simp only[RepD,hi] at hx
     obtain ⟨g,hb,hv⟩:=hx
     refine fin_v hN hr he' (v:=.pointer (some ⟨g,o'+off,none⟩)) ?_ h (by simp only[RepD,hi];exact ⟨g,hb,rfl⟩)
     rw[hv,run_fieldAt hT hs rfl hf,add_mk]
    ·exact h.elim
   ·rename_i i j o' e
    rw[e] at hx
    split at h
    ·rename_i xs ty sz' hi
     simp only[RepD,hi] at hx
     obtain ⟨hj,g,n,c,hb,hv⟩:=hx
     refine fin_v hN hr he' (v:=.pointer (some ⟨g,j*sz'+o'+off,none⟩)) ?_ h (by simp only[RepD,hi];exact ⟨hj,g,n,c,hb,by rw[Nat.add_assoc]⟩)
     rw[hv,run_fieldAt hT hs rfl hf,add_mk]
    ·exact h.elim
   ·rename_i r o' e
    rw[e] at hx
    simp only[RepD] at hx
    obtain ⟨ad,hv,hV,hrow⟩:=hx
    refine fin_v hN hr he' (v:=.pointer (some ((ad.add o').add off))) ?_ h (by simp only[RepD];exact ⟨ad,by rw[add_add],hV,hrow⟩)
    rw[hv,run_fieldAt hT hs rfl hf]
   ·exact h.elim
  ·exact h.elim
 ·exact h.elim

omit hN in
theorem intv {x:Operand} {n:Int} (e:sv C.G st x=.g (.int n)):a.eval x=.int .i64 n:=by
 have hx:=he.eval hr.gl x
 rw[e] at hx
 simpa only[RepD,RepV] using hx

theorem s_indexAddr (hT:TabOk P T) {t:TypeId} {x ix:Operand} {o:Oper} (ho:o.op=.indexAddr t x ix) (h:vcOp P T F C.G (.indexAddr t x ix) st K Qp):OpRun P next qp ((execOp a.eval o).run P w):=by
 have he':execOp a.eval o=(do pure (.value (← Instr.indexAt t (a.eval x) (a.eval ix)))):=by simp[execOp,ho]
 have hx:=he.eval hr.gl x
 simp only[vcOp] at h
 unfold vcIndexAddr at h
 split at h
 ·rename_i e hs
  split at h
  ·rename_i ei k xs hte ex
   cases hb:Nat.beq k ei.size with
   | false=>rw[hb] at h;exact h.elim
   | true =>
    rw[hb] at h
    have hke:=Nat.eq_of_beq_eq_true hb
    subst hke
    obtain ⟨j,r,hj,hxj,hk⟩:=h
    rw[ex] at hx
    simp only[RepD,RepV] at hx
    obtain ⟨A,cap,hv,hc,ha⟩:=hx
    have hl:j < xs.length:=(List.getElem?_eq_some_iff.1 hxj).1
    obtain ⟨ad,rfl,hV,hall⟩:=ha.1 (by omega)
    obtain ⟨hlen,hrow⟩:=RepAll.get xs 0 j r hall hxj
    rw[Nat.zero_add] at hrow
    refine fin_v hN hr he' (v:=.pointer (some (ad.add (j*ei.size)))) ?_ hk (by simp only[RepD];exact ⟨ad.add (j*ei.size),by rw[add_add,Nat.add_zero],by rw[add_block];exact hV,(RepRow.shift r 0 (j*ei.size)).1 (by rwa [Nat.zero_add])⟩)
    rw[hv,intv hr he hj]
    exact run_indexAt_sl hT hs rfl hte ad xs.length cap j hl w
  ·rename_i ei u hte ex
   obtain ⟨m,q,l,ts,xs,ty,j,hm,hq,hi,hj,hl,hk⟩:=h
   rw[ex] at hx
   simp only[RepD,RepV] at hx
   obtain ⟨o',ho',hβ⟩:=(hr.obj m _ hm).2.2 _ hq
   rw[hi] at ho'
   injection ho' with ho'
   subst ho'
   obtain ⟨vs,hown,_⟩:=hr.obj q _ hi
   rcases hown.2 with ⟨_,h0⟩ | ⟨g,cap,cur,hbv,_⟩
   ·omega
   ·refine fin_v hN hr he' (v:=.pointer (some ⟨g,0+j*ei.size,none⟩)) ?_ hk (by simp only[RepD,hi];exact ⟨hl,g,_,_,hbv,by rw[Nat.zero_add,Nat.add_zero]⟩)
    have hu:β q=u:=hβ rfl
    rw[hx.1,← hu,hbv,intv hr he hj,run_indexAt_sl hT hs rfl hte _ xs.length cap j hl w,add_mk]
  ·rename_i ei i hte ex
   split at h
   ·rename_i xs ty sz hi
    cases hb:Nat.beq sz ei.size with
    | false=>rw[hb] at h;exact h.elim
    | true =>
     rw[hb] at h
     have hke:=Nat.eq_of_beq_eq_true hb
     subst hke
     obtain ⟨j,hj,hl,hk⟩:=h
     rw[ex] at hx
     simp only[RepD,hi] at hx
     obtain ⟨vs,hown,_⟩:=hr.obj i _ hi
     rcases hown.2 with ⟨_,h0⟩ | ⟨g,cap,cur,hbv,_⟩
     ·omega
     ·refine fin_v hN hr he' (v:=.pointer (some ⟨g,0+j*ei.size,none⟩)) ?_ hk (by simp only[RepD,hi];exact ⟨hl,g,_,_,hbv,by rw[Nat.zero_add,Nat.add_zero]⟩)
      rw[hx,hbv,intv hr he hj,run_indexAt_sl hT hs rfl hte _ xs.length cap j hl w,add_mk]
   ·exact h.elim
  ·rename_i ei i lo n hte ex
   split at h
   ·rename_i xs ty sz hi
    cases hb:Nat.beq sz ei.size with
    | false=>rw[hb] at h;exact h.elim
    | true =>
     rw[hb] at h
     have hke:=Nat.eq_of_beq_eq_true hb
     subst hke
     obtain ⟨j,hj,hl,hk⟩:=h
     rw[ex] at hx
     simp only[RepD,hi] at hx
     obtain ⟨hln,A,m,cap,hbe,hv⟩:=hx
     obtain ⟨vs,hown,_⟩:=hr.obj i _ hi
     rcases hown.2 with ⟨_,h0⟩ | ⟨g,cap',cur,hbv,_,_,hnc,_⟩
     ·omega
     ·rw[hbv] at hbe
      injection hbe with e1 e2 e3
      subst e1
      subst e3
      have hne:cap'≠lo:=by omega
      rw[if_neg hne] at hv
      simp only[Option.map_some,add_mk,Nat.zero_add] at hv
      refine fin_v hN hr he' (v:=.pointer (some ⟨g,lo*ei.size+j*ei.size,none⟩)) ?_ hk (by simp only[RepD,hi];exact ⟨by omega,g,_,_,hbv,by rw[Nat.add_zero,Nat.add_mul]⟩)
      rw[hv,intv hr he hj,run_indexAt_sl hT hs rfl hte _ n _ j hl w,add_mk]
   ·exact h.elim
  ·exact h.elim
 ·rename_i n e hs
  split at h
  ·rename_i ei i o' hte ex
   rw[ex] at hx
   split at h
   ·rename_i cs ty hi
    obtain ⟨j,hj,hl,hk⟩:=h
    simp only[RepD,hi] at hx
    obtain ⟨g,hb,hv⟩:=hx
    refine fin_v hN hr he' (v:=.pointer (some ⟨g,o'+j*ei.size,none⟩)) ?_ hk (by simp only[RepD,hi];exact ⟨g,hb,rfl⟩)
    rw[hv,intv hr he hj,run_indexAt_arr hT hs rfl hte _ j hl w,add_mk]
   ·exact h.elim
  ·rename_i ei r o' hte ex
   obtain ⟨j,hj,hl,hk⟩:=h
   rw[ex] at hx
   simp only[RepD] at hx
   obtain ⟨ad,hv,hV,hrow⟩:=hx
   refine fin_v hN hr he' (v:=.pointer (some ((ad.add o').add (j*ei.size)))) ?_ hk (by simp only[RepD];exact ⟨ad,by rw[add_add],hV,hrow⟩)
   rw[hv,intv hr he hj]
   exact run_indexAt_arr hT hs rfl hte _ j hl w
  ·rename_i ei i k' o' hte ex
   rw[ex] at hx
   split at h
   ·rename_i xs ty sz' hi
    obtain ⟨j,hj,hl,hk⟩:=h
    simp only[RepD,hi] at hx
    obtain ⟨hkl,g,nn,c,hb,hv⟩:=hx
    refine fin_v hN hr he' (v:=.pointer (some ⟨g,k'*sz'+o'+j*ei.size,none⟩)) ?_ hk (by simp only[RepD,hi];exact ⟨hkl,g,nn,c,hb,by rw[Nat.add_assoc]⟩)
    rw[hv,intv hr he hj,run_indexAt_arr hT hs rfl hte _ j hl w,add_mk]
   ·exact h.elim
  ·exact h.elim
 ·exact h.elim

theorem s_index (hT:TabOk P T) {t:TypeId} {x ix:Operand} {o:Oper} (ho:o.op=.index t x ix) (h:vcOp P T F C.G (.index t x ix) st K Qp):OpRun P next qp ((execOp a.eval o).run P w):=by
 have he':execOp a.eval o=(do pure (.value (← Instr.index t (a.eval x) (a.eval ix)))):=by simp[execOp,ho]
 have hx:=he.eval hr.gl x
 simp only[vcOp] at h
 split at h
 ·rename_i s hs ex
  obtain ⟨j,c,hi,hj,hk⟩:=h
  rw[ex] at hx
  simp only[RepD,RepV] at hx
  obtain ⟨d,hd,hdk,_⟩:=(hT t _ hs).d
  have hdk:d=.string:=hdk
  subst hdk
  refine fin_v hN hr he' ?_ hk (repU _)
  rw[hx,intv hr he hi]
  have h1:(0:Int)≤(j:Int):=by omega
  have h2:(⟨⟨s⟩⟩:ByteArray)[j]?=some c:=by
   obtain ⟨hl,hc⟩:=List.getElem?_eq_some_iff.1 hj
   have hsz:j < (⟨⟨s⟩⟩:ByteArray).size:=hl
   rw[getElem?_pos (⟨⟨s⟩⟩:ByteArray) j hsz]
   exact congrArg some hc
  simp[Instr.index,run_underlying hd,asIntOf,h2]
 ·exact h.elim

theorem s_slice (hT:TabOk P T) {t:TypeId} {x:Operand} {lo hi:Option Operand} {o:Oper} (ho:o.op=.slice t x lo hi none) (h:vcOp P T F C.G (.slice t x lo hi none) st K Qp):OpRun P next qp ((execOp a.eval o).run P w):=by
 have he':execOp a.eval o=(do pure (.value (← Instr.sliceAt t (a.eval x) (lo.map a.eval) (hi.map a.eval) none))):=by simp[execOp,ho]
 have hx:=he.eval hr.gl x
 simp only[vcOp] at h
 unfold vcSlice at h
 split at h
 ·rename_i s hs ex
  rw[ex] at hx
  simp only[RepD,RepV] at hx
  obtain ⟨d,hd,hdk,_⟩:=(hT t _ hs).d
  have hdk:d=.string:=hdk
  subst hdk
  have fin:∀ (l hh:Nat) (s':List UInt8),(match lo.map a.eval with | none=>l=0 | some p=>p=.int .i64 (l:Int))→(match hi.map a.eval with | none=>hh=s.length | some p=>p=.int .i64 (hh:Int))→l≤hh→hh≤s.length→s'=(s.take hh).drop l→K (.g (.str s')) st.h →
    OpRun P next qp ((execOp a.eval o).run P w):=by
   intro l hh s' hlo hhi h1 h2 he2 hk
   subst he2
   refine fin_v hN hr he' ?_ hk (repS _)
   have hb:=run_bounds (P:=P) (w:=w) false s.length s.length l hh (lo.map a.eval) (hi.map a.eval) hlo hhi h1 h2
   rw[hx]
   simp only[Instr.sliceAt,Instr.slice,Sem.run_bind,run_underlying hd,Result.andThen_ok]
   have hsz:(⟨⟨s⟩⟩:ByteArray).size=s.length:=rfl
   rw[hsz]
   simp[hb,extract_list ⟨⟨s⟩⟩ l hh h2]
  split at h
  ·rename_i e1 e2
   have e1:lo=none:=by simpa using e1
   have e2:hi=none:=by simpa using e2
   subst e1;subst e2
   exact fin 0 s.length s rfl rfl (by omega) (by omega) (by simp) h
  ·rename_i p e1 e2
   have e1:lo=none:=by simpa using e1
   obtain ⟨q,rfl,rfl⟩:=Option.map_eq_some_iff.1 e2
   subst e1
   obtain ⟨hh,hp,hl,hk⟩:=h
   exact fin 0 hh _ rfl (intv hr he hp) (by omega) hl (by simp) hk
  ·rename_i p e1 e2
   have e2:hi=none:=by simpa using e2
   obtain ⟨q,rfl,rfl⟩:=Option.map_eq_some_iff.1 e1
   subst e2
   obtain ⟨l,hp,hl,hk⟩:=h
   exact fin l s.length _ (intv hr he hp) rfl hl (by omega) (by simp) hk
  ·rename_i p p' e1 e2
   obtain ⟨q,rfl,rfl⟩:=Option.map_eq_some_iff.1 e1
   obtain ⟨q',rfl,rfl⟩:=Option.map_eq_some_iff.1 e2
   obtain ⟨l,hh,hp,hp',h1,h2,hk⟩:=h
   exact fin l hh _ (intv hr he hp) (intv hr he hp') h1 h2 rfl hk
 ·rename_i e k xs hs ex
  split at h
  ·exact h.elim
  ·rename_i ei hte
   cases hb:Nat.beq k ei.size with
   | false=>rw[hb] at h;exact h.elim
   | true =>
    rw[hb] at h
    simp only[cond_true] at h
    have hke:=Nat.eq_of_beq_eq_true hb
    subst hke
    rw[ex] at hx
    simp only[RepD] at hx
    obtain ⟨d,hd,hdk,_⟩:=(hT t _ hs).d
    have hdk:d=.slice e:=hdk
    subst hdk
    obtain ⟨inf,z,hinf,hsz,_⟩:=(hT e ei hte).inf
    have hx':=hx
    simp only[RepV] at hx'
    obtain ⟨A,cap,hv,hc,_⟩:=hx'
    rw[hv] at hx
    have fin:∀ (l hh:Nat) (xs':List (List GV)),(match lo.map a.eval with | none=>l=0 | some p=>p=.int .i64 (l:Int))→(match hi.map a.eval with | none=>hh=xs.length | some p=>p=.int .i64 (hh:Int))→l≤hh→hh≤xs.length→xs'=(xs.take hh).drop l→K (.g (.sl ei.size xs')) st.h →
      OpRun P next qp ((execOp a.eval o).run P w):=by
     intro l hh xs' hlo hhi h1 h2 he2 hk
     subst he2
     refine fin_v hN hr he' (v:=.slice (if cap=l then A else A.map (·.add (l*ei.size))) (hh - l) (cap - l)) ?_ hk (by simp only[RepD];exact hx.piece h1 h2)
     have hb:=run_bounds (P:=P) (w:=w) true xs.length cap l hh (lo.map a.eval) (hi.map a.eval) hlo hhi h1 (by omega)
     rw[hv]
     simp only[Instr.sliceAt,Instr.slice,Sem.run_bind,run_underlying hd,Result.andThen_ok]
     simp[hb,sizeOf,typeInfo,hinf,hsz]
    split at h
    ·rename_i e1 e2
     have e1:lo=none:=by simpa using e1
     have e2:hi=none:=by simpa using e2
     subst e1;subst e2
     exact fin 0 xs.length xs rfl rfl (by omega) (by omega) (by simp) h
    ·rename_i p e1 e2
     have e1:lo=none:=by simpa using e1
     obtain ⟨q,rfl,rfl⟩:=Option.map_eq_some_iff.1 e2
     subst e1
     obtain ⟨hh,hp,hl,hk⟩:=h
     exact fin 0 hh _ rfl (intv hr he hp) (by omega) hl (by simp) hk
    ·rename_i p e1 e2
     have e2:hi=none:=by simpa using e2
     obtain ⟨q,rfl,rfl⟩:=Option.map_eq_some_iff.1 e1
     subst e2
     obtain ⟨l,hp,hl,hk⟩:=h
     exact fin l xs.length _ (intv hr he hp) rfl hl (by omega) (by simp) hk
    ·rename_i p p' e1 e2
     obtain ⟨q,rfl,rfl⟩:=Option.map_eq_some_iff.1 e1
     obtain ⟨q',rfl,rfl⟩:=Option.map_eq_some_iff.1 e2
     obtain ⟨l,hh,hp,hp',h1,h2,hk⟩:=h
     exact fin l hh _ (intv hr he hp) (intv hr he hp') h1 h2 rfl hk
 ·rename_i e i hs ex
  split at h
  ·rename_i ei xs ty sz hte hi'
   cases hb:Nat.beq sz ei.size with
   | false=>rw[hb] at h;exact h.elim
   | true =>
    rw[hb] at h
    simp only[cond_true] at h
    have hke:=Nat.eq_of_beq_eq_true hb
    subst hke
    rw[ex] at hx
    simp only[RepD,hi'] at hx
    obtain ⟨d,hd,hdk,_⟩:=(hT t _ hs).d
    have hdk:d=.slice e:=hdk
    subst hdk
    obtain ⟨inf,z,hinf,hsz,_⟩:=(hT e ei hte).inf
    obtain ⟨vs,hown,_⟩:=hr.obj i _ hi'
    have hshape:∃ A cap,β i=.slice A xs.length cap∧xs.length≤cap:=by
     rcases hown.2 with ⟨hn,h0⟩ | ⟨g,cap,cur,hbv,_,_,hnc,_⟩
     ·exact ⟨none,0,by rw[hn,h0],by omega⟩
     ·exact ⟨_,cap,hbv,hnc⟩
    obtain ⟨A,cap,hbe,hnc⟩:=hshape
    have run:∀ (l hh:Nat),(match lo.map a.eval with | none=>l=0 | some p=>p=.int .i64 (l:Int))→(match hi.map a.eval with | none=>hh=xs.length | some p=>p=.int .i64 (hh:Int))→l≤hh→hh≤xs.length →
      (Instr.sliceAt t (a.eval x) (lo.map a.eval) (hi.map a.eval) none).run P w=.ok (.slice (if cap=l then A else A.map (·.add (l*ei.size))) (hh - l) (cap - l)) w:=by
     intro l hh hlo hhi h1 h2
     have hb:=run_bounds (P:=P) (w:=w) true xs.length cap l hh (lo.map a.eval) (hi.map a.eval) hlo hhi h1 (by omega)
     rw[hx,hbe]
     simp only[Instr.sliceAt,Instr.slice,Sem.run_bind,run_underlying hd,Result.andThen_ok]
     simp[hb,sizeOf,typeInfo,hinf,hsz]
    have fin:∀ (l hh m:Nat),(match lo.map a.eval with | none=>l=0 | some p=>p=.int .i64 (l:Int))→(match hi.map a.eval with | none=>hh=xs.length | some p=>p=.int .i64 (hh:Int))→l≤hh→hh≤xs.length→m=hh - l→K (.rs i l m) st.h →
      OpRun P next qp ((execOp a.eval o).run P w):=by
     intro l hh m hlo hhi h1 h2 hm hk
     subst hm
     refine fin_v hN hr he' (run l hh hlo hhi h1 h2) hk ?_
     simp only[RepD,hi']
     exact ⟨by omega,A,xs.length,cap,hbe,rfl⟩
    split at h
    ·rename_i e1 e2
     have e1:lo=none:=by simpa using e1
     have e2:hi=none:=by simpa using e2
     subst e1;subst e2
     refine fin_v hN hr he' (run 0 xs.length rfl rfl (by omega) (by omega)) h ?_
     simp only[RepD,hi',hbe,Nat.sub_zero,Nat.zero_mul]
     by_cases hc0:cap=0
     ·simp[hc0]
     ·cases A<;>simp[hc0,Addr.add]
    ·rename_i p e1 e2
     have e1:lo=none:=by simpa using e1
     obtain ⟨q,rfl,rfl⟩:=Option.map_eq_some_iff.1 e2
     subst e1
     obtain ⟨hh,hp,hl,hk⟩:=h
     exact fin 0 hh _ rfl (intv hr he hp) (by omega) hl (by simp) hk
    ·rename_i p e1 e2
     have e2:hi=none:=by simpa using e2
     obtain ⟨q,rfl,rfl⟩:=Option.map_eq_some_iff.1 e1
     subst e2
     obtain ⟨l,hp,hl,hk⟩:=h
     exact fin l xs.length _ (intv hr he hp) rfl hl (by omega) rfl hk
    ·rename_i p p' e1 e2
     obtain ⟨q,rfl,rfl⟩:=Option.map_eq_some_iff.1 e1
     obtain ⟨q',rfl,rfl⟩:=Option.map_eq_some_iff.1 e2
     obtain ⟨l,hh,hp,hp',h1,h2,hk⟩:=h
     exact fin l hh _ (intv hr he hp) (intv hr he hp') h1 h2 rfl hk
  ·exact h.elim
 ·rename_i n e i o' hs ex
  rw[ex] at hx
  split at h
  ·rename_i ti cs ty e1 e2 e3 hi'
   have e1:lo=none:=by simpa using e1
   have e2:hi=none:=by simpa using e2
   subst e1;subst e2
   cases hb:Nat.ble (o'+n*ti.size) cs.length && Nat.blt 0 n with
   | false=>rw[hb] at h;exact h.elim
   | true =>
    rw[hb] at h
    simp only[cond_true] at h
    simp only[Bool.and_eq_true] at hb
    have hn:0 < n:=Nat.le_of_ble_eq_true hb.2
    obtain ⟨d,hd,hdk,_⟩:=(hT t _ hs).d
    have hdk:d=.array n e:=hdk
    subst hdk
    obtain ⟨inf,z,hinf,hsz,_⟩:=(hT e ti e3).inf
    simp only[RepD,hi'] at hx
    obtain ⟨g,hb',hv⟩:=hx
    refine fin_v hN hr he' (v:=.slice (some ⟨g,o',none⟩) n n) ?_ h (by simp only[RepD,hi'];exact ⟨g,n,hb',rfl⟩)
    have hb:=run_bounds (P:=P) (w:=w) false n n 0 n none none rfl rfl (by omega) (by omega)
    rw[hv]
    simp only[Instr.sliceAt,Sem.run_bind,run_underlying hd,Result.andThen_ok,Option.map_none]
    simp[hb,sizeOf,typeInfo,hinf,Instr.sureAddr,Nat.pos_iff_ne_zero.1 hn,Addr.add]
  ·exact h.elim
 ·rename_i n e r hs ex
  rw[ex] at hx
  split at h
  ·rename_i p ei e1 e2 e3
   have e2:hi=none:=by simpa using e2
   obtain ⟨q,rfl,hq⟩:=Option.map_eq_some_iff.1 e1
   subst e2
   obtain ⟨l,hp,hs1,hrn,hl,hk⟩:=h
   obtain ⟨d,hd,hdk,_⟩:=(hT t _ hs).d
   have hdk:d=.array n e:=hdk
   subst hdk
   obtain ⟨inf,z,hinf,hsz,_⟩:=(hT e ei e3).inf
   simp only[RepD] at hx
   obtain ⟨a',hv,hV,hrow⟩:=hx
   have hq':a.eval q=.int .i64 (l:Int):=intv hr he (hq.trans hp)
   refine fin_v hN hr he' (v:=.slice (some (a'.add l)) (n - l) (n - l)) ?_ hk ?_
   ·have hb:=run_bounds (P:=P) (w:=w) false n n l n (some (.int .i64 (l:Int))) none rfl rfl (by omega) (by omega)
    rw[hv]
    simp only[Instr.sliceAt,Sem.run_bind,run_underlying hd,Result.andThen_ok,Option.map_none,Option.map_some,hq']
    have h0:a'.add 0=a':=by unfold Addr.add;rw[if_pos rfl]
    simp[hb,sizeOf,typeInfo,hinf,Instr.sureAddr,h0,hsz,hs1]
    intro e
    omega
   ·have hrl:RepRow V w (a'.add l) 0 (r.drop l):=(RepRow.shift _ 0 l).1 (by
     have:∀ (gs:List GV) (i k:Nat),RepRow V w a' i gs→RepRow V w a' (i+k) (gs.drop k):=by
      intro gs
      induction gs with
      | nil=>intro i k _;simp[RepRow]
      | cons g gs ih =>
       intro i k h
       cases k with
       | zero=>exact h
       | succ k =>
        simp only[RepRow] at h
        have:=ih (i+1) k h.2
        rw[show i+(k+1)=i+1+k from by omega]
        simpa using this
     exact this r 0 l hrow)
    have hall:∀ (gs:List GV) (i:Nat),RepRow V w (a'.add l) i gs→RepAll V w 1 (a'.add l) i (gs.map fun g=>[g]):=by
     intro gs
     induction gs with
     | nil=>intro i _;simp[RepAll]
     | cons g gs ih =>
      intro i h
      simp only[RepRow] at h
      simp only[List.map_cons,RepAll,RepRow,List.length_cons,List.length_nil,Nat.zero_add,Nat.mul_one,and_true,true_and]
      exact ⟨h.1,ih (i+1) h.2⟩
    have hlen:((r.drop l).map fun g=>[g]).length=n - l:=by rw[List.length_map,List.length_drop,hrn]
    simp only[RepD,RepV]
    refine ⟨some (a'.add l),n - l,by rw[hlen],by rw[hlen];exact Nat.le_refl _,fun _=>⟨_,rfl,by rw[show (a'.add l).block=a'.block from by unfold Addr.add;split<;>rfl];exact hV,hall _ 0 hrl⟩,fun h=>by cases h⟩
  ·exact h.elim
 ·exact h.elim
end
end
end Go.Dm
