/-
  Small things that walks use again and again: returns of two numbers, the first fault of a list. It holds of every program.
-/
import Derived.Test.YtjkplhnbiejefaaDoorDa4
namespace Go.Dm
open Go Go.Eng Go.RowKit

theorem ret2I {h:Heap} {a b c d:Int} (e:a=b) (e':c=d):RetTo (Is (.tuple [.g (.int b),.g (.int d)])) h (.tuple [.g (.int a),.g (.int c)]):=by subst e;subst e';exact retIs (.inl rfl)

theorem spl {p q A B:Prop} (a:p→A) (b:q→B):(p→A)∧(q→B):=⟨a,b⟩
def firstE {α:Type} (f:α→Int):List α→Int
 | []=>0
 | x :: l=>if f x=0 then firstE f l else f x
theorem firstE_zero {α:Type} {f:α→Int}:∀ {l:List α},(∀ x∈l,f x=0)→firstE f l=0
 | [],_=>rfl
 | x :: l,h=>by simp only[firstE];rw[if_pos (h x List.mem_cons_self)];exact firstE_zero (fun y hy=>h y (List.mem_cons_of_mem _ hy))
theorem firstE_end {α:Type} {f:α→Int} {l:List α} {i:Nat} (hi:l.length≤i) (h:∀ j (hj:j < l.length),j < i→f l[j]=0):firstE f l=0 :=
 firstE_zero (fun x hx=>by obtain ⟨j,hj,rfl⟩:=List.getElem_of_mem hx;exact h j hj (by omega))
theorem firstE_at {α:Type} {f:α→Int}:∀ {l:List α} {i:Nat} (hi:i < l.length),(∀ j (hj:j < l.length),j < i→f l[j]=0)→f l[i]≠0→firstE f l=f l[i]
 | [],i,hi,_,_=>by simp at hi
 | x :: l,0,hi,_,h1=>by simp only[firstE];rw[if_neg (by simpa using h1)];rfl
 | x :: l,i+1,hi,h,h1=>by
  simp only[firstE]
  rw[if_pos (show f x=0 from h 0 (by simp) (by omega))]
  have:=firstE_at (f:=f) (l:=l) (i:=i) (by simpa using hi) (fun j hj hji=>show f l[j]=0 from h (j+1) (by simpa using hj) (by omega)) (by simpa using h1)
  simpa using this
theorem firstE_step {α:Type} {f:α→Int} {l:List α} {i:Nat} (hi:i < l.length) (h:∀ j (hj:j < l.length),j < i→f l[j]=0) (h1:f l[i]=0):∀ j (hj:j < l.length),j < i+1→f l[j]=0:=by
 intro j hj hji
 by_cases e:j=i
 ·subst e;exact h1
 ·exact h j hj (by omega)
theorem none0 {α:Type} {f:α→Int} {l:List α}:∀ j (hj:j < l.length),j < 0→f l[j]=0:=fun j _ h=>absurd h (Nat.not_lt_zero j)
theorem firstE_congr {α:Type} {f g:α→Int}:∀ {l:List α},(∀ x∈l,f x=g x)→firstE f l=firstE g l
 | [],_=>rfl
 | x :: l,h=>by
  simp only[firstE]
  rw[h x List.mem_cons_self,firstE_congr (fun y hy=>h y (List.mem_cons_of_mem _ hy))]
theorem allp_step {α:Type} {p:α→Prop} {l:List α} {i:Nat} (hi:i < l.length) (h:∀ j (hj:j < l.length),j < i→p l[j]) (h1:p l[i]):∀ j (hj:j < l.length),j < i+1→p l[j]:=by
 intro j hj hji
 by_cases e:j=i
 ·subst e;exact h1
 ·exact h j hj (by omega)
theorem allp_0 {α:Type} {p:α→Prop} {l:List α}:∀ j (hj:j < l.length),j < 0→p l[j]:=fun j _ h=>absurd h (Nat.not_lt_zero j)
theorem allp_end {α:Type} {p:α→Prop} {l:List α} {i:Nat} (hi:l.length≤i) (h:∀ j (hj:j < l.length),j < i→p l[j]):∀ x∈l,p x :=
 fun x hx=>by obtain ⟨j,hj,rfl⟩:=List.getElem_of_mem hx;exact h j hj (by omega)

theorem alln_step {α:Type} {q:α→Prop} {l:List α} {i:Nat} (hi:i < l.length) (h:∀ j (hj:j < l.length),j < i→¬q l[j]) (h1:¬q l[i]):∀ j (hj:j < l.length),j < i+1→¬q l[j]:=allp_step (p:=fun x=>¬q x) hi h h1
theorem alln_0 {α:Type} {q:α→Prop} {l:List α}:∀ j (hj:j < l.length),j < 0→¬q l[j]:=fun j _ h=>absurd h (Nat.not_lt_zero j)
theorem alln_end {α:Type} {q:α→Prop} {l:List α} {i:Nat} (hi:l.length≤i) (h:∀ j (hj:j < l.length),j < i→¬q l[j]):∀ x∈l,¬q x:=allp_end (p:=fun x=>¬q x) hi h

def agree (env:Env):List (Nat × D)→Prop
 | []=>True
 | (k,x) :: l=>env k=x∧agree env l
theorem many_self {env:Env}:∀ {l:List (Nat × D)},agree env l→Env.many env l=env
 | [],_=>rfl
 | (k,x) :: l,h=>by
  simp only[Env.many,many_self h.2]
  funext j
  by_cases hj:j=k
  ·subst hj;simp[Env.set,h.1]
  ·simp[Env.set,beq_ne hj]
def seqPost (Rd:St→Prop) (Q:Post):Post
 | .normal,st'=>Rd st'
 | e,st'=>Q e st'
theorem seqJ {P:Program} {T:Tab} {F:FuncId→Bool} {G:Gl} {n:Nat} {x y:Code} {env:Env} {h:Heap} {df:List Deferred} {Q:Post} {ι:Type} (val:ι→List (Nat × D)) (hpI:ι→Heap) (Inv:ι→Prop)
  (tail:∀ (e0:Env) (i:ι),Inv i→vc P T F G n y ⟨Env.many e0 (val i),hpI i,df⟩ Q)
  (head:∀ Rd:St→Prop,(∀ (i:ι) (e:Env),agree e (val i)→Inv i→Rd ⟨e,hpI i,df⟩)→vc P T F G n x ⟨env,h,df⟩ (seqPost Rd Q)) :
  vc P T F G n (.seq x y) ⟨env,h,df⟩ Q:=by
 have hh:=head (fun st'=>vc P T F G n y st' Q) (fun i e ha hi=>by
  have:=tail e i hi
  rw[many_self ha] at this
  exact this)
 have e:seqPost (fun st'=>vc P T F G n y st' Q) Q=(fun e st'=>match e with | .normal=>vc P T F G n y st' Q | e=>Q e st'):=by
  funext e st'
  cases e<;>rfl
 rw[e] at hh
 exact hh
def IsB (d:D) (p:Prop):Prop:=match d with
 | .pb q=>(q↔p)
 | .pn q=>(¬q↔p)
 | .g (.bool b)=>(b=true↔p)
 | _=>False
theorem bcaseB {d:D} {p A B:Prop} (h:IsB d p) (a:p→A) (b:¬p→B):bcase d A B:=by
 unfold IsB at h
 split at h
 ·exact ⟨fun q=>a (h.1 q),fun q=>b (fun hp=>q (h.2 hp))⟩
 ·exact ⟨fun q=>a (h.1 q),fun q=>b (fun hp=>(h.2 hp) q)⟩
 ·rename_i c
  cases c with
  | true=>exact a (h.1 rfl)
  | false=>exact b (fun hp=>absurd (h.2 hp) (by decide))
 ·exact h.elim
theorem notB {d:D} {p:Prop} {K:D→Prop} (h:IsB d p) (k:∀ d',IsB d' (¬p)→K d'):vcUn .not d K:=by
 unfold IsB at h
 split at h
 ·exact k _ (show (¬_↔_) from not_congr h)
 ·rename_i q
  exact k (.pb q) (show (q↔¬p) from ⟨fun hq hp=>h.2 hp hq,fun hp=>Classical.not_not.1 (fun hq=>hp (h.1 hq))⟩)
 ·rename_i c
  cases c with
  | true=>exact k _ (show (false=true↔¬p) from ⟨fun e=>(by cases e),fun hp=>absurd (h.1 rfl) hp⟩)
  | false=>exact k _ (show (true=true↔¬p) from ⟨fun _ hp=>absurd (h.2 hp) (by decide),fun _=>rfl⟩)
 ·exact h.elim
theorem retIB {h:Heap} {d:D} {p q:Prop} (e:IsB d p) (pq:p↔q):RetTo (Is (.pb q)) h d:=by
 unfold IsB at e
 split at e
 ·exact retP (e.trans pq)
 ·exact retN (e.trans pq)
 ·exact retB (e.trans pq)
 ·exact e.elim
theorem isF {p:Prop} (h:¬p):IsB (.g (.bool false)) p:=⟨fun e=>(by cases e),fun hp=>absurd hp h⟩
theorem isT {p:Prop} (h:p):IsB (.g (.bool true)) p:=⟨fun _=>h,fun _=>rfl⟩
theorem isP {p q:Prop} (h:q↔p):IsB (.pb q) p:=h
theorem isN {p q:Prop} (h:¬q↔p):IsB (.pn q) p:=h

theorem isB_cases {d:D} {p:Prop} (h:IsB d p):(∃ q,d=.pb q∧(q↔p))∨(∃ q,d=.pn q∧(¬q↔p))∨(d=.g (.bool true)∧p)∨(d=.g (.bool false)∧¬p):=by
 unfold IsB at h
 split at h
 ·exact .inl ⟨_,rfl,h⟩
 ·exact .inr (.inl ⟨_,rfl,h⟩)
 ·rename_i b
  cases b with
  | true=>exact .inr (.inr (.inl ⟨rfl,h.1 rfl⟩))
  | false=>exact .inr (.inr (.inr ⟨rfl,fun hp=>absurd (h.2 hp) (by decide)⟩))
 ·exact h.elim
theorem forceI {d:D} {K:D→Prop} (h:K d):forceD d K:=by rw[forceD_eq];exact h
structure Hold (p:Prop):Prop where
 out:p
def holdPost (P:Program) (T:Tab) (F:FuncId→Bool) (G:Gl) (n:Nat) (y:Code) (Q:Post):Post
 | .normal,st'=>Hold (vc P T F G n y st' Q)
 | e,st'=>Q e st'
theorem stepS {P:Program} {T:Tab} {F:FuncId→Bool} {G:Gl} {n:Nat} {x y:Code} {st:St} {Q:Post} (h:vc P T F G n x st (holdPost P T F G n y Q)):vc P T F G n (.seq x y) st Q:=by
 have e:holdPost P T F G n y Q=(fun e st'=>match e with | .normal=>vc P T F G n y st' Q | e=>Q e st'):=by
  funext e st'
  cases e with
  | normal=>exact propext ⟨Hold.out,Hold.mk⟩
  | _=>rfl
 rw[e] at h
 exact h
end Go.Dm
