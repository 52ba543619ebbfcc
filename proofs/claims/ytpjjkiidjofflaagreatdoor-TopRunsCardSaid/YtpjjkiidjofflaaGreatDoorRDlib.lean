import Derived.Test.YtpjjkiidjofflaaGreatDoorRDa4
namespace Go.Dm
open Go Go.Eng Go.RowKit
theorem ret2I {h:Zad} {a b c d:Int} (e:a=b) (e':c=d):Zbv (Is (.tuple [.g (.int b),.g (.int d)])) h (.tuple [.g (.int a),.g (.int c)]):=by subst e;subst e';exact ZbN (.inl rfl)
def Zag {α:Type} (f:α->Int):List α->Int
 | []=>0
 | x :: l=>if f x=0 then Zag f l else f x
theorem Zam {α:Type} {f:α->Int}:∀{l:List α},(∀x∈l,f x=0)->Zag f l=0
 | [],_=>rfl
 | x :: l,h=>by simp only[Zag];rw[if_pos (h x List.mem_cons_self)];exact Zam (λy hy=>h y (List.mem_cons_of_mem _ hy))
theorem ZaV {α:Type} {f:α->Int} {l:List α} {i:Nat} (hi:l.length<=i) (h:∀j (hj:j < l.length),j < i->f l[j]=0):Zag f l=0 :=
 Zam (λx hx=>by obtain ⟨j,hj,rfl⟩:=List.getElem_of_mem hx;exact h j hj (by omega))
theorem ZaQ {α:Type} {f:α->Int}:∀{l:List α} {i:Nat} (hi:i < l.length),(∀j (hj:j < l.length),j < i->f l[j]=0)->f l[i]≠0->Zag f l=f l[i]
 | [],i,hi,_,_=>by simp at hi
 | x :: l,0,hi,_,h1=>by simp only[Zag];rw[if_neg (by simpa using h1)];rfl
 | x :: l,i+1,hi,h,h1=>by
  simp only[Zag];rw[if_pos (show f x=0 from h 0 (by simp) (by omega))];have:=ZaQ (f:=f) (l:=l) (i:=i) (by simpa using hi) (λj hj hji=>show f l[j]=0 from h (j+1) (by simpa using hj) (by omega)) (by simpa using h1)
  simpa using this
theorem ZaI {α:Type} {f:α->Int} {l:List α} {i:Nat} (hi:i < l.length) (h:∀j (hj:j < l.length),j < i->f l[j]=0) (h1:f l[i]=0):∀j (hj:j < l.length),j < i+1->f l[j]=0:=by
 intro j hj hji
 by_cases e:j=i
 ·subst e;exact h1
 ·exact h j hj (by omega)
theorem ZfD {α:Type} {f:α->Int} {l:List α}:∀j (hj:j < l.length),j < 0->f l[j]=0:=λj _ h=>absurd h (Nat.not_lt_zero j)
theorem allp_step {α:Type} {p:α->Prop} {l:List α} {i:Nat} (hi:i < l.length) (h:∀j (hj:j < l.length),j < i->p l[j]) (h1:p l[i]):∀j (hj:j < l.length),j < i+1->p l[j]:=by
 intro j hj hji
 by_cases e:j=i
 ·subst e;exact h1
 ·exact h j hj (by omega)
theorem allp_end {α:Type} {p:α->Prop} {l:List α} {i:Nat} (hi:l.length<=i) (h:∀j (hj:j < l.length),j < i->p l[j]):∀x∈l,p x :=
 λx hx=>by obtain ⟨j,hj,rfl⟩:=List.getElem_of_mem hx;exact h j hj (by omega)
theorem ZcE {α:Type} {q:α->Prop} {l:List α} {i:Nat} (hi:i < l.length) (h:∀j (hj:j < l.length),j < i->¬q l[j]) (h1:¬q l[i]):∀j (hj:j < l.length),j < i+1->¬q l[j]:=allp_step (p:=λx=>¬q x) hi h h1
theorem ZgN {α:Type} {q:α->Prop} {l:List α}:∀j (hj:j < l.length),j < 0->¬q l[j]:=λj _ h=>absurd h (Nat.not_lt_zero j)
theorem Zdj {α:Type} {q:α->Prop} {l:List α} {i:Nat} (hi:l.length<=i) (h:∀j (hj:j < l.length),j < i->¬q l[j]):∀x∈l,¬q x:=allp_end (p:=λx=>¬q x) hi h
def agree (env:Env):List (Nat × D)->Prop
 | []=>True
 | (k,x) :: l=>env k=x/\agree env l
theorem ZeY {env:Env}:∀{l:List (Nat × D)},agree env l->Env.many env l=env
 | [],_=>rfl
 | (k,x) :: l,h=>by
  simp only[Env.many,ZeY h.2]
  funext j
  by_cases hj:j=k
  ·subst hj;simp[Env.set,h.1]
  ·simp[Env.set,ZcD hj]
def ZeS (Rd:St->Prop) (Q:Post):Post
 | .normal,st'=>Rd st'
 | e,st'=>Q e st'
theorem seqJ {P:Program} {T:Tab} {F:FuncId->Bool} {G:Gl} {n:Nat} {x y:Code} {env:Env} {h:Zad} {df:List Deferred} {Q:Post} {ι:Type} (val:ι->List (Nat × D)) (hpI:ι->Zad) (Inv:ι->Prop)
  (tail:∀(e0:Env) (i:ι),Inv i->vc P T F G n y ⟨Env.many e0 (val i),hpI i,df⟩ Q)
  (head:∀Rd:St->Prop,(∀(i:ι) (e:Env),agree e (val i)->Inv i->Rd ⟨e,hpI i,df⟩)->vc P T F G n x ⟨env,h,df⟩ (ZeS Rd Q)) :
  vc P T F G n (.seq x y) ⟨env,h,df⟩ Q:=by
 have hh:=head (λst'=>vc P T F G n y st' Q) (λi e ha hi=>by
  have:=tail e i hi;rw[ZeY ha] at this;exact this)
 have e:ZeS (λst'=>vc P T F G n y st' Q) Q=(λe st'=>match e with | .normal=>vc P T F G n y st' Q | e=>Q e st'):=by
  funext e st'
  cases e<;>rfl
 rw[e] at hh;exact hh
structure Hold (p:Prop):Prop where
 out:p
def holdPost (P:Program) (T:Tab) (F:FuncId->Bool) (G:Gl) (n:Nat) (y:Code) (Q:Post):Post
 | .normal,st'=>Hold (vc P T F G n y st' Q)
 | e,st'=>Q e st'
theorem stepS {P:Program} {T:Tab} {F:FuncId->Bool} {G:Gl} {n:Nat} {x y:Code} {st:St} {Q:Post} (h:vc P T F G n x st (holdPost P T F G n y Q)):vc P T F G n (.seq x y) st Q:=by
 have e:holdPost P T F G n y Q=(λe st'=>match e with | .normal=>vc P T F G n y st' Q | e=>Q e st'):=by
  funext e st'
  cases e with
  | normal=>exact propext ⟨Hold.out,Hold.mk⟩
  | _=>rfl
 rw[e] at h;exact h
end Go.Dm
