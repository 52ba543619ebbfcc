/-
  What a program that may be holds: plain.
-/
import Derived.Test.YtjkplhnbiejefaaDoorNq
import Derived.Test.YtjkplhnbiejefaaDoorSi
import Derived.Test.YtjkplhnbiejefaaDoorGh
namespace Barb
open Go Go.Dm Go.Eng Go.Proofs.YtjkplhnbiejefaaDoor
theorem many_pos:∀ (n:Nat) (l:List Stmt),0≤stmtsN n l
 | 0,_=>Int.le_refl _
 | n+1,l=>by
  have h:∀ l:List Stmt,0≤(l.map (stmtN1 (stmtsN n))).sum:=fun l=>by
   induction l with
   | nil=>simp
   | cons x l ih =>
    obtain ⟨k,s,xs,b,e⟩:=x
    have h1:=many_pos n b
    have h2:=many_pos n e
    simp only[List.map_cons,List.sum_cons,stmtN1]
    omega
  have:=h l
  simp only[stmtsN]
  omega
def noX:Expr:=.mk 0 0 [] [] []
theorem exprE_inv {n:Nat} {x:Expr} (h:exprE (n+1) x=0):(1≤x.k∧x.k≤5)∧x.args.length≤4∧exprOk x.k x.n x.of x.s x.args.length∧¬exprBad x.k x.n∧∀ y∈x.args,exprE n y=0:=by
 rw[exprE_succ] at h
 by_cases h1:¬(1≤x.k∧x.k≤5)
 ·rw[if_pos h1] at h;omega
 rw[if_neg h1] at h
 by_cases h2:4 < x.args.length
 ·rw[if_pos h2] at h;omega
 rw[if_neg h2] at h
 by_cases h3:¬exprOk x.k x.n x.of x.s x.args.length
 ·rw[if_pos h3] at h;omega
 rw[if_neg h3] at h
 by_cases h4:exprBad x.k x.n
 ·rw[if_pos h4] at h;omega
 rw[if_neg h4] at h
 exact ⟨Classical.not_not.1 h1,by omega,Classical.not_not.1 h3,h4,firstE_all h⟩
theorem exprS_inv {p:List Unit} {u:Unit} {f:Fun} {x:Expr} (h:exprS p u f x=0):exprS1 p u f x.k x.of x.s x.args.length=0∧∀ y∈x.args,exprS p u f y=0:=by
 obtain ⟨k,n,of,s,args⟩:=x
 rw[exprS] at h
 by_cases h1:exprS1 p u f k of s args.length≠0
 ·rw[if_pos h1] at h;exact absurd h h1
 rw[if_neg h1,exprsS_first] at h
 exact ⟨Classical.not_not.1 h1,firstE_all h⟩
theorem findG_idx {α:Type} {q:α→Prop} [DecidablePred q] {l:List α} {x:α} (h:l.find? (fun y=>decide (q y))=some x):∃ (i:Nat) (hi:i < l.length),idx q l=(i:Int)∧l[i]=x:=by
 rcases idx_cases q l with ⟨_,h2⟩ | ⟨i,hi,h1,h2,h3⟩
 ·have:=List.mem_of_find?_eq_some h
  have hq:=List.find?_some h
  exact absurd (of_decide_eq_true hq) (h2 x this)
 ·refine ⟨i,hi,h1,?_⟩
  have h4:l.find? (fun y=>decide (q y))=some l[i]:=by
   rw[List.find?_eq_some_iff_getElem]
   exact ⟨decide_eq_true h2,i,hi,rfl,fun j hj=>by simp;exact h3 j (by omega) hj⟩
  rw[h4] at h
  exact Option.some.inj h
theorem calledIn_ok {to:Unit} {of s:Str} {m:Nat} (h:calledIn to of s m=0):∃ (i:Nat) (hi:i < to.funcs.length),funIdx to s=(i:Int)∧to.funcs[i].params.length=m∧(of≠[]→to.funcs[i].isOpen=true)∧to.funcs[i].name=s:=by
 unfold calledIn at h
 split at h
 ·exact absurd h (by decide)
 ·rename_i g hg
  obtain ⟨i,hi,h1,h2⟩:=findG_idx (q:=fun f:Fun=>f.name=s) hg
  have hn:g.name=s:=by have:=List.find?_some hg;simpa using this
  subst h2
  by_cases h3:of≠[]∧to.funcs[i].isOpen=false
  ·rw[if_pos h3] at h;exact absurd h (by decide)
  rw[if_neg h3] at h
  by_cases h4:to.funcs[i].params.length≠m
  ·rw[if_pos h4] at h;exact absurd h (by decide)
  refine ⟨i,hi,h1,Classical.not_not.1 h4,fun ho=>?_,hn⟩
  cases hb:to.funcs[i].isOpen with
  | true=>rfl
  | false=>exact absurd ⟨ho,hb⟩ h3
theorem calledE_out {p:List Unit} {u:Unit} {of s:Str} {m:Nat} (h:calledE p u of s m=0) (ho:of≠[]):∃ (i:Nat) (hi:i < p.length),unitIdx p of=(i:Int)∧calledIn p[i] of s m=0:=by
 unfold calledE at h
 rw[if_neg ho] at h
 split at h
 ·exact absurd h (by decide)
 ·rename_i v hv
  obtain ⟨i,hi,h1,h2⟩:=findG_idx (q:=fun u:Unit=>u.name=of) hv
  subst h2
  exact ⟨i,hi,h1,h⟩
theorem stmtE_inv {f:List Stmt→Int} {x:Stmt} (h:stmtE1 f x=0):(1≤x.k∧x.k≤6)∧stmtOk x.k x.s x.xs.length x.b.length x.e.length∧(∀ y∈x.xs,exprE 12 y=0)∧f x.b=0∧f x.e=0:=by
 rw[stmtE1_eq] at h
 by_cases h1:¬(1≤x.k∧x.k≤6)
 ·rw[if_pos h1] at h;omega
 rw[if_neg h1] at h
 by_cases h2:¬stmtOk x.k x.s x.xs.length x.b.length x.e.length
 ·rw[if_pos h2] at h;omega
 rw[if_neg h2] at h
 by_cases h3:firstE (exprE 12) x.xs≠0
 ·rw[if_pos h3] at h;exact absurd h h3
 rw[if_neg h3] at h
 by_cases h4:f x.b≠0
 ·rw[if_pos h4] at h;exact absurd h h4
 rw[if_neg h4] at h
 exact ⟨Classical.not_not.1 h1,Classical.not_not.1 h2,firstE_all (Classical.not_not.1 h3),Classical.not_not.1 h4,h⟩
theorem stmtS_inv {p:List Unit} {u:Unit} {f:Fun} {x:Stmt} (h:stmtS p u f x=0):¬((x.k=1∧¬varP u f x.s)∨(x.k=2∧¬arrP u x.s))∧(∀ y∈x.xs,exprS p u f y=0)∧stmtsS p u f x.b=0∧stmtsS p u f x.e=0:=by
 obtain ⟨k,s,xs,b,e⟩:=x
 rw[stmtS] at h
 by_cases h1:(k=1∧¬varP u f s)∨(k=2∧¬arrP u s)
 ·rw[if_pos h1] at h;omega
 rw[if_neg h1] at h
 by_cases h3:exprsS p u f xs≠0
 ·rw[if_pos h3] at h;exact absurd h h3
 rw[if_neg h3] at h
 by_cases h4:stmtsS p u f b≠0
 ·rw[if_pos h4] at h;exact absurd h h4
 rw[if_neg h4] at h
 exact ⟨h1,firstE_all (by rw[← exprsS_first];exact Classical.not_not.1 h3),Classical.not_not.1 h4,h⟩
theorem stmtsN_nil (n:Nat):stmtsN n []=0:=by cases n<;>simp[stmtsN]
theorem stmtsN_cons (n:Nat) (x:Stmt) (l:List Stmt):stmtsN (n+1) (x :: l)=1+(stmtsN n x.b+stmtsN n x.e)+stmtsN (n+1) l:=by
 obtain ⟨k,s,xs,b,e⟩:=x
 simp only[stmtsN,List.map_cons,List.sum_cons,List.length_cons,stmtN1,Stmt.b,Stmt.e]
 omega
theorem progE_inv {p:List Unit} (h:progE p=0):p.length≤5∧(∀ u∈p,unitE u=0)∧progWords p≤250∧∀ u∈p,unitS p u=0:=by
 unfold progE at h
 by_cases h1:5 < p.length
 ·rw[if_pos h1] at h;omega
 rw[if_neg h1] at h
 by_cases h2:firstE unitE p≠0
 ·rw[if_pos h2] at h;exact absurd h h2
 rw[if_neg h2] at h
 by_cases h3:dupP (p.map Unit.name)
 ·rw[if_pos h3] at h;omega
 rw[if_neg h3] at h
 by_cases h4:250 < progWords p
 ·rw[if_pos h4] at h;omega
 rw[if_neg h4] at h
 exact ⟨by omega,firstE_all (Classical.not_not.1 h2),by omega,firstE_all h⟩
theorem nameE_inv {s:Str} (h:nameE s=0):identP s:=by
 unfold nameE at h
 by_cases h1:identP s
 ·exact h1
 ·rw[if_neg h1] at h;omega
theorem arrE_inv {a:Arr} (h:arrE a=0):identP a.name∧1≤a.size∧a.size≤10:=by
 unfold arrE at h
 by_cases h1:¬identP a.name
 ·rw[if_pos h1] at h;omega
 rw[if_neg h1] at h
 by_cases h2:¬(1≤a.size∧a.size≤10)
 ·rw[if_pos h2] at h;omega
 exact ⟨Classical.not_not.1 h1,by omega,by omega⟩
theorem funE_inv {f:Fun} (h:funE f=0):identP f.name∧f.params.length≤4∧(∀ s∈f.params,identP s)∧stmtsE 12 f.body=0:=by
 unfold funE at h
 by_cases h1:¬identP f.name
 ·rw[if_pos h1] at h;omega
 rw[if_neg h1] at h
 by_cases h2:4 < f.params.length
 ·rw[if_pos h2] at h;omega
 rw[if_neg h2] at h
 by_cases h3:firstE nameE f.params≠0
 ·rw[if_pos h3] at h;exact absurd h h3
 rw[if_neg h3] at h
 exact ⟨Classical.not_not.1 h1,by omega,fun s hs=>nameE_inv (firstE_all (Classical.not_not.1 h3) s hs),h⟩
theorem unitE_inv {u:Unit} (h:unitE u=0):identP u.name∧u.vars.length≤8∧u.arrays.length≤3∧u.funcs.length≤8∧(∀ s∈u.vars,identP s)∧(∀ a∈u.arrays,arrE a=0)∧∀ f∈u.funcs,funE f=0:=by
 unfold unitE at h
 by_cases h1:¬identP u.name
 ·rw[if_pos h1] at h;omega
 rw[if_neg h1] at h
 by_cases h2:8 < u.vars.length∨3 < u.arrays.length∨8 < u.funcs.length
 ·rw[if_pos h2] at h;omega
 rw[if_neg h2] at h
 by_cases h3:firstE nameE u.vars≠0
 ·rw[if_pos h3] at h;exact absurd h h3
 rw[if_neg h3] at h
 by_cases h4:firstE arrE u.arrays≠0
 ·rw[if_pos h4] at h;exact absurd h h4
 rw[if_neg h4] at h
 by_cases h5:firstE funE u.funcs≠0
 ·rw[if_pos h5] at h;exact absurd h h5
 exact ⟨Classical.not_not.1 h1,by omega,by omega,by omega,fun s hs=>nameE_inv (firstE_all (Classical.not_not.1 h3) s hs),firstE_all (Classical.not_not.1 h4),firstE_all (Classical.not_not.1 h5)⟩
theorem unitS_inv {p:List Unit} {u:Unit} (h:unitS p u=0):∀ f∈u.funcs,stmtsS p u f f.body=0:=by
 unfold unitS at h
 by_cases h1:dupP (u.vars++u.arrays.map Arr.name)∨dupP (u.funcs.map Fun.name)
 ·rw[if_pos h1] at h;omega
 rw[if_neg h1] at h
 intro f hf
 have h2:=firstE_all h f hf
 unfold funS at h2
 by_cases h3:dupP f.params
 ·rw[if_pos h3] at h2;omega
 rw[if_neg h3] at h2
 exact h2
theorem identP_len {s:Str} (h:identP s):s.length≤8:=h.1.1.2
theorem exprE_I:∀ (n:Nat) (x:Expr),exprE n x=0→x.I
 | 0,.mk _ _ _ _ _,h=>by rw[exprE] at h;exact absurd h (by decide)
 | n+1,.mk k v of s args,h=>by
  obtain ⟨hk,h4,hok,hbad,hx⟩:=exprE_inv h
  dsimp only[Expr.k,Expr.n,Expr.of,Expr.s,Expr.args] at hk h4 hok hbad hx
  unfold exprOk at hok
  unfold exprBad at hbad
  have hv:I64 v:=by unfold I64;omega
  have ho:of.length≤maxLen:=by
   unfold maxLen
   rcases hok with ⟨_,e,_⟩ | ⟨_,e,_⟩ | ⟨_,e,_⟩ | ⟨_,e,_⟩ | ⟨_,e,_⟩
   ·subst e;simp
   ·subst e;simp
   ·subst e;simp
   ·rcases e with e | e
    ·subst e;simp
    ·have:=identP_len e;omega
   ·subst e;simp
  have hs:s.length≤maxLen:=by
   unfold maxLen
   rcases hok with ⟨_,_,e,_⟩ | ⟨_,_,e,_⟩ | ⟨_,_,e,_⟩ | ⟨_,_,e,_⟩ | ⟨_,_,e,_⟩
   ·subst e;simp
   ·have:=identP_len e;omega
   ·have:=identP_len e;omega
   ·have:=identP_len e;omega
   ·subst e;simp
  exact .mk (by unfold I64;omega) hv ho hs (by omega) (fun y hy=>exprE_I n y (hx y hy))
theorem stmtsE_I:∀ (n:Nat) (l:List Stmt),stmtsE n l=0→stmtsN n l≤300→(l.length≤300∧∀ x∈l,x.I)
 | 0,_,h,_=>by rw[stmtsE] at h;exact absurd h (by decide)
 | n+1,l,h,hN=>by
  rw[stmtsE] at h
  have e:=firstE_all h
  clear h
  have key:∀ l:List Stmt,(∀ x∈l,stmtE1 (stmtsE n) x=0)→stmtsN (n+1) l≤300→((l.length:Int)≤stmtsN (n+1) l)∧∀ x∈l,x.I:=by
   intro l
   induction l with
   | nil=>intro _ _;exact ⟨by rw[stmtsN_nil];simp,fun x hx=>by simp at hx⟩
   | cons x l il =>
    intro e hN
    rw[stmtsN_cons] at hN ⊢
    have p1:=many_pos n x.b
    have p2:=many_pos n x.e
    have p3:=many_pos (n+1) l
    obtain ⟨i1,i2⟩:=il (fun y hy=>e y (List.mem_cons_of_mem _ hy)) (by omega)
    refine ⟨by rw[List.length_cons];omega,fun y hy=>?_⟩
    rcases List.mem_cons.1 hy with rfl | hy
    ·obtain ⟨hk,hok,hxE,hbE,heE⟩:=stmtE_inv (e y List.mem_cons_self)
     obtain ⟨c1,c2⟩:=stmtsE_I n y.b hbE (by omega)
     obtain ⟨d1,d2⟩:=stmtsE_I n y.e heE (by omega)
     unfold stmtOk at hok
     have hs:y.s.length≤maxLen:=by
      unfold maxLen
      by_cases k2:y.k≤2
      ·have:=identP_len (hok.1.1 k2);omega
      ·rw[hok.1.2.1 (by omega)];simp
     obtain ⟨k,s,xs,b,ee⟩:=y
     exact .mk (by dsimp only[Stmt.k] at hk;unfold I64;omega) hs (by dsimp only[Stmt.k,Stmt.xs] at hok;omega) (by dsimp only[Stmt.b] at c1;omega) (by dsimp only[Stmt.e] at d1;omega) (fun x hx=>exprE_I 12 x (hxE x hx)) c2 d2
    ·exact i2 y hy
  obtain ⟨k1,k2⟩:=key l e hN
  exact ⟨by omega,k2⟩
theorem manyN_ge:∀ (l:List Fun),(∀ f∈l,stmtsN 12 f.body≤manyN l)∧0≤manyN l
 | []=>⟨fun f hf=>by simp at hf,by simp[manyN]⟩
 | f :: l=>by
  obtain ⟨h1,h2⟩:=manyN_ge l
  have h3:=many_pos 12 f.body
  have e:manyN (f :: l)=stmtsN 12 f.body+manyN l:=by simp[manyN]
  rw[e]
  refine ⟨fun g hg=>?_,by omega⟩
  rcases List.mem_cons.1 hg with rfl | hg
  ·omega
  ·have:=h1 g hg;omega
def fewP (p:List Unit):Prop:=∀ u∈p,manyN u.funcs≤300
theorem progE_I {p:List Unit} (h:progE p=0) (hN:fewP p):progI p:=by
 obtain ⟨h1,h2,_,_⟩:=progE_inv h
 refine ⟨fun u hu=>?_,by omega⟩
 obtain ⟨a0,a1,a2,a3,a6,a4,a5⟩:=unitE_inv (h2 u hu)
 have m8:∀ {s:Str},identP s→s.length≤maxLen:=fun hs=>by have:=identP_len hs;unfold maxLen;omega
 refine ⟨m8 a0,⟨fun s hs=>m8 (a6 s hs),by omega⟩,fun a ha=>?_,by omega,fun f hf=>?_,by omega⟩
 ·obtain ⟨b1,b2⟩:=arrE_inv (a4 a ha)
  exact ⟨m8 b1,by unfold I64;omega⟩
 ·obtain ⟨b0,b1,b2,b3⟩:=funE_inv (a5 f hf)
  have h3:=(manyN_ge u.funcs).1 f hf
  have h4:=hN u hu
  obtain ⟨c1,c2⟩:=stmtsE_I 12 f.body b3 (by omega)
  exact ⟨m8 b0,⟨fun s hs=>m8 (b2 s hs),by omega⟩,by omega,c2⟩
abbrev noU:Unit:=⟨[],[],[],[]⟩
theorem fun_form {f:Fun} (h1:identP f.name) (h2:f.params.length≤4) (h3:∀ s∈f.params,identP s) (h4:stmtsE 12 f.body=0):funE f=0:=by
 unfold funE
 have h5:firstE nameE f.params=0:=firstE_zero (fun s hs=>by unfold nameE;rw[if_pos (h3 s hs)])
 rw[if_neg (fun h=>h h1),if_neg (by omega),if_neg (fun h=>h h5)]
 exact h4
end Barb
