/-
  What the document says of words, names, expressions, statements and units, as plain functions. No program in sight.
-/
import Derived.Test.YtabjelabdojpkaaDoorDlib
import Derived.Test.YtabjelabdojpkaaDoorDtypes
namespace Barb
open Go Go.Dm Go.Eng

noncomputable instance (priority:=10) propDec (p:Prop):Decidable p:=Classical.propDecidable p

def lowc (c:UInt8):Prop:=97≤c.toNat∧c.toNat≤122
def digc (c:UInt8):Prop:=48≤c.toNat∧c.toNat≤57
def chrOk (s:Str) (j:Nat) (hj:j < s.length):Prop:=lowc s[j]∨(j≠0∧digc s[j])
def wordP (s:Str):Prop:=(1≤s.length∧s.length≤8)∧∀ j (hj:j < s.length),chrOk s j hj
def keys:List Str:=[[117,110,105,116],[118,97,114],[97,114,114,97,121],[102,117,110,99],[111,112,101,110],[105,102],[101,108,115,101],[119,104,105,108,101],[114,101,116,117,114,110],[115,97,121]]
def identP (s:Str):Prop:=wordP s∧s ∉ keys

def exprOk (k n:Int) (of s:Str) (m:Nat):Prop :=
 (k=1∧of=[]∧s=[]∧m=0)∨(k=2∧of=[]∧identP s∧m=0∧n=0)∨(k=3∧of=[]∧identP s∧m=1∧n=0)∨(k=4∧(of=[]∨identP of)∧identP s∧n=0)∨(k=5∧of=[]∧s=[]∧m=2)
def exprBad (k n:Int):Prop:=(k=1∧¬(0≤n∧n≤65535))∨(k=5∧¬(1≤n∧n≤10))
noncomputable def exprE:Nat→Expr→Int
 | 0,_=>1
 | f+1,.mk k n of s args=>if ¬(1≤k∧k≤5) then 3 else if 4 < args.length then 1 else if ¬exprOk k n of s args.length then 4 else if exprBad k n then 2 else firstE (exprE f) args

def stmtOk (k:Int) (s:Str) (nx nb ne:Nat):Prop :=
 ((k≤2→identP s)∧(2 < k→s=[])∧(k=2→nx=2)∧(k≠2→nx=1))∧(nb=0∨k=3∨k=4)∧(ne=0∨k=3)
noncomputable def stmtE1 (f:List Stmt→Int):Stmt→Int
 | .mk k s xs b e=>if ¬(1≤k∧k≤6) then 3 else if ¬stmtOk k s xs.length b.length e.length then 4 else if firstE (exprE 12) xs≠0 then firstE (exprE 12) xs else if f b≠0 then f b else f e
noncomputable def stmtsE:Nat→List Stmt→Int
 | 0,_=>1
 | f+1,l=>firstE (stmtE1 (stmtsE f)) l
def stmtN1 (f:List Stmt→Int):Stmt→Int
 | .mk _ _ _ b e=>f b+f e
def stmtsN:Nat→List Stmt→Int
 | 0,_=>0
 | f+1,l=>l.length+(l.map (stmtN1 (stmtsN f))).sum

noncomputable def arrE (a:Arr):Int:=if ¬identP a.name then 4 else if ¬(1≤a.size∧a.size≤10) then 2 else 0
noncomputable def nameE (s:Str):Int:=if identP s then 0 else 4
noncomputable def funE (f:Fun):Int:=if ¬identP f.name then 4 else if 4 < f.params.length then 1 else if firstE nameE f.params≠0 then firstE nameE f.params else stmtsE 12 f.body
def manyN (l:List Fun):Int:=(l.map fun f=>stmtsN 12 f.body).sum
noncomputable def unitE (u:Unit):Int :=
 if ¬identP u.name then 4 else if 8 < u.vars.length∨3 < u.arrays.length∨8 < u.funcs.length then 1
 else if firstE nameE u.vars≠0 then firstE nameE u.vars else if firstE arrE u.arrays≠0 then firstE arrE u.arrays else if firstE funE u.funcs≠0 then firstE funE u.funcs
 else if 300 < IntKind.i64.wrap (manyN u.funcs) then 1 else 0

def sizes (l:List Arr):Int:=(l.map Arr.size).sum
def unitWords (u:Unit):Int:=u.vars.length+sizes u.arrays
theorem sizes_succ {l:List Arr} {i:Nat} (h:i < l.length):sizes (l.take (i+1))=sizes (l.take i)+l[i].size:=by
 unfold sizes;rw[take_one h,List.map_append,List.sum_append];simp
theorem sizes_le {l:List Arr} (h:∀ a∈l,1≤a.size∧a.size≤10):0≤sizes l∧sizes l≤10*l.length:=by
 induction l with
 | nil=>simp[sizes]
 | cons a l ih =>
  have:=h a List.mem_cons_self
  have:=ih (fun b hb=>h b (List.mem_cons_of_mem _ hb))
  simp only[sizes,List.map_cons,List.sum_cons,List.length_cons] at this ⊢
  omega
theorem firstE_all {α:Type} {f:α→Int}:∀ {l:List α},firstE f l=0→∀ x∈l,f x=0
 | [],_,x,hx=>by simp at hx
 | y :: l,h,x,hx=>by
  simp only[firstE] at h
  by_cases h0:f y=0
  ·rw[if_pos h0] at h
   rcases List.mem_cons.1 hx with rfl | hx
   ·exact h0
   ·exact firstE_all h x hx
  ·rw[if_neg h0] at h;exact absurd h h0
theorem unitE_ok {u:Unit} (h:unitE u=0):u.vars.length≤8∧u.arrays.length≤3∧u.funcs.length≤8∧∀ a∈u.arrays,1≤a.size∧a.size≤10:=by
 unfold unitE at h
 by_cases h1:identP u.name
 ·rw[if_neg (by simpa using h1)] at h
  by_cases h2:8 < u.vars.length∨3 < u.arrays.length∨8 < u.funcs.length
  ·rw[if_pos h2] at h;omega
  ·rw[if_neg h2] at h
   by_cases h3:firstE nameE u.vars≠0
   ·rw[if_pos h3] at h;exact absurd h h3
   ·rw[if_neg h3] at h
    by_cases h4:firstE arrE u.arrays≠0
    ·rw[if_pos h4] at h;exact absurd h h4
    ·refine ⟨by omega,by omega,by omega,fun a ha=>?_⟩
     have:=firstE_all (Classical.not_not.1 h4) a ha
     unfold arrE at this
     by_cases h5:identP a.name
     ·rw[if_neg (by simpa using h5)] at this
      by_cases h6:1≤a.size∧a.size≤10
      ·exact h6
      ·rw[if_pos h6] at this;omega
     ·rw[if_pos h5] at this;omega
 ·rw[if_pos h1] at h;omega
theorem wrap_def (a:Int):IntKind.i64.wrap a=if 9223372036854775808≤a % 18446744073709551616 then a % 18446744073709551616 - 18446744073709551616 else a % 18446744073709551616:=by
 simp[IntKind.wrap,IntKind.signed,IntKind.bits]
theorem wrap_add (a b:Int):IntKind.i64.wrap (IntKind.i64.wrap a+b)=IntKind.i64.wrap (a+b):=by
 rw[wrap_def,wrap_def,wrap_def]
 omega
theorem wrap_add' (a b:Int):IntKind.i64.wrap (a+IntKind.i64.wrap b)=IntKind.i64.wrap (a+b):=by
 rw[Int.add_comm,wrap_add,Int.add_comm]
end Barb
namespace Barb
open Go Go.Dm Go.Eng

noncomputable def idxFrom {α:Type} (q:α→Prop):List α→Nat→Int
 | [],_=>-1
 | x :: l,i=>if q x then (i:Int) else idxFrom q l (i+1)
noncomputable def idx {α:Type} (q:α→Prop) (l:List α):Int:=idxFrom q l 0
theorem idxFrom_at {α:Type} {q:α→Prop}:∀ {l:List α} {i0 i:Nat} (hi:i < l.length),(∀ j (hj:j < l.length),j < i→¬q l[j])→q l[i]→idxFrom q l i0=((i0+i:Nat):Int)
 | [],_,i,hi,_,_=>by simp at hi
 | x :: l,i0,0,hi,_,h1=>by simp only[idxFrom];rw[if_pos (by simpa using h1)];simp
 | x :: l,i0,i+1,hi,h,h1=>by
  simp only[idxFrom]
  rw[if_neg (show ¬q x from h 0 (by simp) (by omega)),idxFrom_at (l:=l) (i:=i) (by simpa using hi) (fun j hj hji=>h (j+1) (by simpa using hj) (by omega)) (by simpa using h1)]
  congr 1;omega
theorem idxFrom_no {α:Type} {q:α→Prop}:∀ {l:List α} {i0:Nat},(∀ x∈l,¬q x)→idxFrom q l i0=-1
 | [],_,_=>rfl
 | x :: l,i0,h=>by simp only[idxFrom];rw[if_neg (h x List.mem_cons_self)];exact idxFrom_no (fun y hy=>h y (List.mem_cons_of_mem _ hy))
theorem idx_at {α:Type} {q:α→Prop} {l:List α} {i:Nat} (hi:i < l.length) (h:∀ j (hj:j < l.length),j < i→¬q l[j]) (h1:q l[i]):idx q l=(i:Int):=by
 unfold idx;rw[idxFrom_at hi h h1];simp
theorem idx_no {α:Type} {q:α→Prop} {l:List α} (h:∀ x∈l,¬q x):idx q l=-1:=idxFrom_no h
theorem idxFrom_cases {α:Type} (q:α→Prop):∀ (l:List α) (i0:Nat),(idxFrom q l i0=-1∧∀ x∈l,¬q x)∨∃ (i:Nat) (hi:i < l.length),idxFrom q l i0=((i0+i:Nat):Int)∧q l[i]∧∀ j (hj:j < l.length),j < i→¬q l[j]
 | [],_=>.inl ⟨rfl,fun x hx=>by simp at hx⟩
 | x :: l,i0=>by
  by_cases hx:q x
  ·exact .inr ⟨0,by simp,by simp only[idxFrom];rw[if_pos hx];simp,by simpa using hx,fun j hj hji=>absurd hji (by omega)⟩
  ·rcases idxFrom_cases q l (i0+1) with ⟨h1,h2⟩ | ⟨i,hi,h1,h2,h3⟩
   ·refine .inl ⟨by simp only[idxFrom];rw[if_neg hx];exact h1,fun y hy=>?_⟩
    rcases List.mem_cons.1 hy with rfl | hy
    ·exact hx
    ·exact h2 y hy
   ·refine .inr ⟨i+1,by simpa using hi,by simp only[idxFrom];rw[if_neg hx,h1];congr 1;omega,by simpa using h2,fun j hj hji=>?_⟩
    cases j with
    | zero=>simpa using hx
    | succ j=>simpa using h3 j (by simpa using hj) (by omega)
theorem idx_cases {α:Type} (q:α→Prop) (l:List α):(idx q l=-1∧∀ x∈l,¬q x)∨∃ (i:Nat) (hi:i < l.length),idx q l=(i:Int)∧q l[i]∧∀ j (hj:j < l.length),j < i→¬q l[j]:=by
 rcases idxFrom_cases q l 0 with h | ⟨i,hi,h1,h2,h3⟩
 ·exact .inl h
 ·exact .inr ⟨i,hi,by unfold idx;rw[h1];simp,h2,h3⟩

noncomputable def unitIdx (p:List Unit) (name:Str):Int:=idx (fun u:Unit=>u.name=name) p
noncomputable def funIdx (u:Unit) (name:Str):Int:=idx (fun f:Fun=>f.name=name) u.funcs
def varP (u:Unit) (f:Fun) (name:Str):Prop:=name∈f.params∨name∈u.vars
def arrP (u:Unit) (name:Str):Prop:=∃ a∈u.arrays,a.name=name
noncomputable def calledIn (to:Unit) (of s:Str) (m:Nat):Int :=
 match to.funcs.find? (fun f=>decide (f.name=s)) with
 | none=>5
 | some g=>if of≠[]∧g.isOpen=false then 5 else if g.params.length≠m then 7 else 0
noncomputable def calledE (p:List Unit) (u:Unit) (of s:Str) (m:Nat):Int :=
 if of=[] then calledIn u of s m else match p.find? (fun v=>decide (v.name=of)) with
  | none=>5
  | some v=>calledIn v of s m
noncomputable def exprS1 (p:List Unit) (u:Unit) (f:Fun) (k:Int) (of s:Str) (m:Nat):Int :=
 if (k=2∧¬varP u f s)∨(k=3∧¬arrP u s) then 5 else if k=4 then calledE p u of s m else 0
mutual
noncomputable def exprS (p:List Unit) (u:Unit) (f:Fun):Expr→Int
 | .mk k _ of s args=>if exprS1 p u f k of s args.length≠0 then exprS1 p u f k of s args.length else exprsS p u f args
noncomputable def exprsS (p:List Unit) (u:Unit) (f:Fun):List Expr→Int
 | []=>0
 | x :: l=>if exprS p u f x=0 then exprsS p u f l else exprS p u f x
end
theorem exprsS_first (p:List Unit) (u:Unit) (f:Fun):∀ l,exprsS p u f l=firstE (exprS p u f) l
 | []=>rfl
 | x :: l=>by simp only[exprsS,firstE,exprsS_first p u f l]
mutual
noncomputable def stmtS (p:List Unit) (u:Unit) (f:Fun):Stmt→Int
 | .mk k s xs b e=>if (k=1∧¬varP u f s)∨(k=2∧¬arrP u s) then 5 else if exprsS p u f xs≠0 then exprsS p u f xs else if stmtsS p u f b≠0 then stmtsS p u f b else stmtsS p u f e
noncomputable def stmtsS (p:List Unit) (u:Unit) (f:Fun):List Stmt→Int
 | []=>0
 | x :: l=>if stmtS p u f x=0 then stmtsS p u f l else stmtS p u f x
end
theorem stmtsS_first (p:List Unit) (u:Unit) (f:Fun):∀ l,stmtsS p u f l=firstE (stmtS p u f) l
 | []=>rfl
 | x :: l=>by simp only[stmtsS,firstE,stmtsS_first p u f l]

def dupP (l:List Str):Prop:=∃ j,∃ hj:j < l.length,l[j]∈l.take j
noncomputable def funS (p:List Unit) (u:Unit) (f:Fun):Int:=if dupP f.params then 6 else stmtsS p u f f.body
noncomputable def unitS (p:List Unit) (u:Unit):Int :=
 if dupP (u.vars++u.arrays.map Arr.name)∨dupP (u.funcs.map Fun.name) then 6 else firstE (funS p u) u.funcs
def progWords (p:List Unit):Int:=(p.map unitWords).sum
noncomputable def progE (p:List Unit):Int :=
 if 5 < p.length then 1 else if firstE unitE p≠0 then firstE unitE p else if dupP (p.map Unit.name) then 6 else if 250 < progWords p then 1 else firstE (unitS p) p
end Barb
