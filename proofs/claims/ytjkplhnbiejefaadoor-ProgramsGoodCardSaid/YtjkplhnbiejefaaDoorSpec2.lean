/-
  What the document says of programs' names, and of stores, as plain functions. No program in sight.
-/
import Derived.Test.YtjkplhnbiejefaaDoorSpec1
namespace Barb
open Go Go.Dm Go.Eng

noncomputable def idxFrom {α:Type} (q:α→Prop):List α→Nat→Int
 | [],_=>-1
 | x :: l,i=>if q x then (i:Int) else idxFrom q l (i+1)
noncomputable def idx {α:Type} (q:α→Prop) (l:List α):Int:=idxFrom q l 0
theorem idxFrom_at {α:Type} {q:α→Prop}:∀ {l:List α} {i0 i:Nat} (hi:i < l.length),(∀ j (hj:j < l.length),j < i→¬q l[j])→q l[i]→idxFrom q l i0=((i0+i:Nat):Int)
 | [],_,i,hi,_,_=>by simp at hi
 | x :: l,i0,0,hi,_,h1=>by simp only[idxFrom];rw[if_pos (by simpa using h1)];simp
 | x :: l,i0,i+1,hi,h,h1=>by
  simp only[idxFrom]
  rw[if_neg (show ¬q x from h 0 (by simp) (by omega)),idxFrom_at (l:=l) (i:=i) (by simpa using hi) (fun j hj hji=>h (j+1) (by simpa using hj) (by omega)) (by simpa using h1)]
  congr 1;omega
theorem idxFrom_no {α:Type} {q:α→Prop}:∀ {l:List α} {i0:Nat},(∀ x∈l,¬q x)→idxFrom q l i0=-1
 | [],_,_=>rfl
 | x :: l,i0,h=>by simp only[idxFrom];rw[if_neg (h x List.mem_cons_self)];exact idxFrom_no (fun y hy=>h y (List.mem_cons_of_mem _ hy))
theorem idx_at {α:Type} {q:α→Prop} {l:List α} {i:Nat} (hi:i < l.length) (h:∀ j (hj:j < l.length),j < i→¬q l[j]) (h1:q l[i]):idx q l=(i:Int):=by
 unfold idx;rw[idxFrom_at hi h h1];simp
theorem idx_no {α:Type} {q:α→Prop} {l:List α} (h:∀ x∈l,¬q x):idx q l=-1:=idxFrom_no h
theorem idxFrom_cases {α:Type} (q:α→Prop):∀ (l:List α) (i0:Nat),(idxFrom q l i0=-1∧∀ x∈l,¬q x)∨∃ (i:Nat) (hi:i < l.length),idxFrom q l i0=((i0+i:Nat):Int)∧q l[i]∧∀ j (hj:j < l.length),j < i→¬q l[j]
 | [],_=>.inl ⟨rfl,fun x hx=>by simp at hx⟩
 | x :: l,i0=>by
  by_cases hx:q x
  ·exact .inr ⟨0,by simp,by simp only[idxFrom];rw[if_pos hx];simp,by simpa using hx,fun j hj hji=>absurd hji (by omega)⟩
  ·rcases idxFrom_cases q l (i0+1) with ⟨h1,h2⟩ | ⟨i,hi,h1,h2,h3⟩
   ·refine .inl ⟨by simp only[idxFrom];rw[if_neg hx];exact h1,fun y hy=>?_⟩
    rcases List.mem_cons.1 hy with rfl | hy
    ·exact hx
    ·exact h2 y hy
   ·refine .inr ⟨i+1,by simpa using hi,by simp only[idxFrom];rw[if_neg hx,h1];congr 1;omega,by simpa using h2,fun j hj hji=>?_⟩
    cases j with
    | zero=>simpa using hx
    | succ j=>simpa using h3 j (by simpa using hj) (by omega)
theorem idx_cases {α:Type} (q:α→Prop) (l:List α):(idx q l=-1∧∀ x∈l,¬q x)∨∃ (i:Nat) (hi:i < l.length),idx q l=(i:Int)∧q l[i]∧∀ j (hj:j < l.length),j < i→¬q l[j]:=by
 rcases idxFrom_cases q l 0 with h | ⟨i,hi,h1,h2,h3⟩
 ·exact .inl h
 ·exact .inr ⟨i,hi,by unfold idx;rw[h1];simp,h2,h3⟩

noncomputable def unitIdx (p:List Unit) (name:Str):Int:=idx (fun u:Unit=>u.name=name) p
noncomputable def funIdx (u:Unit) (name:Str):Int:=idx (fun f:Fun=>f.name=name) u.funcs
def varP (u:Unit) (f:Fun) (name:Str):Prop:=name∈f.params∨name∈u.vars
def arrP (u:Unit) (name:Str):Prop:=∃ a∈u.arrays,a.name=name
noncomputable def calledIn (to:Unit) (of s:Str) (m:Nat):Int :=
 match to.funcs.find? (fun f=>decide (f.name=s)) with
 | none=>5
 | some g=>if of≠[]∧g.isOpen=false then 5 else if g.params.length≠m then 7 else 0
noncomputable def calledE (p:List Unit) (u:Unit) (of s:Str) (m:Nat):Int :=
 if of=[] then calledIn u of s m else match p.find? (fun v=>decide (v.name=of)) with
  | none=>5
  | some v=>calledIn v of s m
noncomputable def exprS1 (p:List Unit) (u:Unit) (f:Fun) (k:Int) (of s:Str) (m:Nat):Int :=
 if (k=2∧¬varP u f s)∨(k=3∧¬arrP u s) then 5 else if k=4 then calledE p u of s m else 0
mutual
noncomputable def exprS (p:List Unit) (u:Unit) (f:Fun):Expr→Int
 | .mk k _ of s args=>if exprS1 p u f k of s args.length≠0 then exprS1 p u f k of s args.length else exprsS p u f args
noncomputable def exprsS (p:List Unit) (u:Unit) (f:Fun):List Expr→Int
 | []=>0
 | x :: l=>if exprS p u f x=0 then exprsS p u f l else exprS p u f x
end
theorem exprsS_first (p:List Unit) (u:Unit) (f:Fun):∀ l,exprsS p u f l=firstE (exprS p u f) l
 | []=>rfl
 | x :: l=>by simp only[exprsS,firstE,exprsS_first p u f l]
mutual
noncomputable def stmtS (p:List Unit) (u:Unit) (f:Fun):Stmt→Int
 | .mk k s xs b e=>if (k=1∧¬varP u f s)∨(k=2∧¬arrP u s) then 5 else if exprsS p u f xs≠0 then exprsS p u f xs else if stmtsS p u f b≠0 then stmtsS p u f b else stmtsS p u f e
noncomputable def stmtsS (p:List Unit) (u:Unit) (f:Fun):List Stmt→Int
 | []=>0
 | x :: l=>if stmtS p u f x=0 then stmtsS p u f l else stmtS p u f x
end
theorem stmtsS_first (p:List Unit) (u:Unit) (f:Fun):∀ l,stmtsS p u f l=firstE (stmtS p u f) l
 | []=>rfl
 | x :: l=>by simp only[stmtsS,firstE,stmtsS_first p u f l]

def dupP (l:List Str):Prop:=∃ j,∃ hj:j < l.length,l[j]∈l.take j
noncomputable def funS (p:List Unit) (u:Unit) (f:Fun):Int:=if dupP f.params then 6 else stmtsS p u f f.body
noncomputable def unitS (p:List Unit) (u:Unit):Int :=
 if dupP (u.vars++u.arrays.map Arr.name)∨dupP (u.funcs.map Fun.name) then 6 else firstE (funS p u) u.funcs
def progWords (p:List Unit):Int:=(p.map unitWords).sum
noncomputable def progE (p:List Unit):Int :=
 if 5 < p.length then 1 else if firstE unitE p≠0 then firstE unitE p else if dupP (p.map Unit.name) then 6 else if 250 < progWords p then 1 else firstE (unitS p) p
end Barb
