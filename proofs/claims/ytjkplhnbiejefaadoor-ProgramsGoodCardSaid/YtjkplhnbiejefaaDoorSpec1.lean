/-
  What the document says of words, names, expressions, statements and units, as plain functions. No program in sight.
-/
import Derived.Test.YtjkplhnbiejefaaDoorDlib
import Derived.Test.YtjkplhnbiejefaaDoorDtypes
namespace Barb
open Go Go.Dm Go.Eng

noncomputable instance (priority:=10) propDec (p:Prop):Decidable p:=Classical.propDecidable p

def lowc (c:UInt8):Prop:=97≤c.toNat∧c.toNat≤122
def digc (c:UInt8):Prop:=48≤c.toNat∧c.toNat≤57
def chrOk (s:Str) (j:Nat) (hj:j < s.length):Prop:=lowc s[j]∨(j≠0∧digc s[j])
def wordP (s:Str):Prop:=(1≤s.length∧s.length≤8)∧∀ j (hj:j < s.length),chrOk s j hj
def keys:List Str:=[[117,110,105,116],[118,97,114],[97,114,114,97,121],[102,117,110,99],[111,112,101,110],[105,102],[101,108,115,101],[119,104,105,108,101],[114,101,116,117,114,110],[115,97,121]]
def identP (s:Str):Prop:=wordP s∧s ∉ keys

def exprOk (k n:Int) (of s:Str) (m:Nat):Prop :=
 (k=1∧of=[]∧s=[]∧m=0)∨(k=2∧of=[]∧identP s∧m=0∧n=0)∨(k=3∧of=[]∧identP s∧m=1∧n=0)∨(k=4∧(of=[]∨identP of)∧identP s∧n=0)∨(k=5∧of=[]∧s=[]∧m=2)
def exprBad (k n:Int):Prop:=(k=1∧¬(0≤n∧n≤65535))∨(k=5∧¬(1≤n∧n≤10))
noncomputable def exprE:Nat→Expr→Int
 | 0,_=>1
 | f+1,.mk k n of s args=>if ¬(1≤k∧k≤5) then 3 else if 4 < args.length then 1 else if ¬exprOk k n of s args.length then 4 else if exprBad k n then 2 else firstE (exprE f) args

def stmtOk (k:Int) (s:Str) (nx nb ne:Nat):Prop :=
 ((k≤2→identP s)∧(2 < k→s=[])∧(k=2→nx=2)∧(k≠2→nx=1))∧(nb=0∨k=3∨k=4)∧(ne=0∨k=3)
noncomputable def stmtE1 (f:List Stmt→Int):Stmt→Int
 | .mk k s xs b e=>if ¬(1≤k∧k≤6) then 3 else if ¬stmtOk k s xs.length b.length e.length then 4 else if firstE (exprE 12) xs≠0 then firstE (exprE 12) xs else if f b≠0 then f b else f e
noncomputable def stmtsE:Nat→List Stmt→Int
 | 0,_=>1
 | f+1,l=>firstE (stmtE1 (stmtsE f)) l
def stmtN1 (f:List Stmt→Int):Stmt→Int
 | .mk _ _ _ b e=>f b+f e
def stmtsN:Nat→List Stmt→Int
 | 0,_=>0
 | f+1,l=>l.length+(l.map (stmtN1 (stmtsN f))).sum

noncomputable def arrE (a:Arr):Int:=if ¬identP a.name then 4 else if ¬(1≤a.size∧a.size≤10) then 2 else 0
noncomputable def nameE (s:Str):Int:=if identP s then 0 else 4
noncomputable def funE (f:Fun):Int:=if ¬identP f.name then 4 else if 4 < f.params.length then 1 else if firstE nameE f.params≠0 then firstE nameE f.params else stmtsE 12 f.body
def manyN (l:List Fun):Int:=(l.map fun f=>stmtsN 12 f.body).sum
noncomputable def unitE (u:Unit):Int :=
 if ¬identP u.name then 4 else if 8 < u.vars.length∨3 < u.arrays.length∨8 < u.funcs.length then 1
 else if firstE nameE u.vars≠0 then firstE nameE u.vars else if firstE arrE u.arrays≠0 then firstE arrE u.arrays else if firstE funE u.funcs≠0 then firstE funE u.funcs
 else if 300 < IntKind.i64.wrap (manyN u.funcs) then 1 else 0

def sizes (l:List Arr):Int:=(l.map Arr.size).sum
def unitWords (u:Unit):Int:=u.vars.length+sizes u.arrays
theorem sizes_succ {l:List Arr} {i:Nat} (h:i < l.length):sizes (l.take (i+1))=sizes (l.take i)+l[i].size:=by
 unfold sizes;rw[take_one h,List.map_append,List.sum_append];simp
theorem sizes_le {l:List Arr} (h:∀ a∈l,1≤a.size∧a.size≤10):0≤sizes l∧sizes l≤10*l.length:=by
 induction l with
 | nil=>simp[sizes]
 | cons a l ih =>
  have:=h a List.mem_cons_self
  have:=ih (fun b hb=>h b (List.mem_cons_of_mem _ hb))
  simp only[sizes,List.map_cons,List.sum_cons,List.length_cons] at this ⊢
  omega
theorem firstE_all {α:Type} {f:α→Int}:∀ {l:List α},firstE f l=0→∀ x∈l,f x=0
 | [],_,x,hx=>by simp at hx
 | y :: l,h,x,hx=>by
  simp only[firstE] at h
  by_cases h0:f y=0
  ·rw[if_pos h0] at h
   rcases List.mem_cons.1 hx with rfl | hx
   ·exact h0
   ·exact firstE_all h x hx
  ·rw[if_neg h0] at h;exact absurd h h0
theorem unitE_ok {u:Unit} (h:unitE u=0):u.vars.length≤8∧u.arrays.length≤3∧u.funcs.length≤8∧∀ a∈u.arrays,1≤a.size∧a.size≤10:=by
 unfold unitE at h
 by_cases h1:identP u.name
 ·rw[if_neg (by simpa using h1)] at h
  by_cases h2:8 < u.vars.length∨3 < u.arrays.length∨8 < u.funcs.length
  ·rw[if_pos h2] at h;omega
  ·rw[if_neg h2] at h
   by_cases h3:firstE nameE u.vars≠0
   ·rw[if_pos h3] at h;exact absurd h h3
   ·rw[if_neg h3] at h
    by_cases h4:firstE arrE u.arrays≠0
    ·rw[if_pos h4] at h;exact absurd h h4
    ·refine ⟨by omega,by omega,by omega,fun a ha=>?_⟩
     have:=firstE_all (Classical.not_not.1 h4) a ha
     unfold arrE at this
     by_cases h5:identP a.name
     ·rw[if_neg (by simpa using h5)] at this
      by_cases h6:1≤a.size∧a.size≤10
      ·exact h6
      ·rw[if_pos h6] at this;omega
     ·rw[if_pos h5] at this;omega
 ·rw[if_pos h1] at h;omega
theorem wrap_def (a:Int):IntKind.i64.wrap a=if 9223372036854775808≤a % 18446744073709551616 then a % 18446744073709551616 - 18446744073709551616 else a % 18446744073709551616:=by
 simp[IntKind.wrap,IntKind.signed,IntKind.bits]
theorem wrap_add (a b:Int):IntKind.i64.wrap (IntKind.i64.wrap a+b)=IntKind.i64.wrap (a+b):=by
 rw[wrap_def,wrap_def,wrap_def]
 omega
theorem wrap_add' (a b:Int):IntKind.i64.wrap (a+IntKind.i64.wrap b)=IntKind.i64.wrap (a+b):=by
 rw[Int.add_comm,wrap_add,Int.add_comm]
end Barb
