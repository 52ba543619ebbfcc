/-
  What the document says is wrong with expressions, statements and units: the contracts.
-/
import Derived.Test.YtjkplhnbiejefaaDoorNm
namespace Barb
open Go Go.Dm Go.Eng

def Expr.k:Expr→Int | .mk k _ _ _ _=>k
def Expr.n:Expr→Int | .mk _ n _ _ _=>n
def Expr.of:Expr→Str | .mk _ _ of _ _=>of
def Expr.s:Expr→Str | .mk _ _ _ s _=>s
def Expr.args:Expr→List Expr | .mk _ _ _ _ a=>a
theorem Expr.g_eq (x:Expr):x.g=[.int x.k,.int x.n,.str x.of,.str x.s,.sl 5 (x.args.map Expr.g)]:=by
 cases x;rw[Expr.g,Expr.gs_map];rfl
abbrev Expr.d (x:Expr):List D:=[.g (.int x.k),.g (.int x.n),.g (.str x.of),.g (.str x.s),.g (.sl 5 (x.args.map Expr.g))]
theorem Expr.I.inv {x:Expr} (h:x.I):I64 x.k∧I64 x.n∧x.of.length≤9223372036854775807∧x.s.length≤9223372036854775807∧x.args.length*72≤140737488351232∧∀ y∈x.args,Expr.I y:=by
 cases h with
 | mk h1 h2 h3 h4 h5 h6=>exact ⟨h1,h2,h3,h4,h5,h6⟩
def Stmt.k:Stmt→Int | .mk k _ _ _ _=>k
def Stmt.s:Stmt→Str | .mk _ s _ _ _=>s
def Stmt.xs:Stmt→List Expr | .mk _ _ x _ _=>x
def Stmt.b:Stmt→List Stmt | .mk _ _ _ b _=>b
def Stmt.e:Stmt→List Stmt | .mk _ _ _ _ e=>e
theorem Stmt.g_eq (x:Stmt):x.g=[.int x.k,.str x.s,.sl 5 (x.xs.map Expr.g),.sl 5 (x.b.map Stmt.g),.sl 5 (x.e.map Stmt.g)]:=by
 cases x;rw[Stmt.g,Expr.gs_map,Stmt.gs_map,Stmt.gs_map];rfl
abbrev Stmt.d (x:Stmt):List D:=[.g (.int x.k),.g (.str x.s),.g (.sl 5 (x.xs.map Expr.g)),.g (.sl 5 (x.b.map Stmt.g)),.g (.sl 5 (x.e.map Stmt.g))]
theorem Stmt.I.inv {x:Stmt} (h:x.I):I64 x.k∧x.s.length≤9223372036854775807∧x.xs.length*72≤140737488351232∧x.b.length*96≤140737488351232∧x.e.length*96≤140737488351232∧(∀ y∈x.xs,Expr.I y)∧(∀ y∈x.b,Stmt.I y)∧∀ y∈x.e,Stmt.I y:=by
 cases h with
 | mk h1 h2 h3 h4 h5 h6 h7 h8=>exact ⟨h1,h2,h3,h4,h5,h6,h7,h8⟩
theorem exprE_succ (f:Nat) (x:Expr):exprE (f+1) x=if ¬(1≤x.k∧x.k≤5) then 3 else if 4 < x.args.length then 1 else if ¬exprOk x.k x.n x.of x.s x.args.length then 4 else if exprBad x.k x.n then 2 else firstE (exprE f) x.args:=by
 cases x;rfl
theorem stmtE1_eq (f:List Stmt→Int) (x:Stmt):stmtE1 f x=if ¬(1≤x.k∧x.k≤6) then 3 else if ¬stmtOk x.k x.s x.xs.length x.b.length x.e.length then 4 else if firstE (exprE 12) x.xs≠0 then firstE (exprE 12) x.xs else if f x.b≠0 then f x.b else f x.e:=by
 cases x;rfl
theorem stmtN1_eq (f:List Stmt→Int) (x:Stmt):stmtN1 f x=f x.b+f x.e:=by cases x;rfl
theorem exprOk_1 {n:Int} {of s:Str} {m:Nat}:exprOk 1 n of s m↔of=[]∧s=[]∧m=0:=by simp[exprOk]
theorem exprOk_2 {n:Int} {of s:Str} {m:Nat}:exprOk 2 n of s m↔of=[]∧identP s∧m=0∧n=0:=by simp[exprOk]
theorem exprOk_3 {n:Int} {of s:Str} {m:Nat}:exprOk 3 n of s m↔of=[]∧identP s∧m=1∧n=0:=by simp[exprOk]
theorem exprOk_4 {n:Int} {of s:Str} {m:Nat}:exprOk 4 n of s m↔(of=[]∨identP of)∧identP s∧n=0:=by simp[exprOk]
theorem exprOk_5 {n:Int} {of s:Str} {m:Nat}:exprOk 5 n of s m↔of=[]∧s=[]∧m=2:=by simp[exprOk]
end Barb
namespace Go.Proofs.YtjkplhnbiejefaaDoor
open Go Go.Dm Go.Eng Barb

end Go.Proofs.YtjkplhnbiejefaaDoor
namespace Barb
open Go Go.Dm Go.Eng
noncomputable def stV (f:Nat) (l:List Stmt):Int:=if stmtsE f l=0 then IntKind.i64.wrap (stmtsN f l) else 0
def sumAtF (f:Nat) (l:List Stmt) (i:Nat):Int:=l.length+((l.take i).map (stmtN1 (stmtsN f))).sum
theorem sumAtF_succ {f:Nat} {l:List Stmt} {i:Nat} (h:i < l.length):sumAtF f l (i+1)=sumAtF f l i+(stmtsN f l[i].b+stmtsN f l[i].e):=by
 unfold sumAtF
 rw[take_one h,List.map_append,List.sum_append,← stmtN1_eq]
 simp;omega
theorem wrap3 (m a b:Int):IntKind.i64.wrap (IntKind.i64.wrap (IntKind.i64.wrap m+IntKind.i64.wrap a)+IntKind.i64.wrap b)=IntKind.i64.wrap (m+(a+b)):=by
 have h1:IntKind.i64.wrap m+IntKind.i64.wrap a+b=(IntKind.i64.wrap m+b)+IntKind.i64.wrap a:=by omega
 have h2:IntKind.i64.wrap m+b+a=IntKind.i64.wrap m+(a+b):=by omega
 rw[wrap_add' (IntKind.i64.wrap (IntKind.i64.wrap m+IntKind.i64.wrap a)) b,wrap_add (IntKind.i64.wrap m+IntKind.i64.wrap a) b,h1,wrap_add',h2,wrap_add]
def nOf (k:Int):Int:=if k=2 then 2 else 1
def bad1 (k:Int) (s:Str) (nx:Nat):Prop:=¬((k≤2→identP s)∧(2 < k→s=[])∧(nx:Int)=nOf k)
def bad2 (k:Int) (nb ne:Nat):Prop:=¬((nb=0∨k=3∨k=4)∧(ne=0∨k=3))
abbrev kpS (l:List Stmt) (depth m:Int) (i:Nat) (k:Int):List (Nat × D):=[(0,.g (.sl 5 (l.map Stmt.g))),(1,.g (.int depth)),(6,.g (.int m)),(7,.g (.int (i:Int))),(8,.ptr 0 0),(9,.g (.int (nOf k)))]
theorem stmtOk_iff {k:Int} {s:Str} {nx nb ne:Nat}:stmtOk k s nx nb ne↔¬bad1 k s nx∧¬bad2 k nb ne:=by
 unfold stmtOk bad1 bad2 nOf
 rw[Classical.not_not,Classical.not_not]
 constructor
 ·rintro ⟨⟨h1,h2,h3,h4⟩,h5⟩
  refine ⟨⟨h1,h2,?_⟩,h5⟩
  by_cases hk:k=2
  ·rw[if_pos hk,h3 hk];rfl
  ·rw[if_neg hk,h4 hk];rfl
 ·rintro ⟨⟨h1,h2,h3⟩,h5⟩
  refine ⟨⟨h1,h2,fun hk=>?_,fun hk=>?_⟩,h5⟩
  ·rw[if_pos hk] at h3;omega
  ·rw[if_neg hk] at h3;omega
end Barb
namespace Go.Proofs.YtjkplhnbiejefaaDoor
open Go Go.Dm Go.Eng Barb

end Go.Proofs.YtjkplhnbiejefaaDoor
