import Derived.Test.YthcmdjkaepclhaaDu
import Derived.Test.YthcmdjkaepclhaaDtypes
import Derived.Test.YthcmdjkaepclhaaGi
import Derived.Test.YthcmdjkaepclhaaFd
namespace Barb
open Go Go.Dm Go.Eng Go.Proofs.Ythcmdjkaepclhaa
mutual
def cntE:Expr->Nat
 | .mk _ _ _ _ args=>1+cntEs args
def cntEs:List Expr->Nat
 | []=>0
 | x :: l=>cntE x+cntEs l
end
mutual
def cntS:Stmt->Nat
 | .mk _ _ xs b e=>1+cntEs xs+cntSs b+cntSs e
def cntSs:List Stmt->Nat
 | []=>0
 | x :: l=>cntS x+cntSs l
end
def cntFs (l:List Fun):Nat:=(l.map fun f=>cntSs f.body).sum
def cntP (p:List Unit):Nat:=(p.map fun u=>cntFs u.funcs).sum
mutual
theorem cntE_le:∀ x:Expr,cntE x<=nRow x.g
 | .mk k n of s args=>by
  have:=cntEs_le args
  simp only[cntE,Expr.g,nRow,nG]
  omega
theorem cntEs_le:∀ l:List Expr,cntEs l<=nRows (Expr.gs l)
 | []=>by simp[cntEs]
 | x :: l=>by
  have h1:=cntE_le x
  have h2:=cntEs_le l
  simp only[cntEs,Expr.gs,nRows]
  omega
end
mutual
theorem cntS_le:∀ x:Stmt,cntS x<=nRow x.g
 | .mk k s xs b e=>by
  have h1:=cntEs_le xs
  have h2:=cntSs_le b
  have h3:=cntSs_le e
  simp only[cntS,Stmt.g,nRow,nG]
  omega
theorem cntSs_le:∀ l:List Stmt,cntSs l<=nRows (Stmt.gs l)
 | []=>by simp[cntSs]
 | x :: l=>by
  have h1:=cntS_le x
  have h2:=cntSs_le l
  simp only[cntSs,Stmt.gs,nRows]
  omega
end
theorem cntFs_le:∀ l:List Fun,cntFs l<=nRows (l.map Fun.g)
 | []=>by simp[cntFs]
 | f :: l=>by
  have h1:=cntSs_le f.body
  have h2:=cntFs_le l
  simp only[cntFs,List.map_cons,List.sum_cons,nRows,Fun.g,nRow,nG] at h2 ⊢
  omega
theorem cntP_le:∀ p:List Unit,cntP p<=nRows (p.map Unit.g)
 | []=>by simp[cntP]
 | u :: p=>by
  have h1:=cntFs_le u.funcs
  have h2:=cntP_le p
  simp only[cntP,List.map_cons,List.sum_cons,nRows,Unit.g,nRow,nG] at h2 ⊢
  omega
theorem units_cnt {p:List Unit} {k b:Nat} (h:nG (.sl k (p.map Unit.g))<=b):cntP p<=b:=by
 have:=cntP_le p
 simp only[nG] at h
 omega
theorem stmtsN_cnt:∀ (n:Nat) (l:List Stmt),stmtsN n l<=(cntSs l:Int)
 | 0,l=>by rw[stmtsN];omega
 | n+1,l=>by
  induction l with
  | nil=>rw[stmtsN_nil];simp[cntSs]
  | cons x l il =>
   rw[stmtsN_cons]
   have h1:=stmtsN_cnt n x.b
   have h2:=stmtsN_cnt n x.e
   cases x with
   | mk k s xs b e =>
    simp only[Stmt.b,Stmt.e] at h1 h2 ⊢
    simp only[cntSs,cntS]
    omega
theorem manyN_cnt:∀ l:List Fun,manyN l<=(cntFs l:Int)
 | []=>by simp[manyN]
 | f :: l=>by
  have h1:=manyN_cnt l
  have h2:=stmtsN_cnt 12 f.body
  have e:manyN (f :: l)=stmtsN 12 f.body+manyN l:=by simp[manyN]
  have e2:cntFs (f :: l)=cntSs f.body+cntFs l:=by simp[cntFs]
  rw[e,e2];omega
theorem cntFs_mem:∀ {p:List Unit} {u:Unit},u∈p->cntFs u.funcs<=cntP p
 | [],_,h=>by simp at h
 | v :: p,u,h=>by
  have e:cntP (v :: p)=cntFs v.funcs+cntP p:=by simp[cntP]
  rcases List.mem_cons.1 h with rfl | h
  ·omega
  ·have:=cntFs_mem h;omega
theorem few_of {p:List Unit} (h:progE p=0) (hc:cntP p<=1048576):fewP p:=by
 intro u hu
 have hU:=(progE_inv h).2.1 u hu
 have h1:=manyN_cnt u.funcs
 have h2:=cntFs_mem hu
 have h3:=(manyN_ge u.funcs).2
 unfold unitE at hU
 repeat' (split at hU)
 all_goals (try omega)
 rename_i h
 rw[I64.wrap (by unfold I64;omega)] at h
 omega
theorem cntEs_get:∀ (l:List Expr) (i:Nat),cntE (l.getD i noE)<=1+cntEs l
 | [],i=>by simp[noE,cntE,cntEs]
 | x :: l,0=>by simp[cntEs];omega
 | x :: l,i+1=>by
  have:=cntEs_get l i
  simp only[cntEs,List.getD_cons_succ]
  omega
mutual
theorem foldE_cnt:∀ x:Expr,cntE (foldE x)<=cntE x
 | .mk k n of s args=>by
  have h:=foldEs_cnt args
  rw[foldE]
  split
  ·have h0:=cntEs_get (foldEs args) 0
   rcases foldT_cases n of s ((foldEs args).getD 0 noE) ((foldEs args).getD 1 noE) (foldEs args) with e | e | e
   ·rw[e];simp only[cntE,cntEs];omega
   ·rw[e];simp only[cntE];omega
   ·rw[e];simp only[cntE];omega
  ·simp only[cntE];omega
theorem foldEs_cnt:∀ l:List Expr,cntEs (foldEs l)<=cntEs l
 | []=>by simp[foldEs]
 | x :: l=>by
  have h1:=foldE_cnt x
  have h2:=foldEs_cnt l
  simp only[foldEs,cntEs]
  omega
end
theorem cntSs_append:∀ a b:List Stmt,cntSs (a++b)=cntSs a+cntSs b
 | [],b=>by simp[cntSs]
 | x :: a,b=>by
  rw[List.cons_append,cntSs,cntSs,cntSs_append a b];omega
theorem foldH_cnt (k:Int) (s:Str) (xs:List Expr) (b e:List Stmt):cntSs (foldH k s xs b e)<=1+cntEs xs+cntSs b+cntSs e:=by
 unfold foldH
 dsimp only
 split
 ·omega
 ·split
  ·omega
  ·split
   ·simp[cntSs]
   ·simp only[cntSs,cntS];omega
mutual
theorem foldS_cnt:∀ x:Stmt,cntSs (foldS x)<=cntS x
 | .mk k s xs b e=>by
  have h1:=foldEs_cnt xs
  have h2:=foldSs_cnt b
  have h3:=foldSs_cnt e
  have h4:=foldH_cnt k s (foldEs xs) (foldSs b) (foldSs e)
  rw[foldS,cntS];omega
theorem foldSs_cnt:∀ l:List Stmt,cntSs (foldSs l)<=cntSs l
 | []=>by simp[foldSs]
 | x :: l=>by
  have h1:=foldS_cnt x
  have h2:=foldSs_cnt l
  rw[foldSs_cons,cntSs_append,cntSs]
  split
  ·simp only[cntSs];omega
  ·omega
end
theorem foldFs_cnt:∀ l:List Fun,cntFs (l.map foldF)<=cntFs l
 | []=>by simp
 | f :: l=>by
  have h1:=foldSs_cnt f.body
  have h2:=foldFs_cnt l
  simp only[cntFs,List.map_cons,List.sum_cons,foldF] at h2 ⊢
  omega
theorem foldP_cnt:∀ p:List Unit,cntP (foldP p)<=cntP p
 | []=>by simp[foldP]
 | u :: p=>by
  have h1:=foldFs_cnt u.funcs
  have h2:=foldP_cnt p
  simp only[cntP,foldP,List.map_cons,List.sum_cons,foldU] at h2 ⊢
  omega
mutual
def noTwoE:Expr->Prop
 | .mk k _ _ _ args=>¬(k=5/\(args.getD 0 noE).k=1/\(args.getD 1 noE).k=1)/\noTwoEs args
def noTwoEs:List Expr->Prop
 | []=>True
 | x :: l=>noTwoE x/\noTwoEs l
end
mutual
def noTwoS:Stmt->Prop
 | .mk _ _ xs b e=>noTwoEs xs/\noTwoSs b/\noTwoSs e
def noTwoSs:List Stmt->Prop
 | []=>True
 | x :: l=>noTwoS x/\noTwoSs l
end
theorem noTwoEs_get:∀ {l:List Expr},noTwoEs l->∀ i,noTwoE (l.getD i noE)
 | [],_,i=>by simp[noE,noTwoE,noTwoEs]
 | x :: l,h,0=>by simpa using h.1
 | x :: l,h,i+1=>by simpa using noTwoEs_get h.2 i
mutual
theorem foldE_no:∀ x:Expr,noTwoE (foldE x)
 | .mk k n of s args=>by
  have h:=foldEs_no args
  rw[foldE]
  split
  ·rename_i h5
   unfold foldT
   split
   ·simp[noTwoE,noTwoEs]
   ·rename_i h1
    split
    ·exact noTwoEs_get h 0
    ·split
     ·exact noTwoEs_get h 0
     ·rw[noTwoE];exact ⟨fun c=>h1 c.2,h⟩
  ·rename_i h5
   rw[noTwoE];exact ⟨fun c=>h5 c.1,h⟩
theorem foldEs_no:∀ l:List Expr,noTwoEs (foldEs l)
 | []=>by simp[foldEs,noTwoEs]
 | x :: l=>by rw[foldEs,noTwoEs];exact ⟨foldE_no x,foldEs_no l⟩
end
theorem noTwoSs_append:∀ a b:List Stmt,noTwoSs a->noTwoSs b->noTwoSs (a++b)
 | [],b,_,h=>h
 | x :: a,b,h,k=>by
  rw[noTwoSs] at h
  rw[List.cons_append,noTwoSs];exact ⟨h.1,noTwoSs_append a b h.2 k⟩
mutual
theorem foldS_no:∀ x:Stmt,noTwoSs (foldS x)
 | .mk k s xs b e=>by
  have h1:=foldEs_no xs
  have h2:=foldSs_no b
  have h3:=foldSs_no e
  rw[foldS]
  unfold foldH
  dsimp only
  split
  ·exact h2
  ·split
   ·exact h3
   ·split
    ·simp[noTwoSs]
    ·simp only[noTwoSs,noTwoS];exact ⟨⟨h1,h2,h3⟩,trivial⟩
theorem foldSs_no:∀ l:List Stmt,noTwoSs (foldSs l)
 | []=>by simp[foldSs,noTwoSs]
 | x :: l=>by
  rw[foldSs_cons]
  refine noTwoSs_append _ _ (foldS_no x) ?_
  split
  ·simp[noTwoSs]
  ·exact foldSs_no l
end
end Barb
