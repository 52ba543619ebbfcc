/-
  Units as texts: how long they are: plain.
-/
import Derived.Test.YtabjelabdojpkaaDoorVs
namespace Go.Proofs.YtabjelabdojpkaaDoor
open Go Go.Dm Go.Eng Barb
def bE:Nat→Nat
 | 0=>0
 | f+1=>4*bE f+40
theorem bE_le:∀ f,f≤12→bE f≤223696200:=fun f h=>by
 have:∀ f:Fin 13,bE f.1≤223696200:=by decide
 exact this ⟨f,by omega⟩
theorem id_len {s:Str} (h:identP s):s.length≤8:=h.1.1.2
theorem dec_len {n:Nat} (h:n≤65535):(Lib.decDigits n).length≤6:=by
 have key:∀ (k n:Nat),n < 10 ^ (k+1)→(Lib.decDigits n).length≤k+1:=by
  intro k
  induction k with
  | zero=>intro n h;rw[decDigits_small (by simpa using h)];simp
  | succ k ih =>
   intro n h
   by_cases hn:n < 10
   ·rw[decDigits_small hn];simp
   ·rw[decDigits_big hn,List.length_append]
    have:=ih (n / 10) (by rw[Nat.pow_succ] at h;omega)
    simp
    omega
 exact key 5 n (by simp;omega)
theorem op_len {n:Int} (h:1≤n∧n≤10):(opS n).length≤2:=by
 have:∀ g∈opsL,g.length≤2:=by decide
 exact this _ (opS_mem h)
theorem ex_few {f:Nat} {x:Barb.Expr} (h:exprE (f+1) x=0):x.args.length≤4:=by
 rw[exprE_succ] at h
 split at h
 ·cases h
 ·split at h
  ·cases h
  ·omega
theorem joinTail_cons (s:Str) (l:List Str):Lib.joinTail [44,32] (s :: l)=[44,32]++(s++Lib.joinTail [44,32] l):=by simp[Lib.joinTail]
theorem joinTail_len {b:Nat}:∀ (l:List Str),(∀ s∈l,s.length≤b)→(Lib.joinTail [44,32] l).length≤l.length*(b+2)
 | [],_=>by simp[Lib.joinTail]
 | s :: l,h=>by
  have h1:=joinTail_len l (fun z hz=>h z (List.mem_cons_of_mem _ hz))
  have h2:=h s List.mem_cons_self
  rw[joinTail_cons]
  simp only[List.length_append,List.length_cons,List.length_nil,Nat.add_mul]
  omega
theorem join_len {b:Nat} (l:List Str) (h:∀ s∈l,s.length≤b):(Lib.join l [44,32]).length≤l.length*(b+2):=by
 cases l with
 | nil=>simp[Lib.join]
 | cons s l =>
  rw[Lib.join_cons,List.length_append]
  have h1:=joinTail_len (b:=b) l (fun z hz=>h z (List.mem_cons_of_mem _ hz))
  have h2:=h s List.mem_cons_self
  rw[List.length_cons,Nat.add_mul]
  omega
theorem ex_len:∀ (f:Nat) (x:Barb.Expr),exprE f x=0→(exS f x).length≤bE f
 | 0,_,h=>by cases h
 | f+1,x,h=>by
  have hf:=ex_few h
  show _≤4*bE f+40
  rcases ex_cases h with ⟨n,hn,rfl⟩ | ⟨s,hs,rfl⟩ | ⟨s,a,hs,ha,rfl⟩ | ⟨of,s,l,ho,hs,hl,rfl⟩ | ⟨n,a,b,hn,ha,hb,rfl⟩
  ·have:=dec_len hn
   show (Lib.decDigits n).length≤_
   omega
  ·have:=id_len hs
   show s.length≤_
   omega
  ·have h1:=id_len hs
   have h2:=ex_len f a ha
   show (s++([91]++(exS f a++[93]))).length≤_
   simp only[List.length_append,List.length_cons,List.length_nil]
   omega
  ·have h1:=id_len hs
   have h0:of.length≤8:=ho.elim (fun e=>by rw[e];simp) id_len
   have hf:l.length≤4:=hf
   have h2:=join_len (b:=bE f) (l.map (exS f)) (fun s hs=>by obtain ⟨y,hy,rfl⟩:=List.mem_map.1 hs;exact ex_len f y (hl y hy))
   rw[List.length_map] at h2
   have h3:l.length*(bE f+2)≤4*(bE f+2):=Nat.mul_le_mul_right _ hf
   show ((if of=[] then [] else of++[46])++(s++([40]++(Lib.join (l.map (exS f)) [44,32]++[41])))).length≤_
   have h4:(if of=[] then [] else of++[46]).length≤9:=by split<;>simp<;>omega
   simp only[List.length_append,List.length_cons,List.length_nil] at h4 ⊢
   omega
  ·have h1:=op_len hn
   have h2:=ex_len f a ha
   have h3:=ex_len f b hb
   show ([40]++(exS f a++([32]++((opS n++[32])++(exS f b++[41]))))).length≤_
   simp only[List.length_append,List.length_cons,List.length_nil]
   omega
theorem many_0:∀ (n:Nat) (l:List Barb.Stmt),0≤stmtsN n l
 | 0,_=>Int.le_refl _
 | n+1,l=>by
  have h:∀ l:List Barb.Stmt,0≤(l.map (stmtN1 (stmtsN n))).sum:=fun l=>by
   induction l with
   | nil=>simp
   | cons x l ih =>
    obtain ⟨k,s,xs,b,e⟩:=x
    have h1:=many_0 n b
    have h2:=many_0 n e
    simp only[List.map_cons,List.sum_cons,stmtN1]
    omega
  have:=h l
  simp only[stmtsN]
  omega
theorem blS0_len (n:Nat):(blS0 n).length=n:=List.length_replicate
theorem st_len {f n:Nat} (hn:n≤13) (ih:∀ l,stmtsE f l=0→((blS f n l).length:Int)≤20+stmtsN f l*500000000) {x:Barb.Stmt} (h:stmtE1 (stmtsE f) x=0):((stS (blS f) n x).length:Int)≤(1+stmtN1 (stmtsN f) x)*500000000:=by
 have b0:=blS0_len n
 have he:=fun (a:Barb.Expr) (ha:exprE 12 a=0)=>Nat.le_trans (ex_len 12 a ha) (bE_le 12 (Nat.le_refl _))
 have h0:=many_0 f []
 rcases st_cases h with ⟨s,a,hs,ha,_,rfl⟩ | ⟨s,a,b,hs,ha,hb,_,rfl⟩ | ⟨a,b,e,ha,hb,he',rfl⟩ | ⟨a,b,ha,hb,_,rfl⟩ | ⟨a,ha,_,rfl⟩ | ⟨a,ha,_,rfl⟩
 ·have h1:=id_len hs
  have h2:=he a ha
  show ((blS0 n++(s++([32,61,32]++(exS 12 a++[59,10])))).length:Int)≤(1+(stmtsN f []+stmtsN f []))*500000000
  simp only[List.length_append,List.length_cons,List.length_nil]
  omega
 ·have h1:=id_len hs
  have h2:=he a ha
  have h3:=he b hb
  show ((blS0 n++(s++([91]++(exS 12 a++([93,32,61,32]++(exS 12 b++[59,10])))))).length:Int)≤(1+(stmtsN f []+stmtsN f []))*500000000
  simp only[List.length_append,List.length_cons,List.length_nil]
  omega
 ·have h2:=he a ha
  have h3:=ih b hb
  have h4:=ih e he'
  show ((blS0 n++([105,102,32]++(exS 12 a++([32]++(blS f n b++([32,101,108,115,101,32]++(blS f n e++[10]))))))).length:Int)≤(1+(stmtsN f b+stmtsN f e))*500000000
  simp only[List.length_append,List.length_cons,List.length_nil]
  omega
 ·have h2:=he a ha
  have h3:=ih b hb
  show ((blS0 n++([119,104,105,108,101,32]++(exS 12 a++([32]++(blS f n b++[10]))))).length:Int)≤(1+(stmtsN f b+stmtsN f []))*500000000
  simp only[List.length_append,List.length_cons,List.length_nil]
  omega
 ·have h2:=he a ha
  show ((blS0 n++([114,101,116,117,114,110,32]++(exS 12 a++[59,10]))).length:Int)≤(1+(stmtsN f []+stmtsN f []))*500000000
  simp only[List.length_append,List.length_cons,List.length_nil]
  omega
 ·have h2:=he a ha
  show ((blS0 n++([115,97,121,32]++(exS 12 a++[59,10]))).length:Int)≤(1+(stmtsN f []+stmtsN f []))*500000000
  simp only[List.length_append,List.length_cons,List.length_nil]
  omega
theorem bl_len:∀ (f n:Nat) (l:List Barb.Stmt),n+f≤13→stmtsE f l=0→((blS f n l).length:Int)≤20+stmtsN f l*500000000
 | 0,_,_,_,h=>by cases h
 | f+1,n,l,hn,h=>by
  have key:∀ l:List Barb.Stmt,(∀ x∈l,stmtE1 (stmtsE f) x=0)→((l.flatMap (stS (blS f) (n+1))).length:Int)≤(l.length+(l.map (stmtN1 (stmtsN f))).sum)*500000000:=by
   intro l
   induction l with
   | nil=>intro _;simp
   | cons x l ih =>
    intro hl
    have h1:=ih (fun y hy=>hl y (List.mem_cons_of_mem _ hy))
    have h2:=st_len (n:=n+1) (by omega) (fun l hl=>bl_len f (n+1) l (by omega) hl) (hl x List.mem_cons_self)
    rw[List.flatMap_cons,List.length_append,List.length_cons,List.map_cons,List.sum_cons]
    omega
  have h1:=key l (firstE_all h)
  have b0:=blS0_len n
  show (([123,10]++(l.flatMap (stS (blS f) (n+1))++(blS0 n++[125]))).length:Int)≤20+(l.length+(l.map (stmtN1 (stmtsN f))).sum)*500000000
  simp only[List.length_append,List.length_cons,List.length_nil]
  omega
end Go.Proofs.YtabjelabdojpkaaDoor
