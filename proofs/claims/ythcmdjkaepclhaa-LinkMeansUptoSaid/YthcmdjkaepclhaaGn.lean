import Derived.Test.YthcmdjkaepclhaaSpec2
import Derived.Test.YthcmdjkaepclhaaFt
import Derived.Test.YthcmdjkaepclhaaHx
import Derived.Test.YthcmdjkaepclhaaNm
import Derived.Test.YthcmdjkaepclhaaUf
import Derived.Test.YthcmdjkaepclhaaGh
import Derived.Test.YthcmdjkaepclhaaNq
import Derived.Test.YthcmdjkaepclhaaCk
import Derived.Test.YthcmdjkaepclhaaSi
import Derived.Test.YthcmdjkaepclhaaGi
namespace Barb
open Go Go.Dm Go.Eng
structure GW where
 code:List Instr
 calls:List Int
 deep:Int
 most:Int
def GW.put (w:GW) (op a b c more:Int):GW :=
 ⟨w.code++[⟨op,a,b,c⟩],w.calls,IntKind.i64.wrap (w.deep+more),if IntKind.i64.wrap (w.deep+more) > w.most then IntKind.i64.wrap (w.deep+more) else w.most⟩
def setA (l:List Instr) (i:Nat) (a:Int):List Instr:=l.modify i (fun x=>{ x with a:=a })
def GW.setA (w:GW) (i:Nat) (a:Int):GW:={ w with code:=Barb.setA w.code i a }
def GW.at_ (w:GW):Int:=w.code.length
structure GC where
 p:List Unit
 u:Unit
 base:Int
 f:Fun
def addrA (name:Str):List Arr->Int->Int × Int
 | [],at_=>(at_,0)
 | a :: l,at_=>if a.name=name then (at_,a.size) else addrA name l (IntKind.i64.wrap (at_+a.size))
noncomputable def varIdx (u:Unit) (name:Str):Int:=idx (fun s=>name=s) u.vars
noncomputable def parIdx (f:Fun) (name:Str):Int:=idx (fun s=>name=s) f.params
noncomputable def addrG (g:GC) (name:Str):Int × Int :=
 if 0<=varIdx g.u name then (IntKind.i64.wrap (g.base+varIdx g.u name),1) else addrA name g.u.arrays (IntKind.i64.wrap (g.base+g.u.vars.length))
noncomputable def elemG (g:GC) (name:Str) (w:GW):GW :=
 let w3:=((w.put 3 0 0 0 1).put 1 (addrG g name).2 0 0 1).put 8 7 0 0 (-1)
 let w6:=((w3.put 10 0 0 0 (-1)).put 9 (w3.at_+3) 0 0 0).put 15 0 0 0 0
 ((w6.setA w3.code.length (w3.at_+2)).put 1 (addrG g name).1 0 0 1).put 8 1 0 0 (-1)
def openN (l:List Fun):Int:=((l.filter (fun f=>f.isOpen)).length:Nat)
def entryG (u:Unit) (k:Int):Int:=openN (u.funcs.take k.toNat)
noncomputable def callG (g:GC) (of s:Str) (n:Nat) (w:GW):GW :=
 if of=[] then ({ w with calls:=w.calls++[w.at_] }:GW).put 11 (funIdx g.u s) n 0 (1 - n)
 else w.put 12 (unitIdx g.p of) (entryG (g.p.getD (unitIdx g.p of).toNat ⟨[],[],[],[]⟩) (funIdx (g.p.getD (unitIdx g.p of).toNat ⟨[],[],[],[]⟩) s)) n (1 - n)
noncomputable def readG (g:GC) (s:Str) (w:GW):GW :=
 if 0<=parIdx g.f s then w.put 4 (parIdx g.f s) 0 0 1 else (w.put 1 (addrG g s).1 0 0 1).put 6 0 0 0 0
noncomputable def lastG (g:GC) (k n:Int) (of s:Str) (m:Nat) (w:GW):GW :=
 if k=1 then w.put 1 n 0 0 1 else if k=2 then readG g s w else if k=3 then (elemG g s w).put 6 0 0 0 0 else if k=4 then callG g of s m w else w.put 8 n 0 0 (-1)
mutual
noncomputable def exprG (g:GC):Expr->GW->GW
 | .mk k n of s args,w=>lastG g k n of s args.length (exprsG g args w)
noncomputable def exprsG (g:GC):List Expr->GW->GW
 | [],w=>w
 | x :: l,w=>exprsG g l (exprG g x w)
end
noncomputable def setG (g:GC) (s:Str) (x:Expr) (w:GW):GW :=
 if 0<=parIdx g.f s then (exprG g x w).put 5 (parIdx g.f s) 0 0 (-1) else (exprG g x (w.put 1 (addrG g s).1 0 0 1)).put 7 0 0 0 (-2)
noncomputable def put2G (g:GC) (s:Str) (x y:Expr) (w:GW):GW :=
 ((elemG g s ((exprG g y (exprG g x w)).put 5 g.f.params.length 0 0 (-1))).put 4 g.f.params.length 0 0 1).put 7 0 0 0 (-2)
mutual
noncomputable def stmtG (g:GC):Stmt->GW->GW
 | .mk k s xs b e,w =>
  if k=1 then setG g s (xs.getD 0 noX) w
  else if k=2 then put2G g s (xs.getD 0 noX) (xs.getD 1 noX) w
  else if k=3\/k=4 then
   let w1:=exprG g (xs.getD 0 noX) w
   let w2:=stmtsG g b (w1.put 10 0 0 0 (-1))
   let w3:=(w2.put 9 (if k=4 then w.at_ else 0) 0 0 0)
   let w4:=w3.setA w1.code.length w3.at_
   if k=3 then
    let w5:=stmtsG g e w4
    w5.setA w2.code.length w5.at_
   else w4
  else if k=5 then (exprG g (xs.getD 0 noX) w).put 13 0 0 0 (-1)
  else (exprG g (xs.getD 0 noX) w).put 14 0 0 0 (-1)
noncomputable def stmtsG (g:GC):List Stmt->GW->GW
 | [],w=>w
 | x :: l,w=>stmtsG g l (stmtG g x w)
end
noncomputable def funG (p:List Unit) (u:Unit) (base:Int) (f:Fun) (w:GW):GW:=((stmtsG ⟨p,u,base,f⟩ f.body { w with deep:=0 }).put 1 0 0 0 1).put 13 0 0 0 (-1)
noncomputable def funsG (p:List Unit) (u:Unit) (base:Int):List Fun->GW->GW
 | [],w=>w
 | f :: l,w=>funsG p u base l (funG p u base f w)
noncomputable def atsG (p:List Unit) (u:Unit) (base:Int):List Fun->GW->List Int
 | [],_=>[]
 | f :: l,w=>w.at_ :: atsG p u base l (funG p u base f w)
def patchG (ats:List Int):List Int->List Instr->List Instr
 | [],c=>c
 | k :: l,c=>patchG ats l (setA c k.toNat (ats.getD (c.getD k.toNat ⟨0,0,0,0⟩).a.toNat 0))
noncomputable def unitW (p:List Unit) (u:Unit) (base:Int):GW:=funsG p u base u.funcs ⟨[],[],0,0⟩
noncomputable def unitC (p:List Unit) (u:Unit) (base:Int):List Instr:=patchG (atsG p u base u.funcs ⟨[],[],0,0⟩) (unitW p u base).calls (unitW p u base).code
noncomputable def genE (p:List Unit) (u base:Int):Int :=
 if progE p≠0 then progE p else if u < 0\/u >= p.length then 5
 else if base < 0\/base+unitWords (p.getD u.toNat ⟨[],[],[],[]⟩) > 250 then 2
 else if (unitC p (p.getD u.toNat ⟨[],[],[],[]⟩) base).length > 1200\/(unitW p (p.getD u.toNat ⟨[],[],[],[]⟩) base).most > 40 then 1 else 0
end Barb
namespace Barb
open Go Go.Dm Go.Eng
structure Grow (n:Nat) (w w':GW):Prop where
 lo:w.code.length<=w'.code.length
 hi:w'.code.length<=w.code.length+n
 calls:w'.calls.length+w.code.length<=w.calls.length+w'.code.length
theorem Grow.refl (w:GW):Grow 0 w w:=⟨Nat.le_refl _,Nat.le_refl _,Nat.le_refl _⟩
theorem Grow.trans {n m:Nat} {a b c:GW} (h:Grow n a b) (k:Grow m b c):Grow (n+m) a c :=
 ⟨Nat.le_trans h.lo k.lo,by have:=h.hi;have:=k.hi;omega,by have:=h.calls;have:=k.calls;omega⟩
theorem Grow.mono {n m:Nat} {a b:GW} (h:Grow n a b) (hm:n<=m):Grow m a b:=⟨h.lo,by have:=h.hi;omega,h.calls⟩
theorem put_len (w:GW) (op a b c more:Int):(w.put op a b c more).code.length=w.code.length+1:=by unfold GW.put;simp
theorem put_calls (w:GW) (op a b c more:Int):(w.put op a b c more).calls=w.calls:=rfl
theorem setA_len (w:GW) (i:Nat) (a:Int):(w.setA i a).code.length=w.code.length:=by unfold GW.setA Barb.setA;simp
theorem Grow.put (w:GW) (op a b c more:Int):Grow 1 w (w.put op a b c more):=⟨by rw[put_len];omega,by rw[put_len];omega,by rw[put_len,put_calls];omega⟩
theorem Grow.setA (w:GW) (i:Nat) (a:Int):Grow 0 w (w.setA i a):=⟨by rw[setA_len];omega,by rw[setA_len];omega,by rw[setA_len];show w.calls.length+_<=_;omega⟩
theorem Grow.elem (g:GC) (s:Str) (w:GW):Grow 8 w (elemG g s w):=by
 unfold elemG
 exact ((((((((Grow.put w 3 0 0 0 1).trans (.put _ 1 _ 0 0 1)).trans (.put _ 8 7 0 0 (-1))).trans (.put _ 10 0 0 0 (-1))).trans (.put _ 9 _ 0 0 0)).trans (.put _ 15 0 0 0 0)).trans (.setA _ _ _)).trans (.put _ 1 _ 0 0 1)).trans (.put _ 8 1 0 0 (-1))
theorem Grow.call (g:GC) (of s:Str) (n:Nat) (w:GW):Grow 1 w (callG g of s n w):=by
 unfold callG
 split
 ·exact ⟨by rw[put_len];exact Nat.le_add_right _ _,by rw[put_len];exact Nat.le_refl _,by rw[put_len,put_calls];simp;omega⟩
 ·exact .put _ _ _ _ _ _
theorem Grow.last (g:GC) (k n:Int) (of s:Str) (m:Nat) (w:GW):Grow 9 w (lastG g k n of s m w):=by
 unfold lastG
 split
 ·exact (Grow.put _ _ _ _ _ _).mono (by decide)
 ·split
  ·unfold readG
   split
   ·exact (Grow.put _ _ _ _ _ _).mono (by decide)
   ·exact ((Grow.put _ _ _ _ _ _).trans (.put _ _ _ _ _ _)).mono (by decide)
  ·split
   ·exact (Grow.elem _ _ _).trans (.put _ _ _ _ _ _)
   ·split
    ·exact (Grow.call _ _ _ _ _).mono (by decide)
    ·exact (Grow.put _ _ _ _ _ _).mono (by decide)
mutual
def szE:Expr->Nat
 | .mk _ _ _ _ args=>1+szEs args
def szEs:List Expr->Nat
 | []=>0
 | x :: l=>szE x+szEs l
end
mutual
theorem Grow.expr (g:GC):∀ (x:Expr) (w:GW),Grow (9*szE x) w (exprG g x w)
 | .mk k n of s args,w=>by
  rw[exprG,szE]
  exact ((Grow.exprs g args w).trans (.last g k n of s args.length _)).mono (by omega)
theorem Grow.exprs (g:GC):∀ (l:List Expr) (w:GW),Grow (9*szEs l) w (exprsG g l w)
 | [],w=>by rw[exprsG];exact .refl w
 | x :: l,w=>by
  rw[exprsG,szEs]
  exact ((Grow.expr g x w).trans (.exprs g l _)).mono (by omega)
end
mutual
def szS:Stmt->Nat
 | .mk _ _ xs b e=>40+9*szEs xs+szSs b+szSs e
def szSs:List Stmt->Nat
 | []=>0
 | x :: l=>szS x+szSs l
end
theorem szE_noX:szE noX=1:=rfl
theorem szEs_get:∀ (l:List Expr) (i:Nat),szE (l.getD i noX)<=1+szEs l
 | [],i=>by simp[szE_noX]
 | x :: l,0=>by simp[szEs];omega
 | x :: l,i+1=>by
  have:=szEs_get l i
  simp only[List.getD_cons_succ,szEs]
  omega
theorem szEs_two:∀ (l:List Expr),szE (l.getD 0 noX)+szE (l.getD 1 noX)<=2+szEs l
 | []=>by simp[szE_noX,szEs]
 | x :: l=>by
  have:=szEs_get l 0
  simp only[List.getD_cons_succ,List.getD_cons_zero,szEs]
  omega
theorem Grow.set (g:GC) (s:Str) (x:Expr) (w:GW):Grow (2+9*szE x) w (setG g s x w):=by
 unfold setG
 split
 ·exact ((Grow.expr _ _ _).trans (.put _ _ _ _ _ _)).mono (by omega)
 ·exact (((Grow.put _ _ _ _ _ _).trans (.expr _ _ _)).trans (.put _ _ _ _ _ _)).mono (by omega)
theorem Grow.put2 (g:GC) (s:Str) (x y:Expr) (w:GW):Grow (11+9*szE x+9*szE y) w (put2G g s x y w):=by
 unfold put2G
 exact ((((((Grow.expr _ _ _).trans (.expr _ _ _)).trans (.put _ _ _ _ _ _)).trans (.elem _ _ _)).trans (.put _ _ _ _ _ _)).trans (.put _ _ _ _ _ _)).mono (by omega)
mutual
theorem Grow.stmt (g:GC):∀ (x:Stmt) (w:GW),Grow (szS x) w (stmtG g x w)
 | .mk k s xs b e,w=>by
  have h0:=szEs_get xs 0
  have h2:=szEs_two xs
  rw[stmtG,szS]
  split
  ·exact (Grow.set _ _ _ _).mono (by omega)
  ·split
   ·exact (Grow.put2 _ _ _ _ _).mono (by omega)
   ·split
    ·have g4:=(((((Grow.expr g (xs.getD 0 noX) w).trans (.put _ 10 0 0 0 (-1))).trans (.stmts g b _)).trans (.put _ 9 (if k=4 then w.at_ else 0) 0 0 0)).trans (.setA _ (exprG g (xs.getD 0 noX) w).code.length ((stmtsG g b ((exprG g (xs.getD 0 noX) w).put 10 0 0 0 (-1))).put 9 (if k=4 then w.at_ else 0) 0 0 0).at_))
     dsimp only
     split
     ·exact ((g4.trans (.stmts g e _)).trans (.setA _ _ _)).mono (by omega)
     ·exact g4.mono (by omega)
    ·split
     ·exact ((Grow.expr _ _ _).trans (.put _ _ _ _ _ _)).mono (by omega)
     ·exact ((Grow.expr _ _ _).trans (.put _ _ _ _ _ _)).mono (by omega)
theorem Grow.stmts (g:GC):∀ (l:List Stmt) (w:GW),Grow (szSs l) w (stmtsG g l w)
 | [],w=>by rw[stmtsG];exact .refl w
 | x :: l,w=>by
  rw[stmtsG,szSs]
  exact (Grow.stmt g x w).trans (.stmts g l _)
end
structure Room (n:Nat) (w:GW):Prop where
 code:w.code.length+n<=4000000000000
 calls:w.calls.length<=w.code.length
theorem Room.step {n m k:Nat} {w w':GW} (h:Room n w) (g:Grow m w w') (hk:m+k<=n):Room k w':=⟨by have:=h.code;have:=g.hi;omega,by have:=h.calls;have:=g.calls;omega⟩
theorem exprsG_append (g:GC):∀ (a b:List Expr) (w:GW),exprsG g (a++b) w=exprsG g b (exprsG g a w)
 | [],_,_=>by rw[exprsG];rfl
 | x :: a,b,w=>by
  rw[List.cons_append,exprsG,exprsG]
  exact exprsG_append g a b _
theorem exprsG_one (g:GC) (l:List Expr) (j:Nat) (hj:j < l.length) (w:GW):exprsG g (l.take (j+1)) w=exprG g l[j] (exprsG g (l.take j) w):=by
 rw[take_one hj,exprsG_append,exprsG,exprsG]
theorem szEs_append:∀ (a b:List Expr),szEs (a++b)=szEs a+szEs b
 | [],b=>by simp[szEs]
 | x :: a,b=>by rw[List.cons_append,szEs,szEs,szEs_append a b];omega
theorem szEs_one (l:List Expr) (j:Nat) (hj:j < l.length):szEs (l.take (j+1))=szEs (l.take j)+szE l[j]:=by
 rw[take_one hj,szEs_append,szEs,szEs];omega
theorem szEs_take (l:List Expr) (j:Nat):szEs (l.take j)<=szEs l:=by
 conv=>rhs;rw[<- List.take_append_drop j l,szEs_append]
 omega
theorem openN_one (l:List Fun) (j:Nat) (hj:j < l.length):openN (l.take (j+1))=openN (l.take j)+if l[j].isOpen then 1 else 0:=by
 unfold openN
 rw[take_one hj,List.filter_append,List.length_append]
 cases h:l[j].isOpen<;>simp[h]
theorem openN_le (l:List Fun):0<=openN l/\openN l<=l.length:=by
 unfold openN
 have:=List.length_filter_le (fun f:Fun=>f.isOpen) l
 omega
end Barb
namespace Go.Proofs.Ythcmdjkaepclhaa
open Go Go.Dm Go.Eng Go.RowKit Barb
abbrev WB (g:GC) (ui:Int) (w:GW):List D:=[.g (.sl 4 (g.p.map Unit.g)),.g (.int ui),.g (.int g.base),.g (.str g.f.name),.g (.bool g.f.isOpen),.g (.sl 1 (g.f.params.map strG)),.g (.sl 5 (g.f.body.map Stmt.g)),.row 1,.row 2,.g (.int w.deep),.g (.int w.most)]
abbrev WH (g:GC) (ui:Int) (w:GW):Heap:=[.blk (WB g ui w) 63,.row (w.code.map Instr.g) 67 4,.row (w.calls.map intG) 3 1]
theorem endWH {R:D->Heap->Prop} {env:Dm.Env} {g:GC} {ui:Int} {w:GW} {h hin:Heap} {code calls:List (List GV)} {d0:D} (d:D) (src:List Src) (hok:srcOk src=true) (hlen:nrOk src (WH g ui w)=true)
  (h0:conv h src 4 (env 0)=.ptr 0 0) (hd:conv h src 4 d0=d\/Like (newN src) 4 (conv h src 4 d0) d)
  (hT:turnH h src=[.blk (WB g ui w) 63,.row code 67 4,.row calls 3 1]) (e1:code=w.code.map Instr.g) (e2:calls=w.calls.map intG) (q:R d (WH g ui w)):ToH [0] hin 1 [] R h env d0:=by
 subst e1;subst e2
 refine ⟨src,d,WH g ui w,⟨hok,.inr ?_,.inr ?_,hlen⟩,rfl,trivial,q⟩
 ·rw[hT]
  exact ⟨⟨rfl,.inl rfl⟩,⟨rfl,rfl,rfl⟩,⟨rfl,rfl,rfl⟩,trivial⟩
 ·rw[List.map_cons,List.map_cons,List.map_cons,h0]
  exact ⟨by rcases hd with hd | hd;exact lk hd;exact hd,lk rfl,trivial⟩
theorem code_row (l:List Barb.Instr) (op a b c:Int):l.map Instr.g++[[.int op,.int a,.int b,.int c]]=(l++[Barb.Instr.mk op a b c]).map Instr.g:=by rw[List.map_append];rfl
set_option maxRecDepth 20000 in
theorem put_any (g:GC) (ui:Int) (w:GW) (hw:w.code.length<=4000000000000) (op a b c more:Int) :
  CTH Try.prog [] 20 1 (WH g ui w) [.ptr 0 0,.g (.int op),.g (.int a),.g (.int b),.g (.int c),.g (.int more)] (fun out=>out=.ret (.tuple []) (WH g ui (w.put op a b c more))):=by
 have lc:(w.code.map Instr.g).length=w.code.length:=List.length_map _
 refine enterH [] hT hF hM Try.func20 rfl 46 rfl (by kernel_rfl) [] rfl [.ptr 0 0,.g (.int op),.g (.int a),.g (.int b),.g (.int c),.g (.int more)] rfl (WH g ui w) [0] rfl rfl rfl 1 [] trivial _ ?_
 refine ⟨[[.int op,.int a,.int b,.int c]],rfl,rfl,⟨rfl,rfl,rfl,rfl,trivial⟩,?_⟩
 refine ⟨⟨by simp[maxLen];omega,by simp;omega⟩,?_⟩
 refine ⟨_,rfl,?_⟩
 refine ⟨none,rfl,?_⟩
 exact ⟨rfl,endWH (w:=w.put op a b c more) (.tuple []) [.old 0,.old 4,.old 2] rfl rfl rfl (.inl rfl) rfl (code_row w.code op a b c) rfl rfl⟩
theorem address_any (g:GC) (ku:Nat) (hk:ku < g.p.length) (hu:g.p[ku]=g.u) (w:GW) (hv:g.u.vars.length<=9223372036854775807) (ha:g.u.arrays.length<=9223372036854775806) (name:Str) :
  CTH Try.prog [] 62 1 (WH g ku w) [.ptr 0 0,.g (.str name)] (fun out=>out=.ret (.tuple [.g (.int (addrG g name).1),.g (.int (addrG g name).2)]) (WH g ku w)):=by
 have lv:(g.u.vars.map strG).length=g.u.vars.length:=List.length_map _
 have la:(g.u.arrays.map Arr.g).length=g.u.arrays.length:=List.length_map _
 have e:addrG g name=addrG g name:=rfl
 conv at e=>rhs;unfold addrG
 unfold varIdx at e
 refine enterH [] hT hF hM Try.func62 rfl 61 rfl (by kernel_rfl) [.tmp 4,.tmp 5] rfl [.ptr 0 0,.g (.str name)] rfl (WH g ku w) [0] rfl rfl rfl 1 [] trivial _ ?_
 refine ⟨none,rfl,ku,_,rfl,(gm hk).trans (congrArg (fun z=>some (Unit.g z)) hu),?_⟩
 refine callIs (.inl rfl) (strIdx_any g.u.vars hv name) ?_
 refine ⟨fun h=>?_,fun h=>?_⟩
 ·rw[if_pos h] at e
  refine ⟨_,rfl,?_⟩
  exact ⟨rfl,endWH (.tuple [.g (.int (addrG g name).1),.g (.int (addrG g name).2)]) [.old 0,.old 1,.old 2] rfl rfl rfl (.inr (.inr ⟨lkI (by rw[e]),lkI (by rw[e]),trivial⟩)) rfl rfl rfl rfl⟩
 rw[if_neg h] at e
 refine ⟨none,rfl,_,rfl,?_⟩
 refine loopR (ι:=Nat × Int) (fun i=>[(0,.ptr 0 0),(6,.ptr 3 0),(8,.g (.int i.2)),(44,.g (.int (i.1:Int)))]) (fun _=>WH g ku w++[.blk g.u.d 36]) (fun i=>i.1<=g.u.arrays.length/\addrA name (g.u.arrays.drop i.1) i.2=addrG g name) (fun i=>g.u.arrays.length - i.1)
  ⟨(0,IntKind.i64.wrap (g.base+g.u.vars.length)),[.old 0,.old 1,.old 2,.old 3],⟨rfl,.inl rfl,.inr ⟨lk rfl,lk rfl,lkI (by rw[lv]),lk rfl,trivial⟩,rfl⟩,Nat.zero_le _,e.symm⟩ ?_
 rintro Rd hRd ⟨j,at_⟩ ⟨hj,he⟩
 dsimp only at hj he
 refine ⟨fun hlt=>?_,fun hge=>?_⟩
 ·have hjl:j < g.u.arrays.length:=by have:(j:Int) < ((g.u.arrays.map Arr.g).length:Nat):=hlt;omega
  rw[List.drop_eq_getElem_cons hjl] at he
  unfold addrA at he
  refine ⟨j,_,rfl,gm hjl,?_⟩
  refine ⟨fun hn=>?_,fun hn=>?_⟩
  ·rw[if_pos hn] at he
   refine ⟨none,rfl,?_⟩
   exact ⟨rfl,endWH (.tuple [.g (.int (addrG g name).1),.g (.int (addrG g name).2)]) [.old 0,.old 1,.old 2] rfl rfl rfl (.inr (.inr ⟨lkI (by rw[<- he]),lkI (by rw[<- he]),trivial⟩)) rfl rfl rfl rfl⟩
  ·rw[if_neg hn] at he
   refine ⟨_,rfl,_,I64.wrap (by unfold I64;omega),?_⟩
   exact hRd _ _ _ ⟨(j+1,IntKind.i64.wrap (at_+g.u.arrays[j].size)),[.old 0,.old 1,.old 2,.old 3],⟨rfl,.inl rfl,.inr ⟨lk rfl,lk rfl,lk rfl,lkI (by push_cast;rfl),trivial⟩,rfl⟩,⟨hjl,he⟩,by show g.u.arrays.length - (j+1) < g.u.arrays.length - j;omega⟩
 ·have hje:j=g.u.arrays.length:=by have:¬(j:Int) < ((g.u.arrays.map Arr.g).length:Nat):=hge;omega
  rw[hje,List.drop_length] at he
  unfold addrA at he
  exact ⟨rfl,endWH (.tuple [.g (.int (addrG g name).1),.g (.int (addrG g name).2)]) [.old 0,.old 1,.old 2] rfl rfl rfl (.inr (.inr ⟨lkI (by rw[<- he]),lkI (by rw[<- he]),trivial⟩)) rfl rfl rfl rfl⟩
abbrev WBr (g:GC) (ui:Int) (w:GW) (i j:Nat):List D:=[.g (.sl 4 (g.p.map Unit.g)),.g (.int ui),.g (.int g.base),.g (.str g.f.name),.g (.bool g.f.isOpen),.g (.sl 1 (g.f.params.map strG)),.g (.sl 5 (g.f.body.map Stmt.g)),.row i,.row j,.g (.int w.deep),.g (.int w.most)]
abbrev WHr (g:GC) (ui:Int) (w:GW) (r:Heap):Heap:=.blk (WBr g ui w (r.length+1) (r.length+2)) 63 :: (r++[.row (w.code.map Instr.g) 67 4,.row (w.calls.map intG) 3 1])
theorem callW {gid:FuncId} (hg:fnOk Try.prog gid=true) {l all:List D} {h:Heap} {K Qp:KD} {g:GC} {ui:Int} {w w':GW} {d:D} (i j:Nat) (r:Heap)
  (hct:CTH Try.prog [] gid 1 (WH g ui w) (.ptr 0 0 :: l) (fun out=>out=.ret d (WH g ui w'))) (ht:TurnTo h [.old 0,.old i,.old j] all (WH g ui w) (.ptr 0 0 :: l))
  (hl:closedσ h [0,i,j] all=true) (hd:rnD (rnI [0,i,j] 1 h.length) 4 d=d) (hp:putH h [0,i,j] 1 (WH g ui w')=WHr g ui w' r) (hyes:K d (WHr g ui w' r)) :
  fnOk Try.prog gid=true/\(OwnCall Try.prog [] gid all h K Qp\/SemCall Try.prog [] gid all h K Qp):=by
 refine callO [0,i,j] hg hl rfl ht hct (fun d' h' hq=>?_) (fun d' h' hq=>?_)
 ·injection hq with e1 e2;subst e1;subst e2
  rw[hd,hp];exact hyes
 ·cases hq
theorem put_fn:fnOk Try.prog 20=true:=by kernel_rfl
theorem address_fn:fnOk Try.prog 62=true:=by kernel_rfl
end Go.Proofs.Ythcmdjkaepclhaa
namespace Go.Proofs.Ythcmdjkaepclhaa
open Go Go.Dm Go.Eng Go.RowKit Barb
structure GOk (g:GC) (ku:Nat):Prop where
 hk:ku < g.p.length
 hu:g.p[ku]=g.u
 hv:g.u.vars.length<=8
 ha:g.u.arrays.length<=3
theorem setA_row {w:GW} {k:Nat} (hk:k < w.code.length) (a:Int):(w.code.map Instr.g).set k (setL w.code[k].g (0+1) [.int a])=(w.setA k a).code.map Instr.g:=by
 show _=(w.code.modify k (fun x=>{ x with a:=a })).map Instr.g
 apply List.ext_getElem
 ·simp
 intro i h1 h2
 simp only[List.getElem_map,List.getElem_set,List.getElem_modify]
 split
 ·rename_i h;subst h;rfl
 ·rfl
abbrev dd (n:Nat):Heap:=List.replicate n .dead
theorem element_any {g:GC} {ku:Nat} (ok:GOk g ku) (w:GW) (hw:Room 8 w) (name:Str) :
  CTH Try.prog [] 63 1 (WH g ku w) [.ptr 0 0,.g (.str name)] (fun out=>out=.ret (.tuple []) (WH g ku (elemG g name w))):=by
 obtain ⟨h1,h2⟩:=hw
 have e:elemG g name w=elemG g name w:=rfl
 conv at e=>rhs;unfold elemG
 refine enterH [] hT hF hM Try.func63 rfl 47 rfl (by kernel_rfl) [] rfl [.ptr 0 0,.g (.str name)] rfl (WH g ku w) [0] rfl rfl rfl 1 [] trivial _ ?_
 refine callW address_fn 1 2 (dd 2) (address_any g ku ok.hk ok.hu w (by have:=ok.hv;omega) (by have:=ok.ha;omega) name) ⟨rfl,.inl rfl,.inl rfl,rfl⟩ rfl rfl rfl ?_
 refine callW put_fn 3 4 (dd 4) (put_any g ku w (by omega) 3 0 0 0 1) ⟨rfl,.inl rfl,.inl rfl,rfl⟩ rfl rfl rfl ?_
 refine callW put_fn 5 6 (dd 6) (put_any g ku _ (by simp only[put_len];omega) 1 (addrG g name).2 0 0 1) ⟨rfl,.inl rfl,.inl rfl,rfl⟩ rfl rfl rfl ?_
 refine callW put_fn 7 8 (dd 8) (put_any g ku _ (by simp only[put_len];omega) 8 7 0 0 (-1)) ⟨rfl,.inl rfl,.inl rfl,rfl⟩ rfl rfl rfl ?_
 have hl3:=put_len ((w.put 3 0 0 0 1).put 1 (addrG g name).2 0 0 1) 8 7 0 0 (-1)
 have hl2:=put_len (w.put 3 0 0 0 1) 1 (addrG g name).2 0 0 1
 have hl1:=put_len w 3 0 0 0 1
 generalize ((w.put 3 0 0 0 1).put 1 (addrG g name).2 0 0 1).put 8 7 0 0 (-1)=w3 at e hl3
 refine callW put_fn 9 10 (dd 10) (put_any g ku _ (by omega) 10 0 0 0 (-1)) ⟨rfl,.inl rfl,.inl rfl,rfl⟩ rfl rfl rfl ?_
 have hm:((w3.code.map Instr.g).length:Int)=w3.at_:=by rw[List.length_map];rfl
 have hat:w3.at_=(w3.code.length:Int):=rfl
 refine ⟨w3.at_+3,(by rw[hm];exact I64.wrap (by unfold I64;omega)),?_⟩
 refine callW put_fn 11 12 (dd 12) (put_any g ku _ (by rw[put_len];omega) 9 _ 0 0 0) ⟨rfl,.inl rfl,.inl rfl,rfl⟩ rfl rfl rfl ?_
 refine callW put_fn 13 14 (dd 14) (put_any g ku _ (by rw[put_len,put_len];omega) 15 0 0 0 0) ⟨rfl,.inl rfl,.inl rfl,rfl⟩ rfl rfl rfl ?_
 refine ⟨w3.at_+2,(by rw[hm];exact I64.wrap (by unfold I64;omega)),?_⟩
 have hk:w3.code.length < (((w3.put 10 0 0 0 (-1)).put 9 (w3.at_+3) 0 0 0).put 15 0 0 0 0).code.length:=by simp only[put_len];omega
 refine ⟨w3.code.length,congrArg (fun z=>D.g (.int z)) hm,(by rw[List.length_map];exact hk),?_⟩
 refine ⟨_,[.int (w3.at_+2)],gm hk,⟨rfl,trivial⟩,Nat.le_of_ble_eq_true rfl,(fun h=>by cases h),?_⟩
 have hset:=setA_row (w:=((w3.put 10 0 0 0 (-1)).put 9 (w3.at_+3) 0 0 0).put 15 0 0 0 0) hk (w3.at_+2)
 have hl6:((((w3.put 10 0 0 0 (-1)).put 9 (w3.at_+3) 0 0 0).put 15 0 0 0 0).setA w3.code.length (w3.at_+2)).code.length=w3.code.length+3:=by simp only[setA_len,put_len]
 refine callW put_fn 15 16 (dd 16) (put_any g ku ((((w3.put 10 0 0 0 (-1)).put 9 (w3.at_+3) 0 0 0).put 15 0 0 0 0).setA w3.code.length (w3.at_+2)) (by omega) 1 (addrG g name).1 0 0 1) ⟨rfl,.inr ⟨⟨rfl,.inl rfl⟩,⟨hset,rfl,rfl⟩,⟨rfl,rfl,rfl⟩,trivial⟩,.inl rfl,rfl⟩ rfl rfl rfl ?_
 refine callW put_fn 17 18 (dd 18) (put_any g ku _ (by rw[put_len];omega) 8 1 0 0 (-1)) ⟨rfl,.inl rfl,.inl rfl,rfl⟩ rfl rfl rfl ?_
 exact ⟨rfl,endWH (.tuple []) [.old 0,.old 19,.old 20] rfl rfl rfl (.inl rfl) rfl rfl rfl (by rw[e])⟩
theorem entry_any (u:Barb.Unit) (hl:u.funcs.length<=9223372036854775807) (k:Nat) (hk:k<=u.funcs.length):CT Try.prog [] 76 [.agg u.d,.g (.int (k:Int))] (Is (.g (.int (entryG u k)))):=by
 have lf:(u.funcs.map Fun.g).length=u.funcs.length:=List.length_map _
 have lt:(u.funcs.take k).length=k:=by rw[List.length_take];omega
 have e:entryG u k=openN (u.funcs.take k):=by unfold entryG;rw[Int.toNat_natCast]
 refine enter hT hF hM Try.func76 rfl 23 rfl (by kernel_rfl) [.tmp 4] rfl [.agg u.d,.g (.int (k:Int))] rfl _ ?_
 refine ⟨k,rfl,by omega,?_⟩
 refine loopR (ι:=Nat) (fun i=>[(13,.g (.int (i:Int))),(5,.g (.int (openN (u.funcs.take i))))]) (fun _=>[]) (fun i=>i<=k) (fun i=>k - i)
  ⟨0,[],⟨rfl,.inl rfl,.inr ⟨lk rfl,lkI (by simp[openN]),trivial⟩,rfl⟩,Nat.zero_le _⟩ ?_
 intro Rd hRd i hi
 refine ⟨fun h0=>?_,fun h0=>?_⟩
 ·have h1:i < k:=by rw[List.length_take,lf] at h0;omega
  have h2:i < u.funcs.length:=by omega
  have ho:=openN_one u.funcs i h2
  have hb:=openN_le (u.funcs.take i)
  have hb2:(u.funcs.take i).length<=i:=by rw[List.length_take];omega
  have hg:((u.funcs.map Fun.g).take k)[i]?=some u.funcs[i].g:=by
   rw[List.getElem?_take,if_pos h1];exact gm h2
  cases hbo:u.funcs[i].isOpen with
  | true =>
   rw[hbo] at ho
   refine ⟨i,_,rfl,hg.trans (congrArg some (Fun.g_open hbo)),?_⟩
   refine ⟨_,I64.wrap (by unfold I64;omega),_,I64.wrap (by unfold I64;omega),?_⟩
   exact hRd _ _ _ ⟨i+1,[],⟨rfl,.inl rfl,.inr ⟨lk rfl,lkI ho.symm,trivial⟩,rfl⟩,h1,by omega⟩
  | false =>
   rw[hbo] at ho
   refine ⟨i,_,rfl,hg.trans (congrArg some (Fun.g_open hbo)),?_⟩
   refine ⟨_,I64.wrap (by unfold I64;omega),?_⟩
   exact hRd _ _ _ ⟨i+1,[],⟨rfl,.inl rfl,.inr ⟨lk rfl,lkI (by rw[ho];simp),trivial⟩,rfl⟩,h1,by omega⟩
 ·have h1:i=k:=by rw[List.length_take,lf] at h0;omega
  exact ⟨rfl,retI (by rw[e,h1])⟩
theorem two_of {α:Type} {l:List α} (h:l.length=2):∃ a b,l=[a,b]:=by
 match l,h with
 | [a,b],_=>exact ⟨a,b,rfl⟩
theorem element_fn:fnOk Try.prog 63=true:=by kernel_rfl
theorem genExpr_fn:fnOk Try.prog 41=true:=by kernel_rfl
theorem ask_fn:fnOk Try.prog 64=true:=by kernel_rfl
theorem exprG_eq (g:GC) (x:Barb.Expr) (w:GW):exprG g x w=lastG g x.k x.n x.of x.s x.args.length (exprsG g x.args w):=by
 obtain ⟨k,n,of,s,args⟩:=x
 rw[exprG];rfl
abbrev GRet (g:GC) (ku:Nat) (w:GW):Out->Prop:=fun out=>out=.ret (.tuple []) (WH g ku w)
abbrev ExprC (g:GC) (ku:Nat) (x:Barb.Expr):Prop:=∀ w:GW,Room (9*szE x) w->CTH Try.prog [] 41 1 (WH g ku w) [.ptr 0 0,.agg x.d] (GRet g ku (exprG g x w))
theorem ask_any {g:GC} {ku:Nat} (ok:GOk g ku) (hpl:g.p.length<=5) (hfl:∀ u∈g.p,u.funcs.length<=8) (x:Barb.Expr) (h4:x.args.length<=4) (hc:calledE g.p g.u x.of x.s x.args.length=0) (ih:∀ y∈x.args,ExprC g ku y) (w:GW) (hw:Room (9*szEs x.args+1) w) :
  CTH Try.prog [] 64 1 (WH g ku w) [.ptr 0 0,.agg x.d] (GRet g ku (callG g x.of x.s x.args.length (exprsG g x.args w))):=by
 suffices H:∀ w',callG g x.of x.s x.args.length (exprsG g x.args w)=w'->CTH Try.prog [] 64 1 (WH g ku w) [.ptr 0 0,.agg x.d] (GRet g ku w') from H _ rfl
 intro w' e
 have lx:(x.args.map Expr.g).length=x.args.length:=List.length_map _
 refine enterH [] hT hF hM Try.func64 rfl 88 rfl (by kernel_rfl) [] rfl [.ptr 0 0,.agg x.d] rfl (WH g ku w) [0] rfl rfl rfl 1 [] trivial _ ?_
 refine loopR (ι:=Nat) (fun i=>[(0,.ptr 0 0),(3,.ptr 3 0),(11,.g (.int (i:Int)))]) (fun i=>WH g ku (exprsG g (x.args.take i) w)++[.blk x.d 97]) (fun i=>i<=x.args.length) (fun i=>x.args.length - i)
  ⟨0,[.old 0,.old 1,.old 2,.old 3],⟨rfl,.inl (by rw[List.take_zero,exprsG];rfl),.inr ⟨lk rfl,lk rfl,lk rfl,trivial⟩,rfl⟩,Nat.zero_le _⟩ ?_
 intro Rd hRd i hi
 have hr:Room (9*(szEs x.args - szEs (x.args.take i))+1) (exprsG g (x.args.take i) w):=hw.step (.exprs g (x.args.take i) w) (by have:=szEs_take x.args i;omega)
 refine ⟨fun h0=>?_,fun h0=>?_⟩
 ·have h1:i < x.args.length:=by have:(i:Int) < ((x.args.map Expr.g).length:Nat):=h0;omega
  have hs1:=szEs_one x.args i h1
  have hs2:=szEs_take x.args (i+1)
  have hn:=exprsG_one g x.args i h1 w
  generalize exprsG g (x.args.take i) w=wi at hr hn hRd
  refine ⟨i,_,rfl,(gm h1).trans (congrArg some (Expr.g_eq _)),?_⟩
  refine callW genExpr_fn 1 2 [.dead,.dead,.blk x.d 97,.blk x.args[i].d 97] (ih x.args[i] (List.getElem_mem h1) wi (hr.step (.refl _) (by omega))) ⟨rfl,.inl rfl,.inl rfl,rfl⟩ rfl rfl rfl ?_
  refine ⟨_,I64.wrap (by unfold I64;omega),?_⟩
  exact hRd _ _ _ ⟨i+1,[.old 0,.old 5,.old 6,.old 3],⟨rfl,.inl (by rw[hn];rfl),.inr ⟨lk rfl,lk rfl,lkI (by push_cast;rfl),trivial⟩,rfl⟩,h1,by show x.args.length - (i+1) < x.args.length - i;omega⟩
 have hie:i=x.args.length:=by have:¬(i:Int) < ((x.args.map Expr.g).length:Nat):=h0;omega
 have htl:exprsG g (x.args.take i) w=exprsG g x.args w:=by rw[hie,List.take_length]
 have hr2:Room 1 (exprsG g (x.args.take i) w):=hr.step (.refl _) (by omega)
 rw[<- htl] at e
 clear hr htl
 generalize exprsG g (x.args.take i) w=wi at hr2 e hRd
 obtain ⟨hc1,hc2⟩:=hr2
 have lc:(wi.code.map Instr.g).length=wi.code.length:=List.length_map _
 have lk2:(wi.calls.map intG).length=wi.calls.length:=List.length_map _
 unfold callG at e
 refine ⟨fun ho=>?_,fun ho=>?_⟩
 ·have ho:x.of=[]:=ho
  rw[if_pos ho] at e
  obtain ⟨k,hk,hki,hkm,_⟩:=calledIn_ok (show Barb.calledIn g.u x.of x.s x.args.length=0 by unfold calledE at hc;rw[if_pos ho] at hc;exact hc)
  refine ⟨some 2000,rfl,?_⟩
  refine ⟨[[.int (wi.code.map Instr.g).length]],rfl,rfl,⟨rfl,trivial⟩,⟨_,rfl⟩,?_⟩
  refine ⟨⟨by simp[maxLen];omega,by simp;omega⟩,?_⟩
  have hcl:wi.calls.map intG++[[GV.int (wi.code.map Instr.g).length]]=(wi.calls++[wi.at_]).map intG:=by rw[List.map_append,lc];rfl
  refine ⟨some 9999,[17],rfl,?_⟩
  refine ⟨ku,_,rfl,(gm ok.hk).trans (congrArg (fun z=>some (Unit.g z)) ok.hu),?_⟩
  refine ⟨_,_,.inl rfl,NamesFunc_any g.u (by have:=hfl g.u (by rw[<- ok.hu];exact List.getElem_mem _);omega) x.s,rfl,?_⟩
  refine ⟨by rw[lx];unfold I64;omega,?_⟩
  refine callW put_fn 1 5 [.dead,.dead,.blk x.d 97,.row [[.int (wi.code.map Instr.g).length]] 3 1,.dead] (put_any g ku { wi with calls:=wi.calls++[wi.at_] } (by show wi.code.length<=_;omega) 11 (funIdx g.u x.s) (x.args.map Expr.g).length 0 (1 - (x.args.map Expr.g).length)) ⟨rfl,.inr ⟨⟨rfl,.inl rfl⟩,⟨rfl,rfl,rfl⟩,⟨hcl,rfl,rfl⟩,trivial⟩,.inl rfl,rfl⟩ rfl rfl rfl ?_
  exact ⟨rfl,endWH (.tuple []) [.old 0,.old 6,.old 7] rfl rfl rfl (.inl rfl) rfl rfl rfl (by rw[lx,e])⟩
 ·have ho:x.of≠[]:=ho
  rw[if_neg ho] at e
  obtain ⟨i2,hi2,hui,hc3⟩:=calledE_out hc ho
  obtain ⟨k,hk,hki,hkm,_⟩:=calledIn_ok hc3
  have hgd:g.p.getD (unitIdx g.p x.of).toNat ⟨[],[],[],[]⟩=g.p[i2]:=by rw[hui,Int.toNat_natCast];simp[hi2]
  rw[hgd,hki] at e
  refine ⟨none,rfl,?_⟩
  refine ⟨_,_,.inl rfl,NamesUnit_any g.p (by omega) x.of,rfl,?_⟩
  refine ⟨some 9999,[23],rfl,?_⟩
  have hux:=hfl g.p[i2] (List.getElem_mem _)
  refine ⟨i2,_,congrArg (fun z=>D.g (.int z)) hui,gm hi2,?_⟩
  refine ⟨i2,_,congrArg (fun z=>D.g (.int z)) hui,gm hi2,?_⟩
  refine ⟨_,_,.inl rfl,NamesFunc_any g.p[i2] (by omega) x.s,rfl,?_⟩
  have hen:=entry_any g.p[i2] (by omega) k (by omega)
  rw[<- hki] at hen
  refine ⟨_,_,.inl rfl,hen,rfl,?_⟩
  refine ⟨by rw[lx];unfold I64;omega,?_⟩
  refine callW put_fn 1 2 [.dead,.dead,.blk x.d 97] (put_any g ku wi (by omega) 12 (unitIdx g.p x.of) (entryG g.p[i2] (funIdx g.p[i2] x.s)) (x.args.map Expr.g).length (1 - (x.args.map Expr.g).length)) ⟨rfl,.inl rfl,.inl rfl,rfl⟩ rfl rfl rfl ?_
  exact ⟨rfl,endWH (.tuple []) [.old 0,.old 4,.old 5] rfl rfl rfl (.inl rfl) rfl rfl rfl (by rw[lx,hki,e])⟩
theorem genExpr_any {g:GC} {ku:Nat} (ok:GOk g ku) (hpl:g.p.length<=5) (hfl:∀ u∈g.p,u.funcs.length<=8) (hfp:g.f.params.length<=4):∀ (n:Nat) (x:Barb.Expr),exprE n x=0->exprS g.p g.u g.f x=0->ExprC g ku x:=by
 intro n
 induction n with
 | zero=>intro x hx;exact absurd hx (by unfold exprE;decide)
 | succ n ih =>
  intro x hx hs w hw
  obtain ⟨hk,h4,hok,_,hargs⟩:=exprE_inv hx
  obtain ⟨hs1,hsa⟩:=exprS_inv hs
  have iha:∀ y∈x.args,ExprC g ku y:=fun y hy=>ih y (hargs y hy) (hsa y hy)
  have hsz:szE x=1+szEs x.args:=by obtain ⟨k,n,of,s,args⟩:=x;rw[szE];rfl
  suffices H:∀ w',exprG g x w=w'->CTH Try.prog [] 41 1 (WH g ku w) [.ptr 0 0,.agg x.d] (GRet g ku w') from H _ rfl
  intro w' e
  rw[exprG_eq] at e
  obtain ⟨hw1,hw2⟩:=hw
  have lx:(x.args.map Expr.g).length=x.args.length:=List.length_map _
  have hvl:=ok.hv
  have hal:=ok.ha
  refine enterH [] hT hF hM Try.func41 rfl 77 rfl (by kernel_rfl) [] rfl [.ptr 0 0,.agg x.d] rfl (WH g ku w) [0] rfl rfl rfl 1 [] trivial _ ?_
  refine ⟨fun h1=>?_,fun h1=>?_⟩
  ·have h0:x.args=[]:=by rw[h1,exprOk_1] at hok;exact List.length_eq_zero_iff.1 hok.2.2
   rw[h0,exprsG] at e
   unfold lastG at e
   rw[if_pos h1] at e
   refine callW put_fn 1 2 [.dead,.dead,.blk x.d 97] (put_any g ku w (by omega) 1 x.n 0 0 1) ⟨rfl,.inl rfl,.inl rfl,rfl⟩ rfl rfl rfl ?_
   exact ⟨rfl,endWH (.tuple []) [.old 0,.old 4,.old 5] rfl rfl rfl (.inl rfl) rfl rfl rfl (by rw[e])⟩
  refine ⟨fun h2=>?_,fun h2=>?_⟩
  ·have h0:x.args=[]:=by rw[h2,exprOk_2] at hok;exact List.length_eq_zero_iff.1 hok.2.2.1
   rw[h0,exprsG] at e
   unfold lastG readG at e
   rw[if_neg h1,if_pos h2] at e
   refine ⟨none,rfl,?_⟩
   refine ⟨_,_,.inl rfl,strIdx_any g.f.params (by omega) x.s,rfl,?_⟩
   refine ⟨fun h=>?_,fun h=>?_⟩
   ·rw[if_pos (show 0<=parIdx g.f x.s from h)] at e
    refine callW put_fn 1 2 [.dead,.dead,.blk x.d 97] (put_any g ku w (by omega) 4 (parIdx g.f x.s) 0 0 1) ⟨rfl,.inl rfl,.inl rfl,rfl⟩ rfl rfl rfl ?_
    exact ⟨rfl,endWH (.tuple []) [.old 0,.old 4,.old 5] rfl rfl rfl (.inl rfl) rfl rfl rfl (by rw[e])⟩
   ·rw[if_neg (show ¬0<=parIdx g.f x.s from h)] at e
    refine callW address_fn 1 2 [.dead,.dead,.blk x.d 97] (address_any g ku ok.hk ok.hu w (by omega) (by omega) x.s) ⟨rfl,.inl rfl,.inl rfl,rfl⟩ rfl rfl rfl ?_
    refine callW put_fn 4 5 [.dead,.dead,.blk x.d 97,.dead,.dead] (put_any g ku w (by omega) 1 (addrG g x.s).1 0 0 1) ⟨rfl,.inl rfl,.inl rfl,rfl⟩ rfl rfl rfl ?_
    refine callW put_fn 6 7 [.dead,.dead,.blk x.d 97,.dead,.dead,.dead,.dead] (put_any g ku _ (by rw[put_len];omega) 6 0 0 0 0) ⟨rfl,.inl rfl,.inl rfl,rfl⟩ rfl rfl rfl ?_
    exact ⟨rfl,endWH (.tuple []) [.old 0,.old 8,.old 9] rfl rfl rfl (.inl rfl) rfl rfl rfl (by rw[e])⟩
  refine ⟨fun h3=>?_,fun h3=>?_⟩
  ·obtain ⟨a,ha⟩:∃ a,x.args=[a]:=by rw[h3,exprOk_3] at hok;exact List.length_eq_one_iff.1 hok.2.2.1
   have hl0:0 < x.args.length:=by rw[ha];simp
   have hga:x.args[0]=a:=by simp[ha]
   have hc:=iha a (by rw[ha];exact List.mem_singleton.2 rfl) w ⟨by rw[hsz,ha] at hw1;simp only[szEs] at hw1;omega,hw2⟩
   have gr:=(Grow.expr g a w).trans (.elem g x.s _)
   rw[ha,exprsG,exprsG] at e
   unfold lastG at e
   rw[if_neg h1,if_neg h2,if_pos h3] at e
   have hr:Room 9 (exprG g a w):=Room.step ⟨hw1,hw2⟩ (.expr g a w) (by rw[hsz,ha];simp only[szEs];omega)
   have hr2:=(hr.step (.elem g x.s _) (k:=1) (by omega)).code
   generalize exprG g a w=w1 at *
   refine ⟨0,_,rfl,(gm hl0).trans (congrArg some (Expr.g_eq _)),?_⟩
   rw[<- hga] at hc
   refine callW genExpr_fn 1 2 [.dead,.dead,.blk x.d 97] hc ⟨rfl,.inl rfl,.inl rfl,rfl⟩ rfl rfl rfl ?_
   refine callW element_fn 4 5 [.dead,.dead,.blk x.d 97,.dead,.dead] (element_any ok w1 (hr.step (.refl _) (by omega)) x.s) ⟨rfl,.inl rfl,.inl rfl,rfl⟩ rfl rfl rfl ?_
   refine callW put_fn 6 7 [.dead,.dead,.blk x.d 97,.dead,.dead,.dead,.dead] (put_any g ku _ (by omega) 6 0 0 0 0) ⟨rfl,.inl rfl,.inl rfl,rfl⟩ rfl rfl rfl ?_
   exact ⟨rfl,endWH (.tuple []) [.old 0,.old 8,.old 9] rfl rfl rfl (.inl rfl) rfl rfl rfl (by rw[e])⟩
  refine ⟨fun h5=>?_,fun h5=>?_⟩
  ·unfold lastG at e
   rw[if_neg h1,if_neg h2,if_neg h3,if_pos h5] at e
   refine callW ask_fn 1 2 [.dead,.dead,.blk x.d 97] (ask_any ok hpl hfl x h4 (by rw[exprS1_4 h5] at hs1;exact hs1) iha w ⟨by rw[hsz] at hw1;omega,hw2⟩) ⟨rfl,.inl rfl,.inl rfl,rfl⟩ rfl rfl rfl ?_
   exact ⟨rfl,endWH (.tuple []) [.old 0,.old 4,.old 5] rfl rfl rfl (.inl rfl) rfl rfl rfl (by rw[e])⟩
  ·have hk5:x.k=5:=by omega
   obtain ⟨a,b,hab⟩:∃ a b,x.args=[a,b]:=by rw[hk5,exprOk_5] at hok;exact two_of hok.2.2
   have hl0:0 < x.args.length:=by rw[hab];simp
   have hl1:1 < x.args.length:=by rw[hab];simp
   have hga:x.args[0]=a:=by simp[hab]
   have hgb:x.args[1]=b:=by simp[hab]
   have hca:=iha a (by rw[hab];simp) w ⟨by rw[hsz,hab] at hw1;simp only[szEs] at hw1;omega,hw2⟩
   have hr:Room (9*szE b+9) (exprG g a w):=Room.step ⟨hw1,hw2⟩ (.expr g a w) (by rw[hsz,hab];simp only[szEs];omega)
   have hcb:=iha b (by rw[hab];simp) (exprG g a w) (hr.step (.refl _) (by omega))
   have hr2:=(hr.step (.expr g b _) (k:=1) (by omega)).code
   rw[hab,exprsG,exprsG,exprsG] at e
   unfold lastG at e
   rw[if_neg h1,if_neg h2,if_neg h3,if_neg h5] at e
   generalize exprG g a w=w1 at *
   generalize exprG g b w1=w2 at *
   rw[<- hga] at hca
   rw[<- hgb] at hcb
   refine ⟨0,_,rfl,(gm hl0).trans (congrArg some (Expr.g_eq _)),?_⟩
   refine callW genExpr_fn 1 2 [.dead,.dead,.blk x.d 97] hca ⟨rfl,.inl rfl,.inl rfl,rfl⟩ rfl rfl rfl ?_
   refine ⟨1,_,rfl,(gm hl1).trans (congrArg some (Expr.g_eq _)),?_⟩
   refine callW genExpr_fn 4 5 [.dead,.dead,.blk x.d 97,.dead,.dead] hcb ⟨rfl,.inl rfl,.inl rfl,rfl⟩ rfl rfl rfl ?_
   refine callW put_fn 6 7 [.dead,.dead,.blk x.d 97,.dead,.dead,.dead,.dead] (put_any g ku _ (by omega) 8 x.n 0 0 (-1)) ⟨rfl,.inl rfl,.inl rfl,rfl⟩ rfl rfl rfl ?_
   exact ⟨rfl,endWH (.tuple []) [.old 0,.old 8,.old 9] rfl rfl rfl (.inl rfl) rfl rfl rfl (by rw[e])⟩
end Go.Proofs.Ythcmdjkaepclhaa
namespace Barb
open Go Go.Dm Go.Eng
theorem stmtG_eq (g:GC) (x:Stmt) (w:GW):stmtG g x w =
  if x.k=1 then setG g x.s (x.xs.getD 0 noX) w
  else if x.k=2 then put2G g x.s (x.xs.getD 0 noX) (x.xs.getD 1 noX) w
  else if x.k=3\/x.k=4 then
   let w1:=exprG g (x.xs.getD 0 noX) w
   let w2:=stmtsG g x.b (w1.put 10 0 0 0 (-1))
   let w3:=(w2.put 9 (if x.k=4 then w.at_ else 0) 0 0 0)
   let w4:=w3.setA w1.code.length w3.at_
   if x.k=3 then
    let w5:=stmtsG g x.e w4
    w5.setA w2.code.length w5.at_
   else w4
  else if x.k=5 then (exprG g (x.xs.getD 0 noX) w).put 13 0 0 0 (-1)
  else (exprG g (x.xs.getD 0 noX) w).put 14 0 0 0 (-1):=by
 obtain ⟨k,s,xs,b,e⟩:=x
 rw[stmtG];rfl
theorem szS_eq (x:Stmt):szS x=40+9*szEs x.xs+szSs x.b+szSs x.e:=by
 obtain ⟨k,s,xs,b,e⟩:=x
 rw[szS];rfl
theorem stmtsG_append (g:GC):∀ (a b:List Stmt) (w:GW),stmtsG g (a++b) w=stmtsG g b (stmtsG g a w)
 | [],_,_=>by rw[stmtsG];rfl
 | x :: a,b,w=>by
  rw[List.cons_append,stmtsG,stmtsG]
  exact stmtsG_append g a b _
theorem stmtsG_one (g:GC) (l:List Stmt) (j:Nat) (hj:j < l.length) (w:GW):stmtsG g (l.take (j+1)) w=stmtG g l[j] (stmtsG g (l.take j) w):=by
 rw[take_one hj,stmtsG_append,stmtsG,stmtsG]
theorem szSs_append:∀ (a b:List Stmt),szSs (a++b)=szSs a+szSs b
 | [],b=>by simp[szSs]
 | x :: a,b=>by rw[List.cons_append,szSs,szSs,szSs_append a b];omega
theorem szSs_one (l:List Stmt) (j:Nat) (hj:j < l.length):szSs (l.take (j+1))=szSs (l.take j)+szS l[j]:=by
 rw[take_one hj,szSs_append,szSs,szSs];omega
theorem szSs_take (l:List Stmt) (j:Nat):szSs (l.take j)<=szSs l:=by
 conv=>rhs;rw[<- List.take_append_drop j l,szSs_append]
 omega
end Barb
namespace Go.Proofs.Ythcmdjkaepclhaa
open Go Go.Dm Go.Eng Go.RowKit Barb
theorem set_fn:fnOk Try.prog 38=true:=by kernel_rfl
theorem put2_fn:fnOk Try.prog 39=true:=by kernel_rfl
theorem branch_fn:fnOk Try.prog 40=true:=by kernel_rfl
theorem genStmts_fn:fnOk Try.prog 19=true:=by kernel_rfl
theorem setA_row2 {w:GW} {k:Nat} (hk:k < w.code.length) (a z:Int) (hz:z=a):(w.code.map Instr.g).set k (setL w.code[k].g (0+1) [.int z])=(w.setA k a).code.map Instr.g:=by
 subst hz;exact setA_row hk z
theorem set_any {g:GC} {ku:Nat} (ok:GOk g ku) (hfp:g.f.params.length<=4) (s:Barb.Stmt) (h1:s.xs.length=1) (hE:∀ x∈s.xs,ExprC g ku x) (w:GW) (hw:Room (2+9*szE (s.xs.getD 0 noX)) w) :
  CTH Try.prog [] 38 1 (WH g ku w) [.ptr 0 0,.agg s.d] (GRet g ku (setG g s.s (s.xs.getD 0 noX) w)):=by
 obtain ⟨x,hx⟩:=List.length_eq_one_iff.1 h1
 have hl0:0 < s.xs.length:=by omega
 have hgx:s.xs[0]=x:=by simp[hx]
 have hcx:=hE x (by rw[hx];simp)
 rw[show s.xs.getD 0 noX=x by simp[hx]] at hw ⊢
 suffices H:∀ w',setG g s.s x w=w'->CTH Try.prog [] 38 1 (WH g ku w) [.ptr 0 0,.agg s.d] (GRet g ku w') from H _ rfl
 intro w' e
 unfold setG at e
 have hvl:=ok.hv
 have hal:=ok.ha
 have hw1:=hw.code
 refine enterH [] hT hF hM Try.func38 rfl 44 rfl (by kernel_rfl) [] rfl [.ptr 0 0,.agg s.d] rfl (WH g ku w) [0] rfl rfl rfl 1 [] trivial _ ?_
 refine ⟨none,rfl,?_⟩
 refine ⟨_,_,.inl rfl,strIdx_any g.f.params (by omega) s.s,rfl,?_⟩
 refine ⟨fun h=>?_,fun h=>?_⟩
 ·rw[if_pos (show 0<=parIdx g.f s.s from h)] at e
  have hc:=hcx w (hw.step (.refl _) (by omega))
  have hr:=(hw.step (.expr g x w) (k:=1) (by omega)).code
  generalize exprG g x w=w1 at *
  rw[<- hgx] at hc
  refine ⟨0,_,rfl,(gm hl0).trans (congrArg some (Expr.g_eq _)),?_⟩
  refine callW genExpr_fn 1 2 [.dead,.dead,.blk s.d 93] hc ⟨rfl,.inl rfl,.inl rfl,rfl⟩ rfl rfl rfl ?_
  refine callW put_fn 4 5 [.dead,.dead,.blk s.d 93,.dead,.dead] (put_any g ku w1 (by omega) 5 (parIdx g.f s.s) 0 0 (-1)) ⟨rfl,.inl rfl,.inl rfl,rfl⟩ rfl rfl rfl ?_
  exact ⟨rfl,endWH (.tuple []) [.old 0,.old 6,.old 7] rfl rfl rfl (.inl rfl) rfl rfl rfl (by rw[e])⟩
 ·rw[if_neg (show ¬0<=parIdx g.f s.s from h)] at e
  have hr1:=hw.step (.put w 1 (addrG g s.s).1 0 0 1) (k:=1+9*szE x) (by omega)
  have hc:=hcx _ (hr1.step (.refl _) (by omega))
  have hr:=(hr1.step (.expr g x _) (k:=1) (by omega)).code
  generalize exprG g x (w.put 1 (addrG g s.s).1 0 0 1)=w2 at *
  rw[<- hgx] at hc
  refine callW address_fn 1 2 [.dead,.dead,.blk s.d 93] (address_any g ku ok.hk ok.hu w (by omega) (by omega) s.s) ⟨rfl,.inl rfl,.inl rfl,rfl⟩ rfl rfl rfl ?_
  refine callW put_fn 4 5 [.dead,.dead,.blk s.d 93,.dead,.dead] (put_any g ku w (by omega) 1 (addrG g s.s).1 0 0 1) ⟨rfl,.inl rfl,.inl rfl,rfl⟩ rfl rfl rfl ?_
  refine ⟨0,_,rfl,(gm hl0).trans (congrArg some (Expr.g_eq _)),?_⟩
  refine callW genExpr_fn 6 7 [.dead,.dead,.blk s.d 93,.dead,.dead,.dead,.dead] hc ⟨rfl,.inl rfl,.inl rfl,rfl⟩ rfl rfl rfl ?_
  refine callW put_fn 8 9 [.dead,.dead,.blk s.d 93,.dead,.dead,.dead,.dead,.dead,.dead] (put_any g ku w2 (by omega) 7 0 0 0 (-2)) ⟨rfl,.inl rfl,.inl rfl,rfl⟩ rfl rfl rfl ?_
  exact ⟨rfl,endWH (.tuple []) [.old 0,.old 10,.old 11] rfl rfl rfl (.inl rfl) rfl rfl rfl (by rw[e])⟩
theorem put2_any {g:GC} {ku:Nat} (ok:GOk g ku) (s:Barb.Stmt) (h2:s.xs.length=2) (hE:∀ x∈s.xs,ExprC g ku x) (w:GW) (hw:Room (11+9*szE (s.xs.getD 0 noX)+9*szE (s.xs.getD 1 noX)) w) :
  CTH Try.prog [] 39 1 (WH g ku w) [.ptr 0 0,.agg s.d] (GRet g ku (put2G g s.s (s.xs.getD 0 noX) (s.xs.getD 1 noX) w)):=by
 obtain ⟨x,y,hx⟩:=two_of h2
 have hl0:0 < s.xs.length:=by omega
 have hl1:1 < s.xs.length:=by omega
 have hgx:s.xs[0]=x:=by simp[hx]
 have hgy:s.xs[1]=y:=by simp[hx]
 have hcx:=hE x (by rw[hx];simp)
 have hcy:=hE y (by rw[hx];simp)
 rw[show s.xs.getD 0 noX=x by simp[hx],show s.xs.getD 1 noX=y by simp[hx]] at hw ⊢
 suffices H:∀ w',put2G g s.s x y w=w'->CTH Try.prog [] 39 1 (WH g ku w) [.ptr 0 0,.agg s.d] (GRet g ku w') from H _ rfl
 intro w' e
 unfold put2G at e
 have hvl:=ok.hv
 have hal:=ok.ha
 have lp:(g.f.params.map strG).length=g.f.params.length:=List.length_map _
 have hc1:=hcx w (hw.step (.refl _) (by omega))
 have hr1:=hw.step (.expr g x w) (k:=11+9*szE y) (by omega)
 have hc2:=hcy _ (hr1.step (.refl _) (by omega))
 have hr2:=hr1.step (.expr g y _) (k:=11) (by omega)
 generalize exprG g x w=w1 at *
 generalize exprG g y w1=w2 at *
 rw[<- hgx] at hc1
 rw[<- hgy] at hc2
 have hr3:=hr2.step (.put w2 5 g.f.params.length 0 0 (-1)) (k:=10) (by omega)
 have hce:=element_any ok (w2.put 5 g.f.params.length 0 0 (-1)) (hr3.step (.refl _) (by omega)) s.s
 have hr4:=(hr3.step (.elem g s.s _) (k:=2) (by omega)).code
 have hc5:=hr2.code
 generalize hw3:elemG g s.s (w2.put 5 g.f.params.length 0 0 (-1))=w3 at *
 refine enterH [] hT hF hM Try.func39 rfl 35 rfl (by kernel_rfl) [] rfl [.ptr 0 0,.agg s.d] rfl (WH g ku w) [0] rfl rfl rfl 1 [] trivial _ ?_
 refine ⟨0,_,rfl,(gm hl0).trans (congrArg some (Expr.g_eq _)),?_⟩
 refine callW genExpr_fn 1 2 [.dead,.dead,.blk s.d 93] hc1 ⟨rfl,.inl rfl,.inl rfl,rfl⟩ rfl rfl rfl ?_
 refine ⟨1,_,rfl,(gm hl1).trans (congrArg some (Expr.g_eq _)),?_⟩
 refine callW genExpr_fn 4 5 [.dead,.dead,.blk s.d 93,.dead,.dead] hc2 ⟨rfl,.inl rfl,.inl rfl,rfl⟩ rfl rfl rfl ?_
 refine callW put_fn 6 7 [.dead,.dead,.blk s.d 93,.dead,.dead,.dead,.dead] (put_any g ku w2 (by omega) 5 (g.f.params.map strG).length 0 0 (-1)) ⟨rfl,.inl rfl,.inl rfl,rfl⟩ rfl rfl rfl ?_
 rw[<- lp] at hce hw3
 refine callW element_fn 8 9 [.dead,.dead,.blk s.d 93,.dead,.dead,.dead,.dead,.dead,.dead] hce ⟨rfl,.inl rfl,.inl rfl,rfl⟩ rfl rfl rfl ?_
 refine callW put_fn 10 11 [.dead,.dead,.blk s.d 93,.dead,.dead,.dead,.dead,.dead,.dead,.dead,.dead] (put_any g ku w3 (by omega) 4 (g.f.params.map strG).length 0 0 1) ⟨rfl,.inl rfl,.inl rfl,rfl⟩ rfl rfl rfl ?_
 refine callW put_fn 12 13 [.dead,.dead,.blk s.d 93,.dead,.dead,.dead,.dead,.dead,.dead,.dead,.dead,.dead,.dead] (put_any g ku _ (by rw[put_len];omega) 7 0 0 0 (-2)) ⟨rfl,.inl rfl,.inl rfl,rfl⟩ rfl rfl rfl ?_
 exact ⟨rfl,endWH (.tuple []) [.old 0,.old 14,.old 15] rfl rfl rfl (.inl rfl) rfl rfl rfl (by rw[lp,e])⟩
abbrev StmtsC (g:GC) (ku:Nat) (l:List Barb.Stmt):Prop:=∀ w:GW,Room (szSs l) w->CTH Try.prog [] 19 1 (WH g ku w) [.ptr 0 0,.g (.sl 5 (l.map Stmt.g))] (GRet g ku (Barb.stmtsG g l w))
set_option maxRecDepth 20000 in
set_option maxHeartbeats 2000000 in
theorem branch_any {g:GC} {ku:Nat} (s:Barb.Stmt) (h1:s.xs.length=1) (hk:s.k=3\/s.k=4) (hE:∀ x∈s.xs,ExprC g ku x) (hb:StmtsC g ku s.b) (he:StmtsC g ku s.e) (w:GW) (hw:Room (szS s) w) :
  CTH Try.prog [] 40 1 (WH g ku w) [.ptr 0 0,.agg s.d] (GRet g ku (stmtG g s w)):=by
 obtain ⟨x,hx⟩:=List.length_eq_one_iff.1 h1
 have hl0:0 < s.xs.length:=by omega
 have hgx:s.xs[0]=x:=by simp[hx]
 have hcx:=hE x (by rw[hx];simp)
 have hsz:=szS_eq s
 have hn1:¬s.k=1:=by omega
 have hn2:¬s.k=2:=by omega
 have hszx:szEs s.xs=szE x:=by rw[hx];simp[szEs]
 rw[hszx] at hsz
 suffices H:∀ w',stmtG g s w=w'->CTH Try.prog [] 40 1 (WH g ku w) [.ptr 0 0,.agg s.d] (GRet g ku w') from H _ rfl
 intro w' e
 rw[stmtG_eq,if_neg hn1,if_neg hn2,if_pos hk,show s.xs.getD 0 noX=x by simp[hx]] at e
 dsimp only at e
 have hc1:=hcx w (hw.step (.refl _) (by omega))
 have hr1:=hw.step (.expr g x w) (k:=10+szSs s.b+szSs s.e) (by omega)
 generalize exprG g x w=w1 at *
 rw[<- hgx] at hc1
 have hr2:=hr1.step (.put w1 10 0 0 0 (-1)) (k:=9+szSs s.b+szSs s.e) (by omega)
 have hc2:=hb _ (hr2.step (.refl _) (by omega))
 have hg2:=Grow.stmts g s.b (w1.put 10 0 0 0 (-1))
 have hr3:=hr2.step hg2 (k:=9+szSs s.e) (by omega)
 have hlo:=hg2.lo
 generalize Barb.stmtsG g s.b (w1.put 10 0 0 0 (-1))=w2 at *
 have hr1c:=hr1.code
 have hr3c:=hr3.code
 rw[put_len] at hlo
 have m0:((w.code.map Instr.g).length:Int)=w.at_:=by rw[List.length_map];rfl
 have m1:((w1.code.map Instr.g).length:Int)=(w1.code.length:Int):=by rw[List.length_map]
 have m2:((w2.code.map Instr.g).length:Int)=(w2.code.length:Int):=by rw[List.length_map]
 refine enterH [] hT hF hM Try.func40 rfl 73 rfl (by kernel_rfl) [] rfl [.ptr 0 0,.agg s.d] rfl (WH g ku w) [0] rfl rfl rfl 1 [] trivial _ ?_
 refine ⟨0,_,rfl,(gm hl0).trans (congrArg some (Expr.g_eq _)),?_⟩
 refine callW genExpr_fn 1 2 [.dead,.dead,.blk s.d 93] hc1 ⟨rfl,.inl rfl,.inl rfl,rfl⟩ rfl rfl rfl ?_
 refine callW put_fn 4 5 [.dead,.dead,.blk s.d 93,.dead,.dead] (put_any g ku w1 (by omega) 10 0 0 0 (-1)) ⟨rfl,.inl rfl,.inl rfl,rfl⟩ rfl rfl rfl ?_
 refine callW genStmts_fn 6 7 [.dead,.dead,.blk s.d 93,.dead,.dead,.dead,.dead] hc2 ⟨rfl,.inl rfl,.inl rfl,rfl⟩ rfl rfl rfl ?_
 refine ⟨fun h4=>?_,fun h4=>?_⟩
 ·rw[if_pos h4,if_neg (by omega),<- m0] at e
  have hk:w1.code.length < (w2.put 9 (w.code.map Instr.g).length 0 0 0).code.length:=by rw[put_len];omega
  refine callW put_fn 8 9 [.dead,.dead,.blk s.d 93,.dead,.dead,.dead,.dead,.dead,.dead] (put_any g ku w2 (by omega) 9 (w.code.map Instr.g).length 0 0 0) ⟨rfl,.inl rfl,.inl rfl,rfl⟩ rfl rfl rfl ?_
  generalize w2.put 9 (w.code.map Instr.g).length 0 0 0=w3 at *
  have m3:((w3.code.map Instr.g).length:Int)=w3.at_:=by rw[List.length_map];rfl
  refine ⟨none,rfl,?_⟩
  refine ⟨w1.code.length,congrArg (fun z=>D.g (.int z)) m1,(by rw[List.length_map];exact hk),?_⟩
  refine ⟨_,[.int (w3.code.map Instr.g).length],gm hk,⟨rfl,trivial⟩,Nat.le_of_ble_eq_true rfl,(fun h=>by cases h),?_⟩
  refine ⟨fun h3=>absurd h3 (by omega),fun _=>?_⟩
  exact ⟨rfl,endWH (w:=w3.setA w1.code.length w3.at_) (.tuple []) [.old 0,.old 10,.old 11] rfl rfl rfl (.inl rfl) rfl (setA_row2 hk _ _ m3) rfl (by rw[e])⟩
 ·have h3:s.k=3:=by omega
  rw[if_neg h4,if_pos h3] at e
  have hk:w1.code.length < (w2.put 9 0 0 0 0).code.length:=by rw[put_len];omega
  have hr4:=hr3.step (.put w2 9 0 0 0 0) (k:=8+szSs s.e) (by omega)
  have hlo4:=put_len w2 9 0 0 0 0
  refine callW put_fn 8 9 [.dead,.dead,.blk s.d 93,.dead,.dead,.dead,.dead,.dead,.dead] (put_any g ku w2 (by omega) 9 0 0 0 0) ⟨rfl,.inl rfl,.inl rfl,rfl⟩ rfl rfl rfl ?_
  generalize w2.put 9 0 0 0 0=w3 at *
  have m3:((w3.code.map Instr.g).length:Int)=w3.at_:=by rw[List.length_map];rfl
  refine ⟨none,rfl,?_⟩
  refine ⟨w1.code.length,congrArg (fun z=>D.g (.int z)) m1,(by rw[List.length_map];exact hk),?_⟩
  refine ⟨_,[.int (w3.code.map Instr.g).length],gm hk,⟨rfl,trivial⟩,Nat.le_of_ble_eq_true rfl,(fun h=>by cases h),?_⟩
  refine ⟨fun _=>?_,fun h=>absurd h3 h⟩
  have hset:=setA_row2 hk _ _ m3
  have hl4:=setA_len w3 w1.code.length w3.at_
  have hr5:=hr4.step (.setA w3 w1.code.length w3.at_) (k:=8+szSs s.e) (by omega)
  have hc5:=he (w3.setA w1.code.length w3.at_) (hr5.step (.refl _) (by omega))
  have hg5:=(Grow.stmts g s.e (w3.setA w1.code.length w3.at_)).lo
  generalize Barb.stmtsG g s.e (w3.setA w1.code.length w3.at_)=w5 at *
  refine callW genStmts_fn 10 11 [.dead,.dead,.blk s.d 93,.dead,.dead,.dead,.dead,.dead,.dead,.dead,.dead] hc5 ⟨rfl,.inr ⟨⟨rfl,.inl rfl⟩,⟨hset,rfl,rfl⟩,⟨rfl,rfl,rfl⟩,trivial⟩,.inl rfl,rfl⟩ rfl rfl rfl ?_
  have hk5:w2.code.length < w5.code.length:=by omega
  have m5:((w5.code.map Instr.g).length:Int)=w5.at_:=by rw[List.length_map];rfl
  refine ⟨none,rfl,?_⟩
  refine ⟨w2.code.length,congrArg (fun z=>D.g (.int z)) m2,(by rw[List.length_map];exact hk5),?_⟩
  refine ⟨_,[.int (w5.code.map Instr.g).length],gm hk5,⟨rfl,trivial⟩,Nat.le_of_ble_eq_true rfl,(fun h=>by cases h),?_⟩
  exact ⟨rfl,endWH (w:=w5.setA w2.code.length w5.at_) (.tuple []) [.old 0,.old 12,.old 13] rfl rfl rfl (.inl rfl) rfl (setA_row2 hk5 _ _ m5) rfl (by rw[e])⟩
theorem genStmts_any {g:GC} {ku:Nat} (ok:GOk g ku) (hpl:g.p.length<=5) (hfl:∀ u∈g.p,u.funcs.length<=8) (hfp:g.f.params.length<=4):∀ (n:Nat) (l:List Barb.Stmt),stmtsE n l=0->stmtsS g.p g.u g.f l=0->l.length*96<=140737488351232->(∀ s∈l,Barb.Stmt.I s)->StmtsC g ku l:=by
 intro n
 induction n with
 | zero=>intro l hl;exact absurd hl (by unfold stmtsE;decide)
 | succ n ih =>
  intro l hE hS hlen hI w hw
  have ll:(l.map Stmt.g).length=l.length:=List.length_map _
  rw[stmtsE] at hE
  rw[stmtsS_first] at hS
  refine enterH [] hT hF hM Try.func19 rfl 49 rfl (by kernel_rfl) [] rfl [.ptr 0 0,.g (.sl 5 (l.map Stmt.g))] rfl (WH g ku w) [0] rfl rfl rfl 1 [] trivial _ ?_
  refine loopR (ι:=Nat) (fun i=>[(0,.ptr 0 0),(8,.g (.int (i:Int)))]) (fun i=>WH g ku (Barb.stmtsG g (l.take i) w)) (fun i=>i<=l.length) (fun i=>l.length - i)
   ⟨0,[.old 0,.old 1,.old 2],⟨rfl,.inl (by rw[List.take_zero,Barb.stmtsG];rfl),.inr ⟨lk rfl,lk rfl,trivial⟩,rfl⟩,Nat.zero_le _⟩ ?_
  intro Rd hRd i hi
  have hr:Room (szSs l - szSs (l.take i)) (Barb.stmtsG g (l.take i) w):=hw.step (.stmts g (l.take i) w) (by have:=szSs_take l i;omega)
  refine ⟨fun h0=>?_,fun h0=>?_⟩
  ·have h1:i < l.length:=by have:(i:Int) < ((l.map Stmt.g).length:Nat):=h0;omega
   have hs1:=szSs_one l i h1
   have hs2:=szSs_take l (i+1)
   have hn:=stmtsG_one g l i h1 w
   have hmem:l[i]∈l:=List.getElem_mem h1
   generalize Barb.stmtsG g (l.take i) w=wi at hr hn hRd
   obtain ⟨hk,hok,hxE,hbE,heE⟩:=stmtE_inv (firstE_all hE _ hmem)
   obtain ⟨hnm,hxS,hbS,heS⟩:=stmtS_inv (firstE_all hS _ hmem)
   obtain ⟨_,_,_,hbl,hel,_,hbI,heI⟩:=(hI _ hmem).inv
   have hrs:Room (szS l[i]) wi:=hr.step (.refl _) (by omega)
   have hsz:=szS_eq l[i]
   have hg0:=stmtG_eq g l[i] wi
   have hz0:=szEs_get l[i].xs 0
   have hz2:=szEs_two l[i].xs
   have hX:∀ x∈l[i].xs,ExprC g ku x:=fun x hx=>genExpr_any ok hpl hfl hfp 12 x (hxE x hx) (hxS x hx)
   have hB:StmtsC g ku l[i].b:=ih l[i].b hbE hbS hbl hbI
   have hEl:StmtsC g ku l[i].e:=ih l[i].e heE heS hel heI
   have next:∀ (w':GW) (env:Dm.Env) (h:Heap),w'=stmtG g l[i] wi->WH g ku (Barb.stmtsG g (l.take (i+1)) w)=WH g ku w':=fun w' _ _ hw'=>by rw[hn,hw']
   unfold stmtOk at hok
   generalize hy:l[i]=y at *
   refine ⟨i,_,rfl,(gm h1).trans (congrArg some ((congrArg Stmt.g hy).trans (Stmt.g_eq _))),?_⟩
   refine ⟨fun k1=>?_,fun k1=>?_⟩
   ·rw[if_pos k1] at hg0
    refine callW set_fn 1 2 [.dead,.dead,.blk y.d 93] (set_any ok hfp y (by omega) hX wi (hrs.step (.refl _) (by omega))) ⟨rfl,.inl rfl,.inl rfl,rfl⟩ rfl rfl rfl ?_
    refine ⟨_,I64.wrap (by unfold I64;omega),?_⟩
    exact hRd _ _ _ ⟨i+1,[.old 0,.old 4,.old 5],⟨rfl,.inl (by rw[hn,hg0];rfl),.inr ⟨lk rfl,lkI (by push_cast;rfl),trivial⟩,rfl⟩,h1,by show l.length - (i+1) < l.length - i;omega⟩
   rw[if_neg k1] at hg0
   refine ⟨fun k2=>?_,fun k2=>?_⟩
   ·rw[if_pos k2] at hg0
    refine callW put2_fn 1 2 [.dead,.dead,.blk y.d 93] (put2_any ok y (by omega) hX wi (hrs.step (.refl _) (by omega))) ⟨rfl,.inl rfl,.inl rfl,rfl⟩ rfl rfl rfl ?_
    refine ⟨_,I64.wrap (by unfold I64;omega),?_⟩
    exact hRd _ _ _ ⟨i+1,[.old 0,.old 4,.old 5],⟨rfl,.inl (by rw[hn,hg0];rfl),.inr ⟨lk rfl,lkI (by push_cast;rfl),trivial⟩,rfl⟩,h1,by show l.length - (i+1) < l.length - i;omega⟩
   rw[if_neg k2] at hg0
   refine ⟨fun k3=>?_,fun k3=>?_⟩
   ·clear hg0
    refine ⟨fun _=>?_,fun h=>absurd k3 h⟩
    refine callW branch_fn 1 2 [.dead,.dead,.blk y.d 93] (branch_any y (by omega) (by omega) hX hB hEl wi hrs) ⟨rfl,.inl rfl,.inl rfl,rfl⟩ rfl rfl rfl ?_
    refine ⟨_,I64.wrap (by unfold I64;omega),?_⟩
    exact hRd _ _ _ ⟨i+1,[.old 0,.old 4,.old 5],⟨rfl,.inl (by rw[hn];rfl),.inr ⟨lk rfl,lkI (by push_cast;rfl),trivial⟩,rfl⟩,h1,by show l.length - (i+1) < l.length - i;omega⟩
   refine ⟨fun k4=>?_,fun k4=>?_⟩
   ·clear hg0
    refine callW branch_fn 1 2 [.dead,.dead,.blk y.d 93] (branch_any y (by omega) (by omega) hX hB hEl wi hrs) ⟨rfl,.inl rfl,.inl rfl,rfl⟩ rfl rfl rfl ?_
    refine ⟨_,I64.wrap (by unfold I64;omega),?_⟩
    exact hRd _ _ _ ⟨i+1,[.old 0,.old 4,.old 5],⟨rfl,.inl (by rw[hn];rfl),.inr ⟨lk rfl,lkI (by push_cast;rfl),trivial⟩,rfl⟩,h1,by show l.length - (i+1) < l.length - i;omega⟩
   obtain ⟨x,hx⟩:=List.length_eq_one_iff.1 (show y.xs.length=1 by omega)
   have hl0:0 < y.xs.length:=by omega
   have hgx:y.xs[0]=x:=by simp[hx]
   rw[if_neg (by omega),show y.xs.getD 0 noX=x by simp[hx]] at hg0
   have hszx:szEs y.xs=szE x:=by rw[hx];simp[szEs]
   have hc1:=hX x (by rw[hx];simp) wi (hrs.step (.refl _) (by omega))
   have hr1:=(hrs.step (.expr g x wi) (k:=1) (by omega)).code
   generalize exprG g x wi=w1 at *
   rw[<- hgx] at hc1
   refine ⟨fun k5=>?_,fun k5=>?_⟩
   ·rw[if_pos k5] at hg0
    refine ⟨0,_,rfl,(gm hl0).trans (congrArg some (Expr.g_eq _)),?_⟩
    refine callW genExpr_fn 1 2 [.dead,.dead,.blk y.d 93] hc1 ⟨rfl,.inl rfl,.inl rfl,rfl⟩ rfl rfl rfl ?_
    refine callW put_fn 4 5 [.dead,.dead,.blk y.d 93,.dead,.dead] (put_any g ku w1 (by omega) 13 0 0 0 (-1)) ⟨rfl,.inl rfl,.inl rfl,rfl⟩ rfl rfl rfl ?_
    refine ⟨_,I64.wrap (by unfold I64;omega),?_⟩
    exact hRd _ _ _ ⟨i+1,[.old 0,.old 6,.old 7],⟨rfl,.inl (by rw[hn,hg0];rfl),.inr ⟨lk rfl,lkI (by push_cast;rfl),trivial⟩,rfl⟩,h1,by show l.length - (i+1) < l.length - i;omega⟩
   ·rw[if_neg k5] at hg0
    refine ⟨0,_,rfl,(gm hl0).trans (congrArg some (Expr.g_eq _)),?_⟩
    refine callW genExpr_fn 1 2 [.dead,.dead,.blk y.d 93] hc1 ⟨rfl,.inl rfl,.inl rfl,rfl⟩ rfl rfl rfl ?_
    refine callW put_fn 4 5 [.dead,.dead,.blk y.d 93,.dead,.dead] (put_any g ku w1 (by omega) 14 0 0 0 (-1)) ⟨rfl,.inl rfl,.inl rfl,rfl⟩ rfl rfl rfl ?_
    refine ⟨_,I64.wrap (by unfold I64;omega),?_⟩
    exact hRd _ _ _ ⟨i+1,[.old 0,.old 6,.old 7],⟨rfl,.inl (by rw[hn,hg0];rfl),.inr ⟨lk rfl,lkI (by push_cast;rfl),trivial⟩,rfl⟩,h1,by show l.length - (i+1) < l.length - i;omega⟩
  ·have hie:i=l.length:=by have:¬(i:Int) < ((l.map Stmt.g).length:Nat):=h0;omega
   exact ⟨rfl,endWH (.tuple []) [.old 0,.old 1,.old 2] rfl rfl rfl (.inl rfl) rfl rfl rfl (by rw[hie,List.take_length])⟩
end Go.Proofs.Ythcmdjkaepclhaa
namespace Barb
open Go Go.Dm Go.Eng
def okI (L:Nat) (x:Instr):Prop:=instrE x=0\/((x.op=9\/x.op=10)/\0<=x.a/\x.a < (L:Int)/\x.b=0/\x.c=0)
theorem okI.mono {L M:Nat} {x:Instr} (h:okI L x) (k:L<=M):okI M x:=by
 rcases h with h | ⟨h1,h2,h3,h4⟩
 ·exact .inl h
 ·exact .inr ⟨h1,h2,by omega,h4⟩
theorem instr_form {op a b c:Int} (h1:1<=op/\op<=15) (ha:0<=a/\a<=bdA op) (hb:0<=b/\b<=bdB op) (hc:0<=c/\c<=bdC op) (hd:op=8->a≠0):instrE ⟨op,a,b,c⟩=0:=by
 unfold instrE
 rw[if_neg (fun h=>h h1),if_neg]
 unfold instrBad
 rintro (h | h | h | ⟨h,k⟩)
 ·exact h ha
 ·exact h hb
 ·exact h hc
 ·exact hd h k
theorem okI_end {L:Nat} {x:Instr} (h:okI L x) (hL:L<=1200):instrE x=0:=by
 rcases h with h | ⟨h1,h2,h3,h4,h5⟩
 ·exact h
 ·obtain ⟨op,a,b,c⟩:=x
  dsimp only at h1 h2 h3 h4 h5
  subst h4;subst h5
  have:bdA op=1199:=by unfold bdA;rcases h1 with rfl | rfl<;>simp
  have hb:0<=bdB op:=by unfold bdB;(repeat' split)<;>omega
  have hc:0<=bdC op:=by unfold bdC;(repeat' split)<;>omega
  exact instr_form (by omega) (by omega) ⟨Int.le_refl _,hb⟩ ⟨Int.le_refl _,hc⟩ (fun h=>by omega)
def callI (nf:Nat) (l:List Instr) (k:Int):Prop:=∃ (i:Nat) (a n:Int),k=(i:Int)/\l[i]?=some ⟨11,a,n,0⟩/\0<=a/\a < (nf:Int)/\0<=n/\n<=4
structure Writ (d nf:Nat) (w w':GW):Prop where
 code:∃ t,w'.code=w.code++t/\∀ x∈t,okI (w'.code.length+d) x
 calls:∃ s,w'.calls=w.calls++s/\s.Pairwise (· < ·)/\∀ k∈s,(w.code.length:Int)<=k/\k < (w'.code.length:Int)/\callI nf w'.code k
theorem Writ.refl (d nf:Nat) (w:GW):Writ d nf w w:=⟨⟨[],by simp,by simp⟩,⟨[],by simp,.nil,by simp⟩⟩
theorem Writ.len {d nf:Nat} {w w':GW} (h:Writ d nf w w'):w.code.length<=w'.code.length:=by
 obtain ⟨t,ht,_⟩:=h.code
 rw[ht];simp
theorem callI_app {nf:Nat} {l:List Instr} {k:Int} (h:callI nf l k) (t:List Instr):callI nf (l++t) k:=by
 obtain ⟨i,a,n,h1,h2,h3⟩:=h
 refine ⟨i,a,n,h1,?_,h3⟩
 have hi:i < l.length:=(List.getElem?_eq_some_iff.1 h2).1
 rw[List.getElem?_append_left hi];exact h2
theorem Writ.trans {d nf:Nat} {a b c:GW} (h:Writ d nf a b) (k:Writ d nf b c):Writ d nf a c:=by
 have hlen:=h.len
 have klen:=k.len
 obtain ⟨t1,e1,o1⟩:=h.code
 obtain ⟨t2,e2,o2⟩:=k.code
 obtain ⟨s1,f1,p1,c1⟩:=h.calls
 obtain ⟨s2,f2,p2,c2⟩:=k.calls
 refine ⟨⟨t1++t2,by rw[e2,e1,List.append_assoc],fun x hx=>?_⟩,⟨s1++s2,by rw[f2,f1,List.append_assoc],?_,fun x hx=>?_⟩⟩
 ·rcases List.mem_append.1 hx with hx | hx
  ·exact (o1 x hx).mono (by omega)
  ·exact o2 x hx
 ·rw[List.pairwise_append]
  refine ⟨p1,p2,fun x hx y hy=>?_⟩
  have:=(c1 x hx).2.1
  have:=(c2 y hy).1
  omega
 ·rcases List.mem_append.1 hx with hx | hx
  ·obtain ⟨a1,a2,a3⟩:=c1 x hx
   exact ⟨a1,by omega,by rw[e2];exact callI_app a3 t2⟩
  ·obtain ⟨a1,a2,a3⟩:=c2 x hx
   exact ⟨by omega,a2,a3⟩
theorem Writ.put {d nf:Nat} (w:GW) {op a b c:Int} (more:Int) (h:okI (w.code.length+1+d) ⟨op,a,b,c⟩):Writ d nf w (w.put op a b c more) :=
 ⟨⟨[⟨op,a,b,c⟩],rfl,fun x hx=>by rw[List.mem_singleton.1 hx,put_len];exact h⟩,⟨[],by rw[put_calls];simp,.nil,by simp⟩⟩
theorem Writ.at_ {d nf:Nat} {w w':GW} {op a b c more:Int} (h:Writ d nf (w.put op a b c more) w'):w'.code[w.code.length]?=some ⟨op,a,b,c⟩:=by
 obtain ⟨t,e,_⟩:=h.code
 rw[e,GW.put,List.getElem?_append_left (by simp)]
 simp
theorem mod_at {α:Type} (l:List α) (i:Nat) (f:α->α):(l.modify i f)[i]?=l[i]?.map f:=by
 rw[List.getElem?_modify]
 cases l[i]?<;>simp
theorem mod_ne {α:Type} (l:List α) {i j:Nat} (f:α->α) (h:i≠j):(l.modify i f)[j]?=l[j]?:=by
 rw[List.getElem?_modify]
 cases l[j]?<;>simp[h]
theorem modify_app {α:Type} (l t:List α) (i:Nat) (f:α->α) (h:l.length<=i):(l++t).modify i f=l++t.modify (i - l.length) f:=by
 apply List.ext_getElem?
 intro j
 by_cases hj:j < l.length
 ·rw[mod_ne _ _ (by omega),List.getElem?_append_left hj,List.getElem?_append_left hj]
 ·rw[List.getElem?_append_right (by omega)]
  by_cases hk:i=j
  ·subst hk
   rw[mod_at,mod_at,List.getElem?_append_right (by omega)]
  ·rw[mod_ne _ _ hk,mod_ne _ _ (by omega),List.getElem?_append_right (by omega)]
theorem Writ.setA {d nf:Nat} {w w':GW} (h:Writ d nf w w') {k:Nat} {op a:Int} (hk:w.code.length<=k) (hj:w'.code[k]?=some ⟨op,a,0,0⟩) (ho:op=9\/op=10) {b:Int} (h0:0<=b) (h1:b < ((w'.code.length+d:Nat):Int)):Writ d nf w (w'.setA k b):=by
 have hlen:=setA_len w' k b
 obtain ⟨t,e,o⟩:=h.code
 obtain ⟨s,f,p,c⟩:=h.calls
 have hi:k < w'.code.length:=(List.getElem?_eq_some_iff.1 hj).1
 refine ⟨⟨t.modify (k - w.code.length) (fun x=>{ x with a:=b }),?_,fun x hx=>?_⟩,⟨s,f,p,fun x hx=>?_⟩⟩
 ·show w'.code.modify k _=_
  rw[e,modify_app _ _ _ _ hk]
 ·rw[hlen]
  obtain ⟨j,hj2⟩:=List.mem_iff_getElem?.1 hx
  by_cases hc:k - w.code.length=j
  ·have ht:t[j]?=some ⟨op,a,0,0⟩:=by
    rw[e,List.getElem?_append_right hk,hc] at hj;exact hj
   rw[hc,mod_at,ht] at hj2
   have:=Option.some.inj hj2
   subst this
   exact .inr ⟨ho,h0,h1,rfl,rfl⟩
  ·rw[mod_ne _ _ hc] at hj2
   exact o x (List.mem_of_getElem? hj2)
 ·obtain ⟨c1,c2,i,a',n,e1,e2,e3⟩:=c x hx
  refine ⟨c1,by rw[hlen];exact c2,i,a',n,e1,?_,e3⟩
  show (w'.code.modify k _)[i]?=_
  have hc:k≠i:=by
   intro hc
   subst hc
   rw[e2] at hj
   have:=Option.some.inj hj
   injection this with h11 _ _ _
   omega
  rw[mod_ne _ _ hc,e2]
theorem okJ {L:Nat} {op a:Int} (h:op=9\/op=10) (h0:0<=a) (h1:a < (L:Int)):okI L ⟨op,a,0,0⟩:=.inr ⟨h,h0,h1,rfl,rfl⟩
theorem ok0 {L:Nat} {op:Int} (h:op=3\/op=6\/op=7\/op=13\/op=14\/op=15):okI L ⟨op,0,0,0⟩:=.inl (by rcases h with rfl | rfl | rfl | rfl | rfl | rfl<;>decide)
theorem okPush {L:Nat} {a:Int} (h:0<=a/\a<=65535):okI L ⟨1,a,0,0⟩:=.inl (instr_form (by decide) h (by decide) (by decide) (fun h=>absurd h (by decide)))
theorem okGet {L:Nat} {op a:Int} (ho:op=4\/op=5) (h:0<=a/\a<=7):okI L ⟨op,a,0,0⟩:=.inl (by rcases ho with rfl | rfl<;>exact instr_form (by decide) h (by decide) (by decide) (fun h=>absurd h (by decide)))
theorem okDo {L:Nat} {a:Int} (h:1<=a/\a<=10):okI L ⟨8,a,0,0⟩:=.inl (instr_form (by decide) ⟨by omega,h.2⟩ (by decide) (by decide) (fun _=>by omega))
theorem okCall {L:Nat} {a n:Int} (h:0<=a/\a<=1199) (hn:0<=n/\n<=4):okI L ⟨11,a,n,0⟩:=.inl (instr_form (by decide) h hn (by decide) (fun h=>absurd h (by decide)))
theorem okGate {L:Nat} {a b n:Int} (h:0<=a/\a<=4) (hb:0<=b/\b<=7) (hn:0<=n/\n<=4):okI L ⟨12,a,b,n⟩:=.inl (instr_form (by decide) h hb hn (fun h=>absurd h (by decide)))
structure Fits (g:GC):Prop where
 base:0<=g.base/\g.base<=250
 vars:g.u.vars.length<=8
 arrs:g.u.arrays.length<=3
 sizes:∀ a∈g.u.arrays,1<=a.size/\a.size<=10
 units:g.p.length<=5
 funs:∀ u∈g.p,u.funcs.length<=8
 own:g.u.funcs.length<=8
 params:g.f.params.length<=4
theorem addrA_rng (name:Str):∀ (l:List Arr) (at_:Int),(∀ a∈l,1<=a.size/\a.size<=10)->l.length<=3->0<=at_->at_<=1000->(0<=(addrA name l at_).1/\(addrA name l at_).1<=at_+10*l.length)/\0<=(addrA name l at_).2/\(addrA name l at_).2<=10
 | [],at_,_,_,h0,_=>by simp only[addrA,List.length_nil];omega
 | a :: l,at_,hs,hl,h0,h1=>by
  have ha:=hs a List.mem_cons_self
  unfold addrA
  simp only[List.length_cons] at hl ⊢
  split
  ·omega
  ·have hw:IntKind.i64.wrap (at_+a.size)=at_+a.size:=I64.wrap (by unfold I64;omega)
   rw[hw]
   by_cases hb:at_+a.size<=1000
   ·have:=addrA_rng name l (at_+a.size) (fun x hx=>hs x (List.mem_cons_of_mem _ hx)) (by omega) (by omega) hb
    omega
   ·match l,hl with
    | [],_=>simp only[addrA,List.length_nil];omega
    | [b],_ =>
     have hb':=hs b (by simp)
     simp only[addrA,List.length_cons,List.length_nil]
     rw[I64.wrap (by unfold I64;omega)]
     split<;>omega
    | [b,c],_ =>
     have hb':=hs b (by simp)
     have hc':=hs c (by simp)
     simp only[addrA,List.length_cons,List.length_nil]
     rw[I64.wrap (by unfold I64;omega),I64.wrap (by unfold I64;omega)]
     split
     ·omega
     ·split<;>omega
theorem idx_rng {α:Type} (q:α->Prop) [DecidablePred q] (l:List α):-1<=idx q l/\idx q l < l.length:=by
 rcases idx_cases q l with ⟨h,_⟩ | ⟨i,hi,h,_⟩<;>omega
theorem addrG_rng {g:GC} (h:Fits g) (name:Str):(0<=(addrG g name).1/\(addrG g name).1<=65535)/\0<=(addrG g name).2/\(addrG g name).2<=65535:=by
 have hb:=h.base
 have hv:=h.vars
 have ha:=h.arrs
 have hi:=idx_rng (fun s=>name=s) g.u.vars
 unfold addrG varIdx
 split
 ·dsimp only
  rw[I64.wrap (by unfold I64;omega)]
  omega
 ·rw[I64.wrap (show I64 (g.base+g.u.vars.length) by unfold I64;omega)]
  have:=addrA_rng name g.u.arrays (g.base+g.u.vars.length) h.sizes ha (by omega) (by omega)
  omega
theorem Writ.elem {g:GC} (h:Fits g) (nf:Nat) (name:Str) (w:GW):Writ 1 nf w (elemG g name w):=by
 obtain ⟨hat,hsz⟩:=addrG_rng h name
 unfold elemG
 dsimp only
 generalize hw3:((w.put 3 0 0 0 1).put 1 (addrG g name).2 0 0 1).put 8 7 0 0 (-1)=w3
 have h3:Writ 1 nf w w3:=by
  rw[<- hw3]
  exact ((Writ.put w _ (ok0 (.inl rfl))).trans (.put _ _ (okPush hsz))).trans (.put _ _ (okDo (by decide)))
 have hz:w3.at_=(w3.code.length:Int):=rfl
 have h4:Writ 1 nf w3 (w3.put 10 0 0 0 (-1)):=.put _ _ (okJ (.inr rfl) (Int.le_refl _) (by omega))
 have h6:Writ 1 nf (w3.put 10 0 0 0 (-1)) (((w3.put 10 0 0 0 (-1)).put 9 (w3.at_+3) 0 0 0).put 15 0 0 0 0):=by
  refine ⟨⟨[⟨9,w3.at_+3,0,0⟩,⟨15,0,0,0⟩],by simp[GW.put],fun x hx=>?_⟩,⟨[],by simp[put_calls],.nil,by simp⟩⟩
  simp only[List.mem_cons,List.not_mem_nil,or_false] at hx
  rcases hx with rfl | rfl
  ·exact okJ (.inl rfl) (by omega) (by simp only[put_len];omega)
  ·exact ok0 (.inr (.inr (.inr (.inr (.inr rfl)))))
 have hat10:=h6.at_
 have h7:=(h3.trans (h4.trans h6)).setA (k:=w3.code.length) (b:=w3.at_+2) h3.len hat10 (.inr rfl) (by omega) (by simp only[put_len];omega)
 exact (h7.trans (.put _ _ (okPush hat))).trans (.put _ _ (okDo (by decide)))
theorem Writ.call {g:GC} (h:Fits g) (of s:Str) {n:Nat} (hn:n<=4) (hc:calledE g.p g.u of s n=0) (w:GW):Writ 1 g.u.funcs.length w (callG g of s n w):=by
 have hu:=h.units
 have ho:=h.own
 unfold callG
 by_cases hof:of=[]
 ·rw[if_pos hof]
  unfold calledE at hc
  rw[if_pos hof] at hc
  obtain ⟨i,hi,h1,_⟩:=calledIn_ok hc
  refine ⟨⟨[⟨11,funIdx g.u s,n,0⟩],rfl,fun x hx=>?_⟩,⟨[w.at_],rfl,List.pairwise_singleton _ _,fun k hk=>?_⟩⟩
  ·rw[List.mem_singleton.1 hx]
   exact okCall (by omega) (by omega)
  ·rw[List.mem_singleton.1 hk,put_len]
   refine ⟨Int.le_refl _,(show (w.code.length:Int) < ((w.code.length+1:Nat):Int) by omega),w.code.length,funIdx g.u s,n,rfl,?_,by omega,by omega,by omega,by omega⟩
   show (w.code++[_])[w.code.length]?=_
   simp
 ·rw[if_neg hof]
  obtain ⟨i,hi,h1,h2⟩:=calledE_out hc hof
  obtain ⟨j,hj,h3,_,hop,_⟩:=calledIn_ok h2
  have e1:g.p.getD (unitIdx g.p of).toNat ⟨[],[],[],[]⟩=g.p[i]:=by rw[h1,Int.toNat_natCast];simp[hi]
  rw[e1,h1,h3]
  have hf:=h.funs g.p[i] (List.getElem_mem hi)
  refine .put _ _ (okGate (by omega) ?_ (by omega))
  unfold entryG
  rw[Int.toNat_natCast]
  have:=openN_le (g.p[i].funcs.take j)
  rw[List.length_take] at this
  omega
mutual
theorem Writ.expr {g:GC} (h:Fits g):∀ (x:Expr) (n:Nat) (w:GW),exprE n x=0->exprS g.p g.u g.f x=0->Writ 1 g.u.funcs.length w (exprG g x w)
 | .mk k v of s args,0,w,hE,_=>by rw[exprE] at hE;exact absurd hE (by decide)
 | .mk k v of s args,n+1,w,hE,hS=>by
  obtain ⟨hk,h4,hok,hbad,hxE⟩:=exprE_inv hE
  obtain ⟨h1,hxS⟩:=exprS_inv hS
  dsimp only[Expr.k,Expr.n,Expr.of,Expr.s,Expr.args] at hk h4 hok hbad hxE h1 hxS
  have hb:=h.base
  have hp:=h.params
  rw[exprG]
  refine (Writ.exprs h args n w hxE hxS).trans ?_
  generalize exprsG g args w=w1
  unfold lastG
  unfold exprBad at hbad
  by_cases k1:k=1
  ·rw[if_pos k1]
   exact .put _ _ (okPush (by omega))
  rw[if_neg k1]
  by_cases k2:k=2
  ·rw[if_pos k2]
   unfold readG
   split
   ·have:=idx_rng (fun z=>s=z) g.f.params
    unfold parIdx at *
    exact .put _ _ (okGet (.inl rfl) (by omega))
   ·exact (Writ.put _ _ (okPush (addrG_rng h s).1)).trans (.put _ _ (ok0 (.inr (.inl rfl))))
  rw[if_neg k2]
  by_cases k3:k=3
  ·rw[if_pos k3]
   exact (Writ.elem h _ s w1).trans (.put _ _ (ok0 (.inr (.inl rfl))))
  rw[if_neg k3]
  by_cases k4:k=4
  ·rw[if_pos k4]
   unfold exprS1 at h1
   rw[if_neg (by omega),if_pos k4] at h1
   exact .call h of s h4 h1 w1
  rw[if_neg k4]
  exact .put _ _ (okDo (by omega))
theorem Writ.exprs {g:GC} (h:Fits g):∀ (l:List Expr) (n:Nat) (w:GW),(∀ x∈l,exprE n x=0)->(∀ x∈l,exprS g.p g.u g.f x=0)->Writ 1 g.u.funcs.length w (exprsG g l w)
 | [],_,w,_,_=>by rw[exprsG];exact .refl _ _ w
 | x :: l,n,w,hE,hS=>by
  rw[exprsG]
  exact (Writ.expr h x n w (hE x List.mem_cons_self) (hS x List.mem_cons_self)).trans (.exprs h l n _ (fun y hy=>hE y (List.mem_cons_of_mem _ hy)) (fun y hy=>hS y (List.mem_cons_of_mem _ hy)))
end
theorem stmtsG_nil (g:GC) (w:GW):stmtsG g [] w=w:=by rw[stmtsG]
theorem stmtsG_cons (g:GC) (x:Stmt) (l:List Stmt) (w:GW):stmtsG g (x :: l) w=stmtsG g l (stmtG g x w):=by rw[stmtsG]
theorem Writ.stmt {g:GC} (h:Fits g) (n:Nat) (ih:∀ (l:List Stmt),stmtsE n l=0->stmtsS g.p g.u g.f l=0->∀ w:GW,Writ 1 g.u.funcs.length w (stmtsG g l w)) (x:Stmt) (hE:stmtE1 (stmtsE n) x=0) (hS:stmtS g.p g.u g.f x=0) (w:GW):Writ 1 g.u.funcs.length w (stmtG g x w):=by
 obtain ⟨hk,hok,hxE,hbE,heE⟩:=stmtE_inv hE
 obtain ⟨_,hxS,hbS,heS⟩:=stmtS_inv hS
 have hp:=h.params
 have hw:0<=w.at_:=by unfold GW.at_;omega
 unfold stmtOk at hok
 have hX:∀ y∈x.xs,∀ w:GW,Writ 1 g.u.funcs.length w (exprG g y w):=fun y hy w=>.expr h y 12 w (hxE y hy) (hxS y hy)
 have h0:x.xs.getD 0 noX∈x.xs:=by
  have:0 < x.xs.length:=by omega
  simp[List.getD,List.getElem?_eq_getElem this]
 rw[stmtG_eq]
 by_cases k1:x.k=1
 ·rw[if_pos k1]
  unfold setG
  split
  ·have:=idx_rng (fun z=>x.s=z) g.f.params
   unfold parIdx at *
   exact (hX _ h0 w).trans (.put _ _ (okGet (.inr rfl) (by omega)))
  ·exact ((Writ.put _ _ (okPush (addrG_rng h x.s).1)).trans (hX _ h0 _)).trans (.put _ _ (ok0 (.inr (.inr (.inl rfl)))))
 rw[if_neg k1]
 by_cases k2:x.k=2
 ·rw[if_pos k2]
  have h1:x.xs.getD 1 noX∈x.xs:=by
   have:1 < x.xs.length:=by omega
   simp[List.getD,List.getElem?_eq_getElem this]
  unfold put2G
  exact (((((hX _ h0 w).trans (hX _ h1 _)).trans (.put _ _ (okGet (.inr rfl) (by omega)))).trans (.elem h _ _ _)).trans (.put _ _ (okGet (.inl rfl) (by omega)))).trans (.put _ _ (ok0 (.inr (.inr (.inl rfl)))))
 rw[if_neg k2]
 by_cases k3:x.k=3\/x.k=4
 ·rw[if_pos k3]
  dsimp only
  have a1:=hX _ h0 w
  generalize exprG g (x.xs.getD 0 noX) w=w1 at a1 ⊢
  have a2:=ih x.b hbE hbS (w1.put 10 0 0 0 (-1))
  have p2:Writ 1 g.u.funcs.length w1 (w1.put 10 0 0 0 (-1)):=.put _ _ (okJ (.inr rfl) (Int.le_refl _) (by omega))
  generalize stmtsG g x.b (w1.put 10 0 0 0 (-1))=w2 at a2 ⊢
  have l1:=a1.len
  have l2:=(p2.trans a2).len
  have p3:Writ 1 g.u.funcs.length w2 (w2.put 9 (if x.k=4 then w.at_ else 0) 0 0 0):=by
   refine .put _ _ (okJ (.inl rfl) ?_ ?_)
   ·split
    ·exact hw
    ·exact Int.le_refl _
   ·split
    ·unfold GW.at_;omega
    ·omega
  have s10:=(a2.trans p3).at_
  have s9:(w2.put 9 (if x.k=4 then w.at_ else 0) 0 0 0).code[w2.code.length]?=some ⟨9,if x.k=4 then w.at_ else 0,0,0⟩:=(Writ.refl 1 g.u.funcs.length _).at_
  have l3:=put_len w2 9 (if x.k=4 then w.at_ else 0) 0 0 0
  generalize hv:(if x.k=4 then w.at_ else 0)=v at *
  generalize hw3:w2.put 9 v 0 0 0=w3 at *
  have hlt:w1.code.length < w2.code.length:=by have:=a2.len;rw[put_len] at this;exact this
  have a4:Writ 1 g.u.funcs.length w (w3.setA w1.code.length w3.at_):=(a1.trans (p2.trans (a2.trans p3))).setA l1 s10 (.inr rfl) (by unfold GW.at_;omega) (by unfold GW.at_;omega)
  have s4:(w3.setA w1.code.length w3.at_).code[w2.code.length]?=some ⟨9,v,0,0⟩:=by
   show (w3.code.modify _ _)[w2.code.length]?=_
   rw[mod_ne _ _ (by omega),s9]
  split
  ·have a5:=ih x.e heE heS (w3.setA w1.code.length w3.at_)
   have hk4:(w3.setA w1.code.length w3.at_).code.length=w3.code.length:=setA_len _ _ _
   obtain ⟨t,et,_⟩:=a5.code
   have l5:=a5.len
   generalize stmtsG g x.e (w3.setA w1.code.length w3.at_)=w5 at *
   refine (a4.trans a5).setA (k:=w2.code.length) (by omega) (op:=9) (a:=v) ?_ (.inl rfl) (by unfold GW.at_;omega) (by unfold GW.at_;omega)
   rw[et,List.getElem?_append_left (by omega)]
   exact s4
  ·exact a4
 rw[if_neg k3]
 split
 ·exact (hX _ h0 w).trans (.put _ _ (ok0 (.inr (.inr (.inr (.inl rfl))))))
 ·exact (hX _ h0 w).trans (.put _ _ (ok0 (.inr (.inr (.inr (.inr (.inl rfl)))))))
theorem Writ.stmts {g:GC} (h:Fits g):∀ (n:Nat) (l:List Stmt),stmtsE n l=0->stmtsS g.p g.u g.f l=0->∀ w:GW,Writ 1 g.u.funcs.length w (stmtsG g l w)
 | 0,_,hE,_=>by rw[stmtsE] at hE;exact absurd hE (by decide)
 | n+1,l,hE,hS=>by
  rw[stmtsE] at hE
  rw[stmtsS_first] at hS
  have e:=firstE_all hE
  have s:=firstE_all hS
  clear hE hS
  induction l with
  | nil=>intro w;rw[stmtsG_nil];exact .refl _ _ w
  | cons x l il =>
   intro w
   rw[stmtsG_cons]
   exact (Writ.stmt h n (Writ.stmts h n) x (e x List.mem_cons_self) (s x List.mem_cons_self) w).trans (il (fun y hy=>e y (List.mem_cons_of_mem _ hy)) (fun y hy=>s y (List.mem_cons_of_mem _ hy)) _)
def FitsF (p:List Unit) (u:Unit) (base:Int) (f:Fun):Prop:=Fits ⟨p,u,base,f⟩/\stmtsE 12 f.body=0/\stmtsS p u f f.body=0
theorem funG_len (p:List Unit) (u:Unit) (base:Int) (f:Fun) (w:GW):(funG p u base f w).code.length=(stmtsG ⟨p,u,base,f⟩ f.body { w with deep:=0 }).code.length+2:=by
 unfold funG;rw[put_len,put_len]
theorem Writ.fun_ {p:List Unit} {u:Unit} {base:Int} {f:Fun} (h:FitsF p u base f) (w:GW):Writ 0 u.funcs.length w (funG p u base f w):=by
 have h1:=Writ.stmts h.1 12 f.body h.2.1 h.2.2 { w with deep:=0 }
 have hl:=funG_len p u base f w
 obtain ⟨t,et,ot⟩:=h1.code
 obtain ⟨s,es,ps,cs⟩:=h1.calls
 have hc:(funG p u base f w).code=w.code++(t++[⟨1,0,0,0⟩,⟨13,0,0,0⟩]):=by
  unfold funG GW.put
  show (_++_)++_=_
  rw[et];simp
 refine ⟨⟨_,hc,fun x hx=>?_⟩,⟨s,es,ps,fun k hk=>?_⟩⟩
 ·rw[hl]
  rcases List.mem_append.1 hx with hx | hx
  ·exact (ot x hx).mono (by omega)
  ·simp only[List.mem_cons,List.not_mem_nil,or_false] at hx
   rcases hx with rfl | rfl
   ·exact okPush (by decide)
   ·exact ok0 (.inr (.inr (.inr (.inl rfl))))
 ·obtain ⟨a1,a2,a3⟩:=cs k hk
  refine ⟨a1,by rw[hl];omega,?_⟩
  rw[hc,<- List.append_assoc]
  rw[et] at a3
  exact callI_app a3 _
theorem Writ.funs {p:List Unit} {u:Unit} {base:Int}:∀ (l:List Fun) (w:GW),(∀ f∈l,FitsF p u base f)->Writ 0 u.funcs.length w (funsG p u base l w)
 | [],w,_=>.refl _ _ w
 | f :: l,w,h=>by
  rw[funsG]
  exact (Writ.fun_ (h f List.mem_cons_self) w).trans (.funs l _ (fun x hx=>h x (List.mem_cons_of_mem _ hx)))
theorem atsG_len (p:List Unit) (u:Unit) (base:Int):∀ (l:List Fun) (w:GW),(atsG p u base l w).length=l.length
 | [],_=>rfl
 | f :: l,w=>by rw[atsG,List.length_cons,List.length_cons,atsG_len p u base l]
theorem funsG_lo (p:List Unit) (u:Unit) (base:Int):∀ (l:List Fun) (w:GW),w.code.length<=(funsG p u base l w).code.length
 | [],_=>Nat.le_refl _
 | f :: l,w=>by
  rw[funsG]
  have h1:=funsG_lo p u base l (funG p u base f w)
  have h2:=funG_len p u base f w
  have h3:=(Grow.stmts ⟨p,u,base,f⟩ f.body { w with deep:=0 }).lo
  have h4:({ w with deep:=0 }:GW).code.length=w.code.length:=rfl
  omega
theorem atsG_rng (p:List Unit) (u:Unit) (base:Int):∀ (l:List Fun) (w:GW),∀ a∈atsG p u base l w,(w.code.length:Int)<=a/\a < ((funsG p u base l w).code.length:Int)
 | [],_,a,ha=>by simp[atsG] at ha
 | f :: l,w,a,ha=>by
  rw[atsG,List.mem_cons] at ha
  rw[funsG]
  have h2:=funG_len p u base f w
  have h3:=(Grow.stmts ⟨p,u,base,f⟩ f.body { w with deep:=0 }).lo
  have h4:({ w with deep:=0 }:GW).code.length=w.code.length:=rfl
  rcases ha with rfl | ha
  ·have h1:=funsG_lo p u base l (funG p u base f w)
   unfold GW.at_
   omega
  ·have:=atsG_rng p u base l _ a ha
   omega
theorem funsG_append (p:List Unit) (u:Unit) (base:Int):∀ (a b:List Fun) (w:GW),funsG p u base (a++b) w=funsG p u base b (funsG p u base a w)
 | [],_,_=>rfl
 | f :: a,b,w=>by rw[List.cons_append,funsG,funsG];exact funsG_append p u base a b _
theorem funsG_one (p:List Unit) (u:Unit) (base:Int) (l:List Fun) (j:Nat) (hj:j < l.length) (w:GW):funsG p u base (l.take (j+1)) w=funG p u base l[j] (funsG p u base (l.take j) w):=by
 rw[take_one hj,funsG_append];rfl
theorem atsG_append (p:List Unit) (u:Unit) (base:Int):∀ (a b:List Fun) (w:GW),atsG p u base (a++b) w=atsG p u base a w++atsG p u base b (funsG p u base a w)
 | [],_,_=>rfl
 | f :: a,b,w=>by rw[List.cons_append,atsG,atsG,funsG,atsG_append p u base a b];rfl
theorem atsG_one (p:List Unit) (u:Unit) (base:Int) (l:List Fun) (j:Nat) (hj:j < l.length) (w:GW):atsG p u base (l.take (j+1)) w=atsG p u base (l.take j) w++[(funsG p u base (l.take j) w).at_]:=by
 rw[take_one hj,atsG_append];rfl
def patch1 (ats:List Int) (c:List Instr) (k:Int):List Instr:=setA c k.toNat (ats.getD (c.getD k.toNat ⟨0,0,0,0⟩).a.toNat 0)
theorem patchG_append (ats:List Int):∀ (a b:List Int) (c:List Instr),patchG ats (a++b) c=patchG ats b (patchG ats a c)
 | [],_,_=>rfl
 | k :: a,b,c=>by rw[List.cons_append,patchG,patchG];exact patchG_append ats a b _
theorem patchG_one (ats l:List Int) (j:Nat) (hj:j < l.length) (c:List Instr):patchG ats (l.take (j+1)) c=patch1 ats (patchG ats (l.take j) c) l[j]:=by
 rw[take_one hj,patchG_append];rfl
theorem patchG_len (ats:List Int):∀ (l:List Int) (c:List Instr),(patchG ats l c).length=c.length
 | [],_=>rfl
 | k :: l,c=>by rw[patchG,patchG_len ats l];unfold setA;simp
theorem callI_patch {nf:Nat} {ats:List Int} {c:List Instr} {j k:Int} (hk:callI nf c k) (hj:callI nf c j) (hne:k≠j):callI nf (patch1 ats c k) j:=by
 obtain ⟨i,a,n,h1,h2,h3⟩:=hj
 obtain ⟨i',_,_,h1',_⟩:=hk
 refine ⟨i,a,n,h1,?_,h3⟩
 unfold patch1 setA
 rw[mod_ne _ _ (by omega),h2]
theorem patch_calls {nf:Nat} {ats:List Int} {l:List Int} {c:List Instr} (hp:l.Pairwise (· < ·)) (hc:∀ k∈l,callI nf c k):∀ (i:Nat) (j:Nat) (hj:j < l.length),i<=j->callI nf (patchG ats (l.take i) c) l[j]
 | 0,j,hj,_=>by rw[List.take_zero];exact hc _ (List.getElem_mem hj)
 | i+1,j,hj,hij=>by
  rw[patchG_one ats l i (by omega)]
  have h1:=patch_calls (ats:=ats) hp hc i i (by omega) (Nat.le_refl _)
  have h2:=patch_calls (ats:=ats) hp hc i j hj (by omega)
  have h3:=List.pairwise_iff_getElem.1 hp i j (by omega) hj (by omega)
  exact callI_patch h1 h2 (by omega)
def okP (L:Nat) (x:Instr):Prop:=okI L x\/(x.op=11/\0<=x.a/\x.a < (L:Int)/\0<=x.b/\x.b<=4/\x.c=0)
theorem okP_end {L:Nat} {x:Instr} (h:okP L x) (hL:L<=1200):instrE x=0:=by
 rcases h with h | ⟨h1,h2,h3,h4,h5,h6⟩
 ·exact okI_end h hL
 ·obtain ⟨op,a,b,c⟩:=x
  dsimp only at h1 h2 h3 h4 h5 h6
  subst h6;subst h1
  exact instr_form (by decide) ⟨h2,by show a<=1199;omega⟩ ⟨h4,h5⟩ (by decide) (fun h=>absurd h (by decide))
theorem patch_ok {nf L:Nat} {ats:List Int} (ha:ats.length=nf) (hr:∀ a∈ats,0<=a/\a < (L:Int)) {l:List Int} {c:List Instr} (hp:l.Pairwise (· < ·)) (hc:∀ k∈l,callI nf c k) (ho:∀ x∈c,okI L x):∀ (i:Nat),i<=l.length->∀ x∈patchG ats (l.take i) c,okP L x
 | 0,_,x,hx=>by rw[List.take_zero] at hx;exact .inl (ho x hx)
 | i+1,hi,x,hx=>by
  rw[patchG_one ats l i (by omega)] at hx
  have ih:=patch_ok ha hr hp hc ho i (by omega)
  obtain ⟨q,a,n,h1,h2,h3,h4,h5,h6⟩:=patch_calls (ats:=ats) hp hc i i (by omega) (Nat.le_refl _)
  generalize patchG ats (l.take i) c=d at *
  rw[h1] at hx
  unfold patch1 setA at hx
  rw[Int.toNat_natCast,show d.getD q ⟨0,0,0,0⟩=⟨11,a,n,0⟩ by rw[List.getD_eq_getElem?_getD,h2];rfl] at hx
  obtain ⟨j,hj⟩:=List.mem_iff_getElem?.1 hx
  by_cases hq:q=j
  ·subst hq
   rw[mod_at,h2] at hj
   have:=Option.some.inj hj
   subst this
   have hat:ats.getD a.toNat 0∈ats:=by
    have:a.toNat < ats.length:=by omega
    rw[List.getD_eq_getElem?_getD,List.getElem?_eq_getElem this]
    exact List.getElem_mem this
   have:=hr _ hat
   exact .inr ⟨rfl,this.1,this.2,h5,h6,rfl⟩
  ·rw[mod_ne _ _ hq] at hj
   exact ih x (List.mem_of_getElem? hj)
theorem unitC_ok {p:List Unit} {u:Unit} {base:Int} (h:∀ f∈u.funcs,FitsF p u base f) (hl:(unitC p u base).length<=1200):∀ x∈unitC p u base,instrE x=0:=by
 intro x hx
 have hw:=Writ.funs u.funcs ⟨[],[],0,0⟩ h
 obtain ⟨t,et,ot⟩:=hw.code
 obtain ⟨s,es,ps,cs⟩:=hw.calls
 have et':(unitW p u base).code=t:=by unfold unitW;rw[et];rfl
 have es':(unitW p u base).calls=s:=by unfold unitW;rw[es];rfl
 unfold unitC at hx hl
 rw[patchG_len] at hl
 rw[es'] at hx
 have hc:(funsG p u base u.funcs ⟨[],[],0,0⟩)=unitW p u base:=rfl
 rw[hc] at ot cs
 have:=patch_ok (nf:=u.funcs.length) (L:=(unitW p u base).code.length) (atsG_len p u base u.funcs ⟨[],[],0,0⟩) (fun a ha=>by
  have:=atsG_rng p u base u.funcs ⟨[],[],0,0⟩ a ha
  rw[hc] at this
  exact ⟨by have:=this.1;simp at this;exact this,this.2⟩) (l:=s) (c:=(unitW p u base).code) ps (fun k hk=>(cs k hk).2.2) (fun x hx=>ot x (by rw[<- et'];exact hx)) s.length (Nat.le_refl _) x (by rw[List.take_length];exact hx)
 exact okP_end this hl
theorem szE_le:∀ (n:Nat) (x:Expr),exprE n x=0->3*szE x+1<=4 ^ n
 | 0,.mk _ _ _ _ _,h=>by rw[exprE] at h;exact absurd h (by decide)
 | n+1,.mk k v of s args,h=>by
  obtain ⟨_,h4,_,_,hx⟩:=exprE_inv h
  dsimp only[Expr.args] at h4 hx
  have hpos:1<=4 ^ n:=Nat.one_le_pow _ _ (by decide)
  have key:∀ l:List Expr,(∀ y∈l,exprE n y=0)->3*szEs l+l.length<=l.length*4 ^ n:=by
   intro l
   induction l with
   | nil=>intro _;simp[szEs]
   | cons y l ih =>
    intro hy
    have h1:=szE_le n y (hy y List.mem_cons_self)
    have h2:=ih (fun z hz=>hy z (List.mem_cons_of_mem _ hz))
    rw[szEs,List.length_cons,Nat.add_mul]
    omega
  have:=key args hx
  rw[szE,Nat.pow_succ]
  have h5:args.length*4 ^ n+(4 - args.length)*4 ^ n=4*4 ^ n:=by rw[<- Nat.add_mul];congr 1;omega
  have h6:4 - args.length<=(4 - args.length)*4 ^ n:=Nat.le_mul_of_pos_right _ hpos
  omega
theorem szEs_le (l:List Expr) (h:∀ y∈l,exprE 12 y=0):szEs l<=l.length*5592405:=by
 induction l with
 | nil=>simp[szEs]
 | cons y l ih =>
  have h1:=szE_le 12 y (h y List.mem_cons_self)
  have h2:=ih (fun z hz=>h z (List.mem_cons_of_mem _ hz))
  rw[szEs,List.length_cons]
  omega
theorem szSs_le:∀ (n:Nat) (l:List Stmt),stmtsE n l=0->(szSs l:Int)<=100663330*stmtsN n l
 | 0,_,h=>by rw[stmtsE] at h;exact absurd h (by decide)
 | n+1,l,h=>by
  rw[stmtsE] at h
  have e:=firstE_all h
  clear h
  induction l with
  | nil=>rw[stmtsN_nil];simp[szSs]
  | cons x l il =>
   obtain ⟨_,hok,hxE,hbE,heE⟩:=stmtE_inv (e x List.mem_cons_self)
   have h1:=szSs_le n x.b hbE
   have h2:=szSs_le n x.e heE
   have h3:=il (fun y hy=>e y (List.mem_cons_of_mem _ hy))
   have h4:=szEs_le x.xs hxE
   unfold stmtOk at hok
   have h5:x.xs.length<=2:=by omega
   have h6:szEs x.xs<=2*5592405:=Nat.le_trans h4 (Nat.mul_le_mul_right _ h5)
   rw[stmtsN_cons,szSs,szS_eq]
   push_cast
   omega
end Barb
namespace Barb
open Go Go.Dm Go.Eng
theorem fits_of {p:List Unit} (h:progE p=0) {u:Unit} (hu:u∈p) {base:Int} (hb:0<=base/\base<=250) {f:Fun} (hf:f∈u.funcs):FitsF p u base f:=by
 obtain ⟨h1,h2,_,h3⟩:=progE_inv h
 obtain ⟨_,a1,a2,a3,_,a4,a5⟩:=unitE_inv (h2 u hu)
 obtain ⟨_,b1,_,b2⟩:=funE_inv (a5 f hf)
 exact ⟨⟨hb,a1,a2,fun a ha=>(arrE_inv (a4 a ha)).2,h1,fun v hv=>(unitE_inv (h2 v hv)).2.2.2.1,a3,b1⟩,b2,unitS_inv (h3 u hu) f hf⟩
theorem body_sz {p:List Unit} (h:progE p=0) (hN:fewP p) {u:Unit} (hu:u∈p) {f:Fun} (hf:f∈u.funcs):szSs f.body<=30198999000:=by
 obtain ⟨_,h2,_,_⟩:=progE_inv h
 obtain ⟨_,_,_,_,_,_,a5⟩:=unitE_inv (h2 u hu)
 obtain ⟨_,_,_,b3⟩:=funE_inv (a5 f hf)
 have h3:=(manyN_ge u.funcs).1 f hf
 have h4:=hN u hu
 have h5:=szSs_le 12 f.body b3
 omega
theorem funs_len (p:List Unit) (u:Unit) (base:Int) (M:Nat):∀ (l:List Fun) (w:GW),(∀ f∈l,szSs f.body<=M)->w.calls.length<=w.code.length->(funsG p u base l w).code.length<=w.code.length+l.length*(M+2)/\(funsG p u base l w).calls.length<=(funsG p u base l w).code.length
 | [],w,_,h=>by rw[funsG];simp;exact h
 | f :: l,w,hM,h=>by
  rw[funsG]
  have g:=Grow.stmts ⟨p,u,base,f⟩ f.body { w with deep:=0 }
  have hf:=hM f List.mem_cons_self
  have e1:=funG_len p u base f w
  have e2:(funG p u base f w).calls=(stmtsG ⟨p,u,base,f⟩ f.body { w with deep:=0 }).calls:=rfl
  have g1:=g.hi
  have g2:=g.calls
  have g3:({ w with deep:=0 }:GW).code.length=w.code.length:=rfl
  have g4:({ w with deep:=0 }:GW).calls.length=w.calls.length:=rfl
  have:=funs_len p u base M l (funG p u base f w) (fun x hx=>hM x (List.mem_cons_of_mem _ hx)) (by rw[e1,e2];omega)
  rw[List.length_cons,Nat.add_mul]
  omega
end Barb
namespace Barb
open Go Go.Dm Go.Eng
noncomputable def genC (p:List Unit) (u base:Int):List Instr:=if genE p u base=0 then unitC p (p.getD u.toNat noU) base else []
noncomputable def genA (p:List Unit) (u base:Int):List Int:=if genE p u base=0 then atsG p (p.getD u.toNat noU) base (p.getD u.toNat noU).funcs ⟨[],[],0,0⟩ else []
end Barb
namespace Go.Proofs.Ythcmdjkaepclhaa
open Go Go.Dm Go.Eng Go.RowKit Barb
theorem retGen {p:List Barb.Unit} {u base e:Int} {h:Heap} (he:genE p u base=e) (h0:e≠0):RetTo (Is (.tuple [.g (.sl 4 ((genC p u base).map Instr.g)),.g (.sl 1 ((genA p u base).map intG)),.g (.int (genE p u base))])) h (.tuple [.nils,.nils,.g (.int e)]):=by
 have h1:genC p u base=[]:=by unfold genC;rw[if_neg (by rw[he];exact h0)]
 have h2:genA p u base=[]:=by unfold genA;rw[if_neg (by rw[he];exact h0)]
 rw[h1,h2,he]
 exact retIs (.inr (.inr ⟨lkNil,lkNil,lk rfl,trivial⟩))
theorem startU (g:GC) (ui:Int) (hf:g.f=⟨[],false,[],[]⟩):likeH (newN [.old 0,.nil 67 4,.nil 3 1,.nil 3 1])
  [.blk [.g (.sl 4 (g.p.map Unit.g)),.g (.int ui),.g (.int g.base),.g (.str []),.g (.bool false),.nils,.nils,.nils,.nils,.g (.int 0),.g (.int 0)] 63,.row [] 67 4,.row [] 3 1,.row [] 3 1]
  (WHr g ui ⟨[],[],0,0⟩ []++[.row [] 3 1]):=by
 refine ⟨⟨rfl,.inr ?_⟩,⟨rfl,rfl,rfl⟩,⟨rfl,rfl,rfl⟩,⟨rfl,rfl,rfl⟩,trivial⟩
 unfold WBr
 rw[hf]
 exact ⟨lk rfl,lk rfl,lk rfl,lk rfl,lk rfl,lkNil,lkNil,.inr rfl,.inr rfl,lk rfl,lk rfl,trivial⟩
set_option maxRecDepth 20000 in
set_option maxHeartbeats 4000000 in
theorem GenUnit_any (p:List Barb.Unit) (hp:progI p) (hN:fewP p) (ku base:Int) (hb:-4000000000000000000<=base/\base<=4000000000000000000) :
  CT Try.prog [] 6 [.g (.sl 4 (p.map Unit.g)),.g (.int ku),.g (.int base)] (Is (.tuple [.g (.sl 4 ((genC p ku base).map Instr.g)),.g (.sl 1 ((genA p ku base).map intG)),.g (.int (genE p ku base))])):=by
 have lp:(p.map Unit.g).length=p.length:=List.length_map _
 have e:genE p ku base=genE p ku base:=rfl
 conv at e=>rhs;unfold genE
 refine enter hT hF hM Try.func6 rfl 126 rfl (by kernel_rfl) [.tmp 6,.tmp 7,.tmp 8] rfl [.g (.sl 4 (p.map Unit.g)),.g (.int ku),.g (.int base)] rfl _ ?_
 refine callIs (.inl rfl) (NamesCheck_any p hp) ?_
 refine ⟨fun h=>⟨rfl,retGen (by rw[e,if_pos h]) h⟩,fun h=>?_⟩
 rw[if_neg (fun h'=>h' (by omega))] at e
 have hgood:progE p=0:=by omega
 have r5:(ku < 0\/ku >= p.length)->∀ h:Heap,RetTo (Is (.tuple [.g (.sl 4 ((genC p ku base).map Instr.g)),.g (.sl 1 ((genA p ku base).map intG)),.g (.int (genE p ku base))])) h (.tuple [.nils,.nils,.g (.int 5)]):=fun hb h=>retGen (by rw[e,if_pos hb]) (by decide)
 refine ⟨fun a1=>⟨rfl,r5 (.inl a1) _⟩,fun a1=>⟨fun a2=>⟨rfl,r5 (.inr (by omega)) _⟩,fun a2=>?_⟩⟩
 clear r5
 rw[if_neg (by omega)] at e
 obtain ⟨k,hk⟩:∃ k:Nat,ku=(k:Int):=⟨ku.toNat,by omega⟩
 subst hk
 have hkl:k < p.length:=by omega
 have hpk:p.getD (k:Int).toNat ⟨[],[],[],[]⟩=p[k]:=by rw[Int.toNat_natCast];simp[hkl]
 rw[hpk] at e
 have hmem:p[k]∈p:=List.getElem_mem hkl
 obtain ⟨hp5,hUE,_,hUS⟩:=progE_inv hgood
 obtain ⟨_,hv8,ha3,hf8,_,hAE,hFE⟩:=unitE_inv (hUE _ hmem)
 have hsz:∀ a∈p[k].arrays,1<=a.size/\a.size<=10:=fun a ha=>(arrE_inv (hAE a ha)).2
 have hwd:0<=unitWords p[k]/\unitWords p[k]<=40:=by
  have:=sizes_le hsz
  unfold unitWords
  omega
 have r2:(base < 0\/base+unitWords p[k] > 250)->∀ h:Heap,RetTo (Is (.tuple [.g (.sl 4 ((genC p k base).map Instr.g)),.g (.sl 1 ((genA p k base).map intG)),.g (.int (genE p k base))])) h (.tuple [.nils,.nils,.g (.int 2)]):=fun hb h=>retGen (by rw[e,if_pos hb]) (by decide)
 refine ⟨fun b1=>⟨rfl,r2 (.inl b1) _⟩,fun b1=>?_⟩
 refine ⟨k,_,rfl,gm hkl,?_⟩
 refine callIs (.inl rfl) (Words_any p[k] hv8 hsz ha3) ?_
 refine ⟨_,I64.wrap (by unfold I64;omega),?_⟩
 refine ⟨fun b2=>⟨rfl,r2 (.inr b2) _⟩,fun b2=>?_⟩
 clear r2
 rw[if_neg (by omega)] at e
 have hfl:(p[k].funcs.map Fun.g).length=p[k].funcs.length:=List.length_map _
 obtain ⟨w0,hw0⟩:∃ w0:GW,w0=⟨[],[],0,0⟩:=⟨_,rfl⟩
 refine ⟨k,_,rfl,gm hkl,?_⟩
 refine loopR (ι:=Nat × Barb.Fun) (fun i=>[(10,.ptr 0 0),(11,.row 3),(50,.g (.sl 4 (p[k].funcs.map Fun.g))),(51,.g (.int (p[k].funcs.map Fun.g).length)),(52,.g (.int (i.1:Int)))])
  (fun i=>WHr ⟨p,p[k],base,i.2⟩ k (funsG p p[k] base (p[k].funcs.take i.1) w0) []++[Obj.row ((atsG p p[k] base (p[k].funcs.take i.1) w0).map intG) 3 1]) (fun i=>i.1<=p[k].funcs.length) (fun i=>p[k].funcs.length - i.1)
  ⟨(0,⟨[],false,[],[]⟩),[.old 0,.nil 67 4,.nil 3 1,.nil 3 1],⟨rfl,.inr (by rw[hw0];exact startU ⟨p,p[k],base,⟨[],false,[],[]⟩⟩ k rfl),.inr ⟨lk rfl,.inr rfl,lk rfl,lk rfl,lk rfl,trivial⟩,rfl⟩,Nat.zero_le _⟩ ?_
 rintro Rd hRd ⟨i,f0⟩ hi
 dsimp only at hi
 have hlen:(funsG p p[k] base (p[k].funcs.take i) w0).code.length<=i*30198999002/\(funsG p p[k] base (p[k].funcs.take i) w0).calls.length<=(funsG p p[k] base (p[k].funcs.take i) w0).code.length:=by
  have h1:=funs_len p p[k] base 30198999000 (p[k].funcs.take i) w0 (fun f hf=>body_sz hgood hN hmem (List.mem_of_mem_take hf)) (by rw[hw0];exact Nat.le_refl _)
  have h2:(p[k].funcs.take i).length=i:=by rw[List.length_take];omega
  have h3:w0.code.length=0:=by rw[hw0];rfl
  rw[h2,h3,Nat.zero_add] at h1
  exact h1
 refine ⟨fun c1=>?_,fun c1=>?_⟩
 ·have hil:i < p[k].funcs.length:=by have:(i:Int) < ((p[k].funcs.map Fun.g).length:Nat):=c1;omega
  have hfm:p[k].funcs[i]∈p[k].funcs:=List.getElem_mem hil
  have n1:=funsG_one p p[k] base p[k].funcs i hil w0
  have n2:=atsG_one p p[k] base p[k].funcs i hil w0
  have hail:(atsG p p[k] base (p[k].funcs.take i) w0).length=i:=by rw[atsG_len,List.length_take];omega
  generalize funsG p p[k] base (p[k].funcs.take i) w0=wi at *
  generalize atsG p p[k] base (p[k].funcs.take i) w0=ai at *
  obtain ⟨hfit,hbE,hbS⟩:=fits_of hgood hmem (base:=base) (by omega) hfm
  obtain ⟨_,_,hbl,hbI⟩:=(hp.1 _ hmem).2.2.2.2.1 _ hfm
  have hbz:=body_sz hgood hN hmem hfm
  have hgok:GOk ⟨p,p[k],base,p[k].funcs[i]⟩ k:=⟨hkl,rfl,hv8,ha3⟩
  have h8:i*30198999002<=8*30198999002:=Nat.mul_le_mul_right _ (by omega)
  have hroom:Room (szSs p[k].funcs[i].body) { wi with deep:=0 }:=⟨by show wi.code.length+_<=_;omega,hlen.2⟩
  have hct:=genStmts_any hgok hp5 (fun v hv=>(unitE_inv (hUE v hv)).2.2.2.1) hfit.params 12 p[k].funcs[i].body hbE hbS hbl hbI { wi with deep:=0 } hroom
  have hg:=Grow.stmts ⟨p,p[k],base,p[k].funcs[i]⟩ p[k].funcs[i].body { wi with deep:=0 }
  unfold funG at n1
  generalize Barb.stmtsG ⟨p,p[k],base,p[k].funcs[i]⟩ p[k].funcs[i].body { wi with deep:=0 }=w1 at *
  have hg2:w1.code.length<=wi.code.length+szSs p[k].funcs[i].body:=hg.hi
  have lw:((wi.code.map Instr.g).length:Int)=wi.at_:=by rw[List.length_map];rfl
  have la:(ai.map intG).length=i:=by rw[List.length_map];exact hail
  refine ⟨i,_,rfl,(gm hil).trans (congrArg some (Fun.g_eq _)),?_⟩
  refine ⟨[[.int (wi.code.map Instr.g).length]],rfl,rfl,⟨rfl,trivial⟩,?_⟩
  refine ⟨⟨by simp only[maxLen,List.length_cons,List.length_nil];omega,by simp only[List.length_cons,List.length_nil];omega⟩,?_⟩
  refine callW genStmts_fn 1 2 [.dead,.dead,.dead,.blk p[k].funcs[i].d 46,.row [[.int (wi.code.map Instr.g).length]] 3 1,.row (ai.map intG++[[.int (wi.code.map Instr.g).length]]) 3 1] hct ⟨rfl,.inl rfl,.inl rfl,rfl⟩ rfl rfl rfl ?_
  refine callW put_fn 7 8 [.dead,.dead,.dead,.blk p[k].funcs[i].d 46,.row [[.int (wi.code.map Instr.g).length]] 3 1,.row (ai.map intG++[[.int (wi.code.map Instr.g).length]]) 3 1,.dead,.dead] (put_any ⟨p,p[k],base,p[k].funcs[i]⟩ k w1 (by omega) 1 0 0 0 1) ⟨rfl,.inl rfl,.inl rfl,rfl⟩ rfl rfl rfl ?_
  refine callW put_fn 9 10 [.dead,.dead,.dead,.blk p[k].funcs[i].d 46,.row [[.int (wi.code.map Instr.g).length]] 3 1,.row (ai.map intG++[[.int (wi.code.map Instr.g).length]]) 3 1,.dead,.dead,.dead,.dead] (put_any ⟨p,p[k],base,p[k].funcs[i]⟩ k _ (by rw[put_len];omega) 13 0 0 0 (-1)) ⟨rfl,.inl rfl,.inl rfl,rfl⟩ rfl rfl rfl ?_
  refine ⟨_,I64.wrap (by unfold I64;omega),?_⟩
  refine hRd _ _ _ ⟨(i+1,p[k].funcs[i]),[.old 0,.old 11,.old 12,.old 6],⟨rfl,.inr ⟨⟨rfl,.inl (by dsimp only;rw[n1];rfl)⟩,⟨(by dsimp only;rw[n1]),rfl,rfl⟩,⟨(by dsimp only;rw[n1]),rfl,rfl⟩,⟨(by dsimp only;rw[n2,List.map_append,<- lw];rfl),rfl,rfl⟩,trivial⟩,.inr ⟨lk rfl,lk rfl,lk rfl,lk rfl,lkI (by push_cast;rfl),trivial⟩,rfl⟩,hil,by show p[k].funcs.length - (i+1) < p[k].funcs.length - i;omega⟩
 ·have hil:i=p[k].funcs.length:=by have:¬(i:Int) < ((p[k].funcs.map Fun.g).length:Nat):=c1;omega
  subst hil
  rw[List.take_length] at hlen ⊢
  have hW:funsG p p[k] base p[k].funcs w0=unitW p p[k] base:=by rw[hw0];rfl
  rw[hW] at hlen ⊢
  have hA:atsG p p[k] base p[k].funcs w0=atsG p p[k] base p[k].funcs ⟨[],[],0,0⟩:=by rw[hw0]
  rw[hA]
  clear hW hA
  have hWr:=Writ.funs p[k].funcs ⟨[],[],0,0⟩ (fun f hf=>fits_of hgood hmem (base:=base) (by omega) hf)
  have hC:unitC p p[k] base=patchG (atsG p p[k] base p[k].funcs ⟨[],[],0,0⟩) (unitW p p[k] base).calls (unitW p p[k] base).code:=rfl
  have hAl:=atsG_len p p[k] base p[k].funcs ⟨[],[],0,0⟩
  obtain ⟨cs,hcs,hpw,hcl⟩:=hWr.calls
  have hcs':(unitW p p[k] base).calls=cs:=hcs
  have hcl':∀ x∈(unitW p p[k] base).calls,callI p[k].funcs.length (unitW p p[k] base).code x:=fun x hx=>(hcl x (by rw[<- hcs'];exact hx)).2.2
  rw[<- hcs'] at hpw
  clear hcl hcs hcs' cs hWr
  have hGA:genE p k base=0->genA p k base=atsG p p[k] base p[k].funcs ⟨[],[],0,0⟩:=fun h0=>by unfold genA;rw[if_pos h0,hpk]
  have hGC:genE p k base=0->genC p k base=unitC p p[k] base:=fun h0=>by unfold genC;rw[if_pos h0,hpk]
  rw[hC] at e hGC
  generalize atsG p p[k] base p[k].funcs ⟨[],[],0,0⟩=ats at *
  generalize unitW p p[k] base=w at *
  have lcl:(w.calls.map intG).length=w.calls.length:=List.length_map _
  refine loopR (ι:=Nat) (fun i=>[(10,.ptr 0 0),(11,.row 3),(83,.row 2),(84,.g (.int (w.calls.map intG).length)),(85,.g (.int (i:Int)))])
   (fun i=>WHr ⟨p,p[k],base,f0⟩ k { w with code:=patchG ats (w.calls.take i) w.code } []++[Obj.row (ats.map intG) 3 1]) (fun i=>i<=w.calls.length) (fun i=>w.calls.length - i)
   ⟨0,[.old 0,.old 1,.old 2,.old 3],⟨rfl,.inl rfl,.inr ⟨lk rfl,lk rfl,lk rfl,lk rfl,lk rfl,trivial⟩,rfl⟩,Nat.zero_le _⟩ ?_
  intro Rd hRd i hi
  refine ⟨fun d1=>?_,fun d1=>?_⟩
  ·have hil:i < w.calls.length:=by have:(i:Int) < ((w.calls.map intG).length:Nat):=d1;omega
   have hone:=patchG_one ats w.calls i hil w.code
   obtain ⟨q,a,n,q1,q2,q3,q4,q5,q6⟩:=patch_calls (ats:=ats) hpw hcl' i i hil (Nat.le_refl _)
   generalize patchG ats (w.calls.take i) w.code=ci at *
   refine ⟨i,rfl,(by rw[lcl];exact hil),?_⟩
   refine ⟨_,gm hil,?_⟩
   refine ⟨none,rfl,?_⟩
   have hq:q < ci.length:=(List.getElem?_eq_some_iff.1 q2).1
   have hcq:ci[q]=⟨11,a,n,0⟩:=(List.getElem?_eq_some_iff.1 q2).2
   refine ⟨q,congrArg (fun z=>D.g (.int z)) q1,(by rw[List.length_map];exact hq),?_⟩
   obtain ⟨na,hna⟩:∃ na:Nat,a=(na:Int):=⟨a.toNat,by omega⟩
   subst hna
   have hnl:na < ats.length:=by omega
   refine ⟨_,(gm hq).trans (congrArg some (congrArg Instr.g hcq)),?_⟩
   refine ⟨na,rfl,(by rw[List.length_map];exact hnl),?_⟩
   refine ⟨_,gm hnl,?_⟩
   refine ⟨q,congrArg (fun z=>D.g (.int z)) q1,(by rw[List.length_map];exact hq),?_⟩
   refine ⟨_,[.int ats[na]],gm hq,⟨rfl,trivial⟩,Nat.le_of_ble_eq_true rfl,(fun h=>by cases h),?_⟩
   refine ⟨_,I64.wrap (by unfold I64;omega),?_⟩
   have hp1:patch1 ats ci w.calls[i]=setA ci q ats[na]:=by
    unfold patch1
    rw[q1,Int.toNat_natCast,show ci.getD q ⟨0,0,0,0⟩=⟨11,na,n,0⟩ by rw[List.getD_eq_getElem?_getD,q2];rfl]
    dsimp only
    rw[Int.toNat_natCast,List.getD_eq_getElem?_getD,List.getElem?_eq_getElem hnl]
    rfl
   have hset:=setA_row (w:={ w with code:=ci }) hq ats[na]
   refine hRd _ _ _ ⟨i+1,[.old 0,.old 1,.old 2,.old 3],⟨rfl,.inr ⟨⟨rfl,.inl rfl⟩,⟨(by rw[hone,hp1];exact hset),rfl,rfl⟩,⟨rfl,rfl,rfl⟩,⟨rfl,rfl,rfl⟩,trivial⟩,.inr ⟨lk rfl,lk rfl,lk rfl,lk rfl,lkI (by push_cast;rfl),trivial⟩,rfl⟩,hil,by show w.calls.length - (i+1) < w.calls.length - i;omega⟩
  ·have hil:i=w.calls.length:=by have:¬(i:Int) < ((w.calls.map intG).length:Nat):=d1;omega
   subst hil
   rw[List.take_length]
   generalize patchG ats w.calls w.code=ci at *
   have lci:(ci.map Instr.g).length=ci.length:=List.length_map _
   have r1:(ci.length > 1200\/w.most > 40)->∀ h:Heap,RetTo (Is (.tuple [.g (.sl 4 ((genC p k base).map Instr.g)),.g (.sl 1 ((genA p k base).map intG)),.g (.int (genE p k base))])) h (.tuple [.nils,.nils,.g (.int 1)]):=fun hb h=>retGen (by rw[e,if_pos hb]) (by decide)
   refine ⟨fun x1=>⟨rfl,r1 (.inl (by have:(1200:Int) < ((ci.map Instr.g).length:Nat):=x1;omega)) _⟩,fun x1=>⟨fun x2=>⟨rfl,r1 (.inr x2) _⟩,fun x2=>?_⟩⟩
   clear r1
   rw[if_neg (by have:¬(1200:Int) < ((ci.map Instr.g).length:Nat):=x1;have:¬40 < w.most:=x2;omega)] at e
   refine ⟨rfl,?_⟩
   rw[hGC e,hGA e,e]
   exact retIs (.inl rfl)
end Go.Proofs.Ythcmdjkaepclhaa
