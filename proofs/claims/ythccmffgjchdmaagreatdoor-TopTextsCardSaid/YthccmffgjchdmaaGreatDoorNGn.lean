import Derived.Test.YthccmffgjchdmaaGreatDoorNWd
import Derived.Test.YthccmffgjchdmaaGreatDoorNFd
import Derived.Test.YthccmffgjchdmaaGreatDoorNGh
import Derived.Test.YthccmffgjchdmaaGreatDoorNNq
open Go Go.Proofs Go.Proofs.YthccmffgjchdmaaGreatDoor
namespace Barb
open Go Go.Dm Go.Eng
structure GW where
 code:List Instr
 calls:List Int
 deep:Int
 most:Int
def GW.put (w:GW) (op a b c more:Int):GW :=
 ⟨w.code++[⟨op,a,b,c⟩],w.calls,IntKind.i64.wrap (w.deep+more),if IntKind.i64.wrap (w.deep+more) > w.most then IntKind.i64.wrap (w.deep+more) else w.most⟩
def setA (l:List Instr) (i:Nat) (a:Int):List Instr:=l.modify i (λx=>{ x with a:=a })
def GW.setA (w:GW) (i:Nat) (a:Int):GW:={ w with code:=Barb.setA w.code i a }
def GW.at_ (w:GW):Int:=w.code.length
structure GC where
 p:List Unit
 u:Unit
 base:Int
 f:Fun
def Zhz (name:Str):List Arr->Int->Int × Int
 | [],at_=>(at_,0)
 | a :: l,at_=>if a.name=name then (at_,a.size) else Zhz name l (IntKind.i64.wrap (at_+a.size))
noncomputable def ZpT (u:Unit) (name:Str):Int:=idx (λs=>name=s) u.vars
noncomputable def Zfe (f:Fun) (name:Str):Int:=idx (λs=>name=s) f.params
noncomputable def ZcG (g:GC) (name:Str):Int × Int :=
 if 0<=ZpT g.u name then (IntKind.i64.wrap (g.base+ZpT g.u name),1) else Zhz name g.u.arrays (IntKind.i64.wrap (g.base+g.u.vars.length))
noncomputable def Zj7 (g:GC) (name:Str) (w:GW):GW :=
 let w3:=((w.put 3 0 0 0 1).put 1 (ZcG g name).2 0 0 1).put 8 7 0 0 (-1)
 let w6:=((w3.put 10 0 0 0 (-1)).put 9 (w3.at_+3) 0 0 0).put 15 0 0 0 0
 ((w6.setA w3.code.length (w3.at_+2)).put 1 (ZcG g name).1 0 0 1).put 8 1 0 0 (-1)
def Zkw (l:List Fun):Int:=((l.filter (λf=>f.isOpen)).length:Nat)
def Zk9 (u:Unit) (k:Int):Int:=Zkw (u.funcs.take k.toNat)
noncomputable def Zoj (g:GC) (of s:Str) (n:Nat) (w:GW):GW :=
 if of=[] then ({ w with calls:=w.calls++[w.at_] }:GW).put 11 (Zfh g.u s) n 0 (1 - n)
 else w.put 12 (Zc6 g.p of) (Zk9 (g.p.getD (Zc6 g.p of).toNat ⟨[],[],[],[]⟩) (Zfh (g.p.getD (Zc6 g.p of).toNat ⟨[],[],[],[]⟩) s)) n (1 - n)
noncomputable def Zwg (g:GC) (s:Str) (w:GW):GW :=
 if 0<=Zfe g.f s then w.put 4 (Zfe g.f s) 0 0 1 else (w.put 1 (ZcG g s).1 0 0 1).put 6 0 0 0 0
noncomputable def ZkA (g:GC) (k n:Int) (of s:Str) (m:Nat) (w:GW):GW :=
 if k=1 then w.put 1 n 0 0 1 else if k=2 then Zwg g s w else if k=3 then (Zj7 g s w).put 6 0 0 0 0 else if k=4 then Zoj g of s m w else w.put 8 n 0 0 (-1)
mutual
noncomputable def Zca (g:GC):Expr->GW->GW
 | .mk k n of s args,w=>ZkA g k n of s args.length (Zbe g args w)
noncomputable def Zbe (g:GC):List Expr->GW->GW
 | [],w=>w
 | x :: l,w=>Zbe g l (Zca g x w)
end
noncomputable def ZxC (g:GC) (s:Str) (x:Expr) (w:GW):GW :=
 if 0<=Zfe g.f s then (Zca g x w).put 5 (Zfe g.f s) 0 0 (-1) else (Zca g x (w.put 1 (ZcG g s).1 0 0 1)).put 7 0 0 0 (-2)
noncomputable def Znk (g:GC) (s:Str) (x y:Expr) (w:GW):GW :=
 ((Zj7 g s ((Zca g y (Zca g x w)).put 5 g.f.params.length 0 0 (-1))).put 4 g.f.params.length 0 0 1).put 7 0 0 0 (-2)
mutual
noncomputable def Zjp (g:GC):Stmt->GW->GW
 | .mk k s xs b e,w =>
  if k=1 then ZxC g s (xs.getD 0 noX) w
  else if k=2 then Znk g s (xs.getD 0 noX) (xs.getD 1 noX) w
  else if k=3\/k=4 then
   let w1:=Zca g (xs.getD 0 noX) w
   let w2:=stmtsG g b (w1.put 10 0 0 0 (-1))
   let w3:=(w2.put 9 (if k=4 then w.at_ else 0) 0 0 0)
   let w4:=w3.setA w1.code.length w3.at_
   if k=3 then
    let w5:=stmtsG g e w4
    w5.setA w2.code.length w5.at_
   else w4
  else if k=5 then (Zca g (xs.getD 0 noX) w).put 13 0 0 0 (-1)
  else (Zca g (xs.getD 0 noX) w).put 14 0 0 0 (-1)
noncomputable def stmtsG (g:GC):List Stmt->GW->GW
 | [],w=>w
 | x :: l,w=>stmtsG g l (Zjp g x w)
end
noncomputable def Zsh (p:List Unit) (u:Unit) (base:Int) (f:Fun) (w:GW):GW:=((stmtsG ⟨p,u,base,f⟩ f.body { w with deep:=0 }).put 1 0 0 0 1).put 13 0 0 0 (-1)
noncomputable def ZcO (p:List Unit) (u:Unit) (base:Int):List Fun->GW->GW
 | [],w=>w
 | f :: l,w=>ZcO p u base l (Zsh p u base f w)
noncomputable def Zjb (p:List Unit) (u:Unit) (base:Int):List Fun->GW->List Int
 | [],_=>[]
 | f :: l,w=>w.at_ :: Zjb p u base l (Zsh p u base f w)
def Zc2 (ats:List Int):List Int->List Instr->List Instr
 | [],c=>c
 | k :: l,c=>Zc2 ats l (setA c k.toNat (ats.getD (c.getD k.toNat ⟨0,0,0,0⟩).a.toNat 0))
noncomputable def Zew (p:List Unit) (u:Unit) (base:Int):GW:=ZcO p u base u.funcs ⟨[],[],0,0⟩
noncomputable def Zit (p:List Unit) (u:Unit) (base:Int):List Instr:=Zc2 (Zjb p u base u.funcs ⟨[],[],0,0⟩) (Zew p u base).calls (Zew p u base).code
noncomputable def ZiD (p:List Unit) (u base:Int):Int :=
 if ZbC p≠0 then ZbC p else if u < 0\/u >= p.length then 5
 else if base < 0\/base+ZaC (p.getD u.toNat ⟨[],[],[],[]⟩) > 250 then 2
 else if (Zit p (p.getD u.toNat ⟨[],[],[],[]⟩) base).length > 1200\/(Zew p (p.getD u.toNat ⟨[],[],[],[]⟩) base).most > 40 then 1 else 0
structure Grow (n:Nat) (w w':GW):Prop where
 lo:w.code.length<=w'.code.length
 hi:w'.code.length<=w.code.length+n
 calls:w'.calls.length+w.code.length<=w.calls.length+w'.code.length
theorem Grow.refl (w:GW):Grow 0 w w:=⟨Yas _,Yas _,Yas _⟩
theorem Grow.trans {n m:Nat} {a b c:GW} (h:Grow n a b) (k:Grow m b c):Grow (n+m) a c :=
 ⟨YaC h.lo k.lo,by have:=h.hi;have:=k.hi;omega,by have:=h.calls;have:=k.calls;omega⟩
theorem Grow.mono {n m:Nat} {a b:GW} (h:Grow n a b) (hm:n<=m):Grow m a b:=⟨h.lo,by have:=h.hi;omega,h.calls⟩
theorem ZaY (w:GW) (op a b c more:Int):(w.put op a b c more).code.length=w.code.length+1:=by unfold GW.put;simp
theorem Zg2 (w:GW) (op a b c more:Int):(w.put op a b c more).calls=w.calls:=rfl
theorem ZeU (w:GW) (i:Nat) (a:Int):(w.setA i a).code.length=w.code.length:=by unfold GW.setA Barb.setA;simp
theorem Grow.put (w:GW) (op a b c more:Int):Grow 1 w (w.put op a b c more):=⟨by rw[ZaY];omega,by rw[ZaY];omega,by rw[ZaY,Zg2];omega⟩
theorem Grow.setA (w:GW) (i:Nat) (a:Int):Grow 0 w (w.setA i a):=⟨by rw[ZeU];omega,by rw[ZeU];omega,by rw[ZeU];show w.calls.length+_<=_;omega⟩
theorem Grow.elem (g:GC) (s:Str) (w:GW):Grow 8 w (Zj7 g s w):=by unfold Zj7;exact ((((((((Grow.put w 3 0 0 0 1).trans (.put _ 1 _ 0 0 1)).trans (.put _ 8 7 0 0 (-1))).trans (.put _ 10 0 0 0 (-1))).trans (.put _ 9 _ 0 0 0)).trans (.put _ 15 0 0 0 0)).trans (.setA _ _ _)).trans (.put _ 1 _ 0 0 1)).trans (.put _ 8 1 0 0 (-1))
theorem Grow.call (g:GC) (of s:Str) (n:Nat) (w:GW):Grow 1 w (Zoj g of s n w):=by
 unfold Zoj;split
 ·exact ⟨by rw[ZaY];exact Nat.le_add_right _ _,by rw[ZaY];exact Yas _,by rw[ZaY,Zg2];simp;omega⟩
 ·exact .put _ _ _ _ _ _
theorem Grow.last (g:GC) (k n:Int) (of s:Str) (m:Nat) (w:GW):Grow 9 w (ZkA g k n of s m w):=by
 unfold ZkA;split
 ·exact (Grow.put _ _ _ _ _ _).mono (by decide)
 ·split
  ·unfold Zwg;split
   ·exact (Grow.put _ _ _ _ _ _).mono (by decide)
   ·exact ((Grow.put _ _ _ _ _ _).trans (.put _ _ _ _ _ _)).mono (by decide)
  ·split
   ·exact (Grow.elem _ _ _).trans (.put _ _ _ _ _ _)
   ·split
    ·exact (Grow.call _ _ _ _ _).mono (by decide)
    ·exact (Grow.put _ _ _ _ _ _).mono (by decide)
mutual
def szE:Expr->Nat
 | .mk _ _ _ _ args=>1+Zee args
def Zee:List Expr->Nat
 | []=>0
 | x :: l=>szE x+Zee l
end
mutual
theorem Grow.expr (g:GC):∀(x:Expr) (w:GW),Grow (9*szE x) w (Zca g x w)
 | .mk k n of s args,w=>by rw[Zca,szE];exact ((Grow.exprs g args w).trans (.last g k n of s args.length _)).mono (by omega)
theorem Grow.exprs (g:GC):∀(l:List Expr) (w:GW),Grow (9*Zee l) w (Zbe g l w)
 | [],w=>by rw[Zbe];exact .refl w
 | x :: l,w=>by rw[Zbe,Zee];exact ((Grow.expr g x w).trans (.exprs g l _)).mono (by omega)
end
mutual
def szS:Stmt->Nat
 | .mk _ _ xs b e=>40+9*Zee xs+Zfo b+Zfo e
def Zfo:List Stmt->Nat
 | []=>0
 | x :: l=>szS x+Zfo l
end
theorem Ztj:szE noX=1:=rfl
theorem ZiN:∀(l:List Expr) (i:Nat),szE (l.getD i noX)<=1+Zee l
 | [],i=>by simp[Ztj]
 | x :: l,0=>by simp[Zee];omega
 | x :: l,i+1=>by have:=ZiN l i;simp only[List.getD_cons_succ,Zee];omega
theorem ZpV:∀(l:List Expr),szE (l.getD 0 noX)+szE (l.getD 1 noX)<=2+Zee l
 | []=>by simp[Ztj,Zee]
 | x :: l=>by have:=ZiN l 0;simp only[List.getD_cons_succ,List.getD_cons_zero,Zee];omega
theorem Grow.set (g:GC) (s:Str) (x:Expr) (w:GW):Grow (2+9*szE x) w (ZxC g s x w):=by
 unfold ZxC;split
 ·exact ((Grow.expr _ _ _).trans (.put _ _ _ _ _ _)).mono (by omega)
 ·exact (((Grow.put _ _ _ _ _ _).trans (.expr _ _ _)).trans (.put _ _ _ _ _ _)).mono (by omega)
theorem Grow.put2 (g:GC) (s:Str) (x y:Expr) (w:GW):Grow (11+9*szE x+9*szE y) w (Znk g s x y w):=by unfold Znk;exact ((((((Grow.expr _ _ _).trans (.expr _ _ _)).trans (.put _ _ _ _ _ _)).trans (.elem _ _ _)).trans (.put _ _ _ _ _ _)).trans (.put _ _ _ _ _ _)).mono (by omega)
mutual
theorem Grow.stmt (g:GC):∀(x:Stmt) (w:GW),Grow (szS x) w (Zjp g x w)
 | .mk k s xs b e,w=>by
  have h0:=ZiN xs 0;have h2:=ZpV xs;rw[Zjp,szS];split
  ·exact (Grow.set _ _ _ _).mono (by omega)
  ·split
   ·exact (Grow.put2 _ _ _ _ _).mono (by omega)
   ·split
    ·have g4:=(((((Grow.expr g (xs.getD 0 noX) w).trans (.put _ 10 0 0 0 (-1))).trans (.stmts g b _)).trans (.put _ 9 (if k=4 then w.at_ else 0) 0 0 0)).trans (.setA _ (Zca g (xs.getD 0 noX) w).code.length ((stmtsG g b ((Zca g (xs.getD 0 noX) w).put 10 0 0 0 (-1))).put 9 (if k=4 then w.at_ else 0) 0 0 0).at_));dsimp only;split
     ·exact ((g4.trans (.stmts g e _)).trans (.setA _ _ _)).mono (by omega)
     ·exact g4.mono (by omega)
    ·split
     ·exact ((Grow.expr _ _ _).trans (.put _ _ _ _ _ _)).mono (by omega)
     ·exact ((Grow.expr _ _ _).trans (.put _ _ _ _ _ _)).mono (by omega)
theorem Grow.stmts (g:GC):∀(l:List Stmt) (w:GW),Grow (Zfo l) w (stmtsG g l w)
 | [],w=>by rw[stmtsG];exact .refl w
 | x :: l,w=>by rw[stmtsG,Zfo];exact (Grow.stmt g x w).trans (.stmts g l _)
end
structure Room (n:Nat) (w:GW):Prop where
 code:w.code.length+n<=4000000000000
 calls:w.calls.length<=w.code.length
theorem Room.step {n m k:Nat} {w w':GW} (h:Room n w) (g:Grow m w w') (hk:m+k<=n):Room k w':=⟨by have:=h.code;have:=g.hi;omega,by have:=h.calls;have:=g.calls;omega⟩
theorem Zhm (g:GC):∀(a b:List Expr) (w:GW),Zbe g (a++b) w=Zbe g b (Zbe g a w)
 | [],_,_=>by rw[Zbe];rfl
 | x :: a,b,w=>by rw[List.cons_append,Zbe,Zbe];exact Zhm g a b _
theorem Zsr (g:GC) (l:List Expr) (j:Nat) (hj:j < l.length) (w:GW):Zbe g (l.take (j+1)) w=Zca g l[j] (Zbe g (l.take j) w):=by rw[ZaJ hj,Zhm,Zbe,Zbe]
theorem Zgw:∀(a b:List Expr),Zee (a++b)=Zee a+Zee b
 | [],b=>by simp[Zee]
 | x :: a,b=>by rw[List.cons_append,Zee,Zee,Zgw a b];omega
theorem ZvS (l:List Expr) (j:Nat) (hj:j < l.length):Zee (l.take (j+1))=Zee (l.take j)+szE l[j]:=by rw[ZaJ hj,Zgw,Zee,Zee];omega
theorem ZmX (l:List Expr) (j:Nat):Zee (l.take j)<=Zee l:=by
 conv=>rhs;rw[<- Ya7 j l,Zgw]
 omega
theorem Zt2 (l:List Fun) (j:Nat) (hj:j < l.length):Zkw (l.take (j+1))=Zkw (l.take j)+if l[j].isOpen then 1 else 0:=by
 unfold Zkw;rw[ZaJ hj,List.filter_append,Yab];cases h:l[j].isOpen<;>simp[h]
theorem Zqh (l:List Fun):0<=Zkw l/\Zkw l<=l.length:=by unfold Zkw;have:=List.length_filter_le (λf:Fun=>f.isOpen) l;omega
end Barb
namespace ZN
open Go Go.Dm Go.Eng Go.RowKit Barb
variable {L:Lv}
abbrev WB (g:GC) (ui:Int) (w:GW):List D:=[.g (.sl 4 (g.p.map Unit.g)),.g (.int ui),.g (.int g.base),.g (.str g.f.name),.g (.bool g.f.isOpen),.g (.sl 1 (g.f.params.map ZaT)),.g (.sl 5 (g.f.body.map Stmt.g)),.row 1,.row 2,.g (.int w.deep),.g (.int w.most)]
abbrev WH (g:GC) (ui:Int) (w:GW):Zae:=[.blk (WB g ui w) 131,.row (w.code.map Instr.g) 135 4,.row (w.calls.map ZaU) 3 1]
theorem Ze6 {R:D->Zae->Prop} {env:Dm.Env} {g:GC} {ui:Int} {w:GW} {h hin:Zae} {code calls:List (List GV)} {d0:D} (d:D) (src:List Src) (aR:Zef src=true) (hlen:ZoE src (WH g ui w)=true)
  (h0:conv h src 4 (env 0)=.ptr 0 0) (hd:conv h src 4 d0=d\/ZiI (ZjJ src) 4 (conv h src 4 d0) d)
  (hT:ZbW h src=[.blk (WB g ui w) 131,.row code 135 4,.row calls 3 1]) (e1:code=w.code.map Instr.g) (e2:calls=w.calls.map ZaU) (q:R d (WH g ui w)):ToH [0] hin 1 [] R h env d0:=by
 subst e1;subst e2;refine ⟨src,d,WH g ui w,⟨aR,.inr ?_,.inr ?_,hlen⟩,rfl,trivial,q⟩
 ·rw[hT];exact ⟨⟨rfl,.inl rfl⟩,⟨rfl,rfl,rfl⟩,⟨rfl,rfl,rfl⟩,trivial⟩
 ·rw[Yan,Yan,Yan,h0];exact ⟨by rcases hd with hd | hd;exact lk hd;exact hd,lk rfl,trivial⟩
theorem code_row (l:List Barb.Instr) (op a b c:Int):l.map Instr.g++[[.int op,.int a,.int b,.int c]]=(l++[Barb.Instr.mk op a b c]).map Instr.g:=by rw[Yaf];rfl
set_option maxRecDepth 20000 in
theorem Za7 (g:GC) (ui:Int) (w:GW) (hw:w.code.length<=4000000000000) (op a b c more:Int) :
  CTH Tryz.prog (gl L) 52 1 (WH g ui w) [.ptr 0 0,.g (.int op),.g (.int a),.g (.int b),.g (.int c),.g (.int more)] (λout=>out=.ret (.tuple []) (WH g ui (w.put op a b c more))):=by have lc:(w.code.map Instr.g).length=w.code.length:=Yaa _;refine Za4 [] hT hF hM Tryz.func52 rfl 46 rfl (by kernel_rfl) [] rfl [.ptr 0 0,.g (.int op),.g (.int a),.g (.int b),.g (.int c),.g (.int more)] rfl (WH g ui w) [0] rfl rfl rfl 1 [] trivial _ ?_;refine ⟨[[.int op,.int a,.int b,.int c]],rfl,rfl,⟨rfl,rfl,rfl,rfl,trivial⟩,?_⟩;refine ⟨⟨by simp[maxLen];omega,by simp;omega⟩,?_⟩;refine ⟨_,rfl,?_⟩;refine ⟨none,rfl,?_⟩;exact ⟨rfl,Ze6 (w:=w.put op a b c more) (.tuple []) [.old 0,.old 4,.old 2] rfl rfl rfl (.inl rfl) rfl (code_row w.code op a b c) rfl rfl⟩
theorem ZgO (g:GC) (ku:Nat) (hk:ku < g.p.length) (hu:g.p[ku]=g.u) (w:GW) (hv:g.u.vars.length<=9223372036854775807) (ha:g.u.arrays.length<=9223372036854775806) (name:Str) :
  CTH Tryz.prog (gl L) 110 1 (WH g ku w) [.ptr 0 0,.g (.str name)] (λout=>out=.ret (.tuple [.g (.int (ZcG g name).1),.g (.int (ZcG g name).2)]) (WH g ku w)):=by
 have lv:(g.u.vars.map ZaT).length=g.u.vars.length:=Yaa _;have la:(g.u.arrays.map Arr.g).length=g.u.arrays.length:=Yaa _;have e:ZcG g name=ZcG g name:=rfl
 conv at e=>rhs;unfold ZcG
 unfold ZpT at e;refine Za4 [] hT hF hM Tryz.func110 rfl 61 rfl (by kernel_rfl) [.tmp 4,.tmp 5] rfl [.ptr 0 0,.g (.str name)] rfl (WH g ku w) [0] rfl rfl rfl 1 [] trivial _ ?_;refine ⟨none,rfl,ku,_,rfl,(gm hk).trans (congrArg (λz=>some (Unit.g z)) hu),?_⟩;refine Zad (.inl rfl) (Zez g.u.vars hv name) ?_;refine ⟨λh=>?_,λh=>?_⟩
 ·rw[if_pos h] at e;refine ⟨_,rfl,?_⟩;exact ⟨rfl,Ze6 (.tuple [.g (.int (ZcG g name).1),.g (.int (ZcG g name).2)]) [.old 0,.old 1,.old 2] rfl rfl rfl (.inr (.inr ⟨lkI (by rw[e]),lkI (by rw[e]),trivial⟩)) rfl rfl rfl rfl⟩
 rw[if_neg h] at e;refine ⟨none,rfl,_,rfl,?_⟩;refine ZaO (ι:=Nat × Int) (λi=>[(0,.ptr 0 0),(6,.ptr 3 0),(8,.g (.int i.2)),(44,.g (.int (i.1:Int)))]) (λ_=>WH g ku w++[.blk g.u.d 37]) (λi=>i.1<=g.u.arrays.length/\Zhz name (g.u.arrays.drop i.1) i.2=ZcG g name) (λi=>g.u.arrays.length - i.1)
  ⟨(0,IntKind.i64.wrap (g.base+g.u.vars.length)),[.old 0,.old 1,.old 2,.old 3],⟨rfl,.inl rfl,.inr ⟨lk rfl,lk rfl,lkI (by rw[lv]),lk rfl,trivial⟩,rfl⟩,Yat _,e.symm⟩ ?_
 rintro Rd aj ⟨j,at_⟩ ⟨hj,he⟩;dsimp only at hj he;refine ⟨λaG=>?_,λig=>?_⟩
 ·have aD:j < g.u.arrays.length:=by have:(j:Int) < ((g.u.arrays.map Arr.g).length:Nat):=aG;omega
  rw[Ybi aD] at he;unfold Zhz at he;refine ⟨j,_,rfl,gm aD,?_⟩;refine ⟨λhn=>?_,λhn=>?_⟩
  ·rw[if_pos hn] at he;refine ⟨none,rfl,?_⟩;exact ⟨rfl,Ze6 (.tuple [.g (.int (ZcG g name).1),.g (.int (ZcG g name).2)]) [.old 0,.old 1,.old 2] rfl rfl rfl (.inr (.inr ⟨lkI (by rw[<- he]),lkI (by rw[<- he]),trivial⟩)) rfl rfl rfl rfl⟩
  ·rw[if_neg hn] at he;refine ⟨_,rfl,_,I64.wrap (by unfold I64;omega),?_⟩;exact aj _ _ _ ⟨(j+1,IntKind.i64.wrap (at_+g.u.arrays[j].size)),[.old 0,.old 1,.old 2,.old 3],⟨rfl,.inl rfl,.inr ⟨lk rfl,lk rfl,lk rfl,lkI (by push_cast;rfl),trivial⟩,rfl⟩,⟨aD,he⟩,by show g.u.arrays.length - (j+1) < g.u.arrays.length - j;omega⟩
 ·have gE:j=g.u.arrays.length:=by have:¬(j:Int) < ((g.u.arrays.map Arr.g).length:Nat):=ig;omega
  rw[gE,Ycl] at he;unfold Zhz at he;exact ⟨rfl,Ze6 (.tuple [.g (.int (ZcG g name).1),.g (.int (ZcG g name).2)]) [.old 0,.old 1,.old 2] rfl rfl rfl (.inr (.inr ⟨lkI (by rw[<- he]),lkI (by rw[<- he]),trivial⟩)) rfl rfl rfl rfl⟩
abbrev WBr (g:GC) (ui:Int) (w:GW) (i j:Nat):List D:=[.g (.sl 4 (g.p.map Unit.g)),.g (.int ui),.g (.int g.base),.g (.str g.f.name),.g (.bool g.f.isOpen),.g (.sl 1 (g.f.params.map ZaT)),.g (.sl 5 (g.f.body.map Stmt.g)),.row i,.row j,.g (.int w.deep),.g (.int w.most)]
abbrev WHr (g:GC) (ui:Int) (w:GW) (r:Zae):Zae:=.blk (WBr g ui w (r.length+1) (r.length+2)) 131 :: (r++[.row (w.code.map Instr.g) 135 4,.row (w.calls.map ZaU) 3 1])
theorem Zbl {gid:FuncId} (hg:fnOk Tryz.prog gid=true) {l all:List D} {h:Zae} {K Qp:KD} {g:GC} {ui:Int} {w w':GW} {d:D} (i j:Nat) (r:Zae)
  (ff:CTH Tryz.prog (gl L) gid 1 (WH g ui w) (.ptr 0 0 :: l) (λout=>out=.ret d (WH g ui w'))) (ht:TurnTo h [.old 0,.old i,.old j] all (WH g ui w) (.ptr 0 0 :: l))
  (hl:ZgK h [0,i,j] all=true) (hd:rnD (rnI [0,i,j] 1 h.length) 4 d=d) (hp:Ziy h [0,i,j] 1 (WH g ui w')=WHr g ui w' r) (cl:K d (WHr g ui w' r)) :
  fnOk Tryz.prog gid=true/\(Zdh Tryz.prog (gl L) gid all h K Qp\/ZcH Tryz.prog (gl L) gid all h K Qp):=by
 refine Zag [0,i,j] hg hl rfl ht ff (λd' h' hq=>?_) (λd' h' hq=>?_)
 ·injection hq with e1 e2;subst e1;subst e2;rw[hd,hp];exact cl
 ·cases hq
theorem ZbB:fnOk Tryz.prog 52=true:=by kernel_rfl
theorem Zib:fnOk Tryz.prog 110=true:=by kernel_rfl
variable {L:Lv}
structure GOk (g:GC) (ku:Nat):Prop where
 hk:ku < g.p.length
 hu:g.p[ku]=g.u
 hv:g.u.vars.length<=8
 ha:g.u.arrays.length<=3
theorem setA_row {w:GW} {k:Nat} (hk:k < w.code.length) (a:Int):(w.code.map Instr.g).set k (ZdI w.code[k].g (0+1) [.int a])=(w.setA k a).code.map Instr.g:=by
 show _=(w.code.modify k (λx=>{ x with a:=a })).map Instr.g;apply List.ext_getElem
 ·simp
 intro i h1 h2;simp only[Ycm,List.getElem_set,List.getElem_modify];split
 ·rename_i h;subst h;rfl
 ·rfl
abbrev dd (n:Nat):Zae:=List.replicate n .dead
theorem Zj6 {g:GC} {ku:Nat} (ok:GOk g ku) (w:GW) (hw:Room 8 w) (name:Str) :
  CTH Tryz.prog (gl L) 111 1 (WH g ku w) [.ptr 0 0,.g (.str name)] (λout=>out=.ret (.tuple []) (WH g ku (Zj7 g name w))):=by
 obtain ⟨h1,h2⟩:=hw;have e:Zj7 g name w=Zj7 g name w:=rfl
 conv at e=>rhs;unfold Zj7
 refine Za4 [] hT hF hM Tryz.func111 rfl 47 rfl (by kernel_rfl) [] rfl [.ptr 0 0,.g (.str name)] rfl (WH g ku w) [0] rfl rfl rfl 1 [] trivial _ ?_;refine Zbl Zib 1 2 (dd 2) (ZgO g ku ok.hk ok.hu w (by have:=ok.hv;omega) (by have:=ok.ha;omega) name) ⟨rfl,.inl rfl,.inl rfl,rfl⟩ rfl rfl rfl ?_;refine Zbl ZbB 3 4 (dd 4) (Za7 g ku w (by omega) 3 0 0 0 1) ⟨rfl,.inl rfl,.inl rfl,rfl⟩ rfl rfl rfl ?_;refine Zbl ZbB 5 6 (dd 6) (Za7 g ku _ (by simp only[ZaY];omega) 1 (ZcG g name).2 0 0 1) ⟨rfl,.inl rfl,.inl rfl,rfl⟩ rfl rfl rfl ?_;refine Zbl ZbB 7 8 (dd 8) (Za7 g ku _ (by simp only[ZaY];omega) 8 7 0 0 (-1)) ⟨rfl,.inl rfl,.inl rfl,rfl⟩ rfl rfl rfl ?_;have om:=ZaY ((w.put 3 0 0 0 1).put 1 (ZcG g name).2 0 0 1) 8 7 0 0 (-1);have mS:=ZaY (w.put 3 0 0 0 1) 1 (ZcG g name).2 0 0 1;have dZ:=ZaY w 3 0 0 0 1;generalize ((w.put 3 0 0 0 1).put 1 (ZcG g name).2 0 0 1).put 8 7 0 0 (-1)=w3 at e om;refine Zbl ZbB 9 10 (dd 10) (Za7 g ku _ (by omega) 10 0 0 0 (-1)) ⟨rfl,.inl rfl,.inl rfl,rfl⟩ rfl rfl rfl ?_;have hm:((w3.code.map Instr.g).length:Int)=w3.at_:=by rw[Yaa];rfl
 have ek:w3.at_=(w3.code.length:Int):=rfl;refine ⟨w3.at_+3,(by rw[hm];exact I64.wrap (by unfold I64;omega)),?_⟩;refine Zbl ZbB 11 12 (dd 12) (Za7 g ku _ (by rw[ZaY];omega) 9 _ 0 0 0) ⟨rfl,.inl rfl,.inl rfl,rfl⟩ rfl rfl rfl ?_;refine Zbl ZbB 13 14 (dd 14) (Za7 g ku _ (by rw[ZaY,ZaY];omega) 15 0 0 0 0) ⟨rfl,.inl rfl,.inl rfl,rfl⟩ rfl rfl rfl ?_;refine ⟨w3.at_+2,(by rw[hm];exact I64.wrap (by unfold I64;omega)),?_⟩;have hk:w3.code.length < (((w3.put 10 0 0 0 (-1)).put 9 (w3.at_+3) 0 0 0).put 15 0 0 0 0).code.length:=by simp only[ZaY];omega
 refine ⟨w3.code.length,congrArg (λz=>D.g (.int z)) hm,(by rw[Yaa];exact hk),?_⟩;refine ⟨_,[.int (w3.at_+2)],gm hk,⟨rfl,trivial⟩,Yau rfl,(λh=>by cases h),?_⟩;have bq:=setA_row (w:=((w3.put 10 0 0 0 (-1)).put 9 (w3.at_+3) 0 0 0).put 15 0 0 0 0) hk (w3.at_+2);have yo:((((w3.put 10 0 0 0 (-1)).put 9 (w3.at_+3) 0 0 0).put 15 0 0 0 0).setA w3.code.length (w3.at_+2)).code.length=w3.code.length+3:=by simp only[ZeU,ZaY]
 refine Zbl ZbB 15 16 (dd 16) (Za7 g ku ((((w3.put 10 0 0 0 (-1)).put 9 (w3.at_+3) 0 0 0).put 15 0 0 0 0).setA w3.code.length (w3.at_+2)) (by omega) 1 (ZcG g name).1 0 0 1) ⟨rfl,.inr ⟨⟨rfl,.inl rfl⟩,⟨bq,rfl,rfl⟩,⟨rfl,rfl,rfl⟩,trivial⟩,.inl rfl,rfl⟩ rfl rfl rfl ?_;refine Zbl ZbB 17 18 (dd 18) (Za7 g ku _ (by rw[ZaY];omega) 8 1 0 0 (-1)) ⟨rfl,.inl rfl,.inl rfl,rfl⟩ rfl rfl rfl ?_;exact ⟨rfl,Ze6 (.tuple []) [.old 0,.old 19,.old 20] rfl rfl rfl (.inl rfl) rfl rfl rfl (by rw[e])⟩
theorem ZuW (u:Barb.Unit) (hl:u.funcs.length<=9223372036854775807) (k:Nat) (hk:k<=u.funcs.length):CT Tryz.prog (gl L) 134 [.agg u.d,.g (.int (k:Int))] (Is (.g (.int (Zk9 u k)))):=by
 have lf:(u.funcs.map Fun.g).length=u.funcs.length:=Yaa _;have lt:(u.funcs.take k).length=k:=by rw[Yam];omega
 have e:Zk9 u k=Zkw (u.funcs.take k):=by unfold Zk9;rw[Int.toNat_natCast]
 refine enter hT hF hM Tryz.func134 rfl 23 rfl (by kernel_rfl) [.tmp 4] rfl [.agg u.d,.g (.int (k:Int))] rfl _ ?_;refine ⟨k,rfl,by omega,?_⟩;refine ZaO (ι:=Nat) (λi=>[(13,.g (.int (i:Int))),(5,.g (.int (Zkw (u.funcs.take i))))]) (λ_=>[]) (λi=>i<=k) (λi=>k - i)
  ⟨0,[],⟨rfl,.inl rfl,.inr ⟨lk rfl,lkI (by simp[Zkw]),trivial⟩,rfl⟩,Yat _⟩ ?_
 intro Rd aj i hi;refine ⟨λh0=>?_,λh0=>?_⟩
 ·have h1:i < k:=by rw[Yam,lf] at h0;omega
  have h2:i < u.funcs.length:=by omega
  have ho:=Zt2 u.funcs i h2;have hb:=Zqh (u.funcs.take i);have cE:(u.funcs.take i).length<=i:=by rw[Yam];omega
  have hg:((u.funcs.map Fun.g).take k)[i]?=some u.funcs[i].g:=by rw[Ybh,if_pos h1];exact gm h2
  cases kk:u.funcs[i].isOpen with
  | true =>rw[kk] at ho;refine ⟨i,_,rfl,hg.trans (congrArg some (Fun.g_open kk)),?_⟩;refine ⟨_,I64.wrap (by unfold I64;omega),_,I64.wrap (by unfold I64;omega),?_⟩;exact aj _ _ _ ⟨i+1,[],⟨rfl,.inl rfl,.inr ⟨lk rfl,lkI ho.symm,trivial⟩,rfl⟩,h1,by omega⟩
  | false =>rw[kk] at ho;refine ⟨i,_,rfl,hg.trans (congrArg some (Fun.g_open kk)),?_⟩;refine ⟨_,I64.wrap (by unfold I64;omega),?_⟩;exact aj _ _ _ ⟨i+1,[],⟨rfl,.inl rfl,.inr ⟨lk rfl,lkI (by rw[ho];simp),trivial⟩,rfl⟩,h1,by omega⟩
 ·have h1:i=k:=by rw[Yam,lf] at h0;omega
  exact ⟨rfl,Zb2 (by rw[e,h1])⟩
theorem Zxw {α:Type} {l:List α} (h:l.length=2):∃a b,l=[a,b]:=by
 match l,h with
 | [a,b],_=>exact ⟨a,b,rfl⟩
theorem Zla:fnOk Tryz.prog 111=true:=by kernel_rfl
theorem ZbP:fnOk Tryz.prog 86=true:=by kernel_rfl
theorem ZBt:fnOk Tryz.prog 112=true:=by kernel_rfl
theorem Zw4 (g:GC) (x:Barb.Expr) (w:GW):Zca g x w=ZkA g x.k x.n x.of x.s x.args.length (Zbe g x.args w):=by obtain ⟨k,n,of,s,args⟩:=x;rw[Zca];rfl
abbrev Zvr (g:GC) (ku:Nat) (w:GW):Out->Prop:=λout=>out=.ret (.tuple []) (WH g ku w)
abbrev ZpR (g:GC) (ku:Nat) (x:Barb.Expr):Prop:=∀w:GW,Room (9*szE x) w->CTH Tryz.prog (gl L) 86 1 (WH g ku w) [.ptr 0 0,.agg x.d] (Zvr g ku (Zca g x w))
theorem ZzV {g:GC} {ku:Nat} (ok:GOk g ku) (hpl:g.p.length<=5) (bL:∀u∈g.p,u.funcs.length<=8) (x:Barb.Expr) (h4:x.args.length<=4) (hc:Zbf g.p g.u x.of x.s x.args.length=0) (ih:∀y∈x.args,ZpR (L:=L) g ku y) (w:GW) (hw:Room (9*Zee x.args+1) w) :
  CTH Tryz.prog (gl L) 112 1 (WH g ku w) [.ptr 0 0,.agg x.d] (Zvr g ku (Zoj g x.of x.s x.args.length (Zbe g x.args w))):=by
 suffices H:∀w',Zoj g x.of x.s x.args.length (Zbe g x.args w)=w'->CTH Tryz.prog (gl L) 112 1 (WH g ku w) [.ptr 0 0,.agg x.d] (Zvr g ku w') from H _ rfl
 intro w' e;have lx:(x.args.map Expr.g).length=x.args.length:=Yaa _;refine Za4 [] hT hF hM Tryz.func112 rfl 88 rfl (by kernel_rfl) [] rfl [.ptr 0 0,.agg x.d] rfl (WH g ku w) [0] rfl rfl rfl 1 [] trivial _ ?_;refine ZaO (ι:=Nat) (λi=>[(0,.ptr 0 0),(3,.ptr 3 0),(11,.g (.int (i:Int)))]) (λi=>WH g ku (Zbe g (x.args.take i) w)++[.blk x.d 146]) (λi=>i<=x.args.length) (λi=>x.args.length - i)
  ⟨0,[.old 0,.old 1,.old 2,.old 3],⟨rfl,.inl (by rw[List.take_zero,Zbe];rfl),.inr ⟨lk rfl,lk rfl,lk rfl,trivial⟩,rfl⟩,Yat _⟩ ?_
 intro Rd aj i hi;have hr:Room (9*(Zee x.args - Zee (x.args.take i))+1) (Zbe g (x.args.take i) w):=hw.step (.exprs g (x.args.take i) w) (by have:=ZmX x.args i;omega);refine ⟨λh0=>?_,λh0=>?_⟩
 ·have h1:i < x.args.length:=by have:(i:Int) < ((x.args.map Expr.g).length:Nat):=h0;omega
  have bM:=ZvS x.args i h1;have lC:=ZmX x.args (i+1);have hn:=Zsr g x.args i h1 w;generalize Zbe g (x.args.take i) w=wi at hr hn aj;refine ⟨i,_,rfl,(gm h1).trans (congrArg some (Expr.g_eq _)),?_⟩;refine Zbl ZbP 1 2 [.dead,.dead,.blk x.d 146,.blk x.args[i].d 146] (ih x.args[i] (Yai h1) wi (hr.step (.refl _) (by omega))) ⟨rfl,.inl rfl,.inl rfl,rfl⟩ rfl rfl rfl ?_;refine ⟨_,I64.wrap (by unfold I64;omega),?_⟩;exact aj _ _ _ ⟨i+1,[.old 0,.old 5,.old 6,.old 3],⟨rfl,.inl (by rw[hn];rfl),.inr ⟨lk rfl,lk rfl,lkI (by push_cast;rfl),trivial⟩,rfl⟩,h1,by show x.args.length - (i+1) < x.args.length - i;omega⟩
 have gF:i=x.args.length:=by have:¬(i:Int) < ((x.args.map Expr.g).length:Nat):=h0;omega
 have dB:Zbe g (x.args.take i) w=Zbe g x.args w:=by rw[gF,YaH]
 have gR:Room 1 (Zbe g (x.args.take i) w):=hr.step (.refl _) (by omega);rw[<- dB] at e;clear hr dB;generalize Zbe g (x.args.take i) w=wi at gR e aj;obtain ⟨gq,gM⟩:=gR;have lc:(wi.code.map Instr.g).length=wi.code.length:=Yaa _;have ye:(wi.calls.map ZaU).length=wi.calls.length:=Yaa _;unfold Zoj at e;refine ⟨λho=>?_,λho=>?_⟩
 ·have ho:x.of=[]:=ho;rw[if_pos ho] at e;obtain ⟨k,hk,aN,pP,_⟩:=Ze8 (show Barb.calledIn g.u x.of x.s x.args.length=0 by unfold Zbf at hc;rw[if_pos ho] at hc;exact hc);refine ⟨some 2000,rfl,?_⟩;refine ⟨[[.int (wi.code.map Instr.g).length]],rfl,rfl,⟨rfl,trivial⟩,⟨_,rfl⟩,?_⟩;refine ⟨⟨by simp[maxLen];omega,by simp;omega⟩,?_⟩;have bt:wi.calls.map ZaU++[[GV.int (wi.code.map Instr.g).length]]=(wi.calls++[wi.at_]).map ZaU:=by rw[Yaf,lc];rfl
  refine ⟨some 9999,[17],rfl,?_⟩;refine ⟨ku,_,rfl,(gm ok.hk).trans (congrArg (λz=>some (Unit.g z)) ok.hu),?_⟩;refine ⟨_,_,.inl rfl,Zfc g.u (by have:=bL g.u (by rw[<- ok.hu];exact Yai _);omega) x.s,rfl,?_⟩;refine ⟨by rw[lx];unfold I64;omega,?_⟩;refine Zbl ZbB 1 5 [.dead,.dead,.blk x.d 146,.row [[.int (wi.code.map Instr.g).length]] 3 1,.dead] (Za7 g ku { wi with calls:=wi.calls++[wi.at_] } (by show wi.code.length<=_;omega) 11 (Zfh g.u x.s) (x.args.map Expr.g).length 0 (1 - (x.args.map Expr.g).length)) ⟨rfl,.inr ⟨⟨rfl,.inl rfl⟩,⟨rfl,rfl,rfl⟩,⟨bt,rfl,rfl⟩,trivial⟩,.inl rfl,rfl⟩ rfl rfl rfl ?_;exact ⟨rfl,Ze6 (.tuple []) [.old 0,.old 6,.old 7] rfl rfl rfl (.inl rfl) rfl rfl rfl (by rw[lx,e])⟩
 ·have ho:x.of≠[]:=ho;rw[if_neg ho] at e;obtain ⟨i2,dK,qC,kj⟩:=Zkf hc ho;obtain ⟨k,hk,aN,pP,_⟩:=Ze8 kj;have dv:g.p.getD (Zc6 g.p x.of).toNat ⟨[],[],[],[]⟩=g.p[i2]:=by rw[qC,Int.toNat_natCast];simp[dK]
  rw[dv,aN] at e;refine ⟨none,rfl,?_⟩;refine ⟨_,_,.inl rfl,ZhB g.p (by omega) x.of,rfl,?_⟩;refine ⟨some 9999,[23],rfl,?_⟩;have yi:=bL g.p[i2] (Yai _);refine ⟨i2,_,congrArg (λz=>D.g (.int z)) qC,gm dK,?_⟩;refine ⟨i2,_,congrArg (λz=>D.g (.int z)) qC,gm dK,?_⟩;refine ⟨_,_,.inl rfl,Zfc g.p[i2] (by omega) x.s,rfl,?_⟩;have oL:=ZuW (L:=L) g.p[i2] (by omega) k (by omega);rw[<- aN] at oL;refine ⟨_,_,.inl rfl,oL,rfl,?_⟩;refine ⟨by rw[lx];unfold I64;omega,?_⟩;refine Zbl ZbB 1 2 [.dead,.dead,.blk x.d 146] (Za7 g ku wi (by omega) 12 (Zc6 g.p x.of) (Zk9 g.p[i2] (Zfh g.p[i2] x.s)) (x.args.map Expr.g).length (1 - (x.args.map Expr.g).length)) ⟨rfl,.inl rfl,.inl rfl,rfl⟩ rfl rfl rfl ?_;exact ⟨rfl,Ze6 (.tuple []) [.old 0,.old 4,.old 5] rfl rfl rfl (.inl rfl) rfl rfl rfl (by rw[lx,aN,e])⟩
theorem Zpt {g:GC} {ku:Nat} (ok:GOk g ku) (hpl:g.p.length<=5) (bL:∀u∈g.p,u.funcs.length<=8) (ed:g.f.params.length<=4):∀(n:Nat) (x:Barb.Expr),Zaw n x=0->ZbR g.p g.u g.f x=0->ZpR (L:=L) g ku x:=by
 intro n
 induction n with
 | zero=>intro x hx;exact absurd hx (by unfold Zaw;decide)
 | succ n ih =>
  intro x hx hs w hw;obtain ⟨hk,h4,aR,_,an⟩:=Zdo hx;obtain ⟨bM,vE⟩:=Zho hs;have jt:∀y∈x.args,ZpR (L:=L) g ku y:=λy hy=>ih y (an y hy) (vE y hy);have ah:szE x=1+Zee x.args:=by obtain ⟨k,n,of,s,args⟩:=x;rw[szE];rfl
  suffices H:∀w',Zca g x w=w'->CTH Tryz.prog (gl L) 86 1 (WH g ku w) [.ptr 0 0,.agg x.d] (Zvr g ku w') from H _ rfl
  intro w' e;rw[Zw4] at e;obtain ⟨gz,k8⟩:=hw;have lx:(x.args.map Expr.g).length=x.args.length:=Yaa _;have kB:=ok.hv;have bn:=ok.ha;refine Za4 [] hT hF hM Tryz.func86 rfl 77 rfl (by kernel_rfl) [] rfl [.ptr 0 0,.agg x.d] rfl (WH g ku w) [0] rfl rfl rfl 1 [] trivial _ ?_;refine ⟨λh1=>?_,λh1=>?_⟩
  ·have h0:x.args=[]:=by rw[h1,Zq0] at aR;exact Ybl.1 aR.2.2
   rw[h0,Zbe] at e;unfold ZkA at e;rw[if_pos h1] at e;refine Zbl ZbB 1 2 [.dead,.dead,.blk x.d 146] (Za7 g ku w (by omega) 1 x.n 0 0 1) ⟨rfl,.inl rfl,.inl rfl,rfl⟩ rfl rfl rfl ?_;exact ⟨rfl,Ze6 (.tuple []) [.old 0,.old 4,.old 5] rfl rfl rfl (.inl rfl) rfl rfl rfl (by rw[e])⟩
  refine ⟨λh2=>?_,λh2=>?_⟩
  ·have h0:x.args=[]:=by rw[h2,ZqZ] at aR;exact Ybl.1 aR.2.2.1
   rw[h0,Zbe] at e;unfold ZkA Zwg at e;rw[if_neg h1,if_pos h2] at e;refine ⟨none,rfl,?_⟩;refine ⟨_,_,.inl rfl,Zez g.f.params (by omega) x.s,rfl,?_⟩;refine ⟨λh=>?_,λh=>?_⟩
   ·rw[if_pos (show 0<=Zfe g.f x.s from h)] at e;refine Zbl ZbB 1 2 [.dead,.dead,.blk x.d 146] (Za7 g ku w (by omega) 4 (Zfe g.f x.s) 0 0 1) ⟨rfl,.inl rfl,.inl rfl,rfl⟩ rfl rfl rfl ?_;exact ⟨rfl,Ze6 (.tuple []) [.old 0,.old 4,.old 5] rfl rfl rfl (.inl rfl) rfl rfl rfl (by rw[e])⟩
   ·rw[if_neg (show ¬0<=Zfe g.f x.s from h)] at e;refine Zbl Zib 1 2 [.dead,.dead,.blk x.d 146] (ZgO g ku ok.hk ok.hu w (by omega) (by omega) x.s) ⟨rfl,.inl rfl,.inl rfl,rfl⟩ rfl rfl rfl ?_;refine Zbl ZbB 4 5 [.dead,.dead,.blk x.d 146,.dead,.dead] (Za7 g ku w (by omega) 1 (ZcG g x.s).1 0 0 1) ⟨rfl,.inl rfl,.inl rfl,rfl⟩ rfl rfl rfl ?_;refine Zbl ZbB 6 7 [.dead,.dead,.blk x.d 146,.dead,.dead,.dead,.dead] (Za7 g ku _ (by rw[ZaY];omega) 6 0 0 0 0) ⟨rfl,.inl rfl,.inl rfl,rfl⟩ rfl rfl rfl ?_;exact ⟨rfl,Ze6 (.tuple []) [.old 0,.old 8,.old 9] rfl rfl rfl (.inl rfl) rfl rfl rfl (by rw[e])⟩
  refine ⟨λh3=>?_,λh3=>?_⟩
  ·obtain ⟨a,ha⟩:∃a,x.args=[a]:=by rw[h3,ZqY] at aR;exact YbN.1 aR.2.2.1
   have bC:0 < x.args.length:=by rw[ha];simp
   have l9:x.args[0]=a:=by simp[ha]
   have hc:=jt a (by rw[ha];exact Yaz.2 rfl) w ⟨by rw[ah,ha] at gz;simp only[Zee] at gz;omega,k8⟩;have gr:=(Grow.expr g a w).trans (.elem g x.s _);rw[ha,Zbe,Zbe] at e;unfold ZkA at e;rw[if_neg h1,if_neg h2,if_pos h3] at e;have hr:Room 9 (Zca g a w):=Room.step ⟨gz,k8⟩ (.expr g a w) (by rw[ah,ha];simp only[Zee];omega);have gR:=(hr.step (.elem g x.s _) (k:=1) (by omega)).code;generalize Zca g a w=w1 at *;refine ⟨0,_,rfl,(gm bC).trans (congrArg some (Expr.g_eq _)),?_⟩;rw[<- l9] at hc;refine Zbl ZbP 1 2 [.dead,.dead,.blk x.d 146] hc ⟨rfl,.inl rfl,.inl rfl,rfl⟩ rfl rfl rfl ?_;refine Zbl Zla 4 5 [.dead,.dead,.blk x.d 146,.dead,.dead] (Zj6 ok w1 (hr.step (.refl _) (by omega)) x.s) ⟨rfl,.inl rfl,.inl rfl,rfl⟩ rfl rfl rfl ?_;refine Zbl ZbB 6 7 [.dead,.dead,.blk x.d 146,.dead,.dead,.dead,.dead] (Za7 g ku _ (by omega) 6 0 0 0 0) ⟨rfl,.inl rfl,.inl rfl,rfl⟩ rfl rfl rfl ?_;exact ⟨rfl,Ze6 (.tuple []) [.old 0,.old 8,.old 9] rfl rfl rfl (.inl rfl) rfl rfl rfl (by rw[e])⟩
  refine ⟨λh5=>?_,λh5=>?_⟩
  ·unfold ZkA at e;rw[if_neg h1,if_neg h2,if_neg h3,if_pos h5] at e;refine Zbl ZBt 1 2 [.dead,.dead,.blk x.d 146] (ZzV ok hpl bL x h4 (by rw[ZqW h5] at bM;exact bM) jt w ⟨by rw[ah] at gz;omega,k8⟩) ⟨rfl,.inl rfl,.inl rfl,rfl⟩ rfl rfl rfl ?_;exact ⟨rfl,Ze6 (.tuple []) [.old 0,.old 4,.old 5] rfl rfl rfl (.inl rfl) rfl rfl rfl (by rw[e])⟩
  ·have cj:x.k=5:=by omega
   obtain ⟨a,b,jm⟩:∃a b,x.args=[a,b]:=by rw[cj,ZqX] at aR;exact Zxw aR.2.2
   have bC:0 < x.args.length:=by rw[jm];simp
   have dZ:1 < x.args.length:=by rw[jm];simp
   have l9:x.args[0]=a:=by simp[jm]
   have wA:x.args[1]=b:=by simp[jm]
   have p5:=jt a (by rw[jm];simp) w ⟨by rw[ah,jm] at gz;simp only[Zee] at gz;omega,k8⟩;have hr:Room (9*szE b+9) (Zca g a w):=Room.step ⟨gz,k8⟩ (.expr g a w) (by rw[ah,jm];simp only[Zee];omega);have tP:=jt b (by rw[jm];simp) (Zca g a w) (hr.step (.refl _) (by omega));have gR:=(hr.step (.expr g b _) (k:=1) (by omega)).code;rw[jm,Zbe,Zbe,Zbe] at e;unfold ZkA at e;rw[if_neg h1,if_neg h2,if_neg h3,if_neg h5] at e;generalize Zca g a w=w1 at *;generalize Zca g b w1=w2 at *;rw[<- l9] at p5;rw[<- wA] at tP;refine ⟨0,_,rfl,(gm bC).trans (congrArg some (Expr.g_eq _)),?_⟩;refine Zbl ZbP 1 2 [.dead,.dead,.blk x.d 146] p5 ⟨rfl,.inl rfl,.inl rfl,rfl⟩ rfl rfl rfl ?_;refine ⟨1,_,rfl,(gm dZ).trans (congrArg some (Expr.g_eq _)),?_⟩;refine Zbl ZbP 4 5 [.dead,.dead,.blk x.d 146,.dead,.dead] tP ⟨rfl,.inl rfl,.inl rfl,rfl⟩ rfl rfl rfl ?_;refine Zbl ZbB 6 7 [.dead,.dead,.blk x.d 146,.dead,.dead,.dead,.dead] (Za7 g ku _ (by omega) 8 x.n 0 0 (-1)) ⟨rfl,.inl rfl,.inl rfl,rfl⟩ rfl rfl rfl ?_;exact ⟨rfl,Ze6 (.tuple []) [.old 0,.old 8,.old 9] rfl rfl rfl (.inl rfl) rfl rfl rfl (by rw[e])⟩
end ZN
namespace Barb
open Go Go.Dm Go.Eng
theorem ZlA (g:GC) (x:Stmt) (w:GW):Zjp g x w =
  if x.k=1 then ZxC g x.s (x.xs.getD 0 noX) w
  else if x.k=2 then Znk g x.s (x.xs.getD 0 noX) (x.xs.getD 1 noX) w
  else if x.k=3\/x.k=4 then
   let w1:=Zca g (x.xs.getD 0 noX) w
   let w2:=stmtsG g x.b (w1.put 10 0 0 0 (-1))
   let w3:=(w2.put 9 (if x.k=4 then w.at_ else 0) 0 0 0)
   let w4:=w3.setA w1.code.length w3.at_
   if x.k=3 then
    let w5:=stmtsG g x.e w4
    w5.setA w2.code.length w5.at_
   else w4
  else if x.k=5 then (Zca g (x.xs.getD 0 noX) w).put 13 0 0 0 (-1)
  else (Zca g (x.xs.getD 0 noX) w).put 14 0 0 0 (-1):=by obtain ⟨k,s,xs,b,e⟩:=x;rw[Zjp];rfl
theorem Zti (x:Stmt):szS x=40+9*Zee x.xs+Zfo x.b+Zfo x.e:=by obtain ⟨k,s,xs,b,e⟩:=x;rw[szS];rfl
theorem ZgX (g:GC):∀(a b:List Stmt) (w:GW),stmtsG g (a++b) w=stmtsG g b (stmtsG g a w)
 | [],_,_=>by rw[stmtsG];rfl
 | x :: a,b,w=>by rw[List.cons_append,stmtsG,stmtsG];exact ZgX g a b _
theorem ZrE (g:GC) (l:List Stmt) (j:Nat) (hj:j < l.length) (w:GW):stmtsG g (l.take (j+1)) w=Zjp g l[j] (stmtsG g (l.take j) w):=by rw[ZaJ hj,ZgX,stmtsG,stmtsG]
theorem Zgv:∀(a b:List Stmt),Zfo (a++b)=Zfo a+Zfo b
 | [],b=>by simp[Zfo]
 | x :: a,b=>by rw[List.cons_append,Zfo,Zfo,Zgv a b];omega
theorem ZvR (l:List Stmt) (j:Nat) (hj:j < l.length):Zfo (l.take (j+1))=Zfo (l.take j)+szS l[j]:=by rw[ZaJ hj,Zgv,Zfo,Zfo];omega
theorem ZmW (l:List Stmt) (j:Nat):Zfo (l.take j)<=Zfo l:=by
 conv=>rhs;rw[<- Ya7 j l,Zgv]
 omega
end Barb
namespace ZN
open Go Go.Dm Go.Eng Go.RowKit Barb
variable {L:Lv}
theorem ZAt:fnOk Tryz.prog 83=true:=by kernel_rfl
theorem Zy2:fnOk Tryz.prog 84=true:=by kernel_rfl
theorem Zon:fnOk Tryz.prog 85=true:=by kernel_rfl
theorem ZgC:fnOk Tryz.prog 51=true:=by kernel_rfl
theorem Zjt {w:GW} {k:Nat} (hk:k < w.code.length) (a z:Int) (hz:z=a):(w.code.map Instr.g).set k (ZdI w.code[k].g (0+1) [.int z])=(w.setA k a).code.map Instr.g:=by subst hz;exact setA_row hk z
theorem ZyJ {g:GC} {ku:Nat} (ok:GOk g ku) (ed:g.f.params.length<=4) (s:Barb.Stmt) (h1:s.xs.length=1) (hE:∀x∈s.xs,ZpR (L:=L) g ku x) (w:GW) (hw:Room (2+9*szE (s.xs.getD 0 noX)) w) :
  CTH Tryz.prog (gl L) 83 1 (WH g ku w) [.ptr 0 0,.agg s.d] (Zvr g ku (ZxC g s.s (s.xs.getD 0 noX) w)):=by
 obtain ⟨x,hx⟩:=YbN.1 h1;have bC:0 < s.xs.length:=by omega
 have kQ:s.xs[0]=x:=by simp[hx]
 have mX:=hE x (by rw[hx];simp);rw[show s.xs.getD 0 noX=x by simp[hx]] at hw ⊢
 suffices H:∀w',ZxC g s.s x w=w'->CTH Tryz.prog (gl L) 83 1 (WH g ku w) [.ptr 0 0,.agg s.d] (Zvr g ku w') from H _ rfl
 intro w' e;unfold ZxC at e;have kB:=ok.hv;have bn:=ok.ha;have gz:=hw.code;refine Za4 [] hT hF hM Tryz.func83 rfl 44 rfl (by kernel_rfl) [] rfl [.ptr 0 0,.agg s.d] rfl (WH g ku w) [0] rfl rfl rfl 1 [] trivial _ ?_;refine ⟨none,rfl,?_⟩;refine ⟨_,_,.inl rfl,Zez g.f.params (by omega) s.s,rfl,?_⟩;refine ⟨λh=>?_,λh=>?_⟩
 ·rw[if_pos (show 0<=Zfe g.f s.s from h)] at e;have hc:=mX w (hw.step (.refl _) (by omega));have hr:=(hw.step (.expr g x w) (k:=1) (by omega)).code;generalize Zca g x w=w1 at *;rw[<- kQ] at hc;refine ⟨0,_,rfl,(gm bC).trans (congrArg some (Expr.g_eq _)),?_⟩;refine Zbl ZbP 1 2 [.dead,.dead,.blk s.d 114] hc ⟨rfl,.inl rfl,.inl rfl,rfl⟩ rfl rfl rfl ?_;refine Zbl ZbB 4 5 [.dead,.dead,.blk s.d 114,.dead,.dead] (Za7 g ku w1 (by omega) 5 (Zfe g.f s.s) 0 0 (-1)) ⟨rfl,.inl rfl,.inl rfl,rfl⟩ rfl rfl rfl ?_;exact ⟨rfl,Ze6 (.tuple []) [.old 0,.old 6,.old 7] rfl rfl rfl (.inl rfl) rfl rfl rfl (by rw[e])⟩
 ·rw[if_neg (show ¬0<=Zfe g.f s.s from h)] at e;have dG:=hw.step (.put w 1 (ZcG g s.s).1 0 0 1) (k:=1+9*szE x) (by omega);have hc:=mX _ (dG.step (.refl _) (by omega));have hr:=(dG.step (.expr g x _) (k:=1) (by omega)).code;generalize Zca g x (w.put 1 (ZcG g s.s).1 0 0 1)=w2 at *;rw[<- kQ] at hc;refine Zbl Zib 1 2 [.dead,.dead,.blk s.d 114] (ZgO g ku ok.hk ok.hu w (by omega) (by omega) s.s) ⟨rfl,.inl rfl,.inl rfl,rfl⟩ rfl rfl rfl ?_;refine Zbl ZbB 4 5 [.dead,.dead,.blk s.d 114,.dead,.dead] (Za7 g ku w (by omega) 1 (ZcG g s.s).1 0 0 1) ⟨rfl,.inl rfl,.inl rfl,rfl⟩ rfl rfl rfl ?_;refine ⟨0,_,rfl,(gm bC).trans (congrArg some (Expr.g_eq _)),?_⟩;refine Zbl ZbP 6 7 [.dead,.dead,.blk s.d 114,.dead,.dead,.dead,.dead] hc ⟨rfl,.inl rfl,.inl rfl,rfl⟩ rfl rfl rfl ?_;refine Zbl ZbB 8 9 [.dead,.dead,.blk s.d 114,.dead,.dead,.dead,.dead,.dead,.dead] (Za7 g ku w2 (by omega) 7 0 0 0 (-2)) ⟨rfl,.inl rfl,.inl rfl,rfl⟩ rfl rfl rfl ?_;exact ⟨rfl,Ze6 (.tuple []) [.old 0,.old 10,.old 11] rfl rfl rfl (.inl rfl) rfl rfl rfl (by rw[e])⟩
set_option maxRecDepth 20000 in
theorem Zwh {g:GC} {ku:Nat} (ok:GOk g ku) (s:Barb.Stmt) (h2:s.xs.length=2) (hE:∀x∈s.xs,ZpR (L:=L) g ku x) (w:GW) (hw:Room (11+9*szE (s.xs.getD 0 noX)+9*szE (s.xs.getD 1 noX)) w) :
  CTH Tryz.prog (gl L) 84 1 (WH g ku w) [.ptr 0 0,.agg s.d] (Zvr g ku (Znk g s.s (s.xs.getD 0 noX) (s.xs.getD 1 noX) w)):=by
 obtain ⟨x,y,hx⟩:=Zxw h2;have bC:0 < s.xs.length:=by omega
 have dZ:1 < s.xs.length:=by omega
 have kQ:s.xs[0]=x:=by simp[hx]
 have wv:s.xs[1]=y:=by simp[hx]
 have mX:=hE x (by rw[hx];simp);have wP:=hE y (by rw[hx];simp);rw[show s.xs.getD 0 noX=x by simp[hx],show s.xs.getD 1 noX=y by simp[hx]] at hw ⊢
 suffices H:∀w',Znk g s.s x y w=w'->CTH Tryz.prog (gl L) 84 1 (WH g ku w) [.ptr 0 0,.agg s.d] (Zvr g ku w') from H _ rfl
 intro w' e;unfold Znk at e;have kB:=ok.hv;have bn:=ok.ha;have lp:(g.f.params.map ZaT).length=g.f.params.length:=Yaa _;have gq:=mX w (hw.step (.refl _) (by omega));have dG:=hw.step (.expr g x w) (k:=11+9*szE y) (by omega);have gM:=wP _ (dG.step (.refl _) (by omega));have gR:=dG.step (.expr g y _) (k:=11) (by omega);generalize Zca g x w=w1 at *;generalize Zca g y w1=w2 at *;rw[<- kQ] at gq;rw[<- wv] at gM;have eF:=gR.step (.put w2 5 g.f.params.length 0 0 (-1)) (k:=10) (by omega);have jz:=Zj6 (L:=L) ok (w2.put 5 g.f.params.length 0 0 (-1)) (eF.step (.refl _) (by omega)) s.s;have tg:=(eF.step (.elem g s.s _) (k:=2) (by omega)).code;have tS:=gR.code;generalize pB:Zj7 g s.s (w2.put 5 g.f.params.length 0 0 (-1))=w3 at *;refine Za4 [] hT hF hM Tryz.func84 rfl 35 rfl (by kernel_rfl) [] rfl [.ptr 0 0,.agg s.d] rfl (WH g ku w) [0] rfl rfl rfl 1 [] trivial _ ?_;refine ⟨0,_,rfl,(gm bC).trans (congrArg some (Expr.g_eq _)),?_⟩;refine Zbl ZbP 1 2 [.dead,.dead,.blk s.d 114] gq ⟨rfl,.inl rfl,.inl rfl,rfl⟩ rfl rfl rfl ?_;refine ⟨1,_,rfl,(gm dZ).trans (congrArg some (Expr.g_eq _)),?_⟩;refine Zbl ZbP 4 5 [.dead,.dead,.blk s.d 114,.dead,.dead] gM ⟨rfl,.inl rfl,.inl rfl,rfl⟩ rfl rfl rfl ?_;refine Zbl ZbB 6 7 [.dead,.dead,.blk s.d 114,.dead,.dead,.dead,.dead] (Za7 g ku w2 (by omega) 5 (g.f.params.map ZaT).length 0 0 (-1)) ⟨rfl,.inl rfl,.inl rfl,rfl⟩ rfl rfl rfl ?_;rw[<- lp] at jz pB;refine Zbl Zla 8 9 [.dead,.dead,.blk s.d 114,.dead,.dead,.dead,.dead,.dead,.dead] jz ⟨rfl,.inl rfl,.inl rfl,rfl⟩ rfl rfl rfl ?_;refine Zbl ZbB 10 11 [.dead,.dead,.blk s.d 114,.dead,.dead,.dead,.dead,.dead,.dead,.dead,.dead] (Za7 g ku w3 (by omega) 4 (g.f.params.map ZaT).length 0 0 1) ⟨rfl,.inl rfl,.inl rfl,rfl⟩ rfl rfl rfl ?_;refine Zbl ZbB 12 13 [.dead,.dead,.blk s.d 114,.dead,.dead,.dead,.dead,.dead,.dead,.dead,.dead,.dead,.dead] (Za7 g ku _ (by rw[ZaY];omega) 7 0 0 0 (-2)) ⟨rfl,.inl rfl,.inl rfl,rfl⟩ rfl rfl rfl ?_;exact ⟨rfl,Ze6 (.tuple []) [.old 0,.old 14,.old 15] rfl rfl rfl (.inl rfl) rfl rfl rfl (by rw[lp,e])⟩
abbrev Zow (g:GC) (ku:Nat) (l:List Barb.Stmt):Prop:=∀w:GW,Room (Zfo l) w->CTH Tryz.prog (gl L) 51 1 (WH g ku w) [.ptr 0 0,.g (.sl 5 (l.map Stmt.g))] (Zvr g ku (Barb.stmtsG g l w))
set_option maxRecDepth 20000 in
set_option maxHeartbeats 2000000 in
theorem Zli {g:GC} {ku:Nat} (s:Barb.Stmt) (h1:s.xs.length=1) (hk:s.k=3\/s.k=4) (hE:∀x∈s.xs,ZpR (L:=L) g ku x) (hb:Zow (L:=L) g ku s.b) (he:Zow (L:=L) g ku s.e) (w:GW) (hw:Room (szS s) w) :
  CTH Tryz.prog (gl L) 85 1 (WH g ku w) [.ptr 0 0,.agg s.d] (Zvr g ku (Zjp g s w)):=by
 obtain ⟨x,hx⟩:=YbN.1 h1;have bC:0 < s.xs.length:=by omega
 have kQ:s.xs[0]=x:=by simp[hx]
 have mX:=hE x (by rw[hx];simp);have ah:=Zti s;have jw:¬s.k=1:=by omega
 have iY:¬s.k=2:=by omega
 have nO:Zee s.xs=szE x:=by rw[hx];simp[Zee]
 rw[nO] at ah
 suffices H:∀w',Zjp g s w=w'->CTH Tryz.prog (gl L) 85 1 (WH g ku w) [.ptr 0 0,.agg s.d] (Zvr g ku w') from H _ rfl
 intro w' e;rw[ZlA,if_neg jw,if_neg iY,if_pos hk,show s.xs.getD 0 noX=x by simp[hx]] at e;dsimp only at e;have gq:=mX w (hw.step (.refl _) (by omega));have dG:=hw.step (.expr g x w) (k:=10+Zfo s.b+Zfo s.e) (by omega);generalize Zca g x w=w1 at *;rw[<- kQ] at gq;have gR:=dG.step (.put w1 10 0 0 0 (-1)) (k:=9+Zfo s.b+Zfo s.e) (by omega);have gM:=hb _ (gR.step (.refl _) (by omega));have ma:=Grow.stmts g s.b (w1.put 10 0 0 0 (-1));have eF:=gR.step ma (k:=9+Zfo s.e) (by omega);have aT:=ma.lo;generalize Barb.stmtsG g s.b (w1.put 10 0 0 0 (-1))=w2 at *;have vI:=dG.code;have vH:=eF.code;rw[ZaY] at aT;have m0:((w.code.map Instr.g).length:Int)=w.at_:=by rw[Yaa];rfl
 have m1:((w1.code.map Instr.g).length:Int)=(w1.code.length:Int):=by rw[Yaa]
 have m2:((w2.code.map Instr.g).length:Int)=(w2.code.length:Int):=by rw[Yaa]
 refine Za4 [] hT hF hM Tryz.func85 rfl 73 rfl (by kernel_rfl) [] rfl [.ptr 0 0,.agg s.d] rfl (WH g ku w) [0] rfl rfl rfl 1 [] trivial _ ?_;refine ⟨0,_,rfl,(gm bC).trans (congrArg some (Expr.g_eq _)),?_⟩;refine Zbl ZbP 1 2 [.dead,.dead,.blk s.d 114] gq ⟨rfl,.inl rfl,.inl rfl,rfl⟩ rfl rfl rfl ?_;refine Zbl ZbB 4 5 [.dead,.dead,.blk s.d 114,.dead,.dead] (Za7 g ku w1 (by omega) 10 0 0 0 (-1)) ⟨rfl,.inl rfl,.inl rfl,rfl⟩ rfl rfl rfl ?_;refine Zbl ZgC 6 7 [.dead,.dead,.blk s.d 114,.dead,.dead,.dead,.dead] gM ⟨rfl,.inl rfl,.inl rfl,rfl⟩ rfl rfl rfl ?_;refine ⟨λh4=>?_,λh4=>?_⟩
 ·rw[if_pos h4,if_neg (by omega),<- m0] at e;have hk:w1.code.length < (w2.put 9 (w.code.map Instr.g).length 0 0 0).code.length:=by rw[ZaY];omega
  refine Zbl ZbB 8 9 [.dead,.dead,.blk s.d 114,.dead,.dead,.dead,.dead,.dead,.dead] (Za7 g ku w2 (by omega) 9 (w.code.map Instr.g).length 0 0 0) ⟨rfl,.inl rfl,.inl rfl,rfl⟩ rfl rfl rfl ?_;generalize w2.put 9 (w.code.map Instr.g).length 0 0 0=w3 at *;have m3:((w3.code.map Instr.g).length:Int)=w3.at_:=by rw[Yaa];rfl
  refine ⟨none,rfl,?_⟩;refine ⟨w1.code.length,congrArg (λz=>D.g (.int z)) m1,(by rw[Yaa];exact hk),?_⟩;refine ⟨_,[.int (w3.code.map Instr.g).length],gm hk,⟨rfl,trivial⟩,Yau rfl,(λh=>by cases h),?_⟩;refine ⟨λh3=>absurd h3 (by omega),λ_=>?_⟩;exact ⟨rfl,Ze6 (w:=w3.setA w1.code.length w3.at_) (.tuple []) [.old 0,.old 10,.old 11] rfl rfl rfl (.inl rfl) rfl (Zjt hk _ _ m3) rfl (by rw[e])⟩
 ·have h3:s.k=3:=by omega
  rw[if_neg h4,if_pos h3] at e;have hk:w1.code.length < (w2.put 9 0 0 0 0).code.length:=by rw[ZaY];omega
  have tg:=eF.step (.put w2 9 0 0 0 0) (k:=8+Zfo s.e) (by omega);have v8:=ZaY w2 9 0 0 0 0;refine Zbl ZbB 8 9 [.dead,.dead,.blk s.d 114,.dead,.dead,.dead,.dead,.dead,.dead] (Za7 g ku w2 (by omega) 9 0 0 0 0) ⟨rfl,.inl rfl,.inl rfl,rfl⟩ rfl rfl rfl ?_;generalize w2.put 9 0 0 0 0=w3 at *;have m3:((w3.code.map Instr.g).length:Int)=w3.at_:=by rw[Yaa];rfl
  refine ⟨none,rfl,?_⟩;refine ⟨w1.code.length,congrArg (λz=>D.g (.int z)) m1,(by rw[Yaa];exact hk),?_⟩;refine ⟨_,[.int (w3.code.map Instr.g).length],gm hk,⟨rfl,trivial⟩,Yau rfl,(λh=>by cases h),?_⟩;refine ⟨λ_=>?_,λh=>absurd h3 h⟩;have bq:=Zjt hk _ _ m3;have yp:=ZeU w3 w1.code.length w3.at_;have vG:=tg.step (.setA w3 w1.code.length w3.at_) (k:=8+Zfo s.e) (by omega);have tS:=he (w3.setA w1.code.length w3.at_) (vG.step (.refl _) (by omega));have yv:=(Grow.stmts g s.e (w3.setA w1.code.length w3.at_)).lo;generalize Barb.stmtsG g s.e (w3.setA w1.code.length w3.at_)=w5 at *;refine Zbl ZgC 10 11 [.dead,.dead,.blk s.d 114,.dead,.dead,.dead,.dead,.dead,.dead,.dead,.dead] tS ⟨rfl,.inr ⟨⟨rfl,.inl rfl⟩,⟨bq,rfl,rfl⟩,⟨rfl,rfl,rfl⟩,trivial⟩,.inl rfl,rfl⟩ rfl rfl rfl ?_;have cj:w2.code.length < w5.code.length:=by omega
  have m5:((w5.code.map Instr.g).length:Int)=w5.at_:=by rw[Yaa];rfl
  refine ⟨none,rfl,?_⟩;refine ⟨w2.code.length,congrArg (λz=>D.g (.int z)) m2,(by rw[Yaa];exact cj),?_⟩;refine ⟨_,[.int (w5.code.map Instr.g).length],gm cj,⟨rfl,trivial⟩,Yau rfl,(λh=>by cases h),?_⟩;exact ⟨rfl,Ze6 (w:=w5.setA w2.code.length w5.at_) (.tuple []) [.old 0,.old 12,.old 13] rfl rfl rfl (.inl rfl) rfl (Zjt cj _ _ m5) rfl (by rw[e])⟩
theorem ZnP {g:GC} {ku:Nat} (ok:GOk g ku) (hpl:g.p.length<=5) (bL:∀u∈g.p,u.funcs.length<=8) (ed:g.f.params.length<=4):∀(n:Nat) (l:List Barb.Stmt),Zai n l=0->Zbt g.p g.u g.f l=0->l.length*96<=140737488351232->(∀s∈l,Barb.Stmt.I s)->Zow (L:=L) g ku l:=by
 intro n
 induction n with
 | zero=>intro l hl;exact absurd hl (by unfold Zai;decide)
 | succ n ih =>
  intro l hE hS hlen hI w hw;have ll:(l.map Stmt.g).length=l.length:=Yaa _;rw[Zai] at hE;rw[Za1] at hS;refine Za4 [] hT hF hM Tryz.func51 rfl 49 rfl (by kernel_rfl) [] rfl [.ptr 0 0,.g (.sl 5 (l.map Stmt.g))] rfl (WH g ku w) [0] rfl rfl rfl 1 [] trivial _ ?_;refine ZaO (ι:=Nat) (λi=>[(0,.ptr 0 0),(8,.g (.int (i:Int)))]) (λi=>WH g ku (Barb.stmtsG g (l.take i) w)) (λi=>i<=l.length) (λi=>l.length - i)
   ⟨0,[.old 0,.old 1,.old 2],⟨rfl,.inl (by rw[List.take_zero,Barb.stmtsG];rfl),.inr ⟨lk rfl,lk rfl,trivial⟩,rfl⟩,Yat _⟩ ?_
  intro Rd aj i hi;have hr:Room (Zfo l - Zfo (l.take i)) (Barb.stmtsG g (l.take i) w):=hw.step (.stmts g (l.take i) w) (by have:=ZmW l i;omega);refine ⟨λh0=>?_,λh0=>?_⟩
  ·have h1:i < l.length:=by have:(i:Int) < ((l.map Stmt.g).length:Nat):=h0;omega
   have bM:=ZvR l i h1;have lC:=ZmW l (i+1);have hn:=ZrE g l i h1 w;have ax:l[i]∈l:=Yai h1;generalize Barb.stmtsG g (l.take i) w=wi at hr hn aj;obtain ⟨hk,aR,dX,dV,eQ⟩:=Zct (Zaf hE _ ax);obtain ⟨q7,ky,mu,ke⟩:=ZgZ (Zaf hS _ ax);obtain ⟨_,_,_,fQ,gn,_,gu,mf⟩:=(hI _ ax).inv;have ca:Room (szS l[i]) wi:=hr.step (.refl _) (by omega);have ah:=Zti l[i];have eK:=ZlA g l[i] wi;have fi:=ZiN l[i].xs 0;have sZ:=ZpV l[i].xs;have hX:∀x∈l[i].xs,ZpR (L:=L) g ku x:=λx hx=>Zpt ok hpl bL ed 12 x (dX x hx) (ky x hx);have hB:Zow (L:=L) g ku l[i].b:=ih l[i].b dV mu fQ gu;have qe:Zow (L:=L) g ku l[i].e:=ih l[i].e eQ ke gn mf;have next:∀(w':GW) (env:Dm.Env) (h:Zae),w'=Zjp g l[i] wi->WH g ku (Barb.stmtsG g (l.take (i+1)) w)=WH g ku w':=λw' _ _ qz=>by rw[hn,qz]
   unfold ZdN at aR;generalize hy:l[i]=y at *;refine ⟨i,_,rfl,(gm h1).trans (congrArg some ((congrArg Stmt.g hy).trans (Stmt.g_eq _))),?_⟩;refine ⟨λk1=>?_,λk1=>?_⟩
   ·rw[if_pos k1] at eK;refine Zbl ZAt 1 2 [.dead,.dead,.blk y.d 114] (ZyJ ok ed y (by omega) hX wi (ca.step (.refl _) (by omega))) ⟨rfl,.inl rfl,.inl rfl,rfl⟩ rfl rfl rfl ?_;refine ⟨_,I64.wrap (by unfold I64;omega),?_⟩;exact aj _ _ _ ⟨i+1,[.old 0,.old 4,.old 5],⟨rfl,.inl (by rw[hn,eK];rfl),.inr ⟨lk rfl,lkI (by push_cast;rfl),trivial⟩,rfl⟩,h1,by show l.length - (i+1) < l.length - i;omega⟩
   rw[if_neg k1] at eK;refine ⟨λk2=>?_,λk2=>?_⟩
   ·rw[if_pos k2] at eK;refine Zbl Zy2 1 2 [.dead,.dead,.blk y.d 114] (Zwh ok y (by omega) hX wi (ca.step (.refl _) (by omega))) ⟨rfl,.inl rfl,.inl rfl,rfl⟩ rfl rfl rfl ?_;refine ⟨_,I64.wrap (by unfold I64;omega),?_⟩;exact aj _ _ _ ⟨i+1,[.old 0,.old 4,.old 5],⟨rfl,.inl (by rw[hn,eK];rfl),.inr ⟨lk rfl,lkI (by push_cast;rfl),trivial⟩,rfl⟩,h1,by show l.length - (i+1) < l.length - i;omega⟩
   rw[if_neg k2] at eK;refine ⟨λk3=>?_,λk3=>?_⟩
   ·clear eK;refine ⟨λ_=>?_,λh=>absurd k3 h⟩;refine Zbl Zon 1 2 [.dead,.dead,.blk y.d 114] (Zli y (by omega) (by omega) hX hB qe wi ca) ⟨rfl,.inl rfl,.inl rfl,rfl⟩ rfl rfl rfl ?_;refine ⟨_,I64.wrap (by unfold I64;omega),?_⟩;exact aj _ _ _ ⟨i+1,[.old 0,.old 4,.old 5],⟨rfl,.inl (by rw[hn];rfl),.inr ⟨lk rfl,lkI (by push_cast;rfl),trivial⟩,rfl⟩,h1,by show l.length - (i+1) < l.length - i;omega⟩
   refine ⟨λk4=>?_,λk4=>?_⟩
   ·clear eK;refine Zbl Zon 1 2 [.dead,.dead,.blk y.d 114] (Zli y (by omega) (by omega) hX hB qe wi ca) ⟨rfl,.inl rfl,.inl rfl,rfl⟩ rfl rfl rfl ?_;refine ⟨_,I64.wrap (by unfold I64;omega),?_⟩;exact aj _ _ _ ⟨i+1,[.old 0,.old 4,.old 5],⟨rfl,.inl (by rw[hn];rfl),.inr ⟨lk rfl,lkI (by push_cast;rfl),trivial⟩,rfl⟩,h1,by show l.length - (i+1) < l.length - i;omega⟩
   obtain ⟨x,hx⟩:=YbN.1 (show y.xs.length=1 by omega);have bC:0 < y.xs.length:=by omega
   have kQ:y.xs[0]=x:=by simp[hx]
   rw[if_neg (by omega),show y.xs.getD 0 noX=x by simp[hx]] at eK;have nO:Zee y.xs=szE x:=by rw[hx];simp[Zee]
   have gq:=hX x (by rw[hx];simp) wi (ca.step (.refl _) (by omega));have dG:=(ca.step (.expr g x wi) (k:=1) (by omega)).code;generalize Zca g x wi=w1 at *;rw[<- kQ] at gq;refine ⟨λk5=>?_,λk5=>?_⟩
   ·rw[if_pos k5] at eK;refine ⟨0,_,rfl,(gm bC).trans (congrArg some (Expr.g_eq _)),?_⟩;refine Zbl ZbP 1 2 [.dead,.dead,.blk y.d 114] gq ⟨rfl,.inl rfl,.inl rfl,rfl⟩ rfl rfl rfl ?_;refine Zbl ZbB 4 5 [.dead,.dead,.blk y.d 114,.dead,.dead] (Za7 g ku w1 (by omega) 13 0 0 0 (-1)) ⟨rfl,.inl rfl,.inl rfl,rfl⟩ rfl rfl rfl ?_;refine ⟨_,I64.wrap (by unfold I64;omega),?_⟩;exact aj _ _ _ ⟨i+1,[.old 0,.old 6,.old 7],⟨rfl,.inl (by rw[hn,eK];rfl),.inr ⟨lk rfl,lkI (by push_cast;rfl),trivial⟩,rfl⟩,h1,by show l.length - (i+1) < l.length - i;omega⟩
   ·rw[if_neg k5] at eK;refine ⟨0,_,rfl,(gm bC).trans (congrArg some (Expr.g_eq _)),?_⟩;refine Zbl ZbP 1 2 [.dead,.dead,.blk y.d 114] gq ⟨rfl,.inl rfl,.inl rfl,rfl⟩ rfl rfl rfl ?_;refine Zbl ZbB 4 5 [.dead,.dead,.blk y.d 114,.dead,.dead] (Za7 g ku w1 (by omega) 14 0 0 0 (-1)) ⟨rfl,.inl rfl,.inl rfl,rfl⟩ rfl rfl rfl ?_;refine ⟨_,I64.wrap (by unfold I64;omega),?_⟩;exact aj _ _ _ ⟨i+1,[.old 0,.old 6,.old 7],⟨rfl,.inl (by rw[hn,eK];rfl),.inr ⟨lk rfl,lkI (by push_cast;rfl),trivial⟩,rfl⟩,h1,by show l.length - (i+1) < l.length - i;omega⟩
  ·have gF:i=l.length:=by have:¬(i:Int) < ((l.map Stmt.g).length:Nat):=h0;omega
   exact ⟨rfl,Ze6 (.tuple []) [.old 0,.old 1,.old 2] rfl rfl rfl (.inl rfl) rfl rfl rfl (by rw[gF,YaH])⟩
end ZN
namespace Barb
open Go Go.Dm Go.Eng
def okI (L:Nat) (x:Instr):Prop:=Zbz x=0\/((x.op=9\/x.op=10)/\0<=x.a/\x.a < (L:Int)/\x.b=0/\x.c=0)
theorem okI.mono {L M:Nat} {x:Instr} (h:okI L x) (k:L<=M):okI M x:=by
 rcases h with h | ⟨h1,h2,h3,h4⟩
 ·exact .inl h
 ·exact .inr ⟨h1,h2,by omega,h4⟩
theorem Zde {op a b c:Int} (h1:1<=op/\op<=15) (ha:0<=a/\a<=bdA op) (hb:0<=b/\b<=bdB op) (hc:0<=c/\c<=bdC op) (hd:op=8->a≠0):Zbz ⟨op,a,b,c⟩=0:=by
 unfold Zbz;rw[if_neg (λh=>h h1),if_neg];unfold Zb6;rintro (h | h | h | ⟨h,k⟩)
 ·exact h ha
 ·exact h hb
 ·exact h hc
 ·exact hd h k
theorem Zzb {L:Nat} {x:Instr} (h:okI L x) (hL:L<=1200):Zbz x=0:=by
 rcases h with h | ⟨h1,h2,h3,h4,h5⟩
 ·exact h
 ·obtain ⟨op,a,b,c⟩:=x;dsimp only at h1 h2 h3 h4 h5;subst h4;subst h5;have:bdA op=1199:=by unfold bdA;rcases h1 with rfl | rfl<;>simp
  have hb:0<=bdB op:=by unfold bdB;(repeat' split)<;>omega
  have hc:0<=bdC op:=by unfold bdC;(repeat' split)<;>omega
  exact Zde (by omega) (by omega) ⟨YbC _,hb⟩ ⟨YbC _,hc⟩ (λh=>by omega)
def ZkJ (nf:Nat) (l:List Instr) (k:Int):Prop:=∃(i:Nat) (a n:Int),k=(i:Int)/\l[i]?=some ⟨11,a,n,0⟩/\0<=a/\a < (nf:Int)/\0<=n/\n<=4
structure Writ (d nf:Nat) (w w':GW):Prop where
 code:∃t,w'.code=w.code++t/\∀x∈t,okI (w'.code.length+d) x
 calls:∃s,w'.calls=w.calls++s/\s.Pairwise (· < ·)/\∀k∈s,(w.code.length:Int)<=k/\k < (w'.code.length:Int)/\ZkJ nf w'.code k
theorem Writ.refl (d nf:Nat) (w:GW):Writ d nf w w:=⟨⟨[],by simp,by simp⟩,⟨[],by simp,.nil,by simp⟩⟩
theorem Writ.len {d nf:Nat} {w w':GW} (h:Writ d nf w w'):w.code.length<=w'.code.length:=by obtain ⟨t,ht,_⟩:=h.code;rw[ht];simp
theorem Zoi {nf:Nat} {l:List Instr} {k:Int} (h:ZkJ nf l k) (t:List Instr):ZkJ nf (l++t) k:=by obtain ⟨i,a,n,h1,h2,h3⟩:=h;refine ⟨i,a,n,h1,?_,h3⟩;have hi:i < l.length:=(Yac.1 h2).1;rw[Yal hi];exact h2
theorem Writ.trans {d nf:Nat} {a b c:GW} (h:Writ d nf a b) (k:Writ d nf b c):Writ d nf a c:=by
 have hlen:=h.len;have uY:=k.len;obtain ⟨t1,e1,o1⟩:=h.code;obtain ⟨t2,e2,o2⟩:=k.code;obtain ⟨s1,f1,p1,c1⟩:=h.calls;obtain ⟨s2,f2,p2,c2⟩:=k.calls;refine ⟨⟨t1++t2,by rw[e2,e1,Yax],λx hx=>?_⟩,⟨s1++s2,by rw[f2,f1,Yax],?_,λx hx=>?_⟩⟩
 ·rcases Yar.1 hx with hx | hx
  ·exact (o1 x hx).mono (by omega)
  ·exact o2 x hx
 ·rw[Ybt];refine ⟨p1,p2,λx hx y hy=>?_⟩;have:=(c1 x hx).2.1;have:=(c2 y hy).1;omega
 ·rcases Yar.1 hx with hx | hx
  ·obtain ⟨a1,a2,a3⟩:=c1 x hx;exact ⟨a1,by omega,by rw[e2];exact Zoi a3 t2⟩
  ·obtain ⟨a1,a2,a3⟩:=c2 x hx;exact ⟨by omega,a2,a3⟩
theorem Writ.put {d nf:Nat} (w:GW) {op a b c:Int} (more:Int) (h:okI (w.code.length+1+d) ⟨op,a,b,c⟩):Writ d nf w (w.put op a b c more) :=
 ⟨⟨[⟨op,a,b,c⟩],rfl,λx hx=>by rw[Yaz.1 hx,ZaY];exact h⟩,⟨[],by rw[Zg2];simp,.nil,by simp⟩⟩
theorem Writ.at_ {d nf:Nat} {w w':GW} {op a b c more:Int} (h:Writ d nf (w.put op a b c more) w'):w'.code[w.code.length]?=some ⟨op,a,b,c⟩:=by obtain ⟨t,e,_⟩:=h.code;rw[e,GW.put,Yal (by simp)];simp
theorem Zqs {α:Type} (l:List α) (i:Nat) (f:α->α):(l.modify i f)[i]?=l[i]?.map f:=by
 rw[Yb7];cases l[i]?<;>simp
theorem Zik {α:Type} (l:List α) {i j:Nat} (f:α->α) (h:i≠j):(l.modify i f)[j]?=l[j]?:=by
 rw[Yb7];cases l[j]?<;>simp[h]
theorem Zr2 {α:Type} (l t:List α) (i:Nat) (f:α->α) (h:l.length<=i):(l++t).modify i f=l++t.modify (i - l.length) f:=by
 apply Ybx;intro j;by_cases hj:j < l.length
 ·rw[Zik _ _ (by omega),Yal hj,Yal hj]
 ·rw[Yaj (by omega)];by_cases hk:i=j
  ·subst hk;rw[Zqs,Zqs,Yaj (by omega)]
  ·rw[Zik _ _ hk,Zik _ _ (by omega),Yaj (by omega)]
theorem Writ.setA {d nf:Nat} {w w':GW} (h:Writ d nf w w') {k:Nat} {op a:Int} (hk:w.code.length<=k) (hj:w'.code[k]?=some ⟨op,a,0,0⟩) (ho:op=9\/op=10) {b:Int} (h0:0<=b) (h1:b < ((w'.code.length+d:Nat):Int)):Writ d nf w (w'.setA k b):=by
 have hlen:=ZeU w' k b;obtain ⟨t,e,o⟩:=h.code;obtain ⟨s,f,p,c⟩:=h.calls;have hi:k < w'.code.length:=(Yac.1 hj).1;refine ⟨⟨t.modify (k - w.code.length) (λx=>{ x with a:=b }),?_,λx hx=>?_⟩,⟨s,f,p,λx hx=>?_⟩⟩
 ·show w'.code.modify k _=_;rw[e,Zr2 _ _ _ _ hk]
 ·rw[hlen];obtain ⟨j,dt⟩:=List.mem_iff_getElem?.1 hx;by_cases hc:k - w.code.length=j
  ·have ht:t[j]?=some ⟨op,a,0,0⟩:=by rw[e,Yaj hk,hc] at hj;exact hj
   rw[hc,Zqs,ht] at dt;have:=Ya2 dt;subst this;exact .inr ⟨ho,h0,h1,rfl,rfl⟩
  ·rw[Zik _ _ hc] at dt;exact o x (YaL dt)
 ·obtain ⟨c1,c2,i,a',n,e1,e2,e3⟩:=c x hx;refine ⟨c1,by rw[hlen];exact c2,i,a',n,e1,?_,e3⟩;show (w'.code.modify k _)[i]?=_;have hc:k≠i:=by intro hc;subst hc;rw[e2] at hj;have:=Ya2 hj;injection this with jI _ _ _;omega
  rw[Zik _ _ hc,e2]
theorem okJ {L:Nat} {op a:Int} (h:op=9\/op=10) (h0:0<=a) (h1:a < (L:Int)):okI L ⟨op,a,0,0⟩:=.inr ⟨h,h0,h1,rfl,rfl⟩
theorem ok0 {L:Nat} {op:Int} (h:op=3\/op=6\/op=7\/op=13\/op=14\/op=15):okI L ⟨op,0,0,0⟩:=.inl (by rcases h with rfl | rfl | rfl | rfl | rfl | rfl<;>decide)
theorem ZkX {L:Nat} {a:Int} (h:0<=a/\a<=65535):okI L ⟨1,a,0,0⟩:=.inl (Zde (by decide) h (by decide) (by decide) (λh=>absurd h (by decide)))
theorem Zwp {L:Nat} {op a:Int} (ho:op=4\/op=5) (h:0<=a/\a<=7):okI L ⟨op,a,0,0⟩:=.inl (by rcases ho with rfl | rfl<;>exact Zde (by decide) h (by decide) (by decide) (λh=>absurd h (by decide)))
theorem ZCb {L:Nat} {a:Int} (h:1<=a/\a<=10):okI L ⟨8,a,0,0⟩:=.inl (Zde (by decide) ⟨by omega,h.2⟩ (by decide) (by decide) (λ_=>by omega))
theorem ZAP {L:Nat} {a n:Int} (h:0<=a/\a<=1199) (hn:0<=n/\n<=4):okI L ⟨11,a,n,0⟩:=.inl (Zde (by decide) h hn (by decide) (λh=>absurd h (by decide)))
theorem ZAO {L:Nat} {a b n:Int} (h:0<=a/\a<=4) (hb:0<=b/\b<=7) (hn:0<=n/\n<=4):okI L ⟨12,a,b,n⟩:=.inl (Zde (by decide) h hb hn (λh=>absurd h (by decide)))
structure Fits (g:GC):Prop where
 base:0<=g.base/\g.base<=250
 vars:g.u.vars.length<=8
 arrs:g.u.arrays.length<=3
 sizes:∀a∈g.u.arrays,1<=a.size/\a.size<=10
 units:g.p.length<=5
 funs:∀u∈g.p,u.funcs.length<=8
 own:g.u.funcs.length<=8
 params:g.f.params.length<=4
theorem Zou (name:Str):∀(l:List Arr) (at_:Int),(∀a∈l,1<=a.size/\a.size<=10)->l.length<=3->0<=at_->at_<=1000->(0<=(Zhz name l at_).1/\(Zhz name l at_).1<=at_+10*l.length)/\0<=(Zhz name l at_).2/\(Zhz name l at_).2<=10
 | [],at_,_,_,h0,_=>by simp only[Zhz,List.length_nil];omega
 | a :: l,at_,hs,hl,h0,h1=>by
  have ha:=hs a Yae;unfold Zhz;simp only[List.length_cons] at hl ⊢;split
  ·omega
  ·have hw:IntKind.i64.wrap (at_+a.size)=at_+a.size:=I64.wrap (by unfold I64;omega);rw[hw];by_cases hb:at_+a.size<=1000
   ·have:=Zou name l (at_+a.size) (λx hx=>hs x (Yad _ hx)) (by omega) (by omega) hb;omega
   ·match l,hl with
    | [],_=>simp only[Zhz,List.length_nil];omega
    | [b],_ =>have au:=hs b (by simp);simp only[Zhz,List.length_cons,List.length_nil];rw[I64.wrap (by unfold I64;omega)];split<;>omega
    | [b,c],_ =>
     have au:=hs b (by simp);have mo:=hs c (by simp);simp only[Zhz,List.length_cons,List.length_nil];rw[I64.wrap (by unfold I64;omega),I64.wrap (by unfold I64;omega)];split
     ·omega
     ·split<;>omega
theorem Zpp {α:Type} (q:α->Prop) [DecidablePred q] (l:List α):-1<=idx q l/\idx q l < l.length:=by rcases Zb0 q l with ⟨h,_⟩ | ⟨i,hi,h,_⟩<;>omega
theorem Zkp {g:GC} (h:Fits g) (name:Str):(0<=(ZcG g name).1/\(ZcG g name).1<=65535)/\0<=(ZcG g name).2/\(ZcG g name).2<=65535:=by
 have hb:=h.base;have hv:=h.vars;have ha:=h.arrs;have hi:=Zpp (λs=>name=s) g.u.vars;unfold ZcG ZpT;split
 ·dsimp only;rw[I64.wrap (by unfold I64;omega)];omega
 ·rw[I64.wrap (show I64 (g.base+g.u.vars.length) by unfold I64;omega)];have:=Zou name g.u.arrays (g.base+g.u.vars.length) h.sizes ha (by omega) (by omega);omega
theorem Writ.elem {g:GC} (h:Fits g) (nf:Nat) (name:Str) (w:GW):Writ 1 nf w (Zj7 g name w):=by
 obtain ⟨ek,ah⟩:=Zkp h name;unfold Zj7;dsimp only;generalize pB:((w.put 3 0 0 0 1).put 1 (ZcG g name).2 0 0 1).put 8 7 0 0 (-1)=w3;have h3:Writ 1 nf w w3:=by rw[<- pB];exact ((Writ.put w _ (ok0 (.inl rfl))).trans (.put _ _ (ZkX ah))).trans (.put _ _ (ZCb (by decide)))
 have hz:w3.at_=(w3.code.length:Int):=rfl;have h4:Writ 1 nf w3 (w3.put 10 0 0 0 (-1)):=.put _ _ (okJ (.inr rfl) (YbC _) (by omega));have h6:Writ 1 nf (w3.put 10 0 0 0 (-1)) (((w3.put 10 0 0 0 (-1)).put 9 (w3.at_+3) 0 0 0).put 15 0 0 0 0):=by
  refine ⟨⟨[⟨9,w3.at_+3,0,0⟩,⟨15,0,0,0⟩],by simp[GW.put],λx hx=>?_⟩,⟨[],by simp[Zg2],.nil,by simp⟩⟩;simp only[Yav,Ya4,or_false] at hx;rcases hx with rfl | rfl
  ·exact okJ (.inl rfl) (by omega) (by simp only[ZaY];omega)
  ·exact ok0 (.inr (.inr (.inr (.inr (.inr rfl)))))
 have oZ:=h6.at_;have h7:=(h3.trans (h4.trans h6)).setA (k:=w3.code.length) (b:=w3.at_+2) h3.len oZ (.inr rfl) (by omega) (by simp only[ZaY];omega);exact (h7.trans (.put _ _ (ZkX ek))).trans (.put _ _ (ZCb (by decide)))
theorem Writ.call {g:GC} (h:Fits g) (of s:Str) {n:Nat} (hn:n<=4) (hc:Zbf g.p g.u of s n=0) (w:GW):Writ 1 g.u.funcs.length w (Zoj g of s n w):=by
 have hu:=h.units;have ho:=h.own;unfold Zoj;by_cases jX:of=[]
 ·rw[if_pos jX];unfold Zbf at hc;rw[if_pos jX] at hc;obtain ⟨i,hi,h1,_⟩:=Ze8 hc;refine ⟨⟨[⟨11,Zfh g.u s,n,0⟩],rfl,λx hx=>?_⟩,⟨[w.at_],rfl,YbY _ _,λk hk=>?_⟩⟩
  ·rw[Yaz.1 hx];exact ZAP (by omega) (by omega)
  ·rw[Yaz.1 hk,ZaY];refine ⟨YbC _,(show (w.code.length:Int) < ((w.code.length+1:Nat):Int) by omega),w.code.length,Zfh g.u s,n,rfl,?_,by omega,by omega,by omega,by omega⟩;show (w.code++[_])[w.code.length]?=_;simp
 ·rw[if_neg jX];obtain ⟨i,hi,h1,h2⟩:=Zkf hc jX;obtain ⟨j,hj,h3,_,bj,_⟩:=Ze8 h2;have e1:g.p.getD (Zc6 g.p of).toNat ⟨[],[],[],[]⟩=g.p[i]:=by rw[h1,Int.toNat_natCast];simp[hi]
  rw[e1,h1,h3];have hf:=h.funs g.p[i] (Yai hi);refine .put _ _ (ZAO (by omega) ?_ (by omega));unfold Zk9;rw[Int.toNat_natCast];have:=Zqh (g.p[i].funcs.take j);rw[Yam] at this;omega
mutual
theorem Writ.expr {g:GC} (h:Fits g):∀(x:Expr) (n:Nat) (w:GW),Zaw n x=0->ZbR g.p g.u g.f x=0->Writ 1 g.u.funcs.length w (Zca g x w)
 | .mk k v of s args,0,w,hE,_=>by rw[Zaw] at hE;exact absurd hE (by decide)
 | .mk k v of s args,n+1,w,hE,hS=>by
  obtain ⟨hk,h4,aR,c8,dX⟩:=Zdo hE;obtain ⟨h1,ky⟩:=Zho hS;dsimp only[Expr.k,Expr.n,Expr.of,Expr.s,Expr.args] at hk h4 aR c8 dX h1 ky;have hb:=h.base;have hp:=h.params;rw[Zca];refine (Writ.exprs h args n w dX ky).trans ?_;generalize Zbe g args w=w1;unfold ZkA;unfold Za0 at c8;by_cases k1:k=1
  ·rw[if_pos k1];exact .put _ _ (ZkX (by omega))
  rw[if_neg k1];by_cases k2:k=2
  ·rw[if_pos k2];unfold Zwg;split
   ·have:=Zpp (λz=>s=z) g.f.params;unfold Zfe at *;exact .put _ _ (Zwp (.inl rfl) (by omega))
   ·exact (Writ.put _ _ (ZkX (Zkp h s).1)).trans (.put _ _ (ok0 (.inr (.inl rfl))))
  rw[if_neg k2];by_cases k3:k=3
  ·rw[if_pos k3];exact (Writ.elem h _ s w1).trans (.put _ _ (ok0 (.inr (.inl rfl))))
  rw[if_neg k3];by_cases k4:k=4
  ·rw[if_pos k4];unfold Zbp at h1;rw[if_neg (by omega),if_pos k4] at h1;exact .call h of s h4 h1 w1
  rw[if_neg k4];exact .put _ _ (ZCb (by omega))
theorem Writ.exprs {g:GC} (h:Fits g):∀(l:List Expr) (n:Nat) (w:GW),(∀x∈l,Zaw n x=0)->(∀x∈l,ZbR g.p g.u g.f x=0)->Writ 1 g.u.funcs.length w (Zbe g l w)
 | [],_,w,_,_=>by rw[Zbe];exact .refl _ _ w
 | x :: l,n,w,hE,hS=>by rw[Zbe];exact (Writ.expr h x n w (hE x Yae) (hS x Yae)).trans (.exprs h l n _ (λy hy=>hE y (Yad _ hy)) (λy hy=>hS y (Yad _ hy)))
end
theorem ZrF (g:GC) (w:GW):stmtsG g [] w=w:=by rw[stmtsG]
theorem ZoP (g:GC) (x:Stmt) (l:List Stmt) (w:GW):stmtsG g (x :: l) w=stmtsG g l (Zjp g x w):=by rw[stmtsG]
theorem Writ.stmt {g:GC} (h:Fits g) (n:Nat) (ih:∀(l:List Stmt),Zai n l=0->Zbt g.p g.u g.f l=0->∀w:GW,Writ 1 g.u.funcs.length w (stmtsG g l w)) (x:Stmt) (hE:ZbI (Zai n) x=0) (hS:Zd1 g.p g.u g.f x=0) (w:GW):Writ 1 g.u.funcs.length w (Zjp g x w):=by
 obtain ⟨hk,aR,dX,dV,eQ⟩:=Zct hE;obtain ⟨_,ky,mu,ke⟩:=ZgZ hS;have hp:=h.params;have hw:0<=w.at_:=by unfold GW.at_;omega
 unfold ZdN at aR;have hX:∀y∈x.xs,∀w:GW,Writ 1 g.u.funcs.length w (Zca g y w):=λy hy w=>.expr h y 12 w (dX y hy) (ky y hy);have h0:x.xs.getD 0 noX∈x.xs:=by
  have:0 < x.xs.length:=by omega
  simp[List.getD,List.getElem?_eq_getElem this]
 rw[ZlA];by_cases k1:x.k=1
 ·rw[if_pos k1];unfold ZxC;split
  ·have:=Zpp (λz=>x.s=z) g.f.params;unfold Zfe at *;exact (hX _ h0 w).trans (.put _ _ (Zwp (.inr rfl) (by omega)))
  ·exact ((Writ.put _ _ (ZkX (Zkp h x.s).1)).trans (hX _ h0 _)).trans (.put _ _ (ok0 (.inr (.inr (.inl rfl)))))
 rw[if_neg k1];by_cases k2:x.k=2
 ·rw[if_pos k2];have h1:x.xs.getD 1 noX∈x.xs:=by
   have:1 < x.xs.length:=by omega
   simp[List.getD,List.getElem?_eq_getElem this]
  unfold Znk;exact (((((hX _ h0 w).trans (hX _ h1 _)).trans (.put _ _ (Zwp (.inr rfl) (by omega)))).trans (.elem h _ _ _)).trans (.put _ _ (Zwp (.inl rfl) (by omega)))).trans (.put _ _ (ok0 (.inr (.inr (.inl rfl)))))
 rw[if_neg k2];by_cases k3:x.k=3\/x.k=4
 ·rw[if_pos k3];dsimp only;have a1:=hX _ h0 w;generalize Zca g (x.xs.getD 0 noX) w=w1 at a1 ⊢;have a2:=ih x.b dV mu (w1.put 10 0 0 0 (-1));have p2:Writ 1 g.u.funcs.length w1 (w1.put 10 0 0 0 (-1)):=.put _ _ (okJ (.inr rfl) (YbC _) (by omega));generalize stmtsG g x.b (w1.put 10 0 0 0 (-1))=w2 at a2 ⊢;have l1:=a1.len;have l2:=(p2.trans a2).len;have p3:Writ 1 g.u.funcs.length w2 (w2.put 9 (if x.k=4 then w.at_ else 0) 0 0 0):=by
   refine .put _ _ (okJ (.inl rfl) ?_ ?_)
   ·split
    ·exact hw
    ·exact YbC _
   ·split
    ·unfold GW.at_;omega
    ·omega
  have uR:=(a2.trans p3).at_;have s9:(w2.put 9 (if x.k=4 then w.at_ else 0) 0 0 0).code[w2.code.length]?=some ⟨9,if x.k=4 then w.at_ else 0,0,0⟩:=(Writ.refl 1 g.u.funcs.length _).at_;have l3:=ZaY w2 9 (if x.k=4 then w.at_ else 0) 0 0 0;generalize hv:(if x.k=4 then w.at_ else 0)=v at *;generalize pB:w2.put 9 v 0 0 0=w3 at *;have aG:w1.code.length < w2.code.length:=by have:=a2.len;rw[ZaY] at this;exact this
  have a4:Writ 1 g.u.funcs.length w (w3.setA w1.code.length w3.at_):=(a1.trans (p2.trans (a2.trans p3))).setA l1 uR (.inr rfl) (by unfold GW.at_;omega) (by unfold GW.at_;omega);have s4:(w3.setA w1.code.length w3.at_).code[w2.code.length]?=some ⟨9,v,0,0⟩:=by show (w3.code.modify _ _)[w2.code.length]?=_;rw[Zik _ _ (by omega),s9]
  split
  ·have a5:=ih x.e eQ ke (w3.setA w1.code.length w3.at_);have yt:(w3.setA w1.code.length w3.at_).code.length=w3.code.length:=ZeU _ _ _;obtain ⟨t,et,_⟩:=a5.code;have l5:=a5.len;generalize stmtsG g x.e (w3.setA w1.code.length w3.at_)=w5 at *;refine (a4.trans a5).setA (k:=w2.code.length) (by omega) (op:=9) (a:=v) ?_ (.inl rfl) (by unfold GW.at_;omega) (by unfold GW.at_;omega);rw[et,Yal (by omega)];exact s4
  ·exact a4
 rw[if_neg k3];split
 ·exact (hX _ h0 w).trans (.put _ _ (ok0 (.inr (.inr (.inr (.inl rfl))))))
 ·exact (hX _ h0 w).trans (.put _ _ (ok0 (.inr (.inr (.inr (.inr (.inl rfl)))))))
theorem Writ.stmts {g:GC} (h:Fits g):∀(n:Nat) (l:List Stmt),Zai n l=0->Zbt g.p g.u g.f l=0->∀w:GW,Writ 1 g.u.funcs.length w (stmtsG g l w)
 | 0,_,hE,_=>by rw[Zai] at hE;exact absurd hE (by decide)
 | n+1,l,hE,hS=>by
  rw[Zai] at hE;rw[Za1] at hS;have e:=Zaf hE;have s:=Zaf hS;clear hE hS
  induction l with
  | nil=>intro w;rw[ZrF];exact .refl _ _ w
  | cons x l il =>intro w;rw[ZoP];exact (Writ.stmt h n (Writ.stmts h n) x (e x Yae) (s x Yae) w).trans (il (λy hy=>e y (Yad _ hy)) (λy hy=>s y (Yad _ hy)) _)
def Zxp (p:List Unit) (u:Unit) (base:Int) (f:Fun):Prop:=Fits ⟨p,u,base,f⟩/\Zai 12 f.body=0/\Zbt p u f f.body=0
theorem Zi4 (p:List Unit) (u:Unit) (base:Int) (f:Fun) (w:GW):(Zsh p u base f w).code.length=(stmtsG ⟨p,u,base,f⟩ f.body { w with deep:=0 }).code.length+2:=by unfold Zsh;rw[ZaY,ZaY]
theorem Writ.fun_ {p:List Unit} {u:Unit} {base:Int} {f:Fun} (h:Zxp p u base f) (w:GW):Writ 0 u.funcs.length w (Zsh p u base f w):=by
 have h1:=Writ.stmts h.1 12 f.body h.2.1 h.2.2 { w with deep:=0 };have hl:=Zi4 p u base f w;obtain ⟨t,et,ot⟩:=h1.code;obtain ⟨s,es,ps,cs⟩:=h1.calls;have hc:(Zsh p u base f w).code=w.code++(t++[⟨1,0,0,0⟩,⟨13,0,0,0⟩]):=by unfold Zsh GW.put;show (_++_)++_=_;rw[et];simp
 refine ⟨⟨_,hc,λx hx=>?_⟩,⟨s,es,ps,λk hk=>?_⟩⟩
 ·rw[hl];rcases Yar.1 hx with hx | hx
  ·exact (ot x hx).mono (by omega)
  ·simp only[Yav,Ya4,or_false] at hx;rcases hx with rfl | rfl
   ·exact ZkX (by decide)
   ·exact ok0 (.inr (.inr (.inr (.inl rfl))))
 ·obtain ⟨a1,a2,a3⟩:=cs k hk;refine ⟨a1,by rw[hl];omega,?_⟩;rw[hc,<- Yax];rw[et] at a3;exact Zoi a3 _
theorem Writ.funs {p:List Unit} {u:Unit} {base:Int}:∀(l:List Fun) (w:GW),(∀f∈l,Zxp p u base f)->Writ 0 u.funcs.length w (ZcO p u base l w)
 | [],w,_=>.refl _ _ w
 | f :: l,w,h=>by rw[ZcO];exact (Writ.fun_ (h f Yae) w).trans (.funs l _ (λx hx=>h x (Yad _ hx)))
theorem Zgg (p:List Unit) (u:Unit) (base:Int):∀(l:List Fun) (w:GW),(Zjb p u base l w).length=l.length
 | [],_=>rfl
 | f :: l,w=>by rw[Zjb,List.length_cons,List.length_cons,Zgg p u base l]
theorem ZqM (p:List Unit) (u:Unit) (base:Int):∀(l:List Fun) (w:GW),w.code.length<=(ZcO p u base l w).code.length
 | [],_=>Yas _
 | f :: l,w=>by rw[ZcO];have h1:=ZqM p u base l (Zsh p u base f w);have h2:=Zi4 p u base f w;have h3:=(Grow.stmts ⟨p,u,base,f⟩ f.body { w with deep:=0 }).lo;have h4:({ w with deep:=0 }:GW).code.length=w.code.length:=rfl;omega
theorem ZmD (p:List Unit) (u:Unit) (base:Int):∀(l:List Fun) (w:GW),∀a∈Zjb p u base l w,(w.code.length:Int)<=a/\a < ((ZcO p u base l w).code.length:Int)
 | [],_,a,ha=>by simp[Zjb] at ha
 | f :: l,w,a,ha=>by
  rw[Zjb,Yav] at ha;rw[ZcO];have h2:=Zi4 p u base f w;have h3:=(Grow.stmts ⟨p,u,base,f⟩ f.body { w with deep:=0 }).lo;have h4:({ w with deep:=0 }:GW).code.length=w.code.length:=rfl;rcases ha with rfl | ha
  ·have h1:=ZqM p u base l (Zsh p u base f w);unfold GW.at_;omega
  ·have:=ZmD p u base l _ a ha;omega
theorem Zio (p:List Unit) (u:Unit) (base:Int):∀(a b:List Fun) (w:GW),ZcO p u base (a++b) w=ZcO p u base b (ZcO p u base a w)
 | [],_,_=>rfl
 | f :: a,b,w=>by rw[List.cons_append,ZcO,ZcO];exact Zio p u base a b _
theorem ZuD (p:List Unit) (u:Unit) (base:Int) (l:List Fun) (j:Nat) (hj:j < l.length) (w:GW):ZcO p u base (l.take (j+1)) w=Zsh p u base l[j] (ZcO p u base (l.take j) w):=by rw[ZaJ hj,Zio];rfl
theorem Zkk (p:List Unit) (u:Unit) (base:Int):∀(a b:List Fun) (w:GW),Zjb p u base (a++b) w=Zjb p u base a w++Zjb p u base b (ZcO p u base a w)
 | [],_,_=>rfl
 | f :: a,b,w=>by rw[List.cons_append,Zjb,Zjb,ZcO,Zkk p u base a b];rfl
theorem Zxi (p:List Unit) (u:Unit) (base:Int) (l:List Fun) (j:Nat) (hj:j < l.length) (w:GW):Zjb p u base (l.take (j+1)) w=Zjb p u base (l.take j) w++[(ZcO p u base (l.take j) w).at_]:=by rw[ZaJ hj,Zkk];rfl
def ZkW (ats:List Int) (c:List Instr) (k:Int):List Instr:=setA c k.toNat (ats.getD (c.getD k.toNat ⟨0,0,0,0⟩).a.toNat 0)
theorem Zg7 (ats:List Int):∀(a b:List Int) (c:List Instr),Zc2 ats (a++b) c=Zc2 ats b (Zc2 ats a c)
 | [],_,_=>rfl
 | k :: a,b,c=>by rw[List.cons_append,Zc2,Zc2];exact Zg7 ats a b _
theorem ZhK (ats l:List Int) (j:Nat) (hj:j < l.length) (c:List Instr):Zc2 ats (l.take (j+1)) c=ZkW ats (Zc2 ats (l.take j) c) l[j]:=by rw[ZaJ hj,Zg7];rfl
theorem ZhL (ats:List Int):∀(l:List Int) (c:List Instr),(Zc2 ats l c).length=c.length
 | [],_=>rfl
 | k :: l,c=>by rw[Zc2,ZhL ats l];unfold setA;simp
theorem ZpG {nf:Nat} {ats:List Int} {c:List Instr} {j k:Int} (hk:ZkJ nf c k) (hj:ZkJ nf c j) (aC:k≠j):ZkJ nf (ZkW ats c k) j:=by obtain ⟨i,a,n,h1,h2,h3⟩:=hj;obtain ⟨i',_,_,ep,_⟩:=hk;refine ⟨i,a,n,h1,?_,h3⟩;unfold ZkW setA;rw[Zik _ _ (by omega),h2]
theorem ZeW {nf:Nat} {ats:List Int} {l:List Int} {c:List Instr} (hp:l.Pairwise (· < ·)) (hc:∀k∈l,ZkJ nf c k):∀(i:Nat) (j:Nat) (hj:j < l.length),i<=j->ZkJ nf (Zc2 ats (l.take i) c) l[j]
 | 0,j,hj,_=>by rw[List.take_zero];exact hc _ (Yai hj)
 | i+1,j,hj,kO=>by rw[ZhK ats l i (by omega)];have h1:=ZeW (ats:=ats) hp hc i i (by omega) (Yas _);have h2:=ZeW (ats:=ats) hp hc i j hj (by omega);have h3:=List.pairwise_iff_getElem.1 hp i j (by omega) hj (by omega);exact ZpG h1 h2 (by omega)
def okP (L:Nat) (x:Instr):Prop:=okI L x\/(x.op=11/\0<=x.a/\x.a < (L:Int)/\0<=x.b/\x.b<=4/\x.c=0)
theorem Zza {L:Nat} {x:Instr} (h:okP L x) (hL:L<=1200):Zbz x=0:=by
 rcases h with h | ⟨h1,h2,h3,h4,h5,h6⟩
 ·exact Zzb h hL
 ·obtain ⟨op,a,b,c⟩:=x;dsimp only at h1 h2 h3 h4 h5 h6;subst h6;subst h1;exact Zde (by decide) ⟨h2,by show a<=1199;omega⟩ ⟨h4,h5⟩ (by decide) (λh=>absurd h (by decide))
theorem Zqe {nf L:Nat} {ats:List Int} (ha:ats.length=nf) (hr:∀a∈ats,0<=a/\a < (L:Int)) {l:List Int} {c:List Instr} (hp:l.Pairwise (· < ·)) (hc:∀k∈l,ZkJ nf c k) (ho:∀x∈c,okI L x):∀(i:Nat),i<=l.length->∀x∈Zc2 ats (l.take i) c,okP L x
 | 0,_,x,hx=>by rw[List.take_zero] at hx;exact .inl (ho x hx)
 | i+1,hi,x,hx=>by
  rw[ZhK ats l i (by omega)] at hx;have ih:=Zqe ha hr hp hc ho i (by omega);obtain ⟨q,a,n,h1,h2,h3,h4,h5,h6⟩:=ZeW (ats:=ats) hp hc i i (by omega) (Yas _);generalize Zc2 ats (l.take i) c=d at *;rw[h1] at hx;unfold ZkW setA at hx;rw[Int.toNat_natCast,show d.getD q ⟨0,0,0,0⟩=⟨11,a,n,0⟩ by rw[YaG,h2];rfl] at hx;obtain ⟨j,hj⟩:=List.mem_iff_getElem?.1 hx;by_cases hq:q=j
  ·subst hq;rw[Zqs,h2] at hj;have:=Ya2 hj;subst this;have ek:ats.getD a.toNat 0∈ats:=by
    have:a.toNat < ats.length:=by omega
    rw[YaG,Yak this];exact Yai this
   have:=hr _ ek;exact .inr ⟨rfl,this.1,this.2,h5,h6,rfl⟩
  ·rw[Zik _ _ hq] at hj;exact ih x (YaL hj)
theorem ZvH {p:List Unit} {u:Unit} {base:Int} (h:∀f∈u.funcs,Zxp p u base f) (hl:(Zit p u base).length<=1200):∀x∈Zit p u base,Zbz x=0:=by
 intro x hx;have hw:=Writ.funs u.funcs ⟨[],[],0,0⟩ h;obtain ⟨t,et,ot⟩:=hw.code;obtain ⟨s,es,ps,cs⟩:=hw.calls;have xP:(Zew p u base).code=t:=by unfold Zew;rw[et];rfl
 have xQ:(Zew p u base).calls=s:=by unfold Zew;rw[es];rfl
 unfold Zit at hx hl;rw[ZhL] at hl;rw[xQ] at hx;have hc:(ZcO p u base u.funcs ⟨[],[],0,0⟩)=Zew p u base:=rfl;rw[hc] at ot cs;have:=Zqe (nf:=u.funcs.length) (L:=(Zew p u base).code.length) (Zgg p u base u.funcs ⟨[],[],0,0⟩) (λa ha=>by
  have:=ZmD p u base u.funcs ⟨[],[],0,0⟩ a ha;rw[hc] at this;exact ⟨by have:=this.1;simp at this;exact this,this.2⟩) (l:=s) (c:=(Zew p u base).code) ps (λk hk=>(cs k hk).2.2) (λx hx=>ot x (by rw[<- xP];exact hx)) s.length (Yas _) x (by rw[YaH];exact hx)
 exact Zza this hl
theorem Zxz:∀(n:Nat) (x:Expr),Zaw n x=0->3*szE x+1<=4 ^ n
 | 0,.mk _ _ _ _ _,h=>by rw[Zaw] at h;exact absurd h (by decide)
 | n+1,.mk k v of s args,h=>by
  obtain ⟨_,h4,_,_,hx⟩:=Zdo h;dsimp only[Expr.args] at h4 hx;have cw:1<=4 ^ n:=Nat.one_le_pow _ _ (by decide);have key:∀l:List Expr,(∀y∈l,Zaw n y=0)->3*Zee l+l.length<=l.length*4 ^ n:=by
   intro l
   induction l with
   | nil=>intro _;simp[Zee]
   | cons y l ih =>intro hy;have h1:=Zxz n y (hy y Yae);have h2:=ih (λz hz=>hy z (Yad _ hz));rw[Zee,List.length_cons,Ybj];omega
  have:=key args hx;rw[szE,Nat.pow_succ];have h5:args.length*4 ^ n+(4 - args.length)*4 ^ n=4*4 ^ n:=by rw[<- Ybj];congr 1;omega
  have h6:4 - args.length<=(4 - args.length)*4 ^ n:=Ycp _ cw;omega
theorem Zyr (l:List Expr) (h:∀y∈l,Zaw 12 y=0):Zee l<=l.length*5592405:=by
 induction l with
 | nil=>simp[Zee]
 | cons y l ih =>have h1:=Zxz 12 y (h y Yae);have h2:=ih (λz hz=>h z (Yad _ hz));rw[Zee,List.length_cons];omega
theorem ZoN:∀(n:Nat) (l:List Stmt),Zai n l=0->(Zfo l:Int)<=100663330*Zah n l
 | 0,_,h=>by rw[Zai] at h;exact absurd h (by decide)
 | n+1,l,h=>by
  rw[Zai] at h;have e:=Zaf h;clear h
  induction l with
  | nil=>rw[Zcf];simp[Zfo]
  | cons x l il =>
   obtain ⟨_,aR,dX,dV,eQ⟩:=Zct (e x Yae);have h1:=ZoN n x.b dV;have h2:=ZoN n x.e eQ;have h3:=il (λy hy=>e y (Yad _ hy));have h4:=Zyr x.xs dX;unfold ZdN at aR;have h5:x.xs.length<=2:=by omega
   have h6:Zee x.xs<=2*5592405:=YaC h4 (YaJ _ h5);rw[ZbG,Zfo,Zti];push_cast;omega
theorem Zpx {p:List Unit} (h:ZbC p=0) {u:Unit} (hu:u∈p) {base:Int} (hb:0<=base/\base<=250) {f:Fun} (hf:f∈u.funcs):Zxp p u base f:=by obtain ⟨h1,h2,_,h3⟩:=Zbk h;obtain ⟨_,a1,a2,a3,_,a4,a5⟩:=ZaQ (h2 u hu);obtain ⟨_,b1,_,b2⟩:=Zb7 (a5 f hf);exact ⟨⟨hb,a1,a2,λa ha=>(ZcC (a4 a ha)).2,h1,λv hv=>(ZaQ (h2 v hv)).2.2.2.1,a3,b1⟩,b2,Zjj (h3 u hu) f hf⟩
theorem Zve {p:List Unit} (h:ZbC p=0) (hN:ZuS p) {u:Unit} (hu:u∈p) {f:Fun} (hf:f∈u.funcs):Zfo f.body<=30198999000:=by obtain ⟨_,h2,_,_⟩:=Zbk h;obtain ⟨_,_,_,_,_,_,a5⟩:=ZaQ (h2 u hu);obtain ⟨_,_,_,b3⟩:=Zb7 (a5 f hf);have h3:=(Zhd u.funcs).1 f hf;have h4:=hN u hu;have h5:=ZoN 12 f.body b3;omega
theorem ZqL (p:List Unit) (u:Unit) (base:Int) (M:Nat):∀(l:List Fun) (w:GW),(∀f∈l,Zfo f.body<=M)->w.calls.length<=w.code.length->(ZcO p u base l w).code.length<=w.code.length+l.length*(M+2)/\(ZcO p u base l w).calls.length<=(ZcO p u base l w).code.length
 | [],w,_,h=>by rw[ZcO];simp;exact h
 | f :: l,w,hM,h=>by rw[ZcO];have g:=Grow.stmts ⟨p,u,base,f⟩ f.body { w with deep:=0 };have hf:=hM f Yae;have e1:=Zi4 p u base f w;have e2:(Zsh p u base f w).calls=(stmtsG ⟨p,u,base,f⟩ f.body { w with deep:=0 }).calls:=rfl;have g1:=g.hi;have g2:=g.calls;have g3:({ w with deep:=0 }:GW).code.length=w.code.length:=rfl;have g4:({ w with deep:=0 }:GW).calls.length=w.calls.length:=rfl;have:=ZqL p u base M l (Zsh p u base f w) (λx hx=>hM x (Yad _ hx)) (by rw[e1,e2];omega);rw[List.length_cons,Ybj];omega
noncomputable def Zmj (p:List Unit) (u base:Int):List Instr:=if ZiD p u base=0 then Zit p (p.getD u.toNat noU) base else []
noncomputable def ZiE (p:List Unit) (u base:Int):List Int:=if ZiD p u base=0 then Zjb p (p.getD u.toNat noU) base (p.getD u.toNat noU).funcs ⟨[],[],0,0⟩ else []
end Barb
namespace ZN
open Go Go.Dm Go.Eng Go.RowKit Barb
variable {L:Lv}
theorem Zp7 {p:List Barb.Unit} {u base e:Int} {h:Zae} (he:ZiD p u base=e) (h0:e≠0):Zby (Is (.tuple [.g (.sl 4 ((Zmj p u base).map Instr.g)),.g (.sl 1 ((ZiE p u base).map ZaU)),.g (.int (ZiD p u base))])) h (.tuple [.nils,.nils,.g (.int e)]):=by
 have h1:Zmj p u base=[]:=by unfold Zmj;rw[if_neg (by rw[he];exact h0)]
 have h2:ZiE p u base=[]:=by unfold ZiE;rw[if_neg (by rw[he];exact h0)]
 rw[h1,h2,he];exact ZbN (.inr (.inr ⟨Zel,Zel,lk rfl,trivial⟩))
theorem ZAo (g:GC) (ui:Int) (hf:g.f=⟨[],false,[],[]⟩):Zky (ZjJ [.old 0,.nil 135 4,.nil 3 1,.nil 3 1])
  [.blk [.g (.sl 4 (g.p.map Unit.g)),.g (.int ui),.g (.int g.base),.g (.str []),.g (.bool false),.nils,.nils,.nils,.nils,.g (.int 0),.g (.int 0)] 131,.row [] 135 4,.row [] 3 1,.row [] 3 1]
  (WHr g ui ⟨[],[],0,0⟩ []++[.row [] 3 1]):=by refine ⟨⟨rfl,.inr ?_⟩,⟨rfl,rfl,rfl⟩,⟨rfl,rfl,rfl⟩,⟨rfl,rfl,rfl⟩,trivial⟩;unfold WBr;rw[hf];exact ⟨lk rfl,lk rfl,lk rfl,lk rfl,lk rfl,Zel,Zel,.inr rfl,.inr rfl,lk rfl,lk rfl,trivial⟩
set_option maxRecDepth 20000 in
set_option maxHeartbeats 4000000 in
theorem ZpQ (p:List Barb.Unit) (hp:Zpa p) (hN:ZuS p) (ku base:Int) (hb:-4000000000000000000<=base/\base<=4000000000000000000) :
  CT Tryz.prog (gl L) 23 [.g (.sl 4 (p.map Unit.g)),.g (.int ku),.g (.int base)] (Is (.tuple [.g (.sl 4 ((Zmj p ku base).map Instr.g)),.g (.sl 1 ((ZiE p ku base).map ZaU)),.g (.int (ZiD p ku base))])):=by
 have lp:(p.map Unit.g).length=p.length:=Yaa _;have e:ZiD p ku base=ZiD p ku base:=rfl
 conv at e=>rhs;unfold ZiD
 refine enter hT hF hM Tryz.func23 rfl 126 rfl (by kernel_rfl) [.tmp 6,.tmp 7,.tmp 8] rfl [.g (.sl 4 (p.map Unit.g)),.g (.int ku),.g (.int base)] rfl _ ?_;refine Zad (.inl rfl) (Zet p hp) ?_;refine ⟨λh=>⟨rfl,Zp7 (by rw[e,if_pos h]) h⟩,λh=>?_⟩;rw[if_neg (λh'=>h' (by omega))] at e;have aE:ZbC p=0:=by omega
 have r5:(ku < 0\/ku >= p.length)->∀h:Zae,Zby (Is (.tuple [.g (.sl 4 ((Zmj p ku base).map Instr.g)),.g (.sl 1 ((ZiE p ku base).map ZaU)),.g (.int (ZiD p ku base))])) h (.tuple [.nils,.nils,.g (.int 5)]):=λhb h=>Zp7 (by rw[e,if_pos hb]) (by decide);refine ⟨λa1=>⟨rfl,r5 (.inl a1) _⟩,λa1=>⟨λa2=>⟨rfl,r5 (.inr (by omega)) _⟩,λa2=>?_⟩⟩;clear r5;rw[if_neg (by omega)] at e;obtain ⟨k,hk⟩:∃k:Nat,ku=(k:Int):=⟨ku.toNat,by omega⟩;subst hk;have aB:k < p.length:=by omega
 have iU:p.getD (k:Int).toNat ⟨[],[],[],[]⟩=p[k]:=by rw[Int.toNat_natCast];simp[aB]
 rw[iU] at e;have ax:p[k]∈p:=Yai aB;obtain ⟨qU,kS,_,tW⟩:=Zbk aE;obtain ⟨_,ju,mw,pY,_,nj,nh⟩:=ZaQ (kS _ ax);have ah:∀a∈p[k].arrays,1<=a.size/\a.size<=10:=λa ha=>(ZcC (nj a ha)).2;have yh:0<=ZaC p[k]/\ZaC p[k]<=40:=by have:=ZiP ah;unfold ZaC;omega
 have r2:(base < 0\/base+ZaC p[k] > 250)->∀h:Zae,Zby (Is (.tuple [.g (.sl 4 ((Zmj p k base).map Instr.g)),.g (.sl 1 ((ZiE p k base).map ZaU)),.g (.int (ZiD p k base))])) h (.tuple [.nils,.nils,.g (.int 2)]):=λhb h=>Zp7 (by rw[e,if_pos hb]) (by decide);refine ⟨λb1=>⟨rfl,r2 (.inl b1) _⟩,λb1=>?_⟩;refine ⟨k,_,rfl,gm aB,?_⟩;refine Zad (.inl rfl) (Zkr p[k] ju ah mw) ?_;refine ⟨_,I64.wrap (by unfold I64;omega),?_⟩;refine ⟨λb2=>⟨rfl,r2 (.inr b2) _⟩,λb2=>?_⟩;clear r2;rw[if_neg (by omega)] at e;have bL:(p[k].funcs.map Fun.g).length=p[k].funcs.length:=Yaa _;obtain ⟨w0,nL⟩:∃w0:GW,w0=⟨[],[],0,0⟩:=⟨_,rfl⟩;refine ⟨k,_,rfl,gm aB,?_⟩;refine ZaO (ι:=Nat × Barb.Fun) (λi=>[(10,.ptr 0 0),(11,.row 3),(50,.g (.sl 4 (p[k].funcs.map Fun.g))),(51,.g (.int (p[k].funcs.map Fun.g).length)),(52,.g (.int (i.1:Int)))])
  (λi=>WHr ⟨p,p[k],base,i.2⟩ k (ZcO p p[k] base (p[k].funcs.take i.1) w0) []++[Obj.row ((Zjb p p[k] base (p[k].funcs.take i.1) w0).map ZaU) 3 1]) (λi=>i.1<=p[k].funcs.length) (λi=>p[k].funcs.length - i.1)
  ⟨(0,⟨[],false,[],[]⟩),[.old 0,.nil 135 4,.nil 3 1,.nil 3 1],⟨rfl,.inr (by rw[nL];exact ZAo ⟨p,p[k],base,⟨[],false,[],[]⟩⟩ k rfl),.inr ⟨lk rfl,.inr rfl,lk rfl,lk rfl,lk rfl,trivial⟩,rfl⟩,Yat _⟩ ?_
 rintro Rd aj ⟨i,f0⟩ hi;dsimp only at hi;have hlen:(ZcO p p[k] base (p[k].funcs.take i) w0).code.length<=i*30198999002/\(ZcO p p[k] base (p[k].funcs.take i) w0).calls.length<=(ZcO p p[k] base (p[k].funcs.take i) w0).code.length:=by
  have h1:=ZqL p p[k] base 30198999000 (p[k].funcs.take i) w0 (λf hf=>Zve aE hN ax (YaK hf)) (by rw[nL];exact Yas _);have h2:(p[k].funcs.take i).length=i:=by rw[Yam];omega
  have h3:w0.code.length=0:=by rw[nL];rfl
  rw[h2,h3,YaA] at h1;exact h1
 refine ⟨λc1=>?_,λc1=>?_⟩
 ·have az:i < p[k].funcs.length:=by have:(i:Int) < ((p[k].funcs.map Fun.g).length:Nat):=c1;omega
  have gI:p[k].funcs[i]∈p[k].funcs:=Yai az;have n1:=ZuD p p[k] base p[k].funcs i az w0;have n2:=Zxi p p[k] base p[k].funcs i az w0;have r7:(Zjb p p[k] base (p[k].funcs.take i) w0).length=i:=by rw[Zgg,Yam];omega
  generalize ZcO p p[k] base (p[k].funcs.take i) w0=wi at *;generalize Zjb p p[k] base (p[k].funcs.take i) w0=ai at *;obtain ⟨gJ,dV,mu⟩:=Zpx aE ax (base:=base) (by omega) gI;obtain ⟨_,_,fQ,gu⟩:=(hp.1 _ ax).2.2.2.2.1 _ gI;have yy:=Zve aE hN ax gI;have rJ:GOk ⟨p,p[k],base,p[k].funcs[i]⟩ k:=⟨aB,rfl,ju,mw⟩;have h8:i*30198999002<=8*30198999002:=YaJ _ (by omega);have aK:Room (Zfo p[k].funcs[i].body) { wi with deep:=0 }:=⟨by show wi.code.length+_<=_;omega,hlen.2⟩;have ff:=ZnP (L:=L) rJ qU (λv hv=>(ZaQ (kS v hv)).2.2.2.1) gJ.params 12 p[k].funcs[i].body dV mu fQ gu { wi with deep:=0 } aK;have hg:=Grow.stmts ⟨p,p[k],base,p[k].funcs[i]⟩ p[k].funcs[i].body { wi with deep:=0 };unfold Zsh at n1;generalize Barb.stmtsG ⟨p,p[k],base,p[k].funcs[i]⟩ p[k].funcs[i].body { wi with deep:=0 }=w1 at *;have ma:w1.code.length<=wi.code.length+Zfo p[k].funcs[i].body:=hg.hi;have lw:((wi.code.map Instr.g).length:Int)=wi.at_:=by rw[Yaa];rfl
  have la:(ai.map ZaU).length=i:=by rw[Yaa];exact r7
  refine ⟨i,_,rfl,(gm az).trans (congrArg some (Fun.g_eq _)),?_⟩;refine ⟨[[.int (wi.code.map Instr.g).length]],rfl,rfl,⟨rfl,trivial⟩,?_⟩;refine ⟨⟨by simp only[maxLen,List.length_cons,List.length_nil];omega,by simp only[List.length_cons,List.length_nil];omega⟩,?_⟩;refine Zbl ZgC 1 2 [.dead,.dead,.dead,.blk p[k].funcs[i].d 71,.row [[.int (wi.code.map Instr.g).length]] 3 1,.row (ai.map ZaU++[[.int (wi.code.map Instr.g).length]]) 3 1] ff ⟨rfl,.inl rfl,.inl rfl,rfl⟩ rfl rfl rfl ?_;refine Zbl ZbB 7 8 [.dead,.dead,.dead,.blk p[k].funcs[i].d 71,.row [[.int (wi.code.map Instr.g).length]] 3 1,.row (ai.map ZaU++[[.int (wi.code.map Instr.g).length]]) 3 1,.dead,.dead] (Za7 ⟨p,p[k],base,p[k].funcs[i]⟩ k w1 (by omega) 1 0 0 0 1) ⟨rfl,.inl rfl,.inl rfl,rfl⟩ rfl rfl rfl ?_;refine Zbl ZbB 9 10 [.dead,.dead,.dead,.blk p[k].funcs[i].d 71,.row [[.int (wi.code.map Instr.g).length]] 3 1,.row (ai.map ZaU++[[.int (wi.code.map Instr.g).length]]) 3 1,.dead,.dead,.dead,.dead] (Za7 ⟨p,p[k],base,p[k].funcs[i]⟩ k _ (by rw[ZaY];omega) 13 0 0 0 (-1)) ⟨rfl,.inl rfl,.inl rfl,rfl⟩ rfl rfl rfl ?_;refine ⟨_,I64.wrap (by unfold I64;omega),?_⟩;refine aj _ _ _ ⟨(i+1,p[k].funcs[i]),[.old 0,.old 11,.old 12,.old 6],⟨rfl,.inr ⟨⟨rfl,.inl (by dsimp only;rw[n1];rfl)⟩,⟨(by dsimp only;rw[n1]),rfl,rfl⟩,⟨(by dsimp only;rw[n1]),rfl,rfl⟩,⟨(by dsimp only;rw[n2,Yaf,<- lw];rfl),rfl,rfl⟩,trivial⟩,.inr ⟨lk rfl,lk rfl,lk rfl,lk rfl,lkI (by push_cast;rfl),trivial⟩,rfl⟩,az,by show p[k].funcs.length - (i+1) < p[k].funcs.length - i;omega⟩
 ·have az:i=p[k].funcs.length:=by have:¬(i:Int) < ((p[k].funcs.map Fun.g).length:Nat):=c1;omega
  subst az;rw[YaH] at hlen ⊢;have hW:ZcO p p[k] base p[k].funcs w0=Zew p p[k] base:=by rw[nL];rfl
  rw[hW] at hlen ⊢;have hA:Zjb p p[k] base p[k].funcs w0=Zjb p p[k] base p[k].funcs ⟨[],[],0,0⟩:=by rw[nL]
  rw[hA];clear hW hA;have tU:=Writ.funs p[k].funcs ⟨[],[],0,0⟩ (λf hf=>Zpx aE ax (base:=base) (by omega) hf);have hC:Zit p p[k] base=Zc2 (Zjb p p[k] base p[k].funcs ⟨[],[],0,0⟩) (Zew p p[k] base).calls (Zew p p[k] base).code:=rfl;have yF:=Zgg p p[k] base p[k].funcs ⟨[],[],0,0⟩;obtain ⟨cs,aU,gU,bt⟩:=tU.calls;have ml:(Zew p p[k] base).calls=cs:=aU;have eT:∀x∈(Zew p p[k] base).calls,ZkJ p[k].funcs.length (Zew p p[k] base).code x:=λx hx=>(bt x (by rw[<- ml];exact hx)).2.2;rw[<- ml] at gU;clear bt aU ml cs tU;have xw:ZiD p k base=0->ZiE p k base=Zjb p p[k] base p[k].funcs ⟨[],[],0,0⟩:=λh0=>by unfold ZiE;rw[if_pos h0,iU]
  have uo:ZiD p k base=0->Zmj p k base=Zit p p[k] base:=λh0=>by unfold Zmj;rw[if_pos h0,iU]
  rw[hC] at e uo;generalize Zjb p p[k] base p[k].funcs ⟨[],[],0,0⟩=ats at *;generalize Zew p p[k] base=w at *;have uW:(w.calls.map ZaU).length=w.calls.length:=Yaa _;refine ZaO (ι:=Nat) (λi=>[(10,.ptr 0 0),(11,.row 3),(83,.row 2),(84,.g (.int (w.calls.map ZaU).length)),(85,.g (.int (i:Int)))])
   (λi=>WHr ⟨p,p[k],base,f0⟩ k { w with code:=Zc2 ats (w.calls.take i) w.code } []++[Obj.row (ats.map ZaU) 3 1]) (λi=>i<=w.calls.length) (λi=>w.calls.length - i)
   ⟨0,[.old 0,.old 1,.old 2,.old 3],⟨rfl,.inl rfl,.inr ⟨lk rfl,lk rfl,lk rfl,lk rfl,lk rfl,trivial⟩,rfl⟩,Yat _⟩ ?_
  intro Rd aj i hi;refine ⟨λd1=>?_,λd1=>?_⟩
  ·have az:i < w.calls.length:=by have:(i:Int) < ((w.calls.map ZaU).length:Nat):=d1;omega
   have cx:=ZhK ats w.calls i az w.code;obtain ⟨q,a,n,q1,q2,q3,q4,q5,q6⟩:=ZeW (ats:=ats) gU eT i i az (Yas _);generalize Zc2 ats (w.calls.take i) w.code=ci at *;refine ⟨i,rfl,(by rw[uW];exact az),?_⟩;refine ⟨_,gm az,?_⟩;refine ⟨none,rfl,?_⟩;have hq:q < ci.length:=(Yac.1 q2).1;have wR:ci[q]=⟨11,a,n,0⟩:=(Yac.1 q2).2;refine ⟨q,congrArg (λz=>D.g (.int z)) q1,(by rw[Yaa];exact hq),?_⟩;obtain ⟨na,mM⟩:∃na:Nat,a=(na:Int):=⟨a.toNat,by omega⟩;subst mM;have iX:na < ats.length:=by omega
   refine ⟨_,(gm hq).trans (congrArg some (congrArg Instr.g wR)),?_⟩;refine ⟨na,rfl,(by rw[Yaa];exact iX),?_⟩;refine ⟨_,gm iX,?_⟩;refine ⟨q,congrArg (λz=>D.g (.int z)) q1,(by rw[Yaa];exact hq),?_⟩;refine ⟨_,[.int ats[na]],gm hq,⟨rfl,trivial⟩,Yau rfl,(λh=>by cases h),?_⟩;refine ⟨_,I64.wrap (by unfold I64;omega),?_⟩;have mK:ZkW ats ci w.calls[i]=setA ci q ats[na]:=by unfold ZkW;rw[q1,Int.toNat_natCast,show ci.getD q ⟨0,0,0,0⟩=⟨11,na,n,0⟩ by rw[YaG,q2];rfl];dsimp only;rw[Int.toNat_natCast,YaG,Yak iX];rfl
   have bq:=setA_row (w:={ w with code:=ci }) hq ats[na];refine aj _ _ _ ⟨i+1,[.old 0,.old 1,.old 2,.old 3],⟨rfl,.inr ⟨⟨rfl,.inl rfl⟩,⟨(by rw[cx,mK];exact bq),rfl,rfl⟩,⟨rfl,rfl,rfl⟩,⟨rfl,rfl,rfl⟩,trivial⟩,.inr ⟨lk rfl,lk rfl,lk rfl,lk rfl,lkI (by push_cast;rfl),trivial⟩,rfl⟩,az,by show w.calls.length - (i+1) < w.calls.length - i;omega⟩
  ·have az:i=w.calls.length:=by have:¬(i:Int) < ((w.calls.map ZaU).length:Nat):=d1;omega
   subst az;rw[YaH];generalize Zc2 ats w.calls w.code=ci at *;have yf:(ci.map Instr.g).length=ci.length:=Yaa _;have r1:(ci.length > 1200\/w.most > 40)->∀h:Zae,Zby (Is (.tuple [.g (.sl 4 ((Zmj p k base).map Instr.g)),.g (.sl 1 ((ZiE p k base).map ZaU)),.g (.int (ZiD p k base))])) h (.tuple [.nils,.nils,.g (.int 1)]):=λhb h=>Zp7 (by rw[e,if_pos hb]) (by decide);refine ⟨λx1=>⟨rfl,r1 (.inl (by have:(1200:Int) < ((ci.map Instr.g).length:Nat):=x1;omega)) _⟩,λx1=>⟨λx2=>⟨rfl,r1 (.inr x2) _⟩,λx2=>?_⟩⟩;clear r1;rw[if_neg (by have:¬(1200:Int) < ((ci.map Instr.g).length:Nat):=x1;have:¬40 < w.most:=x2;omega)] at e;refine ⟨rfl,?_⟩;rw[uo e,xw e,e];exact ZbN (.inl rfl)
end ZN
