import Derived.Test.YtpjjkiidjofflaaGreatDoorWG1
import Derived.Test.YtpjjkiidjofflaaGreatDoorWG4
import Derived.Test.YtpjjkiidjofflaaGreatDoorWGh
import Derived.Test.YtpjjkiidjofflaaGreatDoorWG2
import Derived.Test.YtpjjkiidjofflaaGreatDoorWG6
import Derived.Test.YtpjjkiidjofflaaGreatDoorWG5
import Derived.Test.YtpjjkiidjofflaaGreatDoorWB1
import Derived.Test.YtpjjkiidjofflaaGreatDoorWWd
import Derived.WalkKit
import Derived.BigCall
import Derived.RegionTactic
open Go Go.Proofs Go.Proofs.YtpjjkiidjofflaaGreatDoor
namespace Barb
open Go Go.Dm Go.Eng
structure GW where
 code:List Instr
 calls:List Int
 deep:Int
 most:Int
def GW.put (w:GW) (op a b c more:Int):GW :=
 ⟨w.code++[⟨op,a,b,c⟩],w.calls,IntKind.i64.wrap (w.deep+more),if IntKind.i64.wrap (w.deep+more) > w.most then IntKind.i64.wrap (w.deep+more) else w.most⟩
def setA (l:List Instr) (i:Nat) (a:Int):List Instr:=l.modify i (λx=>{ x with a:=a })
def GW.setA (w:GW) (i:Nat) (a:Int):GW:={ w with code:=Barb.setA w.code i a }
def GW.at_ (w:GW):Int:=w.code.length
structure GC where
 p:List Unit
 u:Unit
 base:Int
 f:Fun
def Zfw (name:Str):List Arr->Int->Int × Int
 | [],at_=>(at_,0)
 | a :: l,at_=>if a.name=name then (at_,a.size) else Zfw name l (IntKind.i64.wrap (at_+a.size))
noncomputable def Zkq (u:Unit) (name:Str):Int:=idx (λs=>name=s) u.vars
noncomputable def Zbo (f:Fun) (name:Str):Int:=idx (λs=>name=s) f.params
noncomputable def ZaD (g:GC) (name:Str):Int × Int :=
 if 0<=Zkq g.u name then (IntKind.i64.wrap (g.base+Zkq g.u name),1) else Zfw name g.u.arrays (IntKind.i64.wrap (g.base+g.u.vars.length))
noncomputable def Zfm (g:GC) (name:Str) (w:GW):GW :=
 let w3:=((w.put 3 0 0 0 1).put 1 (ZaD g name).2 0 0 1).put 8 7 0 0 (-1)
 let w6:=((w3.put 10 0 0 0 (-1)).put 9 (w3.at_+3) 0 0 0).put 15 0 0 0 0
 ((w6.setA w3.code.length (w3.at_+2)).put 1 (ZaD g name).1 0 0 1).put 8 1 0 0 (-1)
def Zc5 (l:List Fun):Int:=((l.filter (λf=>f.isOpen)).length:Nat)
def Zhc (u:Unit) (k:Int):Int:=Zc5 (u.funcs.take k.toNat)
noncomputable def ZhW (g:GC) (of s:Str) (n:Nat) (w:GW):GW :=
 if of=[] then ({ w with calls:=w.calls++[w.at_] }:GW).put 11 (Zbz g.u s) n 0 (1 - n)
 else w.put 12 (Zba g.p of) (Zhc (g.p.getD (Zba g.p of).toNat ⟨[],[],[],[]⟩) (Zbz (g.p.getD (Zba g.p of).toNat ⟨[],[],[],[]⟩) s)) n (1 - n)
noncomputable def Zm2 (g:GC) (s:Str) (w:GW):GW :=
 if 0<=Zbo g.f s then w.put 4 (Zbo g.f s) 0 0 1 else (w.put 1 (ZaD g s).1 0 0 1).put 6 0 0 0 0
noncomputable def ZfV (g:GC) (k n:Int) (of s:Str) (m:Nat) (w:GW):GW :=
 if k=1 then w.put 1 n 0 0 1 else if k=2 then Zm2 g s w else if k=3 then (Zfm g s w).put 6 0 0 0 0 else if k=4 then ZhW g of s m w else w.put 8 n 0 0 (-1)
mutual
noncomputable def Zbf (g:GC):Expr->GW->GW
 | .mk k n of s args,w=>ZfV g k n of s args.length (ZaH g args w)
noncomputable def ZaH (g:GC):List Expr->GW->GW
 | [],w=>w
 | x :: l,w=>ZaH g l (Zbf g x w)
end
noncomputable def Zsr (g:GC) (s:Str) (x:Expr) (w:GW):GW :=
 if 0<=Zbo g.f s then (Zbf g x w).put 5 (Zbo g.f s) 0 0 (-1) else (Zbf g x (w.put 1 (ZaD g s).1 0 0 1)).put 7 0 0 0 (-2)
noncomputable def Zii (g:GC) (s:Str) (x y:Expr) (w:GW):GW :=
 ((Zfm g s ((Zbf g y (Zbf g x w)).put 5 g.f.params.length 0 0 (-1))).put 4 g.f.params.length 0 0 1).put 7 0 0 0 (-2)
mutual
noncomputable def ZfR (g:GC):Stmt->GW->GW
 | .mk k s xs b e,w =>
  if k=1 then Zsr g s (xs.getD 0 noX) w
  else if k=2 then Zii g s (xs.getD 0 noX) (xs.getD 1 noX) w
  else if k=3\/k=4 then
   let w1:=Zbf g (xs.getD 0 noX) w
   let w2:=stmtsG g b (w1.put 10 0 0 0 (-1))
   let w3:=(w2.put 9 (if k=4 then w.at_ else 0) 0 0 0)
   let w4:=w3.setA w1.code.length w3.at_
   if k=3 then
    let w5:=stmtsG g e w4
    w5.setA w2.code.length w5.at_
   else w4
  else if k=5 then (Zbf g (xs.getD 0 noX) w).put 13 0 0 0 (-1)
  else (Zbf g (xs.getD 0 noX) w).put 14 0 0 0 (-1)
noncomputable def stmtsG (g:GC):List Stmt->GW->GW
 | [],w=>w
 | x :: l,w=>stmtsG g l (ZfR g x w)
end
noncomputable def ZkT (p:List Unit) (u:Unit) (base:Int) (f:Fun) (w:GW):GW:=((stmtsG ⟨p,u,base,f⟩ f.body { w with deep:=0 }).put 1 0 0 0 1).put 13 0 0 0 (-1)
noncomputable def ZbD (p:List Unit) (u:Unit) (base:Int):List Fun->GW->GW
 | [],w=>w
 | f :: l,w=>ZbD p u base l (ZkT p u base f w)
noncomputable def ZfP (p:List Unit) (u:Unit) (base:Int):List Fun->GW->List Int
 | [],_=>[]
 | f :: l,w=>w.at_ :: ZfP p u base l (ZkT p u base f w)
def Zch (ats:List Int):List Int->List Instr->List Instr
 | [],c=>c
 | k :: l,c=>Zch ats l (setA c k.toNat (ats.getD (c.getD k.toNat ⟨0,0,0,0⟩).a.toNat 0))
noncomputable def Zc1 (p:List Unit) (u:Unit) (base:Int):GW:=ZbD p u base u.funcs ⟨[],[],0,0⟩
noncomputable def ZdV (p:List Unit) (u:Unit) (base:Int):List Instr:=Zch (ZfP p u base u.funcs ⟨[],[],0,0⟩) (Zc1 p u base).calls (Zc1 p u base).code
noncomputable def Zil (p:List Unit) (u base:Int):Int :=
 if Zbd p≠0 then Zbd p else if u < 0\/u >= p.length then 5
 else if base < 0\/base+Zap (p.getD u.toNat ⟨[],[],[],[]⟩) > 250 then 2
 else if (ZdV p (p.getD u.toNat ⟨[],[],[],[]⟩) base).length > 1200\/(Zc1 p (p.getD u.toNat ⟨[],[],[],[]⟩) base).most > 40 then 1 else 0
structure Grow (n:Nat) (w w':GW):Prop where
 lo:w.code.length<=w'.code.length
 hi:w'.code.length<=w.code.length+n
 calls:w'.calls.length+w.code.length<=w.calls.length+w'.code.length
theorem Grow.refl (w:GW):Grow 0 w w:=⟨Yax _,Yax _,Yax _⟩
theorem Grow.trans {n m:Nat} {a b c:GW} (h:Grow n a b) (k:Grow m b c):Grow (n+m) a c :=
 ⟨YaB h.lo k.lo,by have:=h.hi;have:=k.hi;omega,by have:=h.calls;have:=k.calls;omega⟩
theorem Grow.mono {n m:Nat} {a b:GW} (h:Grow n a b) (hm:n<=m):Grow m a b:=⟨h.lo,by have:=h.hi;omega,h.calls⟩
theorem ZaP (w:GW) (op a b c more:Int):(w.put op a b c more).code.length=w.code.length+1:=by unfold GW.put;simp
theorem Zel (w:GW) (op a b c more:Int):(w.put op a b c more).calls=w.calls:=rfl
theorem ZeD (w:GW) (i:Nat) (a:Int):(w.setA i a).code.length=w.code.length:=by unfold GW.setA Barb.setA;simp
theorem Grow.put (w:GW) (op a b c more:Int):Grow 1 w (w.put op a b c more):=⟨by rw[ZaP];omega,by rw[ZaP];omega,by rw[ZaP,Zel];omega⟩
theorem Grow.setA (w:GW) (i:Nat) (a:Int):Grow 0 w (w.setA i a):=⟨by rw[ZeD];omega,by rw[ZeD];omega,by rw[ZeD];show w.calls.length+_<=_;omega⟩
theorem Grow.elem (g:GC) (s:Str) (w:GW):Grow 8 w (Zfm g s w):=by unfold Zfm;exact ((((((((Grow.put w 3 0 0 0 1).trans (.put _ 1 _ 0 0 1)).trans (.put _ 8 7 0 0 (-1))).trans (.put _ 10 0 0 0 (-1))).trans (.put _ 9 _ 0 0 0)).trans (.put _ 15 0 0 0 0)).trans (.setA _ _ _)).trans (.put _ 1 _ 0 0 1)).trans (.put _ 8 1 0 0 (-1))
theorem Grow.call (g:GC) (of s:Str) (n:Nat) (w:GW):Grow 1 w (ZhW g of s n w):=by
 unfold ZhW;split
 ·exact ⟨by rw[ZaP];exact Nat.le_add_right _ _,by rw[ZaP];exact Yax _,by rw[ZaP,Zel];simp;omega⟩
 ·exact .put _ _ _ _ _ _
theorem Grow.last (g:GC) (k n:Int) (of s:Str) (m:Nat) (w:GW):Grow 9 w (ZfV g k n of s m w):=by
 unfold ZfV;split
 ·exact (Grow.put _ _ _ _ _ _).mono (by decide)
 ·split
  ·unfold Zm2;split
   ·exact (Grow.put _ _ _ _ _ _).mono (by decide)
   ·exact ((Grow.put _ _ _ _ _ _).trans (.put _ _ _ _ _ _)).mono (by decide)
  ·split
   ·exact (Grow.elem _ _ _).trans (.put _ _ _ _ _ _)
   ·split
    ·exact (Grow.call _ _ _ _ _).mono (by decide)
    ·exact (Grow.put _ _ _ _ _ _).mono (by decide)
mutual
def szE:Expr->Nat
 | .mk _ _ _ _ args=>1+Zd7 args
def Zd7:List Expr->Nat
 | []=>0
 | x :: l=>szE x+Zd7 l
end
mutual
theorem Grow.expr (g:GC):∀(x:Expr) (w:GW),Grow (9*szE x) w (Zbf g x w)
 | .mk k n of s args,w=>by rw[Zbf,szE];exact ((Grow.exprs g args w).trans (.last g k n of s args.length _)).mono (by omega)
theorem Grow.exprs (g:GC):∀(l:List Expr) (w:GW),Grow (9*Zd7 l) w (ZaH g l w)
 | [],w=>by rw[ZaH];exact .refl w
 | x :: l,w=>by rw[ZaH,Zd7];exact ((Grow.expr g x w).trans (.exprs g l _)).mono (by omega)
end
mutual
def szS:Stmt->Nat
 | .mk _ _ xs b e=>40+9*Zd7 xs+Ze1 b+Ze1 e
def Ze1:List Stmt->Nat
 | []=>0
 | x :: l=>szS x+Ze1 l
end
theorem ZsV:szE noX=1:=rfl
theorem ZiB:∀(l:List Expr) (i:Nat),szE (l.getD i noX)<=1+Zd7 l
 | [],i=>by simp[ZsV]
 | x :: l,0=>by simp[Zd7];omega
 | x :: l,i+1=>by have:=ZiB l i;simp only[List.getD_cons_succ,Zd7];omega
theorem ZpO:∀(l:List Expr),szE (l.getD 0 noX)+szE (l.getD 1 noX)<=2+Zd7 l
 | []=>by simp[ZsV,Zd7]
 | x :: l=>by have:=ZiB l 0;simp only[List.getD_cons_succ,List.getD_cons_zero,Zd7];omega
theorem Grow.set (g:GC) (s:Str) (x:Expr) (w:GW):Grow (2+9*szE x) w (Zsr g s x w):=by
 unfold Zsr;split
 ·exact ((Grow.expr _ _ _).trans (.put _ _ _ _ _ _)).mono (by omega)
 ·exact (((Grow.put _ _ _ _ _ _).trans (.expr _ _ _)).trans (.put _ _ _ _ _ _)).mono (by omega)
theorem Grow.put2 (g:GC) (s:Str) (x y:Expr) (w:GW):Grow (11+9*szE x+9*szE y) w (Zii g s x y w):=by unfold Zii;exact ((((((Grow.expr _ _ _).trans (.expr _ _ _)).trans (.put _ _ _ _ _ _)).trans (.elem _ _ _)).trans (.put _ _ _ _ _ _)).trans (.put _ _ _ _ _ _)).mono (by omega)
mutual
theorem Grow.stmt (g:GC):∀(x:Stmt) (w:GW),Grow (szS x) w (ZfR g x w)
 | .mk k s xs b e,w=>by
  have h0:=ZiB xs 0;have h2:=ZpO xs;rw[ZfR,szS];split
  ·exact (Grow.set _ _ _ _).mono (by omega)
  ·split
   ·exact (Grow.put2 _ _ _ _ _).mono (by omega)
   ·split
    ·have g4:=(((((Grow.expr g (xs.getD 0 noX) w).trans (.put _ 10 0 0 0 (-1))).trans (.stmts g b _)).trans (.put _ 9 (if k=4 then w.at_ else 0) 0 0 0)).trans (.setA _ (Zbf g (xs.getD 0 noX) w).code.length ((stmtsG g b ((Zbf g (xs.getD 0 noX) w).put 10 0 0 0 (-1))).put 9 (if k=4 then w.at_ else 0) 0 0 0).at_));dsimp only;split
     ·exact ((g4.trans (.stmts g e _)).trans (.setA _ _ _)).mono (by omega)
     ·exact g4.mono (by omega)
    ·split
     ·exact ((Grow.expr _ _ _).trans (.put _ _ _ _ _ _)).mono (by omega)
     ·exact ((Grow.expr _ _ _).trans (.put _ _ _ _ _ _)).mono (by omega)
theorem Grow.stmts (g:GC):∀(l:List Stmt) (w:GW),Grow (Ze1 l) w (stmtsG g l w)
 | [],w=>by rw[stmtsG];exact .refl w
 | x :: l,w=>by rw[stmtsG,Ze1];exact (Grow.stmt g x w).trans (.stmts g l _)
end
structure Room (n:Nat) (w:GW):Prop where
 code:w.code.length+n<=4000000000000
 calls:w.calls.length<=w.code.length
theorem Room.step {n m k:Nat} {w w':GW} (h:Room n w) (g:Grow m w w') (hk:m+k<=n):Room k w':=⟨by have:=h.code;have:=g.hi;omega,by have:=h.calls;have:=g.calls;omega⟩
theorem Zg9 (g:GC):∀(a b:List Expr) (w:GW),ZaH g (a++b) w=ZaH g b (ZaH g a w)
 | [],_,_=>by rw[ZaH];rfl
 | x :: a,b,w=>by rw[List.cons_append,ZaH,ZaH];exact Zg9 g a b _
theorem Zr5 (g:GC) (l:List Expr) (j:Nat) (hj:j < l.length) (w:GW):ZaH g (l.take (j+1)) w=Zbf g l[j] (ZaH g (l.take j) w):=by rw[Zay hj,Zg9,ZaH,ZaH]
theorem Zgf:∀(a b:List Expr),Zd7 (a++b)=Zd7 a+Zd7 b
 | [],b=>by simp[Zd7]
 | x :: a,b=>by rw[List.cons_append,Zd7,Zd7,Zgf a b];omega
theorem Zvx (l:List Expr) (j:Nat) (hj:j < l.length):Zd7 (l.take (j+1))=Zd7 (l.take j)+szE l[j]:=by rw[Zay hj,Zgf,Zd7,Zd7];omega
theorem ZmH (l:List Expr) (j:Nat):Zd7 (l.take j)<=Zd7 l:=by
 conv=>rhs;rw[<- Ya4 j l,Zgf]
 omega
theorem ZtG (l:List Fun) (j:Nat) (hj:j < l.length):Zc5 (l.take (j+1))=Zc5 (l.take j)+if l[j].isOpen then 1 else 0:=by
 unfold Zc5;rw[Zay hj,List.filter_append,Yae];cases h:l[j].isOpen<;>simp[h]
theorem ZiH (l:List Fun):0<=Zc5 l/\Zc5 l<=l.length:=by unfold Zc5;have:=List.length_filter_le (λf:Fun=>f.isOpen) l;omega
end Barb
namespace ZN
open Go Go.Dm Go.Eng Go.RowKit Barb
abbrev WB (g:GC) (ui:Int) (w:GW):List D:=[.g (.sl 4 (g.p.map Unit.g)),.g (.int ui),.g (.int g.base),.g (.str g.f.name),.g (.bool g.f.isOpen),.g (.sl 1 (g.f.params.map ZbP)),.g (.sl 5 (g.f.body.map Stmt.g)),.row 1,.row 2,.g (.int w.deep),.g (.int w.most)]
abbrev WH (g:GC) (ui:Int) (w:GW):Zad:=[.blk (WB g ui w) 140,.row (w.code.map Instr.g) 127 4,.row (w.calls.map Zat) 3 1]
theorem ZeP {R:D->Zad->Prop} {env:Dm.Env} {g:GC} {ui:Int} {w:GW} {h hin:Zad} {code calls:List (List GV)} {d0:D} (d:D) (src:List Src) (hok:ZdG src=true) (hlen:Zmt src (WH g ui w)=true)
  (h0:conv h src 4 (env 0)=.ptr 0 0) (hd:conv h src 4 d0=d\/ZiV (Zjs src) 4 (conv h src 4 d0) d)
  (hT:Zbu h src=[.blk (WB g ui w) 140,.row code 127 4,.row calls 3 1]) (e1:code=w.code.map Instr.g) (e2:calls=w.calls.map Zat) (q:R d (WH g ui w)):ToH [0] hin 1 [] R h env d0:=by
 subst e1;subst e2;refine ⟨src,d,WH g ui w,⟨hok,.inr ?_,.inr ?_,hlen⟩,rfl,trivial,q⟩
 ·rw[hT];exact ⟨⟨rfl,.inl rfl⟩,⟨rfl,rfl,rfl⟩,⟨rfl,rfl,rfl⟩,trivial⟩
 ·rw[Yar,Yar,Yar,h0];exact ⟨by rcases hd with hd | hd;exact lk hd;exact hd,lk rfl,trivial⟩
theorem code_row (l:List Barb.Instr) (op a b c:Int):l.map Instr.g++[[.int op,.int a,.int b,.int c]]=(l++[Barb.Instr.mk op a b c]).map Instr.g:=by rw[Yai];rfl
set_option maxRecDepth 20000 in
theorem ZaY (g:GC) (ui:Int) (w:GW) (hw:w.code.length<=4000000000000) (op a b c more:Int) :
  CTH Tryz.prog gl 60 1 (WH g ui w) [.ptr 0 0,.g (.int op),.g (.int a),.g (.int b),.g (.int c),.g (.int more)] (λout=>out=.ret (.tuple []) (WH g ui (w.put op a b c more))):=by have lc:(w.code.map Instr.g).length=w.code.length:=Yab _;refine ZbT [] hT hF hM Tryz.func60 rfl 46 rfl (by kernel_rfl) [] rfl [.ptr 0 0,.g (.int op),.g (.int a),.g (.int b),.g (.int c),.g (.int more)] rfl (WH g ui w) [0] rfl rfl rfl 1 [] trivial _ ?_;refine ⟨[[.int op,.int a,.int b,.int c]],rfl,rfl,⟨rfl,rfl,rfl,rfl,trivial⟩,?_⟩;refine ⟨⟨by simp[maxLen];omega,by simp;omega⟩,?_⟩;refine ⟨_,rfl,?_⟩;refine ⟨none,rfl,?_⟩;exact ⟨rfl,ZeP (w:=w.put op a b c more) (.tuple []) [.old 0,.old 4,.old 2] rfl rfl rfl (.inl rfl) rfl (code_row w.code op a b c) rfl rfl⟩
theorem ZgA (g:GC) (ku:Nat) (hk:ku < g.p.length) (hu:g.p[ku]=g.u) (w:GW) (hv:g.u.vars.length<=9223372036854775807) (ha:g.u.arrays.length<=9223372036854775806) (name:Str) :
  CTH Tryz.prog gl 88 1 (WH g ku w) [.ptr 0 0,.g (.str name)] (λout=>out=.ret (.tuple [.g (.int (ZaD g name).1),.g (.int (ZaD g name).2)]) (WH g ku w)):=by
 have lv:(g.u.vars.map ZbP).length=g.u.vars.length:=Yab _;have la:(g.u.arrays.map Arr.g).length=g.u.arrays.length:=Yab _;have e:ZaD g name=ZaD g name:=rfl
 conv at e=>rhs;unfold ZaD
 unfold Zkq at e;refine ZbT [] hT hF hM Tryz.func88 rfl 61 rfl (by kernel_rfl) [.tmp 4,.tmp 5] rfl [.ptr 0 0,.g (.str name)] rfl (WH g ku w) [0] rfl rfl rfl 1 [] trivial _ ?_;refine ⟨none,rfl,ku,_,rfl,(gm hk).trans (congrArg (λz=>some (Unit.g z)) hu),?_⟩;refine Zae (.inl rfl) (Zc2 g.u.vars hv name) ?_;refine ⟨λh=>?_,λh=>?_⟩
 ·rw[if_pos h] at e;refine ⟨_,rfl,?_⟩;exact ⟨rfl,ZeP (.tuple [.g (.int (ZaD g name).1),.g (.int (ZaD g name).2)]) [.old 0,.old 1,.old 2] rfl rfl rfl (.inr (.inr ⟨lkI (by rw[e]),lkI (by rw[e]),trivial⟩)) rfl rfl rfl rfl⟩
 rw[if_neg h] at e;refine ⟨none,rfl,_,rfl,?_⟩;refine ZaL (ι:=Nat × Int) (λi=>[(0,.ptr 0 0),(6,.ptr 3 0),(8,.g (.int i.2)),(44,.g (.int (i.1:Int)))]) (λ_=>WH g ku w++[.blk g.u.d 44]) (λi=>i.1<=g.u.arrays.length/\Zfw name (g.u.arrays.drop i.1) i.2=ZaD g name) (λi=>g.u.arrays.length - i.1)
  ⟨(0,IntKind.i64.wrap (g.base+g.u.vars.length)),[.old 0,.old 1,.old 2,.old 3],⟨rfl,.inl rfl,.inr ⟨lk rfl,lk rfl,lkI (by rw[lv]),lk rfl,trivial⟩,rfl⟩,Yau _,e.symm⟩ ?_
 rintro Rd hRd ⟨j,at_⟩ ⟨hj,he⟩;dsimp only at hj he;refine ⟨λhlt=>?_,λhge=>?_⟩
 ·have hjl:j < g.u.arrays.length:=by have:(j:Int) < ((g.u.arrays.map Arr.g).length:Nat):=hlt;omega
  rw[Ybh hjl] at he;unfold Zfw at he;refine ⟨j,_,rfl,gm hjl,?_⟩;refine ⟨λhn=>?_,λhn=>?_⟩
  ·rw[if_pos hn] at he;refine ⟨none,rfl,?_⟩;exact ⟨rfl,ZeP (.tuple [.g (.int (ZaD g name).1),.g (.int (ZaD g name).2)]) [.old 0,.old 1,.old 2] rfl rfl rfl (.inr (.inr ⟨lkI (by rw[<- he]),lkI (by rw[<- he]),trivial⟩)) rfl rfl rfl rfl⟩
  ·rw[if_neg hn] at he;refine ⟨_,rfl,_,I64.wrap (by unfold I64;omega),?_⟩;exact hRd _ _ _ ⟨(j+1,IntKind.i64.wrap (at_+g.u.arrays[j].size)),[.old 0,.old 1,.old 2,.old 3],⟨rfl,.inl rfl,.inr ⟨lk rfl,lk rfl,lk rfl,lkI (by push_cast;rfl),trivial⟩,rfl⟩,⟨hjl,he⟩,by show g.u.arrays.length - (j+1) < g.u.arrays.length - j;omega⟩
 ·have hje:j=g.u.arrays.length:=by have:¬(j:Int) < ((g.u.arrays.map Arr.g).length:Nat):=hge;omega
  rw[hje,Yce] at he;unfold Zfw at he;exact ⟨rfl,ZeP (.tuple [.g (.int (ZaD g name).1),.g (.int (ZaD g name).2)]) [.old 0,.old 1,.old 2] rfl rfl rfl (.inr (.inr ⟨lkI (by rw[<- he]),lkI (by rw[<- he]),trivial⟩)) rfl rfl rfl rfl⟩
abbrev WBr (g:GC) (ui:Int) (w:GW) (i j:Nat):List D:=[.g (.sl 4 (g.p.map Unit.g)),.g (.int ui),.g (.int g.base),.g (.str g.f.name),.g (.bool g.f.isOpen),.g (.sl 1 (g.f.params.map ZbP)),.g (.sl 5 (g.f.body.map Stmt.g)),.row i,.row j,.g (.int w.deep),.g (.int w.most)]
abbrev WHr (g:GC) (ui:Int) (w:GW) (r:Zad):Zad:=.blk (WBr g ui w (r.length+1) (r.length+2)) 140 :: (r++[.row (w.code.map Instr.g) 127 4,.row (w.calls.map Zat) 3 1])
theorem Za6 {gid:FuncId} (hg:fnOk Tryz.prog gid=true) {l all:List D} {h:Zad} {K Qp:KD} {g:GC} {ui:Int} {w w':GW} {d:D} (i j:Nat) (r:Zad)
  (hct:CTH Tryz.prog gl gid 1 (WH g ui w) (.ptr 0 0 :: l) (λout=>out=.ret d (WH g ui w'))) (ht:TurnTo h [.old 0,.old i,.old j] all (WH g ui w) (.ptr 0 0 :: l))
  (hl:Zgw h [0,i,j] all=true) (hd:rnD (rnI [0,i,j] 1 h.length) 4 d=d) (hp:Zhv h [0,i,j] 1 (WH g ui w')=WHr g ui w' r) (hyes:K d (WHr g ui w' r)) :
  fnOk Tryz.prog gid=true/\(Zb7 Tryz.prog gl gid all h K Qp\/ZbB Tryz.prog gl gid all h K Qp):=by
 refine Zee [0,i,j] hg hl rfl ht hct (λd' h' hq=>?_) (λd' h' hq=>?_)
 ·injection hq with e1 e2;subst e1;subst e2;rw[hd,hp];exact hyes
 ·cases hq
theorem Zbm:fnOk Tryz.prog 60=true:=by kernel_rfl
theorem Zh0:fnOk Tryz.prog 88=true:=by kernel_rfl
structure GOk (g:GC) (ku:Nat):Prop where
 hk:ku < g.p.length
 hu:g.p[ku]=g.u
 hv:g.u.vars.length<=8
 ha:g.u.arrays.length<=3
theorem setA_row {w:GW} {k:Nat} (hk:k < w.code.length) (a:Int):(w.code.map Instr.g).set k (Zdy w.code[k].g (0+1) [.int a])=(w.setA k a).code.map Instr.g:=by
 show _=(w.code.modify k (λx=>{ x with a:=a })).map Instr.g;apply List.ext_getElem
 ·simp
 intro i h1 h2;simp only[YcD,List.getElem_set,List.getElem_modify];split
 ·rename_i h;subst h;rfl
 ·rfl
abbrev dd (n:Nat):Zad:=List.replicate n .dead
theorem ZjU {g:GC} {ku:Nat} (ok:GOk g ku) (w:GW) (hw:Room 8 w) (name:Str) :
  CTH Tryz.prog gl 89 1 (WH g ku w) [.ptr 0 0,.g (.str name)] (λout=>out=.ret (.tuple []) (WH g ku (Zfm g name w))):=by
 obtain ⟨h1,h2⟩:=hw;have e:Zfm g name w=Zfm g name w:=rfl
 conv at e=>rhs;unfold Zfm
 refine ZbT [] hT hF hM Tryz.func89 rfl 47 rfl (by kernel_rfl) [] rfl [.ptr 0 0,.g (.str name)] rfl (WH g ku w) [0] rfl rfl rfl 1 [] trivial _ ?_;refine Za6 Zh0 1 2 (dd 2) (ZgA g ku ok.hk ok.hu w (by have:=ok.hv;omega) (by have:=ok.ha;omega) name) ⟨rfl,.inl rfl,.inl rfl,rfl⟩ rfl rfl rfl ?_;refine Za6 Zbm 3 4 (dd 4) (ZaY g ku w (by omega) 3 0 0 0 1) ⟨rfl,.inl rfl,.inl rfl,rfl⟩ rfl rfl rfl ?_;refine Za6 Zbm 5 6 (dd 6) (ZaY g ku _ (by simp only[ZaP];omega) 1 (ZaD g name).2 0 0 1) ⟨rfl,.inl rfl,.inl rfl,rfl⟩ rfl rfl rfl ?_;refine Za6 Zbm 7 8 (dd 8) (ZaY g ku _ (by simp only[ZaP];omega) 8 7 0 0 (-1)) ⟨rfl,.inl rfl,.inl rfl,rfl⟩ rfl rfl rfl ?_;have hl3:=ZaP ((w.put 3 0 0 0 1).put 1 (ZaD g name).2 0 0 1) 8 7 0 0 (-1);have hl2:=ZaP (w.put 3 0 0 0 1) 1 (ZaD g name).2 0 0 1;have hl1:=ZaP w 3 0 0 0 1;generalize ((w.put 3 0 0 0 1).put 1 (ZaD g name).2 0 0 1).put 8 7 0 0 (-1)=w3 at e hl3;refine Za6 Zbm 9 10 (dd 10) (ZaY g ku _ (by omega) 10 0 0 0 (-1)) ⟨rfl,.inl rfl,.inl rfl,rfl⟩ rfl rfl rfl ?_;have hm:((w3.code.map Instr.g).length:Int)=w3.at_:=by rw[Yab];rfl
 have hat:w3.at_=(w3.code.length:Int):=rfl;refine ⟨w3.at_+3,(by rw[hm];exact I64.wrap (by unfold I64;omega)),?_⟩;refine Za6 Zbm 11 12 (dd 12) (ZaY g ku _ (by rw[ZaP];omega) 9 _ 0 0 0) ⟨rfl,.inl rfl,.inl rfl,rfl⟩ rfl rfl rfl ?_;refine Za6 Zbm 13 14 (dd 14) (ZaY g ku _ (by rw[ZaP,ZaP];omega) 15 0 0 0 0) ⟨rfl,.inl rfl,.inl rfl,rfl⟩ rfl rfl rfl ?_;refine ⟨w3.at_+2,(by rw[hm];exact I64.wrap (by unfold I64;omega)),?_⟩;have hk:w3.code.length < (((w3.put 10 0 0 0 (-1)).put 9 (w3.at_+3) 0 0 0).put 15 0 0 0 0).code.length:=by simp only[ZaP];omega
 refine ⟨w3.code.length,congrArg (λz=>D.g (.int z)) hm,(by rw[Yab];exact hk),?_⟩;refine ⟨_,[.int (w3.at_+2)],gm hk,⟨rfl,trivial⟩,Yaw rfl,(λh=>by cases h),?_⟩;have hset:=setA_row (w:=((w3.put 10 0 0 0 (-1)).put 9 (w3.at_+3) 0 0 0).put 15 0 0 0 0) hk (w3.at_+2);have hl6:((((w3.put 10 0 0 0 (-1)).put 9 (w3.at_+3) 0 0 0).put 15 0 0 0 0).setA w3.code.length (w3.at_+2)).code.length=w3.code.length+3:=by simp only[ZeD,ZaP]
 refine Za6 Zbm 15 16 (dd 16) (ZaY g ku ((((w3.put 10 0 0 0 (-1)).put 9 (w3.at_+3) 0 0 0).put 15 0 0 0 0).setA w3.code.length (w3.at_+2)) (by omega) 1 (ZaD g name).1 0 0 1) ⟨rfl,.inr ⟨⟨rfl,.inl rfl⟩,⟨hset,rfl,rfl⟩,⟨rfl,rfl,rfl⟩,trivial⟩,.inl rfl,rfl⟩ rfl rfl rfl ?_;refine Za6 Zbm 17 18 (dd 18) (ZaY g ku _ (by rw[ZaP];omega) 8 1 0 0 (-1)) ⟨rfl,.inl rfl,.inl rfl,rfl⟩ rfl rfl rfl ?_;exact ⟨rfl,ZeP (.tuple []) [.old 0,.old 19,.old 20] rfl rfl rfl (.inl rfl) rfl rfl rfl (by rw[e])⟩
theorem Zuu (u:Barb.Unit) (hl:u.funcs.length<=9223372036854775807) (k:Nat) (hk:k<=u.funcs.length):CT Tryz.prog gl 100 [.agg u.d,.g (.int (k:Int))] (Is (.g (.int (Zhc u k)))):=by
 have lf:(u.funcs.map Fun.g).length=u.funcs.length:=Yab _;have lt:(u.funcs.take k).length=k:=by rw[Yan];omega
 have e:Zhc u k=Zc5 (u.funcs.take k):=by unfold Zhc;rw[Int.toNat_natCast]
 refine enter hT hF hM Tryz.func100 rfl 23 rfl (by kernel_rfl) [.tmp 4] rfl [.agg u.d,.g (.int (k:Int))] rfl _ ?_;refine ⟨k,rfl,by omega,?_⟩;refine ZaL (ι:=Nat) (λi=>[(13,.g (.int (i:Int))),(5,.g (.int (Zc5 (u.funcs.take i))))]) (λ_=>[]) (λi=>i<=k) (λi=>k - i)
  ⟨0,[],⟨rfl,.inl rfl,.inr ⟨lk rfl,lkI (by simp[Zc5]),trivial⟩,rfl⟩,Yau _⟩ ?_
 intro Rd hRd i hi;refine ⟨λh0=>?_,λh0=>?_⟩
 ·have h1:i < k:=by rw[Yan,lf] at h0;omega
  have h2:i < u.funcs.length:=by omega
  have ho:=ZtG u.funcs i h2;have hb:=ZiH (u.funcs.take i);have hb2:(u.funcs.take i).length<=i:=by rw[Yan];omega
  have hg:((u.funcs.map Fun.g).take k)[i]?=some u.funcs[i].g:=by rw[Ya3,if_pos h1];exact gm h2
  cases hbo:u.funcs[i].isOpen with
  | true =>rw[hbo] at ho;refine ⟨i,_,rfl,hg.trans (congrArg some (Fun.g_open hbo)),?_⟩;refine ⟨_,I64.wrap (by unfold I64;omega),_,I64.wrap (by unfold I64;omega),?_⟩;exact hRd _ _ _ ⟨i+1,[],⟨rfl,.inl rfl,.inr ⟨lk rfl,lkI ho.symm,trivial⟩,rfl⟩,h1,by omega⟩
  | false =>rw[hbo] at ho;refine ⟨i,_,rfl,hg.trans (congrArg some (Fun.g_open hbo)),?_⟩;refine ⟨_,I64.wrap (by unfold I64;omega),?_⟩;exact hRd _ _ _ ⟨i+1,[],⟨rfl,.inl rfl,.inr ⟨lk rfl,lkI (by rw[ho];simp),trivial⟩,rfl⟩,h1,by omega⟩
 ·have h1:i=k:=by rw[Yan,lf] at h0;omega
  exact ⟨rfl,ZbQ (by rw[e,h1])⟩
theorem Zxk {α:Type} {l:List α} (h:l.length=2):∃a b,l=[a,b]:=by
 match l,h with
 | [a,b],_=>exact ⟨a,b,rfl⟩
theorem Zk0:fnOk Tryz.prog 89=true:=by kernel_rfl
theorem Zby:fnOk Tryz.prog 76=true:=by kernel_rfl
theorem ZBp:fnOk Tryz.prog 90=true:=by kernel_rfl
theorem ZwK (g:GC) (x:Barb.Expr) (w:GW):Zbf g x w=ZfV g x.k x.n x.of x.s x.args.length (ZaH g x.args w):=by obtain ⟨k,n,of,s,args⟩:=x;rw[Zbf];rfl
abbrev Zvb (g:GC) (ku:Nat) (w:GW):Out->Prop:=λout=>out=.ret (.tuple []) (WH g ku w)
abbrev ZpC (g:GC) (ku:Nat) (x:Barb.Expr):Prop:=∀w:GW,Room (9*szE x) w->CTH Tryz.prog gl 76 1 (WH g ku w) [.ptr 0 0,.agg x.d] (Zvb g ku (Zbf g x w))
theorem ZzB {g:GC} {ku:Nat} (ok:GOk g ku) (hpl:g.p.length<=5) (hfl:∀u∈g.p,u.funcs.length<=8) (x:Barb.Expr) (h4:x.args.length<=4) (hc:Za1 g.p g.u x.of x.s x.args.length=0) (ih:∀y∈x.args,ZpC g ku y) (w:GW) (hw:Room (9*Zd7 x.args+1) w) :
  CTH Tryz.prog gl 90 1 (WH g ku w) [.ptr 0 0,.agg x.d] (Zvb g ku (ZhW g x.of x.s x.args.length (ZaH g x.args w))):=by
 suffices H:∀w',ZhW g x.of x.s x.args.length (ZaH g x.args w)=w'->CTH Tryz.prog gl 90 1 (WH g ku w) [.ptr 0 0,.agg x.d] (Zvb g ku w') from H _ rfl
 intro w' e;have lx:(x.args.map Expr.g).length=x.args.length:=Yab _;refine ZbT [] hT hF hM Tryz.func90 rfl 88 rfl (by kernel_rfl) [] rfl [.ptr 0 0,.agg x.d] rfl (WH g ku w) [0] rfl rfl rfl 1 [] trivial _ ?_;refine ZaL (ι:=Nat) (λi=>[(0,.ptr 0 0),(3,.ptr 3 0),(11,.g (.int (i:Int)))]) (λi=>WH g ku (ZaH g (x.args.take i) w)++[.blk x.d 132]) (λi=>i<=x.args.length) (λi=>x.args.length - i)
  ⟨0,[.old 0,.old 1,.old 2,.old 3],⟨rfl,.inl (by rw[List.take_zero,ZaH];rfl),.inr ⟨lk rfl,lk rfl,lk rfl,trivial⟩,rfl⟩,Yau _⟩ ?_
 intro Rd hRd i hi;have hr:Room (9*(Zd7 x.args - Zd7 (x.args.take i))+1) (ZaH g (x.args.take i) w):=hw.step (.exprs g (x.args.take i) w) (by have:=ZmH x.args i;omega);refine ⟨λh0=>?_,λh0=>?_⟩
 ·have h1:i < x.args.length:=by have:(i:Int) < ((x.args.map Expr.g).length:Nat):=h0;omega
  have hs1:=Zvx x.args i h1;have hs2:=ZmH x.args (i+1);have hn:=Zr5 g x.args i h1 w;generalize ZaH g (x.args.take i) w=wi at hr hn hRd;refine ⟨i,_,rfl,(gm h1).trans (congrArg some (Expr.g_eq _)),?_⟩;refine Za6 Zby 1 2 [.dead,.dead,.blk x.d 132,.blk x.args[i].d 132] (ih x.args[i] (Yah h1) wi (hr.step (.refl _) (by omega))) ⟨rfl,.inl rfl,.inl rfl,rfl⟩ rfl rfl rfl ?_;refine ⟨_,I64.wrap (by unfold I64;omega),?_⟩;exact hRd _ _ _ ⟨i+1,[.old 0,.old 5,.old 6,.old 3],⟨rfl,.inl (by rw[hn];rfl),.inr ⟨lk rfl,lk rfl,lkI (by push_cast;rfl),trivial⟩,rfl⟩,h1,by show x.args.length - (i+1) < x.args.length - i;omega⟩
 have hie:i=x.args.length:=by have:¬(i:Int) < ((x.args.map Expr.g).length:Nat):=h0;omega
 have htl:ZaH g (x.args.take i) w=ZaH g x.args w:=by rw[hie,YaE]
 have hr2:Room 1 (ZaH g (x.args.take i) w):=hr.step (.refl _) (by omega);rw[<- htl] at e;clear hr htl;generalize ZaH g (x.args.take i) w=wi at hr2 e hRd;obtain ⟨hc1,hc2⟩:=hr2;have lc:(wi.code.map Instr.g).length=wi.code.length:=Yab _;have lk2:(wi.calls.map Zat).length=wi.calls.length:=Yab _;unfold ZhW at e;refine ⟨λho=>?_,λho=>?_⟩
 ·have ho:x.of=[]:=ho;rw[if_pos ho] at e;obtain ⟨k,hk,hki,hkm,_⟩:=Zcs (show Barb.calledIn g.u x.of x.s x.args.length=0 by unfold Za1 at hc;rw[if_pos ho] at hc;exact hc);refine ⟨some 2000,rfl,?_⟩;refine ⟨[[.int (wi.code.map Instr.g).length]],rfl,rfl,⟨rfl,trivial⟩,⟨_,rfl⟩,?_⟩;refine ⟨⟨by simp[maxLen];omega,by simp;omega⟩,?_⟩;have hcl:wi.calls.map Zat++[[GV.int (wi.code.map Instr.g).length]]=(wi.calls++[wi.at_]).map Zat:=by rw[Yai,lc];rfl
  refine ⟨some 9999,[17],rfl,?_⟩;refine ⟨ku,_,rfl,(gm ok.hk).trans (congrArg (λz=>some (Unit.g z)) ok.hu),?_⟩;refine ⟨_,_,.inl rfl,ZcU g.u (by have:=hfl g.u (by rw[<- ok.hu];exact Yah _);omega) x.s,rfl,?_⟩;refine ⟨by rw[lx];unfold I64;omega,?_⟩;refine Za6 Zbm 1 5 [.dead,.dead,.blk x.d 132,.row [[.int (wi.code.map Instr.g).length]] 3 1,.dead] (ZaY g ku { wi with calls:=wi.calls++[wi.at_] } (by show wi.code.length<=_;omega) 11 (Zbz g.u x.s) (x.args.map Expr.g).length 0 (1 - (x.args.map Expr.g).length)) ⟨rfl,.inr ⟨⟨rfl,.inl rfl⟩,⟨rfl,rfl,rfl⟩,⟨hcl,rfl,rfl⟩,trivial⟩,.inl rfl,rfl⟩ rfl rfl rfl ?_;exact ⟨rfl,ZeP (.tuple []) [.old 0,.old 6,.old 7] rfl rfl rfl (.inl rfl) rfl rfl rfl (by rw[lx,e])⟩
 ·have ho:x.of≠[]:=ho;rw[if_neg ho] at e;obtain ⟨i2,hi2,hui,hc3⟩:=ZeQ hc ho;obtain ⟨k,hk,hki,hkm,_⟩:=Zcs hc3;have hgd:g.p.getD (Zba g.p x.of).toNat ⟨[],[],[],[]⟩=g.p[i2]:=by rw[hui,Int.toNat_natCast];simp[hi2]
  rw[hgd,hki] at e;refine ⟨none,rfl,?_⟩;refine ⟨_,_,.inl rfl,Zdx g.p (by omega) x.of,rfl,?_⟩;refine ⟨some 9999,[23],rfl,?_⟩;have hux:=hfl g.p[i2] (Yah _);refine ⟨i2,_,congrArg (λz=>D.g (.int z)) hui,gm hi2,?_⟩;refine ⟨i2,_,congrArg (λz=>D.g (.int z)) hui,gm hi2,?_⟩;refine ⟨_,_,.inl rfl,ZcU g.p[i2] (by omega) x.s,rfl,?_⟩;have hen:=Zuu g.p[i2] (by omega) k (by omega);rw[<- hki] at hen;refine ⟨_,_,.inl rfl,hen,rfl,?_⟩;refine ⟨by rw[lx];unfold I64;omega,?_⟩;refine Za6 Zbm 1 2 [.dead,.dead,.blk x.d 132] (ZaY g ku wi (by omega) 12 (Zba g.p x.of) (Zhc g.p[i2] (Zbz g.p[i2] x.s)) (x.args.map Expr.g).length (1 - (x.args.map Expr.g).length)) ⟨rfl,.inl rfl,.inl rfl,rfl⟩ rfl rfl rfl ?_;exact ⟨rfl,ZeP (.tuple []) [.old 0,.old 4,.old 5] rfl rfl rfl (.inl rfl) rfl rfl rfl (by rw[lx,hki,e])⟩
theorem Zpf {g:GC} {ku:Nat} (ok:GOk g ku) (hpl:g.p.length<=5) (hfl:∀u∈g.p,u.funcs.length<=8) (hfp:g.f.params.length<=4):∀(n:Nat) (x:Barb.Expr),ZaN n x=0->ZbF g.p g.u g.f x=0->ZpC g ku x:=by
 intro n
 induction n with
 | zero=>intro x hx;exact absurd hx (by unfold ZaN;decide)
 | succ n ih =>
  intro x hx hs w hw;obtain ⟨hk,h4,hok,_,hargs⟩:=ZcN hx;obtain ⟨hs1,hsa⟩:=Zhb hs;have iha:∀y∈x.args,ZpC g ku y:=λy hy=>ih y (hargs y hy) (hsa y hy);have hsz:szE x=1+Zd7 x.args:=by obtain ⟨k,n,of,s,args⟩:=x;rw[szE];rfl
  suffices H:∀w',Zbf g x w=w'->CTH Tryz.prog gl 76 1 (WH g ku w) [.ptr 0 0,.agg x.d] (Zvb g ku w') from H _ rfl
  intro w' e;rw[ZwK] at e;obtain ⟨hw1,hw2⟩:=hw;have lx:(x.args.map Expr.g).length=x.args.length:=Yab _;have hvl:=ok.hv;have hal:=ok.ha;refine ZbT [] hT hF hM Tryz.func76 rfl 77 rfl (by kernel_rfl) [] rfl [.ptr 0 0,.agg x.d] rfl (WH g ku w) [0] rfl rfl rfl 1 [] trivial _ ?_;refine ⟨λh1=>?_,λh1=>?_⟩
  ·have h0:x.args=[]:=by rw[h1,ZqH] at hok;exact Ybm.1 hok.2.2
   rw[h0,ZaH] at e;unfold ZfV at e;rw[if_pos h1] at e;refine Za6 Zbm 1 2 [.dead,.dead,.blk x.d 132] (ZaY g ku w (by omega) 1 x.n 0 0 1) ⟨rfl,.inl rfl,.inl rfl,rfl⟩ rfl rfl rfl ?_;exact ⟨rfl,ZeP (.tuple []) [.old 0,.old 4,.old 5] rfl rfl rfl (.inl rfl) rfl rfl rfl (by rw[e])⟩
  refine ⟨λh2=>?_,λh2=>?_⟩
  ·have h0:x.args=[]:=by rw[h2,ZqG] at hok;exact Ybm.1 hok.2.2.1
   rw[h0,ZaH] at e;unfold ZfV Zm2 at e;rw[if_neg h1,if_pos h2] at e;refine ⟨none,rfl,?_⟩;refine ⟨_,_,.inl rfl,Zc2 g.f.params (by omega) x.s,rfl,?_⟩;refine ⟨λh=>?_,λh=>?_⟩
   ·rw[if_pos (show 0<=Zbo g.f x.s from h)] at e;refine Za6 Zbm 1 2 [.dead,.dead,.blk x.d 132] (ZaY g ku w (by omega) 4 (Zbo g.f x.s) 0 0 1) ⟨rfl,.inl rfl,.inl rfl,rfl⟩ rfl rfl rfl ?_;exact ⟨rfl,ZeP (.tuple []) [.old 0,.old 4,.old 5] rfl rfl rfl (.inl rfl) rfl rfl rfl (by rw[e])⟩
   ·rw[if_neg (show ¬0<=Zbo g.f x.s from h)] at e;refine Za6 Zh0 1 2 [.dead,.dead,.blk x.d 132] (ZgA g ku ok.hk ok.hu w (by omega) (by omega) x.s) ⟨rfl,.inl rfl,.inl rfl,rfl⟩ rfl rfl rfl ?_;refine Za6 Zbm 4 5 [.dead,.dead,.blk x.d 132,.dead,.dead] (ZaY g ku w (by omega) 1 (ZaD g x.s).1 0 0 1) ⟨rfl,.inl rfl,.inl rfl,rfl⟩ rfl rfl rfl ?_;refine Za6 Zbm 6 7 [.dead,.dead,.blk x.d 132,.dead,.dead,.dead,.dead] (ZaY g ku _ (by rw[ZaP];omega) 6 0 0 0 0) ⟨rfl,.inl rfl,.inl rfl,rfl⟩ rfl rfl rfl ?_;exact ⟨rfl,ZeP (.tuple []) [.old 0,.old 8,.old 9] rfl rfl rfl (.inl rfl) rfl rfl rfl (by rw[e])⟩
  refine ⟨λh3=>?_,λh3=>?_⟩
  ·obtain ⟨a,ha⟩:∃a,x.args=[a]:=by rw[h3,Zl3] at hok;exact YbW.1 hok.2.2.1
   have hl0:0 < x.args.length:=by rw[ha];simp
   have hga:x.args[0]=a:=by simp[ha]
   have hc:=iha a (by rw[ha];exact Yay.2 rfl) w ⟨by rw[hsz,ha] at hw1;simp only[Zd7] at hw1;omega,hw2⟩;have gr:=(Grow.expr g a w).trans (.elem g x.s _);rw[ha,ZaH,ZaH] at e;unfold ZfV at e;rw[if_neg h1,if_neg h2,if_pos h3] at e;have hr:Room 9 (Zbf g a w):=Room.step ⟨hw1,hw2⟩ (.expr g a w) (by rw[hsz,ha];simp only[Zd7];omega);have hr2:=(hr.step (.elem g x.s _) (k:=1) (by omega)).code;generalize Zbf g a w=w1 at *;refine ⟨0,_,rfl,(gm hl0).trans (congrArg some (Expr.g_eq _)),?_⟩;rw[<- hga] at hc;refine Za6 Zby 1 2 [.dead,.dead,.blk x.d 132] hc ⟨rfl,.inl rfl,.inl rfl,rfl⟩ rfl rfl rfl ?_;refine Za6 Zk0 4 5 [.dead,.dead,.blk x.d 132,.dead,.dead] (ZjU ok w1 (hr.step (.refl _) (by omega)) x.s) ⟨rfl,.inl rfl,.inl rfl,rfl⟩ rfl rfl rfl ?_;refine Za6 Zbm 6 7 [.dead,.dead,.blk x.d 132,.dead,.dead,.dead,.dead] (ZaY g ku _ (by omega) 6 0 0 0 0) ⟨rfl,.inl rfl,.inl rfl,rfl⟩ rfl rfl rfl ?_;exact ⟨rfl,ZeP (.tuple []) [.old 0,.old 8,.old 9] rfl rfl rfl (.inl rfl) rfl rfl rfl (by rw[e])⟩
  refine ⟨λh5=>?_,λh5=>?_⟩
  ·unfold ZfV at e;rw[if_neg h1,if_neg h2,if_neg h3,if_pos h5] at e;refine Za6 ZBp 1 2 [.dead,.dead,.blk x.d 132] (ZzB ok hpl hfl x h4 (by rw[ZqF h5] at hs1;exact hs1) iha w ⟨by rw[hsz] at hw1;omega,hw2⟩) ⟨rfl,.inl rfl,.inl rfl,rfl⟩ rfl rfl rfl ?_;exact ⟨rfl,ZeP (.tuple []) [.old 0,.old 4,.old 5] rfl rfl rfl (.inl rfl) rfl rfl rfl (by rw[e])⟩
  ·have hk5:x.k=5:=by omega
   obtain ⟨a,b,hab⟩:∃a b,x.args=[a,b]:=by rw[hk5,Zl2] at hok;exact Zxk hok.2.2
   have hl0:0 < x.args.length:=by rw[hab];simp
   have hl1:1 < x.args.length:=by rw[hab];simp
   have hga:x.args[0]=a:=by simp[hab]
   have hgb:x.args[1]=b:=by simp[hab]
   have hca:=iha a (by rw[hab];simp) w ⟨by rw[hsz,hab] at hw1;simp only[Zd7] at hw1;omega,hw2⟩;have hr:Room (9*szE b+9) (Zbf g a w):=Room.step ⟨hw1,hw2⟩ (.expr g a w) (by rw[hsz,hab];simp only[Zd7];omega);have hcb:=iha b (by rw[hab];simp) (Zbf g a w) (hr.step (.refl _) (by omega));have hr2:=(hr.step (.expr g b _) (k:=1) (by omega)).code;rw[hab,ZaH,ZaH,ZaH] at e;unfold ZfV at e;rw[if_neg h1,if_neg h2,if_neg h3,if_neg h5] at e;generalize Zbf g a w=w1 at *;generalize Zbf g b w1=w2 at *;rw[<- hga] at hca;rw[<- hgb] at hcb;refine ⟨0,_,rfl,(gm hl0).trans (congrArg some (Expr.g_eq _)),?_⟩;refine Za6 Zby 1 2 [.dead,.dead,.blk x.d 132] hca ⟨rfl,.inl rfl,.inl rfl,rfl⟩ rfl rfl rfl ?_;refine ⟨1,_,rfl,(gm hl1).trans (congrArg some (Expr.g_eq _)),?_⟩;refine Za6 Zby 4 5 [.dead,.dead,.blk x.d 132,.dead,.dead] hcb ⟨rfl,.inl rfl,.inl rfl,rfl⟩ rfl rfl rfl ?_;refine Za6 Zbm 6 7 [.dead,.dead,.blk x.d 132,.dead,.dead,.dead,.dead] (ZaY g ku _ (by omega) 8 x.n 0 0 (-1)) ⟨rfl,.inl rfl,.inl rfl,rfl⟩ rfl rfl rfl ?_;exact ⟨rfl,ZeP (.tuple []) [.old 0,.old 8,.old 9] rfl rfl rfl (.inl rfl) rfl rfl rfl (by rw[e])⟩
end ZN
namespace Barb
open Go Go.Dm Go.Eng
theorem Zlk (g:GC) (x:Stmt) (w:GW):ZfR g x w =
  if x.k=1 then Zsr g x.s (x.xs.getD 0 noX) w
  else if x.k=2 then Zii g x.s (x.xs.getD 0 noX) (x.xs.getD 1 noX) w
  else if x.k=3\/x.k=4 then
   let w1:=Zbf g (x.xs.getD 0 noX) w
   let w2:=stmtsG g x.b (w1.put 10 0 0 0 (-1))
   let w3:=(w2.put 9 (if x.k=4 then w.at_ else 0) 0 0 0)
   let w4:=w3.setA w1.code.length w3.at_
   if x.k=3 then
    let w5:=stmtsG g x.e w4
    w5.setA w2.code.length w5.at_
   else w4
  else if x.k=5 then (Zbf g (x.xs.getD 0 noX) w).put 13 0 0 0 (-1)
  else (Zbf g (x.xs.getD 0 noX) w).put 14 0 0 0 (-1):=by obtain ⟨k,s,xs,b,e⟩:=x;rw[ZfR];rfl
theorem ZsU (x:Stmt):szS x=40+9*Zd7 x.xs+Ze1 x.b+Ze1 x.e:=by obtain ⟨k,s,xs,b,e⟩:=x;rw[szS];rfl
theorem ZgK (g:GC):∀(a b:List Stmt) (w:GW),stmtsG g (a++b) w=stmtsG g b (stmtsG g a w)
 | [],_,_=>by rw[stmtsG];rfl
 | x :: a,b,w=>by rw[List.cons_append,stmtsG,stmtsG];exact ZgK g a b _
theorem Zrn (g:GC) (l:List Stmt) (j:Nat) (hj:j < l.length) (w:GW):stmtsG g (l.take (j+1)) w=ZfR g l[j] (stmtsG g (l.take j) w):=by rw[Zay hj,ZgK,stmtsG,stmtsG]
theorem Zge:∀(a b:List Stmt),Ze1 (a++b)=Ze1 a+Ze1 b
 | [],b=>by simp[Ze1]
 | x :: a,b=>by rw[List.cons_append,Ze1,Ze1,Zge a b];omega
theorem Zvw (l:List Stmt) (j:Nat) (hj:j < l.length):Ze1 (l.take (j+1))=Ze1 (l.take j)+szS l[j]:=by rw[Zay hj,Zge,Ze1,Ze1];omega
theorem ZmG (l:List Stmt) (j:Nat):Ze1 (l.take j)<=Ze1 l:=by
 conv=>rhs;rw[<- Ya4 j l,Zge]
 omega
end Barb
namespace ZN
open Go Go.Dm Go.Eng Go.RowKit Barb
theorem ZAc:fnOk Tryz.prog 73=true:=by kernel_rfl
theorem ZyA:fnOk Tryz.prog 74=true:=by kernel_rfl
theorem Zn6:fnOk Tryz.prog 75=true:=by kernel_rfl
theorem Zgn:fnOk Tryz.prog 59=true:=by kernel_rfl
theorem Zjd {w:GW} {k:Nat} (hk:k < w.code.length) (a z:Int) (hz:z=a):(w.code.map Instr.g).set k (Zdy w.code[k].g (0+1) [.int z])=(w.setA k a).code.map Instr.g:=by subst hz;exact setA_row hk z
theorem Zyi {g:GC} {ku:Nat} (ok:GOk g ku) (hfp:g.f.params.length<=4) (s:Barb.Stmt) (h1:s.xs.length=1) (hE:∀x∈s.xs,ZpC g ku x) (w:GW) (hw:Room (2+9*szE (s.xs.getD 0 noX)) w) :
  CTH Tryz.prog gl 73 1 (WH g ku w) [.ptr 0 0,.agg s.d] (Zvb g ku (Zsr g s.s (s.xs.getD 0 noX) w)):=by
 obtain ⟨x,hx⟩:=YbW.1 h1;have hl0:0 < s.xs.length:=by omega
 have hgx:s.xs[0]=x:=by simp[hx]
 have hcx:=hE x (by rw[hx];simp);rw[show s.xs.getD 0 noX=x by simp[hx]] at hw ⊢
 suffices H:∀w',Zsr g s.s x w=w'->CTH Tryz.prog gl 73 1 (WH g ku w) [.ptr 0 0,.agg s.d] (Zvb g ku w') from H _ rfl
 intro w' e;unfold Zsr at e;have hvl:=ok.hv;have hal:=ok.ha;have hw1:=hw.code;refine ZbT [] hT hF hM Tryz.func73 rfl 44 rfl (by kernel_rfl) [] rfl [.ptr 0 0,.agg s.d] rfl (WH g ku w) [0] rfl rfl rfl 1 [] trivial _ ?_;refine ⟨none,rfl,?_⟩;refine ⟨_,_,.inl rfl,Zc2 g.f.params (by omega) s.s,rfl,?_⟩;refine ⟨λh=>?_,λh=>?_⟩
 ·rw[if_pos (show 0<=Zbo g.f s.s from h)] at e;have hc:=hcx w (hw.step (.refl _) (by omega));have hr:=(hw.step (.expr g x w) (k:=1) (by omega)).code;generalize Zbf g x w=w1 at *;rw[<- hgx] at hc;refine ⟨0,_,rfl,(gm hl0).trans (congrArg some (Expr.g_eq _)),?_⟩;refine Za6 Zby 1 2 [.dead,.dead,.blk s.d 135] hc ⟨rfl,.inl rfl,.inl rfl,rfl⟩ rfl rfl rfl ?_;refine Za6 Zbm 4 5 [.dead,.dead,.blk s.d 135,.dead,.dead] (ZaY g ku w1 (by omega) 5 (Zbo g.f s.s) 0 0 (-1)) ⟨rfl,.inl rfl,.inl rfl,rfl⟩ rfl rfl rfl ?_;exact ⟨rfl,ZeP (.tuple []) [.old 0,.old 6,.old 7] rfl rfl rfl (.inl rfl) rfl rfl rfl (by rw[e])⟩
 ·rw[if_neg (show ¬0<=Zbo g.f s.s from h)] at e;have hr1:=hw.step (.put w 1 (ZaD g s.s).1 0 0 1) (k:=1+9*szE x) (by omega);have hc:=hcx _ (hr1.step (.refl _) (by omega));have hr:=(hr1.step (.expr g x _) (k:=1) (by omega)).code;generalize Zbf g x (w.put 1 (ZaD g s.s).1 0 0 1)=w2 at *;rw[<- hgx] at hc;refine Za6 Zh0 1 2 [.dead,.dead,.blk s.d 135] (ZgA g ku ok.hk ok.hu w (by omega) (by omega) s.s) ⟨rfl,.inl rfl,.inl rfl,rfl⟩ rfl rfl rfl ?_;refine Za6 Zbm 4 5 [.dead,.dead,.blk s.d 135,.dead,.dead] (ZaY g ku w (by omega) 1 (ZaD g s.s).1 0 0 1) ⟨rfl,.inl rfl,.inl rfl,rfl⟩ rfl rfl rfl ?_;refine ⟨0,_,rfl,(gm hl0).trans (congrArg some (Expr.g_eq _)),?_⟩;refine Za6 Zby 6 7 [.dead,.dead,.blk s.d 135,.dead,.dead,.dead,.dead] hc ⟨rfl,.inl rfl,.inl rfl,rfl⟩ rfl rfl rfl ?_;refine Za6 Zbm 8 9 [.dead,.dead,.blk s.d 135,.dead,.dead,.dead,.dead,.dead,.dead] (ZaY g ku w2 (by omega) 7 0 0 0 (-2)) ⟨rfl,.inl rfl,.inl rfl,rfl⟩ rfl rfl rfl ?_;exact ⟨rfl,ZeP (.tuple []) [.old 0,.old 10,.old 11] rfl rfl rfl (.inl rfl) rfl rfl rfl (by rw[e])⟩
theorem ZvT {g:GC} {ku:Nat} (ok:GOk g ku) (s:Barb.Stmt) (h2:s.xs.length=2) (hE:∀x∈s.xs,ZpC g ku x) (w:GW) (hw:Room (11+9*szE (s.xs.getD 0 noX)+9*szE (s.xs.getD 1 noX)) w) :
  CTH Tryz.prog gl 74 1 (WH g ku w) [.ptr 0 0,.agg s.d] (Zvb g ku (Zii g s.s (s.xs.getD 0 noX) (s.xs.getD 1 noX) w)):=by
 obtain ⟨x,y,hx⟩:=Zxk h2;have hl0:0 < s.xs.length:=by omega
 have hl1:1 < s.xs.length:=by omega
 have hgx:s.xs[0]=x:=by simp[hx]
 have hgy:s.xs[1]=y:=by simp[hx]
 have hcx:=hE x (by rw[hx];simp);have hcy:=hE y (by rw[hx];simp);rw[show s.xs.getD 0 noX=x by simp[hx],show s.xs.getD 1 noX=y by simp[hx]] at hw ⊢
 suffices H:∀w',Zii g s.s x y w=w'->CTH Tryz.prog gl 74 1 (WH g ku w) [.ptr 0 0,.agg s.d] (Zvb g ku w') from H _ rfl
 intro w' e;unfold Zii at e;have hvl:=ok.hv;have hal:=ok.ha;have lp:(g.f.params.map ZbP).length=g.f.params.length:=Yab _;have hc1:=hcx w (hw.step (.refl _) (by omega));have hr1:=hw.step (.expr g x w) (k:=11+9*szE y) (by omega);have hc2:=hcy _ (hr1.step (.refl _) (by omega));have hr2:=hr1.step (.expr g y _) (k:=11) (by omega);generalize Zbf g x w=w1 at *;generalize Zbf g y w1=w2 at *;rw[<- hgx] at hc1;rw[<- hgy] at hc2;have hr3:=hr2.step (.put w2 5 g.f.params.length 0 0 (-1)) (k:=10) (by omega);have hce:=ZjU ok (w2.put 5 g.f.params.length 0 0 (-1)) (hr3.step (.refl _) (by omega)) s.s;have hr4:=(hr3.step (.elem g s.s _) (k:=2) (by omega)).code;have hc5:=hr2.code;generalize hw3:Zfm g s.s (w2.put 5 g.f.params.length 0 0 (-1))=w3 at *;refine ZbT [] hT hF hM Tryz.func74 rfl 35 rfl (by kernel_rfl) [] rfl [.ptr 0 0,.agg s.d] rfl (WH g ku w) [0] rfl rfl rfl 1 [] trivial _ ?_;refine ⟨0,_,rfl,(gm hl0).trans (congrArg some (Expr.g_eq _)),?_⟩;refine Za6 Zby 1 2 [.dead,.dead,.blk s.d 135] hc1 ⟨rfl,.inl rfl,.inl rfl,rfl⟩ rfl rfl rfl ?_;refine ⟨1,_,rfl,(gm hl1).trans (congrArg some (Expr.g_eq _)),?_⟩;refine Za6 Zby 4 5 [.dead,.dead,.blk s.d 135,.dead,.dead] hc2 ⟨rfl,.inl rfl,.inl rfl,rfl⟩ rfl rfl rfl ?_;refine Za6 Zbm 6 7 [.dead,.dead,.blk s.d 135,.dead,.dead,.dead,.dead] (ZaY g ku w2 (by omega) 5 (g.f.params.map ZbP).length 0 0 (-1)) ⟨rfl,.inl rfl,.inl rfl,rfl⟩ rfl rfl rfl ?_;rw[<- lp] at hce hw3;refine Za6 Zk0 8 9 [.dead,.dead,.blk s.d 135,.dead,.dead,.dead,.dead,.dead,.dead] hce ⟨rfl,.inl rfl,.inl rfl,rfl⟩ rfl rfl rfl ?_;refine Za6 Zbm 10 11 [.dead,.dead,.blk s.d 135,.dead,.dead,.dead,.dead,.dead,.dead,.dead,.dead] (ZaY g ku w3 (by omega) 4 (g.f.params.map ZbP).length 0 0 1) ⟨rfl,.inl rfl,.inl rfl,rfl⟩ rfl rfl rfl ?_;refine Za6 Zbm 12 13 [.dead,.dead,.blk s.d 135,.dead,.dead,.dead,.dead,.dead,.dead,.dead,.dead,.dead,.dead] (ZaY g ku _ (by rw[ZaP];omega) 7 0 0 0 (-2)) ⟨rfl,.inl rfl,.inl rfl,rfl⟩ rfl rfl rfl ?_;exact ⟨rfl,ZeP (.tuple []) [.old 0,.old 14,.old 15] rfl rfl rfl (.inl rfl) rfl rfl rfl (by rw[lp,e])⟩
abbrev Zog (g:GC) (ku:Nat) (l:List Barb.Stmt):Prop:=∀w:GW,Room (Ze1 l) w->CTH Tryz.prog gl 59 1 (WH g ku w) [.ptr 0 0,.g (.sl 5 (l.map Stmt.g))] (Zvb g ku (Barb.stmtsG g l w))
set_option maxRecDepth 20000 in
set_option maxHeartbeats 2000000 in
theorem Zk7 {g:GC} {ku:Nat} (s:Barb.Stmt) (h1:s.xs.length=1) (hk:s.k=3\/s.k=4) (hE:∀x∈s.xs,ZpC g ku x) (hb:Zog g ku s.b) (he:Zog g ku s.e) (w:GW) (hw:Room (szS s) w) :
  CTH Tryz.prog gl 75 1 (WH g ku w) [.ptr 0 0,.agg s.d] (Zvb g ku (ZfR g s w)):=by
 obtain ⟨x,hx⟩:=YbW.1 h1;have hl0:0 < s.xs.length:=by omega
 have hgx:s.xs[0]=x:=by simp[hx]
 have hcx:=hE x (by rw[hx];simp);have hsz:=ZsU s;have hn1:¬s.k=1:=by omega
 have hn2:¬s.k=2:=by omega
 have hszx:Zd7 s.xs=szE x:=by rw[hx];simp[Zd7]
 rw[hszx] at hsz
 suffices H:∀w',ZfR g s w=w'->CTH Tryz.prog gl 75 1 (WH g ku w) [.ptr 0 0,.agg s.d] (Zvb g ku w') from H _ rfl
 intro w' e;rw[Zlk,if_neg hn1,if_neg hn2,if_pos hk,show s.xs.getD 0 noX=x by simp[hx]] at e;dsimp only at e;have hc1:=hcx w (hw.step (.refl _) (by omega));have hr1:=hw.step (.expr g x w) (k:=10+Ze1 s.b+Ze1 s.e) (by omega);generalize Zbf g x w=w1 at *;rw[<- hgx] at hc1;have hr2:=hr1.step (.put w1 10 0 0 0 (-1)) (k:=9+Ze1 s.b+Ze1 s.e) (by omega);have hc2:=hb _ (hr2.step (.refl _) (by omega));have hg2:=Grow.stmts g s.b (w1.put 10 0 0 0 (-1));have hr3:=hr2.step hg2 (k:=9+Ze1 s.e) (by omega);have hlo:=hg2.lo;generalize Barb.stmtsG g s.b (w1.put 10 0 0 0 (-1))=w2 at *;have hr1c:=hr1.code;have hr3c:=hr3.code;rw[ZaP] at hlo;have m0:((w.code.map Instr.g).length:Int)=w.at_:=by rw[Yab];rfl
 have m1:((w1.code.map Instr.g).length:Int)=(w1.code.length:Int):=by rw[Yab]
 have m2:((w2.code.map Instr.g).length:Int)=(w2.code.length:Int):=by rw[Yab]
 refine ZbT [] hT hF hM Tryz.func75 rfl 73 rfl (by kernel_rfl) [] rfl [.ptr 0 0,.agg s.d] rfl (WH g ku w) [0] rfl rfl rfl 1 [] trivial _ ?_;refine ⟨0,_,rfl,(gm hl0).trans (congrArg some (Expr.g_eq _)),?_⟩;refine Za6 Zby 1 2 [.dead,.dead,.blk s.d 135] hc1 ⟨rfl,.inl rfl,.inl rfl,rfl⟩ rfl rfl rfl ?_;refine Za6 Zbm 4 5 [.dead,.dead,.blk s.d 135,.dead,.dead] (ZaY g ku w1 (by omega) 10 0 0 0 (-1)) ⟨rfl,.inl rfl,.inl rfl,rfl⟩ rfl rfl rfl ?_;refine Za6 Zgn 6 7 [.dead,.dead,.blk s.d 135,.dead,.dead,.dead,.dead] hc2 ⟨rfl,.inl rfl,.inl rfl,rfl⟩ rfl rfl rfl ?_;refine ⟨λh4=>?_,λh4=>?_⟩
 ·rw[if_pos h4,if_neg (by omega),<- m0] at e;have hk:w1.code.length < (w2.put 9 (w.code.map Instr.g).length 0 0 0).code.length:=by rw[ZaP];omega
  refine Za6 Zbm 8 9 [.dead,.dead,.blk s.d 135,.dead,.dead,.dead,.dead,.dead,.dead] (ZaY g ku w2 (by omega) 9 (w.code.map Instr.g).length 0 0 0) ⟨rfl,.inl rfl,.inl rfl,rfl⟩ rfl rfl rfl ?_;generalize w2.put 9 (w.code.map Instr.g).length 0 0 0=w3 at *;have m3:((w3.code.map Instr.g).length:Int)=w3.at_:=by rw[Yab];rfl
  refine ⟨none,rfl,?_⟩;refine ⟨w1.code.length,congrArg (λz=>D.g (.int z)) m1,(by rw[Yab];exact hk),?_⟩;refine ⟨_,[.int (w3.code.map Instr.g).length],gm hk,⟨rfl,trivial⟩,Yaw rfl,(λh=>by cases h),?_⟩;refine ⟨λh3=>absurd h3 (by omega),λ_=>?_⟩;exact ⟨rfl,ZeP (w:=w3.setA w1.code.length w3.at_) (.tuple []) [.old 0,.old 10,.old 11] rfl rfl rfl (.inl rfl) rfl (Zjd hk _ _ m3) rfl (by rw[e])⟩
 ·have h3:s.k=3:=by omega
  rw[if_neg h4,if_pos h3] at e;have hk:w1.code.length < (w2.put 9 0 0 0 0).code.length:=by rw[ZaP];omega
  have hr4:=hr3.step (.put w2 9 0 0 0 0) (k:=8+Ze1 s.e) (by omega);have hlo4:=ZaP w2 9 0 0 0 0;refine Za6 Zbm 8 9 [.dead,.dead,.blk s.d 135,.dead,.dead,.dead,.dead,.dead,.dead] (ZaY g ku w2 (by omega) 9 0 0 0 0) ⟨rfl,.inl rfl,.inl rfl,rfl⟩ rfl rfl rfl ?_;generalize w2.put 9 0 0 0 0=w3 at *;have m3:((w3.code.map Instr.g).length:Int)=w3.at_:=by rw[Yab];rfl
  refine ⟨none,rfl,?_⟩;refine ⟨w1.code.length,congrArg (λz=>D.g (.int z)) m1,(by rw[Yab];exact hk),?_⟩;refine ⟨_,[.int (w3.code.map Instr.g).length],gm hk,⟨rfl,trivial⟩,Yaw rfl,(λh=>by cases h),?_⟩;refine ⟨λ_=>?_,λh=>absurd h3 h⟩;have hset:=Zjd hk _ _ m3;have hl4:=ZeD w3 w1.code.length w3.at_;have hr5:=hr4.step (.setA w3 w1.code.length w3.at_) (k:=8+Ze1 s.e) (by omega);have hc5:=he (w3.setA w1.code.length w3.at_) (hr5.step (.refl _) (by omega));have hg5:=(Grow.stmts g s.e (w3.setA w1.code.length w3.at_)).lo;generalize Barb.stmtsG g s.e (w3.setA w1.code.length w3.at_)=w5 at *;refine Za6 Zgn 10 11 [.dead,.dead,.blk s.d 135,.dead,.dead,.dead,.dead,.dead,.dead,.dead,.dead] hc5 ⟨rfl,.inr ⟨⟨rfl,.inl rfl⟩,⟨hset,rfl,rfl⟩,⟨rfl,rfl,rfl⟩,trivial⟩,.inl rfl,rfl⟩ rfl rfl rfl ?_;have hk5:w2.code.length < w5.code.length:=by omega
  have m5:((w5.code.map Instr.g).length:Int)=w5.at_:=by rw[Yab];rfl
  refine ⟨none,rfl,?_⟩;refine ⟨w2.code.length,congrArg (λz=>D.g (.int z)) m2,(by rw[Yab];exact hk5),?_⟩;refine ⟨_,[.int (w5.code.map Instr.g).length],gm hk5,⟨rfl,trivial⟩,Yaw rfl,(λh=>by cases h),?_⟩;exact ⟨rfl,ZeP (w:=w5.setA w2.code.length w5.at_) (.tuple []) [.old 0,.old 12,.old 13] rfl rfl rfl (.inl rfl) rfl (Zjd hk5 _ _ m5) rfl (by rw[e])⟩
theorem Znz {g:GC} {ku:Nat} (ok:GOk g ku) (hpl:g.p.length<=5) (hfl:∀u∈g.p,u.funcs.length<=8) (hfp:g.f.params.length<=4):∀(n:Nat) (l:List Barb.Stmt),Zan n l=0->Zbg g.p g.u g.f l=0->l.length*96<=140737488351232->(∀s∈l,Barb.Stmt.I s)->Zog g ku l:=by
 intro n
 induction n with
 | zero=>intro l hl;exact absurd hl (by unfold Zan;decide)
 | succ n ih =>
  intro l hE hS hlen hI w hw;have ll:(l.map Stmt.g).length=l.length:=Yab _;rw[Zan] at hE;rw[ZaS] at hS;refine ZbT [] hT hF hM Tryz.func59 rfl 49 rfl (by kernel_rfl) [] rfl [.ptr 0 0,.g (.sl 5 (l.map Stmt.g))] rfl (WH g ku w) [0] rfl rfl rfl 1 [] trivial _ ?_;refine ZaL (ι:=Nat) (λi=>[(0,.ptr 0 0),(8,.g (.int (i:Int)))]) (λi=>WH g ku (Barb.stmtsG g (l.take i) w)) (λi=>i<=l.length) (λi=>l.length - i)
   ⟨0,[.old 0,.old 1,.old 2],⟨rfl,.inl (by rw[List.take_zero,Barb.stmtsG];rfl),.inr ⟨lk rfl,lk rfl,trivial⟩,rfl⟩,Yau _⟩ ?_
  intro Rd hRd i hi;have hr:Room (Ze1 l - Ze1 (l.take i)) (Barb.stmtsG g (l.take i) w):=hw.step (.stmts g (l.take i) w) (by have:=ZmG l i;omega);refine ⟨λh0=>?_,λh0=>?_⟩
  ·have h1:i < l.length:=by have:(i:Int) < ((l.map Stmt.g).length:Nat):=h0;omega
   have hs1:=Zvw l i h1;have hs2:=ZmG l (i+1);have hn:=Zrn g l i h1 w;have hmem:l[i]∈l:=Yah h1;generalize Barb.stmtsG g (l.take i) w=wi at hr hn hRd;obtain ⟨hk,hok,hxE,hbE,heE⟩:=Zb3 (Zak hE _ hmem);obtain ⟨hnm,hxS,hbS,heS⟩:=ZgM (Zak hS _ hmem);obtain ⟨_,_,_,hbl,hel,_,hbI,heI⟩:=(hI _ hmem).inv;have hrs:Room (szS l[i]) wi:=hr.step (.refl _) (by omega);have hsz:=ZsU l[i];have hg0:=Zlk g l[i] wi;have hz0:=ZiB l[i].xs 0;have hz2:=ZpO l[i].xs;have hX:∀x∈l[i].xs,ZpC g ku x:=λx hx=>Zpf ok hpl hfl hfp 12 x (hxE x hx) (hxS x hx);have hB:Zog g ku l[i].b:=ih l[i].b hbE hbS hbl hbI;have hEl:Zog g ku l[i].e:=ih l[i].e heE heS hel heI;have next:∀(w':GW) (env:Dm.Env) (h:Zad),w'=ZfR g l[i] wi->WH g ku (Barb.stmtsG g (l.take (i+1)) w)=WH g ku w':=λw' _ _ hw'=>by rw[hn,hw']
   unfold Zdr at hok;generalize hy:l[i]=y at *;refine ⟨i,_,rfl,(gm h1).trans (congrArg some ((congrArg Stmt.g hy).trans (Stmt.g_eq _))),?_⟩;refine ⟨λk1=>?_,λk1=>?_⟩
   ·rw[if_pos k1] at hg0;refine Za6 ZAc 1 2 [.dead,.dead,.blk y.d 135] (Zyi ok hfp y (by omega) hX wi (hrs.step (.refl _) (by omega))) ⟨rfl,.inl rfl,.inl rfl,rfl⟩ rfl rfl rfl ?_;refine ⟨_,I64.wrap (by unfold I64;omega),?_⟩;exact hRd _ _ _ ⟨i+1,[.old 0,.old 4,.old 5],⟨rfl,.inl (by rw[hn,hg0];rfl),.inr ⟨lk rfl,lkI (by push_cast;rfl),trivial⟩,rfl⟩,h1,by show l.length - (i+1) < l.length - i;omega⟩
   rw[if_neg k1] at hg0;refine ⟨λk2=>?_,λk2=>?_⟩
   ·rw[if_pos k2] at hg0;refine Za6 ZyA 1 2 [.dead,.dead,.blk y.d 135] (ZvT ok y (by omega) hX wi (hrs.step (.refl _) (by omega))) ⟨rfl,.inl rfl,.inl rfl,rfl⟩ rfl rfl rfl ?_;refine ⟨_,I64.wrap (by unfold I64;omega),?_⟩;exact hRd _ _ _ ⟨i+1,[.old 0,.old 4,.old 5],⟨rfl,.inl (by rw[hn,hg0];rfl),.inr ⟨lk rfl,lkI (by push_cast;rfl),trivial⟩,rfl⟩,h1,by show l.length - (i+1) < l.length - i;omega⟩
   rw[if_neg k2] at hg0;refine ⟨λk3=>?_,λk3=>?_⟩
   ·clear hg0;refine ⟨λ_=>?_,λh=>absurd k3 h⟩;refine Za6 Zn6 1 2 [.dead,.dead,.blk y.d 135] (Zk7 y (by omega) (by omega) hX hB hEl wi hrs) ⟨rfl,.inl rfl,.inl rfl,rfl⟩ rfl rfl rfl ?_;refine ⟨_,I64.wrap (by unfold I64;omega),?_⟩;exact hRd _ _ _ ⟨i+1,[.old 0,.old 4,.old 5],⟨rfl,.inl (by rw[hn];rfl),.inr ⟨lk rfl,lkI (by push_cast;rfl),trivial⟩,rfl⟩,h1,by show l.length - (i+1) < l.length - i;omega⟩
   refine ⟨λk4=>?_,λk4=>?_⟩
   ·clear hg0;refine Za6 Zn6 1 2 [.dead,.dead,.blk y.d 135] (Zk7 y (by omega) (by omega) hX hB hEl wi hrs) ⟨rfl,.inl rfl,.inl rfl,rfl⟩ rfl rfl rfl ?_;refine ⟨_,I64.wrap (by unfold I64;omega),?_⟩;exact hRd _ _ _ ⟨i+1,[.old 0,.old 4,.old 5],⟨rfl,.inl (by rw[hn];rfl),.inr ⟨lk rfl,lkI (by push_cast;rfl),trivial⟩,rfl⟩,h1,by show l.length - (i+1) < l.length - i;omega⟩
   obtain ⟨x,hx⟩:=YbW.1 (show y.xs.length=1 by omega);have hl0:0 < y.xs.length:=by omega
   have hgx:y.xs[0]=x:=by simp[hx]
   rw[if_neg (by omega),show y.xs.getD 0 noX=x by simp[hx]] at hg0;have hszx:Zd7 y.xs=szE x:=by rw[hx];simp[Zd7]
   have hc1:=hX x (by rw[hx];simp) wi (hrs.step (.refl _) (by omega));have hr1:=(hrs.step (.expr g x wi) (k:=1) (by omega)).code;generalize Zbf g x wi=w1 at *;rw[<- hgx] at hc1;refine ⟨λk5=>?_,λk5=>?_⟩
   ·rw[if_pos k5] at hg0;refine ⟨0,_,rfl,(gm hl0).trans (congrArg some (Expr.g_eq _)),?_⟩;refine Za6 Zby 1 2 [.dead,.dead,.blk y.d 135] hc1 ⟨rfl,.inl rfl,.inl rfl,rfl⟩ rfl rfl rfl ?_;refine Za6 Zbm 4 5 [.dead,.dead,.blk y.d 135,.dead,.dead] (ZaY g ku w1 (by omega) 13 0 0 0 (-1)) ⟨rfl,.inl rfl,.inl rfl,rfl⟩ rfl rfl rfl ?_;refine ⟨_,I64.wrap (by unfold I64;omega),?_⟩;exact hRd _ _ _ ⟨i+1,[.old 0,.old 6,.old 7],⟨rfl,.inl (by rw[hn,hg0];rfl),.inr ⟨lk rfl,lkI (by push_cast;rfl),trivial⟩,rfl⟩,h1,by show l.length - (i+1) < l.length - i;omega⟩
   ·rw[if_neg k5] at hg0;refine ⟨0,_,rfl,(gm hl0).trans (congrArg some (Expr.g_eq _)),?_⟩;refine Za6 Zby 1 2 [.dead,.dead,.blk y.d 135] hc1 ⟨rfl,.inl rfl,.inl rfl,rfl⟩ rfl rfl rfl ?_;refine Za6 Zbm 4 5 [.dead,.dead,.blk y.d 135,.dead,.dead] (ZaY g ku w1 (by omega) 14 0 0 0 (-1)) ⟨rfl,.inl rfl,.inl rfl,rfl⟩ rfl rfl rfl ?_;refine ⟨_,I64.wrap (by unfold I64;omega),?_⟩;exact hRd _ _ _ ⟨i+1,[.old 0,.old 6,.old 7],⟨rfl,.inl (by rw[hn,hg0];rfl),.inr ⟨lk rfl,lkI (by push_cast;rfl),trivial⟩,rfl⟩,h1,by show l.length - (i+1) < l.length - i;omega⟩
  ·have hie:i=l.length:=by have:¬(i:Int) < ((l.map Stmt.g).length:Nat):=h0;omega
   exact ⟨rfl,ZeP (.tuple []) [.old 0,.old 1,.old 2] rfl rfl rfl (.inl rfl) rfl rfl rfl (by rw[hie,YaE])⟩
end ZN
namespace Barb
open Go Go.Dm Go.Eng
def okI (L:Nat) (x:Instr):Prop:=ZaM x=0\/((x.op=9\/x.op=10)/\0<=x.a/\x.a < (L:Int)/\x.b=0/\x.c=0)
theorem okI.mono {L M:Nat} {x:Instr} (h:okI L x) (k:L<=M):okI M x:=by
 rcases h with h | ⟨h1,h2,h3,h4⟩
 ·exact .inl h
 ·exact .inr ⟨h1,h2,by omega,h4⟩
theorem Zc8 {op a b c:Int} (h1:1<=op/\op<=15) (ha:0<=a/\a<=bdA op) (hb:0<=b/\b<=bdB op) (hc:0<=c/\c<=bdC op) (hd:op=8->a≠0):ZaM ⟨op,a,b,c⟩=0:=by
 unfold ZaM;rw[if_neg (λh=>h h1),if_neg];unfold ZbK;rintro (h | h | h | ⟨h,k⟩)
 ·exact h ha
 ·exact h hb
 ·exact h hc
 ·exact hd h k
theorem ZyF {L:Nat} {x:Instr} (h:okI L x) (hL:L<=1200):ZaM x=0:=by
 rcases h with h | ⟨h1,h2,h3,h4,h5⟩
 ·exact h
 ·obtain ⟨op,a,b,c⟩:=x;dsimp only at h1 h2 h3 h4 h5;subst h4;subst h5;have:bdA op=1199:=by unfold bdA;rcases h1 with rfl | rfl<;>simp
  have hb:0<=bdB op:=by unfold bdB;(repeat' split)<;>omega
  have hc:0<=bdC op:=by unfold bdC;(repeat' split)<;>omega
  exact Zc8 (by omega) (by omega) ⟨Ybo _,hb⟩ ⟨Ybo _,hc⟩ (λh=>by omega)
def Zkl (nf:Nat) (l:List Instr) (k:Int):Prop:=∃(i:Nat) (a n:Int),k=(i:Int)/\l[i]?=some ⟨11,a,n,0⟩/\0<=a/\a < (nf:Int)/\0<=n/\n<=4
structure Writ (d nf:Nat) (w w':GW):Prop where
 code:∃t,w'.code=w.code++t/\∀x∈t,okI (w'.code.length+d) x
 calls:∃s,w'.calls=w.calls++s/\s.Pairwise (· < ·)/\∀k∈s,(w.code.length:Int)<=k/\k < (w'.code.length:Int)/\Zkl nf w'.code k
theorem Writ.refl (d nf:Nat) (w:GW):Writ d nf w w:=⟨⟨[],by simp,by simp⟩,⟨[],by simp,.nil,by simp⟩⟩
theorem Writ.len {d nf:Nat} {w w':GW} (h:Writ d nf w w'):w.code.length<=w'.code.length:=by obtain ⟨t,ht,_⟩:=h.code;rw[ht];simp
theorem Zn3 {nf:Nat} {l:List Instr} {k:Int} (h:Zkl nf l k) (t:List Instr):Zkl nf (l++t) k:=by obtain ⟨i,a,n,h1,h2,h3⟩:=h;refine ⟨i,a,n,h1,?_,h3⟩;have hi:i < l.length:=(Yaa.1 h2).1;rw[Yaj hi];exact h2
theorem Writ.trans {d nf:Nat} {a b c:GW} (h:Writ d nf a b) (k:Writ d nf b c):Writ d nf a c:=by
 have hlen:=h.len;have klen:=k.len;obtain ⟨t1,e1,o1⟩:=h.code;obtain ⟨t2,e2,o2⟩:=k.code;obtain ⟨s1,f1,p1,c1⟩:=h.calls;obtain ⟨s2,f2,p2,c2⟩:=k.calls;refine ⟨⟨t1++t2,by rw[e2,e1,Yas],λx hx=>?_⟩,⟨s1++s2,by rw[f2,f1,Yas],?_,λx hx=>?_⟩⟩
 ·rcases Yao.1 hx with hx | hx
  ·exact (o1 x hx).mono (by omega)
  ·exact o2 x hx
 ·rw[Ybx];refine ⟨p1,p2,λx hx y hy=>?_⟩;have:=(c1 x hx).2.1;have:=(c2 y hy).1;omega
 ·rcases Yao.1 hx with hx | hx
  ·obtain ⟨a1,a2,a3⟩:=c1 x hx;exact ⟨a1,by omega,by rw[e2];exact Zn3 a3 t2⟩
  ·obtain ⟨a1,a2,a3⟩:=c2 x hx;exact ⟨by omega,a2,a3⟩
theorem Writ.put {d nf:Nat} (w:GW) {op a b c:Int} (more:Int) (h:okI (w.code.length+1+d) ⟨op,a,b,c⟩):Writ d nf w (w.put op a b c more) :=
 ⟨⟨[⟨op,a,b,c⟩],rfl,λx hx=>by rw[Yay.1 hx,ZaP];exact h⟩,⟨[],by rw[Zel];simp,.nil,by simp⟩⟩
theorem Writ.at_ {d nf:Nat} {w w':GW} {op a b c more:Int} (h:Writ d nf (w.put op a b c more) w'):w'.code[w.code.length]?=some ⟨op,a,b,c⟩:=by obtain ⟨t,e,_⟩:=h.code;rw[e,GW.put,Yaj (by simp)];simp
theorem Zqg {α:Type} (l:List α) (i:Nat) (f:α->α):(l.modify i f)[i]?=l[i]?.map f:=by
 rw[Yby];cases l[i]?<;>simp
theorem Zh7 {α:Type} (l:List α) {i j:Nat} (f:α->α) (h:i≠j):(l.modify i f)[j]?=l[j]?:=by
 rw[Yby];cases l[j]?<;>simp[h]
theorem ZrI {α:Type} (l t:List α) (i:Nat) (f:α->α) (h:l.length<=i):(l++t).modify i f=l++t.modify (i - l.length) f:=by
 apply YbD;intro j;by_cases hj:j < l.length
 ·rw[Zh7 _ _ (by omega),Yaj hj,Yaj hj]
 ·rw[Yak (by omega)];by_cases hk:i=j
  ·subst hk;rw[Zqg,Zqg,Yak (by omega)]
  ·rw[Zh7 _ _ hk,Zh7 _ _ (by omega),Yak (by omega)]
theorem Writ.setA {d nf:Nat} {w w':GW} (h:Writ d nf w w') {k:Nat} {op a:Int} (hk:w.code.length<=k) (hj:w'.code[k]?=some ⟨op,a,0,0⟩) (ho:op=9\/op=10) {b:Int} (h0:0<=b) (h1:b < ((w'.code.length+d:Nat):Int)):Writ d nf w (w'.setA k b):=by
 have hlen:=ZeD w' k b;obtain ⟨t,e,o⟩:=h.code;obtain ⟨s,f,p,c⟩:=h.calls;have hi:k < w'.code.length:=(Yaa.1 hj).1;refine ⟨⟨t.modify (k - w.code.length) (λx=>{ x with a:=b }),?_,λx hx=>?_⟩,⟨s,f,p,λx hx=>?_⟩⟩
 ·show w'.code.modify k _=_;rw[e,ZrI _ _ _ _ hk]
 ·rw[hlen];obtain ⟨j,hj2⟩:=List.mem_iff_getElem?.1 hx;by_cases hc:k - w.code.length=j
  ·have ht:t[j]?=some ⟨op,a,0,0⟩:=by rw[e,Yak hk,hc] at hj;exact hj
   rw[hc,Zqg,ht] at hj2;have:=Ya5 hj2;subst this;exact .inr ⟨ho,h0,h1,rfl,rfl⟩
  ·rw[Zh7 _ _ hc] at hj2;exact o x (YaL hj2)
 ·obtain ⟨c1,c2,i,a',n,e1,e2,e3⟩:=c x hx;refine ⟨c1,by rw[hlen];exact c2,i,a',n,e1,?_,e3⟩;show (w'.code.modify k _)[i]?=_;have hc:k≠i:=by intro hc;subst hc;rw[e2] at hj;have:=Ya5 hj;injection this with h11 _ _ _;omega
  rw[Zh7 _ _ hc,e2]
theorem okJ {L:Nat} {op a:Int} (h:op=9\/op=10) (h0:0<=a) (h1:a < (L:Int)):okI L ⟨op,a,0,0⟩:=.inr ⟨h,h0,h1,rfl,rfl⟩
theorem ok0 {L:Nat} {op:Int} (h:op=3\/op=6\/op=7\/op=13\/op=14\/op=15):okI L ⟨op,0,0,0⟩:=.inl (by rcases h with rfl | rfl | rfl | rfl | rfl | rfl<;>decide)
theorem ZkE {L:Nat} {a:Int} (h:0<=a/\a<=65535):okI L ⟨1,a,0,0⟩:=.inl (Zc8 (by decide) h (by decide) (by decide) (λh=>absurd h (by decide)))
theorem Zv4 {L:Nat} {op a:Int} (ho:op=4\/op=5) (h:0<=a/\a<=7):okI L ⟨op,a,0,0⟩:=.inl (by rcases ho with rfl | rfl<;>exact Zc8 (by decide) h (by decide) (by decide) (λh=>absurd h (by decide)))
theorem ZB1 {L:Nat} {a:Int} (h:1<=a/\a<=10):okI L ⟨8,a,0,0⟩:=.inl (Zc8 (by decide) ⟨by omega,h.2⟩ (by decide) (by decide) (λ_=>by omega))
theorem ZAy {L:Nat} {a n:Int} (h:0<=a/\a<=1199) (hn:0<=n/\n<=4):okI L ⟨11,a,n,0⟩:=.inl (Zc8 (by decide) h hn (by decide) (λh=>absurd h (by decide)))
theorem ZAx {L:Nat} {a b n:Int} (h:0<=a/\a<=4) (hb:0<=b/\b<=7) (hn:0<=n/\n<=4):okI L ⟨12,a,b,n⟩:=.inl (Zc8 (by decide) h hb hn (λh=>absurd h (by decide)))
structure Fits (g:GC):Prop where
 base:0<=g.base/\g.base<=250
 vars:g.u.vars.length<=8
 arrs:g.u.arrays.length<=3
 sizes:∀a∈g.u.arrays,1<=a.size/\a.size<=10
 units:g.p.length<=5
 funs:∀u∈g.p,u.funcs.length<=8
 own:g.u.funcs.length<=8
 params:g.f.params.length<=4
theorem Zoe (name:Str):∀(l:List Arr) (at_:Int),(∀a∈l,1<=a.size/\a.size<=10)->l.length<=3->0<=at_->at_<=1000->(0<=(Zfw name l at_).1/\(Zfw name l at_).1<=at_+10*l.length)/\0<=(Zfw name l at_).2/\(Zfw name l at_).2<=10
 | [],at_,_,_,h0,_=>by simp only[Zfw,List.length_nil];omega
 | a :: l,at_,hs,hl,h0,h1=>by
  have ha:=hs a Yac;unfold Zfw;simp only[List.length_cons] at hl ⊢;split
  ·omega
  ·have hw:IntKind.i64.wrap (at_+a.size)=at_+a.size:=I64.wrap (by unfold I64;omega);rw[hw];by_cases hb:at_+a.size<=1000
   ·have:=Zoe name l (at_+a.size) (λx hx=>hs x (Yad _ hx)) (by omega) (by omega) hb;omega
   ·match l,hl with
    | [],_=>simp only[Zfw,List.length_nil];omega
    | [b],_ =>have hb':=hs b (by simp);simp only[Zfw,List.length_cons,List.length_nil];rw[I64.wrap (by unfold I64;omega)];split<;>omega
    | [b,c],_ =>
     have hb':=hs b (by simp);have hc':=hs c (by simp);simp only[Zfw,List.length_cons,List.length_nil];rw[I64.wrap (by unfold I64;omega),I64.wrap (by unfold I64;omega)];split
     ·omega
     ·split<;>omega
theorem Zpa {α:Type} (q:α->Prop) [DecidablePred q] (l:List α):-1<=idx q l/\idx q l < l.length:=by rcases Zbx q l with ⟨h,_⟩ | ⟨i,hi,h,_⟩<;>omega
theorem Zj4 {g:GC} (h:Fits g) (name:Str):(0<=(ZaD g name).1/\(ZaD g name).1<=65535)/\0<=(ZaD g name).2/\(ZaD g name).2<=65535:=by
 have hb:=h.base;have hv:=h.vars;have ha:=h.arrs;have hi:=Zpa (λs=>name=s) g.u.vars;unfold ZaD Zkq;split
 ·dsimp only;rw[I64.wrap (by unfold I64;omega)];omega
 ·rw[I64.wrap (show I64 (g.base+g.u.vars.length) by unfold I64;omega)];have:=Zoe name g.u.arrays (g.base+g.u.vars.length) h.sizes ha (by omega) (by omega);omega
theorem Writ.elem {g:GC} (h:Fits g) (nf:Nat) (name:Str) (w:GW):Writ 1 nf w (Zfm g name w):=by
 obtain ⟨hat,hsz⟩:=Zj4 h name;unfold Zfm;dsimp only;generalize hw3:((w.put 3 0 0 0 1).put 1 (ZaD g name).2 0 0 1).put 8 7 0 0 (-1)=w3;have h3:Writ 1 nf w w3:=by rw[<- hw3];exact ((Writ.put w _ (ok0 (.inl rfl))).trans (.put _ _ (ZkE hsz))).trans (.put _ _ (ZB1 (by decide)))
 have hz:w3.at_=(w3.code.length:Int):=rfl;have h4:Writ 1 nf w3 (w3.put 10 0 0 0 (-1)):=.put _ _ (okJ (.inr rfl) (Ybo _) (by omega));have h6:Writ 1 nf (w3.put 10 0 0 0 (-1)) (((w3.put 10 0 0 0 (-1)).put 9 (w3.at_+3) 0 0 0).put 15 0 0 0 0):=by
  refine ⟨⟨[⟨9,w3.at_+3,0,0⟩,⟨15,0,0,0⟩],by simp[GW.put],λx hx=>?_⟩,⟨[],by simp[Zel],.nil,by simp⟩⟩;simp only[Yav,YaT,or_false] at hx;rcases hx with rfl | rfl
  ·exact okJ (.inl rfl) (by omega) (by simp only[ZaP];omega)
  ·exact ok0 (.inr (.inr (.inr (.inr (.inr rfl)))))
 have hat10:=h6.at_;have h7:=(h3.trans (h4.trans h6)).setA (k:=w3.code.length) (b:=w3.at_+2) h3.len hat10 (.inr rfl) (by omega) (by simp only[ZaP];omega);exact (h7.trans (.put _ _ (ZkE hat))).trans (.put _ _ (ZB1 (by decide)))
theorem Writ.call {g:GC} (h:Fits g) (of s:Str) {n:Nat} (hn:n<=4) (hc:Za1 g.p g.u of s n=0) (w:GW):Writ 1 g.u.funcs.length w (ZhW g of s n w):=by
 have hu:=h.units;have ho:=h.own;unfold ZhW;by_cases hof:of=[]
 ·rw[if_pos hof];unfold Za1 at hc;rw[if_pos hof] at hc;obtain ⟨i,hi,h1,_⟩:=Zcs hc;refine ⟨⟨[⟨11,Zbz g.u s,n,0⟩],rfl,λx hx=>?_⟩,⟨[w.at_],rfl,Yb9 _ _,λk hk=>?_⟩⟩
  ·rw[Yay.1 hx];exact ZAy (by omega) (by omega)
  ·rw[Yay.1 hk,ZaP];refine ⟨Ybo _,(show (w.code.length:Int) < ((w.code.length+1:Nat):Int) by omega),w.code.length,Zbz g.u s,n,rfl,?_,by omega,by omega,by omega,by omega⟩;show (w.code++[_])[w.code.length]?=_;simp
 ·rw[if_neg hof];obtain ⟨i,hi,h1,h2⟩:=ZeQ hc hof;obtain ⟨j,hj,h3,_,hop,_⟩:=Zcs h2;have e1:g.p.getD (Zba g.p of).toNat ⟨[],[],[],[]⟩=g.p[i]:=by rw[h1,Int.toNat_natCast];simp[hi]
  rw[e1,h1,h3];have hf:=h.funs g.p[i] (Yah hi);refine .put _ _ (ZAx (by omega) ?_ (by omega));unfold Zhc;rw[Int.toNat_natCast];have:=ZiH (g.p[i].funcs.take j);rw[Yan] at this;omega
mutual
theorem Writ.expr {g:GC} (h:Fits g):∀(x:Expr) (n:Nat) (w:GW),ZaN n x=0->ZbF g.p g.u g.f x=0->Writ 1 g.u.funcs.length w (Zbf g x w)
 | .mk k v of s args,0,w,hE,_=>by rw[ZaN] at hE;exact absurd hE (by decide)
 | .mk k v of s args,n+1,w,hE,hS=>by
  obtain ⟨hk,h4,hok,hbad,hxE⟩:=ZcN hE;obtain ⟨h1,hxS⟩:=Zhb hS;dsimp only[Expr.k,Expr.n,Expr.of,Expr.s,Expr.args] at hk h4 hok hbad hxE h1 hxS;have hb:=h.base;have hp:=h.params;rw[Zbf];refine (Writ.exprs h args n w hxE hxS).trans ?_;generalize ZaH g args w=w1;unfold ZfV;unfold ZaR at hbad;by_cases k1:k=1
  ·rw[if_pos k1];exact .put _ _ (ZkE (by omega))
  rw[if_neg k1];by_cases k2:k=2
  ·rw[if_pos k2];unfold Zm2;split
   ·have:=Zpa (λz=>s=z) g.f.params;unfold Zbo at *;exact .put _ _ (Zv4 (.inl rfl) (by omega))
   ·exact (Writ.put _ _ (ZkE (Zj4 h s).1)).trans (.put _ _ (ok0 (.inr (.inl rfl))))
  rw[if_neg k2];by_cases k3:k=3
  ·rw[if_pos k3];exact (Writ.elem h _ s w1).trans (.put _ _ (ok0 (.inr (.inl rfl))))
  rw[if_neg k3];by_cases k4:k=4
  ·rw[if_pos k4];unfold Za3 at h1;rw[if_neg (by omega),if_pos k4] at h1;exact .call h of s h4 h1 w1
  rw[if_neg k4];exact .put _ _ (ZB1 (by omega))
theorem Writ.exprs {g:GC} (h:Fits g):∀(l:List Expr) (n:Nat) (w:GW),(∀x∈l,ZaN n x=0)->(∀x∈l,ZbF g.p g.u g.f x=0)->Writ 1 g.u.funcs.length w (ZaH g l w)
 | [],_,w,_,_=>by rw[ZaH];exact .refl _ _ w
 | x :: l,n,w,hE,hS=>by rw[ZaH];exact (Writ.expr h x n w (hE x Yac) (hS x Yac)).trans (.exprs h l n _ (λy hy=>hE y (Yad _ hy)) (λy hy=>hS y (Yad _ hy)))
end
theorem Zro (g:GC) (w:GW):stmtsG g [] w=w:=by rw[stmtsG]
theorem Zoy (g:GC) (x:Stmt) (l:List Stmt) (w:GW):stmtsG g (x :: l) w=stmtsG g l (ZfR g x w):=by rw[stmtsG]
theorem Writ.stmt {g:GC} (h:Fits g) (n:Nat) (ih:∀(l:List Stmt),Zan n l=0->Zbg g.p g.u g.f l=0->∀w:GW,Writ 1 g.u.funcs.length w (stmtsG g l w)) (x:Stmt) (hE:ZcZ (Zan n) x=0) (hS:ZdW g.p g.u g.f x=0) (w:GW):Writ 1 g.u.funcs.length w (ZfR g x w):=by
 obtain ⟨hk,hok,hxE,hbE,heE⟩:=Zb3 hE;obtain ⟨_,hxS,hbS,heS⟩:=ZgM hS;have hp:=h.params;have hw:0<=w.at_:=by unfold GW.at_;omega
 unfold Zdr at hok;have hX:∀y∈x.xs,∀w:GW,Writ 1 g.u.funcs.length w (Zbf g y w):=λy hy w=>.expr h y 12 w (hxE y hy) (hxS y hy);have h0:x.xs.getD 0 noX∈x.xs:=by
  have:0 < x.xs.length:=by omega
  simp[List.getD,List.getElem?_eq_getElem this]
 rw[Zlk];by_cases k1:x.k=1
 ·rw[if_pos k1];unfold Zsr;split
  ·have:=Zpa (λz=>x.s=z) g.f.params;unfold Zbo at *;exact (hX _ h0 w).trans (.put _ _ (Zv4 (.inr rfl) (by omega)))
  ·exact ((Writ.put _ _ (ZkE (Zj4 h x.s).1)).trans (hX _ h0 _)).trans (.put _ _ (ok0 (.inr (.inr (.inl rfl)))))
 rw[if_neg k1];by_cases k2:x.k=2
 ·rw[if_pos k2];have h1:x.xs.getD 1 noX∈x.xs:=by
   have:1 < x.xs.length:=by omega
   simp[List.getD,List.getElem?_eq_getElem this]
  unfold Zii;exact (((((hX _ h0 w).trans (hX _ h1 _)).trans (.put _ _ (Zv4 (.inr rfl) (by omega)))).trans (.elem h _ _ _)).trans (.put _ _ (Zv4 (.inl rfl) (by omega)))).trans (.put _ _ (ok0 (.inr (.inr (.inl rfl)))))
 rw[if_neg k2];by_cases k3:x.k=3\/x.k=4
 ·rw[if_pos k3];dsimp only;have a1:=hX _ h0 w;generalize Zbf g (x.xs.getD 0 noX) w=w1 at a1 ⊢;have a2:=ih x.b hbE hbS (w1.put 10 0 0 0 (-1));have p2:Writ 1 g.u.funcs.length w1 (w1.put 10 0 0 0 (-1)):=.put _ _ (okJ (.inr rfl) (Ybo _) (by omega));generalize stmtsG g x.b (w1.put 10 0 0 0 (-1))=w2 at a2 ⊢;have l1:=a1.len;have l2:=(p2.trans a2).len;have p3:Writ 1 g.u.funcs.length w2 (w2.put 9 (if x.k=4 then w.at_ else 0) 0 0 0):=by
   refine .put _ _ (okJ (.inl rfl) ?_ ?_)
   ·split
    ·exact hw
    ·exact Ybo _
   ·split
    ·unfold GW.at_;omega
    ·omega
  have s10:=(a2.trans p3).at_;have s9:(w2.put 9 (if x.k=4 then w.at_ else 0) 0 0 0).code[w2.code.length]?=some ⟨9,if x.k=4 then w.at_ else 0,0,0⟩:=(Writ.refl 1 g.u.funcs.length _).at_;have l3:=ZaP w2 9 (if x.k=4 then w.at_ else 0) 0 0 0;generalize hv:(if x.k=4 then w.at_ else 0)=v at *;generalize hw3:w2.put 9 v 0 0 0=w3 at *;have hlt:w1.code.length < w2.code.length:=by have:=a2.len;rw[ZaP] at this;exact this
  have a4:Writ 1 g.u.funcs.length w (w3.setA w1.code.length w3.at_):=(a1.trans (p2.trans (a2.trans p3))).setA l1 s10 (.inr rfl) (by unfold GW.at_;omega) (by unfold GW.at_;omega);have s4:(w3.setA w1.code.length w3.at_).code[w2.code.length]?=some ⟨9,v,0,0⟩:=by show (w3.code.modify _ _)[w2.code.length]?=_;rw[Zh7 _ _ (by omega),s9]
  split
  ·have a5:=ih x.e heE heS (w3.setA w1.code.length w3.at_);have hk4:(w3.setA w1.code.length w3.at_).code.length=w3.code.length:=ZeD _ _ _;obtain ⟨t,et,_⟩:=a5.code;have l5:=a5.len;generalize stmtsG g x.e (w3.setA w1.code.length w3.at_)=w5 at *;refine (a4.trans a5).setA (k:=w2.code.length) (by omega) (op:=9) (a:=v) ?_ (.inl rfl) (by unfold GW.at_;omega) (by unfold GW.at_;omega);rw[et,Yaj (by omega)];exact s4
  ·exact a4
 rw[if_neg k3];split
 ·exact (hX _ h0 w).trans (.put _ _ (ok0 (.inr (.inr (.inr (.inl rfl))))))
 ·exact (hX _ h0 w).trans (.put _ _ (ok0 (.inr (.inr (.inr (.inr (.inl rfl)))))))
theorem Writ.stmts {g:GC} (h:Fits g):∀(n:Nat) (l:List Stmt),Zan n l=0->Zbg g.p g.u g.f l=0->∀w:GW,Writ 1 g.u.funcs.length w (stmtsG g l w)
 | 0,_,hE,_=>by rw[Zan] at hE;exact absurd hE (by decide)
 | n+1,l,hE,hS=>by
  rw[Zan] at hE;rw[ZaS] at hS;have e:=Zak hE;have s:=Zak hS;clear hE hS
  induction l with
  | nil=>intro w;rw[Zro];exact .refl _ _ w
  | cons x l il =>intro w;rw[Zoy];exact (Writ.stmt h n (Writ.stmts h n) x (e x Yac) (s x Yac) w).trans (il (λy hy=>e y (Yad _ hy)) (λy hy=>s y (Yad _ hy)) _)
def Zxc (p:List Unit) (u:Unit) (base:Int) (f:Fun):Prop:=Fits ⟨p,u,base,f⟩/\Zan 12 f.body=0/\Zbg p u f f.body=0
theorem ZiQ (p:List Unit) (u:Unit) (base:Int) (f:Fun) (w:GW):(ZkT p u base f w).code.length=(stmtsG ⟨p,u,base,f⟩ f.body { w with deep:=0 }).code.length+2:=by unfold ZkT;rw[ZaP,ZaP]
theorem Writ.fun_ {p:List Unit} {u:Unit} {base:Int} {f:Fun} (h:Zxc p u base f) (w:GW):Writ 0 u.funcs.length w (ZkT p u base f w):=by
 have h1:=Writ.stmts h.1 12 f.body h.2.1 h.2.2 { w with deep:=0 };have hl:=ZiQ p u base f w;obtain ⟨t,et,ot⟩:=h1.code;obtain ⟨s,es,ps,cs⟩:=h1.calls;have hc:(ZkT p u base f w).code=w.code++(t++[⟨1,0,0,0⟩,⟨13,0,0,0⟩]):=by unfold ZkT GW.put;show (_++_)++_=_;rw[et];simp
 refine ⟨⟨_,hc,λx hx=>?_⟩,⟨s,es,ps,λk hk=>?_⟩⟩
 ·rw[hl];rcases Yao.1 hx with hx | hx
  ·exact (ot x hx).mono (by omega)
  ·simp only[Yav,YaT,or_false] at hx;rcases hx with rfl | rfl
   ·exact ZkE (by decide)
   ·exact ok0 (.inr (.inr (.inr (.inl rfl))))
 ·obtain ⟨a1,a2,a3⟩:=cs k hk;refine ⟨a1,by rw[hl];omega,?_⟩;rw[hc,<- Yas];rw[et] at a3;exact Zn3 a3 _
theorem Writ.funs {p:List Unit} {u:Unit} {base:Int}:∀(l:List Fun) (w:GW),(∀f∈l,Zxc p u base f)->Writ 0 u.funcs.length w (ZbD p u base l w)
 | [],w,_=>.refl _ _ w
 | f :: l,w,h=>by rw[ZbD];exact (Writ.fun_ (h f Yac) w).trans (.funs l _ (λx hx=>h x (Yad _ hx)))
theorem ZfO (p:List Unit) (u:Unit) (base:Int):∀(l:List Fun) (w:GW),(ZfP p u base l w).length=l.length
 | [],_=>rfl
 | f :: l,w=>by rw[ZfP,List.length_cons,List.length_cons,ZfO p u base l]
theorem Zqv (p:List Unit) (u:Unit) (base:Int):∀(l:List Fun) (w:GW),w.code.length<=(ZbD p u base l w).code.length
 | [],_=>Yax _
 | f :: l,w=>by rw[ZbD];have h1:=Zqv p u base l (ZkT p u base f w);have h2:=ZiQ p u base f w;have h3:=(Grow.stmts ⟨p,u,base,f⟩ f.body { w with deep:=0 }).lo;have h4:({ w with deep:=0 }:GW).code.length=w.code.length:=rfl;omega
theorem Zmg (p:List Unit) (u:Unit) (base:Int):∀(l:List Fun) (w:GW),∀a∈ZfP p u base l w,(w.code.length:Int)<=a/\a < ((ZbD p u base l w).code.length:Int)
 | [],_,a,ha=>by simp[ZfP] at ha
 | f :: l,w,a,ha=>by
  rw[ZfP,Yav] at ha;rw[ZbD];have h2:=ZiQ p u base f w;have h3:=(Grow.stmts ⟨p,u,base,f⟩ f.body { w with deep:=0 }).lo;have h4:({ w with deep:=0 }:GW).code.length=w.code.length:=rfl;rcases ha with rfl | ha
  ·have h1:=Zqv p u base l (ZkT p u base f w);unfold GW.at_;omega
  ·have:=Zmg p u base l _ a ha;omega
theorem Zh9 (p:List Unit) (u:Unit) (base:Int):∀(a b:List Fun) (w:GW),ZbD p u base (a++b) w=ZbD p u base b (ZbD p u base a w)
 | [],_,_=>rfl
 | f :: a,b,w=>by rw[List.cons_append,ZbD,ZbD];exact Zh9 p u base a b _
theorem Zuj (p:List Unit) (u:Unit) (base:Int) (l:List Fun) (j:Nat) (hj:j < l.length) (w:GW):ZbD p u base (l.take (j+1)) w=ZkT p u base l[j] (ZbD p u base (l.take j) w):=by rw[Zay hj,Zh9];rfl
theorem Zj0 (p:List Unit) (u:Unit) (base:Int):∀(a b:List Fun) (w:GW),ZfP p u base (a++b) w=ZfP p u base a w++ZfP p u base b (ZbD p u base a w)
 | [],_,_=>rfl
 | f :: a,b,w=>by rw[List.cons_append,ZfP,ZfP,ZbD,Zj0 p u base a b];rfl
theorem Zw1 (p:List Unit) (u:Unit) (base:Int) (l:List Fun) (j:Nat) (hj:j < l.length) (w:GW):ZfP p u base (l.take (j+1)) w=ZfP p u base (l.take j) w++[(ZbD p u base (l.take j) w).at_]:=by rw[Zay hj,Zj0];rfl
def ZkD (ats:List Int) (c:List Instr) (k:Int):List Instr:=setA c k.toNat (ats.getD (c.getD k.toNat ⟨0,0,0,0⟩).a.toNat 0)
theorem ZgU (ats:List Int):∀(a b:List Int) (c:List Instr),Zch ats (a++b) c=Zch ats b (Zch ats a c)
 | [],_,_=>rfl
 | k :: a,b,c=>by rw[List.cons_append,Zch,Zch];exact ZgU ats a b _
theorem Zhy (ats l:List Int) (j:Nat) (hj:j < l.length) (c:List Instr):Zch ats (l.take (j+1)) c=ZkD ats (Zch ats (l.take j) c) l[j]:=by rw[Zay hj,ZgU];rfl
theorem Zhz (ats:List Int):∀(l:List Int) (c:List Instr),(Zch ats l c).length=c.length
 | [],_=>rfl
 | k :: l,c=>by rw[Zch,Zhz ats l];unfold setA;simp
theorem Zpr {nf:Nat} {ats:List Int} {c:List Instr} {j k:Int} (hk:Zkl nf c k) (hj:Zkl nf c j) (hne:k≠j):Zkl nf (ZkD ats c k) j:=by obtain ⟨i,a,n,h1,h2,h3⟩:=hj;obtain ⟨i',_,_,h1',_⟩:=hk;refine ⟨i,a,n,h1,?_,h3⟩;unfold ZkD setA;rw[Zh7 _ _ (by omega),h2]
theorem ZeF {nf:Nat} {ats:List Int} {l:List Int} {c:List Instr} (hp:l.Pairwise (· < ·)) (hc:∀k∈l,Zkl nf c k):∀(i:Nat) (j:Nat) (hj:j < l.length),i<=j->Zkl nf (Zch ats (l.take i) c) l[j]
 | 0,j,hj,_=>by rw[List.take_zero];exact hc _ (Yah hj)
 | i+1,j,hj,hij=>by rw[Zhy ats l i (by omega)];have h1:=ZeF (ats:=ats) hp hc i i (by omega) (Yax _);have h2:=ZeF (ats:=ats) hp hc i j hj (by omega);have h3:=List.pairwise_iff_getElem.1 hp i j (by omega) hj (by omega);exact Zpr h1 h2 (by omega)
def okP (L:Nat) (x:Instr):Prop:=okI L x\/(x.op=11/\0<=x.a/\x.a < (L:Int)/\0<=x.b/\x.b<=4/\x.c=0)
theorem ZyE {L:Nat} {x:Instr} (h:okP L x) (hL:L<=1200):ZaM x=0:=by
 rcases h with h | ⟨h1,h2,h3,h4,h5,h6⟩
 ·exact ZyF h hL
 ·obtain ⟨op,a,b,c⟩:=x;dsimp only at h1 h2 h3 h4 h5 h6;subst h6;subst h1;exact Zc8 (by decide) ⟨h2,by show a<=1199;omega⟩ ⟨h4,h5⟩ (by decide) (λh=>absurd h (by decide))
theorem Zp6 {nf L:Nat} {ats:List Int} (ha:ats.length=nf) (hr:∀a∈ats,0<=a/\a < (L:Int)) {l:List Int} {c:List Instr} (hp:l.Pairwise (· < ·)) (hc:∀k∈l,Zkl nf c k) (ho:∀x∈c,okI L x):∀(i:Nat),i<=l.length->∀x∈Zch ats (l.take i) c,okP L x
 | 0,_,x,hx=>by rw[List.take_zero] at hx;exact .inl (ho x hx)
 | i+1,hi,x,hx=>by
  rw[Zhy ats l i (by omega)] at hx;have ih:=Zp6 ha hr hp hc ho i (by omega);obtain ⟨q,a,n,h1,h2,h3,h4,h5,h6⟩:=ZeF (ats:=ats) hp hc i i (by omega) (Yax _);generalize Zch ats (l.take i) c=d at *;rw[h1] at hx;unfold ZkD setA at hx;rw[Int.toNat_natCast,show d.getD q ⟨0,0,0,0⟩=⟨11,a,n,0⟩ by rw[Yal,h2];rfl] at hx;obtain ⟨j,hj⟩:=List.mem_iff_getElem?.1 hx;by_cases hq:q=j
  ·subst hq;rw[Zqg,h2] at hj;have:=Ya5 hj;subst this;have hat:ats.getD a.toNat 0∈ats:=by
    have:a.toNat < ats.length:=by omega
    rw[Yal,Yaq this];exact Yah this
   have:=hr _ hat;exact .inr ⟨rfl,this.1,this.2,h5,h6,rfl⟩
  ·rw[Zh7 _ _ hq] at hj;exact ih x (YaL hj)
theorem Zvr {p:List Unit} {u:Unit} {base:Int} (h:∀f∈u.funcs,Zxc p u base f) (hl:(ZdV p u base).length<=1200):∀x∈ZdV p u base,ZaM x=0:=by
 intro x hx;have hw:=Writ.funs u.funcs ⟨[],[],0,0⟩ h;obtain ⟨t,et,ot⟩:=hw.code;obtain ⟨s,es,ps,cs⟩:=hw.calls;have et':(Zc1 p u base).code=t:=by unfold Zc1;rw[et];rfl
 have es':(Zc1 p u base).calls=s:=by unfold Zc1;rw[es];rfl
 unfold ZdV at hx hl;rw[Zhz] at hl;rw[es'] at hx;have hc:(ZbD p u base u.funcs ⟨[],[],0,0⟩)=Zc1 p u base:=rfl;rw[hc] at ot cs;have:=Zp6 (nf:=u.funcs.length) (L:=(Zc1 p u base).code.length) (ZfO p u base u.funcs ⟨[],[],0,0⟩) (λa ha=>by
  have:=Zmg p u base u.funcs ⟨[],[],0,0⟩ a ha;rw[hc] at this;exact ⟨by have:=this.1;simp at this;exact this,this.2⟩) (l:=s) (c:=(Zc1 p u base).code) ps (λk hk=>(cs k hk).2.2) (λx hx=>ot x (by rw[<- et'];exact hx)) s.length (Yax _) x (by rw[YaE];exact hx)
 exact ZyE this hl
theorem Zxm:∀(n:Nat) (x:Expr),ZaN n x=0->3*szE x+1<=4 ^ n
 | 0,.mk _ _ _ _ _,h=>by rw[ZaN] at h;exact absurd h (by decide)
 | n+1,.mk k v of s args,h=>by
  obtain ⟨_,h4,_,_,hx⟩:=ZcN h;dsimp only[Expr.args] at h4 hx;have hpos:1<=4 ^ n:=Nat.one_le_pow _ _ (by decide);have key:∀l:List Expr,(∀y∈l,ZaN n y=0)->3*Zd7 l+l.length<=l.length*4 ^ n:=by
   intro l
   induction l with
   | nil=>intro _;simp[Zd7]
   | cons y l ih =>intro hy;have h1:=Zxm n y (hy y Yac);have h2:=ih (λz hz=>hy z (Yad _ hz));rw[Zd7,List.length_cons,Ybw];omega
  have:=key args hx;rw[szE,Nat.pow_succ];have h5:args.length*4 ^ n+(4 - args.length)*4 ^ n=4*4 ^ n:=by rw[<- Ybw];congr 1;omega
  have h6:4 - args.length<=(4 - args.length)*4 ^ n:=YcE _ hpos;omega
theorem Zx6 (l:List Expr) (h:∀y∈l,ZaN 12 y=0):Zd7 l<=l.length*5592405:=by
 induction l with
 | nil=>simp[Zd7]
 | cons y l ih =>have h1:=Zxm 12 y (h y Yac);have h2:=ih (λz hz=>h z (Yad _ hz));rw[Zd7,List.length_cons];omega
theorem Zow:∀(n:Nat) (l:List Stmt),Zan n l=0->(Ze1 l:Int)<=100663330*Zam n l
 | 0,_,h=>by rw[Zan] at h;exact absurd h (by decide)
 | n+1,l,h=>by
  rw[Zan] at h;have e:=Zak h;clear h
  induction l with
  | nil=>rw[Zca];simp[Ze1]
  | cons x l il =>
   obtain ⟨_,hok,hxE,hbE,heE⟩:=Zb3 (e x Yac);have h1:=Zow n x.b hbE;have h2:=Zow n x.e heE;have h3:=il (λy hy=>e y (Yad _ hy));have h4:=Zx6 x.xs hxE;unfold Zdr at hok;have h5:x.xs.length<=2:=by omega
   have h6:Zd7 x.xs<=2*5592405:=YaB h4 (YaQ _ h5);rw[Zbq,Ze1,ZsU];push_cast;omega
theorem Zpj {p:List Unit} (h:Zbd p=0) {u:Unit} (hu:u∈p) {base:Int} (hb:0<=base/\base<=250) {f:Fun} (hf:f∈u.funcs):Zxc p u base f:=by obtain ⟨h1,h2,_,h3⟩:=Za5 h;obtain ⟨_,a1,a2,a3,_,a4,a5⟩:=Zau (h2 u hu);obtain ⟨_,b1,_,b2⟩:=ZbL (a5 f hf);exact ⟨⟨hb,a1,a2,λa ha=>(Zd6 (a4 a ha)).2,h1,λv hv=>(Zau (h2 v hv)).2.2.2.1,a3,b1⟩,b2,Zi6 (h3 u hu) f hf⟩
theorem ZuU {p:List Unit} (h:Zbd p=0) (hN:Zsu p) {u:Unit} (hu:u∈p) {f:Fun} (hf:f∈u.funcs):Ze1 f.body<=30198999000:=by obtain ⟨_,h2,_,_⟩:=Za5 h;obtain ⟨_,_,_,_,_,_,a5⟩:=Zau (h2 u hu);obtain ⟨_,_,_,b3⟩:=ZbL (a5 f hf);have h3:=(ZgY u.funcs).1 f hf;have h4:=hN u hu;have h5:=Zow 12 f.body b3;omega
theorem Zqu (p:List Unit) (u:Unit) (base:Int) (M:Nat):∀(l:List Fun) (w:GW),(∀f∈l,Ze1 f.body<=M)->w.calls.length<=w.code.length->(ZbD p u base l w).code.length<=w.code.length+l.length*(M+2)/\(ZbD p u base l w).calls.length<=(ZbD p u base l w).code.length
 | [],w,_,h=>by rw[ZbD];simp;exact h
 | f :: l,w,hM,h=>by rw[ZbD];have g:=Grow.stmts ⟨p,u,base,f⟩ f.body { w with deep:=0 };have hf:=hM f Yac;have e1:=ZiQ p u base f w;have e2:(ZkT p u base f w).calls=(stmtsG ⟨p,u,base,f⟩ f.body { w with deep:=0 }).calls:=rfl;have g1:=g.hi;have g2:=g.calls;have g3:({ w with deep:=0 }:GW).code.length=w.code.length:=rfl;have g4:({ w with deep:=0 }:GW).calls.length=w.calls.length:=rfl;have:=Zqu p u base M l (ZkT p u base f w) (λx hx=>hM x (Yad _ hx)) (by rw[e1,e2];omega);rw[List.length_cons,Ybw];omega
noncomputable def Zkc (p:List Unit) (u base:Int):List Instr:=if Zil p u base=0 then ZdV p (p.getD u.toNat noU) base else []
noncomputable def Zim (p:List Unit) (u base:Int):List Int:=if Zil p u base=0 then ZfP p (p.getD u.toNat noU) base (p.getD u.toNat noU).funcs ⟨[],[],0,0⟩ else []
end Barb
namespace ZN
open Go Go.Dm Go.Eng Go.RowKit Barb
theorem ZpZ {p:List Barb.Unit} {u base e:Int} {h:Zad} (he:Zil p u base=e) (h0:e≠0):Zbk (Is (.tuple [.g (.sl 4 ((Zkc p u base).map Instr.g)),.g (.sl 1 ((Zim p u base).map Zat)),.g (.int (Zil p u base))])) h (.tuple [.nils,.nils,.g (.int e)]):=by
 have h1:Zkc p u base=[]:=by unfold Zkc;rw[if_neg (by rw[he];exact h0)]
 have h2:Zim p u base=[]:=by unfold Zim;rw[if_neg (by rw[he];exact h0)]
 rw[h1,h2,he];exact Zbl (.inr (.inr ⟨Zg0,Zg0,lk rfl,trivial⟩))
theorem Zz9 (g:GC) (ui:Int) (hf:g.f=⟨[],false,[],[]⟩):Zj9 (Zjs [.old 0,.nil 127 4,.nil 3 1,.nil 3 1])
  [.blk [.g (.sl 4 (g.p.map Unit.g)),.g (.int ui),.g (.int g.base),.g (.str []),.g (.bool false),.nils,.nils,.nils,.nils,.g (.int 0),.g (.int 0)] 140,.row [] 127 4,.row [] 3 1,.row [] 3 1]
  (WHr g ui ⟨[],[],0,0⟩ []++[.row [] 3 1]):=by refine ⟨⟨rfl,.inr ?_⟩,⟨rfl,rfl,rfl⟩,⟨rfl,rfl,rfl⟩,⟨rfl,rfl,rfl⟩,trivial⟩;unfold WBr;rw[hf];exact ⟨lk rfl,lk rfl,lk rfl,lk rfl,lk rfl,Zg0,Zg0,.inr rfl,.inr rfl,lk rfl,lk rfl,trivial⟩
set_option maxRecDepth 20000 in
set_option maxHeartbeats 4000000 in
theorem ZpB (p:List Barb.Unit) (hp:Zj7 p) (hN:Zsu p) (ku base:Int) (hb:-4000000000000000000<=base/\base<=4000000000000000000) :
  CT Tryz.prog gl 38 [.g (.sl 4 (p.map Unit.g)),.g (.int ku),.g (.int base)] (Is (.tuple [.g (.sl 4 ((Zkc p ku base).map Instr.g)),.g (.sl 1 ((Zim p ku base).map Zat)),.g (.int (Zil p ku base))])):=by
 have lp:(p.map Unit.g).length=p.length:=Yab _;have e:Zil p ku base=Zil p ku base:=rfl
 conv at e=>rhs;unfold Zil
 refine enter hT hF hM Tryz.func38 rfl 126 rfl (by kernel_rfl) [.tmp 6,.tmp 7,.tmp 8] rfl [.g (.sl 4 (p.map Unit.g)),.g (.int ku),.g (.int base)] rfl _ ?_;refine Zae (.inl rfl) (Zef p hp) ?_;refine ⟨λh=>⟨rfl,ZpZ (by rw[e,if_pos h]) h⟩,λh=>?_⟩;rw[if_neg (λh'=>h' (by omega))] at e;have hgood:Zbd p=0:=by omega
 have r5:(ku < 0\/ku >= p.length)->∀h:Zad,Zbk (Is (.tuple [.g (.sl 4 ((Zkc p ku base).map Instr.g)),.g (.sl 1 ((Zim p ku base).map Zat)),.g (.int (Zil p ku base))])) h (.tuple [.nils,.nils,.g (.int 5)]):=λhb h=>ZpZ (by rw[e,if_pos hb]) (by decide);refine ⟨λa1=>⟨rfl,r5 (.inl a1) _⟩,λa1=>⟨λa2=>⟨rfl,r5 (.inr (by omega)) _⟩,λa2=>?_⟩⟩;clear r5;rw[if_neg (by omega)] at e;obtain ⟨k,hk⟩:∃k:Nat,ku=(k:Int):=⟨ku.toNat,by omega⟩;subst hk;have hkl:k < p.length:=by omega
 have hpk:p.getD (k:Int).toNat ⟨[],[],[],[]⟩=p[k]:=by rw[Int.toNat_natCast];simp[hkl]
 rw[hpk] at e;have hmem:p[k]∈p:=Yah hkl;obtain ⟨hp5,hUE,_,hUS⟩:=Za5 hgood;obtain ⟨_,hv8,ha3,hf8,_,hAE,hFE⟩:=Zau (hUE _ hmem);have hsz:∀a∈p[k].arrays,1<=a.size/\a.size<=10:=λa ha=>(Zd6 (hAE a ha)).2;have hwd:0<=Zap p[k]/\Zap p[k]<=40:=by have:=ZeC hsz;unfold Zap;omega
 have r2:(base < 0\/base+Zap p[k] > 250)->∀h:Zad,Zbk (Is (.tuple [.g (.sl 4 ((Zkc p k base).map Instr.g)),.g (.sl 1 ((Zim p k base).map Zat)),.g (.int (Zil p k base))])) h (.tuple [.nils,.nils,.g (.int 2)]):=λhb h=>ZpZ (by rw[e,if_pos hb]) (by decide);refine ⟨λb1=>⟨rfl,r2 (.inl b1) _⟩,λb1=>?_⟩;refine ⟨k,_,rfl,gm hkl,?_⟩;refine Zae (.inl rfl) (Zj6 p[k] hv8 hsz ha3) ?_;refine ⟨_,I64.wrap (by unfold I64;omega),?_⟩;refine ⟨λb2=>⟨rfl,r2 (.inr b2) _⟩,λb2=>?_⟩;clear r2;rw[if_neg (by omega)] at e;have hfl:(p[k].funcs.map Fun.g).length=p[k].funcs.length:=Yab _;obtain ⟨w0,hw0⟩:∃w0:GW,w0=⟨[],[],0,0⟩:=⟨_,rfl⟩;refine ⟨k,_,rfl,gm hkl,?_⟩;refine ZaL (ι:=Nat × Barb.Fun) (λi=>[(10,.ptr 0 0),(11,.row 3),(50,.g (.sl 4 (p[k].funcs.map Fun.g))),(51,.g (.int (p[k].funcs.map Fun.g).length)),(52,.g (.int (i.1:Int)))])
  (λi=>WHr ⟨p,p[k],base,i.2⟩ k (ZbD p p[k] base (p[k].funcs.take i.1) w0) []++[Obj.row ((ZfP p p[k] base (p[k].funcs.take i.1) w0).map Zat) 3 1]) (λi=>i.1<=p[k].funcs.length) (λi=>p[k].funcs.length - i.1)
  ⟨(0,⟨[],false,[],[]⟩),[.old 0,.nil 127 4,.nil 3 1,.nil 3 1],⟨rfl,.inr (by rw[hw0];exact Zz9 ⟨p,p[k],base,⟨[],false,[],[]⟩⟩ k rfl),.inr ⟨lk rfl,.inr rfl,lk rfl,lk rfl,lk rfl,trivial⟩,rfl⟩,Yau _⟩ ?_
 rintro Rd hRd ⟨i,f0⟩ hi;dsimp only at hi;have hlen:(ZbD p p[k] base (p[k].funcs.take i) w0).code.length<=i*30198999002/\(ZbD p p[k] base (p[k].funcs.take i) w0).calls.length<=(ZbD p p[k] base (p[k].funcs.take i) w0).code.length:=by
  have h1:=Zqu p p[k] base 30198999000 (p[k].funcs.take i) w0 (λf hf=>ZuU hgood hN hmem (YaH hf)) (by rw[hw0];exact Yax _);have h2:(p[k].funcs.take i).length=i:=by rw[Yan];omega
  have h3:w0.code.length=0:=by rw[hw0];rfl
  rw[h2,h3,YaA] at h1;exact h1
 refine ⟨λc1=>?_,λc1=>?_⟩
 ·have hil:i < p[k].funcs.length:=by have:(i:Int) < ((p[k].funcs.map Fun.g).length:Nat):=c1;omega
  have hfm:p[k].funcs[i]∈p[k].funcs:=Yah hil;have n1:=Zuj p p[k] base p[k].funcs i hil w0;have n2:=Zw1 p p[k] base p[k].funcs i hil w0;have hail:(ZfP p p[k] base (p[k].funcs.take i) w0).length=i:=by rw[ZfO,Yan];omega
  generalize ZbD p p[k] base (p[k].funcs.take i) w0=wi at *;generalize ZfP p p[k] base (p[k].funcs.take i) w0=ai at *;obtain ⟨hfit,hbE,hbS⟩:=Zpj hgood hmem (base:=base) (by omega) hfm;obtain ⟨_,_,hbl,hbI⟩:=(hp.1 _ hmem).2.2.2.2.1 _ hfm;have hbz:=ZuU hgood hN hmem hfm;have hgok:GOk ⟨p,p[k],base,p[k].funcs[i]⟩ k:=⟨hkl,rfl,hv8,ha3⟩;have h8:i*30198999002<=8*30198999002:=YaQ _ (by omega);have hroom:Room (Ze1 p[k].funcs[i].body) { wi with deep:=0 }:=⟨by show wi.code.length+_<=_;omega,hlen.2⟩;have hct:=Znz hgok hp5 (λv hv=>(Zau (hUE v hv)).2.2.2.1) hfit.params 12 p[k].funcs[i].body hbE hbS hbl hbI { wi with deep:=0 } hroom;have hg:=Grow.stmts ⟨p,p[k],base,p[k].funcs[i]⟩ p[k].funcs[i].body { wi with deep:=0 };unfold ZkT at n1;generalize Barb.stmtsG ⟨p,p[k],base,p[k].funcs[i]⟩ p[k].funcs[i].body { wi with deep:=0 }=w1 at *;have hg2:w1.code.length<=wi.code.length+Ze1 p[k].funcs[i].body:=hg.hi;have lw:((wi.code.map Instr.g).length:Int)=wi.at_:=by rw[Yab];rfl
  have la:(ai.map Zat).length=i:=by rw[Yab];exact hail
  refine ⟨i,_,rfl,(gm hil).trans (congrArg some (Fun.g_eq _)),?_⟩;refine ⟨[[.int (wi.code.map Instr.g).length]],rfl,rfl,⟨rfl,trivial⟩,?_⟩;refine ⟨⟨by simp only[maxLen,List.length_cons,List.length_nil];omega,by simp only[List.length_cons,List.length_nil];omega⟩,?_⟩;refine Za6 Zgn 1 2 [.dead,.dead,.dead,.blk p[k].funcs[i].d 65,.row [[.int (wi.code.map Instr.g).length]] 3 1,.row (ai.map Zat++[[.int (wi.code.map Instr.g).length]]) 3 1] hct ⟨rfl,.inl rfl,.inl rfl,rfl⟩ rfl rfl rfl ?_;refine Za6 Zbm 7 8 [.dead,.dead,.dead,.blk p[k].funcs[i].d 65,.row [[.int (wi.code.map Instr.g).length]] 3 1,.row (ai.map Zat++[[.int (wi.code.map Instr.g).length]]) 3 1,.dead,.dead] (ZaY ⟨p,p[k],base,p[k].funcs[i]⟩ k w1 (by omega) 1 0 0 0 1) ⟨rfl,.inl rfl,.inl rfl,rfl⟩ rfl rfl rfl ?_;refine Za6 Zbm 9 10 [.dead,.dead,.dead,.blk p[k].funcs[i].d 65,.row [[.int (wi.code.map Instr.g).length]] 3 1,.row (ai.map Zat++[[.int (wi.code.map Instr.g).length]]) 3 1,.dead,.dead,.dead,.dead] (ZaY ⟨p,p[k],base,p[k].funcs[i]⟩ k _ (by rw[ZaP];omega) 13 0 0 0 (-1)) ⟨rfl,.inl rfl,.inl rfl,rfl⟩ rfl rfl rfl ?_;refine ⟨_,I64.wrap (by unfold I64;omega),?_⟩;refine hRd _ _ _ ⟨(i+1,p[k].funcs[i]),[.old 0,.old 11,.old 12,.old 6],⟨rfl,.inr ⟨⟨rfl,.inl (by dsimp only;rw[n1];rfl)⟩,⟨(by dsimp only;rw[n1]),rfl,rfl⟩,⟨(by dsimp only;rw[n1]),rfl,rfl⟩,⟨(by dsimp only;rw[n2,Yai,<- lw];rfl),rfl,rfl⟩,trivial⟩,.inr ⟨lk rfl,lk rfl,lk rfl,lk rfl,lkI (by push_cast;rfl),trivial⟩,rfl⟩,hil,by show p[k].funcs.length - (i+1) < p[k].funcs.length - i;omega⟩
 ·have hil:i=p[k].funcs.length:=by have:¬(i:Int) < ((p[k].funcs.map Fun.g).length:Nat):=c1;omega
  subst hil;rw[YaE] at hlen ⊢;have hW:ZbD p p[k] base p[k].funcs w0=Zc1 p p[k] base:=by rw[hw0];rfl
  rw[hW] at hlen ⊢;have hA:ZfP p p[k] base p[k].funcs w0=ZfP p p[k] base p[k].funcs ⟨[],[],0,0⟩:=by rw[hw0]
  rw[hA];clear hW hA;have hWr:=Writ.funs p[k].funcs ⟨[],[],0,0⟩ (λf hf=>Zpj hgood hmem (base:=base) (by omega) hf);have hC:ZdV p p[k] base=Zch (ZfP p p[k] base p[k].funcs ⟨[],[],0,0⟩) (Zc1 p p[k] base).calls (Zc1 p p[k] base).code:=rfl;have hAl:=ZfO p p[k] base p[k].funcs ⟨[],[],0,0⟩;obtain ⟨cs,hcs,hpw,hcl⟩:=hWr.calls;have hcs':(Zc1 p p[k] base).calls=cs:=hcs;have hcl':∀x∈(Zc1 p p[k] base).calls,Zkl p[k].funcs.length (Zc1 p p[k] base).code x:=λx hx=>(hcl x (by rw[<- hcs'];exact hx)).2.2;rw[<- hcs'] at hpw;clear hcl hcs hcs' cs hWr;have hGA:Zil p k base=0->Zim p k base=ZfP p p[k] base p[k].funcs ⟨[],[],0,0⟩:=λh0=>by unfold Zim;rw[if_pos h0,hpk]
  have hGC:Zil p k base=0->Zkc p k base=ZdV p p[k] base:=λh0=>by unfold Zkc;rw[if_pos h0,hpk]
  rw[hC] at e hGC;generalize ZfP p p[k] base p[k].funcs ⟨[],[],0,0⟩=ats at *;generalize Zc1 p p[k] base=w at *;have lcl:(w.calls.map Zat).length=w.calls.length:=Yab _;refine ZaL (ι:=Nat) (λi=>[(10,.ptr 0 0),(11,.row 3),(83,.row 2),(84,.g (.int (w.calls.map Zat).length)),(85,.g (.int (i:Int)))])
   (λi=>WHr ⟨p,p[k],base,f0⟩ k { w with code:=Zch ats (w.calls.take i) w.code } []++[Obj.row (ats.map Zat) 3 1]) (λi=>i<=w.calls.length) (λi=>w.calls.length - i)
   ⟨0,[.old 0,.old 1,.old 2,.old 3],⟨rfl,.inl rfl,.inr ⟨lk rfl,lk rfl,lk rfl,lk rfl,lk rfl,trivial⟩,rfl⟩,Yau _⟩ ?_
  intro Rd hRd i hi;refine ⟨λd1=>?_,λd1=>?_⟩
  ·have hil:i < w.calls.length:=by have:(i:Int) < ((w.calls.map Zat).length:Nat):=d1;omega
   have hone:=Zhy ats w.calls i hil w.code;obtain ⟨q,a,n,q1,q2,q3,q4,q5,q6⟩:=ZeF (ats:=ats) hpw hcl' i i hil (Yax _);generalize Zch ats (w.calls.take i) w.code=ci at *;refine ⟨i,rfl,(by rw[lcl];exact hil),?_⟩;refine ⟨_,gm hil,?_⟩;refine ⟨none,rfl,?_⟩;have hq:q < ci.length:=(Yaa.1 q2).1;have hcq:ci[q]=⟨11,a,n,0⟩:=(Yaa.1 q2).2;refine ⟨q,congrArg (λz=>D.g (.int z)) q1,(by rw[Yab];exact hq),?_⟩;obtain ⟨na,hna⟩:∃na:Nat,a=(na:Int):=⟨a.toNat,by omega⟩;subst hna;have hnl:na < ats.length:=by omega
   refine ⟨_,(gm hq).trans (congrArg some (congrArg Instr.g hcq)),?_⟩;refine ⟨na,rfl,(by rw[Yab];exact hnl),?_⟩;refine ⟨_,gm hnl,?_⟩;refine ⟨q,congrArg (λz=>D.g (.int z)) q1,(by rw[Yab];exact hq),?_⟩;refine ⟨_,[.int ats[na]],gm hq,⟨rfl,trivial⟩,Yaw rfl,(λh=>by cases h),?_⟩;refine ⟨_,I64.wrap (by unfold I64;omega),?_⟩;have hp1:ZkD ats ci w.calls[i]=setA ci q ats[na]:=by unfold ZkD;rw[q1,Int.toNat_natCast,show ci.getD q ⟨0,0,0,0⟩=⟨11,na,n,0⟩ by rw[Yal,q2];rfl];dsimp only;rw[Int.toNat_natCast,Yal,Yaq hnl];rfl
   have hset:=setA_row (w:={ w with code:=ci }) hq ats[na];refine hRd _ _ _ ⟨i+1,[.old 0,.old 1,.old 2,.old 3],⟨rfl,.inr ⟨⟨rfl,.inl rfl⟩,⟨(by rw[hone,hp1];exact hset),rfl,rfl⟩,⟨rfl,rfl,rfl⟩,⟨rfl,rfl,rfl⟩,trivial⟩,.inr ⟨lk rfl,lk rfl,lk rfl,lk rfl,lkI (by push_cast;rfl),trivial⟩,rfl⟩,hil,by show w.calls.length - (i+1) < w.calls.length - i;omega⟩
  ·have hil:i=w.calls.length:=by have:¬(i:Int) < ((w.calls.map Zat).length:Nat):=d1;omega
   subst hil;rw[YaE];generalize Zch ats w.calls w.code=ci at *;have lci:(ci.map Instr.g).length=ci.length:=Yab _;have r1:(ci.length > 1200\/w.most > 40)->∀h:Zad,Zbk (Is (.tuple [.g (.sl 4 ((Zkc p k base).map Instr.g)),.g (.sl 1 ((Zim p k base).map Zat)),.g (.int (Zil p k base))])) h (.tuple [.nils,.nils,.g (.int 1)]):=λhb h=>ZpZ (by rw[e,if_pos hb]) (by decide);refine ⟨λx1=>⟨rfl,r1 (.inl (by have:(1200:Int) < ((ci.map Instr.g).length:Nat):=x1;omega)) _⟩,λx1=>⟨λx2=>⟨rfl,r1 (.inr x2) _⟩,λx2=>?_⟩⟩;clear r1;rw[if_neg (by have:¬(1200:Int) < ((ci.map Instr.g).length:Nat):=x1;have:¬40 < w.most:=x2;omega)] at e;refine ⟨rfl,?_⟩;rw[hGC e,hGA e,e];exact Zbl (.inl rfl)
end ZN
namespace Barb
open Go Go.Dm Go.Eng ZN
def ZcX:List Fun->List Int->List Entry
 | f :: l,a :: m=>if f.isOpen then ⟨a,f.params.length⟩ :: ZcX l m else ZcX l m
 | _,_=>[]
def Zaj (p:List Unit) (k:Nat):Int:=Zai (p.take k)
noncomputable def ZlG (p:List Unit) (k:Nat):Part:=⟨Zkc p k (Zaj p k),ZcX (p.getD k noU).funcs (Zim p k (Zaj p k)),Zaj p k,Zaj p (k+1)⟩
noncomputable def Zb1 (p:List Unit) (k:Nat):List Part:=(List.range k).map (ZlG p)
noncomputable def Zjw (p:List Unit):Int:=Zah (λk=>Zil p (k:Nat) (Zaj p k)) (List.range p.length)
noncomputable def ZfU (p:List Unit):Int:=if Zbd p≠0 then Zbd p else Zjw (Zaz p)
noncomputable def Ze0 (p:List Unit):Zaf:=if ZfU p=0 then Zb1 (Zaz p) p.length else []
theorem ZeS {p:List Unit} {k:Nat} (h:k < p.length):Zaj p (k+1)=Zaj p k+Zap p[k]:=by unfold Zaj Zai;rw[Zay h,Yai,Ybq];simp
theorem Zo3 (p:List Unit) (k:Nat):Zb1 p (k+1)=Zb1 p k++[ZlG p k]:=by unfold Zb1;rw[Ycl,Yai];rfl
theorem ZnN:∀(l:List Fun) (m:List Int) (j:Nat) (hj:j < l.length) (hm:j < m.length),ZcX (l.take (j+1)) m=ZcX (l.take j) m++if l[j].isOpen then [⟨m[j],l[j].params.length⟩] else []
 | f :: l,a :: m,0,_,_=>by simp[ZcX]
 | f :: l,a :: m,j+1,hj,hm=>by
  have:=ZnN l m j (by simpa using hj) (by simpa using hm);simp only[List.take_succ_cons,ZcX,List.getElem_cons_succ];rw[this];split
  ·simp
  ·rfl
theorem ZjO:∀(l:List Fun) (m:List Int),(ZcX l m).length<=l.length
 | [],_=>by simp[ZcX]
 | _ :: _,[]=>by simp[ZcX]
 | f :: l,a :: m=>by
  have:=ZjO l m;simp only[ZcX];split
  ·simp only[List.length_cons];omega
  ·simp only[List.length_cons];omega
theorem Zwy {p:List Unit} {k:Nat} (hk:k < p.length) {base:Int} (h:Zil p k base=0):(Zim p k base).length=p[k].funcs.length:=by unfold Zim;rw[if_pos h,Int.toNat_natCast,show p.getD k noU=p[k] by simp[hk]];exact ZfO _ _ _ _ _
theorem Zf1 (p:List Unit) (h:∀u∈p,0<=Zap u) (k:Nat):0<=Zaj p k/\Zaj p k<=Zai p:=by
 have nn:∀l:List Unit,(∀u∈l,0<=Zap u)->0<=Zai l:=by
  intro l
  induction l with
  | nil=>intro _;simp[Zai]
  | cons u l ih =>intro h;have h1:=h u Yac;have h2:=ih (λv hv=>h v (Yad _ hv));unfold Zai at h2 ⊢;rw[Yar,List.sum_cons];omega
 have e:Zai p=Zai (p.take k)+Zai (p.drop k):=by unfold Zai;rw[<- Ybq,<- Yai,Ya4]
 have h1:=nn (p.take k) (λu hu=>h u (YaH hu));have h2:=nn (p.drop k) (λu hu=>h u (YaU hu));unfold Zaj;omega
theorem ZbU {u:Unit} (h:Zcg u=0):0<=Zap u/\Zap u<=40:=by obtain ⟨_,hv8,ha3,_,_,hAE,_⟩:=Zau h;have:=ZeC (l:=u.arrays) (λa ha=>(Zd6 (hAE a ha)).2);unfold Zap;omega
end Barb
namespace ZN
open Go Go.Dm Go.Eng Go.RowKit Barb
theorem Ztj {h:Zad} {p:List Barb.Unit} {e:Int} (he:ZfU p=e) (h0:e≠0):Zbk (Is (.tuple [.agg (ZlS (Ze0 p)),.g (.int (ZfU p))])) h (.tuple [.agg [.nils],.g (.int e)]):=by
 have:Ze0 p=[]:=by unfold Ze0;rw[if_neg (by rw[he];exact h0)]
 rw[this,he];exact Zbl (.inr (.inr ⟨.inr ⟨Zg0,trivial⟩,lk rfl,trivial⟩))
set_option maxRecDepth 20000 in
set_option maxHeartbeats 8000000 in
theorem Zjv (p:List Barb.Unit) (hp:Zj7 p) (hN:Zsu p):CT Tryz.prog gl 16 [.g (.sl 4 (p.map Unit.g))] (Is (.tuple [.agg (ZlS (Ze0 p)),.g (.int (ZfU p))])):=by
 have e:ZfU p=ZfU p:=rfl
 conv at e=>rhs;unfold ZfU
 refine enter hT hF hM Tryz.func16 rfl 86 rfl (by kernel_rfl) [.cell 2 28,.tmp 3] rfl [.g (.sl 4 (p.map Unit.g))] rfl _ ?_;refine Zae (.inl rfl) (ZjE p hp hN) ?_;refine ⟨λh=>⟨rfl,Ztj (by rw[e,if_pos h]) h⟩,λh=>?_⟩;have hgood:Zbd p=0:=by omega
 rw[if_neg (λh'=>h' hgood)] at e;have hV:ZrZ p=Zaz p:=by unfold ZrZ;rw[if_pos hgood]
 rw[hV];obtain ⟨hg,hf⟩:=ZhJ hgood hN;have hI:=Zjo hg hf;have hql:=ZcL p;have hEnd:ZfU p=0->Ze0 p=Zb1 (Zaz p) (Zaz p).length:=λh0=>by unfold Ze0;rw[if_pos h0,hql]
 generalize Zaz p=q at *;clear hV;have lq:(q.map Unit.g).length=q.length:=Yab _;obtain ⟨hp5,hUE,hpw,_⟩:=Za5 hg;have hbase:=Zf1 q (λu hu=>(ZbU (hUE u hu)).1);refine ZaL (ι:=Nat) (λk=>[(2,.ptr 0 0),(4,.g (.sl 4 (q.map Unit.g))),(6,.ptr 1 0),(7,.g (.int (Zaj q k))),(26,.g (.sl 4 (q.map Unit.g))),(27,.g (.int (q.map Unit.g).length)),(28,.g (.int (k:Int)))])
  (λk=>[.blk [.nils] 28,.blk [.row 2] 28,.row ((Zb1 q k).map Part.g) 79 4])
  (λk=>k<=q.length/\∀i,i < k->Zil q (i:Nat) (Zaj q i)=0) (λk=>q.length - k)
  ⟨0,[.old 0,.old 1,.nil 79 4],⟨rfl,.inr ⟨⟨rfl,.inl rfl⟩,⟨rfl,.inr ⟨.inr rfl,trivial⟩⟩,⟨rfl,rfl,rfl⟩,trivial⟩,.inr ⟨lk rfl,lk rfl,lk rfl,lkI (by simp[Zaj,Zai]),lk rfl,lk rfl,lk rfl,trivial⟩,rfl⟩,Yau _,λi hi=>absurd hi (by omega)⟩ ?_
 rintro Rd hRd k ⟨hk,hdone⟩;refine ⟨λc1=>?_,λc1=>?_⟩
 rotate_left
 ·have hke:k=q.length:=by have:¬(k:Int) < ((q.map Unit.g).length:Nat):=c1;omega
  have h0:ZfU p=0:=by rw[e];exact Zal (λi hi=>hdone i (by rw[YaZ] at hi;omega))
  rw[hEnd h0,h0,hke];exact ⟨rfl,Zbl (.inl rfl)⟩
 have hkl:k < q.length:=by have:(k:Int) < ((q.map Unit.g).length:Nat):=c1;omega
 have hmem:q[k]∈q:=Yah hkl;have hqd:q.getD k noU=q[k]:=by simp[hkl]
 obtain ⟨_,hv8,ha3,hf8,_,hAE,hFE⟩:=Zau (hUE _ hmem);have hsz:∀a∈q[k].arrays,1<=a.size/\a.size<=10:=λa ha=>(Zd6 (hAE a ha)).2;have hw:=ZbU (hUE _ hmem);have hbk:=hbase k;have hgen:=ZpB q hI hf k (Zaj q k) (by omega);have hgl:Zil q k (Zaj q k)=0->(Zim q k (Zaj q k)).length=q[k].funcs.length:=λh=>Zwy hkl h;have hnb:=ZeS hkl;have hnp:=Zo3 q k;have hlp:ZlG q k=⟨Zkc q k (Zaj q k),ZcX q[k].funcs (Zim q k (Zaj q k)),Zaj q k,Zaj q (k+1)⟩:=by unfold ZlG;rw[hqd]
 rw[hlp] at hnp;have hbad:Zil q k (Zaj q k)≠0->ZfU p=Zil q k (Zaj q k):=λh=>by
  rw[e];have hkr:k < (List.range q.length).length:=by rw[Ycu];exact hkl
  have:=ZaV (f:=λk=>Zil q (k:Nat) (Zaj q k)) hkr (λj hj hjk=>by rw[Ycp];exact hdone j hjk) (by rw[Ycp];exact h);rw[Ycp] at this;exact this
 have hplen:(Zb1 q k).length<=5:=by unfold Zb1;rw[Yab,Ycu];omega
 have hget:(q.map Unit.g)[k]?=some (Unit.g q[k]):=gm hkl;have hWd:=Zj6 q[k] hv8 hsz ha3;have hwrap:IntKind.i64.wrap (Zaj q k+Zap q[k])=Zaj q (k+1):=by rw[hnb];exact I64.wrap (by unfold I64;omega)
 generalize hb0:Zaj q k=b0 at *;generalize hb1:Zaj q (k+1)=b1 at *;generalize Zkc q k b0=code at *;generalize Zim q k b0=ats at *;generalize hge:Zil q k b0=ge at *;generalize Zb1 q k=ps at *;generalize q[k]=u at *;refine ⟨k,_,rfl,hget,?_⟩;refine Zae (.inl rfl) hgen ?_;refine ⟨λg1=>⟨rfl,Ztj (hbad g1) g1⟩,λg1=>?_⟩;have g0:ge=0:=by omega
 have hal:=hgl g0;refine Zae (.inl rfl) hWd ?_;refine ⟨_,hwrap,?_⟩;have lf:(u.funcs.map Fun.g).length=u.funcs.length:=Yab _;have la:(ats.map Zat).length=ats.length:=Yab _;refine ZaL (ι:=Nat) (λj=>[(2,.ptr 0 0),(4,.g (.sl 4 (q.map Unit.g))),(6,.ptr 1 0),(11,.g (.sl 1 (ats.map Zat))),(13,.ptr 4 0),(26,.g (.sl 4 (q.map Unit.g))),(27,.g (.int (q.map Unit.g).length)),(28,.g (.int (k:Int))),(53,.g (.sl 4 (u.funcs.map Fun.g))),(54,.g (.int (u.funcs.map Fun.g).length)),(55,.g (.int (j:Int)))])
  (λj=>[.blk [.nils] 28,.blk [.row 2] 28,.row (ps.map Part.g) 79 4,.blk u.d 44,.blk [.g (.sl 4 (code.map Instr.g)),.row 5,.g (.int b0),.g (.int b1)] 79,.row ((ZcX (u.funcs.take j) ats).map Entry.g) 81 2])
  (λj=>j<=u.funcs.length) (λj=>u.funcs.length - j)
  ⟨0,[.old 0,.old 1,.old 2,.old 3,.old 4,.nil 81 2],⟨rfl,.inr ⟨⟨rfl,.inl rfl⟩,⟨rfl,.inl rfl⟩,⟨rfl,rfl,rfl⟩,⟨rfl,.inl rfl⟩,⟨rfl,.inr ⟨lk rfl,.inr rfl,lk rfl,lk rfl,trivial⟩⟩,⟨(by rw[List.take_zero];rfl),rfl,rfl⟩,trivial⟩,.inr ⟨lk rfl,lk rfl,lk rfl,lk rfl,lk rfl,lk rfl,lk rfl,lk rfl,lk rfl,lk rfl,lk rfl,trivial⟩,rfl⟩,Yau _⟩ ?_
 intro Rj hRj j hj;have hel:=ZjO (u.funcs.take j) ats;rw[Yan] at hel;refine ⟨λd1=>?_,λd1=>?_⟩
 ·have hjl:j < u.funcs.length:=by have:(j:Int) < ((u.funcs.map Fun.g).length:Nat):=d1;omega
  have hja:j < ats.length:=by omega
  have hone:=ZnN u.funcs ats j hjl hja;generalize ZcX (u.funcs.take j) ats=es at *;cases hbo:u.funcs[j].isOpen with
  | true =>rw[hbo,if_pos rfl] at hone;refine ⟨j,_,rfl,(gm hjl).trans (congrArg some (Fun.g_open hbo)),?_⟩;refine ⟨some 2000,rfl,?_⟩;refine ⟨j,_,rfl,gm hja,?_⟩;refine ⟨[[.int ats[j],.int (u.funcs[j].params.map ZbP).length]],rfl,rfl,⟨rfl,rfl,trivial⟩,⟨_,rfl⟩,?_⟩;refine ⟨⟨by simp[maxLen];omega,by simp;omega⟩,?_⟩;refine ⟨_,I64.wrap (by unfold I64;omega),?_⟩;exact hRj _ _ _ ⟨j+1,[.old 0,.old 1,.old 2,.old 3,.old 4,.old 8],⟨rfl,.inr ⟨⟨rfl,.inl rfl⟩,⟨rfl,.inl rfl⟩,⟨rfl,rfl,rfl⟩,⟨rfl,.inl rfl⟩,⟨rfl,.inl rfl⟩,⟨(by rw[hone,Yai,Yab];rfl),rfl,rfl⟩,trivial⟩,.inr ⟨lk rfl,lk rfl,lk rfl,lk rfl,lk rfl,lk rfl,lk rfl,lk rfl,lk rfl,lk rfl,lkI (by push_cast;rfl),trivial⟩,rfl⟩,hjl,by show u.funcs.length - (j+1) < u.funcs.length - j;omega⟩
  | false =>rw[hbo,if_neg (by decide),YaF] at hone;refine ⟨j,_,rfl,(gm hjl).trans (congrArg some (Fun.g_open hbo)),?_⟩;refine ⟨_,I64.wrap (by unfold I64;omega),?_⟩;exact hRj _ _ _ ⟨j+1,[.old 0,.old 1,.old 2,.old 3,.old 4,.old 5],⟨rfl,.inr ⟨⟨rfl,.inl rfl⟩,⟨rfl,.inl rfl⟩,⟨rfl,rfl,rfl⟩,⟨rfl,.inl rfl⟩,⟨rfl,.inl rfl⟩,⟨(by rw[hone]),rfl,rfl⟩,trivial⟩,.inr ⟨lk rfl,lk rfl,lk rfl,lk rfl,lk rfl,lk rfl,lk rfl,lk rfl,lk rfl,lk rfl,lkI (by push_cast;rfl),trivial⟩,rfl⟩,hjl,by show u.funcs.length - (j+1) < u.funcs.length - j;omega⟩
 ·have hje:j=u.funcs.length:=by have:¬(j:Int) < ((u.funcs.map Fun.g).length:Nat):=d1;omega
  subst hje;rw[YaE] at *;refine ⟨[[.sl 4 (code.map Instr.g),.sl 2 ((ZcX u.funcs ats).map Entry.g),.int b0,.int b1]],rfl,rfl,⟨rfl,Zbr rfl rfl,rfl,rfl,trivial⟩,?_⟩;refine ⟨⟨by simp[maxLen];omega,by simp;omega⟩,?_⟩;refine ⟨_,I64.wrap (by unfold I64;omega),?_⟩;refine hRd _ _ _ ⟨k+1,[.old 0,.old 1,.old 7],⟨rfl,.inr ⟨⟨rfl,.inl rfl⟩,⟨rfl,.inl rfl⟩,⟨(by rw[hnp,Yai];rfl),rfl,rfl⟩,trivial⟩,.inr ⟨lk rfl,lk rfl,lk rfl,lkI hb1.symm,lk rfl,lk rfl,lkI (by push_cast;rfl),trivial⟩,rfl⟩,⟨hkl,λi hi=>?_⟩,by show q.length - (k+1) < q.length - k;omega⟩;rcases Nat.lt_succ_iff_lt_or_eq.1 hi with h | rfl
  ·exact hdone i h
  ·rw[hb0,hge];exact g0
end ZN
namespace Barb
open Go Go.Dm Go.Eng
def Zao (m:List Part):Int:=ZcK m m.length
def ZeZ (n:Int):Prop:=0<=n/\n<=65535
instance (n:Int):Decidable (ZeZ n):=by unfold ZeZ;infer_instance
def Zmy (n:Int):Int:=if ZeZ n then 0 else 2
def Zki (m:List Part) (d:List Int):Int:=if Zg5 m≠0 then Zg5 m else if ¬((d.length:Int)=Zao m) then 4 else Zah Zmy d
theorem Zsx {d:List Int} (h:∃n∈d,¬ZeZ n):Zah Zmy d=2:=by
 induction d with
 | nil=>obtain ⟨n,hn,_⟩:=h;simp at hn
 | cons x d ih =>
  simp only[Zah];by_cases hx:ZeZ x
  ·have hz:Zmy x=0:=by unfold Zmy;rw[if_pos hx]
   rw[if_pos hz];refine ih ?_;obtain ⟨n,hn,hw⟩:=h;rcases Yav.1 hn with rfl | hn
   ·exact absurd hx hw
   ·exact ⟨n,hn,hw⟩
  ·have hz:Zmy x=2:=by unfold Zmy;rw[if_neg hx]
   rw[if_neg (by rw[hz];decide),hz]
theorem Zkn {d:List Int} (h:∀n∈d,ZeZ n):Zah Zmy d=0:=Zal (λx hx=>by unfold Zmy;rw[if_pos (h x hx)])
end Barb
namespace ZN
open Go Go.Dm Go.Eng Barb
theorem Zig (m:Zaf) (hm:Zaf.I m):CT Tryz.prog gl 31 [.agg (ZlS m)] (Is (.g (.int (Zao m)))):=by
 have lm:(m.map Part.g).length=m.length:=by simp
 have hl:=hm.2;refine enter hT hF hM Tryz.func31 rfl 16 rfl (by kernel_rfl) [.tmp 2] rfl [.agg (ZlS m)] rfl _ ?_;refine ⟨λh=>⟨rfl,ZbQ (by unfold Zao;rw[show m.length=0 by omega];rfl)⟩,λh=>?_⟩;obtain ⟨k,hk⟩:∃k,m.length=k+1:=⟨m.length - 1,by omega⟩;have hkl:k < m.length:=by omega
 refine ⟨by unfold I64;omega,k,_,(show D.g (.int (((m.map Part.g).length:Int) - 1))=D.g (.int (k:Int)) by rw[lm,hk];simp),gm hkl,rfl,ZbQ ?_⟩;unfold Zao;rw[hk,ZbM hkl]
def ZyK (n:Int):Prop:=¬ZeZ n
theorem Zv9 (n:Int):CT Tryz.prog gl 49 [.g (.int n)] (Is (.pb (ZyK n))):=by refine enter hT hF hM Tryz.func49 rfl 6 rfl (by kernel_rfl) [.tmp 2] rfl [.g (.int n)] rfl _ ?_;exact Zae (.inl rfl) (Zlb n) ⟨rfl,Zyz Ybg⟩
theorem Zwn (l:List Int) (hl:l.length<=9223372036854775807):CT Tryz.prog gl 50 [.g (.sl 1 (l.map Zat)),.fn 49 [] []] (Is (.g (.int (idx ZyK l)))):=by
 have ll:(l.map Zat).length=l.length:=by simp
 refine enter hT hF hM Tryz.func50 rfl 19 rfl (by kernel_rfl) [.tmp 4] rfl [.g (.sl 1 (l.map Zat)),.fn 49 [] []] rfl _ ?_;refine ZaL (ι:=Nat) (λi=>[(8,.g (.int (i:Int)))]) (λ_=>[]) (λi=>i<=l.length/\∀j (hj:j < l.length),j < i->¬ZyK l[j]) (λi=>l.length - i)
  ⟨0,[],⟨rfl,.inl rfl,.inr ⟨lk rfl,trivial⟩,rfl⟩,Yau _,Zhg⟩ ?_
 intro Rd hRd i ⟨hi,ha⟩;refine ⟨λh=>?_,λh=>?_⟩
 ·have h1:i < l.length:=by omega
  refine ⟨i,_,rfl,gm h1,?_⟩;refine Zae (.inl rfl) (Zv9 l[i]) ?_;refine ⟨λh2=>⟨rfl,ZbQ (Zf6 h1 ha h2).symm⟩,λh2=>⟨_,I64.wrap (by unfold I64;omega),?_⟩⟩;exact hRd _ _ _ ⟨i+1,[],⟨rfl,.inl rfl,.inr ⟨lk rfl,trivial⟩,rfl⟩,⟨h1,ZcS h1 ha h2⟩,by omega⟩
 ·exact ⟨rfl,ZbQ (Zf5 (Zdw (by omega) ha)).symm⟩
theorem Zwt (l:List Int) (hl:l.length<=9223372036854775807):CT Tryz.prog gl 26 [.g (.sl 1 (l.map Zat)),.fn 49 [] []] (Is (.pb (∃n∈l,¬ZeZ n))):=by
 refine enter hT hF hM Tryz.func26 rfl 9 rfl (by kernel_rfl) [.tmp 4] rfl [.g (.sl 1 (l.map Zat)),.fn 49 [] []] rfl _ ?_;refine Zae (.inl rfl) (Zwn l hl) ⟨rfl,ZmY ?_⟩;rcases Zbx ZyK l with ⟨h1,h2⟩ | ⟨i,hi,h1,h2,h3⟩
 ·rw[h1];exact ⟨λh=>absurd h (by decide),λ⟨c,hc,ho⟩=>absurd ho (h2 c hc)⟩
 ·rw[h1];exact ⟨λ_=>⟨l[i],Yah _,h2⟩,λ_=>by omega⟩
theorem Zmo (m:Zaf) (hm:Zaf.I m) (d:List Int) (hd:d.length*8<=140737488351232):CT Tryz.prog gl 25 [.agg (ZlS m),.g (.sl 1 (d.map Zat))] (Is (.g (.int (Zki m d)))):=by
 have ld:(d.map Zat).length=d.length:=by simp
 have e:Zki m d=Zki m d:=rfl
 conv at e=>rhs;unfold Zki
 refine enter hT hF hM Tryz.func25 rfl 18 rfl (by kernel_rfl) [.tmp 4] rfl [.agg (ZlS m),.g (.sl 1 (d.map Zat))] rfl _ ?_;refine Zae (.inl rfl) (Zoj m hm) ⟨λh=>⟨rfl,ZbQ (by rw[e,if_pos h])⟩,λh=>?_⟩;rw[if_neg (λh'=>h' h)] at e;refine Zae (.inl rfl) (Zig m hm) ⟨λh=>⟨rfl,ZbQ (by rw[e,if_pos (by rw[<- ld];exact h)])⟩,λh=>?_⟩;rw[if_neg (by rw[<- ld];exact λh'=>h' h)] at e;refine Zae (.inl rfl) (Zwt d (by omega)) ⟨λh=>⟨rfl,ZbQ (by rw[e,Zsx h])⟩,λh=>⟨rfl,ZbQ (by rw[e,Zkn (λn hn=>Yam.1 (λhw=>h ⟨n,hn,hw⟩))])⟩⟩
end ZN
namespace Barb
open Go Go.Dm Go.Eng
theorem Zxy {m:List Part} (h:Zg5 m=0):∀i (hi:i < m.length),m[i].lo=ZcK m i/\m[i].lo<=m[i].hi/\m[i].hi<=250:=by
 intro i hi;unfold Zg5 at h;by_cases h5:5 < m.length
 ·rw[if_pos h5] at h;omega
 ·rw[if_neg h5] at h;have hF:=ZeM h i hi;rw[Zgl hi] at hF;unfold Zik at hF;by_cases h1:1200 < m[i].code.length\/8 < m[i].entries.length
  ·rw[if_pos h1] at hF;omega
  ·rw[if_neg h1] at hF;by_cases h2:Zah ZaM m[i].code≠0
   ·rw[if_pos h2] at hF;exact absurd hF h2
   ·rw[if_neg h2] at hF;by_cases h3:Zah (Zr8 m[i].code.length) m[i].entries≠0
    ·rw[if_pos h3] at hF;exact absurd hF h3
    ·rw[if_neg h3] at hF;by_cases h4:¬m[i].lo=ZcK m i\/m[i].hi < m[i].lo\/250 < m[i].hi
     ·rw[if_pos h4] at hF;omega
     ·omega
theorem ZjB {m:List Part} (h:Zg5 m=0):∀(k i:Nat),i+k<=m.length->ZcK m i<=ZcK m (i+k)
 | 0,i,_=>Ybo _
 | k+1,i,hk=>by
  have h1:=ZjB h k i (by omega);have hl:i+k < m.length:=by omega
  have h2:=Zxy h (i+k) hl;have h3:=ZbM hl;rw[show i+(k+1)=i+k+1 from by omega];omega
theorem ZAO {m:List Part} (h:Zg5 m=0) {i:Nat} (hi:i < m.length):0<=m[i].lo/\m[i].lo<=m[i].hi/\m[i].hi<=Zao m/\m[i].hi<=250:=by have h1:=Zxy h i hi;have h2:=ZjB h i 0 (by omega);have h3:=ZjB h (m.length - (i+1)) (i+1) (by omega);rw[show i+1+(m.length - (i+1))=m.length from by omega,ZbM hi] at h3;have h4:ZcK m 0=0:=rfl;rw[YaA] at h2;unfold Zao;omega
def partAt (m:List Part) (p:Int):Part:=m.getD p.toNat ⟨[],[],0,0⟩
theorem partAt_at {m:List Part} {k:Nat} (h:k < m.length):partAt m (k:Int)=m[k]:=by simp[partAt,h]
theorem ZwP {m:List Part} {d:List Int} (h:Zki m d=0):Zg5 m=0/\(d.length:Int)=Zao m:=by
 unfold Zki at h;by_cases h1:Zg5 m≠0
 ·rw[if_pos h1] at h;exact absurd h h1
 ·rw[if_neg h1] at h;by_cases h2:¬((d.length:Int)=Zao m)
  ·rw[if_pos h2] at h;omega
  ·exact ⟨Yam.1 h1,Yam.1 h2⟩
end Barb
namespace ZN
open Go Go.Dm Go.Eng Barb
end ZN
namespace Go.Dm
open Go Go.Eng Go.RowKit
theorem ZyS {C:Ctx} {h:Zad} {β:Nat->Value} {V:Nat->Prop} {w w':World} (hr:RelD C h β V w) (hf:Fr (λ_=>False) w w'):RelD C h β V w'/\ZaB V w V w':=by
 have hm:ZaB V w V w':=λk hk=>⟨hk,hf.block k (hr.vlt k hk) (λh=>h)⟩;refine ⟨⟨λi o hi=>?_,hr.sep,hr.mine,hr.vout,λk hk=>Ya2 (hr.vlt k hk) hf.size,hr.vin,hr.vnew,?_,hr.gl.move hm⟩,hm⟩
 ·cases hlv:o.live with
  | false=>cases o<;>simp_all [Obj.live,Zcb]
  | true=>exact (hr.obj i o hi).keep (LeH.refl h β) hm rfl (λk hk=>hf.block k (hr.lt hi hlv hk) (λh=>h))
 ·refine ⟨hf.os.trans hr.fr.os,hf.tape.trans hr.fr.tape,hf.output.trans hr.fr.output,YaB hr.fr.size hf.size,λk hk hn=>?_⟩;rw[hf.block k (Ya2 hk hr.fr.size) (λh=>h)];exact hr.fr.block k hk hn
end Go.Dm
namespace ZN
open Go Go.Dm Go.Eng Go.RowKit
end ZN
namespace Barb
open Go Go.Dm Go.Eng
structure Nt where
 by_:Int
 part:Int
 entry:Int
 args:List Int
 deep:Int
 done:Bool
 value:Int
def Nt.g (n:Nt):List GV:=[.int n.by_,.int n.part,.int n.entry,.sl 1 (n.args.map Zat),.int n.deep,.bool n.done,.int n.value]
structure PF where
 part:Int
 at_:Int
 locs:List Int
 ws:List Int
 noted:Int
structure Fr where
 f:PF
 v:Value
structure MO where
 told:List Int
 data:List Int
 calls:List Nt
def Fr.g (x:Fr):List GV:=.int x.f.part :: .int x.f.at_ :: (x.f.locs.map .int++[.raw x.v,.int x.f.noted])
def Fr.z (t:Nat) (x:Fr):Value × Ob0:=(x.v,.row (x.f.ws.map Zat) t 1)
def Fr.ww (x:Fr) (ws:List Int) (v:Value):Fr:=⟨{ x.f with ws:=ws },v⟩
def Fr.ok (x:Fr):Prop:=x.f.locs.length=8/\x.f.ws.length<=40
theorem Fr.g_at {x:Fr} (_hx:x.f.locs.length=8) {i:Nat} {n:Int} (hi:x.f.locs[i]?=some n):x.g[2+i]?=some (.int n):=by have hl:i < x.f.locs.length:=(Yaa.1 hi).1;unfold Fr.g;rw[show 2+i=i+1+1 from by omega,List.getElem?_cons_succ,List.getElem?_cons_succ,Yaj (by simpa using hl)];simp[hi]
theorem Fr.g_words {x:Fr} (hx:x.f.locs.length=8):x.g[10]?=some (.raw x.v):=by unfold Fr.g;rw[List.getElem?_cons_succ,List.getElem?_cons_succ,Yak (by simp[hx])];simp[hx]
theorem Fr.g_noted {x:Fr} (hx:x.f.locs.length=8):x.g[11]?=some (.int x.f.noted):=by unfold Fr.g;rw[List.getElem?_cons_succ,List.getElem?_cons_succ,Yak (by simp[hx])];simp[hx]
theorem Fr.g_len {x:Fr} (hx:x.f.locs.length=8):x.g.length=12:=by simp[Fr.g,hx]
theorem Fr.g_set_words {x:Fr} (hx:x.f.locs.length=8) (ws:List Int) (v:Value):Zdy x.g 10 [.raw v]=(x.ww ws v).g:=by simp only[Zdy,Fr.ww,Fr.g,List.set_cons_succ];rw[YbK _ _ (by simp[hx])];simp[hx]
theorem Fr.g_set_at {x:Fr} (n:Int):Zdy x.g 1 [.int n]=(Fr.mk { x.f with at_:=n } x.v).g:=rfl
theorem Fr.g_set_loc {x:Fr} (hx:x.f.locs.length=8) {i:Nat} (hi:i < 8) (n:Int):Zdy x.g (2+i) [.int n]=(Fr.mk { x.f with locs:=x.f.locs.set i n } x.v).g:=by simp only[Zdy,Fr.g];rw[show 2+i=i+1+1 from by omega,List.set_cons_succ,List.set_cons_succ,YbR _ _ (by simp[hx];exact hi),Yb7]
theorem ZfD {α β:Type} (f:α->β) (pre:List α) (t:α) (y:β) (t':α) (h:f t'=y):((pre++[t]).map f).set pre.length y=(pre++[t']).map f:=by subst h;simp
theorem Zbb {α β:Type} (f:α->β) (pre:List α) (t:α):((pre++[t]).map f)[pre.length]?=some (f t):=by simp
structure Ns where
 d:Value
 t:Value
 c:Value
 f:Value
abbrev Ns.withF (N:Ns) (f:Value):Ns:=⟨N.d,N.t,N.c,f⟩
end Barb
namespace ZN
open Go Go.Dm Go.Eng Go.RowKit Barb
abbrev fz:Fr->Value × Ob0:=Fr.z 3
abbrev MT (N:Ns):List (Value × Nat):=[(N.d,2),(N.t,3),(N.c,4),(N.f,5)]
abbrev ns5 (N:Ns):List (Option Value):=[none,some N.d,some N.t,some N.c,some N.f]
abbrev ns4 (N:Ns):List (Option Value):=[none,some N.d,some N.t,some N.c]
abbrev Zb9 (a b c d e f:Nat):List Src:=[.old a,.old b,.old c,.old d,.old e,.old f]
theorem ZpR {α:Type} (l:List α) (x y:α):(l++[x]).length=(l++[y]).length:=by simp
end ZN
namespace Barb
open Go Go.Dm Go.Eng
def p8 (l:List Int):List Int:=[l.getD 0 0,l.getD 1 0,l.getD 2 0,l.getD 3 0,l.getD 4 0,l.getD 5 0,l.getD 6 0,l.getD 7 0]
theorem Zxs (l:List Int) (a b c d:D):Zdy [a,b,.g (.int 0),.g (.int 0),.g (.int 0),.g (.int 0),.g (.int 0),.g (.int 0),.g (.int 0),.g (.int 0),c,d] 2 ((((l.map Zat).take 8).flatten).map .g) =
  [a,b,.g (.int (l.getD 0 0)),.g (.int (l.getD 1 0)),.g (.int (l.getD 2 0)),.g (.int (l.getD 3 0)),.g (.int (l.getD 4 0)),.g (.int (l.getD 5 0)),.g (.int (l.getD 6 0)),.g (.int (l.getD 7 0)),c,d]:=by
 match l with
 | []=>rfl
 | [_]=>rfl
 | [_,_]=>rfl
 | [_,_,_]=>rfl
 | [_,_,_,_]=>rfl
 | [_,_,_,_,_]=>rfl
 | [_,_,_,_,_,_]=>rfl
 | [_,_,_,_,_,_,_]=>rfl
 | _ :: _ :: _ :: _ :: _ :: _ :: _ :: _ :: _=>rfl
theorem Zyk (h:Zad):∀gs:List GV,ZgC h (gs.map .g) gs
 | []=>trivial
 | _ :: gs=>⟨rfl,Zyk h gs⟩
def ZfX (p:Part) (at_:Int):Prop:=p.lo<=at_/\at_ < p.hi
instance (p:Part) (at_:Int):Decidable (ZfX p at_):=by unfold ZfX;infer_instance
def Znd (part at_ noted:Int) (args:List Int):Fr:=⟨⟨part,at_,p8 args,[],noted⟩,.slice none 0 0⟩
end Barb
namespace ZN
open Go Go.Dm Go.Eng Go.RowKit Barb
end ZN
namespace Barb
open Go Go.Dm Go.Eng ZN
inductive R where
 | go (o:MO) (fs:List PF)
 | stop (c v:Int) (o:MO)
def PF.ww (t:PF) (ws:List Int):PF:={ t with ws:=ws }
def ZcV (o:MO) (pre:List PF) (t:PF) (n:Int):R:=if t.ws.length=40 then .stop 4 0 o else .go o (pre++[t.ww (t.ws++[n])])
def PF.off (t:PF) (n:Nat):List Int:=t.ws.drop (t.ws.length - n)
def PF.on (t:PF) (n:Nat):PF:=t.ww (t.ws.take (t.ws.length - n))
def Zcz (o:MO) (fs:List PF) (part at_ noted:Int) (args:List Int):R:=if fs.length=20 then .stop 5 0 o else .go o (fs++[⟨part,at_,p8 args,[],noted⟩])
def Zmu (p:Part) (i:Instr) (o:MO) (pre:List PF) (t:PF):R :=
 if i.op=6 then
  if t.ws.length < 1 then .stop 4 0 o else
  if ZfX p ((t.off 1).getD 0 0) then .go o (pre++[t.ww ((t.on 1).ws++[o.data.getD ((t.off 1).getD 0 0).toNat 0])]) else .stop 4 0 o
 else
  if t.ws.length < 2 then .stop 4 0 o else
  if ZfX p ((t.off 2).getD 0 0) then .go { o with data:=o.data.set ((t.off 2).getD 0 0).toNat ((t.off 2).getD 1 0) } (pre++[t.on 2]) else .stop 4 0 o
def Zas:Part:=⟨[],[],0,0⟩
def ZbJ:Entry:=⟨0,0⟩
def Zcp:Instr:=⟨0,0,0,0⟩
def ZcJ (m:Zaf) (i:Instr):Prop:=i.a >= m.length\/i.b >= (m.getD i.a.toNat Zas).entries.length\/((m.getD i.a.toNat Zas).entries.getD i.b.toNat ZbJ).params≠i.c
instance (m:Zaf) (i:Instr):Decidable (ZcJ m i):=by unfold ZcJ;infer_instance
def Zgo (m:Zaf) (i:Instr) (o:MO) (pre:List PF) (t:PF):R :=
 if t.ws.length < i.c.toNat then .stop 4 0 o else if ZcJ m i then .stop 4 0 o else
 let e:=(m.getD i.a.toNat Zas).entries.getD i.b.toNat ZbJ
 let l:=t.off i.c.toNat
 if o.calls.length < 100 then Zcz { o with calls:=o.calls++[⟨t.part,i.a,i.b,l,(pre.length+1:Nat),false,0⟩] } (pre++[t.on i.c.toNat]) i.a e.at_ o.calls.length l
 else Zcz o (pre++[t.on i.c.toNat]) i.a e.at_ (-1) l
def Nt.fin (n:Nt) (v:Int):Nt:={ n with done:=true,value:=v }
def Zbe (o:MO) (k:Int) (v:Int):MO:=if 0<=k then { o with calls:=o.calls.modify k.toNat (·.fin v) } else o
def retS (o:MO) (pre:List PF) (t:PF):R :=
 if t.ws.length < 1 then .stop 4 0 o else
 let v:=(t.off 1).getD 0 0
 match pre.getLast? with
 | none=>.stop 1 v (Zbe o t.noted v)
 | some f=>ZcV (Zbe o t.noted v) pre.dropLast f v
def Zhk (m:Zaf) (i:Instr) (o:MO) (pre:List PF) (t:PF):R :=
 if i.op=9 then .go o (pre++[{ t with at_:=i.a }])
 else if i.op=10 then if t.ws.length < 1 then .stop 4 0 o else .go o (pre++[if (t.off 1).getD 0 0=0 then { t.on 1 with at_:=i.a } else t.on 1])
 else if i.op=11 then if t.ws.length < i.b.toNat then .stop 4 0 o else Zcz o (pre++[t.on i.b.toNat]) t.part i.a (-1) (t.off i.b.toNat)
 else if i.op=12 then Zgo m i o pre t
 else if i.op=13 then retS o pre t
 else .stop 2 0 o
def Zis (i:Instr) (o:MO) (pre:List PF) (t:PF):R :=
 if i.op=1 then ZcV o pre t i.a
 else if i.op=4 then ZcV o pre t (t.locs.getD i.a.toNat 0)
 else
  let n:Nat:=if i.op=8 then 2 else 1
  if t.ws.length < n then .stop 4 0 o else
  let x:=(t.off n).getD 0 0
  if i.op=3 then if t.ws.length=40 then .stop 4 0 o else .go o (pre++[t.ww (t.ws++[x])])
  else if i.op=5 then .go o (pre++[{ t.on 1 with locs:=t.locs.set i.a.toNat x }])
  else if i.op=14 then if o.told.length=500 then .stop 6 0 o else .go { o with told:=o.told++[x] } (pre++[t.on 1])
  else if i.op=8 then .go o (pre++[t.ww ((t.on 2).ws++[doI i.a x ((t.off 2).getD 1 0)])])
  else .go o (pre++[t.on 1])
def stepS (m:Zaf) (o:MO) (pre:List PF) (t:PF):R :=
 let p:=m.getD t.part.toNat Zas
 if t.at_ >= p.code.length then .stop 4 0 o else
 let i:=p.code.getD t.at_.toNat Zcp
 let t:={ t with at_:=t.at_+1 }
 if i.op=6\/i.op=7 then Zmu p i o pre t
 else if i.op=9\/i.op=10\/i.op=11\/i.op=12\/i.op=13\/i.op=15 then Zhk m i o pre t
 else Zis i o pre t
structure PF.ok (m:Zaf) (calls:List Nt) (t:PF):Prop where
 part:∃k:Nat,t.part=(k:Int)/\k < m.length
 at0:0<=t.at_
 at1:t.at_<=2000
 locs:t.locs.length=8
 ws:t.ws.length<=40
 noted:t.noted < calls.length
structure SOk (m:Zaf) (o:MO) (fs:List PF):Prop where
 img:Zg5 m=0
 data:(o.data.length:Int)=Zao m
 told:o.told.length<=500
 calls:o.calls.length<=100
 deep:fs.length<=20
 frs:∀f∈fs,f.ok m o.calls
end Barb
namespace Barb
open Go Go.Dm Go.Eng
theorem Zqm {m:List Part} {d:List Int} (hi:Zg5 m=0) (hd:(d.length:Int)=Zao m) {k:Nat} (hk:k < m.length) {a:Int} (ho:ZfX m[k] a):∃n:Nat,a=(n:Int)/\n < d.length:=by obtain ⟨h1,h2,h3,h4⟩:=ZAO hi hk;obtain ⟨h5,h6⟩:=ho;exact ⟨a.toNat,by omega,by omega⟩
theorem ZhB {ws:List Int} {k:Nat} (h:ws.length=k+1):∃x,ws.drop k=[x]/\ws=ws.take k++[x]:=by
 have h1:(ws.drop k).length=1:=by simp[h]
 match hd:ws.drop k,h1 with
 | [x],_=>exact ⟨x,rfl,by rw[<- hd,Ya4]⟩
theorem ZoW {ws:List Int} {k:Nat} (h:ws.length=k+2):∃x y,ws.drop k=[x,y]/\ws=ws.take k++[x,y]:=by
 have h1:(ws.drop k).length=2:=by simp[h]
 match hd:ws.drop k,h1 with
 | [x,y],_=>exact ⟨x,y,rfl,by rw[<- hd,Ya4]⟩
end Barb
namespace ZN
open Go Go.Dm Go.Eng Go.RowKit Barb
theorem ZgP (b:Nat) (f:Nat->Nat) (h':Zad):∀(r:Zad) (p:Nat),Zlu [.old 0,.old 1,.old 2,.old 3,.old 4,.old 5] b f h' (p+6) r=r
 | [],_=>rfl
 | x :: r,p=>by
  simp only[Zlu];rw[show p+6+1=p+1+6 from by omega,ZgP b f h' r (p+1)]
  congr 1
end ZN
namespace Barb
open Go Go.Dm Go.Eng ZN
theorem ZdM {x:Instr} (h:ZaM x=0):1<=x.op/\x.op<=15/\0<=x.a/\x.a<=bdA x.op/\0<=x.b/\x.b<=bdB x.op/\0<=x.c/\x.c<=bdC x.op/\(x.op=8->1<=x.a):=by
 unfold ZaM at h;by_cases h1:¬(1<=x.op/\x.op<=15)
 ·rw[if_pos h1] at h;omega
 ·rw[if_neg h1] at h;by_cases h2:ZbK x
  ·rw[if_pos h2] at h;omega
  ·unfold ZbK at h2;omega
theorem Zgv {m:List Part} (h:Zg5 m=0) {k:Nat} (hk:k < m.length):m[k].code.length<=1200/\m[k].entries.length<=8/\(∀x∈m[k].code,ZaM x=0)/\(∀x∈m[k].entries,0<=x.at_/\x.at_ < m[k].code.length/\0<=x.params/\x.params<=4):=by
 unfold Zg5 at h;by_cases h5:5 < m.length
 ·rw[if_pos h5] at h;omega
 ·rw[if_neg h5] at h;have hF:=ZeM h k hk;rw[Zgl hk] at hF;unfold Zik at hF;by_cases h1:1200 < m[k].code.length\/8 < m[k].entries.length
  ·rw[if_pos h1] at hF;omega
  ·rw[if_neg h1] at hF;by_cases h2:Zah ZaM m[k].code≠0
   ·rw[if_pos h2] at hF;exact absurd hF h2
   ·rw[if_neg h2] at hF;by_cases h3:Zah (Zr8 m[k].code.length) m[k].entries≠0
    ·rw[if_pos h3] at hF;exact absurd hF h3
    ·refine ⟨by omega,by omega,Zak (Yam.1 h2),λx hx=>?_⟩;have he:=Zak (Yam.1 h3) x hx;unfold Zr8 at he;by_cases h4:Zf7 m[k].code.length x
     ·rw[if_pos h4] at he;omega
     ·unfold Zf7 at h4;omega
theorem PF.ok.more {m:Zaf} {c c':List Nt} {t:PF} (h:t.ok m c) (hc:c.length<=c'.length):t.ok m c':=⟨h.part,h.at0,h.at1,h.locs,h.ws,by have:=h.noted;omega⟩
theorem SOk.init {m:Zaf} {o:MO} {fs:List PF} {t:PF} (h:SOk m o (fs++[t])):t.ok m o.calls:=h.frs t (by simp)
theorem SOk.rest {m:Zaf} {o:MO} {fs:List PF} {t:PF} (h:SOk m o (fs++[t])):SOk m o fs:=⟨h.img,h.data,h.told,h.calls,by have:=h.deep;simp at this;omega,λf hf=>h.frs f (by simp[hf])⟩
theorem SOk.snoc {m:Zaf} {o o':MO} {fs:List PF} {t:PF} (h:SOk m o fs) (hd:o'.data.length=o.data.length) (ht:o'.told.length<=500) (hc:o.calls.length<=o'.calls.length) (hc':o'.calls.length<=100) (hf:fs.length < 20) (ok:t.ok m o'.calls):SOk m o' (fs++[t]) :=
 ⟨h.img,by rw[hd];exact h.data,ht,hc',by simp;omega,λf hf=>by
  rcases Yao.1 hf with hf | hf
  ·exact (h.frs f hf).more hc
  ·rcases Yay.1 hf with rfl;exact ok⟩
def ROk (m:Zaf):R->Prop
 | .go o fs=>SOk m o fs/\fs≠[]
 | .stop c _ _=>c≠0
theorem Zlv {m:Zaf} {o:MO} {pre:List PF} {t:PF} (h:SOk m o (pre++[t])) (n:Int):ROk m (ZcV o pre t n):=by
 unfold ZcV;have ht:=h.init;have hw:=ht.ws;have hl:=h.deep;simp only[Yae,List.length_singleton] at hl;split
 ·simp[ROk]
 ·refine ⟨h.rest.snoc rfl h.told (Yax _) h.calls (by omega) ⟨ht.part,ht.at0,ht.at1,ht.locs,?_,ht.noted⟩,by simp⟩;show (t.ws++[n]).length<=40;simp;omega
theorem ZjP {m:Zaf} {o:MO} {fs:List PF} (h:SOk m o fs) {part at_ noted:Int} {args:List Int} (hp:∃k:Nat,part=(k:Int)/\k < m.length) (ha:0<=at_/\at_<=2000) (hn:noted < o.calls.length):ROk m (Zcz o fs part at_ noted args):=by
 unfold Zcz;split
 ·simp[ROk]
 ·exact ⟨h.snoc rfl h.told (Yax _) h.calls (by have:=h.deep;omega) ⟨hp,ha.1,ha.2,rfl,Yau _,hn⟩,by simp⟩
theorem PF.ok.on {m:Zaf} {c:List Nt} {t:PF} (h:t.ok m c) (n:Nat):(t.on n).ok m c:=⟨h.part,h.at0,h.at1,h.locs,by have:=h.ws;simp[PF.on,PF.ww];omega,h.noted⟩
theorem PF.ok.at_ {m:Zaf} {c:List Nt} {t:PF} (h:t.ok m c) {n:Int} (h0:0<=n) (h1:n<=2000):PF.ok m c { t with at_:=n }:=⟨h.part,h0,h1,h.locs,h.ws,h.noted⟩
theorem SOk.top {m:Zaf} {o:MO} {fs:List PF} {t t':PF} (h:SOk m o (fs++[t])) (ok:t'.ok m o.calls):SOk m o (fs++[t']):=by have hl:=h.deep;simp only[Yae,List.length_singleton] at hl;exact h.rest.snoc rfl h.told (Yax _) h.calls (by omega) ok
theorem ZeB {α:Type} {l:List α} {x:α}:l++[x]≠[]:=by simp
theorem ZwA {m:Zaf} {i:Instr} {o:MO} {pre:List PF} {t:PF} (h:SOk m o (pre++[t])) (hi:ZaM i=0):ROk m (Zgo m i o pre t):=by
 unfold Zgo;obtain ⟨_,_,ha,_,hb,_,hc,_⟩:=ZdM hi;have hct:=h.calls;have hl:=h.deep;simp only[Yae,List.length_singleton] at hl;split
 ·simp[ROk]
 ·split
  ·simp[ROk]
  ·rename_i hg;unfold ZcJ at hg;obtain ⟨a,hae⟩:∃a:Nat,i.a=(a:Int):=⟨i.a.toNat,by omega⟩;obtain ⟨b,hbe⟩:∃b:Nat,i.b=(b:Int):=⟨i.b.toNat,by omega⟩;rw[hae,hbe] at hg ⊢;simp only[Int.toNat_natCast] at hg ⊢;have hal:a < m.length:=by omega
   have em:m.getD a Zas=m[a]:=by simp[hal]
   rw[em] at hg ⊢;have hbl:b < m[a].entries.length:=by omega
   have ee:m[a].entries.getD b ZbJ=m[a].entries[b]:=by simp[hbl]
   rw[ee];obtain ⟨hc1,_,_,hc4⟩:=Zgv h.img hal;have:=hc4 _ (Yah hbl);split
   ·refine ZjP ?_ ⟨a,rfl,hal⟩ ⟨by omega,by omega⟩ (by simp;omega);refine h.rest.snoc rfl h.told (by simp) (by simp;omega) (by omega) ((h.init.on _).more (by simp))
   ·exact ZjP (h.top (h.init.on _)) ⟨a,rfl,hal⟩ ⟨by omega,by omega⟩ (by omega)
theorem ZtN (o:MO) (k v:Int):(Zbe o k v).calls.length=o.calls.length/\(Zbe o k v).told=o.told/\(Zbe o k v).data=o.data:=by
 unfold Zbe;split
 ·exact ⟨Ycq _ _ _,rfl,rfl⟩
 ·exact ⟨rfl,rfl,rfl⟩
theorem Zyx {m:Zaf} {o:MO} {pre:List PF} {t:PF} (h:SOk m o (pre++[t])):ROk m (retS o pre t):=by
 unfold retS;split
 ·simp[ROk]
 ·split
  ·simp[ROk]
  ·rename_i f hf;obtain ⟨n1,n2,n3⟩:=ZtN o t.noted ((t.off 1).getD 0 0);refine Zlv ?_ _;rcases YbM pre with rfl | ⟨l,x,rfl⟩
   ·simp at hf
   ·rw[Ybt,Yb2,List.getLast?_singleton] at hf;simp at hf;subst hf;rw[Ybt] at h;have h2:=h.rest;rw[Ybt,Yb3];have hl:=h2.deep;simp only[Yae,List.length_singleton] at hl;exact h2.rest.snoc (by rw[n3]) (by rw[n2];exact h.told) (by omega) (by rw[n1];exact h.calls) (by omega) (h2.init.more (by omega))
theorem ZfC {m:Zaf} {o:MO} {pre:List PF} {t:PF} (h:SOk m o (pre++[t])):ROk m (stepS m o pre t):=by
 have ht:=h.init;obtain ⟨k,hk,hkl⟩:=ht.part;have em:m.getD t.part.toNat Zas=m[k]:=by rw[hk];simp[hkl]
 obtain ⟨hc1,hc2,hc3,hc4⟩:=Zgv h.img hkl;unfold stepS;simp only;rw[em];split
 ·simp[ROk]
 ·rename_i hlt;have h0:=ht.at0;obtain ⟨j,hj⟩:∃j:Nat,t.at_=(j:Int):=⟨t.at_.toNat,by omega⟩;have hjl:j < m[k].code.length:=by omega
  have ei:m[k].code.getD t.at_.toNat Zcp=m[k].code[j]:=by rw[hj];simp[hjl]
  rw[ei];have hi:=hc3 _ (Yah hjl);generalize m[k].code[j]=i at hi;have ht1:PF.ok m o.calls { t with at_:=t.at_+1 }:=ht.at_ (by omega) (by omega);have h1:SOk m o (pre++[{ t with at_:=t.at_+1 }]):=h.top ht1;generalize { t with at_:=t.at_+1 }=u at ht1 h1;obtain ⟨i1,i2,i3,i4,i5,i6,i7,i8,i9⟩:=ZdM hi;have hw:=ht1.ws;have hl:=h.deep;simp only[Yae,List.length_singleton] at hl;split
  ·unfold Zmu;split
   ·split
    ·simp[ROk]
    ·split
     ·refine ⟨h1.top ⟨ht1.part,ht1.at0,ht1.at1,ht1.locs,?_,ht1.noted⟩,ZeB⟩;simp[PF.ww,PF.on];omega
     ·simp[ROk]
   ·split
    ·simp[ROk]
    ·split
     ·exact ⟨h1.rest.snoc (by simp) h.told (Yax _) h.calls (by omega) (ht1.on 2),ZeB⟩
     ·simp[ROk]
  ·split
   ·unfold Zhk;split
    ·rename_i h9;refine ⟨h1.top (ht1.at_ i3 ?_),ZeB⟩;rw[h9] at i4;have:bdA 9=1199:=rfl;omega
    ·split
     ·rename_i h9;rw[h9] at i4;have:bdA 10=1199:=rfl;split
      ·simp[ROk]
      ·refine ⟨h1.top ?_,ZeB⟩;split
       ·exact (ht1.on 1).at_ i3 (by omega)
       ·exact ht1.on 1
     ·split
      ·rename_i h9;rw[h9] at i4;have:bdA 11=1199:=rfl;split
       ·simp[ROk]
       ·exact ZjP (h1.top (ht1.on _)) ht1.part ⟨i3,by omega⟩ (by omega)
      ·split
       ·exact ZwA h1 hi
       ·split
        ·exact Zyx h1
        ·simp[ROk]
   ·unfold Zis;split
    ·exact Zlv h1 _
    ·split
     ·exact Zlv h1 _
     ·dsimp only;generalize hn:(if i.op=8 then 2 else 1:Nat)=n;split
      ·simp[ROk]
      ·split
       ·split
        ·simp[ROk]
        ·refine ⟨h1.top ⟨ht1.part,ht1.at0,ht1.at1,ht1.locs,?_,ht1.noted⟩,ZeB⟩;simp[PF.ww];omega
       ·split
        ·exact ⟨h1.top ⟨ht1.part,ht1.at0,ht1.at1,by simp[ht1.locs],(ht1.on 1).ws,ht1.noted⟩,ZeB⟩
        ·split
         ·split
          ·simp[ROk]
          ·exact ⟨h1.rest.snoc rfl (by have:=h.told;simp;omega) (Yax _) h.calls (by omega) (ht1.on 1),ZeB⟩
         ·split
          ·refine ⟨h1.top ⟨ht1.part,ht1.at0,ht1.at1,ht1.locs,?_,ht1.noted⟩,ZeB⟩;rename_i h8;rw[if_pos h8] at hn;have:2<=u.ws.length:=by omega
           simp[PF.ww,PF.on];omega
          ·exact ⟨h1.top (ht1.on 1),ZeB⟩
end Barb
namespace Barb
open Go Go.Dm Go.Eng
theorem Fr.g_at2 {x:Fr} (hx:x.f.locs.length=8) {i:Nat} {n:Int} (hi:x.f.locs[i]?=some n):x.g[0+2+i*1]?=some (.int n):=by rw[show 0+2+i*1=2+i from by omega];exact Fr.g_at hx hi
theorem Fr.g_set_loc2 {x:Fr} (hx:x.f.locs.length=8) {i:Nat} (hi:i < 8) (n:Int):Zdy x.g (0+2+i*1) [.int n]=(Fr.mk { x.f with locs:=x.f.locs.set i n } x.v).g:=by rw[show 0+2+i*1=2+i from by omega];exact Fr.g_set_loc hx hi n
end Barb
namespace ZN
open Go Go.Dm Go.Eng Go.RowKit Barb
abbrev jx (b:Nat) (r:Zad) (i:Nat):Nat:=rnI [0,1,2,3,4,5] b (r.length+6) i
end ZN
namespace Barb
open Go Go.Dm Go.Eng
theorem Zpe {α:Type} {l:List α} {k:Nat} (h:k < l.length) (z:α):l.getD k z=l[k]:=by simp[h]
theorem ZtO {α:Type} {l:List α} {k:Nat} (h:k < l.length) (f:α->α):l.modify k f=l.set k (f l[k]):=by
 apply YbD;intro i;rw[Yby,YbP];by_cases e:k=i
 ·subst e;simp[h]
 ·simp[e]
end Barb
namespace ZN
open Go Go.Dm Go.Eng Go.RowKit Barb
end ZN
namespace Go.Dm
open Go Go.Eng Go.RowKit
def ZBE (src:List Src):Nat->Zad->Bool
 | _,[]=>true
 | i,o :: h=>(!o.live || (match kp src 0 i with | some _=>true | none=>false)) && ZBE src (i+1) h
def ZpW (src:List Src):Nat->Nat->Bool
 | _,0=>true
 | i,b+1=>(match src[i]? with | some (.old j)=>Nat.beq j i | _=>false) && ZpW src (i+1) b
theorem Zt2 {src:List Src}:∀{h:Zad} {p:Nat},ZBE src p h=true->∀(i:Nat) (o:Obj),h[i]?=some o->o.live=true->∃q,kp src 0 (p+i)=some q
 | [],p,_,i,o,hi,_=>by simp at hi
 | a :: h,p,hk,i,o,hi,hl=>by
  simp only[ZBE,Yaf,YaV,YaN] at hk;cases i with
  | zero =>
   simp at hi;subst hi;rcases hk.1 with h1 | h1
   ·rw[hl] at h1;cases h1
   ·cases hq:kp src 0 p with
    | none=>rw[hq] at h1;cases h1
    | some q=>exact ⟨q,rfl⟩
  | succ i =>obtain ⟨q,hq⟩:=Zt2 hk.2 i o (by simpa using hi) hl;exact ⟨q,by rw[show p+(i+1)=p+1+i from by omega];exact hq⟩
theorem ZmQ {src:List Src}:∀{b p:Nat},ZpW src p b=true->∀i,i < b->src[p+i]?=some (.old (p+i))
 | 0,p,_,i,hi=>absurd hi (YbA i)
 | b+1,p,hs,i,hi=>by
  simp only[ZpW,Yaf] at hs;cases i with
  | zero =>
   have h1:=hs.1;cases hp:src[p]? with
   | none=>rw[hp] at h1;cases h1
   | some s =>
    rw[hp] at h1;cases s with
    | old j=>exact (by rw[Yap h1]:some (Src.old j)=some (Src.old p))
    | nil e sz=>cases h1
    | many0=>cases h1
  | succ i =>have:=ZmQ hs.2 i (by omega);rwa [show p+1+i=p+(i+1) from by omega] at this
theorem RelD.wider {w0:World} {own own' V0:Nat->Prop} {G:Gl} {h:Zad} {β:Nat->Value} {V:Nat->Prop} {w:World} (hr:RelD ⟨w0,own,V0,G⟩ h β V w) (ho:∀k,own k->own' k):RelD ⟨w0,own',V0,G⟩ h β V w :=
 ⟨hr.obj,hr.sep,λi o k h1 h2 h3=>(hr.mine i o k h1 h2 h3).imp id (ho k),hr.vout,hr.vlt,hr.vin,λk hk=>(hr.vnew k hk).imp id (λh=>h.imp id (ho k)),
  ⟨hr.fr.os,hr.fr.tape,hr.fr.output,hr.fr.size,λk hk hn=>hr.fr.block k hk (λhw=>hn (ho k hw))⟩,hr.gl⟩
theorem ZwR {P:Program} {G:Gl} {g:FuncId} {b:Nat} {hin hin':Zad} {as1 as2:List D} {Q:Out->Prop} (src:List Src) (ht:TurnTo hin' src as2 hin as1) (hk:ZBE src 0 hin'=true) (hb:ZpW src 0 b=true) (h:CTH P G g b hin as1 Q):CTH P G g b hin' as2 Q:=by
 intro w β V vals hrel hargs;obtain ⟨h1,h2⟩:=ht.use hrel hargs;have hV:ZmD hin' src β V=V:=by
  funext k;apply propext;constructor
  ·rintro (hv | ⟨i,o,hn,hi,hl,_⟩)
   ·exact hv
   ·obtain ⟨q,hq⟩:=Zt2 hk i o hi hl;rw[YaA,hn] at hq;cases hq
  ·exact .inl
 rw[hV] at h1 h2;have hlike:Zj9 (Zjs src) (Zbu hin' src) hin:=by
  rcases ht.hp with e | e
  ·rw[<- e];exact Zc7 _ _
  ·exact e
 have hown:∀k,ZfS hin (Za4 src β) k->ZfS hin' β k:=by
  rintro k ⟨i,o,hi,hl,hbk⟩;obtain ⟨o0,ho0,hlo⟩:=(ZcH hlike).2 i o hi;have hl0:=Zc6 hlo hl;have hb0:=ZfJ hlo hl hbk;unfold Zbu at ho0;rw[YaC] at ho0;cases hs:src[i]? with
  | none=>rw[hs] at ho0;cases ho0
  | some s =>
   rw[hs] at ho0;simp only[Option.map_some,Ybj] at ho0;subst ho0;cases s with
   | nil e sz=>simp[Za7,Bk,Za4,hs,bk] at hb0
   | many0=>simp[Za7,Bk] at hb0
   | old j =>
    have hβ:Za4 src β i=β j:=by simp[Za4,hs]
    rw[hβ] at hb0;cases hj:hin'[j]? with
    | none=>simp[Za7,hj,Obj.live] at hl0
    | some oj =>
     cases oj with
     | dead=>simp[Za7,hj,Obj.live] at hl0
     | blk cs t=>exact ⟨j,_,hj,rfl,by simpa only[Za7,hj,Bk] using hb0⟩
     | row xs e sz=>exact ⟨j,_,hj,rfl,by simpa only[Za7,hj,Bk] using hb0⟩
     | many l ts=>exact ⟨j,_,hj,rfl,by simpa only[Za7,hj,Bk] using hb0⟩
 have stays:∀{h':Zad} {β':Nat->Value},(∀i,i < b->Zir hin h' (Za4 src β) β' i)->∀i,i < b->Zir hin' h' β β' i:=fun {h' β'} hs i hi=>by
  obtain ⟨⟨o,o',a1,a2,a3,a4⟩,a5⟩:=hs i hi;have hsi:=ZmQ hb i hi;rw[YaA] at hsi;obtain ⟨o0,ho0,hlo⟩:=(ZcH hlike).2 i o a1;have hl0:=Zc6 hlo (Zmm a3 a4);unfold Zbu at ho0;rw[YaC,hsi] at ho0;simp only[Option.map_some,Ybj] at ho0;subst ho0;cases hj:hin'[i]? with
  | none=>simp[Za7,hj,Obj.live] at hl0
  | some oj =>exact ⟨⟨oj,o',hj,a2,Zhj (Zre (src:=src) hj) (Zhj (ZlI hlo) a3 a4) a4,a4⟩,a5.trans (by simp[Za4,hsi])⟩
 refine (h w (Za4 src β) V vals (Zm9 h1) h2).mono λe w' he=>?_;cases e with
 | returned v =>obtain ⟨d,h',β',V',q1,q2,q3,q4⟩:=he;exact ⟨d,h',β',V',q1,q2.wider hown,q3,stays q4⟩
 | panicked ch =>obtain ⟨d,h',t,u,β',V',q0,q1,q2,q3,q4⟩:=he;exact ⟨d,h',t,u,β',V',q0,q1,q2.wider hown,q3,stays q4⟩
 | outgrown=>exact he.elim
end Go.Dm
namespace Barb
open Go Go.Dm Go.Eng
theorem Nt.g_fin (n:Nt) (v:Int):Zdy (Zdy n.g (0+5) [.bool true]) (0+6) [.int v]=(n.fin v).g:=rfl
theorem Zxu {o:MO} {k:Nat} (hk:k < o.calls.length) (v:Int):((o.calls.map Nt.g).set k (Zdy o.calls[k].g (0+5) [.bool true])).set k (Zdy (Zdy o.calls[k].g (0+5) [.bool true]) (0+6) [.int v])=(Zbe o (k:Int) v).calls.map Nt.g:=by rw[List.set_set,Nt.g_fin];unfold Zbe;rw[if_pos (by omega)];simp only[Int.toNat_natCast];rw[ZtO hk,Yb7]
theorem Zqb {o:MO} {k:Int} (hk:¬0<=k) (v:Int):Zbe o k v=o:=by unfold Zbe;rw[if_neg hk]
end Barb
namespace ZN
open Go Go.Dm Go.Eng Go.RowKit Barb
theorem Fr.ok_of {m:Zaf} {c:List Nt} {x:Fr} (h:x.f.ok m c):x.ok:=⟨h.locs,h.ws⟩
end ZN
namespace Barb
open Go Go.Dm Go.Eng
def Zcq (m:Zaf):Nat->MO->List PF->Int × Int × MO
 | 0,o,_=>(3,0,o)
 | n+1,o,fs=>match fs.getLast? with
  | none=>(0,0,o)
  | some t=>match Barb.stepS m o fs.dropLast t with
   | .go o' fs'=>Zcq m n o' fs'
   | .stop c v o'=>(c,v,o')
theorem Zcx (m:Zaf) (n:Nat) (o:MO) (fs:List PF) (t:PF):Zcq m (n+1) o (fs++[t])=match Barb.stepS m o fs t with
   | .go o' fs'=>Zcq m n o' fs'
   | .stop c v o'=>(c,v,o'):=by simp[Zcq]
def Zr9 (m:Zaf) (part entry:Int):Entry:=(Barb.partAt m part).entries.getD entry.toNat ZbJ
def Zte (m:Zaf) (d:List Int) (part entry:Int) (args:List Int) (fuel:Int):Int :=
 if Zki m d≠0 then Zki m d
 else if part < 0\/part >= m.length\/entry < 0\/entry >= (Barb.partAt m part).entries.length then 5
 else if (args.length:Int)≠(Zr9 m part entry).params then 7
 else if fuel < 0\/fuel > 100000\/∃n∈args,¬ZeZ n then 2 else 0
structure Outc where
 end_:Int
 value:Int
 told:List Int
 data:List Int
 calls:List Nt
abbrev Outc.d (o:Outc):List D:=[.g (.int o.end_),.g (.int o.value),.g (.sl 1 (o.told.map Zat)),.g (.sl 1 (o.data.map Zat)),.g (.sl 7 (o.calls.map Nt.g))]
def ZrD (x:Int × Int × MO):Outc:=⟨x.1,x.2.1,x.2.2.told,x.2.2.data,x.2.2.calls⟩
def ZvM (m:Zaf) (d:List Int) (part entry:Int) (args:List Int) (fuel:Int):Outc :=
 if Zte m d part entry args fuel=0 then ZrD (Zcq m fuel.toNat ⟨[],d,[]⟩ [⟨part,(Zr9 m part entry).at_,p8 args,[],-1⟩]) else ⟨0,0,[],[],[]⟩
theorem ZiF {m:Zaf} {d:List Int} {part entry:Int} {args:List Int} {fuel e:Int} (h:Zte m d part entry args fuel=e) (h0:e≠0):ZvM m d part entry args fuel=⟨0,0,[],[],[]⟩:=by unfold ZvM;rw[if_neg (by rw[h];exact h0)]
end Barb
namespace ZN
open Go Go.Dm Go.Eng Go.RowKit Barb
structure LS where
 e:Int
 val:Int
 o:MO
 gs:List Fr
 N:Ns
 n:Nat
def ZCL (m:Zaf) (F:Int × Int × MO) (i:LS):Prop:=i.n<=100000/\(i.e=0->i.val=0/\SOk m i.o (i.gs.map Fr.f)/\i.gs≠[]/\Zcq m i.n i.o (i.gs.map Fr.f)=F)/\(i.e≠0->F=(i.e,i.val,i.o))
theorem ZBA {h:Zad} {o:Outc} {e e':Int} (ho:o=⟨0,0,[],[],[]⟩) (he:e=e'):Zbk (Is (.tuple [.agg o.d,.g (.int e')])) h (.tuple [.agg [.g (.int 0),.g (.int 0),.nils,.nils,.nils],.g (.int e)]):=by subst ho;subst he;exact Zbl (.inr (.inr ⟨.inr ⟨lk rfl,lk rfl,Zg0,Zg0,Zg0,trivial⟩,lk rfl,trivial⟩))
end ZN
namespace Barb
open Go Go.Dm Go.Eng ZN
def ZoY (i:Instr):Int :=
 if i.op=2\/i.op=3\/i.op=5\/i.op=6\/i.op=10\/i.op=13\/i.op=14 then 1
 else if i.op=7\/i.op=8 then 2 else if i.op=11 then i.b else if i.op=12 then i.c else 0
def doS (m:Zaf) (p:Part) (i:Instr) (o:MO) (pre:List PF) (t:PF):R :=
 if i.op=6\/i.op=7 then Zmu p i o pre t
 else if i.op=9\/i.op=10\/i.op=11\/i.op=12\/i.op=13\/i.op=15 then Zhk m i o pre t
 else Zis i o pre t
theorem ZvC {m:Zaf} {o:MO} {pre:List PF} {t:PF} (h:t.at_ >= (m.getD t.part.toNat Zas).code.length):Barb.stepS m o pre t=.stop 4 0 o:=by unfold Barb.stepS;exact if_pos h
theorem Zs0 {m:Zaf} {o:MO} {pre:List PF} {t:PF} (h:¬t.at_ >= (m.getD t.part.toNat Zas).code.length) :
  Barb.stepS m o pre t=doS m (m.getD t.part.toNat Zas) ((m.getD t.part.toNat Zas).code.getD t.at_.toNat Zcp) o pre { t with at_:=t.at_+1 }:=by unfold Barb.stepS;exact if_neg h
theorem Zzl {m:Zaf} {p:Part} {i:Instr} {o:MO} {pre:List PF} {t:PF} (h1:1<=i.op/\i.op<=15) (hb:0<=i.b) (hc:0<=i.c) (h:(t.ws.length:Int) < ZoY i):doS m p i o pre t=.stop 4 0 o:=by
 obtain ⟨op,a,b,c⟩:=i;dsimp only at h1 hb hc;have:op=1\/op=2\/op=3\/op=4\/op=5\/op=6\/op=7\/op=8\/op=9\/op=10\/op=11\/op=12\/op=13\/op=14\/op=15:=by omega
 rcases this with rfl | rfl | rfl | rfl | rfl | rfl | rfl | rfl | rfl | rfl | rfl | rfl | rfl | rfl | rfl
 ·exact absurd h (by show ¬((t.ws.length:Int) < 0);omega)
 ·exact if_pos (show t.ws.length < 1 from by have:(t.ws.length:Int) < 1:=h;omega)
 ·exact if_pos (show t.ws.length < 1 from by have:(t.ws.length:Int) < 1:=h;omega)
 ·exact absurd h (by show ¬((t.ws.length:Int) < 0);omega)
 ·exact if_pos (show t.ws.length < 1 from by have:(t.ws.length:Int) < 1:=h;omega)
 ·exact if_pos (show t.ws.length < 1 from by have:(t.ws.length:Int) < 1:=h;omega)
 ·exact if_pos (show t.ws.length < 2 from by have:(t.ws.length:Int) < 2:=h;omega)
 ·exact if_pos (show t.ws.length < 2 from by have:(t.ws.length:Int) < 2:=h;omega)
 ·exact absurd h (by show ¬((t.ws.length:Int) < 0);omega)
 ·exact if_pos (show t.ws.length < 1 from by have:(t.ws.length:Int) < 1:=h;omega)
 ·exact if_pos (show t.ws.length < b.toNat from by have:(t.ws.length:Int) < b:=h;omega)
 ·exact if_pos (show t.ws.length < c.toNat from by have:(t.ws.length:Int) < c:=h;omega)
 ·exact if_pos (show t.ws.length < 1 from by have:(t.ws.length:Int) < 1:=h;omega)
 ·exact if_pos (show t.ws.length < 1 from by have:(t.ws.length:Int) < 1:=h;omega)
 ·exact absurd h (by show ¬((t.ws.length:Int) < 0);omega)
theorem Znb {t:PF} {k n:Nat} (h:t.ws.length=k+n):t.off n=t.ws.drop k:=by unfold PF.off;rw[show t.ws.length - n=k from by omega]
theorem Zv3 {t:PF} {k n:Nat} (h:t.ws.length=k+n):t.on n=t.ww (t.ws.take k):=by unfold PF.on;rw[show t.ws.length - n=k from by omega]
section
variable {m:Zaf} {p:Part} {i:Instr} {o:MO} {pre:List PF} {t:PF} {k:Nat}
theorem ZBf (h:i.op=1):doS m p i o pre t=ZcV o pre t i.a:=by unfold doS Zis;rw[if_neg (by omega),if_neg (by omega),if_pos h]
theorem ZBd (h:i.op=4):doS m p i o pre t=ZcV o pre t (t.locs.getD i.a.toNat 0):=by unfold doS Zis;rw[if_neg (by omega),if_neg (by omega),if_neg (by omega),if_pos h]
theorem Zmx {n:Nat} (h1:¬i.op=1) (h4:¬i.op=4) (hn:(if i.op=8 then 2 else 1:Nat)=n) (hk:t.ws.length=k+n):Zis i o pre t =
  if i.op=3 then if t.ws.length=40 then .stop 4 0 o else .go o (pre++[t.ww (t.ws++[(t.ws.drop k).getD 0 0])])
  else if i.op=5 then .go o (pre++[{ t.on 1 with locs:=t.locs.set i.a.toNat ((t.ws.drop k).getD 0 0) }])
  else if i.op=14 then if o.told.length=500 then .stop 6 0 o else .go { o with told:=o.told++[(t.ws.drop k).getD 0 0] } (pre++[t.on 1])
  else if i.op=8 then .go o (pre++[t.ww ((t.on 2).ws++[doI i.a ((t.ws.drop k).getD 0 0) ((t.off 2).getD 1 0)])])
  else .go o (pre++[t.on 1]):=by unfold Zis;rw[if_neg h1,if_neg h4];simp only[hn];rw[if_neg (by omega),Znb hk]
theorem ZCf (h:i.op=2) (hk:t.ws.length=k+1):doS m p i o pre t=.go o (pre++[t.ww (t.ws.take k)]):=by unfold doS;rw[if_neg (by omega),if_neg (by omega),Zmx (n:=1) (by omega) (by omega) (by rw[h];rfl) hk,if_neg (by omega),if_neg (by omega),if_neg (by omega),if_neg (by omega),Zv3 hk]
theorem ZBe {x:Int} (h:i.op=3) (hk:t.ws.length=k+1) (hx:t.ws.drop k=[x]):doS m p i o pre t=if t.ws.length=40 then .stop 4 0 o else .go o (pre++[t.ww (t.ws++[x])]):=by unfold doS;rw[if_neg (by omega),if_neg (by omega),Zmx (n:=1) (by omega) (by omega) (by rw[h];rfl) hk,if_pos h,hx];rfl
theorem ZBc {x:Int} (h:i.op=5) (hk:t.ws.length=k+1) (hx:t.ws.drop k=[x]):doS m p i o pre t=.go o (pre++[{ t.ww (t.ws.take k) with locs:=t.locs.set i.a.toNat x }]):=by unfold doS;rw[if_neg (by omega),if_neg (by omega),Zmx (n:=1) (by omega) (by omega) (by rw[h];rfl) hk,if_neg (by omega),if_pos h,Zv3 hk,hx];rfl
theorem Zuy {x:Int} (h:i.op=14) (hk:t.ws.length=k+1) (hx:t.ws.drop k=[x]):doS m p i o pre t=if o.told.length=500 then .stop 6 0 o else .go { o with told:=o.told++[x] } (pre++[t.ww (t.ws.take k)]):=by unfold doS;rw[if_neg (by omega),if_neg (by omega),Zmx (n:=1) (by omega) (by omega) (by rw[h];rfl) hk,if_neg (by omega),if_neg (by omega),if_pos h,Zv3 hk,hx];rfl
theorem ZA9 {x y:Int} (h:i.op=8) (hk:t.ws.length=k+2) (hx:t.ws.drop k=[x,y]):doS m p i o pre t=.go o (pre++[t.ww (t.ws.take k++[doI i.a x y])]):=by unfold doS;rw[if_neg (by omega),if_neg (by omega),Zmx (n:=2) (by omega) (by omega) (by rw[h];rfl) hk,if_neg (by omega),if_neg (by omega),if_neg (by omega),if_pos h,Znb hk,Zv3 hk,hx];rfl
theorem ZBb {x:Int} (h:i.op=6) (hk:t.ws.length=k+1) (hx:t.ws.drop k=[x]):doS m p i o pre t=if ZfX p x then .go o (pre++[t.ww (t.ws.take k++[o.data.getD x.toNat 0])]) else .stop 4 0 o:=by unfold doS Zmu;rw[if_pos (by omega),if_pos h,if_neg (by omega),Znb hk,Zv3 hk,hx];rfl
theorem ZBa {x y:Int} (h:i.op=7) (hk:t.ws.length=k+2) (hx:t.ws.drop k=[x,y]):doS m p i o pre t=if ZfX p x then .go { o with data:=o.data.set x.toNat y } (pre++[t.ww (t.ws.take k)]) else .stop 4 0 o:=by unfold doS Zmu;rw[if_pos (by omega),if_neg (by omega),if_neg (by omega),Znb hk,Zv3 hk,hx];rfl
theorem ZA8 (h:i.op=9):doS m p i o pre t=.go o (pre++[{ t with at_:=i.a }]):=by unfold doS Zhk;rw[if_neg (by omega),if_pos (by omega),if_pos h]
theorem ZuA {x:Int} (h:i.op=10) (hk:t.ws.length=k+1) (hx:t.ws.drop k=[x]):doS m p i o pre t=.go o (pre++[if x=0 then { t.ww (t.ws.take k) with at_:=i.a } else t.ww (t.ws.take k)]):=by unfold doS Zhk;rw[if_neg (by omega),if_pos (by omega),if_neg (by omega),if_pos h,if_neg (by omega),Znb hk,Zv3 hk,hx];rfl
theorem ZxH {q:Nat} (h:i.op=11) (hb:i.b=(q:Int)) (hk:t.ws.length=k+q):doS m p i o pre t=if pre.length+1=20 then .stop 5 0 o else .go o (pre++[t.ww (t.ws.take k)]++[⟨t.part,i.a,p8 (t.ws.drop k),[],-1⟩]):=by unfold doS Zhk;rw[if_neg (by omega),if_pos (by omega),if_neg (by omega),if_neg (by omega),if_pos h,hb,show ((q:Nat):Int).toNat=q from rfl,if_neg (by omega),Znb hk,Zv3 hk];unfold Zcz;rw[Yae,List.length_singleton]
theorem ZxG {q:Nat} (h:i.op=12) (hc:i.c=(q:Int)) (hk:t.ws.length=k+q):doS m p i o pre t=if ZcJ m i then .stop 4 0 o else
  if o.calls.length < 100 then
   if pre.length+1=20 then .stop 5 0 { o with calls:=o.calls++[⟨t.part,i.a,i.b,t.ws.drop k,(pre.length+1:Nat),false,0⟩] }
   else .go { o with calls:=o.calls++[⟨t.part,i.a,i.b,t.ws.drop k,(pre.length+1:Nat),false,0⟩] } (pre++[t.ww (t.ws.take k)]++[⟨i.a,((m.getD i.a.toNat Zas).entries.getD i.b.toNat ZbJ).at_,p8 (t.ws.drop k),[],o.calls.length⟩])
  else if pre.length+1=20 then .stop 5 0 o
   else .go o (pre++[t.ww (t.ws.take k)]++[⟨i.a,((m.getD i.a.toNat Zas).entries.getD i.b.toNat ZbJ).at_,p8 (t.ws.drop k),[],-1⟩]):=by unfold doS Zhk Zgo;rw[if_neg (by omega),if_pos (by omega),if_neg (by omega),if_neg (by omega),if_neg (by omega),if_pos h,hc,show ((q:Nat):Int).toNat=q from rfl,if_neg (by omega),Znb hk,Zv3 hk];unfold Zcz;rw[Yae,List.length_singleton]
theorem Zuz {x:Int} (h:i.op=13) (hk:t.ws.length=k+1) (hx:t.ws.drop k=[x]):doS m p i o pre t=match pre.getLast? with
  | none=>.stop 1 x (Zbe o t.noted x)
  | some f=>ZcV (Zbe o t.noted x) pre.dropLast f x:=by unfold doS Zhk retS;rw[if_neg (by omega),if_pos (by omega),if_neg (by omega),if_neg (by omega),if_neg (by omega),if_neg (by omega),if_pos h,if_neg (by omega),Znb hk,hx];rfl
theorem ZxF (h:i.op=15):doS m p i o pre t=.stop 2 0 o:=by unfold doS Zhk;rw[if_neg (by omega),if_pos (by omega),if_neg (by omega),if_neg (by omega),if_neg (by omega),if_neg (by omega),if_neg (by omega)]
end
structure Rm where
 f:PF
 b:Value
 v:Value
def Rm.g (x:Rm):List GV:=.int x.f.part :: .int x.f.at_ :: (x.f.locs.map .int++[.raw x.v,.int x.f.noted])
def Rm.z (tr ti:Nat) (x:Rm):List (Value × Ob0):=[(x.b,.blk x.g tr),(x.v,.row (x.f.ws.map Zat) ti 1)]
def zs (tr ti:Nat) (l:List Rm):List (Value × Ob0):=(l.map (Rm.z tr ti)).flatten
def Rm.r (x:Rm):List GV:=[.raw x.b]
structure RS where
 n:Nat
 o:MO
 gs:List Rm
theorem Zqt {p:List Unit} (hg:Zbd p=0) {k:Nat} (hk:k < p.length) {base:Int} (hb:0<=base/\base+Zap p[k]<=250):Zil p k base=if (ZdV p p[k] base).length > 1200\/(Zc1 p p[k] base).most > 40 then 1 else 0:=by unfold Zil;rw[if_neg (λh=>h hg),if_neg (by omega),show p.getD (k:Int).toNat ⟨[],[],[],[]⟩=p[k] by rw[Int.toNat_natCast];simp[hk],if_neg (by omega)]
structure GenGood (p:List Unit) (k:Nat) (base:Int) (u:Unit):Prop where
 short:(Zkc p k base).length<=1200
 form:∀x∈Zkc p k base,ZaM x=0
 many:(Zim p k base).length=u.funcs.length
 at_:∀n∈Zim p k base,0<=n/\n < ((Zkc p k base).length:Int)
theorem Zwx {p:List Unit} (hg:Zbd p=0) {k:Nat} (hk:k < p.length) {base:Int} (hb:0<=base/\base+Zap p[k]<=250) (h0:Zil p k base=0):GenGood p k base p[k]:=by
 have hgd:p.getD (k:Int).toNat noU=p[k]:=by rw[Int.toNat_natCast];simp[hk]
 have h1:Zkc p k base=ZdV p p[k] base:=by unfold Zkc;rw[if_pos h0,hgd]
 have h2:Zim p k base=ZfP p p[k] base p[k].funcs ⟨[],[],0,0⟩:=by unfold Zim;rw[if_pos h0,hgd]
 have hmem:p[k]∈p:=Yah hk;have hw:=ZbU ((Za5 hg).2.1 _ hmem);have h3:(ZdV p p[k] base).length<=1200:=by
  rw[Zqt hg hk hb] at h0;by_cases hx:(ZdV p p[k] base).length > 1200\/(Zc1 p p[k] base).most > 40
  ·rw[if_pos hx] at h0;omega
  ·omega
 have h5:(ZdV p p[k] base).length=(Zc1 p p[k] base).code.length:=Zhz _ _ _;refine ⟨by rw[h1];exact h3,by rw[h1];exact Zvr (λf hf=>Zpj hg hmem (by omega) hf) h3,by rw[h2];exact ZfO _ _ _ _ _,λn hn=>?_⟩;rw[h2] at hn;have:=Zmg p p[k] base p[k].funcs ⟨[],[],0,0⟩ n hn;rw[h1,h5];exact ⟨by have:=this.1;simp at this;exact this,this.2⟩
theorem ZnO:∀(l:List Fun) (m:List Int) (x:Entry),x∈ZcX l m->x.at_∈m/\∃f∈l,x.params=f.params.length
 | [],_,x,h=>by simp[ZcX] at h
 | _ :: _,[],x,h=>by simp[ZcX] at h
 | f :: l,a :: m,x,h=>by
  simp only[ZcX] at h;have tl:x∈ZcX l m->x.at_∈a :: m/\∃g∈f :: l,x.params=g.params.length:=λh=>by obtain ⟨h1,g,h2,h3⟩:=ZnO l m x h;exact ⟨Yad _ h1,g,Yad _ h2,h3⟩
  split at h
  ·rcases Yav.1 h with rfl | h
   ·exact ⟨Yac,f,Yac,rfl⟩
   ·exact tl h
  ·exact tl h
theorem Zqp {x:Instr} (h:ZaM x=0):x.I:=by
 unfold ZaM at h;by_cases h1:¬(1<=x.op/\x.op<=15)
 ·rw[if_pos h1] at h;omega
 rw[if_neg h1] at h;by_cases h2:ZbK x
 ·rw[if_pos h2] at h;omega
 unfold ZbK at h2;have a1:bdA x.op<=65535:=by unfold bdA;(repeat' split)<;>omega
 have a2:bdB x.op<=65535:=by unfold bdB;(repeat' split)<;>omega
 have a3:bdC x.op<=65535:=by unfold bdC;(repeat' split)<;>omega
 unfold Instr.I I64;omega
theorem Zdz (q:List Unit) (n:Nat):(Zb1 q n).length=n:=by unfold Zb1;simp
theorem ZgZ (q:List Unit) (n i:Nat) (h:i < (Zb1 q n).length):(Zb1 q n)[i]=ZlG q i:=by
 have h':i < n:=by rw[Zdz] at h;exact h
 exact Ya5 ((Yaq h).symm.trans (by unfold Zb1;simp[h']))
theorem Zqy (q:List Unit) (n i:Nat) (h:i<=n):ZcK (Zb1 q n) i=Zaj q i:=by
 cases i with
 | zero=>simp[ZcK,Zaj,Zai]
 | succ i =>
  have hl:i < (Zb1 q n).length:=by rw[Zdz];omega
  rw[ZbM hl,ZgZ];rfl
theorem ZiJ {q:List Unit} (h:Zjw q=0) {k:Nat} (hk:k < q.length):Zil q k (Zaj q k)=0:=Zak h k (YaZ.2 hk)
theorem Zq3 {q:List Unit} (hg:Zbd q=0) {k:Nat} (hk:k < q.length):0<=Zaj q k/\Zaj q k+Zap q[k]<=250/\0<=Zap q[k]:=by obtain ⟨_,hU,hw,_⟩:=Za5 hg;have hb:=Zf1 q (λu hu=>(ZbU (hU u hu)).1);have h1:=hb k;have h2:=hb (k+1);have h3:=ZbU (hU _ (Yah hk));rw[ZeS hk] at h2;omega
theorem ZkJ {q:List Unit} (hg:Zbd q=0) (h:Zjw q=0) {k:Nat} (hk:k < q.length):Zik (ZlG q k) (Zaj q k)=0/\(ZlG q k).I:=by
 obtain ⟨b1,b2,b3⟩:=Zq3 hg hk;have G:=Zwx hg hk ⟨b1,b2⟩ (ZiJ h hk);have hmem:q[k]∈q:=Yah hk;obtain ⟨_,_,_,hf8,_,_,hFE⟩:=Zau ((Za5 hg).2.1 _ hmem);have hqd:q.getD k noU=q[k]:=by simp[hk]
 have hel:=ZjO q[k].funcs (Zim q k (Zaj q k));have hem:=ZnO q[k].funcs (Zim q k (Zaj q k));have hsucc:=ZeS hk;have hent:∀x∈ZcX q[k].funcs (Zim q k (Zaj q k)),(0<=x.at_/\x.at_ < ((Zkc q k (Zaj q k)).length:Int))/\0<=x.params/\x.params<=4:=λx hx=>by obtain ⟨m1,f,m2,m3⟩:=hem x hx;have:=G.at_ _ m1;have:=(ZbL (hFE f m2)).2.1;omega
 have hsh:=G.short;unfold ZlG;rw[hqd];refine ⟨?_,⟨λx hx=>Zqp (G.form x hx),λx hx=>?_,?_,?_,?_,?_⟩⟩
 ·unfold Zik;dsimp only;rw[if_neg (by omega),if_neg (λhc=>hc (Zal G.form)),if_neg (λhc=>hc (Zal (λx hx=>by
   have:=hent x hx;unfold Zr8;rw[if_neg (by unfold Zf7;omega)]))),if_neg (by omega)]
 ·have:=hent x hx;unfold Entry.I I64;dsimp only at *;omega
 ·show I64 (Zaj q k);unfold I64;omega
 ·show I64 (Zaj q (k+1));unfold I64;omega
 ·show (Zkc q k (Zaj q k)).length*32<=_;omega
 ·show (ZcX q[k].funcs (Zim q k (Zaj q k))).length*16<=_;omega
theorem Zwi {q:List Unit} (hg:Zbd q=0) (h:Zjw q=0):Zg5 (Zb1 q q.length)=0/\Zaf.I (Zb1 q q.length)/\Zao (Zb1 q q.length)=Zai q:=by
 obtain ⟨h5,_⟩:=Za5 hg;have hl:=Zdz q q.length;refine ⟨?_,⟨λx hx=>?_,by omega⟩,?_⟩
 ·unfold Zg5;rw[if_neg (by omega)];refine Zer (λj hj=>?_);rw[Zgl hj,ZgZ,Zqy _ _ _ (by omega)];exact (ZkJ hg h (by omega)).1
 ·obtain ⟨j,hj,rfl⟩:=YaK hx;rw[ZgZ];exact (ZkJ hg h (by omega)).2
 ·unfold Zao;rw[hl,Zqy _ _ _ (Yax _)];unfold Zaj;rw[YaE]
theorem ZqA:∀(l:List (List Int)) (m:List Arr),l.length=m.length->(∀k (h:k < l.length) (h':k < m.length),ZdE l[k] m[k].size)->((l.flatten).length:Int)=sizes m
 | [],[],_,_=>by simp[sizes]
 | a :: l,b :: m,hl,h=>by have h1:=ZqA l m (by simpa using hl) (λk hk hk'=>by have:=h (k+1) (by simpa using hk) (by simpa using hk');simpa using this);have h2:=(h 0 (by simp) (by simp)).1;simp only[List.getElem_cons_zero] at h2;unfold sizes at h1 ⊢;simp only[List.flatten_cons,Yae,Yar,List.sum_cons];omega
theorem Zpi {u:Unit} {c:Cells} (h:Zcc u c):((ZbE c).length:Int)=Zap u:=by obtain ⟨⟨h1,h2⟩,h3⟩:=h;have:=ZqA c.arrays u.arrays h2 h3;unfold ZbE Zap;rw[Yae];have:=h1.1;push_cast;omega
theorem Zgs:∀(p:List Unit) (cs:List Cells),cs.length=p.length->ZbN p cs->((ZaA cs).length:Int)=Zai p
 | [],[],_,_=>by simp[ZaA,Zai]
 | u :: p,c :: cs,hl,h=>by have h1:=Zgs p cs (by simpa using hl) (λi hi hi'=>by have:=h (i+1) (by simpa using hi) (by simpa using hi');simpa using this);have h2:=Zpi (h 0 (by simp) (by simp));simp only[List.getElem_cons_zero] at h2;unfold ZaA Zai at *;simp only[YbQ,Yae,Yar,List.sum_cons];push_cast;omega
theorem ZkW {p:List Unit} {cs:List Cells} (hl:cs.length=p.length) (h:ZbN p cs):∀x∈ZaA cs,ZeZ x:=by
 intro x hx;unfold ZaA at hx;obtain ⟨c,hc,hx⟩:=Ybe.1 hx;obtain ⟨i,hi,rfl⟩:=YaK hc;obtain ⟨⟨h1,h2⟩,h3⟩:=h i hi (by omega);unfold ZbE at hx;rcases Yao.1 hx with hx | hx
 ·exact h1.2 x hx
 ·obtain ⟨a,ha,hxa⟩:=List.mem_flatten.1 hx;obtain ⟨k,hk,rfl⟩:=YaK ha;exact (h3 k hk (by omega)).2 x hxa
theorem ZrN {p:List Unit} (hg:Zbd p=0) (hN:Zsu p) (h:ZfU p=0):Zg5 (Ze0 p)=0/\Zaf.I (Ze0 p)/\Zao (Ze0 p)=Zai p/\(Ze0 p).length=p.length:=by
 have hq:=(ZhJ hg hN).1;have h1:Zjw (Zaz p)=0:=by unfold ZfU at h;rw[if_neg (λh'=>h' hg)] at h;exact h
 have e:Ze0 p=Zb1 (Zaz p) (Zaz p).length:=by unfold Ze0;rw[if_pos h,ZcL]
 obtain ⟨a,b,c⟩:=Zwi hq h1;rw[e];exact ⟨a,b,by rw[c];exact ZjC p,by rw[Zdz,ZcL]⟩
structure Built (p:List Unit) (r:Raw):Prop where
 data:Zgu p (Zc0 p r)=ZaA (Zc0 p r)
 words:((ZaA (Zc0 p r)).length:Int)=Zai p
 word:∀x∈ZaA (Zc0 p r),ZeZ x
theorem ZwX {p:List Unit} (hg:Zbd p=0) (r:Raw):Built p r:=by have h0:=Zgx hg r;obtain ⟨_,hl,hc⟩:=Zfp h0;exact ⟨by unfold Zgu;rw[if_pos h0],Zgs p _ hl hc,ZkW hl hc⟩
end Barb
