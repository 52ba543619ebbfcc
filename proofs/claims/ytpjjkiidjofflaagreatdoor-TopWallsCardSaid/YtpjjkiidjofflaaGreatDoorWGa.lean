import Derived.Test.YtpjjkiidjofflaaGreatDoorWG6
import Derived.Test.YtpjjkiidjofflaaGreatDoorWG4
import Derived.Test.YtpjjkiidjofflaaGreatDoorWG3
import Derived.Test.YtpjjkiidjofflaaGreatDoorWG2
import Derived.Test.YtpjjkiidjofflaaGreatDoorWG7
import Derived.Test.YtpjjkiidjofflaaGreatDoorWG5
import Derived.Test.YtpjjkiidjofflaaGreatDoorWG9
import Derived.Test.YtpjjkiidjofflaaGreatDoorWG8
open Go Go.Proofs Go.Proofs.YtpjjkiidjofflaaGreatDoor
namespace Barb
open Go Go.Dm Go.Eng ZN
end Barb
namespace ZN
open Go Go.Dm Go.Eng Go.RowKit Barb
def Cells.d (c:Cells):List D:=[.g (.sl 1 (c.vars.map Zat)),.g (.sl 1 (c.arrays.map ZhF))]
end ZN
namespace Barb
open Go Go.Dm Go.Eng
noncomputable def Zie (g:GC) (s:Str) (i:Nat):List Instr :=
 [⟨3,0,0,0⟩,⟨1,(ZaD g s).2,0,0⟩,⟨8,7,0,0⟩,⟨10,((i+5:Nat):Int),0,0⟩,⟨9,((i+6:Nat):Int),0,0⟩,⟨15,0,0,0⟩,⟨1,(ZaD g s).1,0,0⟩,⟨8,1,0,0⟩]
noncomputable def ZjX (g:GC) (of s:Str) (n:Nat):Instr :=
 if of=[] then ⟨11,Zbz g.u s,n,0⟩
 else ⟨12,Zba g.p of,Zhc (g.p.getD (Zba g.p of).toNat ⟨[],[],[],[]⟩) (Zbz (g.p.getD (Zba g.p of).toNat ⟨[],[],[],[]⟩) s),n⟩
noncomputable def ZqZ (g:GC) (s:Str):List Instr:=if 0<=Zbo g.f s then [⟨4,Zbo g.f s,0,0⟩] else [⟨1,(ZaD g s).1,0,0⟩,⟨6,0,0,0⟩]
noncomputable def Zid (g:GC) (k n:Int) (of s:Str) (m i:Nat):List Instr :=
 if k=1 then [⟨1,n,0,0⟩] else if k=2 then ZqZ g s else if k=3 then Zie g s i++[⟨6,0,0,0⟩] else if k=4 then [ZjX g of s m] else [⟨8,n,0,0⟩]
mutual
noncomputable def ccE (g:GC):Expr->Nat->List Instr
 | .mk k n of s args,i=>Zmv g args i++Zid g k n of s args.length (i+(Zmv g args i).length)
noncomputable def Zmv (g:GC):List Expr->Nat->List Instr
 | [],_=>[]
 | x :: l,i=>ccE g x i++Zmv g l (i+(ccE g x i).length)
end
noncomputable def ZuL (g:GC) (s:Str) (x:Expr) (i:Nat):List Instr :=
 if 0<=Zbo g.f s then ccE g x i++[⟨5,Zbo g.f s,0,0⟩] else ⟨1,(ZaD g s).1,0,0⟩ :: (ccE g x (i+1)++[⟨7,0,0,0⟩])
noncomputable def ZnZ (g:GC) (s:Str) (x y:Expr) (i:Nat):List Instr :=
 ccE g x i++(ccE g y (i+(ccE g x i).length)++(⟨5,g.f.params.length,0,0⟩ :: (Zie g s (i+(ccE g x i).length+(ccE g y (i+(ccE g x i).length)).length+1)++[⟨4,g.f.params.length,0,0⟩,⟨7,0,0,0⟩])))
mutual
noncomputable def ccS (g:GC):Stmt->Nat->List Instr
 | .mk k s xs b e,i =>
  if k=1 then ZuL g s (xs.getD 0 noX) i
  else if k=2 then ZnZ g s (xs.getD 0 noX) (xs.getD 1 noX) i
  else if k=3\/k=4 then
   let cx:=ccE g (xs.getD 0 noX) i
   let cb:=Zfq g b (i+cx.length+1)
   let no:=i+cx.length+1+cb.length+1
   let ce:=if k=3 then Zfq g e no else []
   cx++(⟨10,(no:Int),0,0⟩ :: (cb++(⟨9,((if k=4 then i else no+ce.length:Nat):Int),0,0⟩ :: ce)))
  else if k=5 then ccE g (xs.getD 0 noX) i++[⟨13,0,0,0⟩]
  else ccE g (xs.getD 0 noX) i++[⟨14,0,0,0⟩]
noncomputable def Zfq (g:GC):List Stmt->Nat->List Instr
 | [],_=>[]
 | x :: l,i=>ccS g x i++Zfq g l (i+(ccS g x i).length)
end
theorem ZiE (l r:List Instr) (x:Instr) (a:Int):setA (l++x :: r) l.length a=l++{ x with a:=a } :: r:=by
 unfold setA
 induction l with
 | nil=>rfl
 | cons y l ih=>rw[List.cons_append,List.length_cons,List.modify_succ_cons,ih];rfl
theorem Zbn (w:GW) (op a b c more:Int):(w.put op a b c more).code=w.code++[⟨op,a,b,c⟩]:=rfl
theorem Zje (w:GW) (i:Nat) (a:Int):(w.setA i a).code=setA w.code i a:=rfl
theorem ZnS (g:GC) (s:Str) (w:GW):(Zfm g s w).code=w.code++Zie g s w.code.length:=by
 unfold Zfm Zie;simp only[Zbn,Zje,GW.at_];have e:(w.code++[(⟨3,0,0,0⟩:Instr)]++[(⟨1,(ZaD g s).2,0,0⟩:Instr)]++[(⟨8,7,0,0⟩:Instr)]).length=w.code.length+3:=by simp
 have:=ZiE (w.code++[(⟨3,0,0,0⟩:Instr)]++[⟨1,(ZaD g s).2,0,0⟩]++[⟨8,7,0,0⟩]) [⟨9,((w.code.length+3:Nat):Int)+3,0,0⟩,⟨15,0,0,0⟩] ⟨10,0,0,0⟩ (((w.code.length+3:Nat):Int)+2);rw[e] at this ⊢;simp only[Yas,List.cons_append,List.nil_append] at this ⊢;rw[this];simp only[Yas,List.cons_append,List.nil_append];have e2:(((w.code.length+3:Nat):Int)+2)=((w.code.length+5:Nat):Int):=by omega
 have e3:(((w.code.length+3:Nat):Int)+3)=((w.code.length+6:Nat):Int):=by omega
 rw[e2,e3]
theorem ZuM (g:GC) (of s:Str) (n:Nat) (w:GW):(ZhW g of s n w).code=w.code++[ZjX g of s n]:=by unfold ZhW ZjX;split<;>rfl
theorem Zto (g:GC) (s:Str) (w:GW):(Zm2 g s w).code=w.code++ZqZ g s:=by
 unfold Zm2 ZqZ;split
 ·rfl
 ·simp[Zbn]
theorem ZtZ (g:GC) (k n:Int) (of s:Str) (m:Nat) (w:GW):(ZfV g k n of s m w).code=w.code++Zid g k n of s m w.code.length:=by
 unfold ZfV Zid;split
 ·rfl
 ·split
  ·exact Zto g s w
  ·split
   ·rw[Zbn,ZnS,Yas]
   ·split
    ·exact ZuM g of s m w
    ·rfl
mutual
theorem ZdS (g:GC):∀(x:Expr) (w:GW),(Zbf g x w).code=w.code++ccE g x w.code.length
 | .mk k n of s args,w=>by rw[Zbf,ZtZ,ZkX g args w,ccE,Yas,Yae]
theorem ZkX (g:GC):∀(l:List Expr) (w:GW),(ZaH g l w).code=w.code++Zmv g l w.code.length
 | [],w=>by rw[ZaH,Zmv,YaF]
 | x :: l,w=>by rw[ZaH,ZkX g l,ZdS g x w,Zmv,Yas,Yae]
end
theorem ZvH (g:GC) (s:Str) (x:Expr) (w:GW):(Zsr g s x w).code=w.code++ZuL g s x w.code.length:=by
 unfold Zsr ZuL;split
 ·rw[Zbn,ZdS,Yas]
 ·rw[Zbn,ZdS,Zbn,Yae];simp
theorem Ztt (g:GC) (s:Str) (x y:Expr) (w:GW):(Zii g s x y w).code=w.code++ZnZ g s x y w.code.length:=by unfold Zii ZnZ;simp only[Zbn,ZnS,ZdS,Yae,List.length_cons,List.length_nil,Yas,List.cons_append,List.nil_append,Ybc,YaA]
mutual
theorem ZsX (g:GC):∀(x:Stmt) (w:GW),(ZfR g x w).code=w.code++ccS g x w.code.length
 | .mk k s xs b e,w=>by
  rw[ZfR,ccS];by_cases h1:k=1
  ·rw[if_pos h1,if_pos h1];exact ZvH _ _ _ _
  rw[if_neg h1,if_neg h1];by_cases h2:k=2
  ·rw[if_pos h2,if_pos h2];exact Ztt _ _ _ _ _
  rw[if_neg h2,if_neg h2];by_cases h34:k=3\/k=4
  ·rw[if_pos h34,if_pos h34];dsimp only;have c1:=ZdS g (xs.getD 0 noX) w;generalize Zbf g (xs.getD 0 noX) w=w1 at *;generalize ccE g (xs.getD 0 noX) w.code.length=cx at *;have c2:=ZfB g b (w1.put 10 0 0 0 (-1));have l2:(w1.put 10 0 0 0 (-1)).code.length=w.code.length+cx.length+1:=by rw[Zbn,c1];simp;omega
   rw[l2] at c2;generalize stmtsG g b (w1.put 10 0 0 0 (-1))=w2 at *;generalize Zfq g b (w.code.length+cx.length+1)=cb at *;rw[Zbn,c1] at c2;have l3:(w2.put 9 (if k=4 then w.at_ else 0) 0 0 0).at_=((w.code.length+cx.length+1+cb.length+1:Nat):Int):=by unfold GW.at_;rw[Zbn,c2];simp;omega
   have c4:((w2.put 9 (if k=4 then w.at_ else 0) 0 0 0).setA w1.code.length (w2.put 9 (if k=4 then w.at_ else 0) 0 0 0).at_).code=w.code++(cx++(⟨10,((w.code.length+cx.length+1+cb.length+1:Nat):Int),0,0⟩ :: (cb++[⟨9,if k=4 then w.at_ else 0,0,0⟩]))):=by rw[Zje,l3,Zbn,c2,c1];have:=ZiE (w.code++cx) (cb++[⟨9,if k=4 then w.at_ else 0,0,0⟩]) ⟨10,0,0,0⟩ ((w.code.length+cx.length+1+cb.length+1:Nat):Int);simp only[Yas,List.cons_append,List.nil_append] at this ⊢;rw[this]
   generalize ((w2.put 9 (if k=4 then w.at_ else 0) 0 0 0).setA w1.code.length (w2.put 9 (if k=4 then w.at_ else 0) 0 0 0).at_)=w4 at *;by_cases h3:k=3
   ·rw[if_pos h3,if_pos h3];have h4:¬k=4:=by omega
    rw[if_neg h4] at c4 ⊢;have l4:w4.code.length=w.code.length+cx.length+1+cb.length+1:=by rw[c4];simp;try omega
    have c5:=ZfB g e w4;rw[l4] at c5;have l5:(stmtsG g e w4).at_=((w.code.length+cx.length+1+cb.length+1+(Zfq g e (w.code.length+cx.length+1+cb.length+1)).length:Nat):Int):=by unfold GW.at_;rw[c5,Yae,l4]
    rw[Zje,l5,c5,c4];generalize Zfq g e (w.code.length+cx.length+1+cb.length+1)=ce;have l2':w2.code.length=(w.code++(cx++(⟨10,((w.code.length+cx.length+1+cb.length+1:Nat):Int),0,0⟩ :: cb))).length:=by rw[c2];simp
    rw[l2'];have:=ZiE (w.code++(cx++(⟨10,((w.code.length+cx.length+1+cb.length+1:Nat):Int),0,0⟩ :: cb))) ce ⟨9,0,0,0⟩ ((w.code.length+cx.length+1+cb.length+1+ce.length:Nat):Int);simp only[Yas,List.cons_append,List.nil_append] at this ⊢;rw[this]
   ·have h4:k=4:=by omega
    rw[if_neg h3,if_neg h3,c4,if_pos h4,if_pos h4];rfl
  rw[if_neg h34,if_neg h34];by_cases h5:k=5
  ·rw[if_pos h5,if_pos h5,Zbn,ZdS,Yas]
  ·rw[if_neg h5,if_neg h5,Zbn,ZdS,Yas]
theorem ZfB (g:GC):∀(l:List Stmt) (w:GW),(stmtsG g l w).code=w.code++Zfq g l w.code.length
 | [],w=>by rw[stmtsG,Zfq,YaF]
 | x :: l,w=>by rw[stmtsG,ZfB g l,ZsX g x w,Zfq,Yas,Yae]
end
def c11:List Instr->Nat->List Int
 | [],_=>[]
 | x :: l,i=>if x.op=11 then (i:Int) :: c11 l (i+1) else c11 l (i+1)
theorem Zpt:∀(a b:List Instr) (i:Nat),c11 (a++b) i=c11 a i++c11 b (i+a.length)
 | [],b,i=>by simp[c11]
 | x :: a,b,i=>by simp only[List.cons_append,c11,Zpt a b (i+1),List.length_cons];rw[show i+1+a.length=i+(a.length+1) from by omega];split<;>simp
theorem Zq2:∀(l:List Instr) (k:Nat) (a:Int) (i:Nat),c11 (setA l k a) i=c11 l i
 | [],_,_,_=>by simp[setA]
 | x :: l,0,a,i=>rfl
 | x :: l,k+1,a,i=>by show (if x.op=11 then (i:Int) :: c11 (setA l k a) (i+1) else c11 (setA l k a) (i+1))=_;rw[Zq2 l k a (i+1)];rfl
def Cal (w:GW):Prop:=w.calls=c11 w.code 0
theorem Cal.put {w:GW} (h:Cal w) {op:Int} (ho:op≠11) (a b c more:Int):Cal (w.put op a b c more):=by unfold Cal;rw[Zel,Zbn,Zpt,h];simp[c11,ho]
theorem Cal.setA {w:GW} (h:Cal w) (i:Nat) (a:Int):Cal (w.setA i a):=by show w.calls=c11 (Barb.setA w.code i a) 0;rw[Zq2];exact h
theorem Cal.elem (g:GC) (s:Str) {w:GW} (h:Cal w):Cal (Zfm g s w):=by unfold Zfm;exact ((((((((h.put (by decide) _ _ _ _).put (by decide) _ _ _ _).put (by decide) _ _ _ _).put (by decide) _ _ _ _).put (by decide) _ _ _ _).put (by decide) _ _ _ _).setA _ _).put (by decide) _ _ _ _).put (by decide) _ _ _ _
theorem Cal.call (g:GC) (of s:Str) (n:Nat) {w:GW} (h:Cal w):Cal (ZhW g of s n w):=by
 unfold ZhW;split
 ·unfold Cal;rw[Zel,Zbn,Zpt];show w.calls++[w.at_]=c11 w.code 0++_;rw[h];simp[c11,GW.at_]
 ·exact h.put (by decide) _ _ _ _
theorem Cal.last (g:GC) (k n:Int) (of s:Str) (m:Nat) {w:GW} (h:Cal w):Cal (ZfV g k n of s m w):=by
 unfold ZfV;split
 ·exact h.put (by decide) _ _ _ _
 ·split
  ·unfold Zm2;split
   ·exact h.put (by decide) _ _ _ _
   ·exact (h.put (by decide) _ _ _ _).put (by decide) _ _ _ _
  ·split
   ·exact (h.elem g s).put (by decide) _ _ _ _
   ·split
    ·exact h.call g of s m
    ·exact h.put (by decide) _ _ _ _
mutual
theorem Cal.expr (g:GC):∀(x:Expr) {w:GW},Cal w->Cal (Zbf g x w)
 | .mk k n of s args,w,h=>by rw[Zbf];exact (Cal.exprs g args h).last _ _ _ _ _ _
theorem Cal.exprs (g:GC):∀(l:List Expr) {w:GW},Cal w->Cal (ZaH g l w)
 | [],w,h=>by rw[ZaH];exact h
 | x :: l,w,h=>by rw[ZaH];exact Cal.exprs g l (Cal.expr g x h)
end
mutual
theorem Cal.stmt (g:GC):∀(x:Stmt) {w:GW},Cal w->Cal (ZfR g x w)
 | .mk k s xs b e,w,h=>by
  rw[ZfR];split
  ·unfold Zsr;split
   ·exact (Cal.expr g _ h).put (by decide) _ _ _ _
   ·exact (Cal.expr g _ (h.put (by decide) _ _ _ _)).put (by decide) _ _ _ _
  ·split
   ·unfold Zii;exact ((((Cal.expr g _ (Cal.expr g _ h)).put (by decide) _ _ _ _).elem g s).put (by decide) _ _ _ _).put (by decide) _ _ _ _
   ·split
    ·dsimp only;have h4:=((Cal.stmts g b ((Cal.expr g (xs.getD 0 noX) h).put (op:=10) (by decide) 0 0 0 (-1))).put (op:=9) (by decide) (if k=4 then w.at_ else 0) 0 0 0).setA (Zbf g (xs.getD 0 noX) w).code.length ((stmtsG g b ((Zbf g (xs.getD 0 noX) w).put 10 0 0 0 (-1))).put 9 (if k=4 then w.at_ else 0) 0 0 0).at_;split
     ·exact (Cal.stmts g e h4).setA _ _
     ·exact h4
    ·split
     ·exact (Cal.expr g _ h).put (by decide) _ _ _ _
     ·exact (Cal.expr g _ h).put (by decide) _ _ _ _
theorem Cal.stmts (g:GC):∀(l:List Stmt) {w:GW},Cal w->Cal (stmtsG g l w)
 | [],w,h=>by rw[stmtsG];exact h
 | x :: l,w,h=>by rw[stmtsG];exact Cal.stmts g l (Cal.stmt g x h)
end
theorem Cal.funs (p:List Unit) (u:Unit) (base:Int):∀(l:List Fun) {w:GW},Cal w->Cal (ZbD p u base l w)
 | [],w,h=>by rw[ZbD];exact h
 | f :: l,w,h=>by rw[ZbD];refine Cal.funs p u base l ?_;unfold ZkT;exact ((Cal.stmts _ f.body (show Cal { w with deep:=0 } from h)).put (by decide) _ _ _ _).put (by decide) _ _ _ _
def pt (ats:List Int) (x:Instr):Instr:=if x.op=11 then { x with a:=ats.getD x.a.toNat 0 } else x
theorem Zhx (ats:List Int):∀(l pre:List Instr),Zch ats (c11 l pre.length) (pre++l)=pre++l.map (pt ats)
 | [],pre=>by simp[c11,Zch]
 | x :: l,pre=>by
  have step:∀y:Instr,pre++y :: l=(pre++[y])++l:=λy=>by simp
  have len:∀y:Instr,(pre++[y]).length=pre.length+1:=λy=>by simp
  rw[c11];split
  ·rename_i h;rw[Zch,Int.toNat_natCast,show (pre++x :: l).getD pre.length ⟨0,0,0,0⟩=x by simp,ZiE,step];have:=Zhx ats l (pre++[{ x with a:=ats.getD x.a.toNat 0 }]);rw[len] at this;rw[this];simp[pt,h]
  ·rename_i h;have:=Zhx ats l (pre++[x]);rw[len] at this;rw[step,this];simp[pt,h]
noncomputable def ccF (p:List Unit) (u:Unit) (base:Int) (f:Fun) (i:Nat):List Instr:=Zfq ⟨p,u,base,f⟩ f.body i++[⟨1,0,0,0⟩,⟨13,0,0,0⟩]
noncomputable def Zsv (p:List Unit) (u:Unit) (base:Int):List Fun->Nat->List Instr
 | [],_=>[]
 | f :: l,i=>ccF p u base f i++Zsv p u base l (i+(ccF p u base f i).length)
theorem Zqw (p:List Unit) (u:Unit) (base:Int) (f:Fun) (w:GW):(ZkT p u base f w).code=w.code++ccF p u base f w.code.length:=by unfold ZkT ccF;rw[Zbn,Zbn,ZfB];simp
theorem ZnA (p:List Unit) (u:Unit) (base:Int):∀(l:List Fun) (w:GW),(ZbD p u base l w).code=w.code++Zsv p u base l w.code.length
 | [],w=>by rw[ZbD,Zsv,YaF]
 | f :: l,w=>by rw[ZbD,ZnA p u base l,Zqw,Zsv,Yas,Yae]
theorem ZsM (p:List Unit) (u:Unit) (base:Int):ZdV p u base=(Zsv p u base u.funcs 0).map (pt (ZfP p u base u.funcs ⟨[],[],0,0⟩)):=by
 unfold ZdV;have h1:Cal (Zc1 p u base):=Cal.funs p u base u.funcs (show Cal ⟨[],[],0,0⟩ from rfl);have h2:(Zc1 p u base).code=Zsv p u base u.funcs 0:=by have:=ZnA p u base u.funcs ⟨[],[],0,0⟩;simpa [Zc1] using this
 rw[h1,h2];have:=Zhx (ZfP p u base u.funcs ⟨[],[],0,0⟩) (Zsv p u base u.funcs 0) [];simpa using this
def At (C:List Instr) (ats:List Int) (i:Nat) (L:List Instr):Prop:=∀j (h:j < L.length),C[i+j]?=some (pt ats L[j])
theorem At.app {C:List Instr} {ats:List Int} {i:Nat} {a b:List Instr} (h:At C ats i (a++b)):At C ats i a/\At C ats (i+a.length) b:=by
 refine ⟨λj hj=>?_,λj hj=>?_⟩
 ·have:=h j (by simp;omega);rw[this,Ybv hj]
 ·have:=h (a.length+j) (by simp;omega);rw[Ybc,this,Ybp (by omega)];simp
theorem At.cons {C:List Instr} {ats:List Int} {i:Nat} {x:Instr} {b:List Instr} (h:At C ats i (x :: b)):C[i]?=some (pt ats x)/\At C ats (i+1) b:=by have h1:=At.app (a:=[x]) (b:=b) h;exact ⟨h1.1 0 (by simp),h1.2⟩
theorem At.one {C:List Instr} {ats:List Int} {i:Nat} {x:Instr} (h:At C ats i [x]):C[i]?=some (pt ats x):=h.cons.1
theorem ZuX (p:List Unit) (u:Unit) (base:Int):∀(l:List Fun) (w:GW) (j:Nat) (hj:j < l.length),∃i:Nat,(ZfP p u base l w)[j]?=some (i:Int)/\w.code.length<=i/\∃a b,Zsv p u base l w.code.length=a++(ccF p u base l[j] i++b)/\w.code.length+a.length=i
 | f :: l,w,0,_=>⟨w.code.length,by rw[ZfP];rfl,Yax _,[],Zsv p u base l (w.code.length+(ccF p u base f w.code.length).length),by rw[Zsv];rfl,rfl⟩
 | f :: l,w,j+1,hj=>by
  obtain ⟨i,h1,h2,a,b,h3,h4⟩:=ZuX p u base l (ZkT p u base f w) j (by simpa using hj);have e:=Zqw p u base f w;have el:(ZkT p u base f w).code.length=w.code.length+(ccF p u base f w.code.length).length:=by rw[e,Yae]
  rw[el] at h2 h3 h4;refine ⟨i,by rw[ZfP,List.getElem?_cons_succ];exact h1,by omega,ccF p u base f w.code.length++a,b,?_,?_⟩
  ·rw[Zsv,h3,Yas];rfl
  ·rw[Yae];omega
theorem Zqx (p:List Unit) (u:Unit) (base:Int) (j:Nat) (hj:j < u.funcs.length):∃i:Nat,(ZfP p u base u.funcs ⟨[],[],0,0⟩)[j]?=some (i:Int)/\At (ZdV p u base) (ZfP p u base u.funcs ⟨[],[],0,0⟩) i (ccF p u base u.funcs[j] i):=by
 obtain ⟨i,h1,_,a,b,h3,h4⟩:=ZuX p u base u.funcs ⟨[],[],0,0⟩ j hj;refine ⟨i,h1,λk hk=>?_⟩;have ha:a.length=i:=by simpa using h4
 rw[ZsM];rw[show Zsv p u base u.funcs 0=a++(ccF p u base u.funcs[j] i++b) from h3];rw[YaC,Yak (by omega),Yaj (by omega)];rw[show i+k - a.length=k from by omega,Yaq hk];rfl
mutual
def hE:Expr->Nat
 | .mk k _ _ _ args=>max (hEs args) (if k=3 then 3 else 1)
def hEs:List Expr->Nat
 | []=>0
 | x :: l=>max (hE x) (1+hEs l)
end
theorem Zls (w:GW) (op a b c more:Int):w.most<=(w.put op a b c more).most/\(w.put op a b c more).deep<=(w.put op a b c more).most:=by unfold GW.put;dsimp only;split<;>omega
structure Hi (w w':GW) (d h:Int):Prop where
 most:w.most<=w'.most
 go:0<=w.deep->w.deep<=w.most->w'.most<=40->w'.deep=w.deep+d/\w.deep+h<=w'.most/\w'.deep<=w'.most
theorem Hi.put (w:GW) (op a b c:Int) {more:Int} (h1:-8<=more/\more<=1):Hi w (w.put op a b c more) more more:=by
 obtain ⟨m1,m2⟩:=Zls w op a b c more;refine ⟨m1,λh0 h4 hm=>?_⟩;have e:(w.put op a b c more).deep=w.deep+more:=by unfold GW.put;exact I64.wrap (by unfold I64;omega)
 exact ⟨e,by omega,by omega⟩
theorem Hi.setA (w:GW) (i:Nat) (a:Int):Hi w (w.setA i a) 0 0:=⟨Ybo _,λ_ h _=>⟨by show w.deep=_;omega,by show w.deep+0<=w.most;omega,h⟩⟩
theorem Hi.trans {a b c:GW} {d1 d2 h1 h2:Int} (h:Hi a b d1 h1) (k:Hi b c d2 h2) (hd:0<=d1):Hi a c (d1+d2) (max h1 (d1+h2)):=by refine ⟨Int.le_trans h.most k.most,λh0 h4 hm=>?_⟩;have hm2:=k.most;obtain ⟨e1,e2,e3⟩:=h.go h0 h4 (by omega);obtain ⟨f1,f2,f3⟩:=k.go (by omega) e3 hm;exact ⟨by omega,by omega,f3⟩
theorem Hi.mono {a b:GW} {d d' h h':Int} (k:Hi a b d h) (hd:d=d') (hh:h'<=h):Hi a b d' h':=⟨k.most,λh0 h4 hm=>by
 obtain ⟨e1,e2,e3⟩:=k.go h0 h4 hm;exact ⟨by omega,by omega,e3⟩⟩
theorem Hi.elem (g:GC) (s:Str) (w:GW):Hi w (Zfm g s w) 0 2:=by unfold Zfm;refine (((((((((Hi.put w 3 0 0 0 (more:=1) (by omega)).trans (.put _ 1 _ 0 0 (more:=1) (by omega)) (by omega)).trans (.put _ 8 7 0 0 (more:=-1) (by omega)) (by omega)).trans (.put _ 10 0 0 0 (more:=-1) (by omega)) (by omega)).trans (.put _ 9 _ 0 0 (more:=0) (by omega)) (by omega)).trans (.put _ 15 0 0 0 (more:=0) (by omega)) (by omega)).trans (.setA _ _ _) (by omega)).trans (.put _ 1 _ 0 0 (more:=1) (by omega)) (by omega)).trans (.put _ 8 1 0 0 (more:=-1) (by omega)) (by omega)).mono (by omega) (by omega)
theorem Hi.last (g:GC) (k n:Int) (of s:Str) (m:Nat) (hm:m<=4) (h1:k=1\/k=2->m=0) (h3:k=3->m=1) (h5:k≠1->k≠2->k≠3->k≠4->m=2) (w:GW):Hi w (ZfV g k n of s m w) (1 - m) ((if k=3 then 3 else 1) - m):=by
 unfold ZfV;by_cases k1:k=1
 ·rw[if_pos k1];have:=h1 (.inl k1);exact (Hi.put w 1 n 0 0 (more:=1) (by omega)).mono (by omega) (by split<;>omega)
 rw[if_neg k1];by_cases k2:k=2
 ·rw[if_pos k2];have:=h1 (.inr k2);unfold Zm2;split
  ·exact (Hi.put w 4 _ 0 0 (more:=1) (by omega)).mono (by omega) (by split<;>omega)
  ·exact ((Hi.put w 1 _ 0 0 (more:=1) (by omega)).trans (.put _ 6 0 0 0 (more:=0) (by omega)) (by omega)).mono (by omega) (by split<;>omega)
 rw[if_neg k2];by_cases k3:k=3
 ·rw[if_pos k3];have:=h3 k3;exact ((Hi.elem g s w).trans (.put _ 6 0 0 0 (more:=0) (by omega)) (by omega)).mono (by omega) (by rw[if_pos k3];omega)
 rw[if_neg k3,if_neg k3];by_cases k4:k=4
 ·rw[if_pos k4];unfold ZhW;split
  ·have e:=Hi.put { w with calls:=w.calls++[w.at_] } 11 (Zbz g.u s) m 0 (more:=1 - m) (by omega);exact ⟨e.most,e.go⟩
  ·exact Hi.put w 12 _ _ _ (more:=1 - m) (by omega)
 rw[if_neg k4];have:=h5 k1 k2 k3 k4;exact (Hi.put w 8 n 0 0 (more:=-1) (by omega)).mono (by omega) (by omega)
theorem Zp8 {k n:Int} {of s:Str} {m:Nat} (hk:1<=k/\k<=5) (h:Zbp k n of s m):(k=1\/k=2->m=0)/\(k=3->m=1)/\(k≠1->k≠2->k≠3->k≠4->m=2):=by unfold Zbp at h;omega
theorem Hi.expr (g:GC):∀(n:Nat) (x:Expr),ZaN n x=0->∀w,Hi w (Zbf g x w) 1 (hE x)
 | 0,x,h,_=>by cases x;simp[ZaN] at h
 | n+1,.mk k v of s args,h,w=>by
  obtain ⟨a1,a2,a3,_,a5⟩:=ZcN h;obtain ⟨c1,c2,c3⟩:=Zp8 a1 a3;have hl:∀(l:List Expr),(∀y∈l,ZaN n y=0)->∀w,Hi w (ZaH g l w) l.length (hEs l):=by
   intro l
   induction l with
   | nil=>intro _ w;rw[ZaH];exact ⟨Ybo _,λh0 h4 hm=>⟨by simp,by simp[hEs];omega,h4⟩⟩
   | cons y l il =>intro hy w;rw[ZaH,hEs];exact ((Hi.expr g n y (hy y Yac) w).trans (il (λz hz=>hy z (Yad _ hz)) _) (by omega)).mono (by simp;omega) (by push_cast;omega)
  rw[Zbf,hE];exact ((hl args a5 w).trans (Hi.last g k v of s args.length a2 c1 c2 c3 _) (by omega)).mono (by omega) (by push_cast;split<;>omega)
mutual
noncomputable def ZA3 (f:Fun):Stmt->Prop
 | .mk k s xs b e =>
  if k=1 then (if 0<=Zbo f s then 0 else 1)+hE (xs.getD 0 noX)<=40
  else if k=2 then hE (xs.getD 0 noX)<=40/\1+hE (xs.getD 1 noX)<=40
  else if k=3\/k=4 then hE (xs.getD 0 noX)<=40/\Zg8 f b/\(k=3->Zg8 f e)
  else hE (xs.getD 0 noX)<=40
noncomputable def Zg8 (f:Fun):List Stmt->Prop
 | []=>True
 | x :: l=>ZA3 f x/\Zg8 f l
end
structure Hs (w w':GW) (P:Prop):Prop where
 most:w.most<=w'.most
 go:w.deep=0->0<=w.most->w'.most<=40->w'.deep=0/\P
theorem Hi.s {w w':GW} {h:Int} {P:Prop} (k:Hi w w' 0 h) (hP:h<=40->P):Hs w w' P:=⟨k.most,λh0 h1 hm=>by
 obtain ⟨e1,e2,_⟩:=k.go (by omega) (by omega) hm;exact ⟨by omega,hP (by omega)⟩⟩
theorem Hs.trans {a b c:GW} {P Q:Prop} (h:Hs a b P) (k:Hs b c Q):Hs a c (P/\Q):=⟨Int.le_trans h.most k.most,λh0 h1 hm=>by
 have h2:=h.most;have h3:=k.most;obtain ⟨e1,e2⟩:=h.go h0 h1 (by omega);obtain ⟨f1,f2⟩:=k.go e1 (by omega) hm;exact ⟨f1,e2,f2⟩⟩
theorem Hs.mono {a b:GW} {P Q:Prop} (h:Hs a b P) (hP:P->Q):Hs a b Q:=⟨h.most,λh0 h1 hm=>by
 obtain ⟨e1,e2⟩:=h.go h0 h1 hm;exact ⟨e1,hP e2⟩⟩
theorem ZzV {xs:List Expr} {n i:Nat} (h:∀y∈xs,ZaN n y=0) (hi:i < xs.length):ZaN n (xs.getD i noX)=0:=by rw[show xs.getD i noX=xs[i] by simp[hi]];exact h _ (Yah hi)
theorem Hs.stmts (g:GC):∀(n:Nat) (l:List Stmt),Zan n l=0->∀w,Hs w (stmtsG g l w) (Zg8 g.f l)
 | 0,l,h=>by rw[Zan] at h;exact absurd h (by decide)
 | n+1,l,h=>by
  rw[Zan] at h;have hall:=Zak h;clear h
  induction l with
  | nil=>intro w;rw[stmtsG,Zg8];exact ⟨Ybo _,λh0 _ _=>⟨h0,trivial⟩⟩
  | cons x l il =>
   intro w;have hl:=il (λy hy=>hall y (Yad _ hy));have hx:=hall x Yac;rw[stmtsG,Zg8];refine Hs.trans ?_ (hl _);obtain ⟨hk,hok,hxs,hb,he⟩:=Zb3 hx;cases x with
   | mk k s xs b e =>
    simp only[Stmt.k,Stmt.s,Stmt.xs,Stmt.b,Stmt.e] at hk hok hxs hb he;have hlen:0 < xs.length/\(k=2->xs.length=2):=by unfold Zdr at hok;omega
    have E0:=Hi.expr g 12 (xs.getD 0 noX) (ZzV hxs hlen.1);rw[ZfR,ZA3];by_cases h1:k=1
    ·rw[if_pos h1,if_pos h1];unfold Zsr;by_cases hp:0<=Zbo g.f s
     ·rw[if_pos hp,if_pos hp];exact (((E0 w).trans (.put _ 5 _ 0 0 (more:=-1) (by omega)) (by omega)).mono (d':=0) (h':=hE (xs.getD 0 noX)) (by omega) (by omega)).s (λh=>by omega)
     ·rw[if_neg hp,if_neg hp];exact ((((Hi.put w 1 _ 0 0 (more:=1) (by omega)).trans (E0 _) (by omega)).trans (.put _ 7 0 0 0 (more:=-2) (by omega)) (by omega)).mono (d':=0) (h':=1+hE (xs.getD 0 noX)) (by omega) (by omega)).s (λh=>by omega)
    rw[if_neg h1,if_neg h1];by_cases h2:k=2
    ·rw[if_pos h2,if_pos h2];have E1:=Hi.expr g 12 (xs.getD 1 noX) (ZzV hxs (by have:=hlen.2 h2;omega));unfold Zii;exact ((((((((E0 w).trans (E1 _) (by omega)).trans (.put _ 5 _ 0 0 (more:=-1) (by omega)) (by omega)).trans (.elem g s _) (by omega)).trans (.put _ 4 _ 0 0 (more:=1) (by omega)) (by omega)).trans (.put _ 7 0 0 0 (more:=-2) (by omega)) (by omega))).mono (d':=0) (h':=max (hE (xs.getD 0 noX)) (1+hE (xs.getD 1 noX))) (by omega) (by omega)).s (λh=>by omega)
    rw[if_neg h2,if_neg h2];by_cases h34:k=3\/k=4
    ·rw[if_pos h34,if_pos h34];dsimp only;have A:=((((E0 w).trans (.put _ 10 0 0 0 (more:=-1) (by omega)) (by omega)).mono (d':=0) (h':=hE (xs.getD 0 noX)) (by omega) (by omega)).s (P:=hE (xs.getD 0 noX)<=40) (λh=>by omega)).trans (Hs.stmts g n b hb _);have B:=(A.trans ((Hi.put (stmtsG g b ((Zbf g (xs.getD 0 noX) w).put 10 0 0 0 (-1))) 9 (if k=4 then w.at_ else 0) 0 0 (more:=0) (by omega)).s (P:=True) (λ_=>trivial))).trans ((Hi.setA _ (Zbf g (xs.getD 0 noX) w).code.length ((stmtsG g b ((Zbf g (xs.getD 0 noX) w).put 10 0 0 0 (-1))).put 9 (if k=4 then w.at_ else 0) 0 0 0).at_).s (P:=True) (λ_=>trivial));by_cases h3:k=3
     ·rw[if_pos h3];refine Hs.mono (Hs.trans (B.trans (Hs.stmts g n e he _)) (Hi.s (P:=True) (Hi.setA _ _ _) (λ_=>trivial))) (λh=>⟨h.1.1.1.1.1,h.1.1.1.1.2,λ_=>h.1.2⟩)
     ·rw[if_neg h3];exact B.mono (λh=>⟨h.1.1.1,h.1.1.2,λc=>absurd c h3⟩)
    rw[if_neg h34,if_neg h34];by_cases h5:k=5
    ·rw[if_pos h5];exact (((E0 w).trans (.put _ 13 0 0 0 (more:=-1) (by omega)) (by omega)).mono (d':=0) (h':=hE (xs.getD 0 noX)) (by omega) (by omega)).s (λh=>by omega)
    ·rw[if_neg h5];exact (((E0 w).trans (.put _ 14 0 0 0 (more:=-1) (by omega)) (by omega)).mono (d':=0) (h':=hE (xs.getD 0 noX)) (by omega) (by omega)).s (λh=>by omega)
theorem Zvq (p:List Unit) (u:Unit) (base:Int) (hm:(Zc1 p u base).most<=40) (hE:∀f∈u.funcs,Zan 12 f.body=0):∀f∈u.funcs,Zg8 f f.body:=by
 unfold Zc1 at hm;have key:∀(l:List Fun) (w:GW),(∀f∈l,Zan 12 f.body=0)->0<=w.most->w.most<=(ZbD p u base l w).most/\((ZbD p u base l w).most<=40->∀f∈l,Zg8 f f.body):=by
  intro l
  induction l with
  | nil=>intro w _ _;rw[ZbD];exact ⟨Ybo _,λ_ f hf=>by simp at hf⟩
  | cons f l il =>
   intro w hl h0;have S:=Hs.stmts ⟨p,u,base,f⟩ 12 f.body (hl f Yac) { w with deep:=0 };have e:ZkT p u base f w=((stmtsG ⟨p,u,base,f⟩ f.body { w with deep:=0 }).put 1 0 0 0 1).put 13 0 0 0 (-1):=rfl;have m1:w.most<=(stmtsG ⟨p,u,base,f⟩ f.body { w with deep:=0 }).most:=S.most;have m2:=(Zls (stmtsG ⟨p,u,base,f⟩ f.body { w with deep:=0 }) 1 0 0 0 1).1;have m3:=(Zls ((stmtsG ⟨p,u,base,f⟩ f.body { w with deep:=0 }).put 1 0 0 0 1) 13 0 0 0 (-1)).1;rw[<- e] at m3;obtain ⟨k1,k2⟩:=il (ZkT p u base f w) (λg hg=>hl g (Yad _ hg)) (by omega);rw[ZbD];refine ⟨by omega,λhm g hg=>?_⟩;rcases Yav.1 hg with rfl | hg
   ·exact (S.go rfl h0 (by omega)).2
   ·exact k2 hm g hg
 exact (key u.funcs ⟨[],[],0,0⟩ hE (by show (0:Int)<=0;omega)).2 hm
end Barb
namespace Barb
open Go Go.Dm Go.Eng ZN
theorem Zjt {α β:Type} (f:α->List β):∀(l:List α) (k:Nat) (h:k < l.length),l.flatMap f=(l.take k).flatMap f++(f l[k]++(l.drop (k+1)).flatMap f)
 | x :: l,0,_=>by simp
 | x :: l,k+1,h=>by have:=Zjt f l k (by simpa using h);simp only[YbQ,List.take_succ_cons,List.getElem_cons_succ,Ybf,Yas];rw[this]
theorem map_set {α β:Type} (f:α->List β) (y:α):∀(l:List α) (k:Nat),k < l.length->(l.set k y).flatMap f=(l.take k).flatMap f++(f y++(l.drop (k+1)).flatMap f)
 | x :: l,0,_=>by simp
 | x :: l,k+1,h=>by have:=map_set f y l k (by simpa using h);simp only[List.set_cons_succ,YbQ,List.take_succ_cons,Ybf,Yas];rw[this]
theorem ZtQ {α:Type} (a b c:List α) (j:Nat) (h:j < b.length) (d:α):(a++(b++c)).getD (a.length+j) d=b.getD j d:=by rw[Yal,Yal,Yak (by omega),Yaj (by omega)];rw[show a.length+j - a.length=j from by omega]
theorem ZtP {α:Type} (a b c:List α) (j:Nat) (h:j < b.length) (d:α):(a++(b++c)).set (a.length+j) d=a++(b.set j d++c):=by rw[YbK _ _ (by omega),YbR _ _ (by omega)];rw[show a.length+j - a.length=j from by omega]
theorem ZwF {cs:List Cells} {u:Nat} (hu:u < cs.length) {j:Nat} (hj:j < (ZbE cs[u]).length):(ZaA cs).getD ((ZaA (cs.take u)).length+j) 0=(ZbE cs[u]).getD j 0:=by unfold ZaA at *;rw[Zjt ZbE cs u hu];exact ZtQ _ _ _ _ hj _
theorem ZwD {cs:List Cells} {u:Nat} (hu:u < cs.length) {j:Nat} (hj:j < (ZbE cs[u]).length) {c:Cells} {n:Int} (hc:ZbE c=(ZbE cs[u]).set j n):ZaA (cs.set u c)=(ZaA cs).set ((ZaA (cs.take u)).length+j) n:=by unfold ZaA at *;rw[Zjt ZbE cs u hu,map_set ZbE c cs u hu,ZtP _ _ _ _ hj,hc]
theorem ZxX (c:Cells) {i:Nat} (h:i < c.vars.length):(ZbE c).getD i 0=c.vars.getD i 0:=by unfold ZbE;rw[Yal,Yal,Yaj h]
theorem ZxW (c:Cells) {i:Nat} (h:i < c.vars.length) (n:Int):ZbE (c.setV i n)=(ZbE c).set i n:=by unfold ZbE Cells.setV;rw[YbR _ _ h]
def Zif (c:Cells) (k:Nat):Nat:=c.vars.length+(c.arrays.take k).flatten.length
theorem ZdQ {α:Type} (l:List (List α)):l.flatten=l.flatMap id:=by simp[List.flatMap_id]
theorem ZzD (c:Cells) {k i:Nat} (hk:k < c.arrays.length) (hi:i < (c.arrays.getD k []).length):(ZbE c).getD (Zif c k+i) 0=(c.arrays.getD k []).getD i 0:=by
 have e:c.arrays.getD k []=c.arrays[k]:=by simp[hk]
 rw[e] at hi ⊢;unfold ZbE Zif;rw[ZdQ,ZdQ,Zjt id c.arrays k hk,<- Yas,Ybc];have:=ZtQ (c.vars++(c.arrays.take k).flatMap id) (id c.arrays[k]) ((c.arrays.drop (k+1)).flatMap id) i hi 0;rw[Yae,Ybc] at this;exact this
theorem ZzC (c:Cells) {k i:Nat} (hk:k < c.arrays.length) (hi:i < (c.arrays.getD k []).length) (n:Int):ZbE (c.setA k i n)=(ZbE c).set (Zif c k+i) n:=by
 have e:c.arrays.getD k []=c.arrays[k]:=by simp[hk]
 unfold Cells.setA;rw[e] at hi ⊢;unfold ZbE Zif;rw[ZdQ,ZdQ,ZdQ,Zjt id c.arrays k hk,map_set id _ c.arrays k hk,<- Yas,<- Yas,Ybc];have:=ZtP (c.vars++(c.arrays.take k).flatMap id) (id c.arrays[k]) ((c.arrays.drop (k+1)).flatMap id) i hi n;rw[Yae,Ybc] at this;simp only[Yas,id] at this ⊢;exact this.symm
theorem Zmi {u:Unit} {c:Cells} (h:Zcc u c):∀k,k<=u.arrays.length->((c.arrays.take k).flatten.length:Int)=sizes (u.arrays.take k)
 | 0,_=>by simp[sizes]
 | k+1,hk=>by
  have hk1:k < u.arrays.length:=hk;have hk2:k < c.arrays.length:=by rw[h.1.2];exact hk1
  have h1:=Zmi h k (by omega);have h2:=(h.2 k hk2 hk1).1;rw[Zay hk2,YbG,Yae,Zhq hk1];simp only[List.flatten_cons,List.flatten_nil,YaF];omega
theorem ZpJ {u:Unit} {c:Cells} (h:Zcc u c):((ZbE c).length:Int)=Zap u:=by have h1:=Zmi h u.arrays.length (Yax _);rw[YaE,show c.arrays.take u.arrays.length=c.arrays by rw[<- h.1.2,YaE]] at h1;have h2:=h.1.1.1;unfold ZbE Zap;rw[Yae];push_cast;omega
theorem Zq5 {p:List Unit} {cs:List Cells} (hl:cs.length=p.length) (hc:ZbN p cs):∀k,k<=p.length->((ZaA (cs.take k)).length:Int)=Zaj p k
 | 0,_=>by simp[ZaA,Zaj,Zai]
 | k+1,hk=>by
  have hk1:k < p.length:=hk;have hk2:k < cs.length:=by omega
  have h1:=Zq5 hl hc k (by omega);have h2:=ZpJ (hc k hk2 hk1);unfold ZaA Zaj Zai at *;rw[Zay hk2,Zay hk1,List.flatMap_append,Yae,Yai,Ybq];simp only[YbQ,List.flatMap_nil,YaF,Yar,YaS,List.sum_cons,List.sum_nil];push_cast;omega
theorem Zw5 {g:GC} {name:Str} {i:Nat} (h:ZxZ g.u name=(i:Int)) (hb:0<=g.base/\g.base<=1000) (hi:i<=1000):(ZaD g name).1=g.base+i:=by have e:Zkq g.u name=(i:Int):=h;unfold ZaD;rw[if_pos (by rw[e];omega),e];exact I64.wrap (by unfold I64;omega)
theorem Zrc (name:Str):∀(l:List Arr) (at_:Int) (k:Nat) (hk:k < l.length),l[k].name=name->(∀j (hj:j < l.length),j < k->l[j].name≠name)->(∀a∈l,1<=a.size/\a.size<=10)->0<=at_->at_+10*l.length<=100000->Zfw name l at_=(at_+sizes (l.take k),l[k].size)
 | a :: l,at_,0,_,h,_,_,_,_=>by unfold Zfw;rw[if_pos (show a.name=name from h)];simp[sizes]
 | a :: l,at_,k+1,hk,h,hn,hs,h0,h1=>by
  unfold Zfw;rw[if_neg (show ¬a.name=name from hn 0 (by simp) (by omega))];have hs0:=hs a Yac;simp only[List.length_cons] at h1;have ew:IntKind.i64.wrap (at_+a.size)=at_+a.size:=I64.wrap (by unfold I64;omega);rw[ew,Zrc name l (at_+a.size) k (by simpa using hk) (by simpa using h) (λj hj hjk=>by have:=hn (j+1) (by simpa using hj) (by omega);simpa using this) (λb hb=>hs b (Yad _ hb)) (by omega) (by push_cast at h1;omega)];simp only[List.take_succ_cons,sizes,Yar,List.sum_cons,List.getElem_cons_succ]
  congr 1
  omega
theorem ZAE {u:Unit} (hd:¬Zk1 (u.vars++u.arrays.map Arr.name)) {name:Str} (ha:ZiU u name):name ∉ u.vars:=by
 intro hv;obtain ⟨a,hm,hn⟩:=ha;obtain ⟨k,hk,rfl⟩:=YaK hm;refine hd ⟨u.vars.length+k,by simp;omega,?_⟩;rw[Ybp (by omega)];simp only[Yb8,YcD];rw[hn];exact Ycy.2 (by
  obtain ⟨j,hj,e⟩:=YaK hv;exact ⟨j,by simp;omega,by rw[Ybv hj];exact e⟩)
theorem Zw6 {g:GC} (hd:¬Zk1 (g.u.vars++g.u.arrays.map Arr.name)) {name:Str} (ha:ZiU g.u name) {k:Nat} (hk:k < g.u.arrays.length) (h:ZxK g.u name=(k:Int)) (hs:∀a∈g.u.arrays,1<=a.size/\a.size<=10) (h3:g.u.arrays.length<=3) (hv:g.u.vars.length<=8) (hb:0<=g.base/\g.base<=1000) :
  ZaD g name=(g.base+g.u.vars.length+sizes (g.u.arrays.take k),g.u.arrays[k].size):=by
 have hnv:=ZAE hd ha;unfold ZaD;have e1:Zkq g.u name=-1:=Zf5 (λx hx e=>hnv (e▸hx));rw[if_neg (by rw[e1];decide)];rw[show IntKind.i64.wrap (g.base+g.u.vars.length)=g.base+g.u.vars.length from I64.wrap (by unfold I64;omega)];unfold ZxK at h;rcases Zbx (λa:Arr=>a.name=name) g.u.arrays with ⟨h1,_⟩ | ⟨i,hi,h1,h2,h4⟩
 ·rw[h1] at h;omega
 ·have:i=k:=by omega
  subst this;exact Zrc name g.u.arrays _ i hi h2 (λj hj hji=>h4 j hj hji) hs (by omega) (by omega)
def Zso (m:Zaf):Nat->MO->List PF->MO->List PF->Prop
 | 0,o,fs,o',fs'=>o'=o/\fs'=fs
 | n+1,o,fs,o',fs'=>∃pre t o1 fs1,fs=pre++[t]/\Barb.stepS m o pre t=.go o1 fs1/\Zso m n o1 fs1 o' fs'
def Zda (m:Zaf) (o:MO) (fs:List PF) (o':MO) (fs':List PF):Prop:=∃n,Zso m n o fs o' fs'
theorem Zso.trans {m:Zaf}:∀{n k:Nat} {o o1 o2:MO} {fs fs1 fs2:List PF},Zso m n o fs o1 fs1->Zso m k o1 fs1 o2 fs2->Zso m (n+k) o fs o2 fs2
 | 0,k,_,_,_,_,_,_,h,h2=>by obtain ⟨rfl,rfl⟩:=h;rw[YaA];exact h2
 | n+1,k,_,_,_,_,_,_,h,h2=>by obtain ⟨pre,t,o1,fs1,e1,e2,e3⟩:=h;rw[show n+1+k=n+k+1 from by omega];exact ⟨pre,t,o1,fs1,e1,e2,Zso.trans e3 h2⟩
theorem Zda.refl (m:Zaf) (o:MO) (fs:List PF):Zda m o fs o fs:=⟨0,rfl,rfl⟩
theorem Zda.trans {m:Zaf} {o o1 o2:MO} {fs fs1 fs2:List PF} (h:Zda m o fs o1 fs1) (k:Zda m o1 fs1 o2 fs2):Zda m o fs o2 fs2:=by obtain ⟨n,h⟩:=h;obtain ⟨j,k⟩:=k;exact ⟨n+j,h.trans k⟩
theorem Zda.step {m:Zaf} {o o1:MO} {pre fs1:List PF} {t:PF} (h:Barb.stepS m o pre t=.go o1 fs1):Zda m o (pre++[t]) o1 fs1:=⟨1,pre,t,o1,fs1,rfl,h,rfl,rfl⟩
def ZCm (m:Zaf) (o:MO) (fs:List PF) (e:Int) (o':MO):Prop:=∃pre t,fs=pre++[t]/\Barb.stepS m o pre t=.stop e 0 o'
def Zol (m:Zaf) (o:MO) (fs:List PF) (e:Int) (o':MO):Prop:=∃o1 fs1,Zda m o fs o1 fs1/\ZCm m o1 fs1 e o'
theorem Zda.ends {m:Zaf} {o o1 o2:MO} {fs fs1:List PF} {e:Int} (h:Zda m o fs o1 fs1) (k:Zol m o1 fs1 e o2):Zol m o fs e o2:=by obtain ⟨o3,fs3,k1,k2⟩:=k;exact ⟨o3,fs3,h.trans k1,k2⟩
theorem Zol.now {m:Zaf} {o o':MO} {pre:List PF} {t:PF} {e:Int} (h:Barb.stepS m o pre t=.stop e 0 o'):Zol m o (pre++[t]) e o':=⟨o,_,Zda.refl _ _ _,pre,t,rfl,h⟩
structure Img (p:List Unit) (m:Zaf):Prop where
 good:Zbd p=0
 len:p.length<=m.length
 code:∀u (h:u < p.length),(m.getD u Zas).code=ZdV p p[u] (Zaj p u)
 lo:∀u,u < p.length->(m.getD u Zas).lo=Zaj p u
 hi:∀u,u < p.length->(m.getD u Zas).hi=Zaj p (u+1)
 ents:∀u (h:u < p.length),(m.getD u Zas).entries=ZcX p[u].funcs (ZfP p p[u] (Zaj p u) p[u].funcs ⟨[],[],0,0⟩)
 most:∀u (h:u < p.length),(Zc1 p p[u] (Zaj p u)).most<=40
structure Bh where
 ws:List Int
 ns:List Nt
def Cov (C:List Nt) (n:Nat) (l:List Nt):Prop:=∃l',l=C++l'/\∀x∈l',x.by_ < (n:Int)
theorem Cov.same (C:List Nt) (n:Nat):Cov C n C:=⟨[],(YaF _).symm,λ_ h=>absurd h YaT⟩
theorem Cov.more {C:List Nt} {n:Nat} {l:List Nt} (h:Cov C n l) {x:Nt} (hx:x.by_ < (n:Int)):Cov C n (l++[x]):=by
 obtain ⟨l',rfl,h2⟩:=h;refine ⟨l'++[x],Yas _ _ _,λy hy=>?_⟩;rcases Yao.1 hy with h | h
 ·exact h2 y h
 ·rw[Yay.1 h];exact hx
theorem Cov.le {C:List Nt} {n:Nat} {l:List Nt} (h:Cov C n l):C.length<=l.length:=by obtain ⟨l',rfl,_⟩:=h;rw[Yae];omega
theorem ZoZ {α:Type} (f:α->α) (b:List α):∀(a:List α) (k:Nat),a.length<=k->(a++b).modify k f=a++b.modify (k - a.length) f
 | [],k,_=>by simp
 | x :: a,0,h=>by simp at h
 | x :: a,k+1,h=>by have ih:=ZoZ f b a k (by simpa using h);simp only[List.cons_append,List.modify_succ_cons,List.length_cons,Nat.add_sub_add_right];rw[ih]
theorem ZtR {α:Type} (f:α->α):∀(l:List α) (k:Nat) (x:α),x∈l.modify k f->x∈l\/∃y∈l,x=f y
 | [],k,x,h=>by simp at h
 | y :: l,0,x,h=>by
  rw[List.modify_zero_cons] at h;rcases Yav.1 h with rfl | h
  ·exact .inr ⟨y,Yac,rfl⟩
  ·exact .inl (Yad _ h)
 | y :: l,k+1,x,h=>by
  rw[List.modify_succ_cons] at h;rcases Yav.1 h with rfl | h
  ·exact .inl Yac
  ·rcases ZtR f l k x h with h | ⟨z,hz,e⟩
   ·exact .inl (Yad _ h)
   ·exact .inr ⟨z,Yad _ hz,e⟩
theorem Cov.note {C:List Nt} {n:Nat} {o:MO} (h:Cov C n o.calls) {k:Int} (hk:k < 0\/C.length<=k.toNat) (v:Int):Cov C n (Zbe o k v).calls:=by
 unfold Zbe;split
 ·have hk2:C.length<=k.toNat:=by omega
  obtain ⟨l',e,h2⟩:=h;refine ⟨l'.modify (k.toNat - C.length) (·.fin v),?_,λx hx=>?_⟩
  ·show o.calls.modify _ _=_;rw[e,ZoZ _ _ _ _ hk2]
  ·rcases ZtR _ _ _ _ hx with h | ⟨y,hy,e⟩
   ·exact h2 x h
   ·rw[e];exact h2 y hy
 ·exact h
structure Dat (X:Bh) (o:MO) (s:ES):Prop where
 told:o.told=s.told
 data:o.data=ZaA s.cells++X.ws
 calls:Cov X.ns s.cells.length o.calls
abbrev gcO (p:List Unit) (c:EC):GC:=⟨p,uAt p c.u,Zaj p c.u,c.f⟩
noncomputable abbrev atO (p:List Unit) (u:Nat):List Int:=ZfP p (uAt p u) (Zaj p u) (uAt p u).funcs ⟨[],[],0,0⟩
noncomputable abbrev cdO (p:List Unit) (u:Nat):List Instr:=ZdV p (uAt p u) (Zaj p u)
abbrev fr (u i:Nat) (locs ws:List Int) (nt:Int):PF:=⟨(u:Int),(i:Int),locs,ws,nt⟩
def Loc (locs ps:List Int):Prop:=locs.length=8/\ps.length<=4/\∀j,j < ps.length->locs.getD j 0=ps.getD j 0
section
variable {p:List Unit} {m:Zaf} (hm:Img p m)
include hm
theorem Ze6 {u i:Nat} (hu:u < p.length) {x:Instr} (h:(cdO p u)[i]?=some x) (o:MO) (pre:List PF) (locs ws:List Int) (nt:Int) :
  Barb.stepS m o pre (fr u i locs ws nt)=doS m (m.getD u Zas) x o pre (fr u (i+1) locs ws nt):=by
 have hc:=hm.code u hu;have e:cdO p u=ZdV p p[u] (Zaj p u):=by unfold cdO;rw[Zde hu]
 rw[e] at h;have hl:i < (ZdV p p[u] (Zaj p u)).length:=(Yaa.1 h).1;have h1:¬(fr u i locs ws nt).at_ >= ((m.getD (fr u i locs ws nt).part.toNat Zas).code.length:Int):=by show ¬(i:Int) >= ((m.getD ((u:Int)).toNat Zas).code.length:Int);rw[Int.toNat_natCast,hc];omega
 rw[Zs0 h1];have h2:(m.getD (fr u i locs ws nt).part.toNat Zas)=m.getD u Zas:=rfl;rw[h2,hc];have h3:(ZdV p p[u] (Zaj p u)).getD (fr u i locs ws nt).at_.toNat Zcp=x:=by show (ZdV p p[u] (Zaj p u)).getD ((i:Int)).toNat Zcp=x;rw[Int.toNat_natCast,Yal,h];rfl
 rw[h3];rfl
variable {u i:Nat} (hu:u < p.length) {o:MO} {pre:List PF} {locs ws w:List Int} {nt:Int}
include hu
theorem ZkP {a:Int} (h:(cdO p u)[i]?=some ⟨1,a,0,0⟩) (hw:ws.length < 40):Zda m o (pre++[fr u i locs ws nt]) o (pre++[fr u (i+1) locs (ws++[a]) nt]):=by refine Zda.step ?_;rw[Ze6 hm hu h,ZBf rfl];unfold ZcV;rw[if_neg (show ¬ws.length=40 by omega)];rfl
theorem ZAT {a:Nat} (h:(cdO p u)[i]?=some ⟨4,(a:Int),0,0⟩) (hw:ws.length < 40):Zda m o (pre++[fr u i locs ws nt]) o (pre++[fr u (i+1) locs (ws++[locs.getD a 0]) nt]):=by refine Zda.step ?_;rw[Ze6 hm hu h,ZBd rfl];unfold ZcV;rw[if_neg (show ¬ws.length=40 by omega)];rfl
theorem ZCa {x:Int} (h:(cdO p u)[i]?=some ⟨3,0,0,0⟩) (hw:w.length+1 < 40):Zda m o (pre++[fr u i locs (w++[x]) nt]) o (pre++[fr u (i+1) locs (w++[x]++[x]) nt]):=by refine Zda.step ?_;rw[Ze6 hm hu h,ZBe (k:=w.length) (x:=x) rfl (by simp) (by simp)];rw[if_neg (show ¬(w++[x]).length=40 by simp;omega)];rfl
theorem ZAS {x:Int} {a:Nat} (h:(cdO p u)[i]?=some ⟨5,(a:Int),0,0⟩):Zda m o (pre++[fr u i locs (w++[x]) nt]) o (pre++[fr u (i+1) (locs.set a x) w nt]):=by refine Zda.step ?_;rw[Ze6 hm hu h,ZBc (k:=w.length) (x:=x) rfl (by simp) (by simp)];simp[PF.ww]
theorem Zxz {x:Int} (h:(cdO p u)[i]?=some ⟨6,0,0,0⟩) (hx:Zaj p u<=x/\x < Zaj p (u+1)):Zda m o (pre++[fr u i locs (w++[x]) nt]) o (pre++[fr u (i+1) locs (w++[o.data.getD x.toNat 0]) nt]):=by refine Zda.step ?_;rw[Ze6 hm hu h,ZBb (k:=w.length) (x:=x) rfl (by simp) (by simp),if_pos (show ZfX (m.getD u Zas) x by unfold ZfX;rw[hm.lo u hu,hm.hi u hu];exact hx)];simp[PF.ww]
theorem Zub {x y:Int} (h:(cdO p u)[i]?=some ⟨7,0,0,0⟩) (hx:Zaj p u<=x/\x < Zaj p (u+1)):Zda m o (pre++[fr u i locs (w++[x,y]) nt]) { o with data:=o.data.set x.toNat y } (pre++[fr u (i+1) locs w nt]):=by refine Zda.step ?_;rw[Ze6 hm hu h,ZBa (k:=w.length) (x:=x) (y:=y) rfl (by simp) (by simp),if_pos (show ZfX (m.getD u Zas) x by unfold ZfX;rw[hm.lo u hu,hm.hi u hu];exact hx)];simp[PF.ww]
theorem ZCb {x y a:Int} (h:(cdO p u)[i]?=some ⟨8,a,0,0⟩):Zda m o (pre++[fr u i locs (w++[x,y]) nt]) o (pre++[fr u (i+1) locs (w++[doI a x y]) nt]):=by refine Zda.step ?_;rw[Ze6 hm hu h,ZA9 (k:=w.length) (x:=x) (y:=y) rfl (by simp) (by simp)];simp[PF.ww]
theorem Zuc {j:Nat} (h:(cdO p u)[i]?=some ⟨9,(j:Int),0,0⟩):Zda m o (pre++[fr u i locs ws nt]) o (pre++[fr u j locs ws nt]):=by refine Zda.step ?_;rw[Ze6 hm hu h,ZA8 rfl]
theorem ZyZ {j:Nat} (h:(cdO p u)[i]?=some ⟨10,(j:Int),0,0⟩):Zda m o (pre++[fr u i locs (w++[0]) nt]) o (pre++[fr u j locs w nt]):=by refine Zda.step ?_;rw[Ze6 hm hu h,ZuA (k:=w.length) (x:=0) rfl (by simp) (by simp)];simp[PF.ww]
theorem ZyY {j:Nat} {x:Int} (hx:x≠0) (h:(cdO p u)[i]?=some ⟨10,(j:Int),0,0⟩):Zda m o (pre++[fr u i locs (w++[x]) nt]) o (pre++[fr u (i+1) locs w nt]):=by refine Zda.step ?_;rw[Ze6 hm hu h,ZuA (k:=w.length) (x:=x) rfl (by simp) (by simp),if_neg hx];simp[PF.ww]
theorem ZAR {x:Int} (h:(cdO p u)[i]?=some ⟨14,0,0,0⟩) (ht:o.told.length≠500):Zda m o (pre++[fr u i locs (w++[x]) nt]) { o with told:=o.told++[x] } (pre++[fr u (i+1) locs w nt]):=by refine Zda.step ?_;rw[Ze6 hm hu h,Zuy (k:=w.length) (x:=x) rfl (by simp) (by simp),if_neg ht];simp[PF.ww]
theorem Zzi {x:Int} (h:(cdO p u)[i]?=some ⟨14,0,0,0⟩) (ht:o.told.length=500):Zol m o (pre++[fr u i locs (w++[x]) nt]) 6 o:=by refine Zol.now ?_;rw[Ze6 hm hu h,Zuy (k:=w.length) (x:=x) rfl (by simp) (by simp),if_pos ht]
theorem Zzh (h:(cdO p u)[i]?=some ⟨15,0,0,0⟩):Zol m o (pre++[fr u i locs ws nt]) 2 o:=by refine Zol.now ?_;rw[Ze6 hm hu h,ZxF rfl]
theorem ZB9 {x:Int} {t:PF} (h:(cdO p u)[i]?=some ⟨13,0,0,0⟩) (ht:t.ws.length < 40):∃o',Zda m o (pre++[t]++[fr u i locs [x] nt]) o' (pre++[t.ww (t.ws++[x])])/\o'.told=o.told/\o'.data=o.data/\o'=Zbe o nt x:=by
 refine ⟨Zbe o nt x,Zda.step ?_,?_,?_,rfl⟩
 ·rw[Ze6 hm hu h,Zuz (k:=0) (x:=x) rfl rfl rfl];simp only[Yb2,List.getLast?_singleton,Option.some_or,Yb3];unfold ZcV;rw[if_neg (show ¬t.ws.length=40 by omega)]
 ·unfold Zbe;split<;>rfl
 ·unfold Zbe;split<;>rfl
theorem ZxA {g:GC} {s:Str} {v:Int} (hA:At (cdO p u) (atO p u) i (Zie g s i)) (hw:w.length+3<=40) (hv:0<=v/\v<=65535) (ha:0<=(ZaD g s).1/\(ZaD g s).1<=10000) (hz:0<=(ZaD g s).2/\(ZaD g s).2<=10000) :
  ((ZaD g s).2<=v->Zol m o (pre++[fr u i locs (w++[v]) nt]) 2 o)/\(v < (ZaD g s).2->Zda m o (pre++[fr u i locs (w++[v]) nt]) o (pre++[fr u (i+8) locs (w++[(ZaD g s).1+v]) nt])):=by
 unfold Zie at hA;obtain ⟨a0,hA⟩:=hA.cons;obtain ⟨a1,hA⟩:=hA.cons;obtain ⟨a2,hA⟩:=hA.cons;obtain ⟨a3,hA⟩:=hA.cons;obtain ⟨a4,hA⟩:=hA.cons;obtain ⟨a5,hA⟩:=hA.cons;obtain ⟨a6,hA⟩:=hA.cons;have a7:=hA.one;simp only[Ybc,Nat.reduceAdd] at a1 a2 a3 a4 a5 a6 a7;have s1:Zda m o (pre++[fr u i locs (w++[v]) nt]) o (pre++[fr u (i+3) locs (w++[v]++[doI 7 v (ZaD g s).2]) nt]):=by refine (ZCa hm hu a0 (by omega)).trans ((ZkP hm hu (ws:=w++[v]++[v]) a1 (by simp;omega)).trans ?_);have:=ZCb hm hu (o:=o) (pre:=pre) (locs:=locs) (nt:=nt) (w:=w++[v]) (x:=v) (y:=(ZaD g s).2) a2;simpa using this
 refine ⟨λhle=>?_,λhlt=>?_⟩
 ·have e:doI 7 v (ZaD g s).2=0:=by unfold doI;rw[if_neg (by omega),if_pos (by omega)];show ((did 7 v.toNat (ZaD g s).2.toNat:Nat):Int)=0;simp only[did];rw[if_neg (by omega)];rfl
  rw[e] at s1;exact (s1.trans (ZyZ hm hu (j:=i+5) a3)).ends (Zzh hm hu a5)
 ·have e:doI 7 v (ZaD g s).2=1:=by unfold doI;rw[if_neg (by omega),if_pos (by omega)];show ((did 7 v.toNat (ZaD g s).2.toNat:Nat):Int)=1;simp only[did];rw[if_pos (by omega)];rfl
  have e2:doI 1 v (ZaD g s).1=(ZaD g s).1+v:=by unfold doI;rw[if_neg (by omega),if_pos (by omega)];show ((did 1 v.toNat (ZaD g s).1.toNat:Nat):Int)=_;simp only[did];omega
  rw[e] at s1;refine (s1.trans (ZyY hm hu (j:=i+5) (by decide) a3)).trans ((Zuc hm hu (j:=i+6) a4).trans ((ZkP hm hu (ws:=w++[v]) a6 (by simp;omega)).trans ?_));have:=ZCb hm hu (o:=o) (pre:=pre) (locs:=locs) (nt:=nt) (w:=w) (x:=v) (y:=(ZaD g s).1) a7;rw[e2] at this;simpa using this
end
section
variable {p:List Unit} {s:ES} {o:MO} {X:Bh} (hs:SI p s) (D:Dat X o s) {u:Nat} (hu:u < p.length)
include hs hu
theorem Zq4:Zaj p u=(((ZaA (s.cells.take u)).length:Nat):Int):=(Zq5 hs.len hs.ok u (by omega)).symm
theorem ZqY:((ZbE (cAt s u)).length:Int)=Zap (uAt p u):=ZpJ (hs.cell hu)
theorem ZxJ:cAt s u=s.cells[u]'(by rw[hs.len];exact hu):=Zn5 (by rw[hs.len];exact hu)
include D
theorem ZuG {j:Nat} (hj:j < (ZbE (cAt s u)).length):o.data.getD (Zaj p u+(j:Int)).toNat 0=(ZbE (cAt s u)).getD j 0:=by
 have hl:u < s.cells.length:=by rw[hs.len];exact hu
 rw[ZxJ hs hu] at hj ⊢;have h1:=ZwF hl hj;rw[Zq4 hs hu,D.data,show (((ZaA (s.cells.take u)).length:Nat)+(j:Int):Int).toNat=(ZaA (s.cells.take u)).length+j from by omega,<- h1];have hlen:(ZaA (s.cells.take u)).length+j < (ZaA s.cells).length:=by unfold ZaA;rw[Zjt ZbE s.cells u hl,Yae,Yae];omega
 rw[Yal,Yal,Yaj hlen]
theorem ZuF {j:Nat} (hj:j < (ZbE (cAt s u)).length) {c:Cells} {n:Int} (hc:ZbE c=(ZbE (cAt s u)).set j n):Dat X { o with data:=o.data.set (Zaj p u+(j:Int)).toNat n } { s with cells:=s.cells.set u c }:=by
 have hl:u < s.cells.length:=by rw[hs.len];exact hu
 refine ⟨D.told,?_,by show Cov X.ns (s.cells.set u c).length o.calls;rw[Ybd];exact D.calls⟩;show o.data.set _ n=ZaA (s.cells.set u c)++X.ws;rw[ZxJ hs hu] at hj hc;have hlen:(ZaA (s.cells.take u)).length+j < (ZaA s.cells).length:=by unfold ZaA;rw[Zjt ZbE s.cells u hl,Yae,Yae];omega
 rw[ZwD hl hj hc,Zq4 hs hu,D.data,show (((ZaA (s.cells.take u)).length:Nat)+(j:Int):Int).toNat=(ZaA (s.cells.take u)).length+j from by omega,YbR _ _ hlen]
end
structure Adr (p:List Unit) (u:Nat):Prop where
 base:0<=Zaj p u/\Zaj p u<=1000
 next:Zaj p (u+1)=Zaj p u+Zap (uAt p u)
 vars:(uAt p u).vars.length<=8
 arrs:(uAt p u).arrays.length<=3
 size:∀a∈(uAt p u).arrays,1<=a.size/\a.size<=10
 own:¬Zk1 ((uAt p u).vars++(uAt p u).arrays.map Arr.name)
theorem Zrb {p:List Unit} (hg:Zbd p=0) {u:Nat} (hu:u < p.length):Adr p u:=by
 have hP:=PI.of hg;obtain ⟨_,hU,hw,hS⟩:=Za5 hg;have hm:=Zdm hu;obtain ⟨_,u1,u2,_,_,u6,_⟩:=Zau (hU _ hm);have hnn:∀v∈p,0<=Zap v:=λv hv=>(ZbU (hU v hv)).1;have hsum:∀l:List Unit,(∀v∈l,0<=Zap v)->0<=Zai l:=by
  intro l
  induction l with
  | nil=>intro _;simp[Zai]
  | cons v l ih =>intro h;have h1:=h v Yac;have h2:=ih (λw hw=>h w (Yad _ hw));unfold Zai at h2 ⊢;simp only[Yar,List.sum_cons];omega
 have hb:Zaj p u+Zai (p.drop u)=Zai p:=by unfold Zaj Zai;rw[<- Ybq,<- Yai,Ya4]
 have h1:=hsum (p.take u) (λv hv=>hnn v (YaH hv));have h2:=hsum (p.drop u) (λv hv=>hnn v (YaU hv));refine ⟨⟨h1,by omega⟩,by rw[ZeS hu,Zde hu],u1,u2,λa ha=>(Zd6 (u6 a ha)).2,λhd=>?_⟩;have:=hS _ hm;unfold Zgc at this;rw[if_pos (.inl hd)] at this;omega
theorem Zrq {l:List Arr} (h:∀a∈l,1<=a.size/\a.size<=10) {k:Nat} (hk:k < l.length):0<=sizes (l.take k)/\sizes (l.take k)+l[k].size<=sizes l/\sizes l<=10*l.length:=by
 have h1:=(ZeC (λa ha=>h a (YaH (i:=k) ha))).1;have h2:=Zhq hk;have h3:sizes l=sizes (l.take (k+1))+sizes (l.drop (k+1)):=by unfold sizes;rw[<- Ybq,<- Yai,Ya4]
 have h4:=(ZeC (λa ha=>h a (YaU (i:=k+1) ha))).1;have h5:=(ZeC h).2;omega
def Zkm (m:Zaf) (X:Bh) (o:MO) (fs:List PF) (fs':Int->List PF):RR Int->Prop
 | .ok v s'=>∃o',Zda m o fs o' (fs' v)/\Dat X o' s'
 | .stop e s'=>e=3\/∃o',Zol m o fs e o'/\Dat X o' s'
def QsE (p:List Unit) (m:Zaf) (X:Bh) (g:Nat):Prop:=∀(c:EC) (ps:List Int) (x:Expr) (s:ES),CI p c->SI p s->wds ps->XI p c x->∀(o:MO) (pre:List PF) (i:Nat) (locs ws:List Int) (nt:Int),pre.length=c.deep->At (cdO p c.u) (atO p c.u) i (ccE (gcO p c) x i)->Loc locs ps->ps.length=c.f.params.length->ws.length+hE x<=40->Dat X o s ->
 Zkm m X o (pre++[fr c.u i locs ws nt]) (λv=>pre++[fr c.u (i+(ccE (gcO p c) x i).length) locs (ws++[v]) nt]) (evE p g c ps x s)
def ZCK (p:List Unit) (m:Zaf) (X:Bh) (u:Nat) (o:MO) (fs pre:List PF) (nt:Int):RR Int->Prop
 | .ok v s'=>∃o' j locs',Zda m o fs o' (pre++[fr u j locs' [v] nt])/\(cdO p u)[j]?=some ⟨13,0,0,0⟩/\Dat X o' s'
 | .stop e s'=>e=3\/∃o',Zol m o fs e o'/\Dat X o' s'
def QsC (p:List Unit) (m:Zaf) (X:Bh) (g:Nat):Prop:=∀(u k:Nat) (args:List Int) (deep:Nat) (s:ES),u < p.length->k < (uAt p u).funcs.length->args.length=((uAt p u).funcs.getD k noF).params.length->wds args->SI p s->deep<=19->∀(o:MO) (pre:List PF) (nt:Int) (i:Nat),pre.length=deep->(atO p u)[k]?=some (i:Int)->Dat X o s ->
 ZCK p m X u o (pre++[fr u i (p8 args) [] nt]) pre nt (Zb6 p (evS p g) u k args deep s)
theorem Zkm.lead {m:Zaf} {X:Bh} {o o1:MO} {fs fs1:List PF} {fs':Int->List PF} {r:RR Int} (h:Zda m o fs o1 fs1) (k:Zkm m X o1 fs1 fs' r):Zkm m X o fs fs' r:=by
 cases r with
 | ok v s'=>obtain ⟨o',k1,k2⟩:=k;exact ⟨o',h.trans k1,k2⟩
 | stop e s' =>
  rcases k with k | ⟨o',k1,k2⟩
  ·exact .inl k
  ·exact .inr ⟨o',h.ends k1,k2⟩
theorem XI.open_ {p:List Unit} {c:EC} {x:Expr} (h:XI p c x) (hk:x.k=4) (ho:x.of≠[]):∃(j:Nat) (hj:j < p.length) (i:Nat) (hi:i < p[j].funcs.length),Zba p x.of=(j:Int)/\Zbz p[j] x.s=(i:Int)/\p[j].funcs[i].params.length=x.args.length/\p[j].funcs[i].isOpen=true:=by have h1:=h.inv.2.2.2.2.1;unfold Za3 at h1;rw[if_neg (by omega),if_pos hk] at h1;obtain ⟨j,hj,e1,e2⟩:=ZeQ h1 ho;obtain ⟨i,hi,f1,f2,f3,_⟩:=Zcs e2;exact ⟨j,hj,i,hi,e1,f1,f2,f3 ho⟩
theorem Zut:∀(l:List Fun) (a:List Int) (k:Nat) (hk:k < l.length) (ha:k < a.length),l[k].isOpen=true->(ZcX l a)[(Zc5 (l.take k)).toNat]?=some ⟨a[k],l[k].params.length⟩
 | f :: l,x :: a,0,_,_,h=>by have h:f.isOpen=true:=h;simp[ZcX,h,Zc5]
 | f :: l,x :: a,k+1,hk,ha,h=>by
  have ih:=Zut l a k (by simpa using hk) (by simpa using ha) (by simpa using h);have h0:=(ZiH (l.take k)).1;have e:Zc5 ((f :: l).take (k+1))=Zc5 (l.take k)+if f.isOpen then 1 else 0:=by unfold Zc5;rw[List.take_succ_cons,List.filter_cons];split<;>simp
  rw[e];unfold ZcX;split
  ·rename_i hf;rw[show (Zc5 (l.take k)+1).toNat=(Zc5 (l.take k)).toNat+1 by omega,List.getElem?_cons_succ];simpa using ih
  ·rename_i hf;rw[Int.add_zero];simpa using ih
theorem Zm5 (ats:List Int) {x:Instr} (h:x.op≠11):pt ats x=x:=by unfold pt;rw[if_neg h]
section
variable {p:List Unit} {m:Zaf} (hm:Img p m) {X:Bh} {g:Nat} (hE:QsE p m X g) (hC:QsC p m X g)
def ZCn (m:Zaf) (X:Bh) (o:MO) (fs:List PF) (fs':List Int->List PF):RR (List Int)->Prop
 | .ok v s'=>∃o',Zda m o fs o' (fs' v)/\Dat X o' s'
 | .stop e s'=>e=3\/∃o',Zol m o fs e o'/\Dat X o' s'
include hm hE in
theorem qsL {c:EC} {ps:List Int} (hc:CI p c) (hps:wds ps) (hpl:ps.length=c.f.params.length) (nt:Int) (pre:List PF) (hpre:pre.length=c.deep) {locs:List Int} (hL:Loc locs ps):∀(l:List Expr) (s:ES),SI p s->(∀y∈l,XI p c y)->∀(o:MO) (i:Nat) (ws:List Int),At (cdO p c.u) (atO p c.u) i (Zmv (gcO p c) l i)->ws.length+hEs l<=40->Dat X o s ->
  ZCn m X o (pre++[fr c.u i locs ws nt]) (λv=>pre++[fr c.u (i+(Zmv (gcO p c) l i).length) locs (ws++v) nt]) (ZcW (evE p g c ps) l s)
 | [],s,hs,_,o,i,ws,hA,hh,D=>by refine ⟨o,?_,D⟩;rw[Zmv];simpa using Zda.refl m o (pre++[fr c.u i locs ws nt])
 | x :: l,s,hs,hx,o,i,ws,hA,hh,D=>by
  rw[Zmv] at hA;obtain ⟨A1,A2⟩:=hA.app;rw[hEs] at hh;have h1:=hE c ps x s hc hs hps (hx x Yac) o pre i locs ws nt hpre A1 hL hpl (by omega) D;have hI:=(ZdT (PI.of hm.good) g).1 c ps x s hc hs hps (hx x Yac);change RI p s wd (evE p g c ps x s) at hI;show ZCn m X o _ _ ((evE p g c ps x s).bind λn s=>(ZcW (evE p g c ps) l s).bind λns s=>.ok (n :: ns) s);cases hr:evE p g c ps x s with
  | stop e s1 =>rw[hr] at h1;exact h1
  | ok n s1 =>
   rw[hr] at h1 hI;obtain ⟨o1,G1,D1⟩:=h1;have h2:=qsL hc hps hpl nt pre hpre hL l s1 hI.1 (λy hy=>hx y (Yad _ hy)) o1 _ (ws++[n]) A2 (by simp;omega) D1;show ZCn m X o _ _ ((ZcW (evE p g c ps) l s1).bind λns s=>.ok (n :: ns) s);cases hr2:ZcW (evE p g c ps) l s1 with
   | stop e s2 =>
    rw[hr2] at h2;rcases h2 with h2 | ⟨o2,E2,D2⟩
    ·exact .inl h2
    ·exact .inr ⟨o2,G1.ends E2,D2⟩
   | ok ns s2 =>rw[hr2] at h2;obtain ⟨o2,G2,D2⟩:=h2;refine ⟨o2,?_,D2⟩;have G:=G1.trans G2;rw[Zmv,Yae];simpa [Nat.add_assoc] using G
theorem Loc.get {locs ps:List Int} (h:Loc locs ps) {j:Nat} (hj:j < ps.length):locs.getD j 0=ps.getD j 0:=h.2.2 j hj
include hm in
theorem ZpG {c:EC} (hc:CI p c) {s:ES} (hs:SI p s) {o:MO} (D:Dat X o s) {i:Nat} (hi:i < (uAt p c.u).vars.length) {name:Str} (hv:ZxZ (uAt p c.u) name=(i:Int)):(ZaD (gcO p c) name).1=Zaj p c.u+(i:Int)/\(Zaj p c.u<=Zaj p c.u+(i:Int)/\Zaj p c.u+(i:Int) < Zaj p (c.u+1))/\o.data.getD (Zaj p c.u+(i:Int)).toNat 0=(cAt s c.u).vars.getD i 0/\∀n,Dat X { o with data:=o.data.set (Zaj p c.u+(i:Int)).toNat n } (s.setV c.u i n):=by
 have A:=Zrb hm.good hc.u;have hcell:=hs.cell hc.u;have hv2:i < (cAt s c.u).vars.length:=by have:=hcell.1.1.1;omega
 have hcl:=ZqY hs hc.u;have hfl:(ZbE (cAt s c.u)).length=(cAt s c.u).vars.length+(cAt s c.u).arrays.flatten.length:=by unfold ZbE;rw[Yae]
 have hj:i < (ZbE (cAt s c.u)).length:=by omega
 refine ⟨Zw5 hv A.base (by have:=A.vars;omega),⟨by omega,by rw[A.next];omega⟩,?_,λn=>?_⟩
 ·rw[ZuG hs D hc.u hj,ZxX _ hv2]
 ·exact ZuF hs D hc.u hj (ZxW _ hv2 n)
include hm in
theorem ZuY {c:EC} (hc:CI p c) {s:ES} (hs:SI p s) {o:MO} (D:Dat X o s) {name:Str} (ha:ZiU (uAt p c.u) name):∃k,k < (uAt p c.u).arrays.length/\ZxK (uAt p c.u) name=(k:Int)/\(0<=(ZaD (gcO p c) name).1/\(ZaD (gcO p c) name).1<=10000)/\(ZaD (gcO p c) name).2=(((cAt s c.u).arrays.getD k []).length:Int)/\(0<=(ZaD (gcO p c) name).2/\(ZaD (gcO p c) name).2<=10000) /\
  ∀v:Nat,v < ((cAt s c.u).arrays.getD k []).length->(Zaj p c.u<=(ZaD (gcO p c) name).1+(v:Int)/\(ZaD (gcO p c) name).1+(v:Int) < Zaj p (c.u+1))/\o.data.getD ((ZaD (gcO p c) name).1+(v:Int)).toNat 0=((cAt s c.u).arrays.getD k []).getD v 0/\∀n,Dat X { o with data:=o.data.set ((ZaD (gcO p c) name).1+(v:Int)).toNat n } (s.setA c.u k v n):=by
 have A:=Zrb hm.good hc.u;have hcell:=hs.cell hc.u;obtain ⟨k,hk,hak⟩:=ZuZ ha;have hk2:k < (cAt s c.u).arrays.length:=by rw[hcell.1.2];exact hk
 have e:(cAt s c.u).arrays.getD k []=(cAt s c.u).arrays[k]:=by simp[hk2]
 have hsz:=(hcell.2 k hk2 hk).1;rw[<- e] at hsz;have hss:=Zrq A.size hk;have hs10:=A.size _ (Yah hk);have haddr:=Zw6 (g:=gcO p c) A.own ha hk hak A.size A.arrs A.vars A.base;have hb:=A.base;have hvl:=A.vars;have hal:=A.arrs;have e1:(ZaD (gcO p c) name).1=Zaj p c.u+((uAt p c.u).vars.length:Int)+sizes ((uAt p c.u).arrays.take k):=by rw[haddr]
 have e2:(ZaD (gcO p c) name).2=(uAt p c.u).arrays[k].size:=by rw[haddr]
 have hoff:((Zif (cAt s c.u) k:Nat):Int)=((uAt p c.u).vars.length:Int)+sizes ((uAt p c.u).arrays.take k):=by have h1:=Zmi hcell k (by omega);have h2:=hcell.1.1.1;unfold Zif;push_cast;omega
 have hcl:=ZqY hs hc.u;have huw:Zap (uAt p c.u)=((uAt p c.u).vars.length:Int)+sizes (uAt p c.u).arrays:=rfl;refine ⟨k,hk,hak,⟨by omega,by omega⟩,by omega,⟨by omega,by omega⟩,λv hv=>?_⟩;have hj:Zif (cAt s c.u) k+v < (ZbE (cAt s c.u)).length:=by omega
 have ea:(ZaD (gcO p c) name).1+(v:Int)=Zaj p c.u+((Zif (cAt s c.u) k+v:Nat):Int):=by push_cast;omega
 refine ⟨⟨by omega,by rw[A.next];omega⟩,?_,λn=>?_⟩
 ·rw[ea,ZuG hs D hc.u hj,ZzD _ hk2 hv]
 ·rw[ea];exact ZuF hs D hc.u hj (ZzC _ hk2 hv n)
end
section
variable {p:List Unit} {m:Zaf} (hm:Img p m) {X:Bh} {g:Nat} (hE:QsE p m X g) (hC:QsC p m X g)
theorem At.map {C:List Instr} {ats:List Int} {i:Nat} {x:Instr} (h:At C ats i [x]) (ho:x.op≠11):C[i]?=some x:=by rw[h.one,Zm5 ats ho]
theorem ZxI (g:GC) (x:Expr) (i:Nat):ccE g x i=Zmv g x.args i++Zid g x.k x.n x.of x.s x.args.length (i+(Zmv g x.args i).length):=by cases x;rw[ccE];rfl
theorem ZB8 (x:Expr):Barb.hE x=max (hEs x.args) (if x.k=3 then 3 else 1):=by cases x;rw[Barb.hE];rfl
include hm hC in
theorem ZBZ {c:EC} (hc:CI p c) {x:Expr} (hx:XI p c x) (hk:x.k=4) {s:ES} (hs:SI p s) {ns:List Int} (hnl:ns.length=x.args.length) (hnw:wds ns) {o:MO} (D:Dat X o s) {pre:List PF} (hpre:pre.length=c.deep) {locs ws:List Int} {nt:Int} {j:Nat} (hA:At (cdO p c.u) (atO p c.u) j [ZjX (gcO p c) x.of x.s x.args.length]) (hw:ws.length < 40) :
  Zkm m X o (pre++[fr c.u j locs (ws++ns) nt]) (λv=>pre++[fr c.u (j+1) locs (ws++[v]) nt]) (Zb6 p (evS p g) (toU p c x.of) (Zbz (uAt p (toU p c x.of)) x.s).toNat ns (c.deep+1) s):=by
 obtain ⟨t1,fi,t2,t3,t4,_⟩:=hx.ask hc hk;rw[t2,Int.toNat_natCast];have hcd:=hc.deep;have key:∀(u':Nat) (o1:MO) (nt':Int) (i':Nat),(nt' < 0\/X.ns.length<=nt'.toNat)->u'=toU p c x.of->(atO p u')[fi]?=some (i':Int)->Dat X o1 s->Zda m o (pre++[fr c.u j locs (ws++ns) nt]) o1 (pre++[fr c.u (j+1) locs ws nt]++[fr u' i' (p8 ns) [] nt'])->c.deep+1<=19 ->
   Zkm m X o (pre++[fr c.u j locs (ws++ns) nt]) (λv=>pre++[fr c.u (j+1) locs (ws++[v]) nt]) (Zb6 p (evS p g) (toU p c x.of) fi ns (c.deep+1) s):=by
  intro u' o1 nt' i' hnt hu' hat D1 G1 hd;subst hu';have h:=hC (toU p c x.of) fi ns (c.deep+1) s t1 t3 (hnl.trans t4.symm) hnw hs hd o1 (pre++[fr c.u (j+1) locs ws nt]) nt' i' (by simp[hpre]) hat D1;cases hr:Zb6 p (evS p g) (toU p c x.of) fi ns (c.deep+1) s with
  | ok v s' =>rw[hr] at h;obtain ⟨o2,j2,locs2,G2,hret,D2⟩:=h;obtain ⟨o3,G3,e1,e2,e3⟩:=ZB9 hm t1 (o:=o2) (pre:=pre) (t:=fr c.u (j+1) locs ws nt) (locs:=locs2) (nt:=nt') (x:=v) hret hw;exact ⟨o3,(G1.trans G2).trans G3,⟨e1.trans D2.told,e2.trans D2.data,by rw[e3];exact D2.calls.note hnt v⟩⟩
  | stop e s' =>
   rw[hr] at h;rcases h with h | ⟨o2,E2,D2⟩
   ·exact .inl h
   ·exact .inr ⟨o2,G1.ends E2,D2⟩
 have stop5:∀o1,20<=c.deep+1->Zol m o (pre++[fr c.u j locs (ws++ns) nt]) 5 o1->Dat X o1 s->Zkm m X o (pre++[fr c.u j locs (ws++ns) nt]) (λv=>pre++[fr c.u (j+1) locs (ws++[v]) nt]) (Zb6 p (evS p g) (toU p c x.of) fi ns (c.deep+1) s):=by intro o1 hd h5 D1;unfold Zb6;rw[if_pos hd];exact .inr ⟨o1,h5,D1⟩
 have hlen:(fr c.u (j+1) locs (ws++ns) nt).ws.length=ws.length+x.args.length:=by show (ws++ns).length=_;rw[Yae,hnl]
 have hdrop:(fr c.u (j+1) locs (ws++ns) nt).ws.drop ws.length=ns:=by show (ws++ns).drop ws.length=ns;simp
 have htake:(fr c.u (j+1) locs (ws++ns) nt).ww ((fr c.u (j+1) locs (ws++ns) nt).ws.take ws.length)=fr c.u (j+1) locs ws nt:=by show (⟨_,_,_,(ws++ns).take ws.length,_⟩:PF)=_;simp
 by_cases ho:x.of=[]
 ·have hu0:toU p c x.of=c.u:=by unfold toU;rw[if_pos ho]
  have h1:=hA.one;unfold ZjX at h1;rw[if_pos ho] at h1;obtain ⟨i',hi',_⟩:=Zqx p (uAt p c.u) (Zaj p c.u) fi (by rw[<- hu0];exact t3);rw[hu0] at t2;have hpt:pt (atO p c.u) ⟨11,Zbz (gcO p c).u x.s,(x.args.length:Int),0⟩=⟨11,(i':Int),(x.args.length:Int),0⟩:=by unfold pt;rw[if_pos rfl];show (⟨11,(atO p c.u).getD (Zbz (uAt p c.u) x.s).toNat 0,_,_⟩:Instr)=_;rw[t2,Int.toNat_natCast,Yal,hi'];rfl
  rw[hpt] at h1;have hst:=Ze6 hm hc.u h1 o pre locs (ws++ns) nt;rw[ZxH (q:=x.args.length) (k:=ws.length) rfl rfl hlen,hdrop,htake] at hst;by_cases hd:pre.length+1=20
  ·rw[if_pos hd] at hst;exact stop5 o (by omega) (Zol.now hst) D
  ·rw[if_neg hd] at hst;exact key c.u o (-1) i' (.inl (by decide)) hu0.symm hi' D (Zda.step hst) (by omega)
 ·obtain ⟨ju,hju,fi2,hfi2,e1,e2,e3,e4⟩:=hx.open_ hk ho;have hu1:toU p c x.of=ju:=by unfold toU;rw[if_neg ho,e1,Int.toNat_natCast]
  have hfi:fi=fi2:=by rw[hu1,Zde hju] at t2;omega
  subst hfi;have h1:=hA.map (by unfold ZjX;rw[if_neg ho];show (12:Int)≠11;decide);unfold ZjX at h1;rw[if_neg ho] at h1;have hg:(gcO p c).p.getD (Zba (gcO p c).p x.of).toNat ⟨[],[],[],[]⟩=p[ju]:=by show p.getD (Zba p x.of).toNat _=_;rw[e1,Int.toNat_natCast];simp[hju]
  rw[hg,e2,show Zba (gcO p c).p x.of=(ju:Int) from e1] at h1;have hent:Zhc p[ju] (fi:Int)=Zc5 (p[ju].funcs.take fi):=by unfold Zhc;rw[Int.toNat_natCast]
  rw[hent] at h1;obtain ⟨i',hi',_⟩:=Zqx p (uAt p ju) (Zaj p ju) fi (by rw[Zde hju];exact hfi2);have hal:fi < (atO p ju).length:=(Yaa.1 hi').1;have hai:(atO p ju)[fi]=(i':Int):=(Yaa.1 hi').2;have hen:=Zut p[ju].funcs (atO p ju) fi hfi2 hal e4;have h0:=(ZiH (p[ju].funcs.take fi)).1;have hme:(m.getD ju Zas).entries=ZcX p[ju].funcs (atO p ju):=by rw[hm.ents ju hju];unfold atO;rw[Zde hju]
  have hge:(m.getD (ju:Int).toNat Zas).entries.getD (Zc5 (p[ju].funcs.take fi)).toNat ZbJ=⟨(i':Int),(x.args.length:Int)⟩:=by rw[Int.toNat_natCast,hme,Yal,hen,hai,e3];rfl
  have hst:=Ze6 hm hc.u h1 o pre locs (ws++ns) nt;have hel:(Zc5 (p[ju].funcs.take fi)).toNat < (m.getD ju Zas).entries.length:=by rw[hme];exact (Yaa.1 hen).1
  have hbad:¬ZcJ m ⟨12,(ju:Int),Zc5 (p[ju].funcs.take fi),(x.args.length:Int)⟩:=by
   unfold ZcJ;have hml:=hm.len;rintro (h | h | h)
   ·have:((ju:Nat):Int) >= ((m.length:Nat):Int):=h;omega
   ·have:Zc5 (p[ju].funcs.take fi) >= (((m.getD (ju:Int).toNat Zas).entries.length:Nat):Int):=h;rw[Int.toNat_natCast] at this;omega
   ·exact h (by show ((m.getD (ju:Int).toNat Zas).entries.getD (Zc5 (p[ju].funcs.take fi)).toNat ZbJ).params=_;rw[hge])
  rw[ZxG (q:=x.args.length) (k:=ws.length) rfl rfl hlen,if_neg hbad,hdrop,htake] at hst;have hat:((m.getD (ju:Int).toNat Zas).entries.getD (Zc5 (p[ju].funcs.take fi)).toNat ZbJ).at_=(i':Int):=by rw[hge]
  by_cases h100:o.calls.length < 100
  ·rw[if_pos h100] at hst;by_cases hd:pre.length+1=20
   ·rw[if_pos hd] at hst;exact stop5 _ (by omega) (Zol.now hst) ⟨D.told,D.data,D.calls.more (by show (c.u:Int) < _;rw[hs.len];have:=hc.u;omega)⟩
   ·rw[if_neg hd] at hst;refine key ju { o with calls:=o.calls++[⟨(c.u:Int),(ju:Int),Zc5 (p[ju].funcs.take fi),ns,((pre.length+1:Nat):Int),false,0⟩] } (o.calls.length:Int) i' (.inr (by rw[Int.toNat_natCast];exact D.calls.le)) hu1.symm hi' ⟨D.told,D.data,D.calls.more (by show (c.u:Int) < _;rw[hs.len];have:=hc.u;omega)⟩ (Zda.step (hst.trans ?_)) (by omega);show R.go _ (_++[⟨_,((m.getD (ju:Int).toNat Zas).entries.getD (Zc5 (p[ju].funcs.take fi)).toNat ZbJ).at_,_,_,_⟩])=_;rw[hat]
  ·rw[if_neg h100] at hst;by_cases hd:pre.length+1=20
   ·rw[if_pos hd] at hst;exact stop5 o (by omega) (Zol.now hst) D
   ·rw[if_neg hd] at hst;refine key ju o (-1) i' (.inl (by decide)) hu1.symm hi' D (Zda.step (hst.trans ?_)) (by omega);show R.go _ (_++[⟨_,((m.getD (ju:Int).toNat Zas).entries.getD (Zc5 (p[ju].funcs.take fi)).toNat ZbJ).at_,_,_,_⟩])=_;rw[hat]
include hm hE hC in
theorem qsE:QsE p m X (g+1):=by
 intro c ps x s hc hs hps hx o pre i locs ws nt hpre hA hL hpl hh D;have hP:=PI.of hm.good;by_cases h0:s.fuel=0
 ·rw[ZjM p _ c ps x s h0];exact .inl rfl
 rw[ZqI p g c ps x s h0];have hs1:SI p { s with fuel:=s.fuel - 1 }:=hs.fuel _;have D1:Dat X o { s with fuel:=s.fuel - 1 }:=⟨D.told,D.data,D.calls⟩;revert hs1 D1;generalize ({ s with fuel:=s.fuel - 1 }:ES)=s1;intro hs1 D1;have hinv:=hx.inv;have A:=Zrb hm.good hc.u;rw[ZxI] at hA;rw[ZB8] at hh;have hw1:ws.length+1<=40:=by
  have h13:(1:Nat)<=(if x.k=3 then 3 else 1):=by split<;>omega
  omega
 obtain ⟨A1,A2⟩:=hA.app;have elen:i+(ccE (gcO p c) x i).length=i+(Zmv (gcO p c) x.args i).length+(Zid (gcO p c) x.k x.n x.of x.s x.args.length (i+(Zmv (gcO p c) x.args i).length)).length:=by rw[ZxI,Yae];omega
 rw[elen];obtain ⟨cn1,cn3,cn5⟩:=Zp8 hinv.1 hinv.2.2.1;have nil_of:x.args.length=0->Zmv (gcO p c) x.args i=[]:=λh=>by rw[Ybi h,Zmv]
 by_cases k1:x.k=1
 ·rw[if_pos k1];rw[nil_of (cn1 (.inl k1))] at A2 ⊢;unfold Zid at A2 ⊢;rw[if_pos k1] at A2 ⊢;exact ⟨o,ZkP hm hc.u (A2.map (by show (1:Int)≠11;decide)) (by omega),D1⟩
 rw[if_neg k1];by_cases k2:x.k=2
 ·rw[if_pos k2];rw[nil_of (cn1 (.inr k2))] at A2 ⊢;unfold Zid at A2 ⊢;rw[if_neg k1,if_pos k2] at A2 ⊢;unfold ZqZ at A2 ⊢;unfold Zvj;rcases ZgG (hx.var k2) with ⟨q,hq,hpi⟩ | ⟨hpi,q,hq,hvi⟩
  ·have hpi2:Zbo (gcO p c).f x.s=(q:Int):=hpi;rw[if_pos (show 0<=Zbo (gcO p c).f x.s by omega),hpi2] at A2;rw[if_pos (show 0<=Zbo (gcO p c).f x.s by omega),if_pos (show 0<=ZoT c.f x.s by omega),hpi,Int.toNat_natCast];have G:=ZAT hm hc.u (o:=o) (pre:=pre) (locs:=locs) (ws:=ws) (nt:=nt) (a:=q) (A2.map (by show (4:Int)≠11;decide)) (by omega);rw[hL.get (by rw[hpl];exact hq)] at G;exact ⟨o,G,D1⟩
  ·have hpi2:¬0<=Zbo (gcO p c).f x.s:=hpi;rw[if_neg hpi2] at A2 ⊢;rw[if_neg hpi,hvi,Int.toNat_natCast];obtain ⟨w1,w2,w3,_⟩:=ZpG hm hc hs1 D1 hq hvi;obtain ⟨B1,B2⟩:=A2.cons;rw[Zm5 _ (by show (1:Int)≠11;decide),w1] at B1;have G1:=ZkP hm hc.u (o:=o) (pre:=pre) (locs:=locs) (ws:=ws) (nt:=nt) B1 (by omega);have G2:=Zxz hm hc.u (o:=o) (pre:=pre) (locs:=locs) (w:=ws) (nt:=nt) (B2.map (by show (6:Int)≠11;decide)) w2;rw[w3] at G2;exact ⟨o,G1.trans G2,D1⟩
 rw[if_neg k2];have hargs:=hinv.2.2.2.2.2;have hl:=qsL hm hE hc hps hpl nt pre hpre hL x.args s1 hs1 hargs o i ws A1 (by omega) D1;have hlI:=ZlH (p:=p) (e:=evE p g c ps) x.args (λy hy s hs=>(ZdT hP g).1 c ps y s hc hs hps (hargs y hy)) s1 hs1;cases hr:ZcW (evE p g c ps) x.args s1 with
 | stop e s2 =>rw[hr] at hl;exact hl
 | ok ns s2 =>
  rw[hr] at hl hlI;obtain ⟨o2,G2,D2⟩:=hl;obtain ⟨hs2,_,hnl,hnw⟩:=hlI;show Zkm m X o _ _ (ZfW p (evS p g) c x ns s2);refine Zkm.lead G2 ?_;generalize i+(Zmv (gcO p c) x.args i).length=j at *;unfold ZfW;unfold Zid at A2 ⊢;rw[if_neg k1,if_neg k2] at A2 ⊢;by_cases k3:x.k=3
  ·rw[if_pos k3] at A2 ⊢;rw[if_pos k3];obtain ⟨v,hv⟩:∃v,ns=[v]:=by
    match ns,(hnl.trans (cn3 k3)) with
    | [v],_=>exact ⟨v,rfl⟩
   subst hv;obtain ⟨B1,B2⟩:=A2.app;obtain ⟨k,hk,hak,ha1,ha2,ha3,hget⟩:=ZuY hm hc hs2 D2 (hx.arr k3);have hvw:wd v:=hnw v Yac;rw[if_pos k3] at hh;obtain ⟨E1,E2⟩:=ZxA hm hc.u (o:=o2) (pre:=pre) (locs:=locs) (nt:=nt) (w:=ws) (v:=v) B1 (by omega) hvw ha1 ha3;unfold Zww;have ear:ZeU p c s2 x.s=(cAt s2 c.u).arrays.getD k []:=by unfold ZeU;rw[hak];rfl
   show Zkm m X o2 _ _ (if ((ZeU p c s2 x.s).length:Int)<=v then _ else _);rw[ear];by_cases hle:(((cAt s2 c.u).arrays.getD k []).length:Int)<=v
   ·rw[if_pos hle];exact .inr ⟨o2,E1 (by omega),D2⟩
   ·rw[if_neg hle];have hvn:v.toNat < ((cAt s2 c.u).arrays.getD k []).length:=by have:=hvw.1;omega
    obtain ⟨g1,g2,_⟩:=hget v.toNat hvn;have hvt:((v.toNat:Nat):Int)=v:=by have:=hvw.1;omega
    rw[hvt] at g1 g2;have G3:=E2 (by omega);have G4:=Zxz hm hc.u (o:=o2) (pre:=pre) (locs:=locs) (w:=ws) (nt:=nt) (B2.map (by show (6:Int)≠11;decide)) g1;rw[g2] at G4;refine ⟨o2,?_,D2⟩;have G5:=G3.trans G4;rw[Yae];simpa [Zie,Nat.add_assoc] using G5
  rw[if_neg k3] at A2 ⊢;rw[if_neg k3];by_cases k4:x.k=4
  ·rw[if_pos k4] at A2 ⊢;rw[if_neg (show ¬x.k=5 by omega)];exact ZBZ hm hC hc hx k4 hs2 hnl hnw D2 hpre A2 (by omega)
  rw[if_neg k4] at A2 ⊢;have k5:x.k=5:=by have:=hinv.1;omega
  rw[if_pos k5];obtain ⟨a,b,hab⟩:∃a b,ns=[a,b]:=by
   match ns,(hnl.trans (cn5 k1 k2 k3 k4)) with
   | [a,b],_=>exact ⟨a,b,rfl⟩
  subst hab;exact ⟨o2,ZCb hm hc.u (w:=ws) (A2.map (by show (8:Int)≠11;decide)),D2⟩
end
def Zml (p:List Unit) (m:Zaf) (X:Bh) (c:EC) (val:Int) (o:MO) (fs pre:List PF) (nt:Int) (to:Nat):RR EL->Prop
 | .ok el' s'=>∃o' locs',Dat X o' s'/\Loc locs' el'.ps/\((el'.back=false/\el'.val=val/\Zda m o fs o' (pre++[fr c.u to locs' [] nt]))\/(el'.back=true/\∃j,(cdO p c.u)[j]?=some ⟨13,0,0,0⟩/\Zda m o fs o' (pre++[fr c.u j locs' [el'.val] nt])))
 | .stop e s'=>e=3\/∃o',Zol m o fs e o'/\Dat X o' s'
theorem Zml.lead {p:List Unit} {m:Zaf} {X:Bh} {c:EC} {val:Int} {o o1:MO} {fs fs1 pre:List PF} {nt:Int} {to:Nat} {r:RR EL} (h:Zda m o fs o1 fs1) (k:Zml p m X c val o1 fs1 pre nt to r):Zml p m X c val o fs pre nt to r:=by
 cases r with
 | ok el' s' =>
  obtain ⟨o',locs',k1,k2,k3⟩:=k;refine ⟨o',locs',k1,k2,?_⟩;rcases k3 with ⟨a,b,d⟩ | ⟨a,j,b,d⟩
  ·exact .inl ⟨a,b,h.trans d⟩
  ·exact .inr ⟨a,j,b,h.trans d⟩
 | stop e s' =>
  rcases k with k | ⟨o',k1,k2⟩
  ·exact .inl k
  ·exact .inr ⟨o',h.ends k1,k2⟩
theorem Zkm.then {p:List Unit} {m:Zaf} {X:Bh} {c:EC} {val:Int} {o:MO} {fs pre:List PF} {fs':Int->List PF} {nt:Int} {to:Nat} {r:RR Int} {k:Int->ES->RR EL} (h:Zkm m X o fs fs' r) (hk:∀v s' o',r=.ok v s'->Zda m o fs o' (fs' v)->Dat X o' s'->Zml p m X c val o fs pre nt to (k v s')):Zml p m X c val o fs pre nt to (r.bind k):=by
 cases r with
 | ok v s'=>obtain ⟨o',h1,h2⟩:=h;exact hk v s' o' rfl h1 h2
 | stop e s'=>exact h
def QsS (p:List Unit) (m:Zaf) (X:Bh) (g:Nat):Prop:=∀(c:EC) (x:Stmt) (el:EL) (s:ES),CI p c->SI p s->ELI c el->el.back=false->StI p c x->ZA3 c.f x->∀(o:MO) (pre:List PF) (i:Nat) (locs:List Int) (nt:Int),pre.length=c.deep->At (cdO p c.u) (atO p c.u) i (ccS (gcO p c) x i)->Loc locs el.ps->Dat X o s ->
 Zml p m X c el.val o (pre++[fr c.u i locs [] nt]) pre nt (i+(ccS (gcO p c) x i).length) (evS p g c x el s)
def QsB (p:List Unit) (m:Zaf) (X:Bh) (g:Nat):Prop:=∀(c:EC) (l:List Stmt) (el:EL) (s:ES),CI p c->SI p s->ELI c el->el.back=false->(∀x∈l,StI p c x)->Zg8 c.f l->∀(o:MO) (pre:List PF) (i:Nat) (locs:List Int) (nt:Int),pre.length=c.deep->At (cdO p c.u) (atO p c.u) i (Zfq (gcO p c) l i)->Loc locs el.ps->Dat X o s ->
 Zml p m X c el.val o (pre++[fr c.u i locs [] nt]) pre nt (i+(Zfq (gcO p c) l i).length) (Za8 (evS p g c) l el s)
theorem ZuV (e:Stmt->EL->ES->RR EL):∀(l:List Stmt) (el:EL) (s:ES),el.back=true->Za8 e l el s=.ok el s
 | [],_,_,_=>rfl
 | _ :: _,el,s,h=>by unfold Za8;rw[if_pos h]
theorem Loc.set {locs ps:List Int} (h:Loc locs ps) {j:Nat} (hj:j < ps.length) (n:Int):Loc (locs.set j n) (ps.set j n):=by
 refine ⟨by rw[Ybd];exact h.1,by rw[Ybd];exact h.2.1,λq hq=>?_⟩;rw[Ybd] at hq;have h8:=h.1;have h4:=h.2.1;rw[Yal,Yal,YbP,YbP];by_cases e:j=q
 ·rw[if_pos e,if_pos e,if_pos (by omega),if_pos (by omega)]
 ·rw[if_neg e,if_neg e,<- Yal,<- Yal];exact h.2.2 q hq
theorem Loc.behind {locs ps:List Int} (h:Loc locs ps) {j:Nat} (hj:ps.length<=j) (n:Int):Loc (locs.set j n) ps:=by refine ⟨by rw[Ybd];exact h.1,h.2.1,λq hq=>?_⟩;rw[Yal,YbP,if_neg (by omega),<- Yal];exact h.2.2 q hq
section
variable {p:List Unit} {m:Zaf} (hm:Img p m) {X:Bh} {g:Nat}
include hm in
theorem qsB (hS:QsS p m X g):QsB p m X g:=by
 intro c l
 induction l with
 | nil =>intro el s hc hs he hb _ _ o pre i locs nt _ _ hL D;refine ⟨o,locs,D,hL,.inl ⟨hb,rfl,?_⟩⟩;rw[Zfq];exact Zda.refl _ _ _
 | cons x l ih =>
  intro el s hc hs he hb hx hf o pre i locs nt hpre hA hL D;rw[Zfq] at hA;obtain ⟨A1,A2⟩:=hA.app;rw[Zg8] at hf;have h1:=hS c x el s hc hs he hb (hx x Yac) hf.1 o pre i locs nt hpre A1 hL D;have hI:=(ZdT (PI.of hm.good) g).2 c x el s hc hs he (hx x Yac);change RI p s (ELI c) (evS p g c x el s) at hI;have e:Za8 (evS p g c) (x :: l) el s=(evS p g c x el s).bind (Za8 (evS p g c) l):=by show (if el.back=true then _ else _)=_;rw[if_neg (by rw[hb];decide)]
  rw[e];cases hr:evS p g c x el s with
  | stop e s1=>rw[hr] at h1;exact h1
  | ok el1 s1 =>
   rw[hr] at h1 hI;obtain ⟨o1,locs1,D1,L1,h1⟩:=h1;show Zml p m X c el.val o _ pre nt _ (Za8 (evS p g c) l el1 s1);rcases h1 with ⟨b1,v1,G1⟩ | ⟨b1,j,hj,G1⟩
   ·have h2:=ih el1 s1 hc hI.1 hI.2.2 b1 (λy hy=>hx y (Yad _ hy)) hf.2 o1 pre _ locs1 nt hpre A2 L1 D1;rw[v1] at h2;have e2:i+(Zfq (gcO p c) (x :: l) i).length=i+(ccS (gcO p c) x i).length+(Zfq (gcO p c) l (i+(ccS (gcO p c) x i).length)).length:=by rw[Zfq,Yae];omega
    rw[e2];exact Zml.lead G1 h2
   ·rw[ZuV _ _ _ _ b1];exact ⟨o1,locs1,D1,L1,.inr ⟨b1,j,hj,G1⟩⟩
include hm in
theorem qsC (hB:QsB p m X g):QsC p m X g:=by
 intro u k args deep s hu hk ha hw hs hd o pre nt i hpre hat D;have hP:=PI.of hm.good;have hfm:=ZnC hk;obtain ⟨i',hi',hA⟩:=Zqx p (uAt p u) (Zaj p u) k hk;have hii:i'=i:=by have h2:(some (i':Int))=some (i:Int):=hi'.symm.trans hat;injection h2 with h3;omega
 subst hii;have hfe:(uAt p u).funcs[k]=(uAt p u).funcs.getD k noF:=by simp[hk]
 rw[hfe] at hA;unfold Zb6;rw[if_neg (by omega)];generalize hf:(uAt p u).funcs.getD k noF=f at *;have hc:CI p ⟨u,f,deep⟩:=⟨hu,hfm,hd⟩;have he:ELI ⟨u,f,deep⟩ ⟨args,false,0⟩:=⟨ha,hw,(show wd 0 from ⟨by decide,by decide⟩)⟩;have hps4:args.length<=4:=by have h1:f.params.length<=4:=(ZbL ((Zau (hP.unit _ (Zdm hu))).2.2.2.2.2.2 _ hfm)).2.1;rw[ha];exact h1
 have hL:Loc (p8 args) args:=by
  refine ⟨rfl,hps4,λj hj=>?_⟩
  match args,hps4 with
  | [],_=>simp at hj
  | [a],_=>match j,hj with | 0,_=>rfl
  | [a,b],_=>match j,hj with | 0,_=>rfl | 1,_=>rfl
  | [a,b,d],_=>match j,hj with | 0,_=>rfl | 1,_=>rfl | 2,_=>rfl
  | [a,b,d,e],_=>match j,hj with | 0,_=>rfl | 1,_=>rfl | 2,_=>rfl | 3,_=>rfl
 have hfit:Zg8 f f.body:=by have h1:=hm.most u hu;rw[<- Zde hu] at h1;exact Zvq p (uAt p u) (Zaj p u) h1 (λh hh=>(ZbL ((Zau (hP.unit _ (Zdm hu))).2.2.2.2.2.2 _ hh)).2.2.2) f hfm
 unfold ccF at hA;obtain ⟨A1,A2⟩:=hA.app;have h:=hB ⟨u,f,deep⟩ f.body ⟨args,false,0⟩ s hc hs he rfl (hP.body hc).all hfit o pre i' (p8 args) nt hpre A1 hL D;cases hr:Za8 (evS p g ⟨u,f,deep⟩) f.body ⟨args,false,0⟩ s with
 | stop e s1=>rw[hr] at h;exact h
 | ok el1 s1 =>
  rw[hr] at h;obtain ⟨o1,locs1,D1,L1,h1⟩:=h;show ZCK p m X u o _ pre nt (.ok el1.val s1);rcases h1 with ⟨b1,v1,G1⟩ | ⟨b1,j,hj,G1⟩
  ·obtain ⟨B1,B2⟩:=A2.cons;rw[Zm5 _ (by show (1:Int)≠11;decide)] at B1;have G2:=ZkP hm hu (o:=o1) (pre:=pre) (locs:=locs1) (ws:=[]) (nt:=nt) B1 (by decide);have v0:el1.val=0:=v1;rw[v0];exact ⟨o1,_,locs1,G1.trans G2,B2.map (by show (13:Int)≠11;decide),D1⟩
  ·exact ⟨o1,j,locs1,G1,hj,D1⟩
theorem ZBk (g:GC) (x:Stmt) (i:Nat):ccS g x i=(if x.k=1 then ZuL g x.s (x.xs.getD 0 noX) i
  else if x.k=2 then ZnZ g x.s (x.xs.getD 0 noX) (x.xs.getD 1 noX) i
  else if x.k=3\/x.k=4 then
   let cx:=ccE g (x.xs.getD 0 noX) i
   let cb:=Zfq g x.b (i+cx.length+1)
   let no:=i+cx.length+1+cb.length+1
   let ce:=if x.k=3 then Zfq g x.e no else []
   cx++(⟨10,(no:Int),0,0⟩ :: (cb++(⟨9,((if x.k=4 then i else no+ce.length:Nat):Int),0,0⟩ :: ce)))
  else if x.k=5 then ccE g (x.xs.getD 0 noX) i++[⟨13,0,0,0⟩]
  else ccE g (x.xs.getD 0 noX) i++[⟨14,0,0,0⟩]):=by cases x;rw[ccS];rfl
theorem Zza (f:Fun) (x:Stmt):ZA3 f x↔(if x.k=1 then (if 0<=Zbo f x.s then 0 else 1)+hE (x.xs.getD 0 noX)<=40
  else if x.k=2 then hE (x.xs.getD 0 noX)<=40/\1+hE (x.xs.getD 1 noX)<=40
  else if x.k=3\/x.k=4 then hE (x.xs.getD 0 noX)<=40/\Zg8 f x.b/\(x.k=3->Zg8 f x.e)
  else hE (x.xs.getD 0 noX)<=40):=by cases x;rw[ZA3];rfl
include hm in
theorem qsW (hE:QsE p m X g) (hB:QsB p m X g) {c:EC} (hc:CI p c) {x:Stmt} (hx:StI p c x) (hfb:Zg8 c.f x.b) (hfx:Barb.hE (x.xs.getD 0 noX)<=40) {pre:List PF} (hpre:pre.length=c.deep) {nt:Int} {i jz:Nat} (ejz:jz=i+(ccE (gcO p c) (x.xs.getD 0 noX) i).length) (A1:At (cdO p c.u) (atO p c.u) i (ccE (gcO p c) (x.xs.getD 0 noX) i)) {no:Nat} (eno:no=jz+1+(Zfq (gcO p c) x.b (jz+1)).length+1)
  (Bz:(cdO p c.u)[jz]?=some ⟨10,(no:Int),0,0⟩) (A2:At (cdO p c.u) (atO p c.u) (jz+1) (Zfq (gcO p c) x.b (jz+1))) (Bj:(cdO p c.u)[jz+1+(Zfq (gcO p c) x.b (jz+1)).length]?=some ⟨9,(i:Int),0,0⟩) :
  ∀(k:Nat) (n:Int) (el:EL) (s:ES) (o:MO) (locs:List Int),SI p s->ELI c el->el.back=false->Loc locs el.ps->Dat X o s->Zml p m X c el.val o (pre++[fr c.u jz locs [n] nt]) pre nt no (Zce (evE p g) (evS p g) c x k n el s)
 | 0,n,el,s,o,locs,hs,he,hb,hL,D=>.inl rfl
 | k+1,n,el,s,o,locs,hs,he,hb,hL,D=>by
  have hP:=PI.of hm.good;have hinv:=hx.inv;unfold Zce;by_cases hn:n=0
  ·subst hn;rw[if_pos (.inl rfl)];exact ⟨o,locs,D,hL,.inl ⟨hb,rfl,ZyZ hm hc.u (w:=[]) Bz⟩⟩
  rw[if_neg (by rintro (h | h);exact hn h;rw[hb] at h;cases h)];refine Zml.lead (ZyY hm hc.u (w:=[]) hn Bz) ?_;have h1:=hB c x.b el s hc hs he hb hinv.2.2.2.1.all hfb o pre (jz+1) locs nt hpre A2 hL D;have hI:=ZhX (p:=p) (c:=c) x.b (λy hy el s hs he=>(ZdT hP g).2 c y el s hc hs he (hinv.2.2.2.1.all y hy)) el s hs he;change RI p s (ELI c) (Za8 (evS p g c) x.b el s) at hI;cases hr:Za8 (evS p g c) x.b el s with
  | stop e s1=>rw[hr] at h1;exact h1
  | ok el1 s1 =>
   rw[hr] at h1 hI;obtain ⟨o1,locs1,D1,L1,h1⟩:=h1;show Zml p m X c el.val o _ pre nt no (if el1.back=true then _ else _);rcases h1 with ⟨b1,v1,G1⟩ | ⟨b1,j,hj,G1⟩
   rotate_left
   ·rw[if_pos b1];exact ⟨o1,locs1,D1,L1,.inr ⟨b1,j,hj,G1⟩⟩
   rw[if_neg (by rw[b1];decide)];unfold ZdU;by_cases h0:s1.fuel=0
   ·rw[if_pos h0];exact .inl rfl
   rw[if_neg h0];have hs2:SI p { s1 with fuel:=s1.fuel - 1 }:=hI.1.fuel _;have D2:Dat X o1 { s1 with fuel:=s1.fuel - 1 }:=⟨D1.told,D1.data,D1.calls⟩;revert hs2 D2;generalize ({ s1 with fuel:=s1.fuel - 1 }:ES)=s2;intro hs2 D2;have h2:=hE c el1.ps (x.xs.getD 0 noX) s2 hc hs2 hI.2.2.2.1 hx.one.2 o1 pre i locs1 [] nt hpre A1 L1 hI.2.2.1 (by simpa using hfx) D2;have hI2:=(ZdT hP g).1 c el1.ps (x.xs.getD 0 noX) s2 hc hs2 hI.2.2.2.1 hx.one.2;change RI p s2 wd (evE p g c el1.ps (x.xs.getD 0 noX) s2) at hI2;refine Zml.lead (G1.trans (Zuc hm hc.u Bj)) (Zkm.then h2 (λv s3 o3 hv G3 D3=>?_));rw[hv] at hI2;have h3:=qsW hE hB hc hx hfb hfx hpre (nt:=nt) ejz A1 eno Bz A2 Bj k v el1 s3 o3 locs1 hI2.1 hI.2.2 b1 L1 D3;rw[v1] at h3;rw[<- ejz] at G3;exact Zml.lead G3 h3
include hm in
theorem qsS (hE:QsE p m X g) (hB:QsB p m X g):QsS p m X (g+1):=by
 intro c x el s hc hs he hb hx hf o pre i locs nt hpre hA hL D;have hP:=PI.of hm.good;by_cases h0:s.fuel=0
 ·rw[Zi9 p _ c x _ s h0];exact .inl rfl
 rw[ZpP p g c x _ s h0];have hs1:SI p { s with fuel:=s.fuel - 1 }:=hs.fuel _;have D1:Dat X o { s with fuel:=s.fuel - 1 }:=⟨D.told,D.data,D.calls⟩;revert hs1 D1;generalize ({ s with fuel:=s.fuel - 1 }:ES)=s1;intro hs1 D1;have hinv:=hx.inv;rw[Zza] at hf;have A:=Zrb hm.good hc.u;have hpl:=he.1;have hwd:=he.2.1;obtain ⟨_,hX0⟩:=hx.one;have p4:c.f.params.length<=4:=(ZbL ((Zau (hP.unit _ (Zdm hc.u))).2.2.2.2.2.2 _ hc.f)).2.1;have ex0:∀(o:MO) (s:ES) (i:Nat) (ws:List Int),SI p s->Dat X o s->At (cdO p c.u) (atO p c.u) i (ccE (gcO p c) (x.xs.getD 0 noX) i)->ws.length+Barb.hE (x.xs.getD 0 noX)<=40->Zkm m X o (pre++[fr c.u i locs ws nt]) (λv=>pre++[fr c.u (i+(ccE (gcO p c) (x.xs.getD 0 noX) i).length) locs (ws++[v]) nt]) (evE p g c el.ps (x.xs.getD 0 noX) s) :=
  λo s i ws hs D hA hh=>hE c el.ps (x.xs.getD 0 noX) s hc hs hwd hX0 o pre i locs ws nt hpre hA hL hpl hh D
 have hI0:∀(s:ES),SI p s->RI p s wd (evE p g c el.ps (x.xs.getD 0 noX) s):=λs hs=>(ZdT hP g).1 c el.ps (x.xs.getD 0 noX) s hc hs hwd hX0;rw[ZBk] at hA ⊢;by_cases k1:x.k=1
 ·rw[if_pos k1] at hA hf ⊢;simp only[if_pos k1];unfold ZuL at hA ⊢;rcases ZgG (hx.var k1) with ⟨q,hq,hpi⟩ | ⟨hpi,q,hq,hvi⟩
  ·have hpi2:Zbo (gcO p c).f x.s=(q:Int):=hpi;rw[if_pos (show 0<=Zbo (gcO p c).f x.s by omega)] at hA ⊢;rw[if_pos (show 0<=Zbo c.f x.s from by show 0<=Zbo (gcO p c).f x.s;omega)] at hf;rw[hpi2] at hA ⊢;obtain ⟨A1,A2⟩:=hA.app;refine Zkm.then (ex0 o s1 i [] hs1 D1 A1 (by show 0+Barb.hE (x.xs.getD 0 noX)<=40;omega)) (λn s2 o2 hn G2 D2=>?_);unfold ZoP;rw[if_pos (show 0<=ZoT c.f x.s by omega),hpi,Int.toNat_natCast];have G3:=ZAS hm hc.u (o:=o2) (pre:=pre) (locs:=locs) (w:=[]) (nt:=nt) (x:=n) (A2.map (by show (5:Int)≠11;decide));refine ⟨o2,_,D2,hL.set (by rw[hpl];exact hq) n,.inl ⟨hb,rfl,?_⟩⟩;rw[Yae];exact G2.trans G3
  ·have hpi2:¬0<=Zbo (gcO p c).f x.s:=hpi;rw[if_neg hpi2] at hA ⊢;rw[if_neg (show ¬0<=Zbo c.f x.s from hpi)] at hf;obtain ⟨B1,A2⟩:=hA.cons;obtain ⟨A2,A3⟩:=A2.app;rw[Zm5 _ (by show (1:Int)≠11;decide)] at B1;have G1:=ZkP hm hc.u (o:=o) (pre:=pre) (locs:=locs) (ws:=[]) (nt:=nt) B1 (by decide);refine Zml.lead G1 (Zkm.then (ex0 o s1 (i+1) [(ZaD (gcO p c) x.s).1] hs1 D1 A2 (by show 1+Barb.hE (x.xs.getD 0 noX)<=40;omega)) (λn s2 o2 hn G2 D2=>?_));have hI:=hI0 s1 hs1;rw[hn] at hI;obtain ⟨w1,w2,_,w4⟩:=ZpG hm hc hI.1 D2 hq hvi;unfold ZoP;rw[if_neg hpi,hvi,Int.toNat_natCast];rw[w1] at G2;have G3:=Zub hm hc.u (o:=o2) (pre:=pre) (locs:=locs) (w:=[]) (nt:=nt) (x:=Zaj p c.u+(q:Int)) (y:=n) (A3.map (by show (7:Int)≠11;decide)) w2;refine ⟨_,locs,w4 n,hL,.inl ⟨hb,rfl,?_⟩⟩;have G4:=G2.trans G3;rw[w1];rw[List.length_cons,Yae];simpa [Nat.add_assoc,Nat.add_comm,Nat.add_left_comm] using G4
 rw[if_neg k1] at hA hf ⊢;simp only[if_neg k1];by_cases k2:x.k=2
 ·rw[if_pos k2] at hA hf ⊢;simp only[if_pos k2];unfold ZnZ at hA ⊢;obtain ⟨A1,hA⟩:=hA.app;obtain ⟨A2,hA⟩:=hA.app;obtain ⟨B3,hA⟩:=hA.cons;obtain ⟨A4,hA⟩:=hA.app;obtain ⟨B5,hA⟩:=hA.cons;have B6:=hA.map (by show (7:Int)≠11;decide);rw[Zm5 _ (by show (5:Int)≠11;decide)] at B3;rw[Zm5 _ (by show (4:Int)≠11;decide)] at B5;refine Zkm.then (ex0 o s1 i [] hs1 D1 A1 (by show 0+Barb.hE (x.xs.getD 0 noX)<=40;omega)) (λn s2 o2 hn G2 D2=>?_);have hI:=hI0 s1 hs1;rw[hn] at hI;obtain ⟨_,hX1⟩:=hx.two k2;have h2:=hE c el.ps (x.xs.getD 1 noX) s2 hc hI.1 hwd hX1 o2 pre _ locs [n] nt hpre A2 hL hpl (by show 1+Barb.hE (x.xs.getD 1 noX)<=40;omega) D2;have hI2:=(ZdT hP g).1 c el.ps (x.xs.getD 1 noX) s2 hc hI.1 hwd hX1;change RI p s2 wd (evE p g c el.ps (x.xs.getD 1 noX) s2) at hI2;refine Zml.lead G2 (Zkm.then h2 (λv s3 o3 hv G3 D3=>?_));rw[hv] at hI2;obtain ⟨k,hk,hak,ha1,ha2,ha3,hget⟩:=ZuY hm hc hI2.1 D3 (hx.arr k2);have hnw:wd n:=hI.2.2;have G4:=ZAS hm hc.u (o:=o3) (pre:=pre) (locs:=locs) (w:=[n]) (nt:=nt) (x:=v) B3;obtain ⟨E1,E2⟩:=ZxA hm hc.u (o:=o3) (pre:=pre) (locs:=locs.set c.f.params.length v) (nt:=nt) (w:=[]) (v:=n) A4 (by decide) hnw ha1 ha3;unfold Zss;have ear:ZeU p c s3 x.s=(cAt s3 c.u).arrays.getD k []:=by unfold ZeU;rw[hak];rfl
  rw[ear,hak,Int.toNat_natCast];by_cases hle:(((cAt s3 c.u).arrays.getD k []).length:Int)<=n
  ·rw[if_pos hle];exact .inr ⟨o3,(G3.trans G4).ends (E1 (by omega)),D3⟩
  ·rw[if_neg hle];have hvn:n.toNat < ((cAt s3 c.u).arrays.getD k []).length:=by have:=hnw.1;omega
   obtain ⟨g1,_,g3⟩:=hget n.toNat hvn;have hvt:((n.toNat:Nat):Int)=n:=by have:=hnw.1;omega
   rw[hvt] at g1 g3;have hL2:Loc (locs.set c.f.params.length v) el.ps:=hL.behind (by omega) v;have G5:=E2 (by omega);have hgl:(locs.set c.f.params.length v).getD c.f.params.length 0=v:=by have h8:=hL.1;rw[Yal,YbP,if_pos rfl,if_pos (by omega)];rfl
   have G6:=ZAT hm hc.u (o:=o3) (pre:=pre) (locs:=locs.set c.f.params.length v) (ws:=[(ZaD (gcO p c) x.s).1+n]) (nt:=nt) B5 (by show 1 < 40;decide);rw[hgl] at G6;have G7:=Zub hm hc.u (o:=o3) (pre:=pre) (locs:=locs.set c.f.params.length v) (w:=[]) (nt:=nt) (x:=(ZaD (gcO p c) x.s).1+n) (y:=v) B6 g1;refine ⟨_,_,g3 v,hL2,.inl ⟨hb,rfl,?_⟩⟩;have G:=(G3.trans G4).trans (G5.trans (G6.trans G7));simp only[Yae,List.length_cons,List.length_nil];simpa [Nat.add_assoc,Zie] using G
 rw[if_neg k2] at hA hf ⊢;simp only[if_neg k2];by_cases k34:x.k=3\/x.k=4
 ·rw[if_pos k34] at hA hf ⊢;dsimp only at hA ⊢;obtain ⟨A1,hA⟩:=hA.app;obtain ⟨Bz,hA⟩:=hA.cons;obtain ⟨A2,hA⟩:=hA.app;obtain ⟨Bj,A3⟩:=hA.cons;rw[Zm5 _ (by show (10:Int)≠11;decide)] at Bz;rw[Zm5 _ (by show (9:Int)≠11;decide)] at Bj;refine Zkm.then (ex0 o s1 i [] hs1 D1 A1 (by show 0+Barb.hE (x.xs.getD 0 noX)<=40;omega)) (λn s2 o2 hn G2 D2=>?_);have hI:=hI0 s1 hs1;rw[hn] at hI;refine Zml.lead G2 ?_;by_cases k3:x.k=3
  ·simp only[if_pos k3] at hA A3 Bj ⊢;have k4:¬x.k=4:=by omega
   simp only[if_neg k4] at Bj ⊢;generalize hcx:(ccE (gcO p c) (x.xs.getD 0 noX) i).length=lx at *;generalize hcb:(Zfq (gcO p c) x.b (i+lx+1)).length=lb at *;by_cases hn0:n=0
   ·subst hn0;rw[if_pos rfl];have G3:=ZyZ hm hc.u (o:=o2) (pre:=pre) (locs:=locs) (w:=[]) (nt:=nt) Bz;refine Zml.lead G3 ?_;have A3':At (cdO p c.u) (atO p c.u) (i+lx+1+lb+1) (Zfq (gcO p c) x.e (i+lx+1+lb+1)):=A3;have h3:=hB c x.e el s2 hc hI.1 he hb hinv.2.2.2.2.1.all (hf.2.2 k3) o2 pre _ locs nt hpre A3' hL D2;have e2:i+(ccE (gcO p c) (x.xs.getD 0 noX) i++((⟨10,((i+lx+1+lb+1:Nat):Int),0,0⟩:Instr) :: (Zfq (gcO p c) x.b (i+lx+1)++((⟨9,((i+lx+1+lb+1+(Zfq (gcO p c) x.e (i+lx+1+lb+1)).length:Nat):Int),0,0⟩:Instr) :: Zfq (gcO p c) x.e (i+lx+1+lb+1))))).length=i+lx+1+lb+1+(Zfq (gcO p c) x.e (i+lx+1+lb+1)).length:=by simp only[Yae,List.length_cons,hcx,hcb];omega
    rw[e2];exact h3
   ·rw[if_neg hn0];have G3:=ZyY hm hc.u (o:=o2) (pre:=pre) (locs:=locs) (w:=[]) (nt:=nt) hn0 Bz;refine Zml.lead G3 ?_;have h3:=hB c x.b el s2 hc hI.1 he hb hinv.2.2.2.1.all hf.2.1 o2 pre _ locs nt hpre A2 hL D2;cases hr:Za8 (evS p g c) x.b el s2 with
    | stop e s3=>rw[hr] at h3;exact h3
    | ok el3 s3 =>
     rw[hr] at h3;obtain ⟨o3,locs3,D3,L3,h3⟩:=h3;refine ⟨o3,locs3,D3,L3,?_⟩;rcases h3 with ⟨b3,v3,G4⟩ | ⟨b3,j,hj,G4⟩
     ·refine .inl ⟨b3,v3,?_⟩;rw[hcb] at G4;have G5:=G4.trans (Zuc hm hc.u Bj);have e2:i+(ccE (gcO p c) (x.xs.getD 0 noX) i++((⟨10,((i+lx+1+lb+1:Nat):Int),0,0⟩:Instr) :: (Zfq (gcO p c) x.b (i+lx+1)++((⟨9,((i+lx+1+lb+1+(Zfq (gcO p c) x.e (i+lx+1+lb+1)).length:Nat):Int),0,0⟩:Instr) :: Zfq (gcO p c) x.e (i+lx+1+lb+1))))).length=i+lx+1+lb+1+(Zfq (gcO p c) x.e (i+lx+1+lb+1)).length:=by simp only[Yae,List.length_cons,hcx,hcb];omega
      rw[e2];exact G5
     ·exact .inr ⟨b3,j,hj,G4⟩
  ·have k4:x.k=4:=by omega
   simp only[if_neg k3,if_pos k4] at Bj ⊢;have h3:=qsW hm hE hB hc hx hf.2.1 hf.1 hpre rfl A1 rfl Bz A2 Bj (g+1) n el s2 o2 locs hI.1 he hb hL D2 (nt:=nt);have e2:i+(ccE (gcO p c) (x.xs.getD 0 noX) i++((⟨10,((i+(ccE (gcO p c) (x.xs.getD 0 noX) i).length+1+(Zfq (gcO p c) x.b (i+(ccE (gcO p c) (x.xs.getD 0 noX) i).length+1)).length+1:Nat):Int),0,0⟩:Instr) :: (Zfq (gcO p c) x.b (i+(ccE (gcO p c) (x.xs.getD 0 noX) i).length+1)++[(⟨9,(i:Int),0,0⟩:Instr)]))).length=i+(ccE (gcO p c) (x.xs.getD 0 noX) i).length+1+(Zfq (gcO p c) x.b (i+(ccE (gcO p c) (x.xs.getD 0 noX) i).length+1)).length+1:=by simp only[Yae,List.length_cons,List.length_nil];omega
   rw[e2];exact h3
 rw[if_neg k34] at hA hf ⊢;have k3:¬x.k=3:=λh=>k34 (.inl h);have k4:¬x.k=4:=λh=>k34 (.inr h);simp only[if_neg k3,if_neg k4];by_cases k5:x.k=5
 ·rw[if_pos k5] at hA ⊢;simp only[if_pos k5];obtain ⟨A1,A2⟩:=hA.app;refine Zkm.then (ex0 o s1 i [] hs1 D1 A1 (by show 0+Barb.hE (x.xs.getD 0 noX)<=40;omega)) (λn s2 o2 hn G2 D2=>?_);exact ⟨o2,locs,D2,hL,.inr ⟨rfl,_,A2.map (by show (13:Int)≠11;decide),G2⟩⟩
 rw[if_neg k5] at hA ⊢;simp only[if_neg k5];obtain ⟨A1,A2⟩:=hA.app;refine Zkm.then (ex0 o s1 i [] hs1 D1 A1 (by show 0+Barb.hE (x.xs.getD 0 noX)<=40;omega)) (λn s2 o2 hn G2 D2=>?_);have B2:=A2.map (by show (14:Int)≠11;decide);by_cases h5:s2.told.length=500
 ·rw[if_pos h5];exact .inr ⟨o2,G2.ends (Zzi hm hc.u (w:=[]) B2 (by rw[D2.told];exact h5)),D2⟩
 ·rw[if_neg h5];have G3:=ZAR hm hc.u (o:=o2) (pre:=pre) (locs:=locs) (w:=[]) (nt:=nt) (x:=n) B2 (by rw[D2.told];exact h5);refine ⟨{ o2 with told:=o2.told++[n] },locs,⟨by show o2.told++[n]=s2.told++[n];rw[D2.told],D2.data,D2.calls⟩,hL,.inl ⟨hb,rfl,?_⟩⟩;rw[Yae];exact G2.trans G3
end
section
variable {p:List Unit} {m:Zaf} (hm:Img p m) (X:Bh)
include hm
theorem Zxq:∀g,QsE p m X g/\QsS p m X g
 | 0=>⟨λ_ _ _ _ _ _ _ _ _ _ _ _ _ _ _ _ _ _ _ _=>.inl rfl,λ_ _ _ _ _ _ _ _ _ _ _ _ _ _ _ _ _ _ _=>.inl rfl⟩
 | g+1=>by obtain ⟨h1,h2⟩:=Zxq g;have h3:=qsB hm h2;exact ⟨qsE hm h1 (qsC hm h3),qsS hm h1 h3⟩
end
theorem Zso.iter {m:Zaf}:∀{k:Nat} {o o1:MO} {fs fs1:List PF},Zso m k o fs o1 fs1->∀n,(n<=k/\(Zcq m n o fs).1=3)\/(k < n/\Zcq m n o fs=Zcq m (n - k) o1 fs1)
 | 0,o,o1,fs,fs1,h,n=>by
  obtain ⟨rfl,rfl⟩:=h;by_cases hn:n=0
  ·subst hn;exact .inl ⟨Yax _,rfl⟩
  ·exact .inr ⟨by omega,rfl⟩
 | k+1,o,o1,fs,fs1,h,n=>by
  obtain ⟨pre,t,o2,fs2,e1,e2,e3⟩:=h;subst e1;cases n with
  | zero=>exact .inl ⟨Yau _,rfl⟩
  | succ n =>
   have e:Zcq m (n+1) o (pre++[t])=Zcq m n o2 fs2:=by rw[Zcx,e2]
   rw[e];rcases Zso.iter e3 n with ⟨h1,h2⟩ | ⟨h1,h2⟩
   ·exact .inl ⟨by omega,h2⟩
   ·refine .inr ⟨by omega,?_⟩;rw[show n+1 - (k+1)=n - k from by omega];exact h2
theorem Zda.fin {m:Zaf} {o o1 o2:MO} {fs pre:List PF} {t:PF} {c v:Int} (h:Zda m o fs o1 (pre++[t])) (hs:Barb.stepS m o1 pre t=.stop c v o2):∀n,(Zcq m n o fs).1=3\/Zcq m n o fs=(c,v,o2):=by
 obtain ⟨k,hk⟩:=h;intro n;rcases hk.iter n with ⟨_,h⟩ | ⟨hlt,h⟩
 ·exact .inl h
 ·refine .inr ?_;obtain ⟨j,hj⟩:∃j,n - k=j+1:=⟨n - k - 1,by omega⟩;rw[h,hj,Zcx,hs]
theorem ZAN {q:List Unit} (hg:Zbd q=0) (h:Zjw q=0):Img q (Zb1 q q.length):=by
 have at_:∀u,u < q.length->(Zb1 q q.length).getD u Zas=ZlG q u:=λu hu=>by
  have hl:u < (Zb1 q q.length).length:=by rw[Zdz];exact hu
  rw[Yal,Yaq hl,ZgZ];rfl
 have gd:∀u (hu:u < q.length),q.getD u noU=q[u]:=λu hu=>by simp[hu]
 refine ⟨hg,by rw[Zdz];exact Yax _,λu hu=>?_,λu hu=>by rw[at_ u hu];rfl,λu hu=>by rw[at_ u hu];rfl,λu hu=>?_,λu hu=>?_⟩
 ·rw[at_ u hu];show Zkc q u (Zaj q u)=_;unfold Zkc;rw[if_pos (ZiJ h hu),Int.toNat_natCast,gd u hu]
 ·rw[at_ u hu];show ZcX (q.getD u noU).funcs (Zim q u (Zaj q u))=_;unfold Zim;rw[if_pos (ZiJ h hu),Int.toNat_natCast,gd u hu]
 ·obtain ⟨b1,b2,_⟩:=Zq3 hg hu;have h0:=ZiJ h hu;rw[Zqt hg hu ⟨b1,b2⟩] at h0;by_cases hx:(ZdV q q[u] (Zaj q u)).length > 1200\/(Zc1 q q[u] (Zaj q u)).most > 40
  ·rw[if_pos hx] at h0;omega
  ·omega
theorem Zwj {α:Type} (f:α->Str) (l:List α) (hd:¬Zk1 (l.map f)) {i:Nat} (hi:i < l.length):idx (λx=>f x=f l[i]) l=(i:Int):=by refine Zf6 (q:=λx=>f x=f l[i]) hi (λj hj hji he=>hd ⟨i,by simpa using hi,?_⟩) rfl;rw[YcD,<- he];exact Ycy.2 ⟨j,by simp;omega,by simp⟩
theorem ZsK {p:List Unit} (hg:Zbd p=0) {u:Nat} (hu:u < p.length):Zba p p[u].name=(u:Int):=by
 refine Zwj Unit.name p (λhd=>?_) hu;unfold Zbd at hg;by_cases h1:5 < p.length
 ·rw[if_pos h1] at hg;omega
 rw[if_neg h1] at hg;by_cases h2:Zah Zcg p≠0
 ·rw[if_pos h2] at hg;omega
 rw[if_neg h2,if_pos hd] at hg;omega
theorem Sim.same {r r':RR Int} (h:Sim r r') (h3:r.code≠3):r'.code=r.code/\r'.val=r.val/\r'.st.told=r.st.told/\r'.st.cells=r.st.cells:=by
 cases r with
 | ok n s =>obtain ⟨s',hl,rfl⟩:=h;exact ⟨rfl,rfl,hl.told,hl.cells⟩
 | stop e s =>
  rcases h with h | ⟨s',hl,rfl⟩
  ·exact absurd h h3
  ·exact ⟨rfl,rfl,hl.told,hl.cells⟩
theorem Zsd {p:List Unit} {cs:List Cells} (h:ZbN p cs):ZbN (Zaz p) cs:=λi h1 h2=>by
 have h3:i < p.length:=by rw[<- ZcL p];exact h2
 have:=h i h1 h3;have e:(Zaz p)[i]=ZbZ p[i]:=by simp[Zaz]
 rw[e];exact this
theorem ZzA {p:List Unit} {k:Nat} (h:k < (Zaz p).length) (h':k < p.length):(Zaz p)[k]=ZbZ p[k]:=by simp[Zaz]
theorem Zwf {p:List Unit} (hg:Zbd p=0) (hN:Zsu p) (h:ZfU p=0):Img (Zaz p) (Ze0 p):=by
 obtain ⟨hq,_⟩:=ZhJ hg hN;have h1:Zjw (Zaz p)=0:=by unfold ZfU at h;rw[if_neg (λh'=>h' hg)] at h;exact h
 have e:Ze0 p=Zb1 (Zaz p) (Zaz p).length:=by unfold Ze0;rw[if_pos h,ZcL]
 rw[e];exact ZAN hq h1
theorem Img.app {p:List Unit} {m:Zaf} (h:Img p m) (l:Zaf):Img p (m++l):=by
 have e:∀u,u < p.length->(m++l).getD u Zas=m.getD u Zas:=λu hu=>by have:=h.len;rw[Yal,Yal,Yaj (by omega)]
 have hl:=h.len;exact ⟨h.good,by rw[Yae];omega,λu hu=>by rw[e u hu];exact h.code u hu,λu hu=>by rw[e u hu];exact h.lo u hu,λu hu=>by rw[e u hu];exact h.hi u hu,λu hu=>by rw[e u hu];exact h.ents u hu,h.most⟩
structure EntR (p:List Unit) (m:Zaf) (u e k i:Nat):Prop where
 fn:k < (uAt p u).funcs.length
 fq:k < (uAt (Zaz p) u).funcs.length
 idx:Zbz (uAt p u) (if e=0 then sf else sh)=(k:Int)
 at_:(atO (Zaz p) u)[k]?=some (i:Int)
 len:((uAt p u).funcs.getD k noF).params.length=if e=0 then 2 else 0
 ents:(m.getD u Zas).entries.length=2
 ent:(m.getD u Zas).entries.getD e ZbJ=⟨(i:Int),((if e=0 then 2 else 0:Nat):Int)⟩
theorem Zjl {many:Nat} {p:List Unit} (hP:Prog many p) {m:Zaf} (hm:Img (Zaz p) m) {u:Nat} (hu:u < p.length) {e:Nat} (he:e < 2):∃k i,EntR p m u e k i:=by
 have huq:u < (Zaz p).length:=by rw[ZcL];exact hu
 have hen:=hm.ents u huq;rw[ZzA huq hu] at hen;have hat:=λj hj=>Zqx (Zaz p) (uAt (Zaz p) u) (Zaj (Zaz p) u) j hj;have haq:uAt (Zaz p) u=ZbZ p[u]:=by rw[ZdY,Zde hu]
 have hao:ZfP (Zaz p) (ZbZ p[u]) (Zaj (Zaz p) u) (ZbZ p[u]).funcs ⟨[],[],0,0⟩=atO (Zaz p) u:=by unfold atO;rw[haq]
 rw[hao] at hen;have hlen:(ZbZ p[u]).funcs.length=p[u].funcs.length:=by show (p[u].funcs.map ZcM).length=_;rw[Yab]
 obtain ⟨i,l1,l2,l3,hi,hs⟩:=(hP.shape _ (Yah hu)).ex;have h3:p[u].funcs.length=3:=by rw[hs];rfl
 obtain ⟨i0,a0,_⟩:=hat 0 (by rw[haq,hlen];omega);obtain ⟨i1,a1,_⟩:=hat 1 (by rw[haq,hlen];omega);obtain ⟨i2,a2,_⟩:=hat 2 (by rw[haq,hlen];omega);have a0:(atO (Zaz p) u)[0]?=some (i0:Int):=a0;have a1:(atO (Zaz p) u)[1]?=some (i1:Int):=a1;have a2:(atO (Zaz p) u)[2]?=some (i2:Int):=a2;have hae:uAt p u=p[u]:=Zde hu;obtain ⟨r,hr⟩:∃r,atO (Zaz p) u=(i0:Int) :: (i1:Int) :: (i2:Int) :: r:=by
  revert a0 a1 a2;generalize atO (Zaz p) u=l;intro a0 a1 a2
  match l,a0,a1,a2 with
  | x :: y :: z :: r,a0,a1,a2 =>simp only[List.getElem?_cons_zero,List.getElem?_cons_succ,Ybj] at a0 a1 a2;exact ⟨r,by rw[a0,a1,a2]⟩
 have hen2:(m.getD u Zas).entries=[⟨(i0:Int),2⟩,⟨(i2:Int),0⟩]:=by rw[hen,hr,hs];rfl
 have he2:e=0\/e=1:=by omega
 rcases he2 with rfl | rfl
 ·refine ⟨0,i0,by rw[hae];omega,by rw[haq,hlen];omega,?_,a0,?_,by rw[hen2];rfl,by rw[hen2];rfl⟩
  ·rw[show (if (0:Nat)=0 then sf else sh)=sf from rfl,hae,hs];unfold Zbz idx;simp only[Zb4];exact if_pos trivial
  ·rw[hae,hs];rfl
 ·refine ⟨2,i2,by rw[hae];omega,by rw[haq,hlen];omega,?_,a2,?_,by rw[hen2];rfl,by rw[hen2];rfl⟩
  ·rw[show (if (1:Nat)=0 then sf else sh)=sh from rfl,hae,hs];unfold Zbz idx;simp only[Zb4];rw[if_neg (by decide),if_neg (by decide)];exact if_pos trivial
  ·rw[hae,hs];rfl
end Barb
namespace ZN
open Go Go.Dm Go.Eng Go.RowKit Barb
theorem Zxa {many:Nat} (u:Barb.Unit) (hs:Shape many u) (e:Nat) (he:e < 2):CT Tryz.prog gl 8 [.agg u.d,.g (.int (e:Int))] (Is (.g (.str (if e=0 then sf else Barb.sh)))):=by
 obtain ⟨hl,h0,n0,h1,h2,n2⟩:u.funcs.length=3/\(∀h:0 < u.funcs.length,u.funcs[0].isOpen=true)/\(∀h:0 < u.funcs.length,u.funcs[0].name=sf)/\(∀h:1 < u.funcs.length,u.funcs[1].isOpen=false)/\(∀h:2 < u.funcs.length,u.funcs[2].isOpen=true)/\(∀h:2 < u.funcs.length,u.funcs[2].name=Barb.sh):=by obtain ⟨i,l1,l2,l3,_,rfl⟩:=hs.ex;exact ⟨rfl,λ_=>rfl,λ_=>rfl,λ_=>rfl,λ_=>rfl,λ_=>rfl⟩
 have lf:(u.funcs.map Fun.g).length=3:=by rw[Yab];exact hl
 refine enter hT hF hM Tryz.func8 rfl 23 rfl (by kernel_rfl) [.tmp 4] rfl [.agg u.d,.g (.int (e:Int))] rfl _ ?_;refine ZaL (ι:=Nat) (λi=>[(10,.g (.int (i:Int))),(1,.g (.int (if i=0 then (e:Int) else 0)))]) (λ_=>[]) (λi=>i < 3/\(0 < i->e=1)) (λi=>3 - i)
  ⟨0,[],⟨rfl,.inl rfl,.inr ⟨lk rfl,lk rfl,trivial⟩,rfl⟩,by decide,λh=>absurd h (by decide)⟩ ?_
 intro Rd hRd i hi;obtain ⟨hi3,hie⟩:=hi;refine ⟨λ_=>?_,λc=>absurd (show (i:Int) < ((u.funcs.map Fun.g).length:Nat) by rw[lf];omega) c⟩;refine ⟨i,_,rfl,fnG (by omega),?_⟩;have hi:i=0\/i=1\/i=2:=by omega
 rcases hi with rfl | rfl | rfl
 ·rw[h0 (by omega),n0 (by omega)];refine ⟨λc0=>?_,λc0=>?_⟩
  ·have he0:e=0:=by have:(e:Int)=0:=c0;omega
   exact ⟨rfl,retS (by rw[if_pos he0])⟩
  ·have he1:e=1:=by have:¬(e:Int)=0:=c0;omega
   refine ⟨by show I64 ((e:Int) - 1);unfold I64;omega,?_⟩;refine ⟨_,I64.wrap (by unfold I64;omega),?_⟩;exact hRd _ _ _ ⟨1,[],⟨rfl,.inl rfl,.inr ⟨lk rfl,lkI (by show (e:Int) - 1=0;omega),trivial⟩,rfl⟩,⟨by decide,λ_=>he1⟩,by decide⟩
 ·rw[h1 (by omega)];refine ⟨_,I64.wrap (by unfold I64;omega),?_⟩;exact hRd _ _ _ ⟨2,[],⟨rfl,.inl rfl,.inr ⟨lk rfl,lk rfl,trivial⟩,rfl⟩,⟨by decide,λ_=>hie (by decide)⟩,by decide⟩
 ·rw[h2 (by omega),n2 (by omega)];have he1:=hie (by decide);refine ⟨λ_=>?_,λc=>absurd rfl c⟩;exact ⟨rfl,retS (by rw[if_neg (by omega)])⟩
end ZN
namespace Barb
open Go Go.Dm Go.Eng ZN
structure Hst (x:Zaf) (a N:Nat):Prop where
 img:Zg5 x=0
 len:x.length=a+1
 lo:(x.getD a Zas).lo=(N:Int)
def Cs (a:Nat) (l l':List Nt):Prop:=l'=l\/(∃n,l'=l++[n]/\n.part=(a:Int))\/∃(k:Nat) (n:Nt) (v:Int),l[k]?=some n/\n.part=(a:Int)/\l'=l.modify k (·.fin v)
theorem Zp7 {l:List Nt} {k j:Nat} {v:Int} {n:Nt} (h:l[j]?=some n):∃n',(l.modify k (·.fin v))[j]?=some n'/\n'.part=n.part:=by
 rw[Yby,h];by_cases e:k=j
 ·exact ⟨n.fin v,by simp[e],rfl⟩
 ·exact ⟨n,by simp[e],rfl⟩
theorem ZgV {l:List Nt} {j:Nat} {n:Nt} (r:List Nt) (h:l[j]?=some n):(l++r)[j]?=some n:=by rw[Yaj (Yaa.1 h).1];exact h
theorem Cs.part {a:Nat} {l l':List Nt} (h:Cs a l l') {j:Nat} {n:Nt} (hj:l[j]?=some n):∃n',l'[j]?=some n'/\n'.part=n.part:=by
 rcases h with rfl | ⟨m,rfl,_⟩ | ⟨k,m,v,_,_,rfl⟩
 ·exact ⟨n,hj,rfl⟩
 ·exact ⟨n,ZgV _ hj,rfl⟩
 ·exact Zp7 hj
def Nf (a:Nat) (l:List Nt) (k:Int):Prop:=k < 0\/∃n,l[k.toNat]?=some n/\n.part=(a:Int)
structure HF (a:Nat) (l:List Nt) (f:PF):Prop where
 part:f.part=(a:Int)
 ws:wds f.ws
 locs:wds f.locs
 noted:Nf a l f.noted
theorem HF.calls {a:Nat} {l l':List Nt} {f:PF} (h:HF a l f) (hc:∀(j:Nat) (n:Nt),l[j]?=some n->∃n',l'[j]?=some n'/\n'.part=n.part):HF a l' f :=
 ⟨h.part,h.ws,h.locs,h.noted.imp id λ⟨n,h1,h2⟩=>by
  obtain ⟨n',e1,e2⟩:=hc _ n h1;exact ⟨n',e1,e2.trans h2⟩⟩
structure KH (a N:Nat) (o o':MO):Prop where
 data:o'.data.take N=o.data.take N
 wd:wds o'.data
 wt:wds o'.told
 calls:Cs a o.calls o'.calls
inductive HO (x:Zaf) (a N:Nat) (o:MO) (pre:List PF):R->Prop
 | stop {c v:Int} {o':MO} (h:KH a N o o'):HO x a N o pre (.stop c v o')
 | go {o':MO} {fs:List PF} (h:KH a N o o') (hf:∀f∈fs,HF a o'.calls f):HO x a N o pre (.go o' fs)
 | deep {n:Nt} (h:n.by_=(a:Int)/\n.part≠(a:Int)/\n.deep=20/\n.done=false):HO x a N o pre (.stop 5 0 { o with calls:=o.calls++[n] })
 | gate {u e:Nat} {l:List Int} {t:PF} (hu:u < a) (he:e < (x.getD u Zas).entries.length) (hl:((x.getD u Zas).entries.getD e ZbJ).params=l.length) (hw:wds l) (hd:pre.length+1<=19) (ht:HF a o.calls t) :
   HO x a N o pre (.go { o with calls:=o.calls++[⟨(a:Int),(u:Int),(e:Int),l,((pre.length+1:Nat):Int),false,0⟩] } (pre++[t]++[⟨(u:Int),((x.getD u Zas).entries.getD e ZbJ).at_,p8 l,[],(o.calls.length:Int)⟩]))
theorem Zga {l r:List Int} (h:wds l) (k:wds r):wds (l++r):=λn hn=>by
 rcases Yao.1 hn with hn | hn
 ·exact h n hn
 ·exact k n hn
theorem Zf9 {n:Int} (h:wd n):wds [n]:=λm hm=>by rw[Yay.1 hm];exact h
theorem Ziu {l:List Int} (h:wds l) (k:Nat):wds (l.take k):=λn hn=>h n (YaH hn)
theorem Zex {l:List Int} (h:wds l) (k:Nat):wds (l.drop k):=λn hn=>h n (YaU hn)
theorem Zsy {l:List Int} (h:wds l):wds (p8 l):=λn hn=>by unfold p8 at hn;simp only[Yav,YaT,or_false] at hn;rcases hn with rfl | rfl | rfl | rfl | rfl | rfl | rfl | rfl<;>exact Zfz h _
section
variable {x:Zaf} {a N:Nat} (H:Hst x a N) {o:MO} {pre:List PF} {t:PF} (hv:∀f∈pre,HF a o.calls f) (ht:HF a o.calls t) (hd:wds o.data) (hT:wds o.told)
include hd hT in
theorem KH.refl:KH a N o o:=⟨rfl,hd,hT,.inl rfl⟩
include hv in
theorem Zin {l':List Nt} (hc:∀(j:Nat) (n:Nt),o.calls[j]?=some n->∃n',l'[j]?=some n'/\n'.part=n.part) {f:PF} (hf:HF a l' f):∀g∈pre++[f],HF a l' g:=λg hg=>by
 rcases Yao.1 hg with h | h
 ·exact (hv g h).calls hc
 ·rw[Yay.1 h];exact hf
include hv hd hT in
theorem Ztu {f:PF} (hf:HF a o.calls f) {n:Int} (hn:wd n):HO x a N o pre (ZcV o pre f n):=by
 unfold ZcV;split
 ·exact .stop (KH.refl hd hT)
 ·exact .go (KH.refl hd hT) (Zin hv (λj n h=>⟨n,h,rfl⟩) ⟨hf.part,Zga hf.ws (Zf9 hn),hf.locs,hf.noted⟩)
theorem ZAD {o:MO} {a N:Nat} {k:Int} (hn:Nf a o.calls k) (hd:wds o.data) (hT:wds o.told) (v:Int):KH a N o (Zbe o k v):=by
 unfold Zbe;split
 ·rcases hn with hn | ⟨n,h1,h2⟩
  ·omega
  ·exact ⟨rfl,hd,hT,.inr (.inr ⟨k.toNat,n,v,h1,h2,rfl⟩)⟩
 ·exact KH.refl hd hT
include H hv ht hd hT in
set_option maxHeartbeats 1000000 in
theorem Zt9 (hat0:0<=t.at_) (hdeep:pre.length+1<=20) (hwl:t.ws.length<=40) (hcl:o.calls.length < 100):HO x a N o pre (Barb.stepS x o pre t):=by
 have hal:a < x.length:=by rw[H.len];omega
 by_cases hat:t.at_ >= ((x.getD t.part.toNat Zas).code.length:Int)
 ·rw[ZvC hat];exact .stop (KH.refl hd hT)
 rw[Zs0 hat];have ht1:HF a o.calls { t with at_:=t.at_+1 }:=⟨ht.part,ht.ws,ht.locs,ht.noted⟩;have hin:∀y∈(x.getD t.part.toNat Zas).code,ZaM y=0:=by rw[ht.part,Int.toNat_natCast,show x.getD a Zas=x[a] by simp[hal]];exact (Zgv H.img hal).2.2.1
 have hw1:({ t with at_:=t.at_+1 }:PF).ws.length<=40:=hwl;have hlo:∀z,ZfX (x.getD t.part.toNat Zas) z->(N:Int)<=z:=λz hz=>by rw[ht.part,Int.toNat_natCast] at hz;have:=hz.1;rw[H.lo] at this;exact this
 have hop:=H.len;generalize x.getD t.part.toNat Zas=p at *;generalize ({ t with at_:=t.at_+1 }:PF)=t1 at *;have hz:t.at_.toNat < p.code.length:=by omega
 have hie:ZaM (p.code.getD t.at_.toNat Zcp)=0:=by rw[show p.code.getD t.at_.toNat Zcp=p.code[t.at_.toNat] by simp[hz]];exact hin _ (Yah hz)
 generalize p.code.getD t.at_.toNat Zcp=i at *;obtain ⟨i1,i2,i3,i4,i5,i6,i7,i8,_⟩:=ZdM hie;by_cases hfew:(t1.ws.length:Int) < ZoY i
 ·rw[Zzl ⟨i1,i2⟩ i5 i7 hfew];exact .stop (KH.refl hd hT)
 have same:∀(j:Nat) (n:Nt),o.calls[j]?=some n->∃n',o.calls[j]?=some n'/\n'.part=n.part:=λj n h=>⟨n,h,rfl⟩;have K:=KH.refl (a:=a) (N:=N) hd hT;have n1:∀{q:Nat},ZoY i=q->∃k,t1.ws.length=k+q:=fun {q} hq=>⟨t1.ws.length - q,by rw[hq] at hfew;omega⟩;have one:i.op=2\/i.op=3\/i.op=5\/i.op=6\/i.op=10\/i.op=13\/i.op=14->∃k y,t1.ws.length=k+1/\t1.ws.drop k=[y]/\wd y:=λh=>by obtain ⟨k,hk⟩:=n1 (q:=1) (by unfold ZoY;rw[if_pos h];rfl);obtain ⟨y,hy,_⟩:=ZhB hk;exact ⟨k,y,hk,hy,Zex ht1.ws k y (by rw[hy];exact Yac)⟩
 have two:i.op=7\/i.op=8->∃k y z,t1.ws.length=k+2/\t1.ws.drop k=[y,z]/\wd y/\wd z:=λh=>by obtain ⟨k,hk⟩:=n1 (q:=2) (by unfold ZoY;rw[if_neg (by omega),if_pos h];rfl);obtain ⟨y,z,hy,_⟩:=ZoW hk;exact ⟨k,y,z,hk,hy,Zex ht1.ws k y (by rw[hy];exact Yac),Zex ht1.ws k z (by rw[hy];simp)⟩
 have top:∀(k:Nat) {r:List Int},wds r->HF a o.calls (t1.ww (t1.ws.take k++r)):=λk r hr=>⟨ht1.part,Zga (Ziu ht1.ws k) hr,ht1.locs,ht1.noted⟩;have top0:∀(k:Nat),HF a o.calls (t1.ww (t1.ws.take k)):=λk=>⟨ht1.part,Ziu ht1.ws k,ht1.locs,ht1.noted⟩;have hcases:i.op=1\/i.op=2\/i.op=3\/i.op=4\/i.op=5\/i.op=6\/i.op=7\/i.op=8\/i.op=9\/i.op=10\/i.op=11\/i.op=12\/i.op=13\/i.op=14\/i.op=15:=by omega
 rcases hcases with h | h | h | h | h | h | h | h | h | h | h | h | h | h | h
 ·rw[ZBf h];exact Ztu hv hd hT ht1 ⟨i3,by rw[h] at i4;exact i4⟩
 ·obtain ⟨k,y,hk,hy,hyw⟩:=one (by omega);rw[ZCf h hk];exact .go K (Zin hv same (top0 k))
 ·obtain ⟨k,y,hk,hy,hyw⟩:=one (by omega);rw[ZBe h hk hy];split
  ·exact .stop K
  ·exact .go K (Zin hv same ⟨ht1.part,Zga ht1.ws (Zf9 hyw),ht1.locs,ht1.noted⟩)
 ·rw[ZBd h];exact Ztu hv hd hT ht1 (Zfz ht1.locs _)
 ·obtain ⟨k,y,hk,hy,hyw⟩:=one (by omega);rw[ZBc h hk hy];exact .go K (Zin hv same ⟨ht1.part,Ziu ht1.ws k,Zi0 ht1.locs hyw _,ht1.noted⟩)
 ·obtain ⟨k,y,hk,hy,hyw⟩:=one (by omega);rw[ZBb h hk hy];split
  ·exact .go K (Zin hv same (top k (Zf9 (Zfz hd _))))
  ·exact .stop K
 ·obtain ⟨k,y,z,hk,hy,hyw,hzw⟩:=two (by omega);rw[ZBa h hk hy];split
  ·rename_i ho;have hy2:=hlo _ ho;refine .go ⟨?_,Zi0 hd hzw _,hT,.inl rfl⟩ (Zin hv same (top0 k));show (o.data.set y.toNat z).take N=_;rw[List.take_set,List.set_eq_of_length_le (by rw[Yan];omega)]
  ·exact .stop K
 ·obtain ⟨k,y,z,hk,hy,hyw,hzw⟩:=two (by omega);rw[ZA9 h hk hy];exact .go K (Zin hv same (top k (Zf9 (ZBh _ _ _))))
 ·rw[ZA8 h];exact .go K (Zin hv same ⟨ht1.part,ht1.ws,ht1.locs,ht1.noted⟩)
 ·obtain ⟨k,y,hk,hy,hyw⟩:=one (by omega);rw[ZuA h hk hy];refine .go K (Zin hv same ?_);split
  ·exact ⟨ht1.part,Ziu ht1.ws k,ht1.locs,ht1.noted⟩
  ·exact top0 k
 ·obtain ⟨q,hq⟩:∃q:Nat,i.b=(q:Int):=⟨i.b.toNat,by omega⟩;obtain ⟨k,hk⟩:=n1 (q:=q) (by unfold ZoY;rw[if_neg (by omega),if_neg (by omega),if_pos h,hq]);rw[ZxH h hq hk];split
  ·exact .stop K
  ·refine .go K (λf hf=>?_);rcases Yao.1 hf with hf | hf
   ·exact Zin hv same (top0 k) f hf
   ·rw[Yay.1 hf];exact ⟨ht1.part,λ_ hn=>absurd hn YaT,Zsy (Zex ht1.ws k),.inl (show (-1:Int) < 0 by decide)⟩
 ·obtain ⟨q,hq⟩:∃q:Nat,i.c=(q:Int):=⟨i.c.toNat,by omega⟩;obtain ⟨k,hk⟩:=n1 (q:=q) (by unfold ZoY;rw[if_neg (by omega),if_neg (by omega),if_neg (by omega),if_pos h,hq]);rw[ZxG h hq hk];split
  ·exact .stop K
  rename_i hbad;unfold ZcJ at hbad;rw[ht1.part];obtain ⟨u,hu⟩:∃u:Nat,i.a=(u:Int):=⟨i.a.toNat,by omega⟩;obtain ⟨e,he⟩:∃e:Nat,i.b=(e:Int):=⟨i.b.toNat,by omega⟩;rw[hu,he,Int.toNat_natCast,Int.toNat_natCast] at hbad ⊢;have hql:(t1.ws.drop k).length=q:=by rw[Ya6];omega
  by_cases hua:u=a
  ·have hcs:Cs a o.calls (o.calls++[⟨(a:Int),(u:Int),(e:Int),t1.ws.drop k,((pre.length+1:Nat):Int),false,0⟩]):=.inr (.inl ⟨_,rfl,by rw[hua]⟩);split
   ·exact .stop ⟨rfl,hd,hT,hcs⟩
   ·refine .go ⟨rfl,hd,hT,hcs⟩ (λf hf=>?_);rcases Yao.1 hf with hf | hf
    ·exact Zin hv (λj n hj=>hcs.part hj) ((top0 k).calls λj n hj=>hcs.part hj) f hf
    ·rw[Yay.1 hf];exact ⟨by rw[hua],λ_ hn=>absurd hn YaT,Zsy (Zex ht1.ws k),.inr ⟨_,by rw[Int.toNat_natCast];exact Ycr,by rw[hua]⟩⟩
  ·split
   ·rename_i h20;exact .deep ⟨rfl,by show (u:Int)≠a;omega,by show ((pre.length+1:Nat):Int)=20;rw[h20];rfl,rfl⟩
   ·refine .gate (by omega) (YaG λhh=>hbad (.inr (.inl (by omega)))) ?_ (Zex ht1.ws k) (by omega) (top0 k);rw[hql,<- hq];exact YaG λhh=>hbad (.inr (.inr hh))
 ·obtain ⟨k,y,hk,hy,hyw⟩:=one (by omega);rw[Zuz h hk hy];have hK:KH a N o (Zbe o t1.noted y):=ZAD ht1.noted hd hT y;rcases YbM pre with rfl | ⟨pre0,f,rfl⟩
  ·exact .stop hK
  ·rw[Ybt] at hv ⊢;simp only[Yb2,List.getLast?_singleton,Option.some_or,Yb3];unfold ZcV;split
   ·exact .stop hK
   ·have hf:=hv f (by simp);refine .go hK (λg hg=>?_);rcases Yao.1 hg with hg | hg
    ·exact (hv g (YbZ _ hg)).calls λj n hj=>hK.calls.part hj
    ·rw[Yay.1 hg];exact HF.calls (f:=f.ww (f.ws++[y])) ⟨hf.part,Zga hf.ws (Zf9 hyw),hf.locs,hf.noted⟩ λj n hj=>hK.calls.part hj
 ·obtain ⟨k,y,hk,hy,hyw⟩:=one (by omega);rw[Zuy h hk hy];split
  ·exact .stop K
  ·exact .go ⟨rfl,hd,Zga hT (Zf9 hyw),.inl rfl⟩ (Zin hv same (top0 k))
 ·rw[ZxF h];exact .stop K
end
def Gs (l:List Nt) (k:Int) (l':List Nt):Prop:=l'=l\/(∃n,l'=l++[n]/\l.length < 100)\/∃v,0<=k/\l'=l.modify k.toNat (·.fin v)
def R.gn (l:List Nt) (k:Int) (ns:Int->Prop):R->Prop
 | .go o' fs=>Gs l k o'.calls/\∀f∈fs,ns f.noted
 | .stop _ _ o'=>Gs l k o'.calls
section
variable {l:List Nt} {k:Int} {ns:Int->Prop} {o:MO} {pre:List PF} {t:PF}
theorem Zft (hp:∀f∈pre,ns f.noted) (ht:ns t.noted):∀f∈pre++[t],ns f.noted:=λf hf=>by
 rcases Yao.1 hf with h | h
 ·exact hp f h
 ·rw[Yay.1 h];exact ht
theorem Zp4 (hg:Gs l k o.calls) (hp:∀f∈pre,ns f.noted) (ht:ns t.noted) (n:Int):(ZcV o pre t n).gn l k ns:=by
 unfold ZcV;split
 ·exact hg
 ·exact ⟨hg,Zft hp ht⟩
theorem ZjQ {fs:List PF} (hg:Gs l k o.calls) (hp:∀f∈fs,ns f.noted) {j:Int} (hj:ns j) (part at_:Int) (args:List Int):(Zcz o fs part at_ j args).gn l k ns:=by
 unfold Zcz;split
 ·exact hg
 ·exact ⟨hg,Zft hp hj⟩
variable (hp:∀f∈pre,ns f.noted) (ht:ns t.noted) (hneg:ns (-1)) (hnew:ns (o.calls.length:Int))
include hp ht
theorem ZyO (p:Part) (i:Instr):(Zmu p i o pre t).gn o.calls k ns:=by
 unfold Zmu
 (repeat' split)
 all_goals first
  | exact .inl rfl
  | exact ⟨.inl rfl,Zft hp ht⟩
theorem ZxN (i:Instr):(Zis i o pre t).gn o.calls k ns:=by
 unfold Zis;dsimp only
 (repeat' split)
 all_goals first
  | exact Zp4 (.inl rfl) hp ht _
  | exact .inl rfl
  | exact ⟨.inl rfl,Zft hp ht⟩
omit ht in
theorem Zyy (hk:t.noted=k):(retS o pre t).gn o.calls k ns:=by
 have hn:∀v,Gs o.calls k (Zbe o t.noted v).calls:=λv=>by
  unfold Zbe;rw[hk];split
  ·exact .inr (.inr ⟨v,by omega,rfl⟩)
  ·exact .inl rfl
 unfold retS;split
 ·exact .inl rfl
 ·dsimp only;split
  ·exact hn _
  ·rename_i f hf;exact Zp4 (hn _) (λg hg=>hp g (List.dropLast_subset _ hg)) (hp f (List.mem_of_getLast? hf)) _
include hneg hnew
theorem ZwB (m:Zaf) (i:Instr):(Zgo m i o pre t).gn o.calls k ns:=by
 unfold Zgo;split
 ·exact .inl rfl
 split
 ·exact .inl rfl
 dsimp only;split
 ·rename_i h;refine ZjQ ?_ ?_ hnew _ _ _
  ·exact .inr (.inl ⟨_,rfl,h⟩)
  ·exact Zft (t:=t.on _) hp ht
 ·refine ZjQ ?_ ?_ hneg _ _ _
  ·exact .inl rfl
  ·exact Zft (t:=t.on _) hp ht
theorem Zzo (m:Zaf) (i:Instr) (hk:t.noted=k):(Zhk m i o pre t).gn o.calls k ns:=by
 unfold Zhk
 (repeat' split)
 all_goals first
  | exact ZwB hp ht hneg hnew m i
  | exact Zyy hp hk
  | exact ZjQ (o:=o) (fs:=pre++[t.on _]) (.inl rfl) (Zft (t:=t.on _) hp ht) hneg _ _ _
  | exact .inl rfl
  | exact ⟨.inl rfl,Zft hp ht⟩
theorem ZvE (m:Zaf) (hk:t.noted=k):(Barb.stepS m o pre t).gn o.calls k ns:=by
 have ht':ns ({ t with at_:=t.at_+1 }:PF).noted:=ht;unfold Barb.stepS;dsimp only
 (repeat' split)
 ·exact .inl rfl
 ·exact ZyO hp ht' _ _
 ·exact Zzo hp ht' hneg hnew m _ hk
 ·exact ZxN hp ht' _
end
theorem ZiM {m:Zaf} {P:List Nt->(Int->Prop)->Prop} (hP:∀(l l':List Nt) (k:Int) (ns:Int->Prop),P l ns->ns k->Gs l k l'->P l' (λj=>ns j\/j=-1\/j=(l.length:Int))) (hm:∀(l:List Nt) (ns ns':Int->Prop),(∀j,ns' j->ns j)->P l ns->P l ns') :
  ∀(n:Nat) (o:MO) (fs:List PF),P o.calls (λj=>∃f∈fs,j=f.noted)->P (Zcq m n o fs).2.2.calls (λ_=>False)
 | 0,o,fs,h=>hm _ _ _ (λ_ h=>h.elim) h
 | n+1,o,fs,h=>by
  rcases YbM fs with rfl | ⟨pre,t,rfl⟩
  ·exact hm _ _ _ (λ_ h=>h.elim) h
  rw[Ybt] at h ⊢;rw[Zcx];have hs:=ZvE (ns:=λj=>(∃f∈pre++[t],j=f.noted)\/j=-1\/j=(o.calls.length:Int)) (o:=o) (pre:=pre) (t:=t) (λf hf=>.inl ⟨f,YbZ _ hf,rfl⟩) (.inl ⟨t,by simp,rfl⟩) (.inr (.inl rfl)) (.inr (.inr rfl)) m (k:=t.noted) rfl;cases hx:Barb.stepS m o pre t with
  | go o' fs' =>rw[hx] at hs;refine ZiM hP hm n o' fs' (hm _ _ _ ?_ (hP _ _ _ _ h ⟨t,by simp,rfl⟩ hs.1));rintro j ⟨f,hf,rfl⟩;exact hs.2 f hf
  | stop c v o' =>rw[hx] at hs;exact hm _ _ _ (λ_ h=>h.elim) (hP _ _ _ _ h ⟨t,by simp,rfl⟩ hs)
theorem ZrT {m:Zaf} (n:Nat) (o:MO) (fs:List PF) (h:o.calls.length=100):(Zcq m n o fs).2.2.calls.length=100 :=
 ZiM (P:=λl _=>l.length=100) (λl l' k ns h _ g=>by
  rcases g with rfl | ⟨n,_,h2⟩ | ⟨v,_,rfl⟩
  ·exact h
  ·omega
  ·rw[Ycq];exact h) (λ_ _ _ _ h=>h) n o fs h
theorem Zvu {α:Type} (f:α->α) (l:List α) (k j:Nat):(l.modify k f).take j=(l.take j).modify k f:=by
 refine YbD λi=>?_;rw[Ya3,Yby,Yby,Ya3];split
 ·rfl
 ·rfl
theorem Zo6 {m:Zaf} {a k0:Nat} {P:List Nt->Prop} {Q:Nt->Prop} (hP:∀(l:List Nt) (k:Nat) (n:Nt) (v:Int),P l->l[k]?=some n->n.part=(a:Int)->P (l.modify k (·.fin v))) (hQ:∀n v,Q n->Q (Nt.fin n v)) (n:Nat) (o:MO) (fs:List PF)
  (h1:∃x,o.calls[k0]?=some x/\Q x) (h2:P (o.calls.take k0)) (h3:∀f∈fs,f.noted < 0\/(k0:Int)<=f.noted\/Nf a o.calls f.noted):(∃x,(Zcq m n o fs).2.2.calls[k0]?=some x/\Q x)/\P ((Zcq m n o fs).2.2.calls.take k0):=by
 have h:=ZiM (m:=m) (P:=λl ns=>(∃x,l[k0]?=some x/\Q x)/\P (l.take k0)/\∀j,ns j->j < 0\/(k0:Int)<=j\/Nf a l j) (λl l' k ns h hk g=>by
  obtain ⟨⟨x,hx,hq⟩,hp,hn⟩:=h;have hl:k0 < l.length:=(Yaa.1 hx).1;have key:(∃x,l'[k0]?=some x/\Q x)/\P (l'.take k0)/\∀(j:Nat) (n:Nt),l[j]?=some n->∃n',l'[j]?=some n'/\n'.part=n.part:=by
   rcases g with rfl | ⟨y,rfl,_⟩ | ⟨v,h0,rfl⟩
   ·exact ⟨⟨x,hx,hq⟩,hp,λj n h=>⟨n,h,rfl⟩⟩
   ·exact ⟨⟨x,ZgV _ hx,hq⟩,by rw[Ya9 (by omega)];exact hp,λj n h=>⟨n,ZgV _ h,rfl⟩⟩
   ·refine ⟨?_,?_,λj n h=>Zp7 h⟩
    ·rw[Yby,hx];by_cases e:k.toNat=k0
     ·exact ⟨x.fin v,by simp[e],hQ x v hq⟩
     ·exact ⟨x,by simp[e],hq⟩
    ·rw[Zvu];rcases hn k hk with h | h | h
     ·omega
     ·rw[List.modify_eq_self (by rw[Yan];omega)];exact hp
     ·rcases h with h | ⟨y,hy,hya⟩
      ·omega
      ·by_cases hlt:k.toNat < k0
       ·exact hP _ _ y v hp (by rw[Ya3,if_pos hlt];exact hy) hya
       ·rw[List.modify_eq_self (by rw[Yan];omega)];exact hp
  refine ⟨key.1,key.2.1,λj hj=>?_⟩;rcases hj with hj | rfl | rfl
  ·rcases hn j hj with h | h | h
   ·exact .inl h
   ·exact .inr (.inl h)
   ·refine .inr (.inr (h.imp id λ⟨y,hy,hya⟩=>?_));obtain ⟨y',e1,e2⟩:=key.2.2 _ _ hy;exact ⟨y',e1,e2.trans hya⟩
  ·exact .inl (by decide)
  ·exact .inr (.inl (by omega))) (λl ns ns' hm h=>⟨h.1,h.2.1,λj hj=>h.2.2 j (hm j hj)⟩) n o fs ⟨h1,h2,λj ⟨f,hf,e⟩=>by rw[e];exact h3 f hf⟩
 exact ⟨h.1,h.2.1⟩
def sel (a:Nat) (n:Nt):Prop:=n.by_=(a:Int)/\n.part≠(a:Int)
noncomputable def fnK (p:List Unit) (n:Nt):Nat:=(Zbz (uAt p n.part.toNat) (if n.entry=0 then sf else sh)).toNat
noncomputable def Zbc (p:List Unit) (n:Nt) (c:List Cells):RR Int:=Zb6 p (evS p 100000) n.part.toNat (fnK p n) n.args n.deep.toNat ⟨100000,[],c⟩
structure NW (p:List Unit) (n:Nt):Prop where
 part:0<=n.part/\n.part.toNat < p.length
 entry:n.entry=0\/n.entry=1
 len:n.args.length=if n.entry=0 then 2 else 0
 args:wds n.args
 deep:1<=n.deep/\n.deep<=19
inductive Rp (p:List Unit) (a:Nat) (e:Int):List Nt->List Cells->Option (List Cells)->Prop
 | nil {c:List Cells}:Rp p a e [] c (some c)
 | skip {n:Nt} {l:List Nt} {c:List Cells} {q:Option (List Cells)} (h:¬sel a n) (k:Rp p a e l c q):Rp p a e (n :: l) c q
 | deep {n:Nt} {l:List Nt} {c:List Cells} (h:sel a n) (hd:20<=n.deep) (he:e=5) (hn:n.done=false):Rp p a e (n :: l) c (some c)
 | spent {n:Nt} {l:List Nt} {c:List Cells} (h:sel a n) (hw:NW p n) (hs:(Zbc p n c).code=3\/(Zbc p n c).code=6):Rp p a e (n :: l) c none
 | ok {n:Nt} {l:List Nt} {c:List Cells} {q:Option (List Cells)} (h:sel a n) (hw:NW p n) (h1:(Zbc p n c).code=1) (hn:n.done=true) (hv:n.value=(Zbc p n c).val) (k:Rp p a e l (Zbc p n c).st.cells q):Rp p a e (n :: l) c q
 | stop {n:Nt} {l:List Nt} {c:List Cells} {q:Option (List Cells)} (h:sel a n) (hw:NW p n) (h1:(Zbc p n c).code≠1/\(Zbc p n c).code≠3/\(Zbc p n c).code≠6) (hn:n.done=false) (he:e=(Zbc p n c).code) (hl:∀y∈l,y.by_≠(a:Int)) (k:Rp p a e l (Zbc p n c).st.cells q):Rp p a e (n :: l) c q
inductive Dn (p:List Unit) (a:Nat):List Nt->List Cells->List Cells->Prop
 | nil {c:List Cells}:Dn p a [] c c
 | skip {n:Nt} {l:List Nt} {c c':List Cells} (h:¬sel a n) (k:Dn p a l c c'):Dn p a (n :: l) c c'
 | ok {n:Nt} {l:List Nt} {c c':List Cells} (h:sel a n) (hw:NW p n) (h1:(Zbc p n c).code=1) (hn:n.done=true) (hv:n.value=(Zbc p n c).val) (k:Dn p a l (Zbc p n c).st.cells c'):Dn p a (n :: l) c c'
section
variable {p:List Unit} {a:Nat} {e:Int}
theorem Dn.rp {l:List Nt} {c c':List Cells} (h:Dn p a l c c') {r:List Nt} {q:Option (List Cells)} (k:Rp p a e r c' q):Rp p a e (l++r) c q:=by
 induction h with
 | nil=>exact k
 | skip h _ ih=>exact .skip h (ih k)
 | ok h hw h1 hn hv _ ih=>exact .ok h hw h1 hn hv (ih k)
theorem Dn.app {l:List Nt} {c c' c2:List Cells} (h:Dn p a l c c') {r:List Nt} (k:Dn p a r c' c2):Dn p a (l++r) c c2:=by
 induction h with
 | nil=>exact k
 | skip h _ ih=>exact .skip h (ih k)
 | ok h hw h1 hn hv _ ih=>exact .ok h hw h1 hn hv (ih k)
theorem Dn.all {l:List Nt} {c c':List Cells} (h:Dn p a l c c'):Rp p a e l c (some c'):=by have:=h.rp (e:=e) (r:=[]) .nil;rwa [YaF] at this
theorem Dn.none:∀{l:List Nt} {c:List Cells},(∀n∈l,¬sel a n)->Dn p a l c c
 | [],_,_=>.nil
 | n :: _,_,h=>.skip (h n Yac) (Dn.none λm hm=>h m (Yad _ hm))
theorem Dn.mod {l:List Nt} {c c':List Cells} (h:Dn p a l c c'):∀{k:Nat} {n:Nt} {v:Int},l[k]?=some n->n.part=(a:Int)->Dn p a (l.modify k (·.fin v)) c c':=by
 induction h with
 | nil=>intro k n v hk;simp at hk
 | skip h k0 ih =>
  intro k n v hk hp;cases k with
  | zero =>rw[List.modify_zero_cons];exact .skip h k0
  | succ k =>rw[List.modify_succ_cons];exact .skip h (ih (by simpa using hk) hp)
 | ok h hw h1 hn hv k0 ih =>
  intro k n v hk hp;cases k with
  | zero =>rw[List.getElem?_cons_zero,Ybj] at hk;subst hk;exact absurd hp h.2
  | succ k =>rw[List.modify_succ_cons];exact .ok h hw h1 hn hv (ih (by simpa using hk) hp)
theorem Dn.cs {l l':List Nt} {c c':List Cells} (h:Dn p a l c c') (k:Cs a l l'):Dn p a l' c c':=by
 rcases k with rfl | ⟨n,rfl,hn⟩ | ⟨k,n,v,h1,h2,rfl⟩
 ·exact h
 ·exact h.app (Dn.none λm hm=>by rw[Yay.1 hm];exact λhs=>hs.2 hn)
 ·exact h.mod h1 h2
end
theorem Zso.ok {m:Zaf}:∀{k:Nat} {o o1:MO} {fs fs1:List PF},Zso m k o fs o1 fs1->SOk m o fs->SOk m o1 fs1
 | 0,_,_,_,_,h,ok=>by obtain ⟨rfl,rfl⟩:=h;exact ok
 | k+1,o,o1,fs,fs1,h,ok=>by obtain ⟨pre,t,o2,fs2,e1,e2,e3⟩:=h;subst e1;have:=ZfC ok;rw[e2] at this;exact Zso.ok e3 this.1
def Wl (p:List Unit) (a N:Nat) (c0:List Cells) (r:Int × Int × MO):Prop:=r.1=3\/r.1=6\/r.2.2.calls.length=100\/∃q,Rp p a r.1 r.2.2.calls c0 q/\∀c,q=some c->c.length=p.length/\ZbN p c/\r.2.2.data.take N=ZaA c
section
variable {many:Nat} {p:List Unit} (hP:Prog many p) {x:Zaf} (hI:Img (Zaz p) x) {N:Nat} (H:Hst x p.length N) (hN:((N:Nat):Int)=Zai p) {c0:List Cells}
include hP hI H hN
set_option maxHeartbeats 1000000 in
theorem ZxR:∀(M n:Nat),n<=M->∀(o:MO) (fs:List PF) (cs:List Cells),SOk x o fs->fs≠[]->(∀f∈fs,HF p.length o.calls f)->wds o.data->wds o.told->cs.length=p.length->ZbN p cs->o.data.take N=ZaA cs->Dn p p.length o.calls c0 cs->Wl p p.length N c0 (Zcq x n o fs)
 | _,0,_,_,_,_,_,_,_,_,_,_,_,_,_=>.inl rfl
 | M+1,n+1,hM,o,fs,cs,ok,hne,hv,hd,hT,hcl,hcc,hda,hD=>by
  have hg:=ZgS hP;have hfull:=ok.calls;by_cases h100:o.calls.length=100
  ·exact .inr (.inr (.inl (ZrT _ _ _ h100)))
  obtain ⟨pre,t,rfl⟩:=ZhE fs hne;have ht:=hv t (by simp);have hpre:∀f∈pre,HF p.length o.calls f:=λf hf=>hv f (YbZ _ hf);have hdp:=ok.deep;rw[Yae,List.length_singleton] at hdp;have hst:=Zt9 H hpre ht hd hT (ok.frs t (by simp)).at0 hdp (ok.frs t (by simp)).ws (by omega);have hok:=ZfC ok;rw[Zcx];revert hok;generalize Barb.stepS x o pre t=rr at *;intro hok;cases hst with
  | stop h=>exact .inr (.inr (.inr ⟨_,(hD.cs h.calls).all,λc hc=>by injection hc with hc;subst hc;exact ⟨hcl,hcc,h.data.trans hda⟩⟩))
  | go h hf=>exact ZxR M n (by omega) _ _ cs hok.1 hok.2 hf h.wd h.wt hcl hcc (h.data.trans hda) (hD.cs h.calls)
  | deep h=>exact .inr (.inr (.inr ⟨_,hD.rp (.deep ⟨h.1,h.2.1⟩ (by rw[h.2.2.1];decide) rfl h.2.2.2),λc hc=>by injection hc with hc;subst hc;exact ⟨hcl,hcc,hda⟩⟩))
  | gate hu he hl hw hd19 htf =>
   rename_i u e l t';have huq:u < (Zaz p).length:=by rw[ZcL];exact hu
   have h2:(x.getD u Zas).entries.length=2:=by obtain ⟨_,_,E⟩:=Zjl hP hI hu (e:=0) (by decide);exact E.ents
   obtain ⟨k,i,E⟩:=Zjl hP hI hu (e:=e) (by omega);have hent:=E.ent;rw[hent] at hl hok ⊢;have hll:l.length=if e=0 then 2 else 0:=by have:=hl;dsimp only at this;omega
   generalize hnt:(⟨((p.length:Nat):Int),(u:Int),(e:Int),l,((pre.length+1:Nat):Int),false,0⟩:Nt)=nt at *;have hkey:nt.by_=(p.length:Int)/\nt.part=(u:Int)/\nt.entry=(e:Int)/\nt.args=l/\nt.deep=((pre.length+1:Nat):Int)/\nt.done=false:=by subst hnt;exact ⟨rfl,rfl,rfl,rfl,rfl,rfl⟩
   clear hnt;have hsel:∀y:Nt,y.by_=nt.by_/\y.part=nt.part->sel p.length y:=λy hy=>⟨hy.1.trans hkey.1,by rw[hy.2,hkey.2.1];omega⟩;have he01:((e:Nat):Int)=0\/((e:Nat):Int)=1:=by omega
   have e0:((e:Nat):Int)=0↔e=0:=by omega
   have hNW:∀y:Nt,y.part=nt.part/\y.entry=nt.entry/\y.args=nt.args/\y.deep=nt.deep->NW p y:=λy hy=>by refine ⟨by rw[hy.1,hkey.2.1];exact ⟨by omega,by rw[Int.toNat_natCast];exact hu⟩,by rw[hy.2.1,hkey.2.2.1];exact he01,?_,by rw[hy.2.2.1,hkey.2.2.2.1];exact hw,by rw[hy.2.2.2,hkey.2.2.2.2.1];omega⟩;rw[hy.2.1,hkey.2.2.1,hy.2.2.1,hkey.2.2.2.1,hll];simp only[e0]
   have hrun:∀y:Nt,y.part=nt.part/\y.entry=nt.entry/\y.args=nt.args/\y.deep=nt.deep->∀c,Zbc p y c=Zb6 p (evS p 100000) u k l (pre.length+1) ⟨100000,[],c⟩:=λy hy c=>by
    have hk:fnK p y=k:=by unfold fnK;rw[hy.1,hy.2.1,hkey.2.1,hkey.2.2.1,Int.toNat_natCast];simp only[e0];rw[E.idx,Int.toNat_natCast]
    unfold Zbc;rw[hk,hy.1,hy.2.2.1,hy.2.2.2,hkey.2.1,hkey.2.2.2.1,hkey.2.2.2.2.1,Int.toNat_natCast,Int.toNat_natCast]
   have hwl:l.length=((uAt p u).funcs.getD k noF).params.length:=by rw[E.len];exact hll
   show Wl p p.length N c0 (Zcq x n { o with calls:=o.calls++[nt] } (pre++[t']++[⟨(u:Int),(i:Int),p8 l,[],(o.calls.length:Int)⟩]));by_cases hs36:(Zbc p nt cs).code=3\/(Zbc p nt cs).code=6
   ·
    obtain ⟨⟨y,hy,hyQ⟩,hyP⟩:=Zo6 (m:=x) (a:=p.length) (k0:=o.calls.length) (P:=λl=>Dn p p.length l c0 cs) (Q:=λy=>y.by_=nt.by_/\y.part=nt.part/\y.entry=nt.entry/\y.args=nt.args/\y.deep=nt.deep) (λl k n v h h1 h2=>h.mod h1 h2) (λn v h=>h) n { o with calls:=o.calls++[nt] } (pre++[t']++[⟨(u:Int),(i:Int),p8 l,[],(o.calls.length:Int)⟩])
     ⟨nt,Ycr,rfl,rfl,rfl,rfl,rfl⟩ (by show Dn p p.length ((o.calls++[nt]).take o.calls.length) c0 cs;rw[List.take_left];exact hD) (λf hf=>by
      rcases Yao.1 hf with hf | hf
      ·have:HF p.length o.calls f:=by
        rcases Yao.1 hf with hf | hf
        ·exact hpre f hf
        ·rw[Yay.1 hf];exact htf
       rcases this.noted with h | ⟨z,hz,hza⟩
       ·exact .inl h
       ·exact .inr (.inr (.inr ⟨z,ZgV _ hz,hza⟩))
      ·rw[Yay.1 hf];exact .inr (.inl (Ybo _)))
    refine .inr (.inr (.inr ⟨none,?_,λc hc=>by cases hc⟩));generalize (Zcq x n { o with calls:=o.calls++[nt] } (pre++[t']++[⟨(u:Int),(i:Int),p8 l,[],(o.calls.length:Int)⟩]))=fin at hy hyP ⊢;have hyl:o.calls.length < fin.2.2.calls.length:=(Yaa.1 hy).1;have hsplit:fin.2.2.calls=fin.2.2.calls.take o.calls.length++y :: fin.2.2.calls.drop (o.calls.length+1):=by have h1:=List.getElem_cons_drop hyl;rw[(Yaa.1 hy).2] at h1;rw[h1,Ya4]
    rw[hsplit];refine hyP.rp (.spent (hsel y ⟨hyQ.1,hyQ.2.1⟩) (hNW y hyQ.2) ?_);rw[hrun y hyQ.2,<- hrun nt ⟨rfl,rfl,rfl,rfl⟩];exact hs36
   have hs:SI p ⟨100000,o.told,cs⟩:=⟨hcl,hcc,ok.told,hT⟩;have hsq:SI (Zaz p) ⟨100000,o.told,cs⟩:=⟨by rw[ZcL];exact hcl,Zsd hcc,ok.told,hT⟩;have hPI:=PI.of hg;have hRI:=Zmf hPI (ZdT hPI 100000).2 hu E.fn hwl hw (pre.length+1) hs;have B:=hRI.rb;have A:=Zsg p 100000 u k l (pre.length+1) o.told cs;rw[<- hrun nt ⟨rfl,rfl,rfl,rfl⟩ cs] at A;have S:=ZuO hPI (Zjc hPI 100000).2 (Yax _) hu E.fn hwl hw (pre.length+1) hs (Le.refl _);have hR3:(Zb6 p (evS p 100000) u k l (pre.length+1) ⟨100000,o.told,cs⟩).code≠3/\((Zb6 p (evS p 100000) u k l (pre.length+1) ⟨100000,o.told,cs⟩).code=6\/((Zb6 p (evS p 100000) u k l (pre.length+1) ⟨100000,o.told,cs⟩).code=(Zbc p nt cs).code/\(Zb6 p (evS p 100000) u k l (pre.length+1) ⟨100000,o.told,cs⟩).val=(Zbc p nt cs).val/\(Zb6 p (evS p 100000) u k l (pre.length+1) ⟨100000,o.told,cs⟩).st.cells=(Zbc p nt cs).st.cells)):=by
    rcases A with ⟨s,hs6⟩ | ⟨s,hs6⟩ | hA
    ·exact absurd (.inr (by rw[hs6];rfl)) hs36
    ·rw[hs6];exact ⟨by show (6:Int)≠3;decide,.inl rfl⟩
    ·rw[hA];revert hs36;cases Zbc p nt cs with
     | ok v s=>intro _;exact ⟨by show (1:Int)≠3;decide,.inr ⟨rfl,rfl,rfl⟩⟩
     | stop e s=>intro h;exact ⟨λh3=>h (.inl h3),.inr ⟨rfl,rfl,rfl⟩⟩
   have X:=qsC hI (qsB hI (Zxq hI ⟨o.data.drop N,o.calls++[nt]⟩ 100000).2) u k l (pre.length+1) ⟨100000,o.told,cs⟩ huq E.fq (by rw[ZdY,Zuo];exact hwl) hw hsq hd19 { o with calls:=o.calls++[nt] } (pre++[t']) (o.calls.length:Int) i (by simp) E.at_ ⟨rfl,by show o.data=_;rw[<- hda,Ya4],Cov.same _ _⟩;obtain ⟨s1,s2,s3,s4⟩:=S.same hR3.1;generalize Zb6 p (evS p 100000) u k l (pre.length+1) ⟨100000,o.told,cs⟩=R2 at *;generalize Zb6 (Zaz p) (evS (Zaz p) 100000) u k l (pre.length+1) ⟨100000,o.told,cs⟩=Rq at *;have hcells:R2.st.cells.length=p.length/\ZbN p R2.st.cells:=⟨B.si.len,B.si.ok⟩;have htake:∀{o':MO} {ws:List Int},o'.data=ZaA R2.st.cells++ws->o'.data.take N=ZaA R2.st.cells:=fun {o' ws} h=>by have hw:=Zgs p R2.st.cells hcells.1 hcells.2;rw[h,Ya9 (by omega),YaJ (by omega)]
   have hcov:∀{o':MO},Cov (o.calls++[nt]) R2.st.cells.length o'.calls->∃r,o'.calls=o.calls++nt :: r/\(∀y∈r,¬sel p.length y)/\∀y∈r,y.by_≠(p.length:Int):=fun {o'} ⟨r,h1,h2⟩=>by
    have h3:∀y∈r,y.by_≠(p.length:Int):=λy hy=>by have:=h2 y hy;rw[hcells.1] at this;omega
    exact ⟨r,by rw[h1,Yas];rfl,λy hy hs=>h3 y hy hs.1,h3⟩
   cases Rq with
   | stop c s' =>
    rcases X with h | ⟨o',⟨o1,fs1,G,pre1,t1,rfl,hst1⟩,D⟩
    ·exact absurd (s1.symm.trans h) hR3.1
    ·rcases Zda.fin G hst1 n with h | h
     ·exact .inl h
     ·rw[h];have hc:c=R2.code:=s1;rcases hR3.2 with h6 | ⟨r1,r2,r3⟩
      ·exact .inr (.inl (hc.trans h6))
      ·have hs':s'.cells=R2.st.cells:=s4;have hcv:=D.calls;rw[hs'] at hcv;obtain ⟨r,hr,hr1,hr2⟩:=hcov hcv;have hc2:2<=c:=by
        cases hR:R2 with
        | ok v s=>rw[hR] at S;obtain ⟨_,_,hh⟩:=S;cases hh
        | stop e s =>rw[hR] at hRI;have:=hRI.2.2;have hce:c=e:=s1.trans (by rw[hR];rfl);omega
       have hne1:(Zbc p nt cs).code≠1:=λh1=>by have:=r1.trans h1;omega
       refine .inr (.inr (.inr ⟨some R2.st.cells,?_,λcc hcc2=>by injection hcc2 with hcc2;subst hcc2;exact ⟨hcells.1,hcells.2,htake (by rw[D.data,hs'])⟩⟩));show Rp p p.length c o'.calls c0 (some R2.st.cells);rw[hr];refine hD.rp (.stop (hsel nt ⟨rfl,rfl⟩) (hNW nt ⟨rfl,rfl,rfl,rfl⟩) ⟨hne1,λh=>hs36 (.inl h),λh=>hs36 (.inr h)⟩ hkey.2.2.2.2.2 (hc.trans r1) hr2 ?_);rw[<- r3];exact (Dn.none hr1).all
   | ok v s' =>
    obtain ⟨o2,j,locs',⟨kk,hkk⟩,hret,D⟩:=X;rcases hkk.iter n with ⟨_,h⟩ | ⟨hlt,h⟩
    ·exact .inl h
    obtain ⟨n2,hn2⟩:∃n2,n - kk=n2+1:=⟨n - kk - 1,by omega⟩;rw[h,hn2,Zcx];have hc1:R2.code=1:=s1.symm;have hs':s'.cells=R2.st.cells:=s4;have hv2:v=R2.val:=s2;have hst':s'.told=R2.st.told:=s3;rcases hR3.2 with h6 | ⟨r1,r2,r3⟩
    ·rw[hc1] at h6;exact absurd h6 (by decide)
    have hst2:=Ze6 hI huq hret o2 (pre++[t']) locs' [v] (o.calls.length:Int);rw[Zuz (k:=0) (x:=v) rfl rfl rfl] at hst2;simp only[Yb2,List.getLast?_singleton,Option.some_or,Yb3] at hst2;have ok3:=ZfC (hkk.ok hok.1);rw[hst2] at ok3 ⊢;obtain ⟨r,hr,hr1,_⟩:=hcov (o':=o2) (by rw[<- hs'];exact D.calls);have ho3c:(Zbe o2 (o.calls.length:Int) v).calls=o.calls++nt.fin v :: r:=by unfold Zbe;rw[if_pos (by omega)];show o2.calls.modify _ _=_;rw[hr,Int.toNat_natCast,ZoZ _ _ _ _ (Yax _),Ybk,List.modify_zero_cons]
    have ho3d:(Zbe o2 (o.calls.length:Int) v).data=o2.data:=by unfold Zbe;split<;>rfl
    have ho3t:(Zbe o2 (o.calls.length:Int) v).told=o2.told:=by unfold Zbe;split<;>rfl
    have hrf:Zbc p (nt.fin v) cs=Zbc p nt cs:=(hrun (nt.fin v) ⟨rfl,rfl,rfl,rfl⟩ cs).trans (hrun nt ⟨rfl,rfl,rfl,rfl⟩ cs).symm;have hD3:Dn p p.length (Zbe o2 (o.calls.length:Int) v).calls c0 R2.st.cells:=by rw[ho3c];refine hD.app (.ok (hsel (nt.fin v) ⟨rfl,rfl⟩) (hNW (nt.fin v) ⟨rfl,rfl,rfl,rfl⟩) (by rw[hrf,<- r1];exact hc1) rfl (by rw[hrf,<- r2,<- hv2];rfl) ?_);rw[hrf,<- r3];exact Dn.none hr1
    have hd3:(Zbe o2 (o.calls.length:Int) v).data=ZaA R2.st.cells++o.data.drop N:=by rw[ho3d,D.data,hs']
    have hwv:wd v:=by rw[hv2];exact B.val
    have hdw:wds (Zbe o2 (o.calls.length:Int) v).data:=by rw[hd3];exact Zga (ZkW hcells.1 hcells.2) (Zex hd N)
    have htw:wds (Zbe o2 (o.calls.length:Int) v).told:=by rw[ho3t,D.told,hst'];exact B.si.toldW
    have hpart:∀(j:Nat) (n:Nt),o.calls[j]?=some n->∃n',(Zbe o2 (o.calls.length:Int) v).calls[j]?=some n'/\n'.part=n.part:=λj n h=>⟨n,by rw[ho3c];exact ZgV _ h,rfl⟩;have htk:=htake hd3;revert ok3;generalize Zbe o2 (o.calls.length:Int) v=o3 at *;unfold ZcV;split
    ·intro _;exact .inr (.inr (.inr ⟨_,hD3.all,λc hc=>by injection hc with hc;subst hc;exact ⟨hcells.1,hcells.2,htk⟩⟩))
    ·intro ok3;refine ZxR M n2 (by omega) _ _ R2.st.cells ok3.1 ok3.2 (λf hf=>?_) hdw htw hcells.1 hcells.2 htk hD3;rcases Yao.1 hf with hf | hf
     ·exact (hpre f hf).calls hpart
     ·rw[Yay.1 hf];exact HF.calls (f:=t'.ww (t'.ws++[v])) ⟨htf.part,Zga htf.ws (Zf9 hwv),htf.locs,htf.noted⟩ hpart
end
end Barb
namespace ZN
open Go Go.Dm Go.Eng Go.RowKit Barb
theorem ZwV (y:Nt) (a:Int):CT Tryz.prog gl 35 [.agg (y.g.map .g),.fp [.int a] 0] (Is (.pb (y.by_=a))):=by obtain ⟨b,c,d,e,f,g,h⟩:=y;refine enter hT hF hM Tryz.func35 rfl 8 rfl (by kernel_rfl) [.tmp 3] rfl [.agg ((Nt.mk b c d e f g h).g.map .g),.fp [.int a] 0] rfl _ ?_;exact ⟨rfl,ZmY Ybg⟩
theorem ZyV (l:List Nt) (hl:l.length<=200) (a:Int) (ha:∀y∈l,y.by_≠a):CT Tryz.prog gl 55 [.g (.sl 7 (l.map Nt.g)),.fn 35 [] [.fp [.int a] 0]] (Is (.g (.int (-1)))):=by
 have ll:(l.map Nt.g).length=l.length:=by simp
 refine enter hT hF hM Tryz.func55 rfl 19 rfl (by kernel_rfl) [.tmp 4] rfl [.g (.sl 7 (l.map Nt.g)),.fn 35 [] [.fp [.int a] 0]] rfl _ ?_;refine ZaL (ι:=Nat) (λi=>[(8,.g (.int (i:Int)))]) (λ_=>[]) (λi=>i<=l.length) (λi=>l.length - i)
  ⟨0,[],⟨rfl,.inl rfl,.inr ⟨lk rfl,trivial⟩,rfl⟩,Yau _⟩ ?_
 intro Rd hRd i hi;refine ⟨λh=>?_,λh=>⟨rfl,ZbQ rfl⟩⟩;have h1:i < l.length:=by omega
 have hg:=(gm h1:(l.map Nt.g)[i]?=some (Nt.g l[i]));have hn:=ha _ (Yah h1);have hb:=ZwV l[i] a;generalize l[i]=n at *;obtain ⟨b,c,d,e,f,g,h⟩:=n;refine ⟨i,_,rfl,hg,?_⟩;refine Zae (.inl rfl) hb ?_;refine ⟨λh2=>absurd h2 hn,λh2=>⟨_,I64.wrap (by unfold I64;omega),?_⟩⟩;exact hRd _ _ _ ⟨i+1,[],⟨rfl,.inl rfl,.inr ⟨lk rfl,trivial⟩,rfl⟩,h1,by omega⟩
theorem ZyX (l:List Nt) (hl:l.length<=200) (a:Int) (ha:∀y∈l,y.by_≠a):CT Tryz.prog gl 34 [.g (.sl 7 (l.map Nt.g)),.fn 35 [] [.fp [.int a] 0]] (Is (.pb False)):=by refine enter hT hF hM Tryz.func34 rfl 9 rfl (by kernel_rfl) [.tmp 4] rfl [.g (.sl 7 (l.map Nt.g)),.fn 35 [] [.fp [.int a] 0]] rfl _ ?_;exact Zae (.inl rfl) (ZyV l hl a ha) ⟨rfl,ZmY ⟨λh=>absurd h (by decide),λh=>h.elim⟩⟩
def rpD:Option (List Cells)->D
 | some c=>.tuple [.g (.sl 2 (c.map Cells.g)),.g (.bool true),.g (.bool true)]
 | none=>.tuple [.g (.sl 2 []),.g (.bool true),.g (.bool false)]
theorem Zm0 (p:List Barb.Unit) (c0:List Cells) (a:Int) (o:Outc) (h:o.end_=3\/o.end_=6\/o.calls.length=100):CT Tryz.prog gl 13 [.g (.sl 4 (p.map Unit.g)),.g (.sl 2 (c0.map Cells.g)),.g (.int a),.agg o.d] (Is (rpD none)):=by
 have lc:(o.calls.map Nt.g).length=o.calls.length:=Yab _;refine enter hT hF hM Tryz.func13 rfl 136 rfl (by kernel_rfl) [.tmp 8,.tmp 9,.tmp 10] rfl [.g (.sl 4 (p.map Unit.g)),.g (.sl 2 (c0.map Cells.g)),.g (.int a),.agg o.d] rfl _ ?_;have ret:∀{h:Zad},Zbk (Is (rpD none)) h (.tuple [.nils,.g (.bool true),.g (.bool false)]):=fun {h}=>Zbl (.inr (.inr ⟨Zg0,lk rfl,lk rfl,trivial⟩));refine ⟨λ_=>⟨rfl,ret⟩,λn1=>⟨λ_=>⟨rfl,ret⟩,λn2=>⟨λ_=>⟨rfl,ret⟩,λn3=>?_⟩⟩⟩;exfalso;rcases h with h | h | h
 ·exact n1 h
 ·exact n2 h
 ·exact n3 (by show ((o.calls.map Nt.g).length:Int)=100;rw[lc,h];rfl)
theorem Zgh {many:Nat} {p:List Barb.Unit} (hP:Prog many p) {x:Zaf} (hI:Img (Zaz p) x) (n:Nt) (hw:NW p n) (cs:List Cells) (hl:cs.length=p.length) (hk:ZbN p cs):∃(u e d:Nat) (hu:u < p.length),n.part=(u:Int)/\n.entry=(e:Int)/\n.deep=(d:Int)/\d<=19 /\
  CT Tryz.prog gl 8 [.agg p[u].d,.g (.int (e:Int))] (Is (.g (.str (if e=0 then sf else Barb.sh)))) /\
  CT Tryz.prog gl 7 [.g (.sl 4 (p.map Unit.g)),.g (.sl 2 (cs.map Cells.g)),.g (.str p[u].name),.g (.str (if e=0 then sf else Barb.sh)),.g (.sl 1 (n.args.map Zat)),.g (.int (d:Int)),.g (.int 100000)] (Is (ZzF (Zbc p n cs).code (Zbc p n cs).val (Zbc p n cs).st))/\RB p (Zbc p n cs):=by
 have hgood:=ZgS hP;have hpi:=Zjo hgood (Zlw hP);have hp3:p.length<=3:=by rw[ZgR hP];exact hP.m.2
 obtain ⟨⟨w1,w2⟩,w3,w4,w5,w6⟩:=hw;obtain ⟨u,hu⟩:∃u:Nat,n.part=(u:Int):=⟨n.part.toNat,by omega⟩;obtain ⟨e,he⟩:∃e:Nat,n.entry=(e:Int):=⟨n.entry.toNat,by omega⟩;obtain ⟨d,hd⟩:∃d:Nat,n.deep=(d:Int):=⟨n.deep.toNat,by omega⟩;have hul:u < p.length:=by rw[hu,Int.toNat_natCast] at w2;exact w2
 have e0:((e:Nat):Int)=0↔e=0:=by omega
 obtain ⟨k,i,E⟩:=Zjl hP hI hul (e:=e) (by omega);rw[he] at w4;simp only[e0] at w4;have hrun:Zbc p n cs=Zb6 p (evS p 100000) u k n.args d ⟨100000,[],cs⟩:=by
  have hk:fnK p n=k:=by unfold fnK;rw[hu,he,Int.toNat_natCast];simp only[e0];rw[E.idx,Int.toNat_natCast]
  unfold Zbc;rw[hk,hu,hd,Int.toNat_natCast,Int.toNat_natCast]
 have C1:=Zxf p hpi cs (Zpo hgood hl hk) (by omega) (ZfM hgood hl hk) p[u].name (if e=0 then sf else Barb.sh) u k hul (ZsK hgood hul) E.fn E.idx n.args (by rw[E.len];exact w4) w5 d 100000 (by omega) (by decide);rw[ZwU] at C1;unfold ZuP at C1;have B:=(Zmf (PI.of hgood) (ZdT (PI.of hgood) 100000).2 hul E.fn (by rw[E.len];exact w4) w5 d (s:=⟨100000,[],cs⟩) ⟨hl,hk,Yau _,λ_ h=>absurd h YaT⟩).rb;rw[<- hrun] at C1 B;exact ⟨u,e,d,hul,hu,he,hd,by omega,Zxa p[u] (hP.shape _ (Yah hul)) e (by omega),C1,B⟩
set_option maxRecDepth 20000 in
theorem Zm1 {many:Nat} (p:List Barb.Unit) (hP:Prog many p) {x:Zaf} (hI:Img (Zaz p) x) (a:Nat) (o:Outc) (h3:o.end_≠3) (h6:o.end_≠6) (hcl:o.calls.length≠100) (hcl2:o.calls.length<=100) (c0:List Cells) (hl0:c0.length=p.length) (hk0:ZbN p c0) (q:Option (List Cells)) (hR:Rp p a o.end_ o.calls c0 q) :
  CT Tryz.prog gl 13 [.g (.sl 4 (p.map Unit.g)),.g (.sl 2 (c0.map Cells.g)),.g (.int (a:Int)),.agg o.d] (Is (rpD q)):=by
 have hgood:=ZgS hP;have hfew:=Zlw hP;have hpi:=Zjo hgood hfew;have lc:(o.calls.map Nt.g).length=o.calls.length:=Yab _;have hp3:p.length<=3:=by rw[ZgR hP];exact hP.m.2
 refine enter hT hF hM Tryz.func13 rfl 136 rfl (by kernel_rfl) [.tmp 8,.tmp 9,.tmp 10] rfl [.g (.sl 4 (p.map Unit.g)),.g (.sl 2 (c0.map Cells.g)),.g (.int (a:Int)),.agg o.d] rfl _ ?_;refine ⟨λh=>absurd h h3,λ_=>⟨λh=>absurd h h6,λ_=>⟨λh=>absurd (show ((o.calls.map Nt.g).length:Int)=100 from h) (by rw[lc];omega),λ_=>?_⟩⟩⟩;refine ZaL (ι:=Nat × List Cells) (λz=>[(33,.g (.int (z.1:Int))),(1,.g (.sl 2 (z.2.map Cells.g))),(6,.fp [.int (a:Int)] 0),(7,.fp [.int o.end_,.int o.value,.sl 1 (o.told.map Zat),.sl 1 (o.data.map Zat),.sl 7 (o.calls.map Nt.g)] 0)]) (λ_=>[]) (λz=>z.1<=o.calls.length/\z.2.length=p.length/\ZbN p z.2/\Rp p a o.end_ (o.calls.drop z.1) z.2 q) (λz=>o.calls.length - z.1)
  ⟨(0,c0),[],⟨rfl,.inl rfl,.inl rfl,rfl⟩,Yau _,hl0,hk0,hR⟩ ?_
 intro Rd hRd z hz;obtain ⟨i,cs⟩:=z;obtain ⟨hi,hl,hk,hR⟩:=hz;have hi:i<=o.calls.length:=hi;have hl:cs.length=p.length:=hl;have hk:ZbN p cs:=hk;have hR:Rp p a o.end_ (o.calls.drop i) cs q:=hR;refine ⟨λc1=>?_,λc1=>?_⟩
 rotate_left
 ·have he:o.calls.drop i=[]:=YcF (by have:¬(i:Int) < ((o.calls.map Nt.g).length:Nat):=c1;omega);rw[he] at hR;cases hR;exact ⟨rfl,Zbl (.inl rfl)⟩
 have hil:i < o.calls.length:=by have:(i:Int) < ((o.calls.map Nt.g).length:Nat):=c1;omega
 have hg:=(gm hil:(o.calls.map Nt.g)[i]?=some (Nt.g o.calls[i]));rw[Ybh hil] at hR;generalize hn:o.calls[i]=n at hg hR;cases hR with
 | skip h k =>
  obtain ⟨nb,np,ne,na,nd,nn,nv⟩:=n;refine ⟨i,_,rfl,hg,?_⟩;refine ⟨λg1=>?_,λg1=>⟨λg2=>?_,λg2=>?_⟩⟩
  ·refine ⟨_,I64.wrap (by unfold I64;omega),?_⟩;exact hRd _ _ _ ⟨(i+1,cs),[],⟨rfl,.inl rfl,.inr ⟨lk rfl,lk rfl,lk rfl,lk rfl,trivial⟩,rfl⟩,⟨hil,hl,hk,k⟩,(show o.calls.length - (i+1) < o.calls.length - i by omega)⟩
  ·refine ⟨_,I64.wrap (by unfold I64;omega),?_⟩;exact hRd _ _ _ ⟨(i+1,cs),[],⟨rfl,.inl rfl,.inr ⟨lk rfl,lk rfl,lk rfl,lk rfl,trivial⟩,rfl⟩,⟨hil,hl,hk,k⟩,(show o.calls.length - (i+1) < o.calls.length - i by omega)⟩
  ·exact absurd ⟨g1,g2⟩ h
 | deep h hd he hdn =>obtain ⟨nb,np,ne,na,nd,nn,nv⟩:=n;obtain ⟨s1,s2⟩:=h;have s1:nb=(a:Int):=s1;have s2:np≠(a:Int):=s2;have hd:20<=nd:=hd;have hdn:nn=false:=hdn;subst hdn;refine ⟨i,_,rfl,hg,?_⟩;refine ⟨λg1=>absurd s1 g1,λg1=>⟨λg2=>absurd g2 s2,λg2=>?_⟩⟩;refine ⟨λ_=>?_,λg3=>absurd hd g3⟩;exact ⟨none,rfl,λ_=>⟨rfl,Zbl (.inl rfl)⟩,λh=>absurd he h⟩
 | spent h hw hs =>obtain ⟨u,e,d,hu,e1,e2,e3,hd,hO,hC,B⟩:=Zgh hP hI n hw cs hl hk;generalize Zbc p n cs=R at *;unfold ZzF at hC;obtain ⟨nb,np,ne,na,nd,nn,nv⟩:=n;obtain ⟨s1,s2⟩:=h;have s1:nb=(a:Int):=s1;have s2:np≠(a:Int):=s2;have e1:np=(u:Int):=e1;have e2:ne=(e:Int):=e2;have e3:nd=(d:Int):=e3;subst e1;subst e2;subst e3;refine ⟨i,_,rfl,hg,?_⟩;refine ⟨λg1=>absurd s1 g1,λg1=>⟨λg2=>absurd g2 s2,λg2=>?_⟩⟩;refine ⟨λg3=>absurd (show (20:Int)<=(d:Int) from g3) (by omega),λg3=>?_⟩;refine ⟨none,rfl,?_⟩;refine ⟨u,_,rfl,gm hu,?_⟩;refine ⟨u,_,rfl,gm hu,?_⟩;refine ⟨_,_,.inl rfl,hO,rfl,?_⟩;refine ⟨_,_,.inl rfl,hC,rfl,?_⟩;refine ⟨λh=>absurd rfl h,λ_=>?_⟩;have ret:∀{h:Zad},Zbk (Is (rpD none)) h (.tuple [.nils,.g (.bool true),.g (.bool false)]):=fun {h}=>Zbl (.inr (.inr ⟨Zg0,lk rfl,lk rfl,trivial⟩));refine ⟨λ_=>⟨rfl,ret⟩,λn3=>⟨λ_=>⟨rfl,ret⟩,λn6=>?_⟩⟩;exact absurd hs (λh=>h.elim n3 n6)
 | ok h hw h1 hdn hv k =>
  obtain ⟨u,e,d,hu,e1,e2,e3,hd,hO,hC,B⟩:=Zgh hP hI n hw cs hl hk;generalize Zbc p n cs=R at *;have hl2:=B.si.len;have hk2:=B.si.ok;unfold ZzF at hC;obtain ⟨nb,np,ne,na,nd,nn,nv⟩:=n;obtain ⟨s1,s2⟩:=h;have s1:nb=(a:Int):=s1;have s2:np≠(a:Int):=s2;have e1:np=(u:Int):=e1;have e2:ne=(e:Int):=e2;have e3:nd=(d:Int):=e3;subst e1;subst e2;subst e3;refine ⟨i,_,rfl,hg,?_⟩;refine ⟨λg1=>absurd s1 g1,λg1=>⟨λg2=>absurd g2 s2,λg2=>?_⟩⟩;refine ⟨λg3=>absurd (show (20:Int)<=(d:Int) from g3) (by omega),λg3=>?_⟩;refine ⟨none,rfl,?_⟩;refine ⟨u,_,rfl,gm hu,?_⟩;refine ⟨u,_,rfl,gm hu,?_⟩;refine ⟨_,_,.inl rfl,hO,rfl,?_⟩;refine ⟨_,_,.inl rfl,hC,rfl,?_⟩;refine ⟨λh=>absurd rfl h,λ_=>?_⟩;have hdn:nn=true:=hdn;have hv:nv=R.val:=hv;subst hdn;have n3:R.code≠3:=by rw[h1];decide
  have n6:R.code≠6:=by rw[h1];decide
  refine ⟨λh=>absurd h n3,λ_=>⟨λh=>absurd h n6,λ_=>?_⟩⟩;refine ⟨λb1=>absurd ⟨λ_=>h1,λ_=>rfl⟩ b1,λb1=>?_⟩;refine ⟨λb2=>absurd hv b2,λ_=>?_⟩;refine ⟨_,I64.wrap (by unfold I64;omega),?_⟩;exact hRd _ _ _ ⟨(i+1,R.st.cells),[],⟨rfl,.inl rfl,.inr ⟨lk rfl,lk rfl,lk rfl,lk rfl,trivial⟩,rfl⟩,⟨hil,hl2,hk2,k⟩,(show o.calls.length - (i+1) < o.calls.length - i by omega)⟩
 | stop h hw h1 hdn he hy k =>obtain ⟨u,e,d,hu,e1,e2,e3,hd,hO,hC,B⟩:=Zgh hP hI n hw cs hl hk;generalize Zbc p n cs=R at *;have hl2:=B.si.len;have hk2:=B.si.ok;unfold ZzF at hC;obtain ⟨nb,np,ne,na,nd,nn,nv⟩:=n;obtain ⟨s1,s2⟩:=h;have s1:nb=(a:Int):=s1;have s2:np≠(a:Int):=s2;have e1:np=(u:Int):=e1;have e2:ne=(e:Int):=e2;have e3:nd=(d:Int):=e3;subst e1;subst e2;subst e3;refine ⟨i,_,rfl,hg,?_⟩;refine ⟨λg1=>absurd s1 g1,λg1=>⟨λg2=>absurd g2 s2,λg2=>?_⟩⟩;refine ⟨λg3=>absurd (show (20:Int)<=(d:Int) from g3) (by omega),λg3=>?_⟩;refine ⟨none,rfl,?_⟩;refine ⟨u,_,rfl,gm hu,?_⟩;refine ⟨u,_,rfl,gm hu,?_⟩;refine ⟨_,_,.inl rfl,hO,rfl,?_⟩;refine ⟨_,_,.inl rfl,hC,rfl,?_⟩;refine ⟨λh=>absurd rfl h,λ_=>?_⟩;have hdn:nn=false:=hdn;subst hdn;have h1:R.code≠1/\R.code≠3/\R.code≠6:=h1;refine ⟨λh=>absurd h h1.2.1,λ_=>⟨λh=>absurd h h1.2.2,λ_=>?_⟩⟩;refine ⟨λb1=>absurd ⟨λh=>absurd (show false=true from h) (by decide),λh=>absurd h h1.1⟩ b1,λb1=>?_⟩;refine ⟨λb2=>absurd he b2,λ_=>?_⟩;refine ⟨((i+1:Nat):Int),(I64.wrap (by unfold I64;omega)).trans (by push_cast;rfl),?_⟩;refine ⟨i+1,rfl,(by show i+1<=(o.calls.map Nt.g).length;omega),?_⟩;refine Zae (show ZdX [.g (.sl 7 ((o.calls.map Nt.g).drop (i+1))),.fn 35 [] [.fp [.int (a:Int)] 0]] [.g (.sl 7 ((o.calls.drop (i+1)).map Nt.g)),.fn 35 [] [.fp [.int (a:Int)] 0]] from .inr ⟨lkL YbF.symm,lk rfl,trivial⟩) (ZyX (o.calls.drop (i+1)) (by rw[Ya6];omega) a hy) ?_;refine ⟨λh=>h.elim,λ_=>?_⟩;refine ⟨_,I64.wrap (by unfold I64;omega),?_⟩;exact hRd _ _ _ ⟨(i+1,R.st.cells),[],⟨rfl,.inl rfl,.inr ⟨lk rfl,lk rfl,lk rfl,lk rfl,trivial⟩,rfl⟩,⟨hil,hl2,hk2,k⟩,(show o.calls.length - (i+1) < o.calls.length - i by omega)⟩
end ZN
