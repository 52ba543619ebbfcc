import Derived.Test.YthccmffgjchdmaaGreatDoorNWd
import Derived.Test.YthccmffgjchdmaaGreatDoorNDjk
import Derived.Test.YthccmffgjchdmaaGreatDoorNNq
open Go Go.Proofs Go.Proofs.YthccmffgjchdmaaGreatDoor
namespace Barb
open Go Go.Dm Go.Eng ZN
def gX (x:Expr):List GV:=[.int x.k,.int x.n,.str x.of,.str x.s,.sl 5 (x.args.map Expr.g)]
theorem Zmk (x:Expr):gX x=x.g:=(Expr.g_eq x).symm
theorem dJ {a b:Int} (h:a=b):D.g (.int a)=D.g (.int b):=by rw[h]
theorem Zrl {α:Type} {l:List α} {k:Nat} (h:k < l.length) (z:α):l.getD k z=l[k]:=by simp[h]
theorem gX1 (a:Expr):[gX a]=[a].map Expr.g:=by simp[Zmk]
theorem gX2 (a b:Expr):[gX a,gX b]=[a,b].map Expr.g:=by simp[Zmk]
theorem Zo5 {h:Zae} {x:Expr} {k n:Int} {of s:Str} (e:x=.mk k n of s []):Zby (Is (.agg x.d)) h (.agg [.g (.int k),.g (.int n),.g (.str of),.g (.str s),.nils]):=by subst e;exact ZbN (.inr (.inr ⟨lk rfl,lk rfl,lk rfl,lk rfl,Zel,trivial⟩))
theorem ZtL {h:Zae} {x:Expr} {k n:Int} {of s:Str} {args:List Expr} {i:Nat} {xs:List (List GV)} {t:TypeId} (e:x=.mk k n of s args) (hi:h[i]?=some (.row xs t 5)) (hx:xs=args.map Expr.g):Zby (Is (.agg x.d)) h (.agg [.g (.int k),.g (.int n),.g (.str of),.g (.str s),.row i]):=by subst e;subst hx;refine ZbN (.inl ?_);simp only[conv,Yan,YaI,kp,hi];rfl
theorem Ziw {h:Zae} {x:Expr} {k n:Int} {of s:Str} {args:List Expr} {xs:List (List GV)} (e:x=.mk k n of s args) (hx:xs=args.map Expr.g):Zby (Is (.agg x.d)) h (.agg [.g (.int k),.g (.int n),.g (.str of),.g (.str s),.g (.sl 5 xs)]):=by subst e;subst hx;exact ZbN (.inl rfl)
end Barb
namespace ZN
open Go Go.Dm Go.Eng Go.RowKit Barb
theorem ZbH {h:Zae} {i:Nat} {xs:List (List GV)} {e:TypeId} {sz:Nat} {y:GV} (hi:h[i]?=some (.row xs e sz)) (hy:GV.sl sz xs=y):Zvn h (.row i) y:=by unfold Zvn;simp only[hi];exact hy
end ZN
namespace Barb
open Go Go.Dm Go.Eng ZN
def ZkK (n:Int):Prop:=n=1\/n=2\/n=5\/n=6\/n=9\/n=10
instance (n:Int):Decidable (ZkK n):=by unfold ZkK;infer_instance
def Zdy (n:Int) (of s:Str) (a b:Expr) (l:List Expr):Expr :=
 if a.k=1/\b.k=1 then .mk 1 (doI n a.n b.n) [] [] []
 else if (b.k=1/\b.n=0)/\ZkK n then a
 else if n=3/\b.k=1/\b.n=1 then a
 else .mk 5 n of s l
def noE:Expr:=.mk 0 0 [] [] []
mutual
def foldE:Expr->Expr
 | .mk k n of s args=>if k=5 then Zdy n of s ((Zam args).getD 0 noE) ((Zam args).getD 1 noE) (Zam args) else .mk k n of s (Zam args)
def Zam:List Expr->List Expr
 | []=>[]
 | x :: l=>foldE x :: Zam l
end
theorem Zcm (l:List Expr):Zam l=l.map foldE:=by
 induction l with
 | nil=>rfl
 | cons x l ih=>simp[Zam,ih]
def ZfK (k:Int) (s:Str) (xs:List Expr) (b e:List Stmt):List Stmt :=
 let x:=xs.getD 0 noE
 if k=3/\x.k=1/\x.n≠0 then b
 else if k=3/\x.k=1 then e
 else if k=4/\x.k=1/\x.n=0 then []
 else [.mk k s xs b e]
mutual
def Zpv:Stmt->List Stmt
 | .mk k s xs b e=>ZfK k s (Zam xs) (foldSs b) (foldSs e)
def foldSs:List Stmt->List Stmt
 | []=>[]
 | x :: l=>Zpv x++(match x with | .mk k _ _ _ _=>if k=5 then [] else foldSs l)
end
def ZdH (f:Fun):Fun:=⟨f.name,f.isOpen,f.params,foldSs f.body⟩
def ZcE (u:Unit):Unit:=⟨u.name,u.vars,u.arrays,u.funcs.map ZdH⟩
def Zb5 (p:List Unit):List Unit:=p.map ZcE
end Barb
namespace Go.Dm
open Go Go.Eng Go.RowKit
theorem ZBS {G:Gl} {n:Nat} {K:St->Prop} {st:St} (h:Zer G n (Zer G n K) st):Zer G n K st:=by obtain ⟨aw,h1,bR,h2,k⟩:=h;exact ⟨bR,λC a w e hr=>h2 C a w e (h1 C a w e hr),k⟩
section
variable {P:Program} {T:Tab} {F:FuncId->Bool} {G:Gl}
theorem ZAY {J:List Nat} {n:Nat} {x y z:Code} {env:Env} {h:Zae} {df:List Deferred} {Q:Post} {ι κ:Type} (hJ:inL J (Zdn (.seq y z))=true) (xu:inL J (Zdn z)=false)
  (val:ι->List (Nat × D)) (cK:ι->Zae) (Inv:ι->Prop) (nu:κ->List (Nat × D)) (tq:κ->Zae) (Inv2:κ->Prop)
  (head:∀Rd:St->Prop,(∀(i:ι) (e:Env),ZsG e (val i)->Inv i->Rd ⟨e,cK i,df⟩)->vcS J P T F G n x ⟨env,h,df⟩ (Zeh Rd Q))
  (nB:∀Rd:St->Prop,(∀(i:κ) (e:Env),ZsG e (nu i)->Inv2 i->Rd ⟨e,tq i,df⟩)->∀(e0:Env) (i:ι),Inv i->Zer G n (λaw=>vcS J P T F G n y aw (Zeh Rd Q)) ⟨Env.many e0 (val i),cK i,df⟩)
  (tail:∀(e0:Env) (i:κ),Inv2 i->vcS J P T F G n z ⟨Env.many e0 (nu i),tq i,df⟩ Q) :
  vcS J P T F G n (.seq x (.seq y z)) ⟨env,h,df⟩ Q:=by
 have e2:Zeh (λst'=>vcS J P T F G n z st' Q) Q=(λe st'=>match e with | .normal=>bif inL J (Zdn z) then Zer G n (λaw=>vcS J P T F G n z aw Q) st' else vcS J P T F G n z st' Q | e=>Q e st'):=by
  funext e st';cases e with
  | normal=>rw[xu];rfl
  | _=>rfl
 have hm:=nB (λst'=>vcS J P T F G n z st' Q) (λi e ha hi=>by
  have:=tail e i hi;rw[ZfA ha] at this;exact this)
 have hh:=head (λst'=>Zer G n (λaw=>vcS J P T F G n (.seq y z) aw Q) st') (λi e ha hi=>by
  have:=hm e i hi;rw[ZfA ha,e2] at this;exact this)
 have e:Zeh (λst'=>Zer G n (λaw=>vcS J P T F G n (.seq y z) aw Q) st') Q=(λe st'=>match e with | .normal=>bif inL J (Zdn (.seq y z)) then Zer G n (λaw=>vcS J P T F G n (.seq y z) aw Q) st' else vcS J P T F G n (.seq y z) st' Q | e=>Q e st'):=by
  funext e st';cases e with
  | normal=>rw[hJ];rfl
  | _=>rfl
 rw[e] at hh;exact hh
end
end Go.Dm
namespace Barb
open Go Go.Dm Go.Eng ZN
abbrev bD (i:Bool) (p:Prop):D:=match i with
 | true=>.pb p
 | false=>.g (.bool false)
theorem ZcK (l:List Expr):(Zam l).length=l.length:=by rw[Zcm,Yaa]
theorem Zgt {h:Zae} {x y:Expr} (e:x=y):Zby (Is (.agg x.d)) h (.agg y.d):=by subst e;exact ZbN (.inl rfl)
end Barb
namespace ZN
open Go Go.Dm Go.Eng Go.RowKit Barb
variable {L:Lv}
set_option maxRecDepth 20000 in
set_option maxHeartbeats 8000000 in
theorem ZuM:∀(f:Nat) (x:Barb.Expr),Zaw f x=0->CT Tryz.prog (gl L) 82 [.agg x.d] (Is (.agg (foldE x).d)):=by
 intro f
 induction f with
 | zero=>intro x hx;exact absurd hx (by unfold Zaw;decide)
 | succ f ih =>
  intro x hx;obtain ⟨k,n,of,s,args⟩:=x;unfold Zaw at hx;by_cases hk:¬(1<=k/\k<=5)
  ·rw[if_pos hk] at hx;exact absurd hx (by decide)
  rw[if_neg hk] at hx;by_cases h4:4 < args.length
  ·rw[if_pos h4] at hx;exact absurd hx (by decide)
  rw[if_neg h4] at hx;by_cases aR:¬ZbJ k n of s args.length
  ·rw[if_pos aR] at hx;exact absurd hx (by decide)
  rw[if_neg aR] at hx;by_cases hb:Za0 k n
  ·rw[if_pos hb] at hx;exact absurd hx (by decide)
  rw[if_neg hb] at hx;have jt:∀(j:Nat) (hj:j < args.length),CT Tryz.prog (gl L) 82 [.agg args[j].d] (Is (.agg (foldE args[j]).d)):=λj hj=>ih _ (Zaf hx _ (Yai hj));have e:foldE (.mk k n of s args)=if k=5 then Zdy n of s ((Zam args).getD 0 noE) ((Zam args).getD 1 noE) (Zam args) else .mk k n of s (Zam args):=by rw[Barb.foldE]
  generalize foldE (.mk k n of s args)=out at e;have lx:(args.map Expr.g).length=args.length:=Yaa _;refine Zq5 [10,11] hT hF hM Tryz.func82 rfl 118 rfl (by kernel_rfl) [.cell 2 146] rfl [.agg (Expr.d (.mk k n of s args))] rfl _ ?_;refine ZaO (ι:=Nat) (λj=>[(1,.ptr 0 0),(2,.ptr 1 0),(3,.ptr 2 0),(16,.g (.int (j:Int)))]) (λj=>[.blk [.g (.int k),.g (.int n),.g (.str of),.g (.str s),.g (.sl 5 (args.map Expr.g))] 146,.blk [.g (.int 0),.g (.int 0),.g (.str []),.g (.str []),.nils] 146,.blk [.g (.int k),.g (.int n),.g (.str of),.g (.str s),.row 3] 146,.row ((Zam (args.take j)).map Expr.g) 146 5])
   (λj=>j<=args.length) (λj=>args.length - j)
   ⟨0,[.old 0,.old 1,.old 2,.nil 146 5],⟨rfl,.inr ⟨⟨rfl,.inl rfl⟩,⟨rfl,.inl rfl⟩,⟨rfl,.inr ⟨lk rfl,lk rfl,lk rfl,lk rfl,.inr rfl,trivial⟩⟩,⟨rfl,rfl,rfl⟩,trivial⟩,.inr ⟨lk rfl,lk rfl,lk rfl,lk rfl,trivial⟩,rfl⟩,Yat _⟩ ?_
  intro Rd aj j hj;refine ⟨λaG=>?_,λig=>?_⟩
  ·have aD:j < args.length:=by have:(j:Int) < ((args.map Expr.g).length:Nat):=aG;omega
   have aM:Zam (args.take (j+1))=Zam (args.take j)++[foldE args[j]]:=by rw[Zcm,Zcm,ZaJ aD,Yaf];rfl
   have rn:(Zam (args.take j)).length<=4:=by rw[ZcK,Yam];omega
   have hc:=jt j aD;generalize Zam (args.take j)=row at aM rn;generalize foldE args[j]=y at hc aM;refine ⟨j,_,rfl,(gm aD).trans (congrArg some (Expr.g_eq _)),?_⟩;refine ⟨some 2000,rfl,?_⟩;refine ⟨_,_,.inl rfl,hc,rfl,?_⟩;refine ⟨[gX y],rfl,rfl,⟨rfl,rfl,rfl,rfl,rfl,trivial⟩,⟨_,rfl⟩,?_⟩;refine ⟨⟨by simp[maxLen];omega,by simp;omega⟩,?_⟩;refine ⟨_,I64.wrap (by unfold I64;omega),?_⟩;exact aj _ _ _ ⟨j+1,[.old 0,.old 1,.old 2,.old 6],⟨rfl,.inr ⟨⟨rfl,.inl rfl⟩,⟨rfl,.inl rfl⟩,⟨rfl,.inl rfl⟩,⟨by rw[aM,Yaf,List.map_singleton,Zmk],rfl,rfl⟩,trivial⟩,.inr ⟨lk rfl,lk rfl,lk rfl,lkI (by push_cast;rfl),trivial⟩,rfl⟩,aD,by show args.length - (j+1) < args.length - j;omega⟩
  have gE:j=args.length:=by have:¬(j:Int) < ((args.map Expr.g).length:Nat):=ig;omega
  have dB:Zam (args.take j)=Zam args:=by rw[gE,YaH]
  refine ⟨λh5=>?_,λh5=>?_⟩
  ·rw[if_neg h5] at e;exact ⟨rfl,ZtL e rfl (by rw[dB])⟩
  rw[if_pos h5] at e;have h2:args.length=2:=by have:=Yah.1 aR;unfold ZbJ at this;omega
  have bL:(Zam args).length=2:=by rw[ZcK];exact h2
  obtain ⟨a,b,jm⟩:∃a b,Zam args=[a,b]:=by
   match h:Zam args,bL with
   | [a,b],_=>exact ⟨a,b,rfl⟩
  rw[jm] at e dB;have e:out=Zdy n of s a b [a,b]:=e;have g0:((Zam (args.take j)).map Expr.g)[0]?=some (gX a):=by rw[dB,Zmk];rfl
  have g1:((Zam (args.take j)).map Expr.g)[1]?=some (gX b):=by rw[dB,Zmk];rfl
  have yI:((Zam (args.take j)).map Expr.g).length=2:=by rw[dB];rfl
  refine ZBS (ZdM [.old 0,.old 1,.old 2] [(1,.ptr 0 0),(2,.ptr 1 0),(3,.ptr 2 0)] [.blk [.g (.int k),.g (.int n),.g (.str of),.g (.str s),.g (.sl 5 (args.map Expr.g))] 146,.blk [.g (.int 0),.g (.int 0),.g (.str []),.g (.str []),.nils] 146,.blk [.g (.int k),.g (.int n),.g (.str of),.g (.str s),.g (.sl 5 ((Zam (args.take j)).map Expr.g))] 146] ⟨rfl,.inl rfl,.inl rfl,rfl⟩ ?_);refine ZdM [.old 0,.old 1] [(1,.ptr 0 0),(2,.ptr 1 0),(3,.fp [.int k,.int n,.str of,.str s,.sl 5 ((Zam (args.take j)).map Expr.g)] 0)] [.blk [.g (.int k),.g (.int n),.g (.str of),.g (.str s),.g (.sl 5 (args.map Expr.g))] 146,.blk [.g (.int 0),.g (.int 0),.g (.str []),.g (.str []),.nils] 146] ⟨rfl,.inl rfl,.inl rfl,rfl⟩ ?_;refine ZAY (by rfl) (by rfl) (ι:=Bool) (κ:=Bool) (λo=>match o with
    | true=>[(1,.ptr 0 0),(2,.ptr 1 0),(3,.fp [.int k,.int n,.str of,.str s,.sl 5 ((Zam (args.take j)).map Expr.g)] 0),(6,.ptr 2 0),(7,.ptr 3 0)]
    | false=>[(1,.ptr 0 0),(2,.ptr 1 0),(3,.fp [.int k,.int n,.str of,.str s,.sl 5 ((Zam (args.take j)).map Expr.g)] 0),(6,.ptr 3 0),(7,.ptr 2 0)])
   (λo=>match o with
    | true=>[.blk [.g (.int k),.g (.int n),.g (.str of),.g (.str s),.g (.sl 5 (args.map Expr.g))] 146,.blk [.g (.int 0),.g (.int 0),.g (.str []),.g (.str []),.nils] 146,.blk a.d 146,.blk b.d 146]
    | false=>[.blk [.g (.int k),.g (.int n),.g (.str of),.g (.str s),.g (.sl 5 (args.map Expr.g))] 146,.blk [.g (.int 0),.g (.int 0),.g (.str []),.g (.str []),.nils] 146,.blk b.d 146,.blk a.d 146]) (λ_=>True)
   (λi=>[(1,.ptr 0 0),(2,.ptr 1 0),(3,.fp [.int k,.int n,.str of,.str s,.sl 5 ((Zam (args.take j)).map Expr.g)] 0),(6,.ptr 2 0),(7,.ptr 3 0),(8,bD i (b.n=0))])
   (λ_=>[.blk [.g (.int k),.g (.int n),.g (.str of),.g (.str s),.g (.sl 5 (args.map Expr.g))] 146,.blk [.g (.int 0),.g (.int 0),.g (.str []),.g (.str []),.nils] 146,.blk a.d 146,.blk b.d 146])
   (λi=>(i=true/\b.k=1)\/(i=false/\¬b.k=1)) (λRd aj=>?_) (λRj aI e0 o _=>?_) (λe0 i hz=>?_)
  ·exact ⟨some 105000,8,rfl,⟨rfl,0,_,rfl,g0,1,_,rfl,g1,aj true _ ⟨rfl,rfl,rfl,rfl,rfl,trivial⟩ trivial⟩,⟨rfl,0,_,rfl,g0,1,_,rfl,g1,aj false _ ⟨rfl,rfl,rfl,rfl,rfl,trivial⟩ trivial⟩⟩
  ·cases o with
   | true =>refine ZdM [.old 0,.old 1,.old 2,.old 3] [(1,.ptr 0 0),(2,.ptr 1 0),(3,.fp [.int k,.int n,.str of,.str s,.sl 5 ((Zam (args.take j)).map Expr.g)] 0),(6,.ptr 2 0),(7,.ptr 3 0)] [.blk [.g (.int k),.g (.int n),.g (.str of),.g (.str s),.g (.sl 5 (args.map Expr.g))] 146,.blk [.g (.int 0),.g (.int 0),.g (.str []),.g (.str []),.nils] 146,.blk a.d 146,.blk b.d 146] ⟨rfl,.inl rfl,.inl rfl,rfl⟩ ?_;exact ⟨λz1=>aI true _ ⟨rfl,rfl,rfl,rfl,rfl,rfl,trivial⟩ (.inl ⟨rfl,z1⟩),λz1=>aI false _ ⟨rfl,rfl,rfl,rfl,rfl,rfl,trivial⟩ (.inr ⟨rfl,z1⟩)⟩
   | false =>refine ZdM [.old 0,.old 1,.old 3,.old 2] [(1,.ptr 0 0),(2,.ptr 1 0),(3,.fp [.int k,.int n,.str of,.str s,.sl 5 ((Zam (args.take j)).map Expr.g)] 0),(6,.ptr 2 0),(7,.ptr 3 0)] [.blk [.g (.int k),.g (.int n),.g (.str of),.g (.str s),.g (.sl 5 (args.map Expr.g))] 146,.blk [.g (.int 0),.g (.int 0),.g (.str []),.g (.str []),.nils] 146,.blk a.d 146,.blk b.d 146] ⟨rfl,.inl rfl,.inl rfl,rfl⟩ ?_;exact ⟨λz1=>aI true _ ⟨rfl,rfl,rfl,rfl,rfl,rfl,trivial⟩ (.inl ⟨rfl,z1⟩),λz1=>aI false _ ⟨rfl,rfl,rfl,rfl,rfl,rfl,trivial⟩ (.inr ⟨rfl,z1⟩)⟩
  refine ZoR (by rfl) ?_;refine ZAZ (by rfl) (ι:=Bool) (λc=>[(1,.ptr 0 0),(2,.ptr 1 0),(3,.fp [.int k,.int n,.str of,.str s,.sl 5 ((Zam (args.take j)).map Expr.g)] 0),(6,.ptr 2 0),(7,.ptr 3 0),(8,bD i (b.n=0)),(48,bD c (b.k=1))])
   (λ_=>[.blk [.g (.int k),.g (.int n),.g (.str of),.g (.str s),.g (.sl 5 (args.map Expr.g))] 146,.blk [.g (.int 0),.g (.int 0),.g (.str []),.g (.str []),.nils] 146,.blk a.d 146,.blk b.d 146])
   (λc=>(c=true/\a.k=1)\/(c=false/\¬a.k=1)) (λe1 c hc=>?_) (λRc tZ=>?_)
  rotate_left
  ·exact ⟨λz1=>tZ true _ ⟨rfl,rfl,rfl,rfl,rfl,rfl,rfl,trivial⟩ (.inl ⟨rfl,z1⟩),λz1=>tZ false _ ⟨rfl,rfl,rfl,rfl,rfl,rfl,rfl,trivial⟩ (.inr ⟨rfl,z1⟩)⟩
  have two:a.k=1->b.k=1->out=.mk 1 (doI n a.n b.n) [] [] []:=λha hb=>e.trans (by unfold Zdy;rw[if_pos ⟨ha,hb⟩]);rcases hc with ⟨rfl,ha⟩ | ⟨rfl,ha⟩
  ·refine ⟨λbG=>Zad (.inl rfl) (Zx8 n a.n b.n) ⟨rfl,Zo5 (two ha bG)⟩,λbG=>?_⟩;have bU:¬(a.k=1/\b.k=1):=λh=>bG h.2;rcases hz with ⟨rfl,hz⟩ | ⟨rfl,hz⟩
   ·exact absurd hz bG
   exact ⟨λy1=>⟨λy2=>⟨λy3=>⟨rfl,Zgt (e.trans (by unfold Zdy;rw[if_neg bU,if_neg (λh=>bG h.1.1),if_pos ⟨y1,y2,y3⟩]))⟩,λy3=>⟨rfl,Ziw (e.trans (by unfold Zdy;rw[if_neg bU,if_neg (λh=>bG h.1.1),if_neg (λh=>by omega),h5])) (by rw[dB])⟩⟩,λy2=>⟨rfl,Ziw (e.trans (by unfold Zdy;rw[if_neg bU,if_neg (λh=>bG h.1.1),if_neg (λh=>by omega),h5])) (by rw[dB])⟩⟩,λy1=>⟨rfl,Ziw (e.trans (by unfold Zdy;rw[if_neg bU,if_neg (λh=>bG h.1.1),if_neg (λh=>by omega),h5])) (by rw[dB])⟩⟩
  have bU:¬(a.k=1/\b.k=1):=λh=>ha h.1;rcases hz with ⟨rfl,hz⟩ | ⟨rfl,hz⟩
  rotate_left
  ·exact ⟨λy1=>⟨λy2=>⟨λy3=>⟨rfl,Zgt (e.trans (by unfold Zdy;rw[if_neg bU,if_neg (λh=>hz h.1.1),if_pos ⟨y1,y2,y3⟩]))⟩,λy3=>⟨rfl,Ziw (e.trans (by unfold Zdy;rw[if_neg bU,if_neg (λh=>hz h.1.1),if_neg (λh=>by omega),h5])) (by rw[dB])⟩⟩,λy2=>⟨rfl,Ziw (e.trans (by unfold Zdy;rw[if_neg bU,if_neg (λh=>hz h.1.1),if_neg (λh=>by omega),h5])) (by rw[dB])⟩⟩,λy1=>⟨rfl,Ziw (e.trans (by unfold Zdy;rw[if_neg bU,if_neg (λh=>hz h.1.1),if_neg (λh=>by omega),h5])) (by rw[dB])⟩⟩
  refine ⟨λb0=>?_,λb0=>?_⟩
  rotate_left
  ·exact ⟨λy1=>⟨λy2=>⟨λy3=>⟨rfl,Zgt (e.trans (by unfold Zdy;rw[if_neg bU,if_neg (λh=>b0 h.1.2),if_pos ⟨y1,y2,y3⟩]))⟩,λy3=>⟨rfl,Ziw (e.trans (by unfold Zdy;rw[if_neg bU,if_neg (λh=>b0 h.1.2),if_neg (λh=>by omega),h5])) (by rw[dB])⟩⟩,λy2=>⟨rfl,Ziw (e.trans (by unfold Zdy;rw[if_neg bU,if_neg (λh=>b0 h.1.2),if_neg (λh=>by omega),h5])) (by rw[dB])⟩⟩,λy1=>⟨rfl,Ziw (e.trans (by unfold Zdy;rw[if_neg bU,if_neg (λh=>b0 h.1.2),if_neg (λh=>by omega),h5])) (by rw[dB])⟩⟩
  have zr:ZkK n->out=a:=λh=>e.trans (by unfold Zdy;rw[if_neg bU,if_pos ⟨⟨hz,b0⟩,h⟩]);refine ⟨λz1=>⟨rfl,Zgt (zr (.inl z1))⟩,λz1=>⟨λz2=>⟨rfl,Zgt (zr (.inr (.inl z2)))⟩,λz2=>⟨λz3=>⟨rfl,Zgt (zr (.inr (.inr (.inl z3))))⟩,λz3=>⟨λz4=>⟨rfl,Zgt (zr (.inr (.inr (.inr (.inl z4)))))⟩,λz4=>⟨λz5=>⟨rfl,Zgt (zr (.inr (.inr (.inr (.inr (.inl z5))))))⟩,λz5=>⟨λz6=>⟨rfl,Zgt (zr (.inr (.inr (.inr (.inr (.inr z6))))))⟩,λz6=>?_⟩⟩⟩⟩⟩⟩;have fi:¬ZkK n:=by unfold ZkK;omega
  exact ⟨λy1=>⟨λy2=>⟨λy3=>⟨rfl,Zgt (e.trans (by unfold Zdy;rw[if_neg bU,if_neg (λh=>fi h.2),if_pos ⟨y1,y2,y3⟩]))⟩,λy3=>⟨rfl,Ziw (e.trans (by unfold Zdy;rw[if_neg bU,if_neg (λh=>fi h.2),if_neg (λh=>by omega),h5])) (by rw[dB])⟩⟩,λy2=>⟨rfl,Ziw (e.trans (by unfold Zdy;rw[if_neg bU,if_neg (λh=>fi h.2),if_neg (λh=>by omega),h5])) (by rw[dB])⟩⟩,λy1=>⟨rfl,Ziw (e.trans (by unfold Zdy;rw[if_neg bU,if_neg (λh=>fi h.2),if_neg (λh=>by omega),h5])) (by rw[dB])⟩⟩
end ZN
namespace Barb
open Go Go.Dm Go.Eng ZN
theorem Zmn (x:Stmt):Zpv x=ZfK x.k x.s (Zam x.xs) (foldSs x.b) (foldSs x.e):=by obtain ⟨k,s,xs,b,e⟩:=x;rw[Zpv];rfl
theorem ZgE (x:Stmt) (l:List Stmt):foldSs (x :: l)=Zpv x++if x.k=5 then [] else foldSs l:=by obtain ⟨k,s,xs,b,e⟩:=x;rw[foldSs];rfl
theorem ZeI:foldSs []=[]:=by rw[foldSs]
theorem ZuL (k:Int) (s:Str) (xs:List Expr) (b e:List Stmt):(ZfK k s xs b e).length<=1+b.length+e.length:=by
 unfold ZfK;dsimp only;split
 ·omega
 ·split
  ·omega
  ·split
   ·simp
   ·simp only[List.length_cons,List.length_nil];omega
theorem ZhW:∀(n:Nat) (l:List Stmt),Zai n l=0->((foldSs l).length:Int)<=Zah n l
 | 0,_,h=>by rw[Zai] at h;exact absurd h (by decide)
 | n+1,l,h=>by
  rw[Zai] at h;have e:=Zaf h;clear h
  induction l with
  | nil=>rw[Zcf,ZeI];simp
  | cons x l il =>
   obtain ⟨_,_,_,dV,eQ⟩:=Zct (e x Yae);have h1:=ZhW n x.b dV;have h2:=ZhW n x.e eQ;have h3:=il (λy hy=>e y (Yad _ hy));have h4:=ZuL x.k x.s (Zam x.xs) (foldSs x.b) (foldSs x.e);have h5:=Zbx (n+1) l;rw[ZbG,ZgE,Zmn,Yab];push_cast;split
   ·simp only[List.length_nil];omega
   ·omega
theorem ZkP {n:Nat}:∀{l:List Stmt} {x:Stmt},x∈l->Zah n x.b+Zah n x.e<=Zah (n+1) l
 | [],_,h=>by simp at h
 | y :: l,x,h=>by
  rw[ZbG];have p1:=Zbx n y.b;have p2:=Zbx n y.e;have p3:=Zbx (n+1) l;rcases Yav.1 h with rfl | h
  ·omega
  ·have:=ZkP (n:=n) h;omega
end Barb
namespace ZN
open Go Go.Dm Go.Eng Go.RowKit Barb
variable {L:Lv}
theorem ZjA {h:Zae} {i:Nat} {l m:List Barb.Stmt} {t:TypeId} (hi:h[i]?=some (.row (l.map Stmt.g) t 5)) (e:l=m):Zby (Is (.g (.sl 5 (m.map Stmt.g)))) h (.row i):=by subst e;exact ZbN (.inl (by simp only[conv,kp,hi]))
set_option maxRecDepth 20000 in
set_option maxHeartbeats 8000000 in
theorem Zsl:∀(n:Nat) (l:List Barb.Stmt),Zai n l=0->Zah n l<=300->CT Tryz.prog (gl L) 50 [.g (.sl 5 (l.map Stmt.g))] (Is (.g (.sl 5 ((Barb.foldSs l).map Stmt.g)))):=by
 intro n
 induction n with
 | zero=>intro l hl;exact absurd hl (by unfold Zai;decide)
 | succ n ih =>
  intro l hE hN;have ll:(l.map Stmt.g).length=l.length:=Yaa _;have hlen:=ZhW (n+1) l hE;have tA:=(ZiO (n+1) l hE hN).1;rw[Zai] at hE;refine enter hT hF hM Tryz.func50 rfl 101 rfl (by kernel_rfl) [.tmp 2] rfl [.g (.sl 5 (l.map Stmt.g))] rfl _ ?_;refine ZaO (ι:=Nat × List Barb.Stmt) (λi=>[(3,.row 0),(10,.g (.sl 5 (l.map Stmt.g))),(11,.g (.int (l.map Stmt.g).length)),(12,.g (.int (i.1:Int)))]) (λi=>[.row (i.2.map Stmt.g) 114 5])
   (λi=>i.1<=l.length/\Barb.foldSs l=i.2++Barb.foldSs (l.drop i.1)) (λi=>l.length - i.1)
   ⟨(0,[]),[.nil 114 5],⟨rfl,.inl rfl,.inr ⟨.inr rfl,lk rfl,lk rfl,lk rfl,trivial⟩,rfl⟩,Yat _,by simp⟩ ?_
  rintro Rd aj ⟨i,out⟩ ⟨hi,dq⟩;dsimp only at hi dq;have pI:out.length<=300:=by have:=congrArg List.length dq;rw[Yab] at this;omega
  refine ⟨λc1=>?_,λc1=>?_⟩
  rotate_left
  ·have gF:i=l.length:=by have:¬(i:Int) < ((l.map Stmt.g).length:Nat):=c1;omega
   rw[gF,Ycl,ZeI,YaF] at dq;exact ⟨rfl,ZjA rfl dq.symm⟩
  have az:i < l.length:=by have:(i:Int) < ((l.map Stmt.g).length:Nat):=c1;omega
  have ax:l[i]∈l:=Yai az;obtain ⟨hk,aR,dX,dV,eQ⟩:=Zct (Zaf hE _ ax);have yC:=ZkP (n:=n) ax;have p1:=Zbx n l[i].b;have p2:=Zbx n l[i].e;have cb:=ih l[i].b dV (by omega);have ce:=ih l[i].e eQ (by omega);rw[Ybi az,ZgE,Zmn] at dq;unfold ZdN at aR;have g0:=Stmt.g_eq l[i];generalize hy:l[i]=y at *;have lx:(y.xs.map Expr.g).length=y.xs.length:=Yaa _;refine ⟨i,_,rfl,(gm az).trans (congrArg some ((congrArg Stmt.g hy).trans g0)),?_⟩;refine ZaO (ι:=Nat) (λj=>[(3,.row 0),(5,.ptr 1 0),(6,.ptr 2 0),(10,.g (.sl 5 (l.map Stmt.g))),(11,.g (.int (l.map Stmt.g).length)),(12,.g (.int (i:Int))),(19,.g (.sl 5 (y.xs.map Expr.g))),(20,.g (.int (y.xs.map Expr.g).length)),(21,.g (.int (j:Int)))])
   (λj=>[.row (out.map Stmt.g) 114 5,.blk y.d 114,.blk [.g (.int y.k),.g (.str y.s),.row 3,.g (.sl 5 (y.b.map Stmt.g)),.g (.sl 5 (y.e.map Stmt.g))] 114,.row ((Zam (y.xs.take j)).map Expr.g) 146 5])
   (λj=>j<=y.xs.length) (λj=>y.xs.length - j)
   ⟨0,[.old 0,.old 1,.old 2,.nil 146 5],⟨rfl,.inr ⟨⟨rfl,rfl,rfl⟩,⟨rfl,.inl rfl⟩,⟨rfl,.inr ⟨lk rfl,lk rfl,.inr rfl,lk rfl,lk rfl,trivial⟩⟩,⟨rfl,rfl,rfl⟩,trivial⟩,.inr ⟨lk rfl,lk rfl,lk rfl,lk rfl,lk rfl,lk rfl,lk rfl,lk rfl,lk rfl,trivial⟩,rfl⟩,Yat _⟩ ?_
  intro Rj aI j hj;refine ⟨λd1=>?_,λd1=>?_⟩
  ·have aD:j < y.xs.length:=by have:(j:Int) < ((y.xs.map Expr.g).length:Nat):=d1;omega
   have aM:Zam (y.xs.take (j+1))=Zam (y.xs.take j)++[Barb.foldE y.xs[j]]:=by rw[Zcm,Zcm,ZaJ aD,Yaf];rfl
   have rn:(Zam (y.xs.take j)).length<=2:=by rw[ZcK,Yam];omega
   have hc:=ZuM (L:=L) 12 y.xs[j] (dX _ (Yai aD));generalize Zam (y.xs.take j)=row at aM rn;generalize Barb.foldE y.xs[j]=z at hc aM;refine ⟨j,_,rfl,(gm aD).trans (congrArg some (Expr.g_eq _)),?_⟩;refine ⟨some 2000,rfl,?_⟩;refine ⟨_,_,.inl rfl,hc,rfl,?_⟩;refine ⟨[gX z],rfl,rfl,⟨rfl,rfl,rfl,rfl,rfl,trivial⟩,⟨_,rfl⟩,?_⟩;refine ⟨⟨by simp[maxLen];omega,by simp;omega⟩,?_⟩;refine ⟨_,I64.wrap (by unfold I64;omega),?_⟩;exact aI _ _ _ ⟨j+1,[.old 0,.old 1,.old 2,.old 6],⟨rfl,.inr ⟨⟨rfl,rfl,rfl⟩,⟨rfl,.inl rfl⟩,⟨rfl,.inl rfl⟩,⟨by rw[aM,Yaf,List.map_singleton,Zmk],rfl,rfl⟩,trivial⟩,.inr ⟨lk rfl,lk rfl,lk rfl,lk rfl,lk rfl,lk rfl,lk rfl,lk rfl,lkI (by push_cast;rfl),trivial⟩,rfl⟩,aD,by show y.xs.length - (j+1) < y.xs.length - j;omega⟩
  have gE:j=y.xs.length:=by have:¬(j:Int) < ((y.xs.map Expr.g).length:Nat):=d1;omega
  subst gE;rw[YaH];refine ⟨none,rfl,?_⟩;refine ⟨_,_,.inl rfl,cb,rfl,?_⟩;refine ⟨_,_,.inl rfl,ce,rfl,?_⟩;have dc:0 < (Zam y.xs).length:=by rw[ZcK];omega
  have pA:(Zam y.xs).getD 0 noE=(Zam y.xs)[0]:=by simp[dc]
  have fD:((Zam y.xs).map Expr.g).length=(Zam y.xs).length:=Yaa _;refine ⟨0,rfl,(by rw[fD];exact dc),?_⟩;refine ⟨_,(gm dc).trans (congrArg some (Expr.g_eq _)),?_⟩;have stay:∀new:List Barb.Stmt,¬y.k=5->ZfK y.k y.s (Zam y.xs) (Barb.foldSs y.b) (Barb.foldSs y.e)=new->Barb.foldSs l=(out++new)++Barb.foldSs (l.drop (i+1)):=λnew h5 hn=>by rw[dq,if_neg h5,hn,Yax]
  have halt:∀new:List Barb.Stmt,y.k=5->ZfK y.k y.s (Zam y.xs) (Barb.foldSs y.b) (Barb.foldSs y.e)=new->out++new=Barb.foldSs l:=λnew h5 hn=>by rw[dq,if_pos h5,hn,YaF]
  have aK:(ZfK y.k y.s (Zam y.xs) (Barb.foldSs y.b) (Barb.foldSs y.e)).length+out.length<=300:=by have:=congrArg List.length dq;rw[Yab,Yab] at this;omega
  have cA:y.k=3->(Zam y.xs)[0].k=1->¬(Zam y.xs)[0].n=0->ZfK y.k y.s (Zam y.xs) (Barb.foldSs y.b) (Barb.foldSs y.e)=Barb.foldSs y.b:=λa b c=>by unfold ZfK;dsimp only;rw[pA,if_pos ⟨a,b,c⟩]
  have cB:y.k=3->(Zam y.xs)[0].k=1->(Zam y.xs)[0].n=0->ZfK y.k y.s (Zam y.xs) (Barb.foldSs y.b) (Barb.foldSs y.e)=Barb.foldSs y.e:=λa b c=>by unfold ZfK;dsimp only;rw[pA,if_neg (λh=>h.2.2 c),if_pos ⟨a,b⟩]
  have cC:y.k=4->(Zam y.xs)[0].k=1->(Zam y.xs)[0].n=0->ZfK y.k y.s (Zam y.xs) (Barb.foldSs y.b) (Barb.foldSs y.e)=[]:=λa b c=>by unfold ZfK;dsimp only;rw[pA,if_neg (λh=>by omega),if_neg (λh=>by omega),if_pos ⟨a,b,c⟩]
  have cD:¬(y.k=3/\(Zam y.xs)[0].k=1)->¬(y.k=4/\(Zam y.xs)[0].k=1/\(Zam y.xs)[0].n=0)->ZfK y.k y.s (Zam y.xs) (Barb.foldSs y.b) (Barb.foldSs y.e)=[.mk y.k y.s (Zam y.xs) (Barb.foldSs y.b) (Barb.foldSs y.e)]:=λa b=>by unfold ZfK;dsimp only;rw[pA,if_neg (λh=>a ⟨h.1,h.2.1⟩),if_neg a,if_neg b]
  generalize hH:ZfK y.k y.s (Zam y.xs) (Barb.foldSs y.b) (Barb.foldSs y.e)=H at *;generalize Barb.foldSs y.b=bl at *;generalize Barb.foldSs y.e=el at *;refine ⟨λk3=>⟨λx1=>?_,λx1=>?_⟩,λk3=>?_⟩
  ·have cj:¬y.k=5:=by omega
   refine ⟨0,rfl,(by rw[fD];exact dc),_,(gm dc).trans (congrArg some (Expr.g_eq _)),λx2=>?_,λx2=>?_⟩
   ·have HF:=cA k3 x1 x2;rw[HF] at aK;refine ⟨⟨by simp only[maxLen,Yaa];omega,by simp only[Yaa];omega⟩,?_⟩;refine ⟨λh=>absurd h cj,λ_=>?_⟩;exact ⟨_,I64.wrap (by unfold I64;omega),aj _ _ _ ⟨(i+1,out++bl),[.old 4],⟨rfl,.inr ⟨⟨(by rw[Yaf]),rfl,rfl⟩,trivial⟩,.inr ⟨lk rfl,lk rfl,lk rfl,lkI (by push_cast;rfl),trivial⟩,rfl⟩,⟨az,stay _ cj HF⟩,by show l.length - (i+1) < l.length - i;omega⟩⟩
   ·have HF:=cB k3 x1 x2;rw[HF] at aK;refine ⟨λ_=>⟨λ_=>?_,λh=>absurd x1 h⟩,λh=>absurd k3 h⟩;refine ⟨⟨by simp only[maxLen,Yaa];omega,by simp only[Yaa];omega⟩,?_⟩;refine ⟨λh=>absurd h cj,λ_=>?_⟩;exact ⟨_,I64.wrap (by unfold I64;omega),aj _ _ _ ⟨(i+1,out++el),[.old 4],⟨rfl,.inr ⟨⟨(by rw[Yaf]),rfl,rfl⟩,trivial⟩,.inr ⟨lk rfl,lk rfl,lk rfl,lkI (by push_cast;rfl),trivial⟩,rfl⟩,⟨az,stay _ cj HF⟩,by show l.length - (i+1) < l.length - i;omega⟩⟩
  ·refine ⟨λ_=>⟨λh=>absurd h x1,λ_=>?_⟩,λh=>absurd k3 h⟩;refine ⟨λh=>absurd h (by omega),λ_=>?_⟩;have HF:=cD (λh=>x1 h.2) (λh=>x1 h.2.1);rw[HF] at aK;simp only[List.length_cons,List.length_nil] at aK;refine ⟨[[.int y.k,.str y.s,.sl 5 ((Zam y.xs).map Expr.g),.sl 5 (bl.map Stmt.g),.sl 5 (el.map Stmt.g)]],rfl,rfl,⟨rfl,rfl,ZbH rfl rfl,rfl,rfl,trivial⟩,?_⟩;refine ⟨⟨by simp[maxLen];omega,by simp;omega⟩,?_⟩;refine ⟨λcj=>⟨rfl,ZjA (l:=out++[.mk y.k y.s (Zam y.xs) bl el]) (congrArg (λz=>some (Obj.row z 114 5)) (by rw[Yaf];exact congrArg (λz=>out.map Stmt.g++[z]) (Stmt.g_eq (.mk y.k y.s (Zam y.xs) bl el)).symm)) (halt _ cj HF)⟩,λcj=>?_⟩;exact ⟨_,I64.wrap (by unfold I64;omega),aj _ _ _ ⟨(i+1,out++[.mk y.k y.s (Zam y.xs) bl el]),[.old 5],⟨rfl,.inr ⟨⟨(by rw[Yaf];exact congrArg (λz=>out.map Stmt.g++[z]) (Stmt.g_eq (.mk y.k y.s (Zam y.xs) bl el)).symm),rfl,rfl⟩,trivial⟩,.inr ⟨lk rfl,lk rfl,lk rfl,lkI (by push_cast;rfl),trivial⟩,rfl⟩,⟨az,stay _ cj HF⟩,by show l.length - (i+1) < l.length - i;omega⟩⟩
  ·refine ⟨λh=>absurd h k3,λ_=>?_⟩;refine ⟨λk4=>⟨λx1=>?_,λx1=>?_⟩,λk4=>?_⟩
   ·refine ⟨0,rfl,(by rw[fD];exact dc),_,(gm dc).trans (congrArg some (Expr.g_eq _)),λx2=>?_,λx2=>?_⟩
    ·have cj:¬y.k=5:=by omega
     have HF:=cC k4 x1 x2;refine ⟨λh=>absurd h cj,λ_=>?_⟩;exact ⟨_,I64.wrap (by unfold I64;omega),aj _ _ _ ⟨(i+1,out++[]),[.old 0],⟨rfl,.inr ⟨⟨(by rw[YaF]),rfl,rfl⟩,trivial⟩,.inr ⟨lk rfl,lk rfl,lk rfl,lkI (by push_cast;rfl),trivial⟩,rfl⟩,⟨az,stay _ cj HF⟩,by show l.length - (i+1) < l.length - i;omega⟩⟩
    ·skip
     have HF:=cD (λh=>k3 h.1) (λh=>x2 h.2.2);rw[HF] at aK;simp only[List.length_cons,List.length_nil] at aK;refine ⟨[[.int y.k,.str y.s,.sl 5 ((Zam y.xs).map Expr.g),.sl 5 (bl.map Stmt.g),.sl 5 (el.map Stmt.g)]],rfl,rfl,⟨rfl,rfl,ZbH rfl rfl,rfl,rfl,trivial⟩,?_⟩;refine ⟨⟨by simp[maxLen];omega,by simp;omega⟩,?_⟩;refine ⟨λcj=>⟨rfl,ZjA (l:=out++[.mk y.k y.s (Zam y.xs) bl el]) (congrArg (λz=>some (Obj.row z 114 5)) (by rw[Yaf];exact congrArg (λz=>out.map Stmt.g++[z]) (Stmt.g_eq (.mk y.k y.s (Zam y.xs) bl el)).symm)) (halt _ cj HF)⟩,λcj=>?_⟩;exact ⟨_,I64.wrap (by unfold I64;omega),aj _ _ _ ⟨(i+1,out++[.mk y.k y.s (Zam y.xs) bl el]),[.old 5],⟨rfl,.inr ⟨⟨(by rw[Yaf];exact congrArg (λz=>out.map Stmt.g++[z]) (Stmt.g_eq (.mk y.k y.s (Zam y.xs) bl el)).symm),rfl,rfl⟩,trivial⟩,.inr ⟨lk rfl,lk rfl,lk rfl,lkI (by push_cast;rfl),trivial⟩,rfl⟩,⟨az,stay _ cj HF⟩,by show l.length - (i+1) < l.length - i;omega⟩⟩
   ·skip
    have HF:=cD (λh=>k3 h.1) (λh=>x1 h.2.1);rw[HF] at aK;simp only[List.length_cons,List.length_nil] at aK;refine ⟨[[.int y.k,.str y.s,.sl 5 ((Zam y.xs).map Expr.g),.sl 5 (bl.map Stmt.g),.sl 5 (el.map Stmt.g)]],rfl,rfl,⟨rfl,rfl,ZbH rfl rfl,rfl,rfl,trivial⟩,?_⟩;refine ⟨⟨by simp[maxLen];omega,by simp;omega⟩,?_⟩;refine ⟨λcj=>⟨rfl,ZjA (l:=out++[.mk y.k y.s (Zam y.xs) bl el]) (congrArg (λz=>some (Obj.row z 114 5)) (by rw[Yaf];exact congrArg (λz=>out.map Stmt.g++[z]) (Stmt.g_eq (.mk y.k y.s (Zam y.xs) bl el)).symm)) (halt _ cj HF)⟩,λcj=>?_⟩;exact ⟨_,I64.wrap (by unfold I64;omega),aj _ _ _ ⟨(i+1,out++[.mk y.k y.s (Zam y.xs) bl el]),[.old 5],⟨rfl,.inr ⟨⟨(by rw[Yaf];exact congrArg (λz=>out.map Stmt.g++[z]) (Stmt.g_eq (.mk y.k y.s (Zam y.xs) bl el)).symm),rfl,rfl⟩,trivial⟩,.inr ⟨lk rfl,lk rfl,lk rfl,lkI (by push_cast;rfl),trivial⟩,rfl⟩,⟨az,stay _ cj HF⟩,by show l.length - (i+1) < l.length - i;omega⟩⟩
   ·skip
    have HF:=cD (λh=>k3 h.1) (λh=>k4 h.1);rw[HF] at aK;simp only[List.length_cons,List.length_nil] at aK;refine ⟨[[.int y.k,.str y.s,.sl 5 ((Zam y.xs).map Expr.g),.sl 5 (bl.map Stmt.g),.sl 5 (el.map Stmt.g)]],rfl,rfl,⟨rfl,rfl,ZbH rfl rfl,rfl,rfl,trivial⟩,?_⟩;refine ⟨⟨by simp[maxLen];omega,by simp;omega⟩,?_⟩;refine ⟨λcj=>⟨rfl,ZjA (l:=out++[.mk y.k y.s (Zam y.xs) bl el]) (congrArg (λz=>some (Obj.row z 114 5)) (by rw[Yaf];exact congrArg (λz=>out.map Stmt.g++[z]) (Stmt.g_eq (.mk y.k y.s (Zam y.xs) bl el)).symm)) (halt _ cj HF)⟩,λcj=>?_⟩;exact ⟨_,I64.wrap (by unfold I64;omega),aj _ _ _ ⟨(i+1,out++[.mk y.k y.s (Zam y.xs) bl el]),[.old 5],⟨rfl,.inr ⟨⟨(by rw[Yaf];exact congrArg (λz=>out.map Stmt.g++[z]) (Stmt.g_eq (.mk y.k y.s (Zam y.xs) bl el)).symm),rfl,rfl⟩,trivial⟩,.inr ⟨lk rfl,lk rfl,lk rfl,lkI (by push_cast;rfl),trivial⟩,rfl⟩,⟨az,stay _ cj HF⟩,by show l.length - (i+1) < l.length - i;omega⟩⟩
theorem Zzx (f:Barb.Fun):(ZdH f).g=[.str f.name,.bool f.isOpen,.sl 1 (f.params.map ZaT),.sl 5 ((Barb.foldSs f.body).map Stmt.g)]:=Fun.g_eq _
theorem Zzw (u:Barb.Unit):(ZcE u).g=[.str u.name,.sl 1 (u.vars.map ZaT),.sl 2 (u.arrays.map Arr.g),.sl 4 ((u.funcs.map ZdH).map Fun.g)]:=rfl
noncomputable def Zsj (p:List Barb.Unit):List Barb.Unit:=if ZbC p=0 then Zb5 p else []
set_option maxRecDepth 20000 in
set_option maxHeartbeats 8000000 in
theorem ZjR (p:List Barb.Unit) (hp:Zpa p) (hN:ZuS p):CT Tryz.prog (gl L) 22 [.g (.sl 4 (p.map Unit.g))] (Is (.tuple [.g (.sl 4 ((Zsj p).map Unit.g)),.g (.int (ZbC p))])):=by
 have lp:(p.map Unit.g).length=p.length:=Yaa _;refine enter hT hF hM Tryz.func22 rfl 61 rfl (by kernel_rfl) [.tmp 2,.tmp 3] rfl [.g (.sl 4 (p.map Unit.g))] rfl _ ?_;refine Zad (.inl rfl) (Zet p hp) ?_;refine ⟨λh=>⟨rfl,ZtJ rfl (by unfold Zsj;rw[if_neg h];rfl)⟩,λh=>?_⟩;have aE:ZbC p=0:=by omega
 obtain ⟨qU,kS,_,tW⟩:=Zbk aE;have hV:Zsj p=Zb5 p:=by unfold Zsj;rw[if_pos aE]
 rw[hV,aE];refine ZaO (ι:=Nat) (λi=>[(5,.row 0),(16,.g (.sl 4 (p.map Unit.g))),(17,.g (.int (p.map Unit.g).length)),(18,.g (.int (i:Int)))]) (λi=>[.row (((p.take i).map ZcE).map Unit.g) 37 4])
  (λi=>i<=p.length) (λi=>p.length - i)
  ⟨0,[.nil 37 4],⟨rfl,.inl rfl,.inr ⟨.inr rfl,lk rfl,lk rfl,lk rfl,trivial⟩,rfl⟩,Yat _⟩ ?_
 intro Rd aj i hi;refine ⟨λc1=>?_,λc1=>?_⟩
 rotate_left
 ·have gF:i=p.length:=by have:¬(i:Int) < ((p.map Unit.g).length:Nat):=c1;omega
  exact ⟨rfl,ZyZ rfl rfl (by rw[gF,YaH];rfl)⟩
 have az:i < p.length:=by have:(i:Int) < ((p.map Unit.g).length:Nat):=c1;omega
 have ax:p[i]∈p:=Yai az;obtain ⟨_,ju,mw,pY,_,nj,nh⟩:=ZaQ (kS _ ax);have aM:(p.take (i+1)).map ZcE=(p.take i).map ZcE++[ZcE p[i]]:=by rw[ZaJ az,Yaf];rfl
 have pI:((p.take i).map ZcE).length<=5:=by rw[Yaa,Yam];omega
 have oW:∀f∈p[i].funcs,CT Tryz.prog (gl L) 50 [.g (.sl 5 (f.body.map Stmt.g))] (Is (.g (.sl 5 ((Barb.foldSs f.body).map Stmt.g)))):=λf hf=>by have h3:=(Zhd p[i].funcs).1 f hf;have h4:=hN _ ax;exact Zsl 12 f.body (Zb7 (nh f hf)).2.2.2 (by omega)
 have hpl:∀f∈p[i].funcs,f.params.length<=4:=λf hf=>(Zb7 (nh f hf)).2.1;have hg:=Zzw p[i];generalize (p.take i).map ZcE=out at aM pI aj;have bT:(p.map Unit.g)[i]?=some (Unit.g p[i]):=gm az;generalize p[i]=u at *;have lv:(u.vars.map ZaT).length=u.vars.length:=Yaa _;have la:(u.arrays.map Arr.g).length=u.arrays.length:=Yaa _;have lf:(u.funcs.map Fun.g).length=u.funcs.length:=Yaa _;refine ⟨i,_,rfl,bT,?_⟩;refine ⟨some 9995,[10],rfl,?_⟩;refine ⟨⟨by simp only[maxLen];omega,by dsimp only;omega⟩,⟨by simp only[maxLen];omega,by dsimp only;omega⟩,?_⟩;refine ZaO (ι:=Nat) (λj=>[(5,.row 0),(8,.ptr 4 0),(16,.g (.sl 4 (p.map Unit.g))),(17,.g (.int (p.map Unit.g).length)),(18,.g (.int (i:Int))),(32,.g (.sl 4 (u.funcs.map Fun.g))),(33,.g (.int (u.funcs.map Fun.g).length)),(34,.g (.int (j:Int)))])
  (λj=>[.row (out.map Unit.g) 37 4,.blk u.d 37,.row (u.vars.map ZaT) 9 1,.row (u.arrays.map Arr.g) 67 2,.blk [.g (.str u.name),.row 2,.row 3,.row 5] 37,.row (((u.funcs.take j).map ZdH).map Fun.g) 71 4])
  (λj=>j<=u.funcs.length) (λj=>u.funcs.length - j)
  ⟨0,[.old 0,.old 1,.old 2,.old 3,.old 4,.nil 71 4],⟨rfl,.inr ⟨⟨rfl,rfl,rfl⟩,⟨rfl,.inl rfl⟩,⟨rfl,rfl,rfl⟩,⟨rfl,rfl,rfl⟩,⟨rfl,.inr ⟨lk rfl,lk rfl,lk rfl,.inr rfl,trivial⟩⟩,⟨rfl,rfl,rfl⟩,trivial⟩,.inr ⟨lk rfl,lk rfl,lk rfl,lk rfl,lk rfl,lk rfl,lk rfl,lk rfl,trivial⟩,rfl⟩,Yat _⟩ ?_
 intro Rj aI j hj;have tE:((u.funcs.take j).map ZdH).length<=8:=by rw[Yaa,Yam];omega
 refine ⟨λd1=>?_,λd1=>?_⟩
 ·have aD:j < u.funcs.length:=by have:(j:Int) < ((u.funcs.map Fun.g).length:Nat):=d1;omega
  have gI:u.funcs[j]∈u.funcs:=Yai aD;have eM:(u.funcs.take (j+1)).map ZdH=(u.funcs.take j).map ZdH++[ZdH u.funcs[j]]:=by rw[ZaJ aD,Yaf];rfl
  have hc:=oW _ gI;have tp:=hpl _ gI;have oF:=Zzx u.funcs[j];have bT:=(gm aD:(u.funcs.map Fun.g)[j]?=some u.funcs[j].g);rw[Fun.g_eq] at bT;generalize (u.funcs.take j).map ZdH=row at eM tE aI;generalize u.funcs[j]=f at *;have yd:(f.params.map ZaT).length=f.params.length:=Yaa _;refine ⟨j,_,rfl,bT,?_⟩;refine ⟨some 3008,rfl,?_⟩;refine ⟨⟨by simp only[maxLen];omega,by dsimp only;omega⟩,?_⟩;refine ⟨_,_,.inl rfl,hc,rfl,?_⟩;refine ⟨[[.str f.name,.bool f.isOpen,.sl 1 (f.params.map ZaT),.sl 5 ((Barb.foldSs f.body).map Stmt.g)]],rfl,rfl,⟨rfl,rfl,rfl,rfl,trivial⟩,⟨_,rfl⟩,?_⟩;refine ⟨⟨by simp[maxLen];omega,by simp;omega⟩,?_⟩;refine ⟨_,I64.wrap (by unfold I64;omega),?_⟩;exact aI _ _ _ ⟨j+1,[.old 0,.old 1,.old 2,.old 3,.old 4,.old 9],⟨rfl,.inr ⟨⟨rfl,rfl,rfl⟩,⟨rfl,.inl rfl⟩,⟨rfl,rfl,rfl⟩,⟨rfl,rfl,rfl⟩,⟨rfl,.inl rfl⟩,⟨(by rw[eM,Yaf,List.map_singleton,oF]),rfl,rfl⟩,trivial⟩,.inr ⟨lk rfl,lk rfl,lk rfl,lk rfl,lk rfl,lk rfl,lk rfl,lkI (by push_cast;rfl),trivial⟩,rfl⟩,aD,by show u.funcs.length - (j+1) < u.funcs.length - j;omega⟩
 ·have gE:j=u.funcs.length:=by have:¬(j:Int) < ((u.funcs.map Fun.g).length:Nat):=d1;omega
  subst gE;rw[YaH] at tE ⊢;refine ⟨[[.str u.name,.sl 1 (u.vars.map ZaT),.sl 2 (u.arrays.map Arr.g),.sl 4 ((u.funcs.map ZdH).map Fun.g)]],rfl,rfl,⟨rfl,ZbH rfl rfl,ZbH rfl rfl,ZbH rfl rfl,trivial⟩,?_⟩;refine ⟨⟨by simp[maxLen];omega,by simp;omega⟩,?_⟩;refine ⟨_,I64.wrap (by unfold I64;omega),?_⟩;exact aj _ _ _ ⟨i+1,[.old 7],⟨rfl,.inr ⟨⟨(by rw[aM,Yaf,List.map_singleton,hg]),rfl,rfl⟩,trivial⟩,.inr ⟨lk rfl,lk rfl,lk rfl,lkI (by push_cast;rfl),trivial⟩,rfl⟩,az,by show p.length - (i+1) < p.length - i;omega⟩
end ZN
namespace Barb
open Go Go.Dm Go.Eng ZN
theorem Zw7 {m n:Nat} (hm:m<=65535) (hn:n<=65535) (op:Nat):did op m n<=65535:=by
 match op with
 | 0=>exact YaC (Ycr _ _) hm
 | 1=>simp only[did];omega
 | 2=>simp only[did];omega
 | 3=>simp only[did];omega
 | 4=>exact YaC Ycq hm
 | 5=>exact Zy7 hm hn
 | 6=>exact ZsN hm hn
 | 7=>simp only[did];split<;>omega
 | 8=>simp only[did];split<;>omega
 | 9=>simp only[did];omega
 | k+10=>exact YaC (Ycr _ _) hm
theorem Zra (op a b:Int):0<=doI op a b/\doI op a b<=65535:=by
 unfold doI;split
 ·omega
 ·split
  ·have:=Zw7 (m:=a.toNat) (n:=b.toNat) (by omega) (by omega) op.toNat;omega
  ·omega
theorem Zk8:∀(n:Nat) (x:Expr),Zaw n x=0->Zaw (n+1) x=0
 | 0,.mk _ _ _ _ _,h=>by rw[Zaw] at h;exact absurd h (by decide)
 | n+1,.mk k v of s args,h=>by obtain ⟨h1,h2,h3,h4,h5⟩:=Zdo h;rw[Zga,if_neg (λh=>h h1),if_neg (by omega),if_neg (λh=>h h3),if_neg h4];exact Zap (λy hy=>Zk8 n y (h5 y hy))
theorem Zq1 {n:Nat} {k v:Int} {of s:Str} {args:List Expr} (h1:1<=k/\k<=5) (h2:args.length<=4) (h3:ZbJ k v of s args.length) (h4:¬Za0 k v) (h5:∀y∈args,Zaw n y=0):Zaw (n+1) (.mk k v of s args)=0:=by rw[Zaw,if_neg (λh=>h h1),if_neg (by omega),if_neg (λh=>h h3),if_neg h4];exact Zap h5
theorem ZvJ {α:Type} {l:List α} (h:l.length=2):∃a b,l=[a,b]:=by
 match l,h with
 | [a,b],_=>exact ⟨a,b,rfl⟩
theorem Zpu (n:Int) (of s:Str) (a b:Expr) (l:List Expr):Zdy n of s a b l=.mk 1 (doI n a.n b.n) [] [] []\/Zdy n of s a b l=a\/Zdy n of s a b l=.mk 5 n of s l:=by
 unfold Zdy;split
 ·exact .inl rfl
 ·split
  ·exact .inr (.inl rfl)
  ·split
   ·exact .inr (.inl rfl)
   ·exact .inr (.inr rfl)
theorem ZjS (k n:Int) (of s:Str) (args:List Expr) (h2:k=5->args.length=2):foldE (.mk k n of s args)=.mk k n of s (Zam args)\/(k=5/\((∃v,0<=v/\v<=65535/\foldE (.mk k n of s args)=.mk 1 v [] [] [])\/∃x∈args,foldE (.mk k n of s args)=foldE x)):=by
 rw[foldE];by_cases h5:k=5
 ·rw[if_pos h5];obtain ⟨x,y,rfl⟩:=ZvJ (h2 h5);rcases Zpu n of s ((Zam [x,y]).getD 0 noE) ((Zam [x,y]).getD 1 noE) (Zam [x,y]) with h | h | h
  ·exact .inr ⟨h5,.inl ⟨_,(Zra _ _ _).1,(Zra _ _ _).2,h⟩⟩
  ·exact .inr ⟨h5,.inr ⟨x,Yae,by rw[h];simp[Zam]⟩⟩
  ·exact .inl (by rw[h,h5])
 ·rw[if_neg h5];exact .inl rfl
theorem ZxK {k n:Int} {of s:Str} {m:Nat} (h:ZbJ k n of s m) (h5:k=5):m=2:=by unfold ZbJ at h;omega
theorem ZhY:∀(n:Nat) (x:Expr),Zaw n x=0->Zaw n (foldE x)=0
 | 0,.mk _ _ _ _ _,h=>by rw[Zaw] at h;exact absurd h (by decide)
 | n+1,.mk k v of s args,h=>by
  obtain ⟨h1,h2,h3,h4,h5⟩:=Zdo h;dsimp only[Expr.k,Expr.n,Expr.of,Expr.s,Expr.args] at h1 h2 h3 h4 h5;rcases ZjS k v of s args (ZxK h3) with e | ⟨_,⟨w,w0,w1,e⟩ | ⟨x,hx,e⟩⟩
  ·rw[e];refine Zq1 h1 (by rw[ZcK];exact h2) (by rw[ZcK];exact h3) h4 (λy hy=>?_);rw[Zcm,YaU] at hy;obtain ⟨z,hz,rfl⟩:=hy;exact ZhY n z (h5 z hz)
  ·rw[e];exact Zq1 (by decide) (by decide) (.inl ⟨rfl,rfl,rfl,rfl⟩) (by unfold Za0;omega) (λy hy=>by simp at hy)
  ·rw[e];exact Zk8 n _ (ZhY n x (h5 x hx))
structure Alike (p p':List Unit) (u u':Unit) (f f':Fun):Prop where
 var:∀s,ZkM u f s->ZkM u' f' s
 arr:∀s,Zlk u s->Zlk u' s
 call:∀of s m,Zbf p' u' of s m=Zbf p u of s m
theorem Zk6 (s:Str):∀l:List Fun,(l.map ZdH).find? (λf=>decide (f.name=s))=(l.find? (λf=>decide (f.name=s))).map ZdH
 | []=>rfl
 | f :: l=>by
  rw[Yan,List.find?_cons,List.find?_cons];show (match decide (f.name=s) with | true=>some (ZdH f) | false=>(l.map ZdH).find? _)=_;cases decide (f.name=s) with
  | true=>rfl
  | false=>exact Zk6 s l
theorem Zk5 (s:Str):∀l:List Unit,(l.map ZcE).find? (λf=>decide (f.name=s))=(l.find? (λf=>decide (f.name=s))).map ZcE
 | []=>rfl
 | f :: l=>by
  rw[Yan,List.find?_cons,List.find?_cons];show (match decide (f.name=s) with | true=>some (ZcE f) | false=>(l.map ZcE).find? _)=_;cases decide (f.name=s) with
  | true=>rfl
  | false=>exact Zk5 s l
theorem Zht (u:Unit) (of s:Str) (m:Nat):calledIn (ZcE u) of s m=calledIn u of s m:=by
 unfold calledIn;rw[show (ZcE u).funcs=u.funcs.map ZdH from rfl,Zk6];cases u.funcs.find? (λf=>decide (f.name=s)) with
 | none=>rfl
 | some g=>rfl
theorem Zof (p:List Unit) (u:Unit) (of s:Str) (m:Nat):Zbf (Zb5 p) (ZcE u) of s m=Zbf p u of s m:=by
 unfold Zbf;by_cases h:of=[]
 ·rw[if_pos h,if_pos h];exact Zht u of s m
 ·rw[if_neg h,if_neg h,show Zb5 p=p.map ZcE from rfl,Zk5];cases p.find? (λf=>decide (f.name=of)) with
  | none=>rfl
  | some v=>exact Zht v of s m
theorem Zsi (p:List Unit) (u:Unit) (f:Fun):Alike p (Zb5 p) u (ZcE u) f (ZdH f):=⟨λ_ h=>h,λ_ h=>h,λof s m=>Zof p u of s m⟩
theorem ZqV {p:List Unit} {u:Unit} {f:Fun} {k n:Int} {of s:Str} {args:List Expr} (h:Zbp p u f k of s args.length=0) (ha:∀x∈args,ZbR p u f x=0):ZbR p u f (.mk k n of s args)=0:=by rw[ZbR,if_neg (λh'=>h' h),ZbV];exact Zap ha
theorem Zn5 {p p':List Unit} {u u':Unit} {f f':Fun} (ha:Alike p p' u u' f f') {k:Int} {of s:Str} {m:Nat} (h:Zbp p u f k of s m=0):Zbp p' u' f' k of s m=0:=by
 unfold Zbp at h ⊢;by_cases h1:(k=2/\¬ZkM u f s)\/(k=3/\¬Zlk u s)
 ·rw[if_pos h1] at h;omega
 rw[if_neg h1] at h;rw[if_neg (λhc=>h1 (hc.imp (λ⟨a,b⟩=>⟨a,λc=>b (ha.var _ c)⟩) (λ⟨a,b⟩=>⟨a,λc=>b (ha.arr _ c)⟩)))];by_cases h4:k=4
 ·rw[if_pos h4] at h ⊢;rw[ha.call];exact h
 ·rw[if_neg h4]
theorem ZgF {p p':List Unit} {u u':Unit} {f f':Fun} (ha:Alike p p' u u' f f'):∀(n:Nat) (x:Expr),Zaw n x=0->ZbR p u f x=0->ZbR p' u' f' (foldE x)=0
 | 0,.mk _ _ _ _ _,h,_=>by rw[Zaw] at h;exact absurd h (by decide)
 | n+1,.mk k v of s args,h,hs=>by
  obtain ⟨_,_,h3,_,h5⟩:=Zdo h;obtain ⟨s1,s2⟩:=Zho hs;dsimp only[Expr.k,Expr.n,Expr.of,Expr.s,Expr.args] at h3 h5 s1 s2;rcases ZjS k v of s args (ZxK h3) with e | ⟨_,⟨w,_,_,e⟩ | ⟨x,hx,e⟩⟩
  ·rw[e];refine ZqV (by rw[ZcK];exact Zn5 ha s1) (λy hy=>?_);rw[Zcm,YaU] at hy;obtain ⟨z,hz,rfl⟩:=hy;exact ZgF ha n z (h5 z hz) (s2 z hz)
  ·rw[e];exact ZqV (by unfold Zbp;rw[if_neg (by omega),if_neg (by omega)]) (λy hy=>by simp at hy)
  ·rw[e];exact ZgF ha n x (h5 x hx) (s2 x hx)
theorem Zc8:∀(n:Nat) (l:List Stmt),Zai n l=0->Zai (n+1) l=0/\Zah (n+1) l=Zah n l
 | 0,_,h=>by rw[Zai] at h;exact absurd h (by decide)
 | n+1,l,h=>by
  rw[Zai] at h;have e:=Zaf h;have e1:∀x∈l,ZbI (Zai (n+1)) x=0:=λx hx=>by obtain ⟨hk,aR,dX,dV,eQ⟩:=Zct (e x hx);rw[Zjq,if_neg (λh=>h hk),if_neg (λh=>h aR),if_neg (λh=>h (Zap dX)),if_neg (λh=>h (Zc8 n x.b dV).1)];exact (Zc8 n x.e eQ).1
  refine ⟨by rw[Zai];exact Zap e1,?_⟩;clear h e1
  induction l with
  | nil=>rw[Zcf,Zcf]
  | cons x l il =>obtain ⟨hk,aR,dX,dV,eQ⟩:=Zct (e x Yae);rw[ZbG,ZbG,il (λy hy=>e y (Yad _ hy)),(Zc8 n x.b dV).2,(Zc8 n x.e eQ).2]
theorem ZgW (n:Nat):∀(a b:List Stmt),Zah (n+1) (a++b)=Zah (n+1) a+Zah (n+1) b
 | [],b=>by rw[List.nil_append,Zcf];omega
 | x :: a,b=>by rw[List.cons_append,ZbG,ZbG,ZgW n a b];omega
theorem ZgD {p p':List Unit} {u u':Unit} {f f':Fun} (ha:Alike p p' u u' f f'):∀(n:Nat) (l:List Stmt),Zai n l=0->Zbt p u f l=0->Zai n (foldSs l)=0/\Zbt p' u' f' (foldSs l)=0/\Zah n (foldSs l)<=Zah n l
 | 0,_,h,_=>by rw[Zai] at h;exact absurd h (by decide)
 | n+1,l,h,hs=>by
  rw[Zai] at h;rw[Za1] at hs;have e:=Zaf h;have es:=Zaf hs;clear h hs
  induction l with
  | nil=>rw[ZeI];exact ⟨rfl,by rw[Zbt],by omega⟩
  | cons x l il =>
   obtain ⟨i1,i2,i3⟩:=il (λy hy=>e y (Yad _ hy)) (λy hy=>es y (Yad _ hy));obtain ⟨hk,aR,dX,dV,eQ⟩:=Zct (e x Yae);obtain ⟨q7,ky,mu,ke⟩:=ZgZ (es x Yae);obtain ⟨b1,b2,b3⟩:=ZgD ha n x.b dV mu;obtain ⟨e1,e2,e3⟩:=ZgD ha n x.e eQ ke;have m1:=Zc8 n _ b1;have m2:=Zc8 n _ e1;have q1:=Zbx n x.b;have q2:=Zbx n x.e;have key:Zai (n+1) (Zpv x)=0/\Zbt p' u' f' (Zpv x)=0/\Zah (n+1) (Zpv x)<=1+(Zah n x.b+Zah n x.e):=by
    rw[Zmn];unfold ZfK;dsimp only;split
    ·exact ⟨m1.1,b2,by rw[m1.2];omega⟩
    ·split
     ·exact ⟨m2.1,e2,by rw[m2.2];omega⟩
     ·split
      ·exact ⟨rfl,by rw[Zbt],by rw[Zcf];omega⟩
      ·refine ⟨?_,?_,?_⟩
       ·rw[Zai];refine Zap (λy hy=>?_);rw[Yaz.1 hy,ZbI];have de:Zal (Zaw 12) (Zam x.xs)=0:=Zap (λz hz=>by
         rw[Zcm,YaU] at hz;obtain ⟨z',k6,rfl⟩:=hz;exact ZhY 12 z' (dX z' k6))
        have cP:x.b.length=0->(foldSs x.b).length=0:=λh=>by rw[Ybl.1 h,ZeI];rfl
        have oM:x.e.length=0->(foldSs x.e).length=0:=λh=>by rw[Ybl.1 h,ZeI];rfl
        have qV:ZdN x.k x.s (Zam x.xs).length (foldSs x.b).length (foldSs x.e).length:=by unfold ZdN at aR ⊢;rw[ZcK];exact ⟨aR.1,aR.2.1.imp cP id,aR.2.2.imp oM id⟩
        rw[if_neg (λh=>h hk),if_neg (λh=>h qV),if_neg (λh=>h de),if_neg (λh=>h b1)];exact e1
       ·rw[Za1];refine Zap (λy hy=>?_);rw[Yaz.1 hy,Zd1,if_neg (λhc=>q7 (hc.imp (λ⟨a,b⟩=>⟨a,λc=>b (ha.var _ c)⟩) (λ⟨a,b⟩=>⟨a,λc=>b (ha.arr _ c)⟩)))];have de:Zeb p' u' f' (Zam x.xs)=0:=by rw[ZbV];refine Zap (λz hz=>?_);rw[Zcm,YaU] at hz;obtain ⟨z',k6,rfl⟩:=hz;exact ZgF ha 12 z' (dX z' k6) (ky z' k6)
        rw[if_neg (λh=>h de),if_neg (λh=>h b2)];exact e2
       ·rw[ZbG,Zcf];show 1+(Zah n (foldSs x.b)+Zah n (foldSs x.e))+0<=1+(Zah n x.b+Zah n x.e);omega
   have p1:=Zbx (n+1) l;rw[ZgE,ZgW,ZbG];refine ⟨?_,?_,?_⟩
   ·rw[Zai];refine Zap (λy hy=>?_);rcases Yar.1 hy with hy | hy
    ·have:=key.1;rw[Zai] at this;exact Zaf this y hy
    ·split at hy
     ·simp at hy
     ·rw[Zai] at i1;exact Zaf i1 y hy
   ·rw[Za1];refine Zap (λy hy=>?_);rcases Yar.1 hy with hy | hy
    ·have:=key.2.1;rw[Za1] at this;exact Zaf this y hy
    ·split at hy
     ·simp at hy
     ·rw[Za1] at i2;exact Zaf i2 y hy
   ·split
    ·rw[Zcf];omega
    ·omega
theorem Zsk (l:List Unit):(l.map ZcE).map Unit.name=l.map Unit.name:=by rw[YbL];rfl
theorem ZjQ (l:List Unit):Zar (l.map ZcE)=Zar l:=by unfold Zar;rw[YbL];rfl
theorem ZeJ (p:List Unit):(Zb5 p).length=p.length:=by unfold Zb5;rw[Yaa]
theorem ZhX {p:List Unit} (h:ZbC p=0) (hN:ZuS p):ZbC (Zb5 p)=0/\ZuS (Zb5 p):=by
 obtain ⟨h1,h2,h4,h5⟩:=Zbk h;have body:∀u∈p,∀f∈u.funcs,Zai 12 (foldSs f.body)=0/\Zbt (Zb5 p) (ZcE u) (ZdH f) (foldSs f.body)=0/\Zah 12 (foldSs f.body)<=Zah 12 f.body:=λu hu f hf =>
  ZgD (Zsi p u f) 12 f.body (Zb7 ((ZaQ (h2 u hu)).2.2.2.2.2.2 f hf)).2.2.2 (Zjj (h5 u hu) f hf)
 have many:∀u∈p,Zb9 (ZcE u).funcs<=Zb9 u.funcs:=λu hu=>by
  have b:=body u hu;show Zb9 (u.funcs.map ZdH)<=_;generalize u.funcs=l at b;clear hN h h1 h2 h4 h5 body
  induction l with
  | nil=>exact YbC _
  | cons f l ih =>
   have e1:Zb9 (f :: l)=Zah 12 f.body+Zb9 l:=by simp[Zb9]
   have e2:Zb9 ((f :: l).map ZdH)=Zah 12 (foldSs f.body)+Zb9 (l.map ZdH):=by simp[Zb9];rfl
   have:=ih (λg hg=>b g (Yad _ hg));have:=(b f Yae).2.2;omega
 have few:ZuS (Zb5 p):=λv hv=>by obtain ⟨u,hu,rfl⟩:=YaU.1 hv;have:=many u hu;have:=hN u hu;omega
 refine ⟨?_,few⟩;have hU:∀v∈Zb5 p,Zbm v=0:=λv hv=>by
  obtain ⟨u,hu,rfl⟩:=YaU.1 hv;have vz:=h2 u hu;obtain ⟨a0,a1,a2,a3,a6,a4,a5⟩:=ZaQ vz;unfold Zbm;rw[if_neg (λh=>h a0),if_neg (by show ¬(8 < u.vars.length\/3 < u.arrays.length\/8 < (u.funcs.map ZdH).length);rw[Yaa];omega),
   if_neg (λh=>h (Zap (λs hs=>ZlW (a6 s hs)))),if_neg (λh=>h (Zap a4)),if_neg (λh=>h (Zap (λg hg=>by
    obtain ⟨f,hf,rfl⟩:=YaU.1 hg;obtain ⟨b0,b1,b2,_⟩:=Zb7 (a5 f hf);exact Zi3 b0 b1 b2 (body u hu f hf).1))),if_neg]
  have:=few (ZcE u) hv;have h0:=(Zhd (ZcE u).funcs).2;rw[I64.wrap (by unfold I64;omega)];omega
 unfold ZbC;rw[if_neg (by rw[ZeJ];omega),if_neg (λh=>h (Zap hU))];unfold ZbC at h;rw[if_neg (by omega),if_neg (λh=>h (Zap h2))] at h;rw[show Zb5 p=p.map ZcE from rfl,Zsk,ZjQ];by_cases hd:ZoF (p.map Unit.name)
 ·rw[if_pos hd] at h;omega
 rw[if_neg hd] at h ⊢;rw[if_neg (by omega)];refine Zap (λv hv=>?_);obtain ⟨u,hu,rfl⟩:=YaU.1 hv;have hs:=h5 u hu;unfold ZgT at hs ⊢;rw[show (ZcE u).funcs=u.funcs.map ZdH from rfl,show (ZcE u).vars=u.vars from rfl,show (ZcE u).arrays=u.arrays from rfl];have eM:(u.funcs.map ZdH).map Fun.name=u.funcs.map Fun.name:=by rw[YbL];rfl
 rw[eM];by_cases hq:ZoF (u.vars++u.arrays.map Arr.name)\/ZoF (u.funcs.map Fun.name)
 ·rw[if_pos hq] at hs;omega
 rw[if_neg hq] at hs ⊢;refine Zap (λg hg=>?_);obtain ⟨f,hf,rfl⟩:=YaU.1 hg;have h6:=Zaf hs f hf;unfold ZuG at h6 ⊢;by_cases hz:ZoF f.params
 ·rw[if_pos hz] at h6;omega
 ·rw[if_neg (show ¬ZoF (ZdH f).params from hz)];exact (body u hu f hf).2.1
end Barb
