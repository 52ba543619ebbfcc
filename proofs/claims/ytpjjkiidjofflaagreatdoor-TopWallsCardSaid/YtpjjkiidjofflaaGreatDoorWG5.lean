import Derived.Test.YtpjjkiidjofflaaGreatDoorWG1
import Derived.Test.YtpjjkiidjofflaaGreatDoorWWd
import Derived.Test.YtpjjkiidjofflaaGreatDoorWG4
import Derived.Test.YtpjjkiidjofflaaGreatDoorWG2
open Go Go.Proofs Go.Proofs.YtpjjkiidjofflaaGreatDoor
namespace Barb
open Go Go.Dm Go.Eng ZN
def ZgF (n:Int):Prop:=n=1\/n=2\/n=5\/n=6\/n=9\/n=10
instance (n:Int):Decidable (ZgF n):=by unfold ZgF;infer_instance
def ZcA (n:Int) (of s:Str) (a b:Expr) (l:List Expr):Expr :=
 if a.k=1/\b.k=1 then .mk 1 (doI n a.n b.n) [] [] []
 else if (b.k=1/\b.n=0)/\ZgF n then a
 else if n=3/\b.k=1/\b.n=1 then a
 else .mk 5 n of s l
def noE:Expr:=.mk 0 0 [] [] []
mutual
def foldE:Expr->Expr
 | .mk k n of s args=>if k=5 then ZcA n of s ((Zag args).getD 0 noE) ((Zag args).getD 1 noE) (Zag args) else .mk k n of s (Zag args)
def Zag:List Expr->List Expr
 | []=>[]
 | x :: l=>foldE x :: Zag l
end
theorem ZbV (l:List Expr):Zag l=l.map foldE:=by
 induction l with
 | nil=>rfl
 | cons x l ih=>simp[Zag,ih]
def ZeL (k:Int) (s:Str) (xs:List Expr) (b e:List Stmt):List Stmt :=
 let x:=xs.getD 0 noE
 if k=3/\x.k=1/\x.n≠0 then b
 else if k=3/\x.k=1 then e
 else if k=4/\x.k=1/\x.n=0 then []
 else [.mk k s xs b e]
mutual
def ZjD:Stmt->List Stmt
 | .mk k s xs b e=>ZeL k s (Zag xs) (foldSs b) (foldSs e)
def foldSs:List Stmt->List Stmt
 | []=>[]
 | x :: l=>ZjD x++(match x with | .mk k _ _ _ _=>if k=5 then [] else foldSs l)
end
def ZcM (f:Fun):Fun:=⟨f.name,f.isOpen,f.params,foldSs f.body⟩
def ZbZ (u:Unit):Unit:=⟨u.name,u.vars,u.arrays,u.funcs.map ZcM⟩
def Zaz (p:List Unit):List Unit:=p.map ZbZ
end Barb
namespace Go.Dm
open Go Go.Eng Go.RowKit
theorem ZBM {G:Gl} {n:Nat} {K:St->Prop} {st:St} (h:ZcY G n (ZcY G n K) st):ZcY G n K st:=by obtain ⟨st1,h1,st2,h2,k⟩:=h;exact ⟨st2,λC a w e hr=>h2 C a w e (h1 C a w e hr),k⟩
section
variable {P:Program} {T:Tab} {F:FuncId->Bool} {G:Gl}
theorem ZAJ {J:List Nat} {n:Nat} {x y z:Code} {env:Env} {h:Zad} {df:List Deferred} {Q:Post} {ι κ:Type} (hJ:inL J (ZdR (.seq y z))=true) (hJ2:inL J (ZdR z)=false)
  (val:ι->List (Nat × D)) (hpI:ι->Zad) (Inv:ι->Prop) (val2:κ->List (Nat × D)) (hp2:κ->Zad) (Inv2:κ->Prop)
  (head:∀Rd:St->Prop,(∀(i:ι) (e:Env),Zsl e (val i)->Inv i->Rd ⟨e,hpI i,df⟩)->vcS J P T F G n x ⟨env,h,df⟩ (Ze8 Rd Q))
  (mid:∀Rd:St->Prop,(∀(i:κ) (e:Env),Zsl e (val2 i)->Inv2 i->Rd ⟨e,hp2 i,df⟩)->∀(e0:Env) (i:ι),Inv i->ZcY G n (λst1=>vcS J P T F G n y st1 (Ze8 Rd Q)) ⟨Env.many e0 (val i),hpI i,df⟩)
  (tail:∀(e0:Env) (i:κ),Inv2 i->vcS J P T F G n z ⟨Env.many e0 (val2 i),hp2 i,df⟩ Q) :
  vcS J P T F G n (.seq x (.seq y z)) ⟨env,h,df⟩ Q:=by
 have e2:Ze8 (λst'=>vcS J P T F G n z st' Q) Q=(λe st'=>match e with | .normal=>bif inL J (ZdR z) then ZcY G n (λst1=>vcS J P T F G n z st1 Q) st' else vcS J P T F G n z st' Q | e=>Q e st'):=by
  funext e st';cases e with
  | normal=>rw[hJ2];rfl
  | _=>rfl
 have hm:=mid (λst'=>vcS J P T F G n z st' Q) (λi e ha hi=>by
  have:=tail e i hi;rw[Zfe ha] at this;exact this)
 have hh:=head (λst'=>ZcY G n (λst1=>vcS J P T F G n (.seq y z) st1 Q) st') (λi e ha hi=>by
  have:=hm e i hi;rw[Zfe ha,e2] at this;exact this)
 have e:Ze8 (λst'=>ZcY G n (λst1=>vcS J P T F G n (.seq y z) st1 Q) st') Q=(λe st'=>match e with | .normal=>bif inL J (ZdR (.seq y z)) then ZcY G n (λst1=>vcS J P T F G n (.seq y z) st1 Q) st' else vcS J P T F G n (.seq y z) st' Q | e=>Q e st'):=by
  funext e st';cases e with
  | normal=>rw[hJ];rfl
  | _=>rfl
 rw[e] at hh;exact hh
end
end Go.Dm
namespace Barb
open Go Go.Dm Go.Eng ZN
abbrev bD (i:Bool) (p:Prop):D:=match i with
 | true=>.pb p
 | false=>.g (.bool false)
theorem Zcy (l:List Expr):(Zag l).length=l.length:=by rw[ZbV,Yab]
theorem Zf8 {h:Zad} {x y:Expr} (e:x=y):Zbk (Is (.agg x.d)) h (.agg y.d):=by subst e;exact Zbl (.inl rfl)
end Barb
namespace ZN
open Go Go.Dm Go.Eng Go.RowKit Barb
set_option maxRecDepth 20000 in
set_option maxHeartbeats 8000000 in
theorem Zun:∀(f:Nat) (x:Barb.Expr),ZaN f x=0->CT Tryz.prog gl 72 [.agg x.d] (Is (.agg (foldE x).d)):=by
 intro f
 induction f with
 | zero=>intro x hx;exact absurd hx (by unfold ZaN;decide)
 | succ f ih =>
  intro x hx;obtain ⟨k,n,of,s,args⟩:=x;unfold ZaN at hx;by_cases hk:¬(1<=k/\k<=5)
  ·rw[if_pos hk] at hx;exact absurd hx (by decide)
  rw[if_neg hk] at hx;by_cases h4:4 < args.length
  ·rw[if_pos h4] at hx;exact absurd hx (by decide)
  rw[if_neg h4] at hx;by_cases hok:¬Zbp k n of s args.length
  ·rw[if_pos hok] at hx;exact absurd hx (by decide)
  rw[if_neg hok] at hx;by_cases hb:ZaR k n
  ·rw[if_pos hb] at hx;exact absurd hx (by decide)
  rw[if_neg hb] at hx;have iha:∀(j:Nat) (hj:j < args.length),CT Tryz.prog gl 72 [.agg args[j].d] (Is (.agg (foldE args[j]).d)):=λj hj=>ih _ (Zak hx _ (Yah hj));have e:foldE (.mk k n of s args)=if k=5 then ZcA n of s ((Zag args).getD 0 noE) ((Zag args).getD 1 noE) (Zag args) else .mk k n of s (Zag args):=by rw[Barb.foldE]
  generalize foldE (.mk k n of s args)=out at e;have lx:(args.map Expr.g).length=args.length:=Yab _;refine ZqM [10,11] hT hF hM Tryz.func72 rfl 118 rfl (by kernel_rfl) [.cell 2 132] rfl [.agg (Expr.d (.mk k n of s args))] rfl _ ?_;refine ZaL (ι:=Nat) (λj=>[(1,.ptr 0 0),(2,.ptr 1 0),(3,.ptr 2 0),(16,.g (.int (j:Int)))]) (λj=>[.blk [.g (.int k),.g (.int n),.g (.str of),.g (.str s),.g (.sl 5 (args.map Expr.g))] 132,.blk [.g (.int 0),.g (.int 0),.g (.str []),.g (.str []),.nils] 132,.blk [.g (.int k),.g (.int n),.g (.str of),.g (.str s),.row 3] 132,.row ((Zag (args.take j)).map Expr.g) 132 5])
   (λj=>j<=args.length) (λj=>args.length - j)
   ⟨0,[.old 0,.old 1,.old 2,.nil 132 5],⟨rfl,.inr ⟨⟨rfl,.inl rfl⟩,⟨rfl,.inl rfl⟩,⟨rfl,.inr ⟨lk rfl,lk rfl,lk rfl,lk rfl,.inr rfl,trivial⟩⟩,⟨rfl,rfl,rfl⟩,trivial⟩,.inr ⟨lk rfl,lk rfl,lk rfl,lk rfl,trivial⟩,rfl⟩,Yau _⟩ ?_
  intro Rd hRd j hj;refine ⟨λhlt=>?_,λhge=>?_⟩
  ·have hjl:j < args.length:=by have:(j:Int) < ((args.map Expr.g).length:Nat):=hlt;omega
   have hnext:Zag (args.take (j+1))=Zag (args.take j)++[foldE args[j]]:=by rw[ZbV,ZbV,Zay hjl,Yai];rfl
   have hll:(Zag (args.take j)).length<=4:=by rw[Zcy,Yan];omega
   have hc:=iha j hjl;generalize Zag (args.take j)=row at hnext hll;generalize foldE args[j]=y at hc hnext;refine ⟨j,_,rfl,(gm hjl).trans (congrArg some (Expr.g_eq _)),?_⟩;refine ⟨some 2000,rfl,?_⟩;refine ⟨_,_,.inl rfl,hc,rfl,?_⟩;refine ⟨[gX y],rfl,rfl,⟨rfl,rfl,rfl,rfl,rfl,trivial⟩,⟨_,rfl⟩,?_⟩;refine ⟨⟨by simp[maxLen];omega,by simp;omega⟩,?_⟩;refine ⟨_,I64.wrap (by unfold I64;omega),?_⟩;exact hRd _ _ _ ⟨j+1,[.old 0,.old 1,.old 2,.old 6],⟨rfl,.inr ⟨⟨rfl,.inl rfl⟩,⟨rfl,.inl rfl⟩,⟨rfl,.inl rfl⟩,⟨by rw[hnext,Yai,List.map_singleton,ZlW],rfl,rfl⟩,trivial⟩,.inr ⟨lk rfl,lk rfl,lk rfl,lkI (by push_cast;rfl),trivial⟩,rfl⟩,hjl,by show args.length - (j+1) < args.length - j;omega⟩
  have hje:j=args.length:=by have:¬(j:Int) < ((args.map Expr.g).length:Nat):=hge;omega
  have htl:Zag (args.take j)=Zag args:=by rw[hje,YaE]
  refine ⟨λh5=>?_,λh5=>?_⟩
  ·rw[if_neg h5] at e;exact ⟨rfl,Ztk e rfl (by rw[htl])⟩
  rw[if_pos h5] at e;have h2:args.length=2:=by have:=Yam.1 hok;unfold Zbp at this;omega
  have hfl:(Zag args).length=2:=by rw[Zcy];exact h2
  obtain ⟨a,b,hab⟩:∃a b,Zag args=[a,b]:=by
   match h:Zag args,hfl with
   | [a,b],_=>exact ⟨a,b,rfl⟩
  rw[hab] at e htl;have e:out=ZcA n of s a b [a,b]:=e;have g0:((Zag (args.take j)).map Expr.g)[0]?=some (gX a):=by rw[htl,ZlW];rfl
  have g1:((Zag (args.take j)).map Expr.g)[1]?=some (gX b):=by rw[htl,ZlW];rfl
  have gl2:((Zag (args.take j)).map Expr.g).length=2:=by rw[htl];rfl
  refine ZBM (Zcu [.old 0,.old 1,.old 2] [(1,.ptr 0 0),(2,.ptr 1 0),(3,.ptr 2 0)] [.blk [.g (.int k),.g (.int n),.g (.str of),.g (.str s),.g (.sl 5 (args.map Expr.g))] 132,.blk [.g (.int 0),.g (.int 0),.g (.str []),.g (.str []),.nils] 132,.blk [.g (.int k),.g (.int n),.g (.str of),.g (.str s),.g (.sl 5 ((Zag (args.take j)).map Expr.g))] 132] ⟨rfl,.inl rfl,.inl rfl,rfl⟩ ?_);refine Zcu [.old 0,.old 1] [(1,.ptr 0 0),(2,.ptr 1 0),(3,.fp [.int k,.int n,.str of,.str s,.sl 5 ((Zag (args.take j)).map Expr.g)] 0)] [.blk [.g (.int k),.g (.int n),.g (.str of),.g (.str s),.g (.sl 5 (args.map Expr.g))] 132,.blk [.g (.int 0),.g (.int 0),.g (.str []),.g (.str []),.nils] 132] ⟨rfl,.inl rfl,.inl rfl,rfl⟩ ?_;refine ZAJ (by rfl) (by rfl) (ι:=Bool) (κ:=Bool) (λo=>match o with
    | true=>[(1,.ptr 0 0),(2,.ptr 1 0),(3,.fp [.int k,.int n,.str of,.str s,.sl 5 ((Zag (args.take j)).map Expr.g)] 0),(6,.ptr 2 0),(7,.ptr 3 0)]
    | false=>[(1,.ptr 0 0),(2,.ptr 1 0),(3,.fp [.int k,.int n,.str of,.str s,.sl 5 ((Zag (args.take j)).map Expr.g)] 0),(6,.ptr 3 0),(7,.ptr 2 0)])
   (λo=>match o with
    | true=>[.blk [.g (.int k),.g (.int n),.g (.str of),.g (.str s),.g (.sl 5 (args.map Expr.g))] 132,.blk [.g (.int 0),.g (.int 0),.g (.str []),.g (.str []),.nils] 132,.blk a.d 132,.blk b.d 132]
    | false=>[.blk [.g (.int k),.g (.int n),.g (.str of),.g (.str s),.g (.sl 5 (args.map Expr.g))] 132,.blk [.g (.int 0),.g (.int 0),.g (.str []),.g (.str []),.nils] 132,.blk b.d 132,.blk a.d 132]) (λ_=>True)
   (λi=>[(1,.ptr 0 0),(2,.ptr 1 0),(3,.fp [.int k,.int n,.str of,.str s,.sl 5 ((Zag (args.take j)).map Expr.g)] 0),(6,.ptr 2 0),(7,.ptr 3 0),(8,bD i (b.n=0))])
   (λ_=>[.blk [.g (.int k),.g (.int n),.g (.str of),.g (.str s),.g (.sl 5 (args.map Expr.g))] 132,.blk [.g (.int 0),.g (.int 0),.g (.str []),.g (.str []),.nils] 132,.blk a.d 132,.blk b.d 132])
   (λi=>(i=true/\b.k=1)\/(i=false/\¬b.k=1)) (λRd hRd=>?_) (λRj hRj e0 o _=>?_) (λe0 i hz=>?_)
  ·exact ⟨some 105000,8,rfl,⟨rfl,0,_,rfl,g0,1,_,rfl,g1,hRd true _ ⟨rfl,rfl,rfl,rfl,rfl,trivial⟩ trivial⟩,⟨rfl,0,_,rfl,g0,1,_,rfl,g1,hRd false _ ⟨rfl,rfl,rfl,rfl,rfl,trivial⟩ trivial⟩⟩
  ·cases o with
   | true =>refine Zcu [.old 0,.old 1,.old 2,.old 3] [(1,.ptr 0 0),(2,.ptr 1 0),(3,.fp [.int k,.int n,.str of,.str s,.sl 5 ((Zag (args.take j)).map Expr.g)] 0),(6,.ptr 2 0),(7,.ptr 3 0)] [.blk [.g (.int k),.g (.int n),.g (.str of),.g (.str s),.g (.sl 5 (args.map Expr.g))] 132,.blk [.g (.int 0),.g (.int 0),.g (.str []),.g (.str []),.nils] 132,.blk a.d 132,.blk b.d 132] ⟨rfl,.inl rfl,.inl rfl,rfl⟩ ?_;exact ⟨λz1=>hRj true _ ⟨rfl,rfl,rfl,rfl,rfl,rfl,trivial⟩ (.inl ⟨rfl,z1⟩),λz1=>hRj false _ ⟨rfl,rfl,rfl,rfl,rfl,rfl,trivial⟩ (.inr ⟨rfl,z1⟩)⟩
   | false =>refine Zcu [.old 0,.old 1,.old 3,.old 2] [(1,.ptr 0 0),(2,.ptr 1 0),(3,.fp [.int k,.int n,.str of,.str s,.sl 5 ((Zag (args.take j)).map Expr.g)] 0),(6,.ptr 2 0),(7,.ptr 3 0)] [.blk [.g (.int k),.g (.int n),.g (.str of),.g (.str s),.g (.sl 5 (args.map Expr.g))] 132,.blk [.g (.int 0),.g (.int 0),.g (.str []),.g (.str []),.nils] 132,.blk a.d 132,.blk b.d 132] ⟨rfl,.inl rfl,.inl rfl,rfl⟩ ?_;exact ⟨λz1=>hRj true _ ⟨rfl,rfl,rfl,rfl,rfl,rfl,trivial⟩ (.inl ⟨rfl,z1⟩),λz1=>hRj false _ ⟨rfl,rfl,rfl,rfl,rfl,rfl,trivial⟩ (.inr ⟨rfl,z1⟩)⟩
  refine ZoA (by rfl) ?_;refine ZAK (by rfl) (ι:=Bool) (λc=>[(1,.ptr 0 0),(2,.ptr 1 0),(3,.fp [.int k,.int n,.str of,.str s,.sl 5 ((Zag (args.take j)).map Expr.g)] 0),(6,.ptr 2 0),(7,.ptr 3 0),(8,bD i (b.n=0)),(48,bD c (b.k=1))])
   (λ_=>[.blk [.g (.int k),.g (.int n),.g (.str of),.g (.str s),.g (.sl 5 (args.map Expr.g))] 132,.blk [.g (.int 0),.g (.int 0),.g (.str []),.g (.str []),.nils] 132,.blk a.d 132,.blk b.d 132])
   (λc=>(c=true/\a.k=1)\/(c=false/\¬a.k=1)) (λe1 c hc=>?_) (λRc hRc=>?_)
  rotate_left
  ·exact ⟨λz1=>hRc true _ ⟨rfl,rfl,rfl,rfl,rfl,rfl,rfl,trivial⟩ (.inl ⟨rfl,z1⟩),λz1=>hRc false _ ⟨rfl,rfl,rfl,rfl,rfl,rfl,rfl,trivial⟩ (.inr ⟨rfl,z1⟩)⟩
  have two:a.k=1->b.k=1->out=.mk 1 (doI n a.n b.n) [] [] []:=λha hb=>e.trans (by unfold ZcA;rw[if_pos ⟨ha,hb⟩]);rcases hc with ⟨rfl,ha⟩ | ⟨rfl,ha⟩
  ·refine ⟨λhb1=>Zae (.inl rfl) (Zvc n a.n b.n) ⟨rfl,ZoN (two ha hb1)⟩,λhb1=>?_⟩;have hab1:¬(a.k=1/\b.k=1):=λh=>hb1 h.2;rcases hz with ⟨rfl,hz⟩ | ⟨rfl,hz⟩
   ·exact absurd hz hb1
   exact ⟨λy1=>⟨λy2=>⟨λy3=>⟨rfl,Zf8 (e.trans (by unfold ZcA;rw[if_neg hab1,if_neg (λh=>hb1 h.1.1),if_pos ⟨y1,y2,y3⟩]))⟩,λy3=>⟨rfl,Zih (e.trans (by unfold ZcA;rw[if_neg hab1,if_neg (λh=>hb1 h.1.1),if_neg (λh=>by omega),h5])) (by rw[htl])⟩⟩,λy2=>⟨rfl,Zih (e.trans (by unfold ZcA;rw[if_neg hab1,if_neg (λh=>hb1 h.1.1),if_neg (λh=>by omega),h5])) (by rw[htl])⟩⟩,λy1=>⟨rfl,Zih (e.trans (by unfold ZcA;rw[if_neg hab1,if_neg (λh=>hb1 h.1.1),if_neg (λh=>by omega),h5])) (by rw[htl])⟩⟩
  have hab1:¬(a.k=1/\b.k=1):=λh=>ha h.1;rcases hz with ⟨rfl,hz⟩ | ⟨rfl,hz⟩
  rotate_left
  ·exact ⟨λy1=>⟨λy2=>⟨λy3=>⟨rfl,Zf8 (e.trans (by unfold ZcA;rw[if_neg hab1,if_neg (λh=>hz h.1.1),if_pos ⟨y1,y2,y3⟩]))⟩,λy3=>⟨rfl,Zih (e.trans (by unfold ZcA;rw[if_neg hab1,if_neg (λh=>hz h.1.1),if_neg (λh=>by omega),h5])) (by rw[htl])⟩⟩,λy2=>⟨rfl,Zih (e.trans (by unfold ZcA;rw[if_neg hab1,if_neg (λh=>hz h.1.1),if_neg (λh=>by omega),h5])) (by rw[htl])⟩⟩,λy1=>⟨rfl,Zih (e.trans (by unfold ZcA;rw[if_neg hab1,if_neg (λh=>hz h.1.1),if_neg (λh=>by omega),h5])) (by rw[htl])⟩⟩
  refine ⟨λb0=>?_,λb0=>?_⟩
  rotate_left
  ·exact ⟨λy1=>⟨λy2=>⟨λy3=>⟨rfl,Zf8 (e.trans (by unfold ZcA;rw[if_neg hab1,if_neg (λh=>b0 h.1.2),if_pos ⟨y1,y2,y3⟩]))⟩,λy3=>⟨rfl,Zih (e.trans (by unfold ZcA;rw[if_neg hab1,if_neg (λh=>b0 h.1.2),if_neg (λh=>by omega),h5])) (by rw[htl])⟩⟩,λy2=>⟨rfl,Zih (e.trans (by unfold ZcA;rw[if_neg hab1,if_neg (λh=>b0 h.1.2),if_neg (λh=>by omega),h5])) (by rw[htl])⟩⟩,λy1=>⟨rfl,Zih (e.trans (by unfold ZcA;rw[if_neg hab1,if_neg (λh=>b0 h.1.2),if_neg (λh=>by omega),h5])) (by rw[htl])⟩⟩
  have zr:ZgF n->out=a:=λh=>e.trans (by unfold ZcA;rw[if_neg hab1,if_pos ⟨⟨hz,b0⟩,h⟩]);refine ⟨λz1=>⟨rfl,Zf8 (zr (.inl z1))⟩,λz1=>⟨λz2=>⟨rfl,Zf8 (zr (.inr (.inl z2)))⟩,λz2=>⟨λz3=>⟨rfl,Zf8 (zr (.inr (.inr (.inl z3))))⟩,λz3=>⟨λz4=>⟨rfl,Zf8 (zr (.inr (.inr (.inr (.inl z4)))))⟩,λz4=>⟨λz5=>⟨rfl,Zf8 (zr (.inr (.inr (.inr (.inr (.inl z5))))))⟩,λz5=>⟨λz6=>⟨rfl,Zf8 (zr (.inr (.inr (.inr (.inr (.inr z6))))))⟩,λz6=>?_⟩⟩⟩⟩⟩⟩;have hz0:¬ZgF n:=by unfold ZgF;omega
  exact ⟨λy1=>⟨λy2=>⟨λy3=>⟨rfl,Zf8 (e.trans (by unfold ZcA;rw[if_neg hab1,if_neg (λh=>hz0 h.2),if_pos ⟨y1,y2,y3⟩]))⟩,λy3=>⟨rfl,Zih (e.trans (by unfold ZcA;rw[if_neg hab1,if_neg (λh=>hz0 h.2),if_neg (λh=>by omega),h5])) (by rw[htl])⟩⟩,λy2=>⟨rfl,Zih (e.trans (by unfold ZcA;rw[if_neg hab1,if_neg (λh=>hz0 h.2),if_neg (λh=>by omega),h5])) (by rw[htl])⟩⟩,λy1=>⟨rfl,Zih (e.trans (by unfold ZcA;rw[if_neg hab1,if_neg (λh=>hz0 h.2),if_neg (λh=>by omega),h5])) (by rw[htl])⟩⟩
end ZN
namespace Barb
open Go Go.Dm Go.Eng ZN
theorem ZlZ (x:Stmt):ZjD x=ZeL x.k x.s (Zag x.xs) (foldSs x.b) (foldSs x.e):=by obtain ⟨k,s,xs,b,e⟩:=x;rw[ZjD];rfl
theorem Zgq (x:Stmt) (l:List Stmt):foldSs (x :: l)=ZjD x++if x.k=5 then [] else foldSs l:=by obtain ⟨k,s,xs,b,e⟩:=x;rw[foldSs];rfl
theorem Zeq:foldSs []=[]:=by rw[foldSs]
theorem Zum (k:Int) (s:Str) (xs:List Expr) (b e:List Stmt):(ZeL k s xs b e).length<=1+b.length+e.length:=by
 unfold ZeL;dsimp only;split
 ·omega
 ·split
  ·omega
  ·split
   ·simp
   ·simp only[List.length_cons,List.length_nil];omega
theorem ZhI:∀(n:Nat) (l:List Stmt),Zan n l=0->((foldSs l).length:Int)<=Zam n l
 | 0,_,h=>by rw[Zan] at h;exact absurd h (by decide)
 | n+1,l,h=>by
  rw[Zan] at h;have e:=Zak h;clear h
  induction l with
  | nil=>rw[Zca,Zeq];simp
  | cons x l il =>
   obtain ⟨_,_,_,hbE,heE⟩:=Zb3 (e x Yac);have h1:=ZhI n x.b hbE;have h2:=ZhI n x.e heE;have h3:=il (λy hy=>e y (Yad _ hy));have h4:=Zum x.k x.s (Zag x.xs) (foldSs x.b) (foldSs x.e);have h5:=Zbh (n+1) l;rw[Zbq,Zgq,ZlZ,Yae];push_cast;split
   ·simp only[List.length_nil];omega
   ·omega
theorem Zkt {n:Nat}:∀{l:List Stmt} {x:Stmt},x∈l->Zam n x.b+Zam n x.e<=Zam (n+1) l
 | [],_,h=>by simp at h
 | y :: l,x,h=>by
  rw[Zbq];have p1:=Zbh n y.b;have p2:=Zbh n y.e;have p3:=Zbh (n+1) l;rcases Yav.1 h with rfl | h
  ·omega
  ·have:=Zkt (n:=n) h;omega
end Barb
namespace ZN
open Go Go.Dm Go.Eng Go.RowKit Barb
theorem Zjk {h:Zad} {i:Nat} {l m:List Barb.Stmt} {t:TypeId} (hi:h[i]?=some (.row (l.map Stmt.g) t 5)) (e:l=m):Zbk (Is (.g (.sl 5 (m.map Stmt.g)))) h (.row i):=by subst e;exact Zbl (.inl (by simp only[conv,kp,hi]))
set_option maxRecDepth 20000 in
set_option maxHeartbeats 8000000 in
theorem Zr1:∀(n:Nat) (l:List Barb.Stmt),Zan n l=0->Zam n l<=300->CT Tryz.prog gl 58 [.g (.sl 5 (l.map Stmt.g))] (Is (.g (.sl 5 ((Barb.foldSs l).map Stmt.g)))):=by
 intro n
 induction n with
 | zero=>intro l hl;exact absurd hl (by unfold Zan;decide)
 | succ n ih =>
  intro l hE hN;have ll:(l.map Stmt.g).length=l.length:=Yab _;have hlen:=ZhI (n+1) l hE;have hl300:=(ZiC (n+1) l hE hN).1;rw[Zan] at hE;refine enter hT hF hM Tryz.func58 rfl 101 rfl (by kernel_rfl) [.tmp 2] rfl [.g (.sl 5 (l.map Stmt.g))] rfl _ ?_;refine ZaL (ι:=Nat × List Barb.Stmt) (λi=>[(3,.row 0),(10,.g (.sl 5 (l.map Stmt.g))),(11,.g (.int (l.map Stmt.g).length)),(12,.g (.int (i.1:Int)))]) (λi=>[.row (i.2.map Stmt.g) 135 5])
   (λi=>i.1<=l.length/\Barb.foldSs l=i.2++Barb.foldSs (l.drop i.1)) (λi=>l.length - i.1)
   ⟨(0,[]),[.nil 135 5],⟨rfl,.inl rfl,.inr ⟨.inr rfl,lk rfl,lk rfl,lk rfl,trivial⟩,rfl⟩,Yau _,by simp⟩ ?_
  rintro Rd hRd ⟨i,out⟩ ⟨hi,hout⟩;dsimp only at hi hout;have hol:out.length<=300:=by have:=congrArg List.length hout;rw[Yae] at this;omega
  refine ⟨λc1=>?_,λc1=>?_⟩
  rotate_left
  ·have hie:i=l.length:=by have:¬(i:Int) < ((l.map Stmt.g).length:Nat):=c1;omega
   rw[hie,Yce,Zeq,YaF] at hout;exact ⟨rfl,Zjk rfl hout.symm⟩
  have hil:i < l.length:=by have:(i:Int) < ((l.map Stmt.g).length:Nat):=c1;omega
  have hmem:l[i]∈l:=Yah hil;obtain ⟨hk,hok,hxE,hbE,heE⟩:=Zb3 (Zak hE _ hmem);have hNN:=Zkt (n:=n) hmem;have p1:=Zbh n l[i].b;have p2:=Zbh n l[i].e;have cb:=ih l[i].b hbE (by omega);have ce:=ih l[i].e heE (by omega);rw[Ybh hil,Zgq,ZlZ] at hout;unfold Zdr at hok;have g0:=Stmt.g_eq l[i];generalize hy:l[i]=y at *;have lx:(y.xs.map Expr.g).length=y.xs.length:=Yab _;refine ⟨i,_,rfl,(gm hil).trans (congrArg some ((congrArg Stmt.g hy).trans g0)),?_⟩;refine ZaL (ι:=Nat) (λj=>[(3,.row 0),(5,.ptr 1 0),(6,.ptr 2 0),(10,.g (.sl 5 (l.map Stmt.g))),(11,.g (.int (l.map Stmt.g).length)),(12,.g (.int (i:Int))),(19,.g (.sl 5 (y.xs.map Expr.g))),(20,.g (.int (y.xs.map Expr.g).length)),(21,.g (.int (j:Int)))])
   (λj=>[.row (out.map Stmt.g) 135 5,.blk y.d 135,.blk [.g (.int y.k),.g (.str y.s),.row 3,.g (.sl 5 (y.b.map Stmt.g)),.g (.sl 5 (y.e.map Stmt.g))] 135,.row ((Zag (y.xs.take j)).map Expr.g) 132 5])
   (λj=>j<=y.xs.length) (λj=>y.xs.length - j)
   ⟨0,[.old 0,.old 1,.old 2,.nil 132 5],⟨rfl,.inr ⟨⟨rfl,rfl,rfl⟩,⟨rfl,.inl rfl⟩,⟨rfl,.inr ⟨lk rfl,lk rfl,.inr rfl,lk rfl,lk rfl,trivial⟩⟩,⟨rfl,rfl,rfl⟩,trivial⟩,.inr ⟨lk rfl,lk rfl,lk rfl,lk rfl,lk rfl,lk rfl,lk rfl,lk rfl,lk rfl,trivial⟩,rfl⟩,Yau _⟩ ?_
  intro Rj hRj j hj;refine ⟨λd1=>?_,λd1=>?_⟩
  ·have hjl:j < y.xs.length:=by have:(j:Int) < ((y.xs.map Expr.g).length:Nat):=d1;omega
   have hnext:Zag (y.xs.take (j+1))=Zag (y.xs.take j)++[Barb.foldE y.xs[j]]:=by rw[ZbV,ZbV,Zay hjl,Yai];rfl
   have hll:(Zag (y.xs.take j)).length<=2:=by rw[Zcy,Yan];omega
   have hc:=Zun 12 y.xs[j] (hxE _ (Yah hjl));generalize Zag (y.xs.take j)=row at hnext hll;generalize Barb.foldE y.xs[j]=z at hc hnext;refine ⟨j,_,rfl,(gm hjl).trans (congrArg some (Expr.g_eq _)),?_⟩;refine ⟨some 2000,rfl,?_⟩;refine ⟨_,_,.inl rfl,hc,rfl,?_⟩;refine ⟨[gX z],rfl,rfl,⟨rfl,rfl,rfl,rfl,rfl,trivial⟩,⟨_,rfl⟩,?_⟩;refine ⟨⟨by simp[maxLen];omega,by simp;omega⟩,?_⟩;refine ⟨_,I64.wrap (by unfold I64;omega),?_⟩;exact hRj _ _ _ ⟨j+1,[.old 0,.old 1,.old 2,.old 6],⟨rfl,.inr ⟨⟨rfl,rfl,rfl⟩,⟨rfl,.inl rfl⟩,⟨rfl,.inl rfl⟩,⟨by rw[hnext,Yai,List.map_singleton,ZlW],rfl,rfl⟩,trivial⟩,.inr ⟨lk rfl,lk rfl,lk rfl,lk rfl,lk rfl,lk rfl,lk rfl,lk rfl,lkI (by push_cast;rfl),trivial⟩,rfl⟩,hjl,by show y.xs.length - (j+1) < y.xs.length - j;omega⟩
  have hje:j=y.xs.length:=by have:¬(j:Int) < ((y.xs.map Expr.g).length:Nat):=d1;omega
  subst hje;rw[YaE];refine ⟨none,rfl,?_⟩;refine ⟨_,_,.inl rfl,cb,rfl,?_⟩;refine ⟨_,_,.inl rfl,ce,rfl,?_⟩;have hx0:0 < (Zag y.xs).length:=by rw[Zcy];omega
  have hxd:(Zag y.xs).getD 0 noE=(Zag y.xs)[0]:=by simp[hx0]
  have hlr:((Zag y.xs).map Expr.g).length=(Zag y.xs).length:=Yab _;refine ⟨0,rfl,(by rw[hlr];exact hx0),?_⟩;refine ⟨_,(gm hx0).trans (congrArg some (Expr.g_eq _)),?_⟩;have stay:∀new:List Barb.Stmt,¬y.k=5->ZeL y.k y.s (Zag y.xs) (Barb.foldSs y.b) (Barb.foldSs y.e)=new->Barb.foldSs l=(out++new)++Barb.foldSs (l.drop (i+1)):=λnew h5 hn=>by rw[hout,if_neg h5,hn,Yas]
  have halt:∀new:List Barb.Stmt,y.k=5->ZeL y.k y.s (Zag y.xs) (Barb.foldSs y.b) (Barb.foldSs y.e)=new->out++new=Barb.foldSs l:=λnew h5 hn=>by rw[hout,if_pos h5,hn,YaF]
  have hroom:(ZeL y.k y.s (Zag y.xs) (Barb.foldSs y.b) (Barb.foldSs y.e)).length+out.length<=300:=by have:=congrArg List.length hout;rw[Yae,Yae] at this;omega
  have cA:y.k=3->(Zag y.xs)[0].k=1->¬(Zag y.xs)[0].n=0->ZeL y.k y.s (Zag y.xs) (Barb.foldSs y.b) (Barb.foldSs y.e)=Barb.foldSs y.b:=λa b c=>by unfold ZeL;dsimp only;rw[hxd,if_pos ⟨a,b,c⟩]
  have cB:y.k=3->(Zag y.xs)[0].k=1->(Zag y.xs)[0].n=0->ZeL y.k y.s (Zag y.xs) (Barb.foldSs y.b) (Barb.foldSs y.e)=Barb.foldSs y.e:=λa b c=>by unfold ZeL;dsimp only;rw[hxd,if_neg (λh=>h.2.2 c),if_pos ⟨a,b⟩]
  have cC:y.k=4->(Zag y.xs)[0].k=1->(Zag y.xs)[0].n=0->ZeL y.k y.s (Zag y.xs) (Barb.foldSs y.b) (Barb.foldSs y.e)=[]:=λa b c=>by unfold ZeL;dsimp only;rw[hxd,if_neg (λh=>by omega),if_neg (λh=>by omega),if_pos ⟨a,b,c⟩]
  have cD:¬(y.k=3/\(Zag y.xs)[0].k=1)->¬(y.k=4/\(Zag y.xs)[0].k=1/\(Zag y.xs)[0].n=0)->ZeL y.k y.s (Zag y.xs) (Barb.foldSs y.b) (Barb.foldSs y.e)=[.mk y.k y.s (Zag y.xs) (Barb.foldSs y.b) (Barb.foldSs y.e)]:=λa b=>by unfold ZeL;dsimp only;rw[hxd,if_neg (λh=>a ⟨h.1,h.2.1⟩),if_neg a,if_neg b]
  generalize hH:ZeL y.k y.s (Zag y.xs) (Barb.foldSs y.b) (Barb.foldSs y.e)=H at *;generalize Barb.foldSs y.b=bl at *;generalize Barb.foldSs y.e=el at *;refine ⟨λk3=>⟨λx1=>?_,λx1=>?_⟩,λk3=>?_⟩
  ·have hk5:¬y.k=5:=by omega
   refine ⟨0,rfl,(by rw[hlr];exact hx0),_,(gm hx0).trans (congrArg some (Expr.g_eq _)),λx2=>?_,λx2=>?_⟩
   ·have HF:=cA k3 x1 x2;rw[HF] at hroom;refine ⟨⟨by simp only[maxLen,Yab];omega,by simp only[Yab];omega⟩,?_⟩;refine ⟨λh=>absurd h hk5,λ_=>?_⟩;exact ⟨_,I64.wrap (by unfold I64;omega),hRd _ _ _ ⟨(i+1,out++bl),[.old 4],⟨rfl,.inr ⟨⟨(by rw[Yai]),rfl,rfl⟩,trivial⟩,.inr ⟨lk rfl,lk rfl,lk rfl,lkI (by push_cast;rfl),trivial⟩,rfl⟩,⟨hil,stay _ hk5 HF⟩,by show l.length - (i+1) < l.length - i;omega⟩⟩
   ·have HF:=cB k3 x1 x2;rw[HF] at hroom;refine ⟨λ_=>⟨λ_=>?_,λh=>absurd x1 h⟩,λh=>absurd k3 h⟩;refine ⟨⟨by simp only[maxLen,Yab];omega,by simp only[Yab];omega⟩,?_⟩;refine ⟨λh=>absurd h hk5,λ_=>?_⟩;exact ⟨_,I64.wrap (by unfold I64;omega),hRd _ _ _ ⟨(i+1,out++el),[.old 4],⟨rfl,.inr ⟨⟨(by rw[Yai]),rfl,rfl⟩,trivial⟩,.inr ⟨lk rfl,lk rfl,lk rfl,lkI (by push_cast;rfl),trivial⟩,rfl⟩,⟨hil,stay _ hk5 HF⟩,by show l.length - (i+1) < l.length - i;omega⟩⟩
  ·refine ⟨λ_=>⟨λh=>absurd h x1,λ_=>?_⟩,λh=>absurd k3 h⟩;refine ⟨λh=>absurd h (by omega),λ_=>?_⟩;have HF:=cD (λh=>x1 h.2) (λh=>x1 h.2.1);rw[HF] at hroom;simp only[List.length_cons,List.length_nil] at hroom;refine ⟨[[.int y.k,.str y.s,.sl 5 ((Zag y.xs).map Expr.g),.sl 5 (bl.map Stmt.g),.sl 5 (el.map Stmt.g)]],rfl,rfl,⟨rfl,rfl,Zbr rfl rfl,rfl,rfl,trivial⟩,?_⟩;refine ⟨⟨by simp[maxLen];omega,by simp;omega⟩,?_⟩;refine ⟨λhk5=>⟨rfl,Zjk (l:=out++[.mk y.k y.s (Zag y.xs) bl el]) (congrArg (λz=>some (Obj.row z 135 5)) (by rw[Yai];exact congrArg (λz=>out.map Stmt.g++[z]) (Stmt.g_eq (.mk y.k y.s (Zag y.xs) bl el)).symm)) (halt _ hk5 HF)⟩,λhk5=>?_⟩;exact ⟨_,I64.wrap (by unfold I64;omega),hRd _ _ _ ⟨(i+1,out++[.mk y.k y.s (Zag y.xs) bl el]),[.old 5],⟨rfl,.inr ⟨⟨(by rw[Yai];exact congrArg (λz=>out.map Stmt.g++[z]) (Stmt.g_eq (.mk y.k y.s (Zag y.xs) bl el)).symm),rfl,rfl⟩,trivial⟩,.inr ⟨lk rfl,lk rfl,lk rfl,lkI (by push_cast;rfl),trivial⟩,rfl⟩,⟨hil,stay _ hk5 HF⟩,by show l.length - (i+1) < l.length - i;omega⟩⟩
  ·refine ⟨λh=>absurd h k3,λ_=>?_⟩;refine ⟨λk4=>⟨λx1=>?_,λx1=>?_⟩,λk4=>?_⟩
   ·refine ⟨0,rfl,(by rw[hlr];exact hx0),_,(gm hx0).trans (congrArg some (Expr.g_eq _)),λx2=>?_,λx2=>?_⟩
    ·have hk5:¬y.k=5:=by omega
     have HF:=cC k4 x1 x2;refine ⟨λh=>absurd h hk5,λ_=>?_⟩;exact ⟨_,I64.wrap (by unfold I64;omega),hRd _ _ _ ⟨(i+1,out++[]),[.old 0],⟨rfl,.inr ⟨⟨(by rw[YaF]),rfl,rfl⟩,trivial⟩,.inr ⟨lk rfl,lk rfl,lk rfl,lkI (by push_cast;rfl),trivial⟩,rfl⟩,⟨hil,stay _ hk5 HF⟩,by show l.length - (i+1) < l.length - i;omega⟩⟩
    ·skip
     have HF:=cD (λh=>k3 h.1) (λh=>x2 h.2.2);rw[HF] at hroom;simp only[List.length_cons,List.length_nil] at hroom;refine ⟨[[.int y.k,.str y.s,.sl 5 ((Zag y.xs).map Expr.g),.sl 5 (bl.map Stmt.g),.sl 5 (el.map Stmt.g)]],rfl,rfl,⟨rfl,rfl,Zbr rfl rfl,rfl,rfl,trivial⟩,?_⟩;refine ⟨⟨by simp[maxLen];omega,by simp;omega⟩,?_⟩;refine ⟨λhk5=>⟨rfl,Zjk (l:=out++[.mk y.k y.s (Zag y.xs) bl el]) (congrArg (λz=>some (Obj.row z 135 5)) (by rw[Yai];exact congrArg (λz=>out.map Stmt.g++[z]) (Stmt.g_eq (.mk y.k y.s (Zag y.xs) bl el)).symm)) (halt _ hk5 HF)⟩,λhk5=>?_⟩;exact ⟨_,I64.wrap (by unfold I64;omega),hRd _ _ _ ⟨(i+1,out++[.mk y.k y.s (Zag y.xs) bl el]),[.old 5],⟨rfl,.inr ⟨⟨(by rw[Yai];exact congrArg (λz=>out.map Stmt.g++[z]) (Stmt.g_eq (.mk y.k y.s (Zag y.xs) bl el)).symm),rfl,rfl⟩,trivial⟩,.inr ⟨lk rfl,lk rfl,lk rfl,lkI (by push_cast;rfl),trivial⟩,rfl⟩,⟨hil,stay _ hk5 HF⟩,by show l.length - (i+1) < l.length - i;omega⟩⟩
   ·skip
    have HF:=cD (λh=>k3 h.1) (λh=>x1 h.2.1);rw[HF] at hroom;simp only[List.length_cons,List.length_nil] at hroom;refine ⟨[[.int y.k,.str y.s,.sl 5 ((Zag y.xs).map Expr.g),.sl 5 (bl.map Stmt.g),.sl 5 (el.map Stmt.g)]],rfl,rfl,⟨rfl,rfl,Zbr rfl rfl,rfl,rfl,trivial⟩,?_⟩;refine ⟨⟨by simp[maxLen];omega,by simp;omega⟩,?_⟩;refine ⟨λhk5=>⟨rfl,Zjk (l:=out++[.mk y.k y.s (Zag y.xs) bl el]) (congrArg (λz=>some (Obj.row z 135 5)) (by rw[Yai];exact congrArg (λz=>out.map Stmt.g++[z]) (Stmt.g_eq (.mk y.k y.s (Zag y.xs) bl el)).symm)) (halt _ hk5 HF)⟩,λhk5=>?_⟩;exact ⟨_,I64.wrap (by unfold I64;omega),hRd _ _ _ ⟨(i+1,out++[.mk y.k y.s (Zag y.xs) bl el]),[.old 5],⟨rfl,.inr ⟨⟨(by rw[Yai];exact congrArg (λz=>out.map Stmt.g++[z]) (Stmt.g_eq (.mk y.k y.s (Zag y.xs) bl el)).symm),rfl,rfl⟩,trivial⟩,.inr ⟨lk rfl,lk rfl,lk rfl,lkI (by push_cast;rfl),trivial⟩,rfl⟩,⟨hil,stay _ hk5 HF⟩,by show l.length - (i+1) < l.length - i;omega⟩⟩
   ·skip
    have HF:=cD (λh=>k3 h.1) (λh=>k4 h.1);rw[HF] at hroom;simp only[List.length_cons,List.length_nil] at hroom;refine ⟨[[.int y.k,.str y.s,.sl 5 ((Zag y.xs).map Expr.g),.sl 5 (bl.map Stmt.g),.sl 5 (el.map Stmt.g)]],rfl,rfl,⟨rfl,rfl,Zbr rfl rfl,rfl,rfl,trivial⟩,?_⟩;refine ⟨⟨by simp[maxLen];omega,by simp;omega⟩,?_⟩;refine ⟨λhk5=>⟨rfl,Zjk (l:=out++[.mk y.k y.s (Zag y.xs) bl el]) (congrArg (λz=>some (Obj.row z 135 5)) (by rw[Yai];exact congrArg (λz=>out.map Stmt.g++[z]) (Stmt.g_eq (.mk y.k y.s (Zag y.xs) bl el)).symm)) (halt _ hk5 HF)⟩,λhk5=>?_⟩;exact ⟨_,I64.wrap (by unfold I64;omega),hRd _ _ _ ⟨(i+1,out++[.mk y.k y.s (Zag y.xs) bl el]),[.old 5],⟨rfl,.inr ⟨⟨(by rw[Yai];exact congrArg (λz=>out.map Stmt.g++[z]) (Stmt.g_eq (.mk y.k y.s (Zag y.xs) bl el)).symm),rfl,rfl⟩,trivial⟩,.inr ⟨lk rfl,lk rfl,lk rfl,lkI (by push_cast;rfl),trivial⟩,rfl⟩,⟨hil,stay _ hk5 HF⟩,by show l.length - (i+1) < l.length - i;omega⟩⟩
theorem Zy8 (f:Barb.Fun):(ZcM f).g=[.str f.name,.bool f.isOpen,.sl 1 (f.params.map ZbP),.sl 5 ((Barb.foldSs f.body).map Stmt.g)]:=Fun.g_eq _
theorem Zy7 (u:Barb.Unit):(ZbZ u).g=[.str u.name,.sl 1 (u.vars.map ZbP),.sl 2 (u.arrays.map Arr.g),.sl 4 ((u.funcs.map ZcM).map Fun.g)]:=rfl
noncomputable def ZrZ (p:List Barb.Unit):List Barb.Unit:=if Zbd p=0 then Zaz p else []
set_option maxRecDepth 20000 in
set_option maxHeartbeats 8000000 in
theorem ZjE (p:List Barb.Unit) (hp:Zj7 p) (hN:Zsu p):CT Tryz.prog gl 37 [.g (.sl 4 (p.map Unit.g))] (Is (.tuple [.g (.sl 4 ((ZrZ p).map Unit.g)),.g (.int (Zbd p))])):=by
 have lp:(p.map Unit.g).length=p.length:=Yab _;refine enter hT hF hM Tryz.func37 rfl 61 rfl (by kernel_rfl) [.tmp 2,.tmp 3] rfl [.g (.sl 4 (p.map Unit.g))] rfl _ ?_;refine Zae (.inl rfl) (Zef p hp) ?_;refine ⟨λh=>⟨rfl,ZAn rfl (by unfold ZrZ;rw[if_neg h];rfl)⟩,λh=>?_⟩;have hgood:Zbd p=0:=by omega
 obtain ⟨hp5,hUE,_,hUS⟩:=Za5 hgood;have hV:ZrZ p=Zaz p:=by unfold ZrZ;rw[if_pos hgood]
 rw[hV,hgood];refine ZaL (ι:=Nat) (λi=>[(5,.row 0),(16,.g (.sl 4 (p.map Unit.g))),(17,.g (.int (p.map Unit.g).length)),(18,.g (.int (i:Int)))]) (λi=>[.row (((p.take i).map ZbZ).map Unit.g) 44 4])
  (λi=>i<=p.length) (λi=>p.length - i)
  ⟨0,[.nil 44 4],⟨rfl,.inl rfl,.inr ⟨.inr rfl,lk rfl,lk rfl,lk rfl,trivial⟩,rfl⟩,Yau _⟩ ?_
 intro Rd hRd i hi;refine ⟨λc1=>?_,λc1=>?_⟩
 rotate_left
 ·have hie:i=p.length:=by have:¬(i:Int) < ((p.map Unit.g).length:Nat):=c1;omega
  exact ⟨rfl,ZAm rfl rfl (by rw[hie,YaE];rfl)⟩
 have hil:i < p.length:=by have:(i:Int) < ((p.map Unit.g).length:Nat):=c1;omega
 have hmem:p[i]∈p:=Yah hil;obtain ⟨_,hv8,ha3,hf8,_,hAE,hFE⟩:=Zau (hUE _ hmem);have hnext:(p.take (i+1)).map ZbZ=(p.take i).map ZbZ++[ZbZ p[i]]:=by rw[Zay hil,Yai];rfl
 have hol:((p.take i).map ZbZ).length<=5:=by rw[Yab,Yan];omega
 have hcall:∀f∈p[i].funcs,CT Tryz.prog gl 58 [.g (.sl 5 (f.body.map Stmt.g))] (Is (.g (.sl 5 ((Barb.foldSs f.body).map Stmt.g)))):=λf hf=>by have h3:=(ZgY p[i].funcs).1 f hf;have h4:=hN _ hmem;exact Zr1 12 f.body (ZbL (hFE f hf)).2.2.2 (by omega)
 have hpl:∀f∈p[i].funcs,f.params.length<=4:=λf hf=>(ZbL (hFE f hf)).2.1;have hg:=Zy7 p[i];generalize (p.take i).map ZbZ=out at hnext hol hRd;have hget:(p.map Unit.g)[i]?=some (Unit.g p[i]):=gm hil;generalize p[i]=u at *;have lv:(u.vars.map ZbP).length=u.vars.length:=Yab _;have la:(u.arrays.map Arr.g).length=u.arrays.length:=Yab _;have lf:(u.funcs.map Fun.g).length=u.funcs.length:=Yab _;refine ⟨i,_,rfl,hget,?_⟩;refine ⟨some 9995,[10],rfl,?_⟩;refine ⟨⟨by simp only[maxLen];omega,by dsimp only;omega⟩,⟨by simp only[maxLen];omega,by dsimp only;omega⟩,?_⟩;refine ZaL (ι:=Nat) (λj=>[(5,.row 0),(8,.ptr 4 0),(16,.g (.sl 4 (p.map Unit.g))),(17,.g (.int (p.map Unit.g).length)),(18,.g (.int (i:Int))),(32,.g (.sl 4 (u.funcs.map Fun.g))),(33,.g (.int (u.funcs.map Fun.g).length)),(34,.g (.int (j:Int)))])
  (λj=>[.row (out.map Unit.g) 44 4,.blk u.d 44,.row (u.vars.map ZbP) 9 1,.row (u.arrays.map Arr.g) 103 2,.blk [.g (.str u.name),.row 2,.row 3,.row 5] 44,.row (((u.funcs.take j).map ZcM).map Fun.g) 65 4])
  (λj=>j<=u.funcs.length) (λj=>u.funcs.length - j)
  ⟨0,[.old 0,.old 1,.old 2,.old 3,.old 4,.nil 65 4],⟨rfl,.inr ⟨⟨rfl,rfl,rfl⟩,⟨rfl,.inl rfl⟩,⟨rfl,rfl,rfl⟩,⟨rfl,rfl,rfl⟩,⟨rfl,.inr ⟨lk rfl,lk rfl,lk rfl,.inr rfl,trivial⟩⟩,⟨rfl,rfl,rfl⟩,trivial⟩,.inr ⟨lk rfl,lk rfl,lk rfl,lk rfl,lk rfl,lk rfl,lk rfl,lk rfl,trivial⟩,rfl⟩,Yau _⟩ ?_
 intro Rj hRj j hj;have hjf:((u.funcs.take j).map ZcM).length<=8:=by rw[Yab,Yan];omega
 refine ⟨λd1=>?_,λd1=>?_⟩
 ·have hjl:j < u.funcs.length:=by have:(j:Int) < ((u.funcs.map Fun.g).length:Nat):=d1;omega
  have hfm:u.funcs[j]∈u.funcs:=Yah hjl;have hfn:(u.funcs.take (j+1)).map ZcM=(u.funcs.take j).map ZcM++[ZcM u.funcs[j]]:=by rw[Zay hjl,Yai];rfl
  have hc:=hcall _ hfm;have hp4:=hpl _ hfm;have hfg:=Zy8 u.funcs[j];have hget:=(gm hjl:(u.funcs.map Fun.g)[j]?=some u.funcs[j].g);rw[Fun.g_eq] at hget;generalize (u.funcs.take j).map ZcM=row at hfn hjf hRj;generalize u.funcs[j]=f at *;have lpa:(f.params.map ZbP).length=f.params.length:=Yab _;refine ⟨j,_,rfl,hget,?_⟩;refine ⟨some 3008,rfl,?_⟩;refine ⟨⟨by simp only[maxLen];omega,by dsimp only;omega⟩,?_⟩;refine ⟨_,_,.inl rfl,hc,rfl,?_⟩;refine ⟨[[.str f.name,.bool f.isOpen,.sl 1 (f.params.map ZbP),.sl 5 ((Barb.foldSs f.body).map Stmt.g)]],rfl,rfl,⟨rfl,rfl,rfl,rfl,trivial⟩,⟨_,rfl⟩,?_⟩;refine ⟨⟨by simp[maxLen];omega,by simp;omega⟩,?_⟩;refine ⟨_,I64.wrap (by unfold I64;omega),?_⟩;exact hRj _ _ _ ⟨j+1,[.old 0,.old 1,.old 2,.old 3,.old 4,.old 9],⟨rfl,.inr ⟨⟨rfl,rfl,rfl⟩,⟨rfl,.inl rfl⟩,⟨rfl,rfl,rfl⟩,⟨rfl,rfl,rfl⟩,⟨rfl,.inl rfl⟩,⟨(by rw[hfn,Yai,List.map_singleton,hfg]),rfl,rfl⟩,trivial⟩,.inr ⟨lk rfl,lk rfl,lk rfl,lk rfl,lk rfl,lk rfl,lk rfl,lkI (by push_cast;rfl),trivial⟩,rfl⟩,hjl,by show u.funcs.length - (j+1) < u.funcs.length - j;omega⟩
 ·have hje:j=u.funcs.length:=by have:¬(j:Int) < ((u.funcs.map Fun.g).length:Nat):=d1;omega
  subst hje;rw[YaE] at hjf ⊢;refine ⟨[[.str u.name,.sl 1 (u.vars.map ZbP),.sl 2 (u.arrays.map Arr.g),.sl 4 ((u.funcs.map ZcM).map Fun.g)]],rfl,rfl,⟨rfl,Zbr rfl rfl,Zbr rfl rfl,Zbr rfl rfl,trivial⟩,?_⟩;refine ⟨⟨by simp[maxLen];omega,by simp;omega⟩,?_⟩;refine ⟨_,I64.wrap (by unfold I64;omega),?_⟩;exact hRd _ _ _ ⟨i+1,[.old 7],⟨rfl,.inr ⟨⟨(by rw[hnext,Yai,List.map_singleton,hg]),rfl,rfl⟩,trivial⟩,.inr ⟨lk rfl,lk rfl,lk rfl,lkI (by push_cast;rfl),trivial⟩,rfl⟩,hil,by show p.length - (i+1) < p.length - i;omega⟩
end ZN
namespace Barb
open Go Go.Dm Go.Eng ZN
theorem ZwN {m n:Nat} (hm:m<=65535) (hn:n<=65535) (op:Nat):did op m n<=65535:=by
 match op with
 | 0=>exact YaB (Yck _ _) hm
 | 1=>simp only[did];omega
 | 2=>simp only[did];omega
 | 3=>simp only[did];omega
 | 4=>exact YaB Yci hm
 | 5=>exact Zv1 hm hn
 | 6=>exact ZpF hm hn
 | 7=>simp only[did];split<;>omega
 | 8=>simp only[did];split<;>omega
 | 9=>simp only[did];omega
 | k+10=>exact YaB (Yck _ _) hm
theorem ZqQ (op a b:Int):0<=doI op a b/\doI op a b<=65535:=by
 unfold doI;split
 ·omega
 ·split
  ·have:=ZwN (m:=a.toNat) (n:=b.toNat) (by omega) (by omega) op.toNat;omega
  ·omega
theorem ZkZ:∀(n:Nat) (x:Expr),ZaN n x=0->ZaN (n+1) x=0
 | 0,.mk _ _ _ _ _,h=>by rw[ZaN] at h;exact absurd h (by decide)
 | n+1,.mk k v of s args,h=>by obtain ⟨h1,h2,h3,h4,h5⟩:=ZcN h;rw[ZhO,if_neg (λh=>h h1),if_neg (by omega),if_neg (λh=>h h3),if_neg h4];exact Zal (λy hy=>ZkZ n y (h5 y hy))
theorem ZqJ {n:Nat} {k v:Int} {of s:Str} {args:List Expr} (h1:1<=k/\k<=5) (h2:args.length<=4) (h3:Zbp k v of s args.length) (h4:¬ZaR k v) (h5:∀y∈args,ZaN n y=0):ZaN (n+1) (.mk k v of s args)=0:=by rw[ZaN,if_neg (λh=>h h1),if_neg (by omega),if_neg (λh=>h h3),if_neg h4];exact Zal h5
theorem ZpK {α:Type} {l:List α} (h:l.length=2):∃a b,l=[a,b]:=by
 match l,h with
 | [a,b],_=>exact ⟨a,b,rfl⟩
theorem Zph (n:Int) (of s:Str) (a b:Expr) (l:List Expr):ZcA n of s a b l=.mk 1 (doI n a.n b.n) [] [] []\/ZcA n of s a b l=a\/ZcA n of s a b l=.mk 5 n of s l:=by
 unfold ZcA;split
 ·exact .inl rfl
 ·split
  ·exact .inr (.inl rfl)
  ·split
   ·exact .inr (.inl rfl)
   ·exact .inr (.inr rfl)
theorem ZjF (k n:Int) (of s:Str) (args:List Expr) (h2:k=5->args.length=2):foldE (.mk k n of s args)=.mk k n of s (Zag args)\/(k=5/\((∃v,0<=v/\v<=65535/\foldE (.mk k n of s args)=.mk 1 v [] [] [])\/∃x∈args,foldE (.mk k n of s args)=foldE x)):=by
 rw[foldE];by_cases h5:k=5
 ·rw[if_pos h5];obtain ⟨x,y,rfl⟩:=ZpK (h2 h5);rcases Zph n of s ((Zag [x,y]).getD 0 noE) ((Zag [x,y]).getD 1 noE) (Zag [x,y]) with h | h | h
  ·exact .inr ⟨h5,.inl ⟨_,(ZqQ _ _ _).1,(ZqQ _ _ _).2,h⟩⟩
  ·exact .inr ⟨h5,.inr ⟨x,Yac,by rw[h];simp[Zag]⟩⟩
  ·exact .inl (by rw[h,h5])
 ·rw[if_neg h5];exact .inl rfl
theorem ZtH {k n:Int} {of s:Str} {m:Nat} (h:Zbp k n of s m) (h5:k=5):m=2:=by unfold Zbp at h;omega
theorem ZhK:∀(n:Nat) (x:Expr),ZaN n x=0->ZaN n (foldE x)=0
 | 0,.mk _ _ _ _ _,h=>by rw[ZaN] at h;exact absurd h (by decide)
 | n+1,.mk k v of s args,h=>by
  obtain ⟨h1,h2,h3,h4,h5⟩:=ZcN h;dsimp only[Expr.k,Expr.n,Expr.of,Expr.s,Expr.args] at h1 h2 h3 h4 h5;rcases ZjF k v of s args (ZtH h3) with e | ⟨_,⟨w,w0,w1,e⟩ | ⟨x,hx,e⟩⟩
  ·rw[e];refine ZqJ h1 (by rw[Zcy];exact h2) (by rw[Zcy];exact h3) h4 (λy hy=>?_);rw[ZbV,YaW] at hy;obtain ⟨z,hz,rfl⟩:=hy;exact ZhK n z (h5 z hz)
  ·rw[e];exact ZqJ (by decide) (by decide) (.inl ⟨rfl,rfl,rfl,rfl⟩) (by unfold ZaR;omega) (λy hy=>by simp at hy)
  ·rw[e];exact ZkZ n _ (ZhK n x (h5 x hx))
structure Alike (p p':List Unit) (u u':Unit) (f f':Fun):Prop where
 var:∀s,Zi5 u f s->Zi5 u' f' s
 arr:∀s,ZiU u s->ZiU u' s
 call:∀of s m,Za1 p' u' of s m=Za1 p u of s m
theorem ZkV (s:Str):∀l:List Fun,(l.map ZcM).find? (λf=>decide (f.name=s))=(l.find? (λf=>decide (f.name=s))).map ZcM
 | []=>rfl
 | f :: l=>by
  rw[Yar,List.find?_cons,List.find?_cons];show (match decide (f.name=s) with | true=>some (ZcM f) | false=>(l.map ZcM).find? _)=_;cases decide (f.name=s) with
  | true=>rfl
  | false=>exact ZkV s l
theorem ZkU (s:Str):∀l:List Unit,(l.map ZbZ).find? (λf=>decide (f.name=s))=(l.find? (λf=>decide (f.name=s))).map ZbZ
 | []=>rfl
 | f :: l=>by
  rw[Yar,List.find?_cons,List.find?_cons];show (match decide (f.name=s) with | true=>some (ZbZ f) | false=>(l.map ZbZ).find? _)=_;cases decide (f.name=s) with
  | true=>rfl
  | false=>exact ZkU s l
theorem Zhd (u:Unit) (of s:Str) (m:Nat):calledIn (ZbZ u) of s m=calledIn u of s m:=by
 unfold calledIn;rw[show (ZbZ u).funcs=u.funcs.map ZcM from rfl,ZkV];cases u.funcs.find? (λf=>decide (f.name=s)) with
 | none=>rfl
 | some g=>rfl
theorem Zn0 (p:List Unit) (u:Unit) (of s:Str) (m:Nat):Za1 (Zaz p) (ZbZ u) of s m=Za1 p u of s m:=by
 unfold Za1;by_cases h:of=[]
 ·rw[if_pos h,if_pos h];exact Zhd u of s m
 ·rw[if_neg h,if_neg h,show Zaz p=p.map ZbZ from rfl,ZkU];cases p.find? (λf=>decide (f.name=of)) with
  | none=>rfl
  | some v=>exact Zhd v of s m
theorem ZrY (p:List Unit) (u:Unit) (f:Fun):Alike p (Zaz p) u (ZbZ u) f (ZcM f):=⟨λ_ h=>h,λ_ h=>h,λof s m=>Zn0 p u of s m⟩
theorem ZqE {p:List Unit} {u:Unit} {f:Fun} {k n:Int} {of s:Str} {args:List Expr} (h:Za3 p u f k of s args.length=0) (ha:∀x∈args,ZbF p u f x=0):ZbF p u f (.mk k n of s args)=0:=by rw[ZbF,if_neg (λh'=>h' h),ZbH];exact Zal ha
theorem ZnM {p p':List Unit} {u u':Unit} {f f':Fun} (ha:Alike p p' u u' f f') {k:Int} {of s:Str} {m:Nat} (h:Za3 p u f k of s m=0):Za3 p' u' f' k of s m=0:=by
 unfold Za3 at h ⊢;by_cases h1:(k=2/\¬Zi5 u f s)\/(k=3/\¬ZiU u s)
 ·rw[if_pos h1] at h;omega
 rw[if_neg h1] at h;rw[if_neg (λhc=>h1 (hc.imp (λ⟨a,b⟩=>⟨a,λc=>b (ha.var _ c)⟩) (λ⟨a,b⟩=>⟨a,λc=>b (ha.arr _ c)⟩)))];by_cases h4:k=4
 ·rw[if_pos h4] at h ⊢;rw[ha.call];exact h
 ·rw[if_neg h4]
theorem Zgr {p p':List Unit} {u u':Unit} {f f':Fun} (ha:Alike p p' u u' f f'):∀(n:Nat) (x:Expr),ZaN n x=0->ZbF p u f x=0->ZbF p' u' f' (foldE x)=0
 | 0,.mk _ _ _ _ _,h,_=>by rw[ZaN] at h;exact absurd h (by decide)
 | n+1,.mk k v of s args,h,hs=>by
  obtain ⟨_,_,h3,_,h5⟩:=ZcN h;obtain ⟨s1,s2⟩:=Zhb hs;dsimp only[Expr.k,Expr.n,Expr.of,Expr.s,Expr.args] at h3 h5 s1 s2;rcases ZjF k v of s args (ZtH h3) with e | ⟨_,⟨w,_,_,e⟩ | ⟨x,hx,e⟩⟩
  ·rw[e];refine ZqE (by rw[Zcy];exact ZnM ha s1) (λy hy=>?_);rw[ZbV,YaW] at hy;obtain ⟨z,hz,rfl⟩:=hy;exact Zgr ha n z (h5 z hz) (s2 z hz)
  ·rw[e];exact ZqE (by unfold Za3;rw[if_neg (by omega),if_neg (by omega)]) (λy hy=>by simp at hy)
  ·rw[e];exact Zgr ha n x (h5 x hx) (s2 x hx)
theorem Zc3:∀(n:Nat) (l:List Stmt),Zan n l=0->Zan (n+1) l=0/\Zam (n+1) l=Zam n l
 | 0,_,h=>by rw[Zan] at h;exact absurd h (by decide)
 | n+1,l,h=>by
  rw[Zan] at h;have e:=Zak h;have e1:∀x∈l,ZcZ (Zan (n+1)) x=0:=λx hx=>by obtain ⟨hk,hok,hxE,hbE,heE⟩:=Zb3 (e x hx);rw[Zjb,if_neg (λh=>h hk),if_neg (λh=>h hok),if_neg (λh=>h (Zal hxE)),if_neg (λh=>h (Zc3 n x.b hbE).1)];exact (Zc3 n x.e heE).1
  refine ⟨by rw[Zan];exact Zal e1,?_⟩;clear h e1
  induction l with
  | nil=>rw[Zca,Zca]
  | cons x l il =>obtain ⟨hk,hok,hxE,hbE,heE⟩:=Zb3 (e x Yac);rw[Zbq,Zbq,il (λy hy=>e y (Yad _ hy)),(Zc3 n x.b hbE).2,(Zc3 n x.e heE).2]
theorem ZgJ (n:Nat):∀(a b:List Stmt),Zam (n+1) (a++b)=Zam (n+1) a+Zam (n+1) b
 | [],b=>by rw[List.nil_append,Zca];omega
 | x :: a,b=>by rw[List.cons_append,Zbq,Zbq,ZgJ n a b];omega
theorem Zgp {p p':List Unit} {u u':Unit} {f f':Fun} (ha:Alike p p' u u' f f'):∀(n:Nat) (l:List Stmt),Zan n l=0->Zbg p u f l=0->Zan n (foldSs l)=0/\Zbg p' u' f' (foldSs l)=0/\Zam n (foldSs l)<=Zam n l
 | 0,_,h,_=>by rw[Zan] at h;exact absurd h (by decide)
 | n+1,l,h,hs=>by
  rw[Zan] at h;rw[ZaS] at hs;have e:=Zak h;have es:=Zak hs;clear h hs
  induction l with
  | nil=>rw[Zeq];exact ⟨rfl,by rw[Zbg],by omega⟩
  | cons x l il =>
   obtain ⟨i1,i2,i3⟩:=il (λy hy=>e y (Yad _ hy)) (λy hy=>es y (Yad _ hy));obtain ⟨hk,hok,hxE,hbE,heE⟩:=Zb3 (e x Yac);obtain ⟨hnm,hxS,hbS,heS⟩:=ZgM (es x Yac);obtain ⟨b1,b2,b3⟩:=Zgp ha n x.b hbE hbS;obtain ⟨e1,e2,e3⟩:=Zgp ha n x.e heE heS;have m1:=Zc3 n _ b1;have m2:=Zc3 n _ e1;have q1:=Zbh n x.b;have q2:=Zbh n x.e;have key:Zan (n+1) (ZjD x)=0/\Zbg p' u' f' (ZjD x)=0/\Zam (n+1) (ZjD x)<=1+(Zam n x.b+Zam n x.e):=by
    rw[ZlZ];unfold ZeL;dsimp only;split
    ·exact ⟨m1.1,b2,by rw[m1.2];omega⟩
    ·split
     ·exact ⟨m2.1,e2,by rw[m2.2];omega⟩
     ·split
      ·exact ⟨rfl,by rw[Zbg],by rw[Zca];omega⟩
      ·refine ⟨?_,?_,?_⟩
       ·rw[Zan];refine Zal (λy hy=>?_);rw[Yay.1 hy,ZcZ];have hx':Zah (ZaN 12) (Zag x.xs)=0:=Zal (λz hz=>by
         rw[ZbV,YaW] at hz;obtain ⟨z',hz',rfl⟩:=hz;exact ZhK 12 z' (hxE z' hz'))
        have hb0:x.b.length=0->(foldSs x.b).length=0:=λh=>by rw[Ybm.1 h,Zeq];rfl
        have he0:x.e.length=0->(foldSs x.e).length=0:=λh=>by rw[Ybm.1 h,Zeq];rfl
        have hok':Zdr x.k x.s (Zag x.xs).length (foldSs x.b).length (foldSs x.e).length:=by unfold Zdr at hok ⊢;rw[Zcy];exact ⟨hok.1,hok.2.1.imp hb0 id,hok.2.2.imp he0 id⟩
        rw[if_neg (λh=>h hk),if_neg (λh=>h hok'),if_neg (λh=>h hx'),if_neg (λh=>h b1)];exact e1
       ·rw[ZaS];refine Zal (λy hy=>?_);rw[Yay.1 hy,ZdW,if_neg (λhc=>hnm (hc.imp (λ⟨a,b⟩=>⟨a,λc=>b (ha.var _ c)⟩) (λ⟨a,b⟩=>⟨a,λc=>b (ha.arr _ c)⟩)))];have hx':Zd4 p' u' f' (Zag x.xs)=0:=by rw[ZbH];refine Zal (λz hz=>?_);rw[ZbV,YaW] at hz;obtain ⟨z',hz',rfl⟩:=hz;exact Zgr ha 12 z' (hxE z' hz') (hxS z' hz')
        rw[if_neg (λh=>h hx'),if_neg (λh=>h b2)];exact e2
       ·rw[Zbq,Zca];show 1+(Zam n (foldSs x.b)+Zam n (foldSs x.e))+0<=1+(Zam n x.b+Zam n x.e);omega
   have p1:=Zbh (n+1) l;rw[Zgq,ZgJ,Zbq];refine ⟨?_,?_,?_⟩
   ·rw[Zan];refine Zal (λy hy=>?_);rcases Yao.1 hy with hy | hy
    ·have:=key.1;rw[Zan] at this;exact Zak this y hy
    ·split at hy
     ·simp at hy
     ·rw[Zan] at i1;exact Zak i1 y hy
   ·rw[ZaS];refine Zal (λy hy=>?_);rcases Yao.1 hy with hy | hy
    ·have:=key.2.1;rw[ZaS] at this;exact Zak this y hy
    ·split at hy
     ·simp at hy
     ·rw[ZaS] at i2;exact Zak i2 y hy
   ·split
    ·rw[Zca];omega
    ·omega
theorem Zr0 (l:List Unit):(l.map ZbZ).map Unit.name=l.map Unit.name:=by rw[Ycj];rfl
theorem ZjC (l:List Unit):Zai (l.map ZbZ)=Zai l:=by unfold Zai;rw[Ycj];rfl
theorem ZcL (p:List Unit):(Zaz p).length=p.length:=by unfold Zaz;rw[Yab]
theorem ZhJ {p:List Unit} (h:Zbd p=0) (hN:Zsu p):Zbd (Zaz p)=0/\Zsu (Zaz p):=by
 obtain ⟨h1,h2,h4,h5⟩:=Za5 h;have body:∀u∈p,∀f∈u.funcs,Zan 12 (foldSs f.body)=0/\Zbg (Zaz p) (ZbZ u) (ZcM f) (foldSs f.body)=0/\Zam 12 (foldSs f.body)<=Zam 12 f.body:=λu hu f hf =>
  Zgp (ZrY p u f) 12 f.body (ZbL ((Zau (h2 u hu)).2.2.2.2.2.2 f hf)).2.2.2 (Zi6 (h5 u hu) f hf)
 have many:∀u∈p,Zdg (ZbZ u).funcs<=Zdg u.funcs:=λu hu=>by
  have b:=body u hu;show Zdg (u.funcs.map ZcM)<=_;generalize u.funcs=l at b;clear hN h h1 h2 h4 h5 body
  induction l with
  | nil=>exact Ybo _
  | cons f l ih =>
   have e1:Zdg (f :: l)=Zam 12 f.body+Zdg l:=by simp[Zdg]
   have e2:Zdg ((f :: l).map ZcM)=Zam 12 (foldSs f.body)+Zdg (l.map ZcM):=by simp[Zdg];rfl
   have:=ih (λg hg=>b g (Yad _ hg));have:=(b f Yac).2.2;omega
 have few:Zsu (Zaz p):=λv hv=>by obtain ⟨u,hu,rfl⟩:=YaW.1 hv;have:=many u hu;have:=hN u hu;omega
 refine ⟨?_,few⟩;have hU:∀v∈Zaz p,Zcg v=0:=λv hv=>by
  obtain ⟨u,hu,rfl⟩:=YaW.1 hv;have hu0:=h2 u hu;obtain ⟨a0,a1,a2,a3,a6,a4,a5⟩:=Zau hu0;unfold Zcg;rw[if_neg (λh=>h a0),if_neg (by show ¬(8 < u.vars.length\/3 < u.arrays.length\/8 < (u.funcs.map ZcM).length);rw[Yab];omega),
   if_neg (λh=>h (Zal (λs hs=>ZlC (a6 s hs)))),if_neg (λh=>h (Zal a4)),if_neg (λh=>h (Zal (λg hg=>by
    obtain ⟨f,hf,rfl⟩:=YaW.1 hg;obtain ⟨b0,b1,b2,_⟩:=ZbL (a5 f hf);exact ZiP b0 b1 b2 (body u hu f hf).1))),if_neg]
  have:=few (ZbZ u) hv;have h0:=(ZgY (ZbZ u).funcs).2;rw[I64.wrap (by unfold I64;omega)];omega
 unfold Zbd;rw[if_neg (by rw[ZcL];omega),if_neg (λh=>h (Zal hU))];unfold Zbd at h;rw[if_neg (by omega),if_neg (λh=>h (Zal h2))] at h;rw[show Zaz p=p.map ZbZ from rfl,Zr0,ZjC];by_cases hd:Zk1 (p.map Unit.name)
 ·rw[if_pos hd] at h;omega
 rw[if_neg hd] at h ⊢;rw[if_neg (by omega)];refine Zal (λv hv=>?_);obtain ⟨u,hu,rfl⟩:=YaW.1 hv;have hs:=h5 u hu;unfold Zgc at hs ⊢;rw[show (ZbZ u).funcs=u.funcs.map ZcM from rfl,show (ZbZ u).vars=u.vars from rfl,show (ZbZ u).arrays=u.arrays from rfl];have hfn:(u.funcs.map ZcM).map Fun.name=u.funcs.map Fun.name:=by rw[Ycj];rfl
 rw[hfn];by_cases hq:Zk1 (u.vars++u.arrays.map Arr.name)\/Zk1 (u.funcs.map Fun.name)
 ·rw[if_pos hq] at hs;omega
 rw[if_neg hq] at hs ⊢;refine Zal (λg hg=>?_);obtain ⟨f,hf,rfl⟩:=YaW.1 hg;have h6:=Zak hs f hf;unfold Zuk at h6 ⊢;by_cases hz:Zk1 f.params
 ·rw[if_pos hz] at h6;omega
 ·rw[if_neg (show ¬Zk1 (ZcM f).params from hz)];exact (body u hu f hf).2.1
structure Le (s s':ES):Prop where
 told:s'.told=s.told
 cells:s'.cells=s.cells
 fuel:s.fuel<=s'.fuel
theorem Le.refl (s:ES):Le s s:=⟨rfl,rfl,Yax _⟩
theorem Le.trans {a b c:ES} (h:Le a b) (k:Le b c):Le a c:=⟨k.told.trans h.told,k.cells.trans h.cells,YaB h.fuel k.fuel⟩
def Sim {α:Type}:RR α->RR α->Prop
 | .ok a s,r=>∃s',Le s s'/\r=.ok a s'
 | .stop e s,r=>e=3\/∃s',Le s s'/\r=.stop e s'
theorem Sim.ok {α:Type} {a:α} {s s':ES} (h:Le s s'):Sim (.ok a s) (.ok a s'):=⟨s',h,rfl⟩
theorem Sim.stop {α:Type} {e:Int} {s s':ES} (h:Le s s'):Sim (.stop e s:RR α) (.stop e s'):=.inr ⟨s',h,rfl⟩
theorem Sim.bind {α β:Type} {r r':RR α} {k k':α->ES->RR β} (h:Sim r r') (hk:∀a s s',r=.ok a s->Le s s'->Sim (k a s) (k' a s')):Sim (r.bind k) (r'.bind k'):=by
 cases r with
 | ok a s =>obtain ⟨s',hl,rfl⟩:=h;exact hk a s s' rfl hl
 | stop e s =>
  rcases h with h | ⟨s',hl,rfl⟩
  ·exact .inl h
  ·exact .inr ⟨s',hl,rfl⟩
theorem Sim.burn1 {α:Type} {s:ES} {k:ES->RR α} {r:RR α} (h:s.fuel≠0->Sim (k { s with fuel:=s.fuel - 1 }) r):Sim (ZdU s k) r:=by
 unfold ZdU;by_cases h0:s.fuel=0
 ·rw[if_pos h0];exact .inl rfl
 ·rw[if_neg h0];exact h h0
theorem Zpu {α:Type} {s:ES} {k:ES->RR α} (h:s.fuel≠0):ZdU s k=k { s with fuel:=s.fuel - 1 }:=if_neg h
theorem Sim.burn {α:Type} {s s':ES} {k k':ES->RR α} (h:Le s s') (hk:∀t t',t={ s with fuel:=s.fuel - 1 }->Le t t'->Sim (k t) (k' t')):Sim (ZdU s k) (ZdU s' k'):=by refine Sim.burn1 λh0=>?_;have:=h.fuel;rw[Zpu (show s'.fuel≠0 by omega)];exact hk _ _ rfl ⟨h.told,h.cells,by show s.fuel - 1<=s'.fuel - 1;omega⟩
def fc (c:EC):EC:=⟨c.u,ZcM c.f,c.deep⟩
theorem ZdY (p:List Unit) (u:Nat):uAt (Zaz p) u=ZbZ (uAt p u):=by
 unfold uAt Zaz;rw[Yal,Yal,YaC];cases p[u]?<;>rfl
theorem Zgm {α β:Type} (q:β->Prop) (f:α->β):∀(l:List α) (n:Nat),Zb4 q (l.map f) n=Zb4 (λx=>q (f x)) l n
 | [],_=>rfl
 | x :: l,n=>by simp only[Yar,Zb4,Zgm q f l]
theorem Zpg (u:Unit) (s:Str):Zbz (ZbZ u) s=Zbz u s:=Zgm _ ZcM u.funcs 0
theorem ZmC (p:List Unit) (s:Str):Zba (Zaz p) s=Zba p s:=Zgm _ ZbZ p 0
theorem Zvt (p:List Unit) (c:EC) (of:Str):toU (Zaz p) (fc c) of=toU p c of:=by unfold toU;rw[ZmC];rfl
theorem Zuo (u:Unit) (i:Nat):(ZbZ u).funcs.getD i noF=ZcM (u.funcs.getD i noF):=by
 show (u.funcs.map ZcM).getD i noF=_;rw[Yal,Yal,YaC];cases u.funcs[i]?<;>rfl
theorem Zue {p:List Unit} {c:EC} {s s':ES} (h:Le s s') (ps:List Int) (name:Str):Zvj (Zaz p) (fc c) ps s' name=Zvj p c ps s name:=by unfold Zvj cAt;rw[h.cells,show (fc c).u=c.u from rfl,ZdY];rfl
theorem Zk9 {p:List Unit} {c:EC} {s s':ES} (h:Le s s') (name:Str):ZeU (Zaz p) (fc c) s' name=ZeU p c s name:=by unfold ZeU cAt;rw[h.cells,show (fc c).u=c.u from rfl,ZdY];rfl
theorem Zuh {p:List Unit} {c:EC} {s s':ES} (h:Le s s') (name:Str) (n:Int):Sim (Zww p c s name n) (Zww (Zaz p) (fc c) s' name n):=by
 unfold Zww;rw[Zk9 h];split
 ·exact Sim.stop h
 ·exact Sim.ok h
theorem Ztq {p:List Unit} {c:EC} {s s':ES} (h:Le s s') (el:EL) (name:Str) (n:Int):Sim (ZoP p c el s name n) (ZoP (Zaz p) (fc c) el s' name n):=by
 unfold ZoP;rw[show ZoT (fc c).f name=ZoT c.f name from rfl,show (fc c).u=c.u from rfl,ZdY];split
 ·exact Sim.ok h
 ·refine Sim.ok ⟨h.told,?_,h.fuel⟩;show s'.cells.set _ ((s'.cells.getD c.u noC).setV _ n)=s.cells.set _ ((s.cells.getD c.u noC).setV _ n);rw[h.cells];rfl
theorem Zts {p:List Unit} {c:EC} {s s':ES} (h:Le s s') (el:EL) (name:Str) (at_ n:Int):Sim (Zss p c el s name at_ n) (Zss (Zaz p) (fc c) el s' name at_ n):=by
 unfold Zss;rw[Zk9 h,show (fc c).u=c.u from rfl,ZdY];split
 ·exact Sim.stop h
 ·refine Sim.ok ⟨h.told,?_,h.fuel⟩;show s'.cells.set _ ((s'.cells.getD c.u noC).setA _ _ n)=s.cells.set _ ((s.cells.getD c.u noC).setA _ _ n);rw[h.cells];rfl
theorem ZwM {n v:Int} (hz:ZgF n) (hv:wd v):doI n v 0=v:=by
 obtain ⟨h0,h1⟩:=hv;have key:∀k:Nat,(k=1\/k=2\/k=5\/k=6\/k=9\/k=10)->did k v.toNat 0=v.toNat:=λk hk=>by
  rcases hk with rfl | rfl | rfl | rfl | rfl | rfl
  ·simp only[did];omega
  ·simp only[did];omega
  ·simp[did]
  ·simp[did]
  ·simp only[did,Nat.zero_mod,Nat.pow_zero,Nat.mul_one];omega
  ·simp[did]
 unfold doI;have hz:=hz;unfold ZgF at hz;rw[if_neg (by omega),if_pos (by omega)];have:=key n.toNat (by omega);rw[show (0:Int).toNat=0 from rfl,this];omega
theorem Zzm {v:Int} (hv:wd v):doI 3 v 1=v:=by obtain ⟨h0,h1⟩:=hv;unfold doI;rw[if_neg (by omega),if_pos (by omega)];show ((did 3 v.toNat 1:Nat):Int)=v;simp only[did,Nat.mul_one];omega
theorem ZdC (e:Stmt->EL->ES->RR EL) {el:EL} (h:el.back=true) (l:List Stmt) (s:ES):Za8 e l el s=.ok el s:=by
 cases l with
 | nil=>rfl
 | cons x l=>unfold Za8;rw[if_pos h]
theorem Zn7 (e:Stmt->EL->ES->RR EL) (b:List Stmt):∀(a:List Stmt) (el:EL) (s:ES),Za8 e (a++b) el s=(Za8 e a el s).bind (Za8 e b)
 | [],_,_=>rfl
 | x :: a,el,s=>by
  rw[List.cons_append];unfold Za8;by_cases h:el.back=true
  ·rw[if_pos h,if_pos h];exact (ZdC e h b s).symm
  ·rw[if_neg h,if_neg h];cases e x el s with
   | ok el1 s1=>exact Zn7 e b a el1 s1
   | stop n s1=>rfl
theorem ZuW (e:Stmt->EL->ES->RR EL) (x:Stmt) {el:EL} (h:el.back=false) (s:ES):Za8 e [x] el s=e x el s:=by
 unfold Za8;rw[if_neg (by rw[h];decide)];cases e x el s<;>rfl
theorem RI.of {α:Type} {p:List Unit} {s s':ES} {A:α->Prop} {a:α} {r:RR α} (h:RI p s A r) (e:r=.ok a s'):SI p s'/\A a/\s'.fuel<=s.fuel:=by subst e;exact ⟨h.1,h.2.2,h.2.1.1⟩
def ZzJ (p:List Unit) (g:Nat):Prop:=∀g',g<=g'->∀c ps x s s',CI p c->SI p s->wds ps->XI p c x->Le s s'->Sim (evE p g c ps x s) (evE (Zaz p) g' (fc c) ps (foldE x) s')
def ZxL (p:List Unit) (g:Nat):Prop:=∀g',g<=g'->∀c x el s s',CI p c->SI p s->ELI c el->StI p c x->el.back=false->Le s s'->Sim (evS p g c x el s) (Za8 (evS (Zaz p) g' (fc c)) (ZjD x) el s')
section
variable {p:List Unit}
theorem ZtU (hp:PI p) {g g':Nat} (hE:ZzJ p g) (hg:g<=g') {c:EC} {ps:List Int} (hc:CI p c) (hps:wds ps):∀(l:List Expr) (s s':ES),(∀x∈l,XI p c x)->SI p s->Le s s'->Sim (ZcW (evE p g c ps) l s) (ZcW (evE (Zaz p) g' (fc c) ps) (Zag l) s')
 | [],_,_,_,_,h=>Sim.ok h
 | x :: l,s,s',hl,hs,h=>by refine (hE g' hg c ps x s s' hc hs hps (hl x Yac) h).bind λa s1 s1' e h1=>?_;obtain ⟨i1,_,_⟩:=((ZdT hp g).1 c ps x s hc hs hps (hl x Yac)).of e;exact (ZtU hp hE hg hc hps l s1 s1' (λy hy=>hl y (Yad _ hy)) i1 h1).bind λns s2 s2' _ h2=>Sim.ok h2
theorem Zw0 {g:Nat} {c:EC} {x:Stmt} {el el':EL} {s s':ES} (hk:x.k=5) (h:evS p g c x el s=.ok el' s'):el'.back=true:=by
 cases g with
 | zero=>cases h
 | succ g =>
  rw[Zdd] at h;unfold Zho ZdU at h;split at h
  ·cases h
  ·dsimp only at h;cases hE:evE p g c el.ps (x.xs.getD 0 noX) { s with fuel:=s.fuel - 1 } with
   | ok n s1 =>rw[hE] at h;simp only[RR.bind,hk] at h;have h:(RR.ok ⟨el.ps,true,n⟩ s1:RR EL)=.ok el' s':=h;injection h with h1 h2;rw[<- h1]
   | stop e s1=>rw[hE] at h;cases h
theorem ZnB (x:Stmt) (l:List Stmt):foldSs (x :: l)=ZjD x++if x.k=5 then [] else foldSs l:=by obtain ⟨k,s,xs,b,e⟩:=x;rw[foldSs];rfl
theorem Zgy (hp:PI p) {g g':Nat} (hS:ZxL p g) (hg:g<=g') {c:EC} (hc:CI p c):∀(l:List Stmt) (el:EL) (s s':ES),(∀x∈l,StI p c x)->SI p s->ELI c el->Le s s'->Sim (Za8 (evS p g c) l el s) (Za8 (evS (Zaz p) g' (fc c)) (foldSs l) el s')
 | [],el,s,s',_,_,_,h=>by rw[show foldSs []=[] by rw[foldSs]];exact Sim.ok h
 | x :: l,el,s,s',hl,hs,he,h=>by
  by_cases hb:el.back=true
  ·rw[ZdC _ hb,ZdC _ hb];exact Sim.ok h
  have hb:el.back=false:=by simpa using hb
  rw[ZnB,Zn7];rw[show Za8 (evS p g c) (x :: l) el s=(evS p g c x el s).bind (Za8 (evS p g c) l) by
   rw[show Za8 (evS p g c) (x :: l) el s=if el.back then .ok el s else (evS p g c x el s).bind (Za8 (evS p g c) l) from rfl,if_neg (by rw[hb];decide)]]
  have hx:=hl x Yac;refine (hS g' hg c x el s s' hc hs he hx hb h).bind λel1 s1 s1' e h1=>?_;obtain ⟨i1,e1,_⟩:=((ZdT hp g).2 c x el s hc hs he hx).of e;by_cases hk:x.k=5
  ·rw[if_pos hk,ZdC _ (Zw0 hk e)];exact Sim.ok h1
  ·rw[if_neg hk];exact Zgy hp hS hg hc l el1 s1 s1' (λy hy=>hl y (Yad _ hy)) i1 e1 h1
theorem ZuO (hp:PI p) {g g':Nat} (hS:ZxL p g) (hg:g<=g') {u i:Nat} (hu:u < p.length) (hi:i < (uAt p u).funcs.length) {args:List Int} (ha:args.length=((uAt p u).funcs.getD i noF).params.length) (hw:wds args) (deep:Nat) {s s':ES} (hs:SI p s) (h:Le s s') :
  Sim (Zb6 p (evS p g) u i args deep s) (Zb6 (Zaz p) (evS (Zaz p) g') u i args deep s'):=by
 unfold Zb6;split
 ·exact Sim.stop h
 rename_i hd;have hc:CI p ⟨u,(uAt p u).funcs.getD i noF,deep⟩:=⟨hu,ZnC hi,by show deep<=19;omega⟩;rw[ZdY,Zuo];exact (Zgy hp hS hg hc _ _ s s' ((hp.body hc).all) hs ⟨ha,hw,(show wd 0 from ⟨by decide,by decide⟩)⟩ h).bind λel s1 s1' _ h1=>Sim.ok h1
theorem ZrR {g:Nat} (hE:ZzJ p g) {c:EC} {ps:List Int} {x:Expr} {s:ES} (hc:CI p c) (hs:SI p s) (hps:wds ps) (hx:XI p c x) (hk:(foldE x).k=1):(∃s1,evE p g c ps x s=.stop 3 s1)\/∃s1,evE p g c ps x s=.ok (foldE x).n s1/\Le s1 s:=by
 have h:=hE (g+1) (by omega) c ps x s { s with fuel:=s.fuel+1 } hc hs hps hx ⟨rfl,rfl,Nat.le_succ _⟩;rw[Zdv] at h;unfold Zkg at h;rw[Zpu (show s.fuel+1≠0 by omega),if_pos hk] at h;cases hr:evE p g c ps x s with
 | ok a s1 =>rw[hr] at h;obtain ⟨s2,hl,e⟩:=h;injection e with e1 e2;subst e1;exact .inr ⟨s1,rfl,⟨by rw[<- e2] at hl;exact hl.told,by rw[<- e2] at hl;exact hl.cells,by rw[<- e2] at hl;exact hl.fuel⟩⟩
 | stop e s1 =>
  rw[hr] at h;rcases h with h | ⟨s2,_,e'⟩
  ·subst h;exact .inl ⟨s1,rfl⟩
  ·cases e'
theorem Zy9 {k n:Int} {of s:Str} {args:List Expr} (h:k≠5):foldE (.mk k n of s args)=.mk k n of s (Zag args):=by rw[foldE,if_neg h]
theorem ZyQ (hp:PI p) {g g':Nat} (hS:ZxL p g) (hg:g<=g') {c:EC} (hc:CI p c) {x:Expr} (hx:XI p c x) (h1:x.k≠1) (h2:x.k≠2) (args':List Expr) {l:List Int} (hl:l.length=x.args.length/\wds l) {s s':ES} (hs:SI p s) (h:Le s s') :
  Sim (ZfW p (evS p g) c x l s) (ZfW (Zaz p) (evS (Zaz p) g') (fc c) (.mk x.k x.n x.of x.s args') l s'):=by
 unfold ZfW;rw[show (Expr.mk x.k x.n x.of x.s args').k=x.k from rfl,show (Expr.mk x.k x.n x.of x.s args').s=x.s from rfl,show (Expr.mk x.k x.n x.of x.s args').n=x.n from rfl,show (Expr.mk x.k x.n x.of x.s args').of=x.of from rfl];split
 ·exact Zuh h _ _
 split
 ·exact Sim.ok h
 rw[Zvt,ZdY,Zpg];obtain ⟨a1,i,a2,a3,a4,_⟩:=hx.ask hc (by have:=hx.inv.1;omega);rw[a2,Int.toNat_natCast];exact ZuO hp hS hg a1 a3 (hl.1.trans a4.symm) hl.2 (c.deep+1) hs h
theorem Zs4 (hp:PI p) {g:Nat} (hE:ZzJ p g) (hS:ZxL p g):ZzJ p (g+1):=by
 intro g2 hg2 c ps x s s' hc hs hps hx h;obtain ⟨h',rfl⟩:∃h',g2=h'+1:=⟨g2 - 1,by omega⟩;have hg:g<=h':=by omega
 have hinv:=hx.inv;have hargs:=hinv.2.2.2.2.2;obtain ⟨k,n,of,nm,args⟩:=x;have ordinary:∀(hk:foldE (.mk k n of nm args)=.mk k n of nm (Zag args)),Sim (evE p (g+1) c ps (.mk k n of nm args) s) (evE (Zaz p) (h'+1) (fc c) ps (foldE (.mk k n of nm args)) s'):=by
  intro hk;rw[hk,Zdv,Zdv];unfold Zkg;refine Sim.burn h λt t' et ht=>?_;have ht0:SI p t:=by rw[et];exact hs.fuel _
  rw[show (Expr.mk k n of nm (Zag args)).k=k from rfl,show (Expr.mk k n of nm args).k=k from rfl];split
  ·exact Sim.ok ht
  split
  ·rw[show (Expr.mk k n of nm (Zag args)).s=nm from rfl,Zue ht];exact Sim.ok ht
  rename_i k1 k2;refine (ZtU hp hE hg hc hps args t t' hargs ht0 ht).bind λl s1 s1' e h1=>?_;obtain ⟨i1,hl,_⟩:=(ZlH args (λy hy s hs=>(ZdT hp g).1 c ps y s hc hs hps (hargs y hy)) t ht0).of e;exact ZyQ hp hS hg hc hx k1 k2 (Zag args) hl i1 h1
 by_cases h5:k=5
 ·subst h5;obtain ⟨a,b,rfl⟩:=ZpK (ZtH hinv.2.2.1 rfl);have xa:=hargs a Yac;have xb:=hargs b (Yad _ Yac);have e0:foldE (.mk 5 n of nm [a,b])=ZcA n of nm (foldE a) (foldE b) (Zag [a,b]):=by rw[foldE,if_pos rfl];simp[Zag]
  have orig:∀t,evE p (g+1) c ps (.mk 5 n of nm [a,b]) t=ZdU t λt=>(evE p g c ps a t).bind λva t1=>(evE p g c ps b t1).bind λvb t2=>.ok (doI n va vb) t2:=λt=>by
   rw[Zdv];unfold Zkg ZdU;split
   ·rfl
   show (ZcW (evE p g c ps) [a,b] { t with fuel:=t.fuel - 1 }).bind (ZfW p (evS p g) c (.mk 5 n of nm [a,b]))=_;simp only[ZcW];cases evE p g c ps a { t with fuel:=t.fuel - 1 } with
   | stop e t1=>rfl
   | ok va t1 =>
    simp only[RR.bind];cases evE p g c ps b t1<;>rfl
  have ht0:SI p { s with fuel:=s.fuel - 1 }:=hs.fuel _;have h1:s.fuel≠0->Le { s with fuel:=s.fuel - 1 } { s' with fuel:=s'.fuel - 1 }:=λ_=>⟨h.told,h.cells,by have:=h.fuel;show s.fuel - 1<=s'.fuel - 1;omega⟩;have h2:Le { s with fuel:=s.fuel - 1 } s':=⟨h.told,h.cells,by have:=h.fuel;show s.fuel - 1<=s'.fuel;omega⟩;by_cases hab:(foldE a).k=1/\(foldE b).k=1
  ·have e1:foldE (.mk 5 n of nm [a,b])=.mk 1 (doI n (foldE a).n (foldE b).n) [] [] []:=by rw[e0];unfold ZcA;rw[if_pos hab]
   rw[orig,e1];refine Sim.burn1 λh0=>?_;rcases ZrR hE hc ht0 hps xa hab.1 with ⟨s1,e⟩ | ⟨s1,e,l1⟩
   ·rw[e];exact .inl rfl
   obtain ⟨i1,_,_⟩:=((ZdT hp g).1 c ps a _ hc ht0 hps xa).of e;rw[e];show Sim ((evE p g c ps b s1).bind λvb t2=>.ok (doI n (foldE a).n vb) t2) _;rcases ZrR hE hc i1 hps xb hab.2 with ⟨s2,e'⟩ | ⟨s2,e',l2⟩
   ·rw[e'];exact .inl rfl
   rw[e',Zdv];unfold Zkg;rw[Zpu (show s'.fuel≠0 by have:=h.fuel;omega)];exact ⟨_,(l2.trans l1).trans (h1 h0),rfl⟩
  have first:∀(hb:(foldE b).k=1) (_:∀va,wd va->doI n va (foldE b).n=va) (_:foldE (.mk 5 n of nm [a,b])=foldE a),Sim (evE p (g+1) c ps (.mk 5 n of nm [a,b]) s) (evE (Zaz p) (h'+1) (fc c) ps (foldE (.mk 5 n of nm [a,b])) s'):=λhb hd e1=>by
   rw[orig,e1];refine Sim.burn1 λh0=>?_;have sa:=hE (h'+1) (by omega) c ps a _ s' hc ht0 hps xa h2;cases ea:evE p g c ps a { s with fuel:=s.fuel - 1 } with
   | stop e s1=>rw[ea] at sa;exact sa
   | ok va s1 =>
    rw[ea] at sa;obtain ⟨s2,l2,e2⟩:=sa;obtain ⟨i1,iv,_⟩:=((ZdT hp g).1 c ps a _ hc ht0 hps xa).of ea;show Sim ((evE p g c ps b s1).bind λvb t2=>.ok (doI n va vb) t2) _;rcases ZrR hE hc i1 hps xb hb with ⟨s3,e'⟩ | ⟨s3,e',l3⟩
    ·rw[e'];exact .inl rfl
    rw[e',e2];show Sim (.ok (doI n va (foldE b).n) s3) _;rw[hd va iv];exact ⟨_,l3.trans l2,rfl⟩
  by_cases hz:((foldE b).k=1/\(foldE b).n=0)/\ZgF n
  ·refine first hz.1.1 (λva hv=>by rw[hz.1.2];exact ZwM hz.2 hv) ?_
   rw[e0];unfold ZcA;rw[if_neg hab,if_pos hz]
  by_cases ho:n=3/\(foldE b).k=1/\(foldE b).n=1
  ·refine first ho.2.1 (λva hv=>by rw[ho.1,ho.2.2];exact Zzm hv) ?_
   rw[e0];unfold ZcA;rw[if_neg hab,if_neg hz,if_pos ho]
  ·refine ordinary ?_;rw[e0];unfold ZcA;rw[if_neg hab,if_neg hz,if_neg ho]
 ·exact ordinary (Zy9 h5)
theorem ZpH (hp:PI p) {g h':Nat} (hE:ZzJ p g) (hS:ZxL p g) (hg:g<=h') {c:EC} (hc:CI p c) {x z:Stmt} (hx:StI p c x) (hzx:z.xs.getD 0 noX=foldE (x.xs.getD 0 noX)) (hzb:z.b=foldSs x.b):∀(k k':Nat),k<=k'->∀(n:Int) (el:EL) (s s':ES),SI p s->ELI c el->Le s s' ->
  Sim (Zce (evE p g) (evS p g) c x k n el s) (Zce (evE (Zaz p) h') (evS (Zaz p) h') (fc c) z k' n el s')
 | 0,_,_,_,_,_,_,_,_,_=>.inl rfl
 | k+1,k',hk,n,el,s,s',hs,he,h=>by
  obtain ⟨k2,rfl⟩:∃k2,k'=k2+1:=⟨k' - 1,by omega⟩;have iB:∀el s,SI p s->ELI c el->RI p s (ELI c) (Za8 (evS p g c) x.b el s):=λel s hs he=>ZhX x.b (λy hy el s hs he=>(ZdT hp g).2 c y el s hc hs he (hx.inv.2.2.2.1.all y hy)) el s hs he;unfold Zce;split
  ·exact Sim.ok h
  rw[hzb];refine (Zgy hp hS hg hc x.b el s s' (hx.inv.2.2.2.1.all) hs he h).bind λel1 s1 s1' e h1=>?_;obtain ⟨i1,e1,_⟩:=(iB el s hs he).of e;split
  ·exact Sim.ok h1
  refine Sim.burn h1 λt t' et ht=>?_;have ht0:SI p t:=by rw[et];exact i1.fuel _
  rw[hzx];refine (hE h' hg c el1.ps _ t t' hc ht0 e1.2.1 hx.one.2 ht).bind λn2 s2 s2' e2 h2=>?_;obtain ⟨i2,_,_⟩:=((ZdT hp g).1 c el1.ps _ t hc ht0 e1.2.1 hx.one.2).of e2;exact ZpH hp hE hS hg hc hx hzx hzb k k2 (by omega) n2 el1 s2 s2' i2 e1 h2
theorem Zny {l:List Expr} {i:Nat} (h:i < l.length):(Zag l).getD i noX=foldE (l.getD i noX):=by rw[ZbV,Yal,Yal,YaC,Yaq h];rfl
theorem Zs3 (hp:PI p) {g:Nat} (hE:ZzJ p g) (hS:ZxL p g):ZxL p (g+1):=by
 intro g2 hg2 c x el s s' hc hs he hx hb h;obtain ⟨h',rfl⟩:∃h',g2=h'+1:=⟨g2 - 1,by omega⟩;have hg:g<=h':=by omega
 have hinv:=hx.inv;have hone:=hx.one;have htwo:=hx.two;have hsb:=hinv.2.2.2.1.all;have hse:=hinv.2.2.2.2.1.all;have ht0:SI p { s with fuel:=s.fuel - 1 }:=hs.fuel _;have hl2:Le { s with fuel:=s.fuel - 1 } s':=⟨h.told,h.cells,by have:=h.fuel;show s.fuel - 1<=s'.fuel;omega⟩;obtain ⟨k,nm,xs,b,e⟩:=x;dsimp only[Stmt.xs,Stmt.k,Stmt.b,Stmt.e] at hone htwo hsb hse;have hx0:(Zag xs).getD 0 noX=foldE (xs.getD 0 noX):=Zny hone.1;have hx00:(Zag xs).getD 0 noE=foldE (xs.getD 0 noX):=hx0;have e0:ZjD (.mk k nm xs b e)=ZeL k nm (Zag xs) (foldSs b) (foldSs e):=by rw[ZjD]
 unfold ZeL at e0;rw[hx00] at e0;dsimp only at e0;have sees:∀{n s1},evE p g c el.ps (xs.getD 0 noX) { s with fuel:=s.fuel - 1 }=.ok n s1->SI p s1/\wd n:=λe=>by obtain ⟨a,b,_⟩:=((ZdT hp g).1 c el.ps _ _ hc ht0 he.2.1 hone.2).of e;exact ⟨a,b⟩
 by_cases c1:k=3/\(foldE (xs.getD 0 noX)).k=1/\(foldE (xs.getD 0 noX)).n≠0
 ·rw[if_pos c1] at e0;rw[e0,Zdd];unfold Zho;refine Sim.burn1 λh0=>?_;rcases ZrR hE hc ht0 he.2.1 hone.2 c1.2.1 with ⟨s1,e1⟩ | ⟨s1,e1,l1⟩
  ·rw[show (Stmt.mk k nm xs b e).xs=xs from rfl,e1];exact .inl rfl
  obtain ⟨i1,_⟩:=sees e1;rw[show (Stmt.mk k nm xs b e).xs=xs from rfl,e1];simp only[RR.bind];rw[show (Stmt.mk k nm xs b e).k=3 from c1.1,if_neg (by decide),if_neg (by decide),if_pos rfl,if_neg c1.2.2];exact Zgy hp hS (by omega) hc b el s1 s' hsb i1 he (l1.trans hl2)
 rw[if_neg c1] at e0;by_cases c2:k=3/\(foldE (xs.getD 0 noX)).k=1
 ·have n0:(foldE (xs.getD 0 noX)).n=0:=YaG λhn=>c1 ⟨c2.1,c2.2,hn⟩;rw[if_pos c2] at e0;rw[e0,Zdd];unfold Zho;refine Sim.burn1 λh0=>?_;rcases ZrR hE hc ht0 he.2.1 hone.2 c2.2 with ⟨s1,e1⟩ | ⟨s1,e1,l1⟩
  ·rw[show (Stmt.mk k nm xs b e).xs=xs from rfl,e1];exact .inl rfl
  obtain ⟨i1,_⟩:=sees e1;rw[show (Stmt.mk k nm xs b e).xs=xs from rfl,e1];simp only[RR.bind];rw[show (Stmt.mk k nm xs b e).k=3 from c2.1,if_neg (by decide),if_neg (by decide),if_pos rfl,if_pos n0];exact Zgy hp hS (by omega) hc e el s1 s' hse i1 he (l1.trans hl2)
 rw[if_neg c2] at e0;by_cases c3:k=4/\(foldE (xs.getD 0 noX)).k=1/\(foldE (xs.getD 0 noX)).n=0
 ·rw[if_pos c3] at e0;rw[e0,Zdd];unfold Zho;refine Sim.burn1 λh0=>?_;rcases ZrR hE hc ht0 he.2.1 hone.2 c3.2.1 with ⟨s1,e1⟩ | ⟨s1,e1,l1⟩
  ·rw[show (Stmt.mk k nm xs b e).xs=xs from rfl,e1];exact .inl rfl
  rw[show (Stmt.mk k nm xs b e).xs=xs from rfl,e1];simp only[RR.bind];rw[show (Stmt.mk k nm xs b e).k=4 from c3.1,if_neg (by decide),if_neg (by decide),if_neg (by decide),if_pos rfl];unfold Zce;rw[if_pos (.inl c3.2.2)];exact Sim.ok (l1.trans hl2)
 rw[if_neg c3] at e0;rw[e0,ZuW _ _ hb,Zdd,Zdd];unfold Zho;refine Sim.burn h λt t' et ht=>?_;have htI:SI p t:=by rw[et];exact ht0
 rw[show (Stmt.mk k nm (Zag xs) (foldSs b) (foldSs e)).xs=Zag xs from rfl,show (Stmt.mk k nm xs b e).xs=xs from rfl,hx0];refine (hE h' hg c el.ps _ t t' hc htI he.2.1 hone.2 ht).bind λn s1 s1' e1 h1=>?_;obtain ⟨i1,hn,_⟩:=((ZdT hp g).1 c el.ps _ t hc htI he.2.1 hone.2).of e1;show Sim (if k=1 then ZoP p c el s1 nm n else if k=2 then _ else if k=3 then _ else if k=4 then _ else if k=5 then _ else _) (if k=1 then ZoP (Zaz p) (fc c) el s1' nm n else if k=2 then _ else if k=3 then _ else if k=4 then _ else if k=5 then _ else _);split
 ·exact Ztq h1 el nm n
 split
 ·rename_i hk;rw[Zny (show 1 < xs.length from (htwo hk).1)];exact (hE h' hg c el.ps _ s1 s1' hc i1 he.2.1 (htwo hk).2 h1).bind λv s2 s2' _ h2=>Zts h2 el nm n v
 split
 ·show Sim (Za8 (evS p g c) (if n=0 then e else b) el s1) (Za8 (evS (Zaz p) h' (fc c)) (if n=0 then foldSs e else foldSs b) el s1');split
  ·exact Zgy hp hS hg hc e el s1 s1' hse i1 he h1
  ·exact Zgy hp hS hg hc b el s1 s1' hsb i1 he h1
 split
 ·exact ZpH hp hE hS hg hc (z:=.mk k nm (Zag xs) (foldSs b) (foldSs e)) hx hx0 rfl (g+1) (h'+1) hg2 n el s1 s1' i1 he h1
 split
 ·exact Sim.ok h1
 ·rw[h1.told];split
  ·exact Sim.stop h1
  ·exact Sim.ok ⟨rfl,h1.cells,h1.fuel⟩
theorem Zjc (hp:PI p):∀g,ZzJ p g/\ZxL p g
 | 0=>⟨λ_ _ _ _ _ _ _ _ _ _ _ _=>.inl rfl,λ_ _ _ _ _ _ _ _ _ _ _ _ _=>.inl rfl⟩
 | g+1=>⟨Zs4 hp (Zjc hp g).1 (Zjc hp g).2,Zs3 hp (Zjc hp g).1 (Zjc hp g).2⟩
end
end Barb
