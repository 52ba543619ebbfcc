import Derived.Test.YthcmdjkaepclhaaSpec2
import Derived.Test.YthcmdjkaepclhaaFt
import Derived.Test.YthcmdjkaepclhaaWd
import Derived.Test.YthcmdjkaepclhaaHx
import Derived.Test.YthcmdjkaepclhaaGi
namespace Barb
open Go Go.Dm Go.Eng Go.Proofs.Ythcmdjkaepclhaa
def zeroOp (n:Int):Prop:=n=1\/n=2\/n=5\/n=6\/n=9\/n=10
instance (n:Int):Decidable (zeroOp n):=by unfold zeroOp;infer_instance
def foldT (n:Int) (of s:Str) (a b:Expr) (l:List Expr):Expr :=
 if a.k=1/\b.k=1 then .mk 1 (doI n a.n b.n) [] [] []
 else if (b.k=1/\b.n=0)/\zeroOp n then a
 else if n=3/\b.k=1/\b.n=1 then a
 else .mk 5 n of s l
def noE:Expr:=.mk 0 0 [] [] []
mutual
def foldE:Expr->Expr
 | .mk k n of s args=>if k=5 then foldT n of s ((foldEs args).getD 0 noE) ((foldEs args).getD 1 noE) (foldEs args) else .mk k n of s (foldEs args)
def foldEs:List Expr->List Expr
 | []=>[]
 | x :: l=>foldE x :: foldEs l
end
theorem foldEs_map (l:List Expr):foldEs l=l.map foldE:=by
 induction l with
 | nil=>rfl
 | cons x l ih=>simp[foldEs,ih]
def foldH (k:Int) (s:Str) (xs:List Expr) (b e:List Stmt):List Stmt :=
 let x:=xs.getD 0 noE
 if k=3/\x.k=1/\x.n≠0 then b
 else if k=3/\x.k=1 then e
 else if k=4/\x.k=1/\x.n=0 then []
 else [.mk k s xs b e]
mutual
def foldS:Stmt->List Stmt
 | .mk k s xs b e=>foldH k s (foldEs xs) (foldSs b) (foldSs e)
def foldSs:List Stmt->List Stmt
 | []=>[]
 | x :: l=>foldS x++(match x with | .mk k _ _ _ _=>if k=5 then [] else foldSs l)
end
def foldF (f:Fun):Fun:=⟨f.name,f.isOpen,f.params,foldSs f.body⟩
def foldU (u:Unit):Unit:=⟨u.name,u.vars,u.arrays,u.funcs.map foldF⟩
def foldP (p:List Unit):List Unit:=p.map foldU
end Barb
namespace Go.Dm
open Go Go.Eng Go.RowKit
theorem turn2 {G:Gl} {n:Nat} {K:St->Prop} {st:St} (h:TurnP G n (TurnP G n K) st):TurnP G n K st:=by
 obtain ⟨st1,h1,st2,h2,k⟩:=h
 exact ⟨st2,fun C a w e hr=>h2 C a w e (h1 C a w e hr),k⟩
section
variable {P:Program} {T:Tab} {F:FuncId->Bool} {G:Gl}
theorem joinT2 {J:List Nat} {n:Nat} {x y z:Code} {env:Env} {h:Heap} {df:List Deferred} {Q:Post} {ι κ:Type} (hJ:inL J (firstR (.seq y z))=true) (hJ2:inL J (firstR z)=false)
  (val:ι->List (Nat × D)) (hpI:ι->Heap) (Inv:ι->Prop) (val2:κ->List (Nat × D)) (hp2:κ->Heap) (Inv2:κ->Prop)
  (head:∀ Rd:St->Prop,(∀ (i:ι) (e:Env),agree e (val i)->Inv i->Rd ⟨e,hpI i,df⟩)->vcS J P T F G n x ⟨env,h,df⟩ (seqPost Rd Q))
  (mid:∀ Rd:St->Prop,(∀ (i:κ) (e:Env),agree e (val2 i)->Inv2 i->Rd ⟨e,hp2 i,df⟩)->∀ (e0:Env) (i:ι),Inv i->TurnP G n (fun st1=>vcS J P T F G n y st1 (seqPost Rd Q)) ⟨Env.many e0 (val i),hpI i,df⟩)
  (tail:∀ (e0:Env) (i:κ),Inv2 i->vcS J P T F G n z ⟨Env.many e0 (val2 i),hp2 i,df⟩ Q) :
  vcS J P T F G n (.seq x (.seq y z)) ⟨env,h,df⟩ Q:=by
 have e2:seqPost (fun st'=>vcS J P T F G n z st' Q) Q=(fun e st'=>match e with | .normal=>bif inL J (firstR z) then TurnP G n (fun st1=>vcS J P T F G n z st1 Q) st' else vcS J P T F G n z st' Q | e=>Q e st'):=by
  funext e st'
  cases e with
  | normal=>rw[hJ2];rfl
  | _=>rfl
 have hm:=mid (fun st'=>vcS J P T F G n z st' Q) (fun i e ha hi=>by
  have:=tail e i hi
  rw[many_self ha] at this
  exact this)
 have hh:=head (fun st'=>TurnP G n (fun st1=>vcS J P T F G n (.seq y z) st1 Q) st') (fun i e ha hi=>by
  have:=hm e i hi
  rw[many_self ha,e2] at this
  exact this)
 have e:seqPost (fun st'=>TurnP G n (fun st1=>vcS J P T F G n (.seq y z) st1 Q) st') Q=(fun e st'=>match e with | .normal=>bif inL J (firstR (.seq y z)) then TurnP G n (fun st1=>vcS J P T F G n (.seq y z) st1 Q) st' else vcS J P T F G n (.seq y z) st' Q | e=>Q e st'):=by
  funext e st'
  cases e with
  | normal=>rw[hJ];rfl
  | _=>rfl
 rw[e] at hh
 exact hh
end
end Go.Dm
namespace Barb
open Go Go.Dm Go.Eng Go.Proofs.Ythcmdjkaepclhaa
abbrev bD (i:Bool) (p:Prop):D:=match i with
 | true=>.pb p
 | false=>.g (.bool false)
theorem foldEs_len (l:List Expr):(foldEs l).length=l.length:=by rw[foldEs_map,List.length_map]
theorem agg_of {h:Heap} {x y:Expr} (e:x=y):RetTo (Is (.agg x.d)) h (.agg y.d):=by subst e;exact retIs (.inl rfl)
end Barb
namespace Go.Proofs.Ythcmdjkaepclhaa
open Go Go.Dm Go.Eng Go.RowKit Barb
set_option maxRecDepth 20000 in
set_option maxHeartbeats 8000000 in
theorem foldE_any:∀ (f:Nat) (x:Barb.Expr),exprE f x=0->CT Try.prog [] 68 [.agg x.d] (Is (.agg (foldE x).d)):=by
 intro f
 induction f with
 | zero=>intro x hx;exact absurd hx (by unfold exprE;decide)
 | succ f ih =>
  intro x hx
  obtain ⟨k,n,of,s,args⟩:=x
  unfold exprE at hx
  by_cases hk:¬(1<=k/\k<=5)
  ·rw[if_pos hk] at hx;exact absurd hx (by decide)
  rw[if_neg hk] at hx
  by_cases h4:4 < args.length
  ·rw[if_pos h4] at hx;exact absurd hx (by decide)
  rw[if_neg h4] at hx
  by_cases hok:¬exprOk k n of s args.length
  ·rw[if_pos hok] at hx;exact absurd hx (by decide)
  rw[if_neg hok] at hx
  by_cases hb:exprBad k n
  ·rw[if_pos hb] at hx;exact absurd hx (by decide)
  rw[if_neg hb] at hx
  have iha:∀ (j:Nat) (hj:j < args.length),CT Try.prog [] 68 [.agg args[j].d] (Is (.agg (foldE args[j]).d)):=fun j hj=>ih _ (firstE_all hx _ (List.getElem_mem hj))
  have e:foldE (.mk k n of s args)=if k=5 then foldT n of s ((foldEs args).getD 0 noE) ((foldEs args).getD 1 noE) (foldEs args) else .mk k n of s (foldEs args):=by rw[Barb.foldE]
  generalize foldE (.mk k n of s args)=out at e
  have lx:(args.map Expr.g).length=args.length:=List.length_map _
  refine enterJ [10,11] hT hF hM Try.func68 rfl 118 rfl (by kernel_rfl) [.cell 2 97] rfl [.agg (Expr.d (.mk k n of s args))] rfl _ ?_
  refine loopR (ι:=Nat) (fun j=>[(1,.ptr 0 0),(2,.ptr 1 0),(3,.ptr 2 0),(16,.g (.int (j:Int)))]) (fun j=>[.blk [.g (.int k),.g (.int n),.g (.str of),.g (.str s),.g (.sl 5 (args.map Expr.g))] 97,.blk [.g (.int 0),.g (.int 0),.g (.str []),.g (.str []),.nils] 97,.blk [.g (.int k),.g (.int n),.g (.str of),.g (.str s),.row 3] 97,.row ((foldEs (args.take j)).map Expr.g) 97 5])
   (fun j=>j<=args.length) (fun j=>args.length - j)
   ⟨0,[.old 0,.old 1,.old 2,.nil 97 5],⟨rfl,.inr ⟨⟨rfl,.inl rfl⟩,⟨rfl,.inl rfl⟩,⟨rfl,.inr ⟨lk rfl,lk rfl,lk rfl,lk rfl,.inr rfl,trivial⟩⟩,⟨rfl,rfl,rfl⟩,trivial⟩,.inr ⟨lk rfl,lk rfl,lk rfl,lk rfl,trivial⟩,rfl⟩,Nat.zero_le _⟩ ?_
  intro Rd hRd j hj
  refine ⟨fun hlt=>?_,fun hge=>?_⟩
  ·have hjl:j < args.length:=by have:(j:Int) < ((args.map Expr.g).length:Nat):=hlt;omega
   have hnext:foldEs (args.take (j+1))=foldEs (args.take j)++[foldE args[j]]:=by rw[foldEs_map,foldEs_map,take_one hjl,List.map_append];rfl
   have hll:(foldEs (args.take j)).length<=4:=by rw[foldEs_len,List.length_take];omega
   have hc:=iha j hjl
   generalize foldEs (args.take j)=row at hnext hll
   generalize foldE args[j]=y at hc hnext
   refine ⟨j,_,rfl,(gm hjl).trans (congrArg some (Expr.g_eq _)),?_⟩
   refine ⟨some 2000,rfl,?_⟩
   refine ⟨_,_,.inl rfl,hc,rfl,?_⟩
   refine ⟨[gX y],rfl,rfl,⟨rfl,rfl,rfl,rfl,rfl,trivial⟩,⟨_,rfl⟩,?_⟩
   refine ⟨⟨by simp[maxLen];omega,by simp;omega⟩,?_⟩
   refine ⟨_,I64.wrap (by unfold I64;omega),?_⟩
   exact hRd _ _ _ ⟨j+1,[.old 0,.old 1,.old 2,.old 6],⟨rfl,.inr ⟨⟨rfl,.inl rfl⟩,⟨rfl,.inl rfl⟩,⟨rfl,.inl rfl⟩,⟨by rw[hnext,List.map_append,List.map_singleton,gX_eq],rfl,rfl⟩,trivial⟩,.inr ⟨lk rfl,lk rfl,lk rfl,lkI (by push_cast;rfl),trivial⟩,rfl⟩,hjl,by show args.length - (j+1) < args.length - j;omega⟩
  have hje:j=args.length:=by have:¬(j:Int) < ((args.map Expr.g).length:Nat):=hge;omega
  have htl:foldEs (args.take j)=foldEs args:=by rw[hje,List.take_length]
  refine ⟨fun h5=>?_,fun h5=>?_⟩
  ·rw[if_neg h5] at e
   exact ⟨rfl,retER e rfl (by rw[htl])⟩
  rw[if_pos h5] at e
  have h2:args.length=2:=by
   have:=Classical.not_not.1 hok
   unfold exprOk at this
   omega
  have hfl:(foldEs args).length=2:=by rw[foldEs_len];exact h2
  obtain ⟨a,b,hab⟩:∃ a b,foldEs args=[a,b]:=by
   match h:foldEs args,hfl with
   | [a,b],_=>exact ⟨a,b,rfl⟩
  rw[hab] at e htl
  have e:out=foldT n of s a b [a,b]:=e
  have g0:((foldEs (args.take j)).map Expr.g)[0]?=some (gX a):=by rw[htl,gX_eq];rfl
  have g1:((foldEs (args.take j)).map Expr.g)[1]?=some (gX b):=by rw[htl,gX_eq];rfl
  have gl2:((foldEs (args.take j)).map Expr.g).length=2:=by rw[htl];rfl
  refine turn2 (turnTo [.old 0,.old 1,.old 2] [(1,.ptr 0 0),(2,.ptr 1 0),(3,.ptr 2 0)] [.blk [.g (.int k),.g (.int n),.g (.str of),.g (.str s),.g (.sl 5 (args.map Expr.g))] 97,.blk [.g (.int 0),.g (.int 0),.g (.str []),.g (.str []),.nils] 97,.blk [.g (.int k),.g (.int n),.g (.str of),.g (.str s),.g (.sl 5 ((foldEs (args.take j)).map Expr.g))] 97] ⟨rfl,.inl rfl,.inl rfl,rfl⟩ ?_)
  refine turnTo [.old 0,.old 1] [(1,.ptr 0 0),(2,.ptr 1 0),(3,.fp [.int k,.int n,.str of,.str s,.sl 5 ((foldEs (args.take j)).map Expr.g)] 0)] [.blk [.g (.int k),.g (.int n),.g (.str of),.g (.str s),.g (.sl 5 (args.map Expr.g))] 97,.blk [.g (.int 0),.g (.int 0),.g (.str []),.g (.str []),.nils] 97] ⟨rfl,.inl rfl,.inl rfl,rfl⟩ ?_
  refine joinT2 (by rfl) (by rfl) (ι:=Bool) (κ:=Bool) (fun o=>match o with
    | true=>[(1,.ptr 0 0),(2,.ptr 1 0),(3,.fp [.int k,.int n,.str of,.str s,.sl 5 ((foldEs (args.take j)).map Expr.g)] 0),(6,.ptr 2 0),(7,.ptr 3 0)]
    | false=>[(1,.ptr 0 0),(2,.ptr 1 0),(3,.fp [.int k,.int n,.str of,.str s,.sl 5 ((foldEs (args.take j)).map Expr.g)] 0),(6,.ptr 3 0),(7,.ptr 2 0)])
   (fun o=>match o with
    | true=>[.blk [.g (.int k),.g (.int n),.g (.str of),.g (.str s),.g (.sl 5 (args.map Expr.g))] 97,.blk [.g (.int 0),.g (.int 0),.g (.str []),.g (.str []),.nils] 97,.blk a.d 97,.blk b.d 97]
    | false=>[.blk [.g (.int k),.g (.int n),.g (.str of),.g (.str s),.g (.sl 5 (args.map Expr.g))] 97,.blk [.g (.int 0),.g (.int 0),.g (.str []),.g (.str []),.nils] 97,.blk b.d 97,.blk a.d 97]) (fun _=>True)
   (fun i=>[(1,.ptr 0 0),(2,.ptr 1 0),(3,.fp [.int k,.int n,.str of,.str s,.sl 5 ((foldEs (args.take j)).map Expr.g)] 0),(6,.ptr 2 0),(7,.ptr 3 0),(8,bD i (b.n=0))])
   (fun _=>[.blk [.g (.int k),.g (.int n),.g (.str of),.g (.str s),.g (.sl 5 (args.map Expr.g))] 97,.blk [.g (.int 0),.g (.int 0),.g (.str []),.g (.str []),.nils] 97,.blk a.d 97,.blk b.d 97])
   (fun i=>(i=true/\b.k=1)\/(i=false/\¬b.k=1)) (fun Rd hRd=>?_) (fun Rj hRj e0 o _=>?_) (fun e0 i hz=>?_)
  ·exact ⟨some 105000,8,rfl,⟨rfl,0,_,rfl,g0,1,_,rfl,g1,hRd true _ ⟨rfl,rfl,rfl,rfl,rfl,trivial⟩ trivial⟩,⟨rfl,0,_,rfl,g0,1,_,rfl,g1,hRd false _ ⟨rfl,rfl,rfl,rfl,rfl,trivial⟩ trivial⟩⟩
  ·cases o with
   | true =>
    refine turnTo [.old 0,.old 1,.old 2,.old 3] [(1,.ptr 0 0),(2,.ptr 1 0),(3,.fp [.int k,.int n,.str of,.str s,.sl 5 ((foldEs (args.take j)).map Expr.g)] 0),(6,.ptr 2 0),(7,.ptr 3 0)] [.blk [.g (.int k),.g (.int n),.g (.str of),.g (.str s),.g (.sl 5 (args.map Expr.g))] 97,.blk [.g (.int 0),.g (.int 0),.g (.str []),.g (.str []),.nils] 97,.blk a.d 97,.blk b.d 97] ⟨rfl,.inl rfl,.inl rfl,rfl⟩ ?_
    exact ⟨fun z1=>hRj true _ ⟨rfl,rfl,rfl,rfl,rfl,rfl,trivial⟩ (.inl ⟨rfl,z1⟩),fun z1=>hRj false _ ⟨rfl,rfl,rfl,rfl,rfl,rfl,trivial⟩ (.inr ⟨rfl,z1⟩)⟩
   | false =>
    refine turnTo [.old 0,.old 1,.old 3,.old 2] [(1,.ptr 0 0),(2,.ptr 1 0),(3,.fp [.int k,.int n,.str of,.str s,.sl 5 ((foldEs (args.take j)).map Expr.g)] 0),(6,.ptr 2 0),(7,.ptr 3 0)] [.blk [.g (.int k),.g (.int n),.g (.str of),.g (.str s),.g (.sl 5 (args.map Expr.g))] 97,.blk [.g (.int 0),.g (.int 0),.g (.str []),.g (.str []),.nils] 97,.blk a.d 97,.blk b.d 97] ⟨rfl,.inl rfl,.inl rfl,rfl⟩ ?_
    exact ⟨fun z1=>hRj true _ ⟨rfl,rfl,rfl,rfl,rfl,rfl,trivial⟩ (.inl ⟨rfl,z1⟩),fun z1=>hRj false _ ⟨rfl,rfl,rfl,rfl,rfl,rfl,trivial⟩ (.inr ⟨rfl,z1⟩)⟩
  refine stepJ (by rfl) ?_
  refine joinJ (by rfl) (ι:=Bool) (fun c=>[(1,.ptr 0 0),(2,.ptr 1 0),(3,.fp [.int k,.int n,.str of,.str s,.sl 5 ((foldEs (args.take j)).map Expr.g)] 0),(6,.ptr 2 0),(7,.ptr 3 0),(8,bD i (b.n=0)),(48,bD c (b.k=1))])
   (fun _=>[.blk [.g (.int k),.g (.int n),.g (.str of),.g (.str s),.g (.sl 5 (args.map Expr.g))] 97,.blk [.g (.int 0),.g (.int 0),.g (.str []),.g (.str []),.nils] 97,.blk a.d 97,.blk b.d 97])
   (fun c=>(c=true/\a.k=1)\/(c=false/\¬a.k=1)) (fun e1 c hc=>?_) (fun Rc hRc=>?_)
  rotate_left
  ·exact ⟨fun z1=>hRc true _ ⟨rfl,rfl,rfl,rfl,rfl,rfl,rfl,trivial⟩ (.inl ⟨rfl,z1⟩),fun z1=>hRc false _ ⟨rfl,rfl,rfl,rfl,rfl,rfl,rfl,trivial⟩ (.inr ⟨rfl,z1⟩)⟩
  have two:a.k=1->b.k=1->out=.mk 1 (doI n a.n b.n) [] [] []:=fun ha hb=>e.trans (by unfold foldT;rw[if_pos ⟨ha,hb⟩])
  rcases hc with ⟨rfl,ha⟩ | ⟨rfl,ha⟩
  ·refine ⟨fun hb1=>callIs (.inl rfl) (Do_any n a.n b.n) ⟨rfl,retE0 (two ha hb1)⟩,fun hb1=>?_⟩
   have hab1:¬(a.k=1/\b.k=1):=fun h=>hb1 h.2
   rcases hz with ⟨rfl,hz⟩ | ⟨rfl,hz⟩
   ·exact absurd hz hb1
   exact ⟨fun y1=>⟨fun y2=>⟨fun y3=>⟨rfl,agg_of (e.trans (by unfold foldT;rw[if_neg hab1,if_neg (fun h=>hb1 h.1.1),if_pos ⟨y1,y2,y3⟩]))⟩,fun y3=>⟨rfl,retEG (e.trans (by unfold foldT;rw[if_neg hab1,if_neg (fun h=>hb1 h.1.1),if_neg (fun h=>by omega),h5])) (by rw[htl])⟩⟩,fun y2=>⟨rfl,retEG (e.trans (by unfold foldT;rw[if_neg hab1,if_neg (fun h=>hb1 h.1.1),if_neg (fun h=>by omega),h5])) (by rw[htl])⟩⟩,fun y1=>⟨rfl,retEG (e.trans (by unfold foldT;rw[if_neg hab1,if_neg (fun h=>hb1 h.1.1),if_neg (fun h=>by omega),h5])) (by rw[htl])⟩⟩
  have hab1:¬(a.k=1/\b.k=1):=fun h=>ha h.1
  rcases hz with ⟨rfl,hz⟩ | ⟨rfl,hz⟩
  rotate_left
  ·exact ⟨fun y1=>⟨fun y2=>⟨fun y3=>⟨rfl,agg_of (e.trans (by unfold foldT;rw[if_neg hab1,if_neg (fun h=>hz h.1.1),if_pos ⟨y1,y2,y3⟩]))⟩,fun y3=>⟨rfl,retEG (e.trans (by unfold foldT;rw[if_neg hab1,if_neg (fun h=>hz h.1.1),if_neg (fun h=>by omega),h5])) (by rw[htl])⟩⟩,fun y2=>⟨rfl,retEG (e.trans (by unfold foldT;rw[if_neg hab1,if_neg (fun h=>hz h.1.1),if_neg (fun h=>by omega),h5])) (by rw[htl])⟩⟩,fun y1=>⟨rfl,retEG (e.trans (by unfold foldT;rw[if_neg hab1,if_neg (fun h=>hz h.1.1),if_neg (fun h=>by omega),h5])) (by rw[htl])⟩⟩
  refine ⟨fun b0=>?_,fun b0=>?_⟩
  rotate_left
  ·exact ⟨fun y1=>⟨fun y2=>⟨fun y3=>⟨rfl,agg_of (e.trans (by unfold foldT;rw[if_neg hab1,if_neg (fun h=>b0 h.1.2),if_pos ⟨y1,y2,y3⟩]))⟩,fun y3=>⟨rfl,retEG (e.trans (by unfold foldT;rw[if_neg hab1,if_neg (fun h=>b0 h.1.2),if_neg (fun h=>by omega),h5])) (by rw[htl])⟩⟩,fun y2=>⟨rfl,retEG (e.trans (by unfold foldT;rw[if_neg hab1,if_neg (fun h=>b0 h.1.2),if_neg (fun h=>by omega),h5])) (by rw[htl])⟩⟩,fun y1=>⟨rfl,retEG (e.trans (by unfold foldT;rw[if_neg hab1,if_neg (fun h=>b0 h.1.2),if_neg (fun h=>by omega),h5])) (by rw[htl])⟩⟩
  have zr:zeroOp n->out=a:=fun h=>e.trans (by unfold foldT;rw[if_neg hab1,if_pos ⟨⟨hz,b0⟩,h⟩])
  refine ⟨fun z1=>⟨rfl,agg_of (zr (.inl z1))⟩,fun z1=>⟨fun z2=>⟨rfl,agg_of (zr (.inr (.inl z2)))⟩,fun z2=>⟨fun z3=>⟨rfl,agg_of (zr (.inr (.inr (.inl z3))))⟩,fun z3=>⟨fun z4=>⟨rfl,agg_of (zr (.inr (.inr (.inr (.inl z4)))))⟩,fun z4=>⟨fun z5=>⟨rfl,agg_of (zr (.inr (.inr (.inr (.inr (.inl z5))))))⟩,fun z5=>⟨fun z6=>⟨rfl,agg_of (zr (.inr (.inr (.inr (.inr (.inr z6))))))⟩,fun z6=>?_⟩⟩⟩⟩⟩⟩
  have hz0:¬zeroOp n:=by unfold zeroOp;omega
  exact ⟨fun y1=>⟨fun y2=>⟨fun y3=>⟨rfl,agg_of (e.trans (by unfold foldT;rw[if_neg hab1,if_neg (fun h=>hz0 h.2),if_pos ⟨y1,y2,y3⟩]))⟩,fun y3=>⟨rfl,retEG (e.trans (by unfold foldT;rw[if_neg hab1,if_neg (fun h=>hz0 h.2),if_neg (fun h=>by omega),h5])) (by rw[htl])⟩⟩,fun y2=>⟨rfl,retEG (e.trans (by unfold foldT;rw[if_neg hab1,if_neg (fun h=>hz0 h.2),if_neg (fun h=>by omega),h5])) (by rw[htl])⟩⟩,fun y1=>⟨rfl,retEG (e.trans (by unfold foldT;rw[if_neg hab1,if_neg (fun h=>hz0 h.2),if_neg (fun h=>by omega),h5])) (by rw[htl])⟩⟩
end Go.Proofs.Ythcmdjkaepclhaa
namespace Barb
open Go Go.Dm Go.Eng Go.Proofs.Ythcmdjkaepclhaa
theorem foldS_eq (x:Stmt):foldS x=foldH x.k x.s (foldEs x.xs) (foldSs x.b) (foldSs x.e):=by
 obtain ⟨k,s,xs,b,e⟩:=x
 rw[foldS];rfl
theorem foldSs_cons (x:Stmt) (l:List Stmt):foldSs (x :: l)=foldS x++if x.k=5 then [] else foldSs l:=by
 obtain ⟨k,s,xs,b,e⟩:=x
 rw[foldSs];rfl
theorem foldSs_nil:foldSs []=[]:=by rw[foldSs]
theorem foldH_len (k:Int) (s:Str) (xs:List Expr) (b e:List Stmt):(foldH k s xs b e).length<=1+b.length+e.length:=by
 unfold foldH
 dsimp only
 split
 ·omega
 ·split
  ·omega
  ·split
   ·simp
   ·simp only[List.length_cons,List.length_nil];omega
theorem foldSs_len:∀ (n:Nat) (l:List Stmt),stmtsE n l=0->((foldSs l).length:Int)<=stmtsN n l
 | 0,_,h=>by rw[stmtsE] at h;exact absurd h (by decide)
 | n+1,l,h=>by
  rw[stmtsE] at h
  have e:=firstE_all h
  clear h
  induction l with
  | nil=>rw[stmtsN_nil,foldSs_nil];simp
  | cons x l il =>
   obtain ⟨_,_,_,hbE,heE⟩:=stmtE_inv (e x List.mem_cons_self)
   have h1:=foldSs_len n x.b hbE
   have h2:=foldSs_len n x.e heE
   have h3:=il (fun y hy=>e y (List.mem_cons_of_mem _ hy))
   have h4:=foldH_len x.k x.s (foldEs x.xs) (foldSs x.b) (foldSs x.e)
   have h5:=many_pos (n+1) l
   rw[stmtsN_cons,foldSs_cons,foldS_eq,List.length_append]
   push_cast
   split
   ·simp only[List.length_nil];omega
   ·omega
theorem stmtsN_mem {n:Nat}:∀ {l:List Stmt} {x:Stmt},x∈l->stmtsN n x.b+stmtsN n x.e<=stmtsN (n+1) l
 | [],_,h=>by simp at h
 | y :: l,x,h=>by
  rw[stmtsN_cons]
  have p1:=many_pos n y.b
  have p2:=many_pos n y.e
  have p3:=many_pos (n+1) l
  rcases List.mem_cons.1 h with rfl | h
  ·omega
  ·have:=stmtsN_mem (n:=n) h
   omega
end Barb
namespace Go.Proofs.Ythcmdjkaepclhaa
open Go Go.Dm Go.Eng Go.RowKit Barb
theorem retRowS {h:Heap} {i:Nat} {l m:List Barb.Stmt} {t:TypeId} (hi:h[i]?=some (.row (l.map Stmt.g) t 5)) (e:l=m):RetTo (Is (.g (.sl 5 (m.map Stmt.g)))) h (.row i):=by
 subst e
 exact retIs (.inl (by simp only[conv,kp,hi]))
set_option maxRecDepth 20000 in
set_option maxHeartbeats 8000000 in
theorem foldSs_any:∀ (n:Nat) (l:List Barb.Stmt),stmtsE n l=0->stmtsN n l<=300->CT Try.prog [] 51 [.g (.sl 5 (l.map Stmt.g))] (Is (.g (.sl 5 ((Barb.foldSs l).map Stmt.g)))):=by
 intro n
 induction n with
 | zero=>intro l hl;exact absurd hl (by unfold stmtsE;decide)
 | succ n ih =>
  intro l hE hN
  have ll:(l.map Stmt.g).length=l.length:=List.length_map _
  have hlen:=foldSs_len (n+1) l hE
  have hl300:=(stmtsE_I (n+1) l hE hN).1
  rw[stmtsE] at hE
  refine enter hT hF hM Try.func51 rfl 101 rfl (by kernel_rfl) [.tmp 2] rfl [.g (.sl 5 (l.map Stmt.g))] rfl _ ?_
  refine loopR (ι:=Nat × List Barb.Stmt) (fun i=>[(3,.row 0),(10,.g (.sl 5 (l.map Stmt.g))),(11,.g (.int (l.map Stmt.g).length)),(12,.g (.int (i.1:Int)))]) (fun i=>[.row (i.2.map Stmt.g) 93 5])
   (fun i=>i.1<=l.length/\Barb.foldSs l=i.2++Barb.foldSs (l.drop i.1)) (fun i=>l.length - i.1)
   ⟨(0,[]),[.nil 93 5],⟨rfl,.inl rfl,.inr ⟨.inr rfl,lk rfl,lk rfl,lk rfl,trivial⟩,rfl⟩,Nat.zero_le _,by simp⟩ ?_
  rintro Rd hRd ⟨i,out⟩ ⟨hi,hout⟩
  dsimp only at hi hout
  have hol:out.length<=300:=by have:=congrArg List.length hout;rw[List.length_append] at this;omega
  refine ⟨fun c1=>?_,fun c1=>?_⟩
  rotate_left
  ·have hie:i=l.length:=by have:¬(i:Int) < ((l.map Stmt.g).length:Nat):=c1;omega
   rw[hie,List.drop_length,foldSs_nil,List.append_nil] at hout
   exact ⟨rfl,retRowS rfl hout.symm⟩
  have hil:i < l.length:=by have:(i:Int) < ((l.map Stmt.g).length:Nat):=c1;omega
  have hmem:l[i]∈l:=List.getElem_mem hil
  obtain ⟨hk,hok,hxE,hbE,heE⟩:=stmtE_inv (firstE_all hE _ hmem)
  have hNN:=stmtsN_mem (n:=n) hmem
  have p1:=many_pos n l[i].b
  have p2:=many_pos n l[i].e
  have cb:=ih l[i].b hbE (by omega)
  have ce:=ih l[i].e heE (by omega)
  rw[List.drop_eq_getElem_cons hil,foldSs_cons,foldS_eq] at hout
  unfold stmtOk at hok
  have g0:=Stmt.g_eq l[i]
  generalize hy:l[i]=y at *
  have lx:(y.xs.map Expr.g).length=y.xs.length:=List.length_map _
  refine ⟨i,_,rfl,(gm hil).trans (congrArg some ((congrArg Stmt.g hy).trans g0)),?_⟩
  refine loopR (ι:=Nat) (fun j=>[(3,.row 0),(5,.ptr 1 0),(6,.ptr 2 0),(10,.g (.sl 5 (l.map Stmt.g))),(11,.g (.int (l.map Stmt.g).length)),(12,.g (.int (i:Int))),(19,.g (.sl 5 (y.xs.map Expr.g))),(20,.g (.int (y.xs.map Expr.g).length)),(21,.g (.int (j:Int)))])
   (fun j=>[.row (out.map Stmt.g) 93 5,.blk y.d 93,.blk [.g (.int y.k),.g (.str y.s),.row 3,.g (.sl 5 (y.b.map Stmt.g)),.g (.sl 5 (y.e.map Stmt.g))] 93,.row ((foldEs (y.xs.take j)).map Expr.g) 97 5])
   (fun j=>j<=y.xs.length) (fun j=>y.xs.length - j)
   ⟨0,[.old 0,.old 1,.old 2,.nil 97 5],⟨rfl,.inr ⟨⟨rfl,rfl,rfl⟩,⟨rfl,.inl rfl⟩,⟨rfl,.inr ⟨lk rfl,lk rfl,.inr rfl,lk rfl,lk rfl,trivial⟩⟩,⟨rfl,rfl,rfl⟩,trivial⟩,.inr ⟨lk rfl,lk rfl,lk rfl,lk rfl,lk rfl,lk rfl,lk rfl,lk rfl,lk rfl,trivial⟩,rfl⟩,Nat.zero_le _⟩ ?_
  intro Rj hRj j hj
  refine ⟨fun d1=>?_,fun d1=>?_⟩
  ·have hjl:j < y.xs.length:=by have:(j:Int) < ((y.xs.map Expr.g).length:Nat):=d1;omega
   have hnext:foldEs (y.xs.take (j+1))=foldEs (y.xs.take j)++[Barb.foldE y.xs[j]]:=by rw[foldEs_map,foldEs_map,take_one hjl,List.map_append];rfl
   have hll:(foldEs (y.xs.take j)).length<=2:=by rw[foldEs_len,List.length_take];omega
   have hc:=foldE_any 12 y.xs[j] (hxE _ (List.getElem_mem hjl))
   generalize foldEs (y.xs.take j)=row at hnext hll
   generalize Barb.foldE y.xs[j]=z at hc hnext
   refine ⟨j,_,rfl,(gm hjl).trans (congrArg some (Expr.g_eq _)),?_⟩
   refine ⟨some 2000,rfl,?_⟩
   refine ⟨_,_,.inl rfl,hc,rfl,?_⟩
   refine ⟨[gX z],rfl,rfl,⟨rfl,rfl,rfl,rfl,rfl,trivial⟩,⟨_,rfl⟩,?_⟩
   refine ⟨⟨by simp[maxLen];omega,by simp;omega⟩,?_⟩
   refine ⟨_,I64.wrap (by unfold I64;omega),?_⟩
   exact hRj _ _ _ ⟨j+1,[.old 0,.old 1,.old 2,.old 6],⟨rfl,.inr ⟨⟨rfl,rfl,rfl⟩,⟨rfl,.inl rfl⟩,⟨rfl,.inl rfl⟩,⟨by rw[hnext,List.map_append,List.map_singleton,gX_eq],rfl,rfl⟩,trivial⟩,.inr ⟨lk rfl,lk rfl,lk rfl,lk rfl,lk rfl,lk rfl,lk rfl,lk rfl,lkI (by push_cast;rfl),trivial⟩,rfl⟩,hjl,by show y.xs.length - (j+1) < y.xs.length - j;omega⟩
  have hje:j=y.xs.length:=by have:¬(j:Int) < ((y.xs.map Expr.g).length:Nat):=d1;omega
  subst hje
  rw[List.take_length]
  refine ⟨none,rfl,?_⟩
  refine ⟨_,_,.inl rfl,cb,rfl,?_⟩
  refine ⟨_,_,.inl rfl,ce,rfl,?_⟩
  have hx0:0 < (foldEs y.xs).length:=by rw[foldEs_len];omega
  have hxd:(foldEs y.xs).getD 0 noE=(foldEs y.xs)[0]:=by simp[hx0]
  have hlr:((foldEs y.xs).map Expr.g).length=(foldEs y.xs).length:=List.length_map _
  refine ⟨0,rfl,(by rw[hlr];exact hx0),?_⟩
  refine ⟨_,(gm hx0).trans (congrArg some (Expr.g_eq _)),?_⟩
  have stay:∀ new:List Barb.Stmt,¬y.k=5->foldH y.k y.s (foldEs y.xs) (Barb.foldSs y.b) (Barb.foldSs y.e)=new->Barb.foldSs l=(out++new)++Barb.foldSs (l.drop (i+1)):=fun new h5 hn=>by
   rw[hout,if_neg h5,hn,List.append_assoc]
  have halt:∀ new:List Barb.Stmt,y.k=5->foldH y.k y.s (foldEs y.xs) (Barb.foldSs y.b) (Barb.foldSs y.e)=new->out++new=Barb.foldSs l:=fun new h5 hn=>by
   rw[hout,if_pos h5,hn,List.append_nil]
  have hroom:(foldH y.k y.s (foldEs y.xs) (Barb.foldSs y.b) (Barb.foldSs y.e)).length+out.length<=300:=by
   have:=congrArg List.length hout
   rw[List.length_append,List.length_append] at this
   omega
  have cA:y.k=3->(foldEs y.xs)[0].k=1->¬(foldEs y.xs)[0].n=0->foldH y.k y.s (foldEs y.xs) (Barb.foldSs y.b) (Barb.foldSs y.e)=Barb.foldSs y.b:=fun a b c=>by
   unfold foldH;dsimp only;rw[hxd,if_pos ⟨a,b,c⟩]
  have cB:y.k=3->(foldEs y.xs)[0].k=1->(foldEs y.xs)[0].n=0->foldH y.k y.s (foldEs y.xs) (Barb.foldSs y.b) (Barb.foldSs y.e)=Barb.foldSs y.e:=fun a b c=>by
   unfold foldH;dsimp only;rw[hxd,if_neg (fun h=>h.2.2 c),if_pos ⟨a,b⟩]
  have cC:y.k=4->(foldEs y.xs)[0].k=1->(foldEs y.xs)[0].n=0->foldH y.k y.s (foldEs y.xs) (Barb.foldSs y.b) (Barb.foldSs y.e)=[]:=fun a b c=>by
   unfold foldH;dsimp only;rw[hxd,if_neg (fun h=>by omega),if_neg (fun h=>by omega),if_pos ⟨a,b,c⟩]
  have cD:¬(y.k=3/\(foldEs y.xs)[0].k=1)->¬(y.k=4/\(foldEs y.xs)[0].k=1/\(foldEs y.xs)[0].n=0)->foldH y.k y.s (foldEs y.xs) (Barb.foldSs y.b) (Barb.foldSs y.e)=[.mk y.k y.s (foldEs y.xs) (Barb.foldSs y.b) (Barb.foldSs y.e)]:=fun a b=>by
   unfold foldH;dsimp only;rw[hxd,if_neg (fun h=>a ⟨h.1,h.2.1⟩),if_neg a,if_neg b]
  generalize hH:foldH y.k y.s (foldEs y.xs) (Barb.foldSs y.b) (Barb.foldSs y.e)=H at *
  generalize Barb.foldSs y.b=bl at *
  generalize Barb.foldSs y.e=el at *
  refine ⟨fun k3=>⟨fun x1=>?_,fun x1=>?_⟩,fun k3=>?_⟩
  ·have hk5:¬y.k=5:=by omega
   refine ⟨0,rfl,(by rw[hlr];exact hx0),_,(gm hx0).trans (congrArg some (Expr.g_eq _)),fun x2=>?_,fun x2=>?_⟩
   ·have HF:=cA k3 x1 x2
    rw[HF] at hroom
    refine ⟨⟨by simp only[maxLen,List.length_map];omega,by simp only[List.length_map];omega⟩,?_⟩
    refine ⟨fun h=>absurd h hk5,fun _=>?_⟩
    exact ⟨_,I64.wrap (by unfold I64;omega),hRd _ _ _ ⟨(i+1,out++bl),[.old 4],⟨rfl,.inr ⟨⟨(by rw[List.map_append]),rfl,rfl⟩,trivial⟩,.inr ⟨lk rfl,lk rfl,lk rfl,lkI (by push_cast;rfl),trivial⟩,rfl⟩,⟨hil,stay _ hk5 HF⟩,by show l.length - (i+1) < l.length - i;omega⟩⟩
   ·have HF:=cB k3 x1 x2
    rw[HF] at hroom
    refine ⟨fun _=>⟨fun _=>?_,fun h=>absurd x1 h⟩,fun h=>absurd k3 h⟩
    refine ⟨⟨by simp only[maxLen,List.length_map];omega,by simp only[List.length_map];omega⟩,?_⟩
    refine ⟨fun h=>absurd h hk5,fun _=>?_⟩
    exact ⟨_,I64.wrap (by unfold I64;omega),hRd _ _ _ ⟨(i+1,out++el),[.old 4],⟨rfl,.inr ⟨⟨(by rw[List.map_append]),rfl,rfl⟩,trivial⟩,.inr ⟨lk rfl,lk rfl,lk rfl,lkI (by push_cast;rfl),trivial⟩,rfl⟩,⟨hil,stay _ hk5 HF⟩,by show l.length - (i+1) < l.length - i;omega⟩⟩
  ·refine ⟨fun _=>⟨fun h=>absurd h x1,fun _=>?_⟩,fun h=>absurd k3 h⟩
   refine ⟨fun h=>absurd h (by omega),fun _=>?_⟩
   have HF:=cD (fun h=>x1 h.2) (fun h=>x1 h.2.1)
   rw[HF] at hroom
   simp only[List.length_cons,List.length_nil] at hroom
   refine ⟨[[.int y.k,.str y.s,.sl 5 ((foldEs y.xs).map Expr.g),.sl 5 (bl.map Stmt.g),.sl 5 (el.map Stmt.g)]],rfl,rfl,⟨rfl,rfl,seesRow rfl rfl,rfl,rfl,trivial⟩,?_⟩
   refine ⟨⟨by simp[maxLen];omega,by simp;omega⟩,?_⟩
   refine ⟨fun hk5=>⟨rfl,retRowS (l:=out++[.mk y.k y.s (foldEs y.xs) bl el]) (congrArg (fun z=>some (Obj.row z 93 5)) (by rw[List.map_append];exact congrArg (fun z=>out.map Stmt.g++[z]) (Stmt.g_eq (.mk y.k y.s (foldEs y.xs) bl el)).symm)) (halt _ hk5 HF)⟩,fun hk5=>?_⟩
   exact ⟨_,I64.wrap (by unfold I64;omega),hRd _ _ _ ⟨(i+1,out++[.mk y.k y.s (foldEs y.xs) bl el]),[.old 5],⟨rfl,.inr ⟨⟨(by rw[List.map_append];exact congrArg (fun z=>out.map Stmt.g++[z]) (Stmt.g_eq (.mk y.k y.s (foldEs y.xs) bl el)).symm),rfl,rfl⟩,trivial⟩,.inr ⟨lk rfl,lk rfl,lk rfl,lkI (by push_cast;rfl),trivial⟩,rfl⟩,⟨hil,stay _ hk5 HF⟩,by show l.length - (i+1) < l.length - i;omega⟩⟩
  ·refine ⟨fun h=>absurd h k3,fun _=>?_⟩
   refine ⟨fun k4=>⟨fun x1=>?_,fun x1=>?_⟩,fun k4=>?_⟩
   ·refine ⟨0,rfl,(by rw[hlr];exact hx0),_,(gm hx0).trans (congrArg some (Expr.g_eq _)),fun x2=>?_,fun x2=>?_⟩
    ·have hk5:¬y.k=5:=by omega
     have HF:=cC k4 x1 x2
     refine ⟨fun h=>absurd h hk5,fun _=>?_⟩
     exact ⟨_,I64.wrap (by unfold I64;omega),hRd _ _ _ ⟨(i+1,out++[]),[.old 0],⟨rfl,.inr ⟨⟨(by rw[List.append_nil]),rfl,rfl⟩,trivial⟩,.inr ⟨lk rfl,lk rfl,lk rfl,lkI (by push_cast;rfl),trivial⟩,rfl⟩,⟨hil,stay _ hk5 HF⟩,by show l.length - (i+1) < l.length - i;omega⟩⟩
    ·skip
     have HF:=cD (fun h=>k3 h.1) (fun h=>x2 h.2.2)
     rw[HF] at hroom
     simp only[List.length_cons,List.length_nil] at hroom
     refine ⟨[[.int y.k,.str y.s,.sl 5 ((foldEs y.xs).map Expr.g),.sl 5 (bl.map Stmt.g),.sl 5 (el.map Stmt.g)]],rfl,rfl,⟨rfl,rfl,seesRow rfl rfl,rfl,rfl,trivial⟩,?_⟩
     refine ⟨⟨by simp[maxLen];omega,by simp;omega⟩,?_⟩
     refine ⟨fun hk5=>⟨rfl,retRowS (l:=out++[.mk y.k y.s (foldEs y.xs) bl el]) (congrArg (fun z=>some (Obj.row z 93 5)) (by rw[List.map_append];exact congrArg (fun z=>out.map Stmt.g++[z]) (Stmt.g_eq (.mk y.k y.s (foldEs y.xs) bl el)).symm)) (halt _ hk5 HF)⟩,fun hk5=>?_⟩
     exact ⟨_,I64.wrap (by unfold I64;omega),hRd _ _ _ ⟨(i+1,out++[.mk y.k y.s (foldEs y.xs) bl el]),[.old 5],⟨rfl,.inr ⟨⟨(by rw[List.map_append];exact congrArg (fun z=>out.map Stmt.g++[z]) (Stmt.g_eq (.mk y.k y.s (foldEs y.xs) bl el)).symm),rfl,rfl⟩,trivial⟩,.inr ⟨lk rfl,lk rfl,lk rfl,lkI (by push_cast;rfl),trivial⟩,rfl⟩,⟨hil,stay _ hk5 HF⟩,by show l.length - (i+1) < l.length - i;omega⟩⟩
   ·skip
    have HF:=cD (fun h=>k3 h.1) (fun h=>x1 h.2.1)
    rw[HF] at hroom
    simp only[List.length_cons,List.length_nil] at hroom
    refine ⟨[[.int y.k,.str y.s,.sl 5 ((foldEs y.xs).map Expr.g),.sl 5 (bl.map Stmt.g),.sl 5 (el.map Stmt.g)]],rfl,rfl,⟨rfl,rfl,seesRow rfl rfl,rfl,rfl,trivial⟩,?_⟩
    refine ⟨⟨by simp[maxLen];omega,by simp;omega⟩,?_⟩
    refine ⟨fun hk5=>⟨rfl,retRowS (l:=out++[.mk y.k y.s (foldEs y.xs) bl el]) (congrArg (fun z=>some (Obj.row z 93 5)) (by rw[List.map_append];exact congrArg (fun z=>out.map Stmt.g++[z]) (Stmt.g_eq (.mk y.k y.s (foldEs y.xs) bl el)).symm)) (halt _ hk5 HF)⟩,fun hk5=>?_⟩
    exact ⟨_,I64.wrap (by unfold I64;omega),hRd _ _ _ ⟨(i+1,out++[.mk y.k y.s (foldEs y.xs) bl el]),[.old 5],⟨rfl,.inr ⟨⟨(by rw[List.map_append];exact congrArg (fun z=>out.map Stmt.g++[z]) (Stmt.g_eq (.mk y.k y.s (foldEs y.xs) bl el)).symm),rfl,rfl⟩,trivial⟩,.inr ⟨lk rfl,lk rfl,lk rfl,lkI (by push_cast;rfl),trivial⟩,rfl⟩,⟨hil,stay _ hk5 HF⟩,by show l.length - (i+1) < l.length - i;omega⟩⟩
   ·skip
    have HF:=cD (fun h=>k3 h.1) (fun h=>k4 h.1)
    rw[HF] at hroom
    simp only[List.length_cons,List.length_nil] at hroom
    refine ⟨[[.int y.k,.str y.s,.sl 5 ((foldEs y.xs).map Expr.g),.sl 5 (bl.map Stmt.g),.sl 5 (el.map Stmt.g)]],rfl,rfl,⟨rfl,rfl,seesRow rfl rfl,rfl,rfl,trivial⟩,?_⟩
    refine ⟨⟨by simp[maxLen];omega,by simp;omega⟩,?_⟩
    refine ⟨fun hk5=>⟨rfl,retRowS (l:=out++[.mk y.k y.s (foldEs y.xs) bl el]) (congrArg (fun z=>some (Obj.row z 93 5)) (by rw[List.map_append];exact congrArg (fun z=>out.map Stmt.g++[z]) (Stmt.g_eq (.mk y.k y.s (foldEs y.xs) bl el)).symm)) (halt _ hk5 HF)⟩,fun hk5=>?_⟩
    exact ⟨_,I64.wrap (by unfold I64;omega),hRd _ _ _ ⟨(i+1,out++[.mk y.k y.s (foldEs y.xs) bl el]),[.old 5],⟨rfl,.inr ⟨⟨(by rw[List.map_append];exact congrArg (fun z=>out.map Stmt.g++[z]) (Stmt.g_eq (.mk y.k y.s (foldEs y.xs) bl el)).symm),rfl,rfl⟩,trivial⟩,.inr ⟨lk rfl,lk rfl,lk rfl,lkI (by push_cast;rfl),trivial⟩,rfl⟩,⟨hil,stay _ hk5 HF⟩,by show l.length - (i+1) < l.length - i;omega⟩⟩
theorem foldF_g (f:Barb.Fun):(foldF f).g=[.str f.name,.bool f.isOpen,.sl 1 (f.params.map strG),.sl 5 ((Barb.foldSs f.body).map Stmt.g)]:=Fun.g_eq _
theorem foldU_g (u:Barb.Unit):(foldU u).g=[.str u.name,.sl 1 (u.vars.map strG),.sl 2 (u.arrays.map Arr.g),.sl 4 ((u.funcs.map foldF).map Fun.g)]:=rfl
noncomputable def foldV (p:List Barb.Unit):List Barb.Unit:=if progE p=0 then foldP p else []
set_option maxRecDepth 20000 in
set_option maxHeartbeats 8000000 in
theorem foldProgram_any (p:List Barb.Unit) (hp:progI p) (hN:fewP p):CT Try.prog [] 29 [.g (.sl 4 (p.map Unit.g))] (Is (.tuple [.g (.sl 4 ((foldV p).map Unit.g)),.g (.int (progE p))])):=by
 have lp:(p.map Unit.g).length=p.length:=List.length_map _
 refine enter hT hF hM Try.func29 rfl 61 rfl (by kernel_rfl) [.tmp 2,.tmp 3] rfl [.g (.sl 4 (p.map Unit.g))] rfl _ ?_
 refine callIs (.inl rfl) (NamesCheck_any p hp) ?_
 refine ⟨fun h=>⟨rfl,retNE rfl (by unfold foldV;rw[if_neg h];rfl)⟩,fun h=>?_⟩
 have hgood:progE p=0:=by omega
 obtain ⟨hp5,hUE,_,hUS⟩:=progE_inv hgood
 have hV:foldV p=foldP p:=by unfold foldV;rw[if_pos hgood]
 rw[hV,hgood]
 refine loopR (ι:=Nat) (fun i=>[(5,.row 0),(16,.g (.sl 4 (p.map Unit.g))),(17,.g (.int (p.map Unit.g).length)),(18,.g (.int (i:Int)))]) (fun i=>[.row (((p.take i).map foldU).map Unit.g) 36 4])
  (fun i=>i<=p.length) (fun i=>p.length - i)
  ⟨0,[.nil 36 4],⟨rfl,.inl rfl,.inr ⟨.inr rfl,lk rfl,lk rfl,lk rfl,trivial⟩,rfl⟩,Nat.zero_le _⟩ ?_
 intro Rd hRd i hi
 refine ⟨fun c1=>?_,fun c1=>?_⟩
 rotate_left
 ·have hie:i=p.length:=by have:¬(i:Int) < ((p.map Unit.g).length:Nat):=c1;omega
  exact ⟨rfl,retRE rfl rfl (by rw[hie,List.take_length];rfl)⟩
 have hil:i < p.length:=by have:(i:Int) < ((p.map Unit.g).length:Nat):=c1;omega
 have hmem:p[i]∈p:=List.getElem_mem hil
 obtain ⟨_,hv8,ha3,hf8,_,hAE,hFE⟩:=unitE_inv (hUE _ hmem)
 have hnext:(p.take (i+1)).map foldU=(p.take i).map foldU++[foldU p[i]]:=by rw[take_one hil,List.map_append];rfl
 have hol:((p.take i).map foldU).length<=5:=by rw[List.length_map,List.length_take];omega
 have hcall:∀ f∈p[i].funcs,CT Try.prog [] 51 [.g (.sl 5 (f.body.map Stmt.g))] (Is (.g (.sl 5 ((Barb.foldSs f.body).map Stmt.g)))):=fun f hf=>by
  have h3:=(manyN_ge p[i].funcs).1 f hf
  have h4:=hN _ hmem
  exact foldSs_any 12 f.body (funE_inv (hFE f hf)).2.2.2 (by omega)
 have hpl:∀ f∈p[i].funcs,f.params.length<=4:=fun f hf=>(funE_inv (hFE f hf)).2.1
 have hg:=foldU_g p[i]
 generalize (p.take i).map foldU=out at hnext hol hRd
 have hget:(p.map Unit.g)[i]?=some (Unit.g p[i]):=gm hil
 generalize p[i]=u at *
 have lv:(u.vars.map strG).length=u.vars.length:=List.length_map _
 have la:(u.arrays.map Arr.g).length=u.arrays.length:=List.length_map _
 have lf:(u.funcs.map Fun.g).length=u.funcs.length:=List.length_map _
 refine ⟨i,_,rfl,hget,?_⟩
 refine ⟨some 9995,[10],rfl,?_⟩
 refine ⟨⟨by simp only[maxLen];omega,by dsimp only;omega⟩,⟨by simp only[maxLen];omega,by dsimp only;omega⟩,?_⟩
 refine loopR (ι:=Nat) (fun j=>[(5,.row 0),(8,.ptr 4 0),(16,.g (.sl 4 (p.map Unit.g))),(17,.g (.int (p.map Unit.g).length)),(18,.g (.int (i:Int))),(32,.g (.sl 4 (u.funcs.map Fun.g))),(33,.g (.int (u.funcs.map Fun.g).length)),(34,.g (.int (j:Int)))])
  (fun j=>[.row (out.map Unit.g) 36 4,.blk u.d 36,.row (u.vars.map strG) 9 1,.row (u.arrays.map Arr.g) 59 2,.blk [.g (.str u.name),.row 2,.row 3,.row 5] 36,.row (((u.funcs.take j).map foldF).map Fun.g) 46 4])
  (fun j=>j<=u.funcs.length) (fun j=>u.funcs.length - j)
  ⟨0,[.old 0,.old 1,.old 2,.old 3,.old 4,.nil 46 4],⟨rfl,.inr ⟨⟨rfl,rfl,rfl⟩,⟨rfl,.inl rfl⟩,⟨rfl,rfl,rfl⟩,⟨rfl,rfl,rfl⟩,⟨rfl,.inr ⟨lk rfl,lk rfl,lk rfl,.inr rfl,trivial⟩⟩,⟨rfl,rfl,rfl⟩,trivial⟩,.inr ⟨lk rfl,lk rfl,lk rfl,lk rfl,lk rfl,lk rfl,lk rfl,lk rfl,trivial⟩,rfl⟩,Nat.zero_le _⟩ ?_
 intro Rj hRj j hj
 have hjf:((u.funcs.take j).map foldF).length<=8:=by rw[List.length_map,List.length_take];omega
 refine ⟨fun d1=>?_,fun d1=>?_⟩
 ·have hjl:j < u.funcs.length:=by have:(j:Int) < ((u.funcs.map Fun.g).length:Nat):=d1;omega
  have hfm:u.funcs[j]∈u.funcs:=List.getElem_mem hjl
  have hfn:(u.funcs.take (j+1)).map foldF=(u.funcs.take j).map foldF++[foldF u.funcs[j]]:=by rw[take_one hjl,List.map_append];rfl
  have hc:=hcall _ hfm
  have hp4:=hpl _ hfm
  have hfg:=foldF_g u.funcs[j]
  have hget:=(gm hjl:(u.funcs.map Fun.g)[j]?=some u.funcs[j].g)
  rw[Fun.g_eq] at hget
  generalize (u.funcs.take j).map foldF=row at hfn hjf hRj
  generalize u.funcs[j]=f at *
  have lpa:(f.params.map strG).length=f.params.length:=List.length_map _
  refine ⟨j,_,rfl,hget,?_⟩
  refine ⟨some 3008,rfl,?_⟩
  refine ⟨⟨by simp only[maxLen];omega,by dsimp only;omega⟩,?_⟩
  refine ⟨_,_,.inl rfl,hc,rfl,?_⟩
  refine ⟨[[.str f.name,.bool f.isOpen,.sl 1 (f.params.map strG),.sl 5 ((Barb.foldSs f.body).map Stmt.g)]],rfl,rfl,⟨rfl,rfl,rfl,rfl,trivial⟩,⟨_,rfl⟩,?_⟩
  refine ⟨⟨by simp[maxLen];omega,by simp;omega⟩,?_⟩
  refine ⟨_,I64.wrap (by unfold I64;omega),?_⟩
  exact hRj _ _ _ ⟨j+1,[.old 0,.old 1,.old 2,.old 3,.old 4,.old 9],⟨rfl,.inr ⟨⟨rfl,rfl,rfl⟩,⟨rfl,.inl rfl⟩,⟨rfl,rfl,rfl⟩,⟨rfl,rfl,rfl⟩,⟨rfl,.inl rfl⟩,⟨(by rw[hfn,List.map_append,List.map_singleton,hfg]),rfl,rfl⟩,trivial⟩,.inr ⟨lk rfl,lk rfl,lk rfl,lk rfl,lk rfl,lk rfl,lk rfl,lkI (by push_cast;rfl),trivial⟩,rfl⟩,hjl,by show u.funcs.length - (j+1) < u.funcs.length - j;omega⟩
 ·have hje:j=u.funcs.length:=by have:¬(j:Int) < ((u.funcs.map Fun.g).length:Nat):=d1;omega
  subst hje
  rw[List.take_length] at hjf ⊢
  refine ⟨[[.str u.name,.sl 1 (u.vars.map strG),.sl 2 (u.arrays.map Arr.g),.sl 4 ((u.funcs.map foldF).map Fun.g)]],rfl,rfl,⟨rfl,seesRow rfl rfl,seesRow rfl rfl,seesRow rfl rfl,trivial⟩,?_⟩
  refine ⟨⟨by simp[maxLen];omega,by simp;omega⟩,?_⟩
  refine ⟨_,I64.wrap (by unfold I64;omega),?_⟩
  exact hRd _ _ _ ⟨i+1,[.old 7],⟨rfl,.inr ⟨⟨(by rw[hnext,List.map_append,List.map_singleton,hg]),rfl,rfl⟩,trivial⟩,.inr ⟨lk rfl,lk rfl,lk rfl,lkI (by push_cast;rfl),trivial⟩,rfl⟩,hil,by show p.length - (i+1) < p.length - i;omega⟩
end Go.Proofs.Ythcmdjkaepclhaa
namespace Barb
open Go Go.Dm Go.Eng Go.Proofs.Ythcmdjkaepclhaa
theorem did_word {m n:Nat} (hm:m<=65535) (hn:n<=65535) (op:Nat):did op m n<=65535:=by
 match op with
 | 0=>exact Nat.le_trans (Nat.div_le_self _ _) hm
 | 1=>simp only[did];omega
 | 2=>simp only[did];omega
 | 3=>simp only[did];omega
 | 4=>exact Nat.le_trans Nat.and_le_left hm
 | 5=>exact or_le hm hn
 | 6=>exact xor_le hm hn
 | 7=>simp only[did];split<;>omega
 | 8=>simp only[did];split<;>omega
 | 9=>simp only[did];omega
 | k+10=>exact Nat.le_trans (Nat.div_le_self _ _) hm
theorem doI_word (op a b:Int):0<=doI op a b/\doI op a b<=65535:=by
 unfold doI
 split
 ·omega
 ·split
  ·have:=did_word (m:=a.toNat) (n:=b.toNat) (by omega) (by omega) op.toNat
   omega
  ·omega
theorem exprE_mono:∀ (n:Nat) (x:Expr),exprE n x=0->exprE (n+1) x=0
 | 0,.mk _ _ _ _ _,h=>by rw[exprE] at h;exact absurd h (by decide)
 | n+1,.mk k v of s args,h=>by
  obtain ⟨h1,h2,h3,h4,h5⟩:=exprE_inv h
  rw[exprE_succ,if_neg (fun h=>h h1),if_neg (by omega),if_neg (fun h=>h h3),if_neg h4]
  exact firstE_zero (fun y hy=>exprE_mono n y (h5 y hy))
theorem exprE_mk {n:Nat} {k v:Int} {of s:Str} {args:List Expr} (h1:1<=k/\k<=5) (h2:args.length<=4) (h3:exprOk k v of s args.length) (h4:¬exprBad k v) (h5:∀ y∈args,exprE n y=0):exprE (n+1) (.mk k v of s args)=0:=by
 rw[exprE,if_neg (fun h=>h h1),if_neg (by omega),if_neg (fun h=>h h3),if_neg h4]
 exact firstE_zero h5
theorem two_list {α:Type} {l:List α} (h:l.length=2):∃ a b,l=[a,b]:=by
 match l,h with
 | [a,b],_=>exact ⟨a,b,rfl⟩
theorem foldT_cases (n:Int) (of s:Str) (a b:Expr) (l:List Expr):foldT n of s a b l=.mk 1 (doI n a.n b.n) [] [] []\/foldT n of s a b l=a\/foldT n of s a b l=.mk 5 n of s l:=by
 unfold foldT
 split
 ·exact .inl rfl
 ·split
  ·exact .inr (.inl rfl)
  ·split
   ·exact .inr (.inl rfl)
   ·exact .inr (.inr rfl)
theorem foldE_cases (k n:Int) (of s:Str) (args:List Expr) (h2:k=5->args.length=2):foldE (.mk k n of s args)=.mk k n of s (foldEs args)\/(k=5/\((∃ v,0<=v/\v<=65535/\foldE (.mk k n of s args)=.mk 1 v [] [] [])\/∃ x∈args,foldE (.mk k n of s args)=foldE x)):=by
 rw[foldE]
 by_cases h5:k=5
 ·rw[if_pos h5]
  obtain ⟨x,y,rfl⟩:=two_list (h2 h5)
  rcases foldT_cases n of s ((foldEs [x,y]).getD 0 noE) ((foldEs [x,y]).getD 1 noE) (foldEs [x,y]) with h | h | h
  ·exact .inr ⟨h5,.inl ⟨_,(doI_word _ _ _).1,(doI_word _ _ _).2,h⟩⟩
  ·exact .inr ⟨h5,.inr ⟨x,List.mem_cons_self,by rw[h];simp[foldEs]⟩⟩
  ·exact .inl (by rw[h,h5])
 ·rw[if_neg h5];exact .inl rfl
theorem ok_two {k n:Int} {of s:Str} {m:Nat} (h:exprOk k n of s m) (h5:k=5):m=2:=by unfold exprOk at h;omega
theorem foldE_form:∀ (n:Nat) (x:Expr),exprE n x=0->exprE n (foldE x)=0
 | 0,.mk _ _ _ _ _,h=>by rw[exprE] at h;exact absurd h (by decide)
 | n+1,.mk k v of s args,h=>by
  obtain ⟨h1,h2,h3,h4,h5⟩:=exprE_inv h
  dsimp only[Expr.k,Expr.n,Expr.of,Expr.s,Expr.args] at h1 h2 h3 h4 h5
  rcases foldE_cases k v of s args (ok_two h3) with e | ⟨_,⟨w,w0,w1,e⟩ | ⟨x,hx,e⟩⟩
  ·rw[e]
   refine exprE_mk h1 (by rw[foldEs_len];exact h2) (by rw[foldEs_len];exact h3) h4 (fun y hy=>?_)
   rw[foldEs_map,List.mem_map] at hy
   obtain ⟨z,hz,rfl⟩:=hy
   exact foldE_form n z (h5 z hz)
  ·rw[e]
   exact exprE_mk (by decide) (by decide) (.inl ⟨rfl,rfl,rfl,rfl⟩) (by unfold exprBad;omega) (fun y hy=>by simp at hy)
  ·rw[e]
   exact exprE_mono n _ (foldE_form n x (h5 x hx))
structure Alike (p p':List Unit) (u u':Unit) (f f':Fun):Prop where
 var:∀ s,varP u f s->varP u' f' s
 arr:∀ s,arrP u s->arrP u' s
 call:∀ of s m,calledE p' u' of s m=calledE p u of s m
theorem foldF_find (s:Str):∀ l:List Fun,(l.map foldF).find? (fun f=>decide (f.name=s))=(l.find? (fun f=>decide (f.name=s))).map foldF
 | []=>rfl
 | f :: l=>by
  rw[List.map_cons,List.find?_cons,List.find?_cons]
  show (match decide (f.name=s) with | true=>some (foldF f) | false=>(l.map foldF).find? _)=_
  cases decide (f.name=s) with
  | true=>rfl
  | false=>exact foldF_find s l
theorem foldU_find (s:Str):∀ l:List Unit,(l.map foldU).find? (fun f=>decide (f.name=s))=(l.find? (fun f=>decide (f.name=s))).map foldU
 | []=>rfl
 | f :: l=>by
  rw[List.map_cons,List.find?_cons,List.find?_cons]
  show (match decide (f.name=s) with | true=>some (foldU f) | false=>(l.map foldU).find? _)=_
  cases decide (f.name=s) with
  | true=>rfl
  | false=>exact foldU_find s l
theorem calledIn_fold (u:Unit) (of s:Str) (m:Nat):calledIn (foldU u) of s m=calledIn u of s m:=by
 unfold calledIn
 rw[show (foldU u).funcs=u.funcs.map foldF from rfl,foldF_find]
 cases u.funcs.find? (fun f=>decide (f.name=s)) with
 | none=>rfl
 | some g=>rfl
theorem calledE_fold (p:List Unit) (u:Unit) (of s:Str) (m:Nat):calledE (foldP p) (foldU u) of s m=calledE p u of s m:=by
 unfold calledE
 by_cases h:of=[]
 ·rw[if_pos h,if_pos h];exact calledIn_fold u of s m
 ·rw[if_neg h,if_neg h,show foldP p=p.map foldU from rfl,foldU_find]
  cases p.find? (fun f=>decide (f.name=of)) with
  | none=>rfl
  | some v=>exact calledIn_fold v of s m
theorem fold_alike (p:List Unit) (u:Unit) (f:Fun):Alike p (foldP p) u (foldU u) f (foldF f):=⟨fun _ h=>h,fun _ h=>h,fun of s m=>calledE_fold p u of s m⟩
theorem exprS_mk {p:List Unit} {u:Unit} {f:Fun} {k n:Int} {of s:Str} {args:List Expr} (h:exprS1 p u f k of s args.length=0) (ha:∀ x∈args,exprS p u f x=0):exprS p u f (.mk k n of s args)=0:=by
 rw[exprS,if_neg (fun h'=>h' h),exprsS_first]
 exact firstE_zero ha
theorem exprS1_alike {p p':List Unit} {u u':Unit} {f f':Fun} (ha:Alike p p' u u' f f') {k:Int} {of s:Str} {m:Nat} (h:exprS1 p u f k of s m=0):exprS1 p' u' f' k of s m=0:=by
 unfold exprS1 at h ⊢
 by_cases h1:(k=2/\¬varP u f s)\/(k=3/\¬arrP u s)
 ·rw[if_pos h1] at h;omega
 rw[if_neg h1] at h
 rw[if_neg (fun hc=>h1 (hc.imp (fun ⟨a,b⟩=>⟨a,fun c=>b (ha.var _ c)⟩) (fun ⟨a,b⟩=>⟨a,fun c=>b (ha.arr _ c)⟩)))]
 by_cases h4:k=4
 ·rw[if_pos h4] at h ⊢;rw[ha.call];exact h
 ·rw[if_neg h4]
theorem foldE_sense {p p':List Unit} {u u':Unit} {f f':Fun} (ha:Alike p p' u u' f f'):∀ (n:Nat) (x:Expr),exprE n x=0->exprS p u f x=0->exprS p' u' f' (foldE x)=0
 | 0,.mk _ _ _ _ _,h,_=>by rw[exprE] at h;exact absurd h (by decide)
 | n+1,.mk k v of s args,h,hs=>by
  obtain ⟨_,_,h3,_,h5⟩:=exprE_inv h
  obtain ⟨s1,s2⟩:=exprS_inv hs
  dsimp only[Expr.k,Expr.n,Expr.of,Expr.s,Expr.args] at h3 h5 s1 s2
  rcases foldE_cases k v of s args (ok_two h3) with e | ⟨_,⟨w,_,_,e⟩ | ⟨x,hx,e⟩⟩
  ·rw[e]
   refine exprS_mk (by rw[foldEs_len];exact exprS1_alike ha s1) (fun y hy=>?_)
   rw[foldEs_map,List.mem_map] at hy
   obtain ⟨z,hz,rfl⟩:=hy
   exact foldE_sense ha n z (h5 z hz) (s2 z hz)
  ·rw[e]
   exact exprS_mk (by unfold exprS1;rw[if_neg (by omega),if_neg (by omega)]) (fun y hy=>by simp at hy)
  ·rw[e]
   exact foldE_sense ha n x (h5 x hx) (s2 x hx)
theorem stmtsE_mono:∀ (n:Nat) (l:List Stmt),stmtsE n l=0->stmtsE (n+1) l=0/\stmtsN (n+1) l=stmtsN n l
 | 0,_,h=>by rw[stmtsE] at h;exact absurd h (by decide)
 | n+1,l,h=>by
  rw[stmtsE] at h
  have e:=firstE_all h
  have e1:∀ x∈l,stmtE1 (stmtsE (n+1)) x=0:=fun x hx=>by
   obtain ⟨hk,hok,hxE,hbE,heE⟩:=stmtE_inv (e x hx)
   rw[stmtE1_eq,if_neg (fun h=>h hk),if_neg (fun h=>h hok),if_neg (fun h=>h (firstE_zero hxE)),if_neg (fun h=>h (stmtsE_mono n x.b hbE).1)]
   exact (stmtsE_mono n x.e heE).1
  refine ⟨by rw[stmtsE];exact firstE_zero e1,?_⟩
  clear h e1
  induction l with
  | nil=>rw[stmtsN_nil,stmtsN_nil]
  | cons x l il =>
   obtain ⟨hk,hok,hxE,hbE,heE⟩:=stmtE_inv (e x List.mem_cons_self)
   rw[stmtsN_cons,stmtsN_cons,il (fun y hy=>e y (List.mem_cons_of_mem _ hy)),(stmtsE_mono n x.b hbE).2,(stmtsE_mono n x.e heE).2]
theorem stmtsN_append (n:Nat):∀ (a b:List Stmt),stmtsN (n+1) (a++b)=stmtsN (n+1) a+stmtsN (n+1) b
 | [],b=>by rw[List.nil_append,stmtsN_nil];omega
 | x :: a,b=>by rw[List.cons_append,stmtsN_cons,stmtsN_cons,stmtsN_append n a b];omega
theorem foldSs_good {p p':List Unit} {u u':Unit} {f f':Fun} (ha:Alike p p' u u' f f'):∀ (n:Nat) (l:List Stmt),stmtsE n l=0->stmtsS p u f l=0->stmtsE n (foldSs l)=0/\stmtsS p' u' f' (foldSs l)=0/\stmtsN n (foldSs l)<=stmtsN n l
 | 0,_,h,_=>by rw[stmtsE] at h;exact absurd h (by decide)
 | n+1,l,h,hs=>by
  rw[stmtsE] at h
  rw[stmtsS_first] at hs
  have e:=firstE_all h
  have es:=firstE_all hs
  clear h hs
  induction l with
  | nil=>rw[foldSs_nil];exact ⟨rfl,by rw[stmtsS],by omega⟩
  | cons x l il =>
   obtain ⟨i1,i2,i3⟩:=il (fun y hy=>e y (List.mem_cons_of_mem _ hy)) (fun y hy=>es y (List.mem_cons_of_mem _ hy))
   obtain ⟨hk,hok,hxE,hbE,heE⟩:=stmtE_inv (e x List.mem_cons_self)
   obtain ⟨hnm,hxS,hbS,heS⟩:=stmtS_inv (es x List.mem_cons_self)
   obtain ⟨b1,b2,b3⟩:=foldSs_good ha n x.b hbE hbS
   obtain ⟨e1,e2,e3⟩:=foldSs_good ha n x.e heE heS
   have m1:=stmtsE_mono n _ b1
   have m2:=stmtsE_mono n _ e1
   have q1:=many_pos n x.b
   have q2:=many_pos n x.e
   have key:stmtsE (n+1) (foldS x)=0/\stmtsS p' u' f' (foldS x)=0/\stmtsN (n+1) (foldS x)<=1+(stmtsN n x.b+stmtsN n x.e):=by
    rw[foldS_eq]
    unfold foldH
    dsimp only
    split
    ·exact ⟨m1.1,b2,by rw[m1.2];omega⟩
    ·split
     ·exact ⟨m2.1,e2,by rw[m2.2];omega⟩
     ·split
      ·exact ⟨rfl,by rw[stmtsS],by rw[stmtsN_nil];omega⟩
      ·refine ⟨?_,?_,?_⟩
       ·rw[stmtsE]
        refine firstE_zero (fun y hy=>?_)
        rw[List.mem_singleton.1 hy,stmtE1]
        have hx':firstE (exprE 12) (foldEs x.xs)=0:=firstE_zero (fun z hz=>by
         rw[foldEs_map,List.mem_map] at hz
         obtain ⟨z',hz',rfl⟩:=hz
         exact foldE_form 12 z' (hxE z' hz'))
        have hb0:x.b.length=0->(foldSs x.b).length=0:=fun h=>by rw[List.length_eq_zero_iff.1 h,foldSs_nil];rfl
        have he0:x.e.length=0->(foldSs x.e).length=0:=fun h=>by rw[List.length_eq_zero_iff.1 h,foldSs_nil];rfl
        have hok':stmtOk x.k x.s (foldEs x.xs).length (foldSs x.b).length (foldSs x.e).length:=by
         unfold stmtOk at hok ⊢
         rw[foldEs_len]
         exact ⟨hok.1,hok.2.1.imp hb0 id,hok.2.2.imp he0 id⟩
        rw[if_neg (fun h=>h hk),if_neg (fun h=>h hok'),if_neg (fun h=>h hx'),if_neg (fun h=>h b1)]
        exact e1
       ·rw[stmtsS_first]
        refine firstE_zero (fun y hy=>?_)
        rw[List.mem_singleton.1 hy,stmtS,if_neg (fun hc=>hnm (hc.imp (fun ⟨a,b⟩=>⟨a,fun c=>b (ha.var _ c)⟩) (fun ⟨a,b⟩=>⟨a,fun c=>b (ha.arr _ c)⟩)))]
        have hx':exprsS p' u' f' (foldEs x.xs)=0:=by
         rw[exprsS_first]
         refine firstE_zero (fun z hz=>?_)
         rw[foldEs_map,List.mem_map] at hz
         obtain ⟨z',hz',rfl⟩:=hz
         exact foldE_sense ha 12 z' (hxE z' hz') (hxS z' hz')
        rw[if_neg (fun h=>h hx'),if_neg (fun h=>h b2)]
        exact e2
       ·rw[stmtsN_cons,stmtsN_nil]
        show 1+(stmtsN n (foldSs x.b)+stmtsN n (foldSs x.e))+0<=1+(stmtsN n x.b+stmtsN n x.e)
        omega
   have p1:=many_pos (n+1) l
   rw[foldSs_cons,stmtsN_append,stmtsN_cons]
   refine ⟨?_,?_,?_⟩
   ·rw[stmtsE]
    refine firstE_zero (fun y hy=>?_)
    rcases List.mem_append.1 hy with hy | hy
    ·have:=key.1;rw[stmtsE] at this;exact firstE_all this y hy
    ·split at hy
     ·simp at hy
     ·rw[stmtsE] at i1;exact firstE_all i1 y hy
   ·rw[stmtsS_first]
    refine firstE_zero (fun y hy=>?_)
    rcases List.mem_append.1 hy with hy | hy
    ·have:=key.2.1;rw[stmtsS_first] at this;exact firstE_all this y hy
    ·split at hy
     ·simp at hy
     ·rw[stmtsS_first] at i2;exact firstE_all i2 y hy
   ·split
    ·rw[stmtsN_nil];omega
    ·omega
theorem foldU_name (l:List Unit):(l.map foldU).map Unit.name=l.map Unit.name:=by rw[List.map_map];rfl
theorem foldU_words (l:List Unit):progWords (l.map foldU)=progWords l:=by unfold progWords;rw[List.map_map];rfl
theorem foldP_len (p:List Unit):(foldP p).length=p.length:=by unfold foldP;rw[List.length_map]
theorem foldP_good {p:List Unit} (h:progE p=0) (hN:fewP p):progE (foldP p)=0/\fewP (foldP p):=by
 obtain ⟨h1,h2,h4,h5⟩:=progE_inv h
 have body:∀ u∈p,∀ f∈u.funcs,stmtsE 12 (foldSs f.body)=0/\stmtsS (foldP p) (foldU u) (foldF f) (foldSs f.body)=0/\stmtsN 12 (foldSs f.body)<=stmtsN 12 f.body:=fun u hu f hf =>
  foldSs_good (fold_alike p u f) 12 f.body (funE_inv ((unitE_inv (h2 u hu)).2.2.2.2.2.2 f hf)).2.2.2 (unitS_inv (h5 u hu) f hf)
 have many:∀ u∈p,manyN (foldU u).funcs<=manyN u.funcs:=fun u hu=>by
  have b:=body u hu
  show manyN (u.funcs.map foldF)<=_
  generalize u.funcs=l at b
  clear hN h h1 h2 h4 h5 body
  induction l with
  | nil=>exact Int.le_refl _
  | cons f l ih =>
   have e1:manyN (f :: l)=stmtsN 12 f.body+manyN l:=by simp[manyN]
   have e2:manyN ((f :: l).map foldF)=stmtsN 12 (foldSs f.body)+manyN (l.map foldF):=by simp[manyN];rfl
   have:=ih (fun g hg=>b g (List.mem_cons_of_mem _ hg))
   have:=(b f List.mem_cons_self).2.2
   omega
 have few:fewP (foldP p):=fun v hv=>by
  obtain ⟨u,hu,rfl⟩:=List.mem_map.1 hv
  have:=many u hu
  have:=hN u hu
  omega
 refine ⟨?_,few⟩
 have hU:∀ v∈foldP p,unitE v=0:=fun v hv=>by
  obtain ⟨u,hu,rfl⟩:=List.mem_map.1 hv
  have hu0:=h2 u hu
  obtain ⟨a0,a1,a2,a3,a6,a4,a5⟩:=unitE_inv hu0
  unfold unitE
  rw[if_neg (fun h=>h a0),if_neg (by show ¬(8 < u.vars.length\/3 < u.arrays.length\/8 < (u.funcs.map foldF).length);rw[List.length_map];omega),
   if_neg (fun h=>h (firstE_zero (fun s hs=>nameE_ok (a6 s hs)))),if_neg (fun h=>h (firstE_zero a4)),if_neg (fun h=>h (firstE_zero (fun g hg=>by
    obtain ⟨f,hf,rfl⟩:=List.mem_map.1 hg
    obtain ⟨b0,b1,b2,_⟩:=funE_inv (a5 f hf)
    exact fun_form b0 b1 b2 (body u hu f hf).1))),if_neg]
  have:=few (foldU u) hv
  have h0:=(manyN_ge (foldU u).funcs).2
  rw[I64.wrap (by unfold I64;omega)]
  omega
 unfold progE
 rw[if_neg (by rw[foldP_len];omega),if_neg (fun h=>h (firstE_zero hU))]
 unfold progE at h
 rw[if_neg (by omega),if_neg (fun h=>h (firstE_zero h2))] at h
 rw[show foldP p=p.map foldU from rfl,foldU_name,foldU_words]
 by_cases hd:dupP (p.map Unit.name)
 ·rw[if_pos hd] at h;omega
 rw[if_neg hd] at h ⊢
 rw[if_neg (by omega)]
 refine firstE_zero (fun v hv=>?_)
 obtain ⟨u,hu,rfl⟩:=List.mem_map.1 hv
 have hs:=h5 u hu
 unfold unitS at hs ⊢
 rw[show (foldU u).funcs=u.funcs.map foldF from rfl,show (foldU u).vars=u.vars from rfl,show (foldU u).arrays=u.arrays from rfl]
 have hfn:(u.funcs.map foldF).map Fun.name=u.funcs.map Fun.name:=by rw[List.map_map];rfl
 rw[hfn]
 by_cases hq:dupP (u.vars++u.arrays.map Arr.name)\/dupP (u.funcs.map Fun.name)
 ·rw[if_pos hq] at hs;omega
 rw[if_neg hq] at hs ⊢
 refine firstE_zero (fun g hg=>?_)
 obtain ⟨f,hf,rfl⟩:=List.mem_map.1 hg
 have h6:=firstE_all hs f hf
 unfold funS at h6 ⊢
 by_cases hz:dupP f.params
 ·rw[if_pos hz] at h6;omega
 ·rw[if_neg (show ¬dupP (foldF f).params from hz)]
  exact (body u hu f hf).2.1
end Barb
