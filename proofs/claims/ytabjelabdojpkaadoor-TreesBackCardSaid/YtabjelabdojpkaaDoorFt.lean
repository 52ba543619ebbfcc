/-
  What the document says is wrong with expressions, statements and units: the contracts.
-/
import Derived.Test.YtabjelabdojpkaaDoorNm
namespace Barb
open Go Go.Dm Go.Eng

def Expr.k:Expr→Int | .mk k _ _ _ _=>k
def Expr.n:Expr→Int | .mk _ n _ _ _=>n
def Expr.of:Expr→Str | .mk _ _ of _ _=>of
def Expr.s:Expr→Str | .mk _ _ _ s _=>s
def Expr.args:Expr→List Expr | .mk _ _ _ _ a=>a
theorem Expr.g_eq (x:Expr):x.g=[.int x.k,.int x.n,.str x.of,.str x.s,.sl 5 (x.args.map Expr.g)]:=by
 cases x;rw[Expr.g,Expr.gs_map];rfl
abbrev Expr.d (x:Expr):List D:=[.g (.int x.k),.g (.int x.n),.g (.str x.of),.g (.str x.s),.g (.sl 5 (x.args.map Expr.g))]
theorem Expr.I.inv {x:Expr} (h:x.I):I64 x.k∧I64 x.n∧x.of.length≤9223372036854775807∧x.s.length≤9223372036854775807∧x.args.length*72≤140737488351232∧∀ y∈x.args,Expr.I y:=by
 cases h with
 | mk h1 h2 h3 h4 h5 h6=>exact ⟨h1,h2,h3,h4,h5,h6⟩
def Stmt.k:Stmt→Int | .mk k _ _ _ _=>k
def Stmt.s:Stmt→Str | .mk _ s _ _ _=>s
def Stmt.xs:Stmt→List Expr | .mk _ _ x _ _=>x
def Stmt.b:Stmt→List Stmt | .mk _ _ _ b _=>b
def Stmt.e:Stmt→List Stmt | .mk _ _ _ _ e=>e
theorem Stmt.g_eq (x:Stmt):x.g=[.int x.k,.str x.s,.sl 5 (x.xs.map Expr.g),.sl 5 (x.b.map Stmt.g),.sl 5 (x.e.map Stmt.g)]:=by
 cases x;rw[Stmt.g,Expr.gs_map,Stmt.gs_map,Stmt.gs_map];rfl
abbrev Stmt.d (x:Stmt):List D:=[.g (.int x.k),.g (.str x.s),.g (.sl 5 (x.xs.map Expr.g)),.g (.sl 5 (x.b.map Stmt.g)),.g (.sl 5 (x.e.map Stmt.g))]
theorem Stmt.I.inv {x:Stmt} (h:x.I):I64 x.k∧x.s.length≤9223372036854775807∧x.xs.length*72≤140737488351232∧x.b.length*96≤140737488351232∧x.e.length*96≤140737488351232∧(∀ y∈x.xs,Expr.I y)∧(∀ y∈x.b,Stmt.I y)∧∀ y∈x.e,Stmt.I y:=by
 cases h with
 | mk h1 h2 h3 h4 h5 h6 h7 h8=>exact ⟨h1,h2,h3,h4,h5,h6,h7,h8⟩
theorem exprE_succ (f:Nat) (x:Expr):exprE (f+1) x=if ¬(1≤x.k∧x.k≤5) then 3 else if 4 < x.args.length then 1 else if ¬exprOk x.k x.n x.of x.s x.args.length then 4 else if exprBad x.k x.n then 2 else firstE (exprE f) x.args:=by
 cases x;rfl
theorem stmtE1_eq (f:List Stmt→Int) (x:Stmt):stmtE1 f x=if ¬(1≤x.k∧x.k≤6) then 3 else if ¬stmtOk x.k x.s x.xs.length x.b.length x.e.length then 4 else if firstE (exprE 12) x.xs≠0 then firstE (exprE 12) x.xs else if f x.b≠0 then f x.b else f x.e:=by
 cases x;rfl
theorem stmtN1_eq (f:List Stmt→Int) (x:Stmt):stmtN1 f x=f x.b+f x.e:=by cases x;rfl
theorem exprOk_1 {n:Int} {of s:Str} {m:Nat}:exprOk 1 n of s m↔of=[]∧s=[]∧m=0:=by simp[exprOk]
theorem exprOk_2 {n:Int} {of s:Str} {m:Nat}:exprOk 2 n of s m↔of=[]∧identP s∧m=0∧n=0:=by simp[exprOk]
theorem exprOk_3 {n:Int} {of s:Str} {m:Nat}:exprOk 3 n of s m↔of=[]∧identP s∧m=1∧n=0:=by simp[exprOk]
theorem exprOk_4 {n:Int} {of s:Str} {m:Nat}:exprOk 4 n of s m↔(of=[]∨identP of)∧identP s∧n=0:=by simp[exprOk]
theorem exprOk_5 {n:Int} {of s:Str} {m:Nat}:exprOk 5 n of s m↔of=[]∧s=[]∧m=2:=by simp[exprOk]
end Barb
namespace Go.Proofs.YtabjelabdojpkaaDoor
open Go Go.Dm Go.Eng Barb
variable {L:Lv}

theorem exprFault_any:∀ (f:Nat) (x:Barb.Expr),x.I→∀ depth:Int,depth+f=13→0≤depth→CT Tryd.prog (gl L) 58 [.agg x.d,.g (.int depth)] (Is (.g (.int (exprE f x)))):=by
 intro f
 induction f with
 | zero =>
  intro x _ depth hd _
  refine enter hT hF hM Tryd.func58 rfl 144 rfl (by kernel_rfl) [.tmp 4] rfl [.agg x.d,.g (.int depth)] rfl _ ?_
  exact ⟨fun _=>⟨rfl,retI rfl⟩,fun h=>absurd h (by omega)⟩
 | succ f ih =>
  intro x hx depth hd hd0
  obtain ⟨hk,hn,ho,hs,ha,hI⟩:=hx.inv
  have e:=exprE_succ f x
  refine enter hT hF hM Tryd.func58 rfl 144 rfl (by kernel_rfl) [.tmp 4] rfl [.agg x.d,.g (.int depth)] rfl _ ?_
  refine ⟨fun h=>absurd h (by omega),fun _=>?_⟩
  refine callIs (.inl rfl) (In_any x.k 1 5) ⟨fun h2=>⟨rfl,retI (by rw[e,if_pos h2])⟩,fun h2=>?_⟩
  rw[if_neg (Classical.not_not.2 h2)] at e
  have hl:(x.args.map Expr.g).length=x.args.length:=by simp
  refine ⟨fun h3=>⟨rfl,retI (by rw[e,if_pos (by rw[hl] at h3;omega)])⟩,fun h3=>?_⟩
  have h3:¬4 < x.args.length:=by rw[hl] at h3;omega
  rw[if_neg h3] at e
  refine stepS (Hold.mk ?_)
  refine seqJ (ι:=D) (fun d=>[(2,.ptr 0 0),(1,.g (.int depth)),(5,.g (.int ((x.args.map Expr.g).length:Int))),(6,d)]) (fun _=>[.blk x.d 104]) (fun d=>IsB d (exprOk x.k x.n x.of x.s x.args.length)) (fun e0 d hB=>?_) (fun Rd hRd=>?_)
  ·refine seqJ (ι:=PUnit) (fun _=>[(2,.ptr 0 0),(1,.g (.int depth)),(5,.g (.int ((x.args.map Expr.g).length:Int)))]) (fun _=>[.blk x.d 104]) (fun _=>exprOk x.k x.n x.of x.s x.args.length) (fun e1 _ hok=>?_) (fun Rd hRd=>?_)
   rotate_left
   ·rcases isB_cases hB with ⟨q,rfl,hq⟩ | ⟨q,rfl,hq⟩ | ⟨rfl,hq⟩ | ⟨rfl,hq⟩
    ·exact ⟨fun h4=>⟨rfl,retI (by rw[e,if_pos (fun h=>h4 (hq.2 h))])⟩,fun h4=>hRd ⟨⟩ _ ⟨rfl,rfl,rfl,trivial⟩ (hq.1 h4)⟩
    ·exact ⟨fun h4=>⟨rfl,retI (by rw[e,if_pos (fun h=>(hq.2 h) h4)])⟩,fun h4=>hRd ⟨⟩ _ ⟨rfl,rfl,rfl,trivial⟩ (hq.1 h4)⟩
    ·exact hRd ⟨⟩ _ ⟨rfl,rfl,rfl,trivial⟩ hq
    ·exact ⟨rfl,retI (by rw[e,if_pos hq])⟩
   rw[if_neg (Classical.not_not.2 hok)] at e
   clear hB
   refine stepS ?_
   refine seqJ (ι:=D) (fun d=>[(2,.ptr 0 0),(1,.g (.int depth)),(5,.g (.int ((x.args.map Expr.g).length:Int))),(127,d)]) (fun _=>[.blk x.d 104]) (fun d=>IsB d (exprBad x.k x.n)) (fun e0 d hB=>?_) (fun Rd hRd=>?_)
   ·refine bcaseB hB (fun h5=>⟨rfl,retI (by rw[e,if_pos h5])⟩) (fun h5=>?_)
    rw[if_neg h5] at e
    refine Hold.mk ?_
    refine loopR (ι:=Nat) (fun i=>[(7,.g (.int (i:Int))),(2,.ptr 0 0)]) (fun _=>[.blk x.d 104]) (fun i=>i≤x.args.length∧∀ j (hj:j < x.args.length),j < i→exprE f x.args[j]=0) (fun i=>x.args.length - i)
     ⟨0,[.old 0],⟨rfl,.inl rfl,.inr ⟨lk rfl,lk rfl,trivial⟩,rfl⟩,Nat.zero_le _,none0⟩ ?_
    intro Rd hRd i ⟨hi,ha'⟩
    refine ⟨fun h6=>?_,fun h6=>?_⟩
    ·have h7:i < x.args.length:=by rw[hl] at h6;omega
     refine ⟨i,_,rfl,(gm h7).trans (congrArg some (Expr.g_eq _)),?_⟩
     refine ⟨_,I64.wrap (by unfold I64;omega),?_⟩
     refine callIs (.inl rfl) (ih x.args[i] (hI _ (List.getElem_mem _)) (depth+1) (by omega) (by omega)) ?_
     refine ⟨fun h8=>⟨rfl,retI (by rw[e,firstE_at h7 ha' h8])⟩,fun h8=>⟨_,I64.wrap (by unfold I64;omega),?_⟩⟩
     exact hRd _ _ _ ⟨i+1,[.old 0],⟨rfl,.inl rfl,.inr ⟨lk rfl,lk rfl,trivial⟩,rfl⟩,⟨h7,firstE_step h7 ha' h8⟩,by omega⟩
    ·exact ⟨rfl,retI (by rw[e,firstE_end (by rw[hl] at h6;omega) ha'])⟩
   ·refine ⟨fun a1=>callIs (.inl rfl) (IsWord_any x.n) ⟨fun a2=>?_,fun a2=>?_⟩,fun a1=>⟨fun a2=>callIs (.inl rfl) (In_any x.n 1 10) ?_,fun a2=>?_⟩⟩
    ·exact hRd _ _ ⟨rfl,rfl,rfl,rfl,trivial⟩ (isT (.inl ⟨a1,a2⟩))
    ·refine ⟨fun a3=>absurd a3 (by omega),fun a3=>?_⟩
     exact hRd _ _ ⟨rfl,rfl,rfl,rfl,trivial⟩ (isF (by unfold exprBad;omega))
    ·exact hRd _ _ ⟨rfl,rfl,rfl,rfl,trivial⟩ (isN (by unfold exprBad;omega))
    ·exact hRd _ _ ⟨rfl,rfl,rfl,rfl,trivial⟩ (isF (by unfold exprBad;omega))
  ·have ok:∀ (k':Int),x.k=k'→(exprOk x.k x.n x.of x.s x.args.length↔exprOk k' x.n x.of x.s x.args.length):=fun k' hk'=>by rw[hk']
   have hl0:∀ m:Nat,((List.map Expr.g x.args).length:Int)=(m:Int)↔x.args.length=m:=fun m=>by rw[hl];omega
   refine ⟨fun b1=>?_,fun b1=>⟨fun b2=>?_,fun b2=>⟨fun b3=>?_,fun b3=>⟨fun b4=>?_,fun b4=>?_⟩⟩⟩⟩
   ·have o:=(ok 1 b1).trans exprOk_1
    refine ⟨fun c1=>⟨fun c2=>?_,fun c2=>?_⟩,fun c1=>?_⟩
    ·exact hRd _ _ ⟨rfl,rfl,rfl,rfl,trivial⟩ (isP ⟨fun c3=>o.2 ⟨c1,c2,(hl0 0).1 c3⟩,fun c3=>(hl0 0).2 (o.1 c3).2.2⟩)
    ·exact hRd _ _ ⟨rfl,rfl,rfl,rfl,trivial⟩ (isF (fun c3=>c2 (o.1 c3).2.1))
    ·exact hRd _ _ ⟨rfl,rfl,rfl,rfl,trivial⟩ (isF (fun c3=>c1 (o.1 c3).1))
   ·have o:=(ok 2 b2).trans exprOk_2
    refine ⟨fun c1=>callIs (.inl rfl) (NameMay_any x.s hs) ⟨fun c2=>⟨fun c3=>?_,fun c3=>?_⟩,fun c2=>?_⟩,fun c1=>?_⟩
    ·exact hRd _ _ ⟨rfl,rfl,rfl,rfl,trivial⟩ (isP ⟨fun c4=>o.2 ⟨c1,c2,(hl0 0).1 c3,c4⟩,fun c4=>(o.1 c4).2.2.2⟩)
    ·exact hRd _ _ ⟨rfl,rfl,rfl,rfl,trivial⟩ (isF (fun c4=>c3 ((hl0 0).2 (o.1 c4).2.2.1)))
    ·exact hRd _ _ ⟨rfl,rfl,rfl,rfl,trivial⟩ (isF (fun c4=>c2 (o.1 c4).2.1))
    ·exact hRd _ _ ⟨rfl,rfl,rfl,rfl,trivial⟩ (isF (fun c4=>c1 (o.1 c4).1))
   ·have o:=(ok 3 b3).trans exprOk_3
    refine ⟨fun c1=>callIs (.inl rfl) (NameMay_any x.s hs) ⟨fun c2=>⟨fun c3=>?_,fun c3=>?_⟩,fun c2=>?_⟩,fun c1=>?_⟩
    ·exact hRd _ _ ⟨rfl,rfl,rfl,rfl,trivial⟩ (isP ⟨fun c4=>o.2 ⟨c1,c2,(hl0 1).1 c3,c4⟩,fun c4=>(o.1 c4).2.2.2⟩)
    ·exact hRd _ _ ⟨rfl,rfl,rfl,rfl,trivial⟩ (isF (fun c4=>c3 ((hl0 1).2 (o.1 c4).2.2.1)))
    ·exact hRd _ _ ⟨rfl,rfl,rfl,rfl,trivial⟩ (isF (fun c4=>c2 (o.1 c4).2.1))
    ·exact hRd _ _ ⟨rfl,rfl,rfl,rfl,trivial⟩ (isF (fun c4=>c1 (o.1 c4).1))
   ·have o:=(ok 4 b4).trans exprOk_4
    refine ⟨fun c1=>callIs (.inl rfl) (NameMay_any x.s hs) ⟨fun c2=>?_,fun c2=>?_⟩,fun c1=>callIs (.inl rfl) (NameMay_any x.of ho) ⟨fun c0=>callIs (.inl rfl) (NameMay_any x.s hs) ⟨fun c2=>?_,fun c2=>?_⟩,fun c0=>?_⟩⟩
    ·exact hRd _ _ ⟨rfl,rfl,rfl,rfl,trivial⟩ (isP ⟨fun c4=>o.2 ⟨.inl c1,c2,c4⟩,fun c4=>(o.1 c4).2.2⟩)
    ·exact hRd _ _ ⟨rfl,rfl,rfl,rfl,trivial⟩ (isF (fun c4=>c2 (o.1 c4).2.1))
    ·exact hRd _ _ ⟨rfl,rfl,rfl,rfl,trivial⟩ (isP ⟨fun c4=>o.2 ⟨.inr c0,c2,c4⟩,fun c4=>(o.1 c4).2.2⟩)
    ·exact hRd _ _ ⟨rfl,rfl,rfl,rfl,trivial⟩ (isF (fun c4=>c2 (o.1 c4).2.1))
    ·exact hRd _ _ ⟨rfl,rfl,rfl,rfl,trivial⟩ (isF (fun c4=>(o.1 c4).1.elim c1 c0))
   ·have b5:x.k=5:=by omega
    have o:=(ok 5 b5).trans exprOk_5
    refine ⟨fun c1=>⟨fun c2=>?_,fun c2=>?_⟩,fun c1=>?_⟩
    ·exact hRd _ _ ⟨rfl,rfl,rfl,rfl,trivial⟩ (isP ⟨fun c3=>o.2 ⟨c1,c2,(hl0 2).1 c3⟩,fun c3=>(hl0 2).2 (o.1 c3).2.2⟩)
    ·exact hRd _ _ ⟨rfl,rfl,rfl,rfl,trivial⟩ (isF (fun c3=>c2 (o.1 c3).2.1))
    ·exact hRd _ _ ⟨rfl,rfl,rfl,rfl,trivial⟩ (isF (fun c3=>c1 (o.1 c3).1))
end Go.Proofs.YtabjelabdojpkaaDoor
namespace Barb
open Go Go.Dm Go.Eng
noncomputable def stV (f:Nat) (l:List Stmt):Int:=if stmtsE f l=0 then IntKind.i64.wrap (stmtsN f l) else 0
def sumAtF (f:Nat) (l:List Stmt) (i:Nat):Int:=l.length+((l.take i).map (stmtN1 (stmtsN f))).sum
theorem sumAtF_succ {f:Nat} {l:List Stmt} {i:Nat} (h:i < l.length):sumAtF f l (i+1)=sumAtF f l i+(stmtsN f l[i].b+stmtsN f l[i].e):=by
 unfold sumAtF
 rw[take_one h,List.map_append,List.sum_append,← stmtN1_eq]
 simp;omega
theorem wrap3 (m a b:Int):IntKind.i64.wrap (IntKind.i64.wrap (IntKind.i64.wrap m+IntKind.i64.wrap a)+IntKind.i64.wrap b)=IntKind.i64.wrap (m+(a+b)):=by
 have h1:IntKind.i64.wrap m+IntKind.i64.wrap a+b=(IntKind.i64.wrap m+b)+IntKind.i64.wrap a:=by omega
 have h2:IntKind.i64.wrap m+b+a=IntKind.i64.wrap m+(a+b):=by omega
 rw[wrap_add' (IntKind.i64.wrap (IntKind.i64.wrap m+IntKind.i64.wrap a)) b,wrap_add (IntKind.i64.wrap m+IntKind.i64.wrap a) b,h1,wrap_add',h2,wrap_add]
def nOf (k:Int):Int:=if k=2 then 2 else 1
def bad1 (k:Int) (s:Str) (nx:Nat):Prop:=¬((k≤2→identP s)∧(2 < k→s=[])∧(nx:Int)=nOf k)
def bad2 (k:Int) (nb ne:Nat):Prop:=¬((nb=0∨k=3∨k=4)∧(ne=0∨k=3))
abbrev kpS (l:List Stmt) (depth m:Int) (i:Nat) (k:Int):List (Nat × D):=[(0,.g (.sl 5 (l.map Stmt.g))),(1,.g (.int depth)),(6,.g (.int m)),(7,.g (.int (i:Int))),(8,.ptr 0 0),(9,.g (.int (nOf k)))]
theorem stmtOk_iff {k:Int} {s:Str} {nx nb ne:Nat}:stmtOk k s nx nb ne↔¬bad1 k s nx∧¬bad2 k nb ne:=by
 unfold stmtOk bad1 bad2 nOf
 rw[Classical.not_not,Classical.not_not]
 constructor
 ·rintro ⟨⟨h1,h2,h3,h4⟩,h5⟩
  refine ⟨⟨h1,h2,?_⟩,h5⟩
  by_cases hk:k=2
  ·rw[if_pos hk,h3 hk];rfl
  ·rw[if_neg hk,h4 hk];rfl
 ·rintro ⟨⟨h1,h2,h3⟩,h5⟩
  refine ⟨⟨h1,h2,fun hk=>?_,fun hk=>?_⟩,h5⟩
  ·rw[if_pos hk] at h3;omega
  ·rw[if_neg hk] at h3;omega
end Barb
namespace Go.Proofs.YtabjelabdojpkaaDoor
open Go Go.Dm Go.Eng Barb
variable {L:Lv}

set_option maxHeartbeats 1000000 in
theorem stmtsFault_any:∀ (f:Nat) (l:List Barb.Stmt),(∀ x∈l,Barb.Stmt.I x)→l.length*96≤140737488351232→∀ depth:Int,depth+f=13→0≤depth→CT Tryd.prog (gl L) 37 [.g (.sl 5 (l.map Stmt.g)),.g (.int depth)] (Is (.tuple [.g (.int (stV f l)),.g (.int (stmtsE f l))])):=by
 intro f
 induction f with
 | zero =>
  intro l _ _ depth hd _
  refine enter hT hF hM Tryd.func37 rfl 130 rfl (by kernel_rfl) [.tmp 4,.tmp 5] rfl [.g (.sl 5 (l.map Stmt.g)),.g (.int depth)] rfl _ ?_
  exact ⟨fun _=>⟨rfl,ret2I (by unfold stV;rw[if_neg (show ¬(stmtsE 0 l=0) from fun h=>absurd (show (1:Int)=0 from h) (by decide))]) rfl⟩,fun h=>absurd h (by omega)⟩
 | succ f ih =>
  intro l hI hlen depth hd hd0
  refine enter hT hF hM Tryd.func37 rfl 130 rfl (by kernel_rfl) [.tmp 4,.tmp 5] rfl [.g (.sl 5 (l.map Stmt.g)),.g (.int depth)] rfl _ ?_
  refine ⟨fun h=>absurd h (by omega),fun _=>?_⟩
  have hl:(l.map Stmt.g).length=l.length:=by simp
  refine loopR (ι:=Nat) (fun i=>[(6,.g (.int (IntKind.i64.wrap (sumAtF f l i)))),(7,.g (.int (i:Int)))]) (fun _=>[]) (fun i=>i≤l.length∧∀ j (hj:j < l.length),j < i→stmtE1 (stmtsE f) l[j]=0) (fun i=>l.length - i)
   ⟨0,[],⟨rfl,.inl rfl,.inr ⟨lkI (by rw[hl,I64.wrap (by simp[sumAtF,I64];omega)];simp[sumAtF]),lk rfl,trivial⟩,rfl⟩,Nat.zero_le _,none0⟩ ?_
  intro Rd hRd i ⟨hi,ha⟩
  refine ⟨fun h0=>?_,fun h0=>?_⟩
  rotate_left
  ·have hz:stmtsE (f+1) l=0:=firstE_end (by rw[hl] at h0;omega) ha
   have hil:i=l.length:=by rw[hl] at h0;omega
   exact ⟨rfl,ret2I (by unfold stV;rw[if_pos hz,hil];simp[sumAtF,stmtsN]) hz.symm⟩
  have h1:i < l.length:=by rw[hl] at h0;omega
  have fin:∀ v:Int,v≠0→stmtE1 (stmtsE f) l[i]=v→∀ h:Heap,RetTo (Is (.tuple [.g (.int (stV (f+1) l)),.g (.int (stmtsE (f+1) l))])) h (.tuple [.g (.int 0),.g (.int v)]):=by
   intro v hv he h
   have hz:stmtsE (f+1) l=v:=by
    have:stmtsE (f+1) l=firstE (stmtE1 (stmtsE f)) l:=rfl
    rw[this,firstE_at h1 ha (by rw[he];exact hv),he]
   exact ret2I (by unfold stV;rw[if_neg (by rw[hz];exact hv)]) hz.symm
  have hsucc:=sumAtF_succ (f:=f) h1
  obtain ⟨hk,hs,hxl,hbl,hel,hxI,hbI,heI⟩:=(hI l[i] (List.getElem_mem _)).inv
  have e:=stmtE1_eq (stmtsE f) l[i]
  have next:∀ v,stmtE1 (stmtsE f) l[i]=v→v=0→∀ j (hj:j < l.length),j < i+1→stmtE1 (stmtsE f) l[j]=0:=fun v hv h0=>firstE_step h1 ha (hv.trans h0)
  refine ⟨i,_,rfl,(gm h1).trans (congrArg some (Stmt.g_eq _)),?_⟩
  generalize l[i]=y at *
  refine callIs (.inl rfl) (In_any y.k 1 6) ⟨fun h2=>⟨rfl,fin 3 (by decide) (by rw[e,if_pos h2]) _⟩,fun h2=>?_⟩
  rw[if_neg (Classical.not_not.2 h2)] at e
  refine stepS (Hold.mk ?_)
  refine seqJ (ι:=PUnit) (fun _=>kpS l depth (IntKind.i64.wrap (sumAtF f l i)) i y.k) (fun _=>[.blk y.d 78]) (fun _=>True) (fun e0 _ _=>?_) (fun Rj hRj=>?_)
  rotate_left
  ·refine ⟨fun h3=>hRj ⟨⟩ _ ⟨rfl,rfl,rfl,rfl,rfl,(by rw[nOf,if_pos h3];rfl),trivial⟩ trivial,fun h3=>hRj ⟨⟩ _ ⟨rfl,rfl,rfl,rfl,rfl,(by rw[nOf,if_neg h3];rfl),trivial⟩ trivial⟩
  refine stepS ?_
  refine seqJ (ι:=D) (fun d=>kpS l depth (IntKind.i64.wrap (sumAtF f l i)) i y.k++[(62,d)]) (fun _=>[.blk y.d 78]) (fun d=>IsB d (bad1 y.k y.s y.xs.length)) (fun e1 d hB=>?_) (fun Rj hRj=>?_)
  rotate_left
  ·have hx:(y.xs.map Expr.g).length=y.xs.length:=by simp
   refine ⟨fun a1=>callIs (.inl rfl) (NameMay_any y.s hs) ⟨fun a2=>?_,fun a2=>⟨fun a3=>absurd a3 (by omega),fun a3=>?_⟩⟩,fun a1=>⟨fun a2=>⟨fun a3=>?_,fun a3=>?_⟩,fun a2=>absurd a2 (by omega)⟩⟩
   ·exact hRj _ _ ⟨rfl,rfl,rfl,rfl,rfl,rfl,rfl,trivial⟩ (isT (fun h=>a2 (h.1 a1)))
   ·refine hRj _ _ ⟨rfl,rfl,rfl,rfl,rfl,rfl,rfl,trivial⟩ (isN ?_)
    rw[hx]
    exact ⟨fun h h'=>h h'.2.2,fun h h'=>h ⟨fun _=>a2,fun h''=>absurd h'' (by omega),h'⟩⟩
   ·exact hRj _ _ ⟨rfl,rfl,rfl,rfl,rfl,rfl,rfl,trivial⟩ (isT (fun h=>a3 (h.2.1 a2)))
   ·refine hRj _ _ ⟨rfl,rfl,rfl,rfl,rfl,rfl,rfl,trivial⟩ (isN ?_)
    rw[hx]
    exact ⟨fun h h'=>h h'.2.2,fun h h'=>h ⟨fun h''=>absurd h'' (by omega),fun _=>a3,h'⟩⟩
  refine bcaseB hB (fun hb1=>⟨rfl,fin 4 (by decide) (by rw[e,if_pos (fun h=>(stmtOk_iff.1 h).1 hb1)]) _⟩) (fun hb1=>?_)
  refine Hold.mk ?_
  refine stepS ?_
  refine seqJ (ι:=D) (fun d=>kpS l depth (IntKind.i64.wrap (sumAtF f l i)) i y.k++[(87,d)]) (fun _=>[.blk y.d 78]) (fun d=>IsB d (bad2 y.k y.b.length y.e.length)) (fun e2 d hB=>?_) (fun Rj hRj=>?_)
  rotate_left
  ·have hb':(y.b.map Stmt.g).length=y.b.length:=by simp
   have he':(y.e.map Stmt.g).length=y.e.length:=by simp
   refine ⟨fun a1=>⟨fun a2=>⟨fun a3=>?_,fun a3=>⟨fun a4=>?_,fun a4=>?_⟩⟩,fun a2=>⟨fun a4=>?_,fun a4=>?_⟩⟩,fun a1=>⟨fun a4=>?_,fun a4=>?_⟩⟩
   ·exact hRj _ _ ⟨rfl,rfl,rfl,rfl,rfl,rfl,rfl,trivial⟩ (isT (by unfold bad2;omega))
   ·exact hRj _ _ ⟨rfl,rfl,rfl,rfl,rfl,rfl,rfl,trivial⟩ (isN (by unfold bad2;omega))
   ·exact hRj _ _ ⟨rfl,rfl,rfl,rfl,rfl,rfl,rfl,trivial⟩ (isF (by unfold bad2;omega))
   ·exact hRj _ _ ⟨rfl,rfl,rfl,rfl,rfl,rfl,rfl,trivial⟩ (isN (by unfold bad2;omega))
   ·exact hRj _ _ ⟨rfl,rfl,rfl,rfl,rfl,rfl,rfl,trivial⟩ (isF (by unfold bad2;omega))
   ·exact hRj _ _ ⟨rfl,rfl,rfl,rfl,rfl,rfl,rfl,trivial⟩ (isN (by unfold bad2;omega))
   ·exact hRj _ _ ⟨rfl,rfl,rfl,rfl,rfl,rfl,rfl,trivial⟩ (isF (by unfold bad2;omega))
  refine bcaseB hB (fun hb2=>⟨rfl,fin 4 (by decide) (by rw[e,if_pos (fun h=>(stmtOk_iff.1 h).2 hb2)]) _⟩) (fun hb2=>?_)
  rw[if_neg (Classical.not_not.2 (stmtOk_iff.2 ⟨hb1,hb2⟩))] at e
  have hnx:(y.xs.length:Int)=nOf y.k:=(Classical.not_not.1 hb1).2.2
  clear hB
  refine Hold.mk ?_
  refine loopR (ι:=Nat) (fun k=>[(10,.g (.int (k:Int))),(8,.ptr 0 0)]) (fun _=>[.blk y.d 78]) (fun k=>k≤y.xs.length∧∀ j (hj:j < y.xs.length),j < k→exprE 12 y.xs[j]=0) (fun k=>y.xs.length - k)
   ⟨0,[.old 0],⟨rfl,.inl rfl,.inr ⟨lk rfl,lk rfl,trivial⟩,rfl⟩,Nat.zero_le _,none0⟩ ?_
  intro Rk hRk k ⟨hk1,hk2⟩
  refine ⟨fun c0=>?_,fun c0=>?_⟩
  ·have c1:k < y.xs.length:=by omega
   refine ⟨k,_,rfl,(gm c1).trans (congrArg some (Expr.g_eq _)),?_⟩
   refine callIs (.inl rfl) (exprFault_any 12 y.xs[k] (hxI _ (List.getElem_mem _)) 1 (by decide) (by decide)) ?_
   refine ⟨fun c2=>⟨rfl,fin _ c2 (by rw[e,if_pos (by rw[firstE_at c1 hk2 c2];exact c2),firstE_at c1 hk2 c2]) _⟩,fun c2=>⟨_,I64.wrap (by unfold I64;omega),?_⟩⟩
   exact hRk _ _ _ ⟨k+1,[.old 0],⟨rfl,.inl rfl,.inr ⟨lk rfl,lk rfl,trivial⟩,rfl⟩,⟨c1,firstE_step c1 hk2 c2⟩,by omega⟩
  ·have hx0:firstE (exprE 12) y.xs=0:=firstE_end (by omega) hk2
   rw[if_neg (fun h=>h hx0)] at e
   refine ⟨_,I64.wrap (by unfold I64;omega),?_⟩
   refine callIs (.inl rfl) (ih y.b hbI hbl (depth+1) (by omega) (by omega)) ?_
   refine ⟨fun c3=>⟨rfl,fin _ c3 (by rw[e,if_pos c3]) _⟩,fun c3=>?_⟩
   rw[if_neg (fun h=>h c3)] at e
   refine ⟨_,I64.wrap (by unfold I64;omega),?_⟩
   refine callIs (.inl rfl) (ih y.e heI hel (depth+1) (by omega) (by omega)) ?_
   refine ⟨fun c4=>⟨rfl,fin _ c4 e _⟩,fun c4=>?_⟩
   refine ⟨_,rfl,_,rfl,_,I64.wrap (by unfold I64;omega),?_⟩
   have hv:IntKind.i64.wrap (IntKind.i64.wrap (IntKind.i64.wrap (sumAtF f l i)+stV f y.b)+stV f y.e)=IntKind.i64.wrap (sumAtF f l (i+1)):=by
    unfold stV
    rw[if_pos c3,if_pos c4,hsucc,wrap3]
   exact hRd _ _ _ ⟨i+1,[],⟨rfl,.inl rfl,.inr ⟨lkI hv,lk rfl,trivial⟩,rfl⟩,⟨h1,next _ e c4⟩,by omega⟩
end Go.Proofs.YtabjelabdojpkaaDoor
