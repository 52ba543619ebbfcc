/-
  The names of a program: the contracts of package names and of what the document says of names.
-/
import Derived.Test.YtjkplhnbiejefaaDoorTq
import Derived.Test.YtjkplhnbiejefaaDoorSpec2
import Derived.Test.YtjkplhnbiejefaaDoorCl
namespace Barb
open Go Go.Dm Go.Eng
abbrev scG (p:List Unit) (u:Unit) (f:Fun):List GV:=[.sl 4 (p.map Unit.g),.str u.name,.sl 1 (u.vars.map strG),.sl 2 (u.arrays.map Arr.g),.sl 4 (u.funcs.map Fun.g),.str f.name,.bool f.isOpen,.sl 1 (f.params.map strG),.sl 5 (f.body.map Stmt.g)]
theorem Fun.g_open {f:Fun} {b:Bool} (h:f.isOpen=b):f.g=[.str f.name,.bool b,.sl 1 (f.params.map strG),.sl 5 (f.body.map Stmt.g)]:=by rw[Fun.g_eq,h]
theorem find_idx {α:Type} (q:α→Prop) [DecidablePred q]:∀ (l:List α),(idx q l=-1∧l.find? (fun x=>decide (q x))=none)∨∃ (i:Nat) (hi:i < l.length),idx q l=(i:Int)∧l.find? (fun x=>decide (q x))=some l[i]:=by
 intro l
 rcases idx_cases q l with ⟨h1,h2⟩ | ⟨i,hi,h1,h2,h3⟩
 ·exact .inl ⟨h1,by rw[List.find?_eq_none];intro x hx;simpa using h2 x hx⟩
 ·refine .inr ⟨i,hi,h1,?_⟩
  rw[List.find?_eq_some_iff_getElem]
  exact ⟨by simpa using h2,i,hi,rfl,fun j hj=>by simpa using h3 j (by omega) hj⟩
theorem calledIn_cases (v:Unit) (of s:Str) (m:Nat):(funIdx v s=-1∧Barb.calledIn v of s m=5)∨∃ (i:Nat) (hi:i < v.funcs.length),funIdx v s=(i:Int)∧Barb.calledIn v of s m=if of≠[]∧v.funcs[i].isOpen=false then 5 else if v.funcs[i].params.length≠m then 7 else 0:=by
 unfold Barb.calledIn
 rcases find_idx (fun g:Fun=>g.name=s) v.funcs with ⟨h1,h2⟩ | ⟨i,hi,h1,h2⟩
 ·exact .inl ⟨h1,by rw[h2]⟩
 ·exact .inr ⟨i,hi,h1,by rw[h2]⟩
theorem calledE_cases (p:List Unit) (u:Unit) (of s:Str) (m:Nat) (ho:of≠[]):(unitIdx p of=-1∧calledE p u of s m=5)∨∃ (i:Nat) (hi:i < p.length),unitIdx p of=(i:Int)∧calledE p u of s m=Barb.calledIn p[i] of s m:=by
 unfold calledE
 rw[if_neg ho]
 rcases find_idx (fun v:Unit=>v.name=of) p with ⟨h1,h2⟩ | ⟨i,hi,h1,h2⟩
 ·exact .inl ⟨h1,by rw[h2]⟩
 ·exact .inr ⟨i,hi,h1,by rw[h2]⟩
end Barb
namespace Go.Proofs.YtjkplhnbiejefaaDoor
open Go Go.Dm Go.Eng Barb

theorem uEq_any (u:Barb.Unit) (s:Str):CT Tryd.prog gl 40 [.agg u.d,.fp [.str s] 0] (Is (.pb (u.name=s))):=by
 refine enter hT hF hM Tryd.func40 rfl 8 rfl (by kernel_rfl) [.tmp 3] rfl [.agg u.d,.fp [.str s] 0] rfl _ ?_
 exact ⟨rfl,retP Iff.rfl⟩
theorem fEq_any (f:Fun) (s:Str):CT Tryd.prog gl 42 [.agg f.d,.fp [.str s] 0] (Is (.pb (f.name=s))):=by
 refine enter hT hF hM Tryd.func42 rfl 8 rfl (by kernel_rfl) [.tmp 3] rfl [.agg f.d,.fp [.str s] 0] rfl _ ?_
 exact ⟨rfl,retP Iff.rfl⟩
theorem aEq_any (a:Arr) (s:Str):CT Tryd.prog gl 33 [.agg [.g (.str a.name),.g (.int a.size)],.fp [.str s] 0] (Is (.pb (a.name=s))):=by
 refine enter hT hF hM Tryd.func33 rfl 8 rfl (by kernel_rfl) [.tmp 3] rfl [.agg [.g (.str a.name),.g (.int a.size)],.fp [.str s] 0] rfl _ ?_
 exact ⟨rfl,retP Iff.rfl⟩
theorem idxU_any (l:List Barb.Unit) (hl:l.length≤9223372036854775807) (s:Str):CT Tryd.prog gl 39 [.g (.sl 4 (l.map Unit.g)),.fn 40 [] [.fp [.str s] 0]] (Is (.g (.int (unitIdx l s)))):=by
 have ll:(l.map Unit.g).length=l.length:=by simp
 refine enter hT hF hM Tryd.func39 rfl 19 rfl (by kernel_rfl) [.tmp 4] rfl [.g (.sl 4 (l.map Unit.g)),.fn 40 [] [.fp [.str s] 0]] rfl _ ?_
 refine loopR (ι:=Nat) (fun i=>[(8,.g (.int (i:Int)))]) (fun _=>[]) (fun i=>i≤l.length∧∀ j (hj:j < l.length),j < i→¬l[j].name=s) (fun i=>l.length - i)
  ⟨0,[],⟨rfl,.inl rfl,.inr ⟨lk rfl,trivial⟩,rfl⟩,Nat.zero_le _,alln_0 (q:=fun x:Barb.Unit=>x.name=s)⟩ ?_
 intro Rd hRd i ⟨hi,ha⟩
 refine ⟨fun h=>?_,fun h=>?_⟩
 ·have h1:i < l.length:=by omega
  refine ⟨i,_,rfl,gm h1,?_⟩
  refine callIs (.inl rfl) (uEq_any l[i] s) ?_
  refine ⟨fun h2=>⟨rfl,retI (idx_at (q:=fun x:Barb.Unit=>x.name=s) h1 ha h2).symm⟩,fun h2=>⟨_,I64.wrap (by unfold I64;omega),?_⟩⟩
  exact hRd _ _ _ ⟨i+1,[],⟨rfl,.inl rfl,.inr ⟨lk rfl,trivial⟩,rfl⟩,⟨h1,alln_step (q:=fun x:Barb.Unit=>x.name=s) h1 ha h2⟩,by omega⟩
 ·exact ⟨rfl,retI (idx_no (alln_end (q:=fun x:Barb.Unit=>x.name=s) (by omega) ha)).symm⟩
theorem idxF_any (l:List Fun) (hl:l.length≤9223372036854775807) (s:Str):CT Tryd.prog gl 41 [.g (.sl 4 (l.map Fun.g)),.fn 42 [] [.fp [.str s] 0]] (Is (.g (.int (idx (fun f:Fun=>f.name=s) l)))):=by
 have ll:(l.map Fun.g).length=l.length:=by simp
 refine enter hT hF hM Tryd.func41 rfl 19 rfl (by kernel_rfl) [.tmp 4] rfl [.g (.sl 4 (l.map Fun.g)),.fn 42 [] [.fp [.str s] 0]] rfl _ ?_
 refine loopR (ι:=Nat) (fun i=>[(8,.g (.int (i:Int)))]) (fun _=>[]) (fun i=>i≤l.length∧∀ j (hj:j < l.length),j < i→¬l[j].name=s) (fun i=>l.length - i)
  ⟨0,[],⟨rfl,.inl rfl,.inr ⟨lk rfl,trivial⟩,rfl⟩,Nat.zero_le _,alln_0 (q:=fun x:Fun=>x.name=s)⟩ ?_
 intro Rd hRd i ⟨hi,ha⟩
 refine ⟨fun h=>?_,fun h=>?_⟩
 ·have h1:i < l.length:=by omega
  refine ⟨i,_,rfl,(gm h1).trans (congrArg some (Fun.g_eq _)),?_⟩
  refine callIs (.inl rfl) (fEq_any l[i] s) ?_
  refine ⟨fun h2=>⟨rfl,retI (idx_at (q:=fun x:Fun=>x.name=s) h1 ha h2).symm⟩,fun h2=>⟨_,I64.wrap (by unfold I64;omega),?_⟩⟩
  exact hRd _ _ _ ⟨i+1,[],⟨rfl,.inl rfl,.inr ⟨lk rfl,trivial⟩,rfl⟩,⟨h1,alln_step (q:=fun x:Fun=>x.name=s) h1 ha h2⟩,by omega⟩
 ·exact ⟨rfl,retI (idx_no (alln_end (q:=fun x:Fun=>x.name=s) (by omega) ha)).symm⟩
theorem NamesUnit_any (l:List Barb.Unit) (hl:l.length≤9223372036854775807) (s:Str):CT Tryd.prog gl 37 [.g (.sl 4 (l.map Unit.g)),.g (.str s)] (Is (.g (.int (unitIdx l s)))):=by
 refine enter hT hF hM Tryd.func37 rfl 8 rfl (by kernel_rfl) [.tmp 4] rfl [.g (.sl 4 (l.map Unit.g)),.g (.str s)] rfl _ ?_
 exact callIs (.inl rfl) (idxU_any l hl s) ⟨rfl,retI rfl⟩
theorem NamesFunc_any (u:Barb.Unit) (hl:u.funcs.length≤9223372036854775807) (s:Str):CT Tryd.prog gl 38 [.agg u.d,.g (.str s)] (Is (.g (.int (funIdx u s)))):=by
 refine enter hT hF hM Tryd.func38 rfl 9 rfl (by kernel_rfl) [.tmp 4] rfl [.agg u.d,.g (.str s)] rfl _ ?_
 exact callIs (.inl rfl) (idxF_any u.funcs hl s) ⟨rfl,retI rfl⟩
theorem idxA_any (l:List Arr) (hl:l.length≤9223372036854775807) (s:Str):CT Tryd.prog gl 36 [.g (.sl 2 (l.map Arr.g)),.fn 33 [] [.fp [.str s] 0]] (Is (.g (.int (idx (fun a:Arr=>a.name=s) l)))):=by
 have ll:(l.map Arr.g).length=l.length:=by simp
 refine enter hT hF hM Tryd.func36 rfl 19 rfl (by kernel_rfl) [.tmp 4] rfl [.g (.sl 2 (l.map Arr.g)),.fn 33 [] [.fp [.str s] 0]] rfl _ ?_
 refine loopR (ι:=Nat) (fun i=>[(8,.g (.int (i:Int)))]) (fun _=>[]) (fun i=>i≤l.length∧∀ j (hj:j < l.length),j < i→¬l[j].name=s) (fun i=>l.length - i)
  ⟨0,[],⟨rfl,.inl rfl,.inr ⟨lk rfl,trivial⟩,rfl⟩,Nat.zero_le _,alln_0 (q:=fun x:Arr=>x.name=s)⟩ ?_
 intro Rd hRd i ⟨hi,ha⟩
 refine ⟨fun h=>?_,fun h=>?_⟩
 ·have h1:i < l.length:=by omega
  refine ⟨i,_,rfl,gm h1,?_⟩
  refine callIs (.inl rfl) (aEq_any l[i] s) ?_
  refine ⟨fun h2=>⟨rfl,retI (idx_at (q:=fun x:Arr=>x.name=s) h1 ha h2).symm⟩,fun h2=>⟨_,I64.wrap (by unfold I64;omega),?_⟩⟩
  exact hRd _ _ _ ⟨i+1,[],⟨rfl,.inl rfl,.inr ⟨lk rfl,trivial⟩,rfl⟩,⟨h1,alln_step (q:=fun x:Arr=>x.name=s) h1 ha h2⟩,by omega⟩
 ·exact ⟨rfl,retI (idx_no (alln_end (q:=fun x:Arr=>x.name=s) (by omega) ha)).symm⟩
theorem hasA_any (l:List Arr) (hl:l.length≤9223372036854775807) (s:Str):CT Tryd.prog gl 32 [.g (.sl 2 (l.map Arr.g)),.fn 33 [] [.fp [.str s] 0]] (Is (.pb (∃ a∈l,a.name=s))):=by
 refine enter hT hF hM Tryd.func32 rfl 9 rfl (by kernel_rfl) [.tmp 4] rfl [.g (.sl 2 (l.map Arr.g)),.fn 33 [] [.fp [.str s] 0]] rfl _ ?_
 refine callIs (.inl rfl) (idxA_any l hl s) ⟨rfl,retP ?_⟩
 rcases idx_cases (fun a:Arr=>a.name=s) l with ⟨h1,h2⟩ | ⟨i,hi,h1,h2,h3⟩
 ·rw[h1];exact ⟨fun h=>absurd h (by decide),fun ⟨c,hc,ho⟩=>absurd ho (h2 c hc)⟩
 ·rw[h1];exact ⟨fun _=>⟨l[i],List.getElem_mem _,h2⟩,fun _=>by omega⟩
theorem scArr_any (p:List Barb.Unit) (u:Barb.Unit) (f:Fun) (hl:u.arrays.length≤9223372036854775807) (s:Str):CT Tryd.prog gl 25 [.fp (scG p u f) 0,.g (.str s)] (Is (.pb (arrP u s))):=by
 refine enter hT hF hM Tryd.func25 rfl 12 rfl (by kernel_rfl) [.tmp 4] rfl [.fp (scG p u f) 0,.g (.str s)] rfl _ ?_
 exact callIs (.inl rfl) (hasA_any u.arrays hl s) ⟨rfl,retP Iff.rfl⟩
theorem scVar_any (p:List Barb.Unit) (u:Barb.Unit) (f:Fun) (hl:u.vars.length≤9223372036854775807) (hf:f.params.length≤9223372036854775807) (s:Str):CT Tryd.prog gl 24 [.fp (scG p u f) 0,.g (.str s)] (Is (.pb (varP u f s))):=by
 refine enter hT hF hM Tryd.func24 rfl 21 rfl (by kernel_rfl) [.tmp 4] rfl [.fp (scG p u f) 0,.g (.str s)] rfl _ ?_
 refine callIs (.inl rfl) (strHas_any f.params hf s) ⟨fun h=>⟨rfl,retT (.inl h)⟩,fun h=>?_⟩
 exact callIs (.inl rfl) (strHas_any u.vars hl s) ⟨rfl,retP ⟨fun h'=>.inr h',fun h'=>h'.elim (fun h''=>absurd h'' h) id⟩⟩
end Go.Proofs.YtjkplhnbiejefaaDoor
namespace Barb
open Go Go.Dm Go.Eng
theorem exprS_eq (p:List Unit) (u:Unit) (f:Fun) (x:Expr):exprS p u f x=if exprS1 p u f x.k x.of x.s x.args.length≠0 then exprS1 p u f x.k x.of x.s x.args.length else exprsS p u f x.args:=by
 cases x;rw[exprS];rfl
theorem stmtS_eq (p:List Unit) (u:Unit) (f:Fun) (x:Stmt):stmtS p u f x=if (x.k=1∧¬varP u f x.s)∨(x.k=2∧¬arrP u x.s) then 5 else if exprsS p u f x.xs≠0 then exprsS p u f x.xs else if stmtsS p u f x.b≠0 then stmtsS p u f x.b else stmtsS p u f x.e:=by
 cases x;rw[stmtS];rfl
def short (u:Unit):Prop:=u.vars.length≤9223372036854775807∧u.arrays.length≤9223372036854775807∧u.funcs.length≤9223372036854775807
theorem Unit.I.short {u:Unit} (h:u.I):short u:=by
 obtain ⟨_,⟨_,h1⟩,_,h2,_,h3⟩:=h
 exact ⟨by omega,by omega,by omega⟩
end Barb
namespace Go.Proofs.YtjkplhnbiejefaaDoor
open Go Go.Dm Go.Eng Barb

theorem called_any (p:List Barb.Unit) (hp:∀ v∈p,short v) (hpl:p.length≤9223372036854775807) (u:Barb.Unit) (hu:short u) (f:Fun) (x:Barb.Expr):CT Tryd.prog gl 34 [.fp (scG p u f) 0,.agg x.d] (Is (.g (.int (calledE p u x.of x.s x.args.length)))):=by
 have lp:(p.map Unit.g).length=p.length:=by simp
 have lx:(x.args.map Expr.g).length=x.args.length:=by simp
 refine enter hT hF hM Tryd.func34 rfl 62 rfl (by kernel_rfl) [.tmp 4] rfl [.fp (scG p u f) 0,.agg x.d] rfl _ ?_
 refine stepS ⟨?_⟩
 refine stepS ⟨?_⟩
 refine seqJ (ι:=Barb.Unit) (fun _=>[(3,.ptr 0 0),(5,.ptr 1 0)]) (fun v=>[.blk x.d 29,.blk v.d 41]) (fun v=>calledE p u x.of x.s x.args.length=Barb.calledIn v x.of x.s x.args.length∧short v) (fun e0 v hv=>?_) (fun Rj hRj=>?_)
 rotate_left
 ·refine ⟨fun a1=>?_,fun a1=>hRj u _ ⟨rfl,rfl,trivial⟩ ⟨by unfold calledE;rw[if_pos a1],hu⟩⟩
  refine ⟨none,rfl,_,_,.inl rfl,NamesUnit_any p hpl x.of,rfl,?_⟩
  rcases calledE_cases p u x.of x.s x.args.length a1 with ⟨h1,e⟩ | ⟨i,hi,h1,e⟩
  ·exact ⟨fun _=>⟨rfl,retI e.symm⟩,fun h=>absurd (by rw[h1];decide) h⟩
  ·refine ⟨fun h=>absurd h (by rw[h1];omega),fun _=>?_⟩
   refine ⟨i,_,(show D.g (.int (unitIdx p x.of))=D.g (.int (i:Int)) by rw[h1]),gm hi,?_⟩
   exact hRj p[i] _ ⟨rfl,rfl,trivial⟩ ⟨e,hp _ (List.getElem_mem _)⟩
 obtain ⟨e,_,_,hf⟩:=hv
 refine callIs (.inl rfl) (NamesFunc_any v hf x.s) ?_
 rcases calledIn_cases v x.of x.s x.args.length with ⟨h1',e'⟩ | ⟨i,hi,h1',e'⟩
 ·exact ⟨fun _=>⟨rfl,retI (e.trans e').symm⟩,fun h=>absurd (by rw[h1'];decide) h⟩
 ·have li:(v.funcs[i].params.map strG).length=v.funcs[i].params.length:=by simp
  have hix:D.g (.int (funIdx v x.s))=D.g (.int (i:Int)):=by rw[h1']
  rw[e'] at e
  refine ⟨fun h=>absurd h (by rw[h1'];omega),fun _=>⟨fun b1=>?_,fun b1=>?_⟩⟩
  ·cases hb:v.funcs[i].isOpen with
   | false =>
    rw[if_pos ⟨b1,hb⟩] at e
    exact ⟨i,_,hix,(gm hi).trans (congrArg some (Fun.g_open hb)),rfl,retI e.symm⟩
   | true =>
    rw[if_neg (fun h=>by rw[hb] at h;exact absurd h.2 (by decide))] at e
    refine ⟨i,_,hix,(gm hi).trans (congrArg some (Fun.g_open hb)),none,rfl,i,_,hix,(gm hi).trans (congrArg some (Fun.g_eq _)),?_⟩
    exact ⟨fun c=>⟨rfl,retI (by rw[e,if_pos (by omega)])⟩,fun c=>⟨rfl,retI (by rw[e,if_neg (by omega)])⟩⟩
  ·rw[if_neg (fun h=>h.1 b1)] at e
   refine ⟨none,rfl,i,_,hix,(gm hi).trans (congrArg some (Fun.g_eq _)),?_⟩
   exact ⟨fun c=>⟨rfl,retI (by rw[e,if_pos (by omega)])⟩,fun c=>⟨rfl,retI (by rw[e,if_neg (by omega)])⟩⟩
end Go.Proofs.YtjkplhnbiejefaaDoor
namespace Barb
open Go Go.Dm Go.Eng
theorem Expr.args_lt {x y:Expr} (h:y∈x.args):sizeOf y < sizeOf x:=by
 cases x with
 | mk k n of s args =>
  have:=List.sizeOf_lt_of_mem (show y∈args from h)
  simp only[Expr.mk.sizeOf_spec]
  omega
theorem Stmt.b_lt {l:List Stmt} {x:Stmt} (h:x∈l):sizeOf x.b < sizeOf l∧sizeOf x.e < sizeOf l:=by
 have h1:=List.sizeOf_lt_of_mem h
 cases x with
 | mk k s xs b e =>
  simp only[Stmt.mk.sizeOf_spec] at h1
  show sizeOf b < sizeOf l∧sizeOf e < sizeOf l
  omega
theorem firstE_two {α:Type} (g:α→Int) (a b:α):firstE g [a,b]=if g a≠0 then g a else g b:=by
 by_cases h:g a=0
 ·by_cases h':g b=0
  ·simp[firstE,h,h']
  ·simp[firstE,h,h']
 ·simp[firstE,h]
theorem exprS1_bad {p:List Unit} {u:Unit} {f:Fun} {k:Int} {of s:Str} {m:Nat} (h:(k=2∧¬varP u f s)∨(k=3∧¬arrP u s)):exprS1 p u f k of s m=5:=by unfold exprS1;rw[if_pos h]
theorem exprS1_4 {p:List Unit} {u:Unit} {f:Fun} {k:Int} {of s:Str} {m:Nat} (h:k=4):exprS1 p u f k of s m=calledE p u of s m:=by unfold exprS1;rw[if_neg (by omega),if_pos h]
theorem exprS1_0 {p:List Unit} {u:Unit} {f:Fun} {k:Int} {of s:Str} {m:Nat} (h:¬((k=2∧¬varP u f s)∨(k=3∧¬arrP u s))) (h4:k≠4):exprS1 p u f k of s m=0:=by unfold exprS1;rw[if_neg h,if_neg h4]
end Barb
namespace Go.Proofs.YtjkplhnbiejefaaDoor
open Go Go.Dm Go.Eng Barb

theorem scExpr_any (p:List Barb.Unit) (hp:∀ v∈p,short v) (hpl:p.length≤9223372036854775807) (u:Barb.Unit) (hu:short u) (f:Fun) (hf:f.params.length≤9223372036854775807) :
  ∀ (n:Nat) (x:Barb.Expr),SizeOf.sizeOf x < n→x.I→CT Tryd.prog gl 26 [.fp (scG p u f) 0,.agg x.d] (Is (.g (.int (exprS p u f x)))):=by
 intro n
 induction n with
 | zero=>intro x h;exact absurd h (Nat.not_lt_zero _)
 | succ n ih =>
  intro x hn hx
  obtain ⟨_,_,_,_,hal,hI⟩:=hx.inv
  have lx:(x.args.map Expr.g).length=x.args.length:=by simp
  have e:=exprS_eq p u f x
  refine enter hT hF hM Tryd.func26 rfl 50 rfl (by kernel_rfl) [.tmp 4] rfl [.fp (scG p u f) 0,.agg x.d] rfl _ ?_
  have bad:exprS1 p u f x.k x.of x.s x.args.length=5→∀ h:Heap,RetTo (Is (.g (.int (exprS p u f x)))) h (.g (.int 5)):=fun hb h=>retI (by rw[e,if_pos (by rw[hb];decide),hb])
  refine stepS ⟨?_⟩
  refine stepS ⟨?_⟩
  refine seqJ (ι:=Int) (fun c=>[(0,.fp (scG p u f) 0),(3,.ptr 0 0),(5,.g (.int c))]) (fun _=>[.blk x.d 29]) (fun c=>c=exprS1 p u f x.k x.of x.s x.args.length) (fun e0 c hc=>?_) (fun Rj hRj=>?_)
  rotate_left
  ·refine ⟨fun a1=>?_,fun a1=>⟨fun a2=>?_,fun a2=>⟨fun a3=>?_,fun a3=>?_⟩⟩⟩
   ·refine callIs (.inl rfl) (scVar_any p u f hu.1 hf x.s) ⟨fun b1=>⟨fun _=>⟨rfl,bad (exprS1_bad (.inl ⟨a1,b1⟩)) _⟩,fun h=>absurd h b1⟩,fun b1=>⟨fun h=>absurd h (by omega),fun _=>⟨fun h=>absurd h (by omega),fun _=>?_⟩⟩⟩
    exact hRj 0 _ ⟨rfl,rfl,rfl,trivial⟩ (exprS1_0 (fun h=>by rcases h with h | h;exact h.2 b1;omega) (by omega)).symm
   ·refine callIs (.inl rfl) (scArr_any p u f hu.2.1 x.s) ⟨fun b1=>⟨rfl,bad (exprS1_bad (.inr ⟨a2,b1⟩)) _⟩,fun b1=>⟨fun h=>absurd h (by omega),fun _=>?_⟩⟩
    exact hRj 0 _ ⟨rfl,rfl,rfl,trivial⟩ (exprS1_0 (fun h=>by rcases h with h | h;omega;exact h.2 b1) (by omega)).symm
   ·exact callIs (.inl rfl) (called_any p hp hpl u hu f x) (hRj _ _ ⟨rfl,rfl,rfl,trivial⟩ (exprS1_4 a3).symm)
   ·exact hRj 0 _ ⟨rfl,rfl,rfl,trivial⟩ (exprS1_0 (fun h=>by omega) a3).symm
  rw[← hc,exprsS_first] at e
  clear bad
  refine loopR (ι:=Nat × Int) (fun s=>[(39,.g (.int (s.1:Int))),(5,.g (.int s.2))]) (fun _=>[]) (fun s=>s.1≤x.args.length∧((s.2=0∧c=0∧∀ j (hj:j < x.args.length),j < s.1→exprS p u f x.args[j]=0)∨(s.2≠0∧exprS p u f x=s.2))) (fun s=>x.args.length - s.1)
   ⟨(0,c),[],⟨rfl,.inl rfl,.inr ⟨lk rfl,lk rfl,trivial⟩,rfl⟩,Nat.zero_le _,?_⟩ ?_
  ·by_cases h0:c=0
   ·exact .inl ⟨h0,h0,none0⟩
   ·exact .inr ⟨h0,by rw[e,if_pos h0]⟩
  rintro Rd hRd ⟨i,d⟩ ⟨hi,hd⟩
  dsimp only at hi hd
  refine ⟨fun h1=>?_,fun h1=>?_⟩
  ·have h2:i < x.args.length:=by omega
   refine ⟨i,_,rfl,(gm h2).trans (congrArg some (Expr.g_eq _)),?_⟩
   refine ⟨fun h3=>⟨rfl,retI ?_⟩,fun h3=>?_⟩
   ·rcases hd with ⟨h4,_⟩ | ⟨_,h4⟩
    ·exact absurd h4 h3
    ·exact h4.symm
   ·obtain ⟨_,hc0,ha⟩:d=0∧c=0∧∀ j (hj:j < x.args.length),j < i→exprS p u f x.args[j]=0:=by
     rcases hd with h4 | ⟨h4,_⟩
     ·exact h4
     ·exact absurd h3 h4
    refine callIs (.inl rfl) (ih x.args[i] (by have:=Expr.args_lt (List.getElem_mem h2);omega) (hI _ (List.getElem_mem _))) ⟨_,I64.wrap (by unfold I64;omega),?_⟩
    refine hRd _ _ _ ⟨(i+1,exprS p u f x.args[i]),[],⟨rfl,.inl rfl,.inr ⟨lk rfl,lk rfl,trivial⟩,rfl⟩,⟨h2,?_⟩,by dsimp only;omega⟩
    dsimp only
    by_cases h5:exprS p u f x.args[i]=0
    ·exact .inl ⟨h5,hc0,firstE_step h2 ha h5⟩
    ·exact .inr ⟨h5,by rw[e,if_neg (fun h=>h hc0),firstE_at h2 ha h5]⟩
  ·refine ⟨rfl,retI ?_⟩
   rcases hd with ⟨h4,hc0,ha⟩ | ⟨_,h4⟩
   ·rw[e,if_neg (fun h=>h hc0),firstE_end (by omega) ha,h4]
   ·exact h4.symm
end Go.Proofs.YtjkplhnbiejefaaDoor
namespace Go.Proofs.YtjkplhnbiejefaaDoor
open Go Go.Dm Go.Eng Barb

def stmtsG (l:List Barb.Stmt):List GV:=[.sl 5 (l.map Stmt.g)]
set_option maxRecDepth 4000 in
set_option maxHeartbeats 1000000 in
theorem scStmts_any (p:List Barb.Unit) (hp:∀ v∈p,short v) (hpl:p.length≤9223372036854775807) (u:Barb.Unit) (hu:short u) (f:Fun) (hf:f.params.length≤9223372036854775807) :
  ∀ (n:Nat) (l:List Barb.Stmt),SizeOf.sizeOf l < n→(∀ x∈l,Barb.Stmt.I x)→l.length*96≤140737488351232→CT Tryd.prog gl 20 [.fp (scG p u f) 0,.g (.sl 5 (l.map Stmt.g))] (Is (.g (.int (stmtsS p u f l)))):=by
 intro n
 induction n with
 | zero=>intro l h;exact absurd h (Nat.not_lt_zero _)
 | succ n ih =>
  intro l hn hI hlen
  have hl:(l.map Stmt.g).length=l.length:=by simp
  have et:=stmtsS_first p u f l
  refine enter hT hF hM Tryd.func20 rfl 73 rfl (by kernel_rfl) [.tmp 4] rfl [.fp (scG p u f) 0,.g (.sl 5 (l.map Stmt.g))] rfl _ ?_
  refine loopR (ι:=Nat) (fun i=>[(15,.g (.int (i:Int)))]) (fun _=>[]) (fun i=>i≤l.length∧∀ j (hj:j < l.length),j < i→stmtS p u f l[j]=0) (fun i=>l.length - i)
   ⟨0,[],⟨rfl,.inl rfl,.inr ⟨lk rfl,trivial⟩,rfl⟩,Nat.zero_le _,none0⟩ ?_
  intro Rd hRd i ⟨hi,ha⟩
  refine ⟨fun h0=>?_,fun h0=>⟨rfl,retI (by rw[et,firstE_end (by omega) ha])⟩⟩
  have h1:i < l.length:=by omega
  have fin:∀ v:Int,v≠0→stmtS p u f l[i]=v→∀ h:Heap,RetTo (Is (.g (.int (stmtsS p u f l)))) h (.g (.int v)):=fun v hv he h=>retI (by rw[et,firstE_at h1 ha (by rw[he];exact hv),he])
  obtain ⟨hk,hs,hxl,hbl,hel,hxI,hbI,heI⟩:=(hI l[i] (List.getElem_mem _)).inv
  have e:=stmtS_eq p u f l[i]
  have next:stmtS p u f l[i]=0→∀ j (hj:j < l.length),j < i+1→stmtS p u f l[j]=0:=fun h0=>firstE_step h1 ha h0
  obtain ⟨hsb,hse⟩:=Stmt.b_lt (List.getElem_mem h1)
  refine stepS ?_
  refine stepS ?_
  refine ⟨i,_,rfl,(gm h1).trans (congrArg some (Stmt.g_eq _)),⟨?_⟩⟩
  generalize l[i]=y at *
  have lx:(y.xs.map Expr.g).length=y.xs.length:=by simp
  refine seqJ (ι:=PUnit) (fun _=>[(0,.fp (scG p u f) 0),(6,.ptr 0 0),(15,.g (.int (i:Int)))]) (fun _=>[.blk y.d 34]) (fun _=>¬((y.k=1∧¬varP u f y.s)∨(y.k=2∧¬arrP u y.s))) (fun e0 _ hb=>?_) (fun Rj hRj=>?_)
  rotate_left
  ·have bad:(y.k=1∧¬varP u f y.s)∨(y.k=2∧¬arrP u y.s)→∀ h:Heap,RetTo (Is (.g (.int (stmtsS p u f l)))) h (.g (.int 5)):=fun hb=>fin 5 (by decide) (by rw[e,if_pos hb])
   refine ⟨fun a1=>?_,fun a1=>⟨fun a2=>?_,fun a2=>?_⟩⟩
   ·refine callIs (.inl rfl) (scVar_any p u f hu.1 hf y.s) ⟨fun b1=>⟨rfl,bad (.inl ⟨a1,b1⟩) _⟩,fun b1=>⟨fun h=>absurd h (by omega),fun _=>?_⟩⟩
    exact hRj ⟨⟩ _ ⟨rfl,rfl,rfl,trivial⟩ (fun h=>by rcases h with h | h;exact h.2 b1;omega)
   ·refine callIs (.inl rfl) (scArr_any p u f hu.2.1 y.s) ⟨fun b1=>⟨rfl,bad (.inr ⟨a2,b1⟩) _⟩,fun b1=>?_⟩
    exact hRj ⟨⟩ _ ⟨rfl,rfl,rfl,trivial⟩ (fun h=>by rcases h with h | h;omega;exact h.2 b1)
   ·exact hRj ⟨⟩ _ ⟨rfl,rfl,rfl,trivial⟩ (fun h=>by omega)
  rw[if_neg hb,exprsS_first] at e
  refine loopR (ι:=Nat) (fun k=>[(44,.g (.int (k:Int))),(6,.ptr 0 0)]) (fun _=>[.blk y.d 34]) (fun k=>k≤y.xs.length∧∀ j (hj:j < y.xs.length),j < k→exprS p u f y.xs[j]=0) (fun k=>y.xs.length - k)
   ⟨0,[.old 0],⟨rfl,.inl rfl,.inr ⟨lk rfl,lk rfl,trivial⟩,rfl⟩,Nat.zero_le _,none0⟩ ?_
  intro Rk hRk k ⟨hk1,hk2⟩
  refine ⟨fun c0=>?_,fun c0=>?_⟩
  ·have c1:k < y.xs.length:=by omega
   refine ⟨k,_,rfl,(gm c1).trans (congrArg some (Expr.g_eq _)),?_⟩
   refine callIs (.inl rfl) (scExpr_any p hp hpl u hu f hf _ y.xs[k] (Nat.lt_succ_self _) (hxI _ (List.getElem_mem _))) ?_
   refine ⟨fun c2=>⟨rfl,fin _ c2 (by rw[e,if_pos (by rw[firstE_at c1 hk2 c2];exact c2),firstE_at c1 hk2 c2]) _⟩,fun c2=>⟨_,I64.wrap (by unfold I64;omega),?_⟩⟩
   exact hRk _ _ _ ⟨k+1,[.old 0],⟨rfl,.inl rfl,.inr ⟨lk rfl,lk rfl,trivial⟩,rfl⟩,⟨c1,firstE_step c1 hk2 c2⟩,by omega⟩
  have hx0:firstE (exprS p u f) y.xs=0:=firstE_end (by omega) hk2
  rw[if_neg (fun h=>h hx0),← firstE_two (stmtsS p u f) y.b y.e] at e
  refine ⟨[stmtsG y.b,stmtsG y.e],rfl,rfl,⟨rfl,rfl,trivial⟩,?_⟩
  have hls:∀ m (hm:m < [y.b,y.e].length),SizeOf.sizeOf [y.b,y.e][m] < n∧(∀ x∈[y.b,y.e][m],Barb.Stmt.I x)∧[y.b,y.e][m].length*96≤140737488351232:=fun m hm=>by
   match m,hm with
   | 0,_=>exact ⟨by show SizeOf.sizeOf y.b < n;omega,hbI,hbl⟩
   | 1,_=>exact ⟨by show SizeOf.sizeOf y.e < n;omega,heI,hel⟩
  have hl2:[y.b,y.e].length=2:=rfl
  have hl3:[stmtsG y.b,stmtsG y.e].length=2:=rfl
  have hrow:[stmtsG y.b,stmtsG y.e]=[y.b,y.e].map stmtsG:=rfl
  generalize [y.b,y.e]=bs at *
  refine loopR (ι:=Nat) (fun m=>[(61,.g (.int (m:Int))),(59,.row 0)]) (fun _=>[.row (bs.map stmtsG) 32 1]) (fun m=>m≤2∧∀ j (hj:j < bs.length),j < m→stmtsS p u f bs[j]=0) (fun m=>2 - m)
   ⟨0,[.old 1],⟨rfl,.inr ⟨⟨hrow,rfl,rfl⟩,trivial⟩,.inr ⟨lk rfl,lk rfl,trivial⟩,rfl⟩,Nat.zero_le _,none0⟩ ?_
  intro Rm hRm m ⟨hm1,hm2⟩
  refine ⟨fun d0=>?_,fun d0=>⟨_,I64.wrap (by unfold I64;omega),?_⟩⟩
  ·have d1:m < bs.length:=by omega
   obtain ⟨q1,q2,q3⟩:=hls m d1
   refine ⟨m,rfl,by rw[List.length_map];exact d1,_,gm d1,?_⟩
   refine callIs (.inl rfl) (ih bs[m] q1 q2 q3) ?_
   refine ⟨fun d2=>⟨rfl,fin _ d2 (by rw[e,firstE_at d1 hm2 d2]) _⟩,fun d2=>⟨_,I64.wrap (by unfold I64;omega),?_⟩⟩
   exact hRm _ _ _ ⟨m+1,[.old 0],⟨rfl,.inl rfl,.inr ⟨lk rfl,lk rfl,trivial⟩,rfl⟩,⟨by omega,firstE_step d1 hm2 d2⟩,by omega⟩
  ·exact hRd _ _ _ ⟨i+1,[],⟨rfl,.inl rfl,.inr ⟨lk rfl,trivial⟩,rfl⟩,⟨h1,next (by rw[e,firstE_end (by omega) hm2])⟩,by omega⟩
theorem twice_any (l:List Str) (hl:l.length≤9223372036854775807):CT Tryd.prog gl 10 [.g (.sl 1 (l.map strG))] (Is (.pb (dupP l))):=by
 have ll:(l.map strG).length=l.length:=by simp
 refine enter hT hF hM Tryd.func10 rfl 18 rfl (by kernel_rfl) [.tmp 2] rfl [.g (.sl 1 (l.map strG))] rfl _ ?_
 refine loopR (ι:=Nat) (fun i=>[(7,.g (.int (i:Int)))]) (fun _=>[]) (fun i=>i≤l.length∧∀ j (hj:j < l.length),j < i→¬l[j]∈l.take j) (fun i=>l.length - i)
  ⟨0,[],⟨rfl,.inl rfl,.inr ⟨lk rfl,trivial⟩,rfl⟩,Nat.zero_le _,fun j _ h=>absurd h (Nat.not_lt_zero j)⟩ ?_
 intro Rd hRd i ⟨hi,ha⟩
 refine ⟨fun h=>?_,fun h=>⟨rfl,retF (fun ⟨j,hj,hd⟩=>ha j hj (by omega) hd)⟩⟩
 have h1:i < l.length:=by omega
 refine ⟨i,_,rfl,gm h1,i,rfl,by omega,?_⟩
 have hc:=strHas_any (l.take i) (by rw[List.length_take];omega) l[i]
 rw[List.map_take] at hc
 refine callIs (.inl rfl) hc ?_
 refine ⟨fun h2=>⟨rfl,retT ⟨i,h1,h2⟩⟩,fun h2=>⟨_,I64.wrap (by unfold I64;omega),?_⟩⟩
 refine hRd _ _ _ ⟨i+1,[],⟨rfl,.inl rfl,.inr ⟨lk rfl,trivial⟩,rfl⟩,⟨h1,fun j hj hji=>?_⟩,by omega⟩
 by_cases hje:j=i
 ·subst hje;exact h2
 ·exact ha j hj (by omega)
end Go.Proofs.YtjkplhnbiejefaaDoor
namespace Barb
open Go Go.Dm Go.Eng
theorem names_succ0 {α:Type} (f:α→Str) {l:List α} {i:Nat} (h:i < l.length):((l.take i).map f).map strG++[[GV.str (f l[i])]]=((l.take (i+1)).map f).map strG:=by
 rw[take_one h,List.map_append (f:=f),List.map_append (f:=strG)];rfl
theorem names_succ {α:Type} (f:α→Str) {l:List α} {i:Nat} (h:i < l.length) (pre:List Str):(pre++(l.take i).map f).map strG++[[GV.str (f l[i])]]=(pre++(l.take (i+1)).map f).map strG:=by
 rw[List.map_append,List.append_assoc,names_succ0 f h,← List.map_append]
theorem progWords_succ {l:List Unit} {i:Nat} (h:i < l.length):progWords (l.take (i+1))=progWords (l.take i)+unitWords l[i]:=by
 unfold progWords;rw[take_one h,List.map_append,List.sum_append];simp
theorem unitWords_le {u:Unit} (h:unitE u=0):0≤unitWords u∧unitWords u≤38:=by
 obtain ⟨h1,h2,_,h4⟩:=unitE_ok h
 have:=sizes_le h4
 unfold unitWords
 omega
theorem progWords_le {l:List Unit} {i:Nat} (hi:i≤l.length) (h:∀ j (hj:j < l.length),j < i→unitE l[j]=0):0≤progWords (l.take i)∧progWords (l.take i)≤38*i:=by
 induction i with
 | zero=>simp[progWords]
 | succ i ih =>
  have h1:=ih (by omega) (fun j hj hji=>h j hj (by omega))
  have h2:=unitWords_le (h i (by omega) (by omega))
  rw[progWords_succ (by omega)]
  omega
end Barb
namespace Go.Proofs.YtjkplhnbiejefaaDoor
open Go Go.Dm Go.Eng Barb

theorem CloneS_any (xs:List (List GV)) (hx:xs.length*16≤140737488351232):CT Tryd.prog gl 19 [.g (.sl 1 xs)] (RowIs xs 9 1):=by
 refine enter hT hF hM Tryd.func19 rfl 8 rfl (by kernel_rfl) [.tmp 2] rfl [.g (.sl 1 xs)] rfl _ ?_
 intro p hp
 refine ⟨fun h=>⟨rfl,retNilRow rfl (by rw[hp h];rfl)⟩,fun h=>?_⟩
 refine ⟨[],rfl,rfl,trivial,?_⟩
 refine ⟨⟨by simp only[maxLen,List.length_nil];omega,by simp only[List.length_nil];omega⟩,?_⟩
 exact ⟨rfl,retRow (ys:=xs) rfl rfl rfl⟩

set_option maxHeartbeats 1000000 in
theorem namesUnit_any (p:List Barb.Unit) (hp:∀ v∈p,short v) (hpl:p.length≤9223372036854775807) (u:Barb.Unit) (hu:u.I) (hE:unitE u=0):CT Tryd.prog gl 11 [.g (.sl 4 (p.map Unit.g)),.agg u.d] (Is (.g (.int (unitS p u)))):=by
 obtain ⟨hv8,ha3,hf8,_⟩:=unitE_ok hE
 have hsh:=hu.short
 obtain ⟨_,_,_,_,hfi,_⟩:=hu
 have lv:(u.vars.map strG).length=u.vars.length:=by simp
 have la:(u.arrays.map Arr.g).length=u.arrays.length:=by simp
 have lf:(u.funcs.map Fun.g).length=u.funcs.length:=by simp
 have e:unitS p u=unitS p u:=rfl
 conv at e=>rhs;unfold unitS
 refine enter hT hF hM Tryd.func11 rfl 80 rfl (by kernel_rfl) [.tmp 4] rfl [.g (.sl 4 (p.map Unit.g)),.agg u.d] rfl _ ?_
 refine callQ (.inl rfl) (CloneS_any (u.vars.map strG) (by omega)) (fun d' h' hq=>?_) (fun d' hq=>by cases hq)
 injection hq with e1 e2
 subst e1;subst e2
 refine loopR (ι:=Nat) (fun i=>[(21,.g (.int (i:Int))),(5,.row 1),(3,.ptr 0 0)]) (fun i=>[.blk u.d 41,.row ((u.vars++(u.arrays.take i).map Arr.name).map strG) 9 1]) (fun i=>i≤u.arrays.length) (fun i=>u.arrays.length - i)
  ⟨0,[.old 0,.old 1],⟨rfl,.inr ⟨⟨rfl,.inl rfl⟩,⟨by simp,rfl,rfl⟩,trivial⟩,.inr ⟨lk rfl,lk rfl,lk rfl,trivial⟩,rfl⟩,Nat.zero_le _⟩ ?_
 intro Rd hRd i hi
 refine ⟨fun b0=>?_,fun b0=>?_⟩
 ·have b1:i < u.arrays.length:=by omega
  refine ⟨i,_,rfl,gm b1,[[.str u.arrays[i].name]],rfl,rfl,⟨rfl,trivial⟩,?_⟩
  refine ⟨⟨by simp only[maxLen,List.length_cons,List.length_nil,List.length_map,List.length_append,List.length_take];omega,by simp only[List.length_cons,List.length_nil,List.length_map,List.length_append,List.length_take];omega⟩,?_⟩
  refine ⟨_,I64.wrap (by unfold I64;omega),?_⟩
  refine hRd _ _ _ ⟨i+1,[.old 0,.old 4],⟨rfl,.inr ⟨⟨rfl,.inl rfl⟩,⟨?_,rfl,rfl⟩,trivial⟩,.inr ⟨lk rfl,lk rfl,lk rfl,trivial⟩,rfl⟩,b1,by omega⟩
  exact names_succ Arr.name b1 u.vars
 have hiE:i=u.arrays.length:=by omega
 subst hiE
 rw[List.take_length]
 clear hRd hi b0
 refine loopR (ι:=Nat × Nat) (fun s=>[(34,.g (.int (s.1:Int))),(8,.row 2),(9,.g (.int (s.2:Int))),(5,.row 1),(3,.ptr 0 0)]) (fun s=>[.blk u.d 41,.row ((u.vars++u.arrays.map Arr.name).map strG) 9 1,.row (((u.funcs.take s.1).map Fun.name).map strG) 9 1]) (fun s=>s.1≤u.funcs.length∧s.2≤s.1) (fun s=>u.funcs.length - s.1)
  ⟨(0,0),[.old 0,.old 1,.nil 9 1],⟨rfl,.inl rfl,.inr ⟨lk rfl,.inr rfl,lk rfl,lk rfl,lk rfl,trivial⟩,rfl⟩,Nat.zero_le _,Nat.le_refl _⟩ ?_
 rintro Rd hRd ⟨i,c⟩ ⟨hi,hc⟩
 dsimp only at hi hc
 refine ⟨fun b0=>?_,fun b0=>?_⟩
 ·have b1:i < u.funcs.length:=by omega
  have hrow:((u.funcs.take i).map Fun.name).map strG++[[GV.str u.funcs[i].name]]=((u.funcs.take (i+1)).map Fun.name).map strG:=names_succ0 Fun.name b1
  cases hb:u.funcs[i].isOpen with
  | true =>
   refine ⟨i,_,rfl,(gm b1).trans (congrArg some (Fun.g_open hb)),[[.str u.funcs[i].name]],rfl,rfl,⟨rfl,trivial⟩,?_⟩
   refine ⟨⟨by simp only[maxLen,List.length_cons,List.length_nil,List.length_map,List.length_take];omega,by simp only[List.length_cons,List.length_nil,List.length_map,List.length_take];omega⟩,?_⟩
   refine ⟨_,I64.wrap (by unfold I64;omega),_,I64.wrap (by unfold I64;omega),?_⟩
   exact hRd _ _ _ ⟨(i+1,c+1),[.old 0,.old 1,.old 5],⟨rfl,.inr ⟨⟨rfl,.inl rfl⟩,⟨rfl,rfl,rfl⟩,⟨hrow,rfl,rfl⟩,trivial⟩,.inr ⟨lk rfl,lk rfl,lk rfl,lk rfl,lk rfl,trivial⟩,rfl⟩,⟨b1,by dsimp only;omega⟩,by dsimp only;omega⟩
  | false =>
   refine ⟨i,_,rfl,(gm b1).trans (congrArg some (Fun.g_open hb)),[[.str u.funcs[i].name]],rfl,rfl,⟨rfl,trivial⟩,?_⟩
   refine ⟨⟨by simp only[maxLen,List.length_cons,List.length_nil,List.length_map,List.length_take];omega,by simp only[List.length_cons,List.length_nil,List.length_map,List.length_take];omega⟩,?_⟩
   refine ⟨_,I64.wrap (by unfold I64;omega),?_⟩
   exact hRd _ _ _ ⟨(i+1,c),[.old 0,.old 1,.old 5],⟨rfl,.inr ⟨⟨rfl,.inl rfl⟩,⟨rfl,rfl,rfl⟩,⟨hrow,rfl,rfl⟩,trivial⟩,.inr ⟨lk rfl,lk rfl,lk rfl,lk rfl,lk rfl,trivial⟩,rfl⟩,⟨b1,by dsimp only;omega⟩,by dsimp only;omega⟩
 have hiE:i=u.funcs.length:=by omega
 subst hiE
 rw[List.take_length]
 clear hRd hi b0
 refine callIs (.inl rfl) (twice_any (u.vars++u.arrays.map Arr.name) (by simp only[List.length_append,List.length_map];omega)) ⟨fun d1=>⟨rfl,retI (by rw[e,if_pos (.inl d1)])⟩,fun d1=>?_⟩
 refine callIs (.inl rfl) (twice_any (u.funcs.map Fun.name) (by simp only[List.length_map];omega)) ⟨fun d2=>⟨rfl,retI (by rw[e,if_pos (.inr d2)])⟩,fun d2=>⟨fun d3=>absurd d3 (by omega),fun _=>?_⟩⟩
 rw[if_neg (fun h=>h.elim d1 d2)] at e
 refine loopR (ι:=Nat) (fun i=>[(61,.g (.int (i:Int))),(3,.ptr 0 0)]) (fun _=>[.blk u.d 41]) (fun i=>i≤u.funcs.length∧∀ j (hj:j < u.funcs.length),j < i→funS p u u.funcs[j]=0) (fun i=>u.funcs.length - i)
  ⟨0,[.old 0],⟨rfl,.inl rfl,.inr ⟨lk rfl,lk rfl,trivial⟩,rfl⟩,Nat.zero_le _,none0⟩ ?_
 intro Rd hRd i ⟨hi,ha⟩
 refine ⟨fun b0=>?_,fun b0=>⟨rfl,retI (by rw[e,firstE_end (by omega) ha])⟩⟩
 have b1:i < u.funcs.length:=by omega
 have fin:∀ v:Int,v≠0→funS p u u.funcs[i]=v→unitS p u=v:=fun v hv h=>by rw[e,firstE_at b1 ha (by rw[h];exact hv),h]
 have next:funS p u u.funcs[i]=0→∀ j (hj:j < u.funcs.length),j < i+1→funS p u u.funcs[j]=0:=fun h0=>firstE_step b1 ha h0
 obtain ⟨_,⟨_,fpl⟩,fbl,fbI⟩:=hfi _ (List.getElem_mem b1)
 refine ⟨i,_,rfl,(gm b1).trans (congrArg some (Fun.g_eq _)),?_⟩
 have ef:funS p u u.funcs[i]=if dupP u.funcs[i].params then 6 else stmtsS p u u.funcs[i] u.funcs[i].body:=rfl
 generalize u.funcs[i]=f at *
 refine callIs (.inl rfl) (twice_any f.params (by omega)) ⟨fun d4=>⟨rfl,retI (fin 6 (by decide) (by rw[ef,if_pos d4])).symm⟩,fun d4=>?_⟩
 rw[if_neg d4] at ef
 refine callIs (.inl rfl) (scStmts_any p hp hpl u hsh f (by omega) _ f.body (Nat.lt_succ_self _) fbI fbl) ?_
 refine ⟨fun d5=>⟨rfl,retI (fin _ d5 ef).symm⟩,fun d5=>⟨_,I64.wrap (by unfold I64;omega),?_⟩⟩
 exact hRd _ _ _ ⟨i+1,[.old 0],⟨rfl,.inl rfl,.inr ⟨lk rfl,lk rfl,trivial⟩,rfl⟩,⟨b1,next (by rw[ef,d5])⟩,by omega⟩
end Go.Proofs.YtjkplhnbiejefaaDoor
namespace Barb
def progI (p:List Unit):Prop:=(∀ u∈p,u.I)∧p.length≤9223372036854775807
end Barb
namespace Go.Proofs.YtjkplhnbiejefaaDoor
open Go Go.Dm Go.Eng Barb

set_option maxHeartbeats 1000000 in
theorem NamesCheck_any (p:List Barb.Unit) (hp:progI p):CT Tryd.prog gl 5 [.g (.sl 4 (p.map Unit.g))] (Is (.g (.int (progE p)))):=by
 obtain ⟨hI,hpl⟩:=hp
 have lp:(p.map Unit.g).length=p.length:=by simp
 have hsh:∀ v∈p,short v:=fun v hv=>(hI v hv).short
 have e:progE p=progE p:=rfl
 conv at e=>rhs;unfold progE
 refine enter hT hF hM Tryd.func5 rfl 52 rfl (by kernel_rfl) [.tmp 2] rfl [.g (.sl 4 (p.map Unit.g))] rfl _ ?_
 refine ⟨fun h=>⟨rfl,retI (by rw[e,if_pos (by omega)])⟩,fun h=>?_⟩
 rw[if_neg (by omega)] at e
 refine loopR (ι:=Nat) (fun i=>[(16,.g (.int (i:Int))),(3,.row 0),(4,.g (.int (progWords (p.take i))))]) (fun i=>[.row (((p.take i).map Unit.name).map strG) 9 1]) (fun i=>i≤p.length∧∀ j (hj:j < p.length),j < i→unitE p[j]=0) (fun i=>p.length - i)
  ⟨0,[.nil 9 1],⟨rfl,.inl rfl,.inr ⟨lk rfl,.inr rfl,lk rfl,trivial⟩,rfl⟩,Nat.zero_le _,none0⟩ ?_
 intro Rd hRd i ⟨hi,ha⟩
 have hw:=progWords_le hi ha
 refine ⟨fun b0=>?_,fun b0=>?_⟩
 ·have b1:i < p.length:=by omega
  refine ⟨i,_,rfl,gm b1,?_⟩
  refine callIs (.inl rfl) (TreeCheck_any p[i] (hI _ (List.getElem_mem _))) ⟨fun b2=>⟨rfl,retI ?_⟩,fun b2=>?_⟩
  ·rw[e,firstE_at b1 ha b2,if_pos b2]
  refine ⟨[[.str p[i].name]],rfl,rfl,⟨rfl,trivial⟩,?_⟩
  refine ⟨⟨by simp only[maxLen,List.length_cons,List.length_nil,List.length_map,List.length_take];omega,by simp only[List.length_cons,List.length_nil,List.length_map,List.length_take];omega⟩,?_⟩
  obtain ⟨w1,w2,_,w4⟩:=unitE_ok b2
  have w5:=unitWords_le b2
  refine callIs (.inl rfl) (Words_any p[i] w1 w4 w2) ⟨_,I64.wrap (by unfold I64;omega),_,I64.wrap (by unfold I64;omega),?_⟩
  exact hRd _ _ _ ⟨i+1,[.old 3],⟨rfl,.inr ⟨⟨names_succ0 Unit.name b1,rfl,rfl⟩,trivial⟩,.inr ⟨lk rfl,lk rfl,lkI (progWords_succ b1).symm,trivial⟩,rfl⟩,⟨b1,firstE_step b1 ha b2⟩,by omega⟩
 have hiE:i=p.length:=by omega
 have hz:firstE unitE p=0:=firstE_end (by omega) ha
 rw[if_neg (fun h=>h hz)] at e
 subst hiE
 rw[List.take_length] at *
 clear hRd
 refine callIs (.inl rfl) (twice_any (p.map Unit.name) (by simp only[List.length_map];omega)) ⟨fun d1=>⟨rfl,retI (by rw[e,if_pos d1])⟩,fun d1=>?_⟩
 rw[if_neg d1] at e
 refine ⟨fun d2=>⟨rfl,retI (by rw[e,if_pos d2])⟩,fun d2=>?_⟩
 rw[if_neg d2] at e
 refine loopR (ι:=Nat) (fun i=>[(41,.g (.int (i:Int)))]) (fun _=>[]) (fun i=>i≤p.length∧∀ j (hj:j < p.length),j < i→unitS p p[j]=0) (fun i=>p.length - i)
  ⟨0,[],⟨rfl,.inl rfl,.inr ⟨lk rfl,trivial⟩,rfl⟩,Nat.zero_le _,none0⟩ ?_
 intro Rd hRd i ⟨hi,hs⟩
 refine ⟨fun c0=>?_,fun c0=>⟨rfl,retI (by rw[e,firstE_end (by omega) hs])⟩⟩
 have c1:i < p.length:=by omega
 refine ⟨i,_,rfl,gm c1,?_⟩
 refine callIs (.inl rfl) (namesUnit_any p hsh hpl p[i] (hI _ (List.getElem_mem _)) (ha i c1 (by omega))) ?_
 refine ⟨fun c2=>⟨rfl,retI (by rw[e,firstE_at c1 hs c2])⟩,fun c2=>⟨_,I64.wrap (by unfold I64;omega),?_⟩⟩
 exact hRd _ _ _ ⟨i+1,[],⟨rfl,.inl rfl,.inr ⟨lk rfl,trivial⟩,rfl⟩,⟨c1,firstE_step c1 hs c2⟩,by omega⟩
end Go.Proofs.YtjkplhnbiejefaaDoor
namespace Go.Proofs.YtjkplhnbiejefaaDoor
open Go Go.Dm Go.Eng Barb

theorem arr_neg (u:Barb.Unit) (s:Str):idx (fun a:Arr=>a.name=s) u.arrays < 0↔¬arrP u s:=by
 rcases idx_cases (fun a:Arr=>a.name=s) u.arrays with ⟨h1,h2⟩ | ⟨i,hi,h1,h2,_⟩
 ·rw[h1];exact ⟨fun _ ⟨a,ha,hs⟩=>h2 a ha hs,fun _=>by decide⟩
 ·rw[h1];exact ⟨fun h=>by omega,fun h=>absurd ⟨u.arrays[i],List.getElem_mem _,h2⟩ h⟩
end Go.Proofs.YtjkplhnbiejefaaDoor
namespace Go.Proofs.YtjkplhnbiejefaaDoor
open Go Go.Dm Go.Eng Barb

abbrev kpX (p:List Barb.Unit) (c:Int):List (Nat × D):=[(0,.g (.sl 4 (p.map Unit.g))),(5,.ptr 0 0),(6,.ptr 1 0),(7,.ptr 2 0),(8,.g (.int c))]
end Go.Proofs.YtjkplhnbiejefaaDoor
namespace Go.Proofs.YtjkplhnbiejefaaDoor
open Go Go.Dm Go.Eng Barb

end Go.Proofs.YtjkplhnbiejefaaDoor
namespace Go.Proofs.YtjkplhnbiejefaaDoor
open Go Go.Dm Go.Eng Barb

end Go.Proofs.YtjkplhnbiejefaaDoor
