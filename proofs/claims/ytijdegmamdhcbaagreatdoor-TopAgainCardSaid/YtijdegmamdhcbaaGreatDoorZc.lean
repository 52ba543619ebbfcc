/-
  The names of a program: the contracts of package names and of what the document says of names.
-/
import Derived.Test.YtijdegmamdhcbaaGreatDoorTq
import Derived.Test.YtijdegmamdhcbaaGreatDoorZa
import Derived.Test.YtijdegmamdhcbaaGreatDoorZb
namespace Barb
open Go Go.Dm Go.Eng
abbrev scG (p:List Unit) (u:Unit) (f:Fun):List GV:=[.sl 4 (p.map Unit.g),.str u.name,.sl 1 (u.vars.map strG),.sl 2 (u.arrays.map Arr.g),.sl 4 (u.funcs.map Fun.g),.str f.name,.bool f.isOpen,.sl 1 (f.params.map strG),.sl 5 (f.body.map Stmt.g)]
theorem Fun.g_open {f:Fun} {b:Bool} (h:f.isOpen=b):f.g=[.str f.name,.bool b,.sl 1 (f.params.map strG),.sl 5 (f.body.map Stmt.g)]:=by rw[Fun.g_eq,h]
theorem find_idx {α:Type} (q:α→Prop) [DecidablePred q]:∀ (l:List α),(idx q l=-1∧l.find? (fun x=>decide (q x))=none)∨∃ (i:Nat) (hi:i < l.length),idx q l=(i:Int)∧l.find? (fun x=>decide (q x))=some l[i]:=by
 intro l
 rcases idx_cases q l with ⟨h1,h2⟩ | ⟨i,hi,h1,h2,h3⟩
 ·exact .inl ⟨h1,by rw[List.find?_eq_none];intro x hx;simpa using h2 x hx⟩
 ·refine .inr ⟨i,hi,h1,?_⟩
  rw[List.find?_eq_some_iff_getElem]
  exact ⟨by simpa using h2,i,hi,rfl,fun j hj=>by simpa using h3 j (by omega) hj⟩
theorem calledIn_cases (v:Unit) (of s:Str) (m:Nat):(funIdx v s=-1∧Barb.calledIn v of s m=5)∨∃ (i:Nat) (hi:i < v.funcs.length),funIdx v s=(i:Int)∧Barb.calledIn v of s m=if of≠[]∧v.funcs[i].isOpen=false then 5 else if v.funcs[i].params.length≠m then 7 else 0:=by
 unfold Barb.calledIn
 rcases find_idx (fun g:Fun=>g.name=s) v.funcs with ⟨h1,h2⟩ | ⟨i,hi,h1,h2⟩
 ·exact .inl ⟨h1,by rw[h2]⟩
 ·exact .inr ⟨i,hi,h1,by rw[h2]⟩
theorem calledE_cases (p:List Unit) (u:Unit) (of s:Str) (m:Nat) (ho:of≠[]):(unitIdx p of=-1∧calledE p u of s m=5)∨∃ (i:Nat) (hi:i < p.length),unitIdx p of=(i:Int)∧calledE p u of s m=Barb.calledIn p[i] of s m:=by
 unfold calledE
 rw[if_neg ho]
 rcases find_idx (fun v:Unit=>v.name=of) p with ⟨h1,h2⟩ | ⟨i,hi,h1,h2⟩
 ·exact .inl ⟨h1,by rw[h2]⟩
 ·exact .inr ⟨i,hi,h1,by rw[h2]⟩
end Barb
namespace Go.Proofs.YtijdegmamdhcbaaGreatDoor
open Go Go.Dm Go.Eng Barb

theorem uEq_any (u:Barb.Unit) (s:Str):CT Tryz.prog gl 49 [.agg u.d,.fp [.str s] 0] (Is (.pb (u.name=s))):=by
 refine enter hT hF hM Tryz.func49 rfl 8 rfl (by kernel_rfl) [.tmp 3] rfl [.agg u.d,.fp [.str s] 0] rfl _ ?_
 exact ⟨rfl,retP Iff.rfl⟩
theorem fEq_any (f:Fun) (s:Str):CT Tryz.prog gl 51 [.agg f.d,.fp [.str s] 0] (Is (.pb (f.name=s))):=by
 refine enter hT hF hM Tryz.func51 rfl 8 rfl (by kernel_rfl) [.tmp 3] rfl [.agg f.d,.fp [.str s] 0] rfl _ ?_
 exact ⟨rfl,retP Iff.rfl⟩
theorem aEq_any (a:Arr) (s:Str):CT Tryz.prog gl 102 [.agg [.g (.str a.name),.g (.int a.size)],.fp [.str s] 0] (Is (.pb (a.name=s))):=by
 refine enter hT hF hM Tryz.func102 rfl 8 rfl (by kernel_rfl) [.tmp 3] rfl [.agg [.g (.str a.name),.g (.int a.size)],.fp [.str s] 0] rfl _ ?_
 exact ⟨rfl,retP Iff.rfl⟩
theorem idxU_any (l:List Barb.Unit) (hl:l.length≤9223372036854775807) (s:Str):CT Tryz.prog gl 48 [.g (.sl 4 (l.map Unit.g)),.fn 49 [] [.fp [.str s] 0]] (Is (.g (.int (unitIdx l s)))):=by
 have ll:(l.map Unit.g).length=l.length:=by simp
 refine enter hT hF hM Tryz.func48 rfl 19 rfl (by kernel_rfl) [.tmp 4] rfl [.g (.sl 4 (l.map Unit.g)),.fn 49 [] [.fp [.str s] 0]] rfl _ ?_
 refine loopR (ι:=Nat) (fun i=>[(8,.g (.int (i:Int)))]) (fun _=>[]) (fun i=>i≤l.length∧∀ j (hj:j < l.length),j < i→¬l[j].name=s) (fun i=>l.length - i)
  ⟨0,[],⟨rfl,.inl rfl,.inr ⟨lk rfl,trivial⟩,rfl⟩,Nat.zero_le _,alln_0 (q:=fun x:Barb.Unit=>x.name=s)⟩ ?_
 intro Rd hRd i ⟨hi,ha⟩
 refine ⟨fun h=>?_,fun h=>?_⟩
 ·have h1:i < l.length:=by omega
  refine ⟨i,_,rfl,gm h1,?_⟩
  refine callIs (.inl rfl) (uEq_any l[i] s) ?_
  refine ⟨fun h2=>⟨rfl,retI (idx_at (q:=fun x:Barb.Unit=>x.name=s) h1 ha h2).symm⟩,fun h2=>⟨_,I64.wrap (by unfold I64;omega),?_⟩⟩
  exact hRd _ _ _ ⟨i+1,[],⟨rfl,.inl rfl,.inr ⟨lk rfl,trivial⟩,rfl⟩,⟨h1,alln_step (q:=fun x:Barb.Unit=>x.name=s) h1 ha h2⟩,by omega⟩
 ·exact ⟨rfl,retI (idx_no (alln_end (q:=fun x:Barb.Unit=>x.name=s) (by omega) ha)).symm⟩
theorem idxF_any (l:List Fun) (hl:l.length≤9223372036854775807) (s:Str):CT Tryz.prog gl 50 [.g (.sl 4 (l.map Fun.g)),.fn 51 [] [.fp [.str s] 0]] (Is (.g (.int (idx (fun f:Fun=>f.name=s) l)))):=by
 have ll:(l.map Fun.g).length=l.length:=by simp
 refine enter hT hF hM Tryz.func50 rfl 19 rfl (by kernel_rfl) [.tmp 4] rfl [.g (.sl 4 (l.map Fun.g)),.fn 51 [] [.fp [.str s] 0]] rfl _ ?_
 refine loopR (ι:=Nat) (fun i=>[(8,.g (.int (i:Int)))]) (fun _=>[]) (fun i=>i≤l.length∧∀ j (hj:j < l.length),j < i→¬l[j].name=s) (fun i=>l.length - i)
  ⟨0,[],⟨rfl,.inl rfl,.inr ⟨lk rfl,trivial⟩,rfl⟩,Nat.zero_le _,alln_0 (q:=fun x:Fun=>x.name=s)⟩ ?_
 intro Rd hRd i ⟨hi,ha⟩
 refine ⟨fun h=>?_,fun h=>?_⟩
 ·have h1:i < l.length:=by omega
  refine ⟨i,_,rfl,(gm h1).trans (congrArg some (Fun.g_eq _)),?_⟩
  refine callIs (.inl rfl) (fEq_any l[i] s) ?_
  refine ⟨fun h2=>⟨rfl,retI (idx_at (q:=fun x:Fun=>x.name=s) h1 ha h2).symm⟩,fun h2=>⟨_,I64.wrap (by unfold I64;omega),?_⟩⟩
  exact hRd _ _ _ ⟨i+1,[],⟨rfl,.inl rfl,.inr ⟨lk rfl,trivial⟩,rfl⟩,⟨h1,alln_step (q:=fun x:Fun=>x.name=s) h1 ha h2⟩,by omega⟩
 ·exact ⟨rfl,retI (idx_no (alln_end (q:=fun x:Fun=>x.name=s) (by omega) ha)).symm⟩
theorem NamesUnit_any (l:List Barb.Unit) (hl:l.length≤9223372036854775807) (s:Str):CT Tryz.prog gl 27 [.g (.sl 4 (l.map Unit.g)),.g (.str s)] (Is (.g (.int (unitIdx l s)))):=by
 refine enter hT hF hM Tryz.func27 rfl 8 rfl (by kernel_rfl) [.tmp 4] rfl [.g (.sl 4 (l.map Unit.g)),.g (.str s)] rfl _ ?_
 exact callIs (.inl rfl) (idxU_any l hl s) ⟨rfl,retI rfl⟩
theorem NamesFunc_any (u:Barb.Unit) (hl:u.funcs.length≤9223372036854775807) (s:Str):CT Tryz.prog gl 28 [.agg u.d,.g (.str s)] (Is (.g (.int (funIdx u s)))):=by
 refine enter hT hF hM Tryz.func28 rfl 9 rfl (by kernel_rfl) [.tmp 4] rfl [.agg u.d,.g (.str s)] rfl _ ?_
 exact callIs (.inl rfl) (idxF_any u.funcs hl s) ⟨rfl,retI rfl⟩
theorem idxA_any (l:List Arr) (hl:l.length≤9223372036854775807) (s:Str):CT Tryz.prog gl 104 [.g (.sl 2 (l.map Arr.g)),.fn 102 [] [.fp [.str s] 0]] (Is (.g (.int (idx (fun a:Arr=>a.name=s) l)))):=by
 have ll:(l.map Arr.g).length=l.length:=by simp
 refine enter hT hF hM Tryz.func104 rfl 19 rfl (by kernel_rfl) [.tmp 4] rfl [.g (.sl 2 (l.map Arr.g)),.fn 102 [] [.fp [.str s] 0]] rfl _ ?_
 refine loopR (ι:=Nat) (fun i=>[(8,.g (.int (i:Int)))]) (fun _=>[]) (fun i=>i≤l.length∧∀ j (hj:j < l.length),j < i→¬l[j].name=s) (fun i=>l.length - i)
  ⟨0,[],⟨rfl,.inl rfl,.inr ⟨lk rfl,trivial⟩,rfl⟩,Nat.zero_le _,alln_0 (q:=fun x:Arr=>x.name=s)⟩ ?_
 intro Rd hRd i ⟨hi,ha⟩
 refine ⟨fun h=>?_,fun h=>?_⟩
 ·have h1:i < l.length:=by omega
  refine ⟨i,_,rfl,gm h1,?_⟩
  refine callIs (.inl rfl) (aEq_any l[i] s) ?_
  refine ⟨fun h2=>⟨rfl,retI (idx_at (q:=fun x:Arr=>x.name=s) h1 ha h2).symm⟩,fun h2=>⟨_,I64.wrap (by unfold I64;omega),?_⟩⟩
  exact hRd _ _ _ ⟨i+1,[],⟨rfl,.inl rfl,.inr ⟨lk rfl,trivial⟩,rfl⟩,⟨h1,alln_step (q:=fun x:Arr=>x.name=s) h1 ha h2⟩,by omega⟩
 ·exact ⟨rfl,retI (idx_no (alln_end (q:=fun x:Arr=>x.name=s) (by omega) ha)).symm⟩
theorem hasA_any (l:List Arr) (hl:l.length≤9223372036854775807) (s:Str):CT Tryz.prog gl 101 [.g (.sl 2 (l.map Arr.g)),.fn 102 [] [.fp [.str s] 0]] (Is (.pb (∃ a∈l,a.name=s))):=by
 refine enter hT hF hM Tryz.func101 rfl 9 rfl (by kernel_rfl) [.tmp 4] rfl [.g (.sl 2 (l.map Arr.g)),.fn 102 [] [.fp [.str s] 0]] rfl _ ?_
 refine callIs (.inl rfl) (idxA_any l hl s) ⟨rfl,retP ?_⟩
 rcases idx_cases (fun a:Arr=>a.name=s) l with ⟨h1,h2⟩ | ⟨i,hi,h1,h2,h3⟩
 ·rw[h1];exact ⟨fun h=>absurd h (by decide),fun ⟨c,hc,ho⟩=>absurd ho (h2 c hc)⟩
 ·rw[h1];exact ⟨fun _=>⟨l[i],List.getElem_mem _,h2⟩,fun _=>by omega⟩
theorem scArr_any (p:List Barb.Unit) (u:Barb.Unit) (f:Fun) (hl:u.arrays.length≤9223372036854775807) (s:Str):CT Tryz.prog gl 90 [.fp (scG p u f) 0,.g (.str s)] (Is (.pb (arrP u s))):=by
 refine enter hT hF hM Tryz.func90 rfl 12 rfl (by kernel_rfl) [.tmp 4] rfl [.fp (scG p u f) 0,.g (.str s)] rfl _ ?_
 exact callIs (.inl rfl) (hasA_any u.arrays hl s) ⟨rfl,retP Iff.rfl⟩
theorem scVar_any (p:List Barb.Unit) (u:Barb.Unit) (f:Fun) (hl:u.vars.length≤9223372036854775807) (hf:f.params.length≤9223372036854775807) (s:Str):CT Tryz.prog gl 89 [.fp (scG p u f) 0,.g (.str s)] (Is (.pb (varP u f s))):=by
 refine enter hT hF hM Tryz.func89 rfl 21 rfl (by kernel_rfl) [.tmp 4] rfl [.fp (scG p u f) 0,.g (.str s)] rfl _ ?_
 refine callIs (.inl rfl) (strHas_any f.params hf s) ⟨fun h=>⟨rfl,retT (.inl h)⟩,fun h=>?_⟩
 exact callIs (.inl rfl) (strHas_any u.vars hl s) ⟨rfl,retP ⟨fun h'=>.inr h',fun h'=>h'.elim (fun h''=>absurd h'' h) id⟩⟩
end Go.Proofs.YtijdegmamdhcbaaGreatDoor
namespace Barb
open Go Go.Dm Go.Eng
theorem exprS_eq (p:List Unit) (u:Unit) (f:Fun) (x:Expr):exprS p u f x=if exprS1 p u f x.k x.of x.s x.args.length≠0 then exprS1 p u f x.k x.of x.s x.args.length else exprsS p u f x.args:=by
 cases x;rw[exprS];rfl
theorem stmtS_eq (p:List Unit) (u:Unit) (f:Fun) (x:Stmt):stmtS p u f x=if (x.k=1∧¬varP u f x.s)∨(x.k=2∧¬arrP u x.s) then 5 else if exprsS p u f x.xs≠0 then exprsS p u f x.xs else if stmtsS p u f x.b≠0 then stmtsS p u f x.b else stmtsS p u f x.e:=by
 cases x;rw[stmtS];rfl
def short (u:Unit):Prop:=u.vars.length≤9223372036854775807∧u.arrays.length≤9223372036854775807∧u.funcs.length≤9223372036854775807
theorem Unit.I.short {u:Unit} (h:u.I):short u:=by
 obtain ⟨_,⟨_,h1⟩,_,h2,_,h3⟩:=h
 exact ⟨by omega,by omega,by omega⟩
end Barb
namespace Go.Proofs.YtijdegmamdhcbaaGreatDoor
open Go Go.Dm Go.Eng Barb

theorem called_any (p:List Barb.Unit) (hp:∀ v∈p,short v) (hpl:p.length≤9223372036854775807) (u:Barb.Unit) (hu:short u) (f:Fun) (x:Barb.Expr):CT Tryz.prog gl 103 [.fp (scG p u f) 0,.agg x.d] (Is (.g (.int (calledE p u x.of x.s x.args.length)))):=by
 have lp:(p.map Unit.g).length=p.length:=by simp
 have lx:(x.args.map Expr.g).length=x.args.length:=by simp
 refine enter hT hF hM Tryz.func103 rfl 62 rfl (by kernel_rfl) [.tmp 4] rfl [.fp (scG p u f) 0,.agg x.d] rfl _ ?_
 refine stepS ⟨?_⟩
 refine stepS ⟨?_⟩
 refine seqJ (ι:=Barb.Unit) (fun _=>[(3,.ptr 0 0),(5,.ptr 1 0)]) (fun v=>[.blk x.d 129,.blk v.d 59]) (fun v=>calledE p u x.of x.s x.args.length=Barb.calledIn v x.of x.s x.args.length∧short v) (fun e0 v hv=>?_) (fun Rj hRj=>?_)
 rotate_left
 ·refine ⟨fun a1=>?_,fun a1=>hRj u _ ⟨rfl,rfl,trivial⟩ ⟨by unfold calledE;rw[if_pos a1],hu⟩⟩
  refine ⟨none,rfl,_,_,.inl rfl,NamesUnit_any p hpl x.of,rfl,?_⟩
  rcases calledE_cases p u x.of x.s x.args.length a1 with ⟨h1,e⟩ | ⟨i,hi,h1,e⟩
  ·exact ⟨fun _=>⟨rfl,retI e.symm⟩,fun h=>absurd (by rw[h1];decide) h⟩
  ·refine ⟨fun h=>absurd h (by rw[h1];omega),fun _=>?_⟩
   refine ⟨i,_,(show D.g (.int (unitIdx p x.of))=D.g (.int (i:Int)) by rw[h1]),gm hi,?_⟩
   exact hRj p[i] _ ⟨rfl,rfl,trivial⟩ ⟨e,hp _ (List.getElem_mem _)⟩
 obtain ⟨e,_,_,hf⟩:=hv
 refine callIs (.inl rfl) (NamesFunc_any v hf x.s) ?_
 rcases calledIn_cases v x.of x.s x.args.length with ⟨h1',e'⟩ | ⟨i,hi,h1',e'⟩
 ·exact ⟨fun _=>⟨rfl,retI (e.trans e').symm⟩,fun h=>absurd (by rw[h1'];decide) h⟩
 ·have li:(v.funcs[i].params.map strG).length=v.funcs[i].params.length:=by simp
  have hix:D.g (.int (funIdx v x.s))=D.g (.int (i:Int)):=by rw[h1']
  rw[e'] at e
  refine ⟨fun h=>absurd h (by rw[h1'];omega),fun _=>⟨fun b1=>?_,fun b1=>?_⟩⟩
  ·cases hb:v.funcs[i].isOpen with
   | false =>
    rw[if_pos ⟨b1,hb⟩] at e
    exact ⟨i,_,hix,(gm hi).trans (congrArg some (Fun.g_open hb)),rfl,retI e.symm⟩
   | true =>
    rw[if_neg (fun h=>by rw[hb] at h;exact absurd h.2 (by decide))] at e
    refine ⟨i,_,hix,(gm hi).trans (congrArg some (Fun.g_open hb)),none,rfl,i,_,hix,(gm hi).trans (congrArg some (Fun.g_eq _)),?_⟩
    exact ⟨fun c=>⟨rfl,retI (by rw[e,if_pos (by omega)])⟩,fun c=>⟨rfl,retI (by rw[e,if_neg (by omega)])⟩⟩
  ·rw[if_neg (fun h=>h.1 b1)] at e
   refine ⟨none,rfl,i,_,hix,(gm hi).trans (congrArg some (Fun.g_eq _)),?_⟩
   exact ⟨fun c=>⟨rfl,retI (by rw[e,if_pos (by omega)])⟩,fun c=>⟨rfl,retI (by rw[e,if_neg (by omega)])⟩⟩
end Go.Proofs.YtijdegmamdhcbaaGreatDoor
namespace Barb
open Go Go.Dm Go.Eng
theorem Expr.args_lt {x y:Expr} (h:y∈x.args):sizeOf y < sizeOf x:=by
 cases x with
 | mk k n of s args =>
  have:=List.sizeOf_lt_of_mem (show y∈args from h)
  simp only[Expr.mk.sizeOf_spec]
  omega
theorem Stmt.b_lt {l:List Stmt} {x:Stmt} (h:x∈l):sizeOf x.b < sizeOf l∧sizeOf x.e < sizeOf l:=by
 have h1:=List.sizeOf_lt_of_mem h
 cases x with
 | mk k s xs b e =>
  simp only[Stmt.mk.sizeOf_spec] at h1
  show sizeOf b < sizeOf l∧sizeOf e < sizeOf l
  omega
theorem firstE_two {α:Type} (g:α→Int) (a b:α):firstE g [a,b]=if g a≠0 then g a else g b:=by
 by_cases h:g a=0
 ·by_cases h':g b=0
  ·simp[firstE,h,h']
  ·simp[firstE,h,h']
 ·simp[firstE,h]
theorem exprS1_bad {p:List Unit} {u:Unit} {f:Fun} {k:Int} {of s:Str} {m:Nat} (h:(k=2∧¬varP u f s)∨(k=3∧¬arrP u s)):exprS1 p u f k of s m=5:=by unfold exprS1;rw[if_pos h]
theorem exprS1_4 {p:List Unit} {u:Unit} {f:Fun} {k:Int} {of s:Str} {m:Nat} (h:k=4):exprS1 p u f k of s m=calledE p u of s m:=by unfold exprS1;rw[if_neg (by omega),if_pos h]
theorem exprS1_0 {p:List Unit} {u:Unit} {f:Fun} {k:Int} {of s:Str} {m:Nat} (h:¬((k=2∧¬varP u f s)∨(k=3∧¬arrP u s))) (h4:k≠4):exprS1 p u f k of s m=0:=by unfold exprS1;rw[if_neg h,if_neg h4]
end Barb
namespace Go.Proofs.YtijdegmamdhcbaaGreatDoor
open Go Go.Dm Go.Eng Barb

theorem scExpr_any (p:List Barb.Unit) (hp:∀ v∈p,short v) (hpl:p.length≤9223372036854775807) (u:Barb.Unit) (hu:short u) (f:Fun) (hf:f.params.length≤9223372036854775807) :
  ∀ (n:Nat) (x:Barb.Expr),SizeOf.sizeOf x < n→x.I→CT Tryz.prog gl 91 [.fp (scG p u f) 0,.agg x.d] (Is (.g (.int (exprS p u f x)))):=by
 intro n
 induction n with
 | zero=>intro x h;exact absurd h (Nat.not_lt_zero _)
 | succ n ih =>
  intro x hn hx
  obtain ⟨_,_,_,_,hal,hI⟩:=hx.inv
  have lx:(x.args.map Expr.g).length=x.args.length:=by simp
  have e:=exprS_eq p u f x
  refine enter hT hF hM Tryz.func91 rfl 50 rfl (by kernel_rfl) [.tmp 4] rfl [.fp (scG p u f) 0,.agg x.d] rfl _ ?_
  have bad:exprS1 p u f x.k x.of x.s x.args.length=5→∀ h:Heap,RetTo (Is (.g (.int (exprS p u f x)))) h (.g (.int 5)):=fun hb h=>retI (by rw[e,if_pos (by rw[hb];decide),hb])
  refine stepS ⟨?_⟩
  refine stepS ⟨?_⟩
  refine seqJ (ι:=Int) (fun c=>[(0,.fp (scG p u f) 0),(3,.ptr 0 0),(5,.g (.int c))]) (fun _=>[.blk x.d 129]) (fun c=>c=exprS1 p u f x.k x.of x.s x.args.length) (fun e0 c hc=>?_) (fun Rj hRj=>?_)
  rotate_left
  ·refine ⟨fun a1=>?_,fun a1=>⟨fun a2=>?_,fun a2=>⟨fun a3=>?_,fun a3=>?_⟩⟩⟩
   ·refine callIs (.inl rfl) (scVar_any p u f hu.1 hf x.s) ⟨fun b1=>⟨fun _=>⟨rfl,bad (exprS1_bad (.inl ⟨a1,b1⟩)) _⟩,fun h=>absurd h b1⟩,fun b1=>⟨fun h=>absurd h (by omega),fun _=>⟨fun h=>absurd h (by omega),fun _=>?_⟩⟩⟩
    exact hRj 0 _ ⟨rfl,rfl,rfl,trivial⟩ (exprS1_0 (fun h=>by rcases h with h | h;exact h.2 b1;omega) (by omega)).symm
   ·refine callIs (.inl rfl) (scArr_any p u f hu.2.1 x.s) ⟨fun b1=>⟨rfl,bad (exprS1_bad (.inr ⟨a2,b1⟩)) _⟩,fun b1=>⟨fun h=>absurd h (by omega),fun _=>?_⟩⟩
    exact hRj 0 _ ⟨rfl,rfl,rfl,trivial⟩ (exprS1_0 (fun h=>by rcases h with h | h;omega;exact h.2 b1) (by omega)).symm
   ·exact callIs (.inl rfl) (called_any p hp hpl u hu f x) (hRj _ _ ⟨rfl,rfl,rfl,trivial⟩ (exprS1_4 a3).symm)
   ·exact hRj 0 _ ⟨rfl,rfl,rfl,trivial⟩ (exprS1_0 (fun h=>by omega) a3).symm
  rw[← hc,exprsS_first] at e
  clear bad
  refine loopR (ι:=Nat × Int) (fun s=>[(39,.g (.int (s.1:Int))),(5,.g (.int s.2))]) (fun _=>[]) (fun s=>s.1≤x.args.length∧((s.2=0∧c=0∧∀ j (hj:j < x.args.length),j < s.1→exprS p u f x.args[j]=0)∨(s.2≠0∧exprS p u f x=s.2))) (fun s=>x.args.length - s.1)
   ⟨(0,c),[],⟨rfl,.inl rfl,.inr ⟨lk rfl,lk rfl,trivial⟩,rfl⟩,Nat.zero_le _,?_⟩ ?_
  ·by_cases h0:c=0
   ·exact .inl ⟨h0,h0,none0⟩
   ·exact .inr ⟨h0,by rw[e,if_pos h0]⟩
  rintro Rd hRd ⟨i,d⟩ ⟨hi,hd⟩
  dsimp only at hi hd
  refine ⟨fun h1=>?_,fun h1=>?_⟩
  ·have h2:i < x.args.length:=by omega
   refine ⟨i,_,rfl,(gm h2).trans (congrArg some (Expr.g_eq _)),?_⟩
   refine ⟨fun h3=>⟨rfl,retI ?_⟩,fun h3=>?_⟩
   ·rcases hd with ⟨h4,_⟩ | ⟨_,h4⟩
    ·exact absurd h4 h3
    ·exact h4.symm
   ·obtain ⟨_,hc0,ha⟩:d=0∧c=0∧∀ j (hj:j < x.args.length),j < i→exprS p u f x.args[j]=0:=by
     rcases hd with h4 | ⟨h4,_⟩
     ·exact h4
     ·exact absurd h3 h4
    refine callIs (.inl rfl) (ih x.args[i] (by have:=Expr.args_lt (List.getElem_mem h2);omega) (hI _ (List.getElem_mem _))) ⟨_,I64.wrap (by unfold I64;omega),?_⟩
    refine hRd _ _ _ ⟨(i+1,exprS p u f x.args[i]),[],⟨rfl,.inl rfl,.inr ⟨lk rfl,lk rfl,trivial⟩,rfl⟩,⟨h2,?_⟩,by dsimp only;omega⟩
    dsimp only
    by_cases h5:exprS p u f x.args[i]=0
    ·exact .inl ⟨h5,hc0,firstE_step h2 ha h5⟩
    ·exact .inr ⟨h5,by rw[e,if_neg (fun h=>h hc0),firstE_at h2 ha h5]⟩
  ·refine ⟨rfl,retI ?_⟩
   rcases hd with ⟨h4,hc0,ha⟩ | ⟨_,h4⟩
   ·rw[e,if_neg (fun h=>h hc0),firstE_end (by omega) ha,h4]
   ·exact h4.symm
end Go.Proofs.YtijdegmamdhcbaaGreatDoor
namespace Go.Proofs.YtijdegmamdhcbaaGreatDoor
open Go Go.Dm Go.Eng Barb

def stmtsG (l:List Barb.Stmt):List GV:=[.sl 5 (l.map Stmt.g)]
set_option maxHeartbeats 1000000 in
theorem scStmts_any (p:List Barb.Unit) (hp:∀ v∈p,short v) (hpl:p.length≤9223372036854775807) (u:Barb.Unit) (hu:short u) (f:Fun) (hf:f.params.length≤9223372036854775807) :
  ∀ (n:Nat) (l:List Barb.Stmt),SizeOf.sizeOf l < n→(∀ x∈l,Barb.Stmt.I x)→l.length*96≤140737488351232→CT Tryz.prog gl 79 [.fp (scG p u f) 0,.g (.sl 5 (l.map Stmt.g))] (Is (.g (.int (stmtsS p u f l)))):=by
 intro n
 induction n with
 | zero=>intro l h;exact absurd h (Nat.not_lt_zero _)
 | succ n ih =>
  intro l hn hI hlen
  have hl:(l.map Stmt.g).length=l.length:=by simp
  have et:=stmtsS_first p u f l
  refine enter hT hF hM Tryz.func79 rfl 73 rfl (by kernel_rfl) [.tmp 4] rfl [.fp (scG p u f) 0,.g (.sl 5 (l.map Stmt.g))] rfl _ ?_
  refine loopR (ι:=Nat) (fun i=>[(15,.g (.int (i:Int)))]) (fun _=>[]) (fun i=>i≤l.length∧∀ j (hj:j < l.length),j < i→stmtS p u f l[j]=0) (fun i=>l.length - i)
   ⟨0,[],⟨rfl,.inl rfl,.inr ⟨lk rfl,trivial⟩,rfl⟩,Nat.zero_le _,none0⟩ ?_
  intro Rd hRd i ⟨hi,ha⟩
  refine ⟨fun h0=>?_,fun h0=>⟨rfl,retI (by rw[et,firstE_end (by omega) ha])⟩⟩
  have h1:i < l.length:=by omega
  have fin:∀ v:Int,v≠0→stmtS p u f l[i]=v→∀ h:Heap,RetTo (Is (.g (.int (stmtsS p u f l)))) h (.g (.int v)):=fun v hv he h=>retI (by rw[et,firstE_at h1 ha (by rw[he];exact hv),he])
  obtain ⟨hk,hs,hxl,hbl,hel,hxI,hbI,heI⟩:=(hI l[i] (List.getElem_mem _)).inv
  have e:=stmtS_eq p u f l[i]
  have next:stmtS p u f l[i]=0→∀ j (hj:j < l.length),j < i+1→stmtS p u f l[j]=0:=fun h0=>firstE_step h1 ha h0
  obtain ⟨hsb,hse⟩:=Stmt.b_lt (List.getElem_mem h1)
  refine stepS ?_
  refine stepS ?_
  refine ⟨i,_,rfl,(gm h1).trans (congrArg some (Stmt.g_eq _)),⟨?_⟩⟩
  generalize l[i]=y at *
  have lx:(y.xs.map Expr.g).length=y.xs.length:=by simp
  refine seqJ (ι:=PUnit) (fun _=>[(0,.fp (scG p u f) 0),(6,.ptr 0 0),(15,.g (.int (i:Int)))]) (fun _=>[.blk y.d 132]) (fun _=>¬((y.k=1∧¬varP u f y.s)∨(y.k=2∧¬arrP u y.s))) (fun e0 _ hb=>?_) (fun Rj hRj=>?_)
  rotate_left
  ·have bad:(y.k=1∧¬varP u f y.s)∨(y.k=2∧¬arrP u y.s)→∀ h:Heap,RetTo (Is (.g (.int (stmtsS p u f l)))) h (.g (.int 5)):=fun hb=>fin 5 (by decide) (by rw[e,if_pos hb])
   refine ⟨fun a1=>?_,fun a1=>⟨fun a2=>?_,fun a2=>?_⟩⟩
   ·refine callIs (.inl rfl) (scVar_any p u f hu.1 hf y.s) ⟨fun b1=>⟨rfl,bad (.inl ⟨a1,b1⟩) _⟩,fun b1=>⟨fun h=>absurd h (by omega),fun _=>?_⟩⟩
    exact hRj ⟨⟩ _ ⟨rfl,rfl,rfl,trivial⟩ (fun h=>by rcases h with h | h;exact h.2 b1;omega)
   ·refine callIs (.inl rfl) (scArr_any p u f hu.2.1 y.s) ⟨fun b1=>⟨rfl,bad (.inr ⟨a2,b1⟩) _⟩,fun b1=>?_⟩
    exact hRj ⟨⟩ _ ⟨rfl,rfl,rfl,trivial⟩ (fun h=>by rcases h with h | h;omega;exact h.2 b1)
   ·exact hRj ⟨⟩ _ ⟨rfl,rfl,rfl,trivial⟩ (fun h=>by omega)
  rw[if_neg hb,exprsS_first] at e
  refine loopR (ι:=Nat) (fun k=>[(44,.g (.int (k:Int))),(6,.ptr 0 0)]) (fun _=>[.blk y.d 132]) (fun k=>k≤y.xs.length∧∀ j (hj:j < y.xs.length),j < k→exprS p u f y.xs[j]=0) (fun k=>y.xs.length - k)
   ⟨0,[.old 0],⟨rfl,.inl rfl,.inr ⟨lk rfl,lk rfl,trivial⟩,rfl⟩,Nat.zero_le _,none0⟩ ?_
  intro Rk hRk k ⟨hk1,hk2⟩
  refine ⟨fun c0=>?_,fun c0=>?_⟩
  ·have c1:k < y.xs.length:=by omega
   refine ⟨k,_,rfl,(gm c1).trans (congrArg some (Expr.g_eq _)),?_⟩
   refine callIs (.inl rfl) (scExpr_any p hp hpl u hu f hf _ y.xs[k] (Nat.lt_succ_self _) (hxI _ (List.getElem_mem _))) ?_
   refine ⟨fun c2=>⟨rfl,fin _ c2 (by rw[e,if_pos (by rw[firstE_at c1 hk2 c2];exact c2),firstE_at c1 hk2 c2]) _⟩,fun c2=>⟨_,I64.wrap (by unfold I64;omega),?_⟩⟩
   exact hRk _ _ _ ⟨k+1,[.old 0],⟨rfl,.inl rfl,.inr ⟨lk rfl,lk rfl,trivial⟩,rfl⟩,⟨c1,firstE_step c1 hk2 c2⟩,by omega⟩
  have hx0:firstE (exprS p u f) y.xs=0:=firstE_end (by omega) hk2
  rw[if_neg (fun h=>h hx0),← firstE_two (stmtsS p u f) y.b y.e] at e
  refine ⟨[stmtsG y.b,stmtsG y.e],rfl,rfl,⟨rfl,rfl,trivial⟩,?_⟩
  have hls:∀ m (hm:m < [y.b,y.e].length),SizeOf.sizeOf [y.b,y.e][m] < n∧(∀ x∈[y.b,y.e][m],Barb.Stmt.I x)∧[y.b,y.e][m].length*96≤140737488351232:=fun m hm=>by
   match m,hm with
   | 0,_=>exact ⟨by show SizeOf.sizeOf y.b < n;omega,hbI,hbl⟩
   | 1,_=>exact ⟨by show SizeOf.sizeOf y.e < n;omega,heI,hel⟩
  have hl2:[y.b,y.e].length=2:=rfl
  have hl3:[stmtsG y.b,stmtsG y.e].length=2:=rfl
  have hrow:[stmtsG y.b,stmtsG y.e]=[y.b,y.e].map stmtsG:=rfl
  generalize [y.b,y.e]=bs at *
  refine loopR (ι:=Nat) (fun m=>[(61,.g (.int (m:Int))),(59,.row 0)]) (fun _=>[.row (bs.map stmtsG) 67 1]) (fun m=>m≤2∧∀ j (hj:j < bs.length),j < m→stmtsS p u f bs[j]=0) (fun m=>2 - m)
   ⟨0,[.old 1],⟨rfl,.inr ⟨⟨hrow,rfl,rfl⟩,trivial⟩,.inr ⟨lk rfl,lk rfl,trivial⟩,rfl⟩,Nat.zero_le _,none0⟩ ?_
  intro Rm hRm m ⟨hm1,hm2⟩
  refine ⟨fun d0=>?_,fun d0=>⟨_,I64.wrap (by unfold I64;omega),?_⟩⟩
  ·have d1:m < bs.length:=by omega
   obtain ⟨q1,q2,q3⟩:=hls m d1
   refine ⟨m,rfl,by rw[List.length_map];exact d1,_,gm d1,?_⟩
   refine callIs (.inl rfl) (ih bs[m] q1 q2 q3) ?_
   refine ⟨fun d2=>⟨rfl,fin _ d2 (by rw[e,firstE_at d1 hm2 d2]) _⟩,fun d2=>⟨_,I64.wrap (by unfold I64;omega),?_⟩⟩
   exact hRm _ _ _ ⟨m+1,[.old 0],⟨rfl,.inl rfl,.inr ⟨lk rfl,lk rfl,trivial⟩,rfl⟩,⟨by omega,firstE_step d1 hm2 d2⟩,by omega⟩
  ·exact hRd _ _ _ ⟨i+1,[],⟨rfl,.inl rfl,.inr ⟨lk rfl,trivial⟩,rfl⟩,⟨h1,next (by rw[e,firstE_end (by omega) hm2])⟩,by omega⟩
theorem twice_any (l:List Str) (hl:l.length≤9223372036854775807):CT Tryz.prog gl 58 [.g (.sl 1 (l.map strG))] (Is (.pb (dupP l))):=by
 have ll:(l.map strG).length=l.length:=by simp
 refine enter hT hF hM Tryz.func58 rfl 18 rfl (by kernel_rfl) [.tmp 2] rfl [.g (.sl 1 (l.map strG))] rfl _ ?_
 refine loopR (ι:=Nat) (fun i=>[(7,.g (.int (i:Int)))]) (fun _=>[]) (fun i=>i≤l.length∧∀ j (hj:j < l.length),j < i→¬l[j]∈l.take j) (fun i=>l.length - i)
  ⟨0,[],⟨rfl,.inl rfl,.inr ⟨lk rfl,trivial⟩,rfl⟩,Nat.zero_le _,fun j _ h=>absurd h (Nat.not_lt_zero j)⟩ ?_
 intro Rd hRd i ⟨hi,ha⟩
 refine ⟨fun h=>?_,fun h=>⟨rfl,retF (fun ⟨j,hj,hd⟩=>ha j hj (by omega) hd)⟩⟩
 have h1:i < l.length:=by omega
 refine ⟨i,_,rfl,gm h1,i,rfl,by omega,?_⟩
 have hc:=strHas_any (l.take i) (by rw[List.length_take];omega) l[i]
 rw[List.map_take] at hc
 refine callIs (.inl rfl) hc ?_
 refine ⟨fun h2=>⟨rfl,retT ⟨i,h1,h2⟩⟩,fun h2=>⟨_,I64.wrap (by unfold I64;omega),?_⟩⟩
 refine hRd _ _ _ ⟨i+1,[],⟨rfl,.inl rfl,.inr ⟨lk rfl,trivial⟩,rfl⟩,⟨h1,fun j hj hji=>?_⟩,by omega⟩
 by_cases hje:j=i
 ·subst hje;exact h2
 ·exact ha j hj (by omega)
end Go.Proofs.YtijdegmamdhcbaaGreatDoor
namespace Barb
open Go Go.Dm Go.Eng
theorem names_succ0 {α:Type} (f:α→Str) {l:List α} {i:Nat} (h:i < l.length):((l.take i).map f).map strG++[[GV.str (f l[i])]]=((l.take (i+1)).map f).map strG:=by
 rw[take_one h,List.map_append (f:=f),List.map_append (f:=strG)];rfl
theorem names_succ {α:Type} (f:α→Str) {l:List α} {i:Nat} (h:i < l.length) (pre:List Str):(pre++(l.take i).map f).map strG++[[GV.str (f l[i])]]=(pre++(l.take (i+1)).map f).map strG:=by
 rw[List.map_append,List.append_assoc,names_succ0 f h,← List.map_append]
theorem progWords_succ {l:List Unit} {i:Nat} (h:i < l.length):progWords (l.take (i+1))=progWords (l.take i)+unitWords l[i]:=by
 unfold progWords;rw[take_one h,List.map_append,List.sum_append];simp
theorem unitWords_le {u:Unit} (h:unitE u=0):0≤unitWords u∧unitWords u≤38:=by
 obtain ⟨h1,h2,_,h4⟩:=unitE_ok h
 have:=sizes_le h4
 unfold unitWords
 omega
theorem progWords_le {l:List Unit} {i:Nat} (hi:i≤l.length) (h:∀ j (hj:j < l.length),j < i→unitE l[j]=0):0≤progWords (l.take i)∧progWords (l.take i)≤38*i:=by
 induction i with
 | zero=>simp[progWords]
 | succ i ih =>
  have h1:=ih (by omega) (fun j hj hji=>h j hj (by omega))
  have h2:=unitWords_le (h i (by omega) (by omega))
  rw[progWords_succ (by omega)]
  omega
end Barb
namespace Go.Proofs.YtijdegmamdhcbaaGreatDoor
open Go Go.Dm Go.Eng Barb

theorem CloneS_any (xs:List (List GV)) (hx:xs.length*16≤140737488351232):CT Tryz.prog gl 78 [.g (.sl 1 xs)] (RowIs xs 9 1):=by
 refine enter hT hF hM Tryz.func78 rfl 8 rfl (by kernel_rfl) [.tmp 2] rfl [.g (.sl 1 xs)] rfl _ ?_
 intro p hp
 refine ⟨fun h=>⟨rfl,retNilRow rfl (by rw[hp h];rfl)⟩,fun h=>?_⟩
 refine ⟨[],rfl,rfl,trivial,?_⟩
 refine ⟨⟨by simp only[maxLen,List.length_nil];omega,by simp only[List.length_nil];omega⟩,?_⟩
 exact ⟨rfl,retRow (ys:=xs) rfl rfl rfl⟩

set_option maxHeartbeats 1000000 in
theorem namesUnit_any (p:List Barb.Unit) (hp:∀ v∈p,short v) (hpl:p.length≤9223372036854775807) (u:Barb.Unit) (hu:u.I) (hE:unitE u=0):CT Tryz.prog gl 59 [.g (.sl 4 (p.map Unit.g)),.agg u.d] (Is (.g (.int (unitS p u)))):=by
 obtain ⟨hv8,ha3,hf8,_⟩:=unitE_ok hE
 have hsh:=hu.short
 obtain ⟨_,_,_,_,hfi,_⟩:=hu
 have lv:(u.vars.map strG).length=u.vars.length:=by simp
 have la:(u.arrays.map Arr.g).length=u.arrays.length:=by simp
 have lf:(u.funcs.map Fun.g).length=u.funcs.length:=by simp
 have e:unitS p u=unitS p u:=rfl
 conv at e=>rhs;unfold unitS
 refine enter hT hF hM Tryz.func59 rfl 80 rfl (by kernel_rfl) [.tmp 4] rfl [.g (.sl 4 (p.map Unit.g)),.agg u.d] rfl _ ?_
 refine callQ (.inl rfl) (CloneS_any (u.vars.map strG) (by omega)) (fun d' h' hq=>?_) (fun d' hq=>by cases hq)
 injection hq with e1 e2
 subst e1;subst e2
 refine loopR (ι:=Nat) (fun i=>[(21,.g (.int (i:Int))),(5,.row 1),(3,.ptr 0 0)]) (fun i=>[.blk u.d 59,.row ((u.vars++(u.arrays.take i).map Arr.name).map strG) 9 1]) (fun i=>i≤u.arrays.length) (fun i=>u.arrays.length - i)
  ⟨0,[.old 0,.old 1],⟨rfl,.inr ⟨⟨rfl,.inl rfl⟩,⟨by simp,rfl,rfl⟩,trivial⟩,.inr ⟨lk rfl,lk rfl,lk rfl,trivial⟩,rfl⟩,Nat.zero_le _⟩ ?_
 intro Rd hRd i hi
 refine ⟨fun b0=>?_,fun b0=>?_⟩
 ·have b1:i < u.arrays.length:=by omega
  refine ⟨i,_,rfl,gm b1,[[.str u.arrays[i].name]],rfl,rfl,⟨rfl,trivial⟩,?_⟩
  refine ⟨⟨by simp only[maxLen,List.length_cons,List.length_nil,List.length_map,List.length_append,List.length_take];omega,by simp only[List.length_cons,List.length_nil,List.length_map,List.length_append,List.length_take];omega⟩,?_⟩
  refine ⟨_,I64.wrap (by unfold I64;omega),?_⟩
  refine hRd _ _ _ ⟨i+1,[.old 0,.old 4],⟨rfl,.inr ⟨⟨rfl,.inl rfl⟩,⟨?_,rfl,rfl⟩,trivial⟩,.inr ⟨lk rfl,lk rfl,lk rfl,trivial⟩,rfl⟩,b1,by omega⟩
  exact names_succ Arr.name b1 u.vars
 have hiE:i=u.arrays.length:=by omega
 subst hiE
 rw[List.take_length]
 clear hRd hi b0
 refine loopR (ι:=Nat × Nat) (fun s=>[(34,.g (.int (s.1:Int))),(8,.row 2),(9,.g (.int (s.2:Int))),(5,.row 1),(3,.ptr 0 0)]) (fun s=>[.blk u.d 59,.row ((u.vars++u.arrays.map Arr.name).map strG) 9 1,.row (((u.funcs.take s.1).map Fun.name).map strG) 9 1]) (fun s=>s.1≤u.funcs.length∧s.2≤s.1) (fun s=>u.funcs.length - s.1)
  ⟨(0,0),[.old 0,.old 1,.nil 9 1],⟨rfl,.inl rfl,.inr ⟨lk rfl,.inr rfl,lk rfl,lk rfl,lk rfl,trivial⟩,rfl⟩,Nat.zero_le _,Nat.le_refl _⟩ ?_
 rintro Rd hRd ⟨i,c⟩ ⟨hi,hc⟩
 dsimp only at hi hc
 refine ⟨fun b0=>?_,fun b0=>?_⟩
 ·have b1:i < u.funcs.length:=by omega
  have hrow:((u.funcs.take i).map Fun.name).map strG++[[GV.str u.funcs[i].name]]=((u.funcs.take (i+1)).map Fun.name).map strG:=names_succ0 Fun.name b1
  cases hb:u.funcs[i].isOpen with
  | true =>
   refine ⟨i,_,rfl,(gm b1).trans (congrArg some (Fun.g_open hb)),[[.str u.funcs[i].name]],rfl,rfl,⟨rfl,trivial⟩,?_⟩
   refine ⟨⟨by simp only[maxLen,List.length_cons,List.length_nil,List.length_map,List.length_take];omega,by simp only[List.length_cons,List.length_nil,List.length_map,List.length_take];omega⟩,?_⟩
   refine ⟨_,I64.wrap (by unfold I64;omega),_,I64.wrap (by unfold I64;omega),?_⟩
   exact hRd _ _ _ ⟨(i+1,c+1),[.old 0,.old 1,.old 5],⟨rfl,.inr ⟨⟨rfl,.inl rfl⟩,⟨rfl,rfl,rfl⟩,⟨hrow,rfl,rfl⟩,trivial⟩,.inr ⟨lk rfl,lk rfl,lk rfl,lk rfl,lk rfl,trivial⟩,rfl⟩,⟨b1,by dsimp only;omega⟩,by dsimp only;omega⟩
  | false =>
   refine ⟨i,_,rfl,(gm b1).trans (congrArg some (Fun.g_open hb)),[[.str u.funcs[i].name]],rfl,rfl,⟨rfl,trivial⟩,?_⟩
   refine ⟨⟨by simp only[maxLen,List.length_cons,List.length_nil,List.length_map,List.length_take];omega,by simp only[List.length_cons,List.length_nil,List.length_map,List.length_take];omega⟩,?_⟩
   refine ⟨_,I64.wrap (by unfold I64;omega),?_⟩
   exact hRd _ _ _ ⟨(i+1,c),[.old 0,.old 1,.old 5],⟨rfl,.inr ⟨⟨rfl,.inl rfl⟩,⟨rfl,rfl,rfl⟩,⟨hrow,rfl,rfl⟩,trivial⟩,.inr ⟨lk rfl,lk rfl,lk rfl,lk rfl,lk rfl,trivial⟩,rfl⟩,⟨b1,by dsimp only;omega⟩,by dsimp only;omega⟩
 have hiE:i=u.funcs.length:=by omega
 subst hiE
 rw[List.take_length]
 clear hRd hi b0
 refine callIs (.inl rfl) (twice_any (u.vars++u.arrays.map Arr.name) (by simp only[List.length_append,List.length_map];omega)) ⟨fun d1=>⟨rfl,retI (by rw[e,if_pos (.inl d1)])⟩,fun d1=>?_⟩
 refine callIs (.inl rfl) (twice_any (u.funcs.map Fun.name) (by simp only[List.length_map];omega)) ⟨fun d2=>⟨rfl,retI (by rw[e,if_pos (.inr d2)])⟩,fun d2=>⟨fun d3=>absurd d3 (by omega),fun _=>?_⟩⟩
 rw[if_neg (fun h=>h.elim d1 d2)] at e
 refine loopR (ι:=Nat) (fun i=>[(61,.g (.int (i:Int))),(3,.ptr 0 0)]) (fun _=>[.blk u.d 59]) (fun i=>i≤u.funcs.length∧∀ j (hj:j < u.funcs.length),j < i→funS p u u.funcs[j]=0) (fun i=>u.funcs.length - i)
  ⟨0,[.old 0],⟨rfl,.inl rfl,.inr ⟨lk rfl,lk rfl,trivial⟩,rfl⟩,Nat.zero_le _,none0⟩ ?_
 intro Rd hRd i ⟨hi,ha⟩
 refine ⟨fun b0=>?_,fun b0=>⟨rfl,retI (by rw[e,firstE_end (by omega) ha])⟩⟩
 have b1:i < u.funcs.length:=by omega
 have fin:∀ v:Int,v≠0→funS p u u.funcs[i]=v→unitS p u=v:=fun v hv h=>by rw[e,firstE_at b1 ha (by rw[h];exact hv),h]
 have next:funS p u u.funcs[i]=0→∀ j (hj:j < u.funcs.length),j < i+1→funS p u u.funcs[j]=0:=fun h0=>firstE_step b1 ha h0
 obtain ⟨_,⟨_,fpl⟩,fbl,fbI⟩:=hfi _ (List.getElem_mem b1)
 refine ⟨i,_,rfl,(gm b1).trans (congrArg some (Fun.g_eq _)),?_⟩
 have ef:funS p u u.funcs[i]=if dupP u.funcs[i].params then 6 else stmtsS p u u.funcs[i] u.funcs[i].body:=rfl
 generalize u.funcs[i]=f at *
 refine callIs (.inl rfl) (twice_any f.params (by omega)) ⟨fun d4=>⟨rfl,retI (fin 6 (by decide) (by rw[ef,if_pos d4])).symm⟩,fun d4=>?_⟩
 rw[if_neg d4] at ef
 refine callIs (.inl rfl) (scStmts_any p hp hpl u hsh f (by omega) _ f.body (Nat.lt_succ_self _) fbI fbl) ?_
 refine ⟨fun d5=>⟨rfl,retI (fin _ d5 ef).symm⟩,fun d5=>⟨_,I64.wrap (by unfold I64;omega),?_⟩⟩
 exact hRd _ _ _ ⟨i+1,[.old 0],⟨rfl,.inl rfl,.inr ⟨lk rfl,lk rfl,trivial⟩,rfl⟩,⟨b1,next (by rw[ef,d5])⟩,by omega⟩
end Go.Proofs.YtijdegmamdhcbaaGreatDoor
namespace Barb
def progI (p:List Unit):Prop:=(∀ u∈p,u.I)∧p.length≤9223372036854775807
end Barb
namespace Go.Proofs.YtijdegmamdhcbaaGreatDoor
open Go Go.Dm Go.Eng Barb

set_option maxHeartbeats 1000000 in
theorem NamesCheck_any (p:List Barb.Unit) (hp:progI p):CT Tryz.prog gl 36 [.g (.sl 4 (p.map Unit.g))] (Is (.g (.int (progE p)))):=by
 obtain ⟨hI,hpl⟩:=hp
 have lp:(p.map Unit.g).length=p.length:=by simp
 have hsh:∀ v∈p,short v:=fun v hv=>(hI v hv).short
 have e:progE p=progE p:=rfl
 conv at e=>rhs;unfold progE
 refine enter hT hF hM Tryz.func36 rfl 52 rfl (by kernel_rfl) [.tmp 2] rfl [.g (.sl 4 (p.map Unit.g))] rfl _ ?_
 refine ⟨fun h=>⟨rfl,retI (by rw[e,if_pos (by omega)])⟩,fun h=>?_⟩
 rw[if_neg (by omega)] at e
 refine loopR (ι:=Nat) (fun i=>[(16,.g (.int (i:Int))),(3,.row 0),(4,.g (.int (progWords (p.take i))))]) (fun i=>[.row (((p.take i).map Unit.name).map strG) 9 1]) (fun i=>i≤p.length∧∀ j (hj:j < p.length),j < i→unitE p[j]=0) (fun i=>p.length - i)
  ⟨0,[.nil 9 1],⟨rfl,.inl rfl,.inr ⟨lk rfl,.inr rfl,lk rfl,trivial⟩,rfl⟩,Nat.zero_le _,none0⟩ ?_
 intro Rd hRd i ⟨hi,ha⟩
 have hw:=progWords_le hi ha
 refine ⟨fun b0=>?_,fun b0=>?_⟩
 ·have b1:i < p.length:=by omega
  refine ⟨i,_,rfl,gm b1,?_⟩
  refine callIs (.inl rfl) (TreeCheck_any p[i] (hI _ (List.getElem_mem _))) ⟨fun b2=>⟨rfl,retI ?_⟩,fun b2=>?_⟩
  ·rw[e,firstE_at b1 ha b2,if_pos b2]
  refine ⟨[[.str p[i].name]],rfl,rfl,⟨rfl,trivial⟩,?_⟩
  refine ⟨⟨by simp only[maxLen,List.length_cons,List.length_nil,List.length_map,List.length_take];omega,by simp only[List.length_cons,List.length_nil,List.length_map,List.length_take];omega⟩,?_⟩
  obtain ⟨w1,w2,_,w4⟩:=unitE_ok b2
  have w5:=unitWords_le b2
  refine callIs (.inl rfl) (Words_any p[i] w1 w4 w2) ⟨_,I64.wrap (by unfold I64;omega),_,I64.wrap (by unfold I64;omega),?_⟩
  exact hRd _ _ _ ⟨i+1,[.old 3],⟨rfl,.inr ⟨⟨names_succ0 Unit.name b1,rfl,rfl⟩,trivial⟩,.inr ⟨lk rfl,lk rfl,lkI (progWords_succ b1).symm,trivial⟩,rfl⟩,⟨b1,firstE_step b1 ha b2⟩,by omega⟩
 have hiE:i=p.length:=by omega
 have hz:firstE unitE p=0:=firstE_end (by omega) ha
 rw[if_neg (fun h=>h hz)] at e
 subst hiE
 rw[List.take_length] at *
 clear hRd
 refine callIs (.inl rfl) (twice_any (p.map Unit.name) (by simp only[List.length_map];omega)) ⟨fun d1=>⟨rfl,retI (by rw[e,if_pos d1])⟩,fun d1=>?_⟩
 rw[if_neg d1] at e
 refine ⟨fun d2=>⟨rfl,retI (by rw[e,if_pos d2])⟩,fun d2=>?_⟩
 rw[if_neg d2] at e
 refine loopR (ι:=Nat) (fun i=>[(41,.g (.int (i:Int)))]) (fun _=>[]) (fun i=>i≤p.length∧∀ j (hj:j < p.length),j < i→unitS p p[j]=0) (fun i=>p.length - i)
  ⟨0,[],⟨rfl,.inl rfl,.inr ⟨lk rfl,trivial⟩,rfl⟩,Nat.zero_le _,none0⟩ ?_
 intro Rd hRd i ⟨hi,hs⟩
 refine ⟨fun c0=>?_,fun c0=>⟨rfl,retI (by rw[e,firstE_end (by omega) hs])⟩⟩
 have c1:i < p.length:=by omega
 refine ⟨i,_,rfl,gm c1,?_⟩
 refine callIs (.inl rfl) (namesUnit_any p hsh hpl p[i] (hI _ (List.getElem_mem _)) (ha i c1 (by omega))) ?_
 refine ⟨fun c2=>⟨rfl,retI (by rw[e,firstE_at c1 hs c2])⟩,fun c2=>⟨_,I64.wrap (by unfold I64;omega),?_⟩⟩
 exact hRd _ _ _ ⟨i+1,[],⟨rfl,.inl rfl,.inr ⟨lk rfl,trivial⟩,rfl⟩,⟨c1,firstE_step c1 hs c2⟩,by omega⟩
end Go.Proofs.YtijdegmamdhcbaaGreatDoor
namespace Go.Proofs.YtijdegmamdhcbaaGreatDoor
open Go Go.Dm Go.Eng Barb

end Go.Proofs.YtijdegmamdhcbaaGreatDoor
namespace Go.Proofs.YtijdegmamdhcbaaGreatDoor
open Go Go.Dm Go.Eng Barb

end Go.Proofs.YtijdegmamdhcbaaGreatDoor
namespace Go.Proofs.YtijdegmamdhcbaaGreatDoor
open Go Go.Dm Go.Eng Barb

end Go.Proofs.YtijdegmamdhcbaaGreatDoor
namespace Go.Proofs.YtijdegmamdhcbaaGreatDoor
open Go Go.Dm Go.Eng Barb

end Go.Proofs.YtijdegmamdhcbaaGreatDoor
namespace Barb
open Go Go.Dm Go.Eng
theorem ident_of {s:Str} (h1:1≤s.length) (h8:s.length≤8) (hc:∀ c∈s,97≤c.toNat∧c.toNat≤122) (hk:s ∉ keys):identP s :=
 ⟨⟨⟨h1,h8⟩,fun _ hj=>.inl (hc _ (List.getElem_mem hj))⟩,hk⟩
theorem id_x:identP sx:=ident_of (by decide) (by decide) (by decide) (by decide)
theorem id_y:identP sy:=ident_of (by decide) (by decide) (by decide) (by decide)
theorem id_p:identP sp:=ident_of (by decide) (by decide) (by decide) (by decide)
theorem id_q:identP sq:=ident_of (by decide) (by decide) (by decide) (by decide)
theorem id_f:identP sf:=ident_of (by decide) (by decide) (by decide) (by decide)
theorem id_g:identP sg:=ident_of (by decide) (by decide) (by decide) (by decide)
theorem id_h:identP sh:=ident_of (by decide) (by decide) (by decide) (by decide)
theorem id_arr:identP sarr:=ident_of (by decide) (by decide) (by decide) (by decide)
theorem id_units:∀ s∈unitsP,identP s:=by
 intro s hs
 simp only[unitsP,List.mem_cons,List.not_mem_nil,or_false] at hs
 rcases hs with rfl | rfl | rfl<;>exact ident_of (by decide) (by decide) (by decide) (by decide)
theorem at_getD {α:Type} {l:List α} {k:Nat} (h:k < l.length) (z:α):l.getD k z=l[k]:=by simp[h]
theorem pick_mem {l:List Str} (h:l≠[]) (n:Int):pickP l n∈l:=by
 unfold pickP
 obtain ⟨k,hk,hl⟩:=pickN_nat n (many:=l.length) (List.length_pos_iff.2 h)
 rw[hk]
 show l.getD k []∈l
 rw[at_getD hl]
 exact List.getElem_mem hl
theorem unit_mem {many:Int} (h1:1≤many) (h3:many≤3) (n:Int):unitP n many∈unitsP.take many.toNat:=by
 obtain ⟨m,rfl⟩:∃ m:Nat,many=(m:Int):=⟨many.toNat,by omega⟩
 unfold unitP
 obtain ⟨k,hk,hl⟩:=pickN_nat n (many:=m) (by omega)
 rw[hk]
 show unitsP.getD k []∈unitsP.take m
 have h:k < (unitsP.take m).length:=by rw[List.length_take];show k < min m 3;omega
 have:unitsP.getD k []=(unitsP.take m)[k]:=by
  rw[List.getElem_take]
  exact at_getD (by show k < 3;omega) []
 rw[this]
 exact List.getElem_mem h
structure PX (params:List Str) (many:Int):Prop where
 lo:1≤many
 hi:many≤3
 ids:∀ s∈params,identP s
theorem vars_id {params:List Str} {many:Int} (h:PX params many):∀ s∈varsP params,identP s:=by
 intro s hs
 simp only[varsP,List.cons_append,List.nil_append,List.mem_cons] at hs
 rcases hs with rfl | rfl | hs
 ·exact id_x
 ·exact id_y
 ·exact h.ids s hs
theorem unit_id {many:Int} (h1:1≤many) (h3:many≤3) (n:Int):identP (unitP n many):=id_units _ (List.mem_of_mem_take (unit_mem h1 h3 n))
theorem leaf_num {n:Int} (h0:0≤n) (h1:n≤65535) (f:Nat):exprE (f+1) (numX n)=0:=by
 unfold exprE
 rw[if_neg (by omega),if_neg (by simp),if_neg (fun h=>h (.inl ⟨rfl,rfl,rfl,rfl⟩)),if_neg (by unfold exprBad;omega)]
 rfl
theorem leaf_var {s:Str} (h:identP s) (f:Nat):exprE (f+1) (varX s)=0:=by
 unfold exprE
 rw[if_neg (by omega),if_neg (by simp),if_neg (fun h'=>h' (.inr (.inl ⟨rfl,rfl,h,rfl,rfl⟩))),if_neg (by unfold exprBad;omega)]
 rfl
theorem num_rng (r:Raw):∃ n,numP r=numX n∧0≤n∧n≤65535:=by
 unfold numP
 refine ⟨_,rfl,?_⟩
 split
 ·obtain ⟨k,hk,hl⟩:=pickN_nat r.c (many:=4) (by decide)
  rw[show (4:Int)=((4:Nat):Int) from rfl,hk]
  match k,hl with
  | 0,_=>decide
  | 1,_=>decide
  | 2,_=>decide
  | 3,_=>decide
 ·have:=pickN_lo r.a (many:=6) (by decide)
  omega
theorem first2 {α:Type} {f:α→Int} {a b:α} (ha:f a=0) (hb:f b=0):firstE f [a,b]=0:=by simp[firstE,ha,hb]
theorem first1 {α:Type} {f:α→Int} {a:α} (ha:f a=0):firstE f [a]=0:=by simp[firstE,ha]
theorem exprP_form {params:List Str} {many:Int} (hp:PX params many):∀ (f:Nat) (l:List Raw) (depth:Int) (n:Nat),1≤n→1≤depth→6≤depth+n→exprE n (exprP params many f l depth)=0
 | 0,l,depth,n+1,_,_,_=>leaf_num (by omega) (by omega) n
 | f+1,[],depth,n+1,_,_,_=>leaf_num (by omega) (by omega) n
 | f+1,r :: rest,depth,n+1,_,hd,hn=>by
  have ka:=pickN_lo r.kind (many:=9) (by decide)
  have kb:=pickN_lo r.kind (many:=20) (by decide)
  have ra:=pickN_lo r.a (many:=10) (by decide)
  unfold exprP
  simp only
  generalize hk:(if depth > 4 then pickN r.kind 9 else pickN r.kind 20)=k
  have hk9:¬k < 9→¬depth > 4:=fun h h4=>by rw[if_pos h4] at hk;omega
  split
  ·obtain ⟨v,e,v0,v1⟩:=num_rng r
   rw[e];exact leaf_num v0 v1 n
  ·split
   ·exact leaf_var (vars_id hp _ (pick_mem (by simp[varsP]) _)) n
   ·rename_i h4 h9
    have hd4:=hk9 h9
    have ia:=exprP_form hp f (rest.take (rest.length / 2)) (depth+1) n (by omega) (by omega) (by omega)
    have ib:=exprP_form hp f (rest.drop (rest.length / 2)) (depth+1) n (by omega) (by omega) (by omega)
    split
    ·unfold exprE
     rw[if_neg (by omega),if_neg (by simp),if_neg (fun h'=>h' (.inr (.inr (.inr (.inr ⟨rfl,rfl,rfl,rfl⟩))))),if_neg (by unfold exprBad;omega)]
     exact first2 ia ib
    ·split
     ·unfold exprE
      rw[if_neg (by omega),if_neg (by simp),if_neg (fun h'=>h' (.inr (.inr (.inl ⟨rfl,rfl,id_arr,rfl,rfl⟩)))),if_neg (by unfold exprBad;omega)]
      exact first1 ia
     ·split
      ·unfold exprE
       rw[if_neg (by omega),if_neg (by simp),if_neg (fun h'=>h' (.inr (.inr (.inr (.inl ⟨rfl,.inl rfl,id_g,rfl⟩))))),if_neg (by unfold exprBad;omega)]
       exact first1 ia
      ·split
       ·unfold exprE
        rw[if_neg (by omega),if_neg (by simp),if_neg (fun h'=>h' (.inr (.inr (.inr (.inl ⟨rfl,.inr (unit_id hp.lo hp.hi _),id_f,rfl⟩))))),if_neg (by unfold exprBad;omega)]
        exact first2 ia ib
       ·unfold exprE
        rw[if_neg (by omega),if_neg (by simp),if_neg (fun h'=>h' (.inr (.inr (.inr (.inl ⟨rfl,.inr (unit_id hp.lo hp.hi _),id_h,rfl⟩))))),if_neg (by unfold exprBad;omega)]
        rfl
theorem expr12 {params:List Str} {many:Int} (hp:PX params many) (f:Nat) (l:List Raw):exprE 12 (exprP params many f l 1)=0:=exprP_form hp f l 1 12 (by decide) (by decide) (by decide)
theorem num12 (r:Raw):exprE 12 (numP r)=0:=by
 obtain ⟨v,e,v0,v1⟩:=num_rng r
 rw[e];exact leaf_num v0 v1 11
theorem stE {f:List Stmt→Int} {k:Int} {s:Str} {xs:List Expr} {b e:List Stmt} (h1:1≤k∧k≤6) (h2:stmtOk k s xs.length b.length e.length) (h3:firstE (exprE 12) xs=0) (h4:f b=0) (h5:f e=0):stmtE1 f (.mk k s xs b e)=0:=by
 unfold stmtE1
 simp only
 rw[if_neg (fun h=>h h1),if_neg (fun h=>h h2),if_neg (fun h=>h h3),if_neg (fun h=>h h4)]
 exact h5
theorem stmts0 (n:Nat):stmtsE (n+1) []=0:=rfl
theorem firstE_app {α:Type} {f:α→Int} {a b:List α} (ha:firstE f a=0) (hb:firstE f b=0):firstE f (a++b)=0 :=
 firstE_zero (fun x hx=>by
  rcases List.mem_append.1 hx with h | h
  ·exact (firstE_all ha) x h
  ·exact (firstE_all hb) x h)
theorem set_form {s:Str} {x:Expr} (hs:identP s) (hx:exprE 12 x=0) (n:Nat):stmtE1 (stmtsE (n+1)) (.mk 1 s [x] [] [])=0 :=
 stE (by omega) ⟨⟨fun _=>hs,fun h=>absurd h (by omega),fun h=>absurd h (by omega),fun _=>rfl⟩,.inl rfl,.inl rfl⟩ (first1 hx) (stmts0 n) (stmts0 n)
theorem up12:exprE 12 upP=0:=by
 unfold upP exprE
 rw[if_neg (by omega),if_neg (by simp),if_neg (fun h'=>h' (.inr (.inr (.inr (.inr ⟨rfl,rfl,rfl,rfl⟩))))),if_neg (by unfold exprBad;omega)]
 exact first2 (leaf_var id_y 10) (leaf_num (by omega) (by omega) 10)
theorem below12 (r:Raw):exprE 12 (belowP r)=0:=by
 have:=pickN_lo r.b (many:=6) (by decide)
 unfold belowP exprE
 rw[if_neg (by omega),if_neg (by simp),if_neg (fun h'=>h' (.inr (.inr (.inr (.inr ⟨rfl,rfl,rfl,rfl⟩))))),if_neg (by unfold exprBad;omega)]
 exact first2 (leaf_var id_y 10) (leaf_num (by omega) (by omega) 10)
theorem stmtP_form {params:List Str} {many:Int} (hp:PX params many) {depth:Int} {n:Nat} {rec:List Raw→Int→List Stmt} (r:Raw) (part:List Raw) (h3:depth < 3→∀ l,stmtsE (n+2) (rec l (depth+1))=0) (h2:depth < 2→∀ l,stmtsE (n+2) (rec l (depth+2))=0) :
  firstE (stmtE1 (stmtsE (n+2))) (stmtP params many depth rec r part)=0:=by
 have kb:=pickN_lo r.kind (many:=12) (by decide)
 have hx:=expr12 hp part.length part
 unfold stmtP
 simp only
 generalize pickN r.kind 12=k at kb
 split
 ·exact first1 (stE (by omega) ⟨⟨fun _=>id_arr,fun h=>absurd h (by omega),fun _=>rfl,fun h=>absurd rfl h⟩,.inl rfl,.inl rfl⟩ (first2 (num12 r) hx) (stmts0 (n+1)) (stmts0 (n+1)))
 ·split
  ·exact first1 (stE (by omega) ⟨⟨fun h=>absurd h (by omega),fun _=>rfl,fun h=>absurd h (by omega),fun _=>rfl⟩,.inl rfl,.inl rfl⟩ (first1 hx) (stmts0 (n+1)) (stmts0 (n+1)))
  ·split
   ·exact first1 (stE (by omega) ⟨⟨fun h=>absurd h (by omega),fun _=>rfl,fun h=>absurd h (by omega),fun _=>rfl⟩,.inl rfl,.inl rfl⟩ (first1 hx) (stmts0 (n+1)) (stmts0 (n+1)))
   ·split
    ·rename_i hd
     exact first1 (stE (by omega) ⟨⟨fun h=>absurd h (by omega),fun _=>rfl,fun h=>absurd h (by omega),fun _=>rfl⟩,.inr (.inl rfl),.inr rfl⟩ (first1 hx) (h3 hd.2 _) (h3 hd.2 _))
    ·split
     ·rename_i hd
      refine first2 (set_form id_y (leaf_num (by omega) (by omega) 11) (n+1)) (stE (by omega) ⟨⟨fun h=>absurd h (by omega),fun _=>rfl,fun h=>absurd h (by omega),fun _=>rfl⟩,.inr (.inr rfl),.inl rfl⟩ (first1 (below12 r)) ?_ (stmts0 (n+1)))
      have:=h2 hd.2 part
      exact firstE_app this (first1 (set_form id_y up12 n))
     ·exact first1 (set_form (vars_id hp _ (pick_mem (by simp[varsP]) _)) hx (n+1))
theorem rows_form {params:List Str} {many depth:Int} {rec:List Raw→Int→List Stmt} {g:Stmt→Int} (h:∀ r part,firstE g (stmtP params many depth rec r part)=0):∀ (k:Nat) (l:List Raw),firstE g (rowsP params many depth rec k l)=0
 | 0,_=>rfl
 | _+1,[]=>rfl
 | k+1,r :: _=>firstE_app (h r _) (rows_form h k _)
theorem stmtsP_form {params:List Str} {many:Int} (hp:PX params many):∀ (f:Nat) (l:List Raw) (depth:Int) (n:Nat),3≤n→1≤depth→7≤depth+n→stmtsE n (stmtsP params many f l depth)=0
 | 0,_,_,n+3,_,_,_=>rfl
 | f+1,l,depth,n+3,_,h1,h7=>by
  unfold stmtsP stmtsE
  exact rows_form (fun r part=>stmtP_form hp r part (fun h3 l=>stmtsP_form hp f l (depth+1) (n+2) (by omega) (by omega) (by omega)) (fun h2 l=>stmtsP_form hp f l (depth+2) (n+2) (by omega) (by omega) (by omega))) 4 l
theorem many_app (n:Nat) (a b:List Stmt):stmtsN (n+1) (a++b)=stmtsN (n+1) a+stmtsN (n+1) b:=by
 simp only[stmtsN,List.length_append,List.map_append,List.sum_append]
 omega
theorem many_one (n:Nat) (k:Int) (s:Str) (xs:List Expr) (b e:List Stmt):stmtsN (n+1) [.mk k s xs b e]=1+(stmtsN n b+stmtsN n e):=by
 simp[stmtsN,stmtN1]
theorem many_nil (n:Nat):stmtsN n []=0:=by cases n<;>simp[stmtsN]
theorem many_pos:∀ (n:Nat) (l:List Stmt),0≤stmtsN n l
 | 0,_=>Int.le_refl _
 | n+1,l=>by
  have h:∀ l:List Stmt,0≤(l.map (stmtN1 (stmtsN n))).sum:=fun l=>by
   induction l with
   | nil=>simp
   | cons x l ih =>
    obtain ⟨k,s,xs,b,e⟩:=x
    have h1:=many_pos n b
    have h2:=many_pos n e
    simp only[List.map_cons,List.sum_cons,stmtN1]
    omega
  have:=h l
  simp only[stmtsN]
  omega
theorem many_leaf (n:Nat) (k:Int) (s:Str) (xs:List Expr):stmtsN n [.mk k s xs [] []]≤1:=by
 cases n with
 | zero=>simp[stmtsN]
 | succ n=>rw[many_one,many_nil];omega
theorem rows_few {params:List Str} {many depth:Int} {rec:List Raw→Int→List Stmt} (r:Raw) {l:List Raw} (h:l.length≤6) (k:Nat):rowsP params many depth rec (k+1) (r :: l)=stmtP params many depth rec r (l.take 6):=by
 have:l.drop 6=[]:=List.drop_eq_nil_iff.2 h
 unfold rowsP
 rw[this]
 cases k<;>simp[rowsP]
theorem stmtP_many {params:List Str} {many depth:Int} {rec:List Raw→Int→List Stmt} (r:Raw) (part:List Raw) (n:Nat) (c b:Int) (h3:depth < 3→stmtsN n (rec (part.take (part.length / 2)) (depth+1))+stmtsN n (rec (part.drop (part.length / 2)) (depth+1))≤c) (h2:depth < 2→stmtsN n (rec part (depth+2))≤b) (hc:0≤c) (hb:depth < 2→b+3≤c+1) :
  stmtsN (n+1) (stmtP params many depth rec r part)≤c+1:=by
 unfold stmtP
 simp only
 split
 ·have:=many_leaf (n+1) 2 sarr [numP r,exprP params many part.length part 1];omega
 ·split
  ·have:=many_leaf (n+1) 6 [] [exprP params many part.length part 1];omega
  ·split
   ·have:=many_leaf (n+1) 5 [] [exprP params many part.length part 1];omega
   ·split
    ·rename_i hd
     rw[many_one]
     have:=h3 hd.2
     omega
    ·split
     ·rename_i hd
      rw[show ∀ a b:Stmt,[a,b]=[a]++[b] from fun _ _=>rfl,many_app,many_one (e:=[]),many_one,many_nil]
      have h4:=h2 hd.2
      have h5:=hb hd.2
      have h6:stmtsN n (rec part (depth+2)++[.mk 1 sy [upP] [] []])≤b+1:=by
       cases n with
       | zero=>simp only[stmtsN] at h4 ⊢;omega
       | succ n =>
        rw[many_app]
        have:=many_leaf (n+1) 1 sy [upP]
        omega
      omega
     ·have:=many_leaf (n+1) 1 (pickP (varsP params) r.a) [exprP params many part.length part 1];omega
theorem rows_many {params:List Str} {many depth:Int} {rec:List Raw→Int→List Stmt} (n:Nat) {c:Int} (hc:0≤c) (hs:∀ r part,part.length≤6→stmtsN (n+1) (stmtP params many depth rec r part)≤c):∀ (k:Nat) (l:List Raw),stmtsN (n+1) (rowsP params many depth rec k l)≤k*c
 | 0,_=>by unfold rowsP;rw[many_nil];simp
 | k+1,[]=>by
  unfold rowsP;rw[many_nil]
  exact Int.mul_nonneg (by omega) hc
 | k+1,r :: l=>by
  unfold rowsP
  rw[many_app]
  have h1:=hs r (l.take 6) (by rw[List.length_take];omega)
  have h2:=rows_many n hc hs k (l.drop 6)
  rw[show ((k+1:Nat):Int)*c=k*c+c from by push_cast;rw[Int.add_mul,Int.one_mul]]
  omega
theorem stmtsP_few {params:List Str} {many depth:Int} {f:Nat} (n:Nat) {l:List Raw} (h:l.length≤6) (c:Int) (hc:0≤c) (hs:∀ r part,part.length≤6→stmtsN (n+1) (stmtP params many depth (stmtsP params many f) r part)≤c):stmtsN (n+1) (stmtsP params many (f+1) l depth)≤c:=by
 unfold stmtsP
 match l,h with
 | [],_=>unfold rowsP;rw[many_nil];exact hc
 | r :: l,h=>rw[rows_few r (by simp at h;omega)];exact hs r _ (by rw[List.length_take];omega)
theorem many_3 (params:List Str) (many:Int) (f n:Nat) (l:List Raw) {depth:Int} (hd:3≤depth) (h:l.length≤6):stmtsN n (stmtsP params many f l depth)≤1:=by
 match n,f with
 | 0,_=>simp[stmtsN]
 | n+1,0=>unfold stmtsP;rw[many_nil];omega
 | n+1,f+1=>exact stmtsP_few n h 1 (by omega) (fun r part _=>stmtP_many r part n 0 0 (fun h=>absurd h (by omega)) (fun h=>absurd h (by omega)) (by omega) (fun h=>absurd h (by omega)))
theorem many_2 (params:List Str) (many:Int) (f n:Nat) (l:List Raw) (h:l.length≤6):stmtsN n (stmtsP params many f l 2)≤3:=by
 match n,f with
 | 0,_=>simp[stmtsN]
 | n+1,0=>unfold stmtsP;rw[many_nil];omega
 | n+1,f+1 =>
  refine stmtsP_few n h 3 (by omega) (fun r part hp=>stmtP_many r part n 2 0 (fun _=>?_) (fun h=>absurd h (by omega)) (by omega) (fun h=>absurd h (by omega)))
  have h1:=many_3 params many f n (part.take (part.length / 2)) (depth:=2+1) (by omega) (by rw[List.length_take];omega)
  have h2:=many_3 params many f n (part.drop (part.length / 2)) (depth:=2+1) (by omega) (by rw[List.length_drop];omega)
  omega
theorem body_many (params:List Str) (many:Int) (l:List Raw):stmtsN 12 (bodyP params many l)≤28:=by
 unfold bodyP stmtsP
 refine rows_many 11 (c:=7) (by omega) (fun r part hp=>stmtP_many r part 11 6 1 (fun _=>?_) (fun _=>?_) (by omega) (fun _=>by omega)) 4 l
 ·have h1:=many_2 params many l.length 11 (part.take (part.length / 2)) (by rw[List.length_take];omega)
  have h2:=many_2 params many l.length 11 (part.drop (part.length / 2)) (by rw[List.length_drop];omega)
  have e:(1:Int)+1=2:=rfl
  rw[e];omega
 ·exact many_3 params many l.length 11 part (by omega) hp
theorem body_form {params:List Str} {many:Int} (hp:PX params many) (l:List Raw):stmtsE 12 (bodyP params many l)=0:=stmtsP_form hp _ l 1 12 (by omega) (by omega) (by omega)
structure Shape (many:Nat) (u:Unit):Prop where
 ex:∃ (i:Nat) (l1 l2 l3:List Raw),i < 3∧u=⟨unitsP.getD i [],[sx,sy],[⟨sarr,2+i⟩],[⟨sf,true,[sp,sq],bodyP [sp,sq] many l1⟩,⟨sg,false,[sp],bodyP [sp] many l2⟩,⟨sh,true,[],bodyP [] many l3⟩]⟩
theorem px2 {many:Nat} (h:1≤many∧many≤3):PX [sp,sq] many:=⟨by omega,by omega,fun s hs=>by
 simp only[List.mem_cons,List.not_mem_nil,or_false] at hs
 rcases hs with rfl | rfl
 ·exact id_p
 ·exact id_q⟩
theorem px1 {many:Nat} (h:1≤many∧many≤3):PX [sp] many:=⟨by omega,by omega,fun s hs=>by
 simp only[List.mem_cons,List.not_mem_nil,or_false] at hs
 subst hs;exact id_p⟩
theorem px0 {many:Nat} (h:1≤many∧many≤3):PX [] many:=⟨by omega,by omega,fun s hs=>by simp at hs⟩
theorem fun_form {f:Fun} (h1:identP f.name) (h2:f.params.length≤4) (h3:∀ s∈f.params,identP s) (h4:stmtsE 12 f.body=0):funE f=0:=by
 unfold funE
 have h5:firstE nameE f.params=0:=firstE_zero (fun s hs=>by unfold nameE;rw[if_pos (h3 s hs)])
 rw[if_neg (fun h=>h h1),if_neg (by omega),if_neg (fun h=>h h5)]
 exact h4
theorem shape_form {many:Nat} (hm:1≤many∧many≤3) {u:Unit} (h:Shape many u):unitE u=0:=by
 obtain ⟨i,l1,l2,l3,hi,rfl⟩:=h.ex
 have hu:identP (unitsP.getD i []):=id_units _ (by rw[at_getD (show i < unitsP.length from hi)];exact List.getElem_mem _)
 have f1:funE ⟨sf,true,[sp,sq],bodyP [sp,sq] many l1⟩=0:=fun_form id_f (by simp) (px2 hm).ids (body_form (px2 hm) l1)
 have f2:funE ⟨sg,false,[sp],bodyP [sp] many l2⟩=0:=fun_form id_g (by simp) (px1 hm).ids (body_form (px1 hm) l2)
 have f3:funE ⟨sh,true,[],bodyP [] many l3⟩=0:=fun_form id_h (by simp) (px0 hm).ids (body_form (px0 hm) l3)
 have m1:=body_many [sp,sq] many l1
 have m2:=body_many [sp] many l2
 have m3:=body_many [] many l3
 have n1:=many_pos 12 (bodyP [sp,sq] many l1)
 have n2:=many_pos 12 (bodyP [sp] many l2)
 have n3:=many_pos 12 (bodyP [] many l3)
 have hN:manyN [⟨sf,true,[sp,sq],bodyP [sp,sq] many l1⟩,⟨sg,false,[sp],bodyP [sp] many l2⟩,⟨sh,true,[],bodyP [] many l3⟩]=stmtsN 12 (bodyP [sp,sq] many l1)+(stmtsN 12 (bodyP [sp] many l2)+stmtsN 12 (bodyP [] many l3)):=by
  simp[manyN]
 unfold unitE
 simp only
 rw[if_neg (fun h=>h hu),if_neg (by simp),if_neg,if_neg,if_neg,if_neg]
 ·rw[hN,I64.wrap (by unfold I64;omega)];omega
 ·simp[firstE,f1,f2,f3]
 ·have:arrE ⟨sarr,2+i⟩=0:=by unfold arrE;rw[if_neg (fun h=>h id_arr),if_neg (by show ¬¬(1≤(2+(i:Int))∧2+(i:Int)≤10);omega)]
  simp[firstE,this]
 ·have hx:nameE sx=0:=by unfold nameE;rw[if_pos id_x]
  have hy:nameE sy=0:=by unfold nameE;rw[if_pos id_y]
  simp[firstE,hx,hy]
structure Sees2 (params:List Str) (many:Int) (p:List Unit) (u:Unit) (f:Fun):Prop where
 vars:∀ s∈varsP params,varP u f s
 arr:arrP u sarr
 g:calledE p u [] sg 1=0
 f:∀ s∈unitsP.take many.toNat,calledE p u s sf 2=0
 h:∀ s∈unitsP.take many.toNat,calledE p u s sh 0=0
 lo:1≤many
 hi:many≤3
section
variable {params:List Str} {many:Int} {p:List Unit} {u:Unit} {fn:Fun}
theorem exprS_nil {k n:Int} {of s:Str} (h:exprS1 p u fn k of s 0=0):exprS p u fn (.mk k n of s [])=0:=by
 simp only[exprS,List.length_nil,h,exprsS];rfl
theorem exprS_one {k n:Int} {of s:Str} {a:Expr} (h:exprS1 p u fn k of s 1=0) (ha:exprS p u fn a=0):exprS p u fn (.mk k n of s [a])=0:=by
 simp only[exprS,List.length_cons,List.length_nil,Nat.zero_add,h,exprsS,ha];rfl
theorem exprS_two {k n:Int} {of s:Str} {a b:Expr} (h:exprS1 p u fn k of s 2=0) (ha:exprS p u fn a=0) (hb:exprS p u fn b=0):exprS p u fn (.mk k n of s [a,b])=0:=by
 simp only[exprS,List.length_cons,List.length_nil,Nat.zero_add,Nat.reduceAdd,h,exprsS,ha,hb];rfl
theorem s1_no {k:Int} {of s:Str} {m:Nat} (h2:k≠2) (h3:k≠3) (h4:k≠4):exprS1 p u fn k of s m=0:=by
 unfold exprS1;rw[if_neg (by omega),if_neg h4]
theorem s1_var {of s:Str} {m:Nat} (h:varP u fn s):exprS1 p u fn 2 of s m=0:=by
 unfold exprS1
 rw[if_neg (fun h'=>by rcases h' with h' | h';exact h'.2 h;exact absurd h'.1 (by omega)),if_neg (by omega)]
theorem s1_arr {of s:Str} {m:Nat} (h:arrP u s):exprS1 p u fn 3 of s m=0:=by
 unfold exprS1
 rw[if_neg (fun h'=>by rcases h' with h' | h';exact absurd h'.1 (by omega);exact h'.2 h),if_neg (by omega)]
theorem s1_ask {of s:Str} {m:Nat} (h:calledE p u of s m=0):exprS1 p u fn 4 of s m=0:=by
 unfold exprS1
 rw[if_neg (by omega),if_pos rfl];exact h
theorem numS (n:Int):exprS p u fn (numX n)=0:=exprS_nil (s1_no (by omega) (by omega) (by omega))
theorem varS {s:Str} (h:varP u fn s):exprS p u fn (varX s)=0:=exprS_nil (s1_var h)
theorem exprP_sense (hs:Sees2 params many p u fn):∀ (f:Nat) (l:List Raw) (depth:Int),exprS p u fn (exprP params many f l depth)=0
 | 0,_,_=>numS 3
 | _+1,[],_=>numS 3
 | f+1,r :: rest,depth=>by
  have ia:=exprP_sense hs f (rest.take (rest.length / 2)) (depth+1)
  have ib:=exprP_sense hs f (rest.drop (rest.length / 2)) (depth+1)
  unfold exprP
  simp only
  generalize (if depth > 4 then pickN r.kind 9 else pickN r.kind 20)=k
  split
  ·exact numS _
  ·split
   ·exact varS (hs.vars _ (pick_mem (by simp[varsP]) _))
   ·split
    ·exact exprS_two (s1_no (by omega) (by omega) (by omega)) ia ib
    ·split
     ·exact exprS_one (s1_arr hs.arr) ia
     ·split
      ·exact exprS_one (s1_ask hs.g) ia
      ·split
       ·exact exprS_two (s1_ask (hs.f _ (unit_mem hs.lo hs.hi _))) ia ib
       ·exact exprS_nil (s1_ask (hs.h _ (unit_mem hs.lo hs.hi _)))
theorem stS {k:Int} {s:Str} {xs:List Expr} {b e:List Stmt} (h1:k=1→varP u fn s) (h2:k=2→arrP u s) (hx:firstE (exprS p u fn) xs=0) (hb:firstE (stmtS p u fn) b=0) (he:firstE (stmtS p u fn) e=0):stmtS p u fn (.mk k s xs b e)=0:=by
 simp only[stmtS]
 rw[if_neg (fun h=>by rcases h with h | h;exact h.2 (h1 h.1);exact h.2 (h2 h.1)),exprsS_first,stmtsS_first,stmtsS_first,if_neg (fun h=>h hx),if_neg (fun h=>h hb)]
 exact he
theorem stmtP_sense (hs:Sees2 params many p u fn) {depth:Int} {rec:List Raw→Int→List Stmt} (hr:∀ l d,firstE (stmtS p u fn) (rec l d)=0) (r:Raw) (part:List Raw):firstE (stmtS p u fn) (stmtP params many depth rec r part)=0:=by
 have hx:=exprP_sense hs part.length part 1
 have hy:varP u fn sy:=hs.vars _ (by simp[varsP])
 have n0:firstE (stmtS p u fn) []=0:=rfl
 unfold stmtP
 simp only
 generalize pickN r.kind 12=k
 split
 ·exact first1 (stS (fun h=>absurd h (by omega)) (fun _=>hs.arr) (first2 (numS _) hx) n0 n0)
 ·split
  ·exact first1 (stS (fun h=>absurd h (by omega)) (fun h=>absurd h (by omega)) (first1 hx) n0 n0)
  ·split
   ·exact first1 (stS (fun h=>absurd h (by omega)) (fun h=>absurd h (by omega)) (first1 hx) n0 n0)
   ·split
    ·exact first1 (stS (fun h=>absurd h (by omega)) (fun h=>absurd h (by omega)) (first1 hx) (hr _ _) (hr _ _))
    ·split
     ·refine first2 (stS (fun _=>hy) (fun h=>absurd h (by omega)) (first1 (numS 0)) n0 n0) (stS (fun h=>absurd h (by omega)) (fun h=>absurd h (by omega)) (first1 ?_) ?_ n0)
      ·exact exprS_two (s1_no (by omega) (by omega) (by omega)) (varS hy) (numS _)
      ·exact firstE_app (hr _ _) (first1 (stS (fun _=>hy) (fun h=>absurd h (by omega)) (first1 (exprS_two (s1_no (by omega) (by omega) (by omega)) (varS hy) (numS _))) n0 n0))
     ·exact first1 (stS (fun _=>hs.vars _ (pick_mem (by simp[varsP]) _)) (fun h=>absurd h (by omega)) (first1 hx) n0 n0)
theorem rows_sense {depth:Int} {rec:List Raw→Int→List Stmt} {g:Stmt→Int} (h:∀ r part,firstE g (stmtP params many depth rec r part)=0):∀ (k:Nat) (l:List Raw),firstE g (rowsP params many depth rec k l)=0:=rows_form h
theorem stmtsP_sense (hs:Sees2 params many p u fn):∀ (f:Nat) (l:List Raw) (depth:Int),firstE (stmtS p u fn) (stmtsP params many f l depth)=0
 | 0,_,_=>rfl
 | f+1,l,depth=>by
  unfold stmtsP
  exact rows_sense (fun r part=>stmtP_sense hs (fun l d=>stmtsP_sense hs f l d) r part) 4 l
end
structure Prog (many:Nat) (p:List Unit):Prop where
 m:1≤many∧many≤3
 shape:∀ u∈p,Shape many u
 names:p.map Unit.name=unitsP.take many
theorem shape_arr {many:Nat} {u:Unit} (h:Shape many u):arrP u sarr:=by
 obtain ⟨i,l1,l2,l3,hi,rfl⟩:=h.ex
 exact ⟨_,List.mem_singleton.2 rfl,rfl⟩
theorem shape_vars {many:Nat} {u:Unit} (h:Shape many u):u.vars=[sx,sy]:=by
 obtain ⟨i,l1,l2,l3,hi,rfl⟩:=h.ex
 rfl
theorem shape_g {many:Nat} {u:Unit} (h:Shape many u) (p:List Unit):calledE p u [] sg 1=0:=by
 obtain ⟨i,l1,l2,l3,hi,rfl⟩:=h.ex
 unfold calledE
 rw[if_pos rfl]
 rfl
theorem shape_f {many:Nat} {u:Unit} (h:Shape many u) (of:Str):calledIn u of sf 2=0:=by
 obtain ⟨i,l1,l2,l3,hi,rfl⟩:=h.ex
 unfold calledIn
 show (if of≠[]∧true=false then (5:Int) else if (2:Nat)≠2 then 7 else 0)=0
 rw[if_neg (by simp),if_neg (by simp)]
theorem shape_h {many:Nat} {u:Unit} (h:Shape many u) (of:Str):calledIn u of sh 0=0:=by
 obtain ⟨i,l1,l2,l3,hi,rfl⟩:=h.ex
 unfold calledIn
 show (if of≠[]∧true=false then (5:Int) else if (0:Nat)≠0 then 7 else 0)=0
 rw[if_neg (by simp),if_neg (by simp)]
theorem prog_called {many:Nat} {p:List Unit} (hp:Prog many p) {s:Str} (hs:s∈unitsP.take many) (u:Unit) (x:Str) (m:Nat) (h:∀ v,Shape many v→calledIn v s x m=0):calledE p u s x m=0:=by
 have hne:s≠[]:=fun e=>by
  have:=id_units s (List.mem_of_mem_take hs)
  rw[e] at this
  exact absurd this.1.1.1 (by decide)
 unfold calledE
 rw[if_neg hne]
 split
 ·rename_i hn
  rw[← hp.names] at hs
  obtain ⟨v,hv,e⟩:=List.mem_map.1 hs
  have:=List.find?_eq_none.1 hn v hv
  exact absurd (decide_eq_true e) this
 ·rename_i v hv
  exact h v (hp.shape v (List.mem_of_find?_eq_some hv))
theorem prog_sees {many:Nat} {p:List Unit} (hp:Prog many p) {u:Unit} (hu:u∈p) {f:Fun}:Sees2 f.params many p u f:=by
 have h:=hp.shape u hu
 refine ⟨fun s hs=>?_,shape_arr h,shape_g h p,fun s hs=>prog_called hp hs u _ _ (fun v hv=>shape_f hv s),fun s hs=>prog_called hp hs u _ _ (fun v hv=>shape_h hv s),by have:=hp.m;omega,by have:=hp.m;omega⟩
 unfold varP
 rw[shape_vars h]
 simp only[varsP,List.cons_append,List.nil_append,List.mem_cons] at hs ⊢
 rcases hs with hs | hs | hs
 ·exact .inr (.inl hs)
 ·exact .inr (.inr (.inl hs))
 ·exact .inl hs
theorem dup_no {l:List Str} (h:l.Nodup):¬dupP l:=by
 rintro ⟨j,hj,hm⟩
 obtain ⟨i,hi,e⟩:=List.getElem_of_mem hm
 rw[List.length_take] at hi
 rw[List.getElem_take] at e
 have:=(List.getElem_inj h).1 e
 omega
theorem prog_unitS {many:Nat} {p:List Unit} (hp:Prog many p) {u:Unit} (hu:u∈p):unitS p u=0:=by
 have hfun:∀ f∈u.funcs,funS p u f=0:=by
  intro f hf
  have hs:=prog_sees hp hu (f:=f)
  have key:∀ (params:List Str) (l:List Raw),f.params=params→f.body=bodyP params many l→params.Nodup→funS p u f=0:=fun params l e1 e2 hd=>by
   unfold funS
   rw[e1,if_neg (dup_no hd),stmtsS_first,e2]
   rw[e1] at hs
   exact stmtsP_sense hs _ l 1
  obtain ⟨i,l1,l2,l3,hi,rfl⟩:=(hp.shape u hu).ex
  simp only[List.mem_cons,List.not_mem_nil,or_false] at hf
  rcases hf with rfl | rfl | rfl
  ·exact key [sp,sq] l1 rfl rfl (by decide)
  ·exact key [sp] l2 rfl rfl (by decide)
  ·exact key [] l3 rfl rfl (by decide)
 unfold unitS
 rw[if_neg,firstE_zero hfun]
 obtain ⟨i,l1,l2,l3,hi,rfl⟩:=(hp.shape u hu).ex
 rintro (h | h)
 ·exact dup_no (l:=[sx,sy,sarr]) (by decide) h
 ·exact dup_no (l:=[sf,sg,sh]) (by decide) h
theorem shape_words {many:Nat} {u:Unit} (h:Shape many u):0≤unitWords u∧unitWords u≤6:=by
 obtain ⟨i,l1,l2,l3,hi,rfl⟩:=h.ex
 simp only[unitWords,sizes,List.map_cons,List.map_nil,List.sum_cons,List.sum_nil,List.length_cons,List.length_nil]
 omega
theorem words_sum {many:Nat}:∀ {p:List Unit},(∀ u∈p,Shape many u)→0≤progWords p∧progWords p≤6*p.length
 | [],_=>by simp[progWords]
 | u :: p,h=>by
  have h1:=shape_words (h u List.mem_cons_self)
  have h2:=words_sum (p:=p) (fun v hv=>h v (List.mem_cons_of_mem _ hv))
  simp only[progWords,List.map_cons,List.sum_cons,List.length_cons] at h2 ⊢
  omega
theorem prog_len {many:Nat} {p:List Unit} (hp:Prog many p):p.length=many:=by
 have:=congrArg List.length hp.names
 rw[List.length_map,List.length_take] at this
 have h3:=hp.m
 have h:unitsP.length=3:=rfl
 omega
theorem prog_good {many:Nat} {p:List Unit} (hp:Prog many p):progE p=0:=by
 have hl:=prog_len hp
 have hm:=hp.m
 have hw:=words_sum hp.shape
 have hu:firstE unitE p=0:=firstE_zero (fun u hu=>shape_form hm (hp.shape u hu))
 unfold progE
 rw[if_neg (by omega),if_neg (fun h=>h hu),if_neg,if_neg (by omega)]
 ·exact firstE_zero (fun u hu=>prog_unitS hp hu)
 ·rw[hp.names]
  refine dup_no ?_
  obtain ⟨h1,h3⟩:=hm
  have:many=1∨many=2∨many=3:=by omega
  rcases this with rfl | rfl | rfl<;>decide
theorem programP_prog (l:List Raw):Prog (manyP l) (programP l):=by
 obtain ⟨k,hk,hl⟩:=pickN_nat l.length (many:=3) (by decide)
 have hm:manyP l=1+k:=by unfold manyP;rw[show (3:Int)=((3:Nat):Int) from rfl,hk];omega
 refine ⟨by omega,fun u hu=>?_,?_⟩
 ·unfold programP at hu
  obtain ⟨i,hi,rfl⟩:=List.mem_map.1 hu
  rw[List.mem_range] at hi
  exact ⟨i,_,_,_,by omega,rfl⟩
 ·unfold programP
  rw[hm]
  have:k=0∨k=1∨k=2:=by omega
  rcases this with rfl | rfl | rfl<;>rfl
end Barb
namespace Go.Dm
open Go Go.Eng Go.RowKit Barb
theorem retNE {h:Heap} {k:Nat} {e e':Int} {xs:List (List GV)} (he:e=e') (hx:xs=[]):RetTo (Is (.tuple [.g (.sl k xs),.g (.int e')])) h (.tuple [.nils,.g (.int e)]):=by
 subst he;subst hx
 exact retIs (.inr (.inr ⟨lkNil,lk rfl,trivial⟩))
theorem retRE {h:Heap} {i:Nat} {k:Nat} {e e':Int} {xs ys:List (List GV)} {t:TypeId} (hi:h[i]?=some (.row xs t k)) (he:e=e') (hx:xs=ys):RetTo (Is (.tuple [.g (.sl k ys),.g (.int e')])) h (.tuple [.row i,.g (.int e)]):=by
 subst he;subst hx
 refine retIs (.inl ?_)
 simp only[conv,List.map_cons,List.map_nil,kp,hi]
end Go.Dm
namespace Go.Proofs.YtijdegmamdhcbaaGreatDoor
open Go Go.Dm Go.Eng Barb
end Go.Proofs.YtijdegmamdhcbaaGreatDoor
