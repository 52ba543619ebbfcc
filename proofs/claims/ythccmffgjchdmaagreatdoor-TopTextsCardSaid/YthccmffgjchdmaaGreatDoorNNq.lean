import Derived.Test.YthccmffgjchdmaaGreatDoorNTq
import Derived.Test.YthccmffgjchdmaaGreatDoorNWd
import Derived.Test.YthccmffgjchdmaaGreatDoorNGh
open Go Go.Proofs Go.Proofs.YthccmffgjchdmaaGreatDoor
namespace Barb
open Go Go.Dm Go.Eng
abbrev scG (p:List Unit) (u:Unit) (f:Fun):List GV:=[.sl 4 (p.map Unit.g),.str u.name,.sl 1 (u.vars.map ZaT),.sl 2 (u.arrays.map Arr.g),.sl 4 (u.funcs.map Fun.g),.str f.name,.bool f.isOpen,.sl 1 (f.params.map ZaT),.sl 5 (f.body.map Stmt.g)]
theorem Fun.g_open {f:Fun} {b:Bool} (h:f.isOpen=b):f.g=[.str f.name,.bool b,.sl 1 (f.params.map ZaT),.sl 5 (f.body.map Stmt.g)]:=by rw[Fun.g_eq,h]
theorem ZqS {α:Type} (q:α->Prop) [DecidablePred q]:∀(l:List α),(idx q l=-1/\l.find? (λx=>decide (q x))=none)\/∃(i:Nat) (hi:i < l.length),idx q l=(i:Int)/\l.find? (λx=>decide (q x))=some l[i]:=by
 intro l;rcases Zb0 q l with ⟨h1,h2⟩ | ⟨i,hi,h1,h2,h3⟩
 ·exact .inl ⟨h1,by rw[List.find?_eq_none];intro x hx;simpa using h2 x hx⟩
 ·refine .inr ⟨i,hi,h1,?_⟩;rw[Yb6];exact ⟨by simpa using h2,i,hi,rfl,λj hj=>by simpa using h3 j (by omega) hj⟩
theorem ZkI (v:Unit) (of s:Str) (m:Nat):(Zfh v s=-1/\Barb.calledIn v of s m=5)\/∃(i:Nat) (hi:i < v.funcs.length),Zfh v s=(i:Int)/\Barb.calledIn v of s m=if of≠[]/\v.funcs[i].isOpen=false then 5 else if v.funcs[i].params.length≠m then 7 else 0:=by
 unfold Barb.calledIn;rcases ZqS (λg:Fun=>g.name=s) v.funcs with ⟨h1,h2⟩ | ⟨i,hi,h1,h2⟩
 ·exact .inl ⟨h1,by rw[h2]⟩
 ·exact .inr ⟨i,hi,h1,by rw[h2]⟩
theorem ZmB (p:List Unit) (u:Unit) (of s:Str) (m:Nat) (ho:of≠[]):(Zc6 p of=-1/\Zbf p u of s m=5)\/∃(i:Nat) (hi:i < p.length),Zc6 p of=(i:Int)/\Zbf p u of s m=Barb.calledIn p[i] of s m:=by
 unfold Zbf;rw[if_neg ho];rcases ZqS (λv:Unit=>v.name=of) p with ⟨h1,h2⟩ | ⟨i,hi,h1,h2⟩
 ·exact .inl ⟨h1,by rw[h2]⟩
 ·exact .inr ⟨i,hi,h1,by rw[h2]⟩
end Barb
namespace ZN
open Go Go.Dm Go.Eng Barb
variable {L:Lv}
theorem Zyl (u:Barb.Unit) (s:Str):CT Tryz.prog (gl L) 150 [.agg u.d,.fp [.str s] 0] (Is (.pb (u.name=s))):=by refine enter hT hF hM Tryz.func150 rfl 8 rfl (by kernel_rfl) [.tmp 3] rfl [.agg u.d,.fp [.str s] 0] rfl _ ?_;exact ⟨rfl,Zp6 Ya3⟩
theorem Zzz (f:Fun) (s:Str):CT Tryz.prog (gl L) 148 [.agg f.d,.fp [.str s] 0] (Is (.pb (f.name=s))):=by refine enter hT hF hM Tryz.func148 rfl 8 rfl (by kernel_rfl) [.tmp 3] rfl [.agg f.d,.fp [.str s] 0] rfl _ ?_;exact ⟨rfl,Zp6 Ya3⟩
theorem Zz0 (a:Arr) (s:Str):CT Tryz.prog (gl L) 145 [.agg [.g (.str a.name),.g (.int a.size)],.fp [.str s] 0] (Is (.pb (a.name=s))):=by refine enter hT hF hM Tryz.func145 rfl 8 rfl (by kernel_rfl) [.tmp 3] rfl [.agg [.g (.str a.name),.g (.int a.size)],.fp [.str s] 0] rfl _ ?_;exact ⟨rfl,Zp6 Ya3⟩
theorem ZwJ (l:List Barb.Unit) (hl:l.length<=9223372036854775807) (s:Str):CT Tryz.prog (gl L) 149 [.g (.sl 4 (l.map Unit.g)),.fn 150 [] [.fp [.str s] 0]] (Is (.g (.int (Zc6 l s)))):=by
 have ll:(l.map Unit.g).length=l.length:=by simp
 refine enter hT hF hM Tryz.func149 rfl 19 rfl (by kernel_rfl) [.tmp 4] rfl [.g (.sl 4 (l.map Unit.g)),.fn 150 [] [.fp [.str s] 0]] rfl _ ?_;refine ZaO (ι:=Nat) (λi=>[(8,.g (.int (i:Int)))]) (λ_=>[]) (λi=>i<=l.length/\∀j (hj:j < l.length),j < i->¬l[j].name=s) (λi=>l.length - i)
  ⟨0,[],⟨rfl,.inl rfl,.inr ⟨lk rfl,trivial⟩,rfl⟩,Yat _,Zir (q:=λx:Barb.Unit=>x.name=s)⟩ ?_
 intro Rd aj i ⟨hi,ha⟩;refine ⟨λh=>?_,λh=>?_⟩
 ·have h1:i < l.length:=by omega
  refine ⟨i,_,rfl,gm h1,?_⟩;refine Zad (.inl rfl) (Zyl l[i] s) ?_;refine ⟨λh2=>⟨rfl,Zb2 (Zin (q:=λx:Barb.Unit=>x.name=s) h1 ha h2).symm⟩,λh2=>⟨_,I64.wrap (by unfold I64;omega),?_⟩⟩;exact aj _ _ _ ⟨i+1,[],⟨rfl,.inl rfl,.inr ⟨lk rfl,trivial⟩,rfl⟩,⟨h1,Zdq (q:=λx:Barb.Unit=>x.name=s) h1 ha h2⟩,by omega⟩
 ·exact ⟨rfl,Zb2 (Zim (Zed (q:=λx:Barb.Unit=>x.name=s) (by omega) ha)).symm⟩
theorem ZwM (l:List Fun) (hl:l.length<=9223372036854775807) (s:Str):CT Tryz.prog (gl L) 147 [.g (.sl 4 (l.map Fun.g)),.fn 148 [] [.fp [.str s] 0]] (Is (.g (.int (idx (λf:Fun=>f.name=s) l)))):=by
 have ll:(l.map Fun.g).length=l.length:=by simp
 refine enter hT hF hM Tryz.func147 rfl 19 rfl (by kernel_rfl) [.tmp 4] rfl [.g (.sl 4 (l.map Fun.g)),.fn 148 [] [.fp [.str s] 0]] rfl _ ?_;refine ZaO (ι:=Nat) (λi=>[(8,.g (.int (i:Int)))]) (λ_=>[]) (λi=>i<=l.length/\∀j (hj:j < l.length),j < i->¬l[j].name=s) (λi=>l.length - i)
  ⟨0,[],⟨rfl,.inl rfl,.inr ⟨lk rfl,trivial⟩,rfl⟩,Yat _,Zir (q:=λx:Fun=>x.name=s)⟩ ?_
 intro Rd aj i ⟨hi,ha⟩;refine ⟨λh=>?_,λh=>?_⟩
 ·have h1:i < l.length:=by omega
  refine ⟨i,_,rfl,(gm h1).trans (congrArg some (Fun.g_eq _)),?_⟩;refine Zad (.inl rfl) (Zzz l[i] s) ?_;refine ⟨λh2=>⟨rfl,Zb2 (Zin (q:=λx:Fun=>x.name=s) h1 ha h2).symm⟩,λh2=>⟨_,I64.wrap (by unfold I64;omega),?_⟩⟩;exact aj _ _ _ ⟨i+1,[],⟨rfl,.inl rfl,.inr ⟨lk rfl,trivial⟩,rfl⟩,⟨h1,Zdq (q:=λx:Fun=>x.name=s) h1 ha h2⟩,by omega⟩
 ·exact ⟨rfl,Zb2 (Zim (Zed (q:=λx:Fun=>x.name=s) (by omega) ha)).symm⟩
theorem ZhB (l:List Barb.Unit) (hl:l.length<=9223372036854775807) (s:Str):CT Tryz.prog (gl L) 133 [.g (.sl 4 (l.map Unit.g)),.g (.str s)] (Is (.g (.int (Zc6 l s)))):=by refine enter hT hF hM Tryz.func133 rfl 8 rfl (by kernel_rfl) [.tmp 4] rfl [.g (.sl 4 (l.map Unit.g)),.g (.str s)] rfl _ ?_;exact Zad (.inl rfl) (ZwJ l hl s) ⟨rfl,Zb2 rfl⟩
theorem Zfc (u:Barb.Unit) (hl:u.funcs.length<=9223372036854775807) (s:Str):CT Tryz.prog (gl L) 132 [.agg u.d,.g (.str s)] (Is (.g (.int (Zfh u s)))):=by refine enter hT hF hM Tryz.func132 rfl 9 rfl (by kernel_rfl) [.tmp 4] rfl [.agg u.d,.g (.str s)] rfl _ ?_;exact Zad (.inl rfl) (ZwM u.funcs hl s) ⟨rfl,Zb2 rfl⟩
theorem ZwN (l:List Arr) (hl:l.length<=9223372036854775807) (s:Str):CT Tryz.prog (gl L) 159 [.g (.sl 2 (l.map Arr.g)),.fn 145 [] [.fp [.str s] 0]] (Is (.g (.int (idx (λa:Arr=>a.name=s) l)))):=by
 have ll:(l.map Arr.g).length=l.length:=by simp
 refine enter hT hF hM Tryz.func159 rfl 19 rfl (by kernel_rfl) [.tmp 4] rfl [.g (.sl 2 (l.map Arr.g)),.fn 145 [] [.fp [.str s] 0]] rfl _ ?_;refine ZaO (ι:=Nat) (λi=>[(8,.g (.int (i:Int)))]) (λ_=>[]) (λi=>i<=l.length/\∀j (hj:j < l.length),j < i->¬l[j].name=s) (λi=>l.length - i)
  ⟨0,[],⟨rfl,.inl rfl,.inr ⟨lk rfl,trivial⟩,rfl⟩,Yat _,Zir (q:=λx:Arr=>x.name=s)⟩ ?_
 intro Rd aj i ⟨hi,ha⟩;refine ⟨λh=>?_,λh=>?_⟩
 ·have h1:i < l.length:=by omega
  refine ⟨i,_,rfl,gm h1,?_⟩;refine Zad (.inl rfl) (Zz0 l[i] s) ?_;refine ⟨λh2=>⟨rfl,Zb2 (Zin (q:=λx:Arr=>x.name=s) h1 ha h2).symm⟩,λh2=>⟨_,I64.wrap (by unfold I64;omega),?_⟩⟩;exact aj _ _ _ ⟨i+1,[],⟨rfl,.inl rfl,.inr ⟨lk rfl,trivial⟩,rfl⟩,⟨h1,Zdq (q:=λx:Arr=>x.name=s) h1 ha h2⟩,by omega⟩
 ·exact ⟨rfl,Zb2 (Zim (Zed (q:=λx:Arr=>x.name=s) (by omega) ha)).symm⟩
theorem ZwS (l:List Arr) (hl:l.length<=9223372036854775807) (s:Str):CT Tryz.prog (gl L) 144 [.g (.sl 2 (l.map Arr.g)),.fn 145 [] [.fp [.str s] 0]] (Is (.pb (∃a∈l,a.name=s))):=by
 refine enter hT hF hM Tryz.func144 rfl 9 rfl (by kernel_rfl) [.tmp 4] rfl [.g (.sl 2 (l.map Arr.g)),.fn 145 [] [.fp [.str s] 0]] rfl _ ?_;refine Zad (.inl rfl) (ZwN l hl s) ⟨rfl,Zp6 ?_⟩;rcases Zb0 (λa:Arr=>a.name=s) l with ⟨h1,h2⟩ | ⟨i,hi,h1,h2,h3⟩
 ·rw[h1];exact ⟨λh=>absurd h (by decide),λ⟨c,hc,ho⟩=>absurd ho (h2 c hc)⟩
 ·rw[h1];exact ⟨λ_=>⟨l[i],Yai _,h2⟩,λ_=>by omega⟩
theorem Zm7 (p:List Barb.Unit) (u:Barb.Unit) (f:Fun) (hl:u.arrays.length<=9223372036854775807) (s:Str):CT Tryz.prog (gl L) 130 [.fp (scG p u f) 0,.g (.str s)] (Is (.pb (Zlk u s))):=by refine enter hT hF hM Tryz.func130 rfl 12 rfl (by kernel_rfl) [.tmp 4] rfl [.fp (scG p u f) 0,.g (.str s)] rfl _ ?_;exact Zad (.inl rfl) (ZwS u.arrays hl s) ⟨rfl,Zp6 Ya3⟩
theorem Zm6 (p:List Barb.Unit) (u:Barb.Unit) (f:Fun) (hl:u.vars.length<=9223372036854775807) (hf:f.params.length<=9223372036854775807) (s:Str):CT Tryz.prog (gl L) 129 [.fp (scG p u f) 0,.g (.str s)] (Is (.pb (ZkM u f s))):=by refine enter hT hF hM Tryz.func129 rfl 21 rfl (by kernel_rfl) [.tmp 4] rfl [.fp (scG p u f) 0,.g (.str s)] rfl _ ?_;refine Zad (.inl rfl) (ZfV f.params hf s) ⟨λh=>⟨rfl,ZCC (.inl h)⟩,λh=>?_⟩;exact Zad (.inl rfl) (ZfV u.vars hl s) ⟨rfl,Zp6 ⟨λh'=>.inr h',λh'=>h'.elim (λqf=>absurd qf h) id⟩⟩
end ZN
namespace Barb
open Go Go.Dm Go.Eng
theorem Zw2 (p:List Unit) (u:Unit) (f:Fun) (x:Expr):ZbR p u f x=if Zbp p u f x.k x.of x.s x.args.length≠0 then Zbp p u f x.k x.of x.s x.args.length else Zeb p u f x.args:=by
 cases x;rw[ZbR];rfl
theorem ZvV (p:List Unit) (u:Unit) (f:Fun) (x:Stmt):Zd1 p u f x=if (x.k=1/\¬ZkM u f x.s)\/(x.k=2/\¬Zlk u x.s) then 5 else if Zeb p u f x.xs≠0 then Zeb p u f x.xs else if Zbt p u f x.b≠0 then Zbt p u f x.b else Zbt p u f x.e:=by
 cases x;rw[Zd1];rfl
def short (u:Unit):Prop:=u.vars.length<=9223372036854775807/\u.arrays.length<=9223372036854775807/\u.funcs.length<=9223372036854775807
theorem Unit.I.short {u:Unit} (h:u.I):short u:=by obtain ⟨_,⟨_,h1⟩,_,h2,_,h3⟩:=h;exact ⟨by omega,by omega,by omega⟩
end Barb
namespace ZN
open Go Go.Dm Go.Eng Barb
variable {L:Lv}
theorem Zsy (p:List Barb.Unit) (hp:∀v∈p,short v) (hpl:p.length<=9223372036854775807) (u:Barb.Unit) (hu:short u) (f:Fun) (x:Barb.Expr):CT Tryz.prog (gl L) 146 [.fp (scG p u f) 0,.agg x.d] (Is (.g (.int (Zbf p u x.of x.s x.args.length)))):=by
 have lp:(p.map Unit.g).length=p.length:=by simp
 have lx:(x.args.map Expr.g).length=x.args.length:=by simp
 refine enter hT hF hM Tryz.func146 rfl 62 rfl (by kernel_rfl) [.tmp 4] rfl [.fp (scG p u f) 0,.agg x.d] rfl _ ?_;refine stepS ⟨?_⟩;refine stepS ⟨?_⟩;refine ZrK (ι:=Barb.Unit) (λ_=>[(3,.ptr 0 0),(5,.ptr 1 0)]) (λv=>[.blk x.d 146,.blk v.d 37]) (λv=>Zbf p u x.of x.s x.args.length=Barb.calledIn v x.of x.s x.args.length/\short v) (λe0 v hv=>?_) (λRj aI=>?_)
 rotate_left
 ·refine ⟨λa1=>?_,λa1=>aI u _ ⟨rfl,rfl,trivial⟩ ⟨by unfold Zbf;rw[if_pos a1],hu⟩⟩;refine ⟨none,rfl,_,_,.inl rfl,ZhB p hpl x.of,rfl,?_⟩;rcases ZmB p u x.of x.s x.args.length a1 with ⟨h1,e⟩ | ⟨i,hi,h1,e⟩
  ·exact ⟨λ_=>⟨rfl,Zb2 e.symm⟩,λh=>absurd (by rw[h1];decide) h⟩
  ·refine ⟨λh=>absurd h (by rw[h1];omega),λ_=>?_⟩;refine ⟨i,_,(show D.g (.int (Zc6 p x.of))=D.g (.int (i:Int)) by rw[h1]),gm hi,?_⟩;exact aI p[i] _ ⟨rfl,rfl,trivial⟩ ⟨e,hp _ (Yai _)⟩
 obtain ⟨e,_,_,hf⟩:=hv;refine Zad (.inl rfl) (Zfc v hf x.s) ?_;rcases ZkI v x.of x.s x.args.length with ⟨ep,e'⟩ | ⟨i,hi,ep,e'⟩
 ·exact ⟨λ_=>⟨rfl,Zb2 (e.trans e').symm⟩,λh=>absurd (by rw[ep];decide) h⟩
 ·have li:(v.funcs[i].params.map ZaT).length=v.funcs[i].params.length:=by simp
  have pS:D.g (.int (Zfh v x.s))=D.g (.int (i:Int)):=by rw[ep]
  rw[e'] at e;refine ⟨λh=>absurd h (by rw[ep];omega),λ_=>⟨λb1=>?_,λb1=>?_⟩⟩
  ·cases hb:v.funcs[i].isOpen with
   | false =>rw[if_pos ⟨b1,hb⟩] at e;exact ⟨i,_,pS,(gm hi).trans (congrArg some (Fun.g_open hb)),rfl,Zb2 e.symm⟩
   | true =>rw[if_neg (λh=>by rw[hb] at h;exact absurd h.2 (by decide))] at e;refine ⟨i,_,pS,(gm hi).trans (congrArg some (Fun.g_open hb)),none,rfl,i,_,pS,(gm hi).trans (congrArg some (Fun.g_eq _)),?_⟩;exact ⟨λc=>⟨rfl,Zb2 (by rw[e,if_pos (by omega)])⟩,λc=>⟨rfl,Zb2 (by rw[e,if_neg (by omega)])⟩⟩
  ·rw[if_neg (λh=>h.1 b1)] at e;refine ⟨none,rfl,i,_,pS,(gm hi).trans (congrArg some (Fun.g_eq _)),?_⟩;exact ⟨λc=>⟨rfl,Zb2 (by rw[e,if_pos (by omega)])⟩,λc=>⟨rfl,Zb2 (by rw[e,if_neg (by omega)])⟩⟩
end ZN
namespace Barb
open Go Go.Dm Go.Eng
theorem Expr.args_lt {x y:Expr} (h:y∈x.args):sizeOf y < sizeOf x:=by
 cases x with
 | mk k n of s args =>have:=List.sizeOf_lt_of_mem (show y∈args from h);simp only[Expr.mk.sizeOf_spec];omega
theorem Stmt.b_lt {l:List Stmt} {x:Stmt} (h:x∈l):sizeOf x.b < sizeOf l/\sizeOf x.e < sizeOf l:=by
 have h1:=List.sizeOf_lt_of_mem h;cases x with
 | mk k s xs b e =>simp only[Stmt.mk.sizeOf_spec] at h1;show sizeOf b < sizeOf l/\sizeOf e < sizeOf l;omega
theorem Zso {α:Type} (g:α->Int) (a b:α):Zal g [a,b]=if g a≠0 then g a else g b:=by
 by_cases h:g a=0
 ·by_cases h':g b=0
  ·simp[Zal,h,h']
  ·simp[Zal,h,h']
 ·simp[Zal,h]
theorem Zk7 {p:List Unit} {u:Unit} {f:Fun} {k:Int} {of s:Str} {m:Nat} (h:(k=2/\¬ZkM u f s)\/(k=3/\¬Zlk u s)):Zbp p u f k of s m=5:=by unfold Zbp;rw[if_pos h]
theorem ZqW {p:List Unit} {u:Unit} {f:Fun} {k:Int} {of s:Str} {m:Nat} (h:k=4):Zbp p u f k of s m=Zbf p u of s m:=by unfold Zbp;rw[if_neg (by omega),if_pos h]
theorem Zmq {p:List Unit} {u:Unit} {f:Fun} {k:Int} {of s:Str} {m:Nat} (h:¬((k=2/\¬ZkM u f s)\/(k=3/\¬Zlk u s))) (h4:k≠4):Zbp p u f k of s m=0:=by unfold Zbp;rw[if_neg h,if_neg h4]
end Barb
namespace ZN
open Go Go.Dm Go.Eng Barb
variable {L:Lv}
theorem ZrM (p:List Barb.Unit) (hp:∀v∈p,short v) (hpl:p.length<=9223372036854775807) (u:Barb.Unit) (hu:short u) (f:Fun) (hf:f.params.length<=9223372036854775807) :
  ∀(n:Nat) (x:Barb.Expr),SizeOf.sizeOf x < n->x.I->CT Tryz.prog (gl L) 131 [.fp (scG p u f) 0,.agg x.d] (Is (.g (.int (ZbR p u f x)))):=by
 intro n
 induction n with
 | zero=>intro x h;exact absurd h (Ybn _)
 | succ n ih =>
  intro x hn hx;obtain ⟨_,_,_,_,bn,hI⟩:=hx.inv;have lx:(x.args.map Expr.g).length=x.args.length:=by simp
  have e:=Zw2 p u f x;refine enter hT hF hM Tryz.func131 rfl 50 rfl (by kernel_rfl) [.tmp 4] rfl [.fp (scG p u f) 0,.agg x.d] rfl _ ?_;have bad:Zbp p u f x.k x.of x.s x.args.length=5->∀h:Zae,Zby (Is (.g (.int (ZbR p u f x)))) h (.g (.int 5)):=λhb h=>Zb2 (by rw[e,if_pos (by rw[hb];decide),hb]);refine stepS ⟨?_⟩;refine stepS ⟨?_⟩;refine ZrK (ι:=Int) (λc=>[(0,.fp (scG p u f) 0),(3,.ptr 0 0),(5,.g (.int c))]) (λ_=>[.blk x.d 146]) (λc=>c=Zbp p u f x.k x.of x.s x.args.length) (λe0 c hc=>?_) (λRj aI=>?_)
  rotate_left
  ·refine ⟨λa1=>?_,λa1=>⟨λa2=>?_,λa2=>⟨λa3=>?_,λa3=>?_⟩⟩⟩
   ·refine Zad (.inl rfl) (Zm6 p u f hu.1 hf x.s) ⟨λb1=>⟨λ_=>⟨rfl,bad (Zk7 (.inl ⟨a1,b1⟩)) _⟩,λh=>absurd h b1⟩,λb1=>⟨λh=>absurd h (by omega),λ_=>⟨λh=>absurd h (by omega),λ_=>?_⟩⟩⟩;exact aI 0 _ ⟨rfl,rfl,rfl,trivial⟩ (Zmq (λh=>by rcases h with h | h;exact h.2 b1;omega) (by omega)).symm
   ·refine Zad (.inl rfl) (Zm7 p u f hu.2.1 x.s) ⟨λb1=>⟨rfl,bad (Zk7 (.inr ⟨a2,b1⟩)) _⟩,λb1=>⟨λh=>absurd h (by omega),λ_=>?_⟩⟩;exact aI 0 _ ⟨rfl,rfl,rfl,trivial⟩ (Zmq (λh=>by rcases h with h | h;omega;exact h.2 b1) (by omega)).symm
   ·exact Zad (.inl rfl) (Zsy p hp hpl u hu f x) (aI _ _ ⟨rfl,rfl,rfl,trivial⟩ (ZqW a3).symm)
   ·exact aI 0 _ ⟨rfl,rfl,rfl,trivial⟩ (Zmq (λh=>by omega) a3).symm
  rw[<- hc,ZbV] at e;clear bad;refine ZaO (ι:=Nat × Int) (λs=>[(39,.g (.int (s.1:Int))),(5,.g (.int s.2))]) (λ_=>[]) (λs=>s.1<=x.args.length/\((s.2=0/\c=0/\∀j (hj:j < x.args.length),j < s.1->ZbR p u f x.args[j]=0)\/(s.2≠0/\ZbR p u f x=s.2))) (λs=>x.args.length - s.1)
   ⟨(0,c),[],⟨rfl,.inl rfl,.inr ⟨lk rfl,lk rfl,trivial⟩,rfl⟩,Yat _,?_⟩ ?_
  ·by_cases h0:c=0
   ·exact .inl ⟨h0,h0,Zgk⟩
   ·exact .inr ⟨h0,by rw[e,if_pos h0]⟩
  rintro Rd aj ⟨i,d⟩ ⟨hi,hd⟩;dsimp only at hi hd;refine ⟨λh1=>?_,λh1=>?_⟩
  ·have h2:i < x.args.length:=by omega
   refine ⟨i,_,rfl,(gm h2).trans (congrArg some (Expr.g_eq _)),?_⟩;refine ⟨λh3=>⟨rfl,Zb2 ?_⟩,λh3=>?_⟩
   ·rcases hd with ⟨h4,_⟩ | ⟨_,h4⟩
    ·exact absurd h4 h3
    ·exact h4.symm
   ·obtain ⟨_,iv,ha⟩:d=0/\c=0/\∀j (hj:j < x.args.length),j < i->ZbR p u f x.args[j]=0:=by
     rcases hd with h4 | ⟨h4,_⟩
     ·exact h4
     ·exact absurd h3 h4
    refine Zad (.inl rfl) (ih x.args[i] (by have:=Expr.args_lt (Yai h2);omega) (hI _ (Yai _))) ⟨_,I64.wrap (by unfold I64;omega),?_⟩;refine aj _ _ _ ⟨(i+1,ZbR p u f x.args[i]),[],⟨rfl,.inl rfl,.inr ⟨lk rfl,lk rfl,trivial⟩,rfl⟩,⟨h2,?_⟩,by dsimp only;omega⟩;dsimp only;by_cases h5:ZbR p u f x.args[i]=0
    ·exact .inl ⟨h5,iv,ZaV h2 ha h5⟩
    ·exact .inr ⟨h5,by rw[e,if_neg (λh=>h iv),Za3 h2 ha h5]⟩
  ·refine ⟨rfl,Zb2 ?_⟩;rcases hd with ⟨h4,iv,ha⟩ | ⟨_,h4⟩
   ·rw[e,if_neg (λh=>h iv),Zbb (by omega) ha,h4]
   ·exact h4.symm
variable {L:Lv}
def stmtsG (l:List Barb.Stmt):List GV:=[.sl 5 (l.map Stmt.g)]
set_option maxRecDepth 4000 in
set_option maxHeartbeats 1000000 in
theorem ZoY (p:List Barb.Unit) (hp:∀v∈p,short v) (hpl:p.length<=9223372036854775807) (u:Barb.Unit) (hu:short u) (f:Fun) (hf:f.params.length<=9223372036854775807) :
  ∀(n:Nat) (l:List Barb.Stmt),SizeOf.sizeOf l < n->(∀x∈l,Barb.Stmt.I x)->l.length*96<=140737488351232->CT Tryz.prog (gl L) 109 [.fp (scG p u f) 0,.g (.sl 5 (l.map Stmt.g))] (Is (.g (.int (Zbt p u f l)))):=by
 intro n
 induction n with
 | zero=>intro l h;exact absurd h (Ybn _)
 | succ n ih =>
  intro l hn hI hlen;have hl:(l.map Stmt.g).length=l.length:=by simp
  have et:=Za1 p u f l;refine enter hT hF hM Tryz.func109 rfl 73 rfl (by kernel_rfl) [.tmp 4] rfl [.fp (scG p u f) 0,.g (.sl 5 (l.map Stmt.g))] rfl _ ?_;refine ZaO (ι:=Nat) (λi=>[(15,.g (.int (i:Int)))]) (λ_=>[]) (λi=>i<=l.length/\∀j (hj:j < l.length),j < i->Zd1 p u f l[j]=0) (λi=>l.length - i)
   ⟨0,[],⟨rfl,.inl rfl,.inr ⟨lk rfl,trivial⟩,rfl⟩,Yat _,Zgk⟩ ?_
  intro Rd aj i ⟨hi,ha⟩;refine ⟨λh0=>?_,λh0=>⟨rfl,Zb2 (by rw[et,Zbb (by omega) ha])⟩⟩;have h1:i < l.length:=by omega
  have fin:∀v:Int,v≠0->Zd1 p u f l[i]=v->∀h:Zae,Zby (Is (.g (.int (Zbt p u f l)))) h (.g (.int v)):=λv hv he h=>Zb2 (by rw[et,Za3 h1 ha (by rw[he];exact hv),he]);obtain ⟨hk,hs,fj,fQ,gn,qw,gu,mf⟩:=(hI l[i] (Yai _)).inv;have e:=ZvV p u f l[i];have next:Zd1 p u f l[i]=0->∀j (hj:j < l.length),j < i+1->Zd1 p u f l[j]=0:=λh0=>ZaV h1 ha h0
  obtain ⟨pF,tc⟩:=Stmt.b_lt (Yai h1);refine stepS ?_;refine stepS ?_;refine ⟨i,_,rfl,(gm h1).trans (congrArg some (Stmt.g_eq _)),⟨?_⟩⟩;generalize l[i]=y at *;have lx:(y.xs.map Expr.g).length=y.xs.length:=by simp
  refine ZrK (ι:=PUnit) (λ_=>[(0,.fp (scG p u f) 0),(6,.ptr 0 0),(15,.g (.int (i:Int)))]) (λ_=>[.blk y.d 114]) (λ_=>¬((y.k=1/\¬ZkM u f y.s)\/(y.k=2/\¬Zlk u y.s))) (λe0 _ hb=>?_) (λRj aI=>?_)
  rotate_left
  ·have bad:(y.k=1/\¬ZkM u f y.s)\/(y.k=2/\¬Zlk u y.s)->∀h:Zae,Zby (Is (.g (.int (Zbt p u f l)))) h (.g (.int 5)):=λhb=>fin 5 (by decide) (by rw[e,if_pos hb]);refine ⟨λa1=>?_,λa1=>⟨λa2=>?_,λa2=>?_⟩⟩
   ·refine Zad (.inl rfl) (Zm6 p u f hu.1 hf y.s) ⟨λb1=>⟨rfl,bad (.inl ⟨a1,b1⟩) _⟩,λb1=>⟨λh=>absurd h (by omega),λ_=>?_⟩⟩;exact aI ⟨⟩ _ ⟨rfl,rfl,rfl,trivial⟩ (λh=>by rcases h with h | h;exact h.2 b1;omega)
   ·refine Zad (.inl rfl) (Zm7 p u f hu.2.1 y.s) ⟨λb1=>⟨rfl,bad (.inr ⟨a2,b1⟩) _⟩,λb1=>?_⟩;exact aI ⟨⟩ _ ⟨rfl,rfl,rfl,trivial⟩ (λh=>by rcases h with h | h;omega;exact h.2 b1)
   ·exact aI ⟨⟩ _ ⟨rfl,rfl,rfl,trivial⟩ (λh=>by omega)
  rw[if_neg hb,ZbV] at e;refine ZaO (ι:=Nat) (λk=>[(44,.g (.int (k:Int))),(6,.ptr 0 0)]) (λ_=>[.blk y.d 114]) (λk=>k<=y.xs.length/\∀j (hj:j < y.xs.length),j < k->ZbR p u f y.xs[j]=0) (λk=>y.xs.length - k)
   ⟨0,[.old 0],⟨rfl,.inl rfl,.inr ⟨lk rfl,lk rfl,trivial⟩,rfl⟩,Yat _,Zgk⟩ ?_
  intro Rk jG k ⟨bJ,bS⟩;refine ⟨λc0=>?_,λc0=>?_⟩
  ·have c1:k < y.xs.length:=by omega
   refine ⟨k,_,rfl,(gm c1).trans (congrArg some (Expr.g_eq _)),?_⟩;refine Zad (.inl rfl) (ZrM p hp hpl u hu f hf _ y.xs[k] (YbR _) (qw _ (Yai _))) ?_;refine ⟨λc2=>⟨rfl,fin _ c2 (by rw[e,if_pos (by rw[Za3 c1 bS c2];exact c2),Za3 c1 bS c2]) _⟩,λc2=>⟨_,I64.wrap (by unfold I64;omega),?_⟩⟩;exact jG _ _ _ ⟨k+1,[.old 0],⟨rfl,.inl rfl,.inr ⟨lk rfl,lk rfl,trivial⟩,rfl⟩,⟨c1,ZaV c1 bS c2⟩,by omega⟩
  have dc:Zal (ZbR p u f) y.xs=0:=Zbb (by omega) bS;rw[if_neg (λh=>h dc),<- Zso (Zbt p u f) y.b y.e] at e;refine ⟨[stmtsG y.b,stmtsG y.e],rfl,rfl,⟨rfl,rfl,trivial⟩,?_⟩;have tx:∀m (hm:m < [y.b,y.e].length),SizeOf.sizeOf [y.b,y.e][m] < n/\(∀x∈[y.b,y.e][m],Barb.Stmt.I x)/\[y.b,y.e][m].length*96<=140737488351232:=λm hm=>by
   match m,hm with
   | 0,_=>exact ⟨by show SizeOf.sizeOf y.b < n;omega,gu,fQ⟩
   | 1,_=>exact ⟨by show SizeOf.sizeOf y.e < n;omega,mf,gn⟩
  have mS:[y.b,y.e].length=2:=rfl;have om:[stmtsG y.b,stmtsG y.e].length=2:=rfl;have aF:[stmtsG y.b,stmtsG y.e]=[y.b,y.e].map stmtsG:=rfl;generalize [y.b,y.e]=bs at *;refine ZaO (ι:=Nat) (λm=>[(61,.g (.int (m:Int))),(59,.row 0)]) (λ_=>[.row (bs.map stmtsG) 69 1]) (λm=>m<=2/\∀j (hj:j < bs.length),j < m->Zbt p u f bs[j]=0) (λm=>2 - m)
   ⟨0,[.old 1],⟨rfl,.inr ⟨⟨aF,rfl,rfl⟩,trivial⟩,.inr ⟨lk rfl,lk rfl,trivial⟩,rfl⟩,Yat _,Zgk⟩ ?_
  intro Rm xi m ⟨j5,mO⟩;refine ⟨λd0=>?_,λd0=>⟨_,I64.wrap (by unfold I64;omega),?_⟩⟩
  ·have d1:m < bs.length:=by omega
   obtain ⟨q1,q2,q3⟩:=tx m d1;refine ⟨m,rfl,by rw[Yaa];exact d1,_,gm d1,?_⟩;refine Zad (.inl rfl) (ih bs[m] q1 q2 q3) ?_;refine ⟨λd2=>⟨rfl,fin _ d2 (by rw[e,Za3 d1 mO d2]) _⟩,λd2=>⟨_,I64.wrap (by unfold I64;omega),?_⟩⟩;exact xi _ _ _ ⟨m+1,[.old 0],⟨rfl,.inl rfl,.inr ⟨lk rfl,lk rfl,trivial⟩,rfl⟩,⟨by omega,ZaV d1 mO d2⟩,by omega⟩
  ·exact aj _ _ _ ⟨i+1,[],⟨rfl,.inl rfl,.inr ⟨lk rfl,trivial⟩,rfl⟩,⟨h1,next (by rw[e,Zbb (by omega) mO])⟩,by omega⟩
theorem ZgU (l:List Str) (hl:l.length<=9223372036854775807):CT Tryz.prog (gl L) 80 [.g (.sl 1 (l.map ZaT))] (Is (.pb (ZoF l))):=by
 have ll:(l.map ZaT).length=l.length:=by simp
 refine enter hT hF hM Tryz.func80 rfl 18 rfl (by kernel_rfl) [.tmp 2] rfl [.g (.sl 1 (l.map ZaT))] rfl _ ?_;refine ZaO (ι:=Nat) (λi=>[(7,.g (.int (i:Int)))]) (λ_=>[]) (λi=>i<=l.length/\∀j (hj:j < l.length),j < i->¬l[j]∈l.take j) (λi=>l.length - i)
  ⟨0,[],⟨rfl,.inl rfl,.inr ⟨lk rfl,trivial⟩,rfl⟩,Yat _,λj _ h=>absurd h (Ybn j)⟩ ?_
 intro Rd aj i ⟨hi,ha⟩;refine ⟨λh=>?_,λh=>⟨rfl,Zvw (λ⟨j,hj,hd⟩=>ha j hj (by omega) hd)⟩⟩;have h1:i < l.length:=by omega
 refine ⟨i,_,rfl,gm h1,i,rfl,by omega,?_⟩;have hc:=ZfV (L:=L) (l.take i) (by rw[Yam];omega) l[i];rw[YbH] at hc;refine Zad (.inl rfl) hc ?_;refine ⟨λh2=>⟨rfl,ZCC ⟨i,h1,h2⟩⟩,λh2=>⟨_,I64.wrap (by unfold I64;omega),?_⟩⟩;refine aj _ _ _ ⟨i+1,[],⟨rfl,.inl rfl,.inr ⟨lk rfl,trivial⟩,rfl⟩,⟨h1,λj hj cL=>?_⟩,by omega⟩;by_cases gE:j=i
 ·subst gE;exact h2
 ·exact ha j hj (by omega)
end ZN
namespace Barb
open Go Go.Dm Go.Eng
theorem ZgA {α:Type} (f:α->Str) {l:List α} {i:Nat} (h:i < l.length):((l.take i).map f).map ZaT++[[GV.str (f l[i])]]=((l.take (i+1)).map f).map ZaT:=by rw[ZaJ h,Yaf (f:=f),Yaf (f:=ZaT)];rfl
theorem Zr0 {α:Type} (f:α->Str) {l:List α} {i:Nat} (h:i < l.length) (pre:List Str):(pre++(l.take i).map f).map ZaT++[[GV.str (f l[i])]]=(pre++(l.take (i+1)).map f).map ZaT:=by rw[Yaf,Yax,ZgA f h,<- Yaf]
theorem Zgr {l:List Unit} {i:Nat} (h:i < l.length):Zar (l.take (i+1))=Zar (l.take i)+ZaC l[i]:=by unfold Zar;rw[ZaJ h,Yaf,YbE];simp
theorem Zie {u:Unit} (h:Zbm u=0):0<=ZaC u/\ZaC u<=38:=by obtain ⟨h1,h2,_,h4⟩:=ZfU h;have:=ZiP h4;unfold ZaC;omega
theorem Zno {l:List Unit} {i:Nat} (hi:i<=l.length) (h:∀j (hj:j < l.length),j < i->Zbm l[j]=0):0<=Zar (l.take i)/\Zar (l.take i)<=38*i:=by
 induction i with
 | zero=>simp[Zar]
 | succ i ih =>have h1:=ih (by omega) (λj hj cL=>h j hj (by omega));have h2:=Zie (h i (by omega) (by omega));rw[Zgr (by omega)];omega
end Barb
namespace ZN
open Go Go.Dm Go.Eng Barb
variable {L:Lv}
theorem ZsL (xs:List (List GV)) (hx:xs.length*16<=140737488351232):CT Tryz.prog (gl L) 108 [.g (.sl 1 xs)] (ZBw xs 9 1):=by refine enter hT hF hM Tryz.func108 rfl 8 rfl (by kernel_rfl) [.tmp 2] rfl [.g (.sl 1 xs)] rfl _ ?_;intro p hp;refine ⟨λh=>⟨rfl,Znf rfl (by rw[hp h];rfl)⟩,λh=>?_⟩;refine ⟨[],rfl,rfl,trivial,?_⟩;refine ⟨⟨by simp only[maxLen,List.length_nil];omega,by simp only[List.length_nil];omega⟩,?_⟩;exact ⟨rfl,ZtI (ys:=xs) rfl rfl rfl⟩
set_option maxHeartbeats 1000000 in
theorem ZlV (p:List Barb.Unit) (hp:∀v∈p,short v) (hpl:p.length<=9223372036854775807) (u:Barb.Unit) (hu:u.I) (hE:Zbm u=0):CT Tryz.prog (gl L) 81 [.g (.sl 4 (p.map Unit.g)),.agg u.d] (Is (.g (.int (ZgT p u)))):=by
 obtain ⟨ju,mw,pY,_⟩:=ZfU hE;have pE:=hu.short;obtain ⟨_,_,_,_,jb,_⟩:=hu;have lv:(u.vars.map ZaT).length=u.vars.length:=by simp
 have la:(u.arrays.map Arr.g).length=u.arrays.length:=by simp
 have lf:(u.funcs.map Fun.g).length=u.funcs.length:=by simp
 have e:ZgT p u=ZgT p u:=rfl
 conv at e=>rhs;unfold ZgT
 refine enter hT hF hM Tryz.func81 rfl 80 rfl (by kernel_rfl) [.tmp 4] rfl [.g (.sl 4 (p.map Unit.g)),.agg u.d] rfl _ ?_;refine ZCs (.inl rfl) (ZsL (u.vars.map ZaT) (by omega)) (λd' h' hq=>?_) (λd' hq=>by cases hq);injection hq with e1 e2;subst e1;subst e2;refine ZaO (ι:=Nat) (λi=>[(21,.g (.int (i:Int))),(5,.row 1),(3,.ptr 0 0)]) (λi=>[.blk u.d 37,.row ((u.vars++(u.arrays.take i).map Arr.name).map ZaT) 9 1]) (λi=>i<=u.arrays.length) (λi=>u.arrays.length - i)
  ⟨0,[.old 0,.old 1],⟨rfl,.inr ⟨⟨rfl,.inl rfl⟩,⟨by simp,rfl,rfl⟩,trivial⟩,.inr ⟨lk rfl,lk rfl,lk rfl,trivial⟩,rfl⟩,Yat _⟩ ?_
 intro Rd aj i hi;refine ⟨λb0=>?_,λb0=>?_⟩
 ·have b1:i < u.arrays.length:=by omega
  refine ⟨i,_,rfl,gm b1,[[.str u.arrays[i].name]],rfl,rfl,⟨rfl,trivial⟩,?_⟩;refine ⟨⟨by simp only[maxLen,List.length_cons,List.length_nil,Yaa,Yab,Yam];omega,by simp only[List.length_cons,List.length_nil,Yaa,Yab,Yam];omega⟩,?_⟩;refine ⟨_,I64.wrap (by unfold I64;omega),?_⟩;refine aj _ _ _ ⟨i+1,[.old 0,.old 4],⟨rfl,.inr ⟨⟨rfl,.inl rfl⟩,⟨?_,rfl,rfl⟩,trivial⟩,.inr ⟨lk rfl,lk rfl,lk rfl,trivial⟩,rfl⟩,b1,by omega⟩;exact Zr0 Arr.name b1 u.vars
 have l6:i=u.arrays.length:=by omega
 subst l6;rw[YaH];clear aj hi b0;refine ZaO (ι:=Nat × Nat) (λs=>[(34,.g (.int (s.1:Int))),(8,.row 2),(9,.g (.int (s.2:Int))),(5,.row 1),(3,.ptr 0 0)]) (λs=>[.blk u.d 37,.row ((u.vars++u.arrays.map Arr.name).map ZaT) 9 1,.row (((u.funcs.take s.1).map Fun.name).map ZaT) 9 1]) (λs=>s.1<=u.funcs.length/\s.2<=s.1) (λs=>u.funcs.length - s.1)
  ⟨(0,0),[.old 0,.old 1,.nil 9 1],⟨rfl,.inl rfl,.inr ⟨lk rfl,.inr rfl,lk rfl,lk rfl,lk rfl,trivial⟩,rfl⟩,Yat _,Yas _⟩ ?_
 rintro Rd aj ⟨i,c⟩ ⟨hi,hc⟩;dsimp only at hi hc;refine ⟨λb0=>?_,λb0=>?_⟩
 ·have b1:i < u.funcs.length:=by omega
  have aF:((u.funcs.take i).map Fun.name).map ZaT++[[GV.str u.funcs[i].name]]=((u.funcs.take (i+1)).map Fun.name).map ZaT:=ZgA Fun.name b1;cases hb:u.funcs[i].isOpen with
  | true =>refine ⟨i,_,rfl,(gm b1).trans (congrArg some (Fun.g_open hb)),[[.str u.funcs[i].name]],rfl,rfl,⟨rfl,trivial⟩,?_⟩;refine ⟨⟨by simp only[maxLen,List.length_cons,List.length_nil,Yaa,Yam];omega,by simp only[List.length_cons,List.length_nil,Yaa,Yam];omega⟩,?_⟩;refine ⟨_,I64.wrap (by unfold I64;omega),_,I64.wrap (by unfold I64;omega),?_⟩;exact aj _ _ _ ⟨(i+1,c+1),[.old 0,.old 1,.old 5],⟨rfl,.inr ⟨⟨rfl,.inl rfl⟩,⟨rfl,rfl,rfl⟩,⟨aF,rfl,rfl⟩,trivial⟩,.inr ⟨lk rfl,lk rfl,lk rfl,lk rfl,lk rfl,trivial⟩,rfl⟩,⟨b1,by dsimp only;omega⟩,by dsimp only;omega⟩
  | false =>refine ⟨i,_,rfl,(gm b1).trans (congrArg some (Fun.g_open hb)),[[.str u.funcs[i].name]],rfl,rfl,⟨rfl,trivial⟩,?_⟩;refine ⟨⟨by simp only[maxLen,List.length_cons,List.length_nil,Yaa,Yam];omega,by simp only[List.length_cons,List.length_nil,Yaa,Yam];omega⟩,?_⟩;refine ⟨_,I64.wrap (by unfold I64;omega),?_⟩;exact aj _ _ _ ⟨(i+1,c),[.old 0,.old 1,.old 5],⟨rfl,.inr ⟨⟨rfl,.inl rfl⟩,⟨rfl,rfl,rfl⟩,⟨aF,rfl,rfl⟩,trivial⟩,.inr ⟨lk rfl,lk rfl,lk rfl,lk rfl,lk rfl,trivial⟩,rfl⟩,⟨b1,by dsimp only;omega⟩,by dsimp only;omega⟩
 have l6:i=u.funcs.length:=by omega
 subst l6;rw[YaH];clear aj hi b0;refine Zad (.inl rfl) (ZgU (u.vars++u.arrays.map Arr.name) (by simp only[Yab,Yaa];omega)) ⟨λd1=>⟨rfl,Zb2 (by rw[e,if_pos (.inl d1)])⟩,λd1=>?_⟩;refine Zad (.inl rfl) (ZgU (u.funcs.map Fun.name) (by simp only[Yaa];omega)) ⟨λd2=>⟨rfl,Zb2 (by rw[e,if_pos (.inr d2)])⟩,λd2=>⟨λd3=>absurd d3 (by omega),λ_=>?_⟩⟩;rw[if_neg (λh=>h.elim d1 d2)] at e;refine ZaO (ι:=Nat) (λi=>[(61,.g (.int (i:Int))),(3,.ptr 0 0)]) (λ_=>[.blk u.d 37]) (λi=>i<=u.funcs.length/\∀j (hj:j < u.funcs.length),j < i->ZuG p u u.funcs[j]=0) (λi=>u.funcs.length - i)
  ⟨0,[.old 0],⟨rfl,.inl rfl,.inr ⟨lk rfl,lk rfl,trivial⟩,rfl⟩,Yat _,Zgk⟩ ?_
 intro Rd aj i ⟨hi,ha⟩;refine ⟨λb0=>?_,λb0=>⟨rfl,Zb2 (by rw[e,Zbb (by omega) ha])⟩⟩;have b1:i < u.funcs.length:=by omega
 have fin:∀v:Int,v≠0->ZuG p u u.funcs[i]=v->ZgT p u=v:=λv hv h=>by rw[e,Za3 b1 ha (by rw[h];exact hv),h]
 have next:ZuG p u u.funcs[i]=0->∀j (hj:j < u.funcs.length),j < i+1->ZuG p u u.funcs[j]=0:=λh0=>ZaV b1 ha h0
 obtain ⟨_,⟨_,xL⟩,sM,sN⟩:=jb _ (Yai b1);refine ⟨i,_,rfl,(gm b1).trans (congrArg some (Fun.g_eq _)),?_⟩;have ef:ZuG p u u.funcs[i]=if ZoF u.funcs[i].params then 6 else Zbt p u u.funcs[i] u.funcs[i].body:=rfl;generalize u.funcs[i]=f at *;refine Zad (.inl rfl) (ZgU f.params (by omega)) ⟨λd4=>⟨rfl,Zb2 (fin 6 (by decide) (by rw[ef,if_pos d4])).symm⟩,λd4=>?_⟩;rw[if_neg d4] at ef;refine Zad (.inl rfl) (ZoY p hp hpl u pE f (by omega) _ f.body (YbR _) sN sM) ?_;refine ⟨λd5=>⟨rfl,Zb2 (fin _ d5 ef).symm⟩,λd5=>⟨_,I64.wrap (by unfold I64;omega),?_⟩⟩;exact aj _ _ _ ⟨i+1,[.old 0],⟨rfl,.inl rfl,.inr ⟨lk rfl,lk rfl,trivial⟩,rfl⟩,⟨b1,next (by rw[ef,d5])⟩,by omega⟩
end ZN
namespace Barb
def Zpa (p:List Unit):Prop:=(∀u∈p,u.I)/\p.length<=9223372036854775807
end Barb
namespace ZN
open Go Go.Dm Go.Eng Barb
variable {L:Lv}
set_option maxHeartbeats 1000000 in
theorem Zet (p:List Barb.Unit) (hp:Zpa p):CT Tryz.prog (gl L) 49 [.g (.sl 4 (p.map Unit.g))] (Is (.g (.int (ZbC p)))):=by
 obtain ⟨hI,hpl⟩:=hp;have lp:(p.map Unit.g).length=p.length:=by simp
 have pE:∀v∈p,short v:=λv hv=>(hI v hv).short;have e:ZbC p=ZbC p:=rfl
 conv at e=>rhs;unfold ZbC
 refine enter hT hF hM Tryz.func49 rfl 52 rfl (by kernel_rfl) [.tmp 2] rfl [.g (.sl 4 (p.map Unit.g))] rfl _ ?_;refine ⟨λh=>⟨rfl,Zb2 (by rw[e,if_pos (by omega)])⟩,λh=>?_⟩;rw[if_neg (by omega)] at e;refine ZaO (ι:=Nat) (λi=>[(16,.g (.int (i:Int))),(3,.row 0),(4,.g (.int (Zar (p.take i))))]) (λi=>[.row (((p.take i).map Unit.name).map ZaT) 9 1]) (λi=>i<=p.length/\∀j (hj:j < p.length),j < i->Zbm p[j]=0) (λi=>p.length - i)
  ⟨0,[.nil 9 1],⟨rfl,.inl rfl,.inr ⟨lk rfl,.inr rfl,lk rfl,trivial⟩,rfl⟩,Yat _,Zgk⟩ ?_
 intro Rd aj i ⟨hi,ha⟩;have hw:=Zno hi ha;refine ⟨λb0=>?_,λb0=>?_⟩
 ·have b1:i < p.length:=by omega
  refine ⟨i,_,rfl,gm b1,?_⟩;refine Zad (.inl rfl) (Zfb p[i] (hI _ (Yai _))) ⟨λb2=>⟨rfl,Zb2 ?_⟩,λb2=>?_⟩
  ·rw[e,Za3 b1 ha b2,if_pos b2]
  refine ⟨[[.str p[i].name]],rfl,rfl,⟨rfl,trivial⟩,?_⟩;refine ⟨⟨by simp only[maxLen,List.length_cons,List.length_nil,Yaa,Yam];omega,by simp only[List.length_cons,List.length_nil,Yaa,Yam];omega⟩,?_⟩;obtain ⟨w1,w2,_,w4⟩:=ZfU b2;have w5:=Zie b2;refine Zad (.inl rfl) (Zkr p[i] w1 w4 w2) ⟨_,I64.wrap (by unfold I64;omega),_,I64.wrap (by unfold I64;omega),?_⟩;exact aj _ _ _ ⟨i+1,[.old 3],⟨rfl,.inr ⟨⟨ZgA Unit.name b1,rfl,rfl⟩,trivial⟩,.inr ⟨lk rfl,lk rfl,lkI (Zgr b1).symm,trivial⟩,rfl⟩,⟨b1,ZaV b1 ha b2⟩,by omega⟩
 have l6:i=p.length:=by omega
 have hz:Zal Zbm p=0:=Zbb (by omega) ha;rw[if_neg (λh=>h hz)] at e;subst l6;rw[YaH] at *;clear aj;refine Zad (.inl rfl) (ZgU (p.map Unit.name) (by simp only[Yaa];omega)) ⟨λd1=>⟨rfl,Zb2 (by rw[e,if_pos d1])⟩,λd1=>?_⟩;rw[if_neg d1] at e;refine ⟨λd2=>⟨rfl,Zb2 (by rw[e,if_pos d2])⟩,λd2=>?_⟩;rw[if_neg d2] at e;refine ZaO (ι:=Nat) (λi=>[(41,.g (.int (i:Int)))]) (λ_=>[]) (λi=>i<=p.length/\∀j (hj:j < p.length),j < i->ZgT p p[j]=0) (λi=>p.length - i)
  ⟨0,[],⟨rfl,.inl rfl,.inr ⟨lk rfl,trivial⟩,rfl⟩,Yat _,Zgk⟩ ?_
 intro Rd aj i ⟨hi,hs⟩;refine ⟨λc0=>?_,λc0=>⟨rfl,Zb2 (by rw[e,Zbb (by omega) hs])⟩⟩;have c1:i < p.length:=by omega
 refine ⟨i,_,rfl,gm c1,?_⟩;refine Zad (.inl rfl) (ZlV p pE hpl p[i] (hI _ (Yai _)) (ha i c1 (by omega))) ?_;refine ⟨λc2=>⟨rfl,Zb2 (by rw[e,Za3 c1 hs c2])⟩,λc2=>⟨_,I64.wrap (by unfold I64;omega),?_⟩⟩;exact aj _ _ _ ⟨i+1,[],⟨rfl,.inl rfl,.inr ⟨lk rfl,trivial⟩,rfl⟩,⟨c1,ZaV c1 hs c2⟩,by omega⟩
variable {L:Lv}
variable {L:Lv}
variable {L:Lv}
variable {L:Lv}
end ZN
namespace Barb
open Go Go.Dm Go.Eng ZN
theorem Zbx:∀(n:Nat) (l:List Stmt),0<=Zah n l
 | 0,_=>YbC _
 | n+1,l=>by
  have h:∀l:List Stmt,0<=(l.map (Zfd (Zah n))).sum:=λl=>by
   induction l with
   | nil=>simp
   | cons x l ih =>obtain ⟨k,s,xs,b,e⟩:=x;have h1:=Zbx n b;have h2:=Zbx n e;simp only[Yan,List.sum_cons,Zfd];omega
  have:=h l;simp only[Zah];omega
def noX:Expr:=.mk 0 0 [] [] []
theorem Zdo {n:Nat} {x:Expr} (h:Zaw (n+1) x=0):(1<=x.k/\x.k<=5)/\x.args.length<=4/\ZbJ x.k x.n x.of x.s x.args.length/\¬Za0 x.k x.n/\∀y∈x.args,Zaw n y=0:=by
 rw[Zga] at h;by_cases h1:¬(1<=x.k/\x.k<=5)
 ·rw[if_pos h1] at h;omega
 rw[if_neg h1] at h;by_cases h2:4 < x.args.length
 ·rw[if_pos h2] at h;omega
 rw[if_neg h2] at h;by_cases h3:¬ZbJ x.k x.n x.of x.s x.args.length
 ·rw[if_pos h3] at h;omega
 rw[if_neg h3] at h;by_cases h4:Za0 x.k x.n
 ·rw[if_pos h4] at h;omega
 rw[if_neg h4] at h;exact ⟨Yah.1 h1,by omega,Yah.1 h3,h4,Zaf h⟩
theorem Zho {p:List Unit} {u:Unit} {f:Fun} {x:Expr} (h:ZbR p u f x=0):Zbp p u f x.k x.of x.s x.args.length=0/\∀y∈x.args,ZbR p u f y=0:=by
 obtain ⟨k,n,of,s,args⟩:=x;rw[ZbR] at h;by_cases h1:Zbp p u f k of s args.length≠0
 ·rw[if_pos h1] at h;exact absurd h h1
 rw[if_neg h1,ZbV] at h;exact ⟨Yah.1 h1,Zaf h⟩
theorem Zn0 {α:Type} {q:α->Prop} [DecidablePred q] {l:List α} {x:α} (h:l.find? (λy=>decide (q y))=some x):∃(i:Nat) (hi:i < l.length),idx q l=(i:Int)/\l[i]=x:=by
 rcases Zb0 q l with ⟨_,h2⟩ | ⟨i,hi,h1,h2,h3⟩
 ·have:=YbV h;have hq:=List.find?_some h;exact absurd (of_decide_eq_true hq) (h2 x this)
 ·refine ⟨i,hi,h1,?_⟩;have h4:l.find? (λy=>decide (q y))=some l[i]:=by rw[Yb6];exact ⟨decide_eq_true h2,i,hi,rfl,λj hj=>by simp;exact h3 j (by omega) hj⟩
  rw[h4] at h;exact Ya2 h
theorem Ze8 {to:Unit} {of s:Str} {m:Nat} (h:calledIn to of s m=0):∃(i:Nat) (hi:i < to.funcs.length),Zfh to s=(i:Int)/\to.funcs[i].params.length=m/\(of≠[]->to.funcs[i].isOpen=true)/\to.funcs[i].name=s:=by
 unfold calledIn at h;split at h
 ·exact absurd h (by decide)
 ·rename_i g hg;obtain ⟨i,hi,h1,h2⟩:=Zn0 (q:=λf:Fun=>f.name=s) hg;have hn:g.name=s:=by have:=List.find?_some hg;simpa using this
  subst h2;by_cases h3:of≠[]/\to.funcs[i].isOpen=false
  ·rw[if_pos h3] at h;exact absurd h (by decide)
  rw[if_neg h3] at h;by_cases h4:to.funcs[i].params.length≠m
  ·rw[if_pos h4] at h;exact absurd h (by decide)
  refine ⟨i,hi,h1,Yah.1 h4,λho=>?_,hn⟩;cases hb:to.funcs[i].isOpen with
  | true=>rfl
  | false=>exact absurd ⟨ho,hb⟩ h3
theorem Zkf {p:List Unit} {u:Unit} {of s:Str} {m:Nat} (h:Zbf p u of s m=0) (ho:of≠[]):∃(i:Nat) (hi:i < p.length),Zc6 p of=(i:Int)/\calledIn p[i] of s m=0:=by
 unfold Zbf at h;rw[if_neg ho] at h;split at h
 ·exact absurd h (by decide)
 ·rename_i v hv;obtain ⟨i,hi,h1,h2⟩:=Zn0 (q:=λu:Unit=>u.name=of) hv;subst h2;exact ⟨i,hi,h1,h⟩
theorem Zct {f:List Stmt->Int} {x:Stmt} (h:ZbI f x=0):(1<=x.k/\x.k<=6)/\ZdN x.k x.s x.xs.length x.b.length x.e.length/\(∀y∈x.xs,Zaw 12 y=0)/\f x.b=0/\f x.e=0:=by
 rw[Zjq] at h;by_cases h1:¬(1<=x.k/\x.k<=6)
 ·rw[if_pos h1] at h;omega
 rw[if_neg h1] at h;by_cases h2:¬ZdN x.k x.s x.xs.length x.b.length x.e.length
 ·rw[if_pos h2] at h;omega
 rw[if_neg h2] at h;by_cases h3:Zal (Zaw 12) x.xs≠0
 ·rw[if_pos h3] at h;exact absurd h h3
 rw[if_neg h3] at h;by_cases h4:f x.b≠0
 ·rw[if_pos h4] at h;exact absurd h h4
 rw[if_neg h4] at h;exact ⟨Yah.1 h1,Yah.1 h2,Zaf (Yah.1 h3),Yah.1 h4,h⟩
theorem ZgZ {p:List Unit} {u:Unit} {f:Fun} {x:Stmt} (h:Zd1 p u f x=0):¬((x.k=1/\¬ZkM u f x.s)\/(x.k=2/\¬Zlk u x.s))/\(∀y∈x.xs,ZbR p u f y=0)/\Zbt p u f x.b=0/\Zbt p u f x.e=0:=by
 obtain ⟨k,s,xs,b,e⟩:=x;rw[Zd1] at h;by_cases h1:(k=1/\¬ZkM u f s)\/(k=2/\¬Zlk u s)
 ·rw[if_pos h1] at h;omega
 rw[if_neg h1] at h;by_cases h3:Zeb p u f xs≠0
 ·rw[if_pos h3] at h;exact absurd h h3
 rw[if_neg h3] at h;by_cases h4:Zbt p u f b≠0
 ·rw[if_pos h4] at h;exact absurd h h4
 rw[if_neg h4] at h;exact ⟨h1,Zaf (by rw[<- ZbV];exact Yah.1 h3),Yah.1 h4,h⟩
theorem Zcf (n:Nat):Zah n []=0:=by cases n<;>simp[Zah]
theorem ZbG (n:Nat) (x:Stmt) (l:List Stmt):Zah (n+1) (x :: l)=1+(Zah n x.b+Zah n x.e)+Zah (n+1) l:=by obtain ⟨k,s,xs,b,e⟩:=x;simp only[Zah,Yan,List.sum_cons,List.length_cons,Zfd,Stmt.b,Stmt.e];omega
theorem Zbk {p:List Unit} (h:ZbC p=0):p.length<=5/\(∀u∈p,Zbm u=0)/\Zar p<=250/\∀u∈p,ZgT p u=0:=by
 unfold ZbC at h;by_cases h1:5 < p.length
 ·rw[if_pos h1] at h;omega
 rw[if_neg h1] at h;by_cases h2:Zal Zbm p≠0
 ·rw[if_pos h2] at h;exact absurd h h2
 rw[if_neg h2] at h;by_cases h3:ZoF (p.map Unit.name)
 ·rw[if_pos h3] at h;omega
 rw[if_neg h3] at h;by_cases h4:250 < Zar p
 ·rw[if_pos h4] at h;omega
 rw[if_neg h4] at h;exact ⟨by omega,Zaf (Yah.1 h2),by omega,Zaf h⟩
theorem Zfy {s:Str} (h:ZdF s=0):Zan s:=by
 unfold ZdF at h;by_cases h1:Zan s
 ·exact h1
 ·rw[if_neg h1] at h;omega
theorem ZcC {a:Arr} (h:Zkm a=0):Zan a.name/\1<=a.size/\a.size<=10:=by
 unfold Zkm at h;by_cases h1:¬Zan a.name
 ·rw[if_pos h1] at h;omega
 rw[if_neg h1] at h;by_cases h2:¬(1<=a.size/\a.size<=10)
 ·rw[if_pos h2] at h;omega
 exact ⟨Yah.1 h1,by omega,by omega⟩
theorem Zb7 {f:Fun} (h:Zhi f=0):Zan f.name/\f.params.length<=4/\(∀s∈f.params,Zan s)/\Zai 12 f.body=0:=by
 unfold Zhi at h;by_cases h1:¬Zan f.name
 ·rw[if_pos h1] at h;omega
 rw[if_neg h1] at h;by_cases h2:4 < f.params.length
 ·rw[if_pos h2] at h;omega
 rw[if_neg h2] at h;by_cases h3:Zal ZdF f.params≠0
 ·rw[if_pos h3] at h;exact absurd h h3
 rw[if_neg h3] at h;exact ⟨Yah.1 h1,by omega,λs hs=>Zfy (Zaf (Yah.1 h3) s hs),h⟩
theorem ZaQ {u:Unit} (h:Zbm u=0):Zan u.name/\u.vars.length<=8/\u.arrays.length<=3/\u.funcs.length<=8/\(∀s∈u.vars,Zan s)/\(∀a∈u.arrays,Zkm a=0)/\∀f∈u.funcs,Zhi f=0:=by
 unfold Zbm at h;by_cases h1:¬Zan u.name
 ·rw[if_pos h1] at h;omega
 rw[if_neg h1] at h;by_cases h2:8 < u.vars.length\/3 < u.arrays.length\/8 < u.funcs.length
 ·rw[if_pos h2] at h;omega
 rw[if_neg h2] at h;by_cases h3:Zal ZdF u.vars≠0
 ·rw[if_pos h3] at h;exact absurd h h3
 rw[if_neg h3] at h;by_cases h4:Zal Zkm u.arrays≠0
 ·rw[if_pos h4] at h;exact absurd h h4
 rw[if_neg h4] at h;by_cases h5:Zal Zhi u.funcs≠0
 ·rw[if_pos h5] at h;exact absurd h h5
 exact ⟨Yah.1 h1,by omega,by omega,by omega,λs hs=>Zfy (Zaf (Yah.1 h3) s hs),Zaf (Yah.1 h4),Zaf (Yah.1 h5)⟩
theorem Zjj {p:List Unit} {u:Unit} (h:ZgT p u=0):∀f∈u.funcs,Zbt p u f f.body=0:=by
 unfold ZgT at h;by_cases h1:ZoF (u.vars++u.arrays.map Arr.name)\/ZoF (u.funcs.map Fun.name)
 ·rw[if_pos h1] at h;omega
 rw[if_neg h1] at h;intro f hf;have h2:=Zaf h f hf;unfold ZuG at h2;by_cases h3:ZoF f.params
 ·rw[if_pos h3] at h2;omega
 rw[if_neg h3] at h2;exact h2
theorem ZdJ {s:Str} (h:Zan s):s.length<=8:=h.1.1.2
theorem ZuU:∀(n:Nat) (x:Expr),Zaw n x=0->x.I
 | 0,.mk _ _ _ _ _,h=>by rw[Zaw] at h;exact absurd h (by decide)
 | n+1,.mk k v of s args,h=>by
  obtain ⟨hk,h4,aR,c8,hx⟩:=Zdo h;dsimp only[Expr.k,Expr.n,Expr.of,Expr.s,Expr.args] at hk h4 aR c8 hx;unfold ZbJ at aR;unfold Za0 at c8;have hv:I64 v:=by unfold I64;omega
  have ho:of.length<=maxLen:=by
   unfold maxLen;rcases aR with ⟨_,e,_⟩ | ⟨_,e,_⟩ | ⟨_,e,_⟩ | ⟨_,e,_⟩ | ⟨_,e,_⟩
   ·subst e;simp
   ·subst e;simp
   ·subst e;simp
   ·rcases e with e | e
    ·subst e;simp
    ·have:=ZdJ e;omega
   ·subst e;simp
  have hs:s.length<=maxLen:=by
   unfold maxLen;rcases aR with ⟨_,_,e,_⟩ | ⟨_,_,e,_⟩ | ⟨_,_,e,_⟩ | ⟨_,_,e,_⟩ | ⟨_,_,e,_⟩
   ·subst e;simp
   ·have:=ZdJ e;omega
   ·have:=ZdJ e;omega
   ·have:=ZdJ e;omega
   ·subst e;simp
  exact .mk (by unfold I64;omega) hv ho hs (by omega) (λy hy=>ZuU n y (hx y hy))
theorem ZiO:∀(n:Nat) (l:List Stmt),Zai n l=0->Zah n l<=300->(l.length<=300/\∀x∈l,x.I)
 | 0,_,h,_=>by rw[Zai] at h;exact absurd h (by decide)
 | n+1,l,h,hN=>by
  rw[Zai] at h;have e:=Zaf h;clear h;have key:∀l:List Stmt,(∀x∈l,ZbI (Zai n) x=0)->Zah (n+1) l<=300->((l.length:Int)<=Zah (n+1) l)/\∀x∈l,x.I:=by
   intro l
   induction l with
   | nil=>intro _ _;exact ⟨by rw[Zcf];simp,λx hx=>by simp at hx⟩
   | cons x l il =>
    intro e hN;rw[ZbG] at hN ⊢;have p1:=Zbx n x.b;have p2:=Zbx n x.e;have p3:=Zbx (n+1) l;obtain ⟨i1,i2⟩:=il (λy hy=>e y (Yad _ hy)) (by omega);refine ⟨by rw[List.length_cons];omega,λy hy=>?_⟩;rcases Yav.1 hy with rfl | hy
    ·obtain ⟨hk,aR,dX,dV,eQ⟩:=Zct (e y Yae);obtain ⟨c1,c2⟩:=ZiO n y.b dV (by omega);obtain ⟨d1,d2⟩:=ZiO n y.e eQ (by omega);unfold ZdN at aR;have hs:y.s.length<=maxLen:=by
      unfold maxLen;by_cases k2:y.k<=2
      ·have:=ZdJ (aR.1.1 k2);omega
      ·rw[aR.1.2.1 (by omega)];simp
     obtain ⟨k,s,xs,b,ee⟩:=y;exact .mk (by dsimp only[Stmt.k] at hk;unfold I64;omega) hs (by dsimp only[Stmt.k,Stmt.xs] at aR;omega) (by dsimp only[Stmt.b] at c1;omega) (by dsimp only[Stmt.e] at d1;omega) (λx hx=>ZuU 12 x (dX x hx)) c2 d2
    ·exact i2 y hy
  obtain ⟨k1,k2⟩:=key l e hN;exact ⟨by omega,k2⟩
theorem Zhd:∀(l:List Fun),(∀f∈l,Zah 12 f.body<=Zb9 l)/\0<=Zb9 l
 | []=>⟨λf hf=>by simp at hf,by simp[Zb9]⟩
 | f :: l=>by
  obtain ⟨h1,h2⟩:=Zhd l;have h3:=Zbx 12 f.body;have e:Zb9 (f :: l)=Zah 12 f.body+Zb9 l:=by simp[Zb9]
  rw[e];refine ⟨λg hg=>?_,by omega⟩;rcases Yav.1 hg with rfl | hg
  ·omega
  ·have:=h1 g hg;omega
def ZuS (p:List Unit):Prop:=∀u∈p,Zb9 u.funcs<=300
theorem Zpb {p:List Unit} (h:ZbC p=0) (hN:ZuS p):Zpa p:=by
 obtain ⟨h1,h2,_,_⟩:=Zbk h;refine ⟨λu hu=>?_,by omega⟩;obtain ⟨a0,a1,a2,a3,a6,a4,a5⟩:=ZaQ (h2 u hu);have m8:∀{s:Str},Zan s->s.length<=maxLen:=λhs=>by have:=ZdJ hs;unfold maxLen;omega
 refine ⟨m8 a0,⟨λs hs=>m8 (a6 s hs),by omega⟩,λa ha=>?_,by omega,λf hf=>?_,by omega⟩
 ·obtain ⟨b1,b2⟩:=ZcC (a4 a ha);exact ⟨m8 b1,by unfold I64;omega⟩
 ·obtain ⟨b0,b1,b2,b3⟩:=Zb7 (a5 f hf);have h3:=(Zhd u.funcs).1 f hf;have h4:=hN u hu;obtain ⟨c1,c2⟩:=ZiO 12 f.body b3 (by omega);exact ⟨m8 b0,⟨λs hs=>m8 (b2 s hs),by omega⟩,by omega,c2⟩
abbrev noU:Unit:=⟨[],[],[],[]⟩
theorem Zi3 {f:Fun} (h1:Zan f.name) (h2:f.params.length<=4) (h3:∀s∈f.params,Zan s) (h4:Zai 12 f.body=0):Zhi f=0:=by unfold Zhi;have h5:Zal ZdF f.params=0:=Zap (λs hs=>by unfold ZdF;rw[if_pos (h3 s hs)]);rw[if_neg (λh=>h h1),if_neg (by omega),if_neg (λh=>h h5)];exact h4
end Barb
namespace Barb
open Go Go.Dm Go.Eng
def ZdL (l:List Int) (n:Int):Prop:=(l.length:Int)=n/\∀x∈l,0<=x/\x<=65535
def ZcM (u:Unit) (c:Cells):Prop:=(ZdL c.vars u.vars.length/\c.arrays.length=u.arrays.length)/\∀k (h:k < c.arrays.length) (h':k < u.arrays.length),ZdL c.arrays[k] u.arrays[k].size
def ZgL (p:List Unit) (cs:List Cells):Prop:=∀i (h:i < cs.length) (h':i < p.length),ZcM p[i] cs[i]
noncomputable def ZdZ (p:List Unit) (cs:List Cells):Int:=if ZbC p≠0 then ZbC p else if ¬(cs.length=p.length) then 8 else @ite _ (ZgL p cs) (Classical.propDecidable _) 0 8
theorem ZrS {p:List Unit} (h:ZbC p=0):p.length<=5/\∀u∈p,Zbm u=0:=by
 unfold ZbC at h;by_cases h5:5 < p.length
 ·rw[if_pos h5] at h;omega
 ·rw[if_neg h5] at h;by_cases h1:Zal Zbm p≠0
  ·rw[if_pos h1] at h;exact absurd h h1
  ·exact ⟨by omega,Zaf (Yah.1 h1)⟩
theorem Zu7 {p:List Unit} {cs:List Cells} {i:Nat} (hp:ZbC p=0) (hl:cs.length=p.length) (h:i < cs.length) (h':i < p.length) (hb:¬ZcM p[i] cs[i]):ZdZ p cs=8:=by unfold ZdZ;rw[if_neg (λh=>h hp),if_neg (λh=>h hl),if_neg (λhc=>hb (hc i h h'))]
theorem Zlf {p:List Unit} {cs:List Cells} (hp:ZbC p=0) (hl:cs.length=p.length) (hc:ZgL p cs):ZdZ p cs=0:=by unfold ZdZ;rw[if_neg (λh=>h hp),if_neg (λh=>h hl),if_pos hc]
theorem Zkd {p:List Unit} {cs:List Cells} (h:ZdZ p cs=0):ZbC p=0/\cs.length=p.length/\ZgL p cs:=by
 unfold ZdZ at h;by_cases hp:ZbC p≠0
 ·rw[if_pos hp] at h;exact absurd h hp
 ·rw[if_neg hp] at h;by_cases hl:¬(cs.length=p.length)
  ·rw[if_pos hl] at h;omega
  ·rw[if_neg hl] at h;refine ⟨Yah.1 hp,Yah.1 hl,YaN λhc=>?_⟩;rw[if_neg hc] at h;omega
end Barb
namespace ZN
open Go Go.Dm Go.Eng Barb
variable {L:Lv}
theorem Zws (n:Int):CT Tryz.prog (gl L) 94 [.g (.int n)] (Is (.pb (¬(0<=n/\n<=65535)))):=by refine enter hT hF hM Tryz.func94 rfl 6 rfl (by kernel_rfl) [.tmp 2] rfl [.g (.int n)] rfl _ ?_;exact Zad (.inl rfl) (Zln n) ⟨rfl,Zy0 Ya3⟩
theorem ZwI (l:List Int) (hl:l.length<=9223372036854775807):CT Tryz.prog (gl L) 56 [.g (.sl 1 (l.map ZaU)),.fn 94 [] []] (Is (.g (.int (idx (λn:Int=>¬(0<=n/\n<=65535)) l)))):=by
 have ll:(l.map ZaU).length=l.length:=by simp
 refine enter hT hF hM Tryz.func56 rfl 19 rfl (by kernel_rfl) [.tmp 4] rfl [.g (.sl 1 (l.map ZaU)),.fn 94 [] []] rfl _ ?_;refine ZaO (ι:=Nat) (λi=>[(8,.g (.int (i:Int)))]) (λ_=>[]) (λi=>i<=l.length/\∀j (hj:j < l.length),j < i->¬(λn:Int=>¬(0<=n/\n<=65535)) l[j]) (λi=>l.length - i)
  ⟨0,[],⟨rfl,.inl rfl,.inr ⟨lk rfl,trivial⟩,rfl⟩,Yat _,Zir (q:=λn:Int=>¬(0<=n/\n<=65535))⟩ ?_
 intro Rd aj i ⟨hi,ha⟩;refine ⟨λh=>?_,λh=>?_⟩
 ·have h1:i < l.length:=by omega
  refine ⟨i,_,rfl,gm h1,?_⟩;refine Zad (.inl rfl) (Zws l[i]) ?_;refine ⟨λh2=>⟨rfl,Zb2 (Zin (q:=λn:Int=>¬(0<=n/\n<=65535)) h1 ha h2).symm⟩,λh2=>⟨_,I64.wrap (by unfold I64;omega),?_⟩⟩;exact aj _ _ _ ⟨i+1,[],⟨rfl,.inl rfl,.inr ⟨lk rfl,trivial⟩,rfl⟩,⟨h1,Zdq (q:=λn:Int=>¬(0<=n/\n<=65535)) h1 ha h2⟩,by omega⟩
 ·exact ⟨rfl,Zb2 (Zim (Zed (q:=λn:Int=>¬(0<=n/\n<=65535)) (by omega) ha)).symm⟩
theorem ZwP (l:List Int) (hl:l.length<=9223372036854775807):CT Tryz.prog (gl L) 27 [.g (.sl 1 (l.map ZaU)),.fn 94 [] []] (Is (.pb (∃n∈l,¬(0<=n/\n<=65535)))):=by
 refine enter hT hF hM Tryz.func27 rfl 9 rfl (by kernel_rfl) [.tmp 4] rfl [.g (.sl 1 (l.map ZaU)),.fn 94 [] []] rfl _ ?_;refine Zad (.inl rfl) (ZwI l hl) ⟨rfl,Zp6 ?_⟩;rcases Zb0 (λn:Int=>¬(0<=n/\n<=65535)) l with ⟨h1,h2⟩ | ⟨i,hi,h1,h2,h3⟩
 ·rw[h1];exact ⟨λh=>absurd h (by decide),λ⟨c,hc,ho⟩=>absurd ho (h2 c hc)⟩
 ·rw[h1];exact ⟨λ_=>⟨l[i],Yai _,h2⟩,λ_=>by omega⟩
theorem ZmO (l:List Int) (hl:l.length<=9223372036854775807) (n:Int):CT Tryz.prog (gl L) 63 [.g (.sl 1 (l.map ZaU)),.g (.int n)] (Is (.pb (ZdL l n))):=by
 have ll:(l.map ZaU).length=l.length:=by simp
 refine enter hT hF hM Tryz.func63 rfl 14 rfl (by kernel_rfl) [.tmp 4] rfl [.g (.sl 1 (l.map ZaU)),.g (.int n)] rfl _ ?_;refine ⟨λh=>Zad (.inl rfl) (ZwP l hl) ⟨rfl,Zy0 ⟨λh1=>⟨by rw[<- ll];exact h,λx hx=>YaN λh2=>h1 ⟨x,hx,h2⟩⟩,λh1 ⟨x,hx,h2⟩=>h2 (h1.2 x hx)⟩⟩,λh=>⟨rfl,Zvw (λh1=>h (by rw[ll];exact h1.1))⟩⟩
set_option maxRecDepth 20000 in
set_option maxHeartbeats 1000000 in
theorem Zks (p:List Barb.Unit) (hp:Zpa p) (cs:List Cells) (hI:∀c∈cs,Cells.I c) (hl:cs.length*48<=140737488351232):CT Tryz.prog (gl L) 34 [.g (.sl 4 (p.map Unit.g)),.g (.sl 2 (cs.map Cells.g))] (Is (.g (.int (ZdZ p cs)))):=by
 have lp:(p.map Unit.g).length=p.length:=by simp
 have lc:(cs.map Cells.g).length=cs.length:=by simp
 refine enter hT hF hM Tryz.func34 rfl 71 rfl (by kernel_rfl) [.tmp 4] rfl [.g (.sl 4 (p.map Unit.g)),.g (.sl 2 (cs.map Cells.g))] rfl _ ?_;refine Zad (.inl rfl) (Zet p hp) ⟨λh=>⟨rfl,Zb2 (by unfold ZdZ;rw[if_pos h])⟩,λhE=>?_⟩;refine ⟨λh=>⟨rfl,Zb2 (by unfold ZdZ;rw[if_neg (λh'=>h' hE),if_pos (by omega)])⟩,λh=>?_⟩;have hlen:cs.length=p.length:=by omega
 refine ZaO (ι:=Nat) (λi=>[(22,.g (.int (i:Int)))]) (λ_=>[]) (λi=>i<=cs.length/\∀j (hj:j < cs.length) (cn:j < p.length),j < i->ZcM p[j] cs[j]) (λi=>cs.length - i)
  ⟨0,[],⟨rfl,.inl rfl,.inr ⟨lk rfl,trivial⟩,rfl⟩,Yat _,λj _ _ h=>absurd h (Ybn j)⟩ ?_
 intro Rd aj i ⟨hi,ha⟩;refine ⟨λb0=>?_,λb0=>⟨rfl,Zb2 (Zlf hE hlen (λj hj cn=>ha j hj cn (by omega))).symm⟩⟩;have b1:i < cs.length:=by omega
 have uy:i < p.length:=by omega
 obtain ⟨⟨_,hv⟩,jE,bn⟩:=hI _ (Yai b1);have bad:¬ZcM p[i] cs[i]->ZdZ p cs=8:=Zu7 hE hlen b1 uy;have next:ZcM p[i] cs[i]->∀j (hj:j < cs.length) (cn:j < p.length),j < i+1->ZcM p[j] cs[j]:=λh0 j hj cn cL=>by
  by_cases e:j=i
  ·subst e;exact h0
  ·exact ha j hj cn (by omega)
 refine ⟨i,_,rfl,gm b1,?_⟩;have gp:=gm (f:=Unit.g) uy;generalize cs[i]=c at *;generalize p[i]=u at *;have lv:(u.vars.map ZaT).length=u.vars.length:=by simp
 have la:(u.arrays.map Arr.g).length=u.arrays.length:=by simp
 have uX:(c.arrays.map Zmf).length=c.arrays.length:=by simp
 refine ⟨none,rfl,i,_,rfl,gp,?_⟩;refine ⟨_,_,.inl rfl,ZmO c.vars (by omega) _,rfl,?_⟩;refine ⟨λh1=>⟨rfl,Zb2 (bad (λh2=>h1 (by rw[lv];exact h2.1.1))).symm⟩,λh1=>?_⟩;refine ⟨i,_,rfl,gp,?_⟩;refine ⟨λh2=>⟨rfl,Zb2 (bad (λh3=>h2 (by rw[la,uX];exact congrArg _ h3.1.2))).symm⟩,λh2=>?_⟩;have p5:c.arrays.length=u.arrays.length:=by omega
 refine ZaO (ι:=Nat) (λk=>[(52,.g (.int (k:Int)))]) (λ_=>[]) (λk=>k<=c.arrays.length/\∀j (hj:j < c.arrays.length) (cn:j < u.arrays.length),j < k->ZdL c.arrays[j] u.arrays[j].size) (λk=>c.arrays.length - k)
  ⟨0,[],⟨rfl,.inl rfl,.inr ⟨lk rfl,trivial⟩,rfl⟩,Yat _,λj _ _ h=>absurd h (Ybn j)⟩ ?_
 intro Rk jG k ⟨hk,hb⟩;refine ⟨λc0=>?_,λc0=>⟨_,I64.wrap (by unfold I64;omega),?_⟩⟩
 ·have c1:k < c.arrays.length:=by omega
  have qh:k < u.arrays.length:=by omega
  obtain ⟨_,aB⟩:=jE _ (Yai c1);refine ⟨k,_,rfl,gm c1,?_⟩;refine ⟨i,_,rfl,gp,k,_,rfl,gm qh,?_⟩;refine Zad (.inl rfl) (ZmO c.arrays[k] (by omega) u.arrays[k].size) ?_;refine ⟨λh3=>⟨rfl,Zb2 (bad (λh4=>h3 (h4.2 k c1 qh))).symm⟩,λh3=>⟨_,I64.wrap (by unfold I64;omega),?_⟩⟩;refine jG _ _ _ ⟨k+1,[],⟨rfl,.inl rfl,.inr ⟨lk rfl,trivial⟩,rfl⟩,⟨c1,λj hj cn l0=>?_⟩,by omega⟩;by_cases e:j=k
  ·subst e;exact h3
  ·exact hb j hj cn (by omega)
 ·refine aj _ _ _ ⟨i+1,[],⟨rfl,.inl rfl,.inr ⟨lk rfl,trivial⟩,rfl⟩,⟨b1,next ⟨⟨by rw[<- lv];exact h1,p5⟩,λj hj cn=>hb j hj cn (by omega)⟩⟩,by omega⟩
end ZN
namespace Barb
open Go Go.Dm Go.Eng
def ZnX (c:Cells):List Int:=c.vars++c.arrays.flatten
def ZeL (cs:List Cells):List Int:=cs.flatMap ZnX
noncomputable def ZgI (p:List Unit) (cs:List Cells):List Int:=if ZdZ p cs=0 then ZeL cs else []
theorem Zmo:∀(l:List (List Int)),(∀a∈l,a.length<=10)->l.flatten.length<=10*l.length
 | [],_=>by simp
 | a :: l,h=>by have h1:=Zmo l (λb hb=>h b (Yad _ hb));have h2:=h a Yae;simp only[List.flatten_cons,Yab,List.length_cons];omega
theorem Zsn {cs:List Cells} {i:Nat} (h:i < cs.length):ZeL (cs.take (i+1))=ZeL (cs.take i)++cs[i].vars++cs[i].arrays.flatten:=by unfold ZeL;rw[ZaJ h,List.flatMap_append];simp only[Ybb,List.flatMap_nil,YaF,ZnX,Yax]
theorem ZnU {l:List (List Int)} {j:Nat} (h:j < l.length):(l.take (j+1)).flatten=(l.take j).flatten++l[j]:=by rw[ZaJ h,YbS];simp only[List.flatten_cons,List.flatten_nil,YaF]
theorem ZjW:∀(l:List Cells),(∀c∈l,(ZnX c).length<=38)->(ZeL l).length<=38*l.length
 | [],_=>by simp[ZeL]
 | a :: l,h=>by have h1:=ZjW l (λb hb=>h b (Yad _ hb));have h2:=h a Yae;unfold ZeL at h1 ⊢;simp only[Ybb,Yab,List.length_cons];omega
theorem Zlg {u:Unit} {c:Cells} (hu:Zbm u=0) (hc:ZcM u c):c.vars.length<=8/\c.arrays.length<=3/\∀a∈c.arrays,a.length<=10:=by obtain ⟨h1,h2,_,h4⟩:=ZfU hu;obtain ⟨⟨c1,c2⟩,c3⟩:=hc;refine ⟨by have:=c1.1;omega,by omega,λa ha=>?_⟩;obtain ⟨j,hj,rfl⟩:=YaR ha;have:=(c3 j hj (by omega)).1;have:=(h4 _ (Yai (show j < u.arrays.length by omega))).2;omega
theorem ZnW {c:Cells} (h1:c.vars.length<=8) (h2:c.arrays.length<=3) (h3:∀a∈c.arrays,a.length<=10):(ZnX c).length<=38:=by have:=Zmo _ h3;unfold ZnX;simp only[Yab];omega
theorem Zka {p:List Unit} {cs:List Cells} (h:ZdZ p cs=0):cs.length<=5/\(∀c∈cs,c.vars.length<=8/\c.arrays.length<=3/\∀a∈c.arrays,a.length<=10):=by obtain ⟨hp,hl,hc⟩:=Zkd h;obtain ⟨h5,hu⟩:=ZrS hp;refine ⟨by omega,λc hm=>?_⟩;obtain ⟨j,hj,rfl⟩:=YaR hm;exact Zlg (hu _ (Yai (show j < p.length by omega))) (hc j hj (by omega))
theorem Zu1 (p:List Unit) (cs:List Cells):(ZgI p cs).length<=190:=by
 unfold ZgI;by_cases h:ZdZ p cs=0
 ·rw[if_pos h];obtain ⟨h5,hs⟩:=Zka h;have:=ZjW cs (λc hc=>by obtain ⟨h1,h2,h3⟩:=hs c hc;exact ZnW h1 h2 h3);omega
 ·rw[if_neg h];simp
theorem ZAE {n:Nat} (h:n<=1000):n<=maxLen/\n*8<=140737488355328:=by unfold maxLen;omega
end Barb
namespace ZN
open Go Go.Dm Go.Eng Barb
variable {L:Lv}
set_option maxRecDepth 20000 in
theorem Zxr (p:List Barb.Unit) (hp:Zpa p) (cs:List Cells) (hI:∀c∈cs,Cells.I c) (hl:cs.length*48<=140737488351232):CT Tryz.prog (gl L) 13 [.g (.sl 4 (p.map Unit.g)),.g (.sl 2 (cs.map Cells.g))] (Is (.tuple [.g (.sl 1 ((ZgI p cs).map ZaU)),.g (.int (ZdZ p cs))])):=by
 have lc:(cs.map Cells.g).length=cs.length:=by simp
 refine enter hT hF hM Tryz.func13 rfl 41 rfl (by kernel_rfl) [.tmp 4,.tmp 5] rfl [.g (.sl 4 (p.map Unit.g)),.g (.sl 2 (cs.map Cells.g))] rfl _ ?_;refine Zad (.inl rfl) (Zks p hp cs hI hl) ⟨λh=>⟨rfl,ZtJ rfl (by unfold ZgI;rw[if_neg h];rfl)⟩,λhE=>?_⟩;obtain ⟨h5,hs⟩:=Zka hE;refine ZaO (ι:=Nat) (λi=>[(20,.g (.int (i:Int))),(7,.row 0)]) (λi=>[.row ((ZeL (cs.take i)).map ZaU) 3 1]) (λi=>i<=cs.length) (λi=>cs.length - i)
  ⟨0,[.nil 3 1],⟨rfl,.inl rfl,.inr ⟨lk rfl,.inr rfl,trivial⟩,rfl⟩,Yat _⟩ ?_
 intro Rd aj i hi;refine ⟨λb0=>?_,λb0=>?_⟩
 rotate_left
 ·have az:i=cs.length:=by omega
  exact ⟨rfl,ZyZ rfl hE.symm (by unfold ZgI;rw[if_pos hE,az,YaH])⟩
 have b1:i < cs.length:=by omega
 have hlen:=ZjW (cs.take i) (λc hc=>by obtain ⟨h1,h2,h3⟩:=hs c (YaK hc);exact ZnW h1 h2 h3);rw[Yam] at hlen;have aM:ZeL (cs.take (i+1))=ZeL (cs.take i)++cs[i].vars++cs[i].arrays.flatten:=Zsn b1;obtain ⟨s1,s2,s3⟩:=hs _ (Yai b1);refine ⟨i,_,rfl,gm b1,?_⟩;generalize cs[i]=c at *;generalize ZeL (cs.take i)=F at *;have la:(c.arrays.map Zmf).length=c.arrays.length:=by simp
 refine ⟨ZAE (by simp only[Yaa];omega),?_⟩;refine ZaO (ι:=Nat) (λj=>[(31,.g (.int (j:Int))),(7,.row 0)]) (λj=>[.row ((F++c.vars++(c.arrays.take j).flatten).map ZaU) 3 1]) (λj=>j<=c.arrays.length) (λj=>c.arrays.length - j)
  ⟨0,[.old 2],⟨rfl,.inr ⟨⟨by simp,rfl,rfl⟩,trivial⟩,.inr ⟨lk rfl,lk rfl,trivial⟩,rfl⟩,Yat _⟩ ?_
 intro Rj aI j hj;refine ⟨λh3=>?_,λh3=>?_⟩
 ·have h4:j < c.arrays.length:=by omega
  have rE:=Zmo (c.arrays.take j) (λa ha=>s3 a (YaK ha));rw[Yam] at rE;have wZ:=s3 _ (Yai h4);have iY:(F++c.vars++(c.arrays.take (j+1)).flatten)=(F++c.vars++(c.arrays.take j).flatten)++c.arrays[j]:=by rw[ZnU h4,<- Yax]
  refine ⟨j,_,rfl,gm h4,?_⟩;refine ⟨ZAE (by simp only[Yaa,Yab];omega),?_⟩;refine ⟨_,I64.wrap (by unfold I64;omega),?_⟩;exact aI _ _ _ ⟨j+1,[.old 1],⟨rfl,.inr ⟨⟨by rw[iY,Yaf (l₂:=c.arrays[j])],rfl,rfl⟩,trivial⟩,.inr ⟨lk rfl,lk rfl,trivial⟩,rfl⟩,h4,by omega⟩
 ·have aD:j=c.arrays.length:=by omega
  refine ⟨_,I64.wrap (by unfold I64;omega),?_⟩;exact aj _ _ _ ⟨i+1,[.old 0],⟨rfl,.inr ⟨⟨by rw[aM,aD,YaH],rfl,rfl⟩,trivial⟩,.inr ⟨lk rfl,lk rfl,trivial⟩,rfl⟩,b1,by omega⟩
end ZN
