import Derived.Test.YtpjjkiidjofflaaGreatDoorWTq
import Derived.Test.YtpjjkiidjofflaaGreatDoorWG1
import Derived.Test.YtpjjkiidjofflaaGreatDoorWWd
import Derived.Test.YtpjjkiidjofflaaGreatDoorWGh
import Derived.Test.YtpjjkiidjofflaaGreatDoorWDjk
open Go Go.Proofs Go.Proofs.YtpjjkiidjofflaaGreatDoor
namespace Barb
open Go Go.Dm Go.Eng
abbrev scG (p:List Unit) (u:Unit) (f:Fun):List GV:=[.sl 4 (p.map Unit.g),.str u.name,.sl 1 (u.vars.map ZbP),.sl 2 (u.arrays.map Arr.g),.sl 4 (u.funcs.map Fun.g),.str f.name,.bool f.isOpen,.sl 1 (f.params.map ZbP),.sl 5 (f.body.map Stmt.g)]
theorem Fun.g_open {f:Fun} {b:Bool} (h:f.isOpen=b):f.g=[.str f.name,.bool b,.sl 1 (f.params.map ZbP),.sl 5 (f.body.map Stmt.g)]:=by rw[Fun.g_eq,h]
theorem ZqB {α:Type} (q:α->Prop) [DecidablePred q]:∀(l:List α),(idx q l=-1/\l.find? (λx=>decide (q x))=none)\/∃(i:Nat) (hi:i < l.length),idx q l=(i:Int)/\l.find? (λx=>decide (q x))=some l[i]:=by
 intro l;rcases Zbx q l with ⟨h1,h2⟩ | ⟨i,hi,h1,h2,h3⟩
 ·exact .inl ⟨h1,by rw[List.find?_eq_none];intro x hx;simpa using h2 x hx⟩
 ·refine .inr ⟨i,hi,h1,?_⟩;rw[Ycm];exact ⟨by simpa using h2,i,hi,rfl,λj hj=>by simpa using h3 j (by omega) hj⟩
theorem Zkk (v:Unit) (of s:Str) (m:Nat):(Zbz v s=-1/\Barb.calledIn v of s m=5)\/∃(i:Nat) (hi:i < v.funcs.length),Zbz v s=(i:Int)/\Barb.calledIn v of s m=if of≠[]/\v.funcs[i].isOpen=false then 5 else if v.funcs[i].params.length≠m then 7 else 0:=by
 unfold Barb.calledIn;rcases ZqB (λg:Fun=>g.name=s) v.funcs with ⟨h1,h2⟩ | ⟨i,hi,h1,h2⟩
 ·exact .inl ⟨h1,by rw[h2]⟩
 ·exact .inr ⟨i,hi,h1,by rw[h2]⟩
theorem Zme (p:List Unit) (u:Unit) (of s:Str) (m:Nat) (ho:of≠[]):(Zba p of=-1/\Za1 p u of s m=5)\/∃(i:Nat) (hi:i < p.length),Zba p of=(i:Int)/\Za1 p u of s m=Barb.calledIn p[i] of s m:=by
 unfold Za1;rw[if_neg ho];rcases ZqB (λv:Unit=>v.name=of) p with ⟨h1,h2⟩ | ⟨i,hi,h1,h2⟩
 ·exact .inl ⟨h1,by rw[h2]⟩
 ·exact .inr ⟨i,hi,h1,by rw[h2]⟩
end Barb
namespace ZN
open Go Go.Dm Go.Eng Barb
theorem Zx2 (u:Barb.Unit) (s:Str):CT Tryz.prog gl 42 [.agg u.d,.fp [.str s] 0] (Is (.pb (u.name=s))):=by refine enter hT hF hM Tryz.func42 rfl 8 rfl (by kernel_rfl) [.tmp 3] rfl [.agg u.d,.fp [.str s] 0] rfl _ ?_;exact ⟨rfl,ZmY Ybg⟩
theorem Zzc (f:Fun) (s:Str):CT Tryz.prog gl 44 [.agg f.d,.fp [.str s] 0] (Is (.pb (f.name=s))):=by refine enter hT hF hM Tryz.func44 rfl 8 rfl (by kernel_rfl) [.tmp 3] rfl [.agg f.d,.fp [.str s] 0] rfl _ ?_;exact ⟨rfl,ZmY Ybg⟩
theorem ZzH (a:Arr) (s:Str):CT Tryz.prog gl 106 [.agg [.g (.str a.name),.g (.int a.size)],.fp [.str s] 0] (Is (.pb (a.name=s))):=by refine enter hT hF hM Tryz.func106 rfl 8 rfl (by kernel_rfl) [.tmp 3] rfl [.agg [.g (.str a.name),.g (.int a.size)],.fp [.str s] 0] rfl _ ?_;exact ⟨rfl,ZmY Ybg⟩
theorem Zwl (l:List Barb.Unit) (hl:l.length<=9223372036854775807) (s:Str):CT Tryz.prog gl 41 [.g (.sl 4 (l.map Unit.g)),.fn 42 [] [.fp [.str s] 0]] (Is (.g (.int (Zba l s)))):=by
 have ll:(l.map Unit.g).length=l.length:=by simp
 refine enter hT hF hM Tryz.func41 rfl 19 rfl (by kernel_rfl) [.tmp 4] rfl [.g (.sl 4 (l.map Unit.g)),.fn 42 [] [.fp [.str s] 0]] rfl _ ?_;refine ZaL (ι:=Nat) (λi=>[(8,.g (.int (i:Int)))]) (λ_=>[]) (λi=>i<=l.length/\∀j (hj:j < l.length),j < i->¬l[j].name=s) (λi=>l.length - i)
  ⟨0,[],⟨rfl,.inl rfl,.inr ⟨lk rfl,trivial⟩,rfl⟩,Yau _,Zhg (q:=λx:Barb.Unit=>x.name=s)⟩ ?_
 intro Rd hRd i ⟨hi,ha⟩;refine ⟨λh=>?_,λh=>?_⟩
 ·have h1:i < l.length:=by omega
  refine ⟨i,_,rfl,gm h1,?_⟩;refine Zae (.inl rfl) (Zx2 l[i] s) ?_;refine ⟨λh2=>⟨rfl,ZbQ (Zf6 (q:=λx:Barb.Unit=>x.name=s) h1 ha h2).symm⟩,λh2=>⟨_,I64.wrap (by unfold I64;omega),?_⟩⟩;exact hRd _ _ _ ⟨i+1,[],⟨rfl,.inl rfl,.inr ⟨lk rfl,trivial⟩,rfl⟩,⟨h1,ZcS (q:=λx:Barb.Unit=>x.name=s) h1 ha h2⟩,by omega⟩
 ·exact ⟨rfl,ZbQ (Zf5 (Zdw (q:=λx:Barb.Unit=>x.name=s) (by omega) ha)).symm⟩
theorem Zwo (l:List Fun) (hl:l.length<=9223372036854775807) (s:Str):CT Tryz.prog gl 43 [.g (.sl 4 (l.map Fun.g)),.fn 44 [] [.fp [.str s] 0]] (Is (.g (.int (idx (λf:Fun=>f.name=s) l)))):=by
 have ll:(l.map Fun.g).length=l.length:=by simp
 refine enter hT hF hM Tryz.func43 rfl 19 rfl (by kernel_rfl) [.tmp 4] rfl [.g (.sl 4 (l.map Fun.g)),.fn 44 [] [.fp [.str s] 0]] rfl _ ?_;refine ZaL (ι:=Nat) (λi=>[(8,.g (.int (i:Int)))]) (λ_=>[]) (λi=>i<=l.length/\∀j (hj:j < l.length),j < i->¬l[j].name=s) (λi=>l.length - i)
  ⟨0,[],⟨rfl,.inl rfl,.inr ⟨lk rfl,trivial⟩,rfl⟩,Yau _,Zhg (q:=λx:Fun=>x.name=s)⟩ ?_
 intro Rd hRd i ⟨hi,ha⟩;refine ⟨λh=>?_,λh=>?_⟩
 ·have h1:i < l.length:=by omega
  refine ⟨i,_,rfl,(gm h1).trans (congrArg some (Fun.g_eq _)),?_⟩;refine Zae (.inl rfl) (Zzc l[i] s) ?_;refine ⟨λh2=>⟨rfl,ZbQ (Zf6 (q:=λx:Fun=>x.name=s) h1 ha h2).symm⟩,λh2=>⟨_,I64.wrap (by unfold I64;omega),?_⟩⟩;exact hRd _ _ _ ⟨i+1,[],⟨rfl,.inl rfl,.inr ⟨lk rfl,trivial⟩,rfl⟩,⟨h1,ZcS (q:=λx:Fun=>x.name=s) h1 ha h2⟩,by omega⟩
 ·exact ⟨rfl,ZbQ (Zf5 (Zdw (q:=λx:Fun=>x.name=s) (by omega) ha)).symm⟩
theorem Zdx (l:List Barb.Unit) (hl:l.length<=9223372036854775807) (s:Str):CT Tryz.prog gl 19 [.g (.sl 4 (l.map Unit.g)),.g (.str s)] (Is (.g (.int (Zba l s)))):=by refine enter hT hF hM Tryz.func19 rfl 8 rfl (by kernel_rfl) [.tmp 4] rfl [.g (.sl 4 (l.map Unit.g)),.g (.str s)] rfl _ ?_;exact Zae (.inl rfl) (Zwl l hl s) ⟨rfl,ZbQ rfl⟩
theorem ZcU (u:Barb.Unit) (hl:u.funcs.length<=9223372036854775807) (s:Str):CT Tryz.prog gl 20 [.agg u.d,.g (.str s)] (Is (.g (.int (Zbz u s)))):=by refine enter hT hF hM Tryz.func20 rfl 9 rfl (by kernel_rfl) [.tmp 4] rfl [.agg u.d,.g (.str s)] rfl _ ?_;exact Zae (.inl rfl) (Zwo u.funcs hl s) ⟨rfl,ZbQ rfl⟩
theorem Zwp (l:List Arr) (hl:l.length<=9223372036854775807) (s:Str):CT Tryz.prog gl 108 [.g (.sl 2 (l.map Arr.g)),.fn 106 [] [.fp [.str s] 0]] (Is (.g (.int (idx (λa:Arr=>a.name=s) l)))):=by
 have ll:(l.map Arr.g).length=l.length:=by simp
 refine enter hT hF hM Tryz.func108 rfl 19 rfl (by kernel_rfl) [.tmp 4] rfl [.g (.sl 2 (l.map Arr.g)),.fn 106 [] [.fp [.str s] 0]] rfl _ ?_;refine ZaL (ι:=Nat) (λi=>[(8,.g (.int (i:Int)))]) (λ_=>[]) (λi=>i<=l.length/\∀j (hj:j < l.length),j < i->¬l[j].name=s) (λi=>l.length - i)
  ⟨0,[],⟨rfl,.inl rfl,.inr ⟨lk rfl,trivial⟩,rfl⟩,Yau _,Zhg (q:=λx:Arr=>x.name=s)⟩ ?_
 intro Rd hRd i ⟨hi,ha⟩;refine ⟨λh=>?_,λh=>?_⟩
 ·have h1:i < l.length:=by omega
  refine ⟨i,_,rfl,gm h1,?_⟩;refine Zae (.inl rfl) (ZzH l[i] s) ?_;refine ⟨λh2=>⟨rfl,ZbQ (Zf6 (q:=λx:Arr=>x.name=s) h1 ha h2).symm⟩,λh2=>⟨_,I64.wrap (by unfold I64;omega),?_⟩⟩;exact hRd _ _ _ ⟨i+1,[],⟨rfl,.inl rfl,.inr ⟨lk rfl,trivial⟩,rfl⟩,⟨h1,ZcS (q:=λx:Arr=>x.name=s) h1 ha h2⟩,by omega⟩
 ·exact ⟨rfl,ZbQ (Zf5 (Zdw (q:=λx:Arr=>x.name=s) (by omega) ha)).symm⟩
theorem Zwu (l:List Arr) (hl:l.length<=9223372036854775807) (s:Str):CT Tryz.prog gl 105 [.g (.sl 2 (l.map Arr.g)),.fn 106 [] [.fp [.str s] 0]] (Is (.pb (∃a∈l,a.name=s))):=by
 refine enter hT hF hM Tryz.func105 rfl 9 rfl (by kernel_rfl) [.tmp 4] rfl [.g (.sl 2 (l.map Arr.g)),.fn 106 [] [.fp [.str s] 0]] rfl _ ?_;refine Zae (.inl rfl) (Zwp l hl s) ⟨rfl,ZmY ?_⟩;rcases Zbx (λa:Arr=>a.name=s) l with ⟨h1,h2⟩ | ⟨i,hi,h1,h2,h3⟩
 ·rw[h1];exact ⟨λh=>absurd h (by decide),λ⟨c,hc,ho⟩=>absurd ho (h2 c hc)⟩
 ·rw[h1];exact ⟨λ_=>⟨l[i],Yah _,h2⟩,λ_=>by omega⟩
theorem ZmP (p:List Barb.Unit) (u:Barb.Unit) (f:Fun) (hl:u.arrays.length<=9223372036854775807) (s:Str):CT Tryz.prog gl 94 [.fp (scG p u f) 0,.g (.str s)] (Is (.pb (ZiU u s))):=by refine enter hT hF hM Tryz.func94 rfl 12 rfl (by kernel_rfl) [.tmp 4] rfl [.fp (scG p u f) 0,.g (.str s)] rfl _ ?_;exact Zae (.inl rfl) (Zwu u.arrays hl s) ⟨rfl,ZmY Ybg⟩
theorem ZmO (p:List Barb.Unit) (u:Barb.Unit) (f:Fun) (hl:u.vars.length<=9223372036854775807) (hf:f.params.length<=9223372036854775807) (s:Str):CT Tryz.prog gl 93 [.fp (scG p u f) 0,.g (.str s)] (Is (.pb (Zi5 u f s))):=by refine enter hT hF hM Tryz.func93 rfl 21 rfl (by kernel_rfl) [.tmp 4] rfl [.fp (scG p u f) 0,.g (.str s)] rfl _ ?_;refine Zae (.inl rfl) (ZfA f.params hf s) ⟨λh=>⟨rfl,ZCp (.inl h)⟩,λh=>?_⟩;exact Zae (.inl rfl) (ZfA u.vars hl s) ⟨rfl,ZmY ⟨λh'=>.inr h',λh'=>h'.elim (λh''=>absurd h'' h) id⟩⟩
end ZN
namespace Barb
open Go Go.Dm Go.Eng
theorem ZwI (p:List Unit) (u:Unit) (f:Fun) (x:Expr):ZbF p u f x=if Za3 p u f x.k x.of x.s x.args.length≠0 then Za3 p u f x.k x.of x.s x.args.length else Zd4 p u f x.args:=by
 cases x;rw[ZbF];rfl
theorem ZvA (p:List Unit) (u:Unit) (f:Fun) (x:Stmt):ZdW p u f x=if (x.k=1/\¬Zi5 u f x.s)\/(x.k=2/\¬ZiU u x.s) then 5 else if Zd4 p u f x.xs≠0 then Zd4 p u f x.xs else if Zbg p u f x.b≠0 then Zbg p u f x.b else Zbg p u f x.e:=by
 cases x;rw[ZdW];rfl
def short (u:Unit):Prop:=u.vars.length<=9223372036854775807/\u.arrays.length<=9223372036854775807/\u.funcs.length<=9223372036854775807
theorem Unit.I.short {u:Unit} (h:u.I):short u:=by obtain ⟨_,⟨_,h1⟩,_,h2,_,h3⟩:=h;exact ⟨by omega,by omega,by omega⟩
end Barb
namespace ZN
open Go Go.Dm Go.Eng Barb
theorem Zse (p:List Barb.Unit) (hp:∀v∈p,short v) (hpl:p.length<=9223372036854775807) (u:Barb.Unit) (hu:short u) (f:Fun) (x:Barb.Expr):CT Tryz.prog gl 107 [.fp (scG p u f) 0,.agg x.d] (Is (.g (.int (Za1 p u x.of x.s x.args.length)))):=by
 have lp:(p.map Unit.g).length=p.length:=by simp
 have lx:(x.args.map Expr.g).length=x.args.length:=by simp
 refine enter hT hF hM Tryz.func107 rfl 62 rfl (by kernel_rfl) [.tmp 4] rfl [.fp (scG p u f) 0,.agg x.d] rfl _ ?_;refine stepS ⟨?_⟩;refine stepS ⟨?_⟩;refine Zrt (ι:=Barb.Unit) (λ_=>[(3,.ptr 0 0),(5,.ptr 1 0)]) (λv=>[.blk x.d 132,.blk v.d 44]) (λv=>Za1 p u x.of x.s x.args.length=Barb.calledIn v x.of x.s x.args.length/\short v) (λe0 v hv=>?_) (λRj hRj=>?_)
 rotate_left
 ·refine ⟨λa1=>?_,λa1=>hRj u _ ⟨rfl,rfl,trivial⟩ ⟨by unfold Za1;rw[if_pos a1],hu⟩⟩;refine ⟨none,rfl,_,_,.inl rfl,Zdx p hpl x.of,rfl,?_⟩;rcases Zme p u x.of x.s x.args.length a1 with ⟨h1,e⟩ | ⟨i,hi,h1,e⟩
  ·exact ⟨λ_=>⟨rfl,ZbQ e.symm⟩,λh=>absurd (by rw[h1];decide) h⟩
  ·refine ⟨λh=>absurd h (by rw[h1];omega),λ_=>?_⟩;refine ⟨i,_,(show D.g (.int (Zba p x.of))=D.g (.int (i:Int)) by rw[h1]),gm hi,?_⟩;exact hRj p[i] _ ⟨rfl,rfl,trivial⟩ ⟨e,hp _ (Yah _)⟩
 obtain ⟨e,_,_,hf⟩:=hv;refine Zae (.inl rfl) (ZcU v hf x.s) ?_;rcases Zkk v x.of x.s x.args.length with ⟨h1',e'⟩ | ⟨i,hi,h1',e'⟩
 ·exact ⟨λ_=>⟨rfl,ZbQ (e.trans e').symm⟩,λh=>absurd (by rw[h1'];decide) h⟩
 ·have li:(v.funcs[i].params.map ZbP).length=v.funcs[i].params.length:=by simp
  have hix:D.g (.int (Zbz v x.s))=D.g (.int (i:Int)):=by rw[h1']
  rw[e'] at e;refine ⟨λh=>absurd h (by rw[h1'];omega),λ_=>⟨λb1=>?_,λb1=>?_⟩⟩
  ·cases hb:v.funcs[i].isOpen with
   | false =>rw[if_pos ⟨b1,hb⟩] at e;exact ⟨i,_,hix,(gm hi).trans (congrArg some (Fun.g_open hb)),rfl,ZbQ e.symm⟩
   | true =>rw[if_neg (λh=>by rw[hb] at h;exact absurd h.2 (by decide))] at e;refine ⟨i,_,hix,(gm hi).trans (congrArg some (Fun.g_open hb)),none,rfl,i,_,hix,(gm hi).trans (congrArg some (Fun.g_eq _)),?_⟩;exact ⟨λc=>⟨rfl,ZbQ (by rw[e,if_pos (by omega)])⟩,λc=>⟨rfl,ZbQ (by rw[e,if_neg (by omega)])⟩⟩
  ·rw[if_neg (λh=>h.1 b1)] at e;refine ⟨none,rfl,i,_,hix,(gm hi).trans (congrArg some (Fun.g_eq _)),?_⟩;exact ⟨λc=>⟨rfl,ZbQ (by rw[e,if_pos (by omega)])⟩,λc=>⟨rfl,ZbQ (by rw[e,if_neg (by omega)])⟩⟩
end ZN
namespace Barb
open Go Go.Dm Go.Eng
theorem Expr.args_lt {x y:Expr} (h:y∈x.args):sizeOf y < sizeOf x:=by
 cases x with
 | mk k n of s args =>have:=List.sizeOf_lt_of_mem (show y∈args from h);simp only[Expr.mk.sizeOf_spec];omega
theorem Stmt.b_lt {l:List Stmt} {x:Stmt} (h:x∈l):sizeOf x.b < sizeOf l/\sizeOf x.e < sizeOf l:=by
 have h1:=List.sizeOf_lt_of_mem h;cases x with
 | mk k s xs b e =>simp only[Stmt.mk.sizeOf_spec] at h1;show sizeOf b < sizeOf l/\sizeOf e < sizeOf l;omega
theorem Zr3 {α:Type} (g:α->Int) (a b:α):Zah g [a,b]=if g a≠0 then g a else g b:=by
 by_cases h:g a=0
 ·by_cases h':g b=0
  ·simp[Zah,h,h']
  ·simp[Zah,h,h']
 ·simp[Zah,h]
theorem ZkY {p:List Unit} {u:Unit} {f:Fun} {k:Int} {of s:Str} {m:Nat} (h:(k=2/\¬Zi5 u f s)\/(k=3/\¬ZiU u s)):Za3 p u f k of s m=5:=by unfold Za3;rw[if_pos h]
theorem ZqF {p:List Unit} {u:Unit} {f:Fun} {k:Int} {of s:Str} {m:Nat} (h:k=4):Za3 p u f k of s m=Za1 p u of s m:=by unfold Za3;rw[if_neg (by omega),if_pos h]
theorem Zl1 {p:List Unit} {u:Unit} {f:Fun} {k:Int} {of s:Str} {m:Nat} (h:¬((k=2/\¬Zi5 u f s)\/(k=3/\¬ZiU u s))) (h4:k≠4):Za3 p u f k of s m=0:=by unfold Za3;rw[if_neg h,if_neg h4]
end Barb
namespace ZN
open Go Go.Dm Go.Eng Barb
theorem Zrv (p:List Barb.Unit) (hp:∀v∈p,short v) (hpl:p.length<=9223372036854775807) (u:Barb.Unit) (hu:short u) (f:Fun) (hf:f.params.length<=9223372036854775807) :
  ∀(n:Nat) (x:Barb.Expr),SizeOf.sizeOf x < n->x.I->CT Tryz.prog gl 95 [.fp (scG p u f) 0,.agg x.d] (Is (.g (.int (ZbF p u f x)))):=by
 intro n
 induction n with
 | zero=>intro x h;exact absurd h (YbA _)
 | succ n ih =>
  intro x hn hx;obtain ⟨_,_,_,_,hal,hI⟩:=hx.inv;have lx:(x.args.map Expr.g).length=x.args.length:=by simp
  have e:=ZwI p u f x;refine enter hT hF hM Tryz.func95 rfl 50 rfl (by kernel_rfl) [.tmp 4] rfl [.fp (scG p u f) 0,.agg x.d] rfl _ ?_;have bad:Za3 p u f x.k x.of x.s x.args.length=5->∀h:Zad,Zbk (Is (.g (.int (ZbF p u f x)))) h (.g (.int 5)):=λhb h=>ZbQ (by rw[e,if_pos (by rw[hb];decide),hb]);refine stepS ⟨?_⟩;refine stepS ⟨?_⟩;refine Zrt (ι:=Int) (λc=>[(0,.fp (scG p u f) 0),(3,.ptr 0 0),(5,.g (.int c))]) (λ_=>[.blk x.d 132]) (λc=>c=Za3 p u f x.k x.of x.s x.args.length) (λe0 c hc=>?_) (λRj hRj=>?_)
  rotate_left
  ·refine ⟨λa1=>?_,λa1=>⟨λa2=>?_,λa2=>⟨λa3=>?_,λa3=>?_⟩⟩⟩
   ·refine Zae (.inl rfl) (ZmO p u f hu.1 hf x.s) ⟨λb1=>⟨λ_=>⟨rfl,bad (ZkY (.inl ⟨a1,b1⟩)) _⟩,λh=>absurd h b1⟩,λb1=>⟨λh=>absurd h (by omega),λ_=>⟨λh=>absurd h (by omega),λ_=>?_⟩⟩⟩;exact hRj 0 _ ⟨rfl,rfl,rfl,trivial⟩ (Zl1 (λh=>by rcases h with h | h;exact h.2 b1;omega) (by omega)).symm
   ·refine Zae (.inl rfl) (ZmP p u f hu.2.1 x.s) ⟨λb1=>⟨rfl,bad (ZkY (.inr ⟨a2,b1⟩)) _⟩,λb1=>⟨λh=>absurd h (by omega),λ_=>?_⟩⟩;exact hRj 0 _ ⟨rfl,rfl,rfl,trivial⟩ (Zl1 (λh=>by rcases h with h | h;omega;exact h.2 b1) (by omega)).symm
   ·exact Zae (.inl rfl) (Zse p hp hpl u hu f x) (hRj _ _ ⟨rfl,rfl,rfl,trivial⟩ (ZqF a3).symm)
   ·exact hRj 0 _ ⟨rfl,rfl,rfl,trivial⟩ (Zl1 (λh=>by omega) a3).symm
  rw[<- hc,ZbH] at e;clear bad;refine ZaL (ι:=Nat × Int) (λs=>[(39,.g (.int (s.1:Int))),(5,.g (.int s.2))]) (λ_=>[]) (λs=>s.1<=x.args.length/\((s.2=0/\c=0/\∀j (hj:j < x.args.length),j < s.1->ZbF p u f x.args[j]=0)\/(s.2≠0/\ZbF p u f x=s.2))) (λs=>x.args.length - s.1)
   ⟨(0,c),[],⟨rfl,.inl rfl,.inr ⟨lk rfl,lk rfl,trivial⟩,rfl⟩,Yau _,?_⟩ ?_
  ·by_cases h0:c=0
   ·exact .inl ⟨h0,h0,ZfT⟩
   ·exact .inr ⟨h0,by rw[e,if_pos h0]⟩
  rintro Rd hRd ⟨i,d⟩ ⟨hi,hd⟩;dsimp only at hi hd;refine ⟨λh1=>?_,λh1=>?_⟩
  ·have h2:i < x.args.length:=by omega
   refine ⟨i,_,rfl,(gm h2).trans (congrArg some (Expr.g_eq _)),?_⟩;refine ⟨λh3=>⟨rfl,ZbQ ?_⟩,λh3=>?_⟩
   ·rcases hd with ⟨h4,_⟩ | ⟨_,h4⟩
    ·exact absurd h4 h3
    ·exact h4.symm
   ·obtain ⟨_,hc0,ha⟩:d=0/\c=0/\∀j (hj:j < x.args.length),j < i->ZbF p u f x.args[j]=0:=by
     rcases hd with h4 | ⟨h4,_⟩
     ·exact h4
     ·exact absurd h3 h4
    refine Zae (.inl rfl) (ih x.args[i] (by have:=Expr.args_lt (Yah h2);omega) (hI _ (Yah _))) ⟨_,I64.wrap (by unfold I64;omega),?_⟩;refine hRd _ _ _ ⟨(i+1,ZbF p u f x.args[i]),[],⟨rfl,.inl rfl,.inr ⟨lk rfl,lk rfl,trivial⟩,rfl⟩,⟨h2,?_⟩,by dsimp only;omega⟩;dsimp only;by_cases h5:ZbF p u f x.args[i]=0
    ·exact .inl ⟨h5,hc0,ZaO h2 ha h5⟩
    ·exact .inr ⟨h5,by rw[e,if_neg (λh=>h hc0),ZaV h2 ha h5]⟩
  ·refine ⟨rfl,ZbQ ?_⟩;rcases hd with ⟨h4,hc0,ha⟩ | ⟨_,h4⟩
   ·rw[e,if_neg (λh=>h hc0),Za0 (by omega) ha,h4]
   ·exact h4.symm
def stmtsG (l:List Barb.Stmt):List GV:=[.sl 5 (l.map Stmt.g)]
set_option maxHeartbeats 1000000 in
theorem ZoG (p:List Barb.Unit) (hp:∀v∈p,short v) (hpl:p.length<=9223372036854775807) (u:Barb.Unit) (hu:short u) (f:Fun) (hf:f.params.length<=9223372036854775807) :
  ∀(n:Nat) (l:List Barb.Stmt),SizeOf.sizeOf l < n->(∀x∈l,Barb.Stmt.I x)->l.length*96<=140737488351232->CT Tryz.prog gl 83 [.fp (scG p u f) 0,.g (.sl 5 (l.map Stmt.g))] (Is (.g (.int (Zbg p u f l)))):=by
 intro n
 induction n with
 | zero=>intro l h;exact absurd h (YbA _)
 | succ n ih =>
  intro l hn hI hlen;have hl:(l.map Stmt.g).length=l.length:=by simp
  have et:=ZaS p u f l;refine enter hT hF hM Tryz.func83 rfl 73 rfl (by kernel_rfl) [.tmp 4] rfl [.fp (scG p u f) 0,.g (.sl 5 (l.map Stmt.g))] rfl _ ?_;refine ZaL (ι:=Nat) (λi=>[(15,.g (.int (i:Int)))]) (λ_=>[]) (λi=>i<=l.length/\∀j (hj:j < l.length),j < i->ZdW p u f l[j]=0) (λi=>l.length - i)
   ⟨0,[],⟨rfl,.inl rfl,.inr ⟨lk rfl,trivial⟩,rfl⟩,Yau _,ZfT⟩ ?_
  intro Rd hRd i ⟨hi,ha⟩;refine ⟨λh0=>?_,λh0=>⟨rfl,ZbQ (by rw[et,Za0 (by omega) ha])⟩⟩;have h1:i < l.length:=by omega
  have fin:∀v:Int,v≠0->ZdW p u f l[i]=v->∀h:Zad,Zbk (Is (.g (.int (Zbg p u f l)))) h (.g (.int v)):=λv hv he h=>ZbQ (by rw[et,ZaV h1 ha (by rw[he];exact hv),he]);obtain ⟨hk,hs,hxl,hbl,hel,hxI,hbI,heI⟩:=(hI l[i] (Yah _)).inv;have e:=ZvA p u f l[i];have next:ZdW p u f l[i]=0->∀j (hj:j < l.length),j < i+1->ZdW p u f l[j]=0:=λh0=>ZaO h1 ha h0
  obtain ⟨hsb,hse⟩:=Stmt.b_lt (Yah h1);refine stepS ?_;refine stepS ?_;refine ⟨i,_,rfl,(gm h1).trans (congrArg some (Stmt.g_eq _)),⟨?_⟩⟩;generalize l[i]=y at *;have lx:(y.xs.map Expr.g).length=y.xs.length:=by simp
  refine Zrt (ι:=PUnit) (λ_=>[(0,.fp (scG p u f) 0),(6,.ptr 0 0),(15,.g (.int (i:Int)))]) (λ_=>[.blk y.d 135]) (λ_=>¬((y.k=1/\¬Zi5 u f y.s)\/(y.k=2/\¬ZiU u y.s))) (λe0 _ hb=>?_) (λRj hRj=>?_)
  rotate_left
  ·have bad:(y.k=1/\¬Zi5 u f y.s)\/(y.k=2/\¬ZiU u y.s)->∀h:Zad,Zbk (Is (.g (.int (Zbg p u f l)))) h (.g (.int 5)):=λhb=>fin 5 (by decide) (by rw[e,if_pos hb]);refine ⟨λa1=>?_,λa1=>⟨λa2=>?_,λa2=>?_⟩⟩
   ·refine Zae (.inl rfl) (ZmO p u f hu.1 hf y.s) ⟨λb1=>⟨rfl,bad (.inl ⟨a1,b1⟩) _⟩,λb1=>⟨λh=>absurd h (by omega),λ_=>?_⟩⟩;exact hRj ⟨⟩ _ ⟨rfl,rfl,rfl,trivial⟩ (λh=>by rcases h with h | h;exact h.2 b1;omega)
   ·refine Zae (.inl rfl) (ZmP p u f hu.2.1 y.s) ⟨λb1=>⟨rfl,bad (.inr ⟨a2,b1⟩) _⟩,λb1=>?_⟩;exact hRj ⟨⟩ _ ⟨rfl,rfl,rfl,trivial⟩ (λh=>by rcases h with h | h;omega;exact h.2 b1)
   ·exact hRj ⟨⟩ _ ⟨rfl,rfl,rfl,trivial⟩ (λh=>by omega)
  rw[if_neg hb,ZbH] at e;refine ZaL (ι:=Nat) (λk=>[(44,.g (.int (k:Int))),(6,.ptr 0 0)]) (λ_=>[.blk y.d 135]) (λk=>k<=y.xs.length/\∀j (hj:j < y.xs.length),j < k->ZbF p u f y.xs[j]=0) (λk=>y.xs.length - k)
   ⟨0,[.old 0],⟨rfl,.inl rfl,.inr ⟨lk rfl,lk rfl,trivial⟩,rfl⟩,Yau _,ZfT⟩ ?_
  intro Rk hRk k ⟨hk1,hk2⟩;refine ⟨λc0=>?_,λc0=>?_⟩
  ·have c1:k < y.xs.length:=by omega
   refine ⟨k,_,rfl,(gm c1).trans (congrArg some (Expr.g_eq _)),?_⟩;refine Zae (.inl rfl) (Zrv p hp hpl u hu f hf _ y.xs[k] (Yb0 _) (hxI _ (Yah _))) ?_;refine ⟨λc2=>⟨rfl,fin _ c2 (by rw[e,if_pos (by rw[ZaV c1 hk2 c2];exact c2),ZaV c1 hk2 c2]) _⟩,λc2=>⟨_,I64.wrap (by unfold I64;omega),?_⟩⟩;exact hRk _ _ _ ⟨k+1,[.old 0],⟨rfl,.inl rfl,.inr ⟨lk rfl,lk rfl,trivial⟩,rfl⟩,⟨c1,ZaO c1 hk2 c2⟩,by omega⟩
  have hx0:Zah (ZbF p u f) y.xs=0:=Za0 (by omega) hk2;rw[if_neg (λh=>h hx0),<- Zr3 (Zbg p u f) y.b y.e] at e;refine ⟨[stmtsG y.b,stmtsG y.e],rfl,rfl,⟨rfl,rfl,trivial⟩,?_⟩;have hls:∀m (hm:m < [y.b,y.e].length),SizeOf.sizeOf [y.b,y.e][m] < n/\(∀x∈[y.b,y.e][m],Barb.Stmt.I x)/\[y.b,y.e][m].length*96<=140737488351232:=λm hm=>by
   match m,hm with
   | 0,_=>exact ⟨by show SizeOf.sizeOf y.b < n;omega,hbI,hbl⟩
   | 1,_=>exact ⟨by show SizeOf.sizeOf y.e < n;omega,heI,hel⟩
  have hl2:[y.b,y.e].length=2:=rfl;have hl3:[stmtsG y.b,stmtsG y.e].length=2:=rfl;have hrow:[stmtsG y.b,stmtsG y.e]=[y.b,y.e].map stmtsG:=rfl;generalize [y.b,y.e]=bs at *;refine ZaL (ι:=Nat) (λm=>[(61,.g (.int (m:Int))),(59,.row 0)]) (λ_=>[.row (bs.map stmtsG) 63 1]) (λm=>m<=2/\∀j (hj:j < bs.length),j < m->Zbg p u f bs[j]=0) (λm=>2 - m)
   ⟨0,[.old 1],⟨rfl,.inr ⟨⟨hrow,rfl,rfl⟩,trivial⟩,.inr ⟨lk rfl,lk rfl,trivial⟩,rfl⟩,Yau _,ZfT⟩ ?_
  intro Rm hRm m ⟨hm1,hm2⟩;refine ⟨λd0=>?_,λd0=>⟨_,I64.wrap (by unfold I64;omega),?_⟩⟩
  ·have d1:m < bs.length:=by omega
   obtain ⟨q1,q2,q3⟩:=hls m d1;refine ⟨m,rfl,by rw[Yab];exact d1,_,gm d1,?_⟩;refine Zae (.inl rfl) (ih bs[m] q1 q2 q3) ?_;refine ⟨λd2=>⟨rfl,fin _ d2 (by rw[e,ZaV d1 hm2 d2]) _⟩,λd2=>⟨_,I64.wrap (by unfold I64;omega),?_⟩⟩;exact hRm _ _ _ ⟨m+1,[.old 0],⟨rfl,.inl rfl,.inr ⟨lk rfl,lk rfl,trivial⟩,rfl⟩,⟨by omega,ZaO d1 hm2 d2⟩,by omega⟩
  ·exact hRd _ _ _ ⟨i+1,[],⟨rfl,.inl rfl,.inr ⟨lk rfl,trivial⟩,rfl⟩,⟨h1,next (by rw[e,Za0 (by omega) hm2])⟩,by omega⟩
theorem ZgH (l:List Str) (hl:l.length<=9223372036854775807):CT Tryz.prog gl 62 [.g (.sl 1 (l.map ZbP))] (Is (.pb (Zk1 l))):=by
 have ll:(l.map ZbP).length=l.length:=by simp
 refine enter hT hF hM Tryz.func62 rfl 18 rfl (by kernel_rfl) [.tmp 2] rfl [.g (.sl 1 (l.map ZbP))] rfl _ ?_;refine ZaL (ι:=Nat) (λi=>[(7,.g (.int (i:Int)))]) (λ_=>[]) (λi=>i<=l.length/\∀j (hj:j < l.length),j < i->¬l[j]∈l.take j) (λi=>l.length - i)
  ⟨0,[],⟨rfl,.inl rfl,.inr ⟨lk rfl,trivial⟩,rfl⟩,Yau _,λj _ h=>absurd h (YbA j)⟩ ?_
 intro Rd hRd i ⟨hi,ha⟩;refine ⟨λh=>?_,λh=>⟨rfl,Zvg (λ⟨j,hj,hd⟩=>ha j hj (by omega) hd)⟩⟩;have h1:i < l.length:=by omega
 refine ⟨i,_,rfl,gm h1,i,rfl,by omega,?_⟩;have hc:=ZfA (l.take i) (by rw[Yan];omega) l[i];rw[YbE] at hc;refine Zae (.inl rfl) hc ?_;refine ⟨λh2=>⟨rfl,ZCp ⟨i,h1,h2⟩⟩,λh2=>⟨_,I64.wrap (by unfold I64;omega),?_⟩⟩;refine hRd _ _ _ ⟨i+1,[],⟨rfl,.inl rfl,.inr ⟨lk rfl,trivial⟩,rfl⟩,⟨h1,λj hj hji=>?_⟩,by omega⟩;by_cases hje:j=i
 ·subst hje;exact h2
 ·exact ha j hj (by omega)
end ZN
namespace Barb
open Go Go.Dm Go.Eng
theorem Zgk {α:Type} (f:α->Str) {l:List α} {i:Nat} (h:i < l.length):((l.take i).map f).map ZbP++[[GV.str (f l[i])]]=((l.take (i+1)).map f).map ZbP:=by rw[Zay h,Yai (f:=f),Yai (f:=ZbP)];rfl
theorem ZrG {α:Type} (f:α->Str) {l:List α} {i:Nat} (h:i < l.length) (pre:List Str):(pre++(l.take i).map f).map ZbP++[[GV.str (f l[i])]]=(pre++(l.take (i+1)).map f).map ZbP:=by rw[Yai,Yas,Zgk f h,<- Yai]
theorem Zf2 {l:List Unit} {i:Nat} (h:i < l.length):Zai (l.take (i+1))=Zai (l.take i)+Zap l[i]:=by unfold Zai;rw[Zay h,Yai,Ybq];simp
theorem Zh2 {u:Unit} (h:Zcg u=0):0<=Zap u/\Zap u<=38:=by obtain ⟨h1,h2,_,h4⟩:=Ziw h;have:=ZeC h4;unfold Zap;omega
theorem Zm6 {l:List Unit} {i:Nat} (hi:i<=l.length) (h:∀j (hj:j < l.length),j < i->Zcg l[j]=0):0<=Zai (l.take i)/\Zai (l.take i)<=38*i:=by
 induction i with
 | zero=>simp[Zai]
 | succ i ih =>have h1:=ih (by omega) (λj hj hji=>h j hj (by omega));have h2:=Zh2 (h i (by omega) (by omega));rw[Zf2 (by omega)];omega
end Barb
namespace ZN
open Go Go.Dm Go.Eng Barb
theorem Zsq (xs:List (List GV)) (hx:xs.length*16<=140737488351232):CT Tryz.prog gl 82 [.g (.sl 1 xs)] (ZBs xs 9 1):=by refine enter hT hF hM Tryz.func82 rfl 8 rfl (by kernel_rfl) [.tmp 2] rfl [.g (.sl 1 xs)] rfl _ ?_;intro p hp;refine ⟨λh=>⟨rfl,ZmZ rfl (by rw[hp h];rfl)⟩,λh=>?_⟩;refine ⟨[],rfl,rfl,trivial,?_⟩;refine ⟨⟨by simp only[maxLen,List.length_nil];omega,by simp only[List.length_nil];omega⟩,?_⟩;exact ⟨rfl,Zti (ys:=xs) rfl rfl rfl⟩
set_option maxHeartbeats 1000000 in
theorem ZlB (p:List Barb.Unit) (hp:∀v∈p,short v) (hpl:p.length<=9223372036854775807) (u:Barb.Unit) (hu:u.I) (hE:Zcg u=0):CT Tryz.prog gl 63 [.g (.sl 4 (p.map Unit.g)),.agg u.d] (Is (.g (.int (Zgc p u)))):=by
 obtain ⟨hv8,ha3,hf8,_⟩:=Ziw hE;have hsh:=hu.short;obtain ⟨_,_,_,_,hfi,_⟩:=hu;have lv:(u.vars.map ZbP).length=u.vars.length:=by simp
 have la:(u.arrays.map Arr.g).length=u.arrays.length:=by simp
 have lf:(u.funcs.map Fun.g).length=u.funcs.length:=by simp
 have e:Zgc p u=Zgc p u:=rfl
 conv at e=>rhs;unfold Zgc
 refine enter hT hF hM Tryz.func63 rfl 80 rfl (by kernel_rfl) [.tmp 4] rfl [.g (.sl 4 (p.map Unit.g)),.agg u.d] rfl _ ?_;refine ZBm (.inl rfl) (Zsq (u.vars.map ZbP) (by omega)) (λd' h' hq=>?_) (λd' hq=>by cases hq);injection hq with e1 e2;subst e1;subst e2;refine ZaL (ι:=Nat) (λi=>[(21,.g (.int (i:Int))),(5,.row 1),(3,.ptr 0 0)]) (λi=>[.blk u.d 44,.row ((u.vars++(u.arrays.take i).map Arr.name).map ZbP) 9 1]) (λi=>i<=u.arrays.length) (λi=>u.arrays.length - i)
  ⟨0,[.old 0,.old 1],⟨rfl,.inr ⟨⟨rfl,.inl rfl⟩,⟨by simp,rfl,rfl⟩,trivial⟩,.inr ⟨lk rfl,lk rfl,lk rfl,trivial⟩,rfl⟩,Yau _⟩ ?_
 intro Rd hRd i hi;refine ⟨λb0=>?_,λb0=>?_⟩
 ·have b1:i < u.arrays.length:=by omega
  refine ⟨i,_,rfl,gm b1,[[.str u.arrays[i].name]],rfl,rfl,⟨rfl,trivial⟩,?_⟩;refine ⟨⟨by simp only[maxLen,List.length_cons,List.length_nil,Yab,Yae,Yan];omega,by simp only[List.length_cons,List.length_nil,Yab,Yae,Yan];omega⟩,?_⟩;refine ⟨_,I64.wrap (by unfold I64;omega),?_⟩;refine hRd _ _ _ ⟨i+1,[.old 0,.old 4],⟨rfl,.inr ⟨⟨rfl,.inl rfl⟩,⟨?_,rfl,rfl⟩,trivial⟩,.inr ⟨lk rfl,lk rfl,lk rfl,trivial⟩,rfl⟩,b1,by omega⟩;exact ZrG Arr.name b1 u.vars
 have hiE:i=u.arrays.length:=by omega
 subst hiE;rw[YaE];clear hRd hi b0;refine ZaL (ι:=Nat × Nat) (λs=>[(34,.g (.int (s.1:Int))),(8,.row 2),(9,.g (.int (s.2:Int))),(5,.row 1),(3,.ptr 0 0)]) (λs=>[.blk u.d 44,.row ((u.vars++u.arrays.map Arr.name).map ZbP) 9 1,.row (((u.funcs.take s.1).map Fun.name).map ZbP) 9 1]) (λs=>s.1<=u.funcs.length/\s.2<=s.1) (λs=>u.funcs.length - s.1)
  ⟨(0,0),[.old 0,.old 1,.nil 9 1],⟨rfl,.inl rfl,.inr ⟨lk rfl,.inr rfl,lk rfl,lk rfl,lk rfl,trivial⟩,rfl⟩,Yau _,Yax _⟩ ?_
 rintro Rd hRd ⟨i,c⟩ ⟨hi,hc⟩;dsimp only at hi hc;refine ⟨λb0=>?_,λb0=>?_⟩
 ·have b1:i < u.funcs.length:=by omega
  have hrow:((u.funcs.take i).map Fun.name).map ZbP++[[GV.str u.funcs[i].name]]=((u.funcs.take (i+1)).map Fun.name).map ZbP:=Zgk Fun.name b1;cases hb:u.funcs[i].isOpen with
  | true =>refine ⟨i,_,rfl,(gm b1).trans (congrArg some (Fun.g_open hb)),[[.str u.funcs[i].name]],rfl,rfl,⟨rfl,trivial⟩,?_⟩;refine ⟨⟨by simp only[maxLen,List.length_cons,List.length_nil,Yab,Yan];omega,by simp only[List.length_cons,List.length_nil,Yab,Yan];omega⟩,?_⟩;refine ⟨_,I64.wrap (by unfold I64;omega),_,I64.wrap (by unfold I64;omega),?_⟩;exact hRd _ _ _ ⟨(i+1,c+1),[.old 0,.old 1,.old 5],⟨rfl,.inr ⟨⟨rfl,.inl rfl⟩,⟨rfl,rfl,rfl⟩,⟨hrow,rfl,rfl⟩,trivial⟩,.inr ⟨lk rfl,lk rfl,lk rfl,lk rfl,lk rfl,trivial⟩,rfl⟩,⟨b1,by dsimp only;omega⟩,by dsimp only;omega⟩
  | false =>refine ⟨i,_,rfl,(gm b1).trans (congrArg some (Fun.g_open hb)),[[.str u.funcs[i].name]],rfl,rfl,⟨rfl,trivial⟩,?_⟩;refine ⟨⟨by simp only[maxLen,List.length_cons,List.length_nil,Yab,Yan];omega,by simp only[List.length_cons,List.length_nil,Yab,Yan];omega⟩,?_⟩;refine ⟨_,I64.wrap (by unfold I64;omega),?_⟩;exact hRd _ _ _ ⟨(i+1,c),[.old 0,.old 1,.old 5],⟨rfl,.inr ⟨⟨rfl,.inl rfl⟩,⟨rfl,rfl,rfl⟩,⟨hrow,rfl,rfl⟩,trivial⟩,.inr ⟨lk rfl,lk rfl,lk rfl,lk rfl,lk rfl,trivial⟩,rfl⟩,⟨b1,by dsimp only;omega⟩,by dsimp only;omega⟩
 have hiE:i=u.funcs.length:=by omega
 subst hiE;rw[YaE];clear hRd hi b0;refine Zae (.inl rfl) (ZgH (u.vars++u.arrays.map Arr.name) (by simp only[Yae,Yab];omega)) ⟨λd1=>⟨rfl,ZbQ (by rw[e,if_pos (.inl d1)])⟩,λd1=>?_⟩;refine Zae (.inl rfl) (ZgH (u.funcs.map Fun.name) (by simp only[Yab];omega)) ⟨λd2=>⟨rfl,ZbQ (by rw[e,if_pos (.inr d2)])⟩,λd2=>⟨λd3=>absurd d3 (by omega),λ_=>?_⟩⟩;rw[if_neg (λh=>h.elim d1 d2)] at e;refine ZaL (ι:=Nat) (λi=>[(61,.g (.int (i:Int))),(3,.ptr 0 0)]) (λ_=>[.blk u.d 44]) (λi=>i<=u.funcs.length/\∀j (hj:j < u.funcs.length),j < i->Zuk p u u.funcs[j]=0) (λi=>u.funcs.length - i)
  ⟨0,[.old 0],⟨rfl,.inl rfl,.inr ⟨lk rfl,lk rfl,trivial⟩,rfl⟩,Yau _,ZfT⟩ ?_
 intro Rd hRd i ⟨hi,ha⟩;refine ⟨λb0=>?_,λb0=>⟨rfl,ZbQ (by rw[e,Za0 (by omega) ha])⟩⟩;have b1:i < u.funcs.length:=by omega
 have fin:∀v:Int,v≠0->Zuk p u u.funcs[i]=v->Zgc p u=v:=λv hv h=>by rw[e,ZaV b1 ha (by rw[h];exact hv),h]
 have next:Zuk p u u.funcs[i]=0->∀j (hj:j < u.funcs.length),j < i+1->Zuk p u u.funcs[j]=0:=λh0=>ZaO b1 ha h0
 obtain ⟨_,⟨_,fpl⟩,fbl,fbI⟩:=hfi _ (Yah b1);refine ⟨i,_,rfl,(gm b1).trans (congrArg some (Fun.g_eq _)),?_⟩;have ef:Zuk p u u.funcs[i]=if Zk1 u.funcs[i].params then 6 else Zbg p u u.funcs[i] u.funcs[i].body:=rfl;generalize u.funcs[i]=f at *;refine Zae (.inl rfl) (ZgH f.params (by omega)) ⟨λd4=>⟨rfl,ZbQ (fin 6 (by decide) (by rw[ef,if_pos d4])).symm⟩,λd4=>?_⟩;rw[if_neg d4] at ef;refine Zae (.inl rfl) (ZoG p hp hpl u hsh f (by omega) _ f.body (Yb0 _) fbI fbl) ?_;refine ⟨λd5=>⟨rfl,ZbQ (fin _ d5 ef).symm⟩,λd5=>⟨_,I64.wrap (by unfold I64;omega),?_⟩⟩;exact hRd _ _ _ ⟨i+1,[.old 0],⟨rfl,.inl rfl,.inr ⟨lk rfl,lk rfl,trivial⟩,rfl⟩,⟨b1,next (by rw[ef,d5])⟩,by omega⟩
end ZN
namespace Barb
def Zj7 (p:List Unit):Prop:=(∀u∈p,u.I)/\p.length<=9223372036854775807
end Barb
namespace ZN
open Go Go.Dm Go.Eng Barb
set_option maxHeartbeats 1000000 in
theorem Zef (p:List Barb.Unit) (hp:Zj7 p):CT Tryz.prog gl 40 [.g (.sl 4 (p.map Unit.g))] (Is (.g (.int (Zbd p)))):=by
 obtain ⟨hI,hpl⟩:=hp;have lp:(p.map Unit.g).length=p.length:=by simp
 have hsh:∀v∈p,short v:=λv hv=>(hI v hv).short;have e:Zbd p=Zbd p:=rfl
 conv at e=>rhs;unfold Zbd
 refine enter hT hF hM Tryz.func40 rfl 52 rfl (by kernel_rfl) [.tmp 2] rfl [.g (.sl 4 (p.map Unit.g))] rfl _ ?_;refine ⟨λh=>⟨rfl,ZbQ (by rw[e,if_pos (by omega)])⟩,λh=>?_⟩;rw[if_neg (by omega)] at e;refine ZaL (ι:=Nat) (λi=>[(16,.g (.int (i:Int))),(3,.row 0),(4,.g (.int (Zai (p.take i))))]) (λi=>[.row (((p.take i).map Unit.name).map ZbP) 9 1]) (λi=>i<=p.length/\∀j (hj:j < p.length),j < i->Zcg p[j]=0) (λi=>p.length - i)
  ⟨0,[.nil 9 1],⟨rfl,.inl rfl,.inr ⟨lk rfl,.inr rfl,lk rfl,trivial⟩,rfl⟩,Yau _,ZfT⟩ ?_
 intro Rd hRd i ⟨hi,ha⟩;have hw:=Zm6 hi ha;refine ⟨λb0=>?_,λb0=>?_⟩
 ·have b1:i < p.length:=by omega
  refine ⟨i,_,rfl,gm b1,?_⟩;refine Zae (.inl rfl) (Zmj p[i] (hI _ (Yah _))) ⟨λb2=>⟨rfl,ZbQ ?_⟩,λb2=>?_⟩
  ·rw[e,ZaV b1 ha b2,if_pos b2]
  refine ⟨[[.str p[i].name]],rfl,rfl,⟨rfl,trivial⟩,?_⟩;refine ⟨⟨by simp only[maxLen,List.length_cons,List.length_nil,Yab,Yan];omega,by simp only[List.length_cons,List.length_nil,Yab,Yan];omega⟩,?_⟩;obtain ⟨w1,w2,_,w4⟩:=Ziw b2;have w5:=Zh2 b2;refine Zae (.inl rfl) (Zj6 p[i] w1 w4 w2) ⟨_,I64.wrap (by unfold I64;omega),_,I64.wrap (by unfold I64;omega),?_⟩;exact hRd _ _ _ ⟨i+1,[.old 3],⟨rfl,.inr ⟨⟨Zgk Unit.name b1,rfl,rfl⟩,trivial⟩,.inr ⟨lk rfl,lk rfl,lkI (Zf2 b1).symm,trivial⟩,rfl⟩,⟨b1,ZaO b1 ha b2⟩,by omega⟩
 have hiE:i=p.length:=by omega
 have hz:Zah Zcg p=0:=Za0 (by omega) ha;rw[if_neg (λh=>h hz)] at e;subst hiE;rw[YaE] at *;clear hRd;refine Zae (.inl rfl) (ZgH (p.map Unit.name) (by simp only[Yab];omega)) ⟨λd1=>⟨rfl,ZbQ (by rw[e,if_pos d1])⟩,λd1=>?_⟩;rw[if_neg d1] at e;refine ⟨λd2=>⟨rfl,ZbQ (by rw[e,if_pos d2])⟩,λd2=>?_⟩;rw[if_neg d2] at e;refine ZaL (ι:=Nat) (λi=>[(41,.g (.int (i:Int)))]) (λ_=>[]) (λi=>i<=p.length/\∀j (hj:j < p.length),j < i->Zgc p p[j]=0) (λi=>p.length - i)
  ⟨0,[],⟨rfl,.inl rfl,.inr ⟨lk rfl,trivial⟩,rfl⟩,Yau _,ZfT⟩ ?_
 intro Rd hRd i ⟨hi,hs⟩;refine ⟨λc0=>?_,λc0=>⟨rfl,ZbQ (by rw[e,Za0 (by omega) hs])⟩⟩;have c1:i < p.length:=by omega
 refine ⟨i,_,rfl,gm c1,?_⟩;refine Zae (.inl rfl) (ZlB p hsh hpl p[i] (hI _ (Yah _)) (ha i c1 (by omega))) ?_;refine ⟨λc2=>⟨rfl,ZbQ (by rw[e,ZaV c1 hs c2])⟩,λc2=>⟨_,I64.wrap (by unfold I64;omega),?_⟩⟩;exact hRd _ _ _ ⟨i+1,[],⟨rfl,.inl rfl,.inr ⟨lk rfl,trivial⟩,rfl⟩,⟨c1,ZaO c1 hs c2⟩,by omega⟩
end ZN
namespace Go.Dm
open Go Go.Eng Go.RowKit Barb
theorem ZAn {h:Zad} {k:Nat} {e e':Int} {xs:List (List GV)} (he:e=e') (hx:xs=[]):Zbk (Is (.tuple [.g (.sl k xs),.g (.int e')])) h (.tuple [.nils,.g (.int e)]):=by subst he;subst hx;exact Zbl (.inr (.inr ⟨Zg0,lk rfl,trivial⟩))
theorem ZAm {h:Zad} {i:Nat} {k:Nat} {e e':Int} {xs ys:List (List GV)} {t:TypeId} (hi:h[i]?=some (.row xs t k)) (he:e=e') (hx:xs=ys):Zbk (Is (.tuple [.g (.sl k ys),.g (.int e')])) h (.tuple [.row i,.g (.int e)]):=by subst he;subst hx;refine Zbl (.inl ?_);simp only[conv,Yar,YaS,kp,hi]
end Go.Dm
namespace ZN
open Go Go.Dm Go.Eng Barb
end ZN
namespace Barb
open Go Go.Dm Go.Eng ZN
theorem Zbh:∀(n:Nat) (l:List Stmt),0<=Zam n l
 | 0,_=>Ybo _
 | n+1,l=>by
  have h:∀l:List Stmt,0<=(l.map (Zja (Zam n))).sum:=λl=>by
   induction l with
   | nil=>simp
   | cons x l ih =>obtain ⟨k,s,xs,b,e⟩:=x;have h1:=Zbh n b;have h2:=Zbh n e;simp only[Yar,List.sum_cons,Zja];omega
  have:=h l;simp only[Zam];omega
def noX:Expr:=.mk 0 0 [] [] []
theorem ZcN {n:Nat} {x:Expr} (h:ZaN (n+1) x=0):(1<=x.k/\x.k<=5)/\x.args.length<=4/\Zbp x.k x.n x.of x.s x.args.length/\¬ZaR x.k x.n/\∀y∈x.args,ZaN n y=0:=by
 rw[ZhO] at h;by_cases h1:¬(1<=x.k/\x.k<=5)
 ·rw[if_pos h1] at h;omega
 rw[if_neg h1] at h;by_cases h2:4 < x.args.length
 ·rw[if_pos h2] at h;omega
 rw[if_neg h2] at h;by_cases h3:¬Zbp x.k x.n x.of x.s x.args.length
 ·rw[if_pos h3] at h;omega
 rw[if_neg h3] at h;by_cases h4:ZaR x.k x.n
 ·rw[if_pos h4] at h;omega
 rw[if_neg h4] at h;exact ⟨Yam.1 h1,by omega,Yam.1 h3,h4,Zak h⟩
theorem Zhb {p:List Unit} {u:Unit} {f:Fun} {x:Expr} (h:ZbF p u f x=0):Za3 p u f x.k x.of x.s x.args.length=0/\∀y∈x.args,ZbF p u f y=0:=by
 obtain ⟨k,n,of,s,args⟩:=x;rw[ZbF] at h;by_cases h1:Za3 p u f k of s args.length≠0
 ·rw[if_pos h1] at h;exact absurd h h1
 rw[if_neg h1,ZbH] at h;exact ⟨Yam.1 h1,Zak h⟩
theorem ZnI {α:Type} {q:α->Prop} [DecidablePred q] {l:List α} {x:α} (h:l.find? (λy=>decide (q y))=some x):∃(i:Nat) (hi:i < l.length),idx q l=(i:Int)/\l[i]=x:=by
 rcases Zbx q l with ⟨_,h2⟩ | ⟨i,hi,h1,h2,h3⟩
 ·have:=Ycx h;have hq:=List.find?_some h;exact absurd (of_decide_eq_true hq) (h2 x this)
 ·refine ⟨i,hi,h1,?_⟩;have h4:l.find? (λy=>decide (q y))=some l[i]:=by rw[Ycm];exact ⟨decide_eq_true h2,i,hi,rfl,λj hj=>by simp;exact h3 j (by omega) hj⟩
  rw[h4] at h;exact Ya5 h
theorem Zcs {to:Unit} {of s:Str} {m:Nat} (h:calledIn to of s m=0):∃(i:Nat) (hi:i < to.funcs.length),Zbz to s=(i:Int)/\to.funcs[i].params.length=m/\(of≠[]->to.funcs[i].isOpen=true)/\to.funcs[i].name=s:=by
 unfold calledIn at h;split at h
 ·exact absurd h (by decide)
 ·rename_i g hg;obtain ⟨i,hi,h1,h2⟩:=ZnI (q:=λf:Fun=>f.name=s) hg;have hn:g.name=s:=by have:=List.find?_some hg;simpa using this
  subst h2;by_cases h3:of≠[]/\to.funcs[i].isOpen=false
  ·rw[if_pos h3] at h;exact absurd h (by decide)
  rw[if_neg h3] at h;by_cases h4:to.funcs[i].params.length≠m
  ·rw[if_pos h4] at h;exact absurd h (by decide)
  refine ⟨i,hi,h1,Yam.1 h4,λho=>?_,hn⟩;cases hb:to.funcs[i].isOpen with
  | true=>rfl
  | false=>exact absurd ⟨ho,hb⟩ h3
theorem ZeQ {p:List Unit} {u:Unit} {of s:Str} {m:Nat} (h:Za1 p u of s m=0) (ho:of≠[]):∃(i:Nat) (hi:i < p.length),Zba p of=(i:Int)/\calledIn p[i] of s m=0:=by
 unfold Za1 at h;rw[if_neg ho] at h;split at h
 ·exact absurd h (by decide)
 ·rename_i v hv;obtain ⟨i,hi,h1,h2⟩:=ZnI (q:=λu:Unit=>u.name=of) hv;subst h2;exact ⟨i,hi,h1,h⟩
theorem Zb3 {f:List Stmt->Int} {x:Stmt} (h:ZcZ f x=0):(1<=x.k/\x.k<=6)/\Zdr x.k x.s x.xs.length x.b.length x.e.length/\(∀y∈x.xs,ZaN 12 y=0)/\f x.b=0/\f x.e=0:=by
 rw[Zjb] at h;by_cases h1:¬(1<=x.k/\x.k<=6)
 ·rw[if_pos h1] at h;omega
 rw[if_neg h1] at h;by_cases h2:¬Zdr x.k x.s x.xs.length x.b.length x.e.length
 ·rw[if_pos h2] at h;omega
 rw[if_neg h2] at h;by_cases h3:Zah (ZaN 12) x.xs≠0
 ·rw[if_pos h3] at h;exact absurd h h3
 rw[if_neg h3] at h;by_cases h4:f x.b≠0
 ·rw[if_pos h4] at h;exact absurd h h4
 rw[if_neg h4] at h;exact ⟨Yam.1 h1,Yam.1 h2,Zak (Yam.1 h3),Yam.1 h4,h⟩
theorem ZgM {p:List Unit} {u:Unit} {f:Fun} {x:Stmt} (h:ZdW p u f x=0):¬((x.k=1/\¬Zi5 u f x.s)\/(x.k=2/\¬ZiU u x.s))/\(∀y∈x.xs,ZbF p u f y=0)/\Zbg p u f x.b=0/\Zbg p u f x.e=0:=by
 obtain ⟨k,s,xs,b,e⟩:=x;rw[ZdW] at h;by_cases h1:(k=1/\¬Zi5 u f s)\/(k=2/\¬ZiU u s)
 ·rw[if_pos h1] at h;omega
 rw[if_neg h1] at h;by_cases h3:Zd4 p u f xs≠0
 ·rw[if_pos h3] at h;exact absurd h h3
 rw[if_neg h3] at h;by_cases h4:Zbg p u f b≠0
 ·rw[if_pos h4] at h;exact absurd h h4
 rw[if_neg h4] at h;exact ⟨h1,Zak (by rw[<- ZbH];exact Yam.1 h3),Yam.1 h4,h⟩
theorem Zca (n:Nat):Zam n []=0:=by cases n<;>simp[Zam]
theorem Zbq (n:Nat) (x:Stmt) (l:List Stmt):Zam (n+1) (x :: l)=1+(Zam n x.b+Zam n x.e)+Zam (n+1) l:=by obtain ⟨k,s,xs,b,e⟩:=x;simp only[Zam,Yar,List.sum_cons,List.length_cons,Zja,Stmt.b,Stmt.e];omega
theorem Za5 {p:List Unit} (h:Zbd p=0):p.length<=5/\(∀u∈p,Zcg u=0)/\Zai p<=250/\∀u∈p,Zgc p u=0:=by
 unfold Zbd at h;by_cases h1:5 < p.length
 ·rw[if_pos h1] at h;omega
 rw[if_neg h1] at h;by_cases h2:Zah Zcg p≠0
 ·rw[if_pos h2] at h;exact absurd h h2
 rw[if_neg h2] at h;by_cases h3:Zk1 (p.map Unit.name)
 ·rw[if_pos h3] at h;omega
 rw[if_neg h3] at h;by_cases h4:250 < Zai p
 ·rw[if_pos h4] at h;omega
 rw[if_neg h4] at h;exact ⟨by omega,Zak (Yam.1 h2),by omega,Zak h⟩
theorem Zne {s:Str} (h:ZdL s=0):Zaw s:=by
 unfold ZdL at h;by_cases h1:Zaw s
 ·exact h1
 ·rw[if_neg h1] at h;omega
theorem Zd6 {a:Arr} (h:Zoa a=0):Zaw a.name/\1<=a.size/\a.size<=10:=by
 unfold Zoa at h;by_cases h1:¬Zaw a.name
 ·rw[if_pos h1] at h;omega
 rw[if_neg h1] at h;by_cases h2:¬(1<=a.size/\a.size<=10)
 ·rw[if_pos h2] at h;omega
 exact ⟨Yam.1 h1,by omega,by omega⟩
theorem ZbL {f:Fun} (h:ZlX f=0):Zaw f.name/\f.params.length<=4/\(∀s∈f.params,Zaw s)/\Zan 12 f.body=0:=by
 unfold ZlX at h;by_cases h1:¬Zaw f.name
 ·rw[if_pos h1] at h;omega
 rw[if_neg h1] at h;by_cases h2:4 < f.params.length
 ·rw[if_pos h2] at h;omega
 rw[if_neg h2] at h;by_cases h3:Zah ZdL f.params≠0
 ·rw[if_pos h3] at h;exact absurd h h3
 rw[if_neg h3] at h;exact ⟨Yam.1 h1,by omega,λs hs=>Zne (Zak (Yam.1 h3) s hs),h⟩
theorem Zau {u:Unit} (h:Zcg u=0):Zaw u.name/\u.vars.length<=8/\u.arrays.length<=3/\u.funcs.length<=8/\(∀s∈u.vars,Zaw s)/\(∀a∈u.arrays,Zoa a=0)/\∀f∈u.funcs,ZlX f=0:=by
 unfold Zcg at h;by_cases h1:¬Zaw u.name
 ·rw[if_pos h1] at h;omega
 rw[if_neg h1] at h;by_cases h2:8 < u.vars.length\/3 < u.arrays.length\/8 < u.funcs.length
 ·rw[if_pos h2] at h;omega
 rw[if_neg h2] at h;by_cases h3:Zah ZdL u.vars≠0
 ·rw[if_pos h3] at h;exact absurd h h3
 rw[if_neg h3] at h;by_cases h4:Zah Zoa u.arrays≠0
 ·rw[if_pos h4] at h;exact absurd h h4
 rw[if_neg h4] at h;by_cases h5:Zah ZlX u.funcs≠0
 ·rw[if_pos h5] at h;exact absurd h h5
 exact ⟨Yam.1 h1,by omega,by omega,by omega,λs hs=>Zne (Zak (Yam.1 h3) s hs),Zak (Yam.1 h4),Zak (Yam.1 h5)⟩
theorem Zi6 {p:List Unit} {u:Unit} (h:Zgc p u=0):∀f∈u.funcs,Zbg p u f f.body=0:=by
 unfold Zgc at h;by_cases h1:Zk1 (u.vars++u.arrays.map Arr.name)\/Zk1 (u.funcs.map Fun.name)
 ·rw[if_pos h1] at h;omega
 rw[if_neg h1] at h;intro f hf;have h2:=Zak h f hf;unfold Zuk at h2;by_cases h3:Zk1 f.params
 ·rw[if_pos h3] at h2;omega
 rw[if_neg h3] at h2;exact h2
theorem ZdA {s:Str} (h:Zaw s):s.length<=8:=h.1.1.2
theorem Zus:∀(n:Nat) (x:Expr),ZaN n x=0->x.I
 | 0,.mk _ _ _ _ _,h=>by rw[ZaN] at h;exact absurd h (by decide)
 | n+1,.mk k v of s args,h=>by
  obtain ⟨hk,h4,hok,hbad,hx⟩:=ZcN h;dsimp only[Expr.k,Expr.n,Expr.of,Expr.s,Expr.args] at hk h4 hok hbad hx;unfold Zbp at hok;unfold ZaR at hbad;have hv:I64 v:=by unfold I64;omega
  have ho:of.length<=maxLen:=by
   unfold maxLen;rcases hok with ⟨_,e,_⟩ | ⟨_,e,_⟩ | ⟨_,e,_⟩ | ⟨_,e,_⟩ | ⟨_,e,_⟩
   ·subst e;simp
   ·subst e;simp
   ·subst e;simp
   ·rcases e with e | e
    ·subst e;simp
    ·have:=ZdA e;omega
   ·subst e;simp
  have hs:s.length<=maxLen:=by
   unfold maxLen;rcases hok with ⟨_,_,e,_⟩ | ⟨_,_,e,_⟩ | ⟨_,_,e,_⟩ | ⟨_,_,e,_⟩ | ⟨_,_,e,_⟩
   ·subst e;simp
   ·have:=ZdA e;omega
   ·have:=ZdA e;omega
   ·have:=ZdA e;omega
   ·subst e;simp
  exact .mk (by unfold I64;omega) hv ho hs (by omega) (λy hy=>Zus n y (hx y hy))
theorem ZiC:∀(n:Nat) (l:List Stmt),Zan n l=0->Zam n l<=300->(l.length<=300/\∀x∈l,x.I)
 | 0,_,h,_=>by rw[Zan] at h;exact absurd h (by decide)
 | n+1,l,h,hN=>by
  rw[Zan] at h;have e:=Zak h;clear h;have key:∀l:List Stmt,(∀x∈l,ZcZ (Zan n) x=0)->Zam (n+1) l<=300->((l.length:Int)<=Zam (n+1) l)/\∀x∈l,x.I:=by
   intro l
   induction l with
   | nil=>intro _ _;exact ⟨by rw[Zca];simp,λx hx=>by simp at hx⟩
   | cons x l il =>
    intro e hN;rw[Zbq] at hN ⊢;have p1:=Zbh n x.b;have p2:=Zbh n x.e;have p3:=Zbh (n+1) l;obtain ⟨i1,i2⟩:=il (λy hy=>e y (Yad _ hy)) (by omega);refine ⟨by rw[List.length_cons];omega,λy hy=>?_⟩;rcases Yav.1 hy with rfl | hy
    ·obtain ⟨hk,hok,hxE,hbE,heE⟩:=Zb3 (e y Yac);obtain ⟨c1,c2⟩:=ZiC n y.b hbE (by omega);obtain ⟨d1,d2⟩:=ZiC n y.e heE (by omega);unfold Zdr at hok;have hs:y.s.length<=maxLen:=by
      unfold maxLen;by_cases k2:y.k<=2
      ·have:=ZdA (hok.1.1 k2);omega
      ·rw[hok.1.2.1 (by omega)];simp
     obtain ⟨k,s,xs,b,ee⟩:=y;exact .mk (by dsimp only[Stmt.k] at hk;unfold I64;omega) hs (by dsimp only[Stmt.k,Stmt.xs] at hok;omega) (by dsimp only[Stmt.b] at c1;omega) (by dsimp only[Stmt.e] at d1;omega) (λx hx=>Zus 12 x (hxE x hx)) c2 d2
    ·exact i2 y hy
  obtain ⟨k1,k2⟩:=key l e hN;exact ⟨by omega,k2⟩
theorem ZgY:∀(l:List Fun),(∀f∈l,Zam 12 f.body<=Zdg l)/\0<=Zdg l
 | []=>⟨λf hf=>by simp at hf,by simp[Zdg]⟩
 | f :: l=>by
  obtain ⟨h1,h2⟩:=ZgY l;have h3:=Zbh 12 f.body;have e:Zdg (f :: l)=Zam 12 f.body+Zdg l:=by simp[Zdg]
  rw[e];refine ⟨λg hg=>?_,by omega⟩;rcases Yav.1 hg with rfl | hg
  ·omega
  ·have:=h1 g hg;omega
def Zsu (p:List Unit):Prop:=∀u∈p,Zdg u.funcs<=300
theorem Zjo {p:List Unit} (h:Zbd p=0) (hN:Zsu p):Zj7 p:=by
 obtain ⟨h1,h2,_,_⟩:=Za5 h;refine ⟨λu hu=>?_,by omega⟩;obtain ⟨a0,a1,a2,a3,a6,a4,a5⟩:=Zau (h2 u hu);have m8:∀{s:Str},Zaw s->s.length<=maxLen:=λhs=>by have:=ZdA hs;unfold maxLen;omega
 refine ⟨m8 a0,⟨λs hs=>m8 (a6 s hs),by omega⟩,λa ha=>?_,by omega,λf hf=>?_,by omega⟩
 ·obtain ⟨b1,b2⟩:=Zd6 (a4 a ha);exact ⟨m8 b1,by unfold I64;omega⟩
 ·obtain ⟨b0,b1,b2,b3⟩:=ZbL (a5 f hf);have h3:=(ZgY u.funcs).1 f hf;have h4:=hN u hu;obtain ⟨c1,c2⟩:=ZiC 12 f.body b3 (by omega);exact ⟨m8 b0,⟨λs hs=>m8 (b2 s hs),by omega⟩,by omega,c2⟩
abbrev noU:Unit:=⟨[],[],[],[]⟩
theorem ZiP {f:Fun} (h1:Zaw f.name) (h2:f.params.length<=4) (h3:∀s∈f.params,Zaw s) (h4:Zan 12 f.body=0):ZlX f=0:=by unfold ZlX;have h5:Zah ZdL f.params=0:=Zal (λs hs=>by unfold ZdL;rw[if_pos (h3 s hs)]);rw[if_neg (λh=>h h1),if_neg (by omega),if_neg (λh=>h h5)];exact h4
end Barb
namespace Barb
open Go Go.Dm Go.Eng
def ZdE (l:List Int) (n:Int):Prop:=(l.length:Int)=n/\∀x∈l,0<=x/\x<=65535
def Zcc (u:Unit) (c:Cells):Prop:=(ZdE c.vars u.vars.length/\c.arrays.length=u.arrays.length)/\∀k (h:k < c.arrays.length) (h':k < u.arrays.length),ZdE c.arrays[k] u.arrays[k].size
def ZbN (p:List Unit) (cs:List Cells):Prop:=∀i (h:i < cs.length) (h':i < p.length),Zcc p[i] cs[i]
noncomputable def Zds (p:List Unit) (cs:List Cells):Int:=if Zbd p≠0 then Zbd p else if ¬(cs.length=p.length) then 8 else @ite _ (ZbN p cs) (Classical.propDecidable _) 0 8
theorem ZrA {p:List Unit} (h:Zbd p=0):p.length<=5/\∀u∈p,Zcg u=0:=by
 unfold Zbd at h;by_cases h5:5 < p.length
 ·rw[if_pos h5] at h;omega
 ·rw[if_neg h5] at h;by_cases h1:Zah Zcg p≠0
  ·rw[if_pos h1] at h;exact absurd h h1
  ·exact ⟨by omega,Zak (Yam.1 h1)⟩
theorem ZuK {p:List Unit} {cs:List Cells} {i:Nat} (hp:Zbd p=0) (hl:cs.length=p.length) (h:i < cs.length) (h':i < p.length) (hb:¬Zcc p[i] cs[i]):Zds p cs=8:=by unfold Zds;rw[if_neg (λh=>h hp),if_neg (λh=>h hl),if_neg (λhc=>hb (hc i h h'))]
theorem ZfM {p:List Unit} {cs:List Cells} (hp:Zbd p=0) (hl:cs.length=p.length) (hc:ZbN p cs):Zds p cs=0:=by unfold Zds;rw[if_neg (λh=>h hp),if_neg (λh=>h hl),if_pos hc]
theorem Zfp {p:List Unit} {cs:List Cells} (h:Zds p cs=0):Zbd p=0/\cs.length=p.length/\ZbN p cs:=by
 unfold Zds at h;by_cases hp:Zbd p≠0
 ·rw[if_pos hp] at h;exact absurd h hp
 ·rw[if_neg hp] at h;by_cases hl:¬(cs.length=p.length)
  ·rw[if_pos hl] at h;omega
  ·rw[if_neg hl] at h;refine ⟨Yam.1 hp,Yam.1 hl,YaG λhc=>?_⟩;rw[if_neg hc] at h;omega
end Barb
namespace ZN
open Go Go.Dm Go.Eng Barb
theorem Zv7 (n:Int):CT Tryz.prog gl 45 [.g (.int n)] (Is (.pb (¬(0<=n/\n<=65535)))):=by refine enter hT hF hM Tryz.func45 rfl 6 rfl (by kernel_rfl) [.tmp 2] rfl [.g (.int n)] rfl _ ?_;exact Zae (.inl rfl) (Zlb n) ⟨rfl,Zyz Ybg⟩
theorem Zwk (l:List Int) (hl:l.length<=9223372036854775807):CT Tryz.prog gl 50 [.g (.sl 1 (l.map Zat)),.fn 45 [] []] (Is (.g (.int (idx (λn:Int=>¬(0<=n/\n<=65535)) l)))):=by
 have ll:(l.map Zat).length=l.length:=by simp
 refine enter hT hF hM Tryz.func50 rfl 19 rfl (by kernel_rfl) [.tmp 4] rfl [.g (.sl 1 (l.map Zat)),.fn 45 [] []] rfl _ ?_;refine ZaL (ι:=Nat) (λi=>[(8,.g (.int (i:Int)))]) (λ_=>[]) (λi=>i<=l.length/\∀j (hj:j < l.length),j < i->¬(λn:Int=>¬(0<=n/\n<=65535)) l[j]) (λi=>l.length - i)
  ⟨0,[],⟨rfl,.inl rfl,.inr ⟨lk rfl,trivial⟩,rfl⟩,Yau _,Zhg (q:=λn:Int=>¬(0<=n/\n<=65535))⟩ ?_
 intro Rd hRd i ⟨hi,ha⟩;refine ⟨λh=>?_,λh=>?_⟩
 ·have h1:i < l.length:=by omega
  refine ⟨i,_,rfl,gm h1,?_⟩;refine Zae (.inl rfl) (Zv7 l[i]) ?_;refine ⟨λh2=>⟨rfl,ZbQ (Zf6 (q:=λn:Int=>¬(0<=n/\n<=65535)) h1 ha h2).symm⟩,λh2=>⟨_,I64.wrap (by unfold I64;omega),?_⟩⟩;exact hRd _ _ _ ⟨i+1,[],⟨rfl,.inl rfl,.inr ⟨lk rfl,trivial⟩,rfl⟩,⟨h1,ZcS (q:=λn:Int=>¬(0<=n/\n<=65535)) h1 ha h2⟩,by omega⟩
 ·exact ⟨rfl,ZbQ (Zf5 (Zdw (q:=λn:Int=>¬(0<=n/\n<=65535)) (by omega) ha)).symm⟩
theorem Zwr (l:List Int) (hl:l.length<=9223372036854775807):CT Tryz.prog gl 26 [.g (.sl 1 (l.map Zat)),.fn 45 [] []] (Is (.pb (∃n∈l,¬(0<=n/\n<=65535)))):=by
 refine enter hT hF hM Tryz.func26 rfl 9 rfl (by kernel_rfl) [.tmp 4] rfl [.g (.sl 1 (l.map Zat)),.fn 45 [] []] rfl _ ?_;refine Zae (.inl rfl) (Zwk l hl) ⟨rfl,ZmY ?_⟩;rcases Zbx (λn:Int=>¬(0<=n/\n<=65535)) l with ⟨h1,h2⟩ | ⟨i,hi,h1,h2,h3⟩
 ·rw[h1];exact ⟨λh=>absurd h (by decide),λ⟨c,hc,ho⟩=>absurd ho (h2 c hc)⟩
 ·rw[h1];exact ⟨λ_=>⟨l[i],Yah _,h2⟩,λ_=>by omega⟩
theorem ZiZ (l:List Int) (hl:l.length<=9223372036854775807) (n:Int):CT Tryz.prog gl 21 [.g (.sl 1 (l.map Zat)),.g (.int n)] (Is (.pb (ZdE l n))):=by
 have ll:(l.map Zat).length=l.length:=by simp
 refine enter hT hF hM Tryz.func21 rfl 14 rfl (by kernel_rfl) [.tmp 4] rfl [.g (.sl 1 (l.map Zat)),.g (.int n)] rfl _ ?_;refine ⟨λh=>Zae (.inl rfl) (Zwr l hl) ⟨rfl,Zyz ⟨λh1=>⟨by rw[<- ll];exact h,λx hx=>YaG λh2=>h1 ⟨x,hx,h2⟩⟩,λh1 ⟨x,hx,h2⟩=>h2 (h1.2 x hx)⟩⟩,λh=>⟨rfl,Zvg (λh1=>h (by rw[ll];exact h1.1))⟩⟩
set_option maxRecDepth 20000 in
set_option maxHeartbeats 1000000 in
theorem Zfy (p:List Barb.Unit) (hp:Zj7 p) (cs:List Cells) (hI:∀c∈cs,Cells.I c) (hl:cs.length*48<=140737488351232):CT Tryz.prog gl 18 [.g (.sl 4 (p.map Unit.g)),.g (.sl 2 (cs.map Cells.g))] (Is (.g (.int (Zds p cs)))):=by
 have lp:(p.map Unit.g).length=p.length:=by simp
 have lc:(cs.map Cells.g).length=cs.length:=by simp
 refine enter hT hF hM Tryz.func18 rfl 71 rfl (by kernel_rfl) [.tmp 4] rfl [.g (.sl 4 (p.map Unit.g)),.g (.sl 2 (cs.map Cells.g))] rfl _ ?_;refine Zae (.inl rfl) (Zef p hp) ⟨λh=>⟨rfl,ZbQ (by unfold Zds;rw[if_pos h])⟩,λhE=>?_⟩;refine ⟨λh=>⟨rfl,ZbQ (by unfold Zds;rw[if_neg (λh'=>h' hE),if_pos (by omega)])⟩,λh=>?_⟩;have hlen:cs.length=p.length:=by omega
 refine ZaL (ι:=Nat) (λi=>[(22,.g (.int (i:Int)))]) (λ_=>[]) (λi=>i<=cs.length/\∀j (hj:j < cs.length) (hj':j < p.length),j < i->Zcc p[j] cs[j]) (λi=>cs.length - i)
  ⟨0,[],⟨rfl,.inl rfl,.inr ⟨lk rfl,trivial⟩,rfl⟩,Yau _,λj _ _ h=>absurd h (YbA j)⟩ ?_
 intro Rd hRd i ⟨hi,ha⟩;refine ⟨λb0=>?_,λb0=>⟨rfl,ZbQ (ZfM hE hlen (λj hj hj'=>ha j hj hj' (by omega))).symm⟩⟩;have b1:i < cs.length:=by omega
 have b1':i < p.length:=by omega
 obtain ⟨⟨_,hv⟩,hai,hal⟩:=hI _ (Yah b1);have bad:¬Zcc p[i] cs[i]->Zds p cs=8:=ZuK hE hlen b1 b1';have next:Zcc p[i] cs[i]->∀j (hj:j < cs.length) (hj':j < p.length),j < i+1->Zcc p[j] cs[j]:=λh0 j hj hj' hji=>by
  by_cases e:j=i
  ·subst e;exact h0
  ·exact ha j hj hj' (by omega)
 refine ⟨i,_,rfl,gm b1,?_⟩;have gp:=gm (f:=Unit.g) b1';generalize cs[i]=c at *;generalize p[i]=u at *;have lv:(u.vars.map ZbP).length=u.vars.length:=by simp
 have la:(u.arrays.map Arr.g).length=u.arrays.length:=by simp
 have lca:(c.arrays.map ZhF).length=c.arrays.length:=by simp
 refine ⟨none,rfl,i,_,rfl,gp,?_⟩;refine ⟨_,_,.inl rfl,ZiZ c.vars (by omega) _,rfl,?_⟩;refine ⟨λh1=>⟨rfl,ZbQ (bad (λh2=>h1 (by rw[lv];exact h2.1.1))).symm⟩,λh1=>?_⟩;refine ⟨i,_,rfl,gp,?_⟩;refine ⟨λh2=>⟨rfl,ZbQ (bad (λh3=>h2 (by rw[la,lca];exact congrArg _ h3.1.2))).symm⟩,λh2=>?_⟩;have hca:c.arrays.length=u.arrays.length:=by omega
 refine ZaL (ι:=Nat) (λk=>[(52,.g (.int (k:Int)))]) (λ_=>[]) (λk=>k<=c.arrays.length/\∀j (hj:j < c.arrays.length) (hj':j < u.arrays.length),j < k->ZdE c.arrays[j] u.arrays[j].size) (λk=>c.arrays.length - k)
  ⟨0,[],⟨rfl,.inl rfl,.inr ⟨lk rfl,trivial⟩,rfl⟩,Yau _,λj _ _ h=>absurd h (YbA j)⟩ ?_
 intro Rk hRk k ⟨hk,hb⟩;refine ⟨λc0=>?_,λc0=>⟨_,I64.wrap (by unfold I64;omega),?_⟩⟩
 ·have c1:k < c.arrays.length:=by omega
  have c1':k < u.arrays.length:=by omega
  obtain ⟨_,hkl⟩:=hai _ (Yah c1);refine ⟨k,_,rfl,gm c1,?_⟩;refine ⟨i,_,rfl,gp,k,_,rfl,gm c1',?_⟩;refine Zae (.inl rfl) (ZiZ c.arrays[k] (by omega) u.arrays[k].size) ?_;refine ⟨λh3=>⟨rfl,ZbQ (bad (λh4=>h3 (h4.2 k c1 c1'))).symm⟩,λh3=>⟨_,I64.wrap (by unfold I64;omega),?_⟩⟩;refine hRk _ _ _ ⟨k+1,[],⟨rfl,.inl rfl,.inr ⟨lk rfl,trivial⟩,rfl⟩,⟨c1,λj hj hj' hjk=>?_⟩,by omega⟩;by_cases e:j=k
  ·subst e;exact h3
  ·exact hb j hj hj' (by omega)
 ·refine hRd _ _ _ ⟨i+1,[],⟨rfl,.inl rfl,.inr ⟨lk rfl,trivial⟩,rfl⟩,⟨b1,next ⟨⟨by rw[<- lv];exact h1,hca⟩,λj hj hj'=>hb j hj hj' (by omega)⟩⟩,by omega⟩
end ZN
namespace Barb
open Go Go.Dm Go.Eng ZN
structure ES where
 fuel:Nat
 told:List Int
 cells:List Cells
structure EL where
 ps:List Int
 back:Bool
 val:Int
structure EC where
 u:Nat
 f:Fun
 deep:Nat
inductive RR (α:Type) where
 | ok (a:α) (s:ES)
 | stop (e:Int) (s:ES)
def RR.bind {α β:Type}:RR α->(α->ES->RR β)->RR β
 | .ok a s,k=>k a s
 | .stop e s,_=>.stop e s
def ZdU {α:Type} (s:ES) (k:ES->RR α):RR α:=if s.fuel=0 then .stop 3 s else k { s with fuel:=s.fuel - 1 }
def noC:Cells:=⟨[],[]⟩
def noF:Fun:=⟨[],false,[],[]⟩
noncomputable def ZoT (f:Fun) (name:Str):Int:=idx (λx=>name=x) f.params
noncomputable def ZxZ (u:Unit) (name:Str):Int:=idx (λx=>name=x) u.vars
noncomputable def ZxK (u:Unit) (name:Str):Int:=idx (λa:Arr=>a.name=name) u.arrays
def uAt (p:List Unit) (u:Nat):Unit:=p.getD u noU
def cAt (s:ES) (u:Nat):Cells:=s.cells.getD u noC
noncomputable def Zvj (p:List Unit) (c:EC) (ps:List Int) (s:ES) (name:Str):Int :=
 if 0<=ZoT c.f name then ps.getD (ZoT c.f name).toNat 0 else (cAt s c.u).vars.getD (ZxZ (uAt p c.u) name).toNat 0
def Cells.setV (c:Cells) (i:Nat) (n:Int):Cells:=⟨c.vars.set i n,c.arrays⟩
def Cells.setA (c:Cells) (k i:Nat) (n:Int):Cells:=⟨c.vars,c.arrays.set k ((c.arrays.getD k []).set i n)⟩
def ES.setV (s:ES) (u i:Nat) (n:Int):ES:={ s with cells:=s.cells.set u ((cAt s u).setV i n) }
def ES.setA (s:ES) (u k i:Nat) (n:Int):ES:={ s with cells:=s.cells.set u ((cAt s u).setA k i n) }
noncomputable def ZeU (p:List Unit) (c:EC) (s:ES) (name:Str):List Int:=(cAt s c.u).arrays.getD (ZxK (uAt p c.u) name).toNat []
noncomputable def Zww (p:List Unit) (c:EC) (s:ES) (name:Str) (at_:Int):RR Int :=
 if ((ZeU p c s name).length:Int)<=at_ then .stop 2 s else .ok ((ZeU p c s name).getD at_.toNat 0) s
noncomputable def ZoP (p:List Unit) (c:EC) (el:EL) (s:ES) (name:Str) (n:Int):RR EL :=
 if 0<=ZoT c.f name then .ok { el with ps:=el.ps.set (ZoT c.f name).toNat n } s else .ok el (s.setV c.u (ZxZ (uAt p c.u) name).toNat n)
noncomputable def Zss (p:List Unit) (c:EC) (el:EL) (s:ES) (name:Str) (at_ n:Int):RR EL :=
 if ((ZeU p c s name).length:Int)<=at_ then .stop 2 s else .ok el (s.setA c.u (ZxK (uAt p c.u) name).toNat at_.toNat n)
abbrev EvE:=EC->List Int->Expr->ES->RR Int
abbrev EvS:=EC->Stmt->EL->ES->RR EL
def ZcW (e:Expr->ES->RR Int):List Expr->ES->RR (List Int)
 | [],s=>.ok [] s
 | x :: l,s=>(e x s).bind λn s=>(ZcW e l s).bind λns s=>.ok (n :: ns) s
def Za8 (e:Stmt->EL->ES->RR EL):List Stmt->EL->ES->RR EL
 | [],el,s=>.ok el s
 | x :: l,el,s=>if el.back then .ok el s else (e x el s).bind (Za8 e l)
def Zb6 (p:List Unit) (e:EvS) (u:Nat) (f:Nat) (args:List Int) (deep:Nat) (s:ES):RR Int :=
 if 20<=deep then .stop 5 s else (Za8 (e ⟨u,(uAt p u).funcs.getD f noF,deep⟩) ((uAt p u).funcs.getD f noF).body ⟨args,false,0⟩ s).bind λel s=>.ok el.val s
noncomputable def toU (p:List Unit) (c:EC) (of:Str):Nat:=if of=[] then c.u else (Zba p of).toNat
noncomputable def ZfW (p:List Unit) (e:EvS) (c:EC) (x:Expr) (l:List Int) (s:ES):RR Int :=
 if x.k=3 then Zww p c s x.s (l.getD 0 0) else if x.k=5 then .ok (doI x.n (l.getD 0 0) (l.getD 1 0)) s
 else Zb6 p e (toU p c x.of) (Zbz (uAt p (toU p c x.of)) x.s).toNat l (c.deep+1) s
noncomputable def Zkg (p:List Unit) (eE:EvE) (eS:EvS):EvE:=λc ps x s =>
 ZdU s λs=>if x.k=1 then .ok x.n s else if x.k=2 then .ok (Zvj p c ps s x.s) s else (ZcW (eE c ps) x.args s).bind (ZfW p eS c x)
def Zce (eE:EvE) (eS:EvS) (c:EC) (x:Stmt):Nat->Int->EL->ES->RR EL
 | 0,_,_,s=>.stop 3 s
 | g+1,n,el,s=>if n=0\/el.back=true then .ok el s else (Za8 (eS c) x.b el s).bind λel s =>
   if el.back then .ok el s else ZdU s λs=>(eE c el.ps (x.xs.getD 0 noX) s).bind λn s=>Zce eE eS c x g n el s
noncomputable def Zho (p:List Unit) (eE:EvE) (eS:EvS) (g:Nat):EvS:=λc x el s =>
 ZdU s λs=>(eE c el.ps (x.xs.getD 0 noX) s).bind λn s =>
  if x.k=1 then ZoP p c el s x.s n
  else if x.k=2 then (eE c el.ps (x.xs.getD 1 noX) s).bind λv s=>Zss p c el s x.s n v
  else if x.k=3 then Za8 (eS c) (if n=0 then x.e else x.b) el s
  else if x.k=4 then Zce eE eS c x (g+1) n el s
  else if x.k=5 then .ok { el with back:=true,val:=n } s
  else if s.told.length=500 then .stop 6 s else .ok el { s with told:=s.told++[n] }
noncomputable def evP (p:List Unit):Nat->EvE × EvS
 | 0=>(λ_ _ _ s=>.stop 3 s,λ_ _ _ s=>.stop 3 s)
 | g+1=>(Zkg p (evP p g).1 (evP p g).2,Zho p (evP p g).1 (evP p g).2 g)
noncomputable def evE (p:List Unit) (g:Nat):EvE:=(evP p g).1
noncomputable def evS (p:List Unit) (g:Nat):EvS:=(evP p g).2
theorem Zdv (p:List Unit) (g:Nat):evE p (g+1)=Zkg p (evE p g) (evS p g):=rfl
theorem Zdd (p:List Unit) (g:Nat):evS p (g+1)=Zho p (evE p g) (evS p g) g:=rfl
def wd (n:Int):Prop:=0<=n/\n<=65535
def wds (l:List Int):Prop:=∀n∈l,wd n
structure SI (p:List Unit) (s:ES):Prop where
 len:s.cells.length=p.length
 ok:ZbN p s.cells
 told:s.told.length<=500
 toldW:wds s.told
theorem Zn5 {s:ES} {u:Nat} (h:u < s.cells.length):cAt s u=s.cells[u]:=by unfold cAt;simp[h]
theorem Zde {p:List Unit} {u:Nat} (h:u < p.length):uAt p u=p[u]:=by unfold uAt;simp[h]
theorem SI.cell {p:List Unit} {s:ES} (h:SI p s) {u:Nat} (hu:u < p.length):Zcc (uAt p u) (cAt s u):=by rw[Zn5 (by rw[h.len];exact hu),Zde hu];exact h.ok u (by rw[h.len];exact hu) hu
theorem Zi0 {l:List Int} (h:wds l) {n:Int} (hn:wd n) (i:Nat):wds (l.set i n):=λx hx=>by
 rcases Ycv hx with h1 | rfl
 ·exact h x h1
 ·exact hn
theorem Zfz {l:List Int} (h:wds l) (i:Nat):wd (l.getD i 0):=by
 rw[Yal];cases hx:l[i]? with
 | none=>exact ⟨by simp,by simp⟩
 | some x=>exact h x (YaL hx)
theorem ZdE.w {l:List Int} {n:Int} (h:ZdE l n):wds l:=h.2
theorem SI.set {p:List Unit} {s:ES} (h:SI p s) {u:Nat} {c:Cells} (hc:Zcc (uAt p u) c):SI p { s with cells:=s.cells.set u c }:=by
 refine ⟨by simp[h.len],λi hi hi'=>?_,h.told,h.toldW⟩;by_cases e:u=i
 ·subst e;simp only[List.getElem_set_self];rw[Zde hi'] at hc;exact hc
 ·have hi2:i < s.cells.length:=by simpa using hi
  simp only[List.getElem_set_ne e];exact h.ok i hi2 hi'
theorem Zcc.setV {u:Unit} {c:Cells} (h:Zcc u c) (i:Nat) {n:Int} (hn:wd n):Zcc u (c.setV i n) :=
 ⟨⟨⟨by unfold Cells.setV;rw[Ybd];exact h.1.1.1,Zi0 h.1.1.2 hn i⟩,h.1.2⟩,h.2⟩
theorem Zcc.arr {u:Unit} {c:Cells} (h:Zcc u c) {k:Nat} (hk:k < u.arrays.length):ZdE (c.arrays.getD k []) u.arrays[k].size:=by
 have hk':k < c.arrays.length:=by rw[h.1.2];exact hk
 have:c.arrays.getD k []=c.arrays[k]:=by simp[hk']
 rw[this];exact h.2 k hk' hk
theorem Zcc.setA {u:Unit} {c:Cells} (h:Zcc u c) (k i:Nat) {n:Int} (hn:wd n):Zcc u (c.setA k i n):=by
 refine ⟨⟨h.1.1,by unfold Cells.setA;rw[Ybd];exact h.1.2⟩,λj hj hj'=>?_⟩;have hjl:j < c.arrays.length:=by rw[h.1.2];exact hj'
 have hj2:j < (c.arrays.set k ((c.arrays.getD k []).set i n)).length:=hj;show ZdE ((c.arrays.set k ((c.arrays.getD k []).set i n))[j]'hj2) _;rw[List.getElem_set];split
 ·rename_i e;subst e;have:=h.arr hj';exact ⟨by rw[Ybd];exact this.1,Zi0 this.2 hn i⟩
 ·exact h.2 j hjl hj'
theorem SI.setV {p:List Unit} {s:ES} (h:SI p s) {u:Nat} (hu:u < p.length) (i:Nat) {n:Int} (hn:wd n):SI p (s.setV u i n):=h.set ((h.cell hu).setV i hn)
theorem SI.setA {p:List Unit} {s:ES} (h:SI p s) {u:Nat} (hu:u < p.length) (k i:Nat) {n:Int} (hn:wd n):SI p (s.setA u k i n):=h.set ((h.cell hu).setA k i hn)
theorem SI.fuel {p:List Unit} {s:ES} (h:SI p s) (n:Nat):SI p { s with fuel:=n }:=⟨h.len,h.ok,h.told,h.toldW⟩
theorem SI.arr {p:List Unit} {s:ES} (h:SI p s) {u:Nat} (hu:u < p.length) (k:Nat):wds ((cAt s u).arrays.getD k []):=by
 have hc:=h.cell hu;rw[Yal];cases hx:(cAt s u).arrays[k]? with
 | none=>intro x hx;simp at hx
 | some l =>obtain ⟨hk,rfl⟩:=Yaa.1 hx;exact (hc.2 k hk (by rw[<- hc.1.2];exact hk)).2
def RI {α:Type} (p:List Unit) (s:ES) (A:α->Prop):RR α->Prop
 | .ok a s'=>SI p s'/\(s'.fuel<=s.fuel/\s.told <+: s'.told)/\A a
 | .stop e s'=>SI p s'/\(s'.fuel<=s.fuel/\s.told <+: s'.told)/\2<=e/\e<=6
theorem RI.bind {α β:Type} {p:List Unit} {s:ES} {A:α->Prop} {B:β->Prop} {r:RR α} {k:α->ES->RR β} (h:RI p s A r) (hk:∀a s',SI p s'->s'.fuel<=s.fuel->A a->RI p s' B (k a s')):RI p s B (r.bind k):=by
 cases r with
 | ok a s' =>
  have:=hk a s' h.1 h.2.1.1 h.2.2;show RI p s B (k a s');cases hr:k a s' with
  | ok b s2=>rw[hr] at this;exact ⟨this.1,⟨YaB this.2.1.1 h.2.1.1,h.2.1.2.trans this.2.1.2⟩,this.2.2⟩
  | stop e s2=>rw[hr] at this;exact ⟨this.1,⟨YaB this.2.1.1 h.2.1.1,h.2.1.2.trans this.2.1.2⟩,this.2.2⟩
 | stop e s'=>exact h
theorem RI.burn {α:Type} {p:List Unit} {s:ES} {A:α->Prop} {k:ES->RR α} (h:SI p s) (hk:SI p { s with fuel:=s.fuel - 1 }->RI p { s with fuel:=s.fuel - 1 } A (k { s with fuel:=s.fuel - 1 })):RI p s A (ZdU s k):=by
 unfold ZdU;by_cases h0:s.fuel=0
 ·rw[if_pos h0];exact ⟨h,⟨Yax _,Yb1 _⟩,by decide,by decide⟩
 ·rw[if_neg h0];have:=hk (h.fuel _);cases hr:k { s with fuel:=s.fuel - 1 } with
  | ok b s2=>rw[hr] at this;exact ⟨this.1,⟨YaB this.2.1.1 (Nat.sub_le _ _),this.2.1.2⟩,this.2.2⟩
  | stop e s2=>rw[hr] at this;exact ⟨this.1,⟨YaB this.2.1.1 (Nat.sub_le _ _),this.2.1.2⟩,this.2.2⟩
theorem RI.ok {α:Type} {p:List Unit} {s:ES} {A:α->Prop} {a:α} (h:SI p s) (ha:A a):RI p s A (.ok a s):=⟨h,⟨Yax _,Yb1 _⟩,ha⟩
theorem RI.stop {α:Type} {p:List Unit} {s:ES} {A:α->Prop} {e:Int} (h:SI p s) (h2:2<=e) (h6:e<=6):RI p s A (.stop e s):=⟨h,⟨Yax _,Yb1 _⟩,h2,h6⟩
theorem RI.same {α:Type} {p:List Unit} {s s':ES} {A:α->Prop} {a:α} (h:SI p s') (h1:s'.fuel=s.fuel) (h2:s'.told=s.told) (ha:A a):RI p s A (.ok a s'):=⟨h,⟨by omega,by rw[h2];exact Yb1 _⟩,ha⟩
structure PI (p:List Unit):Prop where
 few:p.length<=5
 unit:∀u∈p,Zcg u=0
 sense:∀u∈p,Zgc p u=0
theorem PI.of {p:List Unit} (h:Zbd p=0):PI p:=by obtain ⟨h1,h2,_,h4⟩:=Za5 h;exact ⟨h1,h2,h4⟩
theorem Zdm {p:List Unit} {u:Nat} (h:u < p.length):uAt p u∈p:=by rw[Zde h];exact Yah h
structure CI (p:List Unit) (c:EC):Prop where
 u:c.u < p.length
 f:c.f∈(uAt p c.u).funcs
 deep:c.deep<=19
def ELI (c:EC) (el:EL):Prop:=el.ps.length=c.f.params.length/\wds el.ps/\wd el.val
def XI (p:List Unit) (c:EC) (x:Expr):Prop:=∃n,ZaN n x=0/\ZbF p (uAt p c.u) c.f x=0
def SsI (p:List Unit) (c:EC) (l:List Stmt):Prop:=∃n,Zan n l=0/\Zbg p (uAt p c.u) c.f l=0
def StI (p:List Unit) (c:EC) (x:Stmt):Prop:=∃n,ZcZ (Zan n) x=0/\ZdW p (uAt p c.u) c.f x=0
theorem XI.inv {p:List Unit} {c:EC} {x:Expr} (h:XI p c x):(1<=x.k/\x.k<=5)/\x.args.length<=4/\Zbp x.k x.n x.of x.s x.args.length/\¬ZaR x.k x.n/\Za3 p (uAt p c.u) c.f x.k x.of x.s x.args.length=0/\∀y∈x.args,XI p c y:=by
 obtain ⟨n,h1,h2⟩:=h;cases n with
 | zero=>cases x;simp[ZaN] at h1
 | succ n =>obtain ⟨a1,a2,a3,a4,a5⟩:=ZcN h1;obtain ⟨b1,b2⟩:=Zhb h2;exact ⟨a1,a2,a3,a4,b1,λy hy=>⟨n,a5 y hy,b2 y hy⟩⟩
theorem StI.inv {p:List Unit} {c:EC} {x:Stmt} (h:StI p c x):(1<=x.k/\x.k<=6)/\Zdr x.k x.s x.xs.length x.b.length x.e.length/\(∀y∈x.xs,XI p c y)/\SsI p c x.b/\SsI p c x.e/\¬((x.k=1/\¬Zi5 (uAt p c.u) c.f x.s)\/(x.k=2/\¬ZiU (uAt p c.u) x.s)):=by obtain ⟨n,h1,h2⟩:=h;obtain ⟨a1,a2,a3,a4,a5⟩:=Zb3 h1;obtain ⟨b1,b2,b3,b4⟩:=ZgM h2;exact ⟨a1,a2,λy hy=>⟨12,a3 y hy,b2 y hy⟩,⟨n,a4,b3⟩,⟨n,a5,b4⟩,b1⟩
theorem SsI.all {p:List Unit} {c:EC} {l:List Stmt} (h:SsI p c l):∀x∈l,StI p c x:=by
 obtain ⟨n,h1,h2⟩:=h;intro x hx;rw[ZaS] at h2;cases n with
 | zero=>simp[Zan] at h1
 | succ n=>exact ⟨n,Zak (f:=ZcZ (Zan n)) h1 x hx,Zak h2 x hx⟩
theorem PI.body {p:List Unit} (h:PI p) {c:EC} (hc:CI p c):SsI p c c.f.body :=
 ⟨12,(ZbL ((Zau (h.unit _ (Zdm hc.u))).2.2.2.2.2.2 _ hc.f)).2.2.2,Zi6 (h.sense _ (Zdm hc.u)) _ hc.f⟩
theorem ZCi {op m n:Nat} (hm:m<=65535) (hn:n<=65535) (h1:1<=op) (h10:op<=10):did op m n<=65535:=by
 have h:op=1\/op=2\/op=3\/op=4\/op=5\/op=6\/op=7\/op=8\/op=9\/op=10:=by omega
 rcases h with rfl | rfl | rfl | rfl | rfl | rfl | rfl | rfl | rfl | rfl
 ·simp only[did];omega
 ·simp only[did];omega
 ·simp only[did];omega
 ·exact ZuC (op:=4) hm hn (.inl rfl)
 ·exact ZuC (op:=5) hm hn (.inr (.inl rfl))
 ·exact ZuC (op:=6) hm hn (.inr (.inr rfl))
 ·simp only[did];split<;>omega
 ·simp only[did];split<;>omega
 ·simp only[did];omega
 ·have:m / 2 ^ (n % 16)<=m:=Yck _ _;simp only[did];omega
theorem ZBh (op a b:Int):wd (doI op a b):=by
 unfold doI;by_cases h:op < 1\/10 < op
 ·rw[if_pos h];exact ⟨by decide,by decide⟩
 rw[if_neg h];by_cases h2:(0<=a/\a<=65535)/\(0<=b/\b<=65535)
 ·rw[if_pos h2];have:=ZCi (op:=op.toNat) (m:=a.toNat) (n:=b.toNat) (by omega) (by omega) (by omega) (by omega);exact ⟨by omega,by omega⟩
 ·rw[if_neg h2];exact ⟨by decide,by decide⟩
theorem ZAZ {p:List Unit} {c:EC} {ps:List Int} {s:ES} (hc:CI p c) (hs:SI p s) (hp:wds ps) (name:Str):wd (Zvj p c ps s name):=by
 unfold Zvj;split
 ·exact Zfz hp _
 ·exact Zfz (hs.cell hc.u).1.1.2 _
theorem ZA0 {p:List Unit} {c:EC} {s:ES} (hc:CI p c) (hs:SI p s) (name:Str) (n:Int):RI p s wd (Zww p c s name n):=by
 unfold Zww;split
 ·exact RI.stop hs (by decide) (by decide)
 ·exact RI.ok hs (Zfz (hs.arr hc.u _) _)
theorem ELI.set {c:EC} {el:EL} (h:ELI c el) (i:Nat) {n:Int} (hn:wd n):ELI c { el with ps:=el.ps.set i n }:=⟨by simp[h.1],Zi0 h.2.1 hn i,h.2.2⟩
theorem ZAq {p:List Unit} {c:EC} {s:ES} {el:EL} (hc:CI p c) (hs:SI p s) (he:ELI c el) (name:Str) {n:Int} (hn:wd n):RI p s (ELI c) (ZoP p c el s name n):=by
 unfold ZoP;split
 ·exact RI.ok hs (he.set _ hn)
 ·exact RI.same (hs.setV hc.u _ hn) rfl rfl he
theorem ZAs {p:List Unit} {c:EC} {s:ES} {el:EL} (hc:CI p c) (hs:SI p s) (he:ELI c el) (name:Str) (at_:Int) {n:Int} (hn:wd n):RI p s (ELI c) (Zss p c el s name at_ n):=by
 unfold Zss;split
 ·exact RI.stop hs (by decide) (by decide)
 ·exact RI.same (hs.setA hc.u _ _ hn) rfl rfl he
theorem ZlH {p:List Unit} {e:Expr->ES->RR Int}:∀(l:List Expr),(∀x∈l,∀s,SI p s->RI p s wd (e x s))->∀s,SI p s->RI p s (λns=>ns.length=l.length/\wds ns) (ZcW e l s)
 | [],_,s,hs=>RI.ok hs ⟨rfl,λx hx=>by simp at hx⟩
 | x :: l,h,s,hs=>by
  refine (h x Yac s hs).bind λn s1 h1 _ hn=>(ZlH l (λy hy=>h y (Yad _ hy)) s1 h1).bind λns s2 h2 _ hns=>RI.ok h2 ⟨by simp[hns.1],λy hy=>?_⟩;rcases Yav.1 hy with rfl | hy
  ·exact hn
  ·exact hns.2 y hy
theorem ZhX {p:List Unit} {c:EC} {e:Stmt->EL->ES->RR EL}:∀(l:List Stmt),(∀x∈l,∀el s,SI p s->ELI c el->RI p s (ELI c) (e x el s))->∀el s,SI p s->ELI c el->RI p s (ELI c) (Za8 e l el s)
 | [],_,el,s,hs,he=>RI.ok hs he
 | x :: l,h,el,s,hs,he=>by
  unfold Za8;split
  ·exact RI.ok hs he
  ·exact (h x Yac el s hs he).bind λel1 s1 h1 _ he1=>ZhX l (λy hy=>h y (Yad _ hy)) el1 s1 h1 he1
theorem ZnC {p:List Unit} {u:Nat} {i:Nat} (hi:i < (uAt p u).funcs.length):(uAt p u).funcs.getD i noF∈(uAt p u).funcs:=by rw[show (uAt p u).funcs.getD i noF=(uAt p u).funcs[i] by simp[hi]];exact Yah hi
theorem Zmf {p:List Unit} (hp:PI p) {e:EvS} (ih:∀c x el s,CI p c->SI p s->ELI c el->StI p c x->RI p s (ELI c) (e c x el s)) {u i:Nat} (hu:u < p.length) (hi:i < (uAt p u).funcs.length) {args:List Int} (ha:args.length=((uAt p u).funcs.getD i noF).params.length) (hw:wds args) (deep:Nat) {s:ES} (hs:SI p s) :
  RI p s wd (Zb6 p e u i args deep s):=by
 unfold Zb6;split
 ·exact RI.stop hs (by decide) (by decide)
 rename_i hd;have hc:CI p ⟨u,(uAt p u).funcs.getD i noF,deep⟩:=⟨hu,ZnC hi,by show deep<=19;omega⟩;exact (ZhX _ (λx hx el s hs he=>ih _ x el s hc hs he ((hp.body hc).all x hx)) _ s hs ⟨ha,hw,(show wd 0 from ⟨by decide,by decide⟩)⟩).bind λel s1 h1 _ he=>RI.ok h1 he.2.2
theorem XI.ask {p:List Unit} {c:EC} {x:Expr} (hc:CI p c) (h:XI p c x) (hk:x.k=4):toU p c x.of < p.length/\∃i,Zbz (uAt p (toU p c x.of)) x.s=((i:Nat):Int)/\i < (uAt p (toU p c x.of)).funcs.length/\((uAt p (toU p c x.of)).funcs.getD i noF).params.length=x.args.length/\(x.of≠[]->Zba p x.of=((toU p c x.of:Nat):Int)):=by
 have h1:=h.inv.2.2.2.2.1;unfold Za3 at h1;rw[if_neg (by omega),if_pos hk] at h1;unfold toU;by_cases ho:x.of=[]
 ·rw[if_pos ho];unfold Za1 at h1;rw[if_pos ho] at h1;obtain ⟨i,hi,e1,e2,_,_⟩:=Zcs h1;exact ⟨hc.u,i,e1,hi,by rw[show (uAt p c.u).funcs.getD i noF=(uAt p c.u).funcs[i] by simp[hi]];exact e2,λhne=>absurd ho hne⟩
 ·rw[if_neg ho];obtain ⟨j,hj,e1,e2⟩:=ZeQ h1 ho;obtain ⟨i,hi,f1,f2,_,_⟩:=Zcs e2;rw[e1,Int.toNat_natCast];rw[Zde hj];exact ⟨hj,i,f1,hi,by rw[show p[j].funcs.getD i noF=p[j].funcs[i] by simp[hi]];exact f2,λ_=>rfl⟩
theorem ZyR {p:List Unit} (hp:PI p) {e:EvS} (ih:∀c x el s,CI p c->SI p s->ELI c el->StI p c x->RI p s (ELI c) (e c x el s)) {c:EC} (hc:CI p c) {x:Expr} (hx:XI p c x) (h1:x.k≠1) (h2:x.k≠2) {l:List Int} (hl:l.length=x.args.length/\wds l) {s:ES} (hs:SI p s):RI p s wd (ZfW p e c x l s):=by
 unfold ZfW;split
 ·exact ZA0 hc hs _ _
 split
 ·exact RI.ok hs (ZBh _ _ _)
 obtain ⟨a1,i,a2,a3,a4,_⟩:=hx.ask hc (by have:=hx.inv.1;omega);rw[a2,Int.toNat_natCast];exact Zmf hp ih a1 a3 (hl.1.trans a4.symm) hl.2 _ hs
theorem XI.num {p:List Unit} {c:EC} {x:Expr} (h:XI p c x) (hk:x.k=1):wd x.n:=by have:=h.inv.2.2.2.1;unfold ZaR at this;exact YaG λhn=>this (.inl ⟨hk,hn⟩)
theorem ZqD {l:List Expr} {i:Nat} (hi:i < l.length):l.getD i noX∈l:=by rw[show l.getD i noX=l[i] by simp[hi]];exact Yah hi
theorem StI.one {p:List Unit} {c:EC} {x:Stmt} (h:StI p c x):0 < x.xs.length/\XI p c (x.xs.getD 0 noX):=by
 obtain ⟨h1,h2,h3,_⟩:=h.inv;have:0 < x.xs.length:=by
  obtain ⟨⟨_,_,a,b⟩,_⟩:=h2;by_cases h:x.k=2
  ·have:=a h;omega
  ·have:=b h;omega
 exact ⟨this,h3 _ (ZqD this)⟩
theorem StI.two {p:List Unit} {c:EC} {x:Stmt} (h:StI p c x) (hk:x.k=2):1 < x.xs.length/\XI p c (x.xs.getD 1 noX):=by
 obtain ⟨h1,h2,h3,_⟩:=h.inv;have:1 < x.xs.length:=by obtain ⟨⟨_,_,a,b⟩,_⟩:=h2;have:=a hk;omega
 exact ⟨this,h3 _ (ZqD this)⟩
theorem ZpI {p:List Unit} {eE:EvE} {eS:EvS} {c:EC} {x:Stmt} (iE:∀ps s,SI p s->wds ps->RI p s wd (eE c ps (x.xs.getD 0 noX) s)) (iB:∀el s,SI p s->ELI c el->RI p s (ELI c) (Za8 (eS c) x.b el s)):∀(g:Nat) (n:Int) (el:EL) (s:ES),SI p s->ELI c el->RI p s (ELI c) (Zce eE eS c x g n el s)
 | 0,_,_,_,hs,_=>RI.stop hs (by decide) (by decide)
 | g+1,n,el,s,hs,he=>by
  unfold Zce;split
  ·exact RI.ok hs he
  refine (iB el s hs he).bind λel1 s1 h1 _ he1=>?_;split
  ·exact RI.ok h1 he1
  exact RI.burn h1 λhb=>(iE _ _ hb he1.2.1).bind λn1 s2 h2 _ _=>ZpI iE iB g n1 el1 s2 h2 he1
theorem ZdT {p:List Unit} (hp:PI p):∀g,(∀c ps x s,CI p c->SI p s->wds ps->XI p c x->RI p s wd (evE p g c ps x s))/\(∀c x el s,CI p c->SI p s->ELI c el->StI p c x->RI p s (ELI c) (evS p g c x el s))
 | 0=>⟨λ_ _ _ _ _ hs _ _=>RI.stop hs (by decide) (by decide),λ_ _ _ _ _ hs _ _=>RI.stop hs (by decide) (by decide)⟩
 | g+1=>by
  obtain ⟨iE,iS⟩:=ZdT hp g;have iB:∀c l el s,CI p c->SI p s->ELI c el->SsI p c l->RI p s (ELI c) (Za8 (evS p g c) l el s):=λc l el s hc hs he hl=>ZhX l (λx hx el s hs he=>iS c x el s hc hs he (hl.all x hx)) el s hs he;refine ⟨λc ps x s hc hs hps hx=>?_,λc x el s hc hs he hx=>?_⟩
  ·rw[Zdv];unfold Zkg;refine RI.burn hs λhb=>?_;split
   ·rename_i h1;exact RI.ok hb (hx.num h1)
   split
   ·exact RI.ok hb (ZAZ hc hb hps _)
   rename_i h1 h2;exact (ZlH x.args (λy hy s hs=>iE c ps y s hc hs hps (hx.inv.2.2.2.2.2 y hy)) _ hb).bind λl s1 hs1 _ hl=>ZyR hp iS hc hx h1 h2 hl hs1
  ·rw[Zdd];unfold Zho;refine RI.burn hs λhb=>(iE c el.ps _ _ hc hb he.2.1 hx.one.2).bind λn s1 h1 _ hn=>?_;split
   ·exact ZAq hc h1 he _ hn
   split
   ·rename_i hk2;exact (iE c el.ps _ _ hc h1 he.2.1 (hx.two hk2).2).bind λv s2 h2 _ hv=>ZAs hc h2 he _ _ hv
   split
   ·split
    ·exact iB c _ el s1 hc h1 he hx.inv.2.2.2.2.1
    ·exact iB c _ el s1 hc h1 he hx.inv.2.2.2.1
   split
   ·exact ZpI (λps s hs hw=>iE c ps _ s hc hs hw hx.one.2) (λel s hs he=>iB c _ el s hc hs he hx.inv.2.2.2.1) _ n el s1 h1 he
   split
   ·exact RI.ok h1 ⟨he.1,he.2.1,hn⟩
   split
   ·exact RI.stop h1 (by decide) (by decide)
   ·rename_i h5;refine ⟨⟨h1.len,h1.ok,by have:=h1.told;show (s1.told++[n]).length<=500;simp;omega,λz hz=>?_⟩,⟨Yax _,⟨[n],rfl⟩⟩,he⟩;rcases Yao.1 hz with hz | hz
    ·exact h1.toldW z hz
    ·rw[Yay.1 hz];exact hn
theorem XI.var {p:List Unit} {c:EC} {x:Expr} (h:XI p c x) (hk:x.k=2):Zi5 (uAt p c.u) c.f x.s:=by have h1:=h.inv.2.2.2.2.1;unfold Za3 at h1;exact YaG λhn=>by rw[if_pos (.inl ⟨hk,hn⟩)] at h1;omega
theorem XI.arr {p:List Unit} {c:EC} {x:Expr} (h:XI p c x) (hk:x.k=3):ZiU (uAt p c.u) x.s:=by have h1:=h.inv.2.2.2.2.1;unfold Za3 at h1;exact YaG λhn=>by rw[if_pos (.inr ⟨hk,hn⟩)] at h1;omega
theorem StI.var {p:List Unit} {c:EC} {x:Stmt} (h:StI p c x) (hk:x.k=1):Zi5 (uAt p c.u) c.f x.s:=YaG λhn=>h.inv.2.2.2.2.2 (.inl ⟨hk,hn⟩)
theorem StI.arr {p:List Unit} {c:EC} {x:Stmt} (h:StI p c x) (hk:x.k=2):ZiU (uAt p c.u) x.s:=YaG λhn=>h.inv.2.2.2.2.2 (.inr ⟨hk,hn⟩)
theorem ZgG {u:Unit} {f:Fun} {name:Str} (h:Zi5 u f name):(∃i,i < f.params.length/\ZoT f name=((i:Nat):Int))\/(¬0<=ZoT f name/\∃i,i < u.vars.length/\ZxZ u name=((i:Nat):Int)):=by
 rcases Zbx (λx=>name=x) f.params with ⟨h1,h2⟩ | ⟨i,hi,h1,_⟩
 ·refine .inr ⟨by unfold ZoT;rw[h1];decide,?_⟩;rcases Zbx (λx=>name=x) u.vars with ⟨h3,h4⟩ | ⟨i,hi,h3,_⟩
  ·rcases h with h | h
   ·exact absurd rfl (h2 _ h)
   ·exact absurd rfl (h4 _ h)
  ·exact ⟨i,hi,h3⟩
 ·exact .inl ⟨i,hi,h1⟩
theorem ZuZ {u:Unit} {name:Str} (h:ZiU u name):∃i,i < u.arrays.length/\ZxK u name=((i:Nat):Int):=by
 rcases Zbx (λa:Arr=>a.name=name) u.arrays with ⟨_,h4⟩ | ⟨i,hi,h3,_⟩
 ·obtain ⟨a,ha,hn⟩:=h;exact absurd hn (h4 _ ha)
 ·exact ⟨i,hi,h3⟩
def RR.st {α:Type}:RR α->ES
 | .ok _ s=>s
 | .stop _ s=>s
def Zmn {α:Type} (s:ES) (r:RR α):Prop:=s.told <+: r.st.told
theorem Zmn.stop {α:Type} {s:ES} {e:Int}:Zmn s (.stop e s:RR α):=Yb1 _
theorem Zmn.bind {α β:Type} {s:ES} {r:RR α} {f:α->ES->RR β} (h:Zmn s r) (hf:∀a s',Zmn s' (f a s')):Zmn s (r.bind f):=by
 cases r with
 | ok a s'=>exact List.IsPrefix.trans h (hf a s')
 | stop e s'=>exact h
def ES.up (s:ES) (k:Nat):ES:={ s with fuel:=s.fuel+k }
def Up {α:Type} (k:Nat):RR α->RR α->Prop
 | .ok a s,r=>r=.ok a (s.up k)
 | .stop e s,r=>(e≠3/\r=.stop e (s.up k))\/(e=3/\Zmn s r)
theorem Up.stop {α:Type} {k:Nat} {e:Int} {s:ES} (h:e≠3):Up k (.stop e s:RR α) (.stop e (s.up k)):=.inl ⟨h,rfl⟩
theorem Up.bind {α β:Type} {k:Nat} {r r2:RR α} {f f2:α->ES->RR β} (h:Up k r r2) (hf:∀a s,Up k (f a s) (f2 a (s.up k))) (hg:∀a s,Zmn s (f2 a s)):Up k (r.bind f) (r2.bind f2):=by
 cases r with
 | ok a s =>have h:r2=.ok a (s.up k):=h;subst h;exact hf a s
 | stop e s =>
  rcases h with ⟨h1,h2⟩ | ⟨h1,h2⟩
  ·subst h2;exact .inl ⟨h1,rfl⟩
  ·exact .inr ⟨h1,Zmn.bind h2 hg⟩
def ES.ah (s:ES) (T:List Int):ES:={ s with told:=T++s.told }
def RR.ah {α:Type} (T:List Int):RR α->RR α
 | .ok a s=>.ok a (s.ah T)
 | .stop e s=>.stop e (s.ah T)
def Lng {α:Type} (r:RR α):Prop:=∃s,r=.stop 6 s
def Ah {α:Type} (T:List Int) (r r2:RR α):Prop:=Lng r\/Lng r2\/r2=r.ah T
theorem Ah.same {α:Type} {T:List Int} (r:RR α):Ah T r (r.ah T):=.inr (.inr rfl)
theorem Ah.bind {α β:Type} {T:List Int} {r r2:RR α} {f f2:α->ES->RR β} (h:Ah T r r2) (hf:∀a s,Ah T (f a s) (f2 a (s.ah T))):Ah T (r.bind f) (r2.bind f2):=by
 rcases h with ⟨s,rfl⟩ | ⟨s,rfl⟩ | rfl
 ·exact .inl ⟨s,rfl⟩
 ·exact .inr (.inl ⟨s,rfl⟩)
 ·cases r with
  | ok a s=>exact hf a s
  | stop e s=>exact .inr (.inr rfl)
theorem Ah.burn {α:Type} {T:List Int} {s:ES} {f f2:ES->RR α} (hf:∀s,Ah T (f s) (f2 (s.ah T))):Ah T (ZdU s f) (ZdU (s.ah T) f2):=by
 unfold ZdU;by_cases h0:s.fuel=0
 ·rw[if_pos h0,if_pos (show (s.ah T).fuel=0 from h0)];exact .inr (.inr rfl)
 ·rw[if_neg h0,if_neg (show ¬(s.ah T).fuel=0 from h0)];exact hf _
section
variable {p:List Unit} {T:List Int} {g:Nat} {eE:EvE} {eS:EvS} (hE:∀c ps x s,Ah T (eE c ps x s) (eE c ps x (s.ah T))) (hS:∀c x el s,Ah T (eS c x el s) (eS c x el (s.ah T)))
theorem Zqj {e:Expr->ES->RR Int} (he:∀x s,Ah T (e x s) (e x (s.ah T))):∀(l:List Expr) (s:ES),Ah T (ZcW e l s) (ZcW e l (s.ah T))
 | [],s=>Ah.same (.ok [] s)
 | x :: l,s=>(he x s).bind λ_ s'=>(Zqj he l s').bind λ_ s2=>Ah.same (.ok _ s2)
theorem ZiT {e:Stmt->EL->ES->RR EL} (he:∀x el s,Ah T (e x el s) (e x el (s.ah T))):∀(l:List Stmt) (el:EL) (s:ES),Ah T (Za8 e l el s) (Za8 e l el (s.ah T))
 | [],el,s=>Ah.same (.ok el s)
 | x :: l,el,s=>by
  unfold Za8;split
  ·exact Ah.same (.ok el s)
  ·exact (he x el s).bind λel' s'=>ZiT he l el' s'
include hS in
theorem Zq1 (u i:Nat) (args:List Int) (deep:Nat) (s:ES):Ah T (Zb6 p eS u i args deep s) (Zb6 p eS u i args deep (s.ah T)):=by
 unfold Zb6;split
 ·exact Ah.same (.stop 5 s)
 ·exact (ZiT (hS _) _ _ s).bind λel s2=>Ah.same (.ok el.val s2)
include hS in
theorem Zwg (c:EC) (x:Expr) (l:List Int) (s:ES):Ah T (ZfW p eS c x l s) (ZfW p eS c x l (s.ah T)):=by
 unfold ZfW;split
 ·unfold Zww;rw[show ZeU p c (s.ah T) x.s=ZeU p c s x.s from rfl];split
  ·exact Ah.same (.stop 2 s)
  ·exact Ah.same (.ok _ s)
 split
 ·exact Ah.same (.ok _ s)
 ·exact Zq1 hS _ _ _ _ s
include hE hS in
theorem Zmz (c:EC) (x:Stmt):∀(g:Nat) (n:Int) (el:EL) (s:ES),Ah T (Zce eE eS c x g n el s) (Zce eE eS c x g n el (s.ah T))
 | 0,_,_,s=>Ah.same (.stop 3 s)
 | g+1,n,el,s=>by
  unfold Zce;split
  ·exact Ah.same (.ok el s)
  ·refine (ZiT (hS c) _ el s).bind λel' s'=>?_;split
   ·exact Ah.same (.ok el' s')
   ·exact Ah.burn λs2=>(hE _ _ _ s2).bind λn' s3=>Zmz c x g n' el' s3
include hE hS in
theorem ZvB (c:EC) (x:Stmt) (el:EL) (s:ES):Ah T (Zho p eE eS g c x el s) (Zho p eE eS g c x el (s.ah T)):=by
 unfold Zho;refine Ah.burn λs1=>(hE _ _ _ s1).bind λn s2=>?_;split
 ·unfold ZoP;split
  ·exact Ah.same (.ok _ s2)
  ·exact Ah.same (.ok el (s2.setV _ _ _))
 split
 ·refine (hE _ _ _ s2).bind λv s3=>?_;unfold Zss;rw[show ZeU p c (s3.ah T) x.s=ZeU p c s3 x.s from rfl];split
  ·exact Ah.same (.stop 2 s3)
  ·exact Ah.same (.ok el (s3.setA _ _ _ _))
 split
 ·exact ZiT (hS c) _ el s2
 split
 ·exact Zmz hE hS c x _ n el s2
 split
 ·exact Ah.same (.ok _ s2)
 ·by_cases h1:s2.told.length=500
  ·rw[if_pos h1];exact .inl ⟨_,rfl⟩
  rw[if_neg h1];split
  ·exact .inr (.inl ⟨_,rfl⟩)
  ·refine .inr (.inr ?_);show RR.ok el (⟨s2.fuel,(T++s2.told)++[n],s2.cells⟩:ES)=.ok el ⟨s2.fuel,T++(s2.told++[n]),s2.cells⟩;rw[Yas]
end
theorem ZxC (p:List Unit) (T:List Int):∀g,(∀c ps x s,Ah T (evE p g c ps x s) (evE p g c ps x (s.ah T)))/\∀c x el s,Ah T (evS p g c x el s) (evS p g c x el (s.ah T))
 | 0=>⟨λ_ _ _ s=>Ah.same (.stop 3 s),λ_ _ _ s=>Ah.same (.stop 3 s)⟩
 | g+1=>by
  obtain ⟨hE,hS⟩:=ZxC p T g;refine ⟨λc ps x s=>?_,λc x el s=>?_⟩
  ·rw[Zdv];unfold Zkg;refine Ah.burn λs1=>?_;split
   ·exact Ah.same (.ok _ s1)
   split
   ·exact Ah.same (.ok _ s1)
   ·exact (Zqj (hE c ps) x.args s1).bind λl s2=>Zwg hS c x l s2
  ·rw[Zdd];exact ZvB hE hS c x el s
theorem Zsg (p:List Unit) (f u i:Nat) (args:List Int) (deep:Nat) (T:List Int) (cs:List Cells):Ah T (Zb6 p (evS p f) u i args deep ⟨f,[],cs⟩) (Zb6 p (evS p f) u i args deep ⟨f,T,cs⟩):=by have h:=Zq1 (p:=p) (T:=T) (ZxC p T f).2 u i args deep ⟨f,[],cs⟩;rw[show (⟨f,[],cs⟩:ES).ah T=⟨f,T,cs⟩ from by unfold ES.ah;rw[YaF]] at h;exact h
end Barb
namespace Barb
open Go Go.Dm Go.Eng
theorem ZCy {c p q:Prop} [Decidable c] (h:c) (hp:p):if c then p else q:=by rw[if_pos h];exact hp
theorem ZCx {c p q:Prop} [Decidable c] (h:¬c) (hp:q):if c then p else q:=by rw[if_neg h];exact hp
structure CN where
 v:Value
 ar:List Value
def Zew (t:Nat) (l:List Int):Ob0:=.row (l.map Zat) t 1
def Zkj (t:Nat) (n:CN) (c:Cells):List (Value × Ob0):=(n.v,Zew t c.vars) :: List.zipWith (λv l=>(v,Zew t l)) n.ar c.arrays
def Zbi (t:Nat):List CN->List Cells->List (Value × Ob0)
 | n :: N,c :: C=>Zkj t n c++Zbi t N C
 | _,_=>[]
def CN.g (n:CN):List GV:=[.raw n.v,.sl 1 (n.ar.map λa=>[.raw a])]
theorem Zmw {α β γ:Type} (f:α->β->γ):∀(ys:List α) (bs:List β) (k:Nat) (hk:k < ys.length),k < bs.length->∀b,List.zipWith f ys (bs.set k b)=List.zipWith f (ys.take k) (bs.take k)++f ys[k] b :: List.zipWith f (ys.drop (k+1)) (bs.drop (k+1))
 | [],_,_,hk,_,_=>by simp at hk
 | _ :: _,[],_,_,hk,_=>by simp at hk
 | a :: ys,b' :: bs,0,_,_,b=>by simp
 | a :: ys,b' :: bs,k+1,hk,hk',b=>by simp only[List.set_cons_succ,List.zipWith_cons_cons,List.take_succ_cons,List.cons_append,Ybf,List.getElem_cons_succ];rw[Zmw f ys bs k (by simpa using hk) (by simpa using hk') b]
theorem ZhD (t:Nat):∀(N:List CN) (C:List Cells) (u:Nat) (hu:u < N.length),u < C.length->∀c,Zbi t N (C.set u c)=Zbi t (N.take u) (C.take u)++(Zkj t N[u] c++Zbi t (N.drop (u+1)) (C.drop (u+1)))
 | [],_,_,hu,_,_=>by simp at hu
 | _ :: _,[],_,_,hu,_=>by simp at hu
 | n :: N,c' :: C,0,_,_,c=>by simp[Zbi]
 | n :: N,c' :: C,u+1,hu,hu',c=>by simp only[List.set_cons_succ,Zbi,List.take_succ_cons,Ybf,List.getElem_cons_succ,Yas];rw[ZhD t N C u (by simpa using hu) (by simpa using hu') c]
structure NI (N:List CN) (C:List Cells):Prop where
 len:N.length=C.length
 ar:∀i (h:i < N.length) (h':i < C.length),N[i].ar.length=C[i].arrays.length
theorem Zlm {α:Type} {l:List α} {u:Nat} (h:u < l.length):l.set u l[u]=l:=by simp
theorem ZAG {t:Nat} {N:List CN} {s:ES} (hN:NI N s.cells) {u:Nat} (hu:u < s.cells.length):∃l1 l2,Zbi t N s.cells=l1++((N[u]'(by rw[hN.len];exact hu)).v,Zew t (cAt s u).vars) :: l2 /\
  (((N[u]'(by rw[hN.len];exact hu)).v,Zew t (cAt s u).vars) :: (l1++l2)).Perm (Zbi t N s.cells)/\∀i n,(((N[u]'(by rw[hN.len];exact hu)).v,Zew t ((cAt s u).vars.set i n)) :: (l1++l2)).Perm (Zbi t N (s.setV u i n).cells):=by
 have huN:u < N.length:=by rw[hN.len];exact hu
 have key:=ZhD t N s.cells u huN hu;have e0:Zbi t N s.cells=Zbi t (N.take u) (s.cells.take u)++(Zkj t N[u] (cAt s u)++Zbi t (N.drop (u+1)) (s.cells.drop (u+1))):=by have:=key s.cells[u];rw[Zlm hu] at this;rw[this,Zn5 hu]
 have e1:Zbi t N s.cells=Zbi t (N.take u) (s.cells.take u)++(N[u].v,Zew t (cAt s u).vars) :: (List.zipWith (λv l=>(v,Zew t l)) N[u].ar (cAt s u).arrays++Zbi t (N.drop (u+1)) (s.cells.drop (u+1))):=by rw[e0];rfl
 refine ⟨_,_,e1,?_,λi n=>?_⟩
 ·rw[e1];exact List.perm_middle.symm
 ·show List.Perm _ (Zbi t N (s.cells.set u ((cAt s u).setV i n)));rw[key];exact (List.perm_middle (l₁:=Zbi t (N.take u) (s.cells.take u)) (a:=(N[u].v,Zew t ((cAt s u).vars.set i n)))).symm
theorem ZAH {t:Nat} {N:List CN} {s:ES} (hN:NI N s.cells) {u:Nat} (hu:u < s.cells.length) {k:Nat} (hk:k < (cAt s u).arrays.length) :
  ∃(v:Value) (l1 l2:List (Value × Ob0)),(N[u]'(by rw[hN.len];exact hu)).ar[k]?=some v/\Zbi t N s.cells=l1++(v,Zew t ((cAt s u).arrays.getD k [])) :: l2 /\
  ((v,Zew t ((cAt s u).arrays.getD k [])) :: (l1++l2)).Perm (Zbi t N s.cells)/\∀i n,((v,Zew t (((cAt s u).arrays.getD k []).set i n)) :: (l1++l2)).Perm (Zbi t N (s.setA u k i n).cells):=by
 have huN:u < N.length:=by rw[hN.len];exact hu
 have hka:k < N[u].ar.length:=by rw[hN.ar u huN hu,<- Zn5 hu];exact hk
 have key:=ZhD t N s.cells u huN hu;have zk:=Zmw (λv l=>(v,Zew t l)) N[u].ar (cAt s u).arrays k hka hk;have e0:Zbi t N s.cells=Zbi t (N.take u) (s.cells.take u)++(Zkj t N[u] (cAt s u)++Zbi t (N.drop (u+1)) (s.cells.drop (u+1))):=by have:=key s.cells[u];rw[Zlm hu] at this;rw[this,Zn5 hu]
 have eg:(cAt s u).arrays.getD k []=(cAt s u).arrays[k]:=by simp[hk]
 have ez:=zk (cAt s u).arrays[k];rw[Zlm hk] at ez;have e1:Zbi t N s.cells=(Zbi t (N.take u) (s.cells.take u)++(N[u].v,Zew t (cAt s u).vars) :: List.zipWith (λv l=>(v,Zew t l)) (N[u].ar.take k) ((cAt s u).arrays.take k))++(N[u].ar[k],Zew t ((cAt s u).arrays.getD k [])) :: (List.zipWith (λv l=>(v,Zew t l)) (N[u].ar.drop (k+1)) ((cAt s u).arrays.drop (k+1))++Zbi t (N.drop (u+1)) (s.cells.drop (u+1))):=by rw[e0,eg];unfold Zkj;rw[ez];simp
 refine ⟨_,_,_,Yaq hka,e1,?_,λi n=>?_⟩
 ·rw[e1];exact List.perm_middle.symm
 ·show List.Perm _ (Zbi t N (s.cells.set u ((cAt s u).setA k i n)));rw[key];have ez2:=zk (((cAt s u).arrays.getD k []).set i n);have:Zbi t (N.take u) (s.cells.take u)++(Zkj t N[u] ((cAt s u).setA k i n)++Zbi t (N.drop (u+1)) (s.cells.drop (u+1)))=(Zbi t (N.take u) (s.cells.take u)++(N[u].v,Zew t (cAt s u).vars) :: List.zipWith (λv l=>(v,Zew t l)) (N[u].ar.take k) ((cAt s u).arrays.take k))++(N[u].ar[k],Zew t (((cAt s u).arrays.getD k []).set i n)) :: (List.zipWith (λv l=>(v,Zew t l)) (N[u].ar.drop (k+1)) ((cAt s u).arrays.drop (k+1))++Zbi t (N.drop (u+1)) (s.cells.drop (u+1))):=by unfold Zkj Cells.setA;rw[ez2];simp
  rw[this];exact (List.perm_middle (l₁:=_) (a:=(N[u].ar[k],Zew t (((cAt s u).arrays.getD k []).set i n)))).symm
end Barb
namespace ZN
open Go Go.Dm Go.Eng Go.RowKit Barb
abbrev rC (p:List Barb.Unit) (N:List CN) (k:Nat) (fuel:Nat):List D:=[.g (.sl 4 (p.map Unit.g)),.g (.sl 2 (N.map CN.g)),.row k,.g (.int (fuel:Int))]
abbrev cC (r k:Nat) (c:EC) (el:EL):List D:=[.ptr r 0,.g (.int (c.u:Int)),.g (.str c.f.name),.g (.bool c.f.isOpen),.g (.sl 1 (c.f.params.map ZbP)),.g (.sl 5 (c.f.body.map Stmt.g)),.row k,.g (.int (c.deep:Int)),.g (.bool el.back),.g (.int el.val)]
abbrev tz (s:ES):List (List GV):=s.told.map Zat
abbrev mz (N:List CN) (s:ES):List (Value × Ob0):=Zbi 3 N s.cells
end ZN
namespace Go.Dm
open Go Go.Eng Go.RowKit
section
variable {P:Program} {G:Gl} {n:Nat}
theorem ZiA {K:St->Prop} {env:Env} {h:Zad} {df:List Deferred} {v:Value} (m:Nat) (l1 l2:List (Value × Ob0)) (o:Ob0) {l:List (Value × Ob0)} {ts:List (Value × Nat)} (hm:h[m]?=some (.many l ts)) (hl:l=l1++(v,o) :: l2)
  (k:ZcY G n K ⟨env,h.set m (.many (l1++l2) ((v,h.length) :: ts))++[o.obj],df⟩):ZcY G n K ⟨env,h,df⟩:=by obtain ⟨st1,hst,hk⟩:=k;refine ⟨st1,λC a w hG hr=>hst C a w hG ?_,hk⟩;obtain ⟨h1,h2,β,V,h3,h4⟩:=hr;subst hl;obtain ⟨q1,q2⟩:=RelD.lend h3 hm;exact ⟨h1,h2,_,V,q1,λi=>Zaa.mono q2 (ZaB.refl _ _) _ _ (h4 i)⟩
theorem Zx3 {K:St->Prop} {env:Env} {h:Zad} {df:List Deferred} {v:Value} (s m q:Nat) {l:List (Value × Ob0)} {ts:List (Value × Nat)} {xs:List (List GV)} {e sz:Nat} (hs:env s=.g (.raw v)) (hm:h[m]?=some (.many l ts)) (ht:(v,q)∈ts) (hq:h[q]?=some (.row xs e sz))
  (k:ZcY G n K ⟨env.set s (.row q),h,df⟩):ZcY G n K ⟨env,h,df⟩:=by
 obtain ⟨st1,hst,hk⟩:=k;refine ⟨st1,λC a w hG hr=>hst C a w hG ?_,hk⟩;obtain ⟨h1,h2,β,V,h3,h4⟩:=hr;refine ⟨h1,h2,β,V,h3,λi=>?_⟩;show Zaa h β V w (bif Nat.beq i s then .row q else env i) (a.tmps.getD i undef);by_cases hi:i=s
 ·subst hi;rw[YaO];have hv:=h4 i;show Zaa h β V w (.row q) _;rw[show (⟨env,h,df⟩:St).env i=.g (.raw v) from hs] at hv;simp only[Zaa,ZaW] at hv;obtain ⟨o,ho,hb⟩:=(h3.obj m _ hm).2.2 _ ht;have ho':h[q]?=some o:=ho;rw[hq] at ho';injection ho' with ho';subst ho';have hb':β q=v:=hb rfl;simp only[Zaa,hq];exact hv.1.trans hb'.symm
 ·rw[ZcR hi];exact h4 i
end
end Go.Dm
namespace ZN
open Go Go.Dm Go.Eng Go.RowKit Barb
theorem Zl6 {R':D->Zad->Prop} {env:Dm.Env} {h hin h':Zad} {nms:List (Option Value)} {d0:D} (d:D) (src:List Src) (hok:ZdG src=true) (hlen:Zmt src h'=true)
  (h0:conv h src 4 (env 0)=.ptr 0 0) (hd:conv h src 4 d0=d\/ZiV (Zjs src) 4 (conv h src 4 d0) d) (hT:Zbu h src=h') (hb:(Zo8 h' 0 && true && ZBO h')=true) (hst:Zhp hin h' 2 1 nms) (q:R' d h'):ToH [0] hin 2 nms R' h env d0:=by refine ⟨src,d,h',⟨hok,.inl hT,.inr ?_,hlen⟩,hb,hst,q⟩;rw[Yar,Yar,Yar,h0];exact ⟨by rcases hd with hd | hd;exact lk hd;exact hd,lk rfl,trivial⟩
theorem ZCw {N:List CN} {u:Nat} (hu:u < N.length):(N.map CN.g)[u]?=some N[u].g:=gm hu
theorem ZBY {ys:List Value} {k:Nat} {v:Value} (h:ys[k]?=some v):(ys.map λa=>[GV.raw a])[k]?=some [.raw v]:=by simp[h]
end ZN
namespace Barb
open Go Go.Dm Go.Eng
structure NP (N:List CN) (p:List Unit):Prop where
 len:N.length=p.length
 ar:∀i (h:i < N.length) (h':i < p.length),N[i].ar.length=p[i].arrays.length
theorem NP.ni {N:List CN} {p:List Unit} (h:NP N p) {s:ES} (hs:SI p s):NI N s.cells :=
 ⟨h.len.trans hs.len.symm,λi hi hi'=>by
  have hp:i < p.length:=by rw[<- hs.len];exact hi'
  rw[h.ar i hi hp,(hs.ok i hi' hp).1.2]⟩
theorem ZrM (e:Expr->ES->RR Int) (x:Expr) (l:List Expr) (s:ES):ZcW e (x :: l) s=(e x s).bind λn s=>(ZcW e l s).bind λns s=>.ok (n :: ns) s:=rfl
theorem Zsi {α β γ:Type} (r:RR α) (f:α->ES->RR β) (g:β->ES->RR γ):(r.bind f).bind g=r.bind λa s=>(f a s).bind g:=by cases r<;>rfl
theorem ZrK {e:Expr->ES->RR Int} {l:List Expr} {s0 s:ES} {vs:List Int} (hi:vs.length < l.length) (h:ZcW e l s0=(ZcW e (l.drop vs.length) s).bind λns s=>.ok (vs++ns) s) :
  (∀n s',e l[vs.length] s=.ok n s'->ZcW e l s0=(ZcW e (l.drop (vs++[n]).length) s').bind λns s=>.ok ((vs++[n])++ns) s)/\∀c s',e l[vs.length] s=.stop c s'->ZcW e l s0=.stop c s':=by
 rw[Ybh hi,ZrM] at h;refine ⟨λn s' hn=>?_,λc s' hn=>?_⟩
 ·rw[hn] at h;rw[h,Yae,List.length_singleton];show ((ZcW e (l.drop (vs.length+1)) s').bind _).bind _=_;rw[Zsi]
  congr 1
  funext ns s;show RR.ok _ _=RR.ok _ _;simp
 ·rw[hn] at h;exact h
end Barb
namespace ZN
open Go Go.Dm Go.Eng Go.RowKit Barb
theorem ZkB (b:Nat) (f:Nat->Nat) (h':Zad):∀(r:Zad) (q:Nat),Zlu [.old 0,.old 1,.old 2,.old 3,.old 4] b f h' (q+5) r=r
 | [],_=>rfl
 | x :: r,q=>by
  simp only[Zlu];rw[show q+5+1=q+1+5 from by omega,ZkB b f h' r (q+1)]
  congr 1
theorem ZkC (b:Nat) (f:Nat->Nat) (h':Zad):∀(r:Zad) (q:Nat),Zlu [.old 1,.old 4] b f h' (q+5) r=r
 | [],_=>rfl
 | x :: r,q=>by
  simp only[Zlu];rw[show q+5+1=q+1+5 from by omega,ZkC b f h' r (q+1)]
  congr 1
structure OkS (p:List Barb.Unit) (N:List CN) (g:Nat) (s:ES):Prop where
 si:SI p s
 np:NP N p
 fuel:s.fuel<=g
 g:g<=200000
theorem ZqI (p:List Barb.Unit) (g:Nat) (c:EC) (ps:List Int) (x:Barb.Expr) (s:ES) (h0:s.fuel≠0):evE p (g+1) c ps x s=if x.k=1 then .ok x.n { s with fuel:=s.fuel - 1 } else if x.k=2 then .ok (Zvj p c ps { s with fuel:=s.fuel - 1 } x.s) { s with fuel:=s.fuel - 1 } else (ZcW (evE p g c ps) x.args { s with fuel:=s.fuel - 1 }).bind (ZfW p (evS p g) c x):=by rw[Zdv];unfold Zkg ZdU;rw[if_neg h0]
theorem ZjM (p:List Barb.Unit) (g:Nat) (c:EC) (ps:List Int) (x:Barb.Expr) (s:ES) (h0:s.fuel=0):evE p g c ps x s=.stop 3 s:=by
 cases g with
 | zero=>rfl
 | succ g=>rw[Zdv];unfold Zkg ZdU;rw[if_pos h0]
theorem ZrL (e:Barb.Expr->ES->RR Int) (l:List Barb.Expr) (s:ES):ZcW e l s=(ZcW e (l.drop 0) s).bind λns s=>.ok ([]++ns) s:=by
 rw[YcG];cases ZcW e l s<;>rfl
theorem Zy4 {l:List Int} {i:Nat} (h:i < l.length):l.getD i 0=l[i]:=by simp[h]
structure ArgI (p:List Barb.Unit) (N:List CN) (g:Nat) (c:EC) (ps:List Int) (args:List Barb.Expr) (s1:ES) (z:List Int × ES):Prop where
 le:z.1.length<=args.length
 ok:OkS p N g z.2
 w:wds z.1
 eq:ZcW (evE p g c ps) args s1=(ZcW (evE p g c ps) (args.drop z.1.length) z.2).bind λns s=>.ok (z.1++ns) s
theorem exG {l:List Barb.Expr} {i:Nat} (h:i < l.length):(l.map Expr.g)[i]?=some [.int l[i].k,.int l[i].n,.str l[i].of,.str l[i].s,.sl 5 (l[i].args.map Expr.g)]:=(gm h).trans (congrArg some (Expr.g_eq _))
structure SsC (p:List Barb.Unit) (c:EC) (l:List Barb.Stmt):Prop where
 ok:∀x∈l,StI p c x
 i:∀x∈l,Barb.Stmt.I x
 len:l.length*96<=140737488351232
structure BodI (p:List Barb.Unit) (N:List CN) (g:Nat) (c:EC) (l:List Barb.Stmt) (el0:EL) (s0:ES) (z:Nat × EL × ES):Prop where
 le:z.1<=l.length
 ok:OkS p N g z.2.2
 el:ELI c z.2.1
 eq:Za8 (evS p g c) l el0 s0=Za8 (evS p g c) (l.drop z.1) z.2.1 z.2.2
theorem stG {l:List Barb.Stmt} {i:Nat} (h:i < l.length):(l.map Stmt.g)[i]?=some [.int l[i].k,.str l[i].s,.sl 5 (l[i].xs.map Expr.g),.sl 5 (l[i].b.map Stmt.g),.sl 5 (l[i].e.map Stmt.g)]:=(gm h).trans (congrArg some (Stmt.g_eq _))
theorem ZdC (e:Barb.Stmt->EL->ES->RR EL):∀(l:List Barb.Stmt) (el:EL) (s:ES),el.back=true->Za8 e l el s=.ok el s
 | [],_,_,_=>rfl
 | _ :: _,el,s,h=>by unfold Za8;rw[if_pos h]
theorem ZwY (e:Barb.Stmt->EL->ES->RR EL) {l:List Barb.Stmt} {i:Nat} (hi:i < l.length) (el:EL) (s:ES) (h:el.back=false):Za8 e (l.drop i) el s=(e l[i] el s).bind (Za8 e (l.drop (i+1))):=by rw[Ybh hi];show (if el.back=true then _ else _)=_;rw[if_neg (by rw[h];decide)]
theorem fnG {l:List Fun} {i:Nat} (h:i < l.length):(l.map Fun.g)[i]?=some [.str l[i].name,.bool l[i].isOpen,.sl 1 (l[i].params.map ZbP),.sl 5 (l[i].body.map Stmt.g)]:=(gm h).trans (congrArg some (Fun.g_eq _))
theorem ZpP (p:List Barb.Unit) (g:Nat) (c:EC) (x:Barb.Stmt) (el:EL) (s:ES) (h0:s.fuel≠0):evS p (g+1) c x el s=(evE p g c el.ps (x.xs.getD 0 noX) { s with fuel:=s.fuel - 1 }).bind λn s =>
  if x.k=1 then ZoP p c el s x.s n
  else if x.k=2 then (evE p g c el.ps (x.xs.getD 1 noX) s).bind λv s=>Zss p c el s x.s n v
  else if x.k=3 then Za8 (evS p g c) (if n=0 then x.e else x.b) el s
  else if x.k=4 then Zce (evE p g) (evS p g) c x (g+1) n el s
  else if x.k=5 then .ok { el with back:=true,val:=n } s
  else if s.told.length=500 then .stop 6 s else .ok el { s with told:=s.told++[n] }:=by rw[Zdd];unfold Zho ZdU;rw[if_neg h0]
theorem Zi9 (p:List Barb.Unit) (g:Nat) (c:EC) (x:Barb.Stmt) (el:EL) (s:ES) (h0:s.fuel=0):evS p g c x el s=.stop 3 s:=by
 cases g with
 | zero=>rfl
 | succ g=>rw[Zdd];unfold Zho ZdU;rw[if_pos h0]
structure WhI (p:List Barb.Unit) (N:List CN) (g:Nat) (c:EC) (x:Barb.Stmt) (r:RR EL) (z:Nat × Int × EL × ES):Prop where
 ok:OkS p N g z.2.2.2
 el:ELI c z.2.2.1
 w:wd z.2.1
 eq:(z.2.2.1.back=true/\r=.ok z.2.2.1 z.2.2.2)\/(z.2.2.1.back=false/\z.2.2.2.fuel < z.1/\Zce (evE p g) (evS p g) c x z.1 z.2.1 z.2.2.1 z.2.2.2=r)
end ZN
namespace Barb
open Go Go.Dm Go.Eng
theorem ZpE {α β γ:Type} (f:α->β->γ):∀(xs:List α) (ys:List β) (a:α) (b:β),xs.length=ys.length->List.zipWith f (xs++[a]) (ys++[b])=List.zipWith f xs ys++[f a b]
 | [],[],_,_,_=>rfl
 | [],_ :: _,_,_,h=>by simp at h
 | _ :: _,[],_,_,h=>by simp at h
 | x :: xs,y :: ys,a,b,h=>by simp only[List.cons_append,List.zipWith_cons_cons];rw[ZpE f xs ys a b (by simpa using h)]
theorem Znh (t:Nat):∀(N:List CN) (C:List Cells) (n:CN) (c:Cells),N.length=C.length->Zbi t (N++[n]) (C++[c])=Zbi t N C++Zkj t n c
 | [],[],_,_,_=>by simp[Zbi]
 | [],_ :: _,_,_,h=>by simp at h
 | _ :: _,[],_,_,h=>by simp at h
 | m :: N,d :: C,n,c,h=>by simp only[List.cons_append,Zbi];rw[Znh t N C n c (by simpa using h),Yas]
end Barb
namespace ZN
open Go Go.Dm Go.Eng Go.RowKit Barb
end ZN
namespace Go.Dm
open Go Go.Eng Go.RowKit Barb
theorem Znc {V V':Nat->Prop} {w:World} {v:Value} {xs:List (List GV)} {e sz:Nat} (ho:Zhi V w v (.row xs e sz)) (hV:∀k,V k->V' k) (hb:∀k,bk v=some k->V' k):ZaW V' w (.sl sz xs) v :=
 Zek (h:=[]) (β:=λ_=>v) (i:=0) ho hV hb
section
variable {V V':Nat->Prop} {w:World} {t:Nat}
def ZzM (V V':Nat->Prop) (w:World) (l:List (Value × Ob0)):Prop:=∀q∈l,Zhi V w q.1 q.2/\∀k,bk q.1=some k->V' k
theorem Zng (hV:∀k,V k->V' k) (a:Addr):∀(ns:List Value) (ls:List (List Int)) (j:Nat),ns.length=ls.length->ZzM V V' w (List.zipWith (λv l=>(v,Zew t l)) ns ls)->Zav V' w 1 a j (ns.map λa=>[.raw a])->Zav V' w 1 a j (ls.map ZhF)
 | [],[],_,_,_,h=>h
 | [],_ :: _,_,h,_,_=>by simp at h
 | _ :: _,[],_,h,_,_=>by simp at h
 | n :: ns,l :: ls,j,hl,hm,h=>by simp only[Yar,Zav] at h ⊢;refine ⟨⟨rfl,?_⟩,Zng hV a ns ls (j+1) (by simpa using hl) (λq hq=>hm q (by simp only[List.zipWith_cons_cons];exact Yad _ hq)) h.2⟩;simp only[ZhF,ZaG] at h ⊢;obtain ⟨⟨_,⟨u,hu,hg⟩,_⟩,_⟩:=h;simp only[ZaW] at hg;obtain ⟨h1,h2⟩:=hm (n,Zew t l) (by simp only[List.zipWith_cons_cons];exact Yac);exact ⟨⟨u,hu,by rw[hg.1];exact Znc h1 hV h2⟩,trivial⟩
theorem ZkH (hV:∀k,V k->V' k) (a:Addr):∀(N:List CN) (C:List Cells) (j:Nat),NI N C->ZzM V V' w (Zbi t N C)->Zav V' w 2 a j (N.map CN.g)->Zav V' w 2 a j (C.map Cells.g)
 | [],[],_,_,_,h=>h
 | [],_ :: _,_,h,_,_=>by have:=h.len;simp at this
 | _ :: _,[],_,h,_,_=>by have:=h.len;simp at this
 | n :: N,c :: C,j,hN,hm,h=>by
  have hN':NI N C:=⟨by have:=hN.len;simpa using this,λi h1 h2=>by
   have:=hN.ar (i+1) (by simpa using h1) (by simpa using h2);simpa using this⟩
  have hna:n.ar.length=c.arrays.length:=by have:=hN.ar 0 (by simp) (by simp);simpa using this
  simp only[Yar,Zav] at h ⊢;refine ⟨⟨rfl,?_⟩,ZkH hV a N C (j+1) hN' (λq hq=>hm q (by simp only[Zbi];exact Yao.2 (.inr hq))) h.2⟩;simp only[CN.g,Cells.g,ZaG] at h ⊢;obtain ⟨⟨_,⟨u,hu,hg⟩,⟨u2,hu2,hg2⟩,_⟩,_⟩:=h;simp only[ZaW] at hg;obtain ⟨h1,h2⟩:=hm (n.v,Zew t c.vars) (by simp only[Zbi,Zkj];exact Yao.2 (.inl Yac));refine ⟨⟨u,hu,by rw[hg.1];exact Znc h1 hV h2⟩,⟨u2,hu2,?_⟩,trivial⟩;simp only[ZaW,Yab] at hg2 ⊢;obtain ⟨A,cap,rfl,hc,h3,h4⟩:=hg2;refine ⟨A,cap,by rw[hna],by omega,λh0=>?_,h4⟩;obtain ⟨a2,rfl,hVa,hall⟩:=h3 (by omega);exact ⟨a2,rfl,hVa,Zng hV a2 n.ar c.arrays 0 hna (λq hq=>hm q (by simp only[Zbi,Zkj];exact Yao.2 (.inl (Yad _ hq)))) hall⟩
theorem Zwe (hV:∀k,V k->V' k) {N:List CN} {C:List Cells} (hN:NI N C) (hm:ZzM V V' w (Zbi t N C)) {v:Value} (h:ZaW V' w (.sl 2 (N.map CN.g)) v):ZaW V' w (.sl 2 (C.map Cells.g)) v:=by simp only[ZaW,Yab] at h ⊢;obtain ⟨A,cap,rfl,hc,h3,h4⟩:=h;have hl:=hN.len;refine ⟨A,cap,by rw[hl],by omega,λh0=>?_,h4⟩;obtain ⟨a2,rfl,hVa,hall⟩:=h3 (by omega);exact ⟨a2,rfl,hVa,ZkH hV a2 N C 0 hN hm hall⟩
end
section
variable {G:Gl} {n:Nat}
theorem ZpM {K:St->Prop} {env:Env} {h:Zad} {df:List Deferred} {N:List CN} {C:List Cells} {t tb m j off:Nat} {cs:List D} {ts:List (Value × Nat)} (hm:h[m]?=some (.many (Zbi t N C) ts)) (hj:h[j]?=some (.blk cs tb)) (hc:cs[off]?=some (.g (.sl 2 (N.map CN.g)))) (hN:NI N C)
  (k:ZcY G n K ⟨env,(h.set m .dead).set j (.blk (cs.set off (.g (.sl 2 (C.map Cells.g)))) tb),df⟩):ZcY G n K ⟨env,h,df⟩:=by
 obtain ⟨st1,hst,hk⟩:=k;refine ⟨st1,λX a w hG hr=>hst X a w hG ?_,hk⟩;obtain ⟨h1,h2,β,V,h3,h4⟩:=hr;have hmj:m≠j:=λe=>by subst e;have:(⟨env,h,df⟩:St).h[m]?=some (.blk cs tb):=hj;rw[hm] at hj;cases hj
 have hkl:=ZeK h3 [m];have hle:=ZeJ [m] h β;have hmv:=Zbw h [m] β V w;have ek:ZbS h [m]=h.set m .dead:=rfl;rw[show (⟨env,h,df⟩:St).h=h from rfl] at hkl;rw[ek] at hkl hle;have hj':(h.set m .dead)[j]?=some (.blk cs tb):=by rw[YaR hmj];exact hj
 have hob:=h3.obj m _ hm;have hr2:RelD X ((h.set m .dead).set j (.blk (cs.set off (.g (.sl 2 (C.map Cells.g)))) tb)) β (Zg3 h [m] β V) w :=
  hkl.recell hj' (λg vs _ _ p3=>by
   obtain ⟨v,c1,c2⟩:=Zmd p3 hc;refine Zmc p3 c1 ?_;simp only[Zaa] at c2 ⊢;refine Zwe (V:=V) (t:=t) (λk hk=>.inl hk) hN (λq hq=>⟨hob.1 q hq,λk hk=>.inr ⟨m,_,Yac,hm,rfl,q,hq,hk⟩⟩) c2)
 have hle2:LeH h β ((h.set m .dead).set j (.blk (cs.set off (.g (.sl 2 (C.map Cells.g)))) tb)) β:=hle.trans (Zcv hj' trivial);exact ⟨h1,h2,β,_,hr2,λi=>Zaa.mono hle2 hmv _ _ (h4 i)⟩
end
end Go.Dm
namespace ZN
open Go Go.Dm Go.Eng Go.RowKit Barb
noncomputable def ZuP (p:List Barb.Unit) (cs:List Cells) (u i:Nat) (args:List Int) (deep fuel:Nat):RR Int:=Zb6 p (evS p fuel) u i args deep ⟨fuel,[],cs⟩
def ZzF (e v:Int) (s:ES):D:=.tuple [.agg [.g (.int e),.g (.int v),.g (.sl 1 (s.told.map Zat)),.g (.sl 1 []),.g (.sl 7 [])],.g (.sl 2 (s.cells.map Cells.g)),.g (.int 0)]
def Zzu:RR Int->D
 | .ok n s=>ZzF 1 n s
 | .stop e s=>ZzF e 0 s
end ZN
