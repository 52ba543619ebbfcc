import Derived.Test.YtpjjkiidjofflaaGreatDoorWG1
import Derived.Tactics
import Derived.Tactics2
import Derived.Defers
import Derived.Recover
import Derived.Laws.Pointers
import Derived.OneCell
open Go Go.Proofs Go.Proofs.YtpjjkiidjofflaaGreatDoor
namespace Go.Dm
open Go Go.Eng
theorem CT.weaken {P:Program} {G:Gl} {g:FuncId} {ds:List D} {Q Q':Out->Prop} (h:CT P G g ds Q) (hq:∀o,Q o->Q' o):CT P G g ds Q':=λw V vals hV hG hr =>
 (h w V vals hV hG hr).mono λe w' he=>by
  cases e with
  | returned v=>obtain ⟨d,h',β',V',h1,h2⟩:=he;exact ⟨d,h',β',V',hq _ h1,h2⟩
  | panicked ch=>obtain ⟨d,t,u,β',V',h1,h2,h3⟩:=he;exact ⟨d,t,u,β',V',h1,hq _ h2,h3⟩
  | outgrown=>exact he.elim
end Go.Dm
namespace ZN
open Go Go.Dm Go.Eng Barb
def Zon (e:Int):D:=.iface 175 (.agg [.g (.int e)])
def RP (e:Int) (d:D):Out->Prop:=λo=>(e=0/\o=.ret d [])\/(e≠0/\o=.pan (Zon e))
theorem Zn1 {P:Program} {G:Gl} {g:FuncId} {ds es:List D} {e:Int} {d:D} {K:D->Zad->Prop} {Kp:D->Prop} (hl:ZdX ds es) (hc:CT P G g es (RP e d)) (hk:e=0->K d []) (hp:e≠0->Kp (Zon e)) :
  ∃es Q,ZdX ds es/\CT P G g es Q/\(∀d h',Q (.ret d h')->K d h')/\(∀d,Q (.pan d)->Kp d):=by
 refine ⟨es,_,hl,hc,λd' h' hq=>?_,λd' hq=>?_⟩
 ·rcases hq with ⟨h0,hq⟩ | ⟨_,hq⟩
  ·injection hq with e1 e2;subst e1;subst e2;exact hk h0
  ·cases hq
 ·rcases hq with ⟨_,hq⟩ | ⟨h0,hq⟩
  ·cases hq
  ·injection hq with e1;subst e1;exact hp h0
theorem Zj8 {e:Int} {d:D} {h:Zad} {v:Int} (hv:v≠0) (he:e=v):Zoh (RP e d) h (Zon v):=ZCQ (Zon v) rfl (.inr ⟨by rw[he];exact hv,by rw[he]⟩)
open Classical in
theorem Zqe (p:Prop) (e:Int) (he:e≠0):CT Tryz.prog gl 78 [.pb p,.g (.int e)] (RP (if p then 0 else e) (.tuple [])):=by refine enter hT hF hM Tryz.func78 rfl 9 rfl (by kernel_rfl) [] rfl [.pb p,.g (.int e)] rfl _ ?_;refine ⟨λh=>⟨rfl,Zj8 he (if_neg h)⟩,λh=>?_⟩;exact ⟨rfl,ZBU (.tuple []) (.inl rfl) (.inl ⟨if_pos h,rfl⟩)⟩
theorem Zaq {d:D} {p:Prop} {e:Int} (he:e≠0) {K:D->Zad->Prop} {Kp:D->Prop} (hl:ZiV N0 4 d (.pb p)) (hk:p->K (.tuple []) []) (hp:¬p->Kp (Zon e)) :
  ∃es Q,ZdX [d,.g (.int e)] es/\CT Tryz.prog gl 78 es Q/\(∀d h',Q (.ret d h')->K d h')/\(∀d,Q (.pan d)->Kp d):=by
 by_cases h:p
 ·have hc:=Zqe p e he;rw[if_pos h] at hc;exact Zn1 (es:=[.pb p,.g (.int e)]) (.inr ⟨hl,lk rfl,trivial⟩) hc (λ_=>hk h) (λh0=>absurd rfl h0)
 ·have hc:=Zqe p e he;rw[if_neg h] at hc;exact Zn1 (es:=[.pb p,.g (.int e)]) (.inr ⟨hl,lk rfl,trivial⟩) hc (λh0=>absurd h0 he) (λ_=>hp h)
set_option maxHeartbeats 1000000 in
theorem ZsS:∀(f:Nat) (x:Barb.Expr),x.I->∀depth:Int,depth+f=13->0<=depth->CT Tryz.prog gl 92 [.agg x.d,.g (.int depth)] (RP (ZaN f x) (.tuple [])):=by
 intro f
 induction f with
 | zero =>intro x _ depth hd _;refine enter hT hF hM Tryz.func92 rfl 141 rfl (by kernel_rfl) [] rfl [.agg x.d,.g (.int depth)] rfl _ ?_;exact Zaq (p:=depth<=12) (by decide) (lkP Ybg) (λh=>absurd h (by omega)) (λ_=>⟨rfl,Zj8 (by decide) rfl⟩)
 | succ f ih =>
  intro x hx depth hd hd0;obtain ⟨hk,hn,ho,hs,ha,hI⟩:=hx.inv;have e:=ZhO f x;have hl:(x.args.map Expr.g).length=x.args.length:=by simp
  refine enter hT hF hM Tryz.func92 rfl 141 rfl (by kernel_rfl) [] rfl [.agg x.d,.g (.int depth)] rfl _ ?_;refine stepS ⟨?_⟩;refine stepS ?_;refine Zaq (p:=depth<=12) (by decide) (lkP Ybg) (λ_=>⟨?_⟩) (λh=>absurd (by omega) h);refine Zrt (ι:=PUnit) (λ_=>[(2,.ptr 0 0),(1,.g (.int depth))]) (λ_=>[.blk x.d 132]) (λ_=>1<=x.k/\x.k<=5) (λe0 _ h2=>?_) (λRj hRj=>?_)
  rotate_left
  ·refine ⟨λa1=>?_,λa1=>?_⟩
   ·exact Zaq (p:=1<=x.k/\x.k<=5) (by decide) (lkP ⟨λh=>⟨a1,h⟩,λh=>h.2⟩) (λh=>hRj ⟨⟩ _ ⟨rfl,rfl,trivial⟩ h) (λh=>⟨rfl,Zj8 (by decide) (by rw[e,if_pos h])⟩)
   ·exact Zaq (p:=1<=x.k/\x.k<=5) (by decide) (Zst ⟨λh=>(by cases h),λh=>absurd h.1 a1⟩) (λh=>absurd h.1 a1) (λh=>⟨rfl,Zj8 (by decide) (by rw[e,if_pos h])⟩)
  rw[if_neg (Yam.2 h2)] at e;refine stepS ⟨?_⟩;refine stepS ?_;refine Zaq (p:=¬4 < x.args.length) (by decide) (lkP (by omega)) (λh3=>⟨?_⟩) (λh3=>⟨rfl,Zj8 (by decide) (by rw[e,if_pos (by omega)])⟩);rw[if_neg h3] at e;refine Zrt (ι:=PUnit) (λ_=>[(2,.ptr 0 0),(1,.g (.int depth))]) (λ_=>[.blk x.d 132]) (λ_=>Zbp x.k x.n x.of x.s x.args.length/\¬ZaR x.k x.n) (λe0 _ h45=>?_) (λRj hRj=>?_)
  rotate_left
  ·have pan4:∀hh:Zad,¬Zbp x.k x.n x.of x.s x.args.length->Zoh (RP (ZaN (f+1) x) (.tuple [])) hh (Zon 4):=λhh h4=>Zj8 (by decide) (by rw[e,if_pos h4]);have pan2:∀hh:Zad,Zbp x.k x.n x.of x.s x.args.length->ZaR x.k x.n->Zoh (RP (ZaN (f+1) x) (.tuple [])) hh (Zon 2):=λhh h4 h5=>Zj8 (by decide) (by rw[e,if_neg (Yam.2 h4),if_pos h5]);have ok:∀(k':Int),x.k=k'->(Zbp x.k x.n x.of x.s x.args.length↔Zbp k' x.n x.of x.s x.args.length):=λk' hk'=>by rw[hk']
   have hl0:∀m:Nat,((List.map Expr.g x.args).length:Int)=(m:Int)↔x.args.length=m:=λm=>by rw[hl];omega
   have bad:∀k',x.k=k'->k'≠1->k'≠5->¬ZaR x.k x.n:=λk' h0 h1 h5=>by unfold ZaR;omega
   clear e;generalize hP:Zbp x.k x.n x.of x.s x.args.length=P at *;have noP:∀hh:Zad,¬P->∀K:D->Zad->Prop,∀Kp:D->Prop,(¬P->Kp (Zon 4))->∃es Q,ZdX [.g (.bool false),.g (.int 4)] es/\CT Tryz.prog gl 78 es Q/\(∀d h',Q (.ret d h')->K d h')/\(∀d,Q (.pan d)->Kp d) :=
    λ_ h K Kp hp=>Zaq (p:=P) (by decide) (Zst ⟨λh=>(by cases h),λhp=>absurd hp h⟩) (λhp=>absurd hp h) hp
   refine ⟨λb1=>?_,λb1=>⟨λb2=>?_,λb2=>⟨λb3=>?_,λb3=>⟨λb4=>?_,λb4=>?_⟩⟩⟩⟩
   ·have o:=(ok 1 b1).trans ZqH;refine ⟨λc1=>⟨λc2=>?_,λc2=>?_⟩,λc1=>?_⟩
    ·refine Zaq (p:=P) (by decide) (lkP ⟨λc3=>o.2 ⟨c1,c2,(hl0 0).1 c3⟩,λc3=>(hl0 0).2 (o.1 c3).2.2⟩) (λh4=>?_) (λh4=>⟨rfl,pan4 _ h4⟩);refine Zae (.inl rfl) (Zlb x.n) ?_;exact Zaq (p:=¬ZaR x.k x.n) (by decide) (lkP (by unfold ZaR;omega)) (λh5=>hRj ⟨⟩ _ ⟨rfl,rfl,trivial⟩ ⟨h4,h5⟩) (λh5=>⟨rfl,pan2 _ h4 (Yam.1 h5)⟩)
    ·exact noP [] (λh=>c2 (o.1 h).2.1) _ _ (λh4=>⟨rfl,pan4 _ h4⟩)
    ·exact noP [] (λh=>c1 (o.1 h).1) _ _ (λh4=>⟨rfl,pan4 _ h4⟩)
   ·have o:=(ok 2 b2).trans ZqG;refine ⟨λc1=>Zae (.inl rfl) (Zb8 x.s hs) ⟨λc2=>⟨λc3=>?_,λc3=>?_⟩,λc2=>?_⟩,λc1=>?_⟩
    ·exact Zaq (p:=P) (by decide) (lkP ⟨λc4=>o.2 ⟨c1,c2,(hl0 0).1 c3,c4⟩,λc4=>(o.1 c4).2.2.2⟩) (λh4=>hRj ⟨⟩ _ ⟨rfl,rfl,trivial⟩ ⟨h4,bad 2 b2 (by decide) (by decide)⟩) (λh4=>⟨rfl,pan4 _ h4⟩)
    ·exact noP [] (λc4=>c3 ((hl0 0).2 (o.1 c4).2.2.1)) _ _ (λh4=>⟨rfl,pan4 _ h4⟩)
    ·exact noP [] (λc4=>c2 (o.1 c4).2.1) _ _ (λh4=>⟨rfl,pan4 _ h4⟩)
    ·exact noP [] (λc4=>c1 (o.1 c4).1) _ _ (λh4=>⟨rfl,pan4 _ h4⟩)
   ·have o:=(ok 3 b3).trans Zl3;refine ⟨λc1=>Zae (.inl rfl) (Zb8 x.s hs) ⟨λc2=>⟨λc3=>?_,λc3=>?_⟩,λc2=>?_⟩,λc1=>?_⟩
    ·exact Zaq (p:=P) (by decide) (lkP ⟨λc4=>o.2 ⟨c1,c2,(hl0 1).1 c3,c4⟩,λc4=>(o.1 c4).2.2.2⟩) (λh4=>hRj ⟨⟩ _ ⟨rfl,rfl,trivial⟩ ⟨h4,bad 3 b3 (by decide) (by decide)⟩) (λh4=>⟨rfl,pan4 _ h4⟩)
    ·exact noP [] (λc4=>c3 ((hl0 1).2 (o.1 c4).2.2.1)) _ _ (λh4=>⟨rfl,pan4 _ h4⟩)
    ·exact noP [] (λc4=>c2 (o.1 c4).2.1) _ _ (λh4=>⟨rfl,pan4 _ h4⟩)
    ·exact noP [] (λc4=>c1 (o.1 c4).1) _ _ (λh4=>⟨rfl,pan4 _ h4⟩)
   ·have o:=(ok 4 b4).trans ZwJ;have b':=bad 4 b4 (by decide) (by decide);refine Zae (.inl rfl) (Zb8 x.s hs) ⟨λc2=>⟨λc1=>?_,λc1=>Zae (.inl rfl) (Zb8 x.of ho) ⟨λc0=>?_,λc0=>?_⟩⟩,λc2=>?_⟩
    ·exact Zaq (p:=P) (by decide) (lkP ⟨λc4=>o.2 ⟨.inl c1,c2,c4⟩,λc4=>(o.1 c4).2.2⟩) (λh4=>hRj ⟨⟩ _ ⟨rfl,rfl,trivial⟩ ⟨h4,b'⟩) (λh4=>⟨rfl,pan4 _ h4⟩)
    ·exact Zaq (p:=P) (by decide) (lkP ⟨λc4=>o.2 ⟨.inr c0,c2,c4⟩,λc4=>(o.1 c4).2.2⟩) (λh4=>hRj ⟨⟩ _ ⟨rfl,rfl,trivial⟩ ⟨h4,b'⟩) (λh4=>⟨rfl,pan4 _ h4⟩)
    ·exact noP [] (λc4=>(o.1 c4).1.elim c1 c0) _ _ (λh4=>⟨rfl,pan4 _ h4⟩)
    ·exact noP [] (λc4=>c2 (o.1 c4).2.1) _ _ (λh4=>⟨rfl,pan4 _ h4⟩)
   ·have b5:x.k=5:=by omega
    have o:=(ok 5 b5).trans Zl2;refine ⟨λc1=>⟨λc2=>?_,λc2=>?_⟩,λc1=>?_⟩
    ·refine Zaq (p:=P) (by decide) (lkP ⟨λc3=>o.2 ⟨c1,c2,(hl0 2).1 c3⟩,λc3=>(hl0 2).2 (o.1 c3).2.2⟩) (λh4=>?_) (λh4=>⟨rfl,pan4 _ h4⟩);refine ⟨λd1=>?_,λd1=>?_⟩
     ·exact Zaq (p:=¬ZaR x.k x.n) (by decide) (lkP (by unfold ZaR;omega)) (λh5=>hRj ⟨⟩ _ ⟨rfl,rfl,trivial⟩ ⟨h4,h5⟩) (λh5=>⟨rfl,pan2 _ h4 (Yam.1 h5)⟩)
     ·exact Zaq (p:=¬ZaR x.k x.n) (by decide) (Zst ⟨λh=>(by cases h),λh=>absurd (by unfold ZaR;omega) h⟩) (λh5=>absurd (by unfold ZaR;omega) h5) (λh5=>⟨rfl,pan2 _ h4 (Yam.1 h5)⟩)
    ·exact noP [] (λc3=>c2 (o.1 c3).2.1) _ _ (λh4=>⟨rfl,pan4 _ h4⟩)
    ·exact noP [] (λc3=>c1 (o.1 c3).1) _ _ (λh4=>⟨rfl,pan4 _ h4⟩)
  rw[if_neg (Yam.2 h45.1),if_neg h45.2] at e;refine ZaL (ι:=Nat) (λi=>[(132,.g (.int (i:Int)))]) (λ_=>[]) (λi=>i<=x.args.length/\∀j (hj:j < x.args.length),j < i->ZaN f x.args[j]=0) (λi=>x.args.length - i)
   ⟨0,[],⟨rfl,.inl rfl,.inr ⟨lk rfl,trivial⟩,rfl⟩,Yau _,ZfT⟩ ?_
  intro Rd hRd i ⟨hi,ha'⟩;refine ⟨λh6=>?_,λh6=>?_⟩
  ·have h7:i < x.args.length:=by omega
   refine ⟨i,_,rfl,(gm h7).trans (congrArg some (Expr.g_eq _)),?_⟩;refine ⟨_,I64.wrap (by unfold I64;omega),?_⟩;refine Zn1 (.inl rfl) (ih x.args[i] (hI _ (Yah _)) (depth+1) (by omega) (by omega)) (λh8=>?_) (λh8=>⟨rfl,Zj8 h8 (by rw[e,ZaV h7 ha' h8])⟩);refine ⟨_,I64.wrap (by unfold I64;omega),?_⟩;exact hRd _ _ _ ⟨i+1,[],⟨rfl,.inl rfl,.inr ⟨lk rfl,trivial⟩,rfl⟩,⟨h7,ZaO h7 ha' h8⟩,by omega⟩
  ·exact ⟨rfl,ZBU (.tuple []) (.inl rfl) (.inl ⟨by rw[e,Za0 (by omega) ha'],rfl⟩)⟩
end ZN
namespace Barb
open Go Go.Dm Go.Eng
theorem ZBI (m a b:Int):IntKind.i64.wrap (IntKind.i64.wrap m+IntKind.i64.wrap (IntKind.i64.wrap a+IntKind.i64.wrap b))=IntKind.i64.wrap (m+(a+b)):=by rw[Zit (a:=a),ZiX (a:=a),Zit,ZiX]
theorem Znt {s:Str} (h:Zaw s):s≠[]:=λe=>by subst e;have:=h.1.1.1;simp at this
abbrev kpT (depth m:Int) (i:Nat):List (Nat × D):=[(1,.g (.int depth)),(5,.g (.int m)),(19,.g (.int (i:Int))),(7,.ptr 0 0)]
end Barb
namespace ZN
open Go Go.Dm Go.Eng Barb
set_option maxHeartbeats 1000000 in
theorem Zrk:∀(f:Nat) (l:List Barb.Stmt),(∀x∈l,Barb.Stmt.I x)->l.length*96<=140737488351232->∀depth:Int,depth+f=13->0<=depth->CT Tryz.prog gl 80 [.g (.sl 5 (l.map Stmt.g)),.g (.int depth)] (RP (Zan f l) (.g (.int (IntKind.i64.wrap (Zam f l))))):=by
 intro f
 induction f with
 | zero =>intro l _ _ depth hd _;refine enter hT hF hM Tryz.func80 rfl 116 rfl (by kernel_rfl) [.tmp 4] rfl [.g (.sl 5 (l.map Stmt.g)),.g (.int depth)] rfl _ ?_;exact Zaq (p:=depth<=12) (by decide) (lkP Ybg) (λh=>absurd h (by omega)) (λ_=>⟨rfl,Zj8 (by decide) rfl⟩)
 | succ f ih =>
  intro l hI hlen depth hd hd0;have hl:(l.map Stmt.g).length=l.length:=by simp
  refine enter hT hF hM Tryz.func80 rfl 116 rfl (by kernel_rfl) [.tmp 4] rfl [.g (.sl 5 (l.map Stmt.g)),.g (.int depth)] rfl _ ?_;refine stepS ⟨?_⟩;refine stepS ?_;refine Zaq (p:=depth<=12) (by decide) (lkP Ybg) (λ_=>⟨?_⟩) (λh=>absurd (by omega) h);refine ZaL (ι:=Nat) (λi=>[(5,.g (.int (IntKind.i64.wrap (Zeh f l i)))),(19,.g (.int (i:Int)))]) (λ_=>[]) (λi=>i<=l.length/\∀j (hj:j < l.length),j < i->ZcZ (Zan f) l[j]=0) (λi=>l.length - i)
   ⟨0,[],⟨rfl,.inl rfl,.inr ⟨lkI (by rw[hl,I64.wrap (by simp[Zeh,I64];omega)];simp[Zeh]),lk rfl,trivial⟩,rfl⟩,Yau _,ZfT⟩ ?_
  intro Rd hRd i ⟨hi,ha⟩;refine ⟨λh0=>?_,λh0=>?_⟩
  rotate_left
  ·have hz:Zan (f+1) l=0:=Za0 (by rw[hl] at h0;omega) ha;have hil:i=l.length:=by rw[hl] at h0;omega
   exact ⟨rfl,ZBU (.g (.int (IntKind.i64.wrap (Zeh f l i)))) (.inl rfl) (.inl ⟨hz,by rw[hil];simp[Zeh,Zam]⟩)⟩
  have h1:i < l.length:=by rw[hl] at h0;omega
  have fin:∀v:Int,v≠0->ZcZ (Zan f) l[i]=v->∀h:Zad,Zoh (RP (Zan (f+1) l) (.g (.int (IntKind.i64.wrap (Zam (f+1) l))))) h (Zon v):=by intro v hv he h;refine Zj8 hv ?_;have:Zan (f+1) l=Zah (ZcZ (Zan f)) l:=rfl;rw[this,ZaV h1 ha (by rw[he];exact hv),he]
  have hsucc:=Zox (f:=f) h1;obtain ⟨hk,hs,hxl,hbl,hel,hxI,hbI,heI⟩:=(hI l[i] (Yah _)).inv;have e:=Zjb (Zan f) l[i];have next:∀v,ZcZ (Zan f) l[i]=v->v=0->∀j (hj:j < l.length),j < i+1->ZcZ (Zan f) l[j]=0:=λv hv h0=>ZaO h1 ha (hv.trans h0)
  refine stepS ?_;refine stepS ?_;refine ⟨i,_,rfl,(gm h1).trans (congrArg some (Stmt.g_eq _)),⟨?_⟩⟩;generalize l[i]=y at *;refine Zrt (ι:=PUnit) (λ_=>kpT depth (IntKind.i64.wrap (Zeh f l i)) i) (λ_=>[.blk y.d 135]) (λ_=>1<=y.k/\y.k<=6) (λe0 _ h2=>?_) (λRj hRj=>?_)
  rotate_left
  ·refine ⟨λa1=>?_,λa1=>?_⟩
   ·exact Zaq (p:=1<=y.k/\y.k<=6) (by decide) (lkP ⟨λh=>⟨a1,h⟩,λh=>h.2⟩) (λh=>hRj ⟨⟩ _ ⟨rfl,rfl,rfl,rfl,trivial⟩ h) (λh=>⟨rfl,fin 3 (by decide) (by rw[e,if_pos h]) _⟩)
   ·exact Zaq (p:=1<=y.k/\y.k<=6) (by decide) (Zst ⟨λh=>(by cases h),λh=>absurd h.1 a1⟩) (λh=>absurd h.1 a1) (λh=>⟨rfl,fin 3 (by decide) (by rw[e,if_pos h]) _⟩)
  rw[if_neg (Yam.2 h2)] at e;refine Zrt (ι:=D) (λd=>kpT depth (IntKind.i64.wrap (Zeh f l i)) i++[(8,d)]) (λ_=>[.blk y.d 135]) (λd=>(d=.g (.bool true)/\y.k=1)\/(d=.pb (y.k=2)/\y.k≠1)) (λe1 d h8=>?_) (λRj hRj=>?_)
  rotate_left
  ·exact ⟨λa1=>hRj _ _ ⟨rfl,rfl,rfl,rfl,rfl,trivial⟩ (.inl ⟨rfl,a1⟩),λa1=>hRj _ _ ⟨rfl,rfl,rfl,rfl,rfl,trivial⟩ (.inr ⟨rfl,a1⟩)⟩
  refine stepS ⟨?_⟩;refine Zrt (ι:=PUnit) (λ_=>kpT depth (IntKind.i64.wrap (Zeh f l i)) i++[(8,d),(9,.g (.int (nOf y.k)))]) (λ_=>[.blk y.d 135]) (λ_=>True) (λe2 _ _=>?_) (λRj hRj=>?_)
  rotate_left
  ·refine ⟨λh3=>hRj ⟨⟩ _ ⟨rfl,rfl,rfl,rfl,rfl,(by rw[nOf,if_pos h3];rfl),trivial⟩ trivial,λh3=>hRj ⟨⟩ _ ⟨rfl,rfl,rfl,rfl,rfl,(by rw[nOf,if_neg h3];rfl),trivial⟩ trivial⟩
  have hx:(y.xs.map Expr.g).length=y.xs.length:=by simp
  have hb':(y.b.map Stmt.g).length=y.b.length:=by simp
  have he':(y.e.map Stmt.g).length=y.e.length:=by simp
  refine Zrt (ι:=PUnit) (λ_=>kpT depth (IntKind.i64.wrap (Zeh f l i)) i) (λ_=>[.blk y.d 135]) (λ_=>¬Zq6 y.k y.s y.xs.length) (λe3 _ hb1=>?_) (λRj hRj=>?_)
  rotate_left
  ·have pan4:∀hh:Zad,¬¬Zq6 y.k y.s y.xs.length->Zoh (RP (Zan (f+1) l) (.g (.int (IntKind.i64.wrap (Zam (f+1) l))))) hh (Zon 4):=λhh h4=>fin 4 (by decide) (by rw[e,if_pos (λh=>h4 (Zhn.1 h).1)]) hh;have fls:∀hh:Zad,Zq6 y.k y.s y.xs.length->∀K:D->Zad->Prop,∀Kp:D->Prop,Kp (Zon 4)->∃es Q,ZdX [.g (.bool false),.g (.int 4)] es/\CT Tryz.prog gl 78 es Q/\(∀d h',Q (.ret d h')->K d h')/\(∀d,Q (.pan d)->Kp d) :=
    λ_ h K Kp hp=>Zaq (p:=¬Zq6 y.k y.s y.xs.length) (by decide) (Zst ⟨λh=>(by cases h),λhp=>absurd h hp⟩) (λhp=>absurd h hp) (λ_=>hp)
   have b1:Zq6 y.k y.s y.xs.length↔¬((y.k<=2->Zaw y.s)/\(2 < y.k->y.s=[])/\(y.xs.length:Int)=nOf y.k):=Ybg;clear e;rcases h8 with ⟨rfl,hk1⟩ | ⟨rfl,hk1⟩
   ·refine ⟨λa1=>Zae (.inl rfl) (Zb8 y.s hs) ⟨λa2=>?_,λa2=>?_⟩,λa1=>?_⟩
    ·exact Zaq (p:=¬Zq6 y.k y.s y.xs.length) (by decide) (lkP (by rw[b1,hx,Yam];exact ⟨λh=>⟨λ_=>a2,λh'=>absurd h' (by omega),h⟩,λh=>h.2.2⟩)) (λh4=>hRj ⟨⟩ _ ⟨rfl,rfl,rfl,rfl,trivial⟩ h4) (λh4=>⟨rfl,pan4 _ h4⟩)
    ·have hb:Zq6 y.k y.s y.xs.length:=λh=>a2 (h.1 (by omega));exact fls [] hb _ _ ⟨rfl,pan4 _ (λh=>h hb)⟩
    ·have hb:Zq6 y.k y.s y.xs.length:=λh=>a1 ⟨λ_=>Znt (h.1 (by omega)),λ_=>rfl⟩;exact fls [] hb _ _ ⟨rfl,pan4 _ (λh=>h hb)⟩
   ·refine ⟨λa1=>⟨λa2=>?_,λa2=>?_⟩,λa1=>?_⟩
    ·have hs0:y.s=[]:=Yam.1 (λh=>a2 (a1.2 h));exact Zaq (p:=¬Zq6 y.k y.s y.xs.length) (by decide) (lkP (by rw[b1,hx,Yam];exact ⟨λh=>⟨λh'=>absurd h' (by omega),λ_=>hs0,h⟩,λh=>h.2.2⟩)) (λh4=>hRj ⟨⟩ _ ⟨rfl,rfl,rfl,rfl,trivial⟩ h4) (λh4=>⟨rfl,pan4 _ h4⟩)
    ·refine Zae (.inl rfl) (Zb8 y.s hs) ⟨λa3=>?_,λa3=>?_⟩
     ·exact Zaq (p:=¬Zq6 y.k y.s y.xs.length) (by decide) (lkP (by rw[b1,hx,Yam];exact ⟨λh=>⟨λ_=>a3,λh'=>absurd h' (by omega),h⟩,λh=>h.2.2⟩)) (λh4=>hRj ⟨⟩ _ ⟨rfl,rfl,rfl,rfl,trivial⟩ h4) (λh4=>⟨rfl,pan4 _ h4⟩)
     ·have hb:Zq6 y.k y.s y.xs.length:=λh=>a3 (h.1 (by omega));exact fls [] hb _ _ ⟨rfl,pan4 _ (λh=>h hb)⟩
    ·have hb:Zq6 y.k y.s y.xs.length:=λh=>a1 ⟨λhk2=>Znt (h.1 (by omega)),λhs0=>YaG λhk2=>hs0 (h.2.1 (by omega))⟩;exact fls [] hb _ _ ⟨rfl,pan4 _ (λh=>h hb)⟩
  refine Zrt (ι:=PUnit) (λ_=>kpT depth (IntKind.i64.wrap (Zeh f l i)) i) (λ_=>[.blk y.d 135]) (λ_=>¬Zsj y.k y.b.length y.e.length) (λe4 _ hb2=>?_) (λRj hRj=>?_)
  rotate_left
  ·have pan4:∀hh:Zad,¬¬Zsj y.k y.b.length y.e.length->Zoh (RP (Zan (f+1) l) (.g (.int (IntKind.i64.wrap (Zam (f+1) l))))) hh (Zon 4):=λhh h4=>fin 4 (by decide) (by rw[e,if_pos (λh=>h4 (Zhn.1 h).2)]) hh;have fls:∀hh:Zad,Zsj y.k y.b.length y.e.length->∀K:D->Zad->Prop,∀Kp:D->Prop,Kp (Zon 4)->∃es Q,ZdX [.g (.bool false),.g (.int 4)] es/\CT Tryz.prog gl 78 es Q/\(∀d h',Q (.ret d h')->K d h')/\(∀d,Q (.pan d)->Kp d) :=
    λ_ h K Kp hp=>Zaq (p:=¬Zsj y.k y.b.length y.e.length) (by decide) (Zst ⟨λh=>(by cases h),λhp=>absurd h hp⟩) (λhp=>absurd h hp) (λ_=>hp)
   have tru:∀hh:Zad,¬Zsj y.k y.b.length y.e.length->∀K:D->Zad->Prop,∀Kp:D->Prop,K (.tuple []) []->∃es Q,ZdX [.g (.bool true),.g (.int 4)] es/\CT Tryz.prog gl 78 es Q/\(∀d h',Q (.ret d h')->K d h')/\(∀d,Q (.pan d)->Kp d) :=
    λ_ h K Kp hp=>Zaq (p:=¬Zsj y.k y.b.length y.e.length) (by decide) (Zst ⟨λ_=>h,λ_=>rfl⟩) (λ_=>hp) (λhp=>absurd h hp)
   have b2:Zsj y.k y.b.length y.e.length↔¬((y.b.length=0\/y.k=3\/y.k=4)/\(y.e.length=0\/y.k=3)):=Ybg;clear e;refine ⟨λa1=>⟨λa2=>?_,λa2=>absurd a1 a2⟩,λa1=>⟨λa2=>⟨λa3=>absurd a3 a1,λa3=>?_⟩,λa2=>⟨λa3=>⟨λa4=>absurd a4 a1,λa4=>?_⟩,λa3=>?_⟩⟩⟩
   ·have hz:¬Zsj y.k y.b.length y.e.length:=by rw[b2];omega
    exact tru [] hz _ _ (hRj ⟨⟩ _ ⟨rfl,rfl,rfl,rfl,trivial⟩ hz)
   ·exact Zaq (p:=¬Zsj y.k y.b.length y.e.length) (by decide) (lkP (by rw[b2,he'];omega)) (λh4=>hRj ⟨⟩ _ ⟨rfl,rfl,rfl,rfl,trivial⟩ h4) (λh4=>⟨rfl,pan4 _ h4⟩)
   ·exact Zaq (p:=¬Zsj y.k y.b.length y.e.length) (by decide) (lkP (by rw[b2,he'];omega)) (λh4=>hRj ⟨⟩ _ ⟨rfl,rfl,rfl,rfl,trivial⟩ h4) (λh4=>⟨rfl,pan4 _ h4⟩)
   ·have hb:Zsj y.k y.b.length y.e.length:=by rw[b2];omega
    exact fls [] hb _ _ ⟨rfl,pan4 _ (λh=>h hb)⟩
  rw[if_neg (Yam.2 (Zhn.2 ⟨hb1,hb2⟩))] at e;have hnx:(y.xs.length:Int)=nOf y.k:=(Yam.1 hb1).2.2;clear h8;refine ZaL (ι:=Nat) (λk=>[(94,.g (.int (k:Int))),(7,.ptr 0 0)]) (λ_=>[.blk y.d 135]) (λk=>k<=y.xs.length/\∀j (hj:j < y.xs.length),j < k->ZaN 12 y.xs[j]=0) (λk=>y.xs.length - k)
   ⟨0,[.old 0],⟨rfl,.inl rfl,.inr ⟨lk rfl,lk rfl,trivial⟩,rfl⟩,Yau _,ZfT⟩ ?_
  intro Rk hRk k ⟨hk1,hk2⟩;refine ⟨λc0=>?_,λc0=>?_⟩
  ·have c1:k < y.xs.length:=by omega
   refine ⟨k,_,rfl,(gm c1).trans (congrArg some (Expr.g_eq _)),?_⟩;refine Zn1 (.inl rfl) (ZsS 12 y.xs[k] (hxI _ (Yah _)) 1 (by decide) (by decide)) (λc2=>?_) (λc2=>⟨rfl,fin _ c2 (by rw[e,if_pos (by rw[ZaV c1 hk2 c2];exact c2),ZaV c1 hk2 c2]) _⟩);refine ⟨_,I64.wrap (by unfold I64;omega),?_⟩;exact hRk _ _ _ ⟨k+1,[.old 0],⟨rfl,.inl rfl,.inr ⟨lk rfl,lk rfl,trivial⟩,rfl⟩,⟨c1,ZaO c1 hk2 c2⟩,by omega⟩
  ·have hx0:Zah (ZaN 12) y.xs=0:=Za0 (by omega) hk2;rw[if_neg (λh=>h hx0)] at e;have cb:=ih y.b hbI hbl (depth+1) (by omega) (by omega);have ce:=ih y.e heI hel (depth+1) (by omega) (by omega);by_cases c3:Zan f y.b≠0
   ·rw[if_pos c3] at e;exact ⟨some 5,rfl,_,I64.wrap (by unfold I64;omega),_,.any,Zon (Zan f y.b),.inl rfl,cb.weaken (λo ho=>ho.elim (λh=>absurd h.1 c3) (λh=>h.2)),rfl,λ_ _=>⟨rfl,fin _ c3 e _⟩,_,I64.wrap (by unfold I64;omega),.any,.any,.any,.any,trivial⟩
   ·have c3':=Yam.1 c3;rw[if_neg c3] at e;have cb':=cb.weaken (Q':=Is (.g (.int (IntKind.i64.wrap (Zam f y.b))))) (λo ho=>ho.elim (λh=>h.2) (λh=>absurd h.1 c3));by_cases c4:Zan f y.e≠0
    ·exact ⟨some 10,rfl,_,I64.wrap (by unfold I64;omega),_,_,.inl rfl,cb',rfl,_,I64.wrap (by unfold I64;omega),_,.any,Zon (Zan f y.e),.inl rfl,ce.weaken (λo ho=>ho.elim (λh=>absurd h.1 c4) (λh=>h.2)),rfl,λ_ _=>⟨rfl,fin _ c4 e _⟩,.any,.any,.any,trivial⟩
    ·have c4':=Yam.1 c4;have ce':=ce.weaken (Q':=Is (.g (.int (IntKind.i64.wrap (Zam f y.e))))) (λo ho=>ho.elim (λh=>h.2) (λh=>absurd h.1 c4));refine ⟨none,rfl,_,I64.wrap (by unfold I64;omega),_,_,.inl rfl,cb',rfl,_,I64.wrap (by unfold I64;omega),_,_,.inl rfl,ce',rfl,_,rfl,_,rfl,?_⟩;refine ⟨_,I64.wrap (by unfold I64;omega),?_⟩;exact hRd _ _ _ ⟨i+1,[],⟨rfl,.inl rfl,.inr ⟨lkI (by rw[hsucc,ZBI]),lk rfl,trivial⟩,rfl⟩,⟨h1,next _ e c4'⟩,by omega⟩
theorem Zn9 (v:Value) (xT:TypeId) (w:World):(Instr.typeAssert (.iface 175 v) xT 175 true).run Tryz.prog w=.ok (.tuple #[v,.bool true]) w:=by kernel_rfl
theorem Zpp (p:Addr) (w:World) :
  CallsD Tryz.prog 77 #[.pointer (some p)] .returning w λe u' w'=>e=.returned (.tuple #[])/\u'=.returning/\w'=w:=by
 refine callsD_of_wpS Tryz.func77 rfl λc₀ cs hu=>?_;apply wpS_seq;apply wpS_region;simp[wpOpsS,go_sem,recoverD,hu,Tryz.ntmps77,Exit.thenS];apply wpS_seq;apply wpS_seq;apply wpS_region;simp[wpOpsS,go_sem,Exit.thenS];refine wpS_cond (t:=true) (by simp[Act.eval,Array.replicate]) ?_;simp only[if_true];refine wpS_of_wp (wp_ret ?_);cases c₀
 simp_all [bodyPostS,results,Tryz.results77,Exit.thenS]
theorem Zip (p:Addr) (x e:Int) (w:World) (hc:∀o,(w.alloc o).cell? p=some (.int .i64 x)) (hz:∀o,(w.alloc o).frozen? p=false) :
  CallsD Tryz.prog 77 #[.pointer (some p)] (.panicking [{ v:=.iface 175 (.agg #[.int .i64 e]),recovered:=false }]) w λen u' w' =>
   en=.returned (.tuple #[])/\u'=.panicking [{ v:=.iface 175 (.agg #[.int .i64 e]),recovered:=true }]/\∃o,w'=(w.alloc o).setCell p (.int .i64 e):=by refine callsD_of_wpS Tryz.func77 rfl λc₀ cs hu=>?_;apply wpS_seq;apply wpS_region;simp[wpOpsS,go_sem,recoverD,hu,Tryz.ntmps77,Exit.thenS];apply wpS_seq;apply wpS_seq;apply wpS_region;simp[wpOpsS,go_sem,Exit.thenS];refine wpS_cond (t:=false) (by simp[Act.eval,Array.replicate]) ?_;simp only[Yb6,if_false];refine wpS_of_wp (wp_skip ?_);simp only[Exit.thenS];apply wpS_seq;apply wpS_region;simp[wpOpsS,go_sem,Exit.thenS,Zn9];apply wpS_seq;apply wpS_seq;apply wpS_region;simp[wpOpsS,go_sem,Exit.thenS];refine wpS_cond (t:=false) (by simp[Act.eval,Array.replicate]) ?_;simp only[Yb6,if_false];refine wpS_of_wp (wp_skip ?_);simp only[Exit.thenS];apply wpS_region;simp[wpOpsS,go_sem,hc,hz,bodyPostS,results,Tryz.results77];exact ⟨_,rfl⟩
end ZN
namespace Go.Dm
open Go Go.Eng Go.RowKit
def ZBN (P:Program) (T:Tab) (F:FuncId->Bool) (G:Gl) (n:Nat) (rest:Code) (Q:Deferred->Post):Post
 | .normal,⟨env,h,df⟩=>df=[]/\∀d,vc P T F G n rest ⟨env,h,[d]⟩ (Q d)
 | _,_=>False
def ZCV (c:Nat) (tF:TypeId) (v:Int) (d:Deferred):Post
 | .normal,⟨env,h,df⟩ | .ret,⟨env,h,df⟩=>df=[d]/\∃j t,env c=.ptr j 0/\h[j]?=some (.blk [.g (.int v)] t)
 | .pan x,⟨env,h,df⟩=>df=[d]/\x=.iface tF (.agg [.g (.int v)])/\∃j y t,env c=.ptr j 0/\h[j]?=some (.blk [.g (.int y)] t)
 | .exit _,_=>False
section
variable {P:Program} {T:Tab} {F:FuncId->Bool} {G:Gl}
theorem ZqX {w w2:World} {V V2:Nat->Prop} {h:Zad} {β:Nat->Value} (hrel:RelD ⟨w,λ_=>False,V,G⟩ h β V2 w2) {j:Nat} {y:Int} {t:TypeId} (hj:h[j]?=some (.blk [.g (.int y)] t)) {g:Nat} (hb:β j=.pointer (some ⟨g,0,none⟩)) (o:Go.Obj) (v:Int) :
  (∀o,(w2.alloc o).cell? ⟨g,0,none⟩=some (.int .i64 y))/\(∀o,(w2.alloc o).frozen? ⟨g,0,none⟩=false)/\RelD ⟨w,λ_=>False,V,G⟩ [.blk [.g (.int v)] t] (λ_=>.pointer (some ⟨g,0,none⟩)) V2 ((w2.alloc o).setCell ⟨g,0,none⟩ (.int .i64 v)):=by
 obtain ⟨g',us,hb',hg,hcs⟩:=hrel.obj j _ hj;have e:g'=g:=by rw[hb] at hb';injection hb' with hb';injection hb' with hb';injection hb' with hb';exact hb'.symm
 subst e;simp only[Zac,Zaa,ZaW] at hcs;obtain ⟨v',us',rfl,rfl,rfl⟩:=hcs;have hlt:g' < w2.heap.size:=by rw[Ya1] at hg;exact hg.1
 have hga:∀o,(w2.alloc o).heap[g']?=some (.cells #[.int .i64 y] t (0,0)):=λo=>by simp only[World.alloc,Array.getElem?_push];rw[if_neg (by omega)];exact hg
 have hmin:w.heap.size<=g':=by
  rcases hrel.mine j _ g' hj rfl (by rw[hb];rfl) with h1 | h1
  ·exact h1
  ·exact h1.elim
 have hnV:¬V2 g':=hrel.vout j _ g' hj rfl (by rw[hb];rfl);have hoth:∀k,k < w2.heap.size->k≠g'->((w2.alloc o).setCell ⟨g',0,none⟩ (.int .i64 v)).heap[k]?=w2.heap[k]?:=λk hk hne=>by rw[Below.heap_setCell _ _ _ _ hne];simp only[World.alloc,Array.getElem?_push];rw[if_neg (by omega)]
 have hmv:ZaB V2 w2 V2 ((w2.alloc o).setCell ⟨g',0,none⟩ (.int .i64 v)):=λk hk=>⟨hk,hoth k (hrel.vlt k hk) (λe=>hnV (e▸hk))⟩;have one:∀{i:Nat} {o':Obj},[Obj.blk [D.g (.int v)] t][i]?=some o'->i=0/\o'=.blk [D.g (.int v)] t:=fun {i o'} hi=>by
  cases i with
  | zero=>simp at hi;exact ⟨rfl,hi.symm⟩
  | succ i=>simp at hi
 refine ⟨λo=>?_,λo=>?_,⟨λi o' hi=>?_,λi j o1 o2 k hi _ hj _ _ _=>?_,λi o' k hi _ hk=>?_,λi o' k hi _ hk=>?_,λk hk=>?_,hrel.vin,hrel.vnew,?_,hrel.gl.move hmv⟩⟩
 ·simp only[World.cell?,hga o];rfl
 ·simp only[World.frozen?,hga o];rfl
 ·obtain ⟨rfl,rfl⟩:=one hi;exact ⟨g',[.int .i64 v],rfl,one_setCell (hga o),by simp only[Zac,Zaa,ZaW];exact ⟨_,_,rfl,rfl,rfl⟩⟩
 ·rw[(one hi).1,(one hj).1]
 ·have:g'=k:=by obtain ⟨_,rfl⟩:=one hi;exact Ya5 hk
  subst this;exact .inl hmin
 ·have:g'=k:=by obtain ⟨_,rfl⟩:=one hi;exact Ya5 hk
  subst this;exact hnV
 ·rw[World.size_setCell,World.size_alloc];have:=hrel.vlt k hk;omega
 ·refine ⟨hrel.fr.os,hrel.fr.tape,hrel.fr.output,?_,λk hk hn=>?_⟩
  ·rw[World.size_setCell,World.size_alloc];have:=hrel.fr.size;exact Nat.le_succ_of_le this
  ·have hk':k < w.heap.size:=hk;have h2:w.heap.size<=w2.heap.size:=hrel.fr.size;rw[hoth k (by omega) (by omega)];exact hrel.fr.block k hk hn
theorem ZA6 (hT:TabOk P T) (hF:∀g,F g=true->fnOk P g=true) (hM:Mix P) {f:FuncId} {fn:Func} {r0 rd rest:Code} (hf:P.funcs[f]?=some fn) (hb:fn.body=some (.seq r0 (.seq rd rest))) (N:Nat) (hN:fn.ntmps=N) (hs0:Ziq N (ZbC r0)=true) (hs1:Ziq N (ZbC rest)=true)
  (c:Nat) (ty:TypeId) (hrs:fn.results.toList=[.cell c ty]) (hc:inL (ZbC rest) c=false) {ti:TI} (hti:T ty=some ti) (hagg:ti.agg=false) (args:List D) (hal:Nat.ble args.length N=true) (tF:TypeId) (g:FuncId)
  (hrd:∀(Q:Exit->Act->World->Prop) (a:Act) (w:World),Q .normal { a with defers:={ target:=.fn (.func g) #[],args:=#[a.tmps.getD c undef] } :: a.defers } w->rd.wp P Q a w)
  (hinv:∀x w,(invoke (.fn (.func g) #[]) #[x]).run P w=.ok (.enter g #[x]) w)
  (idle:∀p w,CallsD P g #[.pointer (some p)] .returning w λe u' w'=>e=.returned (.tuple #[])/\u'=.returning/\w'=w)
  (caught:∀(p:Addr) (x e:Int) (w:World),(∀o,(w.alloc o).cell? p=some (.int .i64 x))->(∀o,(w.alloc o).frozen? p=false)->CallsD P g #[.pointer (some p)] (.panicking [{ v:=.iface tF (.agg #[.int .i64 e]),recovered:=false }]) w λen u' w'=>en=.returned (.tuple #[])/\u'=.panicking [{ v:=.iface tF (.agg #[.int .i64 e]),recovered:=true }]/\∃o,w'=(w.alloc o).setCell p (.int .i64 e))
  (v:Int) (h:vc P T F G N r0 ⟨ZeO args,[],[]⟩ (ZBN P T F G N rest (ZCV c tF v))):CT P G f args (Is (.g (.int v))):=by
 subst hN;intro w V vals hV hG hargs;have hlen:=hargs.len;have hal:=Yaw hal;refine calls_of_wp_defers hf hb ?_;have hnth:∀(ds:List D) (vs:List Value),Zac [] (λ_=>undef) V w ds vs->∀i,Zaa [] (λ_=>undef) V w (nth .any ds i) (vs.getD i undef):=by
  intro ds
  induction ds with
  | nil=>intro vs _ i;simp only[nth,Zaa]
  | cons d ds ih =>
   intro vs h i;simp only[Zac] at h;obtain ⟨v,us,rfl,h1,h2⟩:=h;cases i with
   | zero=>simpa [nth] using h1
   | succ i=>simpa [nth] using ih us h2 i
 have hr:Rel ⟨w,λ_=>False,V,G⟩ fn.ntmps ⟨ZeO args,[],[]⟩ { tmps:=(⟨vals⟩:Array Value)++Array.replicate (fn.ntmps - (⟨vals⟩:Array Value).size) undef,defers:=[] } w:=by
  refine ⟨by simp;omega,rfl,λ_=>undef,V,ZjS hV hG,λi=>?_⟩;have h1:=hnth args vals hargs i;have h2:((⟨vals⟩:Array Value)++Array.replicate (fn.ntmps - (⟨vals⟩:Array Value).size) undef).getD i undef=vals.getD i undef:=by
   rw[Yat,Yal];by_cases hi:i < vals.length
   ·rw[YbB (by simpa using hi)];simp
   ·rw[Ybz (by simp;omega),Ybs (by omega)];rw[Ya0];split<;>rfl
  rw[h2];exact h1
 have hlt0:=ZcT hs0;have hlt1:=ZcT hs1;refine wp_seq (Code.wp_mono ?_ (Ziv hT hF hM.ok r0 (ZbC r0) hlt0 (λk hk=>ZbY.2 hk) ⟨w,λ_=>False,V,G⟩ _ _ w _ h hr));rintro e a1 w1 ⟨_,x,st1,hq,hx⟩;cases x with
 | exit _=>exact hq.elim
 | ret=>exact hq.elim
 | pan _=>exact hq.elim
 | normal =>
 cases e<;>try exact hx.elim
 obtain ⟨hsz,hdf,β1,V1,hrel1,he1⟩:=hx;obtain ⟨env1,h1,df1⟩:=st1;obtain ⟨rfl,hq⟩:=hq;refine wp_seq (hrd _ a1 w1 ?_);have hx1:Rel ⟨w,λ_=>False,V,G⟩ fn.ntmps ⟨env1,h1,[{ target:=.fn (.func g) #[],args:=#[a1.tmps.getD c undef] }]⟩ { a1 with defers:={ target:=.fn (.func g) #[],args:=#[a1.tmps.getD c undef] } :: a1.defers } w1 :=
  ⟨hsz,by rw[hdf],β1,V1,hrel1,he1⟩
 refine Code.wp_mono ?_ (Ziv hT hF hM.ok rest (ZbC rest) hlt1 (λk hk=>ZbY.2 hk) ⟨w,λ_=>False,V,G⟩ _ _ w1 _ (hq _) hx1);rintro e a2 w2 ⟨hk2,x,⟨env2,h2,df2⟩,hq2,hx2⟩;have hc2:a2.tmps.getD c undef=a1.tmps.getD c undef:=hk2 c hc;have ptr:∀{β2:Nat->Value} {V2:Nat->Prop} {j:Nat} {y:Int} {t:TypeId},RelD ⟨w,λ_=>False,V,G⟩ h2 β2 V2 w2->ZbO ⟨env2,h2,df2⟩ β2 V2 w2 a2->env2 c=.ptr j 0->h2[j]?=some (.blk [.g (.int y)] t)->∃g',β2 j=.pointer (some ⟨g',0,none⟩)/\a1.tmps.getD c undef=.pointer (some ⟨g',0,none⟩):=by intro β2 V2 j y t hrel he hj hh;have hp:=he c;rw[show (⟨env2,h2,df2⟩:St).env c=env2 c from rfl,hj,hc2] at hp;simp only[Zaa,hh] at hp;obtain ⟨g',hb',hv⟩:=hp;exact ⟨g',hb',hv⟩
 have fin:∀{w3:World} {β3:Nat->Value} {V3:Nat->Prop} {h3:Zad} {env3:Env} {j:Nat} {t:TypeId},RelD ⟨w,λ_=>False,V,G⟩ h3 β3 V3 w3->ZbO ⟨env3,h3,[]⟩ β3 V3 w3 a2->env3 c=.ptr j 0->h3[j]?=some (.blk [.g (.int v)] t) ->
   Leaves P fn a2.tmps (Zva G (Is (.g (.int v))) V w) [] .returning w3:=by
  intro w3 β3 V3 h3 env3 j t hrel he hj hh;have hres:Zms T ⟨env3,h3,[]⟩ fn.results.toList=some [.g (.int v)]:=by rw[hrs];simp only[Zms,hj,hti,hh,hagg];rfl
  obtain ⟨v',hv1,hv2⟩:=ZcC hT hrel he hres;obtain ⟨src,d',h',ht,hQ⟩:=(Zbl (.inl rfl):Zbk (Is (.g (.int v))) h3 (.g (.int v)));obtain ⟨r1,r2⟩:=ht.use hrel hv2;simp only[Zac] at r2;obtain ⟨v'',us,e,r3,_⟩:=r2;injection e with e1 e2;subst e1;exact ⟨v',hv1,d',h',_,_,hQ,r1,r3⟩
 have ret:∀{st2:St},st2=⟨env2,h2,df2⟩->Rel ⟨w,λ_=>False,V,G⟩ fn.ntmps st2 a2 w2->(df2=[{ target:=.fn (.func g) #[],args:=#[a1.tmps.getD c undef] }]/\∃j t,env2 c=.ptr j 0/\h2[j]?=some (.blk [.g (.int v)] t))->Leaves P fn a2.tmps (Zva G (Is (.g (.int v))) V w) a2.defers .returning w2:=by rintro _ rfl ⟨_,hdf2,β2,V2,hrel2,he2⟩ ⟨hd2,j,t,hj,hh⟩;obtain ⟨g',hb',hp⟩:=ptr hrel2 he2 hj hh;rw[hdf2];show Leaves P fn a2.tmps _ df2 .returning w2;rw[hd2,hp];refine leaves_cons (by simp) (hinv _ _) ((idle _ w2).mono ?_);rintro e u' w' ⟨rfl,rfl,rfl⟩;exact fin (env3:=env2) hrel2 he2 hj hh
 cases x with
 | exit _=>exact hq2.elim
 | normal=>cases e<;>first | exact hx2.elim | exact ret rfl hx2 hq2
 | ret=>cases e<;>first | exact hx2.elim | exact ret rfl hx2 hq2
 | pan d =>
  cases e<;>try exact hx2.elim
  obtain ⟨t,u,rfl,_,hdf2,β2,V2,hrel2,he2,hd⟩:=hx2;obtain ⟨hd2,rfl,j,y,t',hj,hh⟩:=hq2;obtain ⟨g',hb',hp⟩:=ptr hrel2 he2 hj hh;simp only[Zaa] at hd;obtain ⟨u',e1,us,rfl,hus⟩:=hd;injection e1 with e1 e2;subst e1;subst e2;simp only[Zac,Zaa,ZaW] at hus;obtain ⟨v',us',rfl,rfl,rfl⟩:=hus;show Leaves P fn a2.tmps _ a2.defers (.panicking _) w2;rw[hdf2];show Leaves P fn a2.tmps _ df2 (.panicking _) w2;rw[hd2,hp];obtain ⟨c1,c2,_⟩:=ZqX hrel2 hh hb' (Go.Obj.cells #[] 0 (0,0)) v;refine leaves_cons (by simp) (hinv _ _) ((caught _ y v w2 c1 c2).mono ?_);rintro e u' w' ⟨rfl,rfl,o,rfl⟩;obtain ⟨_,_,r3⟩:=ZqX hrel2 hh hb' o v;refine fin (env3:=λk=>bif Nat.beq k c then .ptr 0 0 else .any) (j:=0) r3 (λk=>?_) (by simp) rfl;show Zaa _ _ _ _ (bif Nat.beq k c then .ptr 0 0 else .any) _;cases hk:Nat.beq k c with
  | false=>simp only[cond_false,Zaa]
  | true =>have:=Yap hk;subst this;simp only[cond_true,Zaa];exact ⟨g',rfl,hc2.trans hp⟩
end
end Go.Dm
namespace ZN
open Go Go.Dm Go.Eng Barb
theorem ZrC {e v:Int} (h:e=v):Zon e=.iface 175 (.agg [.g (.int v)]):=by rw[<- h];rfl
theorem ZCT {a v:Int} {t:TypeId} {o:Option Go.Dm.Obj} (h:a=v) (ho:o=some (.blk [.g (.int a)] t)):o=some (.blk [.g (.int v)] t):=by rw[<- h];exact ho
set_option maxHeartbeats 1000000 in
theorem Zmj (u:Barb.Unit) (hu:u.I):CT Tryz.prog gl 61 [.agg u.d] (Is (.g (.int (Zcg u)))):=by
 obtain ⟨hn,⟨hvs,hvl⟩,hai,hal,hfi,hfl⟩:=hu;have lv:(u.vars.map ZbP).length=u.vars.length:=by simp
 have la:(u.arrays.map Arr.g).length=u.arrays.length:=by simp
 have lf:(u.funcs.map Fun.g).length=u.funcs.length:=by simp
 have e:Zcg u=Zcg u:=rfl
 conv at e=>rhs;unfold Zcg
 refine ZA6 hT hF hM Tryz.func61 rfl 101 rfl (by kernel_rfl) (by kernel_rfl) 2 37 rfl (by kernel_rfl) rfl rfl [.agg u.d] rfl 175 77 (λQ a w hq=>?_) (λx w=>?_) Zpp Zip (Zcg u) ?_
 ·apply wp_region;simp[wpOps,go_sem];exact .inl (by simpa using hq)
 ·simp[go_sem]
 refine ⟨rfl,λd=>?_⟩;refine stepS ?_;refine Zae (.inl rfl) (Zb8 u.name hn) (Zaq (p:=Zaw u.name) (by decide) (lkP Ybg) (λh1=>⟨?_⟩) (λh1=>⟨rfl,ZrC (by rw[e,if_pos h1]),_,_,_,rfl,rfl⟩));rw[if_neg (Yam.2 h1)] at e;refine Zrt (ι:=PUnit) (λ_=>[(1,.ptr 0 0),(2,.ptr 1 0)]) (λ_=>[.blk u.d 44,.blk [.g (.int 0)] 37]) (λ_=>¬(8 < u.vars.length\/3 < u.arrays.length\/8 < u.funcs.length)) (λe0 _ h2=>?_) (λRj hRj=>?_)
 rotate_left
 ·refine ⟨λa1=>⟨λa2=>?_,λa2=>?_⟩,λa1=>?_⟩
  ·exact Zaq (p:=¬(8 < u.vars.length\/3 < u.arrays.length\/8 < u.funcs.length)) (by decide) (lkP (by omega)) (λh=>hRj ⟨⟩ _ ⟨rfl,rfl,trivial⟩ h) (λh=>⟨rfl,ZrC (by rw[e,if_pos (Yam.1 h)]),_,_,_,rfl,rfl⟩)
  ·have hb:8 < u.vars.length\/3 < u.arrays.length\/8 < u.funcs.length:=by omega
   exact Zaq (p:=¬(8 < u.vars.length\/3 < u.arrays.length\/8 < u.funcs.length)) (by decide) (Zst ⟨λh=>(by cases h),λh=>absurd hb h⟩) (λh=>absurd hb h) (λh=>⟨rfl,ZrC (by rw[e,if_pos hb]),_,_,_,rfl,rfl⟩)
  ·have hb:8 < u.vars.length\/3 < u.arrays.length\/8 < u.funcs.length:=by omega
   exact Zaq (p:=¬(8 < u.vars.length\/3 < u.arrays.length\/8 < u.funcs.length)) (by decide) (Zst ⟨λh=>(by cases h),λh=>absurd hb h⟩) (λh=>absurd hb h) (λh=>⟨rfl,ZrC (by rw[e,if_pos hb]),_,_,_,rfl,rfl⟩)
 rw[if_neg h2] at e;refine ZaL (ι:=Nat) (λi=>[(36,.g (.int (i:Int))),(1,.ptr 0 0),(2,.ptr 1 0)]) (λ_=>[.blk u.d 44,.blk [.g (.int 0)] 37]) (λi=>i<=u.vars.length/\∀j (hj:j < u.vars.length),j < i->ZdL u.vars[j]=0) (λi=>u.vars.length - i)
  ⟨0,[.old 0,.old 1],⟨rfl,.inl rfl,.inr ⟨lk rfl,lk rfl,lk rfl,trivial⟩,rfl⟩,Yau _,ZfT⟩ ?_
 intro Rd hRd i ⟨hi,ha⟩;refine ⟨λb0=>?_,λb0=>?_⟩
 ·have b1:i < u.vars.length:=by omega
  refine ⟨i,_,rfl,gm b1,?_⟩;refine Zae (.inl rfl) (Zb8 u.vars[i] (hvs _ (Yah _))) (Zaq (p:=Zaw u.vars[i]) (by decide) (lkP Ybg) (λb2=>⟨_,I64.wrap (by unfold I64;omega),?_⟩) (λb2=>⟨rfl,ZrC ?_,_,_,_,rfl,rfl⟩))
  ·exact hRd _ _ _ ⟨i+1,[.old 0,.old 1],⟨rfl,.inl rfl,.inr ⟨lk rfl,lk rfl,lk rfl,trivial⟩,rfl⟩,⟨b1,ZaO b1 ha (ZlC b2)⟩,by omega⟩
  ·have hz:=Zqf b2;rw[e,ZaV b1 ha (by rw[hz];decide),hz,if_pos (by decide)]
 have hv0:Zah ZdL u.vars=0:=Za0 (by omega) ha;rw[if_neg (λh=>h hv0)] at e;clear hRd ha hi b0;refine ZaL (ι:=Nat) (λi=>[(47,.g (.int (i:Int))),(1,.ptr 0 0),(2,.ptr 1 0)]) (λ_=>[.blk u.d 44,.blk [.g (.int 0)] 37]) (λi=>i<=u.arrays.length/\∀j (hj:j < u.arrays.length),j < i->Zoa u.arrays[j]=0) (λi=>u.arrays.length - i)
  ⟨0,[.old 0,.old 1],⟨rfl,.inl rfl,.inr ⟨lk rfl,lk rfl,lk rfl,trivial⟩,rfl⟩,Yau _,ZfT⟩ ?_
 intro Rd hRd i ⟨hi,ha⟩;refine ⟨λb0=>?_,λb0=>?_⟩
 ·have b1:i < u.arrays.length:=by omega
  have bI:=hai _ (Yah b1);refine ⟨i,_,rfl,gm b1,?_⟩;have hz:∀v:Int,v≠0->Zoa u.arrays[i]=v->Zcg u=v:=λv h0 h=>by rw[e,ZaV b1 ha (by rw[h];exact h0),h,if_pos h0]
  refine Zae (.inl rfl) (Zb8 u.arrays[i].name bI.1) (Zaq (p:=Zaw u.arrays[i].name) (by decide) (lkP Ybg) (λb2=>?_) (λb2=>⟨rfl,ZrC (hz 4 (by decide) (by unfold Zoa;rw[if_pos b2])).symm,_,_,_,rfl,rfl⟩));refine ⟨λa1=>?_,λa1=>?_⟩
  ·refine Zaq (p:=1<=u.arrays[i].size/\u.arrays[i].size<=10) (by decide) (lkP ⟨λh=>⟨a1,h⟩,λh=>h.2⟩) (λb3=>⟨_,I64.wrap (by unfold I64;omega),?_⟩) (λb3=>⟨rfl,ZrC (hz 2 (by decide) (by unfold Zoa;rw[if_neg (Yam.2 b2),if_pos b3])).symm,_,_,_,rfl,rfl⟩);exact hRd _ _ _ ⟨i+1,[.old 0,.old 1],⟨rfl,.inl rfl,.inr ⟨lk rfl,lk rfl,lk rfl,trivial⟩,rfl⟩,⟨b1,ZaO b1 ha (by unfold Zoa;rw[if_neg (Yam.2 b2),if_neg (Yam.2 b3)])⟩,by omega⟩
  ·exact Zaq (p:=1<=u.arrays[i].size/\u.arrays[i].size<=10) (by decide) (Zst ⟨λh=>(by cases h),λh=>absurd h.1 a1⟩) (λb3=>absurd b3.1 a1) (λb3=>⟨rfl,ZrC (hz 2 (by decide) (by unfold Zoa;rw[if_neg (Yam.2 b2),if_pos b3])).symm,_,_,_,rfl,rfl⟩)
 have ha0:Zah Zoa u.arrays=0:=Za0 (by omega) ha;rw[if_neg (λh=>h ha0)] at e;clear hRd ha hi b0;refine ZaL (ι:=Nat) (λi=>[(68,.g (.int (i:Int))),(7,.g (.int (IntKind.i64.wrap (Zdg (u.funcs.take i))))),(1,.ptr 0 0),(2,.ptr 1 0)]) (λ_=>[.blk u.d 44,.blk [.g (.int 0)] 37]) (λi=>i<=u.funcs.length/\∀j (hj:j < u.funcs.length),j < i->ZlX u.funcs[j]=0) (λi=>u.funcs.length - i)
  ⟨0,[.old 0,.old 1],⟨rfl,.inl rfl,.inr ⟨lk rfl,lkI rfl,lk rfl,lk rfl,trivial⟩,rfl⟩,Yau _,ZfT⟩ ?_
 intro Rd hRd i ⟨hi,ha⟩;refine ⟨λb0=>?_,λb0=>?_⟩
 rotate_left
 ·have hf0:Zah ZlX u.funcs=0:=Za0 (by omega) ha;rw[if_neg (λh=>h hf0)] at e;have hiE:i=u.funcs.length:=by omega
  rw[<- YaE (l:=u.funcs),<- hiE] at e;refine Zaq (p:=¬300 < IntKind.i64.wrap (Zdg (u.funcs.take i))) (by decide) (lkP (by omega)) (λc=>?_) (λc=>⟨rfl,ZrC (by rw[e,if_pos (Yam.1 c)]),_,_,_,rfl,rfl⟩);exact ⟨rfl,_,_,rfl,ZCT (a:=0) (v:=Zcg u) (by rw[e,if_neg c]) rfl⟩
 have b1:i < u.funcs.length:=by omega
 obtain ⟨fn,⟨fps,fpl⟩,fbl,fbI⟩:=hfi _ (Yah b1);have hz:∀v:Int,v≠0->ZlX u.funcs[i]=v->Zcg u=v:=λv h0 h=>by rw[e,ZaV b1 ha (by rw[h];exact h0),h,if_pos h0]
 have next:ZlX u.funcs[i]=0->∀j (hj:j < u.funcs.length),j < i+1->ZlX u.funcs[j]=0:=λh0=>ZaO b1 ha h0
 have hsucc:=ZrJ b1;have ef:ZlX u.funcs[i]=ZlX u.funcs[i]:=rfl
 conv at ef=>rhs;unfold ZlX
 refine ⟨i,_,rfl,(gm b1).trans (congrArg some (Fun.g_eq _)),?_⟩;generalize u.funcs[i]=f at *;have lp:(f.params.map ZbP).length=f.params.length:=by simp
 refine Zae (.inl rfl) (Zb8 f.name fn) (Zaq (p:=Zaw f.name) (by decide) (lkP Ybg) (λb2=>?_) (λb2=>⟨rfl,ZrC (hz 4 (by decide) (by rw[ef,if_pos b2])).symm,_,_,_,rfl,rfl⟩));rw[if_neg (Yam.2 b2)] at ef;refine Zaq (p:=¬4 < f.params.length) (by decide) (lkP (by omega)) (λb3=>?_) (λb3=>⟨rfl,ZrC (hz 1 (by decide) (by rw[ef,if_pos (Yam.1 b3)])).symm,_,_,_,rfl,rfl⟩);rw[if_neg b3] at ef;refine ZaL (ι:=Nat) (λk=>[(84,.g (.int (k:Int))),(9,.ptr 2 0),(1,.ptr 0 0),(2,.ptr 1 0)]) (λ_=>[.blk u.d 44,.blk [.g (.int 0)] 37,.blk f.d 65]) (λk=>k<=f.params.length/\∀j (hj:j < f.params.length),j < k->ZdL f.params[j]=0) (λk=>f.params.length - k)
  ⟨0,[.old 0,.old 1,.old 2],⟨rfl,.inl rfl,.inr ⟨lk rfl,lk rfl,lk rfl,lk rfl,trivial⟩,rfl⟩,Yau _,ZfT⟩ ?_
 intro Rk hRk k ⟨hk,hak⟩;refine ⟨λc0=>?_,λc0=>?_⟩
 ·have c1:k < f.params.length:=by omega
  refine ⟨k,_,rfl,gm c1,?_⟩;refine Zae (.inl rfl) (Zb8 f.params[k] (fps _ (Yah _))) (Zaq (p:=Zaw f.params[k]) (by decide) (lkP Ybg) (λc2=>⟨_,I64.wrap (by unfold I64;omega),?_⟩) (λc2=>⟨rfl,ZrC (hz 4 (by decide) ?_).symm,_,_,_,rfl,rfl⟩))
  ·exact hRk _ _ _ ⟨k+1,[.old 0,.old 1,.old 2],⟨rfl,.inl rfl,.inr ⟨lk rfl,lk rfl,lk rfl,lk rfl,trivial⟩,rfl⟩,⟨c1,ZaO c1 hak (ZlC c2)⟩,by omega⟩
  ·have hz4:=Zqf c2;rw[ef,ZaV c1 hak (by rw[hz4];decide),hz4,if_pos (by decide)]
 have hp0:Zah ZdL f.params=0:=Za0 (by omega) hak;rw[if_neg (λh=>h hp0)] at ef;refine Zn1 (.inl rfl) (Zrk 12 f.body fbI fbl 1 (by decide) (by decide)) (λd0=>?_) (λd0=>⟨rfl,ZrC (hz _ d0 ef).symm,_,_,_,rfl,rfl⟩);refine ⟨_,rfl,_,I64.wrap (by unfold I64;omega),?_⟩;exact hRd _ _ _ ⟨i+1,[.old 0,.old 1],⟨rfl,.inl rfl,.inr ⟨lk rfl,lkI (by rw[Zit,ZiX,hsucc]),lk rfl,lk rfl,trivial⟩,rfl⟩,⟨b1,next (ef.trans d0)⟩,by omega⟩
end ZN
