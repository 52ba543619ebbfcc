import Derived.Test.YthccmffgjchdmaaGreatDoorNWd
import Derived.Tactics
import Derived.Tactics2
import Derived.Defers
import Derived.Recover
import Derived.Laws.Pointers
import Derived.OneCell
open Go Go.Proofs Go.Proofs.YthccmffgjchdmaaGreatDoor
namespace Go.Dm
open Go Go.Eng
theorem CT.weaken {P:Program} {G:Gl} {g:FuncId} {ds:List D} {Q Q':Out->Prop} (h:CT P G g ds Q) (hq:∀o,Q o->Q' o):CT P G g ds Q':=λw V aa hV hG hr =>
 (h w V aa hV hG hr).mono λe w' he=>by
  cases e with
  | returned v=>obtain ⟨d,h',β',V',h1,h2⟩:=he;exact ⟨d,h',β',V',hq _ h1,h2⟩
  | panicked ch=>obtain ⟨d,t,u,β',V',h1,h2,h3⟩:=he;exact ⟨d,t,u,β',V',h1,hq _ h2,h3⟩
  | outgrown=>exact he.elim
end Go.Dm
namespace ZN
open Go Go.Dm Go.Eng Barb
variable {L:Lv}
def Zcu (e:Int):D:=.iface 151 (.agg [.g (.int e)])
def RP (e:Int) (d:D):Out->Prop:=λo=>(e=0/\o=.ret d [])\/(e≠0/\o=.pan (Zcu e))
theorem Zog {P:Program} {G:Gl} {g:FuncId} {ds es:List D} {e:Int} {d:D} {K:D->Zae->Prop} {Kp:D->Prop} (hl:Ze0 ds es) (hc:CT P G g es (RP e d)) (hk:e=0->K d []) (hp:e≠0->Kp (Zcu e)) :
  ∃es Q,Ze0 ds es/\CT P G g es Q/\(∀d h',Q (.ret d h')->K d h')/\(∀d,Q (.pan d)->Kp d):=by
 refine ⟨es,_,hl,hc,λd' h' hq=>?_,λd' hq=>?_⟩
 ·rcases hq with ⟨h0,hq⟩ | ⟨_,hq⟩
  ·injection hq with e1 e2;subst e1;subst e2;exact hk h0
  ·cases hq
 ·rcases hq with ⟨_,hq⟩ | ⟨h0,hq⟩
  ·cases hq
  ·injection hq with e1;subst e1;exact hp h0
theorem Zkv {e:Int} {d:D} {h:Zae} {v:Int} (hv:v≠0) (he:e=v):Zoy (RP e d) h (Zcu v):=ZC3 (Zcu v) rfl (.inr ⟨by rw[he];exact hv,by rw[he]⟩)
open Classical in
theorem Zwy (p:Prop) (e:Int) (he:e≠0):CT Tryz.prog (gl L) 36 [.pb p,.g (.int e)] (RP (if p then 0 else e) (.tuple [])):=by refine enter hT hF hM Tryz.func36 rfl 9 rfl (by kernel_rfl) [] rfl [.pb p,.g (.int e)] rfl _ ?_;refine ⟨λh=>⟨rfl,Zkv he (if_neg h)⟩,λh=>?_⟩;exact ⟨rfl,ZB2 (.tuple []) (.inl rfl) (.inl ⟨if_pos h,rfl⟩)⟩
theorem Zao {d:D} {p:Prop} {e:Int} (he:e≠0) {K:D->Zae->Prop} {Kp:D->Prop} (hl:ZiI N0 4 d (.pb p)) (hk:p->K (.tuple []) []) (hp:¬p->Kp (Zcu e)) :
  ∃es Q,Ze0 [d,.g (.int e)] es/\CT Tryz.prog (gl L) 36 es Q/\(∀d h',Q (.ret d h')->K d h')/\(∀d,Q (.pan d)->Kp d):=by
 have hc:CT Tryz.prog (gl L) 36 [.pb p,.g (.int e)] _:=Zwy p e he;by_cases h:p
 ·rw[if_pos h] at hc;exact Zog (es:=[.pb p,.g (.int e)]) (.inr ⟨hl,lk rfl,trivial⟩) hc (λ_=>hk h) (λh0=>absurd rfl h0)
 ·rw[if_neg h] at hc;exact Zog (es:=[.pb p,.g (.int e)]) (.inr ⟨hl,lk rfl,trivial⟩) hc (λh0=>absurd h0 he) (λ_=>hp h)
variable {L:Lv}
set_option maxHeartbeats 1000000 in
theorem Ztg:∀(f:Nat) (x:Barb.Expr),x.I->∀depth:Int,depth+f=13->0<=depth->CT Tryz.prog (gl L) 65 [.agg x.d,.g (.int depth)] (RP (Zaw f x) (.tuple [])):=by
 intro f
 induction f with
 | zero =>intro x _ depth hd _;refine enter hT hF hM Tryz.func65 rfl 141 rfl (by kernel_rfl) [] rfl [.agg x.d,.g (.int depth)] rfl _ ?_;exact Zao (p:=depth<=12) (by decide) (lkP Ya3) (λh=>absurd h (by omega)) (λ_=>⟨rfl,Zkv (by decide) rfl⟩)
 | succ f ih =>
  intro x hx depth hd gK;obtain ⟨hk,hn,ho,hs,ha,hI⟩:=hx.inv;have e:=Zga f x;have hl:(x.args.map Expr.g).length=x.args.length:=by simp
  refine enter hT hF hM Tryz.func65 rfl 141 rfl (by kernel_rfl) [] rfl [.agg x.d,.g (.int depth)] rfl _ ?_;refine stepS ⟨?_⟩;refine stepS ?_;refine Zao (p:=depth<=12) (by decide) (lkP Ya3) (λ_=>⟨?_⟩) (λh=>absurd (by omega) h);refine ZrK (ι:=PUnit) (λ_=>[(2,.ptr 0 0),(1,.g (.int depth))]) (λ_=>[.blk x.d 146]) (λ_=>1<=x.k/\x.k<=5) (λe0 _ h2=>?_) (λRj aI=>?_)
  rotate_left
  ·refine ⟨λa1=>?_,λa1=>?_⟩
   ·exact Zao (p:=1<=x.k/\x.k<=5) (by decide) (lkP ⟨λh=>⟨a1,h⟩,λh=>h.2⟩) (λh=>aI ⟨⟩ _ ⟨rfl,rfl,trivial⟩ h) (λh=>⟨rfl,Zkv (by decide) (by rw[e,if_pos h])⟩)
   ·exact Zao (p:=1<=x.k/\x.k<=5) (by decide) (Zqt ⟨λh=>(by cases h),λh=>absurd h.1 a1⟩) (λh=>absurd h.1 a1) (λh=>⟨rfl,Zkv (by decide) (by rw[e,if_pos h])⟩)
  rw[if_neg (Yah.2 h2)] at e;refine stepS ⟨?_⟩;refine stepS ?_;refine Zao (p:=¬4 < x.args.length) (by decide) (lkP (by omega)) (λh3=>⟨?_⟩) (λh3=>⟨rfl,Zkv (by decide) (by rw[e,if_pos (by omega)])⟩);rw[if_neg h3] at e;refine ZrK (ι:=PUnit) (λ_=>[(2,.ptr 0 0),(1,.g (.int depth))]) (λ_=>[.blk x.d 146]) (λ_=>ZbJ x.k x.n x.of x.s x.args.length/\¬Za0 x.k x.n) (λe0 _ uu=>?_) (λRj aI=>?_)
  rotate_left
  ·have aV:∀hh:Zae,¬ZbJ x.k x.n x.of x.s x.args.length->Zoy (RP (Zaw (f+1) x) (.tuple [])) hh (Zcu 4):=λhh h4=>Zkv (by decide) (by rw[e,if_pos h4]);have kX:∀hh:Zae,ZbJ x.k x.n x.of x.s x.args.length->Za0 x.k x.n->Zoy (RP (Zaw (f+1) x) (.tuple [])) hh (Zcu 2):=λhh h4 h5=>Zkv (by decide) (by rw[e,if_neg (Yah.2 h4),if_pos h5]);have ok:∀(k':Int),x.k=k'->(ZbJ x.k x.n x.of x.s x.args.length↔ZbJ k' x.n x.of x.s x.args.length):=λk' ae=>by rw[ae]
   have bC:∀m:Nat,((List.map Expr.g x.args).length:Int)=(m:Int)↔x.args.length=m:=λm=>by rw[hl];omega
   have bad:∀k',x.k=k'->k'≠1->k'≠5->¬Za0 x.k x.n:=λk' h0 h1 h5=>by unfold Za0;omega
   clear e;generalize hP:ZbJ x.k x.n x.of x.s x.args.length=P at *;have gP:∀hh:Zae,¬P->∀K:D->Zae->Prop,∀Kp:D->Prop,(¬P->Kp (Zcu 4))->∃es Q,Ze0 [.g (.bool false),.g (.int 4)] es/\CT Tryz.prog (gl L) 36 es Q/\(∀d h',Q (.ret d h')->K d h')/\(∀d,Q (.pan d)->Kp d) :=
    λ_ h K Kp hp=>Zao (p:=P) (by decide) (Zqt ⟨λh=>(by cases h),λhp=>absurd hp h⟩) (λhp=>absurd hp h) hp
   refine ⟨λb1=>?_,λb1=>⟨λb2=>?_,λb2=>⟨λb3=>?_,λb3=>⟨λb4=>?_,λb4=>?_⟩⟩⟩⟩
   ·have o:=(ok 1 b1).trans Zq0;refine ⟨λc1=>⟨λc2=>?_,λc2=>?_⟩,λc1=>?_⟩
    ·refine Zao (p:=P) (by decide) (lkP ⟨λc3=>o.2 ⟨c1,c2,(bC 0).1 c3⟩,λc3=>(bC 0).2 (o.1 c3).2.2⟩) (λh4=>?_) (λh4=>⟨rfl,aV _ h4⟩);refine Zad (.inl rfl) (Zln x.n) ?_;exact Zao (p:=¬Za0 x.k x.n) (by decide) (lkP (by unfold Za0;omega)) (λh5=>aI ⟨⟩ _ ⟨rfl,rfl,trivial⟩ ⟨h4,h5⟩) (λh5=>⟨rfl,kX _ h4 (Yah.1 h5)⟩)
    ·exact gP [] (λh=>c2 (o.1 h).2.1) _ _ (λh4=>⟨rfl,aV _ h4⟩)
    ·exact gP [] (λh=>c1 (o.1 h).1) _ _ (λh4=>⟨rfl,aV _ h4⟩)
   ·have o:=(ok 2 b2).trans ZqZ;refine ⟨λc1=>Zad (.inl rfl) (ZbQ x.s hs) ⟨λc2=>⟨λc3=>?_,λc3=>?_⟩,λc2=>?_⟩,λc1=>?_⟩
    ·exact Zao (p:=P) (by decide) (lkP ⟨λc4=>o.2 ⟨c1,c2,(bC 0).1 c3,c4⟩,λc4=>(o.1 c4).2.2.2⟩) (λh4=>aI ⟨⟩ _ ⟨rfl,rfl,trivial⟩ ⟨h4,bad 2 b2 (by decide) (by decide)⟩) (λh4=>⟨rfl,aV _ h4⟩)
    ·exact gP [] (λc4=>c3 ((bC 0).2 (o.1 c4).2.2.1)) _ _ (λh4=>⟨rfl,aV _ h4⟩)
    ·exact gP [] (λc4=>c2 (o.1 c4).2.1) _ _ (λh4=>⟨rfl,aV _ h4⟩)
    ·exact gP [] (λc4=>c1 (o.1 c4).1) _ _ (λh4=>⟨rfl,aV _ h4⟩)
   ·have o:=(ok 3 b3).trans ZqY;refine ⟨λc1=>Zad (.inl rfl) (ZbQ x.s hs) ⟨λc2=>⟨λc3=>?_,λc3=>?_⟩,λc2=>?_⟩,λc1=>?_⟩
    ·exact Zao (p:=P) (by decide) (lkP ⟨λc4=>o.2 ⟨c1,c2,(bC 1).1 c3,c4⟩,λc4=>(o.1 c4).2.2.2⟩) (λh4=>aI ⟨⟩ _ ⟨rfl,rfl,trivial⟩ ⟨h4,bad 3 b3 (by decide) (by decide)⟩) (λh4=>⟨rfl,aV _ h4⟩)
    ·exact gP [] (λc4=>c3 ((bC 1).2 (o.1 c4).2.2.1)) _ _ (λh4=>⟨rfl,aV _ h4⟩)
    ·exact gP [] (λc4=>c2 (o.1 c4).2.1) _ _ (λh4=>⟨rfl,aV _ h4⟩)
    ·exact gP [] (λc4=>c1 (o.1 c4).1) _ _ (λh4=>⟨rfl,aV _ h4⟩)
   ·have o:=(ok 4 b4).trans Zw3;have b':=bad 4 b4 (by decide) (by decide);refine Zad (.inl rfl) (ZbQ x.s hs) ⟨λc2=>⟨λc1=>?_,λc1=>Zad (.inl rfl) (ZbQ x.of ho) ⟨λc0=>?_,λc0=>?_⟩⟩,λc2=>?_⟩
    ·exact Zao (p:=P) (by decide) (lkP ⟨λc4=>o.2 ⟨.inl c1,c2,c4⟩,λc4=>(o.1 c4).2.2⟩) (λh4=>aI ⟨⟩ _ ⟨rfl,rfl,trivial⟩ ⟨h4,b'⟩) (λh4=>⟨rfl,aV _ h4⟩)
    ·exact Zao (p:=P) (by decide) (lkP ⟨λc4=>o.2 ⟨.inr c0,c2,c4⟩,λc4=>(o.1 c4).2.2⟩) (λh4=>aI ⟨⟩ _ ⟨rfl,rfl,trivial⟩ ⟨h4,b'⟩) (λh4=>⟨rfl,aV _ h4⟩)
    ·exact gP [] (λc4=>(o.1 c4).1.elim c1 c0) _ _ (λh4=>⟨rfl,aV _ h4⟩)
    ·exact gP [] (λc4=>c2 (o.1 c4).2.1) _ _ (λh4=>⟨rfl,aV _ h4⟩)
   ·have b5:x.k=5:=by omega
    have o:=(ok 5 b5).trans ZqX;refine ⟨λc1=>⟨λc2=>?_,λc2=>?_⟩,λc1=>?_⟩
    ·refine Zao (p:=P) (by decide) (lkP ⟨λc3=>o.2 ⟨c1,c2,(bC 2).1 c3⟩,λc3=>(bC 2).2 (o.1 c3).2.2⟩) (λh4=>?_) (λh4=>⟨rfl,aV _ h4⟩);refine ⟨λd1=>?_,λd1=>?_⟩
     ·exact Zao (p:=¬Za0 x.k x.n) (by decide) (lkP (by unfold Za0;omega)) (λh5=>aI ⟨⟩ _ ⟨rfl,rfl,trivial⟩ ⟨h4,h5⟩) (λh5=>⟨rfl,kX _ h4 (Yah.1 h5)⟩)
     ·exact Zao (p:=¬Za0 x.k x.n) (by decide) (Zqt ⟨λh=>(by cases h),λh=>absurd (by unfold Za0;omega) h⟩) (λh5=>absurd (by unfold Za0;omega) h5) (λh5=>⟨rfl,kX _ h4 (Yah.1 h5)⟩)
    ·exact gP [] (λc3=>c2 (o.1 c3).2.1) _ _ (λh4=>⟨rfl,aV _ h4⟩)
    ·exact gP [] (λc3=>c1 (o.1 c3).1) _ _ (λh4=>⟨rfl,aV _ h4⟩)
  rw[if_neg (Yah.2 uu.1),if_neg uu.2] at e;refine ZaO (ι:=Nat) (λi=>[(132,.g (.int (i:Int)))]) (λ_=>[]) (λi=>i<=x.args.length/\∀j (hj:j < x.args.length),j < i->Zaw f x.args[j]=0) (λi=>x.args.length - i)
   ⟨0,[],⟨rfl,.inl rfl,.inr ⟨lk rfl,trivial⟩,rfl⟩,Yat _,Zgk⟩ ?_
  intro Rd aj i ⟨hi,o9⟩;refine ⟨λh6=>?_,λh6=>?_⟩
  ·have h7:i < x.args.length:=by omega
   refine ⟨i,_,rfl,(gm h7).trans (congrArg some (Expr.g_eq _)),?_⟩;refine ⟨_,I64.wrap (by unfold I64;omega),?_⟩;refine Zog (.inl rfl) (ih x.args[i] (hI _ (Yai _)) (depth+1) (by omega) (by omega)) (λh8=>?_) (λh8=>⟨rfl,Zkv h8 (by rw[e,Za3 h7 o9 h8])⟩);refine ⟨_,I64.wrap (by unfold I64;omega),?_⟩;exact aj _ _ _ ⟨i+1,[],⟨rfl,.inl rfl,.inr ⟨lk rfl,trivial⟩,rfl⟩,⟨h7,ZaV h7 o9 h8⟩,by omega⟩
  ·exact ⟨rfl,ZB2 (.tuple []) (.inl rfl) (.inl ⟨by rw[e,Zbb (by omega) o9],rfl⟩)⟩
end ZN
namespace Barb
open Go Go.Dm Go.Eng
theorem ZBO (m a b:Int):IntKind.i64.wrap (IntKind.i64.wrap m+IntKind.i64.wrap (IntKind.i64.wrap a+IntKind.i64.wrap b))=IntKind.i64.wrap (m+(a+b)):=by rw[ZiJ (a:=a),Zjd (a:=a),ZiJ,Zjd]
theorem ZnK {s:Str} (h:Zan s):s≠[]:=λe=>by subst e;have:=h.1.1.1;simp at this
abbrev kpT (depth m:Int) (i:Nat):List (Nat × D):=[(1,.g (.int depth)),(5,.g (.int m)),(19,.g (.int (i:Int))),(7,.ptr 0 0)]
end Barb
namespace ZN
open Go Go.Dm Go.Eng Barb
variable {L:Lv}
set_option maxHeartbeats 1000000 in
theorem ZrA:∀(f:Nat) (l:List Barb.Stmt),(∀x∈l,Barb.Stmt.I x)->l.length*96<=140737488351232->∀depth:Int,depth+f=13->0<=depth->CT Tryz.prog (gl L) 38 [.g (.sl 5 (l.map Stmt.g)),.g (.int depth)] (RP (Zai f l) (.g (.int (IntKind.i64.wrap (Zah f l))))):=by
 intro f
 induction f with
 | zero =>intro l _ _ depth hd _;refine enter hT hF hM Tryz.func38 rfl 116 rfl (by kernel_rfl) [.tmp 4] rfl [.g (.sl 5 (l.map Stmt.g)),.g (.int depth)] rfl _ ?_;exact Zao (p:=depth<=12) (by decide) (lkP Ya3) (λh=>absurd h (by omega)) (λ_=>⟨rfl,Zkv (by decide) rfl⟩)
 | succ f ih =>
  intro l hI hlen depth hd gK;have hl:(l.map Stmt.g).length=l.length:=by simp
  refine enter hT hF hM Tryz.func38 rfl 116 rfl (by kernel_rfl) [.tmp 4] rfl [.g (.sl 5 (l.map Stmt.g)),.g (.int depth)] rfl _ ?_;refine stepS ⟨?_⟩;refine stepS ?_;refine Zao (p:=depth<=12) (by decide) (lkP Ya3) (λ_=>⟨?_⟩) (λh=>absurd (by omega) h);refine ZaO (ι:=Nat) (λi=>[(5,.g (.int (IntKind.i64.wrap (Zey f l i)))),(19,.g (.int (i:Int)))]) (λ_=>[]) (λi=>i<=l.length/\∀j (hj:j < l.length),j < i->ZbI (Zai f) l[j]=0) (λi=>l.length - i)
   ⟨0,[],⟨rfl,.inl rfl,.inr ⟨lkI (by rw[hl,I64.wrap (by simp[Zey,I64];omega)];simp[Zey]),lk rfl,trivial⟩,rfl⟩,Yat _,Zgk⟩ ?_
  intro Rd aj i ⟨hi,ha⟩;refine ⟨λh0=>?_,λh0=>?_⟩
  rotate_left
  ·have hz:Zai (f+1) l=0:=Zbb (by rw[hl] at h0;omega) ha;have az:i=l.length:=by rw[hl] at h0;omega
   exact ⟨rfl,ZB2 (.g (.int (IntKind.i64.wrap (Zey f l i)))) (.inl rfl) (.inl ⟨hz,by rw[az];simp[Zey,Zah]⟩)⟩
  have h1:i < l.length:=by rw[hl] at h0;omega
  have fin:∀v:Int,v≠0->ZbI (Zai f) l[i]=v->∀h:Zae,Zoy (RP (Zai (f+1) l) (.g (.int (IntKind.i64.wrap (Zah (f+1) l))))) h (Zcu v):=by intro v hv he h;refine Zkv hv ?_;have:Zai (f+1) l=Zal (ZbI (Zai f)) l:=rfl;rw[this,Za3 h1 ha (by rw[he];exact hv),he]
  have ga:=ZoO (f:=f) h1;obtain ⟨hk,hs,fj,fQ,gn,qw,gu,mf⟩:=(hI l[i] (Yai _)).inv;have e:=Zjq (Zai f) l[i];have next:∀v,ZbI (Zai f) l[i]=v->v=0->∀j (hj:j < l.length),j < i+1->ZbI (Zai f) l[j]=0:=λv hv h0=>ZaV h1 ha (hv.trans h0)
  refine stepS ?_;refine stepS ?_;refine ⟨i,_,rfl,(gm h1).trans (congrArg some (Stmt.g_eq _)),⟨?_⟩⟩;generalize l[i]=y at *;refine ZrK (ι:=PUnit) (λ_=>kpT depth (IntKind.i64.wrap (Zey f l i)) i) (λ_=>[.blk y.d 114]) (λ_=>1<=y.k/\y.k<=6) (λe0 _ h2=>?_) (λRj aI=>?_)
  rotate_left
  ·refine ⟨λa1=>?_,λa1=>?_⟩
   ·exact Zao (p:=1<=y.k/\y.k<=6) (by decide) (lkP ⟨λh=>⟨a1,h⟩,λh=>h.2⟩) (λh=>aI ⟨⟩ _ ⟨rfl,rfl,rfl,rfl,trivial⟩ h) (λh=>⟨rfl,fin 3 (by decide) (by rw[e,if_pos h]) _⟩)
   ·exact Zao (p:=1<=y.k/\y.k<=6) (by decide) (Zqt ⟨λh=>(by cases h),λh=>absurd h.1 a1⟩) (λh=>absurd h.1 a1) (λh=>⟨rfl,fin 3 (by decide) (by rw[e,if_pos h]) _⟩)
  rw[if_neg (Yah.2 h2)] at e;refine ZrK (ι:=D) (λd=>kpT depth (IntKind.i64.wrap (Zey f l i)) i++[(8,d)]) (λ_=>[.blk y.d 114]) (λd=>(d=.g (.bool true)/\y.k=1)\/(d=.pb (y.k=2)/\y.k≠1)) (λe1 d h8=>?_) (λRj aI=>?_)
  rotate_left
  ·exact ⟨λa1=>aI _ _ ⟨rfl,rfl,rfl,rfl,rfl,trivial⟩ (.inl ⟨rfl,a1⟩),λa1=>aI _ _ ⟨rfl,rfl,rfl,rfl,rfl,trivial⟩ (.inr ⟨rfl,a1⟩)⟩
  refine stepS ⟨?_⟩;refine ZrK (ι:=PUnit) (λ_=>kpT depth (IntKind.i64.wrap (Zey f l i)) i++[(8,d),(9,.g (.int (nOf y.k)))]) (λ_=>[.blk y.d 114]) (λ_=>True) (λe2 _ _=>?_) (λRj aI=>?_)
  rotate_left
  ·refine ⟨λh3=>aI ⟨⟩ _ ⟨rfl,rfl,rfl,rfl,rfl,(by rw[nOf,if_pos h3];rfl),trivial⟩ trivial,λh3=>aI ⟨⟩ _ ⟨rfl,rfl,rfl,rfl,rfl,(by rw[nOf,if_neg h3];rfl),trivial⟩ trivial⟩
  have hx:(y.xs.map Expr.g).length=y.xs.length:=by simp
  have au:(y.b.map Stmt.g).length=y.b.length:=by simp
  have bp:(y.e.map Stmt.g).length=y.e.length:=by simp
  refine ZrK (ι:=PUnit) (λ_=>kpT depth (IntKind.i64.wrap (Zey f l i)) i) (λ_=>[.blk y.d 114]) (λ_=>¬Zrj y.k y.s y.xs.length) (λe3 _ bG=>?_) (λRj aI=>?_)
  rotate_left
  ·have aV:∀hh:Zae,¬¬Zrj y.k y.s y.xs.length->Zoy (RP (Zai (f+1) l) (.g (.int (IntKind.i64.wrap (Zah (f+1) l))))) hh (Zcu 4):=λhh h4=>fin 4 (by decide) (by rw[e,if_pos (λh=>h4 (ZhE.1 h).1)]) hh;have nq:∀hh:Zae,Zrj y.k y.s y.xs.length->∀K:D->Zae->Prop,∀Kp:D->Prop,Kp (Zcu 4)->∃es Q,Ze0 [.g (.bool false),.g (.int 4)] es/\CT Tryz.prog (gl L) 36 es Q/\(∀d h',Q (.ret d h')->K d h')/\(∀d,Q (.pan d)->Kp d) :=
    λ_ h K Kp hp=>Zao (p:=¬Zrj y.k y.s y.xs.length) (by decide) (Zqt ⟨λh=>(by cases h),λhp=>absurd h hp⟩) (λhp=>absurd h hp) (λ_=>hp)
   have b1:Zrj y.k y.s y.xs.length↔¬((y.k<=2->Zan y.s)/\(2 < y.k->y.s=[])/\(y.xs.length:Int)=nOf y.k):=Ya3;clear e;rcases h8 with ⟨rfl,bJ⟩ | ⟨rfl,bJ⟩
   ·refine ⟨λa1=>Zad (.inl rfl) (ZbQ y.s hs) ⟨λa2=>?_,λa2=>?_⟩,λa1=>?_⟩
    ·exact Zao (p:=¬Zrj y.k y.s y.xs.length) (by decide) (lkP (by rw[b1,hx,Yah];exact ⟨λh=>⟨λ_=>a2,λh'=>absurd h' (by omega),h⟩,λh=>h.2.2⟩)) (λh4=>aI ⟨⟩ _ ⟨rfl,rfl,rfl,rfl,trivial⟩ h4) (λh4=>⟨rfl,aV _ h4⟩)
    ·have hb:Zrj y.k y.s y.xs.length:=λh=>a2 (h.1 (by omega));exact nq [] hb _ _ ⟨rfl,aV _ (λh=>h hb)⟩
    ·have hb:Zrj y.k y.s y.xs.length:=λh=>a1 ⟨λ_=>ZnK (h.1 (by omega)),λ_=>rfl⟩;exact nq [] hb _ _ ⟨rfl,aV _ (λh=>h hb)⟩
   ·refine ⟨λa1=>⟨λa2=>?_,λa2=>?_⟩,λa1=>?_⟩
    ·have cJ:y.s=[]:=Yah.1 (λh=>a2 (a1.2 h));exact Zao (p:=¬Zrj y.k y.s y.xs.length) (by decide) (lkP (by rw[b1,hx,Yah];exact ⟨λh=>⟨λh'=>absurd h' (by omega),λ_=>cJ,h⟩,λh=>h.2.2⟩)) (λh4=>aI ⟨⟩ _ ⟨rfl,rfl,rfl,rfl,trivial⟩ h4) (λh4=>⟨rfl,aV _ h4⟩)
    ·refine Zad (.inl rfl) (ZbQ y.s hs) ⟨λa3=>?_,λa3=>?_⟩
     ·exact Zao (p:=¬Zrj y.k y.s y.xs.length) (by decide) (lkP (by rw[b1,hx,Yah];exact ⟨λh=>⟨λ_=>a3,λh'=>absurd h' (by omega),h⟩,λh=>h.2.2⟩)) (λh4=>aI ⟨⟩ _ ⟨rfl,rfl,rfl,rfl,trivial⟩ h4) (λh4=>⟨rfl,aV _ h4⟩)
     ·have hb:Zrj y.k y.s y.xs.length:=λh=>a3 (h.1 (by omega));exact nq [] hb _ _ ⟨rfl,aV _ (λh=>h hb)⟩
    ·have hb:Zrj y.k y.s y.xs.length:=λh=>a1 ⟨λbS=>ZnK (h.1 (by omega)),λcJ=>YaN λbS=>cJ (h.2.1 (by omega))⟩;exact nq [] hb _ _ ⟨rfl,aV _ (λh=>h hb)⟩
  refine ZrK (ι:=PUnit) (λ_=>kpT depth (IntKind.i64.wrap (Zey f l i)) i) (λ_=>[.blk y.d 114]) (λ_=>¬ZsE y.k y.b.length y.e.length) (λe4 _ cE=>?_) (λRj aI=>?_)
  rotate_left
  ·have aV:∀hh:Zae,¬¬ZsE y.k y.b.length y.e.length->Zoy (RP (Zai (f+1) l) (.g (.int (IntKind.i64.wrap (Zah (f+1) l))))) hh (Zcu 4):=λhh h4=>fin 4 (by decide) (by rw[e,if_pos (λh=>h4 (ZhE.1 h).2)]) hh;have nq:∀hh:Zae,ZsE y.k y.b.length y.e.length->∀K:D->Zae->Prop,∀Kp:D->Prop,Kp (Zcu 4)->∃es Q,Ze0 [.g (.bool false),.g (.int 4)] es/\CT Tryz.prog (gl L) 36 es Q/\(∀d h',Q (.ret d h')->K d h')/\(∀d,Q (.pan d)->Kp d) :=
    λ_ h K Kp hp=>Zao (p:=¬ZsE y.k y.b.length y.e.length) (by decide) (Zqt ⟨λh=>(by cases h),λhp=>absurd h hp⟩) (λhp=>absurd h hp) (λ_=>hp)
   have uM:∀hh:Zae,¬ZsE y.k y.b.length y.e.length->∀K:D->Zae->Prop,∀Kp:D->Prop,K (.tuple []) []->∃es Q,Ze0 [.g (.bool true),.g (.int 4)] es/\CT Tryz.prog (gl L) 36 es Q/\(∀d h',Q (.ret d h')->K d h')/\(∀d,Q (.pan d)->Kp d) :=
    λ_ h K Kp hp=>Zao (p:=¬ZsE y.k y.b.length y.e.length) (by decide) (Zqt ⟨λ_=>h,λ_=>rfl⟩) (λ_=>hp) (λhp=>absurd h hp)
   have b2:ZsE y.k y.b.length y.e.length↔¬((y.b.length=0\/y.k=3\/y.k=4)/\(y.e.length=0\/y.k=3)):=Ya3;clear e;refine ⟨λa1=>⟨λa2=>?_,λa2=>absurd a1 a2⟩,λa1=>⟨λa2=>⟨λa3=>absurd a3 a1,λa3=>?_⟩,λa2=>⟨λa3=>⟨λa4=>absurd a4 a1,λa4=>?_⟩,λa3=>?_⟩⟩⟩
   ·have hz:¬ZsE y.k y.b.length y.e.length:=by rw[b2];omega
    exact uM [] hz _ _ (aI ⟨⟩ _ ⟨rfl,rfl,rfl,rfl,trivial⟩ hz)
   ·exact Zao (p:=¬ZsE y.k y.b.length y.e.length) (by decide) (lkP (by rw[b2,bp];omega)) (λh4=>aI ⟨⟩ _ ⟨rfl,rfl,rfl,rfl,trivial⟩ h4) (λh4=>⟨rfl,aV _ h4⟩)
   ·exact Zao (p:=¬ZsE y.k y.b.length y.e.length) (by decide) (lkP (by rw[b2,bp];omega)) (λh4=>aI ⟨⟩ _ ⟨rfl,rfl,rfl,rfl,trivial⟩ h4) (λh4=>⟨rfl,aV _ h4⟩)
   ·have hb:ZsE y.k y.b.length y.e.length:=by rw[b2];omega
    exact nq [] hb _ _ ⟨rfl,aV _ (λh=>h hb)⟩
  rw[if_neg (Yah.2 (ZhE.2 ⟨bG,cE⟩))] at e;have yl:(y.xs.length:Int)=nOf y.k:=(Yah.1 bG).2.2;clear h8;refine ZaO (ι:=Nat) (λk=>[(94,.g (.int (k:Int))),(7,.ptr 0 0)]) (λ_=>[.blk y.d 114]) (λk=>k<=y.xs.length/\∀j (hj:j < y.xs.length),j < k->Zaw 12 y.xs[j]=0) (λk=>y.xs.length - k)
   ⟨0,[.old 0],⟨rfl,.inl rfl,.inr ⟨lk rfl,lk rfl,trivial⟩,rfl⟩,Yat _,Zgk⟩ ?_
  intro Rk jG k ⟨bJ,bS⟩;refine ⟨λc0=>?_,λc0=>?_⟩
  ·have c1:k < y.xs.length:=by omega
   refine ⟨k,_,rfl,(gm c1).trans (congrArg some (Expr.g_eq _)),?_⟩;refine Zog (.inl rfl) (Ztg 12 y.xs[k] (qw _ (Yai _)) 1 (by decide) (by decide)) (λc2=>?_) (λc2=>⟨rfl,fin _ c2 (by rw[e,if_pos (by rw[Za3 c1 bS c2];exact c2),Za3 c1 bS c2]) _⟩);refine ⟨_,I64.wrap (by unfold I64;omega),?_⟩;exact jG _ _ _ ⟨k+1,[.old 0],⟨rfl,.inl rfl,.inr ⟨lk rfl,lk rfl,trivial⟩,rfl⟩,⟨c1,ZaV c1 bS c2⟩,by omega⟩
  ·have dc:Zal (Zaw 12) y.xs=0:=Zbb (by omega) bS;rw[if_neg (λh=>h dc)] at e;have cb:=ih y.b gu fQ (depth+1) (by omega) (by omega);have ce:=ih y.e mf gn (depth+1) (by omega) (by omega);by_cases c3:Zai f y.b≠0
   ·rw[if_pos c3] at e;exact ⟨some 5,rfl,_,I64.wrap (by unfold I64;omega),_,.any,Zcu (Zai f y.b),.inl rfl,cb.weaken (λo ho=>ho.elim (λh=>absurd h.1 c3) (λh=>h.2)),rfl,λ_ _=>⟨rfl,fin _ c3 e _⟩,_,I64.wrap (by unfold I64;omega),.any,.any,.any,.any,trivial⟩
   ·have yL:=Yah.1 c3;rw[if_neg c3] at e;have ux:=cb.weaken (Q':=Is (.g (.int (IntKind.i64.wrap (Zah f y.b))))) (λo ho=>ho.elim (λh=>h.2) (λh=>absurd h.1 c3));by_cases c4:Zai f y.e≠0
    ·exact ⟨some 10,rfl,_,I64.wrap (by unfold I64;omega),_,_,.inl rfl,ux,rfl,_,I64.wrap (by unfold I64;omega),_,.any,Zcu (Zai f y.e),.inl rfl,ce.weaken (λo ho=>ho.elim (λh=>absurd h.1 c4) (λh=>h.2)),rfl,λ_ _=>⟨rfl,fin _ c4 e _⟩,.any,.any,.any,trivial⟩
    ·have x5:=Yah.1 c4;have xZ:=ce.weaken (Q':=Is (.g (.int (IntKind.i64.wrap (Zah f y.e))))) (λo ho=>ho.elim (λh=>h.2) (λh=>absurd h.1 c4));refine ⟨none,rfl,_,I64.wrap (by unfold I64;omega),_,_,.inl rfl,ux,rfl,_,I64.wrap (by unfold I64;omega),_,_,.inl rfl,xZ,rfl,_,rfl,_,rfl,?_⟩;refine ⟨_,I64.wrap (by unfold I64;omega),?_⟩;exact aj _ _ _ ⟨i+1,[],⟨rfl,.inl rfl,.inr ⟨lkI (by rw[ga,ZBO]),lk rfl,trivial⟩,rfl⟩,⟨h1,next _ e x5⟩,by omega⟩
variable {L:Lv}
theorem Zop (v:Value) (xT:TypeId) (w:World):(Instr.typeAssert (.iface 151 v) xT 151 true).run Tryz.prog w=.ok (.tuple #[v,.bool true]) w:=by kernel_rfl
theorem Zke (p:Addr) (w:World) :
  CallsD Tryz.prog 35 #[.pointer (some p)] .returning w λe u' w'=>e=.returned (.tuple #[])/\u'=.returning/\w'=w:=by
 refine callsD_of_wpS Tryz.func35 rfl λc₀ cs hu=>?_;apply wpS_seq;apply wpS_region;simp[wpOpsS,go_sem,recoverD,hu,Tryz.ntmps35,Exit.thenS];apply wpS_seq;apply wpS_seq;apply wpS_region;simp[wpOpsS,go_sem,Exit.thenS];refine wpS_cond (t:=true) (by simp[Act.eval,Array.replicate]) ?_;simp only[if_true];refine wpS_of_wp (wp_ret ?_);cases c₀
 simp_all [bodyPostS,results,Tryz.results35,Exit.thenS]
theorem Zfl (p:Addr) (x e:Int) (w:World) (hc:∀o,(w.alloc o).cell? p=some (.int .i64 x)) (hz:∀o,(w.alloc o).frozen? p=false) :
  CallsD Tryz.prog 35 #[.pointer (some p)] (.panicking [{ v:=.iface 151 (.agg #[.int .i64 e]),recovered:=false }]) w λen u' w' =>
   en=.returned (.tuple #[])/\u'=.panicking [{ v:=.iface 151 (.agg #[.int .i64 e]),recovered:=true }]/\∃o,w'=(w.alloc o).setCell p (.int .i64 e):=by refine callsD_of_wpS Tryz.func35 rfl λc₀ cs hu=>?_;apply wpS_seq;apply wpS_region;simp[wpOpsS,go_sem,recoverD,hu,Tryz.ntmps35,Exit.thenS];apply wpS_seq;apply wpS_seq;apply wpS_region;simp[wpOpsS,go_sem,Exit.thenS];refine wpS_cond (t:=false) (by simp[Act.eval,Array.replicate]) ?_;simp only[YbW,if_false];refine wpS_of_wp (wp_skip ?_);simp only[Exit.thenS];apply wpS_seq;apply wpS_region;simp[wpOpsS,go_sem,Exit.thenS,Zop];apply wpS_seq;apply wpS_seq;apply wpS_region;simp[wpOpsS,go_sem,Exit.thenS];refine wpS_cond (t:=false) (by simp[Act.eval,Array.replicate]) ?_;simp only[YbW,if_false];refine wpS_of_wp (wp_skip ?_);simp only[Exit.thenS];apply wpS_region;simp[wpOpsS,go_sem,hc,hz,bodyPostS,results,Tryz.results35];exact ⟨_,rfl⟩
end ZN
namespace Go.Dm
open Go Go.Eng Go.RowKit
def ZAl (P:Program) (T:Tab) (F:FuncId->Bool) (G:Gl) (n:Nat) (rest:Code) (Q:Deferred->Post):Post
 | .normal,⟨env,h,df⟩=>df=[]/\∀d,vc P T F G n rest ⟨env,h,[d]⟩ (Q d)
 | _,_=>False
def ZDd (c:Nat) (tF:TypeId) (v:Int) (d:Deferred):Post
 | .normal,⟨env,h,df⟩ | .ret,⟨env,h,df⟩=>df=[d]/\∃j t,env c=.ptr j 0/\h[j]?=some (.blk [.g (.int v)] t)
 | .pan x,⟨env,h,df⟩=>df=[d]/\x=.iface tF (.agg [.g (.int v)])/\∃j y t,env c=.ptr j 0/\h[j]?=some (.blk [.g (.int y)] t)
 | .exit _,_=>False
section
variable {P:Program} {T:Tab} {F:FuncId->Bool} {G:Gl}
theorem ZmA {w w2:World} {V V2:Nat->Prop} {h:Zae} {β:Nat->Value} (ab:RelD ⟨w,λ_=>False,V,G⟩ h β V2 w2) {j:Nat} {y:Int} {t:TypeId} (hj:h[j]?=some (.blk [.g (.int y)] t)) {g:Nat} (hb:β j=.pointer (some ⟨g,0,none⟩)) (o:Go.Obj) (v:Int) :
  (∀o,(w2.alloc o).cell? ⟨g,0,none⟩=some (.int .i64 y))/\(∀o,(w2.alloc o).frozen? ⟨g,0,none⟩=false)/\RelD ⟨w,λ_=>False,V,G⟩ [.blk [.g (.int v)] t] (λ_=>.pointer (some ⟨g,0,none⟩)) V2 ((w2.alloc o).setCell ⟨g,0,none⟩ (.int .i64 v)):=by
 obtain ⟨g',us,au,hg,aU⟩:=ab.obj j _ hj;have e:g'=g:=by rw[hb] at au;injection au with au;injection au with au;injection au with au;exact au.symm
 subst e;simp only[Zaa,Zab,ZaS] at aU;obtain ⟨v',kt,rfl,rfl,rfl⟩:=aU;have aG:g' < w2.heap.size:=by rw[YaQ] at hg;exact hg.1
 have l9:∀o,(w2.alloc o).heap[g']?=some (.cells #[.int .i64 y] t (0,0)):=λo=>by simp only[World.alloc,Array.getElem?_push];rw[if_neg (by omega)];exact hg
 have j4:w.heap.size<=g':=by
  rcases ab.mine j _ g' hj rfl (by rw[hb];rfl) with h1 | h1
  ·exact h1
  ·exact h1.elim
 have pK:¬V2 g':=ab.vout j _ g' hj rfl (by rw[hb];rfl);have cT:∀k,k < w2.heap.size->k≠g'->((w2.alloc o).setCell ⟨g',0,none⟩ (.int .i64 v)).heap[k]?=w2.heap[k]?:=λk hk aC=>by rw[Below.heap_setCell _ _ _ _ aC];simp only[World.alloc,Array.getElem?_push];rw[if_neg (by omega)]
 have gW:ZaI V2 w2 V2 ((w2.alloc o).setCell ⟨g',0,none⟩ (.int .i64 v)):=λk hk=>⟨hk,cT k (ab.vlt k hk) (λe=>pK (e▸hk))⟩;have one:∀{i:Nat} {o':Obj},[Obj.blk [D.g (.int v)] t][i]?=some o'->i=0/\o'=.blk [D.g (.int v)] t:=fun {i o'} hi=>by
  cases i with
  | zero=>simp at hi;exact ⟨rfl,hi.symm⟩
  | succ i=>simp at hi
 refine ⟨λo=>?_,λo=>?_,⟨λi o' hi=>?_,λi j o1 o2 k hi _ hj _ _ _=>?_,λi o' k hi _ hk=>?_,λi o' k hi _ hk=>?_,λk hk=>?_,ab.vin,ab.vnew,?_,ab.gl.move gW⟩⟩
 ·simp only[World.cell?,l9 o];rfl
 ·simp only[World.frozen?,l9 o];rfl
 ·obtain ⟨rfl,rfl⟩:=one hi;exact ⟨g',[.int .i64 v],rfl,one_setCell (l9 o),by simp only[Zaa,Zab,ZaS];exact ⟨_,_,rfl,rfl,rfl⟩⟩
 ·rw[(one hi).1,(one hj).1]
 ·have:g'=k:=by obtain ⟨_,rfl⟩:=one hi;exact Ya2 hk
  subst this;exact .inl j4
 ·have:g'=k:=by obtain ⟨_,rfl⟩:=one hi;exact Ya2 hk
  subst this;exact pK
 ·rw[World.size_setCell,World.size_alloc];have:=ab.vlt k hk;omega
 ·refine ⟨ab.fr.os,ab.fr.tape,ab.fr.output,?_,λk hk hn=>?_⟩
  ·rw[World.size_setCell,World.size_alloc];have:=ab.fr.size;exact Nat.le_succ_of_le this
  ·have ae:k < w.heap.size:=hk;have h2:w.heap.size<=w2.heap.size:=ab.fr.size;rw[cT k (by omega) (by omega)];exact ab.fr.block k hk hn
theorem ZBl (hT:TabOk P T) (hF:∀g,F g=true->fnOk P g=true) (hM:Mix P) {f:FuncId} {fn:Func} {r0 rd rest:Code} (hf:P.funcs[f]?=some fn) (hb:fn.body=some (.seq r0 (.seq rd rest))) (N:Nat) (hN:fn.ntmps=N) (cJ:Zhx N (ZbK r0)=true) (bM:Zhx N (ZbK rest)=true)
  (c:Nat) (ty:TypeId) (ca:fn.results.toList=[.cell c ty]) (hc:inL (ZbK rest) c=false) {ti:TI} (iH:T ty=some ti) (bw:ti.agg=false) (args:List D) (bn:Nat.ble args.length N=true) (tF:TypeId) (g:FuncId)
  (dQ:∀(Q:Exit->Act->World->Prop) (a:Act) (w:World),Q .normal { a with defers:={ target:=.fn (.func g) #[],args:=#[a.tmps.getD c undef] } :: a.defers } w->rd.wp P Q a w)
  (hinv:∀x w,(invoke (.fn (.func g) #[]) #[x]).run P w=.ok (.enter g #[x]) w)
  (idle:∀p w,CallsD P g #[.pointer (some p)] .returning w λe u' w'=>e=.returned (.tuple #[])/\u'=.returning/\w'=w)
  (fU:∀(p:Addr) (x e:Int) (w:World),(∀o,(w.alloc o).cell? p=some (.int .i64 x))->(∀o,(w.alloc o).frozen? p=false)->CallsD P g #[.pointer (some p)] (.panicking [{ v:=.iface tF (.agg #[.int .i64 e]),recovered:=false }]) w λen u' w'=>en=.returned (.tuple #[])/\u'=.panicking [{ v:=.iface tF (.agg #[.int .i64 e]),recovered:=true }]/\∃o,w'=(w.alloc o).setCell p (.int .i64 e))
  (v:Int) (h:vc P T F G N r0 ⟨Zdz args,[],[]⟩ (ZAl P T F G N rest (ZDd c tF v))):CT P G f args (Is (.g (.int v))):=by
 subst hN;intro w V aa hV hG an;have hlen:=an.len;have bn:=Yau bn;refine calls_of_wp_defers hf hb ?_;have dS:∀(ds:List D) (vs:List Value),Zaa [] (λ_=>undef) V w ds vs->∀i,Zab [] (λ_=>undef) V w (nth .any ds i) (vs.getD i undef):=by
  intro ds
  induction ds with
  | nil=>intro vs _ i;simp only[nth,Zab]
  | cons d ds ih =>
   intro vs h i;simp only[Zaa] at h;obtain ⟨v,us,rfl,h1,h2⟩:=h;cases i with
   | zero=>simpa [nth] using h1
   | succ i=>simpa [nth] using ih us h2 i
 have hr:Rel ⟨w,λ_=>False,V,G⟩ fn.ntmps ⟨Zdz args,[],[]⟩ { tmps:=(⟨aa⟩:Array Value)++Array.replicate (fn.ntmps - (⟨aa⟩:Array Value).size) undef,defers:=[] } w:=by
  refine ⟨by simp;omega,rfl,λ_=>undef,V,Zhq hV hG,λi=>?_⟩;have h1:=dS args aa an i;have h2:((⟨aa⟩:Array Value)++Array.replicate (fn.ntmps - (⟨aa⟩:Array Value).size) undef).getD i undef=aa.getD i undef:=by
   rw[Yao,YaG];by_cases hi:i < aa.length
   ·rw[Yba (by simpa using hi)];simp
   ·rw[Ybk (by simp;omega),Ya9 (by omega)];rw[Ya0];split<;>rfl
  rw[h2];exact h1
 have lT:=ZcA cJ;have lS:=ZcA bM;refine wp_seq (Code.wp_mono ?_ (ZfT hT hF hM.ok r0 (ZbK r0) lT (λk hk=>ZbO.2 hk) ⟨w,λ_=>False,V,G⟩ _ _ w _ h hr));rintro e a1 w1 ⟨_,x,aw,hq,hx⟩;cases x with
 | exit _=>exact hq.elim
 | ret=>exact hq.elim
 | pan _=>exact hq.elim
 | normal =>
 cases e<;>try exact hx.elim
 obtain ⟨ah,bf,β1,V1,dE,ir⟩:=hx;obtain ⟨mC,h1,xX⟩:=aw;obtain ⟨rfl,hq⟩:=hq;refine wp_seq (dQ _ a1 w1 ?_);have cS:Rel ⟨w,λ_=>False,V,G⟩ fn.ntmps ⟨mC,h1,[{ target:=.fn (.func g) #[],args:=#[a1.tmps.getD c undef] }]⟩ { a1 with defers:={ target:=.fn (.func g) #[],args:=#[a1.tmps.getD c undef] } :: a1.defers } w1 :=
  ⟨ah,by rw[bf],β1,V1,dE,ir⟩
 refine Code.wp_mono ?_ (ZfT hT hF hM.ok rest (ZbK rest) lS (λk hk=>ZbO.2 hk) ⟨w,λ_=>False,V,G⟩ _ _ w1 _ (hq _) cS);rintro e a2 w2 ⟨bS,x,⟨b8,h2,gN⟩,jU,fq⟩;have gM:a2.tmps.getD c undef=a1.tmps.getD c undef:=bS c hc;have ptr:∀{β2:Nat->Value} {V2:Nat->Prop} {j:Nat} {y:Int} {t:TypeId},RelD ⟨w,λ_=>False,V,G⟩ h2 β2 V2 w2->ZbS ⟨b8,h2,gN⟩ β2 V2 w2 a2->b8 c=.ptr j 0->h2[j]?=some (.blk [.g (.int y)] t)->∃g',β2 j=.pointer (some ⟨g',0,none⟩)/\a1.tmps.getD c undef=.pointer (some ⟨g',0,none⟩):=by intro β2 V2 j y t ab he hj hh;have hp:=he c;rw[show (⟨b8,h2,gN⟩:St).env c=b8 c from rfl,hj,gM] at hp;simp only[Zab,hh] at hp;obtain ⟨g',au,hv⟩:=hp;exact ⟨g',au,hv⟩
 have fin:∀{w3:World} {β3:Nat->Value} {V3:Nat->Prop} {h3:Zae} {env3:Env} {j:Nat} {t:TypeId},RelD ⟨w,λ_=>False,V,G⟩ h3 β3 V3 w3->ZbS ⟨env3,h3,[]⟩ β3 V3 w3 a2->env3 c=.ptr j 0->h3[j]?=some (.blk [.g (.int v)] t) ->
   Leaves P fn a2.tmps (ZpO G (Is (.g (.int v))) V w) [] .returning w3:=by
  intro w3 β3 V3 h3 env3 j t ab he hj hh;have bN:ZiU T ⟨env3,h3,[]⟩ fn.results.toList=some [.g (.int v)]:=by rw[ca];simp only[ZiU,hj,iH,hh,bw];rfl
  obtain ⟨v',cF,cu⟩:=Zcg hT ab he bN;obtain ⟨src,d',h',ht,hQ⟩:=(ZbN (.inl rfl):Zby (Is (.g (.int v))) h3 (.g (.int v)));obtain ⟨r1,r2⟩:=ht.use ab cu;simp only[Zaa] at r2;obtain ⟨uE,us,e,r3,_⟩:=r2;injection e with e1 e2;subst e1;exact ⟨v',cF,d',h',_,_,hQ,r1,r3⟩
 have ret:∀{bR:St},bR=⟨b8,h2,gN⟩->Rel ⟨w,λ_=>False,V,G⟩ fn.ntmps bR a2 w2->(gN=[{ target:=.fn (.func g) #[],args:=#[a1.tmps.getD c undef] }]/\∃j t,b8 c=.ptr j 0/\h2[j]?=some (.blk [.g (.int v)] t))->Leaves P fn a2.tmps (ZpO G (Is (.g (.int v))) V w) a2.defers .returning w2:=by rintro _ rfl ⟨_,fO,β2,V2,br,cz⟩ ⟨fe,j,t,hj,hh⟩;obtain ⟨g',au,hp⟩:=ptr br cz hj hh;rw[fO];show Leaves P fn a2.tmps _ gN .returning w2;rw[fe,hp];refine leaves_cons (by simp) (hinv _ _) ((idle _ w2).mono ?_);rintro e u' w' ⟨rfl,rfl,rfl⟩;exact fin (env3:=b8) br cz hj hh
 cases x with
 | exit _=>exact jU.elim
 | normal=>cases e<;>first | exact fq.elim | exact ret rfl fq jU
 | ret=>cases e<;>first | exact fq.elim | exact ret rfl fq jU
 | pan d =>
  cases e<;>try exact fq.elim
  obtain ⟨t,u,rfl,_,fO,β2,V2,br,cz,hd⟩:=fq;obtain ⟨fe,rfl,j,y,t',hj,hh⟩:=jU;obtain ⟨g',au,hp⟩:=ptr br cz hj hh;simp only[Zab] at hd;obtain ⟨u',e1,us,rfl,ft⟩:=hd;injection e1 with e1 e2;subst e1;subst e2;simp only[Zaa,Zab,ZaS] at ft;obtain ⟨v',kt,rfl,rfl,rfl⟩:=ft;show Leaves P fn a2.tmps _ a2.defers (.panicking _) w2;rw[fO];show Leaves P fn a2.tmps _ gN (.panicking _) w2;rw[fe,hp];obtain ⟨c1,c2,_⟩:=ZmA br hh au (Go.Obj.cells #[] 0 (0,0)) v;refine leaves_cons (by simp) (hinv _ _) ((fU _ y v w2 c1 c2).mono ?_);rintro e u' w' ⟨rfl,rfl,o,rfl⟩;obtain ⟨_,_,r3⟩:=ZmA br hh au o v;refine fin (env3:=λk=>bif Nat.beq k c then .ptr 0 0 else .any) (j:=0) r3 (λk=>?_) (by simp) rfl;show Zab _ _ _ _ (bif Nat.beq k c then .ptr 0 0 else .any) _;cases hk:Nat.beq k c with
  | false=>simp only[cond_false,Zab]
  | true =>have:=Yaq hk;subst this;simp only[cond_true,Zab];exact ⟨g',rfl,gM.trans hp⟩
end
end Go.Dm
namespace ZN
open Go Go.Dm Go.Eng Barb
variable {L:Lv}
theorem ZrU {e v:Int} (h:e=v):Zcu e=.iface 151 (.agg [.g (.int v)]):=by rw[<- h];rfl
theorem ZC8 {a v:Int} {t:TypeId} {o:Option Go.Dm.Obj} (h:a=v) (ho:o=some (.blk [.g (.int a)] t)):o=some (.blk [.g (.int v)] t):=by rw[<- h];exact ho
set_option maxHeartbeats 1000000 in
theorem Zfb (u:Barb.Unit) (hu:u.I):CT Tryz.prog (gl L) 14 [.agg u.d] (Is (.g (.int (Zbm u)))):=by
 obtain ⟨hn,⟨ew,kB⟩,jE,bn,jb,bL⟩:=hu;have lv:(u.vars.map ZaT).length=u.vars.length:=by simp
 have la:(u.arrays.map Arr.g).length=u.arrays.length:=by simp
 have lf:(u.funcs.map Fun.g).length=u.funcs.length:=by simp
 have e:Zbm u=Zbm u:=rfl
 conv at e=>rhs;unfold Zbm
 refine ZBl hT hF hM Tryz.func14 rfl 101 rfl (by kernel_rfl) (by kernel_rfl) 2 38 rfl (by kernel_rfl) rfl rfl [.agg u.d] rfl 151 35 (λQ a w hq=>?_) (λx w=>?_) Zke Zfl (Zbm u) ?_
 ·apply wp_region;simp[wpOps,go_sem];exact .inl (by simpa using hq)
 ·simp[go_sem]
 refine ⟨rfl,λd=>?_⟩;refine stepS ?_;refine Zad (.inl rfl) (ZbQ u.name hn) (Zao (p:=Zan u.name) (by decide) (lkP Ya3) (λh1=>⟨?_⟩) (λh1=>⟨rfl,ZrU (by rw[e,if_pos h1]),_,_,_,rfl,rfl⟩));rw[if_neg (Yah.2 h1)] at e;refine ZrK (ι:=PUnit) (λ_=>[(1,.ptr 0 0),(2,.ptr 1 0)]) (λ_=>[.blk u.d 37,.blk [.g (.int 0)] 38]) (λ_=>¬(8 < u.vars.length\/3 < u.arrays.length\/8 < u.funcs.length)) (λe0 _ h2=>?_) (λRj aI=>?_)
 rotate_left
 ·refine ⟨λa1=>⟨λa2=>?_,λa2=>?_⟩,λa1=>?_⟩
  ·exact Zao (p:=¬(8 < u.vars.length\/3 < u.arrays.length\/8 < u.funcs.length)) (by decide) (lkP (by omega)) (λh=>aI ⟨⟩ _ ⟨rfl,rfl,trivial⟩ h) (λh=>⟨rfl,ZrU (by rw[e,if_pos (Yah.1 h)]),_,_,_,rfl,rfl⟩)
  ·have hb:8 < u.vars.length\/3 < u.arrays.length\/8 < u.funcs.length:=by omega
   exact Zao (p:=¬(8 < u.vars.length\/3 < u.arrays.length\/8 < u.funcs.length)) (by decide) (Zqt ⟨λh=>(by cases h),λh=>absurd hb h⟩) (λh=>absurd hb h) (λh=>⟨rfl,ZrU (by rw[e,if_pos hb]),_,_,_,rfl,rfl⟩)
  ·have hb:8 < u.vars.length\/3 < u.arrays.length\/8 < u.funcs.length:=by omega
   exact Zao (p:=¬(8 < u.vars.length\/3 < u.arrays.length\/8 < u.funcs.length)) (by decide) (Zqt ⟨λh=>(by cases h),λh=>absurd hb h⟩) (λh=>absurd hb h) (λh=>⟨rfl,ZrU (by rw[e,if_pos hb]),_,_,_,rfl,rfl⟩)
 rw[if_neg h2] at e;refine ZaO (ι:=Nat) (λi=>[(36,.g (.int (i:Int))),(1,.ptr 0 0),(2,.ptr 1 0)]) (λ_=>[.blk u.d 37,.blk [.g (.int 0)] 38]) (λi=>i<=u.vars.length/\∀j (hj:j < u.vars.length),j < i->ZdF u.vars[j]=0) (λi=>u.vars.length - i)
  ⟨0,[.old 0,.old 1],⟨rfl,.inl rfl,.inr ⟨lk rfl,lk rfl,lk rfl,trivial⟩,rfl⟩,Yat _,Zgk⟩ ?_
 intro Rd aj i ⟨hi,ha⟩;refine ⟨λb0=>?_,λb0=>?_⟩
 ·have b1:i < u.vars.length:=by omega
  refine ⟨i,_,rfl,gm b1,?_⟩;refine Zad (.inl rfl) (ZbQ u.vars[i] (ew _ (Yai _))) (Zao (p:=Zan u.vars[i]) (by decide) (lkP Ya3) (λb2=>⟨_,I64.wrap (by unfold I64;omega),?_⟩) (λb2=>⟨rfl,ZrU ?_,_,_,_,rfl,rfl⟩))
  ·exact aj _ _ _ ⟨i+1,[.old 0,.old 1],⟨rfl,.inl rfl,.inr ⟨lk rfl,lk rfl,lk rfl,trivial⟩,rfl⟩,⟨b1,ZaV b1 ha (ZlW b2)⟩,by omega⟩
  ·have hz:=ZlX b2;rw[e,Za3 b1 ha (by rw[hz];decide),hz,if_pos (by decide)]
 have dN:Zal ZdF u.vars=0:=Zbb (by omega) ha;rw[if_neg (λh=>h dN)] at e;clear aj ha hi b0;refine ZaO (ι:=Nat) (λi=>[(47,.g (.int (i:Int))),(1,.ptr 0 0),(2,.ptr 1 0)]) (λ_=>[.blk u.d 37,.blk [.g (.int 0)] 38]) (λi=>i<=u.arrays.length/\∀j (hj:j < u.arrays.length),j < i->Zkm u.arrays[j]=0) (λi=>u.arrays.length - i)
  ⟨0,[.old 0,.old 1],⟨rfl,.inl rfl,.inr ⟨lk rfl,lk rfl,lk rfl,trivial⟩,rfl⟩,Yat _,Zgk⟩ ?_
 intro Rd aj i ⟨hi,ha⟩;refine ⟨λb0=>?_,λb0=>?_⟩
 ·have b1:i < u.arrays.length:=by omega
  have bI:=jE _ (Yai b1);refine ⟨i,_,rfl,gm b1,?_⟩;have hz:∀v:Int,v≠0->Zkm u.arrays[i]=v->Zbm u=v:=λv h0 h=>by rw[e,Za3 b1 ha (by rw[h];exact h0),h,if_pos h0]
  refine Zad (.inl rfl) (ZbQ u.arrays[i].name bI.1) (Zao (p:=Zan u.arrays[i].name) (by decide) (lkP Ya3) (λb2=>?_) (λb2=>⟨rfl,ZrU (hz 4 (by decide) (by unfold Zkm;rw[if_pos b2])).symm,_,_,_,rfl,rfl⟩));refine ⟨λa1=>?_,λa1=>?_⟩
  ·refine Zao (p:=1<=u.arrays[i].size/\u.arrays[i].size<=10) (by decide) (lkP ⟨λh=>⟨a1,h⟩,λh=>h.2⟩) (λb3=>⟨_,I64.wrap (by unfold I64;omega),?_⟩) (λb3=>⟨rfl,ZrU (hz 2 (by decide) (by unfold Zkm;rw[if_neg (Yah.2 b2),if_pos b3])).symm,_,_,_,rfl,rfl⟩);exact aj _ _ _ ⟨i+1,[.old 0,.old 1],⟨rfl,.inl rfl,.inr ⟨lk rfl,lk rfl,lk rfl,trivial⟩,rfl⟩,⟨b1,ZaV b1 ha (by unfold Zkm;rw[if_neg (Yah.2 b2),if_neg (Yah.2 b3)])⟩,by omega⟩
  ·exact Zao (p:=1<=u.arrays[i].size/\u.arrays[i].size<=10) (by decide) (Zqt ⟨λh=>(by cases h),λh=>absurd h.1 a1⟩) (λb3=>absurd b3.1 a1) (λb3=>⟨rfl,ZrU (hz 2 (by decide) (by unfold Zkm;rw[if_neg (Yah.2 b2),if_pos b3])).symm,_,_,_,rfl,rfl⟩)
 have w7:Zal Zkm u.arrays=0:=Zbb (by omega) ha;rw[if_neg (λh=>h w7)] at e;clear aj ha hi b0;refine ZaO (ι:=Nat) (λi=>[(68,.g (.int (i:Int))),(7,.g (.int (IntKind.i64.wrap (Zb9 (u.funcs.take i))))),(1,.ptr 0 0),(2,.ptr 1 0)]) (λ_=>[.blk u.d 37,.blk [.g (.int 0)] 38]) (λi=>i<=u.funcs.length/\∀j (hj:j < u.funcs.length),j < i->Zhi u.funcs[j]=0) (λi=>u.funcs.length - i)
  ⟨0,[.old 0,.old 1],⟨rfl,.inl rfl,.inr ⟨lk rfl,lkI rfl,lk rfl,lk rfl,trivial⟩,rfl⟩,Yat _,Zgk⟩ ?_
 intro Rd aj i ⟨hi,ha⟩;refine ⟨λb0=>?_,λb0=>?_⟩
 rotate_left
 ·have wF:Zal Zhi u.funcs=0:=Zbb (by omega) ha;rw[if_neg (λh=>h wF)] at e;have l6:i=u.funcs.length:=by omega
  rw[<- YaH (l:=u.funcs),<- l6] at e;refine Zao (p:=¬300 < IntKind.i64.wrap (Zb9 (u.funcs.take i))) (by decide) (lkP (by omega)) (λc=>?_) (λc=>⟨rfl,ZrU (by rw[e,if_pos (Yah.1 c)]),_,_,_,rfl,rfl⟩);exact ⟨rfl,_,_,rfl,ZC8 (a:=0) (v:=Zbm u) (by rw[e,if_neg c]) rfl⟩
 have b1:i < u.funcs.length:=by omega
 obtain ⟨fn,⟨xK,xL⟩,sM,sN⟩:=jb _ (Yai b1);have hz:∀v:Int,v≠0->Zhi u.funcs[i]=v->Zbm u=v:=λv h0 h=>by rw[e,Za3 b1 ha (by rw[h];exact h0),h,if_pos h0]
 have next:Zhi u.funcs[i]=0->∀j (hj:j < u.funcs.length),j < i+1->Zhi u.funcs[j]=0:=λh0=>ZaV b1 ha h0
 have ga:=Zr5 b1;have ef:Zhi u.funcs[i]=Zhi u.funcs[i]:=rfl
 conv at ef=>rhs;unfold Zhi
 refine ⟨i,_,rfl,(gm b1).trans (congrArg some (Fun.g_eq _)),?_⟩;generalize u.funcs[i]=f at *;have lp:(f.params.map ZaT).length=f.params.length:=by simp
 refine Zad (.inl rfl) (ZbQ f.name fn) (Zao (p:=Zan f.name) (by decide) (lkP Ya3) (λb2=>?_) (λb2=>⟨rfl,ZrU (hz 4 (by decide) (by rw[ef,if_pos b2])).symm,_,_,_,rfl,rfl⟩));rw[if_neg (Yah.2 b2)] at ef;refine Zao (p:=¬4 < f.params.length) (by decide) (lkP (by omega)) (λb3=>?_) (λb3=>⟨rfl,ZrU (hz 1 (by decide) (by rw[ef,if_pos (Yah.1 b3)])).symm,_,_,_,rfl,rfl⟩);rw[if_neg b3] at ef;refine ZaO (ι:=Nat) (λk=>[(84,.g (.int (k:Int))),(9,.ptr 2 0),(1,.ptr 0 0),(2,.ptr 1 0)]) (λ_=>[.blk u.d 37,.blk [.g (.int 0)] 38,.blk f.d 71]) (λk=>k<=f.params.length/\∀j (hj:j < f.params.length),j < k->ZdF f.params[j]=0) (λk=>f.params.length - k)
  ⟨0,[.old 0,.old 1,.old 2],⟨rfl,.inl rfl,.inr ⟨lk rfl,lk rfl,lk rfl,lk rfl,trivial⟩,rfl⟩,Yat _,Zgk⟩ ?_
 intro Rk jG k ⟨hk,r6⟩;refine ⟨λc0=>?_,λc0=>?_⟩
 ·have c1:k < f.params.length:=by omega
  refine ⟨k,_,rfl,gm c1,?_⟩;refine Zad (.inl rfl) (ZbQ f.params[k] (xK _ (Yai _))) (Zao (p:=Zan f.params[k]) (by decide) (lkP Ya3) (λc2=>⟨_,I64.wrap (by unfold I64;omega),?_⟩) (λc2=>⟨rfl,ZrU (hz 4 (by decide) ?_).symm,_,_,_,rfl,rfl⟩))
  ·exact jG _ _ _ ⟨k+1,[.old 0,.old 1,.old 2],⟨rfl,.inl rfl,.inr ⟨lk rfl,lk rfl,lk rfl,lk rfl,trivial⟩,rfl⟩,⟨c1,ZaV c1 r6 (ZlW c2)⟩,by omega⟩
  ·have sY:=ZlX c2;rw[ef,Za3 c1 r6 (by rw[sY];decide),sY,if_pos (by decide)]
 have n7:Zal ZdF f.params=0:=Zbb (by omega) r6;rw[if_neg (λh=>h n7)] at ef;refine Zog (.inl rfl) (ZrA 12 f.body sN sM 1 (by decide) (by decide)) (λd0=>?_) (λd0=>⟨rfl,ZrU (hz _ d0 ef).symm,_,_,_,rfl,rfl⟩);refine ⟨_,rfl,_,I64.wrap (by unfold I64;omega),?_⟩;exact aj _ _ _ ⟨i+1,[.old 0,.old 1],⟨rfl,.inl rfl,.inr ⟨lk rfl,lkI (by rw[ZiJ,Zjd,ga]),lk rfl,lk rfl,trivial⟩,rfl⟩,⟨b1,next (ef.trans d0)⟩,by omega⟩
end ZN
