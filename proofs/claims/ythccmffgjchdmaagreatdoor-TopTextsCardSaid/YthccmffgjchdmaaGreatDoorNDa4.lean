import Derived.Test.YthccmffgjchdmaaGreatDoorNDa3
import Derived.ChangeArms
import Derived.Deep.Fields
import Derived.ProofKit
namespace Go.Dm
open Go Go.Eng Go.RowKit
def vc (P:Program) (T:Tab) (F:FuncId->Bool) (G:Gl) (n:Nat):Code->St->Post->Prop
 | .skip,st,Q=>Q .normal st
 | .region _ ops false,st,Q=>Zye P T F G ops (Q .normal) Q ops.toList st
 | .region _ ops true,⟨env,h,df⟩,Q=>∃pp:Option Nat,ZBz P T F G ops Q pp env h df
 | .seq x y,st,Q=>vc P T F G n x st (λe st'=>match e with | .normal=>vc P T F G n y st' Q | e=>Q e st')
 | .cond c x y,st,Q=>ZfP (sv G st c) (vc P T F G n x st Q) (vc P T F G n y st Q)
 | .block id x,st,Q=>vc P T F G n x st (λe st'=>match e with | .exit i=>bif Nat.beq i id then Q .normal st' else Q (.exit i) st' | e=>Q e st')
 | .loop x,st,Q=>Zz3 G n (vc P T F G n x) (ZbK x) st Q
 | .exit id,st,Q=>Q (.exit id) st
 | .ret,st,Q=>Q .ret st
 | _,_,_=>False
section
variable {P:Program} {T:Tab} {F:FuncId->Bool} {C:Ctx} {n:Nat}
theorem ZfT (hT:TabOk P T) (hF:∀g,F g=true->fnOk P g=true) (hM:P.follows .mixedOrders=true):∀(c:Code) (S:List Nat),(∀k∈ZbK c,k < n)->(∀k∈ZbK c,inL S k=true)->∀(C:Ctx) (st:St) (a:Act) (w:World) (Q:Post),vc P T F C.G n c st Q->Rel C n st a w ->
  c.wp P (λe a' w'=>ZaL S a a'/\∃x st',Q x st'/\XOk e x st' a' w' C n) a w:=by
 intro c
 induction c with
 | skip=>intro S _ _ C st a w Q h hr;exact wp_skip ⟨ZaL.refl _ _,.normal,st,h,hr⟩
 | region id ops draw =>
  intro S hs hm C st a w Q h hr;cases draw with
  | true =>obtain ⟨env,hp,df⟩:=st;exact Zlb hT hF hM S hs hm h hr
  | false =>
   refine wp_region_list (Znu hT hF (K:=Q .normal) (Q:=Q) (a0:=a) (S:=S) (λst a w hq hr hk=>⟨hk,.normal,st,hq,hr⟩) (λd st ch a w hq hx hk=>⟨hk,.pan d,st,hq,hx⟩) ops.toList (λo ho d hd=>?_) st a w h hr (ZaL.refl _ _));have:d∈ZbK (.region id ops false):=by simp only[ZbK,YaO];exact ⟨o,ho,hd⟩
   exact ⟨hs d this,hm d this⟩
 | seq x y kZ kY =>
  intro S hs hm C st a w Q h hr;simp only[ZbK,Yar] at hs hm;refine wp_seq (Code.wp_mono ?_ (kZ S (λk hk=>hs k (.inl hk)) (λk hk=>hm k (.inl hk)) C st a w _ h hr));rintro e a' w' ⟨hk,x,st',hq,hx⟩;cases e with
  | normal =>
   cases x<;>try exact hx.elim
   refine Code.wp_mono ?_ (kY S (λk hk=>hs k (.inr hk)) (λk hk=>hm k (.inr hk)) C st' a' w' Q hq hx);rintro e uB bH ⟨ae,rest⟩;exact ⟨hk.trans ae,rest⟩
  | exit i=>cases x<;>first | exact hx.elim | exact ⟨hk,_,st',hq,hx⟩
  | ret=>cases x<;>first | exact hx.elim | exact ⟨hk,_,st',hq,hx⟩
  | panic ch=>cases x<;>first | exact hx.elim | exact ⟨hk,_,st',hq,hx⟩
  | goto l=>cases x<;>exact hx.elim
  | outgrown=>cases x<;>exact hx.elim
 | cond c x y kZ kY =>
  intro S hs hm C st a w Q h hr;simp only[ZbK,Yar] at hs hm;obtain ⟨ah,bf,β,V,ab,he⟩:=hr;obtain ⟨b,hv,ht,hf⟩:=ZfP.use h (he.eval ab.gl c);refine wp_cond hv ?_;cases b with
  | true=>exact kZ S (λk hk=>hs k (.inl hk)) (λk hk=>hm k (.inl hk)) C st a w Q (ht rfl) ⟨ah,bf,β,V,ab,he⟩
  | false=>exact kY S (λk hk=>hs k (.inr hk)) (λk hk=>hm k (.inr hk)) C st a w Q (hf rfl) ⟨ah,bf,β,V,ab,he⟩
 | block id x ih =>
  intro S hs hm C st a w Q h hr;refine wp_block (Code.wp_mono ?_ (ih S hs hm C st a w _ h hr));rintro e a' w' ⟨hk,x,st',hq,hx⟩;cases e with
  | exit i =>
   cases x<;>try exact hx.elim
   obtain ⟨rfl,hx⟩:=hx;simp only[Exit.inBlock];by_cases hi:i=id
   ·subst hi;rw[if_pos rfl];simp only[YaY,cond_true] at hq;exact ⟨hk,_,st',hq,hx⟩
   ·rw[if_neg hi];have:Nat.beq i id=false:=Zc5 hi;simp only[this,cond_false] at hq;exact ⟨hk,_,st',hq,rfl,hx⟩
  | normal=>cases x<;>first | exact hx.elim | exact ⟨hk,_,st',hq,hx⟩
  | ret=>cases x<;>first | exact hx.elim | exact ⟨hk,_,st',hq,hx⟩
  | panic ch=>cases x<;>first | exact hx.elim | exact ⟨hk,_,st',hq,hx⟩
  | goto l=>cases x<;>exact hx.elim
  | outgrown=>cases x<;>exact hx.elim
 | loop x ih =>
  intro S hs hm C st a w Q h hr;obtain ⟨ι,I,μ,fv,cZ⟩:=h;obtain ⟨ah,bf,β,V,ab,he⟩:=hr
  let C':Ctx:=⟨w,λk=>∃i o,st.h[i]?=some o/\o.live=true/\Bk o (β i) k,V,C.G⟩
  have bO:RelD C' st.h β V w:=Zgf ab;have aL:Rel C' n st a w:=⟨ah,bf,β,V,bO,he⟩;have back:∀e y bR a2 w2,XOk e y bR a2 w2 C' n->XOk e y bR a2 w2 C n:=by
   intro e y bR a2 w2 hx;have key:∀bR a2 w2,Rel C' n bR a2 w2->Rel C n bR a2 w2:=λbR a2 w2 ⟨h1,h2,β2,V2,h3,h4⟩=>⟨h1,h2,β2,V2,Znh ab h3,h4⟩;cases e<;>cases y<;>try exact hx.elim
   ·exact key _ _ _ hx
   ·exact ⟨hx.1,key _ _ _ hx.2⟩
   ·exact key _ _ _ hx
   ·obtain ⟨t,u,h0,h1,h2,β2,V2,h3,h4,h5⟩:=hx;exact ⟨t,u,h0,h1,h2,β2,V2,Znh ab h3,h4,h5⟩
  have eX:∀a',ZaL (ZbK x) a a'->ZBN C' st (ZbK x) a':=λa' hk=>⟨λk hv ⟨i,o,h1,h2,h3⟩=>ab.vout i o k h1 h2 h3 hv,ab.vlt,a,β,he,hk⟩
  let J:ι->Act->World->Prop:=λi a' w'=>∃aw,I i aw/\Rel C' n aw a' w'/\ZaL (ZbK x) a a'/\ZaL S a a'
  obtain ⟨i0,eY,dR,sE⟩:=fv C' a w rfl aL
  classical
  have least:∀(a':Act) (w':World),(∃i,J i a' w')->∃i,J i a' w'/\∀j,J j a' w'->μ i<=μ j:=by
   intro a' w' hex;have wf:∀m,∀i,μ i=m->J i a' w'->∃i,J i a' w'/\∀j,J j a' w'->μ i<=μ j:=by
    intro m
    induction m using Nat.strongRecOn with
    | _ m jP =>
     intro i hi hJ;by_cases av:∀j,J j a' w'->μ i<=μ j
     ·exact ⟨i,hJ,av⟩
     ·have ⟨j,hj⟩:=Classical.not_forall.1 av;have ⟨sB,aG⟩:=Classical.not_imp.1 hj;exact jP (μ j) (by omega) j rfl sB
   obtain ⟨i,hi⟩:=hex;exact wf _ i rfl hi
  let ν:Act->World->Nat:=λa' w'=>if hex:∃i,J i a' w' then μ (Classical.choose (least a' w' hex)) else 0
  have hν:∀a' w',(∃i,J i a' w')->∃i,J i a' w'/\ν a' w'=μ i:=by intro a' w' hex;refine ⟨Classical.choose (least a' w' hex),(YbP (least a' w' hex)).1,?_⟩;simp only[ν,dif_pos hex]
  have hνle:∀a' w' j,J j a' w'->ν a' w'<=μ j:=by intro a' w' j hj;have hex:∃i,J i a' w':=⟨j,hj⟩;simp only[ν,dif_pos hex];exact (YbP (least a' w' hex)).2 j hj
  refine wp_loop (λa' w'=>∃i,J i a' w') ν ⟨i0,eY,sE,dR,ZaL.refl _ _,ZaL.refl _ _⟩ ?_;intro a1 w1 hex;obtain ⟨i,⟨aw,hI,dG,bJ,bS⟩,hνi⟩:=hν a1 w1 hex;have hb:=ih (ZbK x) hs (λk hk=>ZbO.2 hk) C' aw a1 w1 _ (cZ i aw hI) dG;refine Code.wp_mono ?_ hb;rintro e a2 w2 ⟨hk,y,bR,hq,hx⟩;have j7:ZaL S a1 a2:=λk ae=>hk k (by
   cases h:inL (ZbK x) k with
   | false=>rfl
   | true=>rw[hm k (ZbO.1 h)] at ae;cases ae)
  cases e with
  | normal =>
   cases y<;>try exact hx.elim
   obtain ⟨i',qm,eF,sD,aG⟩:=hq C' a2 w2 rfl hx (eX a2 (bJ.trans hk));have hJ:J i' a2 w2:=⟨qm,sD,eF,bJ.trans hk,bS.trans j7⟩;refine ⟨⟨i',hJ⟩,?_⟩;have:=hνle a2 w2 i' hJ;rw[hνi];omega
  | exit j=>cases y<;>first | exact hx.elim | exact ⟨bS.trans j7,_,bR,hq,back _ _ _ _ _ hx⟩
  | ret=>cases y<;>first | exact hx.elim | exact ⟨bS.trans j7,_,bR,hq,back _ _ _ _ _ hx⟩
  | panic ch=>cases y<;>first | exact hx.elim | exact ⟨bS.trans j7,_,bR,hq,back _ _ _ _ _ hx⟩
  | goto l=>cases y<;>exact hx.elim
  | outgrown=>cases y<;>exact hx.elim
 | exit id=>intro S _ _ C st a w Q h hr;exact wp_exit ⟨ZaL.refl _ _,.exit id,st,h,rfl,hr⟩
 | ret=>intro S _ _ C st a w Q h hr;exact wp_ret ⟨ZaL.refl _ _,.ret,st,h,hr⟩
 | _=>intro S _ _ C st a w Q h hr;exact h.elim
end
def hav (S:List Nat) (e0:Env):Env:=λk=>bif inL S k then .any else bif closed 4 (e0 k) then e0 k else .any
def Env.many (b:Env):List (Nat × D)->Env
 | []=>b
 | (t,x) :: l=>(Env.many b l).set t x
theorem Zpi (b:Env):∀(l:List (Nat × D)) (k:Nat),(∃x,(k,x)∈l/\Env.many b l k=x)\/((∀x,(k,x) ∉ l)/\Env.many b l k=b k)
 | [],k=>.inr ⟨λx h=>by simp at h,rfl⟩
 | (t,x) :: l,k=>by
  by_cases hk:k=t
  ·subst hk;exact .inl ⟨x,Yae,by simp[Env.many,Env.set]⟩
  ·have hb:Nat.beq k t=false:=Zc5 hk;rcases Zpi b l k with ⟨y,hy,he⟩ | ⟨bK,he⟩
   ·exact .inl ⟨y,Yad _ hy,by simp[Env.many,Env.set,hb,he]⟩
   ·refine .inr ⟨λy hy=>?_,by simp[Env.many,Env.set,hb,he]⟩;rcases Yav.1 hy with h | h
    ·injection h with h1 h2;exact hk h1
    ·exact bK y h
section
variable {G:Gl} {n:Nat}
abbrev Zvq (env:Env) (h:Zae) (src:List Src) (val:List (Nat × D)) (h':Zae):Prop:=TurnTo h src (val.map λp=>env p.1) h' (val.map (·.2))
structure Again {ι:Type} (val:ι->List (Nat × D)) (cK:ι->Zae) (Inv:ι->Prop) (μ:ι->Nat) (m:Nat) (env:Env) (h:Zae):Prop where
 ex:∃i src,Zvq env h src (val i) (cK i)/\Inv i/\μ i < m
theorem Zaa.at_map {h:Zae} {β:Nat->Value} {V:Nat->Prop} {w:World} {α:Type} (f:α->D) (g:α->Value):∀(l:List α),Zaa h β V w (l.map f) (l.map g)↔∀x∈l,Zab h β V w (f x) (g x)
 | []=>by simp[Zaa]
 | x :: l=>by
  simp only[Yan,Zaa];constructor
  ·rintro ⟨v,us,e,h1,h2⟩ y hy;injection e with e1 e2;subst e1;subst e2;rcases Yav.1 hy with rfl | hy
   ·exact h1
   ·exact (Zaa.at_map f g l).1 h2 y hy
  ·intro hh;exact ⟨_,_,rfl,hh x Yae,(Zaa.at_map f g l).2 (λy hy=>hh y (Yad _ hy))⟩
def Zer (G:Gl) (n:Nat) (K:St->Prop) (st:St):Prop:=∃aw,(∀C a w,C.G=G->Rel C n st a w->Rel C n aw a w)/\K aw
theorem ZdM {K:St->Prop} {env:Env} {h:Zae} {df:List Deferred} (src:List Src) (val:List (Nat × D)) (h':Zae) (hh:Zvq env h src val h') (k:K ⟨(hav [] env).many val,h',df⟩):Zer G n K ⟨env,h,df⟩:=by
 refine ⟨_,?_,k⟩;rintro C a w _ ⟨ah,bf,β,V,ab,he⟩;have hd:=(Zaa.at_map (λp:Nat × D=>env p.1) (λp=>a.tmps.getD p.1 undef) val).2 (λp _=>he p.1);obtain ⟨aL,bF⟩:=hh.use ab hd;refine ⟨ah,bf,_,_,aL,λk=>?_⟩;show Zab h' _ _ w (Env.many (hav [] env) val k) _;rcases Zpi (hav [] env) val k with ⟨x,hx,jR⟩ | ⟨_,jR⟩
 ·rw[jR];exact (Zaa.at_map (λp:Nat × D=>p.2) (λp=>a.tmps.getD p.1 undef) val).1 bF (k,x) hx
 ·rw[jR];unfold hav;simp only[inL,cond_false];cases hc:closed 4 (env k) with
  | true=>simp only[cond_true];exact Zh6 (λk hk=>⟨.inl hk,rfl⟩) 4 _ _ hc (he k)
  | false=>simp only[cond_false,Zab]
theorem ZaO {B:St->Post->Prop} {S:List Nat} {env:Env} {h:Zae} {df:List Deferred} {Q:Post}
  {ι:Type} (val:ι->List (Nat × D)) (cK:ι->Zae) (Inv:ι->Prop) (μ:ι->Nat)
  (start:∃i src,Zvq env h src (val i) (cK i)/\Inv i)
  (round:∀(Rd:ι->St->Prop),(∀i dz h',Again val cK Inv μ (μ i) dz h'->Rd i ⟨dz,h',df⟩)->∀(i:ι),Inv i ->
   B ⟨(hav S env).many (val i),cK i,df⟩ (λex st'=>match ex with
   | .normal=>Rd i st'
   | ex=>Q ex st')) :
  Zz3 G n B S ⟨env,h,df⟩ Q:=by
 have heads:∀(C:Ctx) (a:Act) (w:World) (β:Nat->Value) (V:Nat->Prop) (i:ι) (h':Zae) (e':Env) (src:List Src),RelD C h' β V w->(∀k,Zab h' β V w (e' k) (a.tmps.getD k undef))->Zvq e' h' src (val i) (cK i) ->
   (∀k,inL S k=false->closed 4 (env k)=true->Zab (cK i) (Zbd src β) (Zjk h' src β V) w (env k) (a.tmps.getD k undef)) ->
   RelD C (cK i) (Zbd src β) (Zjk h' src β V) w/\ZbS ⟨(hav S env).many (val i),cK i,df⟩ (Zbd src β) (Zjk h' src β V) w a:=by
  intro C a w β V i h' e' src ab he hh gA;have hd:=(Zaa.at_map (λp:Nat × D=>e' p.1) (λp=>a.tmps.getD p.1 undef) (val i)).2 (λp _=>he p.1);obtain ⟨aL,bF⟩:=hh.use ab hd;refine ⟨aL,λk=>?_⟩;show Zab (cK i) _ _ w (Env.many (hav S env) (val i) k) _;rcases Zpi (hav S env) (val i) k with ⟨x,hx,jR⟩ | ⟨_,jR⟩
  ·rw[jR];exact (Zaa.at_map (λp:Nat × D=>p.2) (λp=>a.tmps.getD p.1 undef) (val i)).1 bF (k,x) hx
  ·rw[jR];unfold hav;cases hS:inL S k with
   | true=>simp only[cond_true,Zab]
   | false =>
    simp only[cond_false];cases hc:closed 4 (env k) with
    | true=>simp only[cond_true];exact gA k hS hc
    | false=>simp only[cond_false,Zab]
 refine ⟨ι,λi aw=>aw=⟨(hav S env).many (val i),cK i,df⟩/\Inv i,μ,?_,?_⟩
 ·rintro C a w _ ⟨ah,bf,β,V,ab,he⟩;obtain ⟨i,src,hh,hinv⟩:=start;obtain ⟨h1,h2⟩:=heads C a w β V i h env src ab he hh (λk _ hc=>Zh6 (λk hk=>⟨.inl hk,rfl⟩) 4 _ _ hc (he k));exact ⟨i,⟨(hav S env).many (val i),cK i,df⟩,⟨ah,bf,_,_,h1,h2⟩,rfl,hinv⟩
 ·rintro i aw ⟨rfl,hinv⟩;refine round (λi st'=>∀C a w,C.G=G->Rel C n st' a w->ZBN C ⟨env,h,df⟩ S a->∃i' bR,Rel C n bR a w/\(bR=⟨(hav S env).many (val i'),cK i',df⟩/\Inv i')/\μ i' < μ i) ?_ i hinv;rintro i dz h' ⟨i',src,hh,ow,aG⟩ C a w _ ⟨ah,bf,β,V,ab,he⟩ ⟨bG,cE,a0,β0,oM,dq⟩;have hm:ZaI C.V0 C.w0 V w:=λk hk=>⟨ab.vin k hk,ab.fr.block k (cE k hk) (bG k hk)⟩;obtain ⟨h1,h2⟩:=heads C a w β V i' h' dz src ab he hh (λk hS hc=>by
   rw[dq k hS];exact Zh6 (hm.trans (λk hk=>⟨.inl hk,rfl⟩)) 4 _ _ hc (oM k))
  exact ⟨i',⟨(hav S env).many (val i'),cK i',df⟩,⟨ah,bf,_,_,h1,h2⟩,⟨rfl,ow⟩,aG⟩
end
structure Mix (P:Program):Prop where
 ok:P.follows .mixedOrders=true
def nth {α:Type} (z:α):List α->Nat->α
 | [],_=>z
 | a :: _,0=>a
 | _ :: l,n+1=>nth z l n
def Zdz (args:List D):Env:=λi=>nth .any args i
def ZiU (T:Tab) (st:St):List ResultVar->Option (List D)
 | []=>some []
 | .tmp t :: l=>match ZiU T st l with
  | some ds=>some (st.env t :: ds)
  | none=>none
 | .cell t ty :: l=>match ZiU T st l,st.env t,T ty with
  | some ds,.ptr j off,some i=>match st.h[j]? with
   | some (.blk cs _)=>match i.agg with
    | true=>bif Nat.ble (off+i.size) cs.length then some (.agg (List.take i.size (cs.drop off)) :: ds) else none
    | false=>match cs[off]? with
     | some d=>some (d :: ds)
     | none=>none
   | _=>none
  | _,_,_=>none
def Zd6:List D->D
 | [d]=>d
 | ds=>.tuple ds
def Zby (Q:Out->Prop) (h:Zae) (d:D):Prop:=∃src d' h',TurnTo h src [d] h' [d']/\Q (.ret d' h')
def Zoy (Q:Out->Prop) (h:Zae) (d:D):Prop:=∃d',TurnTo h [] [d] [] [d']/\Q (.pan d')
def Fin (T:Tab) (rs:List ResultVar) (Q:Out->Prop):Post
 | .normal,⟨env,h,df⟩ | .ret,⟨env,h,df⟩=>match ZiU T ⟨env,h,df⟩ rs with
  | some ds=>Zcd ds λds=>df=[]/\Zby Q h (Zd6 ds)
  | none=>False
 | .pan d,⟨_,h,df⟩=>df=[]/\Zoy Q h d
 | .exit _,_=>False
section
variable {P:Program} {T:Tab} {F:FuncId->Bool} {G:Gl}
theorem Zna (hT:TabOk P T) {st:St} {a:Act} {w:World} {C:Ctx} {β:Nat->Value} {V:Nat->Prop} (hr:RelD C st.h β V w) (he:ZbS st β V w a):∀(rs:List ResultVar) (ds:List D),ZiU T st rs=some ds ->
  ∃vs,(rs.mapM (m:=Sem) fun | .tmp t=>pure (a.tmps.getD t undef) | .cell c t=>do loadVar t (<- asAddr (a.tmps.getD c undef))).run P w=.ok vs w/\Zaa st.h β V w ds vs:=by
 intro rs
 induction rs with
 | nil=>intro ds h;simp[ZiU] at h;subst h;exact ⟨[],rfl,by simp[Zaa]⟩
 | cons r l ih =>
  intro ds h;cases r with
  | tmp t =>
   simp only[ZiU] at h;cases hl:ZiU T st l with
   | none=>rw[hl] at h;cases h
   | some us =>rw[hl] at h;injection h with h;subst h;obtain ⟨vs,h1,h2⟩:=ih us hl;refine ⟨a.tmps.getD t undef :: vs,?_,by simp only[Zaa];exact ⟨_,_,rfl,he t,h2⟩⟩;simp only[Ycv,Sem.run_bind,Sem.run_pure,Result.andThen_ok,h1]
  | cell t ty =>
   simp only[ZiU] at h;split at h
   ·rename_i us j off i hl het ht;obtain ⟨vs,h1,h2⟩:=ih us hl;have hx:=he t;rw[het] at hx;split at h
    ·rename_i cs ya hj;simp only[Zab,hj] at hx;obtain ⟨g,hb,hv⟩:=hx;obtain ⟨g',kt,au,hg,aU⟩:=hr.obj j _ hj;have e:g'=g:=by rw[hb] at au;injection au with au;injection au with au;injection au with au;exact au.symm
     subst e;have fin:∀(d:D) (v:Value),(loadVar ty ⟨g',off,none⟩).run P w=.ok v w->Zab st.h β V w d v->d :: us=ds->∃vs,((ResultVar.cell t ty :: l).mapM (m:=Sem) fun | .tmp t=>pure (a.tmps.getD t undef) | .cell c t=>do loadVar t (<- asAddr (a.tmps.getD c undef))).run P w=.ok vs w/\Zaa st.h β V w ds vs:=by
      intro d v al hd jg;subst jg;have cx:(do loadVar ty (<- asAddr (a.tmps.getD t undef)):Sem Value).run P w=.ok v w:=by simp[hv,asAddr,al]
      refine ⟨v :: vs,?_,by simp only[Zaa];exact ⟨_,_,rfl,hd,h2⟩⟩;rw[Ycv,Sem.run_bind,cx];simp only[Result.andThen_ok,Sem.run_bind,h1,Sem.run_pure]
     cases bw:i.agg with
     | true =>
      rw[bw] at h;simp only at h;cases c7:Nat.ble (off+i.size) cs.length with
      | false=>rw[c7] at h;cases h
      | true =>
       rw[c7] at h;simp only[cond_true] at h;injection h with h;have hle:=Yau c7;have hlen:=aU.len;refine fin _ (.agg ⟨List.take i.size (kt.drop off)⟩) (ZdP (hT ty i ht) bw (vs:=List.take i.size (kt.drop off)) (by simp;omega) (λk v hk=>?_)) (by simp only[Zab];exact ⟨_,rfl,(aU.drop off).take i.size⟩) h;rw[Zb8,cell_of_row w _ _ _ _ _ hg];have aB:k < i.size:=by have:=(Yac.1 hk).1;simp at this;omega
       rw[Yaw aB,YaT] at hk;simpa using hk
     | false =>
      rw[bw] at h;simp only at h;split at h
      ·rename_i d hd;injection h with h;obtain ⟨v,cF,cu⟩:=aU.get hd;refine fin d v (ZdO (hT ty i ht) bw ?_) cu h;rw[cell_of_row w _ _ _ _ _ hg];simpa using cF
      ·cases h
    ·cases h
   ·cases h
theorem Zcg (hT:TabOk P T) {st:St} {a:Act} {w:World} {C:Ctx} {β:Nat->Value} {V:Nat->Prop} (hr:RelD C st.h β V w) (he:ZbS st β V w a) {fn:Func} {ds:List D} (h:ZiU T st fn.results.toList=some ds) :
  ∃v,(results fn a.tmps).run P w=.ok v w/\Zaa st.h β V w [Zd6 ds] [v]:=by
 obtain ⟨vs,h1,h2⟩:=Zna hT hr he _ _ h;refine ⟨Zwo vs,?_,?_⟩
 ·unfold results;rw[Ycg];simp only[Sem.run_bind,Sem.run_map]
  erw[h1]
  simp only[Result.andThen_ok,Sem.run_pure]
  congr 1
  match vs with
  | []=>rfl
  | [v]=>rfl
  | _ :: _ :: _=>simp[Zwo]
 ·have hlen:=h2.len;simp only[Zaa];refine ⟨_,[],rfl,?_,rfl⟩
  match ds,vs,hlen with
  | [d],[v],_ =>simp only[Zaa] at h2;obtain ⟨v',us,e,h3,h4⟩:=h2;injection e with e1 e2;subst e1;exact h3
  | [],[],_=>simp only[Zd6,Zwo,Zab];exact ⟨[],rfl,by simp[Zaa]⟩
  | _ :: _ :: _,_ :: _ :: _,_=>simp only[Zd6,Zwo,Zab];exact ⟨_,rfl,h2⟩
theorem Zhq {G:Gl} {V:Nat->Prop} {w:World} (hV:∀k,V k->k < w.heap.size) (hG:Zis G V w):RelD ⟨w,λ_=>False,V,G⟩ [] (λ_=>undef) V w :=
 ⟨λi o h=>by simp at h,λi j o o' k h=>by simp at h,λi o k h=>by simp at h,λi o k h=>by simp at h,hV,λk hk=>hk,λk hk=>.inl hk,Fr.refl _ _,hG⟩
def ZyB (P:Program) (T:Tab) (F:FuncId->Bool) (G:Gl) (n:Nat) (K:Code->St->Post->Prop) (k:Nat):Code->St->Post->Prop :=
 Nat.rec (motive:=λ_=>Code->St->Post->Prop)
  (λc st Q=>match c with
   | .seq x y=>vc P T F G n x st (λe st'=>match e with | .normal=>Zer G n (λaw=>K y aw Q) st' | e=>Q e st')
   | _=>False)
  (λ_ next c st Q=>match c with
   | .seq x y=>vc P T F G n x st (λe st'=>match e with | .normal=>next y st' Q | e=>Q e st')
   | _=>False) k
def vcT (P:Program) (T:Tab) (F:FuncId->Bool) (G:Gl) (n:Nat) (l:List Nat):Code->St->Post->Prop :=
 List.rec (motive:=λ_=>Code->St->Post->Prop) (λc st Q=>vc P T F G n c st Q) (λk _ K c st Q=>ZyB P T F G n K k c st Q) l
def Zrq (P:Program) (n:Nat) (G:Gl) (K:Code->St->Post->Prop):Prop:=∀(c:Code) (S:List Nat),(∀k∈ZbK c,k < n)->(∀k∈ZbK c,inL S k=true)->∀(C:Ctx) (st:St) (a:Act) (w:World) (Q:Post),C.G=G->K c st Q->Rel C n st a w ->
  c.wp P (λe a' w'=>ZaL S a a'/\∃x st',Q x st'/\XOk e x st' a' w' C n) a w
theorem ZkS {n:Nat} {G:Gl} (hT:TabOk P T) (hF:∀g,F g=true->fnOk P g=true) (hM:P.follows .mixedOrders=true) {K:Code->St->Post->Prop} (hK:Zrq P n G K) {x y:Code} {S:List Nat} (hs:∀k∈ZbK (.seq x y),k < n) (hm:∀k∈ZbK (.seq x y),inL S k=true) {C:Ctx} {st:St} {a:Act} {w:World} {Q:Post} (hG:C.G=G)
  {J:St->Prop} (hJ:∀(st':St) (a':Act) (w':World),J st'->Rel C n st' a' w'->∃aw,Rel C n aw a' w'/\K y aw Q)
  (h:vc P T F G n x st (λe st'=>match e with | .normal=>J st' | e=>Q e st')) (hr:Rel C n st a w) :
  (Code.seq x y).wp P (λe a' w'=>ZaL S a a'/\∃x st',Q x st'/\XOk e x st' a' w' C n) a w:=by
 subst hG;simp only[ZbK,Yar] at hs hm;refine wp_seq (Code.wp_mono ?_ (ZfT hT hF hM x S (λk hk=>hs k (.inl hk)) (λk hk=>hm k (.inl hk)) C st a w _ h hr));rintro e a' w' ⟨hk,x',st',hq,hx⟩;cases e with
 | normal =>
  cases x'<;>try exact hx.elim
  obtain ⟨aw,ht,hq⟩:=hJ st' a' w' hq hx;refine Code.wp_mono ?_ (hK y S (λk hk=>hs k (.inr hk)) (λk hk=>hm k (.inr hk)) C aw a' w' Q rfl hq ht);rintro e uB bH ⟨ae,rest⟩;exact ⟨hk.trans ae,rest⟩
 | exit i=>cases x'<;>first | exact hx.elim | exact ⟨hk,_,st',hq,hx⟩
 | ret=>cases x'<;>first | exact hx.elim | exact ⟨hk,_,st',hq,hx⟩
 | panic ch=>cases x'<;>first | exact hx.elim | exact ⟨hk,_,st',hq,hx⟩
 | goto l=>cases x'<;>exact hx.elim
 | outgrown=>cases x'<;>exact hx.elim
theorem ZoT {n:Nat} {G:Gl} (hT:TabOk P T) (hF:∀g,F g=true->fnOk P g=true) (hM:P.follows .mixedOrders=true) {K:Code->St->Post->Prop} (hK:Zrq P n G K):∀k:Nat,Zrq P n G (ZyB P T F G n K k):=by
 intro k
 induction k with
 | zero =>
  intro c S hs hm C st a w Q hG h hr;cases c with
  | seq x y=>exact ZkS hT hF hM hK hs hm hG (J:=λst'=>Zer G n (λaw=>K y aw Q) st') (λst' a' w' hj aL=>by obtain ⟨aw,ht,hq⟩:=hj;exact ⟨aw,ht C a' w' hG aL,hq⟩) h hr
  | _=>exact h.elim
 | succ k ih =>
  intro c S hs hm C st a w Q hG h hr;cases c with
  | seq x y=>exact ZkS hT hF hM ih hs hm hG (J:=λst'=>ZyB P T F G n K k y st' Q) (λst' a' w' hj aL=>⟨st',aL,hj⟩) h hr
  | _=>exact h.elim
theorem Zrw {n:Nat} {G:Gl} (hT:TabOk P T) (hF:∀g,F g=true->fnOk P g=true) (hM:P.follows .mixedOrders=true):∀l:List Nat,Zrq P n G (vcT P T F G n l):=by
 intro l
 induction l with
 | nil=>intro c S hs hm C st a w Q hG h hr;subst hG;exact ZfT hT hF hM c S hs hm C st a w Q h hr
 | cons k l ih=>exact ZoT hT hF hM ih k
theorem ZmQ {n:Nat} (hT:TabOk P T) (hF:∀g,F g=true->fnOk P g=true) (hM:P.follows .mixedOrders=true) (c:Code) (l:List Nat) (S:List Nat) (hs:∀k∈ZbK c,k < n) (hm:∀k∈ZbK c,inL S k=true) (C:Ctx) (st:St) (a:Act) (w:World) (Q:Post) (h:vcT P T F C.G n l c st Q) (hr:Rel C n st a w) :
  c.wp P (λe a' w'=>ZaL S a a'/\∃x st',Q x st'/\XOk e x st' a' w' C n) a w:=Zrw hT hF hM l c S hs hm C st a w Q rfl h hr
theorem ZBj (tn:List Nat) (hT:TabOk P T) (hF:∀g,F g=true->fnOk P g=true) (hM:Mix P) {f:FuncId} {fn:Func} {c:Code} (hf:P.funcs[f]?=some fn) (hb:fn.body=some c) (N:Nat) (hN:fn.ntmps=N) (hs:Zhx N (ZbK c)=true) (rs:List ResultVar) (ca:fn.results.toList=rs)
  (args:List D) (bn:Nat.ble args.length N=true) (Q:Out->Prop) (h:vcT P T F G N tn c ⟨Zdz args,[],[]⟩ (Fin T rs Q)):CT P G f args Q:=by
 subst hN;subst ca;intro w V aa hV hG an;have hlen:=an.len;have bn:=Yau bn;refine calls_of_wp hf hb ?_;have dS:∀(ds:List D) (vs:List Value),Zaa [] (λ_=>undef) V w ds vs->∀i,Zab [] (λ_=>undef) V w (nth .any ds i) (vs.getD i undef):=by
  intro ds
  induction ds with
  | nil=>intro vs _ i;simp only[nth,Zab]
  | cons d ds ih =>
   intro vs h i;simp only[Zaa] at h;obtain ⟨v,us,rfl,h1,h2⟩:=h;cases i with
   | zero=>simpa [nth] using h1
   | succ i=>simpa [nth] using ih us h2 i
 have hr:Rel ⟨w,λ_=>False,V,G⟩ fn.ntmps ⟨Zdz args,[],[]⟩ { tmps:=(⟨aa⟩:Array Value)++Array.replicate (fn.ntmps - (⟨aa⟩:Array Value).size) undef,defers:=[] } w:=by
  refine ⟨by simp;omega,rfl,λ_=>undef,V,Zhq hV hG,λi=>?_⟩;have h1:=dS args aa an i;have h2:((⟨aa⟩:Array Value)++Array.replicate (fn.ntmps - (⟨aa⟩:Array Value).size) undef).getD i undef=aa.getD i undef:=by
   rw[Yao,YaG];by_cases hi:i < aa.length
   ·rw[Yba (by simpa using hi)];simp
   ·rw[Ybk (by simp;omega),Ya9 (by omega)];rw[Ya0];split<;>rfl
  rw[h2];exact h1
 have aG:=ZcA hs;refine Code.wp_mono ?_ (ZmQ hT hF hM.ok c tn (ZbK c) aG (λk hk=>ZbO.2 hk) ⟨w,λ_=>False,V,G⟩ _ _ w _ h hr);rintro e a' w' ⟨_,x,st',hq,hx⟩;have ret:∀{st':St},Rel ⟨w,λ_=>False,V,G⟩ fn.ntmps st' a' w'->(match ZiU T st' fn.results.toList with | some ds=>Zcd ds λds=>st'.df=[]/\Zby Q st'.h (Zd6 ds) | none=>False) ->
   a'.defers=[]/\∃v,(results fn a'.tmps).run P w'=.ok v w'/\ZpO G Q V w (.returned v) w':=by
  rintro st' ⟨_,bf,β,V',ab,he⟩ hq;cases bN:ZiU T st' fn.results.toList with
  | none=>rw[bN] at hq;exact hq.elim
  | some ds =>rw[bN] at hq;simp only[Zba] at hq;obtain ⟨gK,src,d',h',ht,hQ⟩:=hq;obtain ⟨v,cF,cu⟩:=Zcg hT ab he bN;obtain ⟨h1,h2⟩:=ht.use ab cu;simp only[Zaa] at h2;obtain ⟨v',us,e,h3,_⟩:=h2;injection e with e1 e2;subst e1;exact ⟨bf.trans gK,v,cF,d',h',_,_,hQ,h1,h3⟩
 cases e with
 | normal =>
  cases x<;>try exact hx.elim
  exact ret hx hq
 | ret =>
  cases x<;>try exact hx.elim
  exact ret hx hq
 | panic ch =>
  cases x<;>try exact hx.elim
  obtain ⟨t,u,oV,ah,bf,β,V',ab,he,hd⟩:=hx;obtain ⟨gK,d',ht,hQ⟩:=hq;obtain ⟨h1,h2⟩:=ht.use ab (vs:=[.iface t u]) (by simp only[Zaa];exact ⟨_,_,rfl,hd,rfl⟩);simp only[Zaa] at h2;obtain ⟨v',us,e,h3,_⟩:=h2;injection e with e1 e2;subst e1;exact ⟨bf.trans gK,d',t,u,_,_,oV,hQ,h1,h3⟩
 | exit i=>cases x<;>first | exact hx.elim | exact hq.elim
 | goto l=>cases x<;>exact hx.elim
 | outgrown=>cases x<;>exact hx.elim
theorem enter (hT:TabOk P T) (hF:∀g,F g=true->fnOk P g=true) (hM:Mix P) {f:FuncId} {fn:Func} {c:Code} (hf:P.funcs[f]?=some fn) (hb:fn.body=some c) (N:Nat) (hN:fn.ntmps=N) (hs:Zhx N (ZbK c)=true) (rs:List ResultVar) (ca:fn.results.toList=rs)
  (args:List D) (bn:Nat.ble args.length N=true) (Q:Out->Prop) (h:vc P T F G N c ⟨Zdz args,[],[]⟩ (Fin T rs Q)):CT P G f args Q :=
 ZBj [] hT hF hM hf hb N hN hs rs ca args bn Q h
def Ziz:Nat->List Nat->List D
 | _,[]=>[]
 | p,_ :: l=>.ptr p 0 :: Ziz (p+1) l
def ZfR (h:Zae):Nat->List Nat->Bool
 | _,[]=>true
 | p,_ :: l=>Zsf h p && ZfR h (p+1) l
def ZvP (h:Zae) (m p:Nat) (v:Value):Prop:=match h[m]? with
 | some (.many _ ts)=>(v,p)∈ts
 | _=>False
def ZkZ (h:Zae) (p:Nat):Prop:=match h[p]? with
 | some (.many _ _)=>True
 | _=>False
def Ziv (hin:Zae) (m:Nat):Nat->List (Option Value)->Prop
 | _,[]=>True
 | p,some v :: l=>ZvP hin m p v/\Ziv hin m (p+1) l
 | p,none :: l=>ZkZ hin p/\Ziv hin m (p+1) l
def Ztn (o o':Option Obj):Prop:=match o,o' with
 | some o,some o'=>OLe o o'/\o'.live=true
 | _,_=>False
def Zku (hin h':Zae) (m:Nat):Nat->List (Option Value)->Prop
 | _,[]=>True
 | p,some v :: l=>ZvP h' m p v/\Ztn hin[p]? h'[p]?/\Zku hin h' m (p+1) l
 | p,none :: l=>ZkZ h' p/\Zku hin h' m (p+1) l
def ZCA (h:Zae):Bool:=h.all λo=>match o with
 | .many _ ts=>ts.all λt=>match h[t.2]? with
  | some (.many _ _)=>false
  | _=>true
 | _=>true
def ToH (aq:List Nat) (hin:Zae) (m:Nat) (ck:List (Option Value)) (Q:D->Zae->Prop) (h:Zae) (env:Env) (d:D):Prop :=
 ∃src d' h',TurnTo h src (d :: aq.map env) h' (d' :: Ziz 0 aq)/\(ZfR h' 0 aq && ZCA h')=true/\Zku hin h' m aq.length ck/\Q d' h'
def ZCy (T:Tab) (G:Gl) (rs:List ResultVar) (aq:List Nat) (hin:Zae) (m:Nat) (ck:List (Option Value)) (Q:Out->Prop):Post
 | .normal,⟨env,h,df⟩ | .ret,⟨env,h,df⟩=>match ZiU T ⟨env,h,df⟩ rs with
  | some ds=>Zcd ds λds=>df=[]/\orS (ZdT h) (ToH aq hin m ck (λd h=>Q (.ret d h)) h env (Zd6 ds)) (ZaW G (Zd6 ds) h λd h=>ToH aq hin m ck (λd h=>Q (.ret d h)) h env d)
  | none=>False
 | .pan d,⟨env,h,df⟩=>df=[]/\orS (ZdT h) (ToH aq hin m ck (λd h=>Q (.panH d h)) h env d) (ZaW G d h λd h=>ToH aq hin m ck (λd h=>Q (.panH d h)) h env d)
 | .exit _,_=>False
theorem Zxx {C:Ctx} {h:Zae} {β:Nat->Value} {V:Nat->Prop} {w:World} (hr:RelD C h β V w) {m p:Nat} {v:Value} (ht:ZvP h m p v) {o:Obj} (ho:h[p]?=some o) (hl:o.live=true):β p=v:=by
 unfold ZvP at ht;split at ht
 ·rename_i l ts hm;obtain ⟨o',aP,hb⟩:=(hr.obj m _ hm).2.2 _ ht;rw[ho] at aP;injection aP with aP;subst aP;exact hb hl
 ·exact ht.elim
section
variable {C:Ctx} {h:Zae} {β γ:Nat->Value} {V:Nat->Prop} {w:World}
def Zoz (h:Zae) (i:Nat):Prop:=∀l ts,h[i]?≠some (.many l ts)
mutual
theorem Zab.reβ (hβ:∀i,Zoz h i->γ i=β i):∀(d:D) (v:Value),Zab h β V w d v->Zab h γ V w d v
 | .g x,v,hr=>by simp only[Zab] at hr ⊢;exact hr
 | .pb p,v,hr=>by simp only[Zab] at hr ⊢;exact hr
 | .pn p,v,hr=>by simp only[Zab] at hr ⊢;exact hr
 | .nils,v,hr=>by simp only[Zab] at hr ⊢;exact hr
 | .row i,v,hr=>by
  simp only[Zab] at hr ⊢;cases ho:h[i]? with
  | none=>rw[ho] at hr;exact hr.elim
  | some o=>rw[ho] at hr;cases o<;>first | exact hr | (simp only at hr ⊢;rw[hβ i (λl ts e=>by rw[ho] at e;cases e)];exact hr)
 | .rs i lo n,v,hr=>by
  simp only[Zab] at hr ⊢;cases ho:h[i]? with
  | none=>rw[ho] at hr;exact hr.elim
  | some o=>rw[ho] at hr;cases o<;>first | exact hr | (simp only at hr ⊢;rw[hβ i (λl ts e=>by rw[ho] at e;cases e)];exact hr)
 | .ptr i off,v,hr=>by
  simp only[Zab] at hr ⊢;cases ho:h[i]? with
  | none=>rw[ho] at hr;exact hr.elim
  | some o=>rw[ho] at hr;cases o<;>first | exact hr | (simp only at hr ⊢;rw[hβ i (λl ts e=>by rw[ho] at e;cases e)];exact hr)
 | .el i j off,v,hr=>by
  simp only[Zab] at hr ⊢;cases ho:h[i]? with
  | none=>rw[ho] at hr;exact hr.elim
  | some o=>rw[ho] at hr;cases o<;>first | exact hr | (simp only at hr ⊢;rw[hβ i (λl ts e=>by rw[ho] at e;cases e)];exact hr)
 | .fp r off,v,hr=>by simp only[Zab] at hr ⊢;exact hr
 | .nilP,v,hr=>by simp only[Zab] at hr ⊢;exact hr
 | .nilF,v,hr=>by simp only[Zab] at hr ⊢;exact hr
 | .nilI,v,hr=>by simp only[Zab] at hr ⊢;exact hr
 | .fn f fs cs,v,hr=>by simp only[Zab] at hr ⊢;obtain ⟨us,ts,hv,h1,h2⟩:=hr;exact ⟨us,ts,hv,Zaa.reβ hβ fs us h1,Zaa.reβ hβ cs ts h2⟩
 | .iface t x,v,hr=>by simp only[Zab] at hr ⊢;obtain ⟨u,hv,h1⟩:=hr;exact ⟨u,hv,Zab.reβ hβ x u h1⟩
 | .agg cs,v,hr=>by simp only[Zab] at hr ⊢;obtain ⟨us,hv,h1⟩:=hr;exact ⟨us,hv,Zaa.reβ hβ cs us h1⟩
 | .tuple cs,v,hr=>by simp only[Zab] at hr ⊢;obtain ⟨us,hv,h1⟩:=hr;exact ⟨us,hv,Zaa.reβ hβ cs us h1⟩
 | .any,v,hr=>by simp only[Zab]
theorem Zaa.reβ (hβ:∀i,Zoz h i->γ i=β i):∀(ds:List D) (vs:List Value),Zaa h β V w ds vs->Zaa h γ V w ds vs
 | [],vs,hr=>by simp only[Zaa] at hr ⊢;exact hr
 | d :: ds,vs,hr=>by simp only[Zaa] at hr ⊢;obtain ⟨v,us,hv,h1,h2⟩:=hr;exact ⟨v,us,hv,Zab.reβ hβ d v h1,Zaa.reβ hβ ds us h2⟩
end
theorem Zxs (hβ:∀i,Zoz h i->γ i=β i) {i:Nat} {o:Obj} (hi:h[i]?=some o) {k:Nat} (hk:Bk o (γ i) k):Bk o (β i) k:=by
 cases o with
 | many l ts=>exact hk
 | _=>rw[hβ i (λl ts e=>by rw[hi] at e;cases e)] at hk;exact hk
theorem RelD.reβ (hr:RelD C h β V w) (hb:ZCA h=true) (hβ:∀i,Zoz h i->γ i=β i):RelD C h γ V w:=by
 refine ⟨λi o hi=>?_,λi j o o' k hi hl hj bQ h1 h2=>hr.sep i j o o' k hi hl hj bQ (Zxs hβ hi h1) (Zxs hβ hj h2),λi o k hi hl hk=>hr.mine i o k hi hl (Zxs hβ hi hk),λi o k hi hl hk=>hr.vout i o k hi hl (Zxs hβ hi hk),hr.vlt,hr.vin,hr.vnew,hr.fr,hr.gl⟩;have ho:=hr.obj i o hi;cases o with
 | dead=>trivial
 | blk cs t =>obtain ⟨g,vs,h1,h2,h3⟩:=ho;exact ⟨g,vs,(hβ i (λl ts e=>by rw[hi] at e;cases e)).trans h1,h2,Zaa.reβ hβ _ _ h3⟩
 | row xs e sz =>obtain ⟨vs,h1,h2⟩:=ho;exact ⟨vs,by rw[hβ i (λl ts e=>by rw[hi] at e;cases e)];exact h1,h2⟩
 | many l ts =>refine ⟨ho.1,ho.2.1,λt ht=>?_⟩;obtain ⟨o',aP,au⟩:=ho.2.2 t ht;refine ⟨o',aP,λhl=>?_⟩;have h1:=Ybf.1 hb _ (YaL hi);have h2:=Ybf.1 h1 t ht;rw[aP] at h2;exact (hβ t.2 (λl ts e=>by rw[aP] at e;injection e with e;subst e;cases h2)).trans (au hl)
end
theorem ZkQ {C C':Ctx} {hin h':Zae} {β β':Nat->Value} {V V':Nat->Prop} {w w':World} (hr:RelD C hin β V w) (aL:RelD C' h' β' V' w') (hM:∀i,ZkZ h' i->β' i=β i) {m:Nat}:∀(l:List (Option Value)) (p:Nat),Ziv hin m p l->Zku hin h' m p l ->
  ∀i,i < l.length->Zox hin h' β β' (p+i)
 | [],p,_,_,i,hi=>by simp at hi
 | v :: l,p,ht,hs,i,hi=>by
  have next:∀i,Ziv hin m (p+1) l->Zku hin h' m (p+1) l->i+1 < (v :: l).length->Zox hin h' β β' (p+(i+1)):=λi a b hi=>by have:=ZkQ hr aL hM l (p+1) a b i (by simpa using hi);rwa [show p+1+i=p+(i+1) from by omega] at this
  cases v with
  | some v =>
   simp only[Ziv] at ht;simp only[Zku] at hs;cases i with
   | zero =>
    have h2:=hs.2.1;unfold Ztn at h2;split at h2
    ·rename_i o o' ho aP;exact ⟨⟨o,o',ho,aP,h2.1,h2.2⟩,(Zxx aL hs.1 aP h2.2).trans (Zxx hr ht.1 ho (ZmH h2.1 h2.2)).symm⟩
    ·exact h2.elim
   | succ i=>exact next i ht.2 hs.2.2 hi
  | none =>
   simp only[Ziv] at ht;simp only[Zku] at hs;cases i with
   | zero =>
    have hβ:=hM p hs.1;have h1:=ht.1;have h2:=hs.1;unfold ZkZ at h1 h2;split at h1
    ·rename_i l1 t1 e1;split at h2
     ·rename_i l2 t2 e2;exact ⟨⟨_,_,e1,e2,trivial,rfl⟩,hβ⟩
     ·exact h2.elim
    ·exact h1.elim
   | succ i=>exact next i ht.2 hs.2 hi
theorem Znm {h h':Zae} {β β':Nat->Value} {V V':Nat->Prop} {w w':World} (g:Nat->Value):∀(l:List Nat) (p:Nat),Zaa h β V w (Ziz p l) (l.map g)->Zaa h' β' V' w' (Ziz p l) (l.map g)->ZfR h p l=true->ZfR h' p l=true ->
  ∀i,i < l.length->Zsf h' (p+i)=true/\β' (p+i)=β (p+i)
 | [],p,_,_,_,_,i,hi=>by simp at hi
 | k :: l,p,hd,bF,hb,au,i,hi=>by
  simp only[ZfR,Yag] at hb au;simp only[Ziz,Yan,Zaa] at hd bF;obtain ⟨v,us,e,h1,h2⟩:=hd;obtain ⟨v',kt,e',ep,db⟩:=bF;injection e with e1 e2;injection e' with pw xW;subst e1;subst e2;subst pw;subst xW;cases i with
  | zero =>refine ⟨au.1,?_⟩;obtain ⟨cs,t,q⟩:=Zi0 hb.1;obtain ⟨cN,t',q'⟩:=Zi0 au.1;simp only[Zab,q,q'] at h1 ep;obtain ⟨a,ha,hv⟩:=h1;obtain ⟨a',o9,dh⟩:=ep;rw[hv] at dh;injection dh with dh;injection dh with dh;injection dh with dh;rw[Nat.add_zero,ha,o9,dh]
  | succ i =>have:=Znm g l (p+1) h2 db hb.2 au.2 i (by simpa using hi);rwa [show p+1+i=p+(i+1) from by omega] at this
theorem Zos {h:Zae}:∀(l:List Nat) (p:Nat),ZfR h p l=true->∀i,i < l.length->Zsf h (p+i)=true
 | [],p,_,i,hi=>by simp at hi
 | _ :: l,p,hb,i,hi=>by
  simp only[ZfR,Yag] at hb;cases i with
  | zero=>exact hb.1
  | succ i =>have:=Zos l (p+1) hb.2 i (by simpa using hi);rwa [show p+1+i=p+(i+1) from by omega] at this
theorem Zly {w w':World} {hin:Zae} {β:Nat->Value} {V:Nat->Prop} {aq:List Nat} {m:Nat} {ck:List (Option Value)} {a':Act} (dF:RelD ⟨w,ZiA hin β,V,G⟩ hin β V w) (lh:Ziv hin m aq.length ck) (kI:ZfR hin 0 aq=true) (h0:Zaa hin β V w (Ziz 0 aq) (aq.map λk=>a'.tmps.getD k undef)) :
  ∀{st':St} {β':Nat->Value} {V':Nat->Prop} {R:D->Zae->Prop} {d:D} {v:Value},RelD ⟨w,ZiA hin β,V,G⟩ st'.h β' V' w'->ZbS st' β' V' w' a'->Zab st'.h β' V' w' d v->orS (ZdT st'.h) (ToH aq hin m ck R st'.h st'.env d) (ZaW G d st'.h λd h=>ToH aq hin m ck R h st'.env d) ->
   ∃d' h' β'' V'',R d' h'/\RelD ⟨w,ZiA hin β,V,G⟩ h' β'' V'' w'/\Zab h' β'' V'' w' d' v/\∀i,i < aq.length+ck.length->Zox hin h' β β'' i:=by
 intro st' β' V' R d v ab he h3 hq;have wz:∃(d0:D) (h0:Zae) (β0:Nat->Value) (V0:Nat->Prop),ToH aq hin m ck R h0 st'.env d0/\RelD ⟨w,ZiA hin β,V,G⟩ h0 β0 V0 w'/\Zab h0 β0 V0 w' d0 v/\LeH st'.h β' h0 β0/\ZaI V' w' V0 w':=by
  rcases Zpe hq with hq | hq
  ·exact ⟨_,_,_,_,hq,ab,h3,LeH.refl _ _,ZaI.refl _ _⟩
  ·exact hq ⟨w,ZiA hin β,V,G⟩ w' β' V' v rfl ab h3
 obtain ⟨d0,xH,β0,V0,⟨src,d',h',ht,bm,aZ,hQ⟩,lD,rU,rr,rf⟩:=wz;have mI:Zaa xH β0 V0 w' (d0 :: aq.map st'.env) (v :: aq.map λk=>a'.tmps.getD k undef):=by simp only[Zaa];exact ⟨_,_,rfl,rU,(Zaa.at_map st'.env _ aq).2 (λk _=>Zab.mono rr rf _ _ (he k))⟩
 obtain ⟨h1,h2⟩:=ht.use lD mI;simp only[Zaa] at h2;obtain ⟨v',us,e,h3,h4⟩:=h2;injection e with e1 e2;subst e1;subst e2;simp only[Yag] at bm;obtain ⟨bm,pC⟩:=bm;have hγ:∃γ:Nat->Value,(∀i,Zoz h' i->γ i=Zbd src β0 i)/\∀i,ZkZ h' i->γ i=β i:=by
  refine ⟨λi=>match h'[i]? with | some (.many _ _)=>β i | _=>Zbd src β0 i,λi hn=>?_,λi hm=>?_⟩
  ·dsimp only;split
   ·rename_i l ts e;exact absurd e (hn l ts)
   ·rfl
  ·unfold ZkZ at hm;dsimp only;split
   ·rfl
   ·rename_i aC;split at hm
    ·rename_i l ts e;exact absurd e (aC l ts)
    ·exact hm.elim
 obtain ⟨γ,hγ1,hγ2⟩:=hγ;refine ⟨d',h',γ,_,hQ,h1.reβ pC hγ1,Zab.reβ hγ1 _ _ h3,λi hi=>?_⟩;by_cases pT:i < aq.length
 ·have:=Znm _ aq 0 h0 h4 kI bm i pT;rw[YaA] at this;obtain ⟨cN,t',q'⟩:=Zi0 this.1;have cP:Zsf hin i=true:=by have:=Zos aq 0 kI i pT;rwa [YaA] at this
  obtain ⟨cs,t,q⟩:=Zi0 cP;exact ⟨⟨_,_,q,q',trivial,rfl⟩,(hγ1 i (λl ts e=>by rw[q'] at e;cases e)).trans this.2⟩
 ·have:=ZkQ dF (h1.reβ pC hγ1) hγ2 ck aq.length lh aZ (i - aq.length) (by omega);rwa [show aq.length+(i - aq.length)=i from by omega] at this
theorem ZzD (hT:TabOk P T) {fn:Func} {c:Code} (N:Nat) (hN:fn.ntmps=N) (hs:Zhx N (ZbK c)=true) (rs:List ResultVar) (ca:fn.results.toList=rs)
  (args:List D) (bn:Nat.ble args.length N=true) (hin:Zae) (aq:List Nat) (n6:aq.map (Zdz args)=Ziz 0 aq) (kI:ZfR hin 0 aq=true) (lI:aq.all (λk=>!inL (ZbK c) k)=true)
  (m:Nat) (ck:List (Option Value)) (lh:Ziv hin m aq.length ck) (Q:Out->Prop) (qB:∀(C:Ctx) (a:Act) (w:World),C.G=G->Rel C N ⟨Zdz args,hin,[]⟩ a w->c.wp P (λe a' w'=>ZaL (ZbK c) a a'/\∃x st',ZCy T G rs aq hin m ck Q x st'/\XOk e x st' a' w' C N) a w) :
  ∀(w:World) (β:Nat->Value) (V:Nat->Prop) (aa:List Value),RelD ⟨w,ZiA hin β,V,G⟩ hin β V w->Zaa hin β V w args aa ->
   c.wp P (bodyPost P fn (Zxo G Q (aq.length+ck.length) hin β V w)) { tmps:=(⟨aa⟩:Array Value)++Array.replicate (fn.ntmps - (⟨aa⟩:Array Value).size) undef,defers:=[] } w:=by
 subst hN;subst ca;intro w β V aa dF an;have hlen:=an.len;have bn:=Yau bn;have dS:∀(ds:List D) (vs:List Value),Zaa hin β V w ds vs->∀i,Zab hin β V w (nth .any ds i) (vs.getD i undef):=by
  intro ds
  induction ds with
  | nil=>intro vs _ i;simp only[nth,Zab]
  | cons d ds ih =>
   intro vs h i;simp only[Zaa] at h;obtain ⟨v,us,rfl,h1,h2⟩:=h;cases i with
   | zero=>simpa [nth] using h1
   | succ i=>simpa [nth] using ih us h2 i
 have oJ:∀i,Zab hin β V w (Zdz args i) (((⟨aa⟩:Array Value)++Array.replicate (fn.ntmps - (⟨aa⟩:Array Value).size) undef).getD i undef):=by
  intro i;have h1:=dS args aa an i;have h2:((⟨aa⟩:Array Value)++Array.replicate (fn.ntmps - (⟨aa⟩:Array Value).size) undef).getD i undef=aa.getD i undef:=by
   rw[Yao,YaG];by_cases hi:i < aa.length
   ·rw[Yba (by simpa using hi)];simp
   ·rw[Ybk (by simp;omega),Ya9 (by omega)];rw[Ya0];split<;>rfl
  rw[h2];exact h1
 have hr:Rel ⟨w,ZiA hin β,V,G⟩ fn.ntmps ⟨Zdz args,hin,[]⟩ { tmps:=(⟨aa⟩:Array Value)++Array.replicate (fn.ntmps - (⟨aa⟩:Array Value).size) undef,defers:=[] } w :=
  ⟨by simp;omega,rfl,β,V,dF,oJ⟩
 have aG:=ZcA hs;refine Code.wp_mono ?_ (qB ⟨w,ZiA hin β,V,G⟩ _ w rfl hr);rintro e a' w' ⟨aH,x,st',hq,hx⟩;have h0:Zaa hin β V w (Ziz 0 aq) (aq.map λk=>a'.tmps.getD k undef):=by
  rw[<- n6,YbT (g:=λk=>((⟨aa⟩:Array Value)++Array.replicate (fn.ntmps - (⟨aa⟩:Array Value).size) undef).getD k undef) (λk hk=>aH k (by
   have:=Ybf.1 lI k hk;simpa using this))]
  exact (Zaa.at_map (Zdz args) _ aq).2 (λk _=>oJ k)
 have fin:=@Zly G w w' hin β V aq m ck a' dF lh kI h0;have ret:∀{st':St},Rel ⟨w,ZiA hin β,V,G⟩ fn.ntmps st' a' w'->(match ZiU T st' fn.results.toList with | some ds=>Zcd ds λds=>st'.df=[]/\orS (ZdT st'.h) (ToH aq hin m ck (λd h=>Q (.ret d h)) st'.h st'.env (Zd6 ds)) (ZaW G (Zd6 ds) st'.h λd h=>ToH aq hin m ck (λd h=>Q (.ret d h)) h st'.env d) | none=>False) ->
   a'.defers=[]/\∃v,(results fn a'.tmps).run P w'=.ok v w'/\Zxo G Q (aq.length+ck.length) hin β V w (.returned v) w':=by
  rintro st' ⟨_,bf,β',V',ab,he⟩ hq;cases bN:ZiU T st' fn.results.toList with
  | none=>rw[bN] at hq;exact hq.elim
  | some ds =>rw[bN] at hq;simp only[Zba] at hq;obtain ⟨gK,hq⟩:=hq;obtain ⟨v,cF,cu⟩:=Zcg hT ab he bN;simp only[Zaa] at cu;obtain ⟨v',us,e,h3,_⟩:=cu;injection e with e1 e2;subst e1;exact ⟨bf.trans gK,v,cF,fin ab he h3 hq⟩
 cases e with
 | normal =>
  cases x<;>try exact hx.elim
  exact ret hx hq
 | ret =>
  cases x<;>try exact hx.elim
  exact ret hx hq
 | panic ch =>
  cases x<;>try exact hx.elim
  obtain ⟨t,u,oV,ah,bf,β',V',ab,he,hd⟩:=hx;obtain ⟨gK,hq⟩:=hq;obtain ⟨d',h',β'',V'',q1,q2,q3,q4⟩:=fin ab he hd hq;exact ⟨bf.trans gK,d',h',t,u,β'',V'',oV,q1,q2,q3,q4⟩
 | exit i=>cases x<;>first | exact hx.elim | exact hq.elim
 | goto l=>cases x<;>exact hx.elim
 | outgrown=>cases x<;>exact hx.elim
theorem ZzE (hT:TabOk P T) {f:FuncId} {fn:Func} {c:Code} (hf:P.funcs[f]?=some fn) (hb:fn.body=some c) (N:Nat) (hN:fn.ntmps=N) (hs:Zhx N (ZbK c)=true) (rs:List ResultVar) (ca:fn.results.toList=rs)
  (args:List D) (bn:Nat.ble args.length N=true) (hin:Zae) (aq:List Nat) (n6:aq.map (Zdz args)=Ziz 0 aq) (kI:ZfR hin 0 aq=true) (lI:aq.all (λk=>!inL (ZbK c) k)=true)
  (m:Nat) (ck:List (Option Value)) (lh:Ziv hin m aq.length ck) (Q:Out->Prop) (qB:∀(C:Ctx) (a:Act) (w:World),C.G=G->Rel C N ⟨Zdz args,hin,[]⟩ a w->c.wp P (λe a' w'=>ZaL (ZbK c) a a'/\∃x st',ZCy T G rs aq hin m ck Q x st'/\XOk e x st' a' w' C N) a w):CTH P G f (aq.length+ck.length) hin args Q :=
 λw β V aa dF an=>calls_of_wp hf hb (ZzD hT N hN hs rs ca args bn hin aq n6 kI lI m ck lh Q qB w β V aa dF an)
theorem Za4 (tn:List Nat) (hT:TabOk P T) (hF:∀g,F g=true->fnOk P g=true) (hM:Mix P) {f:FuncId} {fn:Func} {c:Code} (hf:P.funcs[f]?=some fn) (hb:fn.body=some c) (N:Nat) (hN:fn.ntmps=N) (hs:Zhx N (ZbK c)=true) (rs:List ResultVar) (ca:fn.results.toList=rs)
  (args:List D) (bn:Nat.ble args.length N=true) (hin:Zae) (aq:List Nat) (n6:aq.map (Zdz args)=Ziz 0 aq) (kI:ZfR hin 0 aq=true) (lI:aq.all (λk=>!inL (ZbK c) k)=true)
  (m:Nat) (ck:List (Option Value)) (lh:Ziv hin m aq.length ck) (Q:Out->Prop) (h:vcT P T F G N tn c ⟨Zdz args,hin,[]⟩ (ZCy T G rs aq hin m ck Q)):CTH P G f (aq.length+ck.length) hin args Q:=by subst hN;refine ZzE hT hf hb fn.ntmps rfl hs rs ca args bn hin aq n6 kI lI m ck lh Q (λC a w hG hr=>?_);subst hG;exact ZmQ hT hF hM.ok c tn (ZbK c) (ZcA hs) (λk hk=>ZbO.2 hk) C _ a w _ h hr
theorem ZCt {g:FuncId} {all:List D} {h:Zae} {K Qp:KD} {hin:Zae} {as:List D} {Q:Out->Prop} {b:Nat} (σ:List Nat) (hg:fnOk P g=true) (bt:ZgK h σ all=true) (bm:Nat.ble b σ.length=true) (ht:TurnTo h (σ.map .old) all hin as) (hc:CTH P G g b hin as Q)
  (hk:∀d h',Q (.ret d h')->K (rnD (rnI σ b h.length) 4 d) (Ziy h σ b h')) (hp:∀d h',Q (.panH d h')->Qp (rnD (rnI σ b h.length) 4 d) (Ziy h σ b h')):fnOk P g=true/\Zdh P G g all h K Qp :=
 ⟨hg,σ,b,hin,as,Q,bt,bm,ht,hc,hk,hp⟩
theorem ZbN {h:Zae} {x d:D} (hl:conv h [] 4 x=d\/ZiI (ZjJ []) 4 (conv h [] 4 x) d):Zby (Is d) h x :=
 ⟨[],d,[],⟨rfl,.inl rfl,by rcases hl with rfl | hl;exact .inl rfl;exact .inr ⟨hl,trivial⟩,rfl⟩,rfl⟩
theorem ZB2 {Q:Out->Prop} {h:Zae} {x:D} (d:D) (hl:conv h [] 4 x=d\/ZiI (ZjJ []) 4 (conv h [] 4 x) d) (q:Q (.ret d [])):Zby Q h x :=
 ⟨[],d,[],⟨rfl,.inl rfl,by rcases hl with rfl | hl;exact .inl rfl;exact .inr ⟨hl,trivial⟩,rfl⟩,q⟩
theorem Zp6 {h:Zae} {p q:Prop} (e:p↔q):Zby (Is (.pb q)) h (.pb p):=ZbN (.inr (.inr e))
theorem Zy0 {h:Zae} {p q:Prop} (e:¬p↔q):Zby (Is (.pb q)) h (.pn p):=ZbN (.inr (.inr e))
theorem ZCD {h:Zae} {b:Bool} {q:Prop} (e:b=true↔q):Zby (Is (.pb q)) h (.g (.bool b)):=ZbN (.inr (.inr e))
theorem ZCC {h:Zae} {q:Prop} (e:q):Zby (Is (.pb q)) h (.g (.bool true)):=ZCD ⟨λ_=>e,λ_=>rfl⟩
theorem Zvw {h:Zae} {q:Prop} (e:¬q):Zby (Is (.pb q)) h (.g (.bool false)):=ZCD ⟨λh=>absurd h (by decide),λh=>absurd h e⟩
theorem Zb2 {h:Zae} {a b:Int} (e:a=b):Zby (Is (.g (.int b))) h (.g (.int a)):=by subst e;exact ZbN (.inl rfl)
theorem retS {h:Zae} {a b:List UInt8} (e:a=b):Zby (Is (.g (.str b))) h (.g (.str a)):=by subst e;exact ZbN (.inl rfl)
theorem ZtI {Q:Out->Prop} {h:Zae} {i:Nat} {xs ys:List (List GV)} {e sz:Nat} (hi:h[i]?=some (.row xs e sz)) (hx:xs=ys) (q:Q (.ret (.row 0) [.row ys e sz])):Zby Q h (.row i):=by
 subst hx;have aH:kp [.old i] 0 i=some 0:=by simp[kp]
 refine ⟨[.old i],.row 0,[.row xs e sz],⟨rfl,.inl ?_,.inl ?_,rfl⟩,q⟩
 ·simp only[ZbW,Yan,YaI,Zbn,hi]
 ·simp only[Yan,YaI,conv,aH]
theorem ZC3 {Q:Out->Prop} {h:Zae} {x:D} (d:D) (hl:conv h [] 4 x=d) (q:Q (.pan d)):Zoy Q h x :=
 ⟨d,⟨rfl,.inl rfl,.inl (by rw[<- hl];rfl),rfl⟩,q⟩
theorem Zad {g:FuncId} {ds as:List D} {d:D} {K:D->Zae->Prop} {Kp:D->Prop} (hl:Ze0 ds as) (hc:CT P G g as (Is d)) (hk:K d []) :
  ∃as Q,Ze0 ds as/\CT P G g as Q/\(∀d h',Q (.ret d h')->K d h')/\(∀d,Q (.pan d)->Kp d) :=
 ⟨as,Is d,hl,hc,λd' h' hq=>by injection hq with e1 e2;subst e1;subst e2;exact hk,λd' hq=>by cases hq⟩
theorem ZCs {g:FuncId} {ds as:List D} {Q:Out->Prop} {K:D->Zae->Prop} {Kp:D->Prop} (hl:Ze0 ds as) (hc:CT P G g as Q) (hk:∀d h',Q (.ret d h')->K d h') (hp:∀d,Q (.pan d)->Kp d) :
  ∃as Q,Ze0 ds as/\CT P G g as Q/\(∀d h',Q (.ret d h')->K d h')/\(∀d,Q (.pan d)->Kp d) :=
 ⟨as,Q,hl,hc,hk,hp⟩
theorem gm {α β:Type} {f:α->β} {l:List α} {i:Nat} (h:i < l.length):(l.map f)[i]?=some (f l[i]):=by simp[h]
theorem ge {α:Type} {l:List α} {i:Nat} (h:i < l.length):l[i]?=some l[i]:=by simp[h]
theorem ZaJ {α:Type} {l:List α} {i:Nat} (h:i < l.length):l.take (i+1)=l.take i++[l[i]]:=Yb2 h
end
end Go.Dm
namespace Go.Dm
open Go Go.Eng Go.RowKit Go.ChangeShapes Go.WideShapes Go.Deep
def ZbF (P:Program):Nat->TypeId->GV->Prop
 | 0,_,_=>False
 | f+1,t,g=>match P.underlying t with
  | some (.int .i64)=>∃n,g=.int n/\-9223372036854775808<=n/\n<=9223372036854775807
  | some .string=>∃l,g=.str l/\l.length<=reachBytes
  | some .bool=>∃b,g=.bool b
  | some (.slice e)=>∃xs,g=.sl (P.cellsOf e) xs/\xs.length*P.bytesOf e<=reachBytes/\∀r∈xs,match P.underlying e with
   | some (.struct fs)=>r.length=fs.size/\∀(i:Nat) (fd:Field) (g:GV),fs[i]?=some fd->r[i]?=some g->ZbF P f fd.type g
   | _=>∃g,r=[g]/\ZbF P f e g
  | _=>False
def Zdr (P:Program) (f:Nat) (t:TypeId) (r:List GV):Prop:=match P.underlying t with
 | some (.struct fs)=>r.length=fs.size/\∀(i:Nat) (fd:Field) (g:GV),fs[i]?=some fd->r[i]?=some g->ZbF P f fd.type g
 | _=>∃g,r=[g]/\ZbF P f t g
def Zpc (P:Program) (S:List TypeId) (t:TypeId):Bool :=
 match P.underlying t with
 | some (.int k)=>decide (k=.i64) && P.cellsOf t == 1
 | some .string=>P.cellsOf t == 1
 | some .bool=>P.cellsOf t == 1
 | some (.slice e)=>S.contains e && P.cellsOf t == 1 && !(P.cellsOf e == 0)
 | some (.struct fs)=>oneCellFields P fs && P.cellsOf t == fs.size && fs.toList.all λf=>S.contains f.type && !(match P.underlying f.type with | some (.struct _)=>true | _=>false)
 | _=>false
def Zg6 (P:Program) (S:List TypeId):Bool:=S.all (Zpc P S)
theorem Zgs {H:Type} {P:Program} {e:TypeId}:∀{l:List (DataW H)} {d:DataW H} {n:Nat},d∈l->n∈d.weights P e->n∈DataW.weightsAll P e l
 | [],_,_,h,_=>by simp at h
 | x :: l,d,n,h,hn=>by
  simp only[DataW.weightsAll,Yar];rcases Yav.1 h with rfl | h
  ·exact .inl hn
  ·exact .inr (Zgs h hn)
theorem Zfz {H:Type} {P:Program}:∀{ts:List TypeId} {l:List (DataW H)} {i:Nat} {t:TypeId} {d:DataW H} {n:Nat},ts[i]?=some t->l[i]?=some d->n∈d.weights P t->n∈DataW.weightsEach P ts l
 | [],_,i,_,_,_,h,_,_=>by simp at h
 | _ :: _,[],i,_,_,_,_,h,_=>by simp at h
 | t :: ts,x :: l,0,_,_,n,h,h',hn=>by simp at h h';subst h;subst h';simp only[DataW.weightsEach,Yar];exact .inl hn
 | t :: ts,x :: l,i+1,_,_,n,h,h',hn=>by simp only[DataW.weightsEach,Yar];exact .inr (Zfz (i:=i) (by simpa using h) (by simpa using h') hn)
theorem Zbg.one {V:Nat->Prop} {w:World} {g:GV} {v:Value} (h:ZaS V w g v):Zbg V w [g] [v]:=⟨h,trivial⟩
theorem ZtN {V:Nat->Prop} {w:World}:∀(cs:List Value) (f:Nat->Value->GV->Prop),(∀(i:Nat) (v:Value),cs[i]?=some v->∃g,f i v g/\ZaS V w g v)->∃gs,Zbg V w gs cs/\gs.length=cs.length/\∀(i:Nat) (v:Value) (g:GV),cs[i]?=some v->gs[i]?=some g->f i v g
 | [],_,_=>⟨[],trivial,rfl,λi v g h=>by simp at h⟩
 | c :: cs,f,h=>by
  obtain ⟨g,hf,hg⟩:=h 0 c rfl;obtain ⟨gs,h1,h2,h3⟩:=ZtN cs (λi=>f (i+1)) (λi v hi=>h (i+1) v (by simpa using hi));refine ⟨g :: gs,⟨hg,h1⟩,by simp[h2],λi v g' hi iZ=>?_⟩;cases i with
  | zero=>simp at hi iZ;subst hi;subst iZ;exact hf
  | succ i=>exact h3 i v g' (by simpa using hi) (by simpa using iZ)
theorem ZoK {P:Program}:∀(f:Nat) (t:TypeId) (g:GV),ZbF P f t g->ZbF P (f+1) t g:=by
 intro f
 induction f with
 | zero=>intro t g h;exact h.elim
 | succ f ih =>
  intro t g h;unfold ZbF at h ⊢;split at h
  ·exact h
  ·exact h
  ·exact h
  ·obtain ⟨xs,rfl,hl,hx⟩:=h;refine ⟨xs,rfl,hl,λr hr=>?_⟩;have:=hx r hr;split at this
   ·exact ⟨this.1,λi fd g hi hg=>ih _ _ (this.2 i fd g hi hg)⟩
   ·obtain ⟨g,rfl,hg⟩:=this;exact ⟨g,rfl,ih _ _ hg⟩
  ·exact h.elim
section
variable {H:Type} {enc:TypeId × Value->H} {P:Program} {w:World}
theorem Zo6 {S:List TypeId} (hS:Zg6 P S=true):∀(fuel:Nat) (t:TypeId) (cs:List Value) (x:DataW H × List MemPlace),t∈S->(∀n∈x.1.weights P t,n<=reachBytes)->DataW.trod enc P w 0 (λ_=>true) true fuel t cs=some x ->
  ∃gs,Zdr P fuel t gs/\Zbg (λk=>k < w.heap.size) w gs cs:=by
 intro fuel
 induction fuel with
 | zero=>intro t cs x _ _ h;simp[DataW.trod] at h
 | succ n ih =>
  intro t cs x ht fY h;have hp:=Ybf.1 hS t ht;unfold Zpc at hp;unfold Zdr;split at hp
  ·rename_i k hu;simp only[Yag,decide_eq_true_eq] at hp;obtain ⟨rfl,_⟩:=hp;obtain ⟨m,rfl,_,vm⟩:=DataW.trod_int hu h;rw[hu];have hb:-9223372036854775808<=m/\m<=9223372036854775807:=by simpa [Lit.wf,IntKind.min,IntKind.max,IntKind.signed,IntKind.bits] using vm
   exact ⟨[.int m],⟨.int m,rfl,by simp only[ZbF,hu];exact ⟨m,rfl,hb⟩⟩,Zbg.one (by simp[ZaS])⟩
  ·rename_i hu;obtain ⟨s,rfl,hx,_⟩:=DataW.trod_string hu h;have hs:s.data.toList.length<=reachBytes:=fY _ (by rw[hx];simp[DataW.weights]);rw[hu];exact ⟨[.str s.data.toList],⟨_,rfl,by simp only[ZbF,hu];exact ⟨_,rfl,hs⟩⟩,Zbg.one (by simp[ZaS])⟩
  ·rename_i hu;obtain ⟨b,rfl,_⟩:=DataW.trod_bool hu h;rw[hu];exact ⟨[.bool b],⟨_,rfl,by simp only[ZbF,hu];exact ⟨_,rfl⟩⟩,Zbg.one (by simp[ZaS])⟩
  ·rename_i e hu;simp only[Yag,YaS,beq_iff_eq,beq_eq_false_iff_ne] at hp;obtain ⟨⟨ke,_⟩,aC⟩:=hp;have ke:e∈S:=by simpa using ke
   rw[hu];rcases DataW.trod_slice hu h with ⟨rfl,_⟩ | ⟨a,len,cap,elems,rest,n',mb,rfl,rfl,_,rv,iu,gn,eU,_,_⟩
   ·refine ⟨[.sl (P.cellsOf e) []],⟨_,rfl,?_⟩,Zbg.one ?_⟩
    ·simp only[ZbF,hu];exact ⟨[],rfl,by simp,λr hr=>by simp at hr⟩
    ·simp only[ZaS];exact ⟨none,0,rfl,Yas _,λh=>by simp at h,λ_=>rfl⟩
   ·injection mb with mb;subst mb;simp only[DataW.weights,hu,Yav,Yar,forall_eq_or_imp,Yaa] at fY;have key:∀i,i < len->∃gs cN,Zdr P n e gs/\Zbg (λk=>k < w.heap.size) w gs cN/\cN.length=P.cellsOf e/\∀j v,cN[j]?=some v->w.cell? ((a.add (i*P.cellsOf e)).add j)=some v:=by
     intro i hi;have hc:=eU i hi;rw[Yak (by omega)] at hc;obtain ⟨cN,aU,vB⟩:=Option.bind_eq_some_iff.1 hc;obtain ⟨_,hl,ek⟩:=World.cells?_some aU;obtain ⟨gs,pX,ma⟩:=ih e cN _ ke (λn hn=>fY.2 n (.inl (Zgs (YaU.2 ⟨_,Yai _,rfl⟩) hn))) vB;refine ⟨gs,cN,pX,ma,hl,λj v hj=>?_⟩;have aD:j < P.cellsOf e:=by rw[<- hl];exact (Yac.1 hj).1
     rw[ek j aD,hj]
    have build:∀(m k:Nat),k+m<=len->∃xs:List (List GV),xs.length=m/\(∀r∈xs,Zdr P n e r)/\ZaB (λk=>k < w.heap.size) w (P.cellsOf e) a k xs:=by
     intro m
     induction m with
     | zero=>intro k _;exact ⟨[],rfl,λr hr=>by simp at hr,by simp[ZaB]⟩
     | succ m jP =>
      intro k hk;obtain ⟨xs,h1,h2,h3⟩:=jP (k+1) (by omega);obtain ⟨gs,cN,g1,g2,g3,g4⟩:=key k (by omega);refine ⟨gs :: xs,by simp[h1],λr hr=>?_,?_⟩
      ·rcases Yav.1 hr with rfl | hr
       ·exact g1
       ·exact h2 r hr
      ·simp only[ZaB];have qq:∀(gs:List GV) (cs:List Value) (i:Nat),Zbg (λk=>k < w.heap.size) w gs cs->(∀j v,cs[j]?=some v->w.cell? ((a.add (k*P.cellsOf e)).add (i+j))=some v)->gs.length=cs.length/\Zav (λk=>k < w.heap.size) w a (k*P.cellsOf e+i) gs:=by
        intro gs
        induction gs with
        | nil=>intro cs i hr _;cases cs with | nil=>exact ⟨rfl,by simp[Zav]⟩ | cons c cs=>exact hr.elim
        | cons g gs u7 =>
         intro cs i hr hc;cases cs with
         | nil=>exact hr.elim
         | cons c cs =>
          obtain ⟨hl,aF⟩:=u7 cs (i+1) hr.2 (λj v hj=>by
           have:=hc (j+1) v (by simpa using hj);rwa [show i+(j+1)=i+1+j from by omega] at this)
          refine ⟨by simp[hl],?_⟩;simp only[Zav];refine ⟨⟨c,?_,hr.1⟩,by rwa [show k*P.cellsOf e+i+1=k*P.cellsOf e+(i+1) from by omega]⟩;have:=hc 0 c rfl;rwa [ZgP,Nat.add_zero] at this
       obtain ⟨hl,aF⟩:=qq gs cN 0 g2 (λj v hj=>by rw[YaA];exact g4 j v hj);exact ⟨⟨by omega,by simpa using aF⟩,h3⟩
    obtain ⟨xs,cS,fq,vl⟩:=build len 0 (by omega);refine ⟨[.sl (P.cellsOf e) xs],⟨_,rfl,?_⟩,Zbg.one ?_⟩
    ·simp only[ZbF,hu];exact ⟨xs,rfl,by rw[cS,<- gn];exact YaC (YaJ _ (Nat.le_add_right _ _)) fY.1,λr hr=>fq r hr⟩
    ·simp only[ZaS];refine ⟨some a,cap,by rw[cS],by omega,λh0=>⟨a,rfl,?_,vl⟩,λe=>(by cases e)⟩;obtain ⟨gs,cN,_,_,hl,ek⟩:=key 0 (by omega);have h1:cN[0]?=some (cN[0]'(by omega)):=Yak (by omega);have:=World.block_lt_of_cell? w _ (ek 0 _ h1);rwa [ZfS,ZfS] at this
  ·rename_i fs hu;simp only[Yag,beq_iff_eq] at hp;obtain ⟨⟨cx,ah⟩,av⟩:=hp;obtain ⟨ys,n',mb,rfl,hlen,gQ,hf⟩:=DataW.trod_struct hu h;injection mb with mb;subst mb;simp only[DataW.weights,hu] at fY;rw[hu];have bt:cs.length=fs.size:=hlen.trans ah;obtain ⟨gs,h1,h2,h3⟩:=ZtN (V:=λk=>k < w.heap.size) (w:=w) cs (λi v g=>∀fd,fs[i]?=some fd->ZbF P (n+1) fd.type g) (by
    intro i v hi;have az:i < fs.size:=by rw[<- bt];exact (Yac.1 hi).1
    obtain ⟨fd,im⟩:∃fd,fs[i]?=some fd:=⟨fs[i],YaD az⟩;obtain ⟨ho,hk⟩:=hone_of cx i fd im;have jS:=hf i fd im;rw[ho,hk] at jS;have xE:(cs.drop i).take 1=[v]:=by obtain ⟨rG,he⟩:=Yac.1 hi;rw[Ybi rG,he];rfl
    rw[xE,Yak (by omega)] at jS;have gI:=Ybf.1 av fd (by rw[YaQ] at im;obtain ⟨hh,he⟩:=im;rw[<- he];simp);simp only[Yag,YaS] at gI;have qZ:∀cQ,P.underlying fd.type≠some (.struct cQ):=λcQ e=>by rw[e] at gI;exact absurd gI.2 (by simp)
    obtain ⟨gs,hg,hr⟩:=ih fd.type [v] _ (by simpa using gI.1) (λn hn=>fY n (Zfz (i:=i) (t:=fd.type) (by rw[YaE,Array.getElem?_toList,im];rfl) (by rw[YaE,Yak (by omega)];rfl) hn)) jS;unfold Zdr at hg;split at hg
    ·rename_i cQ qD;exact absurd qD (qZ cQ)
    ·obtain ⟨g,rfl,hg⟩:=hg;refine ⟨g,λyJ oG=>?_,hr.1⟩;rw[im] at oG;injection oG with e;subst e;exact ZoK _ _ _ hg)
   exact ⟨gs,⟨by rw[h2,bt],λi fd g hi hg=>by
    have az:i < cs.length:=by rw[bt];exact (YaQ.1 hi).1
    exact h3 i _ g (Yak az) hg fd hi⟩,h1⟩
  ·cases hp
end
attribute [irreducible] ZbF Zdr
end Go.Dm
