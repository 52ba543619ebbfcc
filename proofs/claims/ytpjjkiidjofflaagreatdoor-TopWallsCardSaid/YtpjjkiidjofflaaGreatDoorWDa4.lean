import Derived.Test.YtpjjkiidjofflaaGreatDoorWDa3
import Derived.ChangeArms
import Derived.Deep.Fields
import Derived.ProofKit
namespace Go.Dm
open Go Go.Eng Go.RowKit
def vc (P:Program) (T:Tab) (F:FuncId->Bool) (G:Gl) (n:Nat):Code->St->Post->Prop
 | .skip,st,Q=>Q .normal st
 | .region _ ops false,st,Q=>ZxU P T F G ops (Q .normal) Q ops.toList st
 | .region _ ops true,⟨env,h,df⟩,Q=>∃pp:Option Nat,ZBw P T F G ops Q pp env h df
 | .seq x y,st,Q=>vc P T F G n x st (λe st'=>match e with | .normal=>vc P T F G n y st' Q | e=>Q e st')
 | .cond c x y,st,Q=>Zfs (sv G st c) (vc P T F G n x st Q) (vc P T F G n y st Q)
 | .block id x,st,Q=>vc P T F G n x st (λe st'=>match e with | .exit i=>bif Nat.beq i id then Q .normal st' else Q (.exit i) st' | e=>Q e st')
 | .loop x,st,Q=>ZzN G n (vc P T F G n x) (ZbC x) st Q
 | .exit id,st,Q=>Q (.exit id) st
 | .ret,st,Q=>Q .ret st
 | _,_,_=>False
section
variable {P:Program} {T:Tab} {F:FuncId->Bool} {C:Ctx} {n:Nat}
theorem Ziv (hT:TabOk P T) (hF:∀g,F g=true->fnOk P g=true) (hM:P.follows .mixedOrders=true):∀(c:Code) (S:List Nat),(∀k∈ZbC c,k < n)->(∀k∈ZbC c,inL S k=true)->∀(C:Ctx) (st:St) (a:Act) (w:World) (Q:Post),vc P T F C.G n c st Q->Rel C n st a w ->
  c.wp P (λe a' w'=>Keeps S a a'/\∃x st',Q x st'/\XOk e x st' a' w' C n) a w:=by
 intro c
 induction c with
 | skip=>intro S _ _ C st a w Q h hr;exact wp_skip ⟨Keeps.refl _ _,.normal,st,h,hr⟩
 | region id ops draw =>
  intro S hs hm C st a w Q h hr;cases draw with
  | true =>obtain ⟨env,hp,df⟩:=st;exact Zk2 hT hF hM S hs hm h hr
  | false =>
   refine wp_region_list (Zna hT hF (K:=Q .normal) (Q:=Q) (a0:=a) (S:=S) (λst a w hq hr hk=>⟨hk,.normal,st,hq,hr⟩) (λd st ch a w hq hx hk=>⟨hk,.pan d,st,hq,hx⟩) ops.toList (λo ho d hd=>?_) st a w h hr (Keeps.refl _ _));have:d∈ZbC (.region id ops false):=by simp only[ZbC,YaP];exact ⟨o,ho,hd⟩
   exact ⟨hs d this,hm d this⟩
 | seq x y ihx ihy =>
  intro S hs hm C st a w Q h hr;simp only[ZbC,Yao] at hs hm;refine wp_seq (Code.wp_mono ?_ (ihx S (λk hk=>hs k (.inl hk)) (λk hk=>hm k (.inl hk)) C st a w _ h hr));rintro e a' w' ⟨hk,x,st',hq,hx⟩;cases e with
  | normal =>
   cases x<;>try exact hx.elim
   refine Code.wp_mono ?_ (ihy S (λk hk=>hs k (.inr hk)) (λk hk=>hm k (.inr hk)) C st' a' w' Q hq hx);rintro e a'' w'' ⟨hk',rest⟩;exact ⟨hk.trans hk',rest⟩
  | exit i=>cases x<;>first | exact hx.elim | exact ⟨hk,_,st',hq,hx⟩
  | ret=>cases x<;>first | exact hx.elim | exact ⟨hk,_,st',hq,hx⟩
  | panic ch=>cases x<;>first | exact hx.elim | exact ⟨hk,_,st',hq,hx⟩
  | goto l=>cases x<;>exact hx.elim
  | outgrown=>cases x<;>exact hx.elim
 | cond c x y ihx ihy =>
  intro S hs hm C st a w Q h hr;simp only[ZbC,Yao] at hs hm;obtain ⟨hsz,hdf,β,V,hrel,he⟩:=hr;obtain ⟨b,hv,ht,hf⟩:=Zfs.use h (he.eval hrel.gl c);refine wp_cond hv ?_;cases b with
  | true=>exact ihx S (λk hk=>hs k (.inl hk)) (λk hk=>hm k (.inl hk)) C st a w Q (ht rfl) ⟨hsz,hdf,β,V,hrel,he⟩
  | false=>exact ihy S (λk hk=>hs k (.inr hk)) (λk hk=>hm k (.inr hk)) C st a w Q (hf rfl) ⟨hsz,hdf,β,V,hrel,he⟩
 | block id x ih =>
  intro S hs hm C st a w Q h hr;refine wp_block (Code.wp_mono ?_ (ih S hs hm C st a w _ h hr));rintro e a' w' ⟨hk,x,st',hq,hx⟩;cases e with
  | exit i =>
   cases x<;>try exact hx.elim
   obtain ⟨rfl,hx⟩:=hx;simp only[Exit.inBlock];by_cases hi:i=id
   ·subst hi;rw[if_pos rfl];simp only[YaO,cond_true] at hq;exact ⟨hk,_,st',hq,hx⟩
   ·rw[if_neg hi];have:Nat.beq i id=false:=ZcR hi;simp only[this,cond_false] at hq;exact ⟨hk,_,st',hq,rfl,hx⟩
  | normal=>cases x<;>first | exact hx.elim | exact ⟨hk,_,st',hq,hx⟩
  | ret=>cases x<;>first | exact hx.elim | exact ⟨hk,_,st',hq,hx⟩
  | panic ch=>cases x<;>first | exact hx.elim | exact ⟨hk,_,st',hq,hx⟩
  | goto l=>cases x<;>exact hx.elim
  | outgrown=>cases x<;>exact hx.elim
 | loop x ih =>
  intro S hs hm C st a w Q h hr;obtain ⟨ι,I,μ,hstart,hround⟩:=h;obtain ⟨hsz,hdf,β,V,hrel,he⟩:=hr
  let C':Ctx:=⟨w,λk=>∃i o,st.h[i]?=some o/\o.live=true/\Bk o (β i) k,V,C.G⟩
  have hrel':RelD C' st.h β V w:=ZdD hrel;have hr':Rel C' n st a w:=⟨hsz,hdf,β,V,hrel',he⟩;have back:∀e y st2 a2 w2,XOk e y st2 a2 w2 C' n->XOk e y st2 a2 w2 C n:=by
   intro e y st2 a2 w2 hx;have key:∀st2 a2 w2,Rel C' n st2 a2 w2->Rel C n st2 a2 w2:=λst2 a2 w2 ⟨h1,h2,β2,V2,h3,h4⟩=>⟨h1,h2,β2,V2,ZkA hrel h3,h4⟩;cases e<;>cases y<;>try exact hx.elim
   ·exact key _ _ _ hx
   ·exact ⟨hx.1,key _ _ _ hx.2⟩
   ·exact key _ _ _ hx
   ·obtain ⟨t,u,h0,h1,h2,β2,V2,h3,h4,h5⟩:=hx;exact ⟨t,u,h0,h1,h2,β2,V2,ZkA hrel h3,h4,h5⟩
  have hbase:∀a',Keeps (ZbC x) a a'->ZBH C' st (ZbC x) a':=λa' hk=>⟨λk hv ⟨i,o,h1,h2,h3⟩=>hrel.vout i o k h1 h2 h3 hv,hrel.vlt,a,β,he,hk⟩
  let J:ι->Act->World->Prop:=λi a' w'=>∃st1,I i st1/\Rel C' n st1 a' w'/\Keeps (ZbC x) a a'/\Keeps S a a'
  obtain ⟨i0,st0,hr0,hI0⟩:=hstart C' a w rfl hr'
  classical
  have least:∀(a':Act) (w':World),(∃i,J i a' w')->∃i,J i a' w'/\∀j,J j a' w'->μ i<=μ j:=by
   intro a' w' hex;have wf:∀m,∀i,μ i=m->J i a' w'->∃i,J i a' w'/\∀j,J j a' w'->μ i<=μ j:=by
    intro m
    induction m using Nat.strongRecOn with
    | _ m ihm =>
     intro i hi hJ;by_cases hall:∀j,J j a' w'->μ i<=μ j
     ·exact ⟨i,hJ,hall⟩
     ·have ⟨j,hj⟩:=Classical.not_forall.1 hall;have ⟨hJj,hlt⟩:=Classical.not_imp.1 hj;exact ihm (μ j) (by omega) j rfl hJj
   obtain ⟨i,hi⟩:=hex;exact wf _ i rfl hi
  let ν:Act->World->Nat:=λa' w'=>if hex:∃i,J i a' w' then μ (Classical.choose (least a' w' hex)) else 0
  have hν:∀a' w',(∃i,J i a' w')->∃i,J i a' w'/\ν a' w'=μ i:=by intro a' w' hex;refine ⟨Classical.choose (least a' w' hex),(YbX (least a' w' hex)).1,?_⟩;simp only[ν,dif_pos hex]
  have hνle:∀a' w' j,J j a' w'->ν a' w'<=μ j:=by intro a' w' j hj;have hex:∃i,J i a' w':=⟨j,hj⟩;simp only[ν,dif_pos hex];exact (YbX (least a' w' hex)).2 j hj
  refine wp_loop (λa' w'=>∃i,J i a' w') ν ⟨i0,st0,hI0,hr0,Keeps.refl _ _,Keeps.refl _ _⟩ ?_;intro a1 w1 hex;obtain ⟨i,⟨st1,hI,hr1,hk1,hk2⟩,hνi⟩:=hν a1 w1 hex;have hb:=ih (ZbC x) hs (λk hk=>ZbY.2 hk) C' st1 a1 w1 _ (hround i st1 hI) hr1;refine Code.wp_mono ?_ hb;rintro e a2 w2 ⟨hk,y,st2,hq,hx⟩;have hkS:Keeps S a1 a2:=λk hk'=>hk k (by
   cases h:inL (ZbC x) k with
   | false=>rfl
   | true=>rw[hm k (ZbY.1 h)] at hk';cases hk')
  cases e with
  | normal =>
   cases y<;>try exact hx.elim
   obtain ⟨i',st3,hr3,hI3,hlt⟩:=hq C' a2 w2 rfl hx (hbase a2 (hk1.trans hk));have hJ:J i' a2 w2:=⟨st3,hI3,hr3,hk1.trans hk,hk2.trans hkS⟩;refine ⟨⟨i',hJ⟩,?_⟩;have:=hνle a2 w2 i' hJ;rw[hνi];omega
  | exit j=>cases y<;>first | exact hx.elim | exact ⟨hk2.trans hkS,_,st2,hq,back _ _ _ _ _ hx⟩
  | ret=>cases y<;>first | exact hx.elim | exact ⟨hk2.trans hkS,_,st2,hq,back _ _ _ _ _ hx⟩
  | panic ch=>cases y<;>first | exact hx.elim | exact ⟨hk2.trans hkS,_,st2,hq,back _ _ _ _ _ hx⟩
  | goto l=>cases y<;>exact hx.elim
  | outgrown=>cases y<;>exact hx.elim
 | exit id=>intro S _ _ C st a w Q h hr;exact wp_exit ⟨Keeps.refl _ _,.exit id,st,h,rfl,hr⟩
 | ret=>intro S _ _ C st a w Q h hr;exact wp_ret ⟨Keeps.refl _ _,.ret,st,h,hr⟩
 | _=>intro S _ _ C st a w Q h hr;exact h.elim
end
def hav (S:List Nat) (e0:Env):Env:=λk=>bif inL S k then .any else bif ZbI 4 (e0 k) then e0 k else .any
def Env.many (b:Env):List (Nat × D)->Env
 | []=>b
 | (t,x) :: l=>(Env.many b l).set t x
theorem Zo1 (b:Env):∀(l:List (Nat × D)) (k:Nat),(∃x,(k,x)∈l/\Env.many b l k=x)\/((∀x,(k,x) ∉ l)/\Env.many b l k=b k)
 | [],k=>.inr ⟨λx h=>by simp at h,rfl⟩
 | (t,x) :: l,k=>by
  by_cases hk:k=t
  ·subst hk;exact .inl ⟨x,Yac,by simp[Env.many,Env.set]⟩
  ·have hb:Nat.beq k t=false:=ZcR hk;rcases Zo1 b l k with ⟨y,hy,he⟩ | ⟨hno,he⟩
   ·exact .inl ⟨y,Yad _ hy,by simp[Env.many,Env.set,hb,he]⟩
   ·refine .inr ⟨λy hy=>?_,by simp[Env.many,Env.set,hb,he]⟩;rcases Yav.1 hy with h | h
    ·injection h with h1 h2;exact hk h1
    ·exact hno y h
section
variable {G:Gl} {n:Nat}
abbrev Zxb (env:Env) (h:Zad) (src:List Src) (val:List (Nat × D)) (h':Zad):Prop:=TurnTo h src (val.map λp=>env p.1) h' (val.map (·.2))
structure Again {ι:Type} (val:ι->List (Nat × D)) (hpI:ι->Zad) (Inv:ι->Prop) (μ:ι->Nat) (m:Nat) (env:Env) (h:Zad):Prop where
 ex:∃i src,Zxb env h src (val i) (hpI i)/\Inv i/\μ i < m
theorem Zac.at_map {h:Zad} {β:Nat->Value} {V:Nat->Prop} {w:World} {α:Type} (f:α->D) (g:α->Value):∀(l:List α),Zac h β V w (l.map f) (l.map g)↔∀x∈l,Zaa h β V w (f x) (g x)
 | []=>by simp[Zac]
 | x :: l=>by
  simp only[Yar,Zac];constructor
  ·rintro ⟨v,us,e,h1,h2⟩ y hy;injection e with e1 e2;subst e1;subst e2;rcases Yav.1 hy with rfl | hy
   ·exact h1
   ·exact (Zac.at_map f g l).1 h2 y hy
  ·intro hh;exact ⟨_,_,rfl,hh x Yac,(Zac.at_map f g l).2 (λy hy=>hh y (Yad _ hy))⟩
def ZcY (G:Gl) (n:Nat) (K:St->Prop) (st:St):Prop:=∃st1,(∀C a w,C.G=G->Rel C n st a w->Rel C n st1 a w)/\K st1
theorem ZmE {K:St->Prop} {st:St} (k:K st):ZcY G n K st:=⟨st,λ_ _ _ _ h=>h,k⟩
theorem Zcu {K:St->Prop} {env:Env} {h:Zad} {df:List Deferred} (src:List Src) (val:List (Nat × D)) (h':Zad) (hh:Zxb env h src val h') (k:K ⟨(hav [] env).many val,h',df⟩):ZcY G n K ⟨env,h,df⟩:=by
 refine ⟨_,?_,k⟩;rintro C a w _ ⟨hsz,hdf,β,V,hrel,he⟩;have hd:=(Zac.at_map (λp:Nat × D=>env p.1) (λp=>a.tmps.getD p.1 undef) val).2 (λp _=>he p.1);obtain ⟨hr',hd'⟩:=hh.use hrel hd;refine ⟨hsz,hdf,_,_,hr',λk=>?_⟩;show Zaa h' _ _ w (Env.many (hav [] env) val k) _;rcases Zo1 (hav [] env) val k with ⟨x,hx,hxe⟩ | ⟨_,hxe⟩
 ·rw[hxe];exact (Zac.at_map (λp:Nat × D=>p.2) (λp=>a.tmps.getD p.1 undef) val).1 hd' (k,x) hx
 ·rw[hxe];unfold hav;simp only[inL,cond_false];cases hc:ZbI 4 (env k) with
  | true=>simp only[cond_true];exact ZhT (λk hk=>⟨.inl hk,rfl⟩) 4 _ _ hc (he k)
  | false=>simp only[cond_false,Zaa]
theorem ZaL {B:St->Post->Prop} {S:List Nat} {env:Env} {h:Zad} {df:List Deferred} {Q:Post}
  {ι:Type} (val:ι->List (Nat × D)) (hpI:ι->Zad) (Inv:ι->Prop) (μ:ι->Nat)
  (start:∃i src,Zxb env h src (val i) (hpI i)/\Inv i)
  (round:∀(Rd:ι->St->Prop),(∀i env' h',Again val hpI Inv μ (μ i) env' h'->Rd i ⟨env',h',df⟩)->∀(i:ι),Inv i ->
   B ⟨(hav S env).many (val i),hpI i,df⟩ (λex st'=>match ex with
   | .normal=>Rd i st'
   | ex=>Q ex st')) :
  ZzN G n B S ⟨env,h,df⟩ Q:=by
 have heads:∀(C:Ctx) (a:Act) (w:World) (β:Nat->Value) (V:Nat->Prop) (i:ι) (h':Zad) (e':Env) (src:List Src),RelD C h' β V w->(∀k,Zaa h' β V w (e' k) (a.tmps.getD k undef))->Zxb e' h' src (val i) (hpI i) ->
   (∀k,inL S k=false->ZbI 4 (env k)=true->Zaa (hpI i) (Za4 src β) (ZmD h' src β V) w (env k) (a.tmps.getD k undef)) ->
   RelD C (hpI i) (Za4 src β) (ZmD h' src β V) w/\ZbO ⟨(hav S env).many (val i),hpI i,df⟩ (Za4 src β) (ZmD h' src β V) w a:=by
  intro C a w β V i h' e' src hrel he hh hun;have hd:=(Zac.at_map (λp:Nat × D=>e' p.1) (λp=>a.tmps.getD p.1 undef) (val i)).2 (λp _=>he p.1);obtain ⟨hr',hd'⟩:=hh.use hrel hd;refine ⟨hr',λk=>?_⟩;show Zaa (hpI i) _ _ w (Env.many (hav S env) (val i) k) _;rcases Zo1 (hav S env) (val i) k with ⟨x,hx,hxe⟩ | ⟨_,hxe⟩
  ·rw[hxe];exact (Zac.at_map (λp:Nat × D=>p.2) (λp=>a.tmps.getD p.1 undef) (val i)).1 hd' (k,x) hx
  ·rw[hxe];unfold hav;cases hS:inL S k with
   | true=>simp only[cond_true,Zaa]
   | false =>
    simp only[cond_false];cases hc:ZbI 4 (env k) with
    | true=>simp only[cond_true];exact hun k hS hc
    | false=>simp only[cond_false,Zaa]
 refine ⟨ι,λi st1=>st1=⟨(hav S env).many (val i),hpI i,df⟩/\Inv i,μ,?_,?_⟩
 ·rintro C a w _ ⟨hsz,hdf,β,V,hrel,he⟩;obtain ⟨i,src,hh,hinv⟩:=start;obtain ⟨h1,h2⟩:=heads C a w β V i h env src hrel he hh (λk _ hc=>ZhT (λk hk=>⟨.inl hk,rfl⟩) 4 _ _ hc (he k));exact ⟨i,⟨(hav S env).many (val i),hpI i,df⟩,⟨hsz,hdf,_,_,h1,h2⟩,rfl,hinv⟩
 ·rintro i st1 ⟨rfl,hinv⟩;refine round (λi st'=>∀C a w,C.G=G->Rel C n st' a w->ZBH C ⟨env,h,df⟩ S a->∃i' st2,Rel C n st2 a w/\(st2=⟨(hav S env).many (val i'),hpI i',df⟩/\Inv i')/\μ i' < μ i) ?_ i hinv;rintro i env' h' ⟨i',src,hh,hinv',hlt⟩ C a w _ ⟨hsz,hdf,β,V,hrel,he⟩ ⟨hb1,hb2,a0,β0,he0,hout⟩;have hm:ZaB C.V0 C.w0 V w:=λk hk=>⟨hrel.vin k hk,hrel.fr.block k (hb2 k hk) (hb1 k hk)⟩;obtain ⟨h1,h2⟩:=heads C a w β V i' h' env' src hrel he hh (λk hS hc=>by
   rw[hout k hS];exact ZhT (hm.trans (λk hk=>⟨.inl hk,rfl⟩)) 4 _ _ hc (he0 k))
  exact ⟨i',⟨(hav S env).many (val i'),hpI i',df⟩,⟨hsz,hdf,_,_,h1,h2⟩,⟨rfl,hinv'⟩,hlt⟩
end
structure Mix (P:Program):Prop where
 ok:P.follows .mixedOrders=true
def nth {α:Type} (z:α):List α->Nat->α
 | [],_=>z
 | a :: _,0=>a
 | _ :: l,n+1=>nth z l n
def ZeO (args:List D):Env:=λi=>nth .any args i
def Zms (T:Tab) (st:St):List ResultVar->Option (List D)
 | []=>some []
 | .tmp t :: l=>match Zms T st l with
  | some ds=>some (st.env t :: ds)
  | none=>none
 | .cell t ty :: l=>match Zms T st l,st.env t,T ty with
  | some ds,.ptr j off,some i=>match st.h[j]? with
   | some (.blk cs _)=>match i.agg with
    | true=>bif Nat.ble (off+i.size) cs.length then some (.agg (List.take i.size (cs.drop off)) :: ds) else none
    | false=>match cs[off]? with
     | some d=>some (d :: ds)
     | none=>none
   | _=>none
  | _,_,_=>none
def Zf3:List D->D
 | [d]=>d
 | ds=>.tuple ds
def Zbk (Q:Out->Prop) (h:Zad) (d:D):Prop:=∃src d' h',TurnTo h src [d] h' [d']/\Q (.ret d' h')
def Zoh (Q:Out->Prop) (h:Zad) (d:D):Prop:=∃d',TurnTo h [] [d] [] [d']/\Q (.pan d')
def Fin (T:Tab) (rs:List ResultVar) (Q:Out->Prop):Post
 | .normal,⟨env,h,df⟩ | .ret,⟨env,h,df⟩=>match Zms T ⟨env,h,df⟩ rs with
  | some ds=>Zb5 ds λds=>df=[]/\Zbk Q h (Zf3 ds)
  | none=>False
 | .pan d,⟨_,h,df⟩=>df=[]/\Zoh Q h d
 | .exit _,_=>False
section
variable {P:Program} {T:Tab} {F:FuncId->Bool} {G:Gl}
theorem ZmS (hT:TabOk P T) {st:St} {a:Act} {w:World} {C:Ctx} {β:Nat->Value} {V:Nat->Prop} (hr:RelD C st.h β V w) (he:ZbO st β V w a):∀(rs:List ResultVar) (ds:List D),Zms T st rs=some ds ->
  ∃vs,(rs.mapM (m:=Sem) fun | .tmp t=>pure (a.tmps.getD t undef) | .cell c t=>do loadVar t (<- asAddr (a.tmps.getD c undef))).run P w=.ok vs w/\Zac st.h β V w ds vs:=by
 intro rs
 induction rs with
 | nil=>intro ds h;simp[Zms] at h;subst h;exact ⟨[],rfl,by simp[Zac]⟩
 | cons r l ih =>
  intro ds h;cases r with
  | tmp t =>
   simp only[Zms] at h;cases hl:Zms T st l with
   | none=>rw[hl] at h;cases h
   | some us =>rw[hl] at h;injection h with h;subst h;obtain ⟨vs,h1,h2⟩:=ih us hl;refine ⟨a.tmps.getD t undef :: vs,?_,by simp only[Zac];exact ⟨_,_,rfl,he t,h2⟩⟩;simp only[YcJ,Sem.run_bind,Sem.run_pure,Result.andThen_ok,h1]
  | cell t ty =>
   simp only[Zms] at h;split at h
   ·rename_i us j off i hl het ht;obtain ⟨vs,h1,h2⟩:=ih us hl;have hx:=he t;rw[het] at hx;split at h
    ·rename_i cs ty' hj;simp only[Zaa,hj] at hx;obtain ⟨g,hb,hv⟩:=hx;obtain ⟨g',us',hb',hg,hcs⟩:=hr.obj j _ hj;have e:g'=g:=by rw[hb] at hb';injection hb' with hb';injection hb' with hb';injection hb' with hb';exact hb'.symm
     subst e;have fin:∀(d:D) (v:Value),(loadVar ty ⟨g',off,none⟩).run P w=.ok v w->Zaa st.h β V w d v->d :: us=ds->∃vs,((ResultVar.cell t ty :: l).mapM (m:=Sem) fun | .tmp t=>pure (a.tmps.getD t undef) | .cell c t=>do loadVar t (<- asAddr (a.tmps.getD c undef))).run P w=.ok vs w/\Zac st.h β V w ds vs:=by
      intro d v hrun hd hds;subst hds;have hone:(do loadVar ty (<- asAddr (a.tmps.getD t undef)):Sem Value).run P w=.ok v w:=by simp[hv,asAddr,hrun]
      refine ⟨v :: vs,?_,by simp only[Zac];exact ⟨_,_,rfl,hd,h2⟩⟩;rw[YcJ,Sem.run_bind,hone];simp only[Result.andThen_ok,Sem.run_bind,h1,Sem.run_pure]
     cases hagg:i.agg with
     | true =>
      rw[hagg] at h;simp only at h;cases hble:Nat.ble (off+i.size) cs.length with
      | false=>rw[hble] at h;cases h
      | true =>
       rw[hble] at h;simp only[cond_true] at h;injection h with h;have hle:=Yaw hble;have hlen:=hcs.len;refine fin _ (.agg ⟨List.take i.size (us'.drop off)⟩) (ZdI (hT ty i ht) hagg (vs:=List.take i.size (us'.drop off)) (by simp;omega) (λk v hk=>?_)) (by simp only[Zaa];exact ⟨_,rfl,(hcs.drop off).take i.size⟩) h;rw[Zcm,cell_of_row w _ _ _ _ _ hg];have hkl:k < i.size:=by have:=(Yaa.1 hk).1;simp at this;omega
       rw[Yaz hkl,YaX] at hk;simpa using hk
     | false =>
      rw[hagg] at h;simp only at h;split at h
      ·rename_i d hd;injection h with h;obtain ⟨v,hv1,hv2⟩:=hcs.get hd;refine fin d v (ZdH (hT ty i ht) hagg ?_) hv2 h;rw[cell_of_row w _ _ _ _ _ hg];simpa using hv1
      ·cases h
    ·cases h
   ·cases h
theorem ZcC (hT:TabOk P T) {st:St} {a:Act} {w:World} {C:Ctx} {β:Nat->Value} {V:Nat->Prop} (hr:RelD C st.h β V w) (he:ZbO st β V w a) {fn:Func} {ds:List D} (h:Zms T st fn.results.toList=some ds) :
  ∃v,(results fn a.tmps).run P w=.ok v w/\Zac st.h β V w [Zf3 ds] [v]:=by
 obtain ⟨vs,h1,h2⟩:=ZmS hT hr he _ _ h;refine ⟨Zv2 vs,?_,?_⟩
 ·unfold results;rw[Ycw];simp only[Sem.run_bind,Sem.run_map]
  erw[h1]
  simp only[Result.andThen_ok,Sem.run_pure]
  congr 1
  match vs with
  | []=>rfl
  | [v]=>rfl
  | _ :: _ :: _=>simp[Zv2]
 ·have hlen:=h2.len;simp only[Zac];refine ⟨_,[],rfl,?_,rfl⟩
  match ds,vs,hlen with
  | [d],[v],_ =>simp only[Zac] at h2;obtain ⟨v',us,e,h3,h4⟩:=h2;injection e with e1 e2;subst e1;exact h3
  | [],[],_=>simp only[Zf3,Zv2,Zaa];exact ⟨[],rfl,by simp[Zac]⟩
  | _ :: _ :: _,_ :: _ :: _,_=>simp only[Zf3,Zv2,Zaa];exact ⟨_,rfl,h2⟩
theorem ZjS {G:Gl} {V:Nat->Prop} {w:World} (hV:∀k,V k->k < w.heap.size) (hG:Zok G V w):RelD ⟨w,λ_=>False,V,G⟩ [] (λ_=>undef) V w :=
 ⟨λi o h=>by simp at h,λi j o o' k h=>by simp at h,λi o k h=>by simp at h,λi o k h=>by simp at h,hV,λk hk=>hk,λk hk=>.inl hk,Fr.refl _ _,hG⟩
def Zyc (P:Program) (T:Tab) (F:FuncId->Bool) (G:Gl) (n:Nat) (K:Code->St->Post->Prop) (k:Nat):Code->St->Post->Prop :=
 Nat.rec (motive:=λ_=>Code->St->Post->Prop)
  (λc st Q=>match c with
   | .seq x y=>vc P T F G n x st (λe st'=>match e with | .normal=>ZcY G n (λst1=>K y st1 Q) st' | e=>Q e st')
   | _=>False)
  (λ_ next c st Q=>match c with
   | .seq x y=>vc P T F G n x st (λe st'=>match e with | .normal=>next y st' Q | e=>Q e st')
   | _=>False) k
def vcT (P:Program) (T:Tab) (F:FuncId->Bool) (G:Gl) (n:Nat) (l:List Nat):Code->St->Post->Prop :=
 List.rec (motive:=λ_=>Code->St->Post->Prop) (λc st Q=>vc P T F G n c st Q) (λk _ K c st Q=>Zyc P T F G n K k c st Q) l
def Zrd (P:Program) (n:Nat) (G:Gl) (K:Code->St->Post->Prop):Prop:=∀(c:Code) (S:List Nat),(∀k∈ZbC c,k < n)->(∀k∈ZbC c,inL S k=true)->∀(C:Ctx) (st:St) (a:Act) (w:World) (Q:Post),C.G=G->K c st Q->Rel C n st a w ->
  c.wp P (λe a' w'=>Keeps S a a'/\∃x st',Q x st'/\XOk e x st' a' w' C n) a w
theorem Zkw {n:Nat} {G:Gl} (hT:TabOk P T) (hF:∀g,F g=true->fnOk P g=true) (hM:P.follows .mixedOrders=true) {K:Code->St->Post->Prop} (hK:Zrd P n G K) {x y:Code} {S:List Nat} (hs:∀k∈ZbC (.seq x y),k < n) (hm:∀k∈ZbC (.seq x y),inL S k=true) {C:Ctx} {st:St} {a:Act} {w:World} {Q:Post} (hG:C.G=G)
  {J:St->Prop} (hJ:∀(st':St) (a':Act) (w':World),J st'->Rel C n st' a' w'->∃st1,Rel C n st1 a' w'/\K y st1 Q)
  (h:vc P T F G n x st (λe st'=>match e with | .normal=>J st' | e=>Q e st')) (hr:Rel C n st a w) :
  (Code.seq x y).wp P (λe a' w'=>Keeps S a a'/\∃x st',Q x st'/\XOk e x st' a' w' C n) a w:=by
 subst hG;simp only[ZbC,Yao] at hs hm;refine wp_seq (Code.wp_mono ?_ (Ziv hT hF hM x S (λk hk=>hs k (.inl hk)) (λk hk=>hm k (.inl hk)) C st a w _ h hr));rintro e a' w' ⟨hk,x',st',hq,hx⟩;cases e with
 | normal =>
  cases x'<;>try exact hx.elim
  obtain ⟨st1,ht,hq⟩:=hJ st' a' w' hq hx;refine Code.wp_mono ?_ (hK y S (λk hk=>hs k (.inr hk)) (λk hk=>hm k (.inr hk)) C st1 a' w' Q rfl hq ht);rintro e a'' w'' ⟨hk',rest⟩;exact ⟨hk.trans hk',rest⟩
 | exit i=>cases x'<;>first | exact hx.elim | exact ⟨hk,_,st',hq,hx⟩
 | ret=>cases x'<;>first | exact hx.elim | exact ⟨hk,_,st',hq,hx⟩
 | panic ch=>cases x'<;>first | exact hx.elim | exact ⟨hk,_,st',hq,hx⟩
 | goto l=>cases x'<;>exact hx.elim
 | outgrown=>cases x'<;>exact hx.elim
theorem ZoC {n:Nat} {G:Gl} (hT:TabOk P T) (hF:∀g,F g=true->fnOk P g=true) (hM:P.follows .mixedOrders=true) {K:Code->St->Post->Prop} (hK:Zrd P n G K):∀k:Nat,Zrd P n G (Zyc P T F G n K k):=by
 intro k
 induction k with
 | zero =>
  intro c S hs hm C st a w Q hG h hr;cases c with
  | seq x y=>exact Zkw hT hF hM hK hs hm hG (J:=λst'=>ZcY G n (λst1=>K y st1 Q) st') (λst' a' w' hj hr'=>by obtain ⟨st1,ht,hq⟩:=hj;exact ⟨st1,ht C a' w' hG hr',hq⟩) h hr
  | _=>exact h.elim
 | succ k ih =>
  intro c S hs hm C st a w Q hG h hr;cases c with
  | seq x y=>exact Zkw hT hF hM ih hs hm hG (J:=λst'=>Zyc P T F G n K k y st' Q) (λst' a' w' hj hr'=>⟨st',hr',hj⟩) h hr
  | _=>exact h.elim
theorem Zrg {n:Nat} {G:Gl} (hT:TabOk P T) (hF:∀g,F g=true->fnOk P g=true) (hM:P.follows .mixedOrders=true):∀l:List Nat,Zrd P n G (vcT P T F G n l):=by
 intro l
 induction l with
 | nil=>intro c S hs hm C st a w Q hG h hr;subst hG;exact Ziv hT hF hM c S hs hm C st a w Q h hr
 | cons k l ih=>exact ZoC hT hF hM ih k
theorem ZmA {n:Nat} (hT:TabOk P T) (hF:∀g,F g=true->fnOk P g=true) (hM:P.follows .mixedOrders=true) (c:Code) (l:List Nat) (S:List Nat) (hs:∀k∈ZbC c,k < n) (hm:∀k∈ZbC c,inL S k=true) (C:Ctx) (st:St) (a:Act) (w:World) (Q:Post) (h:vcT P T F C.G n l c st Q) (hr:Rel C n st a w) :
  c.wp P (λe a' w'=>Keeps S a a'/\∃x st',Q x st'/\XOk e x st' a' w' C n) a w:=Zrg hT hF hM l c S hs hm C st a w Q rfl h hr
theorem Zuv (tn:List Nat) (hT:TabOk P T) (hF:∀g,F g=true->fnOk P g=true) (hM:Mix P) {f:FuncId} {fn:Func} {c:Code} (hf:P.funcs[f]?=some fn) (hb:fn.body=some c) (N:Nat) (hN:fn.ntmps=N) (hs:Ziq N (ZbC c)=true) (rs:List ResultVar) (hrs:fn.results.toList=rs)
  (args:List D) (hal:Nat.ble args.length N=true) (Q:Out->Prop) (h:vcT P T F G N tn c ⟨ZeO args,[],[]⟩ (Fin T rs Q)):CT P G f args Q:=by
 subst hN;subst hrs;intro w V vals hV hG hargs;have hlen:=hargs.len;have hal:=Yaw hal;refine calls_of_wp hf hb ?_;have hnth:∀(ds:List D) (vs:List Value),Zac [] (λ_=>undef) V w ds vs->∀i,Zaa [] (λ_=>undef) V w (nth .any ds i) (vs.getD i undef):=by
  intro ds
  induction ds with
  | nil=>intro vs _ i;simp only[nth,Zaa]
  | cons d ds ih =>
   intro vs h i;simp only[Zac] at h;obtain ⟨v,us,rfl,h1,h2⟩:=h;cases i with
   | zero=>simpa [nth] using h1
   | succ i=>simpa [nth] using ih us h2 i
 have hr:Rel ⟨w,λ_=>False,V,G⟩ fn.ntmps ⟨ZeO args,[],[]⟩ { tmps:=(⟨vals⟩:Array Value)++Array.replicate (fn.ntmps - (⟨vals⟩:Array Value).size) undef,defers:=[] } w:=by
  refine ⟨by simp;omega,rfl,λ_=>undef,V,ZjS hV hG,λi=>?_⟩;have h1:=hnth args vals hargs i;have h2:((⟨vals⟩:Array Value)++Array.replicate (fn.ntmps - (⟨vals⟩:Array Value).size) undef).getD i undef=vals.getD i undef:=by
   rw[Yat,Yal];by_cases hi:i < vals.length
   ·rw[YbB (by simpa using hi)];simp
   ·rw[Ybz (by simp;omega),Ybs (by omega)];rw[Ya0];split<;>rfl
  rw[h2];exact h1
 have hlt:=ZcT hs;refine Code.wp_mono ?_ (ZmA hT hF hM.ok c tn (ZbC c) hlt (λk hk=>ZbY.2 hk) ⟨w,λ_=>False,V,G⟩ _ _ w _ h hr);rintro e a' w' ⟨_,x,st',hq,hx⟩;have ret:∀{st':St},Rel ⟨w,λ_=>False,V,G⟩ fn.ntmps st' a' w'->(match Zms T st' fn.results.toList with | some ds=>Zb5 ds λds=>st'.df=[]/\Zbk Q st'.h (Zf3 ds) | none=>False) ->
   a'.defers=[]/\∃v,(results fn a'.tmps).run P w'=.ok v w'/\Zva G Q V w (.returned v) w':=by
  rintro st' ⟨_,hdf,β,V',hrel,he⟩ hq;cases hres:Zms T st' fn.results.toList with
  | none=>rw[hres] at hq;exact hq.elim
  | some ds =>rw[hres] at hq;simp only[ZaZ] at hq;obtain ⟨hd0,src,d',h',ht,hQ⟩:=hq;obtain ⟨v,hv1,hv2⟩:=ZcC hT hrel he hres;obtain ⟨h1,h2⟩:=ht.use hrel hv2;simp only[Zac] at h2;obtain ⟨v',us,e,h3,_⟩:=h2;injection e with e1 e2;subst e1;exact ⟨hdf.trans hd0,v,hv1,d',h',_,_,hQ,h1,h3⟩
 cases e with
 | normal =>
  cases x<;>try exact hx.elim
  exact ret hx hq
 | ret =>
  cases x<;>try exact hx.elim
  exact ret hx hq
 | panic ch =>
  cases x<;>try exact hx.elim
  obtain ⟨t,u,hch,hsz,hdf,β,V',hrel,he,hd⟩:=hx;obtain ⟨hd0,d',ht,hQ⟩:=hq;obtain ⟨h1,h2⟩:=ht.use hrel (vs:=[.iface t u]) (by simp only[Zac];exact ⟨_,_,rfl,hd,rfl⟩);simp only[Zac] at h2;obtain ⟨v',us,e,h3,_⟩:=h2;injection e with e1 e2;subst e1;exact ⟨hdf.trans hd0,d',t,u,_,_,hch,hQ,h1,h3⟩
 | exit i=>cases x<;>first | exact hx.elim | exact hq.elim
 | goto l=>cases x<;>exact hx.elim
 | outgrown=>cases x<;>exact hx.elim
theorem enter (hT:TabOk P T) (hF:∀g,F g=true->fnOk P g=true) (hM:Mix P) {f:FuncId} {fn:Func} {c:Code} (hf:P.funcs[f]?=some fn) (hb:fn.body=some c) (N:Nat) (hN:fn.ntmps=N) (hs:Ziq N (ZbC c)=true) (rs:List ResultVar) (hrs:fn.results.toList=rs)
  (args:List D) (hal:Nat.ble args.length N=true) (Q:Out->Prop) (h:vc P T F G N c ⟨ZeO args,[],[]⟩ (Fin T rs Q)):CT P G f args Q :=
 Zuv [] hT hF hM hf hb N hN hs rs hrs args hal Q h
def Zij:Nat->List Nat->List D
 | _,[]=>[]
 | p,_ :: l=>.ptr p 0 :: Zij (p+1) l
def Zfv (h:Zad):Nat->List Nat->Bool
 | _,[]=>true
 | p,_ :: l=>Zo8 h p && Zfv h (p+1) l
def Zvv (h:Zad) (m p:Nat) (v:Value):Prop:=match h[m]? with
 | some (.many _ ts)=>(v,p)∈ts
 | _=>False
def ZkI (h:Zad) (p:Nat):Prop:=match h[p]? with
 | some (.many _ _)=>True
 | _=>False
def Zgd (hin:Zad) (m:Nat):Nat->List (Option Value)->Prop
 | _,[]=>True
 | p,some v :: l=>Zvv hin m p v/\Zgd hin m (p+1) l
 | p,none :: l=>ZkI hin p/\Zgd hin m (p+1) l
def Zs1 (o o':Option Obj):Prop:=match o,o' with
 | some o,some o'=>OLe o o'/\o'.live=true
 | _,_=>False
def Zhp (hin h':Zad) (m:Nat):Nat->List (Option Value)->Prop
 | _,[]=>True
 | p,some v :: l=>Zvv h' m p v/\Zs1 hin[p]? h'[p]?/\Zhp hin h' m (p+1) l
 | p,none :: l=>ZkI h' p/\Zhp hin h' m (p+1) l
def ZBO (h:Zad):Bool:=h.all λo=>match o with
 | .many _ ts=>ts.all λt=>match h[t.2]? with
  | some (.many _ _)=>false
  | _=>true
 | _=>true
def ToH (ptrs:List Nat) (hin:Zad) (m:Nat) (nms:List (Option Value)) (Q:D->Zad->Prop) (h:Zad) (env:Env) (d:D):Prop :=
 ∃src d' h',TurnTo h src (d :: ptrs.map env) h' (d' :: Zij 0 ptrs)/\(Zfv h' 0 ptrs && ZBO h')=true/\Zhp hin h' m ptrs.length nms/\Q d' h'
def ZCo (T:Tab) (G:Gl) (rs:List ResultVar) (ptrs:List Nat) (hin:Zad) (m:Nat) (nms:List (Option Value)) (Q:Out->Prop):Post
 | .normal,⟨env,h,df⟩ | .ret,⟨env,h,df⟩=>match Zms T ⟨env,h,df⟩ rs with
  | some ds=>Zb5 ds λds=>df=[]/\orS (ZdO h) (ToH ptrs hin m nms (λd h=>Q (.ret d h)) h env (Zf3 ds)) (ZaE G (Zf3 ds) h λd h=>ToH ptrs hin m nms (λd h=>Q (.ret d h)) h env d)
  | none=>False
 | .pan d,⟨env,h,df⟩=>df=[]/\orS (ZdO h) (ToH ptrs hin m nms (λd h=>Q (.panH d h)) h env d) (ZaE G d h λd h=>ToH ptrs hin m nms (λd h=>Q (.panH d h)) h env d)
 | .exit _,_=>False
theorem Zxl {C:Ctx} {h:Zad} {β:Nat->Value} {V:Nat->Prop} {w:World} (hr:RelD C h β V w) {m p:Nat} {v:Value} (ht:Zvv h m p v) {o:Obj} (ho:h[p]?=some o) (hl:o.live=true):β p=v:=by
 unfold Zvv at ht;split at ht
 ·rename_i l ts hm;obtain ⟨o',ho',hb⟩:=(hr.obj m _ hm).2.2 _ ht;rw[ho] at ho';injection ho' with ho';subst ho';exact hb hl
 ·exact ht.elim
section
variable {C:Ctx} {h:Zad} {β γ:Nat->Value} {V:Nat->Prop} {w:World}
def Zoi (h:Zad) (i:Nat):Prop:=∀l ts,h[i]?≠some (.many l ts)
mutual
theorem Zaa.reβ (hβ:∀i,Zoi h i->γ i=β i):∀(d:D) (v:Value),Zaa h β V w d v->Zaa h γ V w d v
 | .g x,v,hr=>by simp only[Zaa] at hr ⊢;exact hr
 | .pb p,v,hr=>by simp only[Zaa] at hr ⊢;exact hr
 | .pn p,v,hr=>by simp only[Zaa] at hr ⊢;exact hr
 | .nils,v,hr=>by simp only[Zaa] at hr ⊢;exact hr
 | .row i,v,hr=>by
  simp only[Zaa] at hr ⊢;cases ho:h[i]? with
  | none=>rw[ho] at hr;exact hr.elim
  | some o=>rw[ho] at hr;cases o<;>first | exact hr | (simp only at hr ⊢;rw[hβ i (λl ts e=>by rw[ho] at e;cases e)];exact hr)
 | .rs i lo n,v,hr=>by
  simp only[Zaa] at hr ⊢;cases ho:h[i]? with
  | none=>rw[ho] at hr;exact hr.elim
  | some o=>rw[ho] at hr;cases o<;>first | exact hr | (simp only at hr ⊢;rw[hβ i (λl ts e=>by rw[ho] at e;cases e)];exact hr)
 | .ptr i off,v,hr=>by
  simp only[Zaa] at hr ⊢;cases ho:h[i]? with
  | none=>rw[ho] at hr;exact hr.elim
  | some o=>rw[ho] at hr;cases o<;>first | exact hr | (simp only at hr ⊢;rw[hβ i (λl ts e=>by rw[ho] at e;cases e)];exact hr)
 | .el i j off,v,hr=>by
  simp only[Zaa] at hr ⊢;cases ho:h[i]? with
  | none=>rw[ho] at hr;exact hr.elim
  | some o=>rw[ho] at hr;cases o<;>first | exact hr | (simp only at hr ⊢;rw[hβ i (λl ts e=>by rw[ho] at e;cases e)];exact hr)
 | .fp r off,v,hr=>by simp only[Zaa] at hr ⊢;exact hr
 | .nilP,v,hr=>by simp only[Zaa] at hr ⊢;exact hr
 | .nilF,v,hr=>by simp only[Zaa] at hr ⊢;exact hr
 | .nilI,v,hr=>by simp only[Zaa] at hr ⊢;exact hr
 | .fn f fs cs,v,hr=>by simp only[Zaa] at hr ⊢;obtain ⟨us,ts,hv,h1,h2⟩:=hr;exact ⟨us,ts,hv,Zac.reβ hβ fs us h1,Zac.reβ hβ cs ts h2⟩
 | .iface t x,v,hr=>by simp only[Zaa] at hr ⊢;obtain ⟨u,hv,h1⟩:=hr;exact ⟨u,hv,Zaa.reβ hβ x u h1⟩
 | .agg cs,v,hr=>by simp only[Zaa] at hr ⊢;obtain ⟨us,hv,h1⟩:=hr;exact ⟨us,hv,Zac.reβ hβ cs us h1⟩
 | .tuple cs,v,hr=>by simp only[Zaa] at hr ⊢;obtain ⟨us,hv,h1⟩:=hr;exact ⟨us,hv,Zac.reβ hβ cs us h1⟩
 | .any,v,hr=>by simp only[Zaa]
theorem Zac.reβ (hβ:∀i,Zoi h i->γ i=β i):∀(ds:List D) (vs:List Value),Zac h β V w ds vs->Zac h γ V w ds vs
 | [],vs,hr=>by simp only[Zac] at hr ⊢;exact hr
 | d :: ds,vs,hr=>by simp only[Zac] at hr ⊢;obtain ⟨v,us,hv,h1,h2⟩:=hr;exact ⟨v,us,hv,Zaa.reβ hβ d v h1,Zac.reβ hβ ds us h2⟩
end
theorem Zxh (hβ:∀i,Zoi h i->γ i=β i) {i:Nat} {o:Obj} (hi:h[i]?=some o) {k:Nat} (hk:Bk o (γ i) k):Bk o (β i) k:=by
 cases o with
 | many l ts=>exact hk
 | _=>rw[hβ i (λl ts e=>by rw[hi] at e;cases e)] at hk;exact hk
theorem RelD.reβ (hr:RelD C h β V w) (hb:ZBO h=true) (hβ:∀i,Zoi h i->γ i=β i):RelD C h γ V w:=by
 refine ⟨λi o hi=>?_,λi j o o' k hi hl hj hl' h1 h2=>hr.sep i j o o' k hi hl hj hl' (Zxh hβ hi h1) (Zxh hβ hj h2),λi o k hi hl hk=>hr.mine i o k hi hl (Zxh hβ hi hk),λi o k hi hl hk=>hr.vout i o k hi hl (Zxh hβ hi hk),hr.vlt,hr.vin,hr.vnew,hr.fr,hr.gl⟩;have ho:=hr.obj i o hi;cases o with
 | dead=>trivial
 | blk cs t =>obtain ⟨g,vs,h1,h2,h3⟩:=ho;exact ⟨g,vs,(hβ i (λl ts e=>by rw[hi] at e;cases e)).trans h1,h2,Zac.reβ hβ _ _ h3⟩
 | row xs e sz =>obtain ⟨vs,h1,h2⟩:=ho;exact ⟨vs,by rw[hβ i (λl ts e=>by rw[hi] at e;cases e)];exact h1,h2⟩
 | many l ts =>refine ⟨ho.1,ho.2.1,λt ht=>?_⟩;obtain ⟨o',ho',hb'⟩:=ho.2.2 t ht;refine ⟨o',ho',λhl=>?_⟩;have h1:=Ya7.1 hb _ (YaL hi);have h2:=Ya7.1 h1 t ht;rw[ho'] at h2;exact (hβ t.2 (λl ts e=>by rw[ho'] at e;injection e with e;subst e;cases h2)).trans (hb' hl)
end
theorem Zku {C C':Ctx} {hin h':Zad} {β β':Nat->Value} {V V':Nat->Prop} {w w':World} (hr:RelD C hin β V w) (hr':RelD C' h' β' V' w') (hM:∀i,ZkI h' i->β' i=β i) {m:Nat}:∀(l:List (Option Value)) (p:Nat),Zgd hin m p l->Zhp hin h' m p l ->
  ∀i,i < l.length->Zir hin h' β β' (p+i)
 | [],p,_,_,i,hi=>by simp at hi
 | v :: l,p,ht,hs,i,hi=>by
  have next:∀i,Zgd hin m (p+1) l->Zhp hin h' m (p+1) l->i+1 < (v :: l).length->Zir hin h' β β' (p+(i+1)):=λi a b hi=>by have:=Zku hr hr' hM l (p+1) a b i (by simpa using hi);rwa [show p+1+i=p+(i+1) from by omega] at this
  cases v with
  | some v =>
   simp only[Zgd] at ht;simp only[Zhp] at hs;cases i with
   | zero =>
    have h2:=hs.2.1;unfold Zs1 at h2;split at h2
    ·rename_i o o' ho ho';exact ⟨⟨o,o',ho,ho',h2.1,h2.2⟩,(Zxl hr' hs.1 ho' h2.2).trans (Zxl hr ht.1 ho (Zmm h2.1 h2.2)).symm⟩
    ·exact h2.elim
   | succ i=>exact next i ht.2 hs.2.2 hi
  | none =>
   simp only[Zgd] at ht;simp only[Zhp] at hs;cases i with
   | zero =>
    have hβ:=hM p hs.1;have h1:=ht.1;have h2:=hs.1;unfold ZkI at h1 h2;split at h1
    ·rename_i l1 t1 e1;split at h2
     ·rename_i l2 t2 e2;exact ⟨⟨_,_,e1,e2,trivial,rfl⟩,hβ⟩
     ·exact h2.elim
    ·exact h1.elim
   | succ i=>exact next i ht.2 hs.2 hi
theorem Zm4 {h h':Zad} {β β':Nat->Value} {V V':Nat->Prop} {w w':World} (g:Nat->Value):∀(l:List Nat) (p:Nat),Zac h β V w (Zij p l) (l.map g)->Zac h' β' V' w' (Zij p l) (l.map g)->Zfv h p l=true->Zfv h' p l=true ->
  ∀i,i < l.length->Zo8 h' (p+i)=true/\β' (p+i)=β (p+i)
 | [],p,_,_,_,_,i,hi=>by simp at hi
 | k :: l,p,hd,hd',hb,hb',i,hi=>by
  simp only[Zfv,Yaf] at hb hb';simp only[Zij,Yar,Zac] at hd hd';obtain ⟨v,us,e,h1,h2⟩:=hd;obtain ⟨v',us',e',h1',h2'⟩:=hd';injection e with e1 e2;injection e' with e1' e2';subst e1;subst e2;subst e1';subst e2';cases i with
  | zero =>refine ⟨hb'.1,?_⟩;obtain ⟨cs,t,q⟩:=ZiN hb.1;obtain ⟨cs',t',q'⟩:=ZiN hb'.1;simp only[Zaa,q,q'] at h1 h1';obtain ⟨a,ha,hv⟩:=h1;obtain ⟨a',ha',hv'⟩:=h1';rw[hv] at hv';injection hv' with hv';injection hv' with hv';injection hv' with hv';rw[Nat.add_zero,ha,ha',hv']
  | succ i =>have:=Zm4 g l (p+1) h2 h2' hb.2 hb'.2 i (by simpa using hi);rwa [show p+1+i=p+(i+1) from by omega] at this
theorem Zoc {h:Zad}:∀(l:List Nat) (p:Nat),Zfv h p l=true->∀i,i < l.length->Zo8 h (p+i)=true
 | [],p,_,i,hi=>by simp at hi
 | _ :: l,p,hb,i,hi=>by
  simp only[Zfv,Yaf] at hb;cases i with
  | zero=>exact hb.1
  | succ i =>have:=Zoc l (p+1) hb.2 i (by simpa using hi);rwa [show p+1+i=p+(i+1) from by omega] at this
theorem Zou {w w':World} {hin:Zad} {β:Nat->Value} {V:Nat->Prop} {ptrs:List Nat} {m:Nat} {nms:List (Option Value)} {a':Act} (hrel0:RelD ⟨w,ZfS hin β,V,G⟩ hin β V w) (htg:Zgd hin m ptrs.length nms) (hpb:Zfv hin 0 ptrs=true) (h0:Zac hin β V w (Zij 0 ptrs) (ptrs.map λk=>a'.tmps.getD k undef)) :
  ∀{st':St} {β':Nat->Value} {V':Nat->Prop} {R:D->Zad->Prop} {d:D} {v:Value},RelD ⟨w,ZfS hin β,V,G⟩ st'.h β' V' w'->ZbO st' β' V' w' a'->Zaa st'.h β' V' w' d v->orS (ZdO st'.h) (ToH ptrs hin m nms R st'.h st'.env d) (ZaE G d st'.h λd h=>ToH ptrs hin m nms R h st'.env d) ->
   ∃d' h' β'' V'',R d' h'/\RelD ⟨w,ZfS hin β,V,G⟩ h' β'' V'' w'/\Zaa h' β'' V'' w' d' v/\∀i,i < ptrs.length+nms.length->Zir hin h' β β'' i:=by
 intro st' β' V' R d v hrel he h3 hq;have hgh:∃(d0:D) (h0:Zad) (β0:Nat->Value) (V0:Nat->Prop),ToH ptrs hin m nms R h0 st'.env d0/\RelD ⟨w,ZfS hin β,V,G⟩ h0 β0 V0 w'/\Zaa h0 β0 V0 w' d0 v/\LeH st'.h β' h0 β0/\ZaB V' w' V0 w':=by
  rcases ZoV hq with hq | hq
  ·exact ⟨_,_,_,_,hq,hrel,h3,LeH.refl _ _,ZaB.refl _ _⟩
  ·exact hq ⟨w,ZfS hin β,V,G⟩ w' β' V' v rfl hrel h3
 obtain ⟨d0,h0g,β0,V0,⟨src,d',h',ht,hbk,hst,hQ⟩,hrel0',hd0',hle0,hmv0⟩:=hgh;have hv3:Zac h0g β0 V0 w' (d0 :: ptrs.map st'.env) (v :: ptrs.map λk=>a'.tmps.getD k undef):=by simp only[Zac];exact ⟨_,_,rfl,hd0',(Zac.at_map st'.env _ ptrs).2 (λk _=>Zaa.mono hle0 hmv0 _ _ (he k))⟩
 obtain ⟨h1,h2⟩:=ht.use hrel0' hv3;simp only[Zac] at h2;obtain ⟨v',us,e,h3,h4⟩:=h2;injection e with e1 e2;subst e1;subst e2;simp only[Yaf] at hbk;obtain ⟨hbk,htb⟩:=hbk;have hγ:∃γ:Nat->Value,(∀i,Zoi h' i->γ i=Za4 src β0 i)/\∀i,ZkI h' i->γ i=β i:=by
  refine ⟨λi=>match h'[i]? with | some (.many _ _)=>β i | _=>Za4 src β0 i,λi hn=>?_,λi hm=>?_⟩
  ·dsimp only;split
   ·rename_i l ts e;exact absurd e (hn l ts)
   ·rfl
  ·unfold ZkI at hm;dsimp only;split
   ·rfl
   ·rename_i hne;split at hm
    ·rename_i l ts e;exact absurd e (hne l ts)
    ·exact hm.elim
 obtain ⟨γ,hγ1,hγ2⟩:=hγ;refine ⟨d',h',γ,_,hQ,h1.reβ htb hγ1,Zaa.reβ hγ1 _ _ h3,λi hi=>?_⟩;by_cases hip:i < ptrs.length
 ·have:=Zm4 _ ptrs 0 h0 h4 hpb hbk i hip;rw[YaA] at this;obtain ⟨cs',t',q'⟩:=ZiN this.1;have hb0:Zo8 hin i=true:=by have:=Zoc ptrs 0 hpb i hip;rwa [YaA] at this
  obtain ⟨cs,t,q⟩:=ZiN hb0;exact ⟨⟨_,_,q,q',trivial,rfl⟩,(hγ1 i (λl ts e=>by rw[q'] at e;cases e)).trans this.2⟩
 ·have:=Zku hrel0 (h1.reβ htb hγ1) hγ2 nms ptrs.length htg hst (i - ptrs.length) (by omega);rwa [show ptrs.length+(i - ptrs.length)=i from by omega] at this
theorem Zuw (hT:TabOk P T) {f:FuncId} {fn:Func} {c:Code} (hf:P.funcs[f]?=some fn) (hb:fn.body=some c) (N:Nat) (hN:fn.ntmps=N) (hs:Ziq N (ZbC c)=true) (rs:List ResultVar) (hrs:fn.results.toList=rs)
  (args:List D) (hal:Nat.ble args.length N=true) (hin:Zad) (ptrs:List Nat) (hpa:ptrs.map (ZeO args)=Zij 0 ptrs) (hpb:Zfv hin 0 ptrs=true) (hpm:ptrs.all (λk=>!inL (ZbC c) k)=true)
  (m:Nat) (nms:List (Option Value)) (htg:Zgd hin m ptrs.length nms) (Q:Out->Prop) (hvc:∀(C:Ctx) (a:Act) (w:World),C.G=G->Rel C N ⟨ZeO args,hin,[]⟩ a w->c.wp P (λe a' w'=>Keeps (ZbC c) a a'/\∃x st',ZCo T G rs ptrs hin m nms Q x st'/\XOk e x st' a' w' C N) a w):CTH P G f (ptrs.length+nms.length) hin args Q:=by
 subst hN;subst hrs;intro w β V vals hrel0 hargs;have hlen:=hargs.len;have hal:=Yaw hal;refine calls_of_wp hf hb ?_;have hnth:∀(ds:List D) (vs:List Value),Zac hin β V w ds vs->∀i,Zaa hin β V w (nth .any ds i) (vs.getD i undef):=by
  intro ds
  induction ds with
  | nil=>intro vs _ i;simp only[nth,Zaa]
  | cons d ds ih =>
   intro vs h i;simp only[Zac] at h;obtain ⟨v,us,rfl,h1,h2⟩:=h;cases i with
   | zero=>simpa [nth] using h1
   | succ i=>simpa [nth] using ih us h2 i
 have henv:∀i,Zaa hin β V w (ZeO args i) (((⟨vals⟩:Array Value)++Array.replicate (fn.ntmps - (⟨vals⟩:Array Value).size) undef).getD i undef):=by
  intro i;have h1:=hnth args vals hargs i;have h2:((⟨vals⟩:Array Value)++Array.replicate (fn.ntmps - (⟨vals⟩:Array Value).size) undef).getD i undef=vals.getD i undef:=by
   rw[Yat,Yal];by_cases hi:i < vals.length
   ·rw[YbB (by simpa using hi)];simp
   ·rw[Ybz (by simp;omega),Ybs (by omega)];rw[Ya0];split<;>rfl
  rw[h2];exact h1
 have hr:Rel ⟨w,ZfS hin β,V,G⟩ fn.ntmps ⟨ZeO args,hin,[]⟩ { tmps:=(⟨vals⟩:Array Value)++Array.replicate (fn.ntmps - (⟨vals⟩:Array Value).size) undef,defers:=[] } w :=
  ⟨by simp;omega,rfl,β,V,hrel0,henv⟩
 have hlt:=ZcT hs;refine Code.wp_mono ?_ (hvc ⟨w,ZfS hin β,V,G⟩ _ w rfl hr);rintro e a' w' ⟨hkp,x,st',hq,hx⟩;have h0:Zac hin β V w (Zij 0 ptrs) (ptrs.map λk=>a'.tmps.getD k undef):=by
  rw[<- hpa,Yb4 (g:=λk=>((⟨vals⟩:Array Value)++Array.replicate (fn.ntmps - (⟨vals⟩:Array Value).size) undef).getD k undef) (λk hk=>hkp k (by
   have:=Ya7.1 hpm k hk;simpa using this))]
  exact (Zac.at_map (ZeO args) _ ptrs).2 (λk _=>henv k)
 have fin:=@Zou G w w' hin β V ptrs m nms a' hrel0 htg hpb h0;have ret:∀{st':St},Rel ⟨w,ZfS hin β,V,G⟩ fn.ntmps st' a' w'->(match Zms T st' fn.results.toList with | some ds=>Zb5 ds λds=>st'.df=[]/\orS (ZdO st'.h) (ToH ptrs hin m nms (λd h=>Q (.ret d h)) st'.h st'.env (Zf3 ds)) (ZaE G (Zf3 ds) st'.h λd h=>ToH ptrs hin m nms (λd h=>Q (.ret d h)) h st'.env d) | none=>False) ->
   a'.defers=[]/\∃v,(results fn a'.tmps).run P w'=.ok v w'/\ZzL G Q (ptrs.length+nms.length) hin β V w (.returned v) w':=by
  rintro st' ⟨_,hdf,β',V',hrel,he⟩ hq;cases hres:Zms T st' fn.results.toList with
  | none=>rw[hres] at hq;exact hq.elim
  | some ds =>rw[hres] at hq;simp only[ZaZ] at hq;obtain ⟨hd0,hq⟩:=hq;obtain ⟨v,hv1,hv2⟩:=ZcC hT hrel he hres;simp only[Zac] at hv2;obtain ⟨v',us,e,h3,_⟩:=hv2;injection e with e1 e2;subst e1;exact ⟨hdf.trans hd0,v,hv1,fin hrel he h3 hq⟩
 cases e with
 | normal =>
  cases x<;>try exact hx.elim
  exact ret hx hq
 | ret =>
  cases x<;>try exact hx.elim
  exact ret hx hq
 | panic ch =>
  cases x<;>try exact hx.elim
  obtain ⟨t,u,hch,hsz,hdf,β',V',hrel,he,hd⟩:=hx;obtain ⟨hd0,hq⟩:=hq;obtain ⟨d',h',β'',V'',q1,q2,q3,q4⟩:=fin hrel he hd hq;exact ⟨hdf.trans hd0,d',h',t,u,β'',V'',hch,q1,q2,q3,q4⟩
 | exit i=>cases x<;>first | exact hx.elim | exact hq.elim
 | goto l=>cases x<;>exact hx.elim
 | outgrown=>cases x<;>exact hx.elim
theorem ZbT (tn:List Nat) (hT:TabOk P T) (hF:∀g,F g=true->fnOk P g=true) (hM:Mix P) {f:FuncId} {fn:Func} {c:Code} (hf:P.funcs[f]?=some fn) (hb:fn.body=some c) (N:Nat) (hN:fn.ntmps=N) (hs:Ziq N (ZbC c)=true) (rs:List ResultVar) (hrs:fn.results.toList=rs)
  (args:List D) (hal:Nat.ble args.length N=true) (hin:Zad) (ptrs:List Nat) (hpa:ptrs.map (ZeO args)=Zij 0 ptrs) (hpb:Zfv hin 0 ptrs=true) (hpm:ptrs.all (λk=>!inL (ZbC c) k)=true)
  (m:Nat) (nms:List (Option Value)) (htg:Zgd hin m ptrs.length nms) (Q:Out->Prop) (h:vcT P T F G N tn c ⟨ZeO args,hin,[]⟩ (ZCo T G rs ptrs hin m nms Q)):CTH P G f (ptrs.length+nms.length) hin args Q:=by subst hN;refine Zuw hT hf hb fn.ntmps rfl hs rs hrs args hal hin ptrs hpa hpb hpm m nms htg Q (λC a w hG hr=>?_);subst hG;exact ZmA hT hF hM.ok c tn (ZbC c) (ZcT hs) (λk hk=>ZbY.2 hk) C _ a w _ h hr
theorem Zbl {h:Zad} {x d:D} (hl:conv h [] 4 x=d\/ZiV (Zjs []) 4 (conv h [] 4 x) d):Zbk (Is d) h x :=
 ⟨[],d,[],⟨rfl,.inl rfl,by rcases hl with rfl | hl;exact .inl rfl;exact .inr ⟨hl,trivial⟩,rfl⟩,rfl⟩
theorem ZBU {Q:Out->Prop} {h:Zad} {x:D} (d:D) (hl:conv h [] 4 x=d\/ZiV (Zjs []) 4 (conv h [] 4 x) d) (q:Q (.ret d [])):Zbk Q h x :=
 ⟨[],d,[],⟨rfl,.inl rfl,by rcases hl with rfl | hl;exact .inl rfl;exact .inr ⟨hl,trivial⟩,rfl⟩,q⟩
theorem ZmY {h:Zad} {p q:Prop} (e:p↔q):Zbk (Is (.pb q)) h (.pb p):=Zbl (.inr (.inr e))
theorem Zyz {h:Zad} {p q:Prop} (e:¬p↔q):Zbk (Is (.pb q)) h (.pn p):=Zbl (.inr (.inr e))
theorem ZCq {h:Zad} {b:Bool} {q:Prop} (e:b=true↔q):Zbk (Is (.pb q)) h (.g (.bool b)):=Zbl (.inr (.inr e))
theorem ZCp {h:Zad} {q:Prop} (e:q):Zbk (Is (.pb q)) h (.g (.bool true)):=ZCq ⟨λ_=>e,λ_=>rfl⟩
theorem Zvg {h:Zad} {q:Prop} (e:¬q):Zbk (Is (.pb q)) h (.g (.bool false)):=ZCq ⟨λh=>absurd h (by decide),λh=>absurd h e⟩
theorem ZbQ {h:Zad} {a b:Int} (e:a=b):Zbk (Is (.g (.int b))) h (.g (.int a)):=by subst e;exact Zbl (.inl rfl)
theorem retS {h:Zad} {a b:List UInt8} (e:a=b):Zbk (Is (.g (.str b))) h (.g (.str a)):=by subst e;exact Zbl (.inl rfl)
theorem Zti {Q:Out->Prop} {h:Zad} {i:Nat} {xs ys:List (List GV)} {e sz:Nat} (hi:h[i]?=some (.row xs e sz)) (hx:xs=ys) (q:Q (.ret (.row 0) [.row ys e sz])):Zbk Q h (.row i):=by
 subst hx;have hkp:kp [.old i] 0 i=some 0:=by simp[kp]
 refine ⟨[.old i],.row 0,[.row xs e sz],⟨rfl,.inl ?_,.inl ?_,rfl⟩,q⟩
 ·simp only[Zbu,Yar,YaS,Za7,hi]
 ·simp only[Yar,YaS,conv,hkp]
theorem ZCQ {Q:Out->Prop} {h:Zad} {x:D} (d:D) (hl:conv h [] 4 x=d) (q:Q (.pan d)):Zoh Q h x :=
 ⟨d,⟨rfl,.inl rfl,.inl (by rw[<- hl];rfl),rfl⟩,q⟩
theorem Zae {g:FuncId} {ds as:List D} {d:D} {K:D->Zad->Prop} {Kp:D->Prop} (hl:ZdX ds as) (hc:CT P G g as (Is d)) (hk:K d []) :
  ∃as Q,ZdX ds as/\CT P G g as Q/\(∀d h',Q (.ret d h')->K d h')/\(∀d,Q (.pan d)->Kp d) :=
 ⟨as,Is d,hl,hc,λd' h' hq=>by injection hq with e1 e2;subst e1;subst e2;exact hk,λd' hq=>by cases hq⟩
theorem ZBm {g:FuncId} {ds as:List D} {Q:Out->Prop} {K:D->Zad->Prop} {Kp:D->Prop} (hl:ZdX ds as) (hc:CT P G g as Q) (hk:∀d h',Q (.ret d h')->K d h') (hp:∀d,Q (.pan d)->Kp d) :
  ∃as Q,ZdX ds as/\CT P G g as Q/\(∀d h',Q (.ret d h')->K d h')/\(∀d,Q (.pan d)->Kp d) :=
 ⟨as,Q,hl,hc,hk,hp⟩
theorem gm {α β:Type} {f:α->β} {l:List α} {i:Nat} (h:i < l.length):(l.map f)[i]?=some (f l[i]):=by simp[h]
theorem ge {α:Type} {l:List α} {i:Nat} (h:i < l.length):l[i]?=some l[i]:=by simp[h]
theorem Zay {α:Type} {l:List α} {i:Nat} (h:i < l.length):l.take (i+1)=l.take i++[l[i]]:=Ycd h
end
end Go.Dm
namespace Go.Dm
open Go Go.Eng Go.RowKit Go.ChangeShapes Go.WideShapes Go.Deep
def ZbA (P:Program):Nat->TypeId->GV->Prop
 | 0,_,_=>False
 | f+1,t,g=>match P.underlying t with
  | some (.int .i64)=>∃n,g=.int n/\-9223372036854775808<=n/\n<=9223372036854775807
  | some .string=>∃l,g=.str l/\l.length<=reachBytes
  | some .bool=>∃b,g=.bool b
  | some (.slice e)=>∃xs,g=.sl (P.cellsOf e) xs/\xs.length*P.bytesOf e<=reachBytes/\∀r∈xs,match P.underlying e with
   | some (.struct fs)=>r.length=fs.size/\∀(i:Nat) (fd:Field) (g:GV),fs[i]?=some fd->r[i]?=some g->ZbA P f fd.type g
   | _=>∃g,r=[g]/\ZbA P f e g
  | _=>False
def Zdt (P:Program) (f:Nat) (t:TypeId) (r:List GV):Prop:=match P.underlying t with
 | some (.struct fs)=>r.length=fs.size/\∀(i:Nat) (fd:Field) (g:GV),fs[i]?=some fd->r[i]?=some g->ZbA P f fd.type g
 | _=>∃g,r=[g]/\ZbA P f t g
def ZoS (P:Program) (S:List TypeId) (t:TypeId):Bool :=
 match P.underlying t with
 | some (.int k)=>decide (k=.i64) && P.cellsOf t == 1
 | some .string=>P.cellsOf t == 1
 | some .bool=>P.cellsOf t == 1
 | some (.slice e)=>S.contains e && P.cellsOf t == 1 && !(P.cellsOf e == 0)
 | some (.struct fs)=>oneCellFields P fs && P.cellsOf t == fs.size && fs.toList.all λf=>S.contains f.type && !(match P.underlying f.type with | some (.struct _)=>true | _=>false)
 | _=>false
def ZgT (P:Program) (S:List TypeId):Bool:=S.all (ZoS P S)
theorem Zf4 {H:Type} {P:Program} {e:TypeId}:∀{l:List (DataW H)} {d:DataW H} {n:Nat},d∈l->n∈d.weights P e->n∈DataW.weightsAll P e l
 | [],_,_,h,_=>by simp at h
 | x :: l,d,n,h,hn=>by
  simp only[DataW.weightsAll,Yao];rcases Yav.1 h with rfl | h
  ·exact .inl hn
  ·exact .inr (Zf4 h hn)
theorem Zfd {H:Type} {P:Program}:∀{ts:List TypeId} {l:List (DataW H)} {i:Nat} {t:TypeId} {d:DataW H} {n:Nat},ts[i]?=some t->l[i]?=some d->n∈d.weights P t->n∈DataW.weightsEach P ts l
 | [],_,i,_,_,_,h,_,_=>by simp at h
 | _ :: _,[],i,_,_,_,_,h,_=>by simp at h
 | t :: ts,x :: l,0,_,_,n,h,h',hn=>by simp at h h';subst h;subst h';simp only[DataW.weightsEach,Yao];exact .inl hn
 | t :: ts,x :: l,i+1,_,_,n,h,h',hn=>by simp only[DataW.weightsEach,Yao];exact .inr (Zfd (i:=i) (by simpa using h) (by simpa using h') hn)
theorem Za9.one {V:Nat->Prop} {w:World} {g:GV} {v:Value} (h:ZaW V w g v):Za9 V w [g] [v]:=⟨h,trivial⟩
theorem Ztm {V:Nat->Prop} {w:World}:∀(cs:List Value) (f:Nat->Value->GV->Prop),(∀(i:Nat) (v:Value),cs[i]?=some v->∃g,f i v g/\ZaW V w g v)->∃gs,Za9 V w gs cs/\gs.length=cs.length/\∀(i:Nat) (v:Value) (g:GV),cs[i]?=some v->gs[i]?=some g->f i v g
 | [],_,_=>⟨[],trivial,rfl,λi v g h=>by simp at h⟩
 | c :: cs,f,h=>by
  obtain ⟨g,hf,hg⟩:=h 0 c rfl;obtain ⟨gs,h1,h2,h3⟩:=Ztm cs (λi=>f (i+1)) (λi v hi=>h (i+1) v (by simpa using hi));refine ⟨g :: gs,⟨hg,h1⟩,by simp[h2],λi v g' hi hg'=>?_⟩;cases i with
  | zero=>simp at hi hg';subst hi;subst hg';exact hf
  | succ i=>exact h3 i v g' (by simpa using hi) (by simpa using hg')
theorem Zos {P:Program}:∀(f:Nat) (t:TypeId) (g:GV),ZbA P f t g->ZbA P (f+1) t g:=by
 intro f
 induction f with
 | zero=>intro t g h;exact h.elim
 | succ f ih =>
  intro t g h;unfold ZbA at h ⊢;split at h
  ·exact h
  ·exact h
  ·exact h
  ·obtain ⟨xs,rfl,hl,hx⟩:=h;refine ⟨xs,rfl,hl,λr hr=>?_⟩;have:=hx r hr;split at this
   ·exact ⟨this.1,λi fd g hi hg=>ih _ _ (this.2 i fd g hi hg)⟩
   ·obtain ⟨g,rfl,hg⟩:=this;exact ⟨g,rfl,ih _ _ hg⟩
  ·exact h.elim
section
variable {H:Type} {enc:TypeId × Value->H} {P:Program} {w:World}
theorem ZoO {S:List TypeId} (hS:ZgT P S=true):∀(fuel:Nat) (t:TypeId) (cs:List Value) (x:DataW H × List MemPlace),t∈S->(∀n∈x.1.weights P t,n<=reachBytes)->DataW.trod enc P w 0 (λ_=>true) true fuel t cs=some x ->
  ∃gs,Zdt P fuel t gs/\Za9 (λk=>k < w.heap.size) w gs cs:=by
 intro fuel
 induction fuel with
 | zero=>intro t cs x _ _ h;simp[DataW.trod] at h
 | succ n ih =>
  intro t cs x ht hwt h;have hp:=Ya7.1 hS t ht;unfold ZoS at hp;unfold Zdt;split at hp
  ·rename_i k hu;simp only[Yaf,decide_eq_true_eq] at hp;obtain ⟨rfl,_⟩:=hp;obtain ⟨m,rfl,_,hwf⟩:=DataW.trod_int hu h;rw[hu];have hb:-9223372036854775808<=m/\m<=9223372036854775807:=by simpa [Lit.wf,IntKind.min,IntKind.max,IntKind.signed,IntKind.bits] using hwf
   exact ⟨[.int m],⟨.int m,rfl,by simp only[ZbA,hu];exact ⟨m,rfl,hb⟩⟩,Za9.one (by simp[ZaW])⟩
  ·rename_i hu;obtain ⟨s,rfl,hx,_⟩:=DataW.trod_string hu h;have hs:s.data.toList.length<=reachBytes:=hwt _ (by rw[hx];simp[DataW.weights]);rw[hu];exact ⟨[.str s.data.toList],⟨_,rfl,by simp only[ZbA,hu];exact ⟨_,rfl,hs⟩⟩,Za9.one (by simp[ZaW])⟩
  ·rename_i hu;obtain ⟨b,rfl,_⟩:=DataW.trod_bool hu h;rw[hu];exact ⟨[.bool b],⟨_,rfl,by simp only[ZbA,hu];exact ⟨_,rfl⟩⟩,Za9.one (by simp[ZaW])⟩
  ·rename_i e hu;simp only[Yaf,YaN,beq_iff_eq,beq_eq_false_iff_ne] at hp;obtain ⟨⟨heS,_⟩,hne⟩:=hp;have heS:e∈S:=by simpa using heS
   rw[hu];rcases DataW.trod_slice hu h with ⟨rfl,_⟩ | ⟨a,len,cap,elems,rest,n',hfu,rfl,rfl,_,hlc,hcm,hel,hcell,_,_⟩
   ·refine ⟨[.sl (P.cellsOf e) []],⟨_,rfl,?_⟩,Za9.one ?_⟩
    ·simp only[ZbA,hu];exact ⟨[],rfl,by simp,λr hr=>by simp at hr⟩
    ·simp only[ZaW];exact ⟨none,0,rfl,Yax _,λh=>by simp at h,λ_=>rfl⟩
   ·injection hfu with hfu;subst hfu;simp only[DataW.weights,hu,Yav,Yao,forall_eq_or_imp,Yab] at hwt;have key:∀i,i < len->∃gs cs',Zdt P n e gs/\Za9 (λk=>k < w.heap.size) w gs cs'/\cs'.length=P.cellsOf e/\∀j v,cs'[j]?=some v->w.cell? ((a.add (i*P.cellsOf e)).add j)=some v:=by
     intro i hi;have hc:=hcell i hi;rw[Yaq (by omega)] at hc;obtain ⟨cs',hcs,htr⟩:=Option.bind_eq_some_iff.1 hc;obtain ⟨_,hl,hat⟩:=World.cells?_some hcs;obtain ⟨gs,hg1,hg2⟩:=ih e cs' _ heS (λn hn=>hwt.2 n (.inl (Zf4 (YaW.2 ⟨_,Yah _,rfl⟩) hn))) htr;refine ⟨gs,cs',hg1,hg2,hl,λj v hj=>?_⟩;have hjl:j < P.cellsOf e:=by rw[<- hl];exact (Yaa.1 hj).1
     rw[hat j hjl,hj]
    have build:∀(m k:Nat),k+m<=len->∃xs:List (List GV),xs.length=m/\(∀r∈xs,Zdt P n e r)/\Zav (λk=>k < w.heap.size) w (P.cellsOf e) a k xs:=by
     intro m
     induction m with
     | zero=>intro k _;exact ⟨[],rfl,λr hr=>by simp at hr,by simp[Zav]⟩
     | succ m ihm =>
      intro k hk;obtain ⟨xs,h1,h2,h3⟩:=ihm (k+1) (by omega);obtain ⟨gs,cs',g1,g2,g3,g4⟩:=key k (by omega);refine ⟨gs :: xs,by simp[h1],λr hr=>?_,?_⟩
      ·rcases Yav.1 hr with rfl | hr
       ·exact g1
       ·exact h2 r hr
      ·simp only[Zav];have rowl:∀(gs:List GV) (cs:List Value) (i:Nat),Za9 (λk=>k < w.heap.size) w gs cs->(∀j v,cs[j]?=some v->w.cell? ((a.add (k*P.cellsOf e)).add (i+j))=some v)->gs.length=cs.length/\ZaG (λk=>k < w.heap.size) w a (k*P.cellsOf e+i) gs:=by
        intro gs
        induction gs with
        | nil=>intro cs i hr _;cases cs with | nil=>exact ⟨rfl,by simp[ZaG]⟩ | cons c cs=>exact hr.elim
        | cons g gs ihg =>
         intro cs i hr hc;cases cs with
         | nil=>exact hr.elim
         | cons c cs =>
          obtain ⟨hl,hrow⟩:=ihg cs (i+1) hr.2 (λj v hj=>by
           have:=hc (j+1) v (by simpa using hj);rwa [show i+(j+1)=i+1+j from by omega] at this)
          refine ⟨by simp[hl],?_⟩;simp only[ZaG];refine ⟨⟨c,?_,hr.1⟩,by rwa [show k*P.cellsOf e+i+1=k*P.cellsOf e+(i+1) from by omega]⟩;have:=hc 0 c rfl;rwa [ZgB,Nat.add_zero] at this
       obtain ⟨hl,hrow⟩:=rowl gs cs' 0 g2 (λj v hj=>by rw[YaA];exact g4 j v hj);exact ⟨⟨by omega,by simpa using hrow⟩,h3⟩
    obtain ⟨xs,hx1,hx2,hx3⟩:=build len 0 (by omega);refine ⟨[.sl (P.cellsOf e) xs],⟨_,rfl,?_⟩,Za9.one ?_⟩
    ·simp only[ZbA,hu];exact ⟨xs,rfl,by rw[hx1,<- hel];exact YaB (YaQ _ (Nat.le_add_right _ _)) hwt.1,λr hr=>hx2 r hr⟩
    ·simp only[ZaW];refine ⟨some a,cap,by rw[hx1],by omega,λh0=>⟨a,rfl,?_,hx3⟩,λe=>(by cases e)⟩;obtain ⟨gs,cs',_,_,hl,hat⟩:=key 0 (by omega);have h1:cs'[0]?=some (cs'[0]'(by omega)):=Yaq (by omega);have:=World.block_lt_of_cell? w _ (hat 0 _ h1);rwa [Zfx,Zfx] at this
  ·rename_i fs hu;simp only[Yaf,beq_iff_eq] at hp;obtain ⟨⟨hone,hsz⟩,hall⟩:=hp;obtain ⟨ys,n',hfu,rfl,hlen,hyl,hf⟩:=DataW.trod_struct hu h;injection hfu with hfu;subst hfu;simp only[DataW.weights,hu] at hwt;rw[hu];have hcl:cs.length=fs.size:=hlen.trans hsz;obtain ⟨gs,h1,h2,h3⟩:=Ztm (V:=λk=>k < w.heap.size) (w:=w) cs (λi v g=>∀fd,fs[i]?=some fd->ZbA P (n+1) fd.type g) (by
    intro i v hi;have hil:i < fs.size:=by rw[<- hcl];exact (Yaa.1 hi).1
    obtain ⟨fd,hfd⟩:∃fd,fs[i]?=some fd:=⟨fs[i],YaI hil⟩;obtain ⟨ho,hk⟩:=hone_of hone i fd hfd;have ht':=hf i fd hfd;rw[ho,hk] at ht';have h1v:(cs.drop i).take 1=[v]:=by obtain ⟨hil',he⟩:=Yaa.1 hi;rw[Ybh hil',he];rfl
    rw[h1v,Yaq (by omega)] at ht';have hfm:=Ya7.1 hall fd (by rw[Ya1] at hfd;obtain ⟨hh,he⟩:=hfd;rw[<- he];simp);simp only[Yaf,YaN] at hfm;have hns:∀fs',P.underlying fd.type≠some (.struct fs'):=λfs' e=>by rw[e] at hfm;exact absurd hfm.2 (by simp)
    obtain ⟨gs,hg,hr⟩:=ih fd.type [v] _ (by simpa using hfm.1) (λn hn=>hwt n (Zfd (i:=i) (t:=fd.type) (by rw[YaC,Array.getElem?_toList,hfd];rfl) (by rw[YaC,Yaq (by omega)];rfl) hn)) ht';unfold Zdt at hg;split at hg
    ·rename_i fs' hu';exact absurd hu' (hns fs')
    ·obtain ⟨g,rfl,hg⟩:=hg;refine ⟨g,λfd' hfd'=>?_,hr.1⟩;rw[hfd] at hfd';injection hfd' with e;subst e;exact Zos _ _ _ hg)
   exact ⟨gs,⟨by rw[h2,hcl],λi fd g hi hg=>by
    have hil:i < cs.length:=by rw[hcl];exact (Ya1.1 hi).1
    exact h3 i _ g (Yaq hil) hg fd hi⟩,h1⟩
  ·cases hp
end
attribute [irreducible] ZbA Zdt
end Go.Dm
