/-
  The second engine, eleventh part: code. It holds of every program whose table of types is met.
-/
import Derived.Test.YtjkplhnbiejefaaDoorDa3
import Derived.ChangeArms
import Derived.Deep.Fields
import Derived.ProofKit
namespace Go.Dm
open Go Go.Eng Go.RowKit

def vc (P:Program) (T:Tab) (F:FuncId→Bool) (G:Gl) (n:Nat):Code→St→Post→Prop
 | .skip,st,Q=>Q .normal st
 | .region _ ops false,st,Q=>vcOps P T F G ops (Q .normal) Q ops.toList st
 | .region _ ops true,⟨env,h,df⟩,Q=>∃ pp:Option Nat,vcDx P T F G ops Q pp env h df
 | .seq x y,st,Q=>vc P T F G n x st (fun e st'=>match e with | .normal=>vc P T F G n y st' Q | e=>Q e st')
 | .cond c x y,st,Q=>bcase (sv G st c) (vc P T F G n x st Q) (vc P T F G n y st Q)
 | .block id x,st,Q=>vc P T F G n x st (fun e st'=>match e with | .exit i=>bif Nat.beq i id then Q .normal st' else Q (.exit i) st' | e=>Q e st')
 | .loop x,st,Q=>LoopP G n (vc P T F G n x) (mods x) st Q
 | .exit id,st,Q=>Q (.exit id) st
 | .ret,st,Q=>Q .ret st
 | _,_,_=>False

section
variable {P:Program} {T:Tab} {F:FuncId→Bool} {C:Ctx} {n:Nat}

theorem vc_sound (hT:TabOk P T) (hF:∀ g,F g=true→fnOk P g=true) (hM:P.follows .mixedOrders=true):∀ (c:Code) (S:List Nat),(∀ k∈mods c,k < n)→(∀ k∈mods c,inL S k=true)→∀ (C:Ctx) (st:St) (a:Act) (w:World) (Q:Post),vc P T F C.G n c st Q→Rel C n st a w →
  c.wp P (fun e a' w'=>Keeps S a a'∧∃ x st',Q x st'∧XOk e x st' a' w' C n) a w:=by
 intro c
 induction c with
 | skip=>intro S _ _ C st a w Q h hr;exact wp_skip ⟨Keeps.refl _ _,.normal,st,h,hr⟩
 | region id ops draw =>
  intro S hs hm C st a w Q h hr
  cases draw with
  | true =>
   obtain ⟨env,hp,df⟩:=st
   exact draw_sound hT hF hM S hs hm h hr
  | false =>
   refine wp_region_list (ops_sound hT hF (K:=Q .normal) (Q:=Q) (a0:=a) (S:=S) (fun st a w hq hr hk=>⟨hk,.normal,st,hq,hr⟩) (fun d st ch a w hq hx hk=>⟨hk,.pan d,st,hq,hx⟩) ops.toList (fun o ho d hd=>?_) st a w h hr (Keeps.refl _ _))
   have:d∈mods (.region id ops false):=by simp only[mods,List.mem_filterMap];exact ⟨o,ho,hd⟩
   exact ⟨hs d this,hm d this⟩
 | seq x y ihx ihy =>
  intro S hs hm C st a w Q h hr
  simp only[mods,List.mem_append] at hs hm
  refine wp_seq (Code.wp_mono ?_ (ihx S (fun k hk=>hs k (.inl hk)) (fun k hk=>hm k (.inl hk)) C st a w _ h hr))
  rintro e a' w' ⟨hk,x,st',hq,hx⟩
  cases e with
  | normal =>
   cases x<;>try exact hx.elim
   refine Code.wp_mono ?_ (ihy S (fun k hk=>hs k (.inr hk)) (fun k hk=>hm k (.inr hk)) C st' a' w' Q hq hx)
   rintro e a'' w'' ⟨hk',rest⟩
   exact ⟨hk.trans hk',rest⟩
  | exit i=>cases x<;>first | exact hx.elim | exact ⟨hk,_,st',hq,hx⟩
  | ret=>cases x<;>first | exact hx.elim | exact ⟨hk,_,st',hq,hx⟩
  | panic ch=>cases x<;>first | exact hx.elim | exact ⟨hk,_,st',hq,hx⟩
  | goto l=>cases x<;>exact hx.elim
  | outgrown=>cases x<;>exact hx.elim
 | cond c x y ihx ihy =>
  intro S hs hm C st a w Q h hr
  simp only[mods,List.mem_append] at hs hm
  obtain ⟨hsz,hdf,β,V,hrel,he⟩:=hr
  obtain ⟨b,hv,ht,hf⟩:=bcase.use h (he.eval hrel.gl c)
  refine wp_cond hv ?_
  cases b with
  | true=>exact ihx S (fun k hk=>hs k (.inl hk)) (fun k hk=>hm k (.inl hk)) C st a w Q (ht rfl) ⟨hsz,hdf,β,V,hrel,he⟩
  | false=>exact ihy S (fun k hk=>hs k (.inr hk)) (fun k hk=>hm k (.inr hk)) C st a w Q (hf rfl) ⟨hsz,hdf,β,V,hrel,he⟩
 | block id x ih =>
  intro S hs hm C st a w Q h hr
  refine wp_block (Code.wp_mono ?_ (ih S hs hm C st a w _ h hr))
  rintro e a' w' ⟨hk,x,st',hq,hx⟩
  cases e with
  | exit i =>
   cases x<;>try exact hx.elim
   obtain ⟨rfl,hx⟩:=hx
   simp only[Exit.inBlock]
   by_cases hi:i=id
   ·subst hi
    rw[if_pos rfl]
    simp only[Nat.beq_refl,cond_true] at hq
    exact ⟨hk,_,st',hq,hx⟩
   ·rw[if_neg hi]
    have:Nat.beq i id=false:=beq_ne hi
    simp only[this,cond_false] at hq
    exact ⟨hk,_,st',hq,rfl,hx⟩
  | normal=>cases x<;>first | exact hx.elim | exact ⟨hk,_,st',hq,hx⟩
  | ret=>cases x<;>first | exact hx.elim | exact ⟨hk,_,st',hq,hx⟩
  | panic ch=>cases x<;>first | exact hx.elim | exact ⟨hk,_,st',hq,hx⟩
  | goto l=>cases x<;>exact hx.elim
  | outgrown=>cases x<;>exact hx.elim
 | loop x ih =>
  intro S hs hm C st a w Q h hr
  obtain ⟨ι,I,μ,hstart,hround⟩:=h
  obtain ⟨hsz,hdf,β,V,hrel,he⟩:=hr
  let C':Ctx:=⟨w,fun k=>∃ i o,st.h[i]?=some o∧o.live=true∧Bk o (β i) k,V,C.G⟩
  have hrel':RelD C' st.h β V w:=base_start hrel
  have hr':Rel C' n st a w:=⟨hsz,hdf,β,V,hrel',he⟩
  have back:∀ e y st2 a2 w2,XOk e y st2 a2 w2 C' n→XOk e y st2 a2 w2 C n:=by
   intro e y st2 a2 w2 hx
   have key:∀ st2 a2 w2,Rel C' n st2 a2 w2→Rel C n st2 a2 w2:=fun st2 a2 w2 ⟨h1,h2,β2,V2,h3,h4⟩=>⟨h1,h2,β2,V2,rebase hrel h3,h4⟩
   cases e<;>cases y<;>try exact hx.elim
   ·exact key _ _ _ hx
   ·exact ⟨hx.1,key _ _ _ hx.2⟩
   ·exact key _ _ _ hx
   ·obtain ⟨t,u,h0,h1,h2,β2,V2,h3,h4,h5⟩:=hx
    exact ⟨t,u,h0,h1,h2,β2,V2,rebase hrel h3,h4,h5⟩
  have hbase:∀ a',Keeps (mods x) a a'→Base C' st (mods x) a':=fun a' hk=>⟨fun k hv ⟨i,o,h1,h2,h3⟩=>hrel.vout i o k h1 h2 h3 hv,hrel.vlt,a,β,he,hk⟩
  let J:ι→Act→World→Prop:=fun i a' w'=>∃ st1,I i st1∧Rel C' n st1 a' w'∧Keeps (mods x) a a'∧Keeps S a a'
  obtain ⟨i0,st0,hr0,hI0⟩:=hstart C' a w rfl hr'
  classical
  have least:∀ (a':Act) (w':World),(∃ i,J i a' w')→∃ i,J i a' w'∧∀ j,J j a' w'→μ i≤μ j:=by
   intro a' w' hex
   have wf:∀ m,∀ i,μ i=m→J i a' w'→∃ i,J i a' w'∧∀ j,J j a' w'→μ i≤μ j:=by
    intro m
    induction m using Nat.strongRecOn with
    | _ m ihm =>
     intro i hi hJ
     by_cases hall:∀ j,J j a' w'→μ i≤μ j
     ·exact ⟨i,hJ,hall⟩
     ·have ⟨j,hj⟩:=Classical.not_forall.1 hall
      have ⟨hJj,hlt⟩:=Classical.not_imp.1 hj
      exact ihm (μ j) (by omega) j rfl hJj
   obtain ⟨i,hi⟩:=hex
   exact wf _ i rfl hi
  let ν:Act→World→Nat:=fun a' w'=>if hex:∃ i,J i a' w' then μ (Classical.choose (least a' w' hex)) else 0
  have hν:∀ a' w',(∃ i,J i a' w')→∃ i,J i a' w'∧ν a' w'=μ i:=by
   intro a' w' hex
   refine ⟨Classical.choose (least a' w' hex),(Classical.choose_spec (least a' w' hex)).1,?_⟩
   simp only[ν,dif_pos hex]
  have hνle:∀ a' w' j,J j a' w'→ν a' w'≤μ j:=by
   intro a' w' j hj
   have hex:∃ i,J i a' w':=⟨j,hj⟩
   simp only[ν,dif_pos hex]
   exact (Classical.choose_spec (least a' w' hex)).2 j hj
  refine wp_loop (fun a' w'=>∃ i,J i a' w') ν ⟨i0,st0,hI0,hr0,Keeps.refl _ _,Keeps.refl _ _⟩ ?_
  intro a1 w1 hex
  obtain ⟨i,⟨st1,hI,hr1,hk1,hk2⟩,hνi⟩:=hν a1 w1 hex
  have hb:=ih (mods x) hs (fun k hk=>inL_iff.2 hk) C' st1 a1 w1 _ (hround i st1 hI) hr1
  refine Code.wp_mono ?_ hb
  rintro e a2 w2 ⟨hk,y,st2,hq,hx⟩
  have hkS:Keeps S a1 a2:=fun k hk'=>hk k (by
   cases h:inL (mods x) k with
   | false=>rfl
   | true=>rw[hm k (inL_iff.1 h)] at hk';cases hk')
  cases e with
  | normal =>
   cases y<;>try exact hx.elim
   obtain ⟨i',st3,hr3,hI3,hlt⟩:=hq C' a2 w2 rfl hx (hbase a2 (hk1.trans hk))
   have hJ:J i' a2 w2:=⟨st3,hI3,hr3,hk1.trans hk,hk2.trans hkS⟩
   refine ⟨⟨i',hJ⟩,?_⟩
   have:=hνle a2 w2 i' hJ
   rw[hνi]
   omega
  | exit j=>cases y<;>first | exact hx.elim | exact ⟨hk2.trans hkS,_,st2,hq,back _ _ _ _ _ hx⟩
  | ret=>cases y<;>first | exact hx.elim | exact ⟨hk2.trans hkS,_,st2,hq,back _ _ _ _ _ hx⟩
  | panic ch=>cases y<;>first | exact hx.elim | exact ⟨hk2.trans hkS,_,st2,hq,back _ _ _ _ _ hx⟩
  | goto l=>cases y<;>exact hx.elim
  | outgrown=>cases y<;>exact hx.elim
 | exit id=>intro S _ _ C st a w Q h hr;exact wp_exit ⟨Keeps.refl _ _,.exit id,st,h,rfl,hr⟩
 | ret=>intro S _ _ C st a w Q h hr;exact wp_ret ⟨Keeps.refl _ _,.ret,st,h,hr⟩
 | _=>intro S _ _ C st a w Q h hr;exact h.elim
end
end Go.Dm
/-
  The second engine, twelfth part: the rule for loops, and the entering of a function. It holds of every program whose table of types is met.
-/
namespace Go.Dm
open Go Go.Eng Go.RowKit

def hav (S:List Nat) (e0:Env):Env:=fun k=>bif inL S k then .any else bif closed 4 (e0 k) then e0 k else .any
def Env.many (b:Env):List (Nat × D)→Env
 | []=>b
 | (t,x) :: l=>(Env.many b l).set t x

theorem many_at (b:Env):∀ (l:List (Nat × D)) (k:Nat),(∃ x,(k,x)∈l∧Env.many b l k=x)∨((∀ x,(k,x) ∉ l)∧Env.many b l k=b k)
 | [],k=>.inr ⟨fun x h=>by simp at h,rfl⟩
 | (t,x) :: l,k=>by
  by_cases hk:k=t
  ·subst hk
   exact .inl ⟨x,List.mem_cons_self,by simp[Env.many,Env.set]⟩
  ·have hb:Nat.beq k t=false:=beq_ne hk
   rcases many_at b l k with ⟨y,hy,he⟩ | ⟨hno,he⟩
   ·exact .inl ⟨y,List.mem_cons_of_mem _ hy,by simp[Env.many,Env.set,hb,he]⟩
   ·refine .inr ⟨fun y hy=>?_,by simp[Env.many,Env.set,hb,he]⟩
    rcases List.mem_cons.1 hy with h | h
    ·injection h with h1 h2;exact hk h1
    ·exact hno y h

section
variable {G:Gl} {n:Nat}

abbrev Heads (env:Env) (h:Heap) (src:List Src) (val:List (Nat × D)) (h':Heap):Prop:=TurnTo h src (val.map fun p=>env p.1) h' (val.map (·.2))

structure Again {ι:Type} (val:ι→List (Nat × D)) (hpI:ι→Heap) (Inv:ι→Prop) (μ:ι→Nat) (m:Nat) (env:Env) (h:Heap):Prop where
 ex:∃ i src,Heads env h src (val i) (hpI i)∧Inv i∧μ i < m

theorem RepDL.at_map {h:Heap} {β:Nat→Value} {V:Nat→Prop} {w:World} {α:Type} (f:α→D) (g:α→Value):∀ (l:List α),RepDL h β V w (l.map f) (l.map g)↔∀ x∈l,RepD h β V w (f x) (g x)
 | []=>by simp[RepDL]
 | x :: l=>by
  simp only[List.map_cons,RepDL]
  constructor
  ·rintro ⟨v,us,e,h1,h2⟩ y hy
   injection e with e1 e2
   subst e1;subst e2
   rcases List.mem_cons.1 hy with rfl | hy
   ·exact h1
   ·exact (RepDL.at_map f g l).1 h2 y hy
  ·intro hh
   exact ⟨_,_,rfl,hh x List.mem_cons_self,(RepDL.at_map f g l).2 (fun y hy=>hh y (List.mem_cons_of_mem _ hy))⟩

def TurnP (G:Gl) (n:Nat) (K:St→Prop) (st:St):Prop:=∃ st1,(∀ C a w,C.G=G→Rel C n st a w→Rel C n st1 a w)∧K st1
theorem turnNo {K:St→Prop} {st:St} (k:K st):TurnP G n K st:=⟨st,fun _ _ _ _ h=>h,k⟩
theorem turnTo {K:St→Prop} {env:Env} {h:Heap} {df:List Deferred} (src:List Src) (val:List (Nat × D)) (h':Heap) (hh:Heads env h src val h') (k:K ⟨(hav [] env).many val,h',df⟩):TurnP G n K ⟨env,h,df⟩:=by
 refine ⟨_,?_,k⟩
 rintro C a w _ ⟨hsz,hdf,β,V,hrel,he⟩
 have hd:=(RepDL.at_map (fun p:Nat × D=>env p.1) (fun p=>a.tmps.getD p.1 undef) val).2 (fun p _=>he p.1)
 obtain ⟨hr',hd'⟩:=hh.use hrel hd
 refine ⟨hsz,hdf,_,_,hr',fun k=>?_⟩
 show RepD h' _ _ w (Env.many (hav [] env) val k) _
 rcases many_at (hav [] env) val k with ⟨x,hx,hxe⟩ | ⟨_,hxe⟩
 ·rw[hxe]
  exact (RepDL.at_map (fun p:Nat × D=>p.2) (fun p=>a.tmps.getD p.1 undef) val).1 hd' (k,x) hx
 ·rw[hxe]
  unfold hav
  simp only[inL,cond_false]
  cases hc:closed 4 (env k) with
  | true=>simp only[cond_true];exact closed_rep (fun k hk=>⟨.inl hk,rfl⟩) 4 _ _ hc (he k)
  | false=>simp only[cond_false,RepD]

theorem loopR {B:St→Post→Prop} {S:List Nat} {env:Env} {h:Heap} {df:List Deferred} {Q:Post}
  {ι:Type} (val:ι→List (Nat × D)) (hpI:ι→Heap) (Inv:ι→Prop) (μ:ι→Nat)
  (start:∃ i src,Heads env h src (val i) (hpI i)∧Inv i)
  (round:∀ (Rd:ι→St→Prop),(∀ i env' h',Again val hpI Inv μ (μ i) env' h'→Rd i ⟨env',h',df⟩)→∀ (i:ι),Inv i →
   B ⟨(hav S env).many (val i),hpI i,df⟩ (fun ex st'=>match ex with
   | .normal=>Rd i st'
   | ex=>Q ex st')) :
  LoopP G n B S ⟨env,h,df⟩ Q:=by
 have heads:∀ (C:Ctx) (a:Act) (w:World) (β:Nat→Value) (V:Nat→Prop) (i:ι) (h':Heap) (e':Env) (src:List Src),RelD C h' β V w→(∀ k,RepD h' β V w (e' k) (a.tmps.getD k undef))→Heads e' h' src (val i) (hpI i) →
   (∀ k,inL S k=false→closed 4 (env k)=true→RepD (hpI i) (turnβ src β) (turnV h' src β V) w (env k) (a.tmps.getD k undef)) →
   RelD C (hpI i) (turnβ src β) (turnV h' src β V) w∧EnvOk ⟨(hav S env).many (val i),hpI i,df⟩ (turnβ src β) (turnV h' src β V) w a:=by
  intro C a w β V i h' e' src hrel he hh hun
  have hd:=(RepDL.at_map (fun p:Nat × D=>e' p.1) (fun p=>a.tmps.getD p.1 undef) (val i)).2 (fun p _=>he p.1)
  obtain ⟨hr',hd'⟩:=hh.use hrel hd
  refine ⟨hr',fun k=>?_⟩
  show RepD (hpI i) _ _ w (Env.many (hav S env) (val i) k) _
  rcases many_at (hav S env) (val i) k with ⟨x,hx,hxe⟩ | ⟨_,hxe⟩
  ·rw[hxe]
   exact (RepDL.at_map (fun p:Nat × D=>p.2) (fun p=>a.tmps.getD p.1 undef) (val i)).1 hd' (k,x) hx
  ·rw[hxe]
   unfold hav
   cases hS:inL S k with
   | true=>simp only[cond_true,RepD]
   | false =>
    simp only[cond_false]
    cases hc:closed 4 (env k) with
    | true=>simp only[cond_true];exact hun k hS hc
    | false=>simp only[cond_false,RepD]
 refine ⟨ι,fun i st1=>st1=⟨(hav S env).many (val i),hpI i,df⟩∧Inv i,μ,?_,?_⟩
 ·rintro C a w _ ⟨hsz,hdf,β,V,hrel,he⟩
  obtain ⟨i,src,hh,hinv⟩:=start
  obtain ⟨h1,h2⟩:=heads C a w β V i h env src hrel he hh (fun k _ hc=>closed_rep (fun k hk=>⟨.inl hk,rfl⟩) 4 _ _ hc (he k))
  exact ⟨i,⟨(hav S env).many (val i),hpI i,df⟩,⟨hsz,hdf,_,_,h1,h2⟩,rfl,hinv⟩
 ·rintro i st1 ⟨rfl,hinv⟩
  refine round (fun i st'=>∀ C a w,C.G=G→Rel C n st' a w→Base C ⟨env,h,df⟩ S a→∃ i' st2,Rel C n st2 a w∧(st2=⟨(hav S env).many (val i'),hpI i',df⟩∧Inv i')∧μ i' < μ i) ?_ i hinv
  rintro i env' h' ⟨i',src,hh,hinv',hlt⟩ C a w _ ⟨hsz,hdf,β,V,hrel,he⟩ ⟨hb1,hb2,a0,β0,he0,hout⟩
  have hm:Moved C.V0 C.w0 V w:=fun k hk=>⟨hrel.vin k hk,hrel.fr.block k (hb2 k hk) (hb1 k hk)⟩
  obtain ⟨h1,h2⟩:=heads C a w β V i' h' env' src hrel he hh (fun k hS hc=>by
   rw[hout k hS]
   exact closed_rep (hm.trans (fun k hk=>⟨.inl hk,rfl⟩)) 4 _ _ hc (he0 k))
  exact ⟨i',⟨(hav S env).many (val i'),hpI i',df⟩,⟨hsz,hdf,_,_,h1,h2⟩,⟨rfl,hinv'⟩,hlt⟩
end
end Go.Dm
/-
  The second engine, thirteenth part: the entering of a function, and the lines by which walks use calls and returns. It holds of every program whose table of types is met.
-/
namespace Go.Dm
open Go Go.Eng Go.RowKit

structure Mix (P:Program):Prop where
 ok:P.follows .mixedOrders=true
def nth {α:Type} (z:α):List α→Nat→α
 | [],_=>z
 | a :: _,0=>a
 | _ :: l,n+1=>nth z l n
def envOf (args:List D):Env:=fun i=>nth .any args i

def resD (T:Tab) (st:St):List ResultVar→Option (List D)
 | []=>some []
 | .tmp t :: l=>match resD T st l with
  | some ds=>some (st.env t :: ds)
  | none=>none
 | .cell t ty :: l=>match resD T st l,st.env t,T ty with
  | some ds,.ptr j off,some i=>match st.h[j]? with
   | some (.blk cs _)=>match i.agg with
    | true=>bif Nat.ble (off+i.size) cs.length then some (.agg (List.take i.size (cs.drop off)) :: ds) else none
    | false=>match cs[off]? with
     | some d=>some (d :: ds)
     | none=>none
   | _=>none
  | _,_,_=>none
def oneOrD:List D→D
 | [d]=>d
 | ds=>.tuple ds

def RetTo (Q:Out→Prop) (h:Heap) (d:D):Prop:=∃ src d' h',TurnTo h src [d] h' [d']∧Q (.ret d' h')
def PanTo (Q:Out→Prop) (h:Heap) (d:D):Prop:=∃ d',TurnTo h [] [d] [] [d']∧Q (.pan d')
def Fin (T:Tab) (rs:List ResultVar) (Q:Out→Prop):Post
 | .normal,⟨env,h,df⟩ | .ret,⟨env,h,df⟩=>match resD T ⟨env,h,df⟩ rs with
  | some ds=>forceDL ds fun ds=>df=[]∧RetTo Q h (oneOrD ds)
  | none=>False
 | .pan d,⟨_,h,df⟩=>df=[]∧PanTo Q h d
 | .exit _,_=>False

section
variable {P:Program} {T:Tab} {F:FuncId→Bool} {G:Gl}

theorem run_resultsD (hT:TabOk P T) {st:St} {a:Act} {w:World} {C:Ctx} {β:Nat→Value} {V:Nat→Prop} (hr:RelD C st.h β V w) (he:EnvOk st β V w a):∀ (rs:List ResultVar) (ds:List D),resD T st rs=some ds →
  ∃ vs,(rs.mapM (m:=Sem) fun | .tmp t=>pure (a.tmps.getD t undef) | .cell c t=>do loadVar t (← asAddr (a.tmps.getD c undef))).run P w=.ok vs w∧RepDL st.h β V w ds vs:=by
 intro rs
 induction rs with
 | nil=>intro ds h;simp[resD] at h;subst h;exact ⟨[],rfl,by simp[RepDL]⟩
 | cons r l ih =>
  intro ds h
  cases r with
  | tmp t =>
   simp only[resD] at h
   cases hl:resD T st l with
   | none=>rw[hl] at h;cases h
   | some us =>
    rw[hl] at h
    injection h with h
    subst h
    obtain ⟨vs,h1,h2⟩:=ih us hl
    refine ⟨a.tmps.getD t undef :: vs,?_,by simp only[RepDL];exact ⟨_,_,rfl,he t,h2⟩⟩
    simp only[List.mapM_cons,Sem.run_bind,Sem.run_pure,Result.andThen_ok,h1]
  | cell t ty =>
   simp only[resD] at h
   split at h
   ·rename_i us j off i hl het ht
    obtain ⟨vs,h1,h2⟩:=ih us hl
    have hx:=he t
    rw[het] at hx
    split at h
    ·rename_i cs ty' hj
     simp only[RepD,hj] at hx
     obtain ⟨g,hb,hv⟩:=hx
     obtain ⟨g',us',hb',hg,hcs⟩:=hr.obj j _ hj
     have e:g'=g:=by rw[hb] at hb';injection hb' with hb';injection hb' with hb';injection hb' with hb';exact hb'.symm
     subst e
     have fin:∀ (d:D) (v:Value),(loadVar ty ⟨g',off,none⟩).run P w=.ok v w→RepD st.h β V w d v→d :: us=ds→∃ vs,((ResultVar.cell t ty :: l).mapM (m:=Sem) fun | .tmp t=>pure (a.tmps.getD t undef) | .cell c t=>do loadVar t (← asAddr (a.tmps.getD c undef))).run P w=.ok vs w∧RepDL st.h β V w ds vs:=by
      intro d v hrun hd hds
      subst hds
      have hone:(do loadVar ty (← asAddr (a.tmps.getD t undef)):Sem Value).run P w=.ok v w:=by simp[hv,asAddr,hrun]
      refine ⟨v :: vs,?_,by simp only[RepDL];exact ⟨_,_,rfl,hd,h2⟩⟩
      rw[List.mapM_cons,Sem.run_bind,hone]
      simp only[Result.andThen_ok,Sem.run_bind,h1,Sem.run_pure]
     cases hagg:i.agg with
     | true =>
      rw[hagg] at h
      simp only at h
      cases hble:Nat.ble (off+i.size) cs.length with
      | false=>rw[hble] at h;cases h
      | true =>
       rw[hble] at h
       simp only[cond_true] at h
       injection h with h
       have hle:=Nat.le_of_ble_eq_true hble
       have hlen:=hcs.len
       refine fin _ (.agg ⟨List.take i.size (us'.drop off)⟩) (run_loadVar_agg (hT ty i ht) hagg (vs:=List.take i.size (us'.drop off)) (by simp;omega) (fun k v hk=>?_)) (by simp only[RepD];exact ⟨_,rfl,(hcs.drop off).take i.size⟩) h
       rw[add_mk,cell_of_row w _ _ _ _ _ hg]
       have hkl:k < i.size:=by have:=(List.getElem?_eq_some_iff.1 hk).1;simp at this;omega
       rw[List.getElem?_take_of_lt hkl,List.getElem?_drop] at hk
       simpa using hk
     | false =>
      rw[hagg] at h
      simp only at h
      split at h
      ·rename_i d hd
       injection h with h
       obtain ⟨v,hv1,hv2⟩:=hcs.get hd
       refine fin d v (run_loadVar_one (hT ty i ht) hagg ?_) hv2 h
       rw[cell_of_row w _ _ _ _ _ hg]
       simpa using hv1
      ·cases h
    ·cases h
   ·cases h

theorem run_resultsD' (hT:TabOk P T) {st:St} {a:Act} {w:World} {C:Ctx} {β:Nat→Value} {V:Nat→Prop} (hr:RelD C st.h β V w) (he:EnvOk st β V w a) {fn:Func} {ds:List D} (h:resD T st fn.results.toList=some ds) :
  ∃ v,(results fn a.tmps).run P w=.ok v w∧RepDL st.h β V w [oneOrD ds] [v]:=by
 obtain ⟨vs,h1,h2⟩:=run_resultsD hT hr he _ _ h
 refine ⟨oneOr vs,?_,?_⟩
 ·unfold results
  rw[Array.mapM_eq_mapM_toList]
  simp only[Sem.run_bind,Sem.run_map]
  erw[h1]
  simp only[Result.andThen_ok,Sem.run_pure]
  congr 1
  match vs with
  | []=>rfl
  | [v]=>rfl
  | _ :: _ :: _=>simp[oneOr]
 ·have hlen:=h2.len
  simp only[RepDL]
  refine ⟨_,[],rfl,?_,rfl⟩
  match ds,vs,hlen with
  | [d],[v],_ =>
   simp only[RepDL] at h2
   obtain ⟨v',us,e,h3,h4⟩:=h2
   injection e with e1 e2
   subst e1
   exact h3
  | [],[],_=>simp only[oneOrD,oneOr,RepD];exact ⟨[],rfl,by simp[RepDL]⟩
  | _ :: _ :: _,_ :: _ :: _,_=>simp only[oneOrD,oneOr,RepD];exact ⟨_,rfl,h2⟩

theorem empty_rel {G:Gl} {V:Nat→Prop} {w:World} (hV:∀ k,V k→k < w.heap.size) (hG:GlOk G V w):RelD ⟨w,fun _=>False,V,G⟩ [] (fun _=>undef) V w :=
 ⟨fun i o h=>by simp at h,fun i j o o' k h=>by simp at h,fun i o k h=>by simp at h,fun i o k h=>by simp at h,hV,fun k hk=>hk,fun k hk=>.inl hk,Fr.refl _ _,hG⟩

def skipT (P:Program) (T:Tab) (F:FuncId→Bool) (G:Gl) (n:Nat) (K:Code→St→Post→Prop) (k:Nat):Code→St→Post→Prop :=
 Nat.rec (motive:=fun _=>Code→St→Post→Prop)
  (fun c st Q=>match c with
   | .seq x y=>vc P T F G n x st (fun e st'=>match e with | .normal=>TurnP G n (fun st1=>K y st1 Q) st' | e=>Q e st')
   | _=>False)
  (fun _ next c st Q=>match c with
   | .seq x y=>vc P T F G n x st (fun e st'=>match e with | .normal=>next y st' Q | e=>Q e st')
   | _=>False) k
def vcT (P:Program) (T:Tab) (F:FuncId→Bool) (G:Gl) (n:Nat) (l:List Nat):Code→St→Post→Prop :=
 List.rec (motive:=fun _=>Code→St→Post→Prop) (fun c st Q=>vc P T F G n c st Q) (fun k _ K c st Q=>skipT P T F G n K k c st Q) l
theorem vcT_nil {n:Nat} {c:Code} {st:St} {Q:Post} {G:Gl}:vcT P T F G n [] c st Q=vc P T F G n c st Q:=rfl
def SoundT (P:Program) (n:Nat) (G:Gl) (K:Code→St→Post→Prop):Prop:=∀ (c:Code) (S:List Nat),(∀ k∈mods c,k < n)→(∀ k∈mods c,inL S k=true)→∀ (C:Ctx) (st:St) (a:Act) (w:World) (Q:Post),C.G=G→K c st Q→Rel C n st a w →
  c.wp P (fun e a' w'=>Keeps S a a'∧∃ x st',Q x st'∧XOk e x st' a' w' C n) a w
theorem seqT_sound {n:Nat} {G:Gl} (hT:TabOk P T) (hF:∀ g,F g=true→fnOk P g=true) (hM:P.follows .mixedOrders=true) {K:Code→St→Post→Prop} (hK:SoundT P n G K) {x y:Code} {S:List Nat} (hs:∀ k∈mods (.seq x y),k < n) (hm:∀ k∈mods (.seq x y),inL S k=true) {C:Ctx} {st:St} {a:Act} {w:World} {Q:Post} (hG:C.G=G)
  {J:St→Prop} (hJ:∀ (st':St) (a':Act) (w':World),J st'→Rel C n st' a' w'→∃ st1,Rel C n st1 a' w'∧K y st1 Q)
  (h:vc P T F G n x st (fun e st'=>match e with | .normal=>J st' | e=>Q e st')) (hr:Rel C n st a w) :
  (Code.seq x y).wp P (fun e a' w'=>Keeps S a a'∧∃ x st',Q x st'∧XOk e x st' a' w' C n) a w:=by
 subst hG
 simp only[mods,List.mem_append] at hs hm
 refine wp_seq (Code.wp_mono ?_ (vc_sound hT hF hM x S (fun k hk=>hs k (.inl hk)) (fun k hk=>hm k (.inl hk)) C st a w _ h hr))
 rintro e a' w' ⟨hk,x',st',hq,hx⟩
 cases e with
 | normal =>
  cases x'<;>try exact hx.elim
  obtain ⟨st1,ht,hq⟩:=hJ st' a' w' hq hx
  refine Code.wp_mono ?_ (hK y S (fun k hk=>hs k (.inr hk)) (fun k hk=>hm k (.inr hk)) C st1 a' w' Q rfl hq ht)
  rintro e a'' w'' ⟨hk',rest⟩
  exact ⟨hk.trans hk',rest⟩
 | exit i=>cases x'<;>first | exact hx.elim | exact ⟨hk,_,st',hq,hx⟩
 | ret=>cases x'<;>first | exact hx.elim | exact ⟨hk,_,st',hq,hx⟩
 | panic ch=>cases x'<;>first | exact hx.elim | exact ⟨hk,_,st',hq,hx⟩
 | goto l=>cases x'<;>exact hx.elim
 | outgrown=>cases x'<;>exact hx.elim
theorem skipT_sound {n:Nat} {G:Gl} (hT:TabOk P T) (hF:∀ g,F g=true→fnOk P g=true) (hM:P.follows .mixedOrders=true) {K:Code→St→Post→Prop} (hK:SoundT P n G K):∀ k:Nat,SoundT P n G (skipT P T F G n K k):=by
 intro k
 induction k with
 | zero =>
  intro c S hs hm C st a w Q hG h hr
  cases c with
  | seq x y=>exact seqT_sound hT hF hM hK hs hm hG (J:=fun st'=>TurnP G n (fun st1=>K y st1 Q) st') (fun st' a' w' hj hr'=>by obtain ⟨st1,ht,hq⟩:=hj;exact ⟨st1,ht C a' w' hG hr',hq⟩) h hr
  | _=>exact h.elim
 | succ k ih =>
  intro c S hs hm C st a w Q hG h hr
  cases c with
  | seq x y=>exact seqT_sound hT hF hM ih hs hm hG (J:=fun st'=>skipT P T F G n K k y st' Q) (fun st' a' w' hj hr'=>⟨st',hr',hj⟩) h hr
  | _=>exact h.elim
theorem vcT_soundT {n:Nat} {G:Gl} (hT:TabOk P T) (hF:∀ g,F g=true→fnOk P g=true) (hM:P.follows .mixedOrders=true):∀ l:List Nat,SoundT P n G (vcT P T F G n l):=by
 intro l
 induction l with
 | nil=>intro c S hs hm C st a w Q hG h hr;subst hG;exact vc_sound hT hF hM c S hs hm C st a w Q h hr
 | cons k l ih=>exact skipT_sound hT hF hM ih k
theorem vcT_sound {n:Nat} (hT:TabOk P T) (hF:∀ g,F g=true→fnOk P g=true) (hM:P.follows .mixedOrders=true) (c:Code) (l:List Nat) (S:List Nat) (hs:∀ k∈mods c,k < n) (hm:∀ k∈mods c,inL S k=true) (C:Ctx) (st:St) (a:Act) (w:World) (Q:Post) (h:vcT P T F C.G n l c st Q) (hr:Rel C n st a w) :
  c.wp P (fun e a' w'=>Keeps S a a'∧∃ x st',Q x st'∧XOk e x st' a' w' C n) a w:=vcT_soundT hT hF hM l c S hs hm C st a w Q rfl h hr

theorem enterT (tn:List Nat) (hT:TabOk P T) (hF:∀ g,F g=true→fnOk P g=true) (hM:Mix P) {f:FuncId} {fn:Func} {c:Code} (hf:P.funcs[f]?=some fn) (hb:fn.body=some c) (N:Nat) (hN:fn.ntmps=N) (hs:allLt N (mods c)=true) (rs:List ResultVar) (hrs:fn.results.toList=rs)
  (args:List D) (hal:Nat.ble args.length N=true) (Q:Out→Prop) (h:vcT P T F G N tn c ⟨envOf args,[],[]⟩ (Fin T rs Q)):CT P G f args Q:=by
 subst hN
 subst hrs
 intro w V vals hV hG hargs
 have hlen:=hargs.len
 have hal:=Nat.le_of_ble_eq_true hal
 refine calls_of_wp hf hb ?_
 have hnth:∀ (ds:List D) (vs:List Value),RepDL [] (fun _=>undef) V w ds vs→∀ i,RepD [] (fun _=>undef) V w (nth .any ds i) (vs.getD i undef):=by
  intro ds
  induction ds with
  | nil=>intro vs _ i;simp only[nth,RepD]
  | cons d ds ih =>
   intro vs h i
   simp only[RepDL] at h
   obtain ⟨v,us,rfl,h1,h2⟩:=h
   cases i with
   | zero=>simpa [nth] using h1
   | succ i=>simpa [nth] using ih us h2 i
 have hr:Rel ⟨w,fun _=>False,V,G⟩ fn.ntmps ⟨envOf args,[],[]⟩ { tmps:=(⟨vals⟩:Array Value)++Array.replicate (fn.ntmps - (⟨vals⟩:Array Value).size) undef,defers:=[] } w:=by
  refine ⟨by simp;omega,rfl,fun _=>undef,V,empty_rel hV hG,fun i=>?_⟩
  have h1:=hnth args vals hargs i
  have h2:((⟨vals⟩:Array Value)++Array.replicate (fn.ntmps - (⟨vals⟩:Array Value).size) undef).getD i undef=vals.getD i undef:=by
   rw[Array.getD_eq_getD_getElem?,List.getD_eq_getElem?_getD]
   by_cases hi:i < vals.length
   ·rw[Array.getElem?_append_left (by simpa using hi)]
    simp
   ·rw[Array.getElem?_append_right (by simp;omega),List.getElem?_eq_none (by omega)]
    rw[Array.getElem?_replicate]
    split<;>rfl
  rw[h2]
  exact h1
 have hlt:=allLt_mem hs
 refine Code.wp_mono ?_ (vcT_sound hT hF hM.ok c tn (mods c) hlt (fun k hk=>inL_iff.2 hk) ⟨w,fun _=>False,V,G⟩ _ _ w _ h hr)
 rintro e a' w' ⟨_,x,st',hq,hx⟩
 have ret:∀ {st':St},Rel ⟨w,fun _=>False,V,G⟩ fn.ntmps st' a' w'→(match resD T st' fn.results.toList with | some ds=>forceDL ds fun ds=>st'.df=[]∧RetTo Q st'.h (oneOrD ds) | none=>False) →
   a'.defers=[]∧∃ v,(results fn a'.tmps).run P w'=.ok v w'∧PostC G Q V w (.returned v) w':=by
  rintro st' ⟨_,hdf,β,V',hrel,he⟩ hq
  cases hres:resD T st' fn.results.toList with
  | none=>rw[hres] at hq;exact hq.elim
  | some ds =>
   rw[hres] at hq
   simp only[forceDL_eq] at hq
   obtain ⟨hd0,src,d',h',ht,hQ⟩:=hq
   obtain ⟨v,hv1,hv2⟩:=run_resultsD' hT hrel he hres
   obtain ⟨h1,h2⟩:=ht.use hrel hv2
   simp only[RepDL] at h2
   obtain ⟨v',us,e,h3,_⟩:=h2
   injection e with e1 e2
   subst e1
   exact ⟨hdf.trans hd0,v,hv1,d',h',_,_,hQ,h1,h3⟩
 cases e with
 | normal =>
  cases x<;>try exact hx.elim
  exact ret hx hq
 | ret =>
  cases x<;>try exact hx.elim
  exact ret hx hq
 | panic ch =>
  cases x<;>try exact hx.elim
  obtain ⟨t,u,hch,hsz,hdf,β,V',hrel,he,hd⟩:=hx
  obtain ⟨hd0,d',ht,hQ⟩:=hq
  obtain ⟨h1,h2⟩:=ht.use hrel (vs:=[.iface t u]) (by simp only[RepDL];exact ⟨_,_,rfl,hd,rfl⟩)
  simp only[RepDL] at h2
  obtain ⟨v',us,e,h3,_⟩:=h2
  injection e with e1 e2
  subst e1
  exact ⟨hdf.trans hd0,d',t,u,_,_,hch,hQ,h1,h3⟩
 | exit i=>cases x<;>first | exact hx.elim | exact hq.elim
 | goto l=>cases x<;>exact hx.elim
 | outgrown=>cases x<;>exact hx.elim

theorem enter (hT:TabOk P T) (hF:∀ g,F g=true→fnOk P g=true) (hM:Mix P) {f:FuncId} {fn:Func} {c:Code} (hf:P.funcs[f]?=some fn) (hb:fn.body=some c) (N:Nat) (hN:fn.ntmps=N) (hs:allLt N (mods c)=true) (rs:List ResultVar) (hrs:fn.results.toList=rs)
  (args:List D) (hal:Nat.ble args.length N=true) (Q:Out→Prop) (h:vc P T F G N c ⟨envOf args,[],[]⟩ (Fin T rs Q)):CT P G f args Q :=
 enterT [] hT hF hM hf hb N hN hs rs hrs args hal Q h

/-! Functions that are handed memory of their caller's own. -/
def ptrsD:Nat→List Nat→List D
 | _,[]=>[]
 | p,_ :: l=>.ptr p 0 :: ptrsD (p+1) l
def allBlk (h:Heap):Nat→List Nat→Bool
 | _,[]=>true
 | p,_ :: l=>isBlk h p && allBlk h (p+1) l
def tagAt (h:Heap) (m p:Nat) (v:Value):Prop:=match h[m]? with
 | some (.many _ ts)=>(v,p)∈ts
 | _=>False
def manyAt (h:Heap) (p:Nat):Prop:=match h[p]? with
 | some (.many _ _)=>True
 | _=>False
def tagsN (hin:Heap) (m:Nat):Nat→List (Option Value)→Prop
 | _,[]=>True
 | p,some v :: l=>tagAt hin m p v∧tagsN hin m (p+1) l
 | p,none :: l=>manyAt hin p∧tagsN hin m (p+1) l
def staysAt (o o':Option Obj):Prop:=match o,o' with
 | some o,some o'=>OLe o o'∧o'.live=true
 | _,_=>False
def stayN (hin h':Heap) (m:Nat):Nat→List (Option Value)→Prop
 | _,[]=>True
 | p,some v :: l=>tagAt h' m p v∧staysAt hin[p]? h'[p]?∧stayN hin h' m (p+1) l
 | p,none :: l=>manyAt h' p∧stayN hin h' m (p+1) l
def tagB (h:Heap):Bool:=h.all fun o=>match o with
 | .many _ ts=>ts.all fun t=>match h[t.2]? with
  | some (.many _ _)=>false
  | _=>true
 | _=>true
def ToH (ptrs:List Nat) (hin:Heap) (m:Nat) (nms:List (Option Value)) (Q:D→Heap→Prop) (h:Heap) (env:Env) (d:D):Prop :=
 ∃ src d' h',TurnTo h src (d :: ptrs.map env) h' (d' :: ptrsD 0 ptrs)∧(allBlk h' 0 ptrs && tagB h')=true∧stayN hin h' m ptrs.length nms∧Q d' h'
def FinH (T:Tab) (G:Gl) (rs:List ResultVar) (ptrs:List Nat) (hin:Heap) (m:Nat) (nms:List (Option Value)) (Q:Out→Prop):Post
 | .normal,⟨env,h,df⟩ | .ret,⟨env,h,df⟩=>match resD T ⟨env,h,df⟩ rs with
  | some ds=>forceDL ds fun ds=>df=[]∧orS (hasMany h) (ToH ptrs hin m nms (fun d h=>Q (.ret d h)) h env (oneOrD ds)) (GhostTo G (oneOrD ds) h fun d h=>ToH ptrs hin m nms (fun d h=>Q (.ret d h)) h env d)
  | none=>False
 | .pan d,⟨env,h,df⟩=>df=[]∧orS (hasMany h) (ToH ptrs hin m nms (fun d h=>Q (.panH d h)) h env d) (GhostTo G d h fun d h=>ToH ptrs hin m nms (fun d h=>Q (.panH d h)) h env d)
 | .exit _,_=>False
theorem tag_eq {C:Ctx} {h:Heap} {β:Nat→Value} {V:Nat→Prop} {w:World} (hr:RelD C h β V w) {m p:Nat} {v:Value} (ht:tagAt h m p v) {o:Obj} (ho:h[p]?=some o) (hl:o.live=true):β p=v:=by
 unfold tagAt at ht
 split at ht
 ·rename_i l ts hm
  obtain ⟨o',ho',hb⟩:=(hr.obj m _ hm).2.2 _ ht
  rw[ho] at ho'
  injection ho' with ho'
  subst ho'
  exact hb hl
 ·exact ht.elim
section
variable {C:Ctx} {h:Heap} {β γ:Nat→Value} {V:Nat→Prop} {w:World}
def NoMany (h:Heap) (i:Nat):Prop:=∀ l ts,h[i]?≠some (.many l ts)
mutual
theorem RepD.reβ (hβ:∀ i,NoMany h i→γ i=β i):∀ (d:D) (v:Value),RepD h β V w d v→RepD h γ V w d v
 | .g x,v,hr=>by simp only[RepD] at hr ⊢;exact hr
 | .pb p,v,hr=>by simp only[RepD] at hr ⊢;exact hr
 | .pn p,v,hr=>by simp only[RepD] at hr ⊢;exact hr
 | .nils,v,hr=>by simp only[RepD] at hr ⊢;exact hr
 | .row i,v,hr=>by
  simp only[RepD] at hr ⊢
  cases ho:h[i]? with
  | none=>rw[ho] at hr;exact hr.elim
  | some o=>rw[ho] at hr;cases o<;>first | exact hr | (simp only at hr ⊢;rw[hβ i (fun l ts e=>by rw[ho] at e;cases e)];exact hr)
 | .rs i lo n,v,hr=>by
  simp only[RepD] at hr ⊢
  cases ho:h[i]? with
  | none=>rw[ho] at hr;exact hr.elim
  | some o=>rw[ho] at hr;cases o<;>first | exact hr | (simp only at hr ⊢;rw[hβ i (fun l ts e=>by rw[ho] at e;cases e)];exact hr)
 | .ptr i off,v,hr=>by
  simp only[RepD] at hr ⊢
  cases ho:h[i]? with
  | none=>rw[ho] at hr;exact hr.elim
  | some o=>rw[ho] at hr;cases o<;>first | exact hr | (simp only at hr ⊢;rw[hβ i (fun l ts e=>by rw[ho] at e;cases e)];exact hr)
 | .el i j off,v,hr=>by
  simp only[RepD] at hr ⊢
  cases ho:h[i]? with
  | none=>rw[ho] at hr;exact hr.elim
  | some o=>rw[ho] at hr;cases o<;>first | exact hr | (simp only at hr ⊢;rw[hβ i (fun l ts e=>by rw[ho] at e;cases e)];exact hr)
 | .fp r off,v,hr=>by simp only[RepD] at hr ⊢;exact hr
 | .nilP,v,hr=>by simp only[RepD] at hr ⊢;exact hr
 | .nilF,v,hr=>by simp only[RepD] at hr ⊢;exact hr
 | .nilI,v,hr=>by simp only[RepD] at hr ⊢;exact hr
 | .fn f fs cs,v,hr=>by
  simp only[RepD] at hr ⊢
  obtain ⟨us,ts,hv,h1,h2⟩:=hr
  exact ⟨us,ts,hv,RepDL.reβ hβ fs us h1,RepDL.reβ hβ cs ts h2⟩
 | .iface t x,v,hr=>by
  simp only[RepD] at hr ⊢
  obtain ⟨u,hv,h1⟩:=hr
  exact ⟨u,hv,RepD.reβ hβ x u h1⟩
 | .agg cs,v,hr=>by
  simp only[RepD] at hr ⊢
  obtain ⟨us,hv,h1⟩:=hr
  exact ⟨us,hv,RepDL.reβ hβ cs us h1⟩
 | .tuple cs,v,hr=>by
  simp only[RepD] at hr ⊢
  obtain ⟨us,hv,h1⟩:=hr
  exact ⟨us,hv,RepDL.reβ hβ cs us h1⟩
 | .any,v,hr=>by simp only[RepD]
theorem RepDL.reβ (hβ:∀ i,NoMany h i→γ i=β i):∀ (ds:List D) (vs:List Value),RepDL h β V w ds vs→RepDL h γ V w ds vs
 | [],vs,hr=>by simp only[RepDL] at hr ⊢;exact hr
 | d :: ds,vs,hr=>by
  simp only[RepDL] at hr ⊢
  obtain ⟨v,us,hv,h1,h2⟩:=hr
  exact ⟨v,us,hv,RepD.reβ hβ d v h1,RepDL.reβ hβ ds us h2⟩
end
theorem Bk_re (hβ:∀ i,NoMany h i→γ i=β i) {i:Nat} {o:Obj} (hi:h[i]?=some o) {k:Nat} (hk:Bk o (γ i) k):Bk o (β i) k:=by
 cases o with
 | many l ts=>exact hk
 | _=>rw[hβ i (fun l ts e=>by rw[hi] at e;cases e)] at hk;exact hk
theorem RelD.reβ (hr:RelD C h β V w) (hb:tagB h=true) (hβ:∀ i,NoMany h i→γ i=β i):RelD C h γ V w:=by
 refine ⟨fun i o hi=>?_,fun i j o o' k hi hl hj hl' h1 h2=>hr.sep i j o o' k hi hl hj hl' (Bk_re hβ hi h1) (Bk_re hβ hj h2),fun i o k hi hl hk=>hr.mine i o k hi hl (Bk_re hβ hi hk),fun i o k hi hl hk=>hr.vout i o k hi hl (Bk_re hβ hi hk),hr.vlt,hr.vin,hr.vnew,hr.fr,hr.gl⟩
 have ho:=hr.obj i o hi
 cases o with
 | dead=>trivial
 | blk cs t =>
  obtain ⟨g,vs,h1,h2,h3⟩:=ho
  exact ⟨g,vs,(hβ i (fun l ts e=>by rw[hi] at e;cases e)).trans h1,h2,RepDL.reβ hβ _ _ h3⟩
 | row xs e sz =>
  obtain ⟨vs,h1,h2⟩:=ho
  exact ⟨vs,by rw[hβ i (fun l ts e=>by rw[hi] at e;cases e)];exact h1,h2⟩
 | many l ts =>
  refine ⟨ho.1,ho.2.1,fun t ht=>?_⟩
  obtain ⟨o',ho',hb'⟩:=ho.2.2 t ht
  refine ⟨o',ho',fun hl=>?_⟩
  have h1:=List.all_eq_true.1 hb _ (List.mem_of_getElem? hi)
  have h2:=List.all_eq_true.1 h1 t ht
  rw[ho'] at h2
  exact (hβ t.2 (fun l ts e=>by rw[ho'] at e;injection e with e;subst e;cases h2)).trans (hb' hl)
end
theorem stayN_keep {C C':Ctx} {hin h':Heap} {β β':Nat→Value} {V V':Nat→Prop} {w w':World} (hr:RelD C hin β V w) (hr':RelD C' h' β' V' w') (hM:∀ i,manyAt h' i→β' i=β i) {m:Nat}:∀ (l:List (Option Value)) (p:Nat),tagsN hin m p l→stayN hin h' m p l →
  ∀ i,i < l.length→Stays hin h' β β' (p+i)
 | [],p,_,_,i,hi=>by simp at hi
 | v :: l,p,ht,hs,i,hi=>by
  have next:∀ i,tagsN hin m (p+1) l→stayN hin h' m (p+1) l→i+1 < (v :: l).length→Stays hin h' β β' (p+(i+1)):=fun i a b hi=>by
   have:=stayN_keep hr hr' hM l (p+1) a b i (by simpa using hi)
   rwa [show p+1+i=p+(i+1) from by omega] at this
  cases v with
  | some v =>
   simp only[tagsN] at ht
   simp only[stayN] at hs
   cases i with
   | zero =>
    have h2:=hs.2.1
    unfold staysAt at h2
    split at h2
    ·rename_i o o' ho ho'
     exact ⟨⟨o,o',ho,ho',h2.1,h2.2⟩,(tag_eq hr' hs.1 ho' h2.2).trans (tag_eq hr ht.1 ho (OLe_live h2.1 h2.2)).symm⟩
    ·exact h2.elim
   | succ i=>exact next i ht.2 hs.2.2 hi
  | none =>
   simp only[tagsN] at ht
   simp only[stayN] at hs
   cases i with
   | zero =>
    have hβ:=hM p hs.1
    have h1:=ht.1
    have h2:=hs.1
    unfold manyAt at h1 h2
    split at h1
    ·rename_i l1 t1 e1
     split at h2
     ·rename_i l2 t2 e2
      exact ⟨⟨_,_,e1,e2,trivial,rfl⟩,hβ⟩
     ·exact h2.elim
    ·exact h1.elim
   | succ i=>exact next i ht.2 hs.2 hi
theorem ptrs_keep {h h':Heap} {β β':Nat→Value} {V V':Nat→Prop} {w w':World} (g:Nat→Value):∀ (l:List Nat) (p:Nat),RepDL h β V w (ptrsD p l) (l.map g)→RepDL h' β' V' w' (ptrsD p l) (l.map g)→allBlk h p l=true→allBlk h' p l=true →
  ∀ i,i < l.length→isBlk h' (p+i)=true∧β' (p+i)=β (p+i)
 | [],p,_,_,_,_,i,hi=>by simp at hi
 | k :: l,p,hd,hd',hb,hb',i,hi=>by
  simp only[allBlk,Bool.and_eq_true] at hb hb'
  simp only[ptrsD,List.map_cons,RepDL] at hd hd'
  obtain ⟨v,us,e,h1,h2⟩:=hd
  obtain ⟨v',us',e',h1',h2'⟩:=hd'
  injection e with e1 e2
  injection e' with e1' e2'
  subst e1;subst e2;subst e1';subst e2'
  cases i with
  | zero =>
   refine ⟨hb'.1,?_⟩
   obtain ⟨cs,t,q⟩:=isBlk_at hb.1
   obtain ⟨cs',t',q'⟩:=isBlk_at hb'.1
   simp only[RepD,q,q'] at h1 h1'
   obtain ⟨a,ha,hv⟩:=h1
   obtain ⟨a',ha',hv'⟩:=h1'
   rw[hv] at hv'
   injection hv' with hv'
   injection hv' with hv'
   injection hv' with hv'
   rw[Nat.add_zero,ha,ha',hv']
  | succ i =>
   have:=ptrs_keep g l (p+1) h2 h2' hb.2 hb'.2 i (by simpa using hi)
   rwa [show p+1+i=p+(i+1) from by omega] at this

theorem allBlk_at {h:Heap}:∀ (l:List Nat) (p:Nat),allBlk h p l=true→∀ i,i < l.length→isBlk h (p+i)=true
 | [],p,_,i,hi=>by simp at hi
 | _ :: l,p,hb,i,hi=>by
  simp only[allBlk,Bool.and_eq_true] at hb
  cases i with
  | zero=>exact hb.1
  | succ i =>
   have:=allBlk_at l (p+1) hb.2 i (by simpa using hi)
   rwa [show p+1+i=p+(i+1) from by omega] at this
theorem toH_end {w w':World} {hin:Heap} {β:Nat→Value} {V:Nat→Prop} {ptrs:List Nat} {m:Nat} {nms:List (Option Value)} {a':Act} (hrel0:RelD ⟨w,ownB hin β,V,G⟩ hin β V w) (htg:tagsN hin m ptrs.length nms) (hpb:allBlk hin 0 ptrs=true) (h0:RepDL hin β V w (ptrsD 0 ptrs) (ptrs.map fun k=>a'.tmps.getD k undef)) :
  ∀ {st':St} {β':Nat→Value} {V':Nat→Prop} {R:D→Heap→Prop} {d:D} {v:Value},RelD ⟨w,ownB hin β,V,G⟩ st'.h β' V' w'→EnvOk st' β' V' w' a'→RepD st'.h β' V' w' d v→orS (hasMany st'.h) (ToH ptrs hin m nms R st'.h st'.env d) (GhostTo G d st'.h fun d h=>ToH ptrs hin m nms R h st'.env d) →
   ∃ d' h' β'' V'',R d' h'∧RelD ⟨w,ownB hin β,V,G⟩ h' β'' V'' w'∧RepD h' β'' V'' w' d' v∧∀ i,i < ptrs.length+nms.length→Stays hin h' β β'' i:=by
 intro st' β' V' R d v hrel he h3 hq
 have hgh:∃ (d0:D) (h0:Heap) (β0:Nat→Value) (V0:Nat→Prop),ToH ptrs hin m nms R h0 st'.env d0∧RelD ⟨w,ownB hin β,V,G⟩ h0 β0 V0 w'∧RepD h0 β0 V0 w' d0 v∧LeH st'.h β' h0 β0∧Moved V' w' V0 w':=by
  rcases orS_get hq with hq | hq
  ·exact ⟨_,_,_,_,hq,hrel,h3,LeH.refl _ _,Moved.refl _ _⟩
  ·exact hq ⟨w,ownB hin β,V,G⟩ w' β' V' v rfl hrel h3
 obtain ⟨d0,h0g,β0,V0,⟨src,d',h',ht,hbk,hst,hQ⟩,hrel0',hd0',hle0,hmv0⟩:=hgh
 have hv3:RepDL h0g β0 V0 w' (d0 :: ptrs.map st'.env) (v :: ptrs.map fun k=>a'.tmps.getD k undef):=by
  simp only[RepDL]
  exact ⟨_,_,rfl,hd0',(RepDL.at_map st'.env _ ptrs).2 (fun k _=>RepD.mono hle0 hmv0 _ _ (he k))⟩
 obtain ⟨h1,h2⟩:=ht.use hrel0' hv3
 simp only[RepDL] at h2
 obtain ⟨v',us,e,h3,h4⟩:=h2
 injection e with e1 e2
 subst e1;subst e2
 simp only[Bool.and_eq_true] at hbk
 obtain ⟨hbk,htb⟩:=hbk
 have hγ:∃ γ:Nat→Value,(∀ i,NoMany h' i→γ i=turnβ src β0 i)∧∀ i,manyAt h' i→γ i=β i:=by
  refine ⟨fun i=>match h'[i]? with | some (.many _ _)=>β i | _=>turnβ src β0 i,fun i hn=>?_,fun i hm=>?_⟩
  ·dsimp only
   split
   ·rename_i l ts e;exact absurd e (hn l ts)
   ·rfl
  ·unfold manyAt at hm
   dsimp only
   split
   ·rfl
   ·rename_i hne
    split at hm
    ·rename_i l ts e;exact absurd e (hne l ts)
    ·exact hm.elim
 obtain ⟨γ,hγ1,hγ2⟩:=hγ
 refine ⟨d',h',γ,_,hQ,h1.reβ htb hγ1,RepD.reβ hγ1 _ _ h3,fun i hi=>?_⟩
 by_cases hip:i < ptrs.length
 ·have:=ptrs_keep _ ptrs 0 h0 h4 hpb hbk i hip
  rw[Nat.zero_add] at this
  obtain ⟨cs',t',q'⟩:=isBlk_at this.1
  have hb0:isBlk hin i=true:=by have:=allBlk_at ptrs 0 hpb i hip;rwa [Nat.zero_add] at this
  obtain ⟨cs,t,q⟩:=isBlk_at hb0
  exact ⟨⟨_,_,q,q',trivial,rfl⟩,(hγ1 i (fun l ts e=>by rw[q'] at e;cases e)).trans this.2⟩
 ·have:=stayN_keep hrel0 (h1.reβ htb hγ1) hγ2 nms ptrs.length htg hst (i - ptrs.length) (by omega)
  rwa [show ptrs.length+(i - ptrs.length)=i from by omega] at this
theorem enterHw (hT:TabOk P T) {fn:Func} {c:Code} (N:Nat) (hN:fn.ntmps=N) (hs:allLt N (mods c)=true) (rs:List ResultVar) (hrs:fn.results.toList=rs)
  (args:List D) (hal:Nat.ble args.length N=true) (hin:Heap) (ptrs:List Nat) (hpa:ptrs.map (envOf args)=ptrsD 0 ptrs) (hpb:allBlk hin 0 ptrs=true) (hpm:ptrs.all (fun k=>!inL (mods c) k)=true)
  (m:Nat) (nms:List (Option Value)) (htg:tagsN hin m ptrs.length nms) (Q:Out→Prop) (hvc:∀ (C:Ctx) (a:Act) (w:World),C.G=G→Rel C N ⟨envOf args,hin,[]⟩ a w→c.wp P (fun e a' w'=>Keeps (mods c) a a'∧∃ x st',FinH T G rs ptrs hin m nms Q x st'∧XOk e x st' a' w' C N) a w) :
  ∀ (w:World) (β:Nat→Value) (V:Nat→Prop) (vals:List Value),RelD ⟨w,ownB hin β,V,G⟩ hin β V w→RepDL hin β V w args vals →
   c.wp P (bodyPost P fn (PostH G Q (ptrs.length+nms.length) hin β V w)) { tmps:=(⟨vals⟩:Array Value)++Array.replicate (fn.ntmps - (⟨vals⟩:Array Value).size) undef,defers:=[] } w:=by
 subst hN
 subst hrs
 intro w β V vals hrel0 hargs
 have hlen:=hargs.len
 have hal:=Nat.le_of_ble_eq_true hal
 have hnth:∀ (ds:List D) (vs:List Value),RepDL hin β V w ds vs→∀ i,RepD hin β V w (nth .any ds i) (vs.getD i undef):=by
  intro ds
  induction ds with
  | nil=>intro vs _ i;simp only[nth,RepD]
  | cons d ds ih =>
   intro vs h i
   simp only[RepDL] at h
   obtain ⟨v,us,rfl,h1,h2⟩:=h
   cases i with
   | zero=>simpa [nth] using h1
   | succ i=>simpa [nth] using ih us h2 i
 have henv:∀ i,RepD hin β V w (envOf args i) (((⟨vals⟩:Array Value)++Array.replicate (fn.ntmps - (⟨vals⟩:Array Value).size) undef).getD i undef):=by
  intro i
  have h1:=hnth args vals hargs i
  have h2:((⟨vals⟩:Array Value)++Array.replicate (fn.ntmps - (⟨vals⟩:Array Value).size) undef).getD i undef=vals.getD i undef:=by
   rw[Array.getD_eq_getD_getElem?,List.getD_eq_getElem?_getD]
   by_cases hi:i < vals.length
   ·rw[Array.getElem?_append_left (by simpa using hi)]
    simp
   ·rw[Array.getElem?_append_right (by simp;omega),List.getElem?_eq_none (by omega)]
    rw[Array.getElem?_replicate]
    split<;>rfl
  rw[h2]
  exact h1
 have hr:Rel ⟨w,ownB hin β,V,G⟩ fn.ntmps ⟨envOf args,hin,[]⟩ { tmps:=(⟨vals⟩:Array Value)++Array.replicate (fn.ntmps - (⟨vals⟩:Array Value).size) undef,defers:=[] } w :=
  ⟨by simp;omega,rfl,β,V,hrel0,henv⟩
 have hlt:=allLt_mem hs
 refine Code.wp_mono ?_ (hvc ⟨w,ownB hin β,V,G⟩ _ w rfl hr)
 rintro e a' w' ⟨hkp,x,st',hq,hx⟩
 have h0:RepDL hin β V w (ptrsD 0 ptrs) (ptrs.map fun k=>a'.tmps.getD k undef):=by
  rw[← hpa,List.map_congr_left (g:=fun k=>((⟨vals⟩:Array Value)++Array.replicate (fn.ntmps - (⟨vals⟩:Array Value).size) undef).getD k undef) (fun k hk=>hkp k (by
   have:=List.all_eq_true.1 hpm k hk
   simpa using this))]
  exact (RepDL.at_map (envOf args) _ ptrs).2 (fun k _=>henv k)
 have fin:=@toH_end G w w' hin β V ptrs m nms a' hrel0 htg hpb h0
 have ret:∀ {st':St},Rel ⟨w,ownB hin β,V,G⟩ fn.ntmps st' a' w'→(match resD T st' fn.results.toList with | some ds=>forceDL ds fun ds=>st'.df=[]∧orS (hasMany st'.h) (ToH ptrs hin m nms (fun d h=>Q (.ret d h)) st'.h st'.env (oneOrD ds)) (GhostTo G (oneOrD ds) st'.h fun d h=>ToH ptrs hin m nms (fun d h=>Q (.ret d h)) h st'.env d) | none=>False) →
   a'.defers=[]∧∃ v,(results fn a'.tmps).run P w'=.ok v w'∧PostH G Q (ptrs.length+nms.length) hin β V w (.returned v) w':=by
  rintro st' ⟨_,hdf,β',V',hrel,he⟩ hq
  cases hres:resD T st' fn.results.toList with
  | none=>rw[hres] at hq;exact hq.elim
  | some ds =>
   rw[hres] at hq
   simp only[forceDL_eq] at hq
   obtain ⟨hd0,hq⟩:=hq
   obtain ⟨v,hv1,hv2⟩:=run_resultsD' hT hrel he hres
   simp only[RepDL] at hv2
   obtain ⟨v',us,e,h3,_⟩:=hv2
   injection e with e1 e2
   subst e1
   exact ⟨hdf.trans hd0,v,hv1,fin hrel he h3 hq⟩
 cases e with
 | normal =>
  cases x<;>try exact hx.elim
  exact ret hx hq
 | ret =>
  cases x<;>try exact hx.elim
  exact ret hx hq
 | panic ch =>
  cases x<;>try exact hx.elim
  obtain ⟨t,u,hch,hsz,hdf,β',V',hrel,he,hd⟩:=hx
  obtain ⟨hd0,hq⟩:=hq
  obtain ⟨d',h',β'',V'',q1,q2,q3,q4⟩:=fin hrel he hd hq
  exact ⟨hdf.trans hd0,d',h',t,u,β'',V'',hch,q1,q2,q3,q4⟩
 | exit i=>cases x<;>first | exact hx.elim | exact hq.elim
 | goto l=>cases x<;>exact hx.elim
 | outgrown=>cases x<;>exact hx.elim
theorem enterH0 (hT:TabOk P T) {f:FuncId} {fn:Func} {c:Code} (hf:P.funcs[f]?=some fn) (hb:fn.body=some c) (N:Nat) (hN:fn.ntmps=N) (hs:allLt N (mods c)=true) (rs:List ResultVar) (hrs:fn.results.toList=rs)
  (args:List D) (hal:Nat.ble args.length N=true) (hin:Heap) (ptrs:List Nat) (hpa:ptrs.map (envOf args)=ptrsD 0 ptrs) (hpb:allBlk hin 0 ptrs=true) (hpm:ptrs.all (fun k=>!inL (mods c) k)=true)
  (m:Nat) (nms:List (Option Value)) (htg:tagsN hin m ptrs.length nms) (Q:Out→Prop) (hvc:∀ (C:Ctx) (a:Act) (w:World),C.G=G→Rel C N ⟨envOf args,hin,[]⟩ a w→c.wp P (fun e a' w'=>Keeps (mods c) a a'∧∃ x st',FinH T G rs ptrs hin m nms Q x st'∧XOk e x st' a' w' C N) a w):CTH P G f (ptrs.length+nms.length) hin args Q :=
 fun w β V vals hrel0 hargs=>calls_of_wp hf hb (enterHw hT N hN hs rs hrs args hal hin ptrs hpa hpb hpm m nms htg Q hvc w β V vals hrel0 hargs)
theorem enterHdf (hT:TabOk P T) {f:FuncId} {fn:Func} {c:Code} (hf:P.funcs[f]?=some fn) (hb:fn.body=some c) (N:Nat) (hN:fn.ntmps=N) (hs:allLt N (mods c)=true) (rs:List ResultVar) (hrs:fn.results.toList=rs)
  (args:List D) (hal:Nat.ble args.length N=true) (hin:Heap) (ptrs:List Nat) (hpa:ptrs.map (envOf args)=ptrsD 0 ptrs) (hpb:allBlk hin 0 ptrs=true) (hpm:ptrs.all (fun k=>!inL (mods c) k)=true)
  (m:Nat) (nms:List (Option Value)) (htg:tagsN hin m ptrs.length nms) (Q:Out→Prop) (hvc:∀ (C:Ctx) (a:Act) (w:World),C.G=G→Rel C N ⟨envOf args,hin,[]⟩ a w→c.wp P (fun e a' w'=>Keeps (mods c) a a'∧∃ x st',FinH T G rs ptrs hin m nms Q x st'∧XOk e x st' a' w' C N) a w) (u:FrameMode) :
  ∀ (w:World) (β:Nat→Value) (V:Nat→Prop) (vals:List Value),RelD ⟨w,ownB hin β,V,G⟩ hin β V w→RepDL hin β V w args vals→CallsD P f ⟨vals⟩ u w fun e u' w'=>u'=u∧PostH G Q (ptrs.length+nms.length) hin β V w e w' :=
 fun w β V vals hrel0 hargs=>callsD_of_wp hf hb (enterHw hT N hN hs rs hrs args hal hin ptrs hpa hpb hpm m nms htg Q hvc w β V vals hrel0 hargs)
theorem enterH (tn:List Nat) (hT:TabOk P T) (hF:∀ g,F g=true→fnOk P g=true) (hM:Mix P) {f:FuncId} {fn:Func} {c:Code} (hf:P.funcs[f]?=some fn) (hb:fn.body=some c) (N:Nat) (hN:fn.ntmps=N) (hs:allLt N (mods c)=true) (rs:List ResultVar) (hrs:fn.results.toList=rs)
  (args:List D) (hal:Nat.ble args.length N=true) (hin:Heap) (ptrs:List Nat) (hpa:ptrs.map (envOf args)=ptrsD 0 ptrs) (hpb:allBlk hin 0 ptrs=true) (hpm:ptrs.all (fun k=>!inL (mods c) k)=true)
  (m:Nat) (nms:List (Option Value)) (htg:tagsN hin m ptrs.length nms) (Q:Out→Prop) (h:vcT P T F G N tn c ⟨envOf args,hin,[]⟩ (FinH T G rs ptrs hin m nms Q)):CTH P G f (ptrs.length+nms.length) hin args Q:=by
 subst hN
 refine enterH0 hT hf hb fn.ntmps rfl hs rs hrs args hal hin ptrs hpa hpb hpm m nms htg Q (fun C a w hG hr=>?_)
 subst hG
 exact vcT_sound hT hF hM.ok c tn (mods c) (allLt_mem hs) (fun k hk=>inL_iff.2 hk) C _ a w _ h hr
theorem callH {g:FuncId} {all:List D} {h:Heap} {K Qp:KD} {hin:Heap} {as:List D} {Q:Out→Prop} {b:Nat} (σ:List Nat) (hg:fnOk P g=true) (hcl:closedσ h σ all=true) (hbk:Nat.ble b σ.length=true) (ht:TurnTo h (σ.map .old) all hin as) (hc:CTH P G g b hin as Q)
  (hk:∀ d h',Q (.ret d h')→K (rnD (rnI σ b h.length) 4 d) (putH h σ b h')) (hp:∀ d h',Q (.panH d h')→Qp (rnD (rnI σ b h.length) 4 d) (putH h σ b h')):fnOk P g=true∧OwnCall P G g all h K Qp :=
 ⟨hg,σ,b,hin,as,Q,hcl,hbk,ht,hc,hk,hp⟩

theorem retIs {h:Heap} {x d:D} (hl:conv h [] 4 x=d∨Like (newN []) 4 (conv h [] 4 x) d):RetTo (Is d) h x :=
 ⟨[],d,[],⟨rfl,.inl rfl,by rcases hl with rfl | hl;exact .inl rfl;exact .inr ⟨hl,trivial⟩,rfl⟩,rfl⟩
theorem retQ {Q:Out→Prop} {h:Heap} {x:D} (d:D) (hl:conv h [] 4 x=d∨Like (newN []) 4 (conv h [] 4 x) d) (q:Q (.ret d [])):RetTo Q h x :=
 ⟨[],d,[],⟨rfl,.inl rfl,by rcases hl with rfl | hl;exact .inl rfl;exact .inr ⟨hl,trivial⟩,rfl⟩,q⟩
theorem retP {h:Heap} {p q:Prop} (e:p↔q):RetTo (Is (.pb q)) h (.pb p):=retIs (.inr (.inr e))
theorem retN {h:Heap} {p q:Prop} (e:¬p↔q):RetTo (Is (.pb q)) h (.pn p):=retIs (.inr (.inr e))
theorem retB {h:Heap} {b:Bool} {q:Prop} (e:b=true↔q):RetTo (Is (.pb q)) h (.g (.bool b)):=retIs (.inr (.inr e))
theorem retT {h:Heap} {q:Prop} (e:q):RetTo (Is (.pb q)) h (.g (.bool true)):=retB ⟨fun _=>e,fun _=>rfl⟩
theorem retF {h:Heap} {q:Prop} (e:¬q):RetTo (Is (.pb q)) h (.g (.bool false)):=retB ⟨fun h=>absurd h (by decide),fun h=>absurd h e⟩
theorem retPB {h:Heap} {p:Prop} {b:Bool} (e:b=true↔p):RetTo (Is (.g (.bool b))) h (.pb p):=retIs (.inr (.inr e))
theorem retNB {h:Heap} {p:Prop} {b:Bool} (e:b=true↔¬p):RetTo (Is (.g (.bool b))) h (.pn p):=retIs (.inr (.inr e))
theorem retYes {h:Heap} {p:Prop} (e:p):RetTo (Is (.g (.bool true))) h (.pb p):=retPB ⟨fun _=>e,fun _=>rfl⟩
theorem retI {h:Heap} {a b:Int} (e:a=b):RetTo (Is (.g (.int b))) h (.g (.int a)):=by subst e;exact retIs (.inl rfl)
theorem retS {h:Heap} {a b:List UInt8} (e:a=b):RetTo (Is (.g (.str b))) h (.g (.str a)):=by subst e;exact retIs (.inl rfl)
theorem retRow {Q:Out→Prop} {h:Heap} {i:Nat} {xs ys:List (List GV)} {e sz:Nat} (hi:h[i]?=some (.row xs e sz)) (hx:xs=ys) (q:Q (.ret (.row 0) [.row ys e sz])):RetTo Q h (.row i):=by
 subst hx
 have hkp:kp [.old i] 0 i=some 0:=by simp[kp]
 refine ⟨[.old i],.row 0,[.row xs e sz],⟨rfl,.inl ?_,.inl ?_,rfl⟩,q⟩
 ·simp only[turnH,List.map_cons,List.map_nil,turnO,hi]
 ·simp only[List.map_cons,List.map_nil,conv,hkp]
theorem panQ {Q:Out→Prop} {h:Heap} {x:D} (d:D) (hl:conv h [] 4 x=d) (q:Q (.pan d)):PanTo Q h x :=
 ⟨d,⟨rfl,.inl rfl,.inl (by rw[← hl];rfl),rfl⟩,q⟩

theorem callIs {g:FuncId} {ds as:List D} {d:D} {K:D→Heap→Prop} {Kp:D→Prop} (hl:likeA ds as) (hc:CT P G g as (Is d)) (hk:K d []) :
  ∃ as Q,likeA ds as∧CT P G g as Q∧(∀ d h',Q (.ret d h')→K d h')∧(∀ d,Q (.pan d)→Kp d) :=
 ⟨as,Is d,hl,hc,fun d' h' hq=>by injection hq with e1 e2;subst e1;subst e2;exact hk,fun d' hq=>by cases hq⟩
theorem callQ {g:FuncId} {ds as:List D} {Q:Out→Prop} {K:D→Heap→Prop} {Kp:D→Prop} (hl:likeA ds as) (hc:CT P G g as Q) (hk:∀ d h',Q (.ret d h')→K d h') (hp:∀ d,Q (.pan d)→Kp d) :
  ∃ as Q,likeA ds as∧CT P G g as Q∧(∀ d h',Q (.ret d h')→K d h')∧(∀ d,Q (.pan d)→Kp d) :=
 ⟨as,Q,hl,hc,hk,hp⟩
theorem gm {α β:Type} {f:α→β} {l:List α} {i:Nat} (h:i < l.length):(l.map f)[i]?=some (f l[i]):=by simp[h]
theorem ge {α:Type} {l:List α} {i:Nat} (h:i < l.length):l[i]?=some l[i]:=by simp[h]
theorem take_one {α:Type} {l:List α} {i:Nat} (h:i < l.length):l.take (i+1)=l.take i++[l[i]]:=List.take_succ_eq_append_getElem h
end
end Go.Dm
/-
  What a reading of an argument gives: values that stand for data of the argument's type. And the frame of a law's proof: it returns true, and what was there stays. It holds of every program.
-/
namespace Go.Dm
open Go Go.Eng Go.RowKit Go.ChangeShapes Go.WideShapes Go.Deep

def TypedG (P:Program):Nat→TypeId→GV→Prop
 | 0,_,_=>False
 | f+1,t,g=>match P.underlying t with
  | some (.int .i64)=>∃ n,g=.int n∧-9223372036854775808≤n∧n≤9223372036854775807
  | some .string=>∃ l,g=.str l∧l.length≤reachBytes
  | some .bool=>∃ b,g=.bool b
  | some (.slice e)=>∃ xs,g=.sl (P.cellsOf e) xs∧xs.length*P.bytesOf e≤reachBytes∧∀ r∈xs,match P.underlying e with
   | some (.struct fs)=>r.length=fs.size∧∀ (i:Nat) (fd:Field) (g:GV),fs[i]?=some fd→r[i]?=some g→TypedG P f fd.type g
   | _=>∃ g,r=[g]∧TypedG P f e g
  | _=>False

def TypedR (P:Program) (f:Nat) (t:TypeId) (r:List GV):Prop:=match P.underlying t with
 | some (.struct fs)=>r.length=fs.size∧∀ (i:Nat) (fd:Field) (g:GV),fs[i]?=some fd→r[i]?=some g→TypedG P f fd.type g
 | _=>∃ g,r=[g]∧TypedG P f t g

def plainAt (P:Program) (S:List TypeId) (t:TypeId):Bool :=
 match P.underlying t with
 | some (.int k)=>decide (k=.i64) && P.cellsOf t == 1
 | some .string=>P.cellsOf t == 1
 | some .bool=>P.cellsOf t == 1
 | some (.slice e)=>S.contains e && P.cellsOf t == 1 && !(P.cellsOf e == 0)
 | some (.struct fs)=>oneCellFields P fs && P.cellsOf t == fs.size && fs.toList.all fun f=>S.contains f.type && !(match P.underlying f.type with | some (.struct _)=>true | _=>false)
 | _=>false
def plainSet (P:Program) (S:List TypeId):Bool:=S.all (plainAt P S)

theorem mem_weightsAll {H:Type} {P:Program} {e:TypeId}:∀ {l:List (DataW H)} {d:DataW H} {n:Nat},d∈l→n∈d.weights P e→n∈DataW.weightsAll P e l
 | [],_,_,h,_=>by simp at h
 | x :: l,d,n,h,hn=>by
  simp only[DataW.weightsAll,List.mem_append]
  rcases List.mem_cons.1 h with rfl | h
  ·exact .inl hn
  ·exact .inr (mem_weightsAll h hn)
theorem mem_weightsEach {H:Type} {P:Program}:∀ {ts:List TypeId} {l:List (DataW H)} {i:Nat} {t:TypeId} {d:DataW H} {n:Nat},ts[i]?=some t→l[i]?=some d→n∈d.weights P t→n∈DataW.weightsEach P ts l
 | [],_,i,_,_,_,h,_,_=>by simp at h
 | _ :: _,[],i,_,_,_,_,h,_=>by simp at h
 | t :: ts,x :: l,0,_,_,n,h,h',hn=>by
  simp at h h';subst h;subst h'
  simp only[DataW.weightsEach,List.mem_append];exact .inl hn
 | t :: ts,x :: l,i+1,_,_,n,h,h',hn=>by
  simp only[DataW.weightsEach,List.mem_append]
  exact .inr (mem_weightsEach (i:=i) (by simpa using h) (by simpa using h') hn)
theorem RepL.one {V:Nat→Prop} {w:World} {g:GV} {v:Value} (h:RepV V w g v):RepL V w [g] [v]:=⟨h,trivial⟩

theorem repL_of {V:Nat→Prop} {w:World}:∀ (cs:List Value) (f:Nat→Value→GV→Prop),(∀ (i:Nat) (v:Value),cs[i]?=some v→∃ g,f i v g∧RepV V w g v)→∃ gs,RepL V w gs cs∧gs.length=cs.length∧∀ (i:Nat) (v:Value) (g:GV),cs[i]?=some v→gs[i]?=some g→f i v g
 | [],_,_=>⟨[],trivial,rfl,fun i v g h=>by simp at h⟩
 | c :: cs,f,h=>by
  obtain ⟨g,hf,hg⟩:=h 0 c rfl
  obtain ⟨gs,h1,h2,h3⟩:=repL_of cs (fun i=>f (i+1)) (fun i v hi=>h (i+1) v (by simpa using hi))
  refine ⟨g :: gs,⟨hg,h1⟩,by simp[h2],fun i v g' hi hg'=>?_⟩
  cases i with
  | zero=>simp at hi hg';subst hi;subst hg';exact hf
  | succ i=>exact h3 i v g' (by simpa using hi) (by simpa using hg')

theorem typedG_succ {P:Program}:∀ (f:Nat) (t:TypeId) (g:GV),TypedG P f t g→TypedG P (f+1) t g:=by
 intro f
 induction f with
 | zero=>intro t g h;exact h.elim
 | succ f ih =>
  intro t g h
  unfold TypedG at h ⊢
  split at h
  ·exact h
  ·exact h
  ·exact h
  ·obtain ⟨xs,rfl,hl,hx⟩:=h
   refine ⟨xs,rfl,hl,fun r hr=>?_⟩
   have:=hx r hr
   split at this
   ·exact ⟨this.1,fun i fd g hi hg=>ih _ _ (this.2 i fd g hi hg)⟩
   ·obtain ⟨g,rfl,hg⟩:=this
    exact ⟨g,rfl,ih _ _ hg⟩
  ·exact h.elim

section
variable {H:Type} {enc:TypeId × Value→H} {P:Program} {w:World}

theorem rep_of_trod {S:List TypeId} (hS:plainSet P S=true):∀ (fuel:Nat) (t:TypeId) (cs:List Value) (x:DataW H × List MemPlace),t∈S→(∀ n∈x.1.weights P t,n≤reachBytes)→DataW.trod enc P w 0 (fun _=>true) true fuel t cs=some x →
  ∃ gs,TypedR P fuel t gs∧RepL (fun k=>k < w.heap.size) w gs cs:=by
 intro fuel
 induction fuel with
 | zero=>intro t cs x _ _ h;simp[DataW.trod] at h
 | succ n ih =>
  intro t cs x ht hwt h
  have hp:=List.all_eq_true.1 hS t ht
  unfold plainAt at hp
  unfold TypedR
  split at hp
  ·rename_i k hu
   simp only[Bool.and_eq_true,decide_eq_true_eq] at hp
   obtain ⟨rfl,_⟩:=hp
   obtain ⟨m,rfl,_,hwf⟩:=DataW.trod_int hu h
   rw[hu]
   have hb:-9223372036854775808≤m∧m≤9223372036854775807:=by simpa [Lit.wf,IntKind.min,IntKind.max,IntKind.signed,IntKind.bits] using hwf
   exact ⟨[.int m],⟨.int m,rfl,by simp only[TypedG,hu];exact ⟨m,rfl,hb⟩⟩,RepL.one (by simp[RepV])⟩
  ·rename_i hu
   obtain ⟨s,rfl,hx,_⟩:=DataW.trod_string hu h
   have hs:s.data.toList.length≤reachBytes:=hwt _ (by rw[hx];simp[DataW.weights])
   rw[hu]
   exact ⟨[.str s.data.toList],⟨_,rfl,by simp only[TypedG,hu];exact ⟨_,rfl,hs⟩⟩,RepL.one (by simp[RepV])⟩
  ·rename_i hu
   obtain ⟨b,rfl,_⟩:=DataW.trod_bool hu h
   rw[hu]
   exact ⟨[.bool b],⟨_,rfl,by simp only[TypedG,hu];exact ⟨_,rfl⟩⟩,RepL.one (by simp[RepV])⟩
  ·rename_i e hu
   simp only[Bool.and_eq_true,Bool.not_eq_true',beq_iff_eq,beq_eq_false_iff_ne] at hp
   obtain ⟨⟨heS,_⟩,hne⟩:=hp
   have heS:e∈S:=by simpa using heS
   rw[hu]
   rcases DataW.trod_slice hu h with ⟨rfl,_⟩ | ⟨a,len,cap,elems,rest,n',hfu,rfl,rfl,_,hlc,hcm,hel,hcell,_,_⟩
   ·refine ⟨[.sl (P.cellsOf e) []],⟨_,rfl,?_⟩,RepL.one ?_⟩
    ·simp only[TypedG,hu]
     exact ⟨[],rfl,by simp,fun r hr=>by simp at hr⟩
    ·simp only[RepV]
     exact ⟨none,0,rfl,Nat.le_refl _,fun h=>by simp at h,fun _=>rfl⟩
   ·injection hfu with hfu
    subst hfu
    simp only[DataW.weights,hu,List.mem_cons,List.mem_append,forall_eq_or_imp,List.length_map] at hwt
    have key:∀ i,i < len→∃ gs cs',TypedR P n e gs∧RepL (fun k=>k < w.heap.size) w gs cs'∧cs'.length=P.cellsOf e∧∀ j v,cs'[j]?=some v→w.cell? ((a.add (i*P.cellsOf e)).add j)=some v:=by
     intro i hi
     have hc:=hcell i hi
     rw[List.getElem?_eq_getElem (by omega)] at hc
     obtain ⟨cs',hcs,htr⟩:=Option.bind_eq_some_iff.1 hc
     obtain ⟨_,hl,hat⟩:=World.cells?_some hcs
     obtain ⟨gs,hg1,hg2⟩:=ih e cs' _ heS (fun n hn=>hwt.2 n (.inl (mem_weightsAll (List.mem_map.2 ⟨_,List.getElem_mem _,rfl⟩) hn))) htr
     refine ⟨gs,cs',hg1,hg2,hl,fun j v hj=>?_⟩
     have hjl:j < P.cellsOf e:=by rw[← hl];exact (List.getElem?_eq_some_iff.1 hj).1
     rw[hat j hjl,hj]
    have build:∀ (m k:Nat),k+m≤len→∃ xs:List (List GV),xs.length=m∧(∀ r∈xs,TypedR P n e r)∧RepAll (fun k=>k < w.heap.size) w (P.cellsOf e) a k xs:=by
     intro m
     induction m with
     | zero=>intro k _;exact ⟨[],rfl,fun r hr=>by simp at hr,by simp[RepAll]⟩
     | succ m ihm =>
      intro k hk
      obtain ⟨xs,h1,h2,h3⟩:=ihm (k+1) (by omega)
      obtain ⟨gs,cs',g1,g2,g3,g4⟩:=key k (by omega)
      refine ⟨gs :: xs,by simp[h1],fun r hr=>?_,?_⟩
      ·rcases List.mem_cons.1 hr with rfl | hr
       ·exact g1
       ·exact h2 r hr
      ·simp only[RepAll]
       have rowl:∀ (gs:List GV) (cs:List Value) (i:Nat),RepL (fun k=>k < w.heap.size) w gs cs→(∀ j v,cs[j]?=some v→w.cell? ((a.add (k*P.cellsOf e)).add (i+j))=some v)→gs.length=cs.length∧RepRow (fun k=>k < w.heap.size) w a (k*P.cellsOf e+i) gs:=by
        intro gs
        induction gs with
        | nil=>intro cs i hr _;cases cs with | nil=>exact ⟨rfl,by simp[RepRow]⟩ | cons c cs=>exact hr.elim
        | cons g gs ihg =>
         intro cs i hr hc
         cases cs with
         | nil=>exact hr.elim
         | cons c cs =>
          obtain ⟨hl,hrow⟩:=ihg cs (i+1) hr.2 (fun j v hj=>by
           have:=hc (j+1) v (by simpa using hj)
           rwa [show i+(j+1)=i+1+j from by omega] at this)
          refine ⟨by simp[hl],?_⟩
          simp only[RepRow]
          refine ⟨⟨c,?_,hr.1⟩,by rwa [show k*P.cellsOf e+i+1=k*P.cellsOf e+(i+1) from by omega]⟩
          have:=hc 0 c rfl
          rwa [add_add,Nat.add_zero] at this
       obtain ⟨hl,hrow⟩:=rowl gs cs' 0 g2 (fun j v hj=>by rw[Nat.zero_add];exact g4 j v hj)
       exact ⟨⟨by omega,by simpa using hrow⟩,h3⟩
    obtain ⟨xs,hx1,hx2,hx3⟩:=build len 0 (by omega)
    refine ⟨[.sl (P.cellsOf e) xs],⟨_,rfl,?_⟩,RepL.one ?_⟩
    ·simp only[TypedG,hu]
     exact ⟨xs,rfl,by rw[hx1,← hel];exact Nat.le_trans (Nat.mul_le_mul_right _ (Nat.le_add_right _ _)) hwt.1,fun r hr=>hx2 r hr⟩
    ·simp only[RepV]
     refine ⟨some a,cap,by rw[hx1],by omega,fun h0=>⟨a,rfl,?_,hx3⟩,fun e=>(by cases e)⟩
     obtain ⟨gs,cs',_,_,hl,hat⟩:=key 0 (by omega)
     have h1:cs'[0]?=some (cs'[0]'(by omega)):=List.getElem?_eq_getElem (by omega)
     have:=World.block_lt_of_cell? w _ (hat 0 _ h1)
     rwa [add_block,add_block] at this
  ·rename_i fs hu
   simp only[Bool.and_eq_true,beq_iff_eq] at hp
   obtain ⟨⟨hone,hsz⟩,hall⟩:=hp
   obtain ⟨ys,n',hfu,rfl,hlen,hyl,hf⟩:=DataW.trod_struct hu h
   injection hfu with hfu
   subst hfu
   simp only[DataW.weights,hu] at hwt
   rw[hu]
   have hcl:cs.length=fs.size:=hlen.trans hsz
   obtain ⟨gs,h1,h2,h3⟩:=repL_of (V:=fun k=>k < w.heap.size) (w:=w) cs (fun i v g=>∀ fd,fs[i]?=some fd→TypedG P (n+1) fd.type g) (by
    intro i v hi
    have hil:i < fs.size:=by rw[← hcl];exact (List.getElem?_eq_some_iff.1 hi).1
    obtain ⟨fd,hfd⟩:∃ fd,fs[i]?=some fd:=⟨fs[i],Array.getElem?_eq_getElem hil⟩
    obtain ⟨ho,hk⟩:=hone_of hone i fd hfd
    have ht':=hf i fd hfd
    rw[ho,hk] at ht'
    have h1v:(cs.drop i).take 1=[v]:=by
     obtain ⟨hil',he⟩:=List.getElem?_eq_some_iff.1 hi
     rw[List.drop_eq_getElem_cons hil',he]
     rfl
    rw[h1v,List.getElem?_eq_getElem (by omega)] at ht'
    have hfm:=List.all_eq_true.1 hall fd (by rw[Array.getElem?_eq_some_iff] at hfd;obtain ⟨hh,he⟩:=hfd;rw[← he];simp)
    simp only[Bool.and_eq_true,Bool.not_eq_true'] at hfm
    have hns:∀ fs',P.underlying fd.type≠some (.struct fs'):=fun fs' e=>by rw[e] at hfm;exact absurd hfm.2 (by simp)
    obtain ⟨gs,hg,hr⟩:=ih fd.type [v] _ (by simpa using hfm.1) (fun n hn=>hwt n (mem_weightsEach (i:=i) (t:=fd.type) (by rw[List.getElem?_map,Array.getElem?_toList,hfd];rfl) (by rw[List.getElem?_map,List.getElem?_eq_getElem (by omega)];rfl) hn)) ht'
    unfold TypedR at hg
    split at hg
    ·rename_i fs' hu';exact absurd hu' (hns fs')
    ·obtain ⟨g,rfl,hg⟩:=hg
     refine ⟨g,fun fd' hfd'=>?_,hr.1⟩
     rw[hfd] at hfd'
     injection hfd' with e
     subst e
     exact typedG_succ _ _ _ hg)
   exact ⟨gs,⟨by rw[h2,hcl],fun i fd g hi hg=>by
    have hil:i < cs.length:=by rw[hcl];exact (Array.getElem?_eq_some_iff.1 hi).1
    exact h3 i _ g (List.getElem?_eq_getElem hil) hg fd hi⟩,h1⟩
  ·cases hp
end
attribute [irreducible] TypedG TypedR
end Go.Dm
