/-
  tree's reader: one deeper, and the way back: the contracts.
-/
import Derived.Test.YtabjelabdojpkaaDoorRt
import Derived.WalkKit
namespace Go.Proofs.YtabjelabdojpkaaDoor
open Go Go.Dm Go.Eng Go.RowKit Barb
variable {L:Lv}
abbrev backD (i:Nat):D:=.fn 113 [] [.ptr i 0]
abbrev BH (l:List Tok) (k:Int):Heap:=[.blk (RB l k) 93,.blk [.ptr 0 0] 91]
def deepQ (l:List Tok) (k:Int):Out→Prop:=fun out=>if k+1≤48 then out=.ret (backD 1) (BH l (k+1)) else out=.panH (panV 1) (RH l (k+1))
theorem deeper_fn:fnOk Tryd.prog 105=true:=by kernel_rfl
theorem deeper_any (l:List Tok) (k:Int) (hk:I64 (k+1)):CTH Tryd.prog (gl L) 105 1 (RH l k) [.ptr 0 0] (deepQ l k):=by
 by_cases h48:k+1≤48
 ·have hQ:deepQ l k (.ret (backD 1) (BH l (k+1))):=by unfold deepQ;rw[if_pos h48]
  refine enterH [] hT hF hM Tryd.func105 rfl 17 rfl (by kernel_rfl) [.tmp 2] rfl [.ptr 0 0] rfl (RH l k) [0] rfl rfl rfl 1 [] trivial _ ?_
  refine ⟨_,I64.wrap hk,?_⟩
  refine callNeed (p:=k+1≤48) (by decide) (lkP Iff.rfl) (fun _=>?_) (fun h=>absurd h48 h)
  exact ⟨rfl,[.old 0,.old 1],backD 1,BH l (k+1),⟨rfl,.inl rfl,.inl rfl,rfl⟩,rfl,trivial,hQ⟩
 ·have hQ:deepQ l k (.panH (panV 1) (RH l (k+1))):=by unfold deepQ;rw[if_neg h48]
  refine enterH [] hT hF hM Tryd.func105 rfl 17 rfl (by kernel_rfl) [.tmp 2] rfl [.ptr 0 0] rfl (RH l k) [0] rfl rfl rfl 1 [] trivial _ ?_
  refine ⟨_,I64.wrap hk,?_⟩
  refine callNeed (p:=k+1≤48) (by decide) (lkP Iff.rfl) (fun h=>absurd h h48) (fun _=>?_)
  exact ⟨rfl,endRH (panV 1) l (k+1) [.old 0] rfl rfl rfl (.inl rfl) rfl rfl rfl hQ⟩
set_option maxRecDepth 100000 in
theorem back_raw (bx rd:Nat) (k:Int) (hk:I64 (k - 1)) (u:FrameMode) (w:World) (hb:w.cell? ⟨bx,0,none⟩=some (.pointer (some ⟨rd,0,none⟩))) (hc:w.cell? ⟨rd,1,none⟩=some (.int .i64 k)) (hf:w.frozen? ⟨rd,1,none⟩=false) :
  CallsD Tryd.prog 113 #[.pointer (some ⟨bx,0,none⟩)] u w fun e u' w'=>u'=u∧e=.returned (.tuple #[])∧w'=w.setCell ⟨rd,1,none⟩ (.int .i64 (k - 1)):=by
 refine callsD_of_wp Tryd.func113 rfl ?_
 simp only[Tryd.ntmps113,List.size_toArray,List.length_cons,List.length_nil,Nat.reduceAdd,Nat.reduceSub,Array.replicate_succ,Array.replicate_zero,List.push_toArray,List.append_toArray,List.nil_append,List.cons_append]
 go_wp2
 have e:wrap64 (k - 1)=k - 1:=by unfold I64 at hk;unfold wrap64;omega
 rw[e]
 exact ⟨rfl,_,results_none rfl _ _ _,rfl,rfl⟩
theorem set_row2 {w:World} {g:Nat} {v0 v1 v:Value} {t:TypeId} (h:w.heap[g]?=some (.cells ⟨[v0,v1]⟩ t (0,0))):w.setCell ⟨g,1,none⟩ v=w.setRow g ⟨[v0,v]⟩:=by
 unfold World.setCell World.setRow
 refine congrArg (fun hp=>({ w with heap:=hp }:World)) (Array.ext_getElem? fun i=>?_)
 rw[Array.getElem?_modify,Array.getElem?_modify]
 by_cases e:g=i
 ·subst e
  simp[h]
 ·simp[e]
theorem nthEnv1 {h:Heap} {β:Nat→Value} {V:Nat→Prop} {w:World} (ds:List D) (vs:List Value) (hd:RepDL h β V w ds vs) (n i:Nat):RepD h β V w (envOf ds i) (((⟨vs⟩:Array Value)++Array.replicate n undef).getD i undef):=by
 have hn:∀ (ds:List D) (vs:List Value),RepDL h β V w ds vs→∀ i,RepD h β V w (nth .any ds i) (vs.getD i undef):=by
  intro ds
  induction ds with
  | nil=>intro vs _ i;simp only[nth,RepD]
  | cons d ds ih =>
   intro vs h i
   simp only[RepDL] at h
   obtain ⟨v,us,rfl,h1,h2⟩:=h
   cases i with
   | zero=>simpa [nth] using h1
   | succ i=>simpa [nth] using ih us h2 i
 have e:((⟨vs⟩:Array Value)++Array.replicate n undef).getD i undef=vs.getD i undef:=by
  rw[Array.getD_eq_getD_getElem?,List.getD_eq_getElem?_getD]
  by_cases hi:i < vs.length
  ·rw[Array.getElem?_append_left (by simpa using hi)]
   simp
  ·rw[Array.getElem?_append_right (by simp;omega),List.getElem?_eq_none (by omega)]
   rw[Array.getElem?_replicate]
   split<;>rfl
 rw[e]
 exact hn ds vs hd i
abbrev DH (l:List Tok) (k:Int) (cs:List D) (tR:TypeId):Heap:=[.blk (RB l k) 93,.blk cs tR,.blk [.ptr 0 0] 91]
abbrev AH (l:List Tok) (k:Int) (cs:List D) (tR:TypeId):Heap:=[.blk (RB l k) 93,.blk cs tR]
def deepP {α:Type} (enc:α→List D) (tR:TypeId) (jC:Nat) (k:Int) (r:PR α) (d:Deferred):Dm.Post:=fun y st=>match y with
 | .ret=>st.df=[d]∧∃ a l,r=.ok a l∧∃ src,TurnTo st.h src [st.env 0,st.env 2,st.env jC] (DH l (k+1) (enc a) tR) [.ptr 0 0,.ptr 1 0,backD 2]
 | .pan x=>st.df=[d]∧∃ e l k',r=.bad e∧x=panV e∧(k+1≤k'∧k'≤k+2)∧∃ src,TurnTo st.h src [st.env 0,st.env jC] (BH l k') [.ptr 0 0,backD 1]
 | _=>False
def envR:Dm.Env:=fun k=>bif Nat.beq k 0 then .ptr 0 0 else bif Nat.beq k 2 then .ptr 1 0 else .any
theorem back_use {C:Dm.Ctx} {h:Heap} {β:Nat→Value} {V:Nat→Prop} {w:World} {i:Nat} {v:Value} (hd:RepD h β V w (backD i) v) {cs:List D} {t:TypeId} (hi:h[i]?=some (.blk cs t)) (_:RelD C h β V w):∃ g,β i=.pointer (some ⟨g,0,none⟩)∧v=.func (.func 113) #[] #[.pointer (some ⟨g,0,none⟩)]:=by
 simp only[RepD,RepDL,hi] at hd
 obtain ⟨us,ts,rfl,rfl,v1,us1,rfl,⟨g,h1,rfl⟩,rfl⟩:=hd
 exact ⟨g,h1,rfl⟩
theorem back_rel {C:Dm.Ctx} {l:List Tok} {k:Int} {h:Heap} {β:Nat→Value} {V:Nat→Prop} {w:World} {i g:Nat} (hr:RelD C h β V w) (h0:h[0]?=some (.blk (RB l k) 93)) (hi:h[i]?=some (.blk [.ptr 0 0] 91)) (hb:β i=.pointer (some ⟨g,0,none⟩)) (hk:I64 (k - 1)) (u:FrameMode) :
  CallsD Tryd.prog 113 #[.pointer (some ⟨g,0,none⟩)] u w fun e u' w'=>u'=u∧e=.returned (.tuple #[])∧RelD C (h.set 0 (.blk (RB l (k - 1)) 93)) β V w':=by
 obtain ⟨g',vs,hb',hg,hv⟩:=hr.obj i _ hi
 obtain rfl:g'=g:=by rw[hb] at hb';simpa using hb'.symm
 obtain ⟨r0,vs0,hr0,hg0,hv0⟩:=hr.obj 0 _ h0
 simp only[RepDL,RepD,h0] at hv
 obtain ⟨v1,us1,rfl,⟨g1,hb1,rfl⟩,rfl⟩:=hv
 obtain rfl:g1=r0:=by rw[hr0] at hb1;simpa using hb1.symm
 simp only[RepDL] at hv0
 obtain ⟨x0,us0,rfl,hx0,x1,us2,rfl,hx1,rfl⟩:=hv0
 have hx1':x1=.int .i64 k:=by simpa only[RepD,RepV] using hx1
 subst hx1'
 refine (back_raw g' g1 k hk u w (by simp[World.cell?,hg]) (by simp[World.cell?,hg0]) (by simp[World.frozen?,hg0])).mono ?_
 rintro e u' w' ⟨rfl,rfl,rfl⟩
 refine ⟨rfl,rfl,?_⟩
 rw[set_row2 hg0]
 refine hr.set_blk h0 hr0 _ _ ?_
 simp only[RepDL]
 exact ⟨x0,_,rfl,hx0,_,_,rfl,by simp only[RepD,RepV],rfl⟩
theorem envSet {env:Dm.Env} {i:Nat} {d:D} (k:Nat):(env.set i d) k=if k=i then d else env k:=by
 show (bif Nat.beq k i then d else env k)=_
 cases h:Nat.beq k i with
 | true=>rw[if_pos (Nat.eq_of_beq_eq_true h)];rfl
 | false=>rw[if_neg (fun e=>by rw[e] at h;simp at h)];rfl
set_option maxHeartbeats 1000000 in
theorem deep_gen {α:Type} {f:FuncId} {fn:Func} {c0 c1 c2:Code} {nt jA jC:Nat} {S0 S2:List Nat} {tR:TypeId} {zero:List D} {enc:α→List D} {r:PR α} {l:List Tok} {k:Int}
  (hf:Tryd.prog.funcs[f]?=some fn) (hb:fn.body=some (.seq c0 (.seq c1 c2))) (hn:fn.ntmps=nt) (hn1:1≤nt) (hk:0≤k∧k≤1000)
  (hj:jA < nt∧jC < nt∧jA≠jC∧jA≠0∧jC≠0∧jA≠2∧jC≠2)
  (k0:inL S0 0=false) (k2:inL S2 0=false∧inL S2 2=false∧inL S2 jC=false)
  (w0:∀ (C:Dm.Ctx) (a:Act) (w:World),C.G=(gl L)→Rel C nt ⟨envOf [.ptr 0 0],RH l k,[]⟩ a w→c0.wp Tryd.prog (fun e a' w'=>Keeps S0 a a'∧∃ x st',(x=.normal∧st'=⟨(envOf [.ptr 0 0]).set 2 (.ptr 1 0),AH l k zero tR,[]⟩)∧XOk e x st' a' w' C nt) a w)
  (w1:∀ (Q:Exit→Act→World→Prop) (a:Act) (w:World),a.tmps.size=nt→a.defers=[] →
   Calls Tryd.prog 105 #[a.tmps.getD 0 undef] w (fun e w'=>match e with
    | .returned v=>∃ b,v=.func (.func 113) #[] #[b]∧Q .normal { tmps:=(a.tmps.setIfInBounds jA (a.tmps.getD 0 undef)).setIfInBounds jC v,defers:=[{ target:=.fn (.func 113) #[b],args:=#[] }] } w'
    | .panicked ch=>Q (.panic ch) { tmps:=a.tmps.setIfInBounds jA (a.tmps.getD 0 undef),defers:=[] } w'
    | .outgrown=>False)→c1.wp Tryd.prog Q a w)
  (w2:∀ (d:Deferred) (C:Dm.Ctx) (a:Act) (w:World),k+1≤48→C.G=(gl L)→Rel C nt ⟨(((envOf [.ptr 0 0]).set 2 (.ptr 1 0)).set jA .any).set jC (backD 2),DH l (k+1) zero tR,[d]⟩ a w →
   c2.wp Tryd.prog (fun e a' w'=>Keeps S2 a a'∧∃ x st',deepP enc tR jC k r d x st'∧XOk e x st' a' w' C nt) a w)
  (hbad:¬k+1≤48→r=.bad 1) (hresD:∀ l' k' a,resD T ⟨envR,DH l' k' (enc a) tR,[]⟩ fn.results.toList=some [.agg (enc a)])
  (hconv:∀ (h:Heap) (src:List Src) (a:α),conv h src 4 (.agg (enc a))=.agg (enc a)) :
  CTH Tryd.prog (gl L) f 1 (RH l k) [.ptr 0 0] (rdQ (fun a=>.agg (enc a)) k r):=by
 intro w β V vals hrel hvals
 have hlen:vals.length=1:=by rw[← hvals.len];rfl
 refine calls_of_wp_defers hf hb ?_
 have hr0:Rel ⟨w,ownB (RH l k) β,V,(gl L)⟩ nt ⟨envOf [.ptr 0 0],RH l k,[]⟩ { tmps:=(⟨vals⟩:Array Value)++Array.replicate (fn.ntmps - (⟨vals⟩:Array Value).size) undef,defers:=[] } w :=
  ⟨by simp[hlen,hn];omega,rfl,β,V,hrel,fun j=>nthEnv1 _ _ hvals _ j⟩
 refine wp_seq (Code.wp_mono ?_ (w0 _ _ w rfl hr0))
 rintro e a1 w1' ⟨hk1,y,st1,⟨rfl,rfl⟩,hx⟩
 cases e<;>try exact hx.elim
 obtain ⟨hsz1,hdf1,β1,V1,r1,r2⟩:=hx
 refine wp_seq (w1 _ a1 w1' hsz1 hdf1 ?_)
 have hp0:=r2 0
 have hall:RepDL (AH l k zero tR) β1 V1 w1' [.ptr 0 0] [a1.tmps.getD 0 undef]:=by
  simp only[RepDL]
  exact ⟨_,_,rfl,hp0,rfl⟩
 have hfin:∀ (w':World) (a':Act),a'.tmps.getD 0 undef=vals.getD 0 undef→RepDL (RH l k) β V w (ptrsD 0 [0]) ([0].map fun k=>a'.tmps.getD k undef):=fun w' a' h=>by
  simp only[ptrsD,List.map_cons,List.map_nil,RepDL]
  refine ⟨_,_,rfl,?_,rfl⟩
  rw[h]
  simp only[RepDL] at hvals
  obtain ⟨v,us,rfl,h1,rfl⟩:=hvals
  exact h1
 have hk10:a1.tmps.getD 0 undef=vals.getD 0 undef:=by
  rw[hk1 0 k0]
  have:0 < vals.length:=by omega
  rw[Array.getD_eq_getD_getElem?,List.getD_eq_getElem?_getD,Array.getElem?_append_left (by simpa using this)]
  simp
 have hO:=(callH (all:=[.ptr 0 0]) (h:=AH l k zero tR) (K:=fun d h=>k+1≤48∧d=backD 2∧h=DH l (k+1) zero tR) (Qp:=fun d h=>¬k+1≤48∧d=panV 1∧h=AH l (k+1) zero tR)
  [0] deeper_fn rfl rfl ⟨rfl,.inl rfl,.inl rfl,rfl⟩ (deeper_any (L:=L) l k (by unfold I64;omega)) (fun d' h' hq=>by
   unfold deepQ at hq
   split at hq
   ·rename_i h48
    injection hq with e1 e2;subst e1;subst e2
    exact ⟨h48,rfl,rfl⟩
   ·cases hq) (fun d' h' hq=>by
   unfold deepQ at hq
   split at hq
   ·cases hq
   ·rename_i h48
    injection hq with e1 e2;subst e1;subst e2
    exact ⟨h48,rfl,rfl⟩)).2
 refine (callH_sound (st:=⟨fun _=>.any,AH l k zero tR,[]⟩) (next:=fun v w'=>k+1≤48∧∃ β' V',RelD ⟨w,ownB (RH l k) β,V,(gl L)⟩ (DH l (k+1) zero tR) β' V' w'∧RepD (DH l (k+1) zero tR) β' V' w' (backD 2) v∧LeH (AH l k zero tR) β1 (DH l (k+1) zero tR) β'∧Moved V1 w1' V' w')
  (qp:=fun ch w'=>¬k+1≤48∧∃ u β' V',ch=[{ v:=.iface 108 u,recovered:=false }]∧RelD ⟨w,ownB (RH l k) β,V,(gl L)⟩ (AH l (k+1) zero tR) β' V' w'∧RepD (AH l (k+1) zero tR) β' V' w' (panV 1) (.iface 108 u)∧LeH (AH l k zero tR) β1 (AH l (k+1) zero tR) β'∧Moved V1 w1' V' w') r1 ?_ ?_ hall hO).mono ?_
 ·rintro d h' v w' β' V' ⟨h48,rfl,rfl⟩ q1 q2 q3 q4
  exact ⟨h48,β',V',q1,q2,q3,q4⟩
 ·rintro d h' t u w' β' V' ⟨h48,rfl,rfl⟩ q1 q2 q3 q4
  obtain ⟨u',e1,e2⟩:∃ u',Value.iface t u=.iface 108 u'∧RepD (AH l (k+1) zero tR) β' V' w' (.agg [.g (.int 1)]) u':=by simpa only[panV,RepD] using q2
  injection e1 with e1 e3;subst e1;subst e3
  exact ⟨h48,u,β',V',rfl,q1,q2,q3,q4⟩
 rintro e w2' he
 cases e with
 | outgrown=>exact he.elim
 | panicked ch =>
  obtain ⟨h48,u,β',V',rfl,q1,q2,q3,q4⟩:=he
  show PostH (gl L) (rdQ (fun a=>.agg (enc a)) k r) 1 (RH l k) β V w (.panicked _) w2'
  have hA:(a1.tmps.setIfInBounds jA (a1.tmps.getD 0 undef)).getD 0 undef=a1.tmps.getD 0 undef:=by
   rw[Array.getD_eq_getD_getElem?,Array.getD_eq_getD_getElem?,Array.getElem?_setIfInBounds_ne hj.2.2.2.1]
  have hE:=@toH_end (gl L) w w2' (RH l k) β V [0] 1 [] ⟨a1.tmps.setIfInBounds jA (a1.tmps.getD 0 undef),[]⟩ hrel trivial rfl (hfin w2' _ (hA.trans hk10))
   ⟨fun i=>bif Nat.beq i 0 then .ptr 0 0 else .any,AH l (k+1) zero tR,[]⟩ β' V' (fun d h=>rdQ (fun a=>.agg (enc a)) k r (.panH d h)) (panV 1) (.iface 108 u) q1 (fun i=>by
    show RepD _ _ _ _ (bif Nat.beq i 0 then .ptr 0 0 else .any) _
    cases hi:Nat.beq i 0 with
    | true =>
     rw[Nat.eq_of_beq_eq_true hi]
     show RepD (AH l (k+1) zero tR) β' V' w2' (.ptr 0 0) ((a1.tmps.setIfInBounds jA (a1.tmps.getD 0 undef)).getD 0 undef)
     rw[hA]
     exact RepD.mono q3 q4 _ _ hp0
    | false=>simp only[cond_false,RepD]) q2
   (orS_l ⟨[.old 0],panV 1,RH l (k+1),⟨rfl,.inl rfl,.inl rfl,rfl⟩,rfl,trivial,by rw[hbad h48];exact ⟨l,k+1,by omega,rfl⟩⟩)
  obtain ⟨d',h',β'',V'',z1,z2,z3,z4⟩:=hE
  exact ⟨d',h',_,u,β'',V'',rfl,z1,z2,z3,z4⟩
 | returned v =>
  obtain ⟨h48,β',V',q1,q2,q3,q4⟩:=he
  obtain ⟨g,b1,rfl⟩:=back_use q2 rfl q1
  refine ⟨_,rfl,?_⟩
  obtain ⟨v,hv⟩:∃ v,Value.func (.func 113) #[] #[.pointer (some ⟨g,0,none⟩)]=v:=⟨_,rfl⟩
  rw[hv] at q2 ⊢
  obtain ⟨tm,htm⟩:∃ tm,(a1.tmps.setIfInBounds jA (a1.tmps.getD 0 undef)).setIfInBounds jC v=tm:=⟨_,rfl⟩
  have hget:∀ i,i≠jA→i≠jC→tm.getD i undef=a1.tmps.getD i undef:=fun i h1 h2=>by
   rw[← htm,Array.getD_eq_getD_getElem?,Array.getElem?_setIfInBounds_ne (Ne.symm h2),Array.getElem?_setIfInBounds_ne (Ne.symm h1),Array.getD_eq_getD_getElem?]
  have hgetC:tm.getD jC undef=v:=by
   rw[← htm,Array.getD_eq_getD_getElem?,Array.getElem?_setIfInBounds_self_of_lt (by rw[Array.size_setIfInBounds,hsz1];exact hj.2.1),Option.getD_some]
  have hsz2:tm.size=nt:=by rw[← htm];simpa using hsz1
  rw[htm]
  have hr2:Rel ⟨w,ownB (RH l k) β,V,(gl L)⟩ nt ⟨(((envOf [.ptr 0 0]).set 2 (.ptr 1 0)).set jA .any).set jC (backD 2),DH l (k+1) zero tR,[{ target:=.fn (.func 113) #[.pointer (some ⟨g,0,none⟩)],args:=#[] }]⟩ ⟨tm,[{ target:=.fn (.func 113) #[.pointer (some ⟨g,0,none⟩)],args:=#[] }]⟩ w2':=by
   refine ⟨hsz2,rfl,β',V',q1,fun i=>?_⟩
   show RepD _ _ _ _ (((((envOf [.ptr 0 0]).set 2 (.ptr 1 0)).set jA .any).set jC (backD 2)) i) (tm.getD i undef)
   rw[envSet]
   by_cases hC:i=jC
   ·rw[if_pos hC,hC,hgetC];exact q2
   ·rw[if_neg hC,envSet]
    by_cases hA:i=jA
    ·rw[if_pos hA];simp only[RepD]
    ·rw[if_neg hA,hget i hA hC]
     exact RepD.mono q3 q4 _ _ (r2 i)
  refine Code.wp_mono ?_ (w2 _ _ _ w2' h48 rfl hr2)
  rintro e a3 w3 ⟨hk3,x,⟨env3,h3,df3⟩,hq,hx⟩
  have t0:a3.tmps.getD 0 undef=vals.getD 0 undef:=(hk3 0 k2.1).trans ((hget 0 (Ne.symm hj.2.2.2.1) (Ne.symm hj.2.2.2.2.1)).trans hk10)
  have tC:a3.tmps.getD jC undef=v:=(hk3 jC k2.2.2).trans hgetC
  have hinv:∀ w',(invoke (.fn (.func 113) #[.pointer (some ⟨g,0,none⟩)]) #[]).run Tryd.prog w'=.ok (.enter 113 #[.pointer (some ⟨g,0,none⟩)]) w':=fun w'=>by
   have e113:∀ args w,(callFunc 113 args).run Tryd.prog w=.ok (.enter 113 args) w:=enters_of Tryd.func113 (by kernel_rfl) rfl
   simp[invoke,go_sem,e113]
  cases x with
  | normal=>exact hq.elim
  | exit _=>exact hq.elim
  | ret =>
   cases e<;>try exact hx.elim
   obtain ⟨hdf,a,l',hr',src,ht⟩:=hq
   dsimp only at hdf ht
   subst hdf
   obtain ⟨_,hdf3,β3,V3,hrel3,he3⟩:=hx
   have hdf3:a3.defers=[{ target:=.fn (.func 113) #[.pointer (some ⟨g,0,none⟩)],args:=#[] }]:=hdf3
   obtain ⟨y1,y2⟩:=ht.use hrel3 (vs:=[a3.tmps.getD 0 undef,a3.tmps.getD 2 undef,a3.tmps.getD jC undef]) (by
    simp only[RepDL]
    exact ⟨_,_,rfl,he3 0,_,_,rfl,he3 2,_,_,rfl,he3 jC,rfl⟩)
   simp only[RepDL] at y2
   obtain ⟨_,_,ez,z0,_,_,ez2,z2,_,_,ez3,zC,ez4⟩:=y2
   injection ez with e1 e2;subst e1;subst e2
   injection ez2 with e1 e2;subst e1;subst e2
   injection ez3 with e1 e2;subst e1;subst e2
   rw[tC] at zC
   obtain ⟨g2,b2,hv2⟩:=back_use zC rfl y1
   obtain rfl:g2=g:=by
    rw[← hv] at hv2
    simpa using hv2.symm
   show Leaves Tryd.prog fn a3.tmps _ a3.defers .returning w3
   rw[hdf3]
   refine leaves_cons (by simp) (hinv _) ((back_rel y1 rfl rfl b2 (by unfold I64;omega) .returning).mono ?_)
   rintro _ _ w4 ⟨rfl,rfl,y4⟩
   rw[show k+1 - 1=k from by omega] at y4
   have y4:RelD ⟨w,ownB (RH l k) β,V,(gl L)⟩ (DH l' k (enc a) tR) (turnβ src β3) (turnV h3 src β3 V3) w4:=y4
   have he4:EnvOk ⟨envR,DH l' k (enc a) tR,[]⟩ (turnβ src β3) (turnV h3 src β3 V3) w4 a3:=fun i=>by
    show RepD _ _ _ _ (bif Nat.beq i 0 then .ptr 0 0 else bif Nat.beq i 2 then .ptr 1 0 else .any) _
    cases hi:Nat.beq i 0 with
    | true=>rw[Nat.eq_of_beq_eq_true hi];exact z0
    | false =>
     cases hi2:Nat.beq i 2 with
     | true=>rw[Nat.eq_of_beq_eq_true hi2];exact z2
     | false=>simp only[cond_false,RepD]
   obtain ⟨v',hv1,hv3⟩:=run_resultsD' (fn:=fn) hT y4 he4 (hresD l' k a)
   simp only[RepDL] at hv3
   obtain ⟨_,_,ev,hv3,_⟩:=hv3
   injection ev with ev1 _
   subst ev1
   obtain ⟨d',h',β5,V5,x1,x2,x3,x4⟩:=@toH_end (gl L) w w4 (RH l k) β V [0] 1 [] a3 hrel trivial rfl (hfin w4 _ t0) ⟨envR,DH l' k (enc a) tR,[]⟩ _ _ (fun d h=>rdQ (fun a=>.agg (enc a)) k r (.ret d h)) _ _ y4 he4 hv3
    (orS_l ⟨[.old 0],.agg (enc a),RH l' k,⟨rfl,.inl rfl,.inl (by show [conv (DH l' k (enc a) tR) [.old 0] 4 (.agg (enc a)),.ptr 0 0]=_;rw[hconv];rfl),rfl⟩,rfl,trivial,by rw[hr'];rfl⟩)
   exact ⟨_,hv1,d',h',β5,V5,x1,x2,x3,x4⟩
  | pan x =>
   cases e<;>try exact hx.elim
   obtain ⟨hdf,ec,l',k',hr',rfl,hkk,src,ht⟩:=hq
   dsimp only at hdf ht
   subst hdf
   obtain ⟨t,u',rfl,_,hdf3,β3,V3,hrel3,he3,hd3⟩:=hx
   have hdf3:a3.defers=[{ target:=.fn (.func 113) #[.pointer (some ⟨g,0,none⟩)],args:=#[] }]:=hdf3
   obtain ⟨y1,y2⟩:=ht.use hrel3 (vs:=[a3.tmps.getD 0 undef,a3.tmps.getD jC undef]) (by
    simp only[RepDL]
    exact ⟨_,_,rfl,he3 0,_,_,rfl,he3 jC,rfl⟩)
   simp only[RepDL] at y2
   obtain ⟨_,_,ez,z0,_,_,ez3,zC,ez4⟩:=y2
   injection ez with e1 e2;subst e1;subst e2
   injection ez3 with e1 e2;subst e1;subst e2
   rw[tC] at zC
   obtain ⟨g2,b2,hv2⟩:=back_use zC rfl y1
   obtain rfl:g2=g:=by
    rw[← hv] at hv2
    simpa using hv2.symm
   have hpv:Value.iface t u'=.iface 108 (.agg #[.int .i64 ec]):=by
    simp only[panV,RepD,RepDL,RepV] at hd3
    obtain ⟨u2,e1,us,rfl,v1,us1,rfl,rfl,rfl⟩:=hd3
    exact e1
   injection hpv with p1 p2
   subst p1;subst p2
   show Leaves Tryd.prog fn a3.tmps _ a3.defers (.panicking _) w3
   rw[hdf3]
   refine leaves_cons (by simp) (hinv _) ((back_rel y1 rfl rfl b2 (by unfold I64;omega) (.panicking _)).mono ?_)
   rintro _ _ w4 ⟨rfl,rfl,y4⟩
   have y4:RelD ⟨w,ownB (RH l k) β,V,(gl L)⟩ (BH l' (k' - 1)) (turnβ src β3) (turnV h3 src β3 V3) w4:=y4
   obtain ⟨d',h',β5,V5,x1,x2,x3,x4⟩:=@toH_end (gl L) w w4 (RH l k) β V [0] 1 [] a3 hrel trivial rfl (hfin w4 _ t0) ⟨fun i=>bif Nat.beq i 0 then .ptr 0 0 else .any,BH l' (k' - 1),[]⟩ _ _ (fun d h=>rdQ (fun a=>.agg (enc a)) k r (.panH d h)) (panV ec) (.iface 108 (.agg #[.int .i64 ec])) y4 (fun i=>by
     show RepD _ _ _ _ (bif Nat.beq i 0 then .ptr 0 0 else .any) _
     cases hi:Nat.beq i 0 with
     | true=>rw[Nat.eq_of_beq_eq_true hi];exact z0
     | false=>simp only[cond_false,RepD]) (by simp only[panV,RepD,RepDL,RepV];exact ⟨_,rfl,_,rfl,_,_,rfl,rfl,rfl⟩)
    (orS_l ⟨[.old 0],panV ec,RH l' (k' - 1),⟨rfl,.inl rfl,.inl rfl,rfl⟩,rfl,trivial,by rw[hr'];exact ⟨l',k' - 1,by omega,rfl⟩⟩)
   exact ⟨d',h',_,_,β5,V5,rfl,x1,x2,x3,x4⟩
end Go.Proofs.YtabjelabdojpkaaDoor
namespace Go.Proofs.YtabjelabdojpkaaDoor
open Go Go.Dm Go.Eng Go.RowKit Barb
variable {L:Lv}
def RdOk (l:List Tok):Prop:=l.length≤3000∧∀ t∈l,t.text.length≤3000
theorem RdOk.step {l l':List Tok} (h:RdOk l) (hs:l'.length≤l.length) (hm:∀ t∈l',t∈l):RdOk l':=⟨Nat.le_trans hs h.1,fun t ht=>h.2 t (hm t ht)⟩
theorem RdOk.take {s:Str} {l l':List Tok} (h:RdOk l) (ht:takeP s l=some l'):RdOk l':=h.step (by have:=(take_some ht).2;omega) (take_mem ht)
theorem RdOk.next {α:Type} {p:List Tok→PR α} (hs:Shr p) (hm:Cl p) {l l':List Tok} {a:α} (h:RdOk l) (e:p l=.ok a l'):RdOk l':=h.step (Nat.le_of_lt (hs _ _ _ e)) (hm _ _ _ e)
theorem RdOk.text {l:List Tok} (h:RdOk l):(textP l).length≤3000:=by
 cases l with
 | nil=>simp[textP]
 | cons t l=>exact h.2 t List.mem_cons_self
theorem RdOk.tail {l:List Tok} (h:RdOk l):RdOk l.tail:=h.step (by simp) (fun _ ht=>List.mem_of_mem_tail ht)
abbrev exD:Barb.Expr→D:=fun x=>.agg x.d
abbrev exsD:List Barb.Expr→D:=fun xs=>.g (.sl 5 (xs.map Expr.g))
def ExC (L:Lv) (f:Nat) (k:Int):Prop:=∀ l,RdOk l→CTH Tryd.prog (gl L) 106 1 (RH l k) [.ptr 0 0] (rdQ exD k (exprP f l))
theorem expr_fn:fnOk Tryd.prog 106=true:=by kernel_rfl
theorem list_fn:fnOk Tryd.prog 114=true:=by kernel_rfl
set_option maxRecDepth 20000 in
theorem list_any {f:Nat} {k:Int} (hE:ExC L f k) (l:List Tok) (hl:RdOk l):CTH Tryd.prog (gl L) 114 1 (RH l k) [.ptr 0 0] (rdQ exsD k (listP (exprP f) l)):=by
 suffices H:∀ r,listP (exprP f) l=r→CTH Tryd.prog (gl L) 114 1 (RH l k) [.ptr 0 0] (rdQ exsD k r) from H _ rfl
 intro r hr
 have hl1:=hl.1
 have hTk:=take_any (L:=L) l k [41] (by omega)
 unfold listP at hr
 cases ht:takeP [41] l with
 | some l1 =>
  rw[ht] at hTk hr
  have hr:r=.ok [] l1:=hr.symm
  refine enterH [] hT hF hM Tryd.func114 rfl 19 rfl (by kernel_rfl) [.tmp 2] rfl [.ptr 0 0] rfl (RH l k) [0] rfl rfl rfl 1 [] trivial _ ?_
  refine callO [0] take_fn rfl rfl ⟨rfl,.inl rfl,.inl rfl,rfl⟩ hTk (fun d' h' hq=>?_) (fun d' h' hq=>by cases hq)
  injection hq with e1 e2;subst e1;subst e2
  exact ⟨rfl,endRH (exsD []) l1 k [.old 0] rfl rfl rfl (.inr lkNil) rfl rfl rfl (by rw[hr];rfl)⟩
 | none =>
  rw[ht] at hTk hr
  have hEl:=hE l hl
  refine enterH [] hT hF hM Tryd.func114 rfl 19 rfl (by kernel_rfl) [.tmp 2] rfl [.ptr 0 0] rfl (RH l k) [0] rfl rfl rfl 1 [] trivial _ ?_
  refine callO [0] take_fn rfl rfl ⟨rfl,.inl rfl,.inl rfl,rfl⟩ hTk (fun d' h' hq=>?_) (fun d' h' hq=>by cases hq)
  injection hq with e1 e2;subst e1;subst e2
  refine callO [0] expr_fn rfl rfl ⟨rfl,.inl rfl,.inl rfl,rfl⟩ hEl (fun d' h' hq=>?_) (fun d' h' hq=>?_)
  rotate_left
  ·obtain ⟨e,l',k',he,hk',rfl,rfl⟩:=rdQ_pan hq
   have hr:r=.bad e:=by rw[← hr,he];rfl
   exact ⟨rfl,endRH (panV e) l' k' [.old 0] rfl rfl rfl (.inl rfl) rfl rfl rfl (by rw[hr];exact ⟨l',k',hk',rfl⟩)⟩
  obtain ⟨x,l1,he,rfl,rfl⟩:=rdQ_ret hq
  rw[he] at hr
  have hr:moreP (exprP f) (l1.length+1) [x] l1=r:=hr
  have ho1:=hl.next (expr_shr f) (expr_mem f) he
  refine ⟨[[.int x.k,.int x.n,.str x.of,.str x.s,.sl 5 (x.args.map Expr.g)]],rfl,rfl,⟨rfl,rfl,rfl,rfl,rfl,trivial⟩,?_⟩
  refine loopR (ι:=List Barb.Expr × List Tok) (fun i=>[(0,.ptr 0 0),(3,.row 1)]) (fun i=>[.blk (RB i.2 k) 93,.row (i.1.map Expr.g) 104 5]) (fun i=>RdOk i.2∧i.1.length+i.2.length≤3001∧moreP (exprP f) (i.2.length+1) i.1 i.2=r) (fun i=>i.2.length)
   ⟨([x],l1),[.old 0,.old 1],⟨rfl,.inr ⟨⟨rfl,.inl rfl⟩,⟨by rw[List.map_cons,List.map_nil,Expr.g_eq],rfl,rfl⟩,trivial⟩,.inr ⟨lk rfl,lk rfl,trivial⟩,rfl⟩,ho1,by have:=ho1.1;simp;omega,hr⟩ ?_
  rintro Rd hRd ⟨acc,m⟩ ⟨hm,hn,hr⟩
  have hm:RdOk m:=hm
  have hn:acc.length+m.length≤3001:=hn
  have hm1:=hm.1
  have hr:moreP (exprP f) (m.length+1) acc m=r:=hr
  have hTk2:=take_any (L:=L) m k [44] (by omega)
  simp only[moreP] at hr
  cases ht2:takeP [44] m with
  | none =>
   rw[ht2] at hTk2 hr
   have hr:(mustP [41] m).then (fun _ l1=>PR.ok acc l1)=r:=hr
   have hMu:=must_any (L:=L) m k [41] (by omega)
   refine callO [0] take_fn rfl rfl ⟨rfl,.inl rfl,.inl rfl,rfl⟩ hTk2 (fun d' h' hq=>?_) (fun d' h' hq=>by cases hq)
   injection hq with e1 e2;subst e1;subst e2
   refine callO [0] must_fn rfl rfl ⟨rfl,.inl rfl,.inl rfl,rfl⟩ hMu (fun d' h' hq=>?_) (fun d' h' hq=>?_)
   ·obtain ⟨_,l2,he,rfl,rfl⟩:=rdQ_ret hq
    have hr:r=.ok acc l2:=by rw[← hr,he];rfl
    exact ⟨rfl,endRH (exsD acc) l2 k [.old 0] rfl rfl rfl (.inl rfl) rfl rfl rfl (by rw[hr];rfl)⟩
   ·obtain ⟨e,l',k',he,hk',rfl,rfl⟩:=rdQ_pan hq
    have hr:r=.bad e:=by rw[← hr,he];rfl
    exact ⟨rfl,endRH (panV e) l' k' [.old 0] rfl rfl rfl (.inl rfl) rfl rfl rfl (by rw[hr];exact ⟨l',k',hk',rfl⟩)⟩
  | some m1 =>
   rw[ht2] at hTk2 hr
   have hr:(exprP f m1).then (fun b l2=>moreP (exprP f) m.length (acc++[b]) l2)=r:=hr
   have hom:=hm.take ht2
   have hlm:=(take_some ht2).2
   have hE2:=hE m1 hom
   refine callO [0] take_fn rfl rfl ⟨rfl,.inl rfl,.inl rfl,rfl⟩ hTk2 (fun d' h' hq=>?_) (fun d' h' hq=>by cases hq)
   injection hq with e1 e2;subst e1;subst e2
   refine callO [0] expr_fn rfl rfl ⟨rfl,.inl rfl,.inl rfl,rfl⟩ hE2 (fun d' h' hq=>?_) (fun d' h' hq=>?_)
   rotate_left
   ·obtain ⟨e,l',k',he,hk',rfl,rfl⟩:=rdQ_pan hq
    have hr:r=.bad e:=by rw[← hr,he];rfl
    exact ⟨rfl,endRH (panV e) l' k' [.old 0] rfl rfl rfl (.inl rfl) rfl rfl rfl (by rw[hr];exact ⟨l',k',hk',rfl⟩)⟩
   obtain ⟨y,m2,he,rfl,rfl⟩:=rdQ_ret hq
   have hs2:=expr_shr f _ _ _ he
   rw[he] at hr
   have hr:moreP (exprP f) (m2.length+1) (acc++[y]) m2=r:=by rw[← hr];exact more_far (expr_shr f) _ _ _ _ (by omega) (by omega)
   have ho2:=hom.next (expr_shr f) (expr_mem f) he
   refine ⟨[[.int y.k,.int y.n,.str y.of,.str y.s,.sl 5 (y.args.map Expr.g)]],rfl,rfl,⟨rfl,rfl,rfl,rfl,rfl,trivial⟩,?_⟩
   refine ⟨⟨by simp only[maxLen,List.length_cons,List.length_nil,List.length_map];omega,by simp only[List.length_cons,List.length_nil,List.length_map];omega⟩,?_⟩
   exact hRd _ _ _ ⟨(acc++[y],m2),[.old 0,.old 3],⟨rfl,.inr ⟨⟨rfl,.inl rfl⟩,⟨by rw[List.map_append,List.map_cons,List.map_nil,Expr.g_eq],rfl,rfl⟩,trivial⟩,.inr ⟨lk rfl,lk rfl,trivial⟩,rfl⟩,⟨ho2,by simp;omega,hr⟩,by show m2.length < m.length;omega⟩
end Go.Proofs.YtabjelabdojpkaaDoor
