/-
  A program of raw things, a unit far from all of them behind it, and a call of that unit: plain.
-/
import Derived.Test.YtijdegmamdhcbaaDoorKl
namespace Barb
open Go Go.Dm Go.Eng Go.Proofs.YtijdegmamdhcbaaDoor
abbrev sv:Str:=[118]
abbrev sfar:Str:=[102,97,114]
def farX:Expr:=.mk 5 1 [] [] [varX sv,varX sp]
def farB:List Stmt:=[.mk 1 sv [farX] [] [],.mk 5 [] [varX sv] [] []]
def farF:Fun:=⟨sf,true,[sp],farB⟩
def farU:Unit:=⟨sfar,[sv],[],[farF]⟩
theorem id_v:identP sv:=ident_of (by decide) (by decide) (by decide) (by decide)
theorem id_far:identP sfar:=ident_of (by decide) (by decide) (by decide) (by decide)
theorem far_x12:exprE 12 farX=0:=by
 unfold farX exprE
 rw[if_neg (by omega),if_neg (by simp),if_neg (fun h'=>h' (.inr (.inr (.inr (.inr ⟨rfl,rfl,rfl,rfl⟩))))),if_neg (by unfold exprBad;omega)]
 exact first2 (leaf_var id_v 10) (leaf_var id_p 10)
theorem far_form:stmtsE 12 farB=0:=by
 refine first2 (f:=stmtE1 (stmtsE 11)) (set_form id_v far_x12 10) ?_
 exact stE (by omega) ⟨⟨fun h=>absurd h (by omega),fun _=>rfl,fun h=>absurd h (by omega),fun _=>rfl⟩,.inl rfl,.inl rfl⟩ (first1 (leaf_var id_v 11)) (stmts0 10) (stmts0 10)
theorem far_unit:unitE farU=0:=by
 have f1:funE farF=0:=fun_form id_f (by simp[farF]) (px1 (many:=1) ⟨Nat.le_refl 1,by decide⟩).ids far_form
 have hn:nameE sv=0:=by unfold nameE;rw[if_pos id_v]
 have hm:manyN farU.funcs=2:=by
  simp only[manyN,farU,farF,farB,List.map_cons,List.map_nil,List.sum_cons,List.sum_nil]
  rw[show ([Stmt.mk 1 sv [farX] [] [],.mk 5 [] [varX sv] [] []]:List Stmt)=[Stmt.mk 1 sv [farX] [] []]++[.mk 5 [] [varX sv] [] []] from rfl,many_app,many_one,many_one,many_nil]
  rfl
 unfold unitE
 rw[if_neg (fun h=>h id_far),if_neg (by simp[farU]),if_neg,if_neg,if_neg,if_neg]
 ·rw[hm];decide
 ·simp[firstE,farU,f1]
 ·simp[firstE,farU]
 ·simp[firstE,farU,hn]
theorem far_sense (p:List Unit):unitS p farU=0:=by
 have hv:varP farU farF sv:=.inr (List.mem_singleton.2 rfl)
 have hp:varP farU farF sp:=.inl (List.mem_singleton.2 rfl)
 have hx:exprS p farU farF farX=0:=exprS_two (s1_no (by omega) (by omega) (by omega)) (varS hv) (varS hp)
 have h1:stmtS p farU farF (.mk 1 sv [farX] [] [])=0:=stS (fun _=>hv) (fun h=>absurd h (by omega)) (first1 hx) rfl rfl
 have h2:stmtS p farU farF (.mk 5 [] [varX sv] [] [])=0:=stS (fun h=>absurd h (by omega)) (fun h=>absurd h (by omega)) (first1 (varS hv)) rfl rfl
 have hf:funS p farU farF=0:=by
  unfold funS
  rw[if_neg (dup_no (by decide)),stmtsS_first]
  exact first2 h1 h2
 unfold unitS
 rw[if_neg]
 ·exact first1 hf
 ·rintro (h | h)
  ·exact dup_no (l:=[sv]) (by decide) h
  ·exact dup_no (l:=[sf]) (by decide) h
theorem prog_called2 {many:Nat} {p r:List Unit} (hp:Prog many p) {s:Str} (hs:s∈unitsP.take many) (u:Unit) (x:Str) (m:Nat) (h:∀ v,Shape many v→calledIn v s x m=0):calledE (p++r) u s x m=0:=by
 have hne:s≠[]:=fun e=>by
  have:=id_units s (List.mem_of_mem_take hs)
  rw[e] at this
  exact absurd this.1.1.1 (by decide)
 have hf:∃ v,p.find? (fun v=>decide (v.name=s))=some v:=by
  cases hx:p.find? (fun v=>decide (v.name=s)) with
  | some v=>exact ⟨v,rfl⟩
  | none =>
   rw[← hp.names] at hs
   obtain ⟨v,hv,e⟩:=List.mem_map.1 hs
   exact absurd (decide_eq_true e) (List.find?_eq_none.1 hx v hv)
 obtain ⟨v,hv⟩:=hf
 unfold calledE
 rw[if_neg hne,List.find?_append,hv]
 exact h v (hp.shape v (List.mem_of_find?_eq_some hv))
theorem prog_sees2 {many:Nat} {p r:List Unit} (hp:Prog many p) {u:Unit} (hu:u∈p) {f:Fun}:Sees2 f.params many (p++r) u f:=by
 have h:=hp.shape u hu
 have h0:=prog_sees hp hu (f:=f)
 exact ⟨h0.vars,h0.arr,shape_g h (p++r),fun s hs=>prog_called2 hp hs u _ _ (fun v hv=>shape_f hv s),fun s hs=>prog_called2 hp hs u _ _ (fun v hv=>shape_h hv s),h0.lo,h0.hi⟩
theorem prog_unitS2 {many:Nat} {p r:List Unit} (hp:Prog many p) {u:Unit} (hu:u∈p):unitS (p++r) u=0:=by
 have hfun:∀ f∈u.funcs,funS (p++r) u f=0:=by
  intro f hf
  have hs:=prog_sees2 (r:=r) hp hu (f:=f)
  have key:∀ (params:List Str) (l:List Raw),f.params=params→f.body=bodyP params many l→params.Nodup→funS (p++r) u f=0:=fun params l e1 e2 hd=>by
   unfold funS
   rw[e1,if_neg (dup_no hd),stmtsS_first,e2]
   rw[e1] at hs
   exact stmtsP_sense hs _ l 1
  obtain ⟨i,l1,l2,l3,hi,rfl⟩:=(hp.shape u hu).ex
  simp only[List.mem_cons,List.not_mem_nil,or_false] at hf
  rcases hf with rfl | rfl | rfl
  ·exact key [sp,sq] l1 rfl rfl (by decide)
  ·exact key [sp] l2 rfl rfl (by decide)
  ·exact key [] l3 rfl rfl (by decide)
 unfold unitS
 rw[if_neg,firstE_zero hfun]
 obtain ⟨i,l1,l2,l3,hi,rfl⟩:=(hp.shape u hu).ex
 rintro (h | h)
 ·exact dup_no (l:=[sx,sy,sarr]) (by decide) h
 ·exact dup_no (l:=[sf,sg,sh]) (by decide) h
theorem far_good {many:Nat} {q:List Unit} (hq:Prog many q):progE (q++[farU])=0:=by
 have hl:=prog_len hq
 have hm:=hq.m
 have hw:=words_sum hq.shape
 have hu:firstE unitE (q++[farU])=0:=firstE_app (firstE_zero (fun u hu=>shape_form hm (hq.shape u hu))) (first1 far_unit)
 have hwf:progWords (q++[farU])=progWords q+1:=by
  unfold progWords
  rw[List.map_append,List.sum_append]
  rfl
 unfold progE
 rw[if_neg (by simp;omega),if_neg (fun h=>h hu),if_neg,if_neg (by omega)]
 ·exact firstE_app (firstE_zero (fun u hu=>prog_unitS2 hq hu)) (first1 (far_sense _))
 ·rw[List.map_append,hq.names]
  refine dup_no ?_
  obtain ⟨h1,h3⟩:=hm
  have:many=1∨many=2∨many=3:=by omega
  rcases this with rfl | rfl | rfl<;>decide
theorem far_few {many:Nat} {q:List Unit} (hq:Prog many q):fewP (q++[farU]):=fun u hu=>by
 rcases List.mem_append.1 hu with hu | hu
 ·exact prog_few hq u hu
 ·rcases List.mem_singleton.1 hu with rfl
  simp only[manyN,farU,farF,farB,List.map_cons,List.map_nil,List.sum_cons,List.sum_nil]
  rw[show ([Stmt.mk 1 sv [farX] [] [],.mk 5 [] [varX sv] [] []]:List Stmt)=[Stmt.mk 1 sv [farX] [] []]++[.mk 5 [] [varX sv] [] []] from rfl,many_app,many_one,many_one,many_nil]
  decide
theorem far_at (q:List Unit):uAt (q++[farU]) q.length=farU:=by unfold uAt;simp
theorem far_idx {many:Nat} {q:List Unit} (hq:Prog many q):unitIdx (q++[farU]) sfar=(q.length:Int):=by
 unfold unitIdx
 refine idx_at (q:=fun u:Unit=>u.name=sfar) (l:=q++[farU]) (i:=q.length) (by simp) (fun j hj hlt=>?_) (by simp[farU])
 have h1:q[j]∈q:=List.getElem_mem hlt
 rw[List.getElem_append_left hlt]
 have h2:q[j].name∈q.map Unit.name:=List.mem_map_of_mem h1
 rw[hq.names] at h2
 intro e
 rw[e] at h2
 exact absurd (List.mem_of_mem_take h2) (by decide)
theorem burn_go {α:Type} {f:Nat} {t:List Int} {cs:List Cells} {k:ES→RR α}:burnS ⟨f+1,t,cs⟩ k=k ⟨f,t,cs⟩:=rfl
theorem far_v {p:List Unit} {u g d:Nat} (hu:uAt p u=farU) (ps:List Int) (f:Nat) (t:List Int) (cs:List Cells):evE p (g+1) ⟨u,farF,d⟩ ps (varX sv) ⟨f+1,t,cs⟩=.ok ((cs.getD u noC).vars.getD 0 0) ⟨f,t,cs⟩:=by
 have h1:pIdx farF sv=-1:=idx_no (fun x hx=>by rcases List.mem_singleton.1 hx with rfl;decide)
 have h2:vIdx farU sv=0:=idx_at (q:=fun x:Str=>sv=x) (l:=farU.vars) (i:=0) (by decide) (fun j hj h=>absurd h (Nat.not_lt_zero _)) rfl
 rw[evE_succ]
 show RR.ok (getV p ⟨u,farF,d⟩ ps ⟨f,t,cs⟩ sv) ⟨f,t,cs⟩=_
 unfold getV
 rw[show (⟨u,farF,d⟩:EC).f=farF from rfl,show (⟨u,farF,d⟩:EC).u=u from rfl,h1,hu,h2,if_neg (by decide)]
 rfl
theorem far_p {p:List Unit} {u g d:Nat} (n:Int) (f:Nat) (t:List Int) (cs:List Cells):evE p (g+1) ⟨u,farF,d⟩ [n] (varX sp) ⟨f+1,t,cs⟩=.ok n ⟨f,t,cs⟩:=by
 have h1:pIdx farF sp=0:=idx_at (q:=fun x:Str=>sp=x) (l:=farF.params) (i:=0) (by decide) (fun j hj h=>absurd h (Nat.not_lt_zero _)) rfl
 rw[evE_succ]
 show RR.ok (getV p ⟨u,farF,d⟩ [n] ⟨f,t,cs⟩ sp) ⟨f,t,cs⟩=_
 unfold getV
 rw[show (⟨u,farF,d⟩:EC).f=farF from rfl,h1,if_pos (by decide)]
 rfl
theorem far_sum {p:List Unit} {u g d:Nat} (hu:uAt p u=farU) (n:Int) (f:Nat) (t:List Int) (cs:List Cells):evE p (g+2) ⟨u,farF,d⟩ [n] farX ⟨f+3,t,cs⟩=.ok (doI 1 ((cs.getD u noC).vars.getD 0 0) n) ⟨f,t,cs⟩:=by
 rw[show g+2=(g+1)+1 from rfl,evE_succ]
 unfold exprF
 rw[show f+3=(f+2)+1 from rfl,burn_go,if_neg (by decide),if_neg (by decide),show farX.args=[varX sv,varX sp] from rfl]
 simp only[listF]
 rw[show f+2=(f+1)+1 from rfl,far_v hu,RR.bind,far_p,RR.bind,RR.bind,RR.bind]
 rfl
theorem far_call {p:List Unit} {u:Nat} (hu:uAt p u=farU) (n v:Int) (cs:List Cells) (hv:(cs.getD u noC).vars.getD 0 0=v) (hl:u < cs.length) (h0:0 < (cs.getD u noC).vars.length) (hd:doI 1 v n=v+n) :
  callF p (evS p 100) u 0 [n] 0 ⟨100,[],cs⟩=.ok (v+n) ⟨94,[],cs.set u ((cs.getD u noC).setV 0 (v+n))⟩:=by
 have h1:pIdx farF sv=-1:=idx_no (fun x hx=>by rcases List.mem_singleton.1 hx with rfl;decide)
 have h2:vIdx farU sv=0:=idx_at (q:=fun x:Str=>sv=x) (l:=farU.vars) (i:=0) (by decide) (fun j hj h=>absurd h (Nat.not_lt_zero _)) rfl
 have hf:(uAt p u).funcs.getD 0 noF=farF:=by rw[hu];rfl
 have s1:∀ cs,(cs.getD u noC).vars.getD 0 0=v→evS p 100 ⟨u,farF,0⟩ (.mk 1 sv [farX] [] []) ⟨[n],false,0⟩ ⟨100,[],cs⟩=.ok ⟨[n],false,0⟩ ⟨96,[],cs.set u ((cs.getD u noC).setV 0 (v+n))⟩:=fun cs hv=>by
  have e:=far_sum (p:=p) (u:=u) (g:=97) (d:=0) hu n 96 [] cs
  rw[hv,hd] at e
  rw[show (100:Nat)=99+1 from rfl,evS_succ]
  show (evE p 99 ⟨u,farF,0⟩ [n] farX ⟨99,[],cs⟩).bind (fun n' s=>putV p ⟨u,farF,0⟩ ⟨[n],false,0⟩ s sv n')=_
  rw[e]
  show putV p ⟨u,farF,0⟩ ⟨[n],false,0⟩ ⟨96,[],cs⟩ sv (v+n)=_
  unfold putV
  rw[show (⟨u,farF,0⟩:EC).f=farF from rfl,show (⟨u,farF,0⟩:EC).u=u from rfl,h1,hu,h2,if_neg (by decide)]
  rfl
 have s2:∀ cs m,(cs.getD u noC).vars.getD 0 0=m→evS p 100 ⟨u,farF,0⟩ (.mk 5 [] [varX sv] [] []) ⟨[n],false,0⟩ ⟨96,[],cs⟩=.ok ⟨[n],true,m⟩ ⟨94,[],cs⟩:=fun cs m hv=>by
  have e:=far_v (p:=p) (u:=u) (g:=98) (d:=0) hu [n] 94 [] cs
  rw[hv] at e
  rw[show (100:Nat)=99+1 from rfl,evS_succ]
  show (evE p 99 ⟨u,farF,0⟩ [n] (varX sv) ⟨95,[],cs⟩).bind (fun n' s=>(.ok (⟨[n],true,n'⟩:EL) s:RR EL))=_
  rw[e]
  rfl
 have hg:((cs.set u ((cs.getD u noC).setV 0 (v+n))).getD u noC).vars.getD 0 0=v+n:=by
  rw[List.getD_eq_getElem?_getD (l:=cs.set _ _),List.getElem?_set_self hl]
  show ((cs.getD u noC).vars.set 0 (v+n)).getD 0 0=v+n
  rw[List.getD_eq_getElem?_getD,List.getElem?_set_self h0]
  rfl
 unfold callF
 rw[if_neg (by decide),hf,show farF.body=[.mk 1 sv [farX] [] [],.mk 5 [] [varX sv] [] []] from rfl]
 show ((evS p 100 ⟨u,farF,0⟩ (.mk 1 sv [farX] [] []) ⟨[n],false,0⟩ ⟨100,[],cs⟩).bind (bodyF (evS p 100 ⟨u,farF,0⟩) [.mk 5 [] [varX sv] [] []])).bind _=_
 rw[s1 cs hv]
 show ((evS p 100 ⟨u,farF,0⟩ (.mk 5 [] [varX sv] [] []) ⟨[n],false,0⟩ ⟨96,[],cs.set u ((cs.getD u noC).setV 0 (v+n))⟩).bind (bodyF (evS p 100 ⟨u,farF,0⟩) [])).bind _=_
 rw[s2 _ _ hg]
 rfl
theorem far_cells (q:List Unit) (r:Raw):∃ cs v,cellsP (q++[farU]) r=cs++[⟨[v],[]⟩]∧cs.length=q.length∧0≤v∧v < 70:=by
 obtain ⟨k,hk,hk7⟩:=pickN_nat r.a (many:=7) (by decide)
 have hr:=endL_rng (b:=pickN r.b 5) (c:=pickN r.c 9) q (n:=pickN r.a 7) (by rw[show (7:Int)=((7:Nat):Int) from rfl,hk];omega)
 refine ⟨cellsL (pickN r.b 5) (pickN r.c 9) q (pickN r.a 7),endL (pickN r.b 5) (pickN r.c 9) q (pickN r.a 7),?_,cellsL_len _ _ _ _,hr⟩
 unfold cellsP
 rw[cellsL_snoc]
 rfl
theorem do_add {v n:Int} (hv:0≤v∧v < 70) (hn:0≤n∧n < 1000):doI 1 v n=v+n:=by
 unfold doI
 rw[if_neg (by omega),if_pos (by omega)]
 show ((did 1 v.toNat n.toNat:Nat):Int)=v+n
 simp only[did]
 omega
theorem far_done {q:List Unit} {cs:List Cells} {v n:Int} (hl:cs.length=q.length) (hv:0≤v∧v < 70) (hn:0≤n∧n < 1000) :
  callF (q++[farU]) (evS (q++[farU]) 100) q.length 0 [n] 0 ⟨100,[],cs++[⟨[v],[]⟩]⟩=.ok (v+n) ⟨94,[],cs++[⟨[v+n],[]⟩]⟩:=by
 have hg:(cs++[(⟨[v],[]⟩:Cells)]).getD q.length noC=⟨[v],[]⟩:=by rw[← hl];simp
 have:=far_call (p:=q++[farU]) (u:=q.length) (far_at q) n v (cs++[⟨[v],[]⟩]) (by rw[hg];rfl) (by simp;omega) (by rw[hg];exact Nat.zero_lt_one) (do_add hv hn)
 rw[this,hg,← hl,List.set_append_right _ _ (Nat.le_refl _),Nat.sub_self]
 rfl
end Barb
