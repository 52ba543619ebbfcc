/-
  eval: expressions are reckoned.
-/
import Derived.Test.YtcpbfpgighaonaaEx
namespace Go.Proofs.Ytcpbfpgighaonaa
open Go Go.Dm Go.Eng Go.RowKit Barb
def xQ (p:List Barb.Unit) (N:List CN) (R:Value) (c:EC) (el:EL):RR Int→Out→Prop
 | .ok n s',out=>out=.ret (.g (.int n)) (XH p N R s' c el)
 | .stop e s',out=>out=.panH (stopD e) (XH p N R s' c el)
def kQ (p:List Barb.Unit) (N:List CN) (R:Value):RR Int→Out→Prop
 | .ok n s',out=>out=.ret (.g (.int n)) (RH p N R s')
 | .stop e s',out=>out=.panH (stopD e) (RH p N R s')
structure OkS (p:List Barb.Unit) (N:List CN) (g:Nat) (s:ES):Prop where
 si:SI p s
 np:NP N p
 fuel:s.fuel≤g
 g:g≤200000
def EvalC (p:List Barb.Unit) (N:List CN) (R:Value) (g:Nat):Prop:=∀ (c:EC) (el:EL) (s:ES) (x:Barb.Expr),OkS p N g s→CI p c→ELI c el→XI p c x→x.I →
 CTH Try.prog [] 87 3 (XH p N R s c el) [.ptr 0 0,.agg x.d] (xQ p N R c el (evE p g c el.ps x s))
def CallC (p:List Barb.Unit) (N:List CN) (R:Value) (g:Nat):Prop:=∀ (u i:Nat) (args:List Int) (deep:Nat) (s:ES),OkS p N g s→u < p.length→i < (uAt p u).funcs.length→args.length=((uAt p u).funcs.getD i noF).params.length→wds args→deep≤20 →
 CTH Try.prog [] 44 2 (RH p N R s++[.row (args.map intG) 3 1]) [.ptr 0 0,.g (.int (u:Int)),.g (.int (i:Int)),.row 3,.g (.int (deep:Int))] (kQ p N R (callF p (evS p g) u i args deep s))
theorem expr_fn:fnOk Try.prog 87=true:=by kernel_rfl
theorem call_fn:fnOk Try.prog 44=true:=by kernel_rfl
theorem xQ_out {p:List Barb.Unit} {N:List CN} {R:Value} {c:EC} {el:EL} {r:RR Int} {out:Out} (h:xQ p N R c el r out):(∃ n s',r=.ok n s'∧out=.ret (.g (.int n)) (XH p N R s' c el))∨∃ e s',r=.stop e s'∧out=.panH (stopD e) (XH p N R s' c el):=by
 cases r with
 | ok n s'=>exact .inl ⟨n,s',rfl,h⟩
 | stop e s'=>exact .inr ⟨e,s',rfl,h⟩
theorem kQ_out {p:List Barb.Unit} {N:List CN} {R:Value} {r:RR Int} {out:Out} (h:kQ p N R r out):(∃ n s',r=.ok n s'∧out=.ret (.g (.int n)) (RH p N R s'))∨∃ e s',r=.stop e s'∧out=.panH (stopD e) (RH p N R s'):=by
 cases r with
 | ok n s'=>exact .inl ⟨n,s',rfl,h⟩
 | stop e s'=>exact .inr ⟨e,s',rfl,h⟩
theorem callE {all:List D} {h:Heap} {K Qp:KD} {p:List Barb.Unit} {N:List CN} {R:Value} {g:Nat} (hE:EvalC p N R g) {s:ES} {c:EC} {el:EL} {x:Barb.Expr} (r:Heap) (hs:OkS p N g s) (hc:CI p c) (he:ELI c el) (hx:XI p c x) (hxI:x.I) (hp:PI p)
  (hh:h=XHr p N R s c el r) (ha:all=[.ptr 0 0,.agg x.d])
  (hgo:∀ n s',evE p g c el.ps x s=.ok n s'→OkS p N g s'→s'.fuel≤s.fuel→wd n→K (.g (.int n)) (XHd p N R s' c el r))
  (hno:∀ e s',evE p g c el.ps x s=.stop e s'→Qp (stopD e) (XHd p N R s' c el r)) :
  fnOk Try.prog 87=true∧(OwnCall Try.prog [] 87 all h K Qp∨SemCall Try.prog [] 87 all h K Qp):=by
 refine callX expr_fn r (hE c el s x hs hc he hx hxI) rfl rfl hh ha (fun out hq=>?_)
 have hI:=(evP_I hp g).1 c el.ps x s hc hs.si he.2.1 hx
 rcases xQ_out hq with ⟨n,s',h1,h2⟩ | ⟨e,s',h1,h2⟩
 ·rw[show evE p g c el.ps x s=.ok n s' from h1] at hI
  exact .inl ⟨_,s',el,h2,hgo n s' h1 ⟨hI.1,hs.np,Nat.le_trans hI.2.1.1 hs.fuel,hs.g⟩ hI.2.1.1 hI.2.2⟩
 ·exact .inr ⟨e,s',el,h2,hno e s' h1⟩
theorem exprF_eq (p:List Barb.Unit) (g:Nat) (c:EC) (ps:List Int) (x:Barb.Expr) (s:ES) (h0:s.fuel≠0):evE p (g+1) c ps x s=if x.k=1 then .ok x.n { s with fuel:=s.fuel - 1 } else if x.k=2 then .ok (getV p c ps { s with fuel:=s.fuel - 1 } x.s) { s with fuel:=s.fuel - 1 } else (listF (evE p g c ps) x.args { s with fuel:=s.fuel - 1 }).bind (lastF p (evS p g) c x):=by
 rw[evE_succ];unfold exprF burnS;rw[if_neg h0]
theorem expr_none (p:List Barb.Unit) (g:Nat) (c:EC) (ps:List Int) (x:Barb.Expr) (s:ES) (h0:s.fuel=0):evE p g c ps x s=.stop 3 s:=by
 cases g with
 | zero=>rfl
 | succ g=>rw[evE_succ];unfold exprF burnS;rw[if_pos h0]
theorem listF_none (e:Barb.Expr→ES→RR Int) (l:List Barb.Expr) (s:ES):listF e l s=(listF e (l.drop 0) s).bind fun ns s=>.ok ([]++ns) s:=by
 rw[List.drop_zero]
 cases listF e l s<;>rfl
theorem getD_at {l:List Int} {i:Nat} (h:i < l.length):l.getD i 0=l[i]:=by simp[h]
structure ArgI (p:List Barb.Unit) (N:List CN) (g:Nat) (c:EC) (ps:List Int) (args:List Barb.Expr) (s1:ES) (z:List Int × ES):Prop where
 le:z.1.length≤args.length
 ok:OkS p N g z.2
 w:wds z.1
 eq:listF (evE p g c ps) args s1=(listF (evE p g c ps) (args.drop z.1.length) z.2).bind fun ns s=>.ok (z.1++ns) s
theorem exG {l:List Barb.Expr} {i:Nat} (h:i < l.length):(l.map Expr.g)[i]?=some [.int l[i].k,.int l[i].n,.str l[i].of,.str l[i].s,.sl 5 (l[i].args.map Expr.g)]:=(gm h).trans (congrArg some (Expr.g_eq _))
set_option maxRecDepth 20000 in
set_option maxHeartbeats 1000000 in
theorem expr_any {p:List Barb.Unit} (hp:PI p) {N:List CN} {R:Value} {g:Nat} (hE:EvalC p N R g) (hC:CallC p N R g):EvalC p N R (g+1):=by
 intro c el s x hs hc he hx hxI
 suffices H:∀ r,evE p (g+1) c el.ps x s=r→CTH Try.prog [] 87 3 (XH p N R s c el) [.ptr 0 0,.agg x.d] (xQ p N R c el r) from H _ rfl
 intro r hr
 have hg:=hs.g
 have hf:=hs.fuel
 obtain ⟨i1,i2,i3,i4,i5,i6⟩:=hxI.inv
 refine enterHJ [2,1000006,1000015] hT hF hM Try.func87 rfl 114 rfl (by kernel_rfl) [.tmp 4] rfl [.ptr 0 0,.agg x.d] rfl (XH p N R s c el) [0] rfl rfl rfl 2 [some R,none] tgX _ ?_
 refine callBurn [.blk x.d 98] (by omega) rfl rfl (fun h0=>?_) (fun h0=>?_)
 ·rw[expr_none p _ c _ x s h0] at hr
  subst hr
  exact ⟨rfl,.inl (endXH (s':=s) (el':=el) (stopD 3) [.old 0,.old 1,.old 2,.old 3,.old 6] rfl rfl rfl (.inl rfl) rfl rfl rfl (List.Perm.refl _) rfl)⟩
 rw[exprF_eq p g c _ x s h0] at hr
 have hs1:OkS p N g { s with fuel:=s.fuel - 1 }:=⟨hs.si.fuel _,hs.np,by show s.fuel - 1≤g;omega,by omega⟩
 revert hr hs1
 generalize { s with fuel:=s.fuel - 1 }=s1
 intro hr hs1
 refine turnTo [.old 0,.old 1,.old 2,.old 3,.old 6,.old 5] [(0,.ptr 0 0),(3,.ptr 5 0)] (XHr p N R s1 c el [.blk x.d 98]) ⟨rfl,.inl rfl,.inl rfl,rfl⟩ ?_
 have ul:=hp.unit _ (uAt_mem hc.u)
 obtain ⟨_,u1,u2,u3,_⟩:=unitE_inv ul
 have hfp:c.f.params.length≤4:=(funE_inv ((unitE_inv ul).2.2.2.2.2.2 _ hc.f)).2.1
 have hNu:c.u < N.length:=by rw[hs.np.len];exact hc.u
 have huc:c.u < s1.cells.length:=by rw[hs1.si.len];exact hc.u
 have hcell:=hs1.si.cell hc.u
 refine ⟨fun k1=>?_,fun k1=>?_⟩
 ·refine ⟨rfl,.inl (endXH (s':=s1) (el':=el) (.g (.int x.n)) [.old 0,.old 1,.old 2,.old 3,.old 4] rfl rfl rfl (.inl rfl) rfl rfl rfl (List.Perm.refl _) ?_)⟩
  rw[← hr,if_pos k1];rfl
 refine ⟨fun k2=>?_,fun k2=>?_⟩
 ·rw[if_neg k1,if_pos k2] at hr
  rcases var_cases (hx.var k2) with ⟨i,hi,hpi⟩ | ⟨hpi,i,hi,hvi⟩
  ·have hi':i < el.ps.length:=by rw[he.1];exact hi
   refine turnNo ?_
   refine callX variable_fn [.blk x.d 98] (varPar_any hi' hpi hfp) rfl rfl rfl rfl (fun out hq=>.inl ⟨_,s1,el,hq,?_⟩)
   refine ⟨_,gm hi',?_⟩
   refine ⟨rfl,.inl (endXH (s':=s1) (el':=el) (.g (.int el.ps[i])) [.old 0,.old 1,.old 2,.old 6,.old 7] rfl rfl rfl (.inl rfl) rfl rfl rfl (List.Perm.refl _) ?_)⟩
   rw[← hr]
   unfold getV
   rw[if_pos (by omega),hpi]
   show Out.ret _ _=Out.ret (.g (.int (el.ps.getD i 0))) _
   simp[hi']
  ·obtain ⟨l1,l2,e1,e2,_⟩:=lendV (t:=3) (hs.np.ni hs1.si) huc
   have hvl:i < (cAt s1 c.u).vars.length:=by have:=hcell.1.1.1;omega
   refine turnLend 2 l1 l2 (rowZ 3 (cAt s1 c.u).vars) rfl e1 ?_
   refine turnTo [.old 0,.old 1,.old 2,.old 3,.old 4,.old 6,.old 5] [(0,.ptr 0 0),(3,.ptr 6 0)] (LH p N R s1 c el (l1++l2) N[c.u].v (cAt s1 c.u).vars++[.blk x.d 98]) ⟨rfl,.inl rfl,.inl rfl,rfl⟩ ?_
   refine callO [0,1,2,3,4,5] variable_fn rfl rfl ⟨rfl,.inl rfl,.inl rfl,rfl⟩ (varVar_any hvl hpi hc.u hvi hNu rfl hfp u1) (fun d' h' hq=>?_) (fun d' h' hq=>by cases hq)
   injection hq with q1 q2;subst q1;subst q2
   refine ⟨_,gm hvl,?_⟩
   refine ⟨rfl,.inr (ghHide 2 9 N[c.u].v (rowZ 3 (cAt s1 c.u).vars) rfl List.mem_cons_self rfl ⟨rfl,rfl,rfl⟩ (ghNo (endXH (s':=s1) (el':=el) (.g (.int (cAt s1 c.u).vars[i])) [.old 0,.old 1,.old 2,.old 7,.old 8] rfl rfl rfl (.inl rfl) rfl rfl rfl ((List.perm_append_singleton _ _).trans e2) ?_)))⟩
   rw[← hr]
   unfold getV
   rw[if_neg hpi,hvi]
   show Out.ret _ _=Out.ret (.g (.int ((cAt s1 c.u).vars.getD i 0))) _
   simp[hvl]
 rw[if_neg k1,if_neg k2] at hr
 have la:(x.args.map Expr.g).length=x.args.length:=List.length_map _
 refine loopR (ι:=List Int × ES) (fun z=>[(0,.ptr 0 0),(3,.ptr 5 0),(5,.row 6),(33,.g (.int (z.1.length:Int)))]) (fun z=>XHr p N R z.2 c el [.blk x.d 98,.row (z.1.map intG) 3 1]) (ArgI p N g c el.ps x.args s1) (fun z=>x.args.length - z.1.length)
  ⟨([],s1),[.old 0,.old 1,.old 2,.old 3,.old 4,.old 5,.nil 3 1],⟨rfl,.inl rfl,.inr ⟨lk rfl,lk rfl,.inr rfl,lk rfl,trivial⟩,rfl⟩,⟨Nat.zero_le _,hs1,fun _ h=>by simp at h,listF_none _ _ _⟩⟩ ?_
 rintro Rd hRd ⟨vs,sv⟩ ⟨v1,v2,v3,v4⟩
 dsimp only at v1 v2 v3 v4
 have lv:(vs.map intG).length=vs.length:=List.length_map _
 have ev:((vs,sv):List Int × ES).1.length=vs.length:=rfl
 have a4:=hx.inv.2.1
 refine ⟨fun hlt=>?_,fun hlt=>?_⟩
 ·have hi:vs.length < x.args.length:=by omega
  obtain ⟨st1,st2⟩:=listF_step hi v4
  have hxy:=i6 _ (List.getElem_mem hi)
  refine ⟨vs.length,_,rfl,exG hi,?_⟩
  refine .inl ?_
  refine callE hE [.blk x.d 98,.row (vs.map intG) 3 1,.blk x.args[vs.length].d 98] v2 hc he (hx.inv.2.2.2.2.2 _ (List.getElem_mem hi)) hxy hp rfl rfl (fun n s' hn ok' _ wn=>?_) (fun e s' hn=>?_)
  ·refine ⟨[[.int n]],rfl,rfl,⟨rfl,trivial⟩,?_⟩
   refine ⟨⟨by simp only[maxLen,List.length_map,List.length_cons,List.length_nil];omega,by simp only[List.length_map,List.length_cons,List.length_nil];omega⟩,.inl ?_⟩
   refine ⟨_,I64.wrap (by unfold I64;omega),?_⟩
   refine hRd _ _ _ ⟨(vs++[n],s'),[.old 0,.old 1,.old 2,.old 8,.old 9,.old 5,.old 11],⟨rfl,.inr ⟨⟨rfl,.inl rfl⟩,⟨rfl,.inl rfl⟩,⟨List.Perm.refl _,rfl⟩,⟨rfl,rfl,rfl⟩,⟨rfl,rfl,rfl⟩,⟨rfl,.inl rfl⟩,⟨by rw[List.map_append];rfl,rfl,rfl⟩,trivial⟩,.inr ⟨lk rfl,lk rfl,lk rfl,lkI (by simp),trivial⟩,rfl⟩,
    ⟨by simp;omega,ok',fun z hz=>?_,st1 n s' hn⟩,by simp;omega⟩
   rcases List.mem_append.1 hz with hz | hz
   ·exact v3 z hz
   ·rw[List.mem_singleton.1 hz];exact wn
  ·rw[st2 e s' hn] at hr
   refine ⟨rfl,.inl (endXH (s':=s') (el':=el) (stopD e) [.old 0,.old 1,.old 2,.old 8,.old 9] rfl rfl rfl (.inl rfl) rfl rfl rfl (List.Perm.refl _) ?_)⟩
   rw[← hr];rfl
 have hl:vs.length=x.args.length:=by omega
 rw[v4,hl,List.drop_length] at hr
 replace hr:lastF p (evS p g) c x vs sv=r:=by rw[← hr];show _=lastF p (evS p g) c x (vs++[]) sv;rw[List.append_nil]
 unfold lastF at hr
 have huv:c.u < sv.cells.length:=by rw[v2.si.len];exact hc.u
 have hcv:=v2.si.cell hc.u
 refine ⟨fun k3=>?_,fun k3=>?_⟩
 ·rw[if_pos k3] at hr
  have o3:=hx.inv.2.2.1
  rw[k3,exprOk_3] at o3
  obtain ⟨a,ha⟩:∃ a,vs=[a]:=by
   match vs,(hl.trans o3.2.2.1) with
   | [a],_=>exact ⟨a,rfl⟩
  subst ha
  obtain ⟨k,hk,hak⟩:=arr_at (hx.arr k3)
  have hka:k < (cAt sv c.u).arrays.length:=by rw[hcv.1.2];exact hk
  obtain ⟨v,l1,l2,hv,e1,e2,_⟩:=lendA (t:=3) (hs.np.ni v2.si) huv hka
  have hwa:wd a:=v3 a List.mem_cons_self
  refine turnLend 2 l1 l2 (rowZ 3 ((cAt sv c.u).arrays.getD k [])) rfl e1 ?_
  refine turnTo [.old 0,.old 1,.old 2,.old 3,.old 4,.old 7,.old 5,.old 6] [(0,.ptr 0 0),(3,.ptr 6 0),(5,.row 7)] (LH p N R sv c el (l1++l2) v ((cAt sv c.u).arrays.getD k [])++[.blk x.d 98,.row [[.int a]] 3 1]) ⟨rfl,.inl rfl,.inl rfl,rfl⟩ ?_
  refine ⟨some 9999,[6],rfl,?_⟩
  refine ⟨0,rfl,Nat.zero_lt_one,?_⟩
  have hct:=element_any2 (p:=p) (N:=N) (R:=R) (s:=sv) (c:=c) (el:=el) (name:=x.s) (l:=l1++l2) (xs:=(cAt sv c.u).arrays.getD k []) hwa.1 hwa.2 hc.u hak hNu hv u2
  have ear:arrAt p c sv x.s=(cAt sv c.u).arrays.getD k []:=by unfold arrAt;rw[hak];rfl
  unfold getA at hr
  rw[ear] at hr
  refine ⟨_,rfl,?_⟩
  refine callO [0,1,2,3,4,5] element_fn2 rfl rfl ⟨rfl,.inl rfl,.inl rfl,rfl⟩ hct (fun d' h' hq=>?_) (fun d' h' hq=>?_)
  ·by_cases hle:(((cAt sv c.u).arrays.getD k []).length:Int)≤a
   ·rw[if_pos hle] at hq;cases hq
   rw[if_neg hle] at hq
   injection hq with q1 q2;subst q1;subst q2
   have hal:a.toNat < ((cAt sv c.u).arrays.getD k []).length:=by have:=hwa.1;omega
   refine ⟨_,gm hal,?_⟩
   refine ⟨rfl,.inr (ghHide 2 10 v (rowZ 3 ((cAt sv c.u).arrays.getD k [])) rfl List.mem_cons_self rfl ⟨rfl,rfl,rfl⟩ (ghNo (endXH (s':=sv) (el':=el) (.g (.int ((cAt sv c.u).arrays.getD k [])[a.toNat])) [.old 0,.old 1,.old 2,.old 8,.old 9] rfl rfl rfl (.inl rfl) rfl rfl rfl ((List.perm_append_singleton _ _).trans e2) ?_)))⟩
   rw[← hr]
   show xQ p N R c el (if (((cAt sv c.u).arrays.getD k []).length:Int)≤a then _ else _) _
   rw[if_neg hle]
   show Out.ret _ _=Out.ret (.g (.int (((cAt sv c.u).arrays.getD k []).getD a.toNat 0))) _
   rw[getD_at hal]
  ·by_cases hle:(((cAt sv c.u).arrays.getD k []).length:Int)≤a
   ·rw[if_pos hle] at hq
    injection hq with q1 q2;subst q1;subst q2
    refine ⟨rfl,.inr (ghHide 2 10 v (rowZ 3 ((cAt sv c.u).arrays.getD k [])) rfl List.mem_cons_self rfl ⟨rfl,rfl,rfl⟩ (ghNo (endXH (s':=sv) (el':=el) (stopD 2) [.old 0,.old 1,.old 2,.old 8,.old 9] rfl rfl rfl (.inl rfl) rfl rfl rfl ((List.perm_append_singleton _ _).trans e2) ?_)))⟩
    rw[← hr]
    show xQ p N R c el (if (((cAt sv c.u).arrays.getD k []).length:Int)≤a then _ else _) _
    rw[if_pos hle]
    rfl
   ·rw[if_neg hle] at hq;cases hq
 rw[if_neg k3] at hr
 refine ⟨fun k5=>?_,fun k5=>?_⟩
 ·rw[if_pos k5] at hr
  have o5:=hx.inv.2.2.1
  rw[k5,exprOk_5] at o5
  obtain ⟨a,b,hab⟩:∃ a b,vs=[a,b]:=by
   match vs,(hl.trans o5.2.2) with
   | [a,b],_=>exact ⟨a,b,rfl⟩
  subst hab
  refine ⟨none,rfl,?_⟩
  refine ⟨0,rfl,Nat.zero_lt_succ _,?_⟩
  refine ⟨_,rfl,?_⟩
  refine ⟨1,rfl,Nat.one_lt_succ_succ _,?_⟩
  refine ⟨_,rfl,?_⟩
  refine ⟨_,_,.inl rfl,Do_any x.n a b,rfl,?_⟩
  refine ⟨rfl,.inl (endXH (s':=sv) (el':=el) (.g (.int (doI x.n a b))) [.old 0,.old 1,.old 2,.old 3,.old 4] rfl rfl rfl (.inl rfl) rfl rfl rfl (List.Perm.refl _) ?_)⟩
  rw[← hr];rfl
 rw[if_neg k5] at hr
 have k4:x.k=4:=by have:=hx.inv.1;omega
 obtain ⟨t1,fi,t2,t3,t4,t5⟩:=hx.ask hc k4
 rw[t2,Int.toNat_natCast] at hr
 have hcd:=hc.deep
 have hto:=uAt_mem t1
 obtain ⟨_,_,_,w3,_⟩:=unitE_inv (hp.unit _ hto)
 have hF:=NamesFunc_any (uAt p (toU p c x.of)) (by omega) x.s
 rw[t2] at hF
 have hU:x.of≠[]→CT Try.prog [] 14 [.g (.sl 4 (p.map Unit.g)),.g (.str x.of)] (Is (.g (.int ((toU p c x.of:Nat):Int)))):=fun ho=>by
  rw[← t5 ho];exact NamesUnit_any p (by have:=hp.few;omega) x.of
 have hu0:x.of=[]→toU p c x.of=c.u:=fun ho=>by unfold toU;rw[if_pos ho]
 have hcc:=hC (toU p c x.of) fi vs (c.deep+1) sv v2 t1 t3 (hl.trans t4.symm) v3 (by omega)
 revert hr hcc hF hU hu0 t1
 generalize toU p c x.of=u' at *
 intro t1 hr hF hU hu0 hcc
 rw[uAt_eq t1] at hF
 refine ⟨fun ho=>?_,fun ho=>?_⟩
 ·refine ⟨none,rfl,?_⟩
  refine ⟨_,_,.inl rfl,hU ho,rfl,?_⟩
  refine ⟨some 9999,[24],rfl,?_⟩
  refine ⟨u',_,rfl,gm t1,?_⟩
  refine ⟨_,_,.inl rfl,hF,rfl,?_⟩
  refine ⟨((c.deep+1:Nat):Int),(I64.wrap (by unfold I64;omega)).trans rfl,?_⟩
  refine callO [1,2,4,6] call_fn rfl rfl ⟨rfl,.inl rfl,.inl rfl,rfl⟩ hcc (fun d' h' hq=>?_) (fun d' h' hq=>?_)
  ·rcases kQ_out hq with ⟨n,s',h1,h2⟩ | ⟨e,s',h1,h2⟩
   ·injection h2 with q1 q2;subst q1;subst q2
    refine ⟨rfl,.inl (endXH (s':=s') (el':=el) (.g (.int n)) [.old 0,.old 1,.old 2,.old 3,.old 7] rfl rfl rfl (.inl rfl) rfl rfl rfl (List.Perm.refl _) ?_)⟩
    rw[← hr,h1];rfl
   ·cases h2
  ·rcases kQ_out hq with ⟨n,s',h1,h2⟩ | ⟨e,s',h1,h2⟩
   ·cases h2
   ·injection h2 with q1 q2;subst q1;subst q2
    refine ⟨rfl,.inl (endXH (s':=s') (el':=el) (stopD e) [.old 0,.old 1,.old 2,.old 3,.old 7] rfl rfl rfl (.inl rfl) rfl rfl rfl (List.Perm.refl _) ?_)⟩
    rw[← hr,h1];rfl
 ·obtain rfl:=hu0 ho
  refine ⟨some 9999,[24],rfl,?_⟩
  refine ⟨c.u,_,rfl,gm t1,?_⟩
  refine ⟨_,_,.inl rfl,hF,rfl,?_⟩
  refine ⟨((c.deep+1:Nat):Int),(I64.wrap (by unfold I64;omega)).trans rfl,?_⟩
  refine callO [1,2,4,6] call_fn rfl rfl ⟨rfl,.inl rfl,.inl rfl,rfl⟩ hcc (fun d' h' hq=>?_) (fun d' h' hq=>?_)
  ·rcases kQ_out hq with ⟨n,s',h1,h2⟩ | ⟨e,s',h1,h2⟩
   ·injection h2 with q1 q2;subst q1;subst q2
    refine ⟨rfl,.inl (endXH (s':=s') (el':=el) (.g (.int n)) [.old 0,.old 1,.old 2,.old 3,.old 7] rfl rfl rfl (.inl rfl) rfl rfl rfl (List.Perm.refl _) ?_)⟩
    rw[← hr,h1];rfl
   ·cases h2
  ·rcases kQ_out hq with ⟨n,s',h1,h2⟩ | ⟨e,s',h1,h2⟩
   ·cases h2
   ·injection h2 with q1 q2;subst q1;subst q2
    refine ⟨rfl,.inl (endXH (s':=s') (el':=el) (stopD e) [.old 0,.old 1,.old 2,.old 3,.old 7] rfl rfl rfl (.inl rfl) rfl rfl rfl (List.Perm.refl _) ?_)⟩
    rw[← hr,h1];rfl
end Go.Proofs.Ytcpbfpgighaonaa
