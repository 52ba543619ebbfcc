/-
  eval: a statement is done.
-/
import Derived.Test.YtcpbfpgighaonaaEs
namespace Go.Proofs.Ytcpbfpgighaonaa
open Go Go.Dm Go.Eng Go.RowKit Barb
theorem stmtF_eq (p:List Barb.Unit) (g:Nat) (c:EC) (x:Barb.Stmt) (el:EL) (s:ES) (h0:s.fuel≠0):evS p (g+1) c x el s=(evE p g c el.ps (x.xs.getD 0 noX) { s with fuel:=s.fuel - 1 }).bind fun n s =>
  if x.k=1 then putV p c el s x.s n
  else if x.k=2 then (evE p g c el.ps (x.xs.getD 1 noX) s).bind fun v s=>putA p c el s x.s n v
  else if x.k=3 then bodyF (evS p g c) (if n=0 then x.e else x.b) el s
  else if x.k=4 then whileF (evE p g) (evS p g) c x (g+1) n el s
  else if x.k=5 then .ok { el with back:=true,val:=n } s
  else if s.told.length=500 then .stop 6 s else .ok el { s with told:=s.told++[n] }:=by
 rw[evS_succ];unfold stmtF burnS;rw[if_neg h0]
theorem stmt_none (p:List Barb.Unit) (g:Nat) (c:EC) (x:Barb.Stmt) (el:EL) (s:ES) (h0:s.fuel=0):evS p g c x el s=.stop 3 s:=by
 cases g with
 | zero=>rfl
 | succ g=>rw[evS_succ];unfold stmtF burnS;rw[if_pos h0]
structure WhI (p:List Barb.Unit) (N:List CN) (g:Nat) (c:EC) (x:Barb.Stmt) (r:RR EL) (z:Nat × Int × EL × ES):Prop where
 ok:OkS p N g z.2.2.2
 el:ELI c z.2.2.1
 w:wd z.2.1
 eq:(z.2.2.1.back=true∧r=.ok z.2.2.1 z.2.2.2)∨(z.2.2.1.back=false∧z.2.2.2.fuel < z.1∧whileF (evE p g) (evS p g) c x z.1 z.2.1 z.2.2.1 z.2.2.2=r)
set_option maxRecDepth 20000 in
set_option maxHeartbeats 1000000 in
theorem stmt_any {p:List Barb.Unit} (hp:PI p) {N:List CN} {R:Value} {g:Nat} (hE:EvalC p N R g) (hB:BodyC p N R g):StmtC p N R (g+1):=by
 intro c el s x hs hc he hx hxI
 suffices H:∀ r,evS p (g+1) c x el s=r→CTH Try.prog [] 74 3 (XH p N R s c el) [.ptr 0 0,.agg x.d] (sQ p N R c r) from H _ rfl
 intro r hr
 have hg:=hs.g
 have hf:=hs.fuel
 obtain ⟨i1,i2,i3,i4,i5,i6,i7,i8⟩:=hxI.inv
 obtain ⟨hx0,hX0⟩:=hx.one
 have hinv:=hx.inv
 refine enterHJ [2,3,1000008,11,19,21] hT hF hM Try.func74 rfl 121 rfl (by kernel_rfl) [] rfl [.ptr 0 0,.agg x.d] rfl (XH p N R s c el) [0] rfl rfl rfl 2 [some R,none] tgX _ ?_
 refine callBurn [.blk x.d 96] (by omega) rfl rfl (fun h0=>?_) (fun h0=>?_)
 ·rw[stmt_none p _ c x _ s h0] at hr
  subst hr
  exact ⟨rfl,.inl (endXH (s':=s) (el':=el) (stopD 3) [.old 0,.old 1,.old 2,.old 3,.old 6] rfl rfl rfl (.inl rfl) rfl rfl rfl (List.Perm.refl _) ⟨el,rfl⟩)⟩
 rw[stmtF_eq p g c x _ s h0] at hr
 have hs1:OkS p N g { s with fuel:=s.fuel - 1 }:=⟨hs.si.fuel _,hs.np,by show s.fuel - 1≤g;omega,by omega⟩
 revert hr hs1
 generalize { s with fuel:=s.fuel - 1 }=s1
 intro hr hs1
 refine turnTo [.old 0,.old 1,.old 2,.old 3,.old 6,.old 5] [(0,.ptr 0 0),(3,.ptr 5 0)] (XHr p N R s1 c el [.blk x.d 96]) ⟨rfl,.inl rfl,.inl rfl,rfl⟩ ?_
 have ul:=hp.unit _ (uAt_mem hc.u)
 obtain ⟨_,u1,u2,u3,_⟩:=unitE_inv ul
 have hfp:c.f.params.length≤4:=(funE_inv ((unitE_inv ul).2.2.2.2.2.2 _ hc.f)).2.1
 have hNu:c.u < N.length:=by rw[hs.np.len];exact hc.u
 have ex0:x.xs.getD 0 noX=x.xs[0]:=by simp[hx0]
 rw[ex0] at hr hX0
 refine ⟨0,_,rfl,exG hx0,?_⟩
 refine callE hE [.blk x.d 96] hs1 hc he hX0 (i6 _ (List.getElem_mem hx0)) hp rfl rfl (fun n s2 hn hs2 _ wn=>?_) (fun e s2 hn=>?_)
 rotate_left
 ·rw[hn] at hr
  refine ⟨rfl,.inl (endXH (s':=s2) (el':=el) (stopD e) [.old 0,.old 1,.old 2,.old 6,.old 7] rfl rfl rfl (.inl rfl) rfl rfl rfl (List.Perm.refl _) ?_)⟩
  rw[← hr];exact ⟨el,rfl⟩
 rw[hn] at hr
 replace hr:(if x.k=1 then putV p c el s2 x.s n
  else if x.k=2 then (evE p g c el.ps (x.xs.getD 1 noX) s2).bind fun v s=>putA p c el s x.s n v
  else if x.k=3 then bodyF (evS p g c) (if n=0 then x.e else x.b) el s2
  else if x.k=4 then whileF (evE p g) (evS p g) c x (g+1) n el s2
  else if x.k=5 then .ok { el with back:=true,val:=n } s2
  else if s2.told.length=500 then .stop 6 s2 else .ok el { s2 with told:=s2.told++[n] })=r:=hr
 refine turnTo [.old 0,.old 1,.old 2,.old 6,.old 7,.old 5] [(0,.ptr 0 0),(3,.ptr 5 0),(4,.g (.int n))] (XHr p N R s2 c el [.blk x.d 96]) ⟨rfl,.inl rfl,.inl rfl,rfl⟩ ?_
 have hu2:c.u < s2.cells.length:=by rw[hs2.si.len];exact hc.u
 have hcell:=hs2.si.cell hc.u
 refine ⟨fun k1=>?_,fun k1=>?_⟩
 ·rw[if_pos k1] at hr
  rcases var_cases (hx.var k1) with ⟨i,hi,hpi⟩ | ⟨hpi,i,hi,hvi⟩
  ·have hi':i < el.ps.length:=by rw[he.1];exact hi
   refine turnNo ?_
   refine callX variable_fn [.blk x.d 96] (varPar_any hi' hpi hfp) rfl rfl rfl rfl (fun out hq=>.inl ⟨_,s2,el,hq,?_⟩)
   refine ⟨_,[.int n],gm hi',⟨rfl,trivial⟩,Nat.le_refl 1,(fun h=>by cases h),.inl ?_⟩
   refine ⟨rfl,.inl (endXH (s':=s2) (el':={ el with ps:=el.ps.set i n }) (.tuple []) [.old 0,.old 1,.old 2,.old 6,.old 7] rfl rfl rfl (.inl rfl) rfl (by rw[List.map_set];rfl) rfl (List.Perm.refl _) ?_)⟩
   rw[← hr]
   unfold putV
   rw[if_pos (by omega),hpi]
   rfl
  ·obtain ⟨l1,l2,e1,_,e3⟩:=lendV (t:=3) (hs.np.ni hs2.si) hu2
   have hvl:i < (cAt s2 c.u).vars.length:=by have:=hcell.1.1.1;omega
   refine turnLend 2 l1 l2 (rowZ 3 (cAt s2 c.u).vars) rfl e1 ?_
   refine turnTo [.old 0,.old 1,.old 2,.old 3,.old 4,.old 6,.old 5] [(0,.ptr 0 0),(3,.ptr 6 0),(4,.g (.int n))] (LH p N R s2 c el (l1++l2) N[c.u].v (cAt s2 c.u).vars++[.blk x.d 96]) ⟨rfl,.inl rfl,.inl rfl,rfl⟩ ?_
   refine callO [0,1,2,3,4,5] variable_fn rfl rfl ⟨rfl,.inl rfl,.inl rfl,rfl⟩ (varVar_any hvl hpi hc.u hvi hNu rfl hfp u1) (fun d' h' hq=>?_) (fun d' h' hq=>by cases hq)
   injection hq with q1 q2;subst q1;subst q2
   refine ⟨_,[.int n],gm hvl,⟨rfl,trivial⟩,Nat.le_refl 1,(fun h=>by cases h),.inl ?_⟩
   refine ⟨rfl,.inr (ghHide 2 9 N[c.u].v (rowZ 3 ((cAt s2 c.u).vars.set i n)) rfl List.mem_cons_self rfl ⟨by rw[List.map_set];rfl,rfl,rfl⟩ (ghNo (endXH (s':=s2.setV c.u i n) (el':=el) (.tuple []) [.old 0,.old 1,.old 2,.old 7,.old 8] rfl rfl rfl (.inl rfl) rfl rfl rfl ((List.perm_append_singleton _ _).trans (e3 i n)) ?_)))⟩
   rw[← hr]
   unfold putV
   rw[if_neg hpi,hvi]
   rfl
 rw[if_neg k1] at hr
 refine ⟨fun k2=>?_,fun k2=>?_⟩
 ·rw[if_pos k2] at hr
  obtain ⟨hx1,hX1⟩:=hx.two k2
  have ex1:x.xs.getD 1 noX=x.xs[1]:=by simp[hx1]
  rw[ex1] at hr hX1
  refine ⟨1,_,rfl,exG hx1,?_⟩
  refine callE hE [.blk x.d 96] hs2 hc he hX1 (i6 _ (List.getElem_mem hx1)) hp rfl rfl (fun v s3 hv hs3 _ wv=>?_) (fun e s3 hv=>?_)
  rotate_left
  ·rw[hv] at hr
   refine ⟨rfl,.inl (endXH (s':=s3) (el':=el) (stopD e) [.old 0,.old 1,.old 2,.old 6,.old 7] rfl rfl rfl (.inl rfl) rfl rfl rfl (List.Perm.refl _) ?_)⟩
   rw[← hr];exact ⟨el,rfl⟩
  rw[hv] at hr
  replace hr:putA p c el s3 x.s n v=r:=hr
  have hu3:c.u < s3.cells.length:=by rw[hs3.si.len];exact hc.u
  have hc3:=hs3.si.cell hc.u
  obtain ⟨k,hk,hak⟩:=arr_at (hx.arr k2)
  have hka:k < (cAt s3 c.u).arrays.length:=by rw[hc3.1.2];exact hk
  obtain ⟨z,l1,l2,hz,e1,e2,e3⟩:=lendA (t:=3) (hs.np.ni hs3.si) hu3 hka
  refine turnLend 2 l1 l2 (rowZ 3 ((cAt s3 c.u).arrays.getD k [])) rfl e1 ?_
  refine turnTo [.old 0,.old 1,.old 2,.old 6,.old 7,.old 8,.old 5] [(0,.ptr 0 0),(3,.ptr 6 0),(4,.g (.int n)),(5,.g (.int v))] (LH p N R s3 c el (l1++l2) z ((cAt s3 c.u).arrays.getD k [])++[.blk x.d 96]) ⟨rfl,.inl rfl,.inl rfl,rfl⟩ ?_
  have hct:=element_any2 (p:=p) (N:=N) (R:=R) (s:=s3) (c:=c) (el:=el) (name:=x.s) (l:=l1++l2) (xs:=(cAt s3 c.u).arrays.getD k []) wn.1 wn.2 hc.u hak hNu hz u2
  have ear:arrAt p c s3 x.s=(cAt s3 c.u).arrays.getD k []:=by unfold arrAt;rw[hak];rfl
  unfold putA at hr
  rw[ear,hak,Int.toNat_natCast] at hr
  refine callO [0,1,2,3,4,5] element_fn2 rfl rfl ⟨rfl,.inl rfl,.inl rfl,rfl⟩ hct (fun d' h' hq=>?_) (fun d' h' hq=>?_)
  ·by_cases hle:(((cAt s3 c.u).arrays.getD k []).length:Int)≤n
   ·rw[if_pos hle] at hq;cases hq
   rw[if_neg hle] at hq hr
   injection hq with q1 q2;subst q1;subst q2
   have hal:n.toNat < ((cAt s3 c.u).arrays.getD k []).length:=by have:=wn.1;omega
   refine ⟨_,[.int v],gm hal,⟨rfl,trivial⟩,Nat.le_refl 1,(fun h=>by cases h),.inl ?_⟩
   refine ⟨rfl,.inr (ghHide 2 9 z (rowZ 3 (((cAt s3 c.u).arrays.getD k []).set n.toNat v)) rfl List.mem_cons_self rfl ⟨by rw[List.map_set];rfl,rfl,rfl⟩ (ghNo (endXH (s':=s3.setA c.u k n.toNat v) (el':=el) (.tuple []) [.old 0,.old 1,.old 2,.old 7,.old 8] rfl rfl rfl (.inl rfl) rfl rfl rfl ((List.perm_append_singleton _ _).trans (e3 n.toNat v)) ?_)))⟩
   rw[← hr];rfl
  ·by_cases hle:(((cAt s3 c.u).arrays.getD k []).length:Int)≤n
   ·rw[if_pos hle] at hq hr
    injection hq with q1 q2;subst q1;subst q2
    refine ⟨rfl,.inr (ghHide 2 9 z (rowZ 3 ((cAt s3 c.u).arrays.getD k [])) rfl List.mem_cons_self rfl ⟨rfl,rfl,rfl⟩ (ghNo (endXH (s':=s3) (el':=el) (stopD 2) [.old 0,.old 1,.old 2,.old 7,.old 8] rfl rfl rfl (.inl rfl) rfl rfl rfl ((List.perm_append_singleton _ _).trans e2) ?_)))⟩
    rw[← hr];exact ⟨el,rfl⟩
   ·rw[if_neg hle] at hq;cases hq
 rw[if_neg k2] at hr
 have hsB:SsC p c x.b:=⟨hinv.2.2.2.1.all,i7,i4⟩
 have hsE:SsC p c x.e:=⟨hinv.2.2.2.2.1.all,i8,i5⟩
 refine ⟨fun k3=>?_,fun k3=>?_⟩
 ·rw[if_pos k3] at hr
  refine ⟨fun hn0=>?_,fun hn0=>?_⟩
  ·rw[if_neg hn0] at hr
   refine callB hB [.blk x.d 96] hs2 hc he hsB hp rfl rfl (fun el3 s3 h3 _ _ _=>?_) (fun e s3 el3 h3=>?_)
   ·refine ⟨rfl,.inl (endXH (s':=s3) (el':=el3) (.tuple []) [.old 0,.old 1,.old 2,.old 6,.old 7] rfl rfl rfl (.inl rfl) rfl rfl rfl (List.Perm.refl _) ?_)⟩
    rw[← hr,h3];rfl
   ·refine ⟨rfl,.inl (endXH (s':=s3) (el':=el3) (stopD e) [.old 0,.old 1,.old 2,.old 6,.old 7] rfl rfl rfl (.inl rfl) rfl rfl rfl (List.Perm.refl _) ?_)⟩
    rw[← hr,h3];exact ⟨el3,rfl⟩
  ·rw[if_pos hn0] at hr
   refine callB hB [.blk x.d 96] hs2 hc he hsE hp rfl rfl (fun el3 s3 h3 _ _ _=>?_) (fun e s3 el3 h3=>?_)
   ·refine ⟨rfl,.inl (endXH (s':=s3) (el':=el3) (.tuple []) [.old 0,.old 1,.old 2,.old 6,.old 7] rfl rfl rfl (.inl rfl) rfl rfl rfl (List.Perm.refl _) ?_)⟩
    rw[← hr,h3];rfl
   ·refine ⟨rfl,.inl (endXH (s':=s3) (el':=el3) (stopD e) [.old 0,.old 1,.old 2,.old 6,.old 7] rfl rfl rfl (.inl rfl) rfl rfl rfl (List.Perm.refl _) ?_)⟩
    rw[← hr,h3];exact ⟨el3,rfl⟩
 rw[if_neg k3] at hr
 refine ⟨fun k4=>?_,fun k4=>?_⟩
 ·rw[if_pos k4] at hr
  refine loopR (ι:=Nat × Int × EL × ES) (fun z=>[(0,.ptr 0 0),(3,.ptr 5 0),(4,.g (.int z.2.1))]) (fun z=>XHr p N R z.2.2.2 c z.2.2.1 [.blk x.d 96]) (WhI p N g c x r) (fun z=>if z.2.2.1.back then 0 else z.1+1)
   ⟨(g+1,n,el,s2),[.old 0,.old 1,.old 2,.old 3,.old 4,.old 5],⟨rfl,.inl rfl,.inr ⟨lk rfl,lk rfl,lk rfl,trivial⟩,rfl⟩,⟨hs2,he,wn,?_⟩⟩ ?_
  ·cases hb:el.back with
   | true=>exact .inl ⟨rfl,by rw[← hr];unfold whileF;rw[if_pos (.inr hb)]⟩
   | false=>exact .inr ⟨rfl,by have:=hs2.fuel;show s2.fuel < g+1;omega,hr⟩
  rintro Rd hRd ⟨k,m,⟨ps1,bk1,val1⟩,s3⟩ ⟨w1,w2,w3,w4⟩
  dsimp only at w1 w2 w3 w4
  cases bk1 with
  | true =>
   rcases w4 with ⟨_,rfl⟩ | ⟨h,_⟩
   ·refine ⟨fun _=>?_,fun _=>?_⟩
    all_goals exact ⟨rfl,.inl (endXH (s':=s3) (el':=⟨ps1,true,val1⟩) (.tuple []) [.old 0,.old 1,.old 2,.old 3,.old 4] rfl rfl rfl (.inl rfl) rfl rfl rfl (List.Perm.refl _) rfl)⟩
   ·cases h
  | false =>
  rcases w4 with ⟨h,_⟩ | ⟨_,wf,hr⟩
  ·cases h
  obtain ⟨k',rfl⟩:∃ k',k=k'+1:=⟨k - 1,by have:s3.fuel < k:=wf;omega⟩
  replace hr:whileF (evE p g) (evS p g) c x (k'+1) m ⟨ps1,false,val1⟩ s3=r:=hr
  unfold whileF at hr
  refine ⟨fun hm=>?_,fun hm=>?_⟩
  ·replace hm:¬m=0:=hm
   rw[if_neg (by rintro (h | h);exact hm h;cases h)] at hr
   refine callB hB [.blk x.d 96] w1 hc w2 hsB hp rfl rfl (fun el4 s4 h4 ok4 e4 lt4=>?_) (fun e s4 el4 h4=>?_)
   rotate_left
   ·refine ⟨rfl,.inl (endXH (s':=s4) (el':=el4) (stopD e) [.old 0,.old 1,.old 2,.old 6,.old 7] rfl rfl rfl (.inl rfl) rfl rfl rfl (List.Perm.refl _) ?_)⟩
    rw[← hr,h4];exact ⟨el4,rfl⟩
   rw[h4] at hr
   refine turnTo [.old 0,.old 1,.old 2,.old 6,.old 7,.old 5] [(0,.ptr 0 0),(3,.ptr 5 0),(4,.g (.int m))] (XHr p N R s4 c el4 [.blk x.d 96]) ⟨rfl,.inl rfl,.inl rfl,rfl⟩ ?_
   obtain ⟨ps4,bk4,val4⟩:=el4
   cases bk4 with
   | true =>
    exact hRd _ _ _ ⟨(k',m,⟨ps4,true,val4⟩,s4),[.old 0,.old 1,.old 2,.old 3,.old 4,.old 5],⟨rfl,.inl rfl,.inr ⟨lk rfl,lk rfl,lk rfl,trivial⟩,rfl⟩,⟨ok4,e4,w3,.inl ⟨rfl,hr.symm⟩⟩,Nat.succ_pos _⟩
   | false =>
   replace hr:(burnS s4 fun s=>(evE p g c ps4 (x.xs.getD 0 noX) s).bind fun n s=>whileF (evE p g) (evS p g) c x k' n ⟨ps4,false,val4⟩ s)=r:=hr
   unfold burnS at hr
   refine callBurn (el:=⟨ps4,false,val4⟩) [.blk x.d 96] (by have:=ok4.fuel;omega) rfl rfl (fun h0=>?_) (fun h0=>?_)
   ·rw[if_pos h0] at hr
    subst hr
    exact ⟨rfl,.inl (endXH (s':=s4) (el':=⟨ps4,false,val4⟩) (stopD 3) [.old 0,.old 1,.old 2,.old 3,.old 6] rfl rfl rfl (.inl rfl) rfl rfl rfl (List.Perm.refl _) ⟨_,rfl⟩)⟩
   rw[if_neg h0,ex0] at hr
   have hs5:OkS p N g { s4 with fuel:=s4.fuel - 1 }:=⟨ok4.si.fuel _,ok4.np,by have:=ok4.fuel;show s4.fuel - 1≤g;omega,ok4.g⟩
   have hk5:({ s4 with fuel:=s4.fuel - 1 }:ES).fuel < k':=by
    have h1:s3.fuel < k'+1:=wf
    show s4.fuel - 1 < k'
    omega
   revert hr hs5 hk5
   generalize { s4 with fuel:=s4.fuel - 1 }=s5
   intro hr hs5 hk5
   replace hr:(evE p g c ps4 x.xs[0] s5).bind (fun n s=>whileF (evE p g) (evS p g) c x k' n ⟨ps4,false,val4⟩ s)=r:=hr
   refine turnTo [.old 0,.old 1,.old 2,.old 3,.old 6,.old 5] [(0,.ptr 0 0),(3,.ptr 5 0)] (XHr p N R s5 c ⟨ps4,false,val4⟩ [.blk x.d 96]) ⟨rfl,.inl rfl,.inl rfl,rfl⟩ ?_
   refine ⟨0,_,rfl,exG hx0,?_⟩
   refine callE hE (el:=⟨ps4,false,val4⟩) [.blk x.d 96] hs5 hc e4 hX0 (i6 _ (List.getElem_mem hx0)) hp rfl rfl (fun n6 s6 h6 ok6 lt6 wn6=>?_) (fun e s6 h6=>?_)
   ·rw[show evE p g c ps4 x.xs[0] s5=.ok n6 s6 from h6] at hr
    exact hRd _ _ _ ⟨(k',n6,⟨ps4,false,val4⟩,s6),[.old 0,.old 1,.old 2,.old 6,.old 7,.old 5],⟨rfl,.inl rfl,.inr ⟨lk rfl,lk rfl,lk rfl,trivial⟩,rfl⟩,⟨ok6,e4,wn6,.inr ⟨rfl,by show s6.fuel < k';omega,hr⟩⟩,Nat.lt_succ_self _⟩
   ·rw[show evE p g c ps4 x.xs[0] s5=.stop e s6 from h6] at hr
    refine ⟨rfl,.inl (endXH (s':=s6) (el':=⟨ps4,false,val4⟩) (stopD e) [.old 0,.old 1,.old 2,.old 6,.old 7] rfl rfl rfl (.inl rfl) rfl rfl rfl (List.Perm.refl _) ?_)⟩
    rw[← hr];exact ⟨_,rfl⟩
  ·replace hm:m=0:=hm
   rw[if_pos (.inl hm)] at hr
   refine ⟨rfl,.inl (endXH (s':=s3) (el':=⟨ps1,false,val1⟩) (.tuple []) [.old 0,.old 1,.old 2,.old 3,.old 4] rfl rfl rfl (.inl rfl) rfl rfl rfl (List.Perm.refl _) ?_)⟩
   rw[← hr];rfl
 rw[if_neg k4] at hr
 refine ⟨fun k5=>?_,fun k5=>?_⟩
 ·rw[if_pos k5] at hr
  refine .inl ?_
  refine .inl ?_
  refine ⟨rfl,.inl (endXH (s':=s2) (el':={ el with back:=true,val:=n }) (.tuple []) [.old 0,.old 1,.old 2,.old 3,.old 4] rfl rfl rfl (.inl rfl) rfl rfl rfl (List.Perm.refl _) ?_)⟩
  rw[← hr];rfl
 rw[if_neg k5] at hr
 have lt:(tz s2).length=s2.told.length:=List.length_map _
 have htold:=hs2.si.told
 refine ⟨fun h5=>?_,fun h5=>?_⟩
 ·rw[if_pos (by omega)] at hr
  refine .inl ?_
  refine ⟨rfl,.inl (endXH (s':=s2) (el':=el) (stopD 6) [.old 0,.old 1,.old 2,.old 3,.old 4] rfl rfl rfl (.inl rfl) rfl rfl rfl (List.Perm.refl _) ?_)⟩
  rw[← hr];exact ⟨el,rfl⟩
 rw[if_neg (by omega)] at hr
 have hroom:(tz s2).length+1≤maxLen∧((tz s2).length+1)*8≤140737488355328:=⟨by unfold maxLen;omega,by omega⟩
 have hend:sQ p N R c r (.ret (.tuple []) (XH p N R { s2 with told:=s2.told++[n] } c el)):=by rw[← hr];rfl
 have etold:tz s2++[[.int n]]=tz { s2 with told:=s2.told++[n] }:=by show _=(s2.told++[n]).map intG;rw[List.map_append];rfl
 refine ⟨some 60001,(.lead 0 (.lead 1 (.lead 2 (.lead 4 (.lead 5 (.lead 6 (.lead 11 (.two (.run 3 (.two (.run 7 (.lead 8 (.lead 9 (.two (.run 10 (.run 12 (.run 13 (.lead 14 (.lead 15 (.run 16 .done)))))) (.run 12 (.run 10 (.run 13 (.lead 14 (.lead 15 (.run 16 .done)))))))))) (.run 12 (.run 7 (.lead 8 (.lead 9 (.run 10 (.run 13 (.lead 14 (.lead 15 (.run 16 .done))))))))))) (.two (.run 7 (.lead 8 (.lead 9 (.two (.run 3 (.two (.run 10 (.run 12 (.run 13 (.lead 14 (.lead 15 (.run 16 .done)))))) (.run 12 (.run 10 (.run 13 (.lead 14 (.lead 15 (.run 16 .done)))))))) (.two (.run 10 (.two (.run 3 (.run 12 (.run 13 (.lead 14 (.lead 15 (.run 16 .done)))))) (.run 12 (.two (.run 3 (.run 13 (.lead 14 (.lead 15 (.run 16 .done))))) (.run 13 (.run 3 (.lead 14 (.lead 15 (.run 16 .done))))))))) (.run 12 (.two (.run 3 (.run 10 (.run 13 (.lead 14 (.lead 15 (.run 16 .done)))))) (.run 10 (.two (.run 3 (.run 13 (.lead 14 (.lead 15 (.run 16 .done))))) (.run 13 (.run 3 (.lead 14 (.lead 15 (.run 16 .done)))))))))))))) (.run 12 (.two (.run 3 (.run 7 (.lead 8 (.lead 9 (.run 10 (.run 13 (.lead 14 (.lead 15 (.run 16 .done))))))))) (.run 7 (.lead 8 (.lead 9 (.two (.run 3 (.run 10 (.run 13 (.lead 14 (.lead 15 (.run 16 .done)))))) (.run 10 (.two (.run 3 (.run 13 (.lead 14 (.lead 15 (.run 16 .done))))) (.run 13 (.run 3 (.lead 14 (.lead 15 (.run 16 .done)))))))))))))))))))))),rfl,?_⟩
 refine ⟨⟨⟨⟨[[.int n]],rfl,rfl,⟨rfl,trivial⟩,⟨hroom,.inl (.inl (?_))⟩⟩,⟨[[.int n]],rfl,rfl,⟨rfl,trivial⟩,⟨hroom,.inl (.inl (?_))⟩⟩⟩,⟨[[.int n]],rfl,rfl,⟨rfl,trivial⟩,⟨hroom,.inl (.inl (?_))⟩⟩⟩,⟨⟨⟨⟨[[.int n]],rfl,rfl,⟨rfl,trivial⟩,⟨hroom,.inl (.inl (?_))⟩⟩,⟨[[.int n]],rfl,rfl,⟨rfl,trivial⟩,⟨hroom,.inl (.inl (?_))⟩⟩⟩,⟨⟨⟨[[.int n]],rfl,rfl,⟨rfl,trivial⟩,⟨hroom,.inl (.inl (?_))⟩⟩,⟨[[.int n]],rfl,rfl,⟨rfl,trivial⟩,⟨⟨hroom,.inl (.inl (?_))⟩,⟨hroom,.inl (.inl (?_))⟩⟩⟩⟩,⟨[[.int n]],rfl,rfl,⟨rfl,trivial⟩,⟨⟨hroom,.inl (.inl (?_))⟩,⟨⟨hroom,.inl (.inl (?_))⟩,⟨hroom,.inl (.inl (?_))⟩⟩⟩⟩⟩⟩,⟨[[.int n]],rfl,rfl,⟨rfl,trivial⟩,⟨⟨hroom,.inl (.inl (?_))⟩,⟨⟨hroom,.inl (.inl (?_))⟩,⟨⟨hroom,.inl (.inl (?_))⟩,⟨hroom,.inl (.inl (?_))⟩⟩⟩⟩⟩⟩⟩
 all_goals exact ⟨rfl,.inl (endXH (s':={ s2 with told:=s2.told++[n] }) (el':=el) (.tuple []) [.old 0,.old 1,.old 2,.old 3,.old 7] rfl rfl rfl (.inl rfl) rfl rfl etold (List.Perm.refl _) hend)⟩
end Go.Proofs.Ytcpbfpgighaonaa
