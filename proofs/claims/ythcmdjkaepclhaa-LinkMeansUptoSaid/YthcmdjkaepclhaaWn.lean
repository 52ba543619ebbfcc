import Derived.Test.YthcmdjkaepclhaaWm
import Derived.Test.YthcmdjkaepclhaaEz
import Derived.Test.YthcmdjkaepclhaaEz
namespace Go.Proofs.Ythcmdjkaepclhaa
open Go Go.Dm Go.Eng Go.RowKit Barb
def tQ (p:List Barb.Unit) (N:List CN) (c:EC):RR EL->Out->Prop
 | .ok el' s',out=>out=.ret (.tuple []) (YH p N s' c el')
 | .stop e s',out=>∃ el' f,out=.ret (.tuple []) (YF p N s' c el' f e)
def OneC (p:List Barb.Unit) (N:List CN) (g:Nat):Prop:=∀ (c:EC) (el:EL) (s:ES) (x:Barb.Stmt),OkS p N g s->CI p c->ELI c el->StI p c x->x.I ->
 CTH Try.prog [] 77 3 (YH p N s c el) [.ptr 0 0,.ptr 1 0,.agg x.d] (tQ p N c (evS p g c x el s))
def DoneC (p:List Barb.Unit) (N:List CN) (g:Nat):Prop:=∀ (c:EC) (el:EL) (s:ES) (l:List Barb.Stmt),OkS p N g s->CI p c->ELI c el->SsC p c l ->
 CTH Try.prog [] 65 3 (YH p N s c el) [.ptr 0 0,.ptr 1 0,.g (.sl 5 (l.map Stmt.g))] (tQ p N c (bodyF (evS p g c) l el s))
theorem one_fn:fnOk Try.prog 77=true:=by kernel_rfl
theorem done_fn:fnOk Try.prog 65=true:=by kernel_rfl
theorem callO1 {all:List D} {h:Heap} {K Qp:KD} {p:List Barb.Unit} {N:List CN} {g:Nat} (hS:OneC p N g) {s:ES} {c:EC} {el:EL} {x:Barb.Stmt} (r:Heap) (hs:OkS p N g s) (hc:CI p c) (he:ELI c el) (hx:StI p c x) (hxI:x.I) (hp:PI p)
  (hh:h=YFr p N s c el (s.fuel:Int) 0 r) (ha:all=[.ptr 0 0,.ptr 1 0,.agg x.d])
  (hgo:∀ el' s',evS p g c x el s=.ok el' s'->OkS p N g s'->ELI c el'->K (.tuple []) (YFd p N s' c el' (s'.fuel:Int) 0 r))
  (hno:∀ e s' el' f,evS p g c x el s=.stop e s'->2<=e->K (.tuple []) (YFd p N s' c el' f e r)) :
  fnOk Try.prog 77=true/\(OwnCall Try.prog [] 77 all h K Qp\/SemCall Try.prog [] 77 all h K Qp):=by
 subst hh;subst ha
 have hI:=(evP_I hp g).2 c x el s hc hs.si he hx
 have hct:=hS c el s x hs hc he hx hxI
 generalize hr:evS p g c x el s=R at hI hct
 refine callO [0,1,2,3,4] one_fn rfl rfl (turnY p N s c el (s.fuel:Int) 0 r [.agg x.d] rfl) hct (fun d' h' hq=>?_) (fun d' h' hq=>?_)
 ·cases R with
  | ok el' s' =>
   injection hq with e1 e2;subst e1;subst e2
   rw[putY]
   exact hgo el' s' hr ⟨hI.1,hs.np,Nat.le_trans hI.2.1.1 hs.fuel,hs.g⟩ hI.2.2
  | stop e s' =>
   obtain ⟨el',f,hq⟩:=hq
   injection hq with e1 e2;subst e1;subst e2
   rw[putY]
   exact hno e s' el' f hr hI.2.2.1
 ·cases R with
  | ok n s'=>cases hq
  | stop e s'=>obtain ⟨v,f,hq⟩:=hq;cases hq
theorem callD1 {all:List D} {h:Heap} {K Qp:KD} {p:List Barb.Unit} {N:List CN} {g:Nat} (hB:DoneC p N g) {s:ES} {c:EC} {el:EL} {l:List Barb.Stmt} (r:Heap) (hs:OkS p N g s) (hc:CI p c) (he:ELI c el) (hl:SsC p c l) (hp:PI p)
  (hh:h=YFr p N s c el (s.fuel:Int) 0 r) (ha:all=[.ptr 0 0,.ptr 1 0,.g (.sl 5 (l.map Stmt.g))])
  (hgo:∀ el' s',bodyF (evS p g c) l el s=.ok el' s'->OkS p N g s'->ELI c el'->s'.fuel<=s.fuel->K (.tuple []) (YFd p N s' c el' (s'.fuel:Int) 0 r))
  (hno:∀ e s' el' f,bodyF (evS p g c) l el s=.stop e s'->2<=e->K (.tuple []) (YFd p N s' c el' f e r)) :
  fnOk Try.prog 65=true/\(OwnCall Try.prog [] 65 all h K Qp\/SemCall Try.prog [] 65 all h K Qp):=by
 subst hh;subst ha
 have hI:=bodyF_I (p:=p) (c:=c) l (fun x hx el s hs he=>(evP_I hp g).2 c x el s hc hs he (hl.ok x hx)) el s hs.si he
 have hct:=hB c el s l hs hc he hl
 generalize hr:bodyF (evS p g c) l el s=R at hI hct
 refine callO [0,1,2,3,4] done_fn rfl rfl (turnY p N s c el (s.fuel:Int) 0 r [.g (.sl 5 (l.map Stmt.g))] rfl) hct (fun d' h' hq=>?_) (fun d' h' hq=>?_)
 ·cases R with
  | ok el' s' =>
   injection hq with e1 e2;subst e1;subst e2
   rw[putY]
   exact hgo el' s' hr ⟨hI.1,hs.np,Nat.le_trans hI.2.1.1 hs.fuel,hs.g⟩ hI.2.2 hI.2.1.1
  | stop e s' =>
   obtain ⟨el',f,hq⟩:=hq
   injection hq with e1 e2;subst e1;subst e2
   rw[putY]
   exact hno e s' el' f hr hI.2.2.1
 ·cases R with
  | ok n s'=>cases hq
  | stop e s'=>obtain ⟨v,f,hq⟩:=hq;cases hq
inductive DonI (p:List Barb.Unit) (N:List CN) (g:Nat) (c:EC) (l:List Barb.Stmt) (el0:EL) (s0:ES):Nat × EL × ES × Int × Int->Prop
 | go {i:Nat} {el:EL} {s:ES} (le:i<=l.length) (ok:OkS p N g s) (e:ELI c el) (eq:bodyF (evS p g c) l el0 s0=bodyF (evS p g c) (l.drop i) el s):DonI p N g c l el0 s0 (i,el,s,(s.fuel:Int),0)
 | no {i:Nat} {el:EL} {s:ES} {f e:Int} (le:i<=l.length) (e2:2<=e) (eq:bodyF (evS p g c) l el0 s0=.stop e s):DonI p N g c l el0 s0 (i,el,s,f,e)
set_option maxRecDepth 20000 in
theorem doneM_any {p:List Barb.Unit} (hp:PI p) {N:List CN} {g:Nat} (hS:OneC p N g):DoneC p N g:=by
 intro c el s l hs hc he hl
 suffices H:∀ r,bodyF (evS p g c) l el s=r->CTH Try.prog [] 65 3 (YH p N s c el) [.ptr 0 0,.ptr 1 0,.g (.sl 5 (l.map Stmt.g))] (tQ p N c r) from H _ rfl
 intro r hr
 have ll:(l.map Stmt.g).length=l.length:=List.length_map _
 refine enterHJ [] hT hF hM Try.func65 rfl 34 rfl (by kernel_rfl) [] rfl [.ptr 0 0,.ptr 1 0,.g (.sl 5 (l.map Stmt.g))] rfl (YH p N s c el) [0,1] rfl rfl rfl 2 [none] tgY _ ?_
 refine loopR (ι:=Nat × EL × ES × Int × Int) (fun z=>[(0,.ptr 0 0),(1,.ptr 1 0),(6,.g (.int (z.1:Int)))]) (fun z=>YF p N z.2.2.1 c z.2.1 z.2.2.2.1 z.2.2.2.2) (DonI p N g c l el s) (fun z=>l.length - z.1)
  ⟨(0,el,s,(s.fuel:Int),0),[.old 0,.old 1,.old 2,.old 3,.old 4],⟨rfl,.inl rfl,.inr ⟨lk rfl,lk rfl,lk rfl,trivial⟩,rfl⟩,.go (Nat.zero_le _) hs he rfl⟩ ?_
 rintro Rd hRd z hz
 have hlen:=hl.len
 cases hz with
 | @go i el1 s1 le ok1 e1 v4 =>
  obtain ⟨ps1,bk1,val1⟩:=el1
  cases bk1 with
  | true =>
   rw[bodyF_back _ (l.drop i) ⟨ps1,true,val1⟩ _ rfl] at v4
   rw[v4] at hr
   subst hr
   refine ⟨fun hlt=>⟨fun _=>?_,fun h=>absurd rfl h⟩,fun hlt=>?_⟩
   all_goals exact ⟨rfl,.inl (endYF (s':=s1) (el':=⟨ps1,true,val1⟩) (.tuple []) [.old 0,.old 1,.old 2,.old 3,.old 4] rfl rfl rfl rfl (.inl rfl) rfl rfl rfl (List.Perm.refl _) rfl)⟩
  | false =>
  refine ⟨fun hlt=>⟨fun _=>?_,fun h=>absurd rfl h⟩,fun hlt=>?_⟩
  ·have hi:i < l.length:=by have h:(i:Int) < ((l.map Stmt.g).length:Int):=hlt;omega
   rw[bodyF_at _ hi _ _ rfl] at v4
   refine ⟨i,_,rfl,stG hi,?_⟩
   refine callO1 hS [] ok1 hc e1 (hl.ok _ (List.getElem_mem hi)) (hl.i _ (List.getElem_mem hi)) hp rfl rfl (fun el2 s2 h2 ok2 e2=>?_) (fun e s2 el2 f h2 e2=>?_)
   ·rw[h2] at v4
    refine ⟨_,I64.wrap (by unfold I64;omega),?_⟩
    exact hRd _ _ _ ⟨(i+1,el2,s2,(s2.fuel:Int),0),[.old 0,.old 1,.old 2,.old 5,.old 6],⟨rfl,.inl rfl,.inr ⟨lk rfl,lk rfl,lk rfl,trivial⟩,rfl⟩,.go hi ok2 e2 v4,by show l.length - (i+1) < l.length - i;omega⟩
   ·rw[h2] at v4
    refine ⟨_,I64.wrap (by unfold I64;omega),?_⟩
    exact hRd _ _ _ ⟨(i+1,el2,s2,f,e),[.old 0,.old 1,.old 2,.old 5,.old 6],⟨rfl,.inl rfl,.inr ⟨lk rfl,lk rfl,lk rfl,trivial⟩,rfl⟩,.no hi e2 v4,by show l.length - (i+1) < l.length - i;omega⟩
  ·have hi:i=l.length:=by have h:¬(i:Int) < ((l.map Stmt.g).length:Int):=hlt;omega
   refine ⟨rfl,.inl (endYF (s':=s1) (el':=⟨ps1,false,val1⟩) (.tuple []) [.old 0,.old 1,.old 2,.old 3,.old 4] rfl rfl rfl rfl (.inl rfl) rfl rfl rfl (List.Perm.refl _) ?_)⟩
   rw[<- hr,v4,hi,List.drop_length];rfl
 | @no i el1 s1 f e le e2 v4 =>
  rw[v4] at hr
  subst hr
  refine ⟨fun hlt=>⟨fun h=>?_,fun _=>?_⟩,fun hlt=>?_⟩
  ·exact absurd (show e=0 from h) (by omega)
  all_goals exact ⟨rfl,.inl (endYF (s':=s1) (el':=el1) (f:=f) (e:=e) (.tuple []) [.old 0,.old 1,.old 2,.old 3,.old 4] rfl rfl rfl rfl (.inl rfl) rfl rfl rfl (List.Perm.refl _) ⟨el1,f,rfl⟩)⟩
theorem tgZR {p:List Barb.Unit} {N:List CN} {s:ES} {x:Dm.Obj}:tagsN (ZH p N s++[x]) 1 1 [none]:=⟨trivial,trivial⟩
theorem endZF {R':D->Heap->Prop} {env:Dm.Env} {p:List Barb.Unit} {N:List CN} {s s':ES} {f e:Int} {x:Dm.Obj} {h:Heap} {l:List (Value × Ob0)} {told:List (List GV)} {d0:D} (d:D) (src:List Src) (hok:srcOk src=true) (hlen:nrOk src (ZF p N s' f e)=true)
  (h0:conv h src 4 (env 0)=.ptr 0 0) (hd:conv h src 4 d0=d)
  (hT:turnH h src=[.blk (kC p N 2 f e) 108,.many l [],.row told 3 1])
  (e2:told=tz s') (e3:l.Perm (mz N s')) (q:R' d (ZF p N s' f e)):ToH [0] (ZH p N s++[x]) 1 [none] R' h env d0:=by
 subst e2
 refine ⟨src,d,ZF p N s' f e,⟨hok,.inr ?_,.inl ?_,hlen⟩,rfl,⟨trivial,trivial⟩,q⟩
 ·rw[hT]
  exact ⟨⟨rfl,.inl rfl⟩,⟨e3,rfl⟩,⟨rfl,rfl,rfl⟩,trivial⟩
 ·rw[List.map_cons,List.map_cons,List.map_cons,h0,hd];rfl
set_option maxRecDepth 20000 in
theorem calledM_any {p:List Barb.Unit} (hp:PI p) (hpI:progI p) {N:List CN} {g:Nat} (hB:DoneC p N g):CalledC p N g:=by
 intro u i args deep s hs hu hi ha hw hd
 obtain ⟨f,hf⟩:∃ f,f=(uAt p u).funcs.getD i noF:=⟨_,rfl⟩
 have hfm:f∈(uAt p u).funcs:=hf▸fn_mem hi
 have hfa:(uAt p u).funcs[i]=f:=by rw[hf];simp[hi]
 rw[<- hf] at ha
 suffices H:∀ r,callF p (evS p g) u i args deep s=r->CTH Try.prog [] 48 2 (ZH p N s++[.row (args.map intG) 3 1]) [.ptr 0 0,.g (.int (u:Int)),.g (.int (i:Int)),.row 3,.g (.int (deep:Int))] (zQ p N r) from H _ rfl
 intro r hr
 unfold callF at hr
 rw[<- hf] at hr
 have hgm:(p.map Unit.g)[u]?=some [.str (uAt p u).name,.sl 1 ((uAt p u).vars.map strG),.sl 2 ((uAt p u).arrays.map Arr.g),.sl 4 ((uAt p u).funcs.map Fun.g)]:=by rw[uAt_eq hu];exact gm hu
 have hgf:((uAt p u).funcs.map Fun.g)[i]?=some [.str f.name,.bool f.isOpen,.sl 1 (f.params.map strG),.sl 5 (f.body.map Stmt.g)]:=by rw[<- hfa];exact fnG hi
 refine enterH [] hT hF hM Try.func48 rfl 45 rfl (by kernel_rfl) [.tmp 10] rfl [.ptr 0 0,.g (.int (u:Int)),.g (.int (i:Int)),.row 3,.g (.int (deep:Int))] rfl ((ZH p N s++[.row (args.map intG) 3 1])) [0] rfl rfl rfl 1 [none] tgZR _ ?_
 refine ⟨fun h20=>?_,fun h20=>?_⟩
 ·refine .inl ?_
  refine ⟨rfl,.inl (endZF (s':=s) (f:=s.fuel) (e:=5) (.g (.int 0)) [.old 0,.old 1,.old 2] rfl rfl rfl rfl rfl rfl (List.Perm.refl _) ?_)⟩
  rw[<- hr,if_pos (by omega)];exact ⟨0,_,rfl⟩
 have hd19:deep<=19:=by omega
 rw[if_neg (by omega)] at hr
 have hc:CI p ⟨u,f,deep⟩:=⟨hu,hfm,hd19⟩
 have he:ELI ⟨u,f,deep⟩ ⟨args,false,0⟩:=⟨ha,hw,(show wd 0 from ⟨by decide,by decide⟩)⟩
 have hsc:SsC p ⟨u,f,deep⟩ f.body:=by
  obtain ⟨_,_,_,_,hI,_⟩:=hpI.1 _ (uAt_mem hu)
  obtain ⟨_,_,a1,a2⟩:=hI _ hfm
  exact ⟨(hp.body hc).all,a2,a1⟩
 refine ⟨u,_,rfl,hgm,?_⟩
 refine ⟨i,_,rfl,hgf,?_⟩
 refine .inl ?_
 refine callO [0,4,1,3,2] done_fn rfl rfl ⟨rfl,.inl rfl,.inl rfl,rfl⟩ (hB ⟨u,f,deep⟩ ⟨args,false,0⟩ s f.body hs hc he hsc) (fun d' h' hq=>?_) (fun d' h' hq=>?_)
 ·cases hR:bodyF (evS p g ⟨u,f,deep⟩) f.body ⟨args,false,0⟩ s with
  | ok el' s' =>
   rw[hR] at hq hr
   injection hq with q1 q2;subst q1;subst q2
   refine ⟨rfl,.inl (endZF (s':=s') (f:=s'.fuel) (e:=0) (.g (.int el'.val)) [.old 0,.old 1,.old 6] rfl rfl rfl rfl rfl rfl (List.Perm.refl _) ?_)⟩
   rw[<- hr];rfl
  | stop e s' =>
   rw[hR] at hq hr
   obtain ⟨el',f',hq⟩:=hq
   injection hq with q1 q2;subst q1;subst q2
   refine ⟨rfl,.inl (endZF (s':=s') (f:=f') (e:=e) (.g (.int el'.val)) [.old 0,.old 1,.old 6] rfl rfl rfl rfl rfl rfl (List.Perm.refl _) ?_)⟩
   rw[<- hr];exact ⟨_,f',rfl⟩
 ·cases hR:bodyF (evS p g ⟨u,f,deep⟩) f.body ⟨args,false,0⟩ s with
  | ok n s'=>rw[hR] at hq;cases hq
  | stop e s'=>rw[hR] at hq;obtain ⟨v,f,hq⟩:=hq;cases hq
end Go.Proofs.Ythcmdjkaepclhaa
namespace Go.Proofs.Ythcmdjkaepclhaa
open Go Go.Dm Go.Eng Go.RowKit Barb
set_option maxRecDepth 20000 in
set_option maxHeartbeats 1000000 in
theorem one_any {p:List Barb.Unit} (hp:PI p) {N:List CN} {g:Nat} (hE:ValC p N g) (hB:DoneC p N g):OneC p N (g+1):=by
 intro c el s x hs hc he hx hxI
 suffices H:∀ r,evS p (g+1) c x el s=r->CTH Try.prog [] 77 3 (YH p N s c el) [.ptr 0 0,.ptr 1 0,.agg x.d] (tQ p N c r) from H _ rfl
 intro r hr
 have hg:=hs.g
 have hf:=hs.fuel
 obtain ⟨i1,i2,i3,i4,i5,i6,i7,i8⟩:=hxI.inv
 obtain ⟨hx0,hX0⟩:=hx.one
 have hinv:=hx.inv
 refine enterHJ [2,3,1000012,15,17,27,28] hT hF hM Try.func77 rfl 201 rfl (by kernel_rfl) [] rfl [.ptr 0 0,.ptr 1 0,.agg x.d] rfl (YH p N s c el) [0,1] rfl rfl rfl 2 [none] tgY _ ?_
 refine callBurnt [.blk x.d 93] (by omega) rfl rfl (fun h0=>?_) (fun h0 s1 es=>?_)
 ·refine ⟨fun _=>?_,fun h=>absurd h (by decide)⟩
  rw[stmt_none p _ c x _ s h0] at hr
  subst hr
  exact ⟨rfl,.inl (endYF (s':=s) (el':=el) (f:=-1) (e:=3) (.tuple []) [.old 0,.old 1,.old 2,.old 3,.old 6] rfl rfl rfl rfl (.inl rfl) rfl rfl rfl (List.Perm.refl _) ⟨el,-1,rfl⟩)⟩
 refine ⟨fun h=>absurd rfl h,fun _=>?_⟩
 rw[stmtF_eq p g c x _ s h0] at hr
 have hs1:OkS p N g s1:=by subst es;exact ⟨hs.si.fuel _,hs.np,by show s.fuel - 1<=g;omega,by omega⟩
 rw[<- es] at hr
 clear es
 refine turnTo [.old 0,.old 1,.old 2,.old 3,.old 6,.old 5] [(0,.ptr 0 0),(1,.ptr 1 0),(5,.ptr 5 0)] (YFr p N s1 c el (s1.fuel:Int) 0 [.blk x.d 93]) ⟨rfl,.inl rfl,.inl rfl,rfl⟩ ?_
 have ul:=hp.unit _ (uAt_mem hc.u)
 obtain ⟨_,u1,u2,u3,_⟩:=unitE_inv ul
 have hfp:c.f.params.length<=4:=(funE_inv ((unitE_inv ul).2.2.2.2.2.2 _ hc.f)).2.1
 have hNu:c.u < N.length:=by rw[hs.np.len];exact hc.u
 have ex0:x.xs.getD 0 noX=x.xs[0]:=by simp[hx0]
 rw[ex0] at hr hX0
 refine ⟨0,_,rfl,exG hx0,?_⟩
 refine callV hE [.blk x.d 93] hs1 hc he hX0 (i6 _ (List.getElem_mem hx0)) hp rfl rfl (fun n s2 hn hs2 _ wn=>?_) (fun e s2 v f hn he2=>?_)
 rotate_left
 ·rw[hn] at hr
  refine turnNo ?_
  refine ⟨fun _=>?_,fun h=>absurd (show e=0 from h) (by omega)⟩
  refine ⟨rfl,.inl (endYF (s':=s2) (el':=el) (f:=f) (e:=e) (.tuple []) [.old 0,.old 1,.old 2,.old 6,.old 7] rfl rfl rfl rfl (.inl rfl) rfl rfl rfl (List.Perm.refl _) ?_)⟩
  rw[<- hr];exact ⟨el,f,rfl⟩
 rw[hn] at hr
 replace hr:(if x.k=1 then putV p c el s2 x.s n
  else if x.k=2 then (evE p g c el.ps (x.xs.getD 1 noX) s2).bind fun v s=>putA p c el s x.s n v
  else if x.k=3 then bodyF (evS p g c) (if n=0 then x.e else x.b) el s2
  else if x.k=4 then whileF (evE p g) (evS p g) c x (g+1) n el s2
  else if x.k=5 then .ok { el with back:=true,val:=n } s2
  else if s2.told.length=500 then .stop 6 s2 else .ok el { s2 with told:=s2.told++[n] })=r:=hr
 refine turnTo [.old 0,.old 1,.old 2,.old 6,.old 7,.old 5] [(0,.ptr 0 0),(1,.ptr 1 0),(5,.ptr 5 0),(6,.g (.int n))] (YFr p N s2 c el (s2.fuel:Int) 0 [.blk x.d 93]) ⟨rfl,.inl rfl,.inl rfl,rfl⟩ ?_
 have hu2:c.u < s2.cells.length:=by rw[hs2.si.len];exact hc.u
 have hcell:=hs2.si.cell hc.u
 refine ⟨fun h=>absurd rfl h,fun _=>?_⟩
 refine ⟨fun k1=>?_,fun k1=>?_⟩
 ·rw[if_pos k1] at hr
  refine ⟨none,rfl,?_⟩
  refine ⟨_,_,.inl rfl,paramAt_any c.f (by omega) x.s,rfl,?_⟩
  refine ⟨fun hq=>?_,fun hq=>?_⟩
  ·rcases var_cases (hx.var k1) with ⟨i,hi,hpi⟩ | ⟨hpi,i,hi,hvi⟩
   rotate_left
   ·exact absurd hq hpi
   have hi':i < el.ps.length:=by rw[he.1];exact hi
   refine ⟨i,congrArg (fun z=>D.g (.int z)) hpi,by rw[List.length_map];exact hi',?_⟩
   refine ⟨_,[.int n],gm hi',⟨rfl,trivial⟩,Nat.le_refl 1,(fun h=>by cases h),.inl ?_⟩
   refine ⟨rfl,.inl (endYF (s':=s2) (el':={ el with ps:=el.ps.set i n }) (.tuple []) [.old 0,.old 1,.old 2,.old 3,.old 4] rfl rfl rfl rfl (.inl rfl) rfl (by rw[List.map_set];rfl) rfl (List.Perm.refl _) ?_)⟩
   rw[<- hr]
   unfold putV
   rw[if_pos (by omega),hpi]
   rfl
  ·rcases var_cases (hx.var k1) with ⟨i,hi,hpi⟩ | ⟨hpi,i,hi,hvi⟩
   ·exact absurd (show (0:Int)<=pIdx c.f x.s by omega) hq
   obtain ⟨l1,l2,e1,_,e3⟩:=lendV (t:=3) (hs.np.ni hs2.si) hu2
   have hvl:i < (cAt s2 c.u).vars.length:=by have:=hcell.1.1.1;omega
   refine turnLend 2 l1 l2 (rowZ 3 (cAt s2 c.u).vars) rfl e1 (turnNo ?_)
   have hV:=varAt_any (uAt p c.u) (by omega) x.s
   rw[hvi,uAt_eq hc.u] at hV
   refine ⟨none,rfl,?_⟩
   refine ⟨c.u,_,rfl,lrAt hNu,?_⟩
   refine ⟨c.u,_,rfl,gm hc.u,?_⟩
   refine ⟨_,_,.inl rfl,hV,rfl,?_⟩
   refine ⟨2,6,l1++l2,[(N[c.u].v,6)],(cAt s2 c.u).vars.map intG,3,i,rfl,List.mem_cons_self,rfl,rfl,by rw[List.length_map];exact hvl,?_⟩
   refine ⟨_,[.int n],gm hvl,⟨rfl,trivial⟩,Nat.le_refl 1,(fun h=>by cases h),?_⟩
   refine ⟨rfl,.inr (ghHide 2 6 N[c.u].v (rowZ 3 ((cAt s2 c.u).vars.set i n)) rfl List.mem_cons_self rfl ⟨by rw[List.map_set];rfl,rfl,rfl⟩ (ghNo (endYF (s':=s2.setV c.u i n) (el':=el) (.tuple []) [.old 0,.old 1,.old 2,.old 3,.old 4] rfl rfl rfl rfl (.inl rfl) rfl rfl rfl ((List.perm_append_singleton _ _).trans (e3 i n)) ?_)))⟩
   rw[<- hr]
   unfold putV
   rw[if_neg hpi,hvi]
   rfl
 rw[if_neg k1] at hr
 refine ⟨fun k2=>?_,fun k2=>?_⟩
 ·rw[if_pos k2] at hr
  obtain ⟨hx1,hX1⟩:=hx.two k2
  have ex1:x.xs.getD 1 noX=x.xs[1]:=by simp[hx1]
  rw[ex1] at hr hX1
  refine ⟨1,_,rfl,exG hx1,?_⟩
  have hA:=arrayAt_any (uAt p c.u) (by omega) x.s
  obtain ⟨k,hk,hak⟩:=arr_at (hx.arr k2)
  rw[show idx (fun a:Arr=>a.name=x.s) (uAt p c.u).arrays=(k:Int) from hak,uAt_eq hc.u] at hA
  have hk2:k < (cAt s2 c.u).arrays.length:=by rw[hcell.1.2];exact hk
  obtain ⟨z,_,_,hz,_⟩:=lendA (t:=3) (hs.np.ni hs2.si) hu2 hk2
  refine callV hE [.blk x.d 93] hs2 hc he hX1 (i6 _ (List.getElem_mem hx1)) hp rfl rfl (fun v s3 hv hs3 _ wv=>?_) (fun e s3 v f hv he2=>?_)
  rotate_left
  ·rw[hv] at hr
   refine turnTo [.old 0,.old 1,.old 2,.old 6,.old 7,.old 5] [(0,.ptr 0 0),(1,.ptr 1 0),(5,.ptr 5 0),(6,.g (.int n)),(8,.g (.int v))] (YFr p N s3 c el f e [.blk x.d 93]) ⟨rfl,.inl rfl,.inl rfl,rfl⟩ ?_
   refine ⟨none,rfl,?_⟩
   refine ⟨c.u,_,rfl,lrAt hNu,?_⟩
   refine ⟨c.u,_,rfl,gm hc.u,?_⟩
   refine ⟨_,_,.inl rfl,hA,rfl,?_⟩
   refine ⟨k,_,rfl,rawAt hz,?_⟩
   refine ⟨fun _=>?_,fun h=>absurd (show e=0 from h) (by omega)⟩
   refine ⟨rfl,.inl (endYF (s':=s3) (el':=el) (f:=f) (e:=e) (.tuple []) [.old 0,.old 1,.old 2,.old 3,.old 4] rfl rfl rfl rfl (.inl rfl) rfl rfl rfl (List.Perm.refl _) ?_)⟩
   rw[<- hr];exact ⟨el,f,rfl⟩
  rw[hv] at hr
  replace hr:putA p c el s3 x.s n v=r:=hr
  have hu3:c.u < s3.cells.length:=by rw[hs3.si.len];exact hc.u
  have hc3:=hs3.si.cell hc.u
  have hka:k < (cAt s3 c.u).arrays.length:=by rw[hc3.1.2];exact hk
  obtain ⟨z',l1,l2,hz',e1,e2,e3⟩:=lendA (t:=3) (hs.np.ni hs3.si) hu3 hka
  obtain rfl:z=z':=by rw[hz] at hz';exact Option.some.inj hz'
  refine turnTo [.old 0,.old 1,.old 2,.old 6,.old 7,.old 5] [(0,.ptr 0 0),(1,.ptr 1 0),(5,.ptr 5 0),(6,.g (.int n)),(8,.g (.int v))] (YFr p N s3 c el (s3.fuel:Int) 0 [.blk x.d 93]) ⟨rfl,.inl rfl,.inl rfl,rfl⟩ ?_
  refine ⟨none,rfl,?_⟩
  refine ⟨c.u,_,rfl,lrAt hNu,?_⟩
  refine ⟨c.u,_,rfl,gm hc.u,?_⟩
  refine ⟨_,_,.inl rfl,hA,rfl,?_⟩
  refine ⟨k,_,rfl,rawAt hz,?_⟩
  refine ⟨fun h=>absurd rfl h,fun _=>?_⟩
  have lx:(((cAt s3 c.u).arrays.getD k []).map intG).length=((cAt s3 c.u).arrays.getD k []).length:=List.length_map _
  have ear:arrAt p c s3 x.s=(cAt s3 c.u).arrays.getD k []:=by unfold arrAt;rw[hak];rfl
  unfold putA at hr
  rw[ear,hak,Int.toNat_natCast] at hr
  refine turnLend 2 l1 l2 (rowZ 3 ((cAt s3 c.u).arrays.getD k [])) rfl e1 ?_
  refine turnTag 9 2 6 rfl rfl List.mem_cons_self rfl (turnNo ?_)
  refine ⟨fun hle=>?_,fun hle=>?_⟩
  ·rw[if_pos (by omega)] at hr
   refine .inl ?_
   refine ⟨rfl,.inr (ghHide 2 6 z (rowZ 3 ((cAt s3 c.u).arrays.getD k [])) rfl List.mem_cons_self rfl ⟨rfl,rfl,rfl⟩ (ghNo (endYF (s':=s3) (el':=el) (f:=s3.fuel) (e:=2) (.tuple []) [.old 0,.old 1,.old 2,.old 3,.old 4] rfl rfl rfl rfl (.inl rfl) rfl rfl rfl ((List.perm_append_singleton _ _).trans e2) ?_)))⟩
   rw[<- hr];exact ⟨el,_,rfl⟩
  ·rw[if_neg (by omega)] at hr
   have hal:n.toNat < ((cAt s3 c.u).arrays.getD k []).length:=by have:=wn.1;omega
   refine ⟨n.toNat,congrArg (fun z=>D.g (.int z)) (by have:=wn.1;omega),by rw[lx];exact hal,?_⟩
   refine ⟨_,[.int v],gm hal,⟨rfl,trivial⟩,Nat.le_refl 1,(fun h=>by cases h),.inl ?_⟩
   refine ⟨rfl,.inr (ghHide 2 6 z (rowZ 3 (((cAt s3 c.u).arrays.getD k []).set n.toNat v)) rfl List.mem_cons_self rfl ⟨by rw[List.map_set];rfl,rfl,rfl⟩ (ghNo (endYF (s':=s3.setA c.u k n.toNat v) (el':=el) (.tuple []) [.old 0,.old 1,.old 2,.old 3,.old 4] rfl rfl rfl rfl (.inl rfl) rfl rfl rfl ((List.perm_append_singleton _ _).trans (e3 n.toNat v)) ?_)))⟩
   rw[<- hr];rfl
 rw[if_neg k2] at hr
 have hsB:SsC p c x.b:=⟨hinv.2.2.2.1.all,i7,i4⟩
 have hsE:SsC p c x.e:=⟨hinv.2.2.2.2.1.all,i8,i5⟩
 refine ⟨fun k3=>?_,fun k3=>?_⟩
 ·rw[if_pos k3] at hr
  refine ⟨fun hn0=>?_,fun hn0=>?_⟩
  ·rw[if_neg hn0] at hr
   refine callD1 hB [.blk x.d 93] hs2 hc he hsB hp rfl rfl (fun el3 s3 h3 _ _ _=>?_) (fun e s3 el3 f h3 _=>?_)
   ·refine ⟨rfl,.inl (endYF (s':=s3) (el':=el3) (.tuple []) [.old 0,.old 1,.old 2,.old 6,.old 7] rfl rfl rfl rfl (.inl rfl) rfl rfl rfl (List.Perm.refl _) ?_)⟩
    rw[<- hr,h3];rfl
   ·refine ⟨rfl,.inl (endYF (s':=s3) (el':=el3) (f:=f) (e:=e) (.tuple []) [.old 0,.old 1,.old 2,.old 6,.old 7] rfl rfl rfl rfl (.inl rfl) rfl rfl rfl (List.Perm.refl _) ?_)⟩
    rw[<- hr,h3];exact ⟨el3,f,rfl⟩
  ·rw[if_pos hn0] at hr
   refine callD1 hB [.blk x.d 93] hs2 hc he hsE hp rfl rfl (fun el3 s3 h3 _ _ _=>?_) (fun e s3 el3 f h3 _=>?_)
   ·refine ⟨rfl,.inl (endYF (s':=s3) (el':=el3) (.tuple []) [.old 0,.old 1,.old 2,.old 6,.old 7] rfl rfl rfl rfl (.inl rfl) rfl rfl rfl (List.Perm.refl _) ?_)⟩
    rw[<- hr,h3];rfl
   ·refine ⟨rfl,.inl (endYF (s':=s3) (el':=el3) (f:=f) (e:=e) (.tuple []) [.old 0,.old 1,.old 2,.old 6,.old 7] rfl rfl rfl rfl (.inl rfl) rfl rfl rfl (List.Perm.refl _) ?_)⟩
    rw[<- hr,h3];exact ⟨el3,f,rfl⟩
 rw[if_neg k3] at hr
 refine ⟨fun k4=>?_,fun k4=>?_⟩
 ·rw[if_pos k4] at hr
  refine loopR (ι:=Nat × Int × EL × ES) (fun z=>[(0,.ptr 0 0),(1,.ptr 1 0),(5,.ptr 5 0),(6,.g (.int z.2.1))]) (fun z=>YFr p N z.2.2.2 c z.2.2.1 (z.2.2.2.fuel:Int) 0 [.blk x.d 93]) (WhI p N g c x r) (fun z=>z.1+1)
   ⟨(g+1,n,el,s2),[.old 0,.old 1,.old 2,.old 3,.old 4,.old 5],⟨rfl,.inl rfl,.inr ⟨lk rfl,lk rfl,lk rfl,lk rfl,trivial⟩,rfl⟩,⟨hs2,he,wn,?_⟩⟩ ?_
  ·cases hb:el.back with
   | true=>exact .inl ⟨rfl,by rw[<- hr];unfold whileF;rw[if_pos (.inr hb)]⟩
   | false=>exact .inr ⟨rfl,by have:=hs2.fuel;show s2.fuel < g+1;omega,hr⟩
  rintro Rd hRd ⟨k,m,⟨ps1,bk1,val1⟩,s3⟩ ⟨w1,w2,w3,w4⟩
  dsimp only at w1 w2 w3 w4
  cases bk1 with
  | true =>
   rcases w4 with ⟨_,rfl⟩ | ⟨h,_⟩
   rotate_left
   ·cases h
   refine ⟨fun _=>?_,fun _=>?_⟩
   ·refine callD1 hB [.blk x.d 93] w1 hc w2 hsB hp rfl rfl (fun el4 s4 h4 ok4 e4 lt4=>?_) (fun e s4 el4 f h4 _=>?_)
    ·rw[bodyF_back _ _ ⟨ps1,true,val1⟩ _ rfl] at h4
     injection h4 with q1 q2;subst q1;subst q2
     refine turnTo [.old 0,.old 1,.old 2,.old 6,.old 7,.old 5] [(0,.ptr 0 0),(1,.ptr 1 0),(5,.ptr 5 0)] (YFr p N s3 c ⟨ps1,true,val1⟩ (s3.fuel:Int) 0 [.blk x.d 93]) ⟨rfl,.inl rfl,.inl rfl,rfl⟩ ?_
     refine ⟨fun h=>absurd rfl h,fun _=>?_⟩
     exact ⟨rfl,.inl (endYF (s':=s3) (el':=⟨ps1,true,val1⟩) (.tuple []) [.old 0,.old 1,.old 2,.old 3,.old 4] rfl rfl rfl rfl (.inl rfl) rfl rfl rfl (List.Perm.refl _) rfl)⟩
    ·rw[bodyF_back _ _ ⟨ps1,true,val1⟩ _ rfl] at h4;cases h4
   ·exact ⟨rfl,.inl (endYF (s':=s3) (el':=⟨ps1,true,val1⟩) (.tuple []) [.old 0,.old 1,.old 2,.old 3,.old 4] rfl rfl rfl rfl (.inl rfl) rfl rfl rfl (List.Perm.refl _) rfl)⟩
  | false =>
  rcases w4 with ⟨h,_⟩ | ⟨_,wf,hr⟩
  ·cases h
  obtain ⟨k',rfl⟩:∃ k',k=k'+1:=⟨k - 1,by have:s3.fuel < k:=wf;omega⟩
  replace hr:whileF (evE p g) (evS p g) c x (k'+1) m ⟨ps1,false,val1⟩ s3=r:=hr
  unfold whileF at hr
  refine ⟨fun hm=>?_,fun hm=>?_⟩
  ·replace hm:¬m=0:=hm
   rw[if_neg (by rintro (h | h);exact hm h;cases h)] at hr
   refine callD1 hB [.blk x.d 93] w1 hc w2 hsB hp rfl rfl (fun el4 s4 h4 ok4 e4 lt4=>?_) (fun e s4 el4 f h4 he4=>?_)
   rotate_left
   ·refine turnTo [.old 0,.old 1,.old 2,.old 6,.old 7,.old 5] [(0,.ptr 0 0),(1,.ptr 1 0),(5,.ptr 5 0)] (YFr p N s4 c el4 f e [.blk x.d 93]) ⟨rfl,.inl rfl,.inl rfl,rfl⟩ ?_
    refine ⟨fun _=>?_,fun h=>absurd (show e=0 from h) (by omega)⟩
    refine ⟨rfl,.inl (endYF (s':=s4) (el':=el4) (f:=f) (e:=e) (.tuple []) [.old 0,.old 1,.old 2,.old 3,.old 4] rfl rfl rfl rfl (.inl rfl) rfl rfl rfl (List.Perm.refl _) ?_)⟩
    rw[<- hr,h4];exact ⟨el4,f,rfl⟩
   rw[h4] at hr
   refine turnTo [.old 0,.old 1,.old 2,.old 6,.old 7,.old 5] [(0,.ptr 0 0),(1,.ptr 1 0),(5,.ptr 5 0),(6,.g (.int m))] (YFr p N s4 c el4 (s4.fuel:Int) 0 [.blk x.d 93]) ⟨rfl,.inl rfl,.inl rfl,rfl⟩ ?_
   obtain ⟨ps4,bk4,val4⟩:=el4
   refine ⟨fun h=>absurd rfl h,fun _=>?_⟩
   cases bk4 with
   | true =>
    refine ⟨rfl,.inl (endYF (s':=s4) (el':=⟨ps4,true,val4⟩) (.tuple []) [.old 0,.old 1,.old 2,.old 3,.old 4] rfl rfl rfl rfl (.inl rfl) rfl rfl rfl (List.Perm.refl _) ?_)⟩
    rw[<- hr];rfl
   | false =>
   replace hr:(burnS s4 fun s=>(evE p g c ps4 (x.xs.getD 0 noX) s).bind fun n s=>whileF (evE p g) (evS p g) c x k' n ⟨ps4,false,val4⟩ s)=r:=hr
   unfold burnS at hr
   refine callBurnt (el:=⟨ps4,false,val4⟩) [.blk x.d 93] (by have:=ok4.fuel;omega) rfl rfl (fun h0=>?_) (fun h0 s5 es=>?_)
   ·rw[if_pos h0] at hr
    subst hr
    refine ⟨fun _=>?_,fun h=>absurd h (by decide)⟩
    exact ⟨rfl,.inl (endYF (s':=s4) (el':=⟨ps4,false,val4⟩) (f:=-1) (e:=3) (.tuple []) [.old 0,.old 1,.old 2,.old 3,.old 6] rfl rfl rfl rfl (.inl rfl) rfl rfl rfl (List.Perm.refl _) ⟨_,-1,rfl⟩)⟩
   rw[if_neg h0,ex0] at hr
   have hs5:OkS p N g s5:=by subst es;exact ⟨ok4.si.fuel _,hs.np,by have:=ok4.fuel;show s4.fuel - 1<=g;omega,ok4.g⟩
   have hk5:s5.fuel < k':=by
    subst es
    have h1:s3.fuel < k'+1:=wf
    show s4.fuel - 1 < k'
    omega
   rw[<- es] at hr
   clear es
   refine ⟨fun h=>absurd rfl h,fun _=>?_⟩
   replace hr:(evE p g c ps4 x.xs[0] s5).bind (fun n s=>whileF (evE p g) (evS p g) c x k' n ⟨ps4,false,val4⟩ s)=r:=hr
   refine turnTo [.old 0,.old 1,.old 2,.old 3,.old 6,.old 5] [(0,.ptr 0 0),(1,.ptr 1 0),(5,.ptr 5 0)] (YFr p N s5 c ⟨ps4,false,val4⟩ (s5.fuel:Int) 0 [.blk x.d 93]) ⟨rfl,.inl rfl,.inl rfl,rfl⟩ ?_
   refine ⟨0,_,rfl,exG hx0,?_⟩
   refine callV hE (el:=⟨ps4,false,val4⟩) [.blk x.d 93] hs5 hc e4 hX0 (i6 _ (List.getElem_mem hx0)) hp rfl rfl (fun n6 s6 h6 ok6 lt6 wn6=>?_) (fun e s6 v f h6 he6=>?_)
   ·rw[show evE p g c ps4 x.xs[0] s5=.ok n6 s6 from h6] at hr
    refine ⟨fun h=>absurd rfl h,fun _=>?_⟩
    exact hRd _ _ _ ⟨(k',n6,⟨ps4,false,val4⟩,s6),[.old 0,.old 1,.old 2,.old 6,.old 7,.old 5],⟨rfl,.inl rfl,.inr ⟨lk rfl,lk rfl,lk rfl,lk rfl,trivial⟩,rfl⟩,⟨ok6,e4,wn6,.inr ⟨rfl,by show s6.fuel < k';omega,hr⟩⟩,Nat.lt_succ_self _⟩
   ·rw[show evE p g c ps4 x.xs[0] s5=.stop e s6 from h6] at hr
    refine ⟨fun _=>?_,fun h=>absurd (show e=0 from h) (by omega)⟩
    refine ⟨rfl,.inl (endYF (s':=s6) (el':=⟨ps4,false,val4⟩) (f:=f) (e:=e) (.tuple []) [.old 0,.old 1,.old 2,.old 6,.old 7] rfl rfl rfl rfl (.inl rfl) rfl rfl rfl (List.Perm.refl _) ?_)⟩
    rw[<- hr];exact ⟨_,f,rfl⟩
  ·replace hm:m=0:=hm
   rw[if_pos (.inl hm)] at hr
   refine ⟨rfl,.inl (endYF (s':=s3) (el':=⟨ps1,false,val1⟩) (.tuple []) [.old 0,.old 1,.old 2,.old 3,.old 4] rfl rfl rfl rfl (.inl rfl) rfl rfl rfl (List.Perm.refl _) ?_)⟩
   rw[<- hr];rfl
 rw[if_neg k4] at hr
 refine ⟨fun k5=>?_,fun k5=>?_⟩
 ·rw[if_pos k5] at hr
  refine .inl ?_
  refine .inl ?_
  refine ⟨rfl,.inl (endYF (s':=s2) (el':={ el with back:=true,val:=n }) (.tuple []) [.old 0,.old 1,.old 2,.old 3,.old 4] rfl rfl rfl rfl (.inl rfl) rfl rfl rfl (List.Perm.refl _) ?_)⟩
  rw[<- hr];rfl
 rw[if_neg k5] at hr
 have lt:(tz s2).length=s2.told.length:=List.length_map _
 have htold:=hs2.si.told
 refine ⟨fun h5=>?_,fun h5=>?_⟩
 ·rw[if_pos (by omega)] at hr
  refine .inl ?_
  refine ⟨rfl,.inl (endYF (s':=s2) (el':=el) (f:=s2.fuel) (e:=6) (.tuple []) [.old 0,.old 1,.old 2,.old 3,.old 4] rfl rfl rfl rfl (.inl rfl) rfl rfl rfl (List.Perm.refl _) ?_)⟩
  rw[<- hr];exact ⟨el,_,rfl⟩
 rw[if_neg (by omega)] at hr
 have hroom:(tz s2).length+1<=maxLen/\((tz s2).length+1)*8<=140737488355328:=⟨by unfold maxLen;omega,by omega⟩
 have hend:tQ p N c r (.ret (.tuple []) (YH p N { s2 with told:=s2.told++[n] } c el)):=by rw[<- hr];rfl
 have etold:tz s2++[[.int n]]=tz { s2 with told:=s2.told++[n] }:=by show _=(s2.told++[n]).map intG;rw[List.map_append];rfl
 refine ⟨[[.int n]],rfl,rfl,⟨rfl,trivial⟩,?_⟩
 refine ⟨hroom,.inl (.inl ?_)⟩
 exact ⟨rfl,.inl (endYF (s':={ s2 with told:=s2.told++[n] }) (el':=el) (.tuple []) [.old 0,.old 1,.old 2,.old 3,.old 7] rfl rfl rfl rfl (.inl rfl) rfl rfl etold (List.Perm.refl _) hend)⟩
end Go.Proofs.Ythcmdjkaepclhaa
