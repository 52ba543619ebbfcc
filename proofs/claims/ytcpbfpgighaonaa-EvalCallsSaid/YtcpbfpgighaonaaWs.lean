/-
  barbicanref: the mill's statements one by one; calls.
-/
import Derived.Test.YtcpbfpgighaonaaWw
import Derived.Test.YtcpbfpgighaonaaEs
namespace Go.Proofs.Ytcpbfpgighaonaa
open Go Go.Dm Go.Eng Go.RowKit Barb
def tQ (p:List Barb.Unit) (N:List CN) (c:EC):RR EL→Out→Prop
 | .ok el' s',out=>out=.ret (.tuple []) (YH p N s' c el')
 | .stop e s',out=>∃ el' f,out=.ret (.tuple []) (YF p N s' c el' f e)
def OneC (p:List Barb.Unit) (N:List CN) (g:Nat):Prop:=∀ (c:EC) (el:EL) (s:ES) (x:Barb.Stmt),OkS p N g s→CI p c→ELI c el→StI p c x→x.I →
 CTH Try.prog [] 62 3 (YH p N s c el) [.ptr 0 0,.ptr 1 0,.agg x.d] (tQ p N c (evS p g c x el s))
def DoneC (p:List Barb.Unit) (N:List CN) (g:Nat):Prop:=∀ (c:EC) (el:EL) (s:ES) (l:List Barb.Stmt),OkS p N g s→CI p c→ELI c el→SsC p c l →
 CTH Try.prog [] 46 3 (YH p N s c el) [.ptr 0 0,.ptr 1 0,.g (.sl 5 (l.map Stmt.g))] (tQ p N c (bodyF (evS p g c) l el s))
theorem one_fn:fnOk Try.prog 62=true:=by kernel_rfl
theorem done_fn:fnOk Try.prog 46=true:=by kernel_rfl
theorem callO1 {all:List D} {h:Heap} {K Qp:KD} {p:List Barb.Unit} {N:List CN} {g:Nat} (hS:OneC p N g) {s:ES} {c:EC} {el:EL} {x:Barb.Stmt} (r:Heap) (hs:OkS p N g s) (hc:CI p c) (he:ELI c el) (hx:StI p c x) (hxI:x.I) (hp:PI p)
  (hh:h=YFr p N s c el (s.fuel:Int) 0 r) (ha:all=[.ptr 0 0,.ptr 1 0,.agg x.d])
  (hgo:∀ el' s',evS p g c x el s=.ok el' s'→OkS p N g s'→ELI c el'→K (.tuple []) (YFd p N s' c el' (s'.fuel:Int) 0 r))
  (hno:∀ e s' el' f,evS p g c x el s=.stop e s'→2≤e→K (.tuple []) (YFd p N s' c el' f e r)) :
  fnOk Try.prog 62=true∧(OwnCall Try.prog [] 62 all h K Qp∨SemCall Try.prog [] 62 all h K Qp):=by
 subst hh;subst ha
 have hI:=(evP_I hp g).2 c x el s hc hs.si he hx
 have hct:=hS c el s x hs hc he hx hxI
 generalize hr:evS p g c x el s=R at hI hct
 refine callO [0,1,2,3,4] one_fn rfl rfl (turnY p N s c el (s.fuel:Int) 0 r [.agg x.d] rfl) hct (fun d' h' hq=>?_) (fun d' h' hq=>?_)
 ·cases R with
  | ok el' s' =>
   injection hq with e1 e2;subst e1;subst e2
   rw[putY]
   exact hgo el' s' hr ⟨hI.1,hs.np,Nat.le_trans hI.2.1.1 hs.fuel,hs.g⟩ hI.2.2
  | stop e s' =>
   obtain ⟨el',f,hq⟩:=hq
   injection hq with e1 e2;subst e1;subst e2
   rw[putY]
   exact hno e s' el' f hr hI.2.2.1
 ·cases R with
  | ok n s'=>cases hq
  | stop e s'=>obtain ⟨v,f,hq⟩:=hq;cases hq
theorem callD1 {all:List D} {h:Heap} {K Qp:KD} {p:List Barb.Unit} {N:List CN} {g:Nat} (hB:DoneC p N g) {s:ES} {c:EC} {el:EL} {l:List Barb.Stmt} (r:Heap) (hs:OkS p N g s) (hc:CI p c) (he:ELI c el) (hl:SsC p c l) (hp:PI p)
  (hh:h=YFr p N s c el (s.fuel:Int) 0 r) (ha:all=[.ptr 0 0,.ptr 1 0,.g (.sl 5 (l.map Stmt.g))])
  (hgo:∀ el' s',bodyF (evS p g c) l el s=.ok el' s'→OkS p N g s'→ELI c el'→s'.fuel≤s.fuel→K (.tuple []) (YFd p N s' c el' (s'.fuel:Int) 0 r))
  (hno:∀ e s' el' f,bodyF (evS p g c) l el s=.stop e s'→2≤e→K (.tuple []) (YFd p N s' c el' f e r)) :
  fnOk Try.prog 46=true∧(OwnCall Try.prog [] 46 all h K Qp∨SemCall Try.prog [] 46 all h K Qp):=by
 subst hh;subst ha
 have hI:=bodyF_I (p:=p) (c:=c) l (fun x hx el s hs he=>(evP_I hp g).2 c x el s hc hs he (hl.ok x hx)) el s hs.si he
 have hct:=hB c el s l hs hc he hl
 generalize hr:bodyF (evS p g c) l el s=R at hI hct
 refine callO [0,1,2,3,4] done_fn rfl rfl (turnY p N s c el (s.fuel:Int) 0 r [.g (.sl 5 (l.map Stmt.g))] rfl) hct (fun d' h' hq=>?_) (fun d' h' hq=>?_)
 ·cases R with
  | ok el' s' =>
   injection hq with e1 e2;subst e1;subst e2
   rw[putY]
   exact hgo el' s' hr ⟨hI.1,hs.np,Nat.le_trans hI.2.1.1 hs.fuel,hs.g⟩ hI.2.2 hI.2.1.1
  | stop e s' =>
   obtain ⟨el',f,hq⟩:=hq
   injection hq with e1 e2;subst e1;subst e2
   rw[putY]
   exact hno e s' el' f hr hI.2.2.1
 ·cases R with
  | ok n s'=>cases hq
  | stop e s'=>obtain ⟨v,f,hq⟩:=hq;cases hq
inductive DonI (p:List Barb.Unit) (N:List CN) (g:Nat) (c:EC) (l:List Barb.Stmt) (el0:EL) (s0:ES):Nat × EL × ES × Int × Int→Prop
 | go {i:Nat} {el:EL} {s:ES} (le:i≤l.length) (ok:OkS p N g s) (e:ELI c el) (eq:bodyF (evS p g c) l el0 s0=bodyF (evS p g c) (l.drop i) el s):DonI p N g c l el0 s0 (i,el,s,(s.fuel:Int),0)
 | no {i:Nat} {el:EL} {s:ES} {f e:Int} (le:i≤l.length) (e2:2≤e) (eq:bodyF (evS p g c) l el0 s0=.stop e s):DonI p N g c l el0 s0 (i,el,s,f,e)
set_option maxRecDepth 20000 in
theorem doneM_any {p:List Barb.Unit} (hp:PI p) {N:List CN} {g:Nat} (hS:OneC p N g):DoneC p N g:=by
 intro c el s l hs hc he hl
 suffices H:∀ r,bodyF (evS p g c) l el s=r→CTH Try.prog [] 46 3 (YH p N s c el) [.ptr 0 0,.ptr 1 0,.g (.sl 5 (l.map Stmt.g))] (tQ p N c r) from H _ rfl
 intro r hr
 have ll:(l.map Stmt.g).length=l.length:=List.length_map _
 refine enterHJ [] hT hF hM Try.func46 rfl 34 rfl (by kernel_rfl) [] rfl [.ptr 0 0,.ptr 1 0,.g (.sl 5 (l.map Stmt.g))] rfl (YH p N s c el) [0,1] rfl rfl rfl 2 [none] tgY _ ?_
 refine loopR (ι:=Nat × EL × ES × Int × Int) (fun z=>[(0,.ptr 0 0),(1,.ptr 1 0),(6,.g (.int (z.1:Int)))]) (fun z=>YF p N z.2.2.1 c z.2.1 z.2.2.2.1 z.2.2.2.2) (DonI p N g c l el s) (fun z=>l.length - z.1)
  ⟨(0,el,s,(s.fuel:Int),0),[.old 0,.old 1,.old 2,.old 3,.old 4],⟨rfl,.inl rfl,.inr ⟨lk rfl,lk rfl,lk rfl,trivial⟩,rfl⟩,.go (Nat.zero_le _) hs he rfl⟩ ?_
 rintro Rd hRd z hz
 have hlen:=hl.len
 cases hz with
 | @go i el1 s1 le ok1 e1 v4 =>
  obtain ⟨ps1,bk1,val1⟩:=el1
  cases bk1 with
  | true =>
   rw[bodyF_back _ (l.drop i) ⟨ps1,true,val1⟩ _ rfl] at v4
   rw[v4] at hr
   subst hr
   refine ⟨fun hlt=>⟨fun _=>?_,fun h=>absurd rfl h⟩,fun hlt=>?_⟩
   all_goals exact ⟨rfl,.inl (endYF (s':=s1) (el':=⟨ps1,true,val1⟩) (.tuple []) [.old 0,.old 1,.old 2,.old 3,.old 4] rfl rfl rfl rfl (.inl rfl) rfl rfl rfl (List.Perm.refl _) rfl)⟩
  | false =>
  refine ⟨fun hlt=>⟨fun _=>?_,fun h=>absurd rfl h⟩,fun hlt=>?_⟩
  ·have hi:i < l.length:=by have h:(i:Int) < ((l.map Stmt.g).length:Int):=hlt;omega
   rw[bodyF_at _ hi _ _ rfl] at v4
   refine ⟨i,_,rfl,stG hi,?_⟩
   refine callO1 hS [] ok1 hc e1 (hl.ok _ (List.getElem_mem hi)) (hl.i _ (List.getElem_mem hi)) hp rfl rfl (fun el2 s2 h2 ok2 e2=>?_) (fun e s2 el2 f h2 e2=>?_)
   ·rw[h2] at v4
    refine ⟨_,I64.wrap (by unfold I64;omega),?_⟩
    exact hRd _ _ _ ⟨(i+1,el2,s2,(s2.fuel:Int),0),[.old 0,.old 1,.old 2,.old 5,.old 6],⟨rfl,.inl rfl,.inr ⟨lk rfl,lk rfl,lk rfl,trivial⟩,rfl⟩,.go hi ok2 e2 v4,by show l.length - (i+1) < l.length - i;omega⟩
   ·rw[h2] at v4
    refine ⟨_,I64.wrap (by unfold I64;omega),?_⟩
    exact hRd _ _ _ ⟨(i+1,el2,s2,f,e),[.old 0,.old 1,.old 2,.old 5,.old 6],⟨rfl,.inl rfl,.inr ⟨lk rfl,lk rfl,lk rfl,trivial⟩,rfl⟩,.no hi e2 v4,by show l.length - (i+1) < l.length - i;omega⟩
  ·have hi:i=l.length:=by have h:¬(i:Int) < ((l.map Stmt.g).length:Int):=hlt;omega
   refine ⟨rfl,.inl (endYF (s':=s1) (el':=⟨ps1,false,val1⟩) (.tuple []) [.old 0,.old 1,.old 2,.old 3,.old 4] rfl rfl rfl rfl (.inl rfl) rfl rfl rfl (List.Perm.refl _) ?_)⟩
   rw[← hr,v4,hi,List.drop_length];rfl
 | @no i el1 s1 f e le e2 v4 =>
  rw[v4] at hr
  subst hr
  refine ⟨fun hlt=>⟨fun h=>?_,fun _=>?_⟩,fun hlt=>?_⟩
  ·exact absurd (show e=0 from h) (by omega)
  all_goals exact ⟨rfl,.inl (endYF (s':=s1) (el':=el1) (f:=f) (e:=e) (.tuple []) [.old 0,.old 1,.old 2,.old 3,.old 4] rfl rfl rfl rfl (.inl rfl) rfl rfl rfl (List.Perm.refl _) ⟨el1,f,rfl⟩)⟩
theorem tgZR {p:List Barb.Unit} {N:List CN} {s:ES} {x:Dm.Obj}:tagsN (ZH p N s++[x]) 1 1 [none]:=⟨trivial,trivial⟩
theorem endZF {R':D→Heap→Prop} {env:Dm.Env} {p:List Barb.Unit} {N:List CN} {s s':ES} {f e:Int} {x:Dm.Obj} {h:Heap} {l:List (Value × Ob0)} {told:List (List GV)} {d0:D} (d:D) (src:List Src) (hok:srcOk src=true) (hlen:nrOk src (ZF p N s' f e)=true)
  (h0:conv h src 4 (env 0)=.ptr 0 0) (hd:conv h src 4 d0=d)
  (hT:turnH h src=[.blk (kC p N 2 f e) 65,.many l [],.row told 3 1])
  (e2:told=tz s') (e3:l.Perm (mz N s')) (q:R' d (ZF p N s' f e)):ToH [0] (ZH p N s++[x]) 1 [none] R' h env d0:=by
 subst e2
 refine ⟨src,d,ZF p N s' f e,⟨hok,.inr ?_,.inl ?_,hlen⟩,rfl,⟨trivial,trivial⟩,q⟩
 ·rw[hT]
  exact ⟨⟨rfl,.inl rfl⟩,⟨e3,rfl⟩,⟨rfl,rfl,rfl⟩,trivial⟩
 ·rw[List.map_cons,List.map_cons,List.map_cons,h0,hd];rfl
set_option maxRecDepth 20000 in
theorem calledM_any {p:List Barb.Unit} (hp:PI p) (hpI:progI p) {N:List CN} {g:Nat} (hB:DoneC p N g):CalledC p N g:=by
 intro u i args deep s hs hu hi ha hw hd
 obtain ⟨f,hf⟩:∃ f,f=(uAt p u).funcs.getD i noF:=⟨_,rfl⟩
 have hfm:f∈(uAt p u).funcs:=hf▸fn_mem hi
 have hfa:(uAt p u).funcs[i]=f:=by rw[hf];simp[hi]
 rw[← hf] at ha
 suffices H:∀ r,callF p (evS p g) u i args deep s=r→CTH Try.prog [] 25 2 (ZH p N s++[.row (args.map intG) 3 1]) [.ptr 0 0,.g (.int (u:Int)),.g (.int (i:Int)),.row 3,.g (.int (deep:Int))] (zQ p N r) from H _ rfl
 intro r hr
 unfold callF at hr
 rw[← hf] at hr
 have hgm:(p.map Unit.g)[u]?=some [.str (uAt p u).name,.sl 1 ((uAt p u).vars.map strG),.sl 2 ((uAt p u).arrays.map Arr.g),.sl 4 ((uAt p u).funcs.map Fun.g)]:=by rw[uAt_eq hu];exact gm hu
 have hgf:((uAt p u).funcs.map Fun.g)[i]?=some [.str f.name,.bool f.isOpen,.sl 1 (f.params.map strG),.sl 5 (f.body.map Stmt.g)]:=by rw[← hfa];exact fnG hi
 refine enterH [] hT hF hM Try.func25 rfl 45 rfl (by kernel_rfl) [.tmp 10] rfl [.ptr 0 0,.g (.int (u:Int)),.g (.int (i:Int)),.row 3,.g (.int (deep:Int))] rfl ((ZH p N s++[.row (args.map intG) 3 1])) [0] rfl rfl rfl 1 [none] tgZR _ ?_
 refine ⟨fun h20=>?_,fun h20=>?_⟩
 ·refine .inl ?_
  refine ⟨rfl,.inl (endZF (s':=s) (f:=s.fuel) (e:=5) (.g (.int 0)) [.old 0,.old 1,.old 2] rfl rfl rfl rfl rfl rfl (List.Perm.refl _) ?_)⟩
  rw[← hr,if_pos (by omega)];exact ⟨0,_,rfl⟩
 have hd19:deep≤19:=by omega
 rw[if_neg (by omega)] at hr
 have hc:CI p ⟨u,f,deep⟩:=⟨hu,hfm,hd19⟩
 have he:ELI ⟨u,f,deep⟩ ⟨args,false,0⟩:=⟨ha,hw,(show wd 0 from ⟨by decide,by decide⟩)⟩
 have hsc:SsC p ⟨u,f,deep⟩ f.body:=by
  obtain ⟨_,_,_,_,hI,_⟩:=hpI.1 _ (uAt_mem hu)
  obtain ⟨_,_,a1,a2⟩:=hI _ hfm
  exact ⟨(hp.body hc).all,a2,a1⟩
 refine ⟨u,_,rfl,hgm,?_⟩
 refine ⟨i,_,rfl,hgf,?_⟩
 refine .inl ?_
 refine callO [0,4,1,3,2] done_fn rfl rfl ⟨rfl,.inl rfl,.inl rfl,rfl⟩ (hB ⟨u,f,deep⟩ ⟨args,false,0⟩ s f.body hs hc he hsc) (fun d' h' hq=>?_) (fun d' h' hq=>?_)
 ·cases hR:bodyF (evS p g ⟨u,f,deep⟩) f.body ⟨args,false,0⟩ s with
  | ok el' s' =>
   rw[hR] at hq hr
   injection hq with q1 q2;subst q1;subst q2
   refine ⟨rfl,.inl (endZF (s':=s') (f:=s'.fuel) (e:=0) (.g (.int el'.val)) [.old 0,.old 1,.old 6] rfl rfl rfl rfl rfl rfl (List.Perm.refl _) ?_)⟩
   rw[← hr];rfl
  | stop e s' =>
   rw[hR] at hq hr
   obtain ⟨el',f',hq⟩:=hq
   injection hq with q1 q2;subst q1;subst q2
   refine ⟨rfl,.inl (endZF (s':=s') (f:=f') (e:=e) (.g (.int el'.val)) [.old 0,.old 1,.old 6] rfl rfl rfl rfl rfl rfl (List.Perm.refl _) ?_)⟩
   rw[← hr];exact ⟨_,f',rfl⟩
 ·cases hR:bodyF (evS p g ⟨u,f,deep⟩) f.body ⟨args,false,0⟩ s with
  | ok n s'=>rw[hR] at hq;cases hq
  | stop e s'=>rw[hR] at hq;obtain ⟨v,f,hq⟩:=hq;cases hq
end Go.Proofs.Ytcpbfpgighaonaa
