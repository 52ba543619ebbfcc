import Derived.Test.YthcmdjkaepclhaaEz
import Derived.Test.YthcmdjkaepclhaaEz
namespace Go.Proofs.Ythcmdjkaepclhaa
open Go Go.Dm Go.Eng Go.RowKit Barb
abbrev kC (p:List Barb.Unit) (N:List CN) (k:Nat) (fuel end_:Int):List D:=[.g (.sl 4 (p.map Unit.g)),.g (.sl 2 (N.map CN.g)),.row k,.g (.int fuel),.g (.int end_)]
abbrev lC (k:Nat) (c:EC) (el:EL):List D:=[.g (.int (c.u:Int)),.g (.str c.f.name),.g (.bool c.f.isOpen),.g (.sl 1 (c.f.params.map strG)),.g (.sl 5 (c.f.body.map Stmt.g)),.row k,.g (.int (c.deep:Int)),.g (.bool el.back),.g (.int el.val)]
abbrev BY (p:List Barb.Unit) (N:List CN) (fuel end_:Int) (told:List Int):Heap:=[.blk (kC p N 1 fuel end_) 108,.row (told.map intG) 3 1]
abbrev YF (p:List Barb.Unit) (N:List CN) (s:ES) (c:EC) (el:EL) (fuel end_:Int):Heap :=
 [.blk (kC p N 4 fuel end_) 108,.blk (lC 3 c el) 136,.many (mz N s) [],.row (el.ps.map intG) 3 1,.row (tz s) 3 1]
abbrev YH (p:List Barb.Unit) (N:List CN) (s:ES) (c:EC) (el:EL):Heap:=YF p N s c el (s.fuel:Int) 0
abbrev ZF (p:List Barb.Unit) (N:List CN) (s:ES) (fuel end_:Int):Heap :=
 [.blk (kC p N 2 fuel end_) 108,.many (mz N s) [],.row (tz s) 3 1]
abbrev ZH (p:List Barb.Unit) (N:List CN) (s:ES):Heap:=ZF p N s (s.fuel:Int) 0
theorem endBY {R':D->Heap->Prop} {env:Dm.Env} {p:List Barb.Unit} {N:List CN} {fuel end_:Int} {told:List Int} {h hin:Heap} {d0:D} (d:D) (src:List Src) (hok:srcOk src=true) (hlen:nrOk src (BY p N fuel end_ told)=true)
  (h0:conv h src 4 (env 0)=.ptr 0 0) (hd:conv h src 4 d0=d\/Like (newN src) 4 (conv h src 4 d0) d) (hT:turnH h src=BY p N fuel end_ told) (q:R' d (BY p N fuel end_ told)):ToH [0] hin 1 [] R' h env d0:=by
 refine ⟨src,d,BY p N fuel end_ told,⟨hok,.inl hT,.inr ?_,hlen⟩,rfl,trivial,q⟩
 rw[List.map_cons,List.map_cons,List.map_cons,h0]
 exact ⟨by rcases hd with hd | hd;exact lk hd;exact hd,lk rfl,trivial⟩
theorem burnt_fn:fnOk Try.prog 91=true:=by kernel_rfl
theorem burnt_any (p:List Barb.Unit) (N:List CN) (fuel:Nat) (told:List Int) (hf:fuel<=200000):CTH Try.prog [] 91 1 (BY p N fuel 0 told) [.ptr 0 0]
  (fun out=>if fuel=0 then out=.ret (.pb ((3:Int)=0)) (BY p N (-1) 3 told) else out=.ret (.pb ((0:Int)=0)) (BY p N (fuel - 1:Nat) 0 told)):=by
 refine enterH [] hT hF hM Try.func91 rfl 30 rfl (by kernel_rfl) [.tmp 2] rfl [.ptr 0 0] rfl (BY p N fuel 0 told) [0] rfl rfl rfl 1 [] trivial _ ?_
 refine ⟨fun _=>⟨fun h=>?_,fun h=>?_⟩,fun h=>absurd rfl h⟩
 ·have h0:fuel=0:=by have h:(fuel:Int)=0:=h;omega
  subst h0
  refine ⟨by unfold I64;omega,?_⟩
  exact ⟨rfl,endBY (.pb ((3:Int)=0)) [.old 0,.old 1] rfl rfl rfl (.inl rfl) rfl (iteL rfl rfl)⟩
 ·have h0:fuel≠0:=fun e=>h (by show (fuel:Int)=0;omega)
  refine ⟨by unfold I64;omega,?_⟩
  have e:((fuel:Int) - 1)=((fuel - 1:Nat):Int):=by omega
  rw[e]
  exact ⟨rfl,endBY (.pb ((0:Int)=0)) [.old 0,.old 1] rfl rfl rfl (.inl rfl) rfl (iteR h0 rfl)⟩
abbrev fD (f:Fun):List D:=[.g (.str f.name),.g (.bool f.isOpen),.g (.sl 1 (f.params.map strG)),.g (.sl 5 (f.body.map Stmt.g))]
theorem paramAt_any (f:Fun) (hl:f.params.length<=9223372036854775807) (s:Str):CT Try.prog [] 93 [.agg (fD f),.g (.str s)] (Is (.g (.int (pIdx f s)))):=by
 have ll:(f.params.map strG).length=f.params.length:=by simp
 refine enter hT hF hM Try.func93 rfl 21 rfl (by kernel_rfl) [.tmp 4] rfl [.agg (fD f),.g (.str s)] rfl _ ?_
 refine loopR (ι:=Nat) (fun i=>[(5,.g (.int (i:Int))),(2,.ptr 0 0)]) (fun _=>[.blk (fD f) 46]) (fun i=>i<=f.params.length/\∀ j (hj:j < f.params.length),j < i->¬s=f.params[j]) (fun i=>f.params.length - i)
  ⟨0,[.old 0],⟨rfl,.inl rfl,.inr ⟨lk rfl,lk rfl,trivial⟩,rfl⟩,Nat.zero_le _,alln_0 (q:=fun x:Str=>s=x)⟩ ?_
 intro Rd hRd i ⟨hi,ha⟩
 refine ⟨fun h=>?_,fun h=>⟨rfl,retI (idx_no (alln_end (q:=fun x:Str=>s=x) (by omega) ha)).symm⟩⟩
 have h1:i < f.params.length:=by omega
 refine ⟨i,_,rfl,gm h1,?_⟩
 refine ⟨fun h2=>⟨rfl,retI (idx_at (q:=fun x:Str=>s=x) h1 ha (Eq.symm h2)).symm⟩,fun h2=>⟨_,I64.wrap (by unfold I64;omega),?_⟩⟩
 exact hRd _ _ _ ⟨i+1,[.old 0],⟨rfl,.inl rfl,.inr ⟨lk rfl,lk rfl,trivial⟩,rfl⟩,⟨h1,alln_step (q:=fun x:Str=>s=x) h1 ha (fun e=>h2 (Eq.symm e))⟩,by omega⟩
theorem varAt_any (u:Barb.Unit) (hl:u.vars.length<=9223372036854775807) (s:Str):CT Try.prog [] 94 [.agg u.d,.g (.str s)] (Is (.g (.int (vIdx u s)))):=by
 have ll:(u.vars.map strG).length=u.vars.length:=by simp
 refine enter hT hF hM Try.func94 rfl 21 rfl (by kernel_rfl) [.tmp 4] rfl [.agg u.d,.g (.str s)] rfl _ ?_
 refine loopR (ι:=Nat) (fun i=>[(5,.g (.int (i:Int))),(2,.ptr 0 0)]) (fun _=>[.blk u.d 36]) (fun i=>i<=u.vars.length/\∀ j (hj:j < u.vars.length),j < i->¬s=u.vars[j]) (fun i=>u.vars.length - i)
  ⟨0,[.old 0],⟨rfl,.inl rfl,.inr ⟨lk rfl,lk rfl,trivial⟩,rfl⟩,Nat.zero_le _,alln_0 (q:=fun x:Str=>s=x)⟩ ?_
 intro Rd hRd i ⟨hi,ha⟩
 refine ⟨fun h=>?_,fun h=>⟨rfl,retI (idx_no (alln_end (q:=fun x:Str=>s=x) (by omega) ha)).symm⟩⟩
 have h1:i < u.vars.length:=by omega
 refine ⟨i,_,rfl,gm h1,?_⟩
 refine ⟨fun h2=>⟨rfl,retI (idx_at (q:=fun x:Str=>s=x) h1 ha (Eq.symm h2)).symm⟩,fun h2=>⟨_,I64.wrap (by unfold I64;omega),?_⟩⟩
 exact hRd _ _ _ ⟨i+1,[.old 0],⟨rfl,.inl rfl,.inr ⟨lk rfl,lk rfl,trivial⟩,rfl⟩,⟨h1,alln_step (q:=fun x:Str=>s=x) h1 ha (fun e=>h2 (Eq.symm e))⟩,by omega⟩
end Go.Proofs.Ythcmdjkaepclhaa
namespace Go.Proofs.Ythcmdjkaepclhaa
open Go Go.Dm Go.Eng Go.RowKit Barb
abbrev YFr (p:List Barb.Unit) (N:List CN) (s:ES) (c:EC) (el:EL) (f e:Int) (r:Heap):Heap :=
 .blk (kC p N 4 f e) 108 :: .blk (lC 3 c el) 136 :: .many (mz N s) [] :: .row (el.ps.map intG) 3 1 :: .row (tz s) 3 1 :: r
abbrev YFd (p:List Barb.Unit) (N:List CN) (s:ES) (c:EC) (el:EL) (f e:Int) (r:Heap):Heap :=
 .blk (kC p N (1+(r.length+5)) f e) 108 :: .blk (lC (0+(r.length+5)) c el) 136 :: .many (mz N s) [] :: .dead :: .dead :: (r++[.row (el.ps.map intG) 3 1,.row (tz s) 3 1])
abbrev YFb (p:List Barb.Unit) (N:List CN) (s:ES) (c:EC) (el:EL) (f e:Int) (r:Heap):Heap :=
 .blk (kC p N (0+(r.length+5)) f e) 108 :: .blk (lC 3 c el) 136 :: .many (mz N s) [] :: .row (el.ps.map intG) 3 1 :: .dead :: (r++[.row (tz s) 3 1])
theorem putO_rest04 (b:Nat) (f:Nat->Nat) (h':Heap):∀ (r:Heap) (q:Nat),putO [.old 0,.old 4] b f h' (q+5) r=r
 | [],_=>rfl
 | x :: r,q=>by
  simp only[putO]
  rw[show q+5+1=q+1+5 from by omega,putO_rest04 b f h' r (q+1)]
  congr 1
theorem putY (p:List Barb.Unit) (N:List CN) (s s':ES) (c:EC) (el el':EL) (f e f' e':Int) (r:Heap):putH (YFr p N s c el f e r) [0,1,2,3,4] 3 (YF p N s' c el' f' e')=YFd p N s' c el' f' e' r:=by
 unfold putH
 simp only[List.map_cons,List.map_nil,putO]
 rw[show (0+1+1+1+1+1:Nat)=0+5 from rfl,putO_rest5]
 rfl
theorem putYB (p:List Barb.Unit) (N:List CN) (s:ES) (c:EC) (el:EL) (f e f' e':Int) (r:Heap):putH (YFr p N s c el f e r) [0,4] 1 (BY p N f' e' s.told)=YFb p N s c el f' e' r:=by
 unfold putH
 simp only[List.map_cons,List.map_nil,putO]
 rw[show (0+1+1+1+1+1:Nat)=0+5 from rfl,putO_rest04]
 rfl
theorem turnY (p:List Barb.Unit) (N:List CN) (s:ES) (c:EC) (el:EL) (f e:Int) (r:Heap) (l:List D) (hn:l.map (conv (YFr p N s c el f e r) [.old 0,.old 1,.old 2,.old 3,.old 4] 4)=l):TurnTo (YFr p N s c el f e r) [.old 0,.old 1,.old 2,.old 3,.old 4] (.ptr 0 0 :: .ptr 1 0 :: l) (YF p N s c el f e) (.ptr 0 0 :: .ptr 1 0 :: l) :=
 ⟨rfl,.inl rfl,.inl (by rw[List.map_cons,List.map_cons,hn];rfl),rfl⟩
theorem callBurnt {all:List D} {h:Heap} {K Qp:KD} {p:List Barb.Unit} {N:List CN} {s:ES} {c:EC} {el:EL} (r:Heap) (hf:s.fuel<=200000)
  (hh:h=YFr p N s c el (s.fuel:Int) 0 r) (ha:all=[.ptr 0 0])
  (hno:s.fuel=0->K (.pb ((3:Int)=0)) (YFb p N s c el (-1) 3 r)) (hyes:s.fuel≠0->∀ s1:ES,s1={ s with fuel:=s.fuel - 1 }->K (.pb ((0:Int)=0)) (YFb p N s1 c el (s1.fuel:Int) 0 r)) :
  fnOk Try.prog 91=true/\(OwnCall Try.prog [] 91 all h K Qp\/SemCall Try.prog [] 91 all h K Qp):=by
 subst hh;subst ha
 refine callO [0,4] burnt_fn rfl rfl ⟨rfl,.inl rfl,.inl rfl,rfl⟩ (burnt_any p N s.fuel s.told hf) (fun d' h' hq=>?_) (fun d' h' hq=>?_)
 ·split at hq
  ·rename_i h0
   injection hq with e1 e2;subst e1;subst e2
   rw[putYB];exact hno h0
  ·rename_i h0
   injection hq with e1 e2;subst e1;subst e2
   rw[putYB];exact hyes h0 _ rfl
 ·split at hq<;>cases hq
def yQ (p:List Barb.Unit) (N:List CN) (c:EC) (el:EL):RR Int->Out->Prop
 | .ok n s',out=>out=.ret (.g (.int n)) (YH p N s' c el)
 | .stop e s',out=>∃ v f,out=.ret (.g (.int v)) (YF p N s' c el f e)
def zQ (p:List Barb.Unit) (N:List CN):RR Int->Out->Prop
 | .ok n s',out=>out=.ret (.g (.int n)) (ZH p N s')
 | .stop e s',out=>∃ v f,out=.ret (.g (.int v)) (ZF p N s' f e)
def ValC (p:List Barb.Unit) (N:List CN) (g:Nat):Prop:=∀ (c:EC) (el:EL) (s:ES) (x:Barb.Expr),OkS p N g s->CI p c->ELI c el->XI p c x->x.I ->
 CTH Try.prog [] 92 3 (YH p N s c el) [.ptr 0 0,.ptr 1 0,.agg x.d] (yQ p N c el (evE p g c el.ps x s))
def CalledC (p:List Barb.Unit) (N:List CN) (g:Nat):Prop:=∀ (u i:Nat) (args:List Int) (deep:Nat) (s:ES),OkS p N g s->u < p.length->i < (uAt p u).funcs.length->args.length=((uAt p u).funcs.getD i noF).params.length->wds args->deep<=20 ->
 CTH Try.prog [] 48 2 (ZH p N s++[.row (args.map intG) 3 1]) [.ptr 0 0,.g (.int (u:Int)),.g (.int (i:Int)),.row 3,.g (.int (deep:Int))] (zQ p N (callF p (evS p g) u i args deep s))
theorem value_fn:fnOk Try.prog 92=true:=by kernel_rfl
theorem called_fn:fnOk Try.prog 48=true:=by kernel_rfl
theorem callV {all:List D} {h:Heap} {K Qp:KD} {p:List Barb.Unit} {N:List CN} {g:Nat} (hV:ValC p N g) {s:ES} {c:EC} {el:EL} {x:Barb.Expr} (r:Heap) (hs:OkS p N g s) (hc:CI p c) (he:ELI c el) (hx:XI p c x) (hxI:x.I) (hp:PI p)
  (hh:h=YFr p N s c el (s.fuel:Int) 0 r) (ha:all=[.ptr 0 0,.ptr 1 0,.agg x.d])
  (hgo:∀ n s',evE p g c el.ps x s=.ok n s'->OkS p N g s'->s'.fuel<=s.fuel->wd n->K (.g (.int n)) (YFd p N s' c el (s'.fuel:Int) 0 r))
  (hno:∀ e s' v f,evE p g c el.ps x s=.stop e s'->2<=e->K (.g (.int v)) (YFd p N s' c el f e r)) :
  fnOk Try.prog 92=true/\(OwnCall Try.prog [] 92 all h K Qp\/SemCall Try.prog [] 92 all h K Qp):=by
 subst hh;subst ha
 have hI:=(evP_I hp g).1 c el.ps x s hc hs.si he.2.1 hx
 have hct:=hV c el s x hs hc he hx hxI
 have hI:RI p s wd (evE p g c el.ps x s):=hI
 generalize hr:evE p g c el.ps x s=R at hI hct
 refine callO [0,1,2,3,4] value_fn rfl rfl (turnY p N s c el (s.fuel:Int) 0 r [.agg x.d] rfl) hct (fun d' h' hq=>?_) (fun d' h' hq=>?_)
 ·cases R with
  | ok n s' =>
   injection hq with e1 e2;subst e1;subst e2
   rw[putY]
   exact hgo n s' hr ⟨hI.1,hs.np,Nat.le_trans hI.2.1.1 hs.fuel,hs.g⟩ hI.2.1.1 hI.2.2
  | stop e s' =>
   obtain ⟨v,f,hq⟩:=hq
   injection hq with e1 e2;subst e1;subst e2
   rw[putY]
   exact hno e s' v f hr hI.2.2.1
 ·cases R with
  | ok n s'=>cases hq
  | stop e s'=>obtain ⟨v,f,hq⟩:=hq;cases hq
end Go.Proofs.Ythcmdjkaepclhaa
namespace Go.Proofs.Ythcmdjkaepclhaa
open Go Go.Dm Go.Eng Go.RowKit Barb
theorem endYF {R':D->Heap->Prop} {env:Dm.Env} {p:List Barb.Unit} {N:List CN} {s s':ES} {c:EC} {el el':EL} {f0 e0 f e:Int} {h:Heap} {l:List (Value × Ob0)} {ps told:List (List GV)} {d0:D} (d:D) (src:List Src) (hok:srcOk src=true) (hlen:nrOk src (YF p N s' c el' f e)=true)
  (h0:conv h src 4 (env 0)=.ptr 0 0) (h1:conv h src 4 (env 1)=.ptr 1 0) (hd:conv h src 4 d0=d\/Like (newN src) 4 (conv h src 4 d0) d)
  (hT:turnH h src=[.blk (kC p N 4 f e) 108,.blk (lC 3 c el') 136,.many l [],.row ps 3 1,.row told 3 1])
  (e1:ps=el'.ps.map intG) (e2:told=tz s') (e3:l.Perm (mz N s')) (q:R' d (YF p N s' c el' f e)):ToH [0,1] (YF p N s c el f0 e0) 2 [none] R' h env d0:=by
 subst e1;subst e2
 refine ⟨src,d,YF p N s' c el' f e,⟨hok,.inr ?_,.inr ?_,hlen⟩,rfl,⟨trivial,trivial⟩,q⟩
 ·rw[hT]
  exact ⟨⟨rfl,.inl rfl⟩,⟨rfl,.inl rfl⟩,⟨e3,rfl⟩,⟨rfl,rfl,rfl⟩,⟨rfl,rfl,rfl⟩,trivial⟩
 ·rw[List.map_cons,List.map_cons,List.map_cons,List.map_cons,List.map_cons,h0,h1]
  exact ⟨by rcases hd with hd | hd;exact lk hd;exact hd,lk rfl,lk rfl,trivial⟩
theorem tgY {p:List Barb.Unit} {N:List CN} {s:ES} {c:EC} {el:EL} {f e:Int}:tagsN (YF p N s c el f e) 2 2 [none]:=⟨trivial,trivial⟩
set_option maxRecDepth 20000 in
set_option maxHeartbeats 1000000 in
theorem value_any {p:List Barb.Unit} (hp:PI p) {N:List CN} {g:Nat} (hV:ValC p N g) (hC:CalledC p N g):ValC p N (g+1):=by
 intro c el s x hs hc he hx hxI
 suffices H:∀ r,evE p (g+1) c el.ps x s=r->CTH Try.prog [] 92 3 (YH p N s c el) [.ptr 0 0,.ptr 1 0,.agg x.d] (yQ p N c el r) from H _ rfl
 intro r hr
 have hg:=hs.g
 have hf:=hs.fuel
 obtain ⟨i1,i2,i3,i4,i5,i6⟩:=hxI.inv
 refine enterHJ [3,9,20] hT hF hM Try.func92 rfl 183 rfl (by kernel_rfl) [.tmp 6] rfl [.ptr 0 0,.ptr 1 0,.agg x.d] rfl (YH p N s c el) [0,1] rfl rfl rfl 2 [none] tgY _ ?_
 refine callBurnt [.blk x.d 97] (by omega) rfl rfl (fun h0=>?_) (fun h0 s1 es=>?_)
 ·refine ⟨fun _=>?_,fun h=>absurd h (by decide)⟩
  rw[expr_none p _ c _ x s h0] at hr
  subst hr
  exact ⟨rfl,.inl (endYF (s':=s) (el':=el) (f:=-1) (e:=3) (.g (.int 0)) [.old 0,.old 1,.old 2,.old 3,.old 6] rfl rfl rfl rfl (.inl rfl) rfl rfl rfl (List.Perm.refl _) ⟨0,-1,rfl⟩)⟩
 refine ⟨fun h=>absurd rfl h,fun _=>?_⟩
 rw[exprF_eq p g c _ x s h0] at hr
 have hs1:OkS p N g s1:=by subst es;exact ⟨hs.si.fuel _,hs.np,by show s.fuel - 1<=g;omega,by omega⟩
 rw[<- es] at hr
 clear es
 refine turnTo [.old 0,.old 1,.old 2,.old 3,.old 6,.old 5] [(0,.ptr 0 0),(1,.ptr 1 0),(5,.ptr 5 0)] (YFr p N s1 c el (s1.fuel:Int) 0 [.blk x.d 97]) ⟨rfl,.inl rfl,.inl rfl,rfl⟩ ?_
 have ul:=hp.unit _ (uAt_mem hc.u)
 obtain ⟨_,u1,u2,u3,_⟩:=unitE_inv ul
 have hfp:c.f.params.length<=4:=(funE_inv ((unitE_inv ul).2.2.2.2.2.2 _ hc.f)).2.1
 have hNu:c.u < N.length:=by rw[hs.np.len];exact hc.u
 have huc:c.u < s1.cells.length:=by rw[hs1.si.len];exact hc.u
 have hcell:=hs1.si.cell hc.u
 refine ⟨fun k1=>?_,fun k1=>?_⟩
 ·refine ⟨rfl,.inl (endYF (s':=s1) (el':=el) (.g (.int x.n)) [.old 0,.old 1,.old 2,.old 3,.old 4] rfl rfl rfl rfl (.inl rfl) rfl rfl rfl (List.Perm.refl _) ?_)⟩
  rw[<- hr,if_pos k1];rfl
 refine ⟨fun k2=>?_,fun k2=>?_⟩
 ·rw[if_neg k1,if_pos k2] at hr
  refine ⟨none,rfl,?_⟩
  refine ⟨_,_,.inl rfl,paramAt_any c.f (by omega) x.s,rfl,?_⟩
  refine ⟨fun hq=>?_,fun hq=>?_⟩
  ·rcases var_cases (hx.var k2) with ⟨i,hi,hpi⟩ | ⟨hpi,i,hi,hvi⟩
   rotate_left
   ·exact absurd hq hpi
   have hi':i < el.ps.length:=by rw[he.1];exact hi
   refine ⟨i,congrArg (fun z=>D.g (.int z)) hpi,by rw[List.length_map];exact hi',?_⟩
   refine ⟨_,gm hi',?_⟩
   refine ⟨rfl,.inl (endYF (s':=s1) (el':=el) (.g (.int el.ps[i])) [.old 0,.old 1,.old 2,.old 3,.old 4] rfl rfl rfl rfl (.inl rfl) rfl rfl rfl (List.Perm.refl _) ?_)⟩
   rw[<- hr]
   unfold getV
   rw[if_pos (by omega),hpi]
   show Out.ret _ _=Out.ret (.g (.int (el.ps.getD i 0))) _
   simp[hi']
  ·rcases var_cases (hx.var k2) with ⟨i,hi,hpi⟩ | ⟨hpi,i,hi,hvi⟩
   ·exact absurd (show 0<=pIdx c.f x.s by omega) hq
   obtain ⟨l1,l2,e1,e2,_⟩:=lendV (t:=3) (hs.np.ni hs1.si) huc
   have hvl:i < (cAt s1 c.u).vars.length:=by have:=hcell.1.1.1;omega
   refine turnLend 2 l1 l2 (rowZ 3 (cAt s1 c.u).vars) rfl e1 (turnNo ?_)
   have hV:=varAt_any (uAt p c.u) (by omega) x.s
   rw[hvi,uAt_eq hc.u] at hV
   refine ⟨none,rfl,?_⟩
   refine ⟨c.u,_,rfl,lrAt hNu,?_⟩
   refine ⟨c.u,_,rfl,gm hc.u,?_⟩
   refine ⟨_,_,.inl rfl,hV,rfl,?_⟩
   refine ⟨2,6,l1++l2,[(N[c.u].v,6)],(cAt s1 c.u).vars.map intG,3,i,rfl,List.mem_cons_self,rfl,rfl,by rw[List.length_map];exact hvl,?_⟩
   refine ⟨_,gm hvl,?_⟩
   refine ⟨rfl,.inr (ghHide 2 6 N[c.u].v (rowZ 3 (cAt s1 c.u).vars) rfl List.mem_cons_self rfl ⟨rfl,rfl,rfl⟩ (ghNo (endYF (s':=s1) (el':=el) (.g (.int (cAt s1 c.u).vars[i])) [.old 0,.old 1,.old 2,.old 3,.old 4] rfl rfl rfl rfl (.inl rfl) rfl rfl rfl ((List.perm_append_singleton _ _).trans e2) ?_)))⟩
   rw[<- hr]
   unfold getV
   rw[if_neg hpi,hvi]
   show Out.ret _ _=Out.ret (.g (.int ((cAt s1 c.u).vars.getD i 0))) _
   simp[hvl]
 rw[if_neg k1,if_neg k2] at hr
 have la:(x.args.map Expr.g).length=x.args.length:=List.length_map _
 refine loopR (ι:=List Int × ES) (fun z=>[(0,.ptr 0 0),(1,.ptr 1 0),(5,.ptr 5 0),(8,.row 6),(9,.g (.int (z.1.length:Int)))]) (fun z=>YFr p N z.2 c el (z.2.fuel:Int) 0 [.blk x.d 97,.row (z.1.map intG) 3 1]) (ArgI p N g c el.ps x.args s1) (fun z=>x.args.length - z.1.length)
  ⟨([],s1),[.old 0,.old 1,.old 2,.old 3,.old 4,.old 5,.nil 3 1],⟨rfl,.inl rfl,.inr ⟨lk rfl,lk rfl,lk rfl,.inr rfl,lk rfl,trivial⟩,rfl⟩,⟨Nat.zero_le _,hs1,fun _ h=>by simp at h,listF_none _ _ _⟩⟩ ?_
 rintro Rd hRd ⟨vs,sv⟩ ⟨v1,v2,v3,v4⟩
 dsimp only at v1 v2 v3 v4
 have lv:(vs.map intG).length=vs.length:=List.length_map _
 have ev:((vs,sv):List Int × ES).1.length=vs.length:=rfl
 have a4:=hx.inv.2.1
 refine ⟨fun hlt=>?_,fun hlt=>?_⟩
 ·have hi:vs.length < x.args.length:=by omega
  obtain ⟨st1,st2⟩:=listF_step hi v4
  have hxy:=i6 _ (List.getElem_mem hi)
  refine ⟨vs.length,_,rfl,exG hi,?_⟩
  refine callV hV [.blk x.d 97,.row (vs.map intG) 3 1] v2 hc he (hx.inv.2.2.2.2.2 _ (List.getElem_mem hi)) hxy hp rfl rfl (fun n s' hn ok' _ wn=>?_) (fun e s' v f hn he2=>?_)
  ·refine ⟨[[.int n]],rfl,rfl,⟨rfl,trivial⟩,?_⟩
   refine ⟨⟨by simp only[maxLen,List.length_map,List.length_cons,List.length_nil];omega,by simp only[List.length_map,List.length_cons,List.length_nil];omega⟩,.inl ?_⟩
   refine ⟨fun h=>absurd rfl h,fun _=>?_⟩
   refine ⟨_,I64.wrap (by unfold I64;omega),?_⟩
   refine hRd _ _ _ ⟨(vs++[n],s'),[.old 0,.old 1,.old 2,.old 7,.old 8,.old 5,.old 10],⟨rfl,.inr ⟨⟨rfl,.inl rfl⟩,⟨rfl,.inl rfl⟩,⟨List.Perm.refl _,rfl⟩,⟨rfl,rfl,rfl⟩,⟨rfl,rfl,rfl⟩,⟨rfl,.inl rfl⟩,⟨by rw[List.map_append];rfl,rfl,rfl⟩,trivial⟩,.inr ⟨lk rfl,lk rfl,lk rfl,lk rfl,lkI (by simp),trivial⟩,rfl⟩,
    ⟨by simp;omega,ok',fun z hz=>?_,st1 n s' hn⟩,by simp;omega⟩
   rcases List.mem_append.1 hz with hz | hz
   ·exact v3 z hz
   ·rw[List.mem_singleton.1 hz];exact wn
  ·rw[st2 e s' hn] at hr
   refine ⟨[[.int v]],rfl,rfl,⟨rfl,trivial⟩,?_⟩
   refine ⟨⟨by simp only[maxLen,List.length_map,List.length_cons,List.length_nil];omega,by simp only[List.length_map,List.length_cons,List.length_nil];omega⟩,.inl ?_⟩
   refine ⟨fun _=>?_,fun h=>absurd (show e=0 from h) (by omega)⟩
   exact ⟨rfl,.inl (endYF (s':=s') (el':=el) (f:=f) (e:=e) (.g (.int 0)) [.old 0,.old 1,.old 2,.old 7,.old 8] rfl rfl rfl rfl (.inl rfl) rfl rfl rfl (List.Perm.refl _) (by rw[<- hr];exact ⟨0,f,rfl⟩))⟩
 have hl:vs.length=x.args.length:=by omega
 rw[v4,hl,List.drop_length] at hr
 replace hr:lastF p (evS p g) c x vs sv=r:=by rw[<- hr];show _=lastF p (evS p g) c x (vs++[]) sv;rw[List.append_nil]
 unfold lastF at hr
 have huv:c.u < sv.cells.length:=by rw[v2.si.len];exact hc.u
 have hcv:=v2.si.cell hc.u
 refine ⟨fun k3=>?_,fun k3=>?_⟩
 ·rw[if_pos k3] at hr
  have o3:=hx.inv.2.2.1
  rw[k3,exprOk_3] at o3
  obtain ⟨a,ha⟩:∃ a,vs=[a]:=by
   match vs,(hl.trans o3.2.2.1) with
   | [a],_=>exact ⟨a,rfl⟩
  subst ha
  obtain ⟨k,hk,hak⟩:=arr_at (hx.arr k3)
  have hka:k < (cAt sv c.u).arrays.length:=by rw[hcv.1.2];exact hk
  obtain ⟨v,l1,l2,hv,e1,e2,_⟩:=lendA (t:=3) (hs.np.ni v2.si) huv hka
  have hwa:wd a:=v3 a List.mem_cons_self
  have hA:=arrayAt_any (uAt p c.u) (by omega) x.s
  rw[show idx (fun a:Arr=>a.name=x.s) (uAt p c.u).arrays=(k:Int) from hak,uAt_eq hc.u] at hA
  refine ⟨none,rfl,?_⟩
  refine ⟨c.u,_,rfl,lrAt hNu,?_⟩
  refine ⟨c.u,_,rfl,gm hc.u,?_⟩
  refine ⟨_,_,.inl rfl,hA,rfl,?_⟩
  refine ⟨k,_,rfl,rawAt hv,?_⟩
  refine turnLend 2 l1 l2 (rowZ 3 ((cAt sv c.u).arrays.getD k [])) rfl e1 ?_
  refine turnTag 10 2 7 rfl rfl List.mem_cons_self rfl (turnNo ?_)
  have lx:(((cAt sv c.u).arrays.getD k []).map intG).length=((cAt sv c.u).arrays.getD k []).length:=List.length_map _
  have ear:arrAt p c sv x.s=(cAt sv c.u).arrays.getD k []:=by unfold arrAt;rw[hak];rfl
  unfold getA at hr
  rw[ear] at hr
  refine ⟨0,rfl,Nat.zero_lt_one,?_⟩
  refine ⟨_,rfl,?_⟩
  refine ⟨fun hle=>?_,fun hle=>?_⟩
  ·refine .inl ?_
   refine ⟨rfl,.inr (ghHide 2 7 v (rowZ 3 ((cAt sv c.u).arrays.getD k [])) rfl List.mem_cons_self rfl ⟨rfl,rfl,rfl⟩ (ghNo (endYF (s':=sv) (el':=el) (f:=sv.fuel) (e:=2) (.g (.int 0)) [.old 0,.old 1,.old 2,.old 3,.old 4] rfl rfl rfl rfl (.inl rfl) rfl rfl rfl ((List.perm_append_singleton _ _).trans e2) ?_)))⟩
   rw[<- hr]
   show yQ p N c el (if (((cAt sv c.u).arrays.getD k []).length:Int)<=a then _ else _) _
   rw[if_pos (by omega)]
   exact ⟨0,_,rfl⟩
  ·have hal:a.toNat < ((cAt sv c.u).arrays.getD k []).length:=by have:=hwa.1;omega
   refine ⟨0,rfl,Nat.zero_lt_one,?_⟩
   refine ⟨_,rfl,?_⟩
   refine ⟨a.toNat,congrArg (fun z=>D.g (.int z)) (by have:=hwa.1;omega),by rw[lx];exact hal,?_⟩
   refine ⟨_,gm hal,?_⟩
   refine ⟨rfl,.inr (ghHide 2 7 v (rowZ 3 ((cAt sv c.u).arrays.getD k [])) rfl List.mem_cons_self rfl ⟨rfl,rfl,rfl⟩ (ghNo (endYF (s':=sv) (el':=el) (.g (.int ((cAt sv c.u).arrays.getD k [])[a.toNat])) [.old 0,.old 1,.old 2,.old 3,.old 4] rfl rfl rfl rfl (.inl rfl) rfl rfl rfl ((List.perm_append_singleton _ _).trans e2) ?_)))⟩
   rw[<- hr]
   show yQ p N c el (if (((cAt sv c.u).arrays.getD k []).length:Int)<=a then _ else _) _
   rw[if_neg (by omega)]
   show Out.ret _ _=Out.ret (.g (.int (((cAt sv c.u).arrays.getD k []).getD a.toNat 0))) _
   rw[getD_at hal]
 rw[if_neg k3] at hr
 refine ⟨fun k5=>?_,fun k5=>?_⟩
 ·rw[if_pos k5] at hr
  have o5:=hx.inv.2.2.1
  rw[k5,exprOk_5] at o5
  obtain ⟨a,b,hab⟩:∃ a b,vs=[a,b]:=by
   match vs,(hl.trans o5.2.2) with
   | [a,b],_=>exact ⟨a,b,rfl⟩
  subst hab
  refine ⟨none,rfl,?_⟩
  refine ⟨0,rfl,Nat.succ_pos _,?_⟩
  refine ⟨_,rfl,?_⟩
  refine ⟨1,rfl,Nat.lt_succ_self _,?_⟩
  refine ⟨_,rfl,?_⟩
  refine ⟨_,_,.inl rfl,DidOf_any x.n a b,rfl,?_⟩
  exact ⟨rfl,.inl (endYF (s':=sv) (el':=el) (.g (.int (doI x.n a b))) [.old 0,.old 1,.old 2,.old 3,.old 4] rfl rfl rfl rfl (.inl rfl) rfl rfl rfl (List.Perm.refl _) (by rw[<- hr];rfl))⟩
 rw[if_neg k5] at hr
 have k4:x.k=4:=by have:=hx.inv.1;omega
 obtain ⟨t1,fi,t2,t3,t4,t5⟩:=hx.ask hc k4
 rw[t2,Int.toNat_natCast] at hr
 have hcd:=hc.deep
 have hto:=uAt_mem t1
 obtain ⟨_,_,_,w3,_⟩:=unitE_inv (hp.unit _ hto)
 have hF:=FuncAt_any (uAt p (toU p c x.of)) (by omega) x.s
 rw[t2] at hF
 have hU:x.of≠[]->CT Try.prog [] 45 [.g (.sl 4 (p.map Unit.g)),.g (.str x.of)] (Is (.g (.int ((toU p c x.of:Nat):Int)))):=fun ho=>by
  rw[<- t5 ho];exact UnitAt_any p (by have:=hp.few;omega) x.of
 have hu0:x.of=[]->toU p c x.of=c.u:=fun ho=>by unfold toU;rw[if_pos ho]
 have hcc:=hC (toU p c x.of) fi vs (c.deep+1) sv v2 t1 t3 (hl.trans t4.symm) v3 (by omega)
 revert hr hcc hF hU hu0 t1
 generalize toU p c x.of=u' at *
 intro t1 hr hF hU hu0 hcc
 rw[uAt_eq t1] at hF
 refine ⟨fun ho=>?_,fun ho=>?_⟩
 ·refine ⟨none,rfl,?_⟩
  refine ⟨_,_,.inl rfl,hU ho,rfl,?_⟩
  refine ⟨some 9999,[18],rfl,?_⟩
  refine ⟨u',_,rfl,gm t1,?_⟩
  refine ⟨_,_,.inl rfl,hF,rfl,?_⟩
  refine ⟨((c.deep+1:Nat):Int),(I64.wrap (by unfold I64;omega)).trans rfl,?_⟩
  refine callO [0,2,4,6] called_fn rfl rfl ⟨rfl,.inl rfl,.inl rfl,rfl⟩ hcc (fun d' h' hq=>?_) (fun d' h' hq=>?_)
  ·cases hR:callF p (evS p g) u' fi vs (c.deep+1) sv with
   | ok n s' =>
    rw[hR] at hq hr
    injection hq with q1 q2;subst q1;subst q2
    exact ⟨rfl,.inl (endYF (s':=s') (el':=el) (.g (.int n)) [.old 0,.old 1,.old 2,.old 3,.old 7] rfl rfl rfl rfl (.inl rfl) rfl rfl rfl (List.Perm.refl _) (by rw[<- hr];rfl))⟩
   | stop e s' =>
    rw[hR] at hq hr
    obtain ⟨v,f,hq⟩:=hq
    injection hq with q1 q2;subst q1;subst q2
    exact ⟨rfl,.inl (endYF (s':=s') (el':=el) (f:=f) (e:=e) (.g (.int v)) [.old 0,.old 1,.old 2,.old 3,.old 7] rfl rfl rfl rfl (.inl rfl) rfl rfl rfl (List.Perm.refl _) (by rw[<- hr];exact ⟨v,f,rfl⟩))⟩
  ·cases hR:callF p (evS p g) u' fi vs (c.deep+1) sv with
   | ok n s'=>rw[hR] at hq;cases hq
   | stop e s'=>rw[hR] at hq;obtain ⟨v,f,hq⟩:=hq;cases hq
 ·obtain rfl:=hu0 ho
  refine ⟨some 9999,[18],rfl,?_⟩
  refine ⟨c.u,_,rfl,gm t1,?_⟩
  refine ⟨_,_,.inl rfl,hF,rfl,?_⟩
  refine ⟨((c.deep+1:Nat):Int),(I64.wrap (by unfold I64;omega)).trans rfl,?_⟩
  refine callO [0,2,4,6] called_fn rfl rfl ⟨rfl,.inl rfl,.inl rfl,rfl⟩ hcc (fun d' h' hq=>?_) (fun d' h' hq=>?_)
  ·cases hR:callF p (evS p g) c.u fi vs (c.deep+1) sv with
   | ok n s' =>
    rw[hR] at hq hr
    injection hq with q1 q2;subst q1;subst q2
    exact ⟨rfl,.inl (endYF (s':=s') (el':=el) (.g (.int n)) [.old 0,.old 1,.old 2,.old 3,.old 7] rfl rfl rfl rfl (.inl rfl) rfl rfl rfl (List.Perm.refl _) (by rw[<- hr];rfl))⟩
   | stop e s' =>
    rw[hR] at hq hr
    obtain ⟨v,f,hq⟩:=hq
    injection hq with q1 q2;subst q1;subst q2
    exact ⟨rfl,.inl (endYF (s':=s') (el':=el) (f:=f) (e:=e) (.g (.int v)) [.old 0,.old 1,.old 2,.old 3,.old 7] rfl rfl rfl rfl (.inl rfl) rfl rfl rfl (List.Perm.refl _) (by rw[<- hr];exact ⟨v,f,rfl⟩))⟩
  ·cases hR:callF p (evS p g) c.u fi vs (c.deep+1) sv with
   | ok n s'=>rw[hR] at hq;cases hq
   | stop e s'=>rw[hR] at hq;obtain ⟨v,f,hq⟩:=hq;cases hq
end Go.Proofs.Ythcmdjkaepclhaa
