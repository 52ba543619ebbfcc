/-
  eval: statements one by one; calls.
-/
import Derived.Test.YtcpbfpgighaonaaEy
namespace Go.Proofs.Ytcpbfpgighaonaa
open Go Go.Dm Go.Eng Go.RowKit Barb
def sQ (p:List Barb.Unit) (N:List CN) (R:Value) (c:EC):RR EL→Out→Prop
 | .ok el' s',out=>out=.ret (.tuple []) (XH p N R s' c el')
 | .stop e s',out=>∃ el',out=.panH (stopD e) (XH p N R s' c el')
theorem sQ_out {p:List Barb.Unit} {N:List CN} {R:Value} {c:EC} {r:RR EL} {out:Out} (h:sQ p N R c r out):(∃ el' s',r=.ok el' s'∧out=.ret (.tuple []) (XH p N R s' c el'))∨∃ e s' el',r=.stop e s'∧out=.panH (stopD e) (XH p N R s' c el'):=by
 cases r with
 | ok n s'=>exact .inl ⟨n,s',rfl,h⟩
 | stop e s'=>obtain ⟨el',h⟩:=h;exact .inr ⟨e,s',el',rfl,h⟩
structure SsC (p:List Barb.Unit) (c:EC) (l:List Barb.Stmt):Prop where
 ok:∀ x∈l,StI p c x
 i:∀ x∈l,Barb.Stmt.I x
 len:l.length*96≤140737488351232
def StmtC (p:List Barb.Unit) (N:List CN) (R:Value) (g:Nat):Prop:=∀ (c:EC) (el:EL) (s:ES) (x:Barb.Stmt),OkS p N g s→CI p c→ELI c el→StI p c x→x.I →
 CTH Try.prog [] 74 3 (XH p N R s c el) [.ptr 0 0,.agg x.d] (sQ p N R c (evS p g c x el s))
def BodyC (p:List Barb.Unit) (N:List CN) (R:Value) (g:Nat):Prop:=∀ (c:EC) (el:EL) (s:ES) (l:List Barb.Stmt),OkS p N g s→CI p c→ELI c el→SsC p c l →
 CTH Try.prog [] 61 3 (XH p N R s c el) [.ptr 0 0,.g (.sl 5 (l.map Stmt.g))] (sQ p N R c (bodyF (evS p g c) l el s))
theorem stmt_fn:fnOk Try.prog 74=true:=by kernel_rfl
theorem stmts_fn2:fnOk Try.prog 61=true:=by kernel_rfl
theorem callT {all:List D} {h:Heap} {K Qp:KD} {p:List Barb.Unit} {N:List CN} {R:Value} {g:Nat} (hS:StmtC p N R g) {s:ES} {c:EC} {el:EL} {x:Barb.Stmt} (r:Heap) (hs:OkS p N g s) (hc:CI p c) (he:ELI c el) (hx:StI p c x) (hxI:x.I) (hp:PI p)
  (hh:h=XHr p N R s c el r) (ha:all=[.ptr 0 0,.agg x.d])
  (hgo:∀ el' s',evS p g c x el s=.ok el' s'→OkS p N g s'→ELI c el'→K (.tuple []) (XHd p N R s' c el' r))
  (hno:∀ e s' el',evS p g c x el s=.stop e s'→Qp (stopD e) (XHd p N R s' c el' r)) :
  fnOk Try.prog 74=true∧(OwnCall Try.prog [] 74 all h K Qp∨SemCall Try.prog [] 74 all h K Qp):=by
 refine callX stmt_fn r (hS c el s x hs hc he hx hxI) rfl rfl hh ha (fun out hq=>?_)
 have hI:=(evP_I hp g).2 c x el s hc hs.si he hx
 rcases sQ_out hq with ⟨el',s',h1,h2⟩ | ⟨e,s',el',h1,h2⟩
 ·rw[show evS p g c x el s=.ok el' s' from h1] at hI
  exact .inl ⟨_,s',el',h2,hgo el' s' h1 ⟨hI.1,hs.np,Nat.le_trans hI.2.1.1 hs.fuel,hs.g⟩ hI.2.2⟩
 ·exact .inr ⟨e,s',el',h2,hno e s' el' h1⟩
theorem callB {all:List D} {h:Heap} {K Qp:KD} {p:List Barb.Unit} {N:List CN} {R:Value} {g:Nat} (hB:BodyC p N R g) {s:ES} {c:EC} {el:EL} {l:List Barb.Stmt} (r:Heap) (hs:OkS p N g s) (hc:CI p c) (he:ELI c el) (hl:SsC p c l) (hp:PI p)
  (hh:h=XHr p N R s c el r) (ha:all=[.ptr 0 0,.g (.sl 5 (l.map Stmt.g))])
  (hgo:∀ el' s',bodyF (evS p g c) l el s=.ok el' s'→OkS p N g s'→ELI c el'→s'.fuel≤s.fuel→K (.tuple []) (XHd p N R s' c el' r))
  (hno:∀ e s' el',bodyF (evS p g c) l el s=.stop e s'→Qp (stopD e) (XHd p N R s' c el' r)) :
  fnOk Try.prog 61=true∧(OwnCall Try.prog [] 61 all h K Qp∨SemCall Try.prog [] 61 all h K Qp):=by
 refine callX stmts_fn2 r (hB c el s l hs hc he hl) rfl rfl hh ha (fun out hq=>?_)
 have hI:=bodyF_I (p:=p) (c:=c) l (fun x hx el s hs he=>(evP_I hp g).2 c x el s hc hs he (hl.ok x hx)) el s hs.si he
 rcases sQ_out hq with ⟨el',s',h1,h2⟩ | ⟨e,s',el',h1,h2⟩
 ·rw[show bodyF (evS p g c) l el s=.ok el' s' from h1] at hI
  exact .inl ⟨_,s',el',h2,hgo el' s' h1 ⟨hI.1,hs.np,Nat.le_trans hI.2.1.1 hs.fuel,hs.g⟩ hI.2.2 hI.2.1.1⟩
 ·exact .inr ⟨e,s',el',h2,hno e s' el' h1⟩
structure BodI (p:List Barb.Unit) (N:List CN) (g:Nat) (c:EC) (l:List Barb.Stmt) (el0:EL) (s0:ES) (z:Nat × EL × ES):Prop where
 le:z.1≤l.length
 ok:OkS p N g z.2.2
 el:ELI c z.2.1
 eq:bodyF (evS p g c) l el0 s0=bodyF (evS p g c) (l.drop z.1) z.2.1 z.2.2
theorem stG {l:List Barb.Stmt} {i:Nat} (h:i < l.length):(l.map Stmt.g)[i]?=some [.int l[i].k,.str l[i].s,.sl 5 (l[i].xs.map Expr.g),.sl 5 (l[i].b.map Stmt.g),.sl 5 (l[i].e.map Stmt.g)]:=(gm h).trans (congrArg some (Stmt.g_eq _))
theorem bodyF_back (e:Barb.Stmt→EL→ES→RR EL):∀ (l:List Barb.Stmt) (el:EL) (s:ES),el.back=true→bodyF e l el s=.ok el s
 | [],_,_,_=>rfl
 | _ :: _,el,s,h=>by unfold bodyF;rw[if_pos h]
theorem bodyF_at (e:Barb.Stmt→EL→ES→RR EL) {l:List Barb.Stmt} {i:Nat} (hi:i < l.length) (el:EL) (s:ES) (h:el.back=false):bodyF e (l.drop i) el s=(e l[i] el s).bind (bodyF e (l.drop (i+1))):=by
 rw[List.drop_eq_getElem_cons hi]
 show (if el.back=true then _ else _)=_
 rw[if_neg (by rw[h];decide)]
set_option maxRecDepth 20000 in
theorem stmts_any2 {p:List Barb.Unit} (hp:PI p) {N:List CN} {R:Value} {g:Nat} (hS:StmtC p N R g):BodyC p N R g:=by
 intro c el s l hs hc he hl
 suffices H:∀ r,bodyF (evS p g c) l el s=r→CTH Try.prog [] 61 3 (XH p N R s c el) [.ptr 0 0,.g (.sl 5 (l.map Stmt.g))] (sQ p N R c r) from H _ rfl
 intro r hr
 have ll:(l.map Stmt.g).length=l.length:=List.length_map _
 refine enterHJ [] hT hF hM Try.func61 rfl 20 rfl (by kernel_rfl) [] rfl [.ptr 0 0,.g (.sl 5 (l.map Stmt.g))] rfl (XH p N R s c el) [0] rfl rfl rfl 2 [some R,none] tgX _ ?_
 refine loopR (ι:=Nat × EL × ES) (fun z=>[(0,.ptr 0 0),(8,.g (.int (z.1:Int)))]) (fun z=>XH p N R z.2.2 c z.2.1) (BodI p N g c l el s) (fun z=>l.length - z.1)
  ⟨(0,el,s),[.old 0,.old 1,.old 2,.old 3,.old 4],⟨rfl,.inl rfl,.inr ⟨lk rfl,lk rfl,trivial⟩,rfl⟩,⟨Nat.zero_le _,hs,he,rfl⟩⟩ ?_
 rintro Rd hRd ⟨i,⟨ps1,bk1,val1⟩,s1⟩ ⟨v1,v2,v3,v4⟩
 dsimp only at v1 v2 v3 v4
 have hlen:=hl.len
 refine ⟨fun hlt=>?_,fun hlt=>?_⟩
 ·have hi:i < l.length:=by have h:(i:Int) < ((l.map Stmt.g).length:Int):=hlt;omega
  refine ⟨i,_,rfl,stG hi,?_⟩
  refine .inl ?_
  cases bk1 with
  | true =>
   refine ⟨rfl,.inl (endXH (s':=s1) (el':=⟨ps1,true,val1⟩) (.tuple []) [.old 0,.old 1,.old 2,.old 3,.old 4] rfl rfl rfl (.inl rfl) rfl rfl rfl (List.Perm.refl _) ?_)⟩
   rw[← hr,v4,bodyF_back _ _ _ _ rfl];rfl
  | false =>
  rw[bodyF_at _ hi _ _ rfl] at v4
  refine callT hS [.blk l[i].d 96] v2 hc v3 (hl.ok _ (List.getElem_mem hi)) (hl.i _ (List.getElem_mem hi)) hp rfl rfl (fun el2 s2 h2 ok2 e2=>?_) (fun e s2 el2 h2=>?_)
  ·rw[h2] at v4
   refine ⟨_,I64.wrap (by unfold I64;omega),?_⟩
   exact hRd _ _ _ ⟨(i+1,el2,s2),[.old 0,.old 1,.old 2,.old 6,.old 7],⟨rfl,.inl rfl,.inr ⟨lk rfl,lk rfl,trivial⟩,rfl⟩,⟨hi,ok2,e2,v4⟩,by show l.length - (i+1) < l.length - i;omega⟩
  ·rw[h2] at v4
   refine ⟨rfl,.inl (endXH (s':=s2) (el':=el2) (stopD e) [.old 0,.old 1,.old 2,.old 6,.old 7] rfl rfl rfl (.inl rfl) rfl rfl rfl (List.Perm.refl _) ?_)⟩
   rw[← hr,v4];exact ⟨el2,rfl⟩
 ·have hi:i=l.length:=by have h:¬(i:Int) < ((l.map Stmt.g).length:Int):=hlt;omega
  refine ⟨rfl,.inl (endXH (s':=s1) (el':=⟨ps1,bk1,val1⟩) (.tuple []) [.old 0,.old 1,.old 2,.old 3,.old 4] rfl rfl rfl (.inl rfl) rfl rfl rfl (List.Perm.refl _) ?_)⟩
  rw[← hr,v4,hi,List.drop_length];rfl
theorem tgR {p:List Barb.Unit} {N:List CN} {R:Value} {s:ES} {x:Dm.Obj}:tagsN (RH p N R s++[x]) 1 1 [none]:=⟨trivial,trivial⟩
theorem endRH {R':D→Heap→Prop} {env:Dm.Env} {p:List Barb.Unit} {N:List CN} {R:Value} {s s':ES} {x:Dm.Obj} {h:Heap} {l:List (Value × Ob0)} {told:List (List GV)} {d0:D} (d:D) (src:List Src) (hok:srcOk src=true) (hlen:nrOk src (RH p N R s')=true)
  (h0:conv h src 4 (env 0)=.ptr 0 0) (hd:conv h src 4 d0=d)
  (hT:turnH h src=[.blk (rC p N 2 s'.fuel) 57,.many l [(R,0)],.row told 3 1])
  (e2:told=tz s') (e3:l.Perm (mz N s')) (q:R' d (RH p N R s')):ToH [0] (RH p N R s++[x]) 1 [none] R' h env d0:=by
 subst e2
 refine ⟨src,d,RH p N R s',⟨hok,.inr ?_,.inl ?_,hlen⟩,rfl,⟨trivial,trivial⟩,q⟩
 ·rw[hT]
  exact ⟨⟨rfl,.inl rfl⟩,⟨e3,rfl⟩,⟨rfl,rfl,rfl⟩,trivial⟩
 ·rw[List.map_cons,List.map_cons,List.map_cons,h0,hd];rfl
theorem fnG {l:List Fun} {i:Nat} (h:i < l.length):(l.map Fun.g)[i]?=some [.str l[i].name,.bool l[i].isOpen,.sl 1 (l[i].params.map strG),.sl 5 (l[i].body.map Stmt.g)]:=(gm h).trans (congrArg some (Fun.g_eq _))
set_option maxRecDepth 20000 in
theorem call_any {p:List Barb.Unit} (hp:PI p) (hpI:progI p) {N:List CN} {R:Value} {g:Nat} (hB:BodyC p N R g):CallC p N R g:=by
 intro u i args deep s hs hu hi ha hw hd
 obtain ⟨f,hf⟩:∃ f,f=(uAt p u).funcs.getD i noF:=⟨_,rfl⟩
 have hfm:f∈(uAt p u).funcs:=hf▸fn_mem hi
 have hfa:(uAt p u).funcs[i]=f:=by rw[hf];simp[hi]
 rw[← hf] at ha
 suffices H:∀ r,callF p (evS p g) u i args deep s=r→CTH Try.prog [] 44 2 (RH p N R s++[.row (args.map intG) 3 1]) [.ptr 0 0,.g (.int (u:Int)),.g (.int (i:Int)),.row 3,.g (.int (deep:Int))] (kQ p N R r) from H _ rfl
 intro r hr
 unfold callF at hr
 rw[← hf] at hr
 have hgm:(p.map Unit.g)[u]?=some [.str (uAt p u).name,.sl 1 ((uAt p u).vars.map strG),.sl 2 ((uAt p u).arrays.map Arr.g),.sl 4 ((uAt p u).funcs.map Fun.g)]:=by rw[uAt_eq hu];exact gm hu
 have hgf:((uAt p u).funcs.map Fun.g)[i]?=some [.str f.name,.bool f.isOpen,.sl 1 (f.params.map strG),.sl 5 (f.body.map Stmt.g)]:=by rw[← hfa];exact fnG hi
 refine enterH [] hT hF hM Try.func44 rfl 44 rfl (by kernel_rfl) [.tmp 10] rfl [.ptr 0 0,.g (.int (u:Int)),.g (.int (i:Int)),.row 3,.g (.int (deep:Int))] rfl ((RH p N R s++[.row (args.map intG) 3 1])) [0] rfl rfl rfl 1 [none] tgR _ ?_
 refine ⟨fun h20=>?_,fun h20=>?_⟩
 ·refine .inl ?_
  refine ⟨rfl,.inl (endRH (s':=s) (stopD 5) [.old 0,.old 1,.old 2] rfl rfl rfl rfl rfl rfl (List.Perm.refl _) ?_)⟩
  rw[← hr,if_pos (by omega)];rfl
 have hd19:deep≤19:=by omega
 rw[if_neg (by omega)] at hr
 have hc:CI p ⟨u,f,deep⟩:=⟨hu,hfm,hd19⟩
 have he:ELI ⟨u,f,deep⟩ ⟨args,false,0⟩:=⟨ha,hw,(show wd 0 from ⟨by decide,by decide⟩)⟩
 have hsc:SsC p ⟨u,f,deep⟩ f.body:=by
  obtain ⟨_,_,_,_,hI,_⟩:=hpI.1 _ (uAt_mem hu)
  obtain ⟨_,_,a1,a2⟩:=hI _ hfm
  exact ⟨(hp.body hc).all,a2,a1⟩
 refine ⟨u,_,rfl,hgm,?_⟩
 refine ⟨i,_,rfl,hgf,?_⟩
 refine .inl ?_
 refine callO [4,0,1,3,2] stmts_fn2 rfl rfl ⟨rfl,.inl rfl,.inl rfl,rfl⟩ (hB ⟨u,f,deep⟩ ⟨args,false,0⟩ s f.body hs hc he hsc) (fun d' h' hq=>?_) (fun d' h' hq=>?_)
 ·rcases sQ_out hq with ⟨el',s',h1,h2⟩ | ⟨e,s',el',h1,h2⟩
  ·injection h2 with q1 q2;subst q1;subst q2
   refine ⟨rfl,.inl (endRH (s':=s') (.g (.int el'.val)) [.old 0,.old 1,.old 6] rfl rfl rfl rfl rfl rfl (List.Perm.refl _) ?_)⟩
   rw[← hr,h1];rfl
  ·cases h2
 ·rcases sQ_out hq with ⟨el',s',h1,h2⟩ | ⟨e,s',el',h1,h2⟩
  ·cases h2
  ·injection h2 with q1 q2;subst q1;subst q2
   refine ⟨rfl,.inl (endRH (s':=s') (stopD e) [.old 0,.old 1,.old 6] rfl rfl rfl rfl rfl rfl (List.Perm.refl _) ?_)⟩
   rw[← hr,h1];rfl
end Go.Proofs.Ytcpbfpgighaonaa
