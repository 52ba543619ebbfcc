/-
  eval: expressions.
-/
import Derived.Test.YtcpbfpgighaonaaEw
namespace Barb
open Go Go.Dm Go.Eng
structure NP (N:List CN) (p:List Unit):Prop where
 len:N.length=p.length
 ar:∀ i (h:i < N.length) (h':i < p.length),N[i].ar.length=p[i].arrays.length
theorem NP.ni {N:List CN} {p:List Unit} (h:NP N p) {s:ES} (hs:SI p s):NI N s.cells :=
 ⟨h.len.trans hs.len.symm,fun i hi hi'=>by
  have hp:i < p.length:=by rw[← hs.len];exact hi'
  rw[h.ar i hi hp,(hs.ok i hi' hp).1.2]⟩
theorem listF_cons (e:Expr→ES→RR Int) (x:Expr) (l:List Expr) (s:ES):listF e (x :: l) s=(e x s).bind fun n s=>(listF e l s).bind fun ns s=>.ok (n :: ns) s:=rfl
theorem bind_assoc {α β γ:Type} (r:RR α) (f:α→ES→RR β) (g:β→ES→RR γ):(r.bind f).bind g=r.bind fun a s=>(f a s).bind g:=by cases r<;>rfl
theorem listF_step {e:Expr→ES→RR Int} {l:List Expr} {s0 s:ES} {vs:List Int} (hi:vs.length < l.length) (h:listF e l s0=(listF e (l.drop vs.length) s).bind fun ns s=>.ok (vs++ns) s) :
  (∀ n s',e l[vs.length] s=.ok n s'→listF e l s0=(listF e (l.drop (vs++[n]).length) s').bind fun ns s=>.ok ((vs++[n])++ns) s)∧∀ c s',e l[vs.length] s=.stop c s'→listF e l s0=.stop c s':=by
 rw[List.drop_eq_getElem_cons hi,listF_cons] at h
 refine ⟨fun n s' hn=>?_,fun c s' hn=>?_⟩
 ·rw[hn] at h
  rw[h,List.length_append,List.length_singleton]
  show ((listF e (l.drop (vs.length+1)) s').bind _).bind _=_
  rw[bind_assoc]
  congr 1
  funext ns s
  show RR.ok _ _=RR.ok _ _
  simp
 ·rw[hn] at h;exact h
end Barb
namespace Go.Proofs.Ytcpbfpgighaonaa
open Go Go.Dm Go.Eng Go.RowKit Barb
abbrev XHr (p:List Barb.Unit) (N:List CN) (R:Value) (s:ES) (c:EC) (el:EL) (r:Heap):Heap :=
 .blk (cC 1 3 c el) 111 :: .blk (rC p N 4 s.fuel) 57 :: .many (mz N s) [(R,1)] :: .row (el.ps.map intG) 3 1 :: .row (tz s) 3 1 :: r
abbrev XHd (p:List Barb.Unit) (N:List CN) (R:Value) (s:ES) (c:EC) (el:EL) (r:Heap):Heap :=
 .blk (cC 1 (0+(r.length+5)) c el) 111 :: .blk (rC p N (1+(r.length+5)) s.fuel) 57 :: .many (mz N s) [(R,1)] :: .dead :: .dead :: (r++[.row (el.ps.map intG) 3 1,.row (tz s) 3 1])
abbrev XHb (p:List Barb.Unit) (N:List CN) (R:Value) (s:ES) (c:EC) (el:EL) (r:Heap):Heap :=
 .blk (cC 1 3 c el) 111 :: .blk (rC p N (0+(r.length+5)) s.fuel) 57 :: .many (mz N s) [(R,1)] :: .row (el.ps.map intG) 3 1 :: .dead :: (r++[.row (tz s) 3 1])
theorem putO_rest5 (b:Nat) (f:Nat→Nat) (h':Heap):∀ (r:Heap) (q:Nat),putO [.old 0,.old 1,.old 2,.old 3,.old 4] b f h' (q+5) r=r
 | [],_=>rfl
 | x :: r,q=>by
  simp only[putO]
  rw[show q+5+1=q+1+5 from by omega,putO_rest5 b f h' r (q+1)]
  congr 1
theorem putO_rest2 (b:Nat) (f:Nat→Nat) (h':Heap):∀ (r:Heap) (q:Nat),putO [.old 1,.old 4] b f h' (q+5) r=r
 | [],_=>rfl
 | x :: r,q=>by
  simp only[putO]
  rw[show q+5+1=q+1+5 from by omega,putO_rest2 b f h' r (q+1)]
  congr 1
theorem putX (p:List Barb.Unit) (N:List CN) (R:Value) (s s':ES) (c:EC) (el el':EL) (r:Heap):putH (XHr p N R s c el r) [0,1,2,3,4] 3 (XH p N R s' c el')=XHd p N R s' c el' r:=by
 unfold putH
 simp only[List.map_cons,List.map_nil,putO]
 rw[show (0+1+1+1+1+1:Nat)=0+5 from rfl,putO_rest5]
 rfl
theorem putB (p:List Barb.Unit) (N:List CN) (R:Value) (s:ES) (c:EC) (el:EL) (r:Heap) (n:Nat):putH (XHr p N R s c el r) [1,4] 1 (BH p N n s.told)=XHb p N R { s with fuel:=n } c el r:=by
 unfold putH
 simp only[List.map_cons,List.map_nil,putO]
 rw[show (0+1+1+1+1+1:Nat)=0+5 from rfl,putO_rest2]
 rfl
theorem turnX (p:List Barb.Unit) (N:List CN) (R:Value) (s:ES) (c:EC) (el:EL) (r:Heap) (l:List D) (hn:l.map (conv (XHr p N R s c el r) [.old 0,.old 1,.old 2,.old 3,.old 4] 4)=l):TurnTo (XHr p N R s c el r) [.old 0,.old 1,.old 2,.old 3,.old 4] (.ptr 0 0 :: l) (XH p N R s c el) (.ptr 0 0 :: l) :=
 ⟨rfl,.inl rfl,.inl (by rw[List.map_cons,hn];rfl),rfl⟩
theorem callX {g:FuncId} (hg:fnOk Try.prog g=true) {l all:List D} {h:Heap} {K Qp:KD} {p:List Barb.Unit} {N:List CN} {R:Value} {s:ES} {c:EC} {el:EL} {Q:Out→Prop} (r:Heap)
  (hct:CTH Try.prog [] g 3 (XH p N R s c el) (.ptr 0 0 :: l) Q) (hn:l.map (conv (XHr p N R s c el r) [.old 0,.old 1,.old 2,.old 3,.old 4] 4)=l) (hl:closedσ (XHr p N R s c el r) [0,1,2,3,4] (.ptr 0 0 :: l)=true)
  (hh:h=XHr p N R s c el r) (ha:all=.ptr 0 0 :: l)
  (hQ:∀ out,Q out→(∃ d s' el',out=.ret d (XH p N R s' c el')∧K (rnD (rnI [0,1,2,3,4] 3 (r.length+5)) 4 d) (XHd p N R s' c el' r))∨(∃ e s' el',out=.panH (stopD e) (XH p N R s' c el')∧Qp (stopD e) (XHd p N R s' c el' r))) :
  fnOk Try.prog g=true∧(OwnCall Try.prog [] g all h K Qp∨SemCall Try.prog [] g all h K Qp):=by
 subst hh;subst ha
 refine callO [0,1,2,3,4] hg hl rfl (turnX _ _ _ _ _ _ _ _ hn) hct (fun d' h' hq=>?_) (fun d' h' hq=>?_)
 ·rcases hQ _ hq with ⟨d,s',el',he,hk⟩ | ⟨e,s',el',he,_⟩
  ·injection he with e1 e2;subst e1;subst e2
   rw[putX];exact hk
  ·cases he
 ·rcases hQ _ hq with ⟨d,s',el',he,hk⟩ | ⟨e,s',el',he,hk⟩
  ·cases he
  ·injection he with e1 e2;subst e1;subst e2
   rw[putX];exact hk
theorem callBurn {all:List D} {h:Heap} {K Qp:KD} {p:List Barb.Unit} {N:List CN} {R:Value} {s:ES} {c:EC} {el:EL} (r:Heap) (hf:s.fuel≤200000)
  (hh:h=XHr p N R s c el r) (ha:all=[.ptr 1 0])
  (hno:s.fuel=0→Qp (stopD 3) (XHb p N R s c el r)) (hyes:s.fuel≠0→K (.tuple []) (XHb p N R { s with fuel:=s.fuel - 1 } c el r)) :
  fnOk Try.prog 86=true∧(OwnCall Try.prog [] 86 all h K Qp∨SemCall Try.prog [] 86 all h K Qp):=by
 subst hh;subst ha
 refine callO [1,4] burn_fn rfl rfl ⟨rfl,.inl rfl,.inl rfl,rfl⟩ (burn_any p N s.fuel s.told hf) (fun d' h' hq=>?_) (fun d' h' hq=>?_)
 ·split at hq
  ·cases hq
  ·rename_i h0
   injection hq with e1 e2;subst e1;subst e2
   rw[putB];exact hyes h0
 ·split at hq
  ·rename_i h0
   injection hq with e1 e2;subst e1;subst e2
   have e:(BH p N 0 s.told)=BH p N s.fuel s.told:=by rw[h0]
   rw[e,putB];exact hno h0
  ·cases hq
theorem endXH {R':D→Heap→Prop} {env:Dm.Env} {p:List Barb.Unit} {N:List CN} {R:Value} {s s':ES} {c:EC} {el el':EL} {h:Heap} {l:List (Value × Ob0)} {ps told:List (List GV)} {d0:D} (d:D) (src:List Src) (hok:srcOk src=true) (hlen:nrOk src (XH p N R s' c el')=true)
  (h0:conv h src 4 (env 0)=.ptr 0 0) (hd:conv h src 4 d0=d∨Like (newN src) 4 (conv h src 4 d0) d)
  (hT:turnH h src=[.blk (cC 1 3 c el') 111,.blk (rC p N 4 s'.fuel) 57,.many l [(R,1)],.row ps 3 1,.row told 3 1])
  (e1:ps=el'.ps.map intG) (e2:told=tz s') (e3:l.Perm (mz N s')) (q:R' d (XH p N R s' c el')):ToH [0] (XH p N R s c el) 2 [some R,none] R' h env d0:=by
 subst e1;subst e2
 refine ⟨src,d,XH p N R s' c el',⟨hok,.inr ?_,.inr ?_,hlen⟩,rfl,stX,q⟩
 ·rw[hT]
  exact ⟨⟨rfl,.inl rfl⟩,⟨rfl,.inl rfl⟩,⟨e3,rfl⟩,⟨rfl,rfl,rfl⟩,⟨rfl,rfl,rfl⟩,trivial⟩
 ·rw[List.map_cons,List.map_cons,List.map_cons,h0]
  exact ⟨by rcases hd with hd | hd;exact lk hd;exact hd,lk rfl,trivial⟩
end Go.Proofs.Ytcpbfpgighaonaa
