/-
  eval: where a variable stands, and an element of an array.
-/
import Derived.Test.YtcpbfpgighaonaaEh
namespace Go.Dm
open Go Go.Eng Go.RowKit
section
variable {P:Program} {G:Gl} {n:Nat}
theorem turnLend {K:St→Prop} {env:Env} {h:Heap} {df:List Deferred} {v:Value} (m:Nat) (l1 l2:List (Value × Ob0)) (o:Ob0) {l:List (Value × Ob0)} {ts:List (Value × Nat)} (hm:h[m]?=some (.many l ts)) (hl:l=l1++(v,o) :: l2)
  (k:TurnP G n K ⟨env,h.set m (.many (l1++l2) ((v,h.length) :: ts))++[o.obj],df⟩):TurnP G n K ⟨env,h,df⟩:=by
 obtain ⟨st1,hst,hk⟩:=k
 refine ⟨st1,fun C a w hG hr=>hst C a w hG ?_,hk⟩
 obtain ⟨h1,h2,β,V,h3,h4⟩:=hr
 subst hl
 obtain ⟨q1,q2⟩:=RelD.lend h3 hm
 exact ⟨h1,h2,_,V,q1,fun i=>RepD.mono q2 (Moved.refl _ _) _ _ (h4 i)⟩
theorem turnTag {K:St→Prop} {env:Env} {h:Heap} {df:List Deferred} {v:Value} (s m q:Nat) {l:List (Value × Ob0)} {ts:List (Value × Nat)} {xs:List (List GV)} {e sz:Nat} (hs:env s=.g (.raw v)) (hm:h[m]?=some (.many l ts)) (ht:(v,q)∈ts) (hq:h[q]?=some (.row xs e sz))
  (k:TurnP G n K ⟨env.set s (.row q),h,df⟩):TurnP G n K ⟨env,h,df⟩:=by
 obtain ⟨st1,hst,hk⟩:=k
 refine ⟨st1,fun C a w hG hr=>hst C a w hG ?_,hk⟩
 obtain ⟨h1,h2,β,V,h3,h4⟩:=hr
 refine ⟨h1,h2,β,V,h3,fun i=>?_⟩
 show RepD h β V w (bif Nat.beq i s then .row q else env i) (a.tmps.getD i undef)
 by_cases hi:i=s
 ·subst hi
  rw[Nat.beq_refl]
  have hv:=h4 i
  show RepD h β V w (.row q) _
  rw[show (⟨env,h,df⟩:St).env i=.g (.raw v) from hs] at hv
  simp only[RepD,RepV] at hv
  obtain ⟨o,ho,hb⟩:=(h3.obj m _ hm).2.2 _ ht
  have ho':h[q]?=some o:=ho
  rw[hq] at ho'
  injection ho' with ho'
  subst ho'
  have hb':β q=v:=hb rfl
  simp only[RepD,hq]
  exact hv.1.trans hb'.symm
 ·rw[beq_ne hi]
  exact h4 i
end
end Go.Dm
namespace Go.Proofs.Ytcpbfpgighaonaa
open Go Go.Dm Go.Eng Go.RowKit Barb
abbrev LH (p:List Barb.Unit) (N:List CN) (R:Value) (s:ES) (c:EC) (el:EL) (l:List (Value × Ob0)) (v:Value) (xs:List Int):Heap :=
 [.blk (cC 1 3 c el) 111,.blk (rC p N 4 s.fuel) 57,.many l [(v,5),(R,1)],.row (el.ps.map intG) 3 1,.row (tz s) 3 1,.row (xs.map intG) 3 1]
theorem tgX {p:List Barb.Unit} {N:List CN} {R:Value} {s:ES} {c:EC} {el:EL}:tagsN (XH p N R s c el) 2 1 [some R,none]:=⟨List.mem_cons_self,trivial,trivial⟩
theorem tgL {p:List Barb.Unit} {N:List CN} {R:Value} {s:ES} {c:EC} {el:EL} {l:List (Value × Ob0)} {v:Value} {xs:List Int}:tagsN (LH p N R s c el l v xs) 2 1 [some R,none]:=⟨List.mem_cons_of_mem _ List.mem_cons_self,trivial,trivial⟩
theorem variable_fn:fnOk Try.prog 88=true:=by kernel_rfl
theorem endSame {R':D→Heap→Prop} {env:Dm.Env} {h hin h':Heap} {nms:List (Option Value)} {d0:D} (d:D) (src:List Src) (hok:srcOk src=true) (hlen:nrOk src h'=true)
  (h0:conv h src 4 (env 0)=.ptr 0 0) (hd:conv h src 4 d0=d∨Like (newN src) 4 (conv h src 4 d0) d) (hT:turnH h src=h') (hb:(isBlk h' 0 && true && tagB h')=true) (hst:stayN hin h' 2 1 nms) (q:R' d h'):ToH [0] hin 2 nms R' h env d0:=by
 refine ⟨src,d,h',⟨hok,.inl hT,.inr ?_,hlen⟩,hb,hst,q⟩
 rw[List.map_cons,List.map_cons,List.map_cons,h0]
 exact ⟨by rcases hd with hd | hd;exact lk hd;exact hd,lk rfl,trivial⟩
theorem stX {p:List Barb.Unit} {N:List CN} {R:Value} {s:ES} {c:EC} {el:EL} {s':ES} {c':EC} {el':EL}:stayN (XH p N R s c el) (XH p N R s' c' el') 2 1 [some R,none] :=
 ⟨List.mem_cons_self,⟨trivial,rfl⟩,trivial,trivial⟩
theorem stL {p:List Barb.Unit} {N:List CN} {R:Value} {s:ES} {c:EC} {el:EL} {l:List (Value × Ob0)} {v:Value} {xs:List Int}:stayN (LH p N R s c el l v xs) (LH p N R s c el l v xs) 2 1 [some R,none] :=
 ⟨List.mem_cons_of_mem _ List.mem_cons_self,⟨trivial,rfl⟩,trivial,trivial⟩
set_option maxRecDepth 20000 in
theorem varPar_any {p:List Barb.Unit} {N:List CN} {R:Value} {s:ES} {c:EC} {el:EL} {name:Str} {i:Nat} (hi:i < el.ps.length) (hx:pIdx c.f name=(i:Int)) (hpl:c.f.params.length≤4) :
  CTH Try.prog [] 88 3 (XH p N R s c el) [.ptr 0 0,.g (.str name)] (fun out=>out=.ret (.el 3 i 0) (XH p N R s c el)):=by
 unfold pIdx at hx
 have hI:=strIdx_any c.f.params (by omega) name
 rw[hx] at hI
 refine enterH [] hT hF hM Try.func88 rfl 52 rfl (by kernel_rfl) [.tmp 4] rfl [.ptr 0 0,.g (.str name)] rfl (XH p N R s c el) [0] rfl rfl rfl 2 [some R,none] tgX _ ?_
 refine .inl (callIs (.inl rfl) hI ?_)
 refine ⟨fun _=>?_,fun h=>absurd (Int.natCast_nonneg i) h⟩
 refine ⟨i,rfl,by rw[List.length_map];exact hi,?_⟩
 exact ⟨rfl,.inl (endSame (.el 3 i 0) [.old 0,.old 1,.old 2,.old 3,.old 4] rfl rfl rfl (.inl rfl) rfl rfl stX rfl)⟩
theorem lrAt {N:List CN} {u:Nat} (hu:u < N.length):(N.map CN.g)[u]?=some N[u].g:=gm hu
set_option maxRecDepth 20000 in
theorem varVar_any {p:List Barb.Unit} {N:List CN} {R:Value} {s:ES} {c:EC} {el:EL} {name:Str} {l:List (Value × Ob0)} {v:Value} {xs:List Int} {i:Nat} (hi:i < xs.length) (hx:¬0≤pIdx c.f name) (hu:c.u < p.length) (hy:vIdx (uAt p c.u) name=(i:Int)) (hN:c.u < N.length) (hv:N[c.u].v=v) (hpl:c.f.params.length≤4) (hvl:(uAt p c.u).vars.length≤8) :
  CTH Try.prog [] 88 3 (LH p N R s c el l v xs) [.ptr 0 0,.g (.str name)] (fun out=>out=.ret (.el 5 i 0) (LH p N R s c el l v xs)):=by
 unfold pIdx at hx
 unfold vIdx at hy
 rw[uAt_eq hu] at hy hvl
 have hI:=strIdx_any p[c.u].vars (by omega) name
 rw[hy] at hI
 refine enterH [] hT hF hM Try.func88 rfl 52 rfl (by kernel_rfl) [.tmp 4] rfl [.ptr 0 0,.g (.str name)] rfl (LH p N R s c el l v xs) [0] rfl rfl rfl 2 [some R,none] tgL _ ?_
 refine .inl (callIs (.inl rfl) (strIdx_any c.f.params (by omega) name) ?_)
 refine ⟨fun h=>absurd h hx,fun _=>?_⟩
 refine ⟨none,rfl,?_⟩
 refine ⟨c.u,_,rfl,lrAt hN,?_⟩
 refine ⟨c.u,_,rfl,gm hu,?_⟩
 refine ⟨_,_,.inl rfl,hI,rfl,?_⟩
 refine ⟨2,5,l,[(v,5),(R,1)],xs.map intG,3,i,rfl,by rw[hv];exact List.mem_cons_self,rfl,rfl,by rw[List.length_map];exact hi,?_⟩
 exact ⟨rfl,.inl (endSame (.el 5 i 0) [.old 0,.old 1,.old 2,.old 3,.old 4,.old 5] rfl rfl rfl (.inl rfl) rfl rfl stL rfl)⟩
theorem element_fn2:fnOk Try.prog 89=true:=by kernel_rfl
theorem aEq2_any (a:Arr) (s:Str):CT Try.prog [] 99 [.agg [.g (.str a.name),.g (.int a.size)],.fp [.str s] 0] (Is (.pb (a.name=s))):=by
 refine enter hT hF hM Try.func99 rfl 8 rfl (by kernel_rfl) [.tmp 3] rfl [.agg [.g (.str a.name),.g (.int a.size)],.fp [.str s] 0] rfl _ ?_
 exact ⟨rfl,retP Iff.rfl⟩
theorem idxA2_any (l:List Arr) (hl:l.length≤9223372036854775807) (s:Str):CT Try.prog [] 98 [.g (.sl 2 (l.map Arr.g)),.fn 99 [] [.fp [.str s] 0]] (Is (.g (.int (idx (fun a:Arr=>a.name=s) l)))):=by
 have ll:(l.map Arr.g).length=l.length:=by simp
 refine enter hT hF hM Try.func98 rfl 19 rfl (by kernel_rfl) [.tmp 4] rfl [.g (.sl 2 (l.map Arr.g)),.fn 99 [] [.fp [.str s] 0]] rfl _ ?_
 refine loopR (ι:=Nat) (fun i=>[(8,.g (.int (i:Int)))]) (fun _=>[]) (fun i=>i≤l.length∧∀ j (hj:j < l.length),j < i→¬l[j].name=s) (fun i=>l.length - i)
  ⟨0,[],⟨rfl,.inl rfl,.inr ⟨lk rfl,trivial⟩,rfl⟩,Nat.zero_le _,alln_0 (q:=fun x:Arr=>x.name=s)⟩ ?_
 intro Rd hRd i ⟨hi,ha⟩
 refine ⟨fun h=>?_,fun h=>?_⟩
 ·have h1:i < l.length:=by omega
  refine ⟨i,_,rfl,gm h1,?_⟩
  refine callIs (.inl rfl) (aEq2_any l[i] s) ?_
  refine ⟨fun h2=>⟨rfl,retI (idx_at (q:=fun x:Arr=>x.name=s) h1 ha h2).symm⟩,fun h2=>⟨_,I64.wrap (by unfold I64;omega),?_⟩⟩
  exact hRd _ _ _ ⟨i+1,[],⟨rfl,.inl rfl,.inr ⟨lk rfl,trivial⟩,rfl⟩,⟨h1,alln_step (q:=fun x:Arr=>x.name=s) h1 ha h2⟩,by omega⟩
 ·exact ⟨rfl,retI (idx_no (alln_end (q:=fun x:Arr=>x.name=s) (by omega) ha)).symm⟩
theorem rawAt {ys:List Value} {k:Nat} {v:Value} (h:ys[k]?=some v):(ys.map fun a=>[GV.raw a])[k]?=some [.raw v]:=by simp[h]
set_option maxRecDepth 20000 in
theorem element_any2 {p:List Barb.Unit} {N:List CN} {R:Value} {s:ES} {c:EC} {el:EL} {name:Str} {n:Int} {l:List (Value × Ob0)} {v:Value} {xs:List Int} {k:Nat} (h0:0≤n) (hn:n≤65535) (hu:c.u < p.length) (hy:aIdx (uAt p c.u) name=(k:Int)) (hN:c.u < N.length) (hv:N[c.u].ar[k]?=some v) (hal:(uAt p c.u).arrays.length≤3) :
  CTH Try.prog [] 89 3 (LH p N R s c el l v xs) [.ptr 0 0,.g (.str name),.g (.int n)]
   (fun out=>if (xs.length:Int)≤n then out=.panH (stopD 2) (LH p N R s c el l v xs) else out=.ret (.el 5 n.toNat 0) (LH p N R s c el l v xs)):=by
 unfold aIdx at hy
 rw[uAt_eq hu] at hy hal
 have hI:=idxA2_any p[c.u].arrays (by omega) name
 rw[hy] at hI
 refine enterHJ [3] hT hF hM Try.func89 rfl 51 rfl (by kernel_rfl) [.tmp 6] rfl [.ptr 0 0,.g (.str name),.g (.int n)] rfl (LH p N R s c el l v xs) [0] rfl rfl rfl 2 [some R,none] tgL _ ?_
 refine ⟨none,rfl,?_⟩
 refine ⟨c.u,_,rfl,gm hu,?_⟩
 refine ⟨_,_,.inl rfl,hI,rfl,?_⟩
 refine ⟨none,rfl,?_⟩
 refine ⟨c.u,_,rfl,lrAt hN,?_⟩
 refine ⟨k,_,rfl,rawAt hv,?_⟩
 refine turnTag 8 2 5 rfl rfl List.mem_cons_self rfl (turnNo ?_)
 have lx:(xs.map intG).length=xs.length:=List.length_map _
 refine ⟨fun h=>?_,fun h=>?_⟩
 ·refine .inl ?_
  exact ⟨rfl,.inl (endSame (stopD 2) [.old 0,.old 1,.old 2,.old 3,.old 4,.old 5] rfl rfl rfl (.inl rfl) rfl rfl stL (iteL (by omega) rfl))⟩
 ·refine ⟨n.toNat,congrArg (fun z=>D.g (.int z)) (by omega),by omega,?_⟩
  exact ⟨rfl,.inl (endSame (.el 5 n.toNat 0) [.old 0,.old 1,.old 2,.old 3,.old 4,.old 5] rfl rfl rfl (.inl rfl) rfl rfl stL (iteR (by omega) rfl))⟩
end Go.Proofs.Ytcpbfpgighaonaa
