/-
  A function that defers at its beginning a call that turns what it panics with into one of its results: how it is entered. tree.parse and tree.Read: the contracts.
-/
import Derived.Test.YtabjelabdojpkaaGreatDoorRg
namespace Go.Dm
open Go Go.Eng Go.RowKit
def FinR (T:Tab) (rs:List ResultVar) (Q:Out→Prop) (c:Nat) (tF:TypeId) (d:Deferred):Post
 | .normal,⟨env,h,df⟩ | .ret,⟨env,h,df⟩=>df=[d]∧(∃ j y t,env c=.ptr j 0∧h[j]?=some (.blk [.g (.int y)] t))∧match resD T ⟨env,h,[]⟩ rs with | some ds=>RetTo Q h (oneOrD ds) | none=>False
 | .pan x,⟨env,h,df⟩=>df=[d]∧∃ v,x=.iface tF (.agg [.g (.int v)])∧∃ j y t,env c=.ptr j 0∧h[j]?=some (.blk [.g (.int y)] t)∧match resD T ⟨env,h.set j (.blk [.g (.int v)] t),[]⟩ rs with | some ds=>RetTo Q (h.set j (.blk [.g (.int v)] t)) (oneOrD ds) | none=>False
 | .exit _,_=>False
section
variable {P:Program} {T:Tab} {F:FuncId→Bool} {G:Gl}
theorem fr_push (w:World) (o:Go.Obj):Fr (fun _=>False) w (w.alloc o):=by
 refine ⟨rfl,rfl,rfl,?_,fun k hk _=>?_⟩
 ·rw[World.size_alloc];omega
 ·simp only[World.alloc,Array.getElem?_push]
  rw[if_neg (by omega)]
theorem fr_cell (w:World) (g:Nat) (x:Value):Fr (fun k=>k=g) w (w.setCell ⟨g,0,none⟩ x):=by
 refine ⟨rfl,rfl,rfl,?_,fun k hk hn=>?_⟩
 ·rw[World.size_setCell];omega
 ·exact Below.heap_setCell _ _ _ _ hn
theorem RelD.set_int {C:Ctx} {h:Heap} {β:Nat→Value} {V:Nat→Prop} {w:World} (hr:RelD C h β V w) {i:Nat} {y:Int} {t:TypeId} (hi:h[i]?=some (.blk [.g (.int y)] t)) {g:Nat} (hg:β i=.pointer (some ⟨g,0,none⟩)) (v:Int) :
  RelD C (h.set i (.blk [.g (.int v)] t)) β V (w.setCell ⟨g,0,none⟩ (.int .i64 v))∧Moved V w V (w.setCell ⟨g,0,none⟩ (.int .i64 v)):=by
 obtain ⟨g',us,hb,hgg,hcs⟩:=hr.obj i _ hi
 have e:g'=g:=by rw[hb] at hg;simpa using hg
 subst e
 simp only[RepDL,RepD,RepV] at hcs
 obtain ⟨v',us',rfl,rfl,rfl⟩:=hcs
 have hnV:¬V g':=hr.vout i _ g' hi rfl (by rw[hb];rfl)
 have hm:Moved V w V (w.setCell ⟨g',0,none⟩ (.int .i64 v)):=fun k hk=>⟨hk,(fr_cell w g' _).block k (hr.vlt k hk) (fun e=>hnV (e▸hk))⟩
 refine ⟨hr.upd (G:=fun k=>k=g') (fr_cell w g' _) i (.blk [.g (.int v)] t) (by simp[(List.getElem?_eq_some_iff.1 hi).1]) (set_oth (fun j o k hj ho hl hk hkg=>?_)) (le_set hi trivial) (fun k hk=>⟨i,_,hi,rfl,by subst hk;rw[hb];rfl⟩) (fun hm=>?_) (fun k hk=>.inr ⟨i,_,hi,rfl,hk,.inl rfl⟩),hm⟩
 ·subst hkg
  exact hj (hr.sep j i o _ k ho hl hi rfl hk (by rw[hb];rfl))
 ·exact ⟨g',[.int .i64 v],hb,one_setCell hgg,by simp only[RepDL,RepD,RepV];exact ⟨_,_,rfl,rfl,rfl⟩⟩
theorem enterR (hT:TabOk P T) (hF:∀ g,F g=true→fnOk P g=true) (hM:Mix P) {f:FuncId} {fn:Func} {r0 rd rest:Code} (hf:P.funcs[f]?=some fn) (hb:fn.body=some (.seq r0 (.seq rd rest))) (N:Nat) (hN:fn.ntmps=N) (hs0:allLt N (mods r0)=true) (hs1:allLt N (mods rest)=true)
  (c:Nat) (rs:List ResultVar) (hrs:fn.results.toList=rs) (hc:inL (mods rest) c=false) (Q:Out→Prop) (args:List D) (hal:Nat.ble args.length N=true) (tF:TypeId) (g:FuncId)
  (hrd:∀ (Q:Exit→Act→World→Prop) (a:Act) (w:World),Q .normal { a with defers:={ target:=.fn (.func g) #[],args:=#[a.tmps.getD c undef] } :: a.defers } w→rd.wp P Q a w)
  (hinv:∀ x w,(invoke (.fn (.func g) #[]) #[x]).run P w=.ok (.enter g #[x]) w)
  (idle:∀ p w,CallsD P g #[.pointer (some p)] .returning w fun e u' w'=>e=.returned (.tuple #[])∧u'=.returning∧w'=w)
  (caught:∀ (p:Addr) (x e:Int) (w:World),(∀ o,(w.alloc o).cell? p=some (.int .i64 x))→(∀ o,(w.alloc o).frozen? p=false)→CallsD P g #[.pointer (some p)] (.panicking [{ v:=.iface tF (.agg #[.int .i64 e]),recovered:=false }]) w fun en u' w'=>en=.returned (.tuple #[])∧u'=.panicking [{ v:=.iface tF (.agg #[.int .i64 e]),recovered:=true }]∧∃ o,w'=(w.alloc o).setCell p (.int .i64 e))
  (h:vc P T F G N r0 ⟨envOf args,[],[]⟩ (thenD P T F G N rest (FinR T rs Q c tF))):CT P G f args Q:=by
 subst hN
 intro w V vals hV hG hargs
 have hlen:=hargs.len
 have hal:=Nat.le_of_ble_eq_true hal
 refine calls_of_wp_defers hf hb ?_
 have hnth:∀ (ds:List D) (vs:List Value),RepDL [] (fun _=>undef) V w ds vs→∀ i,RepD [] (fun _=>undef) V w (nth .any ds i) (vs.getD i undef):=by
  intro ds
  induction ds with
  | nil=>intro vs _ i;simp only[nth,RepD]
  | cons d ds ih =>
   intro vs h i
   simp only[RepDL] at h
   obtain ⟨v,us,rfl,h1,h2⟩:=h
   cases i with
   | zero=>simpa [nth] using h1
   | succ i=>simpa [nth] using ih us h2 i
 have hr:Rel ⟨w,fun _=>False,V,G⟩ fn.ntmps ⟨envOf args,[],[]⟩ { tmps:=(⟨vals⟩:Array Value)++Array.replicate (fn.ntmps - (⟨vals⟩:Array Value).size) undef,defers:=[] } w:=by
  refine ⟨by simp;omega,rfl,fun _=>undef,V,empty_rel hV hG,fun i=>?_⟩
  have h1:=hnth args vals hargs i
  have h2:((⟨vals⟩:Array Value)++Array.replicate (fn.ntmps - (⟨vals⟩:Array Value).size) undef).getD i undef=vals.getD i undef:=by
   rw[Array.getD_eq_getD_getElem?,List.getD_eq_getElem?_getD]
   by_cases hi:i < vals.length
   ·rw[Array.getElem?_append_left (by simpa using hi)]
    simp
   ·rw[Array.getElem?_append_right (by simp;omega),List.getElem?_eq_none (by omega)]
    rw[Array.getElem?_replicate]
    split<;>rfl
  rw[h2]
  exact h1
 have hlt0:=allLt_mem hs0
 have hlt1:=allLt_mem hs1
 refine wp_seq (Code.wp_mono ?_ (vc_sound hT hF hM.ok r0 (mods r0) hlt0 (fun k hk=>inL_iff.2 hk) ⟨w,fun _=>False,V,G⟩ _ _ w _ h hr))
 rintro e a1 w1 ⟨_,x,st1,hq,hx⟩
 cases x with
 | exit _=>exact hq.elim
 | ret=>exact hq.elim
 | pan _=>exact hq.elim
 | normal =>
 cases e<;>try exact hx.elim
 obtain ⟨hsz,hdf,β1,V1,hrel1,he1⟩:=hx
 obtain ⟨env1,h1,df1⟩:=st1
 obtain ⟨rfl,hq⟩:=hq
 refine wp_seq (hrd _ a1 w1 ?_)
 have hx1:Rel ⟨w,fun _=>False,V,G⟩ fn.ntmps ⟨env1,h1,[{ target:=.fn (.func g) #[],args:=#[a1.tmps.getD c undef] }]⟩ { a1 with defers:={ target:=.fn (.func g) #[],args:=#[a1.tmps.getD c undef] } :: a1.defers } w1 :=
  ⟨hsz,by rw[hdf],β1,V1,hrel1,he1⟩
 refine Code.wp_mono ?_ (vc_sound hT hF hM.ok rest (mods rest) hlt1 (fun k hk=>inL_iff.2 hk) ⟨w,fun _=>False,V,G⟩ _ _ w1 _ (hq _) hx1)
 rintro e a2 w2 ⟨hk2,x,⟨env2,h2,df2⟩,hq2,hx2⟩
 have hc2:a2.tmps.getD c undef=a1.tmps.getD c undef:=hk2 c hc
  -- the cell
 have ptr:∀ {β2:Nat→Value} {V2:Nat→Prop} {j:Nat} {y:Int} {t:TypeId},RelD ⟨w,fun _=>False,V,G⟩ h2 β2 V2 w2→EnvOk ⟨env2,h2,df2⟩ β2 V2 w2 a2→env2 c=.ptr j 0→h2[j]?=some (.blk [.g (.int y)] t)→∃ g',β2 j=.pointer (some ⟨g',0,none⟩)∧a1.tmps.getD c undef=.pointer (some ⟨g',0,none⟩):=by
  intro β2 V2 j y t hrel he hj hh
  have hp:=he c
  rw[show (⟨env2,h2,df2⟩:St).env c=env2 c from rfl,hj,hc2] at hp
  simp only[RepD,hh] at hp
  obtain ⟨g',hb',hv⟩:=hp
  exact ⟨g',hb',hv⟩
 have fin:∀ {w3:World} {β3:Nat→Value} {V3:Nat→Prop} {h3:Heap} {env3:Env} {df3:List Deferred},RelD ⟨w,fun _=>False,V,G⟩ h3 β3 V3 w3→EnvOk ⟨env3,h3,df3⟩ β3 V3 w3 a2→(match resD T ⟨env3,h3,[]⟩ rs with | some ds=>RetTo Q h3 (oneOrD ds) | none=>False) →
   Leaves P fn a2.tmps (PostC G Q V w) [] .returning w3:=by
  intro w3 β3 V3 h3 env3 df3 hrel he hq
  cases hres:resD T ⟨env3,h3,[]⟩ rs with
  | none=>rw[hres] at hq;exact hq.elim
  | some ds =>
  rw[hres] at hq
  rw[← hrs] at hres
  obtain ⟨v',hv1,hv2⟩:=run_resultsD' (st:=⟨env3,h3,[]⟩) hT hrel he hres
  obtain ⟨src,d',h',ht,hQ⟩:=hq
  obtain ⟨r1,r2⟩:=ht.use hrel hv2
  simp only[RepDL] at r2
  obtain ⟨v'',us,e,r3,_⟩:=r2
  injection e with e1 e2
  subst e1
  exact ⟨v',hv1,d',h',_,_,hQ,r1,r3⟩
 have ret:∀ {st2:St},st2=⟨env2,h2,df2⟩→Rel ⟨w,fun _=>False,V,G⟩ fn.ntmps st2 a2 w2→(df2=[{ target:=.fn (.func g) #[],args:=#[a1.tmps.getD c undef] }]∧(∃ j y t,env2 c=.ptr j 0∧h2[j]?=some (.blk [.g (.int y)] t))∧match resD T ⟨env2,h2,[]⟩ rs with | some ds=>RetTo Q h2 (oneOrD ds) | none=>False)→Leaves P fn a2.tmps (PostC G Q V w) a2.defers .returning w2:=by
  rintro _ rfl ⟨_,hdf2,β2,V2,hrel2,he2⟩ ⟨hd2,⟨j,y,t,hj,hh⟩,hr⟩
  obtain ⟨g',hb',hp⟩:=ptr hrel2 he2 hj hh
  rw[hdf2]
  show Leaves P fn a2.tmps _ df2 .returning w2
  rw[hd2,hp]
  refine leaves_cons (by simp) (hinv _ _) ((idle _ w2).mono ?_)
  rintro e u' w' ⟨rfl,rfl,rfl⟩
  exact fin (env3:=env2) hrel2 he2 hr
 cases x with
 | exit _=>exact hq2.elim
 | normal=>cases e<;>first | exact hx2.elim | exact ret rfl hx2 hq2
 | ret=>cases e<;>first | exact hx2.elim | exact ret rfl hx2 hq2
 | pan d =>
  cases e<;>try exact hx2.elim
  obtain ⟨t,u,rfl,_,hdf2,β2,V2,hrel2,he2,hd⟩:=hx2
  obtain ⟨hd2,v,rfl,j,y,t',hj,hh,hr⟩:=hq2
  obtain ⟨g',hb',hp⟩:=ptr hrel2 he2 hj hh
  simp only[RepD] at hd
  obtain ⟨u',e1,us,rfl,hus⟩:=hd
  injection e1 with e1 e2
  subst e1;subst e2
  simp only[RepDL,RepD,RepV] at hus
  obtain ⟨v',us',rfl,rfl,rfl⟩:=hus
  show Leaves P fn a2.tmps _ a2.defers (.panicking _) w2
  rw[hdf2]
  show Leaves P fn a2.tmps _ df2 (.panicking _) w2
  rw[hd2,hp]
  obtain ⟨c1,c2,_⟩:=cell_rel hrel2 hh hb' (Go.Obj.cells #[] 0 (0,0)) v
  refine leaves_cons (by simp) (hinv _ _) ((caught _ y v w2 c1 c2).mono ?_)
  rintro e u' w' ⟨rfl,rfl,o,rfl⟩
  have k1:=(relD_keep hrel2 (fr_push w2 o))
  obtain ⟨k2,k3⟩:=k1.1.set_int hh hb' v
  exact fin (env3:=env2) (df3:=[]) k2 (fun k=>RepD.mono (le_set hh (o':=.blk [.g (.int v)] t') trivial) k3 _ _ (RepD.mono (LeH.refl _ _) k1.2 _ _ (he2 k))) hr
end
end Go.Dm
namespace Go.Proofs.YtabjelabdojpkaaGreatDoor
open Go Go.Dm Go.Eng Barb
abbrev u0:Barb.Unit:=⟨[],[],[],[]⟩
def parseD:PR Barb.Unit→D
 | .ok u _=>.tuple [.agg u.d,.g (.int 0)]
 | .bad e=>.tuple [.agg u0.d,.g (.int e)]
theorem likeZ {N:Nat→Bool} (e:Int):Like N 4 (.tuple [.agg [.g (.str []),.nils,.nils,.nils],.g (.int e)]) (parseD (.bad e)):=.inr ⟨.inr ⟨lk rfl,lkNil,lkNil,lkNil,trivial⟩,lk rfl,trivial⟩
set_option maxRecDepth 20000 in
set_option maxHeartbeats 1000000 in
theorem parse_any {L:Lv} (l:List Tok) (hl:RdOk l):CT Tryz.prog (gl L) 8 [.g (.sl 2 (l.map Tok.g))] (Is (parseD (unitP l))):=by
 have hU:=unit_any (L:=L) l hl
 refine enterR hT hF hM Tryz.func8 rfl 8 rfl (by kernel_rfl) (by kernel_rfl) 3 [.cell 2 26,.cell 3 27] rfl (by kernel_rfl) _ [.g (.sl 2 (l.map Tok.g))] rfl 89 24 (fun Q a w hq=>?_) (fun x w=>?_) caught_idle caught_panicking ?_
 ·apply wp_region
  simp[wpOps,go_sem]
  exact .inl (by simpa using hq)
 ·simp[go_sem]
 refine ⟨rfl,fun d=>?_⟩
 refine callO [2] unit_fn rfl rfl ⟨rfl,.inl rfl,.inl rfl,rfl⟩ hU (fun d' h' hq=>?_) (fun d' h' hq=>?_)
 ·obtain ⟨u,l',he,rfl,rfl⟩:=rdQ_ret hq
  rw[he]
  exact ⟨rfl,⟨_,_,_,rfl,rfl⟩,retIs (.inl rfl)⟩
 ·obtain ⟨e,l',k',he,hk',rfl,rfl⟩:=rdQ_pan hq
  rw[he]
  exact ⟨rfl,e,rfl,_,_,_,rfl,rfl,retIs (.inr (likeZ e))⟩
end Go.Proofs.YtabjelabdojpkaaGreatDoor
