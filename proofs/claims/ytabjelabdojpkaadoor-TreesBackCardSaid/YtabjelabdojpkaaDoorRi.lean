/-
  A function that defers at its beginning a call that turns what it panics with into one of its results: how it is entered. tree.parse and tree.Read: the contracts.
-/
import Derived.Test.YtabjelabdojpkaaDoorRg
namespace Go.Dm
open Go Go.Eng Go.RowKit
def FinR (T:Tab) (rs:List ResultVar) (Q:Out→Prop) (c:Nat) (tF:TypeId) (d:Deferred):Post
 | .normal,⟨env,h,df⟩ | .ret,⟨env,h,df⟩=>df=[d]∧(∃ j y t,env c=.ptr j 0∧h[j]?=some (.blk [.g (.int y)] t))∧match resD T ⟨env,h,[]⟩ rs with | some ds=>RetTo Q h (oneOrD ds) | none=>False
 | .pan x,⟨env,h,df⟩=>df=[d]∧∃ v,x=.iface tF (.agg [.g (.int v)])∧∃ j y t,env c=.ptr j 0∧h[j]?=some (.blk [.g (.int y)] t)∧match resD T ⟨env,h.set j (.blk [.g (.int v)] t),[]⟩ rs with | some ds=>RetTo Q (h.set j (.blk [.g (.int v)] t)) (oneOrD ds) | none=>False
 | .exit _,_=>False
section
variable {P:Program} {T:Tab} {F:FuncId→Bool} {G:Gl}
theorem fr_push (w:World) (o:Go.Obj):Fr (fun _=>False) w (w.alloc o):=by
 refine ⟨rfl,rfl,rfl,?_,fun k hk _=>?_⟩
 ·rw[World.size_alloc];omega
 ·simp only[World.alloc,Array.getElem?_push]
  rw[if_neg (by omega)]
theorem fr_cell (w:World) (g:Nat) (x:Value):Fr (fun k=>k=g) w (w.setCell ⟨g,0,none⟩ x):=by
 refine ⟨rfl,rfl,rfl,?_,fun k hk hn=>?_⟩
 ·rw[World.size_setCell];omega
 ·exact Below.heap_setCell _ _ _ _ hn
theorem RelD.set_int {C:Ctx} {h:Heap} {β:Nat→Value} {V:Nat→Prop} {w:World} (hr:RelD C h β V w) {i:Nat} {y:Int} {t:TypeId} (hi:h[i]?=some (.blk [.g (.int y)] t)) {g:Nat} (hg:β i=.pointer (some ⟨g,0,none⟩)) (v:Int) :
  RelD C (h.set i (.blk [.g (.int v)] t)) β V (w.setCell ⟨g,0,none⟩ (.int .i64 v))∧Moved V w V (w.setCell ⟨g,0,none⟩ (.int .i64 v)):=by
 obtain ⟨g',us,hb,hgg,hcs⟩:=hr.obj i _ hi
 have e:g'=g:=by rw[hb] at hg;simpa using hg
 subst e
 simp only[RepDL,RepD,RepV] at hcs
 obtain ⟨v',us',rfl,rfl,rfl⟩:=hcs
 have hnV:¬V g':=hr.vout i _ g' hi rfl (by rw[hb];rfl)
 have hm:Moved V w V (w.setCell ⟨g',0,none⟩ (.int .i64 v)):=fun k hk=>⟨hk,(fr_cell w g' _).block k (hr.vlt k hk) (fun e=>hnV (e▸hk))⟩
 refine ⟨hr.upd (G:=fun k=>k=g') (fr_cell w g' _) i (.blk [.g (.int v)] t) (by simp[(List.getElem?_eq_some_iff.1 hi).1]) (set_oth (fun j o k hj ho hl hk hkg=>?_)) (le_set hi trivial) (fun k hk=>⟨i,_,hi,rfl,by subst hk;rw[hb];rfl⟩) (fun hm=>?_) (fun k hk=>.inr ⟨i,_,hi,rfl,hk,.inl rfl⟩),hm⟩
 ·subst hkg
  exact hj (hr.sep j i o _ k ho hl hi rfl hk (by rw[hb];rfl))
 ·exact ⟨g',[.int .i64 v],hb,one_setCell hgg,by simp only[RepDL,RepD,RepV];exact ⟨_,_,rfl,rfl,rfl⟩⟩
theorem enterR (hT:TabOk P T) (hF:∀ g,F g=true→fnOk P g=true) (hM:Mix P) {f:FuncId} {fn:Func} {r0 rd rest:Code} (hf:P.funcs[f]?=some fn) (hb:fn.body=some (.seq r0 (.seq rd rest))) (N:Nat) (hN:fn.ntmps=N) (hs0:allLt N (mods r0)=true) (hs1:allLt N (mods rest)=true)
  (c:Nat) (rs:List ResultVar) (hrs:fn.results.toList=rs) (hc:inL (mods rest) c=false) (Q:Out→Prop) (args:List D) (hal:Nat.ble args.length N=true) (tF:TypeId) (g:FuncId)
  (hrd:∀ (Q:Exit→Act→World→Prop) (a:Act) (w:World),Q .normal { a with defers:={ target:=.fn (.func g) #[],args:=#[a.tmps.getD c undef] } :: a.defers } w→rd.wp P Q a w)
  (hinv:∀ x w,(invoke (.fn (.func g) #[]) #[x]).run P w=.ok (.enter g #[x]) w)
  (idle:∀ p w,CallsD P g #[.pointer (some p)] .returning w fun e u' w'=>e=.returned (.tuple #[])∧u'=.returning∧w'=w)
  (caught:∀ (p:Addr) (x e:Int) (w:World),(∀ o,(w.alloc o).cell? p=some (.int .i64 x))→(∀ o,(w.alloc o).frozen? p=false)→CallsD P g #[.pointer (some p)] (.panicking [{ v:=.iface tF (.agg #[.int .i64 e]),recovered:=false }]) w fun en u' w'=>en=.returned (.tuple #[])∧u'=.panicking [{ v:=.iface tF (.agg #[.int .i64 e]),recovered:=true }]∧∃ o,w'=(w.alloc o).setCell p (.int .i64 e))
  (h:vc P T F G N r0 ⟨envOf args,[],[]⟩ (thenD P T F G N rest (FinR T rs Q c tF))):CT P G f args Q:=by
 subst hN
 intro w V vals hV hG hargs
 have hlen:=hargs.len
 have hal:=Nat.le_of_ble_eq_true hal
 refine calls_of_wp_defers hf hb ?_
 have hnth:∀ (ds:List D) (vs:List Value),RepDL [] (fun _=>undef) V w ds vs→∀ i,RepD [] (fun _=>undef) V w (nth .any ds i) (vs.getD i undef):=by
  intro ds
  induction ds with
  | nil=>intro vs _ i;simp only[nth,RepD]
  | cons d ds ih =>
   intro vs h i
   simp only[RepDL] at h
   obtain ⟨v,us,rfl,h1,h2⟩:=h
   cases i with
   | zero=>simpa [nth] using h1
   | succ i=>simpa [nth] using ih us h2 i
 have hr:Rel ⟨w,fun _=>False,V,G⟩ fn.ntmps ⟨envOf args,[],[]⟩ { tmps:=(⟨vals⟩:Array Value)++Array.replicate (fn.ntmps - (⟨vals⟩:Array Value).size) undef,defers:=[] } w:=by
  refine ⟨by simp;omega,rfl,fun _=>undef,V,empty_rel hV hG,fun i=>?_⟩
  have h1:=hnth args vals hargs i
  have h2:((⟨vals⟩:Array Value)++Array.replicate (fn.ntmps - (⟨vals⟩:Array Value).size) undef).getD i undef=vals.getD i undef:=by
   rw[Array.getD_eq_getD_getElem?,List.getD_eq_getElem?_getD]
   by_cases hi:i < vals.length
   ·rw[Array.getElem?_append_left (by simpa using hi)]
    simp
   ·rw[Array.getElem?_append_right (by simp;omega),List.getElem?_eq_none (by omega)]
    rw[Array.getElem?_replicate]
    split<;>rfl
  rw[h2]
  exact h1
 have hlt0:=allLt_mem hs0
 have hlt1:=allLt_mem hs1
 refine wp_seq (Code.wp_mono ?_ (vc_sound hT hF hM.ok r0 (mods r0) hlt0 (fun k hk=>inL_iff.2 hk) ⟨w,fun _=>False,V,G⟩ _ _ w _ h hr))
 rintro e a1 w1 ⟨_,x,st1,hq,hx⟩
 cases x with
 | exit _=>exact hq.elim
 | ret=>exact hq.elim
 | pan _=>exact hq.elim
 | normal =>
 cases e<;>try exact hx.elim
 obtain ⟨hsz,hdf,β1,V1,hrel1,he1⟩:=hx
 obtain ⟨env1,h1,df1⟩:=st1
 obtain ⟨rfl,hq⟩:=hq
 refine wp_seq (hrd _ a1 w1 ?_)
 have hx1:Rel ⟨w,fun _=>False,V,G⟩ fn.ntmps ⟨env1,h1,[{ target:=.fn (.func g) #[],args:=#[a1.tmps.getD c undef] }]⟩ { a1 with defers:={ target:=.fn (.func g) #[],args:=#[a1.tmps.getD c undef] } :: a1.defers } w1 :=
  ⟨hsz,by rw[hdf],β1,V1,hrel1,he1⟩
 refine Code.wp_mono ?_ (vc_sound hT hF hM.ok rest (mods rest) hlt1 (fun k hk=>inL_iff.2 hk) ⟨w,fun _=>False,V,G⟩ _ _ w1 _ (hq _) hx1)
 rintro e a2 w2 ⟨hk2,x,⟨env2,h2,df2⟩,hq2,hx2⟩
 have hc2:a2.tmps.getD c undef=a1.tmps.getD c undef:=hk2 c hc
  -- the cell
 have ptr:∀ {β2:Nat→Value} {V2:Nat→Prop} {j:Nat} {y:Int} {t:TypeId},RelD ⟨w,fun _=>False,V,G⟩ h2 β2 V2 w2→EnvOk ⟨env2,h2,df2⟩ β2 V2 w2 a2→env2 c=.ptr j 0→h2[j]?=some (.blk [.g (.int y)] t)→∃ g',β2 j=.pointer (some ⟨g',0,none⟩)∧a1.tmps.getD c undef=.pointer (some ⟨g',0,none⟩):=by
  intro β2 V2 j y t hrel he hj hh
  have hp:=he c
  rw[show (⟨env2,h2,df2⟩:St).env c=env2 c from rfl,hj,hc2] at hp
  simp only[RepD,hh] at hp
  obtain ⟨g',hb',hv⟩:=hp
  exact ⟨g',hb',hv⟩
 have fin:∀ {w3:World} {β3:Nat→Value} {V3:Nat→Prop} {h3:Heap} {env3:Env} {df3:List Deferred},RelD ⟨w,fun _=>False,V,G⟩ h3 β3 V3 w3→EnvOk ⟨env3,h3,df3⟩ β3 V3 w3 a2→(match resD T ⟨env3,h3,[]⟩ rs with | some ds=>RetTo Q h3 (oneOrD ds) | none=>False) →
   Leaves P fn a2.tmps (PostC G Q V w) [] .returning w3:=by
  intro w3 β3 V3 h3 env3 df3 hrel he hq
  cases hres:resD T ⟨env3,h3,[]⟩ rs with
  | none=>rw[hres] at hq;exact hq.elim
  | some ds =>
  rw[hres] at hq
  rw[← hrs] at hres
  obtain ⟨v',hv1,hv2⟩:=run_resultsD' (st:=⟨env3,h3,[]⟩) hT hrel he hres
  obtain ⟨src,d',h',ht,hQ⟩:=hq
  obtain ⟨r1,r2⟩:=ht.use hrel hv2
  simp only[RepDL] at r2
  obtain ⟨v'',us,e,r3,_⟩:=r2
  injection e with e1 e2
  subst e1
  exact ⟨v',hv1,d',h',_,_,hQ,r1,r3⟩
 have ret:∀ {st2:St},st2=⟨env2,h2,df2⟩→Rel ⟨w,fun _=>False,V,G⟩ fn.ntmps st2 a2 w2→(df2=[{ target:=.fn (.func g) #[],args:=#[a1.tmps.getD c undef] }]∧(∃ j y t,env2 c=.ptr j 0∧h2[j]?=some (.blk [.g (.int y)] t))∧match resD T ⟨env2,h2,[]⟩ rs with | some ds=>RetTo Q h2 (oneOrD ds) | none=>False)→Leaves P fn a2.tmps (PostC G Q V w) a2.defers .returning w2:=by
  rintro _ rfl ⟨_,hdf2,β2,V2,hrel2,he2⟩ ⟨hd2,⟨j,y,t,hj,hh⟩,hr⟩
  obtain ⟨g',hb',hp⟩:=ptr hrel2 he2 hj hh
  rw[hdf2]
  show Leaves P fn a2.tmps _ df2 .returning w2
  rw[hd2,hp]
  refine leaves_cons (by simp) (hinv _ _) ((idle _ w2).mono ?_)
  rintro e u' w' ⟨rfl,rfl,rfl⟩
  exact fin (env3:=env2) hrel2 he2 hr
 cases x with
 | exit _=>exact hq2.elim
 | normal=>cases e<;>first | exact hx2.elim | exact ret rfl hx2 hq2
 | ret=>cases e<;>first | exact hx2.elim | exact ret rfl hx2 hq2
 | pan d =>
  cases e<;>try exact hx2.elim
  obtain ⟨t,u,rfl,_,hdf2,β2,V2,hrel2,he2,hd⟩:=hx2
  obtain ⟨hd2,v,rfl,j,y,t',hj,hh,hr⟩:=hq2
  obtain ⟨g',hb',hp⟩:=ptr hrel2 he2 hj hh
  simp only[RepD] at hd
  obtain ⟨u',e1,us,rfl,hus⟩:=hd
  injection e1 with e1 e2
  subst e1;subst e2
  simp only[RepDL,RepD,RepV] at hus
  obtain ⟨v',us',rfl,rfl,rfl⟩:=hus
  show Leaves P fn a2.tmps _ a2.defers (.panicking _) w2
  rw[hdf2]
  show Leaves P fn a2.tmps _ df2 (.panicking _) w2
  rw[hd2,hp]
  obtain ⟨c1,c2,_⟩:=cell_rel hrel2 hh hb' (Go.Obj.cells #[] 0 (0,0)) v
  refine leaves_cons (by simp) (hinv _ _) ((caught _ y v w2 c1 c2).mono ?_)
  rintro e u' w' ⟨rfl,rfl,o,rfl⟩
  have k1:=(relD_keep hrel2 (fr_push w2 o))
  obtain ⟨k2,k3⟩:=k1.1.set_int hh hb' v
  exact fin (env3:=env2) (df3:=[]) k2 (fun k=>RepD.mono (le_set hh (o':=.blk [.g (.int v)] t') trivial) k3 _ _ (RepD.mono (LeH.refl _ _) k1.2 _ _ (he2 k))) hr
end
end Go.Dm
namespace Go.Proofs.YtabjelabdojpkaaDoor
open Go Go.Dm Go.Eng Barb
abbrev u0:Barb.Unit:=⟨[],[],[],[]⟩
def parseD:PR Barb.Unit→D
 | .ok u _=>.tuple [.agg u.d,.g (.int 0)]
 | .bad e=>.tuple [.agg u0.d,.g (.int e)]
theorem likeZ {N:Nat→Bool} (e:Int):Like N 4 (.tuple [.agg [.g (.str []),.nils,.nils,.nils],.g (.int e)]) (parseD (.bad e)):=.inr ⟨.inr ⟨lk rfl,lkNil,lkNil,lkNil,trivial⟩,lk rfl,trivial⟩
set_option maxRecDepth 20000 in
set_option maxHeartbeats 1000000 in
theorem parse_any {L:Lv} (l:List Tok) (hl:RdOk l):CT Tryd.prog (gl L) 22 [.g (.sl 2 (l.map Tok.g))] (Is (parseD (unitP l))):=by
 have hU:=unit_any (L:=L) l hl
 refine enterR hT hF hM Tryd.func22 rfl 8 rfl (by kernel_rfl) (by kernel_rfl) 3 [.cell 2 26,.cell 3 27] rfl (by kernel_rfl) _ [.g (.sl 2 (l.map Tok.g))] rfl 108 28 (fun Q a w hq=>?_) (fun x w=>?_) caught_idle caught_panicking ?_
 ·apply wp_region
  simp[wpOps,go_sem]
  exact .inl (by simpa using hq)
 ·simp[go_sem]
 refine ⟨rfl,fun d=>?_⟩
 refine callO [2] unit_fn rfl rfl ⟨rfl,.inl rfl,.inl rfl,rfl⟩ hU (fun d' h' hq=>?_) (fun d' h' hq=>?_)
 ·obtain ⟨u,l',he,rfl,rfl⟩:=rdQ_ret hq
  rw[he]
  exact ⟨rfl,⟨_,_,_,rfl,rfl⟩,retIs (.inl rfl)⟩
 ·obtain ⟨e,l',k',he,hk',rfl,rfl⟩:=rdQ_pan hq
  rw[he]
  exact ⟨rfl,e,rfl,_,_,_,rfl,rfl,retIs (.inr (likeZ e))⟩
end Go.Proofs.YtabjelabdojpkaaDoor
namespace Go.Proofs.YtabjelabdojpkaaDoor
open Go Go.Dm Go.Eng Barb
def Gd {α:Type} (I:α→Prop):PR α→Prop
 | .ok a _=>I a
 | .bad e=>e=4∨e=1
theorem Gd.then {α β:Type} {J:α→Prop} {I:β→Prop} {r:PR α} {k:α→List Tok→PR β} (h:Gd J r) (hk:∀ a l,r=.ok a l→J a→Gd I (k a l)):Gd I (r.then k):=by
 cases r with
 | ok a l=>exact hk a l rfl h
 | bad e=>exact h
theorem must_gd (s:Str) (l:List Tok):Gd (fun _=>True) (mustP s l):=by
 unfold mustP
 split
 ·trivial
 ·exact .inl rfl
theorem name_gd {l:List Tok} (h:RdOk l):Gd (fun s:Str=>s.length≤3000) (nameP l):=by
 unfold nameP
 split
 ·exact h.text
 ·exact .inl rfl
theorem numR_i (s:Str):I64 (numR s):=by
 unfold I64
 by_cases h:isNum s
 ·have h':=h
  obtain ⟨n,hn,e⟩:=h
  rw[e,(numR_yes hn).1]
  omega
 ·rw[(numR_no h).1];omega
theorem num_gd (l:List Tok):Gd I64 (numP l):=by
 unfold numP
 split
 ·exact numR_i _
 ·exact .inl rfl
theorem opP_i (s:Str):I64 (opP s):=by
 unfold opP I64
 rcases idx_cases (fun x=>s=x) opsT with ⟨h,_⟩ | ⟨i,hi,h,_⟩
 ·omega
 ·have:opsT.length=10:=rfl
  omega
theorem more_gd {ex:List Tok→PR Barb.Expr} (hx:∀ l,RdOk l→Gd Expr.I (ex l)) (hs:Shr ex) (hm:Cl ex):∀ (n:Nat) (acc:List Barb.Expr) (l:List Tok),RdOk l→(∀ x∈acc,Expr.I x)→acc.length+l.length≤3001→Gd (fun r=>(∀ x∈r,Expr.I x)∧r.length≤3001) (moreP ex n acc l)
 | 0,_,_,_,_,_=>.inl rfl
 | n+1,acc,l,hl,ha,hn=>by
  simp only[moreP]
  split
  ·rename_i l1 h1
   have h1':=(take_some h1).2
   refine (hx l1 (hl.take h1)).then (fun b l2 e hb=>?_)
   have:=hs _ _ _ e
   refine more_gd hx hs hm n _ _ ((hl.take h1).next hs hm e) (fun x hx'=>?_) (by simp;omega)
   rcases List.mem_append.1 hx' with h | h
   ·exact ha x h
   ·rw[List.mem_singleton.1 h];exact hb
  ·refine (must_gd _ _).then (fun _ l1 _ _=>⟨ha,by omega⟩)
theorem list_gd {ex:List Tok→PR Barb.Expr} (hx:∀ l,RdOk l→Gd Expr.I (ex l)) (hs:Shr ex) (hm:Cl ex) (l:List Tok) (hl:RdOk l):Gd (fun r=>(∀ x∈r,Expr.I x)∧r.length≤3001) (listP ex l):=by
 unfold listP
 split
 ·exact ⟨by simp,by simp⟩
 ·refine (hx l hl).then (fun a l1 e ha=>?_)
  have h1:=hs _ _ _ e
  have h2:=hl.1
  exact more_gd hx hs hm _ _ _ (hl.next hs hm e) (by simpa using ha) (by simp;omega)
theorem ex_I {k n:Int} {of s:Str} {args:List Barb.Expr} (hk:I64 k) (hn:I64 n) (ho:of.length≤3000) (hs:s.length≤3000) (ha:(∀ x∈args,Expr.I x)∧args.length≤3001):Expr.I (.mk k n of s args) :=
 .mk hk hn (by unfold maxLen;omega) (by unfold maxLen;omega) (by have:=ha.2;omega) ha.1
theorem term_gd {ex:List Tok→PR Barb.Expr} (hx:∀ l,RdOk l→Gd Expr.I (ex l)) (hs:Shr ex) (hm:Cl ex) (l:List Tok) (hl:RdOk l):Gd Expr.I (termP ex l):=by
 have no:(∀ x∈([]:List Barb.Expr),Expr.I x)∧([]:List Barb.Expr).length≤3001:=⟨by simp,by simp⟩
 unfold termP
 split
 ·rename_i l1 h1
  have o1:=hl.take h1
  refine (hx l1 o1).then (fun a l2 e2 ha=>?_)
  have o2:=o1.next hs hm e2
  split
  ·exact .inl rfl
  ·refine (hx _ o2.tail).then (fun b l3 e3 hb=>?_)
   refine (must_gd _ _).then (fun _ l4 _ _=>?_)
   exact ex_I (by unfold I64;omega) (opP_i _) (by simp) (by simp) ⟨by simp[ha,hb],by simp⟩
 ·split
  ·exact (num_gd l).then (fun n l1 _ hn=>ex_I (by unfold I64;omega) hn (by simp) (by simp) no)
  ·refine (name_gd hl).then (fun s l1 e1 hs1=>?_)
   have o1:=hl.next name_shr name_mem e1
   split
   ·rename_i l2 h2
    refine (hx l2 (o1.take h2)).then (fun a l3 e3 ha=>?_)
    exact (must_gd _ _).then (fun _ l4 _ _=>ex_I (by unfold I64;omega) (by unfold I64;omega) (by simp) hs1 ⟨by simpa using ha,by simp⟩)
   ·split
    ·rename_i l2 h2
     exact (list_gd hx hs hm l2 (o1.take h2)).then (fun xs l3 e3 ha=>ex_I (by unfold I64;omega) (by unfold I64;omega) (by simp) hs1 ha)
    ·split
     ·rename_i l2 h2
      have o2:=o1.take h2
      refine (name_gd o2).then (fun g l3 e3 hg=>?_)
      have o3:=o2.next name_shr name_mem e3
      refine (must_gd _ _).then (fun _ l4 e4 _=>?_)
      exact (list_gd hx hs hm l4 (o3.next (must_shr _) (must_mem _) e4)).then (fun xs l5 e5 ha=>ex_I (by unfold I64;omega) (by unfold I64;omega) hs1 hg ha)
     ·exact ex_I (by unfold I64;omega) (by unfold I64;omega) (by simp) hs1 no
theorem expr_gd:∀ (f:Nat) (l:List Tok),RdOk l→Gd Expr.I (exprP f l)
 | 0,_,_=>.inr rfl
 | f+1,l,h=>term_gd (expr_gd f) (expr_shr f) (expr_mem f) l h
theorem stmts_gd {st:List Tok→PR Barb.Stmt} (hx:∀ l,RdOk l→Gd Stmt.I (st l)) (hs:Shr st) (hm:Cl st):∀ (n:Nat) (acc:List Barb.Stmt) (l:List Tok),RdOk l→(∀ x∈acc,Stmt.I x)→acc.length+l.length≤3001→Gd (fun r=>(∀ x∈r,Stmt.I x)∧r.length≤3001) (stmtsP st n acc l)
 | 0,_,_,_,_,_=>.inl rfl
 | n+1,acc,l,hl,ha,hn=>by
  simp only[stmtsP]
  split
  ·exact ⟨ha,by omega⟩
  ·refine (hx l hl).then (fun b l2 e hb=>?_)
   have:=hs _ _ _ e
   refine stmts_gd hx hs hm n _ _ (hl.next hs hm e) (fun x hx'=>?_) (by simp;omega)
   rcases List.mem_append.1 hx' with h | h
   ·exact ha x h
   ·rw[List.mem_singleton.1 h];exact hb
theorem block_gd {st:List Tok→PR Barb.Stmt} (hx:∀ l,RdOk l→Gd Stmt.I (st l)) (hs:Shr st) (hm:Cl st) (l:List Tok) (hl:RdOk l):Gd (fun r=>(∀ x∈r,Stmt.I x)∧r.length≤3001) (blockP st l):=by
 unfold blockP
 refine (must_gd _ _).then (fun _ l1 e1 _=>?_)
 have o1:=hl.next (must_shr _) (must_mem _) e1
 exact stmts_gd hx hs hm _ _ _ o1 (by simp) (by have:=o1.1;simp;omega)
theorem st_I {k:Int} {s:Str} {xs:List Barb.Expr} {b e:List Barb.Stmt} (hk:I64 k) (hs:s.length≤3000) (hx:(∀ x∈xs,Expr.I x)∧xs.length≤3001) (hb:(∀ x∈b,Stmt.I x)∧b.length≤3001) (he:(∀ x∈e,Stmt.I x)∧e.length≤3001):Stmt.I (.mk k s xs b e) :=
 .mk hk (by unfold maxLen;omega) (by have:=hx.2;omega) (by have:=hb.2;omega) (by have:=he.2;omega) hx.1 hb.1 he.1
theorem do_gd {st:List Tok→PR Barb.Stmt} {ex:List Tok→PR Barb.Expr} (hx:∀ l,RdOk l→Gd Expr.I (ex l)) (hsx:Shr ex) (hmx:Cl ex) (ht:∀ l,RdOk l→Gd Stmt.I (st l)) (hs:Shr st) (hm:Cl st) (l:List Tok) (hl:RdOk l):Gd Stmt.I (doP st ex l):=by
 have no:(∀ x∈([]:List Barb.Stmt),Stmt.I x)∧([]:List Barb.Stmt).length≤3001:=⟨by simp,by simp⟩
 have fin:∀ (k:Int) (s:Str) (xs:List Barb.Expr) (l:List Tok),RdOk l→I64 k→s.length≤3000→(∀ x∈xs,Expr.I x)→xs.length≤3000→Gd Stmt.I ((ex l).then fun x l1=>(mustP [59] l1).then fun _ l2=>.ok (.mk k s (xs++[x]) [] []) l2):=fun k s xs l ho hk hs hxs hn=>by
  refine (hx l ho).then (fun x l1 e1 h1=>?_)
  refine (must_gd _ _).then (fun _ l2 _ _=>?_)
  refine st_I hk hs ⟨fun y hy=>?_,by simp;omega⟩ no no
  rcases List.mem_append.1 hy with h | h
  ·exact hxs y h
  ·rw[List.mem_singleton.1 h];exact h1
 unfold doP
 split
 ·rename_i l1 h1
  have o1:=hl.take h1
  refine (hx l1 o1).then (fun x l2 e2 h2=>?_)
  have o2:=o1.next hsx hmx e2
  refine (block_gd ht hs hm l2 o2).then (fun b l3 e3 h3=>?_)
  have o3:=o2.next (block_shr hs) (block_mem hm) e3
  split
  ·rename_i l4 h4
   exact (block_gd ht hs hm l4 (o3.take h4)).then (fun c l5 e5 h5=>st_I (by unfold I64;omega) (by simp) ⟨by simpa using h2,by simp⟩ h3 h5)
  ·exact st_I (by unfold I64;omega) (by simp) ⟨by simpa using h2,by simp⟩ h3 no
 ·split
  ·rename_i l1 h1
   have o1:=hl.take h1
   refine (hx l1 o1).then (fun x l2 e2 h2=>?_)
   have o2:=o1.next hsx hmx e2
   exact (block_gd ht hs hm l2 o2).then (fun b l3 e3 h3=>st_I (by unfold I64;omega) (by simp) ⟨by simpa using h2,by simp⟩ h3 no)
  ·dsimp only
   split
   ·rename_i l1 h1
    exact fin 5 [] [] l1 (hl.take h1) (by unfold I64;omega) (by simp) (by simp) (by simp)
   ·split
    ·rename_i l1 h1
     exact fin 6 [] [] l1 (hl.take h1) (by unfold I64;omega) (by simp) (by simp) (by simp)
    ·refine (name_gd hl).then (fun s l1 e1 hs1=>?_)
     have o1:=hl.next name_shr name_mem e1
     split
     ·rename_i l2 h2
      have o2:=o1.take h2
      refine (hx l2 o2).then (fun x l3 e3 h3=>?_)
      have o3:=o2.next hsx hmx e3
      refine (must_gd _ _).then (fun _ l4 e4 _=>?_)
      have o4:=o3.next (must_shr _) (must_mem _) e4
      refine (must_gd _ _).then (fun _ l5 e5 _=>?_)
      exact fin 2 s [x] l5 (o4.next (must_shr _) (must_mem _) e5) (by unfold I64;omega) hs1 (by simpa using h3) (by simp)
     ·refine (must_gd _ _).then (fun _ l2 e2 _=>?_)
      exact fin 1 s [] l2 (o1.next (must_shr _) (must_mem _) e2) (by unfold I64;omega) hs1 (by simp) (by simp)
theorem stmt_gd:∀ (f:Nat) (l:List Tok),RdOk l→Gd Stmt.I (stmtP f l)
 | 0,_,_=>.inr rfl
 | f+1,l,h=>do_gd (expr_gd f) (expr_shr f) (expr_mem f) (stmt_gd f) (stmt_shr f) (stmt_mem f) l h
theorem pars_gd:∀ (n:Nat) (acc:List Str) (l:List Tok),RdOk l→(∀ x∈acc,x.length≤3000)→acc.length+l.length≤3001→Gd (fun r:List Str=>(∀ x∈r,x.length≤3000)∧r.length≤3001) (parsP n acc l)
 | 0,_,_,_,_,_=>.inl rfl
 | n+1,acc,l,hl,ha,hn=>by
  simp only[parsP]
  split
  ·exact ⟨ha,by omega⟩
  ·have h0:Gd (fun _=>True) (if acc=[] then .ok ⟨⟩ l else mustP [44] l:PR PUnit):=by
    split
    ·trivial
    ·exact must_gd _ _
   refine h0.then (fun _ l1 e1 _=>?_)
   have o1:RdOk l1∧l1.length≤l.length:=by
    split at e1
    ·injection e1 with _ e1;subst e1;exact ⟨hl,Nat.le_refl _⟩
    ·exact ⟨hl.next (must_shr _) (must_mem _) e1,Nat.le_of_lt (must_shr _ _ _ _ e1)⟩
   refine (name_gd o1.1).then (fun s l2 e2 hs=>?_)
   have:=name_shr _ _ _ e2
   refine pars_gd n _ _ (o1.1.next name_shr name_mem e2) (fun x hx=>?_) (by simp;omega)
   rcases List.mem_append.1 hx with h | h
   ·exact ha x h
   ·rw[List.mem_singleton.1 h];exact hs
theorem strs_I {l:List Str} (h:(∀ x∈l,x.length≤3000)∧l.length≤3001):strsI l:=⟨fun s hs=>by have:=h.1 s hs;unfold maxLen;omega,by have:=h.2;omega⟩
theorem fun_gd (o:Bool) (l:List Tok) (hl:RdOk l):Gd Fun.I (funP o l):=by
 unfold funP
 refine (name_gd hl).then (fun s l1 e1 h1=>?_)
 have o1:=hl.next name_shr name_mem e1
 refine (must_gd _ _).then (fun _ l2 e2 _=>?_)
 have o2:=o1.next (must_shr _) (must_mem _) e2
 refine (pars_gd _ [] l2 o2 (by simp) (by have:=o2.1;simp;omega)).then (fun ps l3 e3 h3=>?_)
 have o3:RdOk l3:=o2.next (pars_shr _ _) (pars_mem _ _) e3
 refine (block_gd (stmt_gd 48) (stmt_shr 48) (stmt_mem 48) l3 o3).then (fun b l4 e4 h4=>?_)
 exact ⟨by unfold maxLen;dsimp only;omega,strs_I h3,by have:=h4.2;dsimp only;omega,h4.1⟩
theorem vars_gd:∀ (n:Nat) (acc:List Str) (l:List Tok),RdOk l→(∀ x∈acc,x.length≤3000)→acc.length+l.length≤3001→Gd (fun r:List Str=>(∀ x∈r,x.length≤3000)∧r.length≤3001) (varsP n acc l)
 | 0,_,_,_,_,_=>.inl rfl
 | n+1,acc,l,hl,ha,hn=>by
  simp only[varsP]
  split
  ·rename_i l1 h1
   have:=(take_some h1).2
   have o1:=hl.take h1
   refine (name_gd o1).then (fun s l2 e2 hs=>?_)
   have:=name_shr _ _ _ e2
   refine vars_gd n _ _ (o1.next name_shr name_mem e2) (fun x hx=>?_) (by simp;omega)
   rcases List.mem_append.1 hx with h | h
   ·exact ha x h
   ·rw[List.mem_singleton.1 h];exact hs
  ·exact ⟨ha,by omega⟩
theorem arrs_gd:∀ (n:Nat) (acc:List Arr) (l:List Tok),RdOk l→(∀ x∈acc,x.I)→acc.length+l.length≤3001→Gd (fun r:List Arr=>(∀ x∈r,x.I)∧r.length≤3001) (arrsP n acc l)
 | 0,_,_,_,_,_=>.inl rfl
 | n+1,acc,l,hl,ha,hn=>by
  simp only[arrsP]
  split
  ·rename_i l1 h1
   have:=(take_some h1).2
   have o1:=hl.take h1
   refine (name_gd o1).then (fun s l2 e2 hs=>?_)
   have:=name_shr _ _ _ e2
   refine (num_gd l2).then (fun k l3 e3 hk=>?_)
   have:=num_shr _ _ _ e3
   refine arrs_gd n _ _ ((o1.next name_shr name_mem e2).next num_shr num_mem e3) (fun x hx=>?_) (by simp;omega)
   rcases List.mem_append.1 hx with h | h
   ·exact ha x h
   ·rw[List.mem_singleton.1 h];exact ⟨by unfold maxLen;dsimp only;omega,hk⟩
  ·exact ⟨ha,by omega⟩
theorem funs_gd:∀ (n:Nat) (acc:List Fun) (l:List Tok),RdOk l→(∀ x∈acc,x.I)→acc.length+l.length≤3001→Gd (fun r:List Fun=>(∀ x∈r,x.I)∧r.length≤3001) (funsP n acc l)
 | 0,_,_,_,_,_=>.inl rfl
 | n+1,acc,l,hl,ha,hn=>by
  have step:∀ (o:Bool) (l1:List Tok),RdOk l1→l1.length≤l.length→Gd (fun r:List Fun=>(∀ x∈r,x.I)∧r.length≤3001) ((funP o l1).then fun f l2=>funsP n (acc++[f]) l2):=fun o l1 o1 hle=>by
   refine (fun_gd o l1 o1).then (fun f l2 e2 hf=>?_)
   have:=fun_shr _ _ _ _ e2
   refine funs_gd n _ _ (o1.next (fun_shr o) (fun_mem o) e2) (fun x hx=>?_) (by simp;omega)
   rcases List.mem_append.1 hx with h | h
   ·exact ha x h
   ·rw[List.mem_singleton.1 h];exact hf
  simp only[funsP]
  split
  ·exact ⟨ha,by omega⟩
  ·split
   ·rename_i l1 h1
    exact step true l1 (hl.take h1) (by have:=(take_some h1).2;omega)
   ·refine (must_gd _ _).then (fun _ l1 e1 _=>?_)
    exact step false l1 (hl.next (must_shr _) (must_mem _) e1) (Nat.le_of_lt (must_shr _ _ _ _ e1))
theorem vars_le:∀ (n:Nat) (acc:List Str) (l:List Tok) (r:List Str) (l':List Tok),RdOk l→varsP n acc l=.ok r l'→RdOk l'
 | 0,_,_,_,_,_,h=>by cases h
 | n+1,acc,l,r,l',hl,h=>by
  simp only[varsP] at h
  split at h
  ·rename_i l1 h1
   obtain ⟨s,l2,h2,h⟩:=then_ok h
   exact vars_le n _ _ _ _ ((hl.take h1).next name_shr name_mem h2) h
  ·injection h with _ h;subst h;exact hl
theorem arrs_le:∀ (n:Nat) (acc:List Arr) (l:List Tok) (r:List Arr) (l':List Tok),RdOk l→arrsP n acc l=.ok r l'→RdOk l'
 | 0,_,_,_,_,_,h=>by cases h
 | n+1,acc,l,r,l',hl,h=>by
  simp only[arrsP] at h
  split at h
  ·rename_i l1 h1
   obtain ⟨s,l2,h2,h⟩:=then_ok h
   obtain ⟨k,l3,h3,h⟩:=then_ok h
   exact arrs_le n _ _ _ _ (((hl.take h1).next name_shr name_mem h2).next num_shr num_mem h3) h
  ·injection h with _ h;subst h;exact hl
theorem unit_gd (l:List Tok) (hl:RdOk l):Gd Barb.Unit.I (unitP l):=by
 unfold unitP
 refine (must_gd _ _).then (fun _ l1 e1 _=>?_)
 have o1:=hl.next (must_shr _) (must_mem _) e1
 refine (name_gd o1).then (fun s l2 e2 hs=>?_)
 have o2:=o1.next name_shr name_mem e2
 refine (vars_gd _ [] l2 o2 (by simp) (by have:=o2.1;simp;omega)).then (fun vs l3 e3 h3=>?_)
 have o3:=vars_le _ _ _ _ _ o2 e3
 refine (arrs_gd _ [] l3 o3 (by simp) (by have:=o3.1;simp;omega)).then (fun as_ l4 e4 h4=>?_)
 have o4:=arrs_le _ _ _ _ _ o3 e4
 refine (funs_gd _ [] l4 o4 (by simp) (by have:=o4.1;simp;omega)).then (fun fs l5 e5 h5=>?_)
 exact ⟨by unfold maxLen;dsimp only;omega,strs_I h3,h4.1,by have:=h4.2;dsimp only;omega,h5.1,by have:=h5.2;dsimp only;omega⟩
theorem cutO_texts:∀ (f:Nat) (s:Str) (l:List Tok),cutO f s=some l→∀ t∈l,t.text.length≤s.length
 | _,[],l,h=>by
  unfold cutO at h
  injection h with h;subst h;simp
 | 0,c :: s,l,h=>by simp[cutO] at h
 | f+1,c :: s,l,h=>by
  unfold cutO at h
  split at h
  ·intro t ht
   have:=cutO_texts f s l h t ht
   simp;omega
  ·split at h
   ·cases h
   ·rename_i t0 h0
    cases h1:cutO f ((c :: s).drop t0.text.length) with
    | none=>rw[h1] at h;cases h
    | some l1 =>
     rw[h1] at h
     injection h with h
     subst h
     intro t ht
     rcases List.mem_cons.1 ht with rfl | ht
     ·exact (tok_len h0).2.1
     ·have:=cutO_texts f _ l1 h1 t ht
      have h2:((c :: s).drop t0.text.length).length≤(c :: s).length:=by simp
      omega
theorem cut_ok (s:Str):RdOk (cutL s):=by
 unfold cutL
 split
 ·exact ⟨by simp,by simp⟩
 ·rename_i hs
  cases h:cutF s with
  | none=>exact ⟨by simp,by simp⟩
  | some l =>
   have h1:=cutO_len _ _ _ h
   have h2:=cutO_texts _ _ _ h
   refine ⟨by show l.length≤3000;omega,fun t ht=>?_⟩
   have:=h2 t ht
   omega
noncomputable def readR (s:Str):Barb.Unit × Int :=
 if cutE s≠0 then (u0,cutE s) else match unitP (cutL s) with
  | .bad e=>(u0,e)
  | .ok u _=>if unitE u≠0 then (u0,unitE u) else (u,0)
theorem readR_cut {s:Str} (h:cutE s≠0):readR s=(u0,cutE s):=by unfold readR;rw[if_pos h]
theorem readR_bad {s:Str} {e:Int} (h:cutE s=0) (h2:unitP (cutL s)=.bad e):readR s=(u0,e):=by unfold readR;rw[if_neg (Classical.not_not.2 h),h2]
theorem readR_check {s:Str} {u:Barb.Unit} {l:List Tok} (h:cutE s=0) (h2:unitP (cutL s)=.ok u l) (h3:unitE u≠0):readR s=(u0,unitE u):=by unfold readR;rw[if_neg (Classical.not_not.2 h),h2];dsimp only;rw[if_pos h3]
theorem readR_ok {s:Str} {u:Barb.Unit} {l:List Tok} (h:cutE s=0) (h2:unitP (cutL s)=.ok u l) (h3:unitE u=0):readR s=(u,0):=by unfold readR;rw[if_neg (Classical.not_not.2 h),h2];dsimp only;rw[if_neg (Classical.not_not.2 h3)]
theorem Read_any {L:Lv} (s:Str) (hs:s.length≤9223372036854775807):CT Tryd.prog (gl L) 8 [.g (.str s)] (Is (.tuple [.agg (readR s).1.d,.g (.int (readR s).2)])):=by
 suffices H:∀ r,readR s=r→CT Tryd.prog (gl L) 8 [.g (.str s)] (Is (.tuple [.agg r.1.d,.g (.int r.2)])) from H _ rfl
 intro r hr
 have hC:=Cut_any (L:=L) s hs
 have hP:=parse_any (L:=L) (cutL s) (cut_ok s)
 have hG:=unit_gd (cutL s) (cut_ok s)
 by_cases h0:cutE s=0
 ·cases h1:unitP (cutL s) with
  | bad e =>
   rw[h1] at hP hG
   have he:e≠0:=by
    have hG:e=4∨e=1:=hG
    omega
   rw[readR_bad h0 h1] at hr
   subst hr
   refine enter hT hF hM Tryd.func8 rfl 30 rfl (by kernel_rfl) [.cell 2 26,.tmp 3] rfl [.g (.str s)] rfl _ ?_
   refine callIs (.inl rfl) hC ?_
   refine ⟨fun h=>absurd h0 h,fun _=>?_⟩
   refine callIs (.inl rfl) hP ?_
   refine ⟨fun h=>absurd h he,fun _=>?_⟩
   refine ⟨fun _=>?_,fun h=>absurd h he⟩
   exact ⟨rfl,retIs (.inr (likeZ e))⟩
  | ok u l' =>
   rw[h1] at hP hG
   have hI:u.I:=hG
   have hK:=TreeCheck_any (L:=L) u hI
   by_cases h2:unitE u=0
   ·rw[readR_ok h0 h1 h2] at hr
    subst hr
    refine enter hT hF hM Tryd.func8 rfl 30 rfl (by kernel_rfl) [.cell 2 26,.tmp 3] rfl [.g (.str s)] rfl _ ?_
    refine callIs (.inl rfl) hC ?_
    refine ⟨fun h=>absurd h0 h,fun _=>?_⟩
    refine callIs (.inl rfl) hP ?_
    refine ⟨fun _=>?_,fun h=>absurd rfl h⟩
    refine callIs (.inl rfl) hK ?_
    refine ⟨fun h=>absurd h2 h,fun _=>?_⟩
    exact ⟨rfl,retIs (.inl rfl)⟩
   ·rw[readR_check h0 h1 h2] at hr
    subst hr
    refine enter hT hF hM Tryd.func8 rfl 30 rfl (by kernel_rfl) [.cell 2 26,.tmp 3] rfl [.g (.str s)] rfl _ ?_
    refine callIs (.inl rfl) hC ?_
    refine ⟨fun h=>absurd h0 h,fun _=>?_⟩
    refine callIs (.inl rfl) hP ?_
    refine ⟨fun _=>?_,fun h=>absurd rfl h⟩
    refine callIs (.inl rfl) hK ?_
    refine ⟨fun _=>?_,fun h=>absurd h h2⟩
    exact ⟨rfl,retIs (.inr (likeZ (unitE u)))⟩
 ·rw[readR_cut h0] at hr
  subst hr
  refine enter hT hF hM Tryd.func8 rfl 30 rfl (by kernel_rfl) [.cell 2 26,.tmp 3] rfl [.g (.str s)] rfl _ ?_
  refine callIs (.inl rfl) hC ?_
  refine ⟨fun _=>?_,fun h=>absurd h h0⟩
  exact ⟨rfl,retIs (.inr (likeZ (cutE s)))⟩
end Go.Proofs.YtabjelabdojpkaaDoor
