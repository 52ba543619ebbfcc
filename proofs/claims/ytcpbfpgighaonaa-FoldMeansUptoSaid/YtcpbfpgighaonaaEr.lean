/-
  eval: a call that is run to its end, whatever stops it.
-/
import Derived.Test.YtcpbfpgighaonaaEt
import Derived.Test.YtcpbfpgighaonaaTq
namespace Go.Proofs.Ytcpbfpgighaonaa
open Go Go.Dm Go.Eng Go.RowKit Barb
abbrev CH (p:List Barb.Unit) (N:List CN) (R:Value) (s:ES) (a b:Int) (c:D):Heap :=
 [.blk [.g (.int a),.g (.int b),c] 59,.blk [.ptr 2 0] 55,.blk (rC p N 4 s.fuel) 57,.many (mz N s) [(R,2)],.row (tz s) 3 1]
theorem rel24 {C:Dm.Ctx} {h:Heap} {β:Nat→Value} {V:Nat→Prop} {w:World} {tm:Array Value} (hsz:tm.size=24) (h0:RepD h β V w (.ptr 0 0) (tm.getD 0 undef)) (h1:RepD h β V w (.ptr 1 0) (tm.getD 1 undef)) (hrel:RelD C h β V w) :
  Rel C 24 ⟨fun k=>bif Nat.beq k 0 then .ptr 0 0 else bif Nat.beq k 1 then .ptr 1 0 else .any,h,[]⟩ { tmps:=tm,defers:=[] } w:=by
 refine ⟨hsz,rfl,β,V,hrel,fun k=>?_⟩
 show RepD _ _ _ _ (bif Nat.beq k 0 then .ptr 0 0 else bif Nat.beq k 1 then .ptr 1 0 else .any) (tm.getD k undef)
 cases hk:Nat.beq k 0 with
 | true=>rw[Nat.eq_of_beq_eq_true hk];exact h0
 | false =>
  cases hk1:Nat.beq k 1 with
  | true=>rw[Nat.eq_of_beq_eq_true hk1];exact h1
  | false=>simp only[cond_false,RepD]
theorem rel24b {C:Dm.Ctx} {h:Heap} {β:Nat→Value} {V:Nat→Prop} {w:World} {tm:Array Value} (hsz:tm.size=24) (h0:RepD h β V w (.ptr 0 0) (tm.getD 0 undef)) (h1:RepD h β V w (.ptr 1 0) (tm.getD 1 undef)) (h3:RepD h β V w (.ptr 5 0) (tm.getD 3 undef)) (h4:tm.getD 4 undef=.bool true) (hrel:RelD C h β V w) :
  Rel C 24 ⟨fun k=>bif Nat.beq k 0 then .ptr 0 0 else bif Nat.beq k 1 then .ptr 1 0 else bif Nat.beq k 3 then .ptr 5 0 else bif Nat.beq k 4 then .g (.bool true) else .any,h,[]⟩ { tmps:=tm,defers:=[] } w:=by
 refine ⟨hsz,rfl,β,V,hrel,fun k=>?_⟩
 show RepD _ _ _ _ (bif Nat.beq k 0 then .ptr 0 0 else bif Nat.beq k 1 then .ptr 1 0 else bif Nat.beq k 3 then .ptr 5 0 else bif Nat.beq k 4 then .g (.bool true) else .any) (tm.getD k undef)
 cases hk:Nat.beq k 0 with
 | true=>rw[Nat.eq_of_beq_eq_true hk];exact h0
 | false =>
 cases hk1:Nat.beq k 1 with
 | true=>rw[Nat.eq_of_beq_eq_true hk1];exact h1
 | false =>
 cases hk3:Nat.beq k 3 with
 | true=>rw[Nat.eq_of_beq_eq_true hk3];exact h3
 | false =>
 cases hk4:Nat.beq k 4 with
 | true=>rw[Nat.eq_of_beq_eq_true hk4,h4];simp only[cond_false,cond_true,RepD,RepV]
 | false=>simp only[cond_false,RepD]
theorem closeEnd {p:List Barb.Unit} {N:List CN} {R:Value} {s:ES} {a b a2 b2:Int} {w w':World} {β β':Nat→Value} {V V':Nat→Prop} {rest:Heap} {env':Dm.Env} {a':Act} (hrel0:RelD ⟨w,ownB (CH p N R s a b .nils) β,V,[]⟩ (CH p N R s a b .nils) β V w)
  (h0:RepD (CH p N R s a b .nils) β V w (.ptr 0 0) (a'.tmps.getD 0 undef)) (h1:RepD (CH p N R s a b .nils) β V w (.ptr 1 0) (a'.tmps.getD 1 undef)) (e0:env' 0=.ptr 0 0) (e1:env' 1=.ptr 1 0)
  (q1:RelD ⟨w,ownB (CH p N R s a b .nils) β,V,[]⟩ (CH p N R s a2 b2 (.row 4)++rest) β' V' w') (q2:EnvOk ⟨env',CH p N R s a2 b2 (.row 4)++rest,[]⟩ β' V' w' a') :
  ∃ β'' V'',RelD ⟨w,ownB (CH p N R s a b .nils) β,V,[]⟩ (CH p N R s a2 b2 (.row 4)) β'' V'' w'∧∀ i,i < 4→Stays (CH p N R s a b .nils) (CH p N R s a2 b2 (.row 4)) β β'' i:=by
 have hE:=@toH_end [] w w' (CH p N R s a b .nils) β V [0,1] 3 [some R,none] a' hrel0 ⟨List.mem_cons_self,trivial,trivial⟩ rfl (by simp only[ptrsD,List.map_cons,List.map_nil,RepDL];exact ⟨_,_,rfl,h0,_,_,rfl,h1,rfl⟩)
  ⟨env',CH p N R s a2 b2 (.row 4)++rest,[]⟩ β' V' (fun _ h=>h=CH p N R s a2 b2 (.row 4)) (.tuple []) (.tuple ⟨[]⟩) q1 q2 (by simp only[RepD,RepDL];exact ⟨[],rfl,rfl⟩)
  (orS_l ⟨[.old 0,.old 1,.old 2,.old 3,.old 4],.tuple [],CH p N R s a2 b2 (.row 4),⟨rfl,.inl rfl,.inl (by simp only[List.map_cons,List.map_nil];rw[e0,e1];rfl),rfl⟩,rfl,⟨List.mem_cons_self,⟨trivial,rfl⟩,trivial,trivial⟩,rfl⟩)
 obtain ⟨_,h',β'',V'',rfl,r1,_,r3⟩:=hE
 exact ⟨β'',V'',r1,r3⟩
theorem run1_idle (p:List Barb.Unit) (N:List CN) (R:Value) (s:ES) (a b:Int) {w:World} {β:Nat→Value} {V:Nat→Prop} (v0 v1:Value) (hrel:RelD ⟨w,ownB (CH p N R s a b .nils) β,V,[]⟩ (CH p N R s a b .nils) β V w) (h0:RepD (CH p N R s a b .nils) β V w (.ptr 0 0) v0) (h1:RepD (CH p N R s a b .nils) β V w (.ptr 1 0) v1) :
  CallsD Try.prog 43 #[v0,v1] .returning w fun e u' w'=>e=.returned (.tuple #[])∧u'=.returning∧∃ β' V',RelD ⟨w,ownB (CH p N R s a b .nils) β,V,[]⟩ (CH p N R s a b (.row 4)) β' V' w'∧∀ i,i < 4→Stays (CH p N R s a b .nils) (CH p N R s a b (.row 4)) β β' i:=by
 refine callsD_of_wpS Try.func43 rfl fun c₀ cs hu=>?_
 apply wpS_seq
 apply wpS_seq
 apply wpS_region
 simp[wpOpsS,go_sem,recoverD,hu,Try.ntmps43,Exit.thenS]
 apply wpS_seq
 apply wpS_region
 simp[wpOpsS,go_sem,Exit.thenS]
 refine wpS_cond (t:=false) (by simp[Act.eval,Array.replicate]) ?_
 simp only[Bool.false_eq_true,if_false]
 refine wpS_of_wp (wp_skip ?_)
 simp only[Exit.thenS]
 refine wpS_of_wp ?_
 generalize hT':(#[v0,v1]++((((Array.replicate 22 undef).setIfInBounds 3 Value.nilIface).setIfInBounds 0 Value.nilIface).setIfInBounds 4 Value.nilIface).setIfInBounds 5 (Value.bool false):Array Value)=tm
 have hsz:tm.size=24:=by rw[← hT'];simp
 have ht0:tm.getD 0 undef=v0:=by rw[← hT'];simp
 have ht1:tm.getD 1 undef=v1:=by rw[← hT'];simp
 clear hT'
 rw[← ht0] at h0
 rw[← ht1] at h1
 refine Code.wp_mono ?_ (vcS_sound [] hT hF hM.ok _ [19,20,21,22,23] (by decide) (by decide) ⟨w,ownB (CH p N R s a b .nils) β,V,[]⟩ _ _ w (fun x st'=>x=.normal∧st'.env 0=.ptr 0 0∧st'.env 1=.ptr 1 0∧st'.df=[]∧st'.h=CH p N R s a b (.row 4)) ?_ (rel24 hsz h0 h1 hrel))
 ·rintro e a' w' ⟨hk,x,⟨env',h',df'⟩,⟨rfl,e0,e1,e2,e3⟩,hx⟩
  dsimp only at e0 e1 e2 e3
  subst e2;subst e3
  cases e<;>try exact hx.elim
  obtain ⟨_,hdf,β',V',q1,q2⟩:=hx
  obtain ⟨β'',V'',r1,r2⟩:=closeEnd (rest:=[]) (a':=a') hrel (by rw[hk 0 rfl];exact h0) (by rw[hk 1 rfl];exact h1) e0 e1 q1 q2
  exact ⟨hdf,.returning,by cases c₀;simp_all,_,by simp[results,Try.f43],rfl,rfl,β'',⟨V'',r1⟩,r2⟩
 ·exact .inl ⟨rfl,rfl,rfl,rfl,rfl⟩
theorem assert_stop (v:Value) (xT:TypeId) (w:World):(Instr.typeAssert (.iface 87 v) xT 87 true).run Try.prog w=.ok (.tuple #[v,.bool true]) w:=by kernel_rfl
theorem run1_stop (p:List Barb.Unit) (N:List CN) (R:Value) (s:ES) (a b x:Int) {w:World} {β:Nat→Value} {V:Nat→Prop} (v0 v1:Value) (hrel:RelD ⟨w,ownB (CH p N R s a b .nils) β,V,[]⟩ (CH p N R s a b .nils) β V w) (h0:RepD (CH p N R s a b .nils) β V w (.ptr 0 0) v0) (h1:RepD (CH p N R s a b .nils) β V w (.ptr 1 0) v1) :
  CallsD Try.prog 43 #[v0,v1] (.panicking [{ v:=.iface 87 (.agg #[.int .i64 x]),recovered:=false }]) w fun e u' w'=>e=.returned (.tuple #[])∧u'=.panicking [{ v:=.iface 87 (.agg #[.int .i64 x]),recovered:=true }]∧∃ β' V',RelD ⟨w,ownB (CH p N R s a b .nils) β,V,[]⟩ (CH p N R s x 0 (.row 4)) β' V' w'∧∀ i,i < 4→Stays (CH p N R s a b .nils) (CH p N R s x 0 (.row 4)) β β' i:=by
 refine callsD_of_wpS Try.func43 rfl fun c₀ cs hu=>?_
 apply wpS_seq
 apply wpS_seq
 apply wpS_region
 simp[wpOpsS,go_sem,recoverD,hu,Try.ntmps43,Exit.thenS]
 apply wpS_seq
 apply wpS_region
 simp[wpOpsS,go_sem,Exit.thenS]
 refine wpS_cond (t:=true) (by simp[Act.eval,Array.replicate]) ?_
 simp only[if_true]
 apply wpS_seq
 apply wpS_region
 simp[wpOpsS,go_sem,Exit.thenS,assert_stop]
 refine wpS_of_wp ?_
 have hal:=hrel.alloc_blk [.g (.int x)] [.int .i64 x] 87 (by simp only[RepDL,RepD,RepV];exact ⟨_,_,rfl,rfl,rfl⟩)
 have hle:=le_snoc (CH p N R s a b .nils) β (.blk [.g (.int x)] 87) (.pointer (some ⟨w.heap.size,0,none⟩))
 have hmv:Moved V w V (w.alloc (.cells #[.int .i64 x] 87)):=hrel.moved (fr_alloc w _) (fun k hk=>hk.elim)
 refine Code.wp_mono ?_ (vcS_sound [] hT hF hM.ok _ [13,14,15,16,17,18] (by decide) (by decide) ⟨w,ownB (CH p N R s a b .nils) β,V,[]⟩ _ _ _ (fun y st'=>y=.normal∧st'.env 0=.ptr 0 0∧st'.env 1=.ptr 1 0∧st'.df=[]∧st'.h=CH p N R s x 0 .nils++[.blk [.g (.int x)] 87]) ?_
  (rel24b (h:=CH p N R s a b .nils++[.blk [.g (.int x)] 87]) (by simp) (by simpa using RepD.mono hle hmv _ _ h0) (by simpa using RepD.mono hle hmv _ _ h1) ?_ (by simp) hal))
 ·rintro e a' w' ⟨hk,y,⟨env',h',df'⟩,⟨rfl,e0,e1,e2,e3⟩,hx⟩
  dsimp only at e0 e1 e2 e3
  subst e2;subst e3
  cases e<;>try exact hx.elim
  simp only[Exit.thenS]
  refine wpS_of_wp ?_
  have hv0:a'.tmps.getD 0 undef=v0:=(hk 0 rfl).trans (by simp)
  have hv1:a'.tmps.getD 1 undef=v1:=(hk 1 rfl).trans (by simp)
  clear hk
  obtain ⟨tm,df⟩:=a'
  obtain ⟨hsz,hdf,β1,V1,r1,r2⟩:=hx
  have hdf:df=[]:=hdf
  subst hdf
  have g0:=r2 0
  have g1:=r2 1
  rw[show (⟨env',_,[]⟩:Dm.St).env 0=.ptr 0 0 from e0] at g0
  rw[show (⟨env',_,[]⟩:Dm.St).env 1=.ptr 1 0 from e1] at g1
  refine Code.wp_mono ?_ (vcS_sound [] hT hF hM.ok _ [19,20,21,22,23] (by decide) (by decide) ⟨w,ownB (CH p N R s a b .nils) β,V,[]⟩ _ _ w' (fun x' st'=>x'=.normal∧st'.env 0=.ptr 0 0∧st'.env 1=.ptr 1 0∧st'.df=[]∧st'.h=CH p N R s x 0 (.row 4)++[.blk [.g (.int x)] 87]) ?_ (rel24 hsz g0 g1 r1))
  ·rintro e2 a2 w2 ⟨hk,x',⟨env2,h2,df2⟩,⟨rfl,f0,f1,f2,f3⟩,hx⟩
   dsimp only at f0 f1 f2 f3
   subst f2;subst f3
   cases e2<;>try exact hx.elim
   obtain ⟨_,hdf,β',V',q1,q2⟩:=hx
   obtain ⟨β'',V'',z1,z2⟩:=closeEnd (a':=a2) hrel (by rw[hk 0 rfl];exact hv0▸h0) (by rw[hk 1 rfl];exact hv1▸h1) f0 f1 q1 q2
   exact ⟨hdf,.panicking [{ v:=.iface 87 (.agg #[.int .i64 x]),recovered:=true }],rfl,_,by simp[results,Try.f43],rfl,rfl,β'',⟨V'',z1⟩,z2⟩
  ·exact .inl ⟨rfl,rfl,rfl,rfl,rfl⟩
 ·exact .inl (.inl ⟨rfl,rfl,rfl,rfl,rfl⟩)
 ·have:∀ v:Value,v=.pointer (some ⟨w.heap.size,0,none⟩)→RepD (CH p N R s a b .nils++[.blk [.g (.int x)] 87]) (upf β 5 (.pointer (some ⟨w.heap.size,0,none⟩))) V (w.alloc (.cells #[.int .i64 x] 87)) (.ptr 5 0) v:=fun v hv=>by
   subst hv
   show ∃ g,upf β 5 _ 5=_∧_
   exact ⟨_,upf_eq _ _ _,rfl⟩
  exact this _ (by simp)
def rQ (p:List Barb.Unit) (N:List CN):RR Int→Out→Prop
 | .ok n s',out=>out=.ret (.agg [.g (.int 1),.g (.int n),.row 2]) [.blk (rC p N 2 s'.fuel) 57,.many (mz N s') [],.row (tz s') 3 1]
 | .stop e s',out=>out=.ret (.agg [.g (.int e),.g (.int 0),.row 2]) [.blk (rC p N 2 s'.fuel) 57,.many (mz N s') [],.row (tz s') 3 1]
abbrev UH (p:List Barb.Unit) (N:List CN) (s:ES) (args:List Int) (ts:List (Value × Nat)):Heap :=
 [.blk (rC p N 2 s.fuel) 57,.many (mz N s) ts,.row (tz s) 3 1,.row (args.map intG) 3 1]
abbrev VH (p:List Barb.Unit) (N:List CN) (R:Value) (s:ES) (a b:Int):Heap :=
 [.blk (rC p N 6 s.fuel) 57,.many (mz N s) [(R,0)],.dead,.dead,.blk [.ptr 0 0] 55,.blk [.g (.int a),.g (.int b),.nils] 59,.row (tz s) 3 1]
def runPost (p:List Barb.Unit) (N:List CN) (R:Value) (r:RR Int) (d:Deferred):Dm.Post:=fun y st'=>match y with
 | .ret=>st'.df=[d]∧st'.env 0=.ptr 0 0∧st'.env 5=.ptr 4 0∧st'.env 10=.ptr 5 0∧∃ n s',r=.ok n s'∧st'.h=VH p N R s' 1 n
 | .pan x=>st'.df=[d]∧st'.env 0=.ptr 0 0∧st'.env 5=.ptr 4 0∧st'.env 10=.ptr 5 0∧∃ e s',r=.stop e s'∧x=stopD e∧st'.h=VH p N R s' 0 0
 | _=>False
theorem nthEnv {h:Heap} {β:Nat→Value} {V:Nat→Prop} {w:World}:∀ (ds:List D) (vs:List Value),RepDL h β V w ds vs→∀ i,RepD h β V w (nth .any ds i) (vs.getD i undef)
 | [],vs,_,i=>by simp only[nth,RepD]
 | d :: ds,vs,h,i=>by
  simp only[RepDL] at h
  obtain ⟨v,us,rfl,h1,h2⟩:=h
  cases i with
  | zero=>simpa [nth] using h1
  | succ i=>simpa [nth] using nthEnv ds us h2 i
theorem argsGet (vals:List Value) (n i:Nat):((⟨vals⟩:Array Value)++Array.replicate n undef).getD i undef=vals.getD i undef:=by
 rw[Array.getD_eq_getD_getElem?,List.getD_eq_getElem?_getD]
 by_cases hi:i < vals.length
 ·rw[Array.getElem?_append_left (by simpa using hi)]
  simp
 ·rw[Array.getElem?_append_right (by simp;omega),List.getElem?_eq_none (by omega)]
  rw[Array.getElem?_replicate]
  split<;>rfl
theorem run_defer {Q:Exit→Act→World→Prop} {a:Act} {w:World} (hsz:a.tmps.size=19) (hq:Q .normal { tmps:=a.tmps.setIfInBounds 11 (.func (.func 43) #[] #[a.tmps.getD 10 undef,a.tmps.getD 5 undef]),defers:={ target:=.fn (.func 43) #[a.tmps.getD 10 undef,a.tmps.getD 5 undef],args:=#[] } :: a.defers } w) :
  (match Try.f18.body with | some (.seq _ (.seq y _))=>y | _=>.skip).wp Try.prog Q a w:=by
 apply wp_region
 simp[wpOps,go_sem,hsz]
 exact .inl (.inl (by simpa [hsz] using hq))
set_option maxRecDepth 20000 in
theorem run_any2 {p:List Barb.Unit} {N:List CN} {g:Nat} (hC:∀ R,CallC p N R g) (u i:Nat) (args:List Int) (deep:Nat) (s:ES) (hs:OkS p N g s) (hu:u < p.length) (hi:i < (uAt p u).funcs.length) (hargs:args.length=((uAt p u).funcs.getD i noF).params.length) (hw:wds args) (hd:deep≤20) :
  CTH Try.prog [] 18 2 (UH p N s args []) [.ptr 0 0,.g (.int (u:Int)),.g (.int (i:Int)),.row 3,.g (.int (deep:Int))] (rQ p N (callF p (evS p g) u i args deep s)):=by
 suffices H:∀ r,callF p (evS p g) u i args deep s=r→CTH Try.prog [] 18 2 (UH p N s args []) [.ptr 0 0,.g (.int (u:Int)),.g (.int (i:Int)),.row 3,.g (.int (deep:Int))] (rQ p N r) from H _ rfl
 intro r hr w β V vals hrel hvals
 have hlen:vals.length=5:=by rw[← hvals.len];rfl
  -- the runner's place gets a name
 obtain ⟨R,hR⟩:∃ R,β 0=R:=⟨_,rfl⟩
 have hnm:=hrel.tags (m:=1) (l':=mz N s) (ts':=[(R,0)]) rfl (List.Perm.refl _) (fun t ht=>by
  rcases List.mem_singleton.1 ht with rfl
  exact .inr ⟨_,rfl,fun _=>hR⟩)
 have hle0:LeH (UH p N s args []) β (UH p N s args [(R,0)]) β:=le_set (h:=UH p N s args []) (i:=1) (o':=.many (mz N s) [(R,0)]) rfl trivial
 have hvals1:=RepDL.mono hle0 (Moved.refl V w) _ _ hvals
 refine calls_of_wp_defers Try.func18 rfl ?_
 have hr0:Rel ⟨w,ownB (UH p N s args []) β,V,[]⟩ 19 ⟨envOf [.ptr 0 0,.g (.int (u:Int)),.g (.int (i:Int)),.row 3,.g (.int (deep:Int))],UH p N s args [(R,0)],[]⟩ { tmps:=(⟨vals⟩:Array Value)++Array.replicate (Try.f18.ntmps - (⟨vals⟩:Array Value).size) undef,defers:=[] } w:=by
  refine ⟨by simp[hlen,Try.ntmps18],rfl,β,V,hnm,fun j=>?_⟩
  rw[argsGet]
  exact nthEnv _ _ hvals1 j
 refine wp_seq (Code.wp_mono ?_ (vcS_sound [] hT hF hM.ok _ [5,10] (by decide) (by decide) ⟨w,ownB (UH p N s args []) β,V,[]⟩ _ _ w (fun y st'=>y=.normal∧st'=⟨((envOf [.ptr 0 0,.g (.int (u:Int)),.g (.int (i:Int)),.row 3,.g (.int (deep:Int))]).set 5 (.ptr 4 0)).set 10 (.ptr 5 0),UH p N s args [(R,0)]++[.blk [.ptr 0 0] 55,.blk [.g (.int 0),.g (.int 0),.nils] 59],[]⟩) ?_ hr0))
 rotate_left
 ·exact ⟨rfl,rfl⟩
 rintro e a1 w1 ⟨hk1,y,st1,⟨rfl,rfl⟩,hx⟩
 cases e<;>try exact hx.elim
 obtain ⟨hsz1,hdf1,β1,V1,r1,r2⟩:=hx
 have hdf1:a1.defers=[]:=hdf1
 refine wp_seq (run_defer (by exact hsz1) ?_)
 have hk0:a1.tmps.getD 0 undef=vals.getD 0 undef:=by rw[hk1 0 rfl];exact argsGet _ _ _
 obtain ⟨v10,hv10⟩:∃ v,a1.tmps.getD 10 undef=v:=⟨_,rfl⟩
 obtain ⟨v5,hv5⟩:∃ v,a1.tmps.getD 5 undef=v:=⟨_,rfl⟩
 rw[hv10,hv5,hdf1]
 have hr1:Rel ⟨w,ownB (UH p N s args []) β,V,[]⟩ 19 ⟨((envOf [.ptr 0 0,.g (.int (u:Int)),.g (.int (i:Int)),.row 3,.g (.int (deep:Int))]).set 5 (.ptr 4 0)).set 10 (.ptr 5 0),UH p N s args [(R,0)]++[.blk [.ptr 0 0] 55,.blk [.g (.int 0),.g (.int 0),.nils] 59],[{ target:=.fn (.func 43) #[v10,v5],args:=#[] }]⟩
   { tmps:=a1.tmps.setIfInBounds 11 (.func (.func 43) #[] #[v10,v5]),defers:=[{ target:=.fn (.func 43) #[v10,v5],args:=#[] }] } w1:=by
  refine ⟨by simpa using hsz1,rfl,β1,V1,r1,fun k=>?_⟩
  by_cases hk:k=11
  ·subst hk
   show RepD _ _ _ _ .any _
   simp only[RepD]
  ·have:=r2 k
   show RepD _ _ _ _ _ ((a1.tmps.setIfInBounds 11 _).getD k undef)
   rw[show (a1.tmps.setIfInBounds 11 (.func (.func 43) #[] #[v10,v5])).getD k undef=a1.tmps.getD k undef by
    rw[Array.getD_eq_getD_getElem?,Array.getD_eq_getD_getElem?,Array.getElem?_setIfInBounds_ne (fun e=>hk e.symm)]]
   exact this
 refine Code.wp_mono ?_ (vcS_sound [] hT hF hM.ok _ [12,13,14,15,16,17,18] (by decide) (by decide) ⟨w,ownB (UH p N s args []) β,V,[]⟩ _ _ w1 (runPost p N R r { target:=.fn (.func 43) #[v10,v5],args:=#[] }) ?_ hr1)
 rotate_left
 ·refine callO [0,1,2,3] call_fn rfl rfl ⟨rfl,.inl rfl,.inl rfl,rfl⟩ (hC R u i args deep s hs hu hi hargs hw hd) (fun d' h' hq=>?_) (fun d' h' hq=>?_)
  ·rcases kQ_out hq with ⟨n,s',h1,h2⟩ | ⟨e,s',h1,h2⟩
   ·injection h2 with q1 q2;subst q1;subst q2
    refine .inl (.inl ⟨rfl,rfl,rfl,rfl,n,s',hr.symm.trans h1,rfl⟩)
   ·cases h2
  ·rcases kQ_out hq with ⟨n,s',h1,h2⟩ | ⟨e,s',h1,h2⟩
   ·cases h2
   ·injection h2 with q1 q2;subst q1;subst q2
    exact ⟨rfl,rfl,rfl,rfl,e,s',hr.symm.trans h1,rfl,rfl⟩
 have hk20:∀ a2:Act,Dm.Keeps [12,13,14,15,16,17,18] { tmps:=a1.tmps.setIfInBounds 11 (.func (.func 43) #[] #[v10,v5]),defers:=[{ target:=.fn (.func 43) #[v10,v5],args:=#[] }] } a2→a2.tmps.getD 0 undef=vals.getD 0 undef∧a2.tmps.getD 5 undef=v5∧a2.tmps.getD 10 undef=v10:=fun a2 hk2=>by
  have ne:∀ k v,k≠11→(a1.tmps.setIfInBounds 11 v).getD k undef=a1.tmps.getD k undef:=fun k v hk=>by
   rw[Array.getD_eq_getD_getElem?,Array.getD_eq_getD_getElem?,Array.getElem?_setIfInBounds_ne (fun e=>hk e.symm)]
  exact ⟨(hk2 0 rfl).trans ((ne 0 _ (by decide)).trans hk0),(hk2 5 rfl).trans ((ne 5 _ (by decide)).trans hv5),(hk2 10 rfl).trans ((ne 10 _ (by decide)).trans hv10)⟩
 rintro e a2 w2 ⟨hk2,y,⟨env2,h2,df2⟩,hq,hx⟩
 obtain ⟨k20,k25,k210⟩:=hk20 a2 hk2
  -- what the closure is handed
 have start:∀ {s':ES} {a b:Int} {β2:Nat→Value} {V2:Nat→Prop} {df:List Deferred},env2 5=.ptr 4 0→env2 10=.ptr 5 0→RelD ⟨w,ownB (UH p N s args []) β,V,[]⟩ (VH p N R s' a b) β2 V2 w2→EnvOk ⟨env2,VH p N R s' a b,df⟩ β2 V2 w2 a2 →
   ∃ βc Vc,RelD ⟨w,ownB (UH p N s args []) β,V,[]⟩ (CH p N R s' a b .nils) βc Vc w2∧RepD (CH p N R s' a b .nils) βc Vc w2 (.ptr 0 0) v10∧RepD (CH p N R s' a b .nils) βc Vc w2 (.ptr 1 0) v5∧βc 2=β2 0:=by
  intro s' a b β2 V2 df e5 e10 hrel2 he2
  have ht:TurnTo (VH p N R s' a b) [.old 5,.old 4,.old 0,.old 1,.old 6] [.ptr 5 0,.ptr 4 0] (CH p N R s' a b .nils) [.ptr 0 0,.ptr 1 0]:=⟨rfl,.inl rfl,.inl rfl,rfl⟩
  have g5:=he2 5
  have g10:=he2 10
  rw[show (⟨env2,_,df⟩:Dm.St).env 5=.ptr 4 0 from e5,k25] at g5
  rw[show (⟨env2,_,df⟩:Dm.St).env 10=.ptr 5 0 from e10,k210] at g10
  obtain ⟨z1,z2⟩:=ht.use hrel2 (vs:=[v10,v5]) (by simp only[RepDL];exact ⟨_,_,rfl,g10,_,_,rfl,g5,rfl⟩)
  simp only[RepDL] at z2
  obtain ⟨_,_,ez,z3,_,_,ey,z4,ex⟩:=z2
  injection ez with ez1 ez2
  subst ez1
  rw[ey] at ez2
  injection ez2 with ey1 ey2
  subst ey1
  exact ⟨_,_,z1,z3,z4,rfl⟩
  -- what comes back
 have fin:∀ {s':ES} {a b a' b':Int} {β2 βc β3:Nat→Value} {V2 Vc V3:Nat→Prop} {w3:World} {df:List Deferred},env2 0=.ptr 0 0→EnvOk ⟨env2,VH p N R s' a b,df⟩ β2 V2 w2 a2→RelD ⟨w,ownB (UH p N s args []) β,V,[]⟩ (CH p N R s' a b .nils) βc Vc w2→RepD (CH p N R s' a b .nils) βc Vc w2 (.ptr 0 0) v10→βc 2=β2 0 →
   RelD ⟨w2,ownB (CH p N R s' a b .nils) βc,Vc,[]⟩ (CH p N R s' a' b' (.row 4)) β3 V3 w3→(∀ i,i < 4→Stays (CH p N R s' a b .nils) (CH p N R s' a' b' (.row 4)) βc β3 i) →
   rQ p N r (.ret (.agg [.g (.int a'),.g (.int b'),.row 2]) [.blk (rC p N 2 s'.fuel) 57,.many (mz N s') [],.row (tz s') 3 1]) →
   Leaves Try.prog Try.f18 a2.tmps (PostH [] (rQ p N r) 2 (UH p N s args []) β V w) [] .returning w3:=by
  intro s' a b a' b' β2 βc β3 V2 Vc V3 w3 df e0 he2 hrc h10 hβ hr3 hst hQ
  have hr4:=rebase hrc hr3
  have b0:β3 0=βc 0:=(hst 0 (by decide)).2
  have b2:β3 2=βc 2:=(hst 2 (by decide)).2
  have h10':RepD (CH p N R s' a' b' (.row 4)) β3 V3 w3 (.ptr 0 0) v10:=by
   have:∃ g,βc 0=.pointer (some ⟨g,0,none⟩)∧v10=.pointer (some ⟨g,0,none⟩):=h10
   obtain ⟨g,q1,q2⟩:=this
   exact (⟨g,b0.trans q1,q2⟩:∃ g,β3 0=.pointer (some ⟨g,0,none⟩)∧v10=.pointer (some ⟨g,0,none⟩))
  have h0':RepD (CH p N R s' a' b' (.row 4)) β3 V3 w3 (.ptr 2 0) (a2.tmps.getD 0 undef):=by
   have g0:=he2 0
   rw[show (⟨env2,_,df⟩:Dm.St).env 0=.ptr 0 0 from e0] at g0
   have:∃ g,β2 0=.pointer (some ⟨g,0,none⟩)∧a2.tmps.getD 0 undef=.pointer (some ⟨g,0,none⟩):=g0
   obtain ⟨g,q1,q2⟩:=this
   exact (⟨g,(b2.trans hβ).trans q1,q2⟩:∃ g,β3 2=.pointer (some ⟨g,0,none⟩)∧a2.tmps.getD 0 undef=.pointer (some ⟨g,0,none⟩))
  have he3:EnvOk ⟨fun k=>bif Nat.beq k 0 then .ptr 2 0 else bif Nat.beq k 10 then .ptr 0 0 else .any,CH p N R s' a' b' (.row 4),[]⟩ β3 V3 w3 a2:=fun k=>by
   show RepD _ _ _ _ (bif Nat.beq k 0 then .ptr 2 0 else bif Nat.beq k 10 then .ptr 0 0 else .any) _
   cases hk:Nat.beq k 0 with
   | true=>rw[Nat.eq_of_beq_eq_true hk];exact h0'
   | false =>
    cases hk1:Nat.beq k 10 with
    | true=>rw[Nat.eq_of_beq_eq_true hk1,k210];exact h10'
    | false=>simp only[cond_false,RepD]
  obtain ⟨v',hv1,hv2⟩:=run_resultsD' (fn:=Try.f18) (ds:=[.agg [.g (.int a'),.g (.int b'),.row 4]]) hT hr4 he3 rfl
  simp only[RepDL] at hv2
  obtain ⟨_,_,ev,hv3,ev2⟩:=hv2
  injection ev with ev1 _
  subst ev1
  have hr5:=hr4.tags (m:=3) (l':=mz N s') (ts':=[]) rfl (List.Perm.refl _) (fun t ht=>by simp at ht)
  have hle:LeH (CH p N R s' a' b' (.row 4)) β3 ((CH p N R s' a' b' (.row 4)).set 3 (.many (mz N s') [])) β3:=le_set (h:=CH p N R s' a' b' (.row 4)) (i:=3) (o':=.many (mz N s') []) rfl trivial
  obtain ⟨d',h',β5,V5,z1,z2,z3,z4⟩:=@toH_end [] w w3 (UH p N s args []) β V [0] 1 [none] a2 hrel ⟨trivial,trivial⟩ rfl (by
    simp only[ptrsD,List.map_cons,List.map_nil,RepDL]
    refine ⟨_,_,rfl,?_,rfl⟩
    rw[k20]
    have:=nthEnv _ _ hvals 0
    exact this) ⟨_,(CH p N R s' a' b' (.row 4)).set 3 (.many (mz N s') []),[]⟩ β3 V3 (fun d h=>rQ p N r (.ret d h)) _ _ hr5 (fun k=>RepD.mono hle (Moved.refl _ _) _ _ (he3 k)) (RepD.mono hle (Moved.refl _ _) _ _ hv3)
    (orS_l ⟨[.old 2,.old 3,.old 4],.agg [.g (.int a'),.g (.int b'),.row 2],[.blk (rC p N 2 s'.fuel) 57,.many (mz N s') [],.row (tz s') 3 1],⟨rfl,.inl rfl,.inl rfl,rfl⟩,rfl,⟨trivial,trivial⟩,hQ⟩)
  exact ⟨_,hv1,d',h',β5,V5,z1,z2,z3,z4⟩
 have hinv:∀ w',(invoke (.fn (.func 43) #[v10,v5]) #[]).run Try.prog w'=.ok (.enter 43 #[v10,v5]) w':=fun w'=>by simp[go_sem]
 cases y with
 | normal=>exact hq.elim
 | exit _=>exact hq.elim
 | ret =>
  cases e<;>try exact hx.elim
  obtain ⟨h1,e0,e5,e10,n,s',hn,hh⟩:=hq
  dsimp only at h1 e0 e5 e10 hh
  subst h1;subst hh
  obtain ⟨_,hdf2,β2,V2,hrel2,he2⟩:=hx
  have hdf2:a2.defers=[{ target:=.fn (.func 43) #[v10,v5],args:=#[] }]:=hdf2
  obtain ⟨βc,Vc,c1,c2,c3,c4⟩:=start e5 e10 hrel2 he2
  show Leaves Try.prog _ a2.tmps _ a2.defers .returning w2
  rw[hdf2]
  refine leaves_cons (by simp) (hinv _) ((run1_idle p N R s' 1 n v10 v5 (base_start c1) c2 c3).mono ?_)
  rintro _ _ w3 ⟨rfl,rfl,β3,V3,q1,q2⟩
  exact fin e0 he2 c1 c2 c4 q1 q2 (by rw[hn];rfl)
 | pan x =>
  cases e<;>try exact hx.elim
  obtain ⟨h1,e0,e5,e10,c,s',hn,hxx,hh⟩:=hq
  dsimp only at h1 e0 e5 e10 hh
  subst h1;subst hh;subst hxx
  obtain ⟨t,u',rfl,_,hdf2,β2,V2,hrel2,he2,hd2⟩:=hx
  have hdf2:a2.defers=[{ target:=.fn (.func 43) #[v10,v5],args:=#[] }]:=hdf2
  simp only[RepD] at hd2
  obtain ⟨u2,e1,us,rfl,hus⟩:=hd2
  injection e1 with e1 e2
  subst e1;subst e2
  simp only[RepDL,RepD,RepV] at hus
  obtain ⟨v',us',rfl,rfl,rfl⟩:=hus
  obtain ⟨βc,Vc,c1,c2,c3,c4⟩:=start e5 e10 hrel2 he2
  show Leaves Try.prog _ a2.tmps _ a2.defers (.panicking _) w2
  rw[hdf2]
  refine leaves_cons (by simp) (hinv _) ((run1_stop p N R s' 0 0 c v10 v5 (base_start c1) c2 c3).mono ?_)
  rintro _ _ w3 ⟨rfl,rfl,β3,V3,q1,q2⟩
  exact fin e0 he2 c1 c2 c4 q1 q2 (by rw[hn];rfl)
end Go.Proofs.Ytcpbfpgighaonaa
