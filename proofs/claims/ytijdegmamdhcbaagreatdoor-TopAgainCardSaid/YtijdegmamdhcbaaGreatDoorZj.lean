/-
  eval: a call that is run to its end, whatever stops it.
-/
import Derived.Test.YtijdegmamdhcbaaGreatDoorZi
import Derived.Test.YtijdegmamdhcbaaGreatDoorTq
import Derived.Test.YtijdegmamdhcbaaGreatDoorZa
import Derived.Test.YtijdegmamdhcbaaGreatDoorZf
import Derived.Test.YtijdegmamdhcbaaGreatDoorZc
import Derived.Test.YtijdegmamdhcbaaGreatDoorZh
namespace Go.Proofs.YtijdegmamdhcbaaGreatDoor
open Go Go.Dm Go.Eng Go.RowKit Barb
abbrev CH (p:List Barb.Unit) (N:List CN) (R:Value) (s:ES) (a b:Int) (c:D):Heap :=
 [.blk [.g (.int a),.g (.int b),c] 92,.blk [.ptr 2 0] 88,.blk (rC p N 4 s.fuel) 90,.many (mz N s) [(R,2)],.row (tz s) 3 1]
theorem rel24 {C:Dm.Ctx} {h:Heap} {β:Nat→Value} {V:Nat→Prop} {w:World} {tm:Array Value} (hsz:tm.size=24) (h0:RepD h β V w (.ptr 0 0) (tm.getD 0 undef)) (h1:RepD h β V w (.ptr 1 0) (tm.getD 1 undef)) (hrel:RelD C h β V w) :
  Rel C 24 ⟨fun k=>bif Nat.beq k 0 then .ptr 0 0 else bif Nat.beq k 1 then .ptr 1 0 else .any,h,[]⟩ { tmps:=tm,defers:=[] } w:=by
 refine ⟨hsz,rfl,β,V,hrel,fun k=>?_⟩
 show RepD _ _ _ _ (bif Nat.beq k 0 then .ptr 0 0 else bif Nat.beq k 1 then .ptr 1 0 else .any) (tm.getD k undef)
 cases hk:Nat.beq k 0 with
 | true=>rw[Nat.eq_of_beq_eq_true hk];exact h0
 | false =>
  cases hk1:Nat.beq k 1 with
  | true=>rw[Nat.eq_of_beq_eq_true hk1];exact h1
  | false=>simp only[cond_false,RepD]
theorem rel24b {C:Dm.Ctx} {h:Heap} {β:Nat→Value} {V:Nat→Prop} {w:World} {tm:Array Value} (hsz:tm.size=24) (h0:RepD h β V w (.ptr 0 0) (tm.getD 0 undef)) (h1:RepD h β V w (.ptr 1 0) (tm.getD 1 undef)) (h3:RepD h β V w (.ptr 5 0) (tm.getD 3 undef)) (h4:tm.getD 4 undef=.bool true) (hrel:RelD C h β V w) :
  Rel C 24 ⟨fun k=>bif Nat.beq k 0 then .ptr 0 0 else bif Nat.beq k 1 then .ptr 1 0 else bif Nat.beq k 3 then .ptr 5 0 else bif Nat.beq k 4 then .g (.bool true) else .any,h,[]⟩ { tmps:=tm,defers:=[] } w:=by
 refine ⟨hsz,rfl,β,V,hrel,fun k=>?_⟩
 show RepD _ _ _ _ (bif Nat.beq k 0 then .ptr 0 0 else bif Nat.beq k 1 then .ptr 1 0 else bif Nat.beq k 3 then .ptr 5 0 else bif Nat.beq k 4 then .g (.bool true) else .any) (tm.getD k undef)
 cases hk:Nat.beq k 0 with
 | true=>rw[Nat.eq_of_beq_eq_true hk];exact h0
 | false =>
 cases hk1:Nat.beq k 1 with
 | true=>rw[Nat.eq_of_beq_eq_true hk1];exact h1
 | false =>
 cases hk3:Nat.beq k 3 with
 | true=>rw[Nat.eq_of_beq_eq_true hk3];exact h3
 | false =>
 cases hk4:Nat.beq k 4 with
 | true=>rw[Nat.eq_of_beq_eq_true hk4,h4];simp only[cond_false,cond_true,RepD,RepV]
 | false=>simp only[cond_false,RepD]
theorem closeEnd {p:List Barb.Unit} {N:List CN} {R:Value} {s:ES} {a b a2 b2:Int} {w w':World} {β β':Nat→Value} {V V':Nat→Prop} {rest:Heap} {env':Dm.Env} {a':Act} (hrel0:RelD ⟨w,ownB (CH p N R s a b .nils) β,V,gl⟩ (CH p N R s a b .nils) β V w)
  (h0:RepD (CH p N R s a b .nils) β V w (.ptr 0 0) (a'.tmps.getD 0 undef)) (h1:RepD (CH p N R s a b .nils) β V w (.ptr 1 0) (a'.tmps.getD 1 undef)) (e0:env' 0=.ptr 0 0) (e1:env' 1=.ptr 1 0)
  (q1:RelD ⟨w,ownB (CH p N R s a b .nils) β,V,gl⟩ (CH p N R s a2 b2 (.row 4)++rest) β' V' w') (q2:EnvOk ⟨env',CH p N R s a2 b2 (.row 4)++rest,[]⟩ β' V' w' a') :
  ∃ β'' V'',RelD ⟨w,ownB (CH p N R s a b .nils) β,V,gl⟩ (CH p N R s a2 b2 (.row 4)) β'' V'' w'∧∀ i,i < 4→Stays (CH p N R s a b .nils) (CH p N R s a2 b2 (.row 4)) β β'' i:=by
 have hE:=@toH_end gl w w' (CH p N R s a b .nils) β V [0,1] 3 [some R,none] a' hrel0 ⟨List.mem_cons_self,trivial,trivial⟩ rfl (by simp only[ptrsD,List.map_cons,List.map_nil,RepDL];exact ⟨_,_,rfl,h0,_,_,rfl,h1,rfl⟩)
  ⟨env',CH p N R s a2 b2 (.row 4)++rest,[]⟩ β' V' (fun _ h=>h=CH p N R s a2 b2 (.row 4)) (.tuple []) (.tuple ⟨[]⟩) q1 q2 (by simp only[RepD,RepDL];exact ⟨[],rfl,rfl⟩)
  (orS_l ⟨[.old 0,.old 1,.old 2,.old 3,.old 4],.tuple [],CH p N R s a2 b2 (.row 4),⟨rfl,.inl rfl,.inl (by simp only[List.map_cons,List.map_nil];rw[e0,e1];rfl),rfl⟩,rfl,⟨List.mem_cons_self,⟨trivial,rfl⟩,trivial,trivial⟩,rfl⟩)
 obtain ⟨_,h',β'',V'',rfl,r1,_,r3⟩:=hE
 exact ⟨β'',V'',r1,r3⟩
theorem run1_idle (p:List Barb.Unit) (N:List CN) (R:Value) (s:ES) (a b:Int) {w:World} {β:Nat→Value} {V:Nat→Prop} (v0 v1:Value) (hrel:RelD ⟨w,ownB (CH p N R s a b .nils) β,V,gl⟩ (CH p N R s a b .nils) β V w) (h0:RepD (CH p N R s a b .nils) β V w (.ptr 0 0) v0) (h1:RepD (CH p N R s a b .nils) β V w (.ptr 1 0) v1) :
  CallsD Tryz.prog 53 #[v0,v1] .returning w fun e u' w'=>e=.returned (.tuple #[])∧u'=.returning∧∃ β' V',RelD ⟨w,ownB (CH p N R s a b .nils) β,V,gl⟩ (CH p N R s a b (.row 4)) β' V' w'∧∀ i,i < 4→Stays (CH p N R s a b .nils) (CH p N R s a b (.row 4)) β β' i:=by
 refine callsD_of_wpS Tryz.func53 rfl fun c₀ cs hu=>?_
 apply wpS_seq
 apply wpS_seq
 apply wpS_region
 simp[wpOpsS,go_sem,recoverD,hu,Tryz.ntmps53,Exit.thenS]
 apply wpS_seq
 apply wpS_region
 simp[wpOpsS,go_sem,Exit.thenS]
 refine wpS_cond (t:=false) (by simp[Act.eval,Array.replicate]) ?_
 simp only[Bool.false_eq_true,if_false]
 refine wpS_of_wp (wp_skip ?_)
 simp only[Exit.thenS]
 refine wpS_of_wp ?_
 generalize hT':(#[v0,v1]++((((Array.replicate 22 undef).setIfInBounds 3 Value.nilIface).setIfInBounds 0 Value.nilIface).setIfInBounds 4 Value.nilIface).setIfInBounds 5 (Value.bool false):Array Value)=tm
 have hsz:tm.size=24:=by rw[← hT'];simp
 have ht0:tm.getD 0 undef=v0:=by rw[← hT'];simp
 have ht1:tm.getD 1 undef=v1:=by rw[← hT'];simp
 clear hT'
 rw[← ht0] at h0
 rw[← ht1] at h1
 refine Code.wp_mono ?_ (vcS_sound [] hT hF hM.ok _ [19,20,21,22,23] (by decide) (by decide) ⟨w,ownB (CH p N R s a b .nils) β,V,gl⟩ _ _ w (fun x st'=>x=.normal∧st'.env 0=.ptr 0 0∧st'.env 1=.ptr 1 0∧st'.df=[]∧st'.h=CH p N R s a b (.row 4)) ?_ (rel24 hsz h0 h1 hrel))
 ·rintro e a' w' ⟨hk,x,⟨env',h',df'⟩,⟨rfl,e0,e1,e2,e3⟩,hx⟩
  dsimp only at e0 e1 e2 e3
  subst e2;subst e3
  cases e<;>try exact hx.elim
  obtain ⟨_,hdf,β',V',q1,q2⟩:=hx
  obtain ⟨β'',V'',r1,r2⟩:=closeEnd (rest:=[]) (a':=a') hrel (by rw[hk 0 rfl];exact h0) (by rw[hk 1 rfl];exact h1) e0 e1 q1 q2
  exact ⟨hdf,.returning,by cases c₀;simp_all,_,by simp[results,Tryz.f53],rfl,rfl,β'',⟨V'',r1⟩,r2⟩
 ·exact .inl ⟨rfl,rfl,rfl,rfl,rfl⟩
theorem assert_stop (v:Value) (xT:TypeId) (w:World):(Instr.typeAssert (.iface 124 v) xT 124 true).run Tryz.prog w=.ok (.tuple #[v,.bool true]) w:=by kernel_rfl
theorem run1_stop (p:List Barb.Unit) (N:List CN) (R:Value) (s:ES) (a b x:Int) {w:World} {β:Nat→Value} {V:Nat→Prop} (v0 v1:Value) (hrel:RelD ⟨w,ownB (CH p N R s a b .nils) β,V,gl⟩ (CH p N R s a b .nils) β V w) (h0:RepD (CH p N R s a b .nils) β V w (.ptr 0 0) v0) (h1:RepD (CH p N R s a b .nils) β V w (.ptr 1 0) v1) :
  CallsD Tryz.prog 53 #[v0,v1] (.panicking [{ v:=.iface 124 (.agg #[.int .i64 x]),recovered:=false }]) w fun e u' w'=>e=.returned (.tuple #[])∧u'=.panicking [{ v:=.iface 124 (.agg #[.int .i64 x]),recovered:=true }]∧∃ β' V',RelD ⟨w,ownB (CH p N R s a b .nils) β,V,gl⟩ (CH p N R s x 0 (.row 4)) β' V' w'∧∀ i,i < 4→Stays (CH p N R s a b .nils) (CH p N R s x 0 (.row 4)) β β' i:=by
 refine callsD_of_wpS Tryz.func53 rfl fun c₀ cs hu=>?_
 apply wpS_seq
 apply wpS_seq
 apply wpS_region
 simp[wpOpsS,go_sem,recoverD,hu,Tryz.ntmps53,Exit.thenS]
 apply wpS_seq
 apply wpS_region
 simp[wpOpsS,go_sem,Exit.thenS]
 refine wpS_cond (t:=true) (by simp[Act.eval,Array.replicate]) ?_
 simp only[if_true]
 apply wpS_seq
 apply wpS_region
 simp[wpOpsS,go_sem,Exit.thenS,assert_stop]
 refine wpS_of_wp ?_
 have hal:=hrel.alloc_blk [.g (.int x)] [.int .i64 x] 124 (by simp only[RepDL,RepD,RepV];exact ⟨_,_,rfl,rfl,rfl⟩)
 have hle:=le_snoc (CH p N R s a b .nils) β (.blk [.g (.int x)] 124) (.pointer (some ⟨w.heap.size,0,none⟩))
 have hmv:Moved V w V (w.alloc (.cells #[.int .i64 x] 124)):=hrel.moved (fr_alloc w _) (fun k hk=>hk.elim)
 refine Code.wp_mono ?_ (vcS_sound [] hT hF hM.ok _ [13,14,15,16,17,18] (by decide) (by decide) ⟨w,ownB (CH p N R s a b .nils) β,V,gl⟩ _ _ _ (fun y st'=>y=.normal∧st'.env 0=.ptr 0 0∧st'.env 1=.ptr 1 0∧st'.df=[]∧st'.h=CH p N R s x 0 .nils++[.blk [.g (.int x)] 124]) ?_
  (rel24b (h:=CH p N R s a b .nils++[.blk [.g (.int x)] 124]) (by simp) (by simpa using RepD.mono hle hmv _ _ h0) (by simpa using RepD.mono hle hmv _ _ h1) ?_ (by simp) hal))
 ·rintro e a' w' ⟨hk,y,⟨env',h',df'⟩,⟨rfl,e0,e1,e2,e3⟩,hx⟩
  dsimp only at e0 e1 e2 e3
  subst e2;subst e3
  cases e<;>try exact hx.elim
  simp only[Exit.thenS]
  refine wpS_of_wp ?_
  have hv0:a'.tmps.getD 0 undef=v0:=(hk 0 rfl).trans (by simp)
  have hv1:a'.tmps.getD 1 undef=v1:=(hk 1 rfl).trans (by simp)
  clear hk
  obtain ⟨tm,df⟩:=a'
  obtain ⟨hsz,hdf,β1,V1,r1,r2⟩:=hx
  have hdf:df=[]:=hdf
  subst hdf
  have g0:=r2 0
  have g1:=r2 1
  rw[show (⟨env',_,[]⟩:Dm.St).env 0=.ptr 0 0 from e0] at g0
  rw[show (⟨env',_,[]⟩:Dm.St).env 1=.ptr 1 0 from e1] at g1
  refine Code.wp_mono ?_ (vcS_sound [] hT hF hM.ok _ [19,20,21,22,23] (by decide) (by decide) ⟨w,ownB (CH p N R s a b .nils) β,V,gl⟩ _ _ w' (fun x' st'=>x'=.normal∧st'.env 0=.ptr 0 0∧st'.env 1=.ptr 1 0∧st'.df=[]∧st'.h=CH p N R s x 0 (.row 4)++[.blk [.g (.int x)] 124]) ?_ (rel24 hsz g0 g1 r1))
  ·rintro e2 a2 w2 ⟨hk,x',⟨env2,h2,df2⟩,⟨rfl,f0,f1,f2,f3⟩,hx⟩
   dsimp only at f0 f1 f2 f3
   subst f2;subst f3
   cases e2<;>try exact hx.elim
   obtain ⟨_,hdf,β',V',q1,q2⟩:=hx
   obtain ⟨β'',V'',z1,z2⟩:=closeEnd (a':=a2) hrel (by rw[hk 0 rfl];exact hv0▸h0) (by rw[hk 1 rfl];exact hv1▸h1) f0 f1 q1 q2
   exact ⟨hdf,.panicking [{ v:=.iface 124 (.agg #[.int .i64 x]),recovered:=true }],rfl,_,by simp[results,Tryz.f53],rfl,rfl,β'',⟨V'',z1⟩,z2⟩
  ·exact .inl ⟨rfl,rfl,rfl,rfl,rfl⟩
 ·exact .inl (.inl ⟨rfl,rfl,rfl,rfl,rfl⟩)
 ·have:∀ v:Value,v=.pointer (some ⟨w.heap.size,0,none⟩)→RepD (CH p N R s a b .nils++[.blk [.g (.int x)] 124]) (upf β 5 (.pointer (some ⟨w.heap.size,0,none⟩))) V (w.alloc (.cells #[.int .i64 x] 124)) (.ptr 5 0) v:=fun v hv=>by
   subst hv
   show ∃ g,upf β 5 _ 5=_∧_
   exact ⟨_,upf_eq _ _ _,rfl⟩
  exact this _ (by simp)
def rQ (p:List Barb.Unit) (N:List CN):RR Int→Out→Prop
 | .ok n s',out=>out=.ret (.agg [.g (.int 1),.g (.int n),.row 2]) [.blk (rC p N 2 s'.fuel) 90,.many (mz N s') [],.row (tz s') 3 1]
 | .stop e s',out=>out=.ret (.agg [.g (.int e),.g (.int 0),.row 2]) [.blk (rC p N 2 s'.fuel) 90,.many (mz N s') [],.row (tz s') 3 1]
abbrev UH (p:List Barb.Unit) (N:List CN) (s:ES) (args:List Int) (ts:List (Value × Nat)):Heap :=
 [.blk (rC p N 2 s.fuel) 90,.many (mz N s) ts,.row (tz s) 3 1,.row (args.map intG) 3 1]
abbrev VH (p:List Barb.Unit) (N:List CN) (R:Value) (s:ES) (a b:Int):Heap :=
 [.blk (rC p N 6 s.fuel) 90,.many (mz N s) [(R,0)],.dead,.dead,.blk [.ptr 0 0] 88,.blk [.g (.int a),.g (.int b),.nils] 92,.row (tz s) 3 1]
def runPost (p:List Barb.Unit) (N:List CN) (R:Value) (r:RR Int) (d:Deferred):Dm.Post:=fun y st'=>match y with
 | .ret=>st'.df=[d]∧st'.env 0=.ptr 0 0∧st'.env 5=.ptr 4 0∧st'.env 10=.ptr 5 0∧∃ n s',r=.ok n s'∧st'.h=VH p N R s' 1 n
 | .pan x=>st'.df=[d]∧st'.env 0=.ptr 0 0∧st'.env 5=.ptr 4 0∧st'.env 10=.ptr 5 0∧∃ e s',r=.stop e s'∧x=stopD e∧st'.h=VH p N R s' 0 0
 | _=>False
theorem nthEnv {h:Heap} {β:Nat→Value} {V:Nat→Prop} {w:World}:∀ (ds:List D) (vs:List Value),RepDL h β V w ds vs→∀ i,RepD h β V w (nth .any ds i) (vs.getD i undef)
 | [],vs,_,i=>by simp only[nth,RepD]
 | d :: ds,vs,h,i=>by
  simp only[RepDL] at h
  obtain ⟨v,us,rfl,h1,h2⟩:=h
  cases i with
  | zero=>simpa [nth] using h1
  | succ i=>simpa [nth] using nthEnv ds us h2 i
theorem argsGet (vals:List Value) (n i:Nat):((⟨vals⟩:Array Value)++Array.replicate n undef).getD i undef=vals.getD i undef:=by
 rw[Array.getD_eq_getD_getElem?,List.getD_eq_getElem?_getD]
 by_cases hi:i < vals.length
 ·rw[Array.getElem?_append_left (by simpa using hi)]
  simp
 ·rw[Array.getElem?_append_right (by simp;omega),List.getElem?_eq_none (by omega)]
  rw[Array.getElem?_replicate]
  split<;>rfl
theorem run_defer {Q:Exit→Act→World→Prop} {a:Act} {w:World} (hsz:a.tmps.size=19) (hq:Q .normal { tmps:=a.tmps.setIfInBounds 11 (.func (.func 53) #[] #[a.tmps.getD 10 undef,a.tmps.getD 5 undef]),defers:={ target:=.fn (.func 53) #[a.tmps.getD 10 undef,a.tmps.getD 5 undef],args:=#[] } :: a.defers } w) :
  (match Tryz.f30.body with | some (.seq _ (.seq y _))=>y | _=>.skip).wp Tryz.prog Q a w:=by
 apply wp_region
 simp[wpOps,go_sem,hsz]
 exact .inl (.inl (by simpa [hsz] using hq))
set_option maxRecDepth 20000 in
theorem run_any2 {p:List Barb.Unit} {N:List CN} {g:Nat} (hC:∀ R,CallC p N R g) (u i:Nat) (args:List Int) (deep:Nat) (s:ES) (hs:OkS p N g s) (hu:u < p.length) (hi:i < (uAt p u).funcs.length) (hargs:args.length=((uAt p u).funcs.getD i noF).params.length) (hw:wds args) (hd:deep≤20) :
  CTH Tryz.prog gl 30 2 (UH p N s args []) [.ptr 0 0,.g (.int (u:Int)),.g (.int (i:Int)),.row 3,.g (.int (deep:Int))] (rQ p N (callF p (evS p g) u i args deep s)):=by
 suffices H:∀ r,callF p (evS p g) u i args deep s=r→CTH Tryz.prog gl 30 2 (UH p N s args []) [.ptr 0 0,.g (.int (u:Int)),.g (.int (i:Int)),.row 3,.g (.int (deep:Int))] (rQ p N r) from H _ rfl
 intro r hr w β V vals hrel hvals
 have hlen:vals.length=5:=by rw[← hvals.len];rfl
  -- the runner's place gets a name
 obtain ⟨R,hR⟩:∃ R,β 0=R:=⟨_,rfl⟩
 have hnm:=hrel.tags (m:=1) (l':=mz N s) (ts':=[(R,0)]) rfl (List.Perm.refl _) (fun t ht=>by
  rcases List.mem_singleton.1 ht with rfl
  exact .inr ⟨_,rfl,fun _=>hR⟩)
 have hle0:LeH (UH p N s args []) β (UH p N s args [(R,0)]) β:=le_set (h:=UH p N s args []) (i:=1) (o':=.many (mz N s) [(R,0)]) rfl trivial
 have hvals1:=RepDL.mono hle0 (Moved.refl V w) _ _ hvals
 refine calls_of_wp_defers Tryz.func30 rfl ?_
 have hr0:Rel ⟨w,ownB (UH p N s args []) β,V,gl⟩ 19 ⟨envOf [.ptr 0 0,.g (.int (u:Int)),.g (.int (i:Int)),.row 3,.g (.int (deep:Int))],UH p N s args [(R,0)],[]⟩ { tmps:=(⟨vals⟩:Array Value)++Array.replicate (Tryz.f30.ntmps - (⟨vals⟩:Array Value).size) undef,defers:=[] } w:=by
  refine ⟨by simp[hlen,Tryz.ntmps30],rfl,β,V,hnm,fun j=>?_⟩
  rw[argsGet]
  exact nthEnv _ _ hvals1 j
 refine wp_seq (Code.wp_mono ?_ (vcS_sound [] hT hF hM.ok _ [5,10] (by decide) (by decide) ⟨w,ownB (UH p N s args []) β,V,gl⟩ _ _ w (fun y st'=>y=.normal∧st'=⟨((envOf [.ptr 0 0,.g (.int (u:Int)),.g (.int (i:Int)),.row 3,.g (.int (deep:Int))]).set 5 (.ptr 4 0)).set 10 (.ptr 5 0),UH p N s args [(R,0)]++[.blk [.ptr 0 0] 88,.blk [.g (.int 0),.g (.int 0),.nils] 92],[]⟩) ?_ hr0))
 rotate_left
 ·exact ⟨rfl,rfl⟩
 rintro e a1 w1 ⟨hk1,y,st1,⟨rfl,rfl⟩,hx⟩
 cases e<;>try exact hx.elim
 obtain ⟨hsz1,hdf1,β1,V1,r1,r2⟩:=hx
 have hdf1:a1.defers=[]:=hdf1
 refine wp_seq (run_defer (by exact hsz1) ?_)
 have hk0:a1.tmps.getD 0 undef=vals.getD 0 undef:=by rw[hk1 0 rfl];exact argsGet _ _ _
 obtain ⟨v10,hv10⟩:∃ v,a1.tmps.getD 10 undef=v:=⟨_,rfl⟩
 obtain ⟨v5,hv5⟩:∃ v,a1.tmps.getD 5 undef=v:=⟨_,rfl⟩
 rw[hv10,hv5,hdf1]
 have hr1:Rel ⟨w,ownB (UH p N s args []) β,V,gl⟩ 19 ⟨((envOf [.ptr 0 0,.g (.int (u:Int)),.g (.int (i:Int)),.row 3,.g (.int (deep:Int))]).set 5 (.ptr 4 0)).set 10 (.ptr 5 0),UH p N s args [(R,0)]++[.blk [.ptr 0 0] 88,.blk [.g (.int 0),.g (.int 0),.nils] 92],[{ target:=.fn (.func 53) #[v10,v5],args:=#[] }]⟩
   { tmps:=a1.tmps.setIfInBounds 11 (.func (.func 53) #[] #[v10,v5]),defers:=[{ target:=.fn (.func 53) #[v10,v5],args:=#[] }] } w1:=by
  refine ⟨by simpa using hsz1,rfl,β1,V1,r1,fun k=>?_⟩
  by_cases hk:k=11
  ·subst hk
   show RepD _ _ _ _ .any _
   simp only[RepD]
  ·have:=r2 k
   show RepD _ _ _ _ _ ((a1.tmps.setIfInBounds 11 _).getD k undef)
   rw[show (a1.tmps.setIfInBounds 11 (.func (.func 53) #[] #[v10,v5])).getD k undef=a1.tmps.getD k undef by
    rw[Array.getD_eq_getD_getElem?,Array.getD_eq_getD_getElem?,Array.getElem?_setIfInBounds_ne (fun e=>hk e.symm)]]
   exact this
 refine Code.wp_mono ?_ (vcS_sound [] hT hF hM.ok _ [12,13,14,15,16,17,18] (by decide) (by decide) ⟨w,ownB (UH p N s args []) β,V,gl⟩ _ _ w1 (runPost p N R r { target:=.fn (.func 53) #[v10,v5],args:=#[] }) ?_ hr1)
 rotate_left
 ·refine callO [0,1,2,3] call_fn rfl rfl ⟨rfl,.inl rfl,.inl rfl,rfl⟩ (hC R u i args deep s hs hu hi hargs hw hd) (fun d' h' hq=>?_) (fun d' h' hq=>?_)
  ·rcases kQ_out hq with ⟨n,s',h1,h2⟩ | ⟨e,s',h1,h2⟩
   ·injection h2 with q1 q2;subst q1;subst q2
    refine .inl (.inl ⟨rfl,rfl,rfl,rfl,n,s',hr.symm.trans h1,rfl⟩)
   ·cases h2
  ·rcases kQ_out hq with ⟨n,s',h1,h2⟩ | ⟨e,s',h1,h2⟩
   ·cases h2
   ·injection h2 with q1 q2;subst q1;subst q2
    exact ⟨rfl,rfl,rfl,rfl,e,s',hr.symm.trans h1,rfl,rfl⟩
 have hk20:∀ a2:Act,Dm.Keeps [12,13,14,15,16,17,18] { tmps:=a1.tmps.setIfInBounds 11 (.func (.func 53) #[] #[v10,v5]),defers:=[{ target:=.fn (.func 53) #[v10,v5],args:=#[] }] } a2→a2.tmps.getD 0 undef=vals.getD 0 undef∧a2.tmps.getD 5 undef=v5∧a2.tmps.getD 10 undef=v10:=fun a2 hk2=>by
  have ne:∀ k v,k≠11→(a1.tmps.setIfInBounds 11 v).getD k undef=a1.tmps.getD k undef:=fun k v hk=>by
   rw[Array.getD_eq_getD_getElem?,Array.getD_eq_getD_getElem?,Array.getElem?_setIfInBounds_ne (fun e=>hk e.symm)]
  exact ⟨(hk2 0 rfl).trans ((ne 0 _ (by decide)).trans hk0),(hk2 5 rfl).trans ((ne 5 _ (by decide)).trans hv5),(hk2 10 rfl).trans ((ne 10 _ (by decide)).trans hv10)⟩
 rintro e a2 w2 ⟨hk2,y,⟨env2,h2,df2⟩,hq,hx⟩
 obtain ⟨k20,k25,k210⟩:=hk20 a2 hk2
  -- what the closure is handed
 have start:∀ {s':ES} {a b:Int} {β2:Nat→Value} {V2:Nat→Prop} {df:List Deferred},env2 5=.ptr 4 0→env2 10=.ptr 5 0→RelD ⟨w,ownB (UH p N s args []) β,V,gl⟩ (VH p N R s' a b) β2 V2 w2→EnvOk ⟨env2,VH p N R s' a b,df⟩ β2 V2 w2 a2 →
   ∃ βc Vc,RelD ⟨w,ownB (UH p N s args []) β,V,gl⟩ (CH p N R s' a b .nils) βc Vc w2∧RepD (CH p N R s' a b .nils) βc Vc w2 (.ptr 0 0) v10∧RepD (CH p N R s' a b .nils) βc Vc w2 (.ptr 1 0) v5∧βc 2=β2 0:=by
  intro s' a b β2 V2 df e5 e10 hrel2 he2
  have ht:TurnTo (VH p N R s' a b) [.old 5,.old 4,.old 0,.old 1,.old 6] [.ptr 5 0,.ptr 4 0] (CH p N R s' a b .nils) [.ptr 0 0,.ptr 1 0]:=⟨rfl,.inl rfl,.inl rfl,rfl⟩
  have g5:=he2 5
  have g10:=he2 10
  rw[show (⟨env2,_,df⟩:Dm.St).env 5=.ptr 4 0 from e5,k25] at g5
  rw[show (⟨env2,_,df⟩:Dm.St).env 10=.ptr 5 0 from e10,k210] at g10
  obtain ⟨z1,z2⟩:=ht.use hrel2 (vs:=[v10,v5]) (by simp only[RepDL];exact ⟨_,_,rfl,g10,_,_,rfl,g5,rfl⟩)
  simp only[RepDL] at z2
  obtain ⟨_,_,ez,z3,_,_,ey,z4,ex⟩:=z2
  injection ez with ez1 ez2
  subst ez1
  rw[ey] at ez2
  injection ez2 with ey1 ey2
  subst ey1
  exact ⟨_,_,z1,z3,z4,rfl⟩
  -- what comes back
 have fin:∀ {s':ES} {a b a' b':Int} {β2 βc β3:Nat→Value} {V2 Vc V3:Nat→Prop} {w3:World} {df:List Deferred},env2 0=.ptr 0 0→EnvOk ⟨env2,VH p N R s' a b,df⟩ β2 V2 w2 a2→RelD ⟨w,ownB (UH p N s args []) β,V,gl⟩ (CH p N R s' a b .nils) βc Vc w2→RepD (CH p N R s' a b .nils) βc Vc w2 (.ptr 0 0) v10→βc 2=β2 0 →
   RelD ⟨w2,ownB (CH p N R s' a b .nils) βc,Vc,gl⟩ (CH p N R s' a' b' (.row 4)) β3 V3 w3→(∀ i,i < 4→Stays (CH p N R s' a b .nils) (CH p N R s' a' b' (.row 4)) βc β3 i) →
   rQ p N r (.ret (.agg [.g (.int a'),.g (.int b'),.row 2]) [.blk (rC p N 2 s'.fuel) 90,.many (mz N s') [],.row (tz s') 3 1]) →
   Leaves Tryz.prog Tryz.f30 a2.tmps (PostH gl (rQ p N r) 2 (UH p N s args []) β V w) [] .returning w3:=by
  intro s' a b a' b' β2 βc β3 V2 Vc V3 w3 df e0 he2 hrc h10 hβ hr3 hst hQ
  have hr4:=rebase hrc hr3
  have b0:β3 0=βc 0:=(hst 0 (by decide)).2
  have b2:β3 2=βc 2:=(hst 2 (by decide)).2
  have h10':RepD (CH p N R s' a' b' (.row 4)) β3 V3 w3 (.ptr 0 0) v10:=by
   have:∃ g,βc 0=.pointer (some ⟨g,0,none⟩)∧v10=.pointer (some ⟨g,0,none⟩):=h10
   obtain ⟨g,q1,q2⟩:=this
   exact (⟨g,b0.trans q1,q2⟩:∃ g,β3 0=.pointer (some ⟨g,0,none⟩)∧v10=.pointer (some ⟨g,0,none⟩))
  have h0':RepD (CH p N R s' a' b' (.row 4)) β3 V3 w3 (.ptr 2 0) (a2.tmps.getD 0 undef):=by
   have g0:=he2 0
   rw[show (⟨env2,_,df⟩:Dm.St).env 0=.ptr 0 0 from e0] at g0
   have:∃ g,β2 0=.pointer (some ⟨g,0,none⟩)∧a2.tmps.getD 0 undef=.pointer (some ⟨g,0,none⟩):=g0
   obtain ⟨g,q1,q2⟩:=this
   exact (⟨g,(b2.trans hβ).trans q1,q2⟩:∃ g,β3 2=.pointer (some ⟨g,0,none⟩)∧a2.tmps.getD 0 undef=.pointer (some ⟨g,0,none⟩))
  have he3:EnvOk ⟨fun k=>bif Nat.beq k 0 then .ptr 2 0 else bif Nat.beq k 10 then .ptr 0 0 else .any,CH p N R s' a' b' (.row 4),[]⟩ β3 V3 w3 a2:=fun k=>by
   show RepD _ _ _ _ (bif Nat.beq k 0 then .ptr 2 0 else bif Nat.beq k 10 then .ptr 0 0 else .any) _
   cases hk:Nat.beq k 0 with
   | true=>rw[Nat.eq_of_beq_eq_true hk];exact h0'
   | false =>
    cases hk1:Nat.beq k 10 with
    | true=>rw[Nat.eq_of_beq_eq_true hk1,k210];exact h10'
    | false=>simp only[cond_false,RepD]
  obtain ⟨v',hv1,hv2⟩:=run_resultsD' (fn:=Tryz.f30) (ds:=[.agg [.g (.int a'),.g (.int b'),.row 4]]) hT hr4 he3 rfl
  simp only[RepDL] at hv2
  obtain ⟨_,_,ev,hv3,ev2⟩:=hv2
  injection ev with ev1 _
  subst ev1
  have hr5:=hr4.tags (m:=3) (l':=mz N s') (ts':=[]) rfl (List.Perm.refl _) (fun t ht=>by simp at ht)
  have hle:LeH (CH p N R s' a' b' (.row 4)) β3 ((CH p N R s' a' b' (.row 4)).set 3 (.many (mz N s') [])) β3:=le_set (h:=CH p N R s' a' b' (.row 4)) (i:=3) (o':=.many (mz N s') []) rfl trivial
  obtain ⟨d',h',β5,V5,z1,z2,z3,z4⟩:=@toH_end gl w w3 (UH p N s args []) β V [0] 1 [none] a2 hrel ⟨trivial,trivial⟩ rfl (by
    simp only[ptrsD,List.map_cons,List.map_nil,RepDL]
    refine ⟨_,_,rfl,?_,rfl⟩
    rw[k20]
    have:=nthEnv _ _ hvals 0
    exact this) ⟨_,(CH p N R s' a' b' (.row 4)).set 3 (.many (mz N s') []),[]⟩ β3 V3 (fun d h=>rQ p N r (.ret d h)) _ _ hr5 (fun k=>RepD.mono hle (Moved.refl _ _) _ _ (he3 k)) (RepD.mono hle (Moved.refl _ _) _ _ hv3)
    (orS_l ⟨[.old 2,.old 3,.old 4],.agg [.g (.int a'),.g (.int b'),.row 2],[.blk (rC p N 2 s'.fuel) 90,.many (mz N s') [],.row (tz s') 3 1],⟨rfl,.inl rfl,.inl rfl,rfl⟩,rfl,⟨trivial,trivial⟩,hQ⟩)
  exact ⟨_,hv1,d',h',β5,V5,z1,z2,z3,z4⟩
 have hinv:∀ w',(invoke (.fn (.func 53) #[v10,v5]) #[]).run Tryz.prog w'=.ok (.enter 53 #[v10,v5]) w':=fun w'=>by simp[go_sem]
 cases y with
 | normal=>exact hq.elim
 | exit _=>exact hq.elim
 | ret =>
  cases e<;>try exact hx.elim
  obtain ⟨h1,e0,e5,e10,n,s',hn,hh⟩:=hq
  dsimp only at h1 e0 e5 e10 hh
  subst h1;subst hh
  obtain ⟨_,hdf2,β2,V2,hrel2,he2⟩:=hx
  have hdf2:a2.defers=[{ target:=.fn (.func 53) #[v10,v5],args:=#[] }]:=hdf2
  obtain ⟨βc,Vc,c1,c2,c3,c4⟩:=start e5 e10 hrel2 he2
  show Leaves Tryz.prog _ a2.tmps _ a2.defers .returning w2
  rw[hdf2]
  refine leaves_cons (by simp) (hinv _) ((run1_idle p N R s' 1 n v10 v5 (base_start c1) c2 c3).mono ?_)
  rintro _ _ w3 ⟨rfl,rfl,β3,V3,q1,q2⟩
  exact fin e0 he2 c1 c2 c4 q1 q2 (by rw[hn];rfl)
 | pan x =>
  cases e<;>try exact hx.elim
  obtain ⟨h1,e0,e5,e10,c,s',hn,hxx,hh⟩:=hq
  dsimp only at h1 e0 e5 e10 hh
  subst h1;subst hh;subst hxx
  obtain ⟨t,u',rfl,_,hdf2,β2,V2,hrel2,he2,hd2⟩:=hx
  have hdf2:a2.defers=[{ target:=.fn (.func 53) #[v10,v5],args:=#[] }]:=hdf2
  simp only[RepD] at hd2
  obtain ⟨u2,e1,us,rfl,hus⟩:=hd2
  injection e1 with e1 e2
  subst e1;subst e2
  simp only[RepDL,RepD,RepV] at hus
  obtain ⟨v',us',rfl,rfl,rfl⟩:=hus
  obtain ⟨βc,Vc,c1,c2,c3,c4⟩:=start e5 e10 hrel2 he2
  show Leaves Tryz.prog _ a2.tmps _ a2.defers (.panicking _) w2
  rw[hdf2]
  refine leaves_cons (by simp) (hinv _) ((run1_stop p N R s' 0 0 c v10 v5 (base_start c1) c2 c3).mono ?_)
  rintro _ _ w3 ⟨rfl,rfl,β3,V3,q1,q2⟩
  exact fin e0 he2 c1 c2 c4 q1 q2 (by rw[hn];rfl)
end Go.Proofs.YtijdegmamdhcbaaGreatDoor
namespace Go.Dm
open Go Go.Eng Go.RowKit Barb
theorem ob_frozen {V V':Nat→Prop} {w:World} {v:Value} {xs:List (List GV)} {e sz:Nat} (ho:Ob0Ok V w v (.row xs e sz)) (hV:∀ k,V k→V' k) (hb:∀ k,bk v=some k→V' k):RepV V' w (.sl sz xs) v :=
 row_frozen (h:=[]) (β:=fun _=>v) (i:=0) ho hV hb
section
variable {V V':Nat→Prop} {w:World} {t:Nat}
def Melts (V V':Nat→Prop) (w:World) (l:List (Value × Ob0)):Prop:=∀ q∈l,Ob0Ok V w q.1 q.2∧∀ k,bk q.1=some k→V' k
theorem melt_arrs (hV:∀ k,V k→V' k) (a:Addr):∀ (ns:List Value) (ls:List (List Int)) (j:Nat),ns.length=ls.length→Melts V V' w (List.zipWith (fun v l=>(v,rowZ t l)) ns ls)→RepAll V' w 1 a j (ns.map fun a=>[.raw a])→RepAll V' w 1 a j (ls.map intsG)
 | [],[],_,_,_,h=>h
 | [],_ :: _,_,h,_,_=>by simp at h
 | _ :: _,[],_,h,_,_=>by simp at h
 | n :: ns,l :: ls,j,hl,hm,h=>by
  simp only[List.map_cons,RepAll] at h ⊢
  refine ⟨⟨rfl,?_⟩,melt_arrs hV a ns ls (j+1) (by simpa using hl) (fun q hq=>hm q (by simp only[List.zipWith_cons_cons];exact List.mem_cons_of_mem _ hq)) h.2⟩
  simp only[intsG,RepRow] at h ⊢
  obtain ⟨⟨_,⟨u,hu,hg⟩,_⟩,_⟩:=h
  simp only[RepV] at hg
  obtain ⟨h1,h2⟩:=hm (n,rowZ t l) (by simp only[List.zipWith_cons_cons];exact List.mem_cons_self)
  exact ⟨⟨u,hu,by rw[hg.1];exact ob_frozen h1 hV h2⟩,trivial⟩
theorem melt_cells (hV:∀ k,V k→V' k) (a:Addr):∀ (N:List CN) (C:List Cells) (j:Nat),NI N C→Melts V V' w (manyZ t N C)→RepAll V' w 2 a j (N.map CN.g)→RepAll V' w 2 a j (C.map Cells.g)
 | [],[],_,_,_,h=>h
 | [],_ :: _,_,h,_,_=>by have:=h.len;simp at this
 | _ :: _,[],_,h,_,_=>by have:=h.len;simp at this
 | n :: N,c :: C,j,hN,hm,h=>by
  have hN':NI N C:=⟨by have:=hN.len;simpa using this,fun i h1 h2=>by
   have:=hN.ar (i+1) (by simpa using h1) (by simpa using h2)
   simpa using this⟩
  have hna:n.ar.length=c.arrays.length:=by
   have:=hN.ar 0 (by simp) (by simp)
   simpa using this
  simp only[List.map_cons,RepAll] at h ⊢
  refine ⟨⟨rfl,?_⟩,melt_cells hV a N C (j+1) hN' (fun q hq=>hm q (by simp only[manyZ];exact List.mem_append.2 (.inr hq))) h.2⟩
  simp only[CN.g,Cells.g,RepRow] at h ⊢
  obtain ⟨⟨_,⟨u,hu,hg⟩,⟨u2,hu2,hg2⟩,_⟩,_⟩:=h
  simp only[RepV] at hg
  obtain ⟨h1,h2⟩:=hm (n.v,rowZ t c.vars) (by simp only[manyZ,cellZ];exact List.mem_append.2 (.inl List.mem_cons_self))
  refine ⟨⟨u,hu,by rw[hg.1];exact ob_frozen h1 hV h2⟩,⟨u2,hu2,?_⟩,trivial⟩
  simp only[RepV,List.length_map] at hg2 ⊢
  obtain ⟨A,cap,rfl,hc,h3,h4⟩:=hg2
  refine ⟨A,cap,by rw[hna],by omega,fun h0=>?_,h4⟩
  obtain ⟨a2,rfl,hVa,hall⟩:=h3 (by omega)
  exact ⟨a2,rfl,hVa,melt_arrs hV a2 n.ar c.arrays 0 hna (fun q hq=>hm q (by simp only[manyZ,cellZ];exact List.mem_append.2 (.inl (List.mem_cons_of_mem _ hq)))) hall⟩
theorem melt_rep (hV:∀ k,V k→V' k) {N:List CN} {C:List Cells} (hN:NI N C) (hm:Melts V V' w (manyZ t N C)) {v:Value} (h:RepV V' w (.sl 2 (N.map CN.g)) v):RepV V' w (.sl 2 (C.map Cells.g)) v:=by
 simp only[RepV,List.length_map] at h ⊢
 obtain ⟨A,cap,rfl,hc,h3,h4⟩:=h
 have hl:=hN.len
 refine ⟨A,cap,by rw[hl],by omega,fun h0=>?_,h4⟩
 obtain ⟨a2,rfl,hVa,hall⟩:=h3 (by omega)
 exact ⟨a2,rfl,hVa,melt_cells hV a2 N C 0 hN hm hall⟩
end
section
variable {G:Gl} {n:Nat}
theorem turnMelt {K:St→Prop} {env:Env} {h:Heap} {df:List Deferred} {N:List CN} {C:List Cells} {t tb m j off:Nat} {cs:List D} {ts:List (Value × Nat)} (hm:h[m]?=some (.many (manyZ t N C) ts)) (hj:h[j]?=some (.blk cs tb)) (hc:cs[off]?=some (.g (.sl 2 (N.map CN.g)))) (hN:NI N C)
  (k:TurnP G n K ⟨env,(h.set m .dead).set j (.blk (cs.set off (.g (.sl 2 (C.map Cells.g)))) tb),df⟩):TurnP G n K ⟨env,h,df⟩:=by
 obtain ⟨st1,hst,hk⟩:=k
 refine ⟨st1,fun X a w hG hr=>hst X a w hG ?_,hk⟩
 obtain ⟨h1,h2,β,V,h3,h4⟩:=hr
 have hmj:m≠j:=fun e=>by subst e;have:(⟨env,h,df⟩:St).h[m]?=some (.blk cs tb):=hj;rw[hm] at hj;cases hj
 have hkl:=kill_rel h3 [m]
 have hle:=kills_le [m] h β
 have hmv:=kill_moved h [m] β V w
 have ek:kills h [m]=h.set m .dead:=rfl
 rw[show (⟨env,h,df⟩:St).h=h from rfl] at hkl
 rw[ek] at hkl hle
 have hj':(h.set m .dead)[j]?=some (.blk cs tb):=by rw[List.getElem?_set_ne hmj];exact hj
 have hob:=h3.obj m _ hm
 have hr2:RelD X ((h.set m .dead).set j (.blk (cs.set off (.g (.sl 2 (C.map Cells.g)))) tb)) β (killV h [m] β V) w :=
  hkl.recell hj' (fun g vs _ _ p3=>by
   obtain ⟨v,c1,c2⟩:=cell_rep p3 hc
   refine cell_set p3 c1 ?_
   simp only[RepD] at c2 ⊢
   refine melt_rep (V:=V) (t:=t) (fun k hk=>.inl hk) hN (fun q hq=>⟨hob.1 q hq,fun k hk=>.inr ⟨m,_,List.mem_cons_self,hm,rfl,q,hq,hk⟩⟩) c2)
 have hle2:LeH h β ((h.set m .dead).set j (.blk (cs.set off (.g (.sl 2 (C.map Cells.g)))) tb)) β:=hle.trans (le_set hj' trivial)
 exact ⟨h1,h2,β,_,hr2,fun i=>RepD.mono hle2 hmv _ _ (h4 i)⟩
end
end Go.Dm
namespace Barb
open Go Go.Dm Go.Eng
theorem zip_snoc {α β γ:Type} (f:α→β→γ):∀ (xs:List α) (ys:List β) (a:α) (b:β),xs.length=ys.length→List.zipWith f (xs++[a]) (ys++[b])=List.zipWith f xs ys++[f a b]
 | [],[],_,_,_=>rfl
 | [],_ :: _,_,_,h=>by simp at h
 | _ :: _,[],_,_,h=>by simp at h
 | x :: xs,y :: ys,a,b,h=>by
  simp only[List.cons_append,List.zipWith_cons_cons]
  rw[zip_snoc f xs ys a b (by simpa using h)]
theorem many_snoc (t:Nat):∀ (N:List CN) (C:List Cells) (n:CN) (c:Cells),N.length=C.length→manyZ t (N++[n]) (C++[c])=manyZ t N C++cellZ t n c
 | [],[],_,_,_=>by simp[manyZ]
 | [],_ :: _,_,_,h=>by simp at h
 | _ :: _,[],_,_,h=>by simp at h
 | m :: N,d :: C,n,c,h=>by
  simp only[List.cons_append,manyZ]
  rw[many_snoc t N C n c (by simpa using h),List.append_assoc]
end Barb
namespace Go.Proofs.YtijdegmamdhcbaaGreatDoor
open Go Go.Dm Go.Eng Go.RowKit Barb
set_option maxRecDepth 20000 in
theorem CopyOwn_any (cs:List Cells) (hI:∀ c∈cs,Cells.I c) (hl:cs.length*48≤140737488351232):CT Tryz.prog gl 6 [.g (.sl 2 (cs.map Cells.g))]
  (fun out=>∃ N,NI N cs∧out=.ret (.row 0) [.row (N.map CN.g) 74 2,.many (manyZ 3 N cs) []]):=by
 have lc:(cs.map Cells.g).length=cs.length:=by simp
 refine enterJ [] hT hF hM Tryz.func6 rfl 40 rfl (by kernel_rfl) [.tmp 2] rfl [.g (.sl 2 (cs.map Cells.g))] rfl _ ?_
 refine loopR (ι:=List CN) (fun N=>[(11,.g (.int (N.length:Int))),(3,.row 0)]) (fun N=>[.row (N.map CN.g) 74 2,.many (manyZ 3 N (cs.take N.length)) []]) (fun N=>N.length≤cs.length∧NI N (cs.take N.length)) (fun N=>cs.length - N.length)
  ⟨[],[.nil 74 2,.many0],⟨rfl,.inl rfl,.inr ⟨lk rfl,.inr rfl,trivial⟩,rfl⟩,Nat.zero_le _,⟨rfl,fun i h=>by simp at h⟩⟩ ?_
 rintro Rd hRd N ⟨hi,hN⟩
 have lN:(N.map CN.g).length=N.length:=List.length_map _
 refine ⟨fun h1=>?_,fun h1=>?_⟩
 rotate_left
 ·have hil:N.length=cs.length:=by omega
  rw[hil,List.take_length] at hN
  exact ⟨rfl,[.old 0,.old 1],.row 0,[.row (N.map CN.g) 74 2,.many (manyZ 3 N cs) []],⟨rfl,.inr ⟨⟨rfl,rfl,rfl⟩,⟨by rw[hil,List.take_length],rfl⟩,trivial⟩,.inl rfl,rfl⟩,N,hN,rfl⟩
 have h2:N.length < cs.length:=by omega
 obtain ⟨⟨_,hv⟩,ha,hal⟩:=hI _ (List.getElem_mem h2)
 have noI:∀ (l:List Int),∀ r∈l.map intG,∀ g∈r,noV g:=fun l r hr g hg=>by
  obtain ⟨x,_,rfl⟩:=List.mem_map.1 hr
  rcases List.mem_singleton.1 hg with rfl
  trivial
 refine ⟨N.length,_,rfl,gm h2,?_⟩
 refine .inl ?_
 refine .inr (semRow (.inl rfl) (Clone_any (cs[N.length].vars.map intG) (by rw[List.length_map];exact hv)) (noI _) ?_)
 refine .inl ?_
 refine .inr (ghNameC 4 0 1 3 rfl rfl rfl rfl (fun v=>ghHide 1 3 v (rowZ 3 cs[N.length].vars) rfl List.mem_cons_self rfl ⟨rfl,rfl,rfl⟩ (ghNo ?_)))
 have la:(cs[N.length].arrays.map intsG).length=cs[N.length].arrays.length:=by simp
 refine loopR (ι:=List Value) (fun vs=>[(22,.g (.int (vs.length:Int))),(3,.row 0),(6,.ptr 1 0)]) (fun vs=>[.row (N.map CN.g) 74 2,.blk [.g (.raw v),.row 2] 74,.row (vs.map fun a=>[.raw a]) 30 1,
   .many (manyZ 3 N (cs.take N.length)++(v,rowZ 3 cs[N.length].vars) :: List.zipWith (fun v l=>(v,rowZ 3 l)) vs (cs[N.length].arrays.take vs.length)) []]) (fun vs=>vs.length≤cs[N.length].arrays.length) (fun vs=>cs[N.length].arrays.length - vs.length)
  ⟨[],[.old 0,.old 4,.nil 30 1,.old 1],⟨rfl,.inr ⟨⟨rfl,rfl,rfl⟩,⟨rfl,.inr ⟨lk rfl,.inr rfl,trivial⟩⟩,⟨rfl,rfl,rfl⟩,⟨List.Perm.refl _,rfl⟩,trivial⟩,.inr ⟨lk rfl,lk rfl,lk rfl,trivial⟩,rfl⟩,Nat.zero_le _⟩ ?_
 intro Rj hRj vs hj
 have lv:(vs.map fun a=>[GV.raw a]).length=vs.length:=List.length_map _
 refine ⟨fun h3=>?_,fun h3=>?_⟩
 ·have h4:vs.length < cs[N.length].arrays.length:=by omega
  obtain ⟨_,hb⟩:=ha _ (List.getElem_mem h4)
  have hclone:=Clone_any (cs[N.length].arrays[vs.length].map intG) (by rw[List.length_map];exact hb)
  have hroom:(vs.map fun a=>[GV.raw a]).length+1≤maxLen∧((vs.map fun a=>[GV.raw a]).length+1)*24≤140737488355328:=⟨by unfold maxLen;omega,by omega⟩
  refine ⟨vs.length,_,rfl,gm h4,?_⟩
  refine ⟨some 60001,(.lead 0 (.lead 2 (.two (.run 1 (.run 3 (.run 4 (.run 5 (.lead 6 (.run 7 .done)))))) (.run 3 (.two (.run 1 (.run 4 (.run 5 (.lead 6 (.run 7 .done))))) (.run 4 (.run 1 (.run 5 (.lead 6 (.run 7 .done)))))))))),rfl,?_⟩
  refine ⟨.inr (semRow (.inl rfl) hclone (noI _) (ghName 3 4 rfl rfl (fun a=>ghHide 3 4 a (rowZ 3 cs[N.length].arrays[vs.length]) rfl List.mem_cons_self rfl ⟨rfl,rfl,rfl⟩ (ghNo ⟨[[.raw a]],rfl,rfl,⟨rfl,trivial⟩,⟨hroom,.inl (.inl (?_))⟩⟩)))),.inr (semRow (.inl rfl) hclone (noI _) (⟨ghName 3 4 rfl rfl (fun a=>ghHide 3 4 a (rowZ 3 cs[N.length].arrays[vs.length]) rfl List.mem_cons_self rfl ⟨rfl,rfl,rfl⟩ (ghNo ⟨[[.raw a]],rfl,rfl,⟨rfl,trivial⟩,⟨hroom,.inl (.inl (?_))⟩⟩)),ghName 3 4 rfl rfl (fun a=>ghHide 3 4 a (rowZ 3 cs[N.length].arrays[vs.length]) rfl List.mem_cons_self rfl ⟨rfl,rfl,rfl⟩ (ghNo ⟨[[.raw a]],rfl,rfl,⟨rfl,trivial⟩,⟨hroom,.inl (.inl (?_))⟩⟩))⟩))⟩
  all_goals
   refine ⟨_,I64.wrap (by unfold I64;omega),?_⟩
   refine hRj _ _ _ ⟨vs++[a],[.old 0,.old 1,.old 6,.old 3],⟨rfl,.inr ⟨⟨rfl,rfl,rfl⟩,⟨rfl,.inl rfl⟩,⟨by rw[List.map_append];rfl,rfl,rfl⟩,⟨?_,rfl⟩,trivial⟩,.inr ⟨lkI (by simp),lk rfl,lk rfl,trivial⟩,rfl⟩,by simp;omega,by simp;omega⟩
   rw[List.length_append,List.length_singleton,take_one h4,zip_snoc _ _ _ _ _ (by simp;omega)]
   simp
 ·have hjl:vs.length=cs[N.length].arrays.length:=by omega
  have hzl:(cs[N.length].arrays.take vs.length)=cs[N.length].arrays:=by rw[hjl,List.take_length]
  refine ⟨[[.raw v,.sl 1 (vs.map fun a=>[.raw a])]],rfl,rfl,⟨rfl,rfl,trivial⟩,?_⟩
  refine ⟨⟨by simp only[maxLen,List.length_cons,List.length_nil,List.length_map];omega,by simp only[List.length_cons,List.length_nil,List.length_map];omega⟩,.inl ?_⟩
  refine ⟨_,I64.wrap (by unfold I64;omega),?_⟩
  have hlen:N.length=(cs.take N.length).length:=by rw[List.length_take];omega
  refine hRd _ _ _ ⟨N++[⟨v,vs⟩],[.old 5,.old 3],⟨rfl,.inr ⟨⟨by rw[List.map_append];rfl,rfl,rfl⟩,⟨?_,rfl⟩,trivial⟩,.inr ⟨lkI (by simp),lk rfl,trivial⟩,rfl⟩,⟨by simp;omega,?_⟩,by simp;omega⟩
  ·rw[List.length_append,List.length_singleton,take_one h2,many_snoc _ _ _ _ _ hlen,hzl]
   exact List.Perm.refl _
  ·rw[List.length_append,List.length_singleton,take_one h2]
   refine ⟨by simp;omega,fun i hi1 hi2=>?_⟩
   by_cases hin:i < N.length
   ·rw[List.getElem_append_left hin,List.getElem_append_left (by omega)]
    exact hN.ar i hin (by omega)
   ·have hie:i=N.length:=by simp at hi1;omega
    subst hie
    rw[List.getElem_append_right (by omega),List.getElem_append_right (by omega)]
    simpa using hjl
end Go.Proofs.YtijdegmamdhcbaaGreatDoor
namespace Go.Proofs.YtijdegmamdhcbaaGreatDoor
open Go Go.Dm Go.Eng Go.RowKit Barb
set_option maxRecDepth 20000 in
theorem expr_zero {p:List Barb.Unit} {N:List CN} {R:Value}:EvalC p N R 0:=by
 intro c el s x hs hc he hx hxI
 have h0:s.fuel=0:=by have:=hs.fuel;omega
 rw[expr_none p _ c _ x s h0]
 refine enterHJ [] hT hF hM Tryz.func94 rfl 114 rfl (by kernel_rfl) [.tmp 4] rfl [.ptr 0 0,.agg x.d] rfl (XH p N R s c el) [0] rfl rfl rfl 2 [some R,none] tgX _ ?_
 refine callBurn [.blk x.d 129] (by omega) rfl rfl (fun h0=>?_) (fun h1=>absurd h0 h1)
 exact ⟨rfl,.inl (endXH (s':=s) (el':=el) (stopD 3) [.old 0,.old 1,.old 2,.old 3,.old 6] rfl rfl rfl (.inl rfl) rfl rfl rfl (List.Perm.refl _) rfl)⟩
set_option maxRecDepth 20000 in
theorem stmt_zero {p:List Barb.Unit} {N:List CN} {R:Value}:StmtC p N R 0:=by
 intro c el s x hs hc he hx hxI
 have h0:s.fuel=0:=by have:=hs.fuel;omega
 rw[stmt_none p _ c x _ s h0]
 refine enterHJ [] hT hF hM Tryz.func86 rfl 121 rfl (by kernel_rfl) [] rfl [.ptr 0 0,.agg x.d] rfl (XH p N R s c el) [0] rfl rfl rfl 2 [some R,none] tgX _ ?_
 refine callBurn [.blk x.d 132] (by omega) rfl rfl (fun h0=>?_) (fun h1=>absurd h0 h1)
 exact ⟨rfl,.inl (endXH (s':=s) (el':=el) (stopD 3) [.old 0,.old 1,.old 2,.old 3,.old 6] rfl rfl rfl (.inl rfl) rfl rfl rfl (List.Perm.refl _) ⟨el,rfl⟩)⟩
theorem all_any {p:List Barb.Unit} (hp:PI p) (hpI:progI p) (N:List CN) (R:Value):∀ g,EvalC p N R g∧StmtC p N R g
 | 0=>⟨expr_zero,stmt_zero⟩
 | g+1=>by
  obtain ⟨h1,h2⟩:=all_any hp hpI N R g
  have h3:=stmts_any2 hp h2
  exact ⟨expr_any hp h1 (call_any hp hpI h3),stmt_any hp h1 h3⟩
theorem run_fn2:fnOk Tryz.prog 30=true:=by kernel_rfl
noncomputable def callR (p:List Barb.Unit) (cs:List Cells) (u i:Nat) (args:List Int) (deep fuel:Nat):RR Int:=callF p (evS p fuel) u i args deep ⟨fuel,[],cs⟩
def ansD (e v:Int) (s:ES):D:=.tuple [.agg [.g (.int e),.g (.int v),.g (.sl 1 (s.told.map intG)),.g (.sl 1 []),.g (.sl 7 [])],.g (.sl 2 (s.cells.map Cells.g)),.g (.int 0)]
def callD:RR Int→D
 | .ok n s=>ansD 1 n s
 | .stop e s=>ansD e 0 s
set_option maxRecDepth 20000 in
theorem Call_any (p:List Barb.Unit) (hpI:progI p) (cs:List Cells) (hI:∀ c∈cs,Cells.I c) (hl:cs.length*48≤140737488351232) (hc:cellsE p cs=0) (un fn:Str) (u i:Nat) (hu:u < p.length) (hun:unitIdx p un=(u:Int)) (hi:i < (uAt p u).funcs.length) (hfn:funIdx (uAt p u) fn=(i:Int))
  (args:List Int) (ha:args.length=((uAt p u).funcs.getD i noF).params.length) (hw:wds args) (deep fuel:Nat) (hd:deep≤19) (hf:fuel≤100000) :
  CT Tryz.prog gl 10 [.g (.sl 4 (p.map Unit.g)),.g (.sl 2 (cs.map Cells.g)),.g (.str un),.g (.str fn),.g (.sl 1 (args.map intG)),.g (.int (deep:Int)),.g (.int (fuel:Int))] (Is (callD (callR p cs u i args deep fuel))):=by
 obtain ⟨hpe,hlen,hcok⟩:=cellsE_ok hc
 have hp:=PI.of hpe
 have hal4:args.length≤4:=by rw[ha];exact (funE_inv ((unitE_inv (hp.unit _ (uAt_mem hu))).2.2.2.2.2.2 _ (fn_mem hi))).2.1
 have hcs:=CheckStores_any p hpI cs hI hl
 rw[hc] at hcs
 have hU:=NamesUnit_any p (by have:=hp.few;omega) un
 rw[hun] at hU
 have hFn:=NamesFunc_any (uAt p u) (by have:=(unitE_inv (hp.unit _ (uAt_mem hu))).2.2.2.1;omega) fn
 rw[hfn] at hFn
 have hgm:(p.map Unit.g)[u]?=some [.str (uAt p u).name,.sl 1 ((uAt p u).vars.map strG),.sl 2 ((uAt p u).arrays.map Arr.g),.sl 4 ((uAt p u).funcs.map Fun.g)]:=by rw[uAt_eq hu];exact gm hu
 suffices H:∀ r,callR p cs u i args deep fuel=r→CT Tryz.prog gl 10 [.g (.sl 4 (p.map Unit.g)),.g (.sl 2 (cs.map Cells.g)),.g (.str un),.g (.str fn),.g (.sl 1 (args.map intG)),.g (.int (deep:Int)),.g (.int (fuel:Int))] (Is (callD r)) from H _ rfl
 intro r hr
 refine enterJ [13,14] hT hF hM Tryz.func10 rfl 110 rfl (by kernel_rfl) [.cell 14 41,.tmp 15,.tmp 16] rfl [.g (.sl 4 (p.map Unit.g)),.g (.sl 2 (cs.map Cells.g)),.g (.str un),.g (.str fn),.g (.sl 1 (args.map intG)),.g (.int (deep:Int)),.g (.int (fuel:Int))] rfl _ ?_
 refine callIs (.inl rfl) hcs ?_
 refine ⟨fun h=>absurd rfl h,fun _=>?_⟩
 refine callIs (.inl rfl) hU ?_
 refine ⟨fun h=>absurd h (by omega),fun h=>?_⟩
 refine ⟨u,_,rfl,hgm,?_⟩
 have hfg:((uAt p u).funcs.map Fun.g)[i]?=some [.str (uAt p u).funcs[i].name,.bool (uAt p u).funcs[i].isOpen,.sl 1 ((uAt p u).funcs[i].params.map strG),.sl 5 ((uAt p u).funcs[i].body.map Stmt.g)]:=fnG hi
 have hpl:((uAt p u).funcs[i].params.map strG).length=args.length:=by rw[List.length_map,ha];simp[hi]
 have hal:(args.map intG).length=args.length:=List.length_map _
 refine callIs (.inl rfl) hFn ?_
 refine ⟨fun h=>absurd h (by omega),fun _=>?_⟩
 refine ⟨u,_,rfl,hgm,?_⟩
 refine callIs (.inl rfl) hFn ?_
 refine ⟨u,_,rfl,hgm,?_⟩
 refine ⟨i,_,rfl,hfg,?_⟩
 refine ⟨fun h=>absurd h (by omega),fun _=>?_⟩
 refine ⟨fun h=>absurd h (by omega),fun _=>?_⟩
 refine ⟨fun h=>absurd h (by omega),fun _=>?_⟩
 refine ⟨fun h=>absurd h (by omega),fun _=>?_⟩
 refine ⟨fun h=>absurd h (by omega),fun _=>?_⟩
 refine callIs (.inl rfl) (words_any args (by omega) _) ?_
 refine ⟨fun h=>absurd ⟨by omega,hw⟩ h,fun _=>?_⟩
 have noI:∀ (l:List Int),∀ r∈l.map intG,∀ g∈r,noV g:=fun l r hr g hg=>by
  obtain ⟨x,_,rfl⟩:=List.mem_map.1 hr
  rcases List.mem_singleton.1 hg with rfl
  trivial
 refine callQ (.inl rfl) (CopyOwn_any cs hI hl) (fun d h' hq=>?_) (fun d hq=>?_)
 rotate_left
 ·obtain ⟨N,_,hq⟩:=hq;cases hq
 obtain ⟨N,hN,hq⟩:=hq
 injection hq with q1 q2;subst q1;subst q2
 refine .inl ?_
 have hs:OkS p N fuel ⟨fuel,[],cs⟩:=⟨⟨hlen,hcok,Nat.zero_le _,fun _ h=>by simp at h⟩,⟨hN.len.trans hlen,fun j h1 h2=>by
  have h3:j < cs.length:=by omega
  rw[hN.ar j h1 h3];exact (hcok j h3 h2).1.2⟩,Nat.le_refl _,by omega⟩
 refine turnTo [.old 3,.old 2,.nil 3 1,.old 0] [(14,.ptr 3 0),(20,.ptr 0 0)] [.blk (rC p N 2 fuel) 90,.many (mz N ⟨fuel,[],cs⟩) [],.row (tz ⟨fuel,[],cs⟩) 3 1,.blk [.g (.int 0),.g (.int 0),.nils,.nils,.nils] 41]
  ⟨rfl,.inr ⟨⟨rfl,.inr ⟨lk rfl,lk rfl,.inr rfl,lk rfl,trivial⟩⟩,⟨List.Perm.refl _,rfl⟩,⟨rfl,rfl,rfl⟩,⟨rfl,.inl rfl⟩,trivial⟩,.inl rfl,rfl⟩ ?_
 refine .inr (semRow (.inl rfl) (Clone_any (args.map intG) (by omega)) (noI _) ?_)
 refine callO [0,1,2,4] run_fn2 rfl rfl ⟨rfl,.inl rfl,.inl rfl,rfl⟩ (run_any2 (fun R=>call_any hp hpI (stmts_any2 hp (all_any hp hpI N R fuel).2)) u i args deep ⟨fuel,[],cs⟩ hs hu hi ha hw (by omega)) (fun d' h' hq=>?_) (fun d' h' hq=>?_)
 rotate_left
 ·change rQ p N (callR p cs u i args deep fuel) _ at hq
  rw[hr] at hq
  cases r<;>cases hq
 change rQ p N (callR p cs u i args deep fuel) _ at hq
 rw[hr] at hq
 have hI2:=callF_I hp (evP_I hp fuel).2 hu hi ha hw deep hs.si
 rw[show callF p (evS p fuel) u i args deep ⟨fuel,[],cs⟩=r from hr] at hI2
 cases r with
 | ok n s' =>
  injection hq with q1 q2;subst q1;subst q2
  refine .inl ?_
  refine turnMelt (m:=1) (j:=0) (off:=1) rfl rfl rfl (hs.np.ni hI2.1) (turnNo ?_)
  refine ⟨some 60001,(.lead 0 (.lead 2 (.lead 4 (.lead 7 (.lead 8 (.lead 9 (.two (.run 1 (.two (.run 3 (.two (.run 5 (.two (.run 6 (.two (.run 10 (.run 11 (.lead 12 (.lead 13 .done)))) (.run 11 (.run 10 (.lead 12 (.lead 13 .done)))))) (.run 10 (.run 6 (.run 11 (.lead 12 (.lead 13 .done))))))) (.run 10 (.run 5 (.run 6 (.run 11 (.lead 12 (.lead 13 .done)))))))) (.two (.run 5 (.two (.run 3 (.two (.run 6 (.two (.run 10 (.run 11 (.lead 12 (.lead 13 .done)))) (.run 11 (.run 10 (.lead 12 (.lead 13 .done)))))) (.run 10 (.run 6 (.run 11 (.lead 12 (.lead 13 .done))))))) (.run 10 (.run 3 (.run 6 (.run 11 (.lead 12 (.lead 13 .done)))))))) (.run 10 (.two (.run 3 (.run 5 (.run 6 (.run 11 (.lead 12 (.lead 13 .done)))))) (.run 5 (.run 3 (.run 6 (.run 11 (.lead 12 (.lead 13 .done))))))))))) (.two (.run 3 (.two (.run 1 (.two (.run 5 (.two (.run 6 (.two (.run 10 (.run 11 (.lead 12 (.lead 13 .done)))) (.run 11 (.run 10 (.lead 12 (.lead 13 .done)))))) (.run 10 (.run 6 (.run 11 (.lead 12 (.lead 13 .done))))))) (.run 10 (.run 5 (.run 6 (.run 11 (.lead 12 (.lead 13 .done)))))))) (.two (.run 5 (.two (.run 1 (.two (.run 6 (.two (.run 10 (.run 11 (.lead 12 (.lead 13 .done)))) (.run 11 (.run 10 (.lead 12 (.lead 13 .done)))))) (.run 10 (.run 6 (.run 11 (.lead 12 (.lead 13 .done))))))) (.run 10 (.run 1 (.run 6 (.run 11 (.lead 12 (.lead 13 .done)))))))) (.run 10 (.two (.run 1 (.run 5 (.run 6 (.run 11 (.lead 12 (.lead 13 .done)))))) (.run 5 (.run 1 (.run 6 (.run 11 (.lead 12 (.lead 13 .done))))))))))) (.two (.run 5 (.two (.run 1 (.two (.run 3 (.two (.run 6 (.two (.run 10 (.run 11 (.lead 12 (.lead 13 .done)))) (.run 11 (.run 10 (.lead 12 (.lead 13 .done)))))) (.run 10 (.run 6 (.run 11 (.lead 12 (.lead 13 .done))))))) (.run 10 (.run 3 (.run 6 (.run 11 (.lead 12 (.lead 13 .done)))))))) (.two (.run 3 (.two (.run 1 (.two (.run 6 (.two (.run 10 (.run 11 (.lead 12 (.lead 13 .done)))) (.run 11 (.run 10 (.lead 12 (.lead 13 .done)))))) (.run 10 (.run 6 (.run 11 (.lead 12 (.lead 13 .done))))))) (.run 10 (.run 1 (.run 6 (.run 11 (.lead 12 (.lead 13 .done)))))))) (.run 10 (.two (.run 1 (.run 3 (.run 6 (.run 11 (.lead 12 (.lead 13 .done)))))) (.run 3 (.run 1 (.run 6 (.run 11 (.lead 12 (.lead 13 .done))))))))))) (.run 10 (.two (.run 1 (.two (.run 3 (.run 5 (.run 6 (.run 11 (.lead 12 (.lead 13 .done)))))) (.run 5 (.run 3 (.run 6 (.run 11 (.lead 12 (.lead 13 .done)))))))) (.two (.run 3 (.two (.run 1 (.run 5 (.run 6 (.run 11 (.lead 12 (.lead 13 .done)))))) (.run 5 (.run 1 (.run 6 (.run 11 (.lead 12 (.lead 13 .done)))))))) (.run 5 (.two (.run 1 (.run 3 (.run 6 (.run 11 (.lead 12 (.lead 13 .done)))))) (.run 3 (.run 1 (.run 6 (.run 11 (.lead 12 (.lead 13 .done)))))))))))))))))))),rfl,?_⟩
  refine ⟨⟨⟨⟨⟨?_,?_⟩,?_⟩,?_⟩,⟨⟨⟨⟨?_,?_⟩,?_⟩,?_⟩,⟨?_,?_⟩⟩⟩,⟨⟨⟨⟨⟨?_,?_⟩,?_⟩,?_⟩,⟨⟨⟨⟨?_,?_⟩,?_⟩,?_⟩,⟨?_,?_⟩⟩⟩,⟨⟨⟨⟨⟨?_,?_⟩,?_⟩,?_⟩,⟨⟨⟨⟨?_,?_⟩,?_⟩,?_⟩,⟨?_,?_⟩⟩⟩,⟨⟨?_,?_⟩,⟨⟨?_,?_⟩,⟨?_,?_⟩⟩⟩⟩⟩⟩
  all_goals exact ⟨rfl,retIs (.inr (.inr ⟨.inr ⟨lk rfl,lk rfl,lk rfl,.inr rfl,.inr rfl,trivial⟩,lk rfl,lk rfl,trivial⟩))⟩
 | stop e s' =>
  injection hq with q1 q2;subst q1;subst q2
  refine .inl ?_
  refine turnMelt (m:=1) (j:=0) (off:=1) rfl rfl rfl (hs.np.ni hI2.1) (turnNo ?_)
  refine ⟨some 60001,(.lead 0 (.lead 2 (.lead 4 (.lead 7 (.lead 8 (.lead 9 (.two (.run 1 (.two (.run 3 (.two (.run 5 (.two (.run 6 (.two (.run 10 (.run 11 (.lead 12 (.lead 13 .done)))) (.run 11 (.run 10 (.lead 12 (.lead 13 .done)))))) (.run 10 (.run 6 (.run 11 (.lead 12 (.lead 13 .done))))))) (.run 10 (.run 5 (.run 6 (.run 11 (.lead 12 (.lead 13 .done)))))))) (.two (.run 5 (.two (.run 3 (.two (.run 6 (.two (.run 10 (.run 11 (.lead 12 (.lead 13 .done)))) (.run 11 (.run 10 (.lead 12 (.lead 13 .done)))))) (.run 10 (.run 6 (.run 11 (.lead 12 (.lead 13 .done))))))) (.run 10 (.run 3 (.run 6 (.run 11 (.lead 12 (.lead 13 .done)))))))) (.run 10 (.two (.run 3 (.run 5 (.run 6 (.run 11 (.lead 12 (.lead 13 .done)))))) (.run 5 (.run 3 (.run 6 (.run 11 (.lead 12 (.lead 13 .done))))))))))) (.two (.run 3 (.two (.run 1 (.two (.run 5 (.two (.run 6 (.two (.run 10 (.run 11 (.lead 12 (.lead 13 .done)))) (.run 11 (.run 10 (.lead 12 (.lead 13 .done)))))) (.run 10 (.run 6 (.run 11 (.lead 12 (.lead 13 .done))))))) (.run 10 (.run 5 (.run 6 (.run 11 (.lead 12 (.lead 13 .done)))))))) (.two (.run 5 (.two (.run 1 (.two (.run 6 (.two (.run 10 (.run 11 (.lead 12 (.lead 13 .done)))) (.run 11 (.run 10 (.lead 12 (.lead 13 .done)))))) (.run 10 (.run 6 (.run 11 (.lead 12 (.lead 13 .done))))))) (.run 10 (.run 1 (.run 6 (.run 11 (.lead 12 (.lead 13 .done)))))))) (.run 10 (.two (.run 1 (.run 5 (.run 6 (.run 11 (.lead 12 (.lead 13 .done)))))) (.run 5 (.run 1 (.run 6 (.run 11 (.lead 12 (.lead 13 .done))))))))))) (.two (.run 5 (.two (.run 1 (.two (.run 3 (.two (.run 6 (.two (.run 10 (.run 11 (.lead 12 (.lead 13 .done)))) (.run 11 (.run 10 (.lead 12 (.lead 13 .done)))))) (.run 10 (.run 6 (.run 11 (.lead 12 (.lead 13 .done))))))) (.run 10 (.run 3 (.run 6 (.run 11 (.lead 12 (.lead 13 .done)))))))) (.two (.run 3 (.two (.run 1 (.two (.run 6 (.two (.run 10 (.run 11 (.lead 12 (.lead 13 .done)))) (.run 11 (.run 10 (.lead 12 (.lead 13 .done)))))) (.run 10 (.run 6 (.run 11 (.lead 12 (.lead 13 .done))))))) (.run 10 (.run 1 (.run 6 (.run 11 (.lead 12 (.lead 13 .done)))))))) (.run 10 (.two (.run 1 (.run 3 (.run 6 (.run 11 (.lead 12 (.lead 13 .done)))))) (.run 3 (.run 1 (.run 6 (.run 11 (.lead 12 (.lead 13 .done))))))))))) (.run 10 (.two (.run 1 (.two (.run 3 (.run 5 (.run 6 (.run 11 (.lead 12 (.lead 13 .done)))))) (.run 5 (.run 3 (.run 6 (.run 11 (.lead 12 (.lead 13 .done)))))))) (.two (.run 3 (.two (.run 1 (.run 5 (.run 6 (.run 11 (.lead 12 (.lead 13 .done)))))) (.run 5 (.run 1 (.run 6 (.run 11 (.lead 12 (.lead 13 .done)))))))) (.run 5 (.two (.run 1 (.run 3 (.run 6 (.run 11 (.lead 12 (.lead 13 .done)))))) (.run 3 (.run 1 (.run 6 (.run 11 (.lead 12 (.lead 13 .done)))))))))))))))))))),rfl,?_⟩
  refine ⟨⟨⟨⟨⟨?_,?_⟩,?_⟩,?_⟩,⟨⟨⟨⟨?_,?_⟩,?_⟩,?_⟩,⟨?_,?_⟩⟩⟩,⟨⟨⟨⟨⟨?_,?_⟩,?_⟩,?_⟩,⟨⟨⟨⟨?_,?_⟩,?_⟩,?_⟩,⟨?_,?_⟩⟩⟩,⟨⟨⟨⟨⟨?_,?_⟩,?_⟩,?_⟩,⟨⟨⟨⟨?_,?_⟩,?_⟩,?_⟩,⟨?_,?_⟩⟩⟩,⟨⟨?_,?_⟩,⟨⟨?_,?_⟩,⟨?_,?_⟩⟩⟩⟩⟩⟩
  all_goals exact ⟨rfl,retIs (.inr (.inr ⟨.inr ⟨lk rfl,lk rfl,lk rfl,.inr rfl,.inr rfl,trivial⟩,lk rfl,lk rfl,trivial⟩))⟩
end Go.Proofs.YtijdegmamdhcbaaGreatDoor
namespace Barb
open Go Go.Dm Go.Eng Go.Proofs.YtijdegmamdhcbaaGreatDoor
def RR.st {α:Type}:RR α→ES
 | .ok _ s=>s
 | .stop _ s=>s
def Grows {α:Type} (s:ES) (r:RR α):Prop:=s.told <+: r.st.told
theorem Grows.stop {α:Type} {s:ES} {e:Int}:Grows s (.stop e s:RR α):=List.prefix_refl _
theorem Grows.bind {α β:Type} {s:ES} {r:RR α} {f:α→ES→RR β} (h:Grows s r) (hf:∀ a s',Grows s' (f a s')):Grows s (r.bind f):=by
 cases r with
 | ok a s'=>exact List.IsPrefix.trans h (hf a s')
 | stop e s'=>exact h
def ES.up (s:ES) (k:Nat):ES:={ s with fuel:=s.fuel+k }
def Up {α:Type} (k:Nat):RR α→RR α→Prop
 | .ok a s,r=>r=.ok a (s.up k)
 | .stop e s,r=>(e≠3∧r=.stop e (s.up k))∨(e=3∧Grows s r)
theorem Up.stop {α:Type} {k:Nat} {e:Int} {s:ES} (h:e≠3):Up k (.stop e s:RR α) (.stop e (s.up k)):=.inl ⟨h,rfl⟩
theorem Up.bind {α β:Type} {k:Nat} {r r2:RR α} {f f2:α→ES→RR β} (h:Up k r r2) (hf:∀ a s,Up k (f a s) (f2 a (s.up k))) (hg:∀ a s,Grows s (f2 a s)):Up k (r.bind f) (r2.bind f2):=by
 cases r with
 | ok a s =>
  have h:r2=.ok a (s.up k):=h
  subst h
  exact hf a s
 | stop e s =>
  rcases h with ⟨h1,h2⟩ | ⟨h1,h2⟩
  ·subst h2;exact .inl ⟨h1,rfl⟩
  ·exact .inr ⟨h1,Grows.bind h2 hg⟩
end Barb
namespace Barb
open Go Go.Dm Go.Eng Go.Proofs.YtijdegmamdhcbaaGreatDoor
def RR.code:RR Int→Int
 | .ok _ _=>1
 | .stop e _=>e
def RR.val:RR Int→Int
 | .ok n _=>n
 | .stop _ _=>0
structure RB (p:List Unit) (r:RR Int):Prop where
 si:SI p r.st
 code:1≤r.code∧r.code≤6
 val:wd r.val
theorem prog_one {many:Nat} {p:List Unit} (h:Prog many p):0 < p.length∧unitIdx p [111,110,101]=0∧(0 < (uAt p 0).funcs.length∧funIdx (uAt p 0) [102]=0)∧((uAt p 0).funcs.getD 0 noF).params.length=2:=by
 have hm:=h.m
 have hn:=h.names
 obtain ⟨m,rfl⟩:∃ m,many=m+1:=⟨many - 1,by omega⟩
 cases p with
 | nil=>simp[unitsP] at hn
 | cons u l =>
  have hu:u.name=[111,110,101]:=by
   rw[List.map_cons,List.take_succ_cons] at hn
   exact (List.cons.inj hn).1
  have hs:=h.shape u List.mem_cons_self
  have e:uAt (u :: l) 0=u:=rfl
  rw[e]
  obtain ⟨i,l1,l2,l3,_,rfl⟩:=hs.ex
  refine ⟨by simp,?_,⟨by simp,?_⟩,rfl⟩
  ·unfold unitIdx idx
   simp only[idxFrom]
   exact if_pos hu
  ·unfold funIdx idx
   simp only[idxFrom]
   exact if_pos trivial
end Barb
namespace Go.Proofs.YtijdegmamdhcbaaGreatDoor
open Go Go.Dm Go.Eng Go.RowKit Barb
theorem callD_eq (r:RR Int):callD r=ansD r.code r.val r.st:=by cases r<;>rfl
theorem EqualN_any (l:List Int) (hl:l.length≤9223372036854775807):CT Tryz.prog gl 11 [.g (.sl 1 (l.map intG)),.g (.sl 1 (l.map intG))] (Is (.g (.bool true))):=by
 have ll:(l.map intG).length=l.length:=by simp
 refine enter hT hF hM Tryz.func11 rfl 26 rfl (by kernel_rfl) [.tmp 4] rfl [.g (.sl 1 (l.map intG)),.g (.sl 1 (l.map intG))] rfl _ ?_
 refine ⟨fun h=>absurd rfl h,fun _=>?_⟩
 refine loopR (ι:=Nat) (fun i=>[(13,.g (.int (i:Int)))]) (fun _=>[]) (fun i=>i≤l.length) (fun i=>l.length - i)
  ⟨0,[],⟨rfl,.inl rfl,.inr ⟨lk rfl,trivial⟩,rfl⟩,Nat.zero_le _⟩ ?_
 intro Rd hRd i hi
 refine ⟨fun h1=>?_,fun h1=>⟨rfl,retIs (.inl rfl)⟩⟩
 have h2:i < l.length:=by omega
 refine ⟨none,rfl,i,_,rfl,gm h2,i,_,rfl,gm h2,?_⟩
 refine ⟨fun h=>absurd rfl h,fun _=>⟨_,I64.wrap (by unfold I64;omega),?_⟩⟩
 exact hRd _ _ _ ⟨i+1,[],⟨rfl,.inl rfl,.inr ⟨lk rfl,trivial⟩,rfl⟩,h2,by omega⟩
def Cells.d (c:Cells):List D:=[.g (.sl 1 (c.vars.map intG)),.g (.sl 1 (c.arrays.map intsG))]
end Go.Proofs.YtijdegmamdhcbaaGreatDoor
namespace Go.Proofs.YtijdegmamdhcbaaGreatDoor
open Go Go.Dm Go.Eng Barb

set_option maxRecDepth 20000 in
theorem Copy_any (cs:List Cells) (hI:∀ c∈cs,Cells.I c) (hl:cs.length*48≤140737488351232):CT Tryz.prog gl 6 [.g (.sl 2 (cs.map Cells.g))] (Is (.g (.sl 2 (cs.map Cells.g)))):=by
 have lc:(cs.map Cells.g).length=cs.length:=by simp
 refine enter hT hF hM Tryz.func6 rfl 40 rfl (by kernel_rfl) [.tmp 2] rfl [.g (.sl 2 (cs.map Cells.g))] rfl _ ?_
 refine loopR (ι:=Nat) (fun i=>[(11,.g (.int (i:Int))),(3,.row 0)]) (fun i=>[.row ((cs.take i).map Cells.g) 74 2]) (fun i=>i≤cs.length) (fun i=>cs.length - i)
  ⟨0,[.nil 74 2],⟨rfl,.inl rfl,.inr ⟨lk rfl,.inr rfl,trivial⟩,rfl⟩,Nat.zero_le _⟩ ?_
 intro Rd hRd i hi
 refine ⟨fun h1=>?_,fun h1=>?_⟩
 rotate_left
 ·have hil:i=cs.length:=by omega
  exact ⟨rfl,retSl rfl (by rw[hil,List.take_length])⟩
 have h2:i < cs.length:=by omega
 obtain ⟨⟨_,hv⟩,ha,hal⟩:=hI _ (List.getElem_mem h2)
 have la:(cs[i].arrays.map intsG).length=cs[i].arrays.length:=by simp
 refine ⟨i,_,rfl,gm h2,?_⟩
 refine callIs (.inl rfl) (Clone_is (cs[i].vars.map intG) (by rw[List.length_map];exact hv)) ?_
 refine loopR (ι:=Nat) (fun j=>[(22,.g (.int (j:Int))),(6,.ptr 1 0),(3,.row 0)]) (fun j=>[.row ((cs.take i).map Cells.g) 74 2,.blk [.g (.sl 1 (cs[i].vars.map intG)),.row 2] 74,.row ((cs[i].arrays.take j).map intsG) 30 1]) (fun j=>j≤cs[i].arrays.length) (fun j=>cs[i].arrays.length - j)
  ⟨0,[.old 0,.old 2,.nil 30 1],⟨rfl,.inr ⟨⟨rfl,rfl,rfl⟩,⟨rfl,.inr ⟨lk rfl,.inr rfl,trivial⟩⟩,⟨rfl,rfl,rfl⟩,trivial⟩,.inr ⟨lk rfl,lk rfl,lk rfl,trivial⟩,rfl⟩,Nat.zero_le _⟩ ?_
 intro Rj hRj j hj
 refine ⟨fun h3=>?_,fun h3=>?_⟩
 ·have h4:j < cs[i].arrays.length:=by omega
  obtain ⟨_,hb⟩:=ha _ (List.getElem_mem h4)
  refine ⟨j,_,rfl,gm h4,?_⟩
  refine ⟨some 2000,rfl,_,_,.inl rfl,Clone_is (cs[i].arrays[j].map intG) (by rw[List.length_map];exact hb),rfl,?_⟩
  refine ⟨[[.sl 1 (cs[i].arrays[j].map intG)]],rfl,rfl,⟨rfl,trivial⟩,⟨_,rfl⟩,?_⟩
  refine ⟨⟨by simp only[maxLen,List.length_cons,List.length_nil,List.length_map,List.length_take];omega,by simp only[List.length_cons,List.length_nil,List.length_map,List.length_take];omega⟩,?_⟩
  refine ⟨_,I64.wrap (by unfold I64;omega),?_⟩
  refine hRj _ _ _ ⟨j+1,[.old 0,.old 1,.old 4],⟨rfl,.inr ⟨⟨rfl,rfl,rfl⟩,⟨rfl,.inl rfl⟩,⟨?_,rfl,rfl⟩,trivial⟩,.inr ⟨lk rfl,lk rfl,lk rfl,trivial⟩,rfl⟩,h4,by omega⟩
  rw[take_one h4,List.map_append];rfl
 ·have hjl:j=cs[i].arrays.length:=by omega
  have hfull:(cs[i].arrays.take j).map intsG=cs[i].arrays.map intsG:=by rw[hjl,List.take_length]
  refine ⟨[[.sl 1 (cs[i].vars.map intG),.sl 1 (cs[i].arrays.map intsG)]],rfl,rfl,⟨rfl,congrArg (GV.sl 1) hfull,trivial⟩,?_⟩
  refine ⟨⟨by simp only[maxLen,List.length_cons,List.length_nil,List.length_map,List.length_take];omega,by simp only[List.length_cons,List.length_nil,List.length_map,List.length_take];omega⟩,?_⟩
  refine ⟨_,I64.wrap (by unfold I64;omega),?_⟩
  refine hRd _ _ _ ⟨i+1,[.old 4],⟨rfl,.inr ⟨⟨?_,rfl,rfl⟩,trivial⟩,.inr ⟨lk rfl,lk rfl,trivial⟩,rfl⟩,h2,by omega⟩
  rw[take_one h2,List.map_append];rfl
end Go.Proofs.YtijdegmamdhcbaaGreatDoor
namespace Barb
open Go Go.Dm Go.Eng Go.Proofs.YtijdegmamdhcbaaGreatDoor
theorem built_first {many:Nat} {p:List Unit} (hP:Prog many p) (h:linkE p=0):∃ a,entAt (linkI p) 0 0=⟨a,2⟩∧(⟨a,2⟩:Entry)∈(Barb.partAt (linkI p) 0).entries:=by
 have hg:=prog_good hP
 have hg1:=(foldP_good hg (prog_few hP)).1
 have h1:linkE1 (foldP p)=0:=by unfold linkE at h;rw[if_neg (fun h'=>h' hg)] at h;exact h
 have e:linkI p=lparts (foldP p) (foldP p).length:=by unfold linkI;rw[if_pos h,foldP_len]
 obtain ⟨hl0,_⟩:=prog_one hP
 have hl:0 < (foldP p).length:=by rw[foldP_len];exact hl0
 have hb:=base_rng hg1 hl
 have hm:=(gen_good hg1 hl ⟨hb.1,hb.2.1⟩ (link_all h1 hl)).many
 have hlp:0 < (lparts (foldP p) (foldP p).length).length:=by rw[lparts_len];exact hl
 have hpart:Barb.partAt (linkI p) 0=lpart (foldP p) 0:=by
  rw[e]
  exact (Barb.partAt_at hlp).trans (lparts_at _ _ _ hlp)
 obtain ⟨i,l1,l2,l3,_,hs⟩:=(hP.shape _ (List.getElem_mem hl0)).ex
 have hq0:(foldP p)[0]=foldU p[0]:=by simp[foldP]
 have hqd:(foldP p).getD 0 noU=foldU p[0]:=by simp[foldP,hl0]
 rw[hq0] at hm
 have he:(Barb.partAt (linkI p) 0).entries=entsL (foldU p[0]).funcs (genA (foldP p) (0:Nat) (baseAt (foldP p) 0)):=by
  rw[hpart]
  unfold lpart
  rw[hqd]
 rw[hs] at he hm
 cases hA:genA (foldP p) (0:Nat) (baseAt (foldP p) 0) with
 | nil=>rw[hA] at hm;simp[foldU] at hm
 | cons a rest =>
  rw[hA] at he
  obtain ⟨es,hes⟩:∃ es,(Barb.partAt (linkI p) 0).entries=⟨a,2⟩ :: es:=⟨_,he⟩
  have he2:=hes
  refine ⟨a,?_,by rw[he2];exact List.mem_cons_self⟩
  unfold entAt
  rw[he2]
  rfl
theorem builtRun {many:Nat} {p:List Unit} (hP:Prog many p) (h:linkE p=0) (him:imgE (linkI p)=0) {d:List Int} (hd:(d.length:Int)=imgWords (linkI p)) (hw:∀ x∈d,wordN x) (hl:0 < (linkI p).length) {w:Int} (hw1:0≤w∧w < 20) :
  ∃ a,runE (linkI p) d 0 0 [w,2] 5000=0∧runV (linkI p) d 0 0 [w,2] 5000=outOf (iterS (linkI p) 5000 ⟨[],d,[]⟩ [⟨0,a,p8 [w,2],[],-1⟩])∧SOk (linkI p) ⟨[],d,[]⟩ [⟨0,a,p8 [w,2],[],-1⟩]:=by
 obtain ⟨a,hent,hmem⟩:=built_first hP h
 have hdE:dataE (linkI p) d=0:=by
  unfold dataE
  rw[if_neg (fun hh=>hh him),if_neg (fun hh=>hh hd)]
  exact wordE_zero hw
 have hE:runE (linkI p) d 0 0 [w,2] 5000=0:=by
  have hel:0 < (Barb.partAt (linkI p) 0).entries.length:=List.length_pos_of_mem hmem
  unfold runE
  rw[if_neg (fun hh=>hh hdE),hent,if_neg (by omega),if_neg (by simp),if_neg]
  rintro (hh | hh | ⟨n,hn,hh⟩)
  ·omega
  ·omega
  ·refine hh ?_
   simp only[List.mem_cons,List.not_mem_nil,or_false] at hn
   rcases hn with rfl | rfl
   ·exact ⟨by omega,by omega⟩
   ·exact ⟨by decide,by decide⟩
 have hen:=(code_ok him hl).2.2.2 ⟨a,2⟩ (by rw[← Barb.partAt_at hl];exact hmem)
 have hcl:=(code_ok him hl).1
 refine ⟨a,hE,?_,⟨him,hd,by simp,by simp,by simp,fun f hf=>?_⟩⟩
 ·unfold runV
  rw[if_pos hE,hent];rfl
 ·rw[List.mem_singleton.1 hf]
  exact ⟨⟨0,rfl,hl⟩,hen.1,by have:=hen.2.1;show a≤2000;dsimp only at this;omega,by simp[p8],by simp,by show (-1:Int) < _;simp⟩
end Barb
namespace Go.Proofs.YtijdegmamdhcbaaGreatDoor
open Go Go.Dm Go.Eng Go.RowKit Barb
theorem sameT11_any (l:List Int) (hl:l.length≤9223372036854775807):CT Tryz.prog gl 34 [.g (.sl 1 (l.map intG)),.g (.sl 1 (l.map intG))] (Is (.g (.bool true))):=by
 refine enter hT hF hM Tryz.func34 rfl 8 rfl (by kernel_rfl) [.tmp 4] rfl [.g (.sl 1 (l.map intG)),.g (.sl 1 (l.map intG))] rfl _ ?_
 exact callIs (.inl rfl) (EqualN_any l hl) ⟨rfl,retIs (.inl rfl)⟩
theorem EqualT_any (l:List (List Int)) (hl:l.length≤9223372036854775807) (hI:∀ a∈l,a.length≤9223372036854775807):CT Tryz.prog gl 33 [.g (.sl 1 (l.map intsG)),.g (.sl 1 (l.map intsG)),.fn 34 [] []] (Is (.g (.bool true))):=by
 have ll:(l.map intsG).length=l.length:=by simp
 refine enter hT hF hM Tryz.func33 rfl 32 rfl (by kernel_rfl) [.tmp 6] rfl [.g (.sl 1 (l.map intsG)),.g (.sl 1 (l.map intsG)),.fn 34 [] []] rfl _ ?_
 refine ⟨fun h=>absurd rfl h,fun _=>?_⟩
 refine loopR (ι:=Nat) (fun i=>[(17,.g (.int (i:Int)))]) (fun _=>[]) (fun i=>i≤l.length) (fun i=>l.length - i)
  ⟨0,[],⟨rfl,.inl rfl,.inr ⟨lk rfl,trivial⟩,rfl⟩,Nat.zero_le _⟩ ?_
 intro Rd hRd i hi
 refine ⟨fun h1=>?_,fun h1=>⟨rfl,retIs (.inl rfl)⟩⟩
 have h2:i < l.length:=by omega
 refine ⟨i,_,rfl,gm h2,i,_,rfl,gm h2,?_⟩
 refine callIs (.inl rfl) (sameT11_any l[i] (hI _ (List.getElem_mem h2))) ?_
 refine ⟨_,I64.wrap (by unfold I64;omega),?_⟩
 exact hRd _ _ _ ⟨i+1,[],⟨rfl,.inl rfl,.inr ⟨lk rfl,trivial⟩,rfl⟩,h2,by omega⟩
theorem sameT1_any (c:Cells) (hc:c.I):CT Tryz.prog gl 32 [.agg (Cells.d c),.agg (Cells.d c)] (Is (.g (.bool true))):=by
 obtain ⟨⟨_,hv⟩,ha,hal⟩:=hc
 refine enter hT hF hM Tryz.func32 rfl 17 rfl (by kernel_rfl) [.tmp 4] rfl [.agg (Cells.d c),.agg (Cells.d c)] rfl _ ?_
 refine callIs (.inl rfl) (EqualN_any c.vars (by omega)) ?_
 refine callIs (.inl rfl) (EqualT_any c.arrays (by omega) (fun a h=>by have:=(ha a h).2;omega)) ?_
 exact ⟨rfl,retIs (.inl rfl)⟩
theorem EqualTC_any (l:List Cells) (hl:l.length≤9223372036854775807) (hI:∀ c∈l,Cells.I c):CT Tryz.prog gl 31 [.g (.sl 2 (l.map Cells.g)),.g (.sl 2 (l.map Cells.g)),.fn 32 [] []] (Is (.g (.bool true))):=by
 have ll:(l.map Cells.g).length=l.length:=by simp
 refine enter hT hF hM Tryz.func31 rfl 32 rfl (by kernel_rfl) [.tmp 6] rfl [.g (.sl 2 (l.map Cells.g)),.g (.sl 2 (l.map Cells.g)),.fn 32 [] []] rfl _ ?_
 refine ⟨fun h=>absurd rfl h,fun _=>?_⟩
 refine loopR (ι:=Nat) (fun i=>[(17,.g (.int (i:Int)))]) (fun _=>[]) (fun i=>i≤l.length) (fun i=>l.length - i)
  ⟨0,[],⟨rfl,.inl rfl,.inr ⟨lk rfl,trivial⟩,rfl⟩,Nat.zero_le _⟩ ?_
 intro Rd hRd i hi
 refine ⟨fun h1=>?_,fun h1=>⟨rfl,retIs (.inl rfl)⟩⟩
 have h2:i < l.length:=by omega
 refine ⟨i,_,rfl,gm h2,i,_,rfl,gm h2,?_⟩
 refine callIs (.inl rfl) (sameT1_any l[i] (hI _ (List.getElem_mem h2))) ?_
 refine ⟨_,I64.wrap (by unfold I64;omega),?_⟩
 exact hRd _ _ _ ⟨i+1,[],⟨rfl,.inl rfl,.inr ⟨lk rfl,trivial⟩,rfl⟩,h2,by omega⟩
theorem sameT_any (l:List Cells) (hl:l.length≤9223372036854775807) (hI:∀ c∈l,Cells.I c):CT Tryz.prog gl 12 [.g (.sl 2 (l.map Cells.g)),.g (.sl 2 (l.map Cells.g))] (Is (.g (.bool true))):=by
 refine enter hT hF hM Tryz.func12 rfl 8 rfl (by kernel_rfl) [.tmp 4] rfl [.g (.sl 2 (l.map Cells.g)),.g (.sl 2 (l.map Cells.g))] rfl _ ?_
 exact callIs (.inl rfl) (EqualTC_any l hl hI) ⟨rfl,retIs (.inl rfl)⟩
end Go.Proofs.YtijdegmamdhcbaaGreatDoor
