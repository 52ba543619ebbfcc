/-
  tree's reader: expressions: the contract.
-/
import Derived.Test.YtabjelabdojpkaaDoorRe
import Derived.Test.YtabjelabdojpkaaDoorDjk
namespace Go.Dm
open Go Go.Eng Go.RowKit
section
variable {P:Program} {T:Tab} {F:FuncId→Bool} {G:Gl}
theorem joinTJ {J:List Nat} {n:Nat} {x y:Code} {env:Env} {h:Heap} {df:List Deferred} {Q:Post} {ι:Type} (hJ:inL J (firstR y)=true) (val:ι→List (Nat × D)) (hpI:ι→Heap) (Inv:ι→Prop)
  (tail:∀ (e0:Env) (i:ι),Inv i→vcS J P T F G n y ⟨Env.many e0 (val i),hpI i,df⟩ Q)
  (head:∀ Rd:St→Prop,(∀ (i:ι) (e:Env) (h':Heap) (src:List Src),Heads e h' src (val i) (hpI i)→Inv i→Rd ⟨e,h',df⟩)→vcS J P T F G n x ⟨env,h,df⟩ (seqPost Rd Q)) :
  vcS J P T F G n (.seq x y) ⟨env,h,df⟩ Q:=by
 have hh:=head (fun st'=>TurnP G n (fun st1=>vcS J P T F G n y st1 Q) st') (fun i e h' src ht hi=>turnTo src (val i) (hpI i) ht (tail _ i hi))
 have e:seqPost (fun st'=>TurnP G n (fun st1=>vcS J P T F G n y st1 Q) st') Q=(fun e st'=>match e with | .normal=>bif inL J (firstR y) then TurnP G n (fun st1=>vcS J P T F G n y st1 Q) st' else vcS J P T F G n y st' Q | e=>Q e st'):=by
  funext e st'
  cases e with
  | normal=>rw[hJ];rfl
  | _=>rfl
 rw[e] at hh
 exact hh
end
end Go.Dm
namespace Go.Proofs.YtabjelabdojpkaaDoor
open Go Go.Dm Go.Eng Go.RowKit Barb
theorem fieldTok:FieldOk Tryd.prog 87 1 1:=⟨_,_,Tryd.underlying87,rfl,rfl,run_isAgg_plain Tryd.underlying9 rfl⟩
abbrev gx (x:Barb.Expr):List GV:=[.int x.k,.int x.n,.str x.of,.str x.s,.sl 5 (x.args.map Expr.g)]
abbrev zx:List D:=[.g (.int 0),.g (.int 0),.g (.str []),.g (.str []),.nils]
theorem args2 (k n:Int) (of s:Str) (x y:Barb.Expr):([.g (.int k),.g (.int n),.g (.str of),.g (.str s),.g (.sl 5 [gx x,gx y])]:List D)=Expr.d (.mk k n of s [x,y]):=by
 show _=([.g (.int k),.g (.int n),.g (.str of),.g (.str s),.g (.sl 5 [Expr.g x,Expr.g y])]:List D)
 rw[Expr.g_eq x,Expr.g_eq y]
theorem args1 (k n:Int) (of s:Str) (x:Barb.Expr):([.g (.int k),.g (.int n),.g (.str of),.g (.str s),.g (.sl 5 [gx x])]:List D)=Expr.d (.mk k n of s [x]):=by
 show _=([.g (.int k),.g (.int n),.g (.str of),.g (.str s),.g (.sl 5 [Expr.g x])]:List D)
 rw[Expr.g_eq x]
abbrev XH (l:List Tok) (k:Int) (cs:List D):Heap:=DH l k cs 104
abbrev xS:List Nat:=[3,4,5,6,7,8]++(List.range 76).map (·+11)
theorem op_ne {s:Str} (h:¬opP s=0):0 < opP s:=by
 unfold opP at h ⊢
 rcases idx_cases (fun x=>s=x) opsT with ⟨h1,_⟩ | ⟨i,_,h1,_⟩<;>rw[h1] at h ⊢<;>omega
theorem exprW1 (Q:Exit→Act→World→Prop) (a:Act) (w:World) (hsz:a.tmps.size=87) (hdf:a.defers=[])
  (h:Calls Tryd.prog 105 #[a.tmps.getD 0 undef] w (fun e w'=>match e with
    | .returned v=>∃ b,v=.func (.func 113) #[] #[b]∧Q .normal { tmps:=(a.tmps.setIfInBounds 9 (a.tmps.getD 0 undef)).setIfInBounds 10 v,defers:=[{ target:=.fn (.func 113) #[b],args:=#[] }] } w'
    | .panicked ch=>Q (.panic ch) { tmps:=a.tmps.setIfInBounds 9 (a.tmps.getD 0 undef),defers:=[] } w'
    | .outgrown=>False)):(match Tryd.f106.body with | some (.seq _ (.seq y _))=>y | _=>.skip).wp Tryd.prog Q a w:=by
 have e0:a.tmps.getD 0 undef=a.tmps[0]'(by omega):=by simp[hsz]
 rw[e0] at h
 apply wp_region
 simp[wpOps,go_sem,hsz,hdf]
 refine .inl (.inl (h.mono ?_))
 rintro e w' he
 cases e with
 | returned v =>
  obtain ⟨b,rfl,hq⟩:=he
  simp[go_sem]
  exact .inl (by simpa [hsz] using hq)
 | panicked ch=>exact he
 | outgrown=>exact he.elim
set_option maxRecDepth 20000 in
set_option maxHeartbeats 4000000 in
theorem expr_any {L:Lv}:∀ (f:Nat) (k:Int),k+f=48→0≤k→ExC L f k:=by
 intro f
 induction f with
 | zero =>
  intro k hk h0 l hl
  refine deep_gen (nt:=87) (jA:=9) (jC:=10) (S0:=[2]) (S2:=xS) (tR:=104) (zero:=zx) (enc:=fun x:Barb.Expr=>x.d) Tryd.func106 rfl rfl (by decide) (by omega) (by decide) rfl ⟨rfl,rfl,rfl⟩ ?_ exprW1 (fun d C a w h48=>absurd h48 (by omega)) (fun _=>rfl) (fun l' k' a=>rfl) (fun h src a=>rfl)
  intro C a w hG hr
  refine vcS_sound [] hT hF hM.ok _ [2] (by decide) (by decide) C _ a w _ ?_ hr
  exact ⟨rfl,rfl⟩
 | succ f ih =>
  intro k hk h0 l hl
  have hE:ExC L f (k+1):=ih (k+1) (by omega) (by omega)
  suffices H:∀ r,termP (exprP f) l=r→CTH Tryd.prog (gl L) 106 1 (RH l k) [.ptr 0 0] (rdQ exD k r) from H _ rfl
  intro r hr
  have hl1:=hl.1
  refine deep_gen (nt:=87) (jA:=9) (jC:=10) (S0:=[2]) (S2:=xS) (tR:=104) (zero:=zx) (enc:=fun x:Barb.Expr=>x.d) Tryd.func106 rfl rfl (by decide) (by omega) (by decide) rfl ⟨rfl,rfl,rfl⟩ ?_ exprW1 (fun d C a w h48 hG hr0=>?_) (fun h=>absurd (by omega) h) (fun l' k' a=>rfl) (fun h src a=>rfl)
  ·intro C a w hG hr
   refine vcS_sound [] hT hF hM.ok _ [2] (by decide) (by decide) C _ a w _ ?_ hr
   exact ⟨rfl,rfl⟩
  have hTk:=take_any (L:=L) l (k+1) [40] (by omega)
  unfold termP at hr
  cases ht:takeP [40] l with
  | some l1 =>
   rw[ht] at hTk hr
   have hr:(exprP f l1).then (fun a l2=>if opP (textP l2)=0 then .bad 4 else (exprP f l2.tail).then fun b l3=>(mustP [41] l3).then fun _ l4=>.ok (.mk 5 (opP (textP l2)) [] [] [a,b]) l4)=r:=hr
   have ho1:=hl.take ht
   have hE1:=hE l1 ho1
   refine vcS_sound [4,5,6,7] hT hF hM.ok _ xS (by decide) (by decide) C _ a w _ ?_ hr0
   rw[hG]
   refine callO [0] take_fn rfl rfl ⟨rfl,.inl rfl,.inl rfl,rfl⟩ hTk (fun d' h' hq=>?_) (fun d' h' hq=>by cases hq)
   injection hq with e1 e2;subst e1;subst e2
   refine callO [0] expr_fn rfl rfl ⟨rfl,.inl rfl,.inl rfl,rfl⟩ hE1 (fun d' h' hq=>?_) (fun d' h' hq=>?_)
   rotate_left
   ·obtain ⟨e,l',k',he,hk',rfl,rfl⟩:=rdQ_pan hq
    have hr:r=.bad e:=by rw[← hr,he];rfl
    exact ⟨rfl,e,l',k',hr,rfl,by omega,[.old 0,.old 2],⟨rfl,.inl rfl,.inl rfl,rfl⟩⟩
   obtain ⟨x,l2,he,rfl,rfl⟩:=rdQ_ret hq
   rw[he] at hr
   have ho2:=ho1.next (expr_shr f) (expr_mem f) he
   refine turnTo [.old 0,.old 1,.old 2,.old 3] [(0,.ptr 0 0),(2,.ptr 1 0),(10,backD 2),(3,.ptr 3 0)] (XH l2 (k+1) zx++[.blk x.d 104]) ⟨rfl,.inl rfl,.inl rfl,rfl⟩ ?_
   have hNx:=next_any (L:=L) l2 (k+1) (by have:=ho2.1;omega)
   have hIx:=strIdx_any (L:=L) opsT (by decide) (textP l2)
   have hI:I64 (idx (fun x=>textP l2=x) opsT+1):=by
    rcases idx_cases (fun x=>textP l2=x) opsT with ⟨h1,_⟩ | ⟨i,hi,h1,_⟩
    ·rw[h1];unfold I64;omega
    ·have:i < 10:=hi
     rw[h1];unfold I64;omega
   refine joinTJ (ι:=PUnit) rfl (fun _=>[(0,.ptr 0 0),(2,.ptr 1 0),(10,backD 2),(3,.ptr 3 0),(4,.g (.int (opP (textP l2))))]) (fun _=>XH l2.tail (k+1) zx++[.blk x.d 104]) (fun _=>True) (fun e0 _ _=>?_) (fun Rd hRd=>?_)
   rotate_left
   ·refine ⟨some 60001,(.lead 1 (.two (.run 0 (.run 2 (.run 3 (.run 4 (.run 5 (.run 6 .done)))))) (.run 2 (.two (.run 0 (.run 3 (.run 4 (.run 5 (.run 6 .done))))) (.run 3 (.run 0 (.run 4 (.run 5 (.run 6 .done))))))))),rfl,?_⟩
    refine ⟨?_,?_⟩
    ·refine ⟨1,rfl,rfl,rfl,by decide,?_⟩
     refine callO [0] next_fn rfl rfl ⟨rfl,.inl rfl,.inl rfl,rfl⟩ hNx (fun d' h' hq=>?_) (fun d' h' hq=>by cases hq)
     injection hq with e1 e2;subst e1;subst e2
     refine ⟨1,.g (.str (textP l2)),fieldTok,rfl,?_⟩
     refine callIs (.inl rfl) hIx ?_
     refine ⟨_,I64.wrap hI,?_⟩
     exact hRd ⟨⟩ _ _ [.old 0,.old 1,.old 2,.old 3] ⟨rfl,.inl rfl,.inl rfl,rfl⟩ trivial
    ·refine callO [0] next_fn rfl rfl ⟨rfl,.inl rfl,.inl rfl,rfl⟩ hNx (fun d' h' hq=>?_) (fun d' h' hq=>by cases hq)
     injection hq with e1 e2;subst e1;subst e2
     refine ⟨?_,?_⟩
     ·refine ⟨1,rfl,rfl,rfl,by decide,?_⟩
      refine ⟨1,.g (.str (textP l2)),fieldTok,rfl,?_⟩
      refine callIs (.inl rfl) hIx ?_
      refine ⟨_,I64.wrap hI,?_⟩
      exact hRd ⟨⟩ _ _ [.old 0,.old 1,.old 2,.old 3] ⟨rfl,.inl rfl,.inl rfl,rfl⟩ trivial
     ·refine ⟨1,.g (.str (textP l2)),fieldTok,rfl,?_⟩
      refine ⟨1,rfl,rfl,rfl,by decide,?_⟩
      refine callIs (.inl rfl) hIx ?_
      refine ⟨_,I64.wrap hI,?_⟩
      exact hRd ⟨⟩ _ _ [.old 0,.old 1,.old 2,.old 3] ⟨rfl,.inl rfl,.inl rfl,rfl⟩ trivial
   have hE2:=hE l2.tail ho2.tail
   have hr:(if opP (textP l2)=0 then .bad 4 else (exprP f l2.tail).then fun b l3=>(mustP [41] l3).then fun _ l4=>.ok (.mk 5 (opP (textP l2)) [] [] [x,b]) l4)=r:=hr
   refine callNeed (p:=opP (textP l2) > 0) (by decide) (lkP Iff.rfl) (fun hop=>?_) (fun hop=>?_)
   rotate_left
   ·have h00:opP (textP l2)=0:=Classical.not_not.1 (fun h=>hop (op_ne h))
    rw[if_pos h00] at hr
    exact ⟨rfl,4,l2.tail,k+1,hr.symm,rfl,by omega,[.old 0,.old 2],⟨rfl,.inl rfl,.inl rfl,rfl⟩⟩
   rw[if_neg (by omega)] at hr
   have badE:∀ {d:D} {h:Heap},rdQ exD (k+1) (exprP f l2.tail) (.panH d h)→∃ e l' k',r=.bad e∧(k+1≤k'∧k'≤k+2)∧d=panV e∧h=RH l' k':=fun hq=>by
    obtain ⟨e,l',k',he,hk',h1,h2⟩:=rdQ_pan hq
    exact ⟨e,l',k',by rw[← hr,he];rfl,by omega,h1,h2⟩
   refine turnTo [.old 0,.old 1,.old 2,.old 3] [(0,.ptr 0 0),(2,.ptr 1 0),(10,backD 2),(3,.ptr 3 0),(4,.g (.int (opP (textP l2))))] (XH l2.tail (k+1) zx++[.blk x.d 104]) ⟨rfl,.inl rfl,.inl rfl,rfl⟩ ?_
   refine joinTJ (ι:=Barb.Expr × List Tok) rfl (fun _=>[(0,.ptr 0 0),(2,.ptr 1 0),(10,backD 2),(5,.ptr 3 0)]) (fun i=>XH i.2 (k+1) zx++[.blk [.g (.int 5),.g (.int (opP (textP l2))),.g (.str []),.g (.str []),.g (.sl 5 [gx x,gx i.1])] 104]) (fun i=>exprP f l2.tail=.ok i.1 i.2) (fun e0 i hi=>?_) (fun Rd hRd=>?_)
   rotate_left
   ·refine ⟨some 60002,(.lead 0 (.lead 2 (.two (.run 1 (.two (.run 3 (.two (.run 4 (.two (.run 5 (.run 6 (.run 7 .done))) (.run 6 (.run 5 (.run 7 .done))))) (.run 6 (.run 4 (.run 5 (.run 7 .done)))))) (.run 6 (.run 3 (.run 4 (.run 5 (.run 7 .done))))))) (.two (.run 3 (.two (.run 1 (.two (.run 4 (.two (.run 5 (.run 6 (.run 7 .done))) (.run 6 (.run 5 (.run 7 .done))))) (.run 6 (.run 4 (.run 5 (.run 7 .done)))))) (.run 6 (.run 1 (.run 4 (.run 5 (.run 7 .done))))))) (.run 6 (.two (.run 1 (.run 3 (.run 4 (.run 5 (.run 7 .done))))) (.run 3 (.run 1 (.run 4 (.run 5 (.run 7 .done))))))))))),rfl,?_⟩
    refine ⟨?_,?_⟩
    ·refine ⟨?_,?_⟩
     ·refine callO [0] expr_fn rfl rfl ⟨rfl,.inl rfl,.inl rfl,rfl⟩ hE2 (fun d' h' hq=>?_) (fun d' h' hq=>by obtain ⟨e,l',k',hr,hk',rfl,rfl⟩:=badE hq;exact ⟨rfl,e,l',k',hr,rfl,hk',[.old 0,.old 2],⟨rfl,.inl rfl,.inl rfl,rfl⟩⟩)
      obtain ⟨y,l3,he3,rfl,rfl⟩:=rdQ_ret hq
      refine ⟨?_,?_⟩
      ·refine ⟨[gx x,gx y],rfl,rfl,⟨rfl,rfl,rfl,rfl,rfl,rfl,rfl,rfl,rfl,rfl,trivial⟩,?_⟩
       refine ⟨?_,?_⟩
       ·exact hRd ⟨y,l3⟩ _ _ [.old 0,.old 1,.old 2,.old 5] ⟨rfl,.inl rfl,.inl rfl,rfl⟩ he3
       ·exact hRd ⟨y,l3⟩ _ _ [.old 0,.old 1,.old 2,.old 5] ⟨rfl,.inl rfl,.inl rfl,rfl⟩ he3
      ·refine ⟨[gx x,gx y],rfl,rfl,⟨rfl,rfl,rfl,rfl,rfl,rfl,rfl,rfl,rfl,rfl,trivial⟩,?_⟩
       exact hRd ⟨y,l3⟩ _ _ [.old 0,.old 1,.old 2,.old 4] ⟨rfl,.inl rfl,.inl rfl,rfl⟩ he3
     ·refine callO [0] expr_fn rfl rfl ⟨rfl,.inl rfl,.inl rfl,rfl⟩ hE2 (fun d' h' hq=>?_) (fun d' h' hq=>by obtain ⟨e,l',k',hr,hk',rfl,rfl⟩:=badE hq;exact ⟨rfl,e,l',k',hr,rfl,hk',[.old 0,.old 2],⟨rfl,.inl rfl,.inl rfl,rfl⟩⟩)
      obtain ⟨y,l3,he3,rfl,rfl⟩:=rdQ_ret hq
      refine ⟨[gx x,gx y],rfl,rfl,⟨rfl,rfl,rfl,rfl,rfl,rfl,rfl,rfl,rfl,rfl,trivial⟩,?_⟩
      exact hRd ⟨y,l3⟩ _ _ [.old 0,.old 1,.old 2,.old 4] ⟨rfl,.inl rfl,.inl rfl,rfl⟩ he3
    ·skip
     refine ⟨?_,?_⟩
     ·refine callO [0] expr_fn rfl rfl ⟨rfl,.inl rfl,.inl rfl,rfl⟩ hE2 (fun d' h' hq=>?_) (fun d' h' hq=>by obtain ⟨e,l',k',hr,hk',rfl,rfl⟩:=badE hq;exact ⟨rfl,e,l',k',hr,rfl,hk',[.old 0,.old 2],⟨rfl,.inl rfl,.inl rfl,rfl⟩⟩)
      obtain ⟨y,l3,he3,rfl,rfl⟩:=rdQ_ret hq
      refine ⟨?_,?_⟩
      ·refine ⟨?_,?_⟩
       ·refine ⟨[gx x,gx y],rfl,rfl,⟨rfl,rfl,rfl,rfl,rfl,rfl,rfl,rfl,rfl,rfl,trivial⟩,?_⟩
        refine ⟨?_,?_⟩
        ·exact hRd ⟨y,l3⟩ _ _ [.old 0,.old 1,.old 2,.old 5] ⟨rfl,.inl rfl,.inl rfl,rfl⟩ he3
        ·exact hRd ⟨y,l3⟩ _ _ [.old 0,.old 1,.old 2,.old 5] ⟨rfl,.inl rfl,.inl rfl,rfl⟩ he3
       ·refine ⟨[gx x,gx y],rfl,rfl,⟨rfl,rfl,rfl,rfl,rfl,rfl,rfl,rfl,rfl,rfl,trivial⟩,?_⟩
        exact hRd ⟨y,l3⟩ _ _ [.old 0,.old 1,.old 2,.old 4] ⟨rfl,.inl rfl,.inl rfl,rfl⟩ he3
      ·refine ⟨[gx x,gx y],rfl,rfl,⟨rfl,rfl,rfl,rfl,rfl,rfl,rfl,rfl,rfl,rfl,trivial⟩,?_⟩
       exact hRd ⟨y,l3⟩ _ _ [.old 0,.old 1,.old 2,.old 4] ⟨rfl,.inl rfl,.inl rfl,rfl⟩ he3
     ·refine ⟨?_,?_⟩
      ·refine callO [0] expr_fn rfl rfl ⟨rfl,.inl rfl,.inl rfl,rfl⟩ hE2 (fun d' h' hq=>?_) (fun d' h' hq=>by obtain ⟨e,l',k',hr,hk',rfl,rfl⟩:=badE hq;exact ⟨rfl,e,l',k',hr,rfl,hk',[.old 0,.old 2],⟨rfl,.inl rfl,.inl rfl,rfl⟩⟩)
       obtain ⟨y,l3,he3,rfl,rfl⟩:=rdQ_ret hq
       refine ⟨[gx x,gx y],rfl,rfl,⟨rfl,rfl,rfl,rfl,rfl,rfl,rfl,rfl,rfl,rfl,trivial⟩,?_⟩
       exact hRd ⟨y,l3⟩ _ _ [.old 0,.old 1,.old 2,.old 4] ⟨rfl,.inl rfl,.inl rfl,rfl⟩ he3
      ·refine callO [0] expr_fn rfl rfl ⟨rfl,.inl rfl,.inl rfl,rfl⟩ hE2 (fun d' h' hq=>?_) (fun d' h' hq=>by obtain ⟨e,l',k',hr,hk',rfl,rfl⟩:=badE hq;exact ⟨rfl,e,l',k',hr,rfl,hk',[.old 0,.old 2],⟨rfl,.inl rfl,.inl rfl,rfl⟩⟩)
       obtain ⟨y,l3,he3,rfl,rfl⟩:=rdQ_ret hq
       refine ⟨[gx x,gx y],rfl,rfl,⟨rfl,rfl,rfl,rfl,rfl,rfl,rfl,rfl,rfl,rfl,trivial⟩,?_⟩
       exact hRd ⟨y,l3⟩ _ _ [.old 0,.old 1,.old 2,.old 4] ⟨rfl,.inl rfl,.inl rfl,rfl⟩ he3
   obtain ⟨y,l3⟩:=i
   have hi:exprP f l2.tail=.ok y l3:=hi
   rw[hi] at hr
   have ho3:=ho2.tail.next (expr_shr f) (expr_mem f) hi
   have hMu:=must_any (L:=L) l3 (k+1) [41] (by have:=ho3.1;omega)
   refine callO [0] must_fn rfl rfl ⟨rfl,.inl rfl,.inl rfl,rfl⟩ hMu (fun d' h' hq=>?_) (fun d' h' hq=>?_)
   ·obtain ⟨_,l4,he4,rfl,rfl⟩:=rdQ_ret hq
    have hr:r=.ok (.mk 5 (opP (textP l2)) [] [] [x,y]) l4:=by rw[← hr];show (mustP [41] l3).then _=_;rw[he4];rfl
    exact ⟨rfl,_,l4,hr,[.old 0,.old 1,.old 2],⟨rfl,.inr ⟨⟨rfl,.inl rfl⟩,⟨rfl,.inl (args2 _ _ _ _ _ _)⟩,⟨rfl,.inl rfl⟩,trivial⟩,.inl rfl,rfl⟩⟩
   ·obtain ⟨e,l',k',he,hk',rfl,rfl⟩:=rdQ_pan hq
    have hr:r=.bad e:=by rw[← hr];show (mustP [41] l3).then _=_;rw[he];rfl
    exact ⟨rfl,e,l',k',hr,rfl,by omega,[.old 0,.old 2],⟨rfl,.inl rfl,.inl rfl,rfl⟩⟩
  | none =>
   rw[ht] at hTk hr
   have hr:(if kindP l=2 then (numP l).then fun n l1=>.ok (.mk 1 n [] [] []) l1 else
    (nameP l).then fun s l1=>match takeP [91] l1 with
     | some l2=>(exprP f l2).then fun a l3=>(mustP [93] l3).then fun _ l4=>.ok (.mk 3 0 [] s [a]) l4
     | none=>match takeP [40] l1 with
      | some l2=>(listP (exprP f) l2).then fun xs l3=>.ok (.mk 4 0 [] s xs) l3
      | none=>match takeP [46] l1 with
       | some l2=>(nameP l2).then fun g l3=>(mustP [40] l3).then fun _ l4=>(listP (exprP f) l4).then fun xs l5=>.ok (.mk 4 0 s g xs) l5
       | none=>.ok (.mk 2 0 [] s []) l1)=r:=hr
   by_cases hkind:kindP l=2
   ·rw[if_pos hkind] at hr
    have hNu:=number_any (L:=L) l (k+1) (by omega) (by have:=hl.text;omega)
    obtain ⟨t0,r0,rfl⟩:∃ t0 r0,l=t0 :: r0:=by
     cases l with
     | nil=>cases hkind
     | cons t0 r0=>exact ⟨t0,r0,rfl⟩
    have lr:((t0 :: r0).map Tok.g).length=r0.length+1:=by simp
    refine vcS_sound [] hT hF hM.ok _ xS (by decide) (by decide) C _ a w _ ?_ hr0
    rw[hG]
    refine callO [0] take_fn rfl rfl ⟨rfl,.inl rfl,.inl rfl,rfl⟩ hTk (fun d' h' hq=>?_) (fun d' h' hq=>by cases hq)
    injection hq with e1 e2;subst e1;subst e2
    refine ⟨fun _=>⟨0,_,rfl,rfl,?_⟩,fun h=>absurd (show (0:Int) < ((t0 :: r0).map Tok.g).length by omega) h⟩
    refine ⟨fun _=>?_,fun h=>absurd hkind h⟩
    refine callO [0] number_fn rfl rfl ⟨rfl,.inl rfl,.inl rfl,rfl⟩ hNu (fun d' h' hq=>?_) (fun d' h' hq=>?_)
    ·obtain ⟨n,l4,he4,rfl,rfl⟩:=rdQ_ret hq
     have hr:r=.ok (.mk 1 n [] [] []) l4:=by rw[← hr];show (numP (t0 :: r0)).then _=_;rw[he4];rfl
     exact ⟨rfl,_,l4,hr,[.old 0,.old 1,.old 2],⟨rfl,.inr ⟨⟨rfl,.inl rfl⟩,⟨rfl,.inr ⟨lk rfl,lk rfl,lk rfl,lk rfl,lkNil,trivial⟩⟩,⟨rfl,.inl rfl⟩,trivial⟩,.inl rfl,rfl⟩⟩
    ·obtain ⟨e,l',k',he,hk',rfl,rfl⟩:=rdQ_pan hq
     have hr:r=.bad e:=by rw[← hr];show (numP (t0 :: r0)).then _=_;rw[he];rfl
     exact ⟨rfl,e,l',k',hr,rfl,by omega,[.old 0,.old 2],⟨rfl,.inl rfl,.inl rfl,rfl⟩⟩
   ·rw[if_neg hkind] at hr
    have hNm:=name_any (L:=L) l (k+1) (by omega) (by have:=hl.text;omega)
    cases l with
    | nil =>
     refine vcS_sound [] hT hF hM.ok _ xS (by decide) (by decide) C _ a w _ ?_ hr0
     rw[hG]
     refine callO [0] take_fn rfl rfl ⟨rfl,.inl rfl,.inl rfl,rfl⟩ hTk (fun d' h' hq=>?_) (fun d' h' hq=>by cases hq)
     injection hq with e1 e2;subst e1;subst e2
     refine ⟨fun h=>absurd (show (0:Int) < 0 from h) (by decide),fun _=>?_⟩
     refine callO [0] name_fn rfl rfl ⟨rfl,.inl rfl,.inl rfl,rfl⟩ hNm (fun d' h' hq=>?_) (fun d' h' hq=>?_)
     ·obtain ⟨s,l1,he,rfl,rfl⟩:=rdQ_ret hq
      have:=name_shr _ _ _ he
      simp at this
     ·obtain ⟨e,l',k',he,hk',rfl,rfl⟩:=rdQ_pan hq
      have hr:r=.bad e:=by rw[← hr];show (nameP []).then _=_;rw[he];rfl
      exact ⟨rfl,e,l',k',hr,rfl,by omega,[.old 0,.old 2],⟨rfl,.inl rfl,.inl rfl,rfl⟩⟩
    | cons t0 r0 =>
     have lr:((t0 :: r0).map Tok.g).length=r0.length+1:=by simp
     cases hn:nameP (t0 :: r0) with
     | bad e0 =>
      rw[hn] at hNm hr
      have hr:r=.bad e0:=hr.symm
      refine vcS_sound [] hT hF hM.ok _ xS (by decide) (by decide) C _ a w _ ?_ hr0
      rw[hG]
      refine callO [0] take_fn rfl rfl ⟨rfl,.inl rfl,.inl rfl,rfl⟩ hTk (fun d' h' hq=>?_) (fun d' h' hq=>by cases hq)
      injection hq with e1 e2;subst e1;subst e2
      refine ⟨fun _=>⟨0,_,rfl,rfl,?_⟩,fun h=>absurd (show (0:Int) < ((t0 :: r0).map Tok.g).length by omega) h⟩
      refine ⟨fun h=>absurd h hkind,fun _=>?_⟩
      refine callO [0] name_fn rfl rfl ⟨rfl,.inl rfl,.inl rfl,rfl⟩ hNm (fun d' h' hq=>?_) (fun d' h' hq=>?_)
      ·obtain ⟨_,_,_,hq⟩:=hq
       cases hq
      ·obtain ⟨l',k',hk',hq⟩:=hq
       injection hq with e1 e2;subst e1;subst e2
       exact ⟨rfl,e0,l',k',hr,rfl,by omega,[.old 0,.old 2],⟨rfl,.inl rfl,.inl rfl,rfl⟩⟩
     | ok s l1 =>
      have ho1:=hl.next name_shr name_mem hn
      have ho11:=ho1.1
      rw[hn] at hNm hr
      have hr:(match takeP [91] l1 with
       | some l2=>(exprP f l2).then fun a l3=>(mustP [93] l3).then fun _ l4=>.ok (.mk 3 0 [] s [a]) l4
       | none=>match takeP [40] l1 with
        | some l2=>(listP (exprP f) l2).then fun xs l3=>.ok (.mk 4 0 [] s xs) l3
        | none=>match takeP [46] l1 with
         | some l2=>(nameP l2).then fun g l3=>(mustP [40] l3).then fun _ l4=>(listP (exprP f) l4).then fun xs l5=>.ok (.mk 4 0 s g xs) l5
         | none=>.ok (.mk 2 0 [] s []) l1)=r:=hr
      have hT1:=take_any (L:=L) l1 (k+1) [91] (by omega)
      cases h1:takeP [91] l1 with
      | some l2 =>
       rw[h1] at hT1 hr
       have hr:(exprP f l2).then (fun a l3=>(mustP [93] l3).then fun _ l4=>.ok (.mk 3 0 [] s [a]) l4)=r:=hr
       have ho2:=ho1.take h1
       have hE2:=hE l2 ho2
       refine vcS_sound [] hT hF hM.ok _ xS (by decide) (by decide) C _ a w _ ?_ hr0
       rw[hG]
       refine callO [0] take_fn rfl rfl ⟨rfl,.inl rfl,.inl rfl,rfl⟩ hTk (fun d' h' hq=>?_) (fun d' h' hq=>by cases hq)
       injection hq with e1 e2;subst e1;subst e2
       refine ⟨fun _=>⟨0,_,rfl,rfl,?_⟩,fun h=>absurd (show (0:Int) < ((t0 :: r0).map Tok.g).length by omega) h⟩
       refine ⟨fun h=>absurd h hkind,fun _=>?_⟩
       refine callO [0] name_fn rfl rfl ⟨rfl,.inl rfl,.inl rfl,rfl⟩ hNm (fun d' h' hq=>?_) (fun d' h' hq=>by cases hq)
       injection hq with e1 e2;subst e1;subst e2
       refine callO [0] take_fn rfl rfl ⟨rfl,.inl rfl,.inl rfl,rfl⟩ hT1 (fun d' h' hq=>?_) (fun d' h' hq=>by cases hq)
       injection hq with e1 e2;subst e1;subst e2
       refine callO [0] expr_fn rfl rfl ⟨rfl,.inl rfl,.inl rfl,rfl⟩ hE2 (fun d' h' hq=>?_) (fun d' h' hq=>?_)
       rotate_left
       ·obtain ⟨e,l',k',he,hk',rfl,rfl⟩:=rdQ_pan hq
        have hr:r=.bad e:=by rw[← hr];show (exprP f l2).then _=_;rw[he];rfl
        exact ⟨rfl,e,l',k',hr,rfl,by omega,[.old 0,.old 2],⟨rfl,.inl rfl,.inl rfl,rfl⟩⟩
       obtain ⟨x,l3,he,rfl,rfl⟩:=rdQ_ret hq
       rw[he] at hr
       have ho3:=ho2.next (expr_shr f) (expr_mem f) he
       have hMu:=must_any (L:=L) l3 (k+1) [93] (by have:=ho3.1;omega)
       refine ⟨[gx x],rfl,rfl,⟨rfl,rfl,rfl,rfl,rfl,trivial⟩,?_⟩
       refine callO [0] must_fn rfl rfl ⟨rfl,.inl rfl,.inl rfl,rfl⟩ hMu (fun d' h' hq=>?_) (fun d' h' hq=>?_)
       ·obtain ⟨_,l4,he4,rfl,rfl⟩:=rdQ_ret hq
        have hr:r=.ok (.mk 3 0 [] s [x]) l4:=by rw[← hr];show (mustP [93] l3).then _=_;rw[he4];rfl
        exact ⟨rfl,_,l4,hr,[.old 0,.old 1,.old 2],⟨rfl,.inr ⟨⟨rfl,.inl rfl⟩,⟨rfl,.inl (args1 _ _ _ _ _)⟩,⟨rfl,.inl rfl⟩,trivial⟩,.inl rfl,rfl⟩⟩
       ·obtain ⟨e,l',k',he,hk',rfl,rfl⟩:=rdQ_pan hq
        have hr:r=.bad e:=by rw[← hr];show (mustP [93] l3).then _=_;rw[he];rfl
        exact ⟨rfl,e,l',k',hr,rfl,by omega,[.old 0,.old 2],⟨rfl,.inl rfl,.inl rfl,rfl⟩⟩
      | none =>
       rw[h1] at hT1 hr
       have hr:(match takeP [40] l1 with
        | some l2=>(listP (exprP f) l2).then fun xs l3=>.ok (.mk 4 0 [] s xs) l3
        | none=>match takeP [46] l1 with
         | some l2=>(nameP l2).then fun g l3=>(mustP [40] l3).then fun _ l4=>(listP (exprP f) l4).then fun xs l5=>.ok (.mk 4 0 s g xs) l5
         | none=>.ok (.mk 2 0 [] s []) l1)=r:=hr
       have hT2:=take_any (L:=L) l1 (k+1) [40] (by omega)
       cases h2:takeP [40] l1 with
       | some l2 =>
        rw[h2] at hT2 hr
        have hr:(listP (exprP f) l2).then (fun xs l3=>.ok (.mk 4 0 [] s xs) l3)=r:=hr
        have ho2:=ho1.take h2
        have hLi:=list_any hE l2 ho2
        refine vcS_sound [] hT hF hM.ok _ xS (by decide) (by decide) C _ a w _ ?_ hr0
        rw[hG]
        refine callO [0] take_fn rfl rfl ⟨rfl,.inl rfl,.inl rfl,rfl⟩ hTk (fun d' h' hq=>?_) (fun d' h' hq=>by cases hq)
        injection hq with e1 e2;subst e1;subst e2
        refine ⟨fun _=>⟨0,_,rfl,rfl,?_⟩,fun h=>absurd (show (0:Int) < ((t0 :: r0).map Tok.g).length by omega) h⟩
        refine ⟨fun h=>absurd h hkind,fun _=>?_⟩
        refine callO [0] name_fn rfl rfl ⟨rfl,.inl rfl,.inl rfl,rfl⟩ hNm (fun d' h' hq=>?_) (fun d' h' hq=>by cases hq)
        injection hq with e1 e2;subst e1;subst e2
        refine callO [0] take_fn rfl rfl ⟨rfl,.inl rfl,.inl rfl,rfl⟩ hT1 (fun d' h' hq=>?_) (fun d' h' hq=>by cases hq)
        injection hq with e1 e2;subst e1;subst e2
        refine callO [0] take_fn rfl rfl ⟨rfl,.inl rfl,.inl rfl,rfl⟩ hT2 (fun d' h' hq=>?_) (fun d' h' hq=>by cases hq)
        injection hq with e1 e2;subst e1;subst e2
        refine callO [0] list_fn rfl rfl ⟨rfl,.inl rfl,.inl rfl,rfl⟩ hLi (fun d' h' hq=>?_) (fun d' h' hq=>?_)
        ·obtain ⟨xs,l3,he,rfl,rfl⟩:=rdQ_ret hq
         have hr:r=.ok (.mk 4 0 [] s xs) l3:=by rw[← hr,he];rfl
         exact ⟨rfl,_,l3,hr,[.old 0,.old 1,.old 2],⟨rfl,.inl rfl,.inl rfl,rfl⟩⟩
        ·obtain ⟨e,l',k',he,hk',rfl,rfl⟩:=rdQ_pan hq
         have hr:r=.bad e:=by rw[← hr];show (listP (exprP f) l2).then _=_;rw[he];rfl
         exact ⟨rfl,e,l',k',hr,rfl,by omega,[.old 0,.old 2],⟨rfl,.inl rfl,.inl rfl,rfl⟩⟩
       | none =>
        rw[h2] at hT2 hr
        have hr:(match takeP [46] l1 with
         | some l2=>(nameP l2).then fun g l3=>(mustP [40] l3).then fun _ l4=>(listP (exprP f) l4).then fun xs l5=>.ok (.mk 4 0 s g xs) l5
         | none=>.ok (.mk 2 0 [] s []) l1)=r:=hr
        have hT3:=take_any (L:=L) l1 (k+1) [46] (by omega)
        cases h3:takeP [46] l1 with
        | some l2 =>
         rw[h3] at hT3 hr
         have hr:(nameP l2).then (fun g l3=>(mustP [40] l3).then fun _ l4=>(listP (exprP f) l4).then fun xs l5=>.ok (.mk 4 0 s g xs) l5)=r:=hr
         have ho2:=ho1.take h3
         have hNm2:=name_any (L:=L) l2 (k+1) (by have:=ho2.1;omega) (by have:=ho2.text;omega)
         refine vcS_sound [] hT hF hM.ok _ xS (by decide) (by decide) C _ a w _ ?_ hr0
         rw[hG]
         refine callO [0] take_fn rfl rfl ⟨rfl,.inl rfl,.inl rfl,rfl⟩ hTk (fun d' h' hq=>?_) (fun d' h' hq=>by cases hq)
         injection hq with e1 e2;subst e1;subst e2
         refine ⟨fun _=>⟨0,_,rfl,rfl,?_⟩,fun h=>absurd (show (0:Int) < ((t0 :: r0).map Tok.g).length by omega) h⟩
         refine ⟨fun h=>absurd h hkind,fun _=>?_⟩
         refine callO [0] name_fn rfl rfl ⟨rfl,.inl rfl,.inl rfl,rfl⟩ hNm (fun d' h' hq=>?_) (fun d' h' hq=>by cases hq)
         injection hq with e1 e2;subst e1;subst e2
         refine callO [0] take_fn rfl rfl ⟨rfl,.inl rfl,.inl rfl,rfl⟩ hT1 (fun d' h' hq=>?_) (fun d' h' hq=>by cases hq)
         injection hq with e1 e2;subst e1;subst e2
         refine callO [0] take_fn rfl rfl ⟨rfl,.inl rfl,.inl rfl,rfl⟩ hT2 (fun d' h' hq=>?_) (fun d' h' hq=>by cases hq)
         injection hq with e1 e2;subst e1;subst e2
         refine callO [0] take_fn rfl rfl ⟨rfl,.inl rfl,.inl rfl,rfl⟩ hT3 (fun d' h' hq=>?_) (fun d' h' hq=>by cases hq)
         injection hq with e1 e2;subst e1;subst e2
         refine callO [0] name_fn rfl rfl ⟨rfl,.inl rfl,.inl rfl,rfl⟩ hNm2 (fun d' h' hq=>?_) (fun d' h' hq=>?_)
         rotate_left
         ·obtain ⟨e,l',k',he,hk',rfl,rfl⟩:=rdQ_pan hq
          have hr:r=.bad e:=by rw[← hr];show (nameP l2).then _=_;rw[he];rfl
          exact ⟨rfl,e,l',k',hr,rfl,by omega,[.old 0,.old 2],⟨rfl,.inl rfl,.inl rfl,rfl⟩⟩
         obtain ⟨g,l3,he3,rfl,rfl⟩:=rdQ_ret hq
         rw[he3] at hr
         have hr:(mustP [40] l3).then (fun _ l4=>(listP (exprP f) l4).then fun xs l5=>.ok (.mk 4 0 s g xs) l5)=r:=hr
         have ho3:=ho2.next name_shr name_mem he3
         have hMu:=must_any (L:=L) l3 (k+1) [40] (by have:=ho3.1;omega)
         refine callO [0] must_fn rfl rfl ⟨rfl,.inl rfl,.inl rfl,rfl⟩ hMu (fun d' h' hq=>?_) (fun d' h' hq=>?_)
         rotate_left
         ·obtain ⟨e,l',k',he,hk',rfl,rfl⟩:=rdQ_pan hq
          have hr:r=.bad e:=by rw[← hr];show (mustP [40] l3).then _=_;rw[he];rfl
          exact ⟨rfl,e,l',k',hr,rfl,by omega,[.old 0,.old 2],⟨rfl,.inl rfl,.inl rfl,rfl⟩⟩
         obtain ⟨_,l4,he4,rfl,rfl⟩:=rdQ_ret hq
         rw[he4] at hr
         have hr:(listP (exprP f) l4).then (fun xs l5=>.ok (.mk 4 0 s g xs) l5)=r:=hr
         have ho4:=ho3.next (must_shr _) (must_mem _) he4
         have hLi:=list_any hE l4 ho4
         refine callO [0] list_fn rfl rfl ⟨rfl,.inl rfl,.inl rfl,rfl⟩ hLi (fun d' h' hq=>?_) (fun d' h' hq=>?_)
         ·obtain ⟨xs,l5,he,rfl,rfl⟩:=rdQ_ret hq
          have hr:r=.ok (.mk 4 0 s g xs) l5:=by rw[← hr,he];rfl
          exact ⟨rfl,_,l5,hr,[.old 0,.old 1,.old 2],⟨rfl,.inl rfl,.inl rfl,rfl⟩⟩
         ·obtain ⟨e,l',k',he,hk',rfl,rfl⟩:=rdQ_pan hq
          have hr:r=.bad e:=by rw[← hr];show (listP (exprP f) l4).then _=_;rw[he];rfl
          exact ⟨rfl,e,l',k',hr,rfl,by omega,[.old 0,.old 2],⟨rfl,.inl rfl,.inl rfl,rfl⟩⟩
        | none =>
         rw[h3] at hT3 hr
         have hr:r=.ok (.mk 2 0 [] s []) l1:=hr.symm
         refine vcS_sound [] hT hF hM.ok _ xS (by decide) (by decide) C _ a w _ ?_ hr0
         rw[hG]
         refine callO [0] take_fn rfl rfl ⟨rfl,.inl rfl,.inl rfl,rfl⟩ hTk (fun d' h' hq=>?_) (fun d' h' hq=>by cases hq)
         injection hq with e1 e2;subst e1;subst e2
         refine ⟨fun _=>⟨0,_,rfl,rfl,?_⟩,fun h=>absurd (show (0:Int) < ((t0 :: r0).map Tok.g).length by omega) h⟩
         refine ⟨fun h=>absurd h hkind,fun _=>?_⟩
         refine callO [0] name_fn rfl rfl ⟨rfl,.inl rfl,.inl rfl,rfl⟩ hNm (fun d' h' hq=>?_) (fun d' h' hq=>by cases hq)
         injection hq with e1 e2;subst e1;subst e2
         refine callO [0] take_fn rfl rfl ⟨rfl,.inl rfl,.inl rfl,rfl⟩ hT1 (fun d' h' hq=>?_) (fun d' h' hq=>by cases hq)
         injection hq with e1 e2;subst e1;subst e2
         refine callO [0] take_fn rfl rfl ⟨rfl,.inl rfl,.inl rfl,rfl⟩ hT2 (fun d' h' hq=>?_) (fun d' h' hq=>by cases hq)
         injection hq with e1 e2;subst e1;subst e2
         refine callO [0] take_fn rfl rfl ⟨rfl,.inl rfl,.inl rfl,rfl⟩ hT3 (fun d' h' hq=>?_) (fun d' h' hq=>by cases hq)
         injection hq with e1 e2;subst e1;subst e2
         exact ⟨rfl,_,l1,hr,[.old 0,.old 1,.old 2],⟨rfl,.inr ⟨⟨rfl,.inl rfl⟩,⟨rfl,.inr ⟨lk rfl,lk rfl,lk rfl,lk rfl,lkNil,trivial⟩⟩,⟨rfl,.inl rfl⟩,trivial⟩,.inl rfl,rfl⟩⟩
end Go.Proofs.YtabjelabdojpkaaDoor
namespace Go.Proofs.YtabjelabdojpkaaDoor
open Go Go.Dm Go.Eng Go.RowKit Barb
abbrev stD:Barb.Stmt→D:=fun x=>.agg x.d
abbrev stsD:List Barb.Stmt→D:=fun xs=>.g (.sl 5 (xs.map Stmt.g))
abbrev gs (x:Barb.Stmt):List GV:=[.int x.k,.str x.s,.sl 5 (x.xs.map Expr.g),.sl 5 (x.b.map Stmt.g),.sl 5 (x.e.map Stmt.g)]
def StC (L:Lv) (f:Nat) (k:Int):Prop:=∀ l,RdOk l→CTH Tryd.prog (gl L) 97 1 (RH l k) [.ptr 0 0] (rdQ stD k (stmtP f l))
theorem stmt_fn:fnOk Tryd.prog 97=true:=by kernel_rfl
theorem block_fn:fnOk Tryd.prog 83=true:=by kernel_rfl
set_option maxRecDepth 20000 in
theorem block_any {L:Lv} {f:Nat} {k:Int} (hS:StC L f k) (l:List Tok) (hl:RdOk l):CTH Tryd.prog (gl L) 83 1 (RH l k) [.ptr 0 0] (rdQ stsD k (blockP (stmtP f) l)):=by
 suffices H:∀ r,blockP (stmtP f) l=r→CTH Tryd.prog (gl L) 83 1 (RH l k) [.ptr 0 0] (rdQ stsD k r) from H _ rfl
 intro r hr
 have hl1:=hl.1
 have hMu:=must_any (L:=L) l k [123] (by omega)
 have hr:(mustP [123] l).then (fun _ l1=>stmtsP (stmtP f) (l1.length+1) [] l1)=r:=hr
 refine enterH [] hT hF hM Tryd.func83 rfl 15 rfl (by kernel_rfl) [.tmp 2] rfl [.ptr 0 0] rfl (RH l k) [0] rfl rfl rfl 1 [] trivial _ ?_
 refine callO [0] must_fn rfl rfl ⟨rfl,.inl rfl,.inl rfl,rfl⟩ hMu (fun d' h' hq=>?_) (fun d' h' hq=>?_)
 rotate_left
 ·obtain ⟨e,l',k',he,hk',rfl,rfl⟩:=rdQ_pan hq
  have hr:r=.bad e:=by rw[← hr,he];rfl
  exact ⟨rfl,endRH (panV e) l' k' [.old 0] rfl rfl rfl (.inl rfl) rfl rfl rfl (by rw[hr];exact ⟨l',k',hk',rfl⟩)⟩
 obtain ⟨_,l1,he,rfl,rfl⟩:=rdQ_ret hq
 rw[he] at hr
 have hr:stmtsP (stmtP f) (l1.length+1) [] l1=r:=hr
 have ho1:=hl.next (must_shr _) (must_mem _) he
 refine loopR (ι:=List Barb.Stmt × List Tok) (fun i=>[(0,.ptr 0 0),(3,.row 1)]) (fun i=>[.blk (RB i.2 k) 93,.row (i.1.map Stmt.g) 78 5]) (fun i=>RdOk i.2∧i.1.length+i.2.length≤3001∧stmtsP (stmtP f) (i.2.length+1) i.1 i.2=r) (fun i=>i.2.length)
  ⟨([],l1),[.old 0,.nil 78 5],⟨rfl,.inl rfl,.inr ⟨lk rfl,.inr rfl,trivial⟩,rfl⟩,ho1,by have:=ho1.1;simp;omega,hr⟩ ?_
 rintro Rd hRd ⟨acc,m⟩ ⟨hm,hn,hr⟩
 have hm:RdOk m:=hm
 have hn:acc.length+m.length≤3001:=hn
 have hm1:=hm.1
 have hr:stmtsP (stmtP f) (m.length+1) acc m=r:=hr
 have hTk2:=take_any (L:=L) m k [125] (by omega)
 simp only[stmtsP] at hr
 cases ht2:takeP [125] m with
 | some m1 =>
  rw[ht2] at hTk2 hr
  have hr:r=.ok acc m1:=hr.symm
  refine callO [0] take_fn rfl rfl ⟨rfl,.inl rfl,.inl rfl,rfl⟩ hTk2 (fun d' h' hq=>?_) (fun d' h' hq=>by cases hq)
  injection hq with e1 e2;subst e1;subst e2
  exact ⟨rfl,endRH (stsD acc) m1 k [.old 0] rfl rfl rfl (.inl rfl) rfl rfl rfl (by rw[hr];rfl)⟩
 | none =>
  rw[ht2] at hTk2 hr
  have hr:(stmtP f m).then (fun x l1=>stmtsP (stmtP f) m.length (acc++[x]) l1)=r:=hr
  have hS2:=hS m hm
  refine callO [0] take_fn rfl rfl ⟨rfl,.inl rfl,.inl rfl,rfl⟩ hTk2 (fun d' h' hq=>?_) (fun d' h' hq=>by cases hq)
  injection hq with e1 e2;subst e1;subst e2
  refine callO [0] stmt_fn rfl rfl ⟨rfl,.inl rfl,.inl rfl,rfl⟩ hS2 (fun d' h' hq=>?_) (fun d' h' hq=>?_)
  rotate_left
  ·obtain ⟨e,l',k',he,hk',rfl,rfl⟩:=rdQ_pan hq
   have hr:r=.bad e:=by rw[← hr,he];rfl
   exact ⟨rfl,endRH (panV e) l' k' [.old 0] rfl rfl rfl (.inl rfl) rfl rfl rfl (by rw[hr];exact ⟨l',k',hk',rfl⟩)⟩
  obtain ⟨y,m2,he,rfl,rfl⟩:=rdQ_ret hq
  have hs2:=stmt_shr f _ _ _ he
  rw[he] at hr
  have hr:stmtsP (stmtP f) (m2.length+1) (acc++[y]) m2=r:=by rw[← hr];exact stmts_far (stmt_shr f) _ _ _ _ (by omega) (by omega)
  have ho2:=hm.next (stmt_shr f) (stmt_mem f) he
  refine ⟨[gs y],rfl,rfl,⟨rfl,rfl,rfl,rfl,rfl,trivial⟩,?_⟩
  refine ⟨⟨by simp only[maxLen,List.length_cons,List.length_nil,List.length_map];omega,by simp only[List.length_cons,List.length_nil,List.length_map];omega⟩,?_⟩
  exact hRd _ _ _ ⟨(acc++[y],m2),[.old 0,.old 3],⟨rfl,.inr ⟨⟨rfl,.inl rfl⟩,⟨by rw[List.map_append,List.map_cons,List.map_nil,Stmt.g_eq],rfl,rfl⟩,trivial⟩,.inr ⟨lk rfl,lk rfl,trivial⟩,rfl⟩,⟨ho2,by simp;omega,hr⟩,by show m2.length < m.length;omega⟩
abbrev zs:List D:=[.g (.int 0),.g (.str []),.nils,.nils,.nils]
abbrev SHd (l:List Tok) (k:Int) (cs:List D):Heap:=DH l k cs 78
abbrev sS:List Nat:=[3]++(List.range 63).map (·+6)
theorem one_x (x:Barb.Expr):[gx x]=([x].map Expr.g):=by rw[List.map_cons,List.map_nil,Expr.g_eq]
theorem stmtW1 (Q:Exit→Act→World→Prop) (a:Act) (w:World) (hsz:a.tmps.size=69) (hdf:a.defers=[])
  (h:Calls Tryd.prog 105 #[a.tmps.getD 0 undef] w (fun e w'=>match e with
    | .returned v=>∃ b,v=.func (.func 113) #[] #[b]∧Q .normal { tmps:=(a.tmps.setIfInBounds 4 (a.tmps.getD 0 undef)).setIfInBounds 5 v,defers:=[{ target:=.fn (.func 113) #[b],args:=#[] }] } w'
    | .panicked ch=>Q (.panic ch) { tmps:=a.tmps.setIfInBounds 4 (a.tmps.getD 0 undef),defers:=[] } w'
    | .outgrown=>False)):(match Tryd.f97.body with | some (.seq _ (.seq y _))=>y | _=>.skip).wp Tryd.prog Q a w:=by
 have e0:a.tmps.getD 0 undef=a.tmps[0]'(by omega):=by simp[hsz]
 rw[e0] at h
 apply wp_region
 simp[wpOps,go_sem,hsz,hdf]
 refine .inl (.inl (h.mono ?_))
 rintro e w' he
 cases e with
 | returned v =>
  obtain ⟨b,rfl,hq⟩:=he
  simp[go_sem]
  exact .inl (by simpa [hsz] using hq)
 | panicked ch=>exact he
 | outgrown=>exact he.elim
noncomputable def finP (ex:List Tok→PR Barb.Expr) (k:Int) (s:Str) (xs:List Barb.Expr) (l:List Tok):PR Barb.Stmt:=(ex l).then fun x l1=>(mustP [59] l1).then fun _ l2=>.ok (.mk k s (xs++[x]) [] []) l2
theorem rows_x (o:Option Barb.Expr) (y:Barb.Expr):o.toList.map gx++[gx y]=(o.toList++[y]).map Expr.g:=by
 have e:∀ x:Barb.Expr,gx x=Expr.g x:=fun x=>(Expr.g_eq x).symm
 cases o<;>simp[e]
abbrev preS (kd:Int) (s:Str):Option Barb.Expr→List D
 | none=>[.g (.int kd),.g (.str s),.nils,.nils,.nils]
 | some _=>[.g (.int kd),.g (.str s),.row 4,.nils,.nils]
abbrev preH (l:List Tok) (k kd:Int) (s:Str):Option Barb.Expr→Heap
 | none=>SHd l k zs++[.blk (preS kd s none) 78]
 | some x=>SHd l k zs++[.blk (preS kd s (some x)) 78,.row [gx x] 104 5]
set_option maxRecDepth 20000 in
set_option maxHeartbeats 12000000 in
theorem stmt_any {L:Lv}:∀ (f:Nat) (k:Int),k+f=48→0≤k→StC L f k:=by
 intro f
 induction f with
 | zero =>
  intro k hk h0 l hl
  refine deep_gen (nt:=69) (jA:=4) (jC:=5) (S0:=[2]) (S2:=sS) (tR:=78) (zero:=zs) (enc:=fun x:Barb.Stmt=>x.d) Tryd.func97 rfl rfl (by decide) (by omega) (by decide) rfl ⟨rfl,rfl,rfl⟩ ?_ stmtW1 (fun d C a w h48=>absurd h48 (by omega)) (fun _=>rfl) (fun l' k' a=>rfl) (fun h src a=>rfl)
  intro C a w hG hr
  refine vcS_sound [] hT hF hM.ok _ [2] (by decide) (by decide) C _ a w _ ?_ hr
  exact ⟨rfl,rfl⟩
 | succ f ih =>
  intro k hk h0 l hl
  have hS:StC L f (k+1):=ih (k+1) (by omega) (by omega)
  have hE:ExC L f (k+1):=expr_any f (k+1) (by omega) (by omega)
  suffices H:∀ r,doP (stmtP f) (exprP f) l=r→CTH Tryd.prog (gl L) 97 1 (RH l k) [.ptr 0 0] (rdQ stD k r) from H _ rfl
  intro r hr
  have hl1:=hl.1
  refine deep_gen (nt:=69) (jA:=4) (jC:=5) (S0:=[2]) (S2:=sS) (tR:=78) (zero:=zs) (enc:=fun x:Barb.Stmt=>x.d) Tryd.func97 rfl rfl (by decide) (by omega) (by decide) rfl ⟨rfl,rfl,rfl⟩ ?_ stmtW1 (fun d C a w h48 hG hr0=>?_) (fun h=>absurd (by omega) h) (fun l' k' a=>rfl) (fun h src a=>rfl)
  ·intro C a w hG hr
   refine vcS_sound [] hT hF hM.ok _ [2] (by decide) (by decide) C _ a w _ ?_ hr
   exact ⟨rfl,rfl⟩
  have hTk:=take_any (L:=L) l (k+1) [105,102] (by omega)
  unfold doP at hr
  refine vcS_sound [8,22,23,1000003,6,7] hT hF hM.ok _ sS (by decide) (by decide) C _ a w _ ?_ hr0
  rw[hG]
  refine turnTo [.old 0,.old 1,.old 2,.old 3] [(0,.ptr 0 0),(2,.ptr 1 0),(5,backD 2),(3,.ptr 3 0)] (SHd l (k+1) zs++[.blk zs 78]) ⟨rfl,.inl rfl,.inl rfl,rfl⟩ ?_
  refine joinTJ (ι:=Int × Str × Option Barb.Expr × List Tok) rfl (fun _=>[(0,.ptr 0 0),(2,.ptr 1 0),(5,backD 2),(3,.ptr 3 0)]) (fun i=>preH i.2.2.2 (k+1) i.1 i.2.1 i.2.2.1) (fun i=>RdOk i.2.2.2∧finP (exprP f) i.1 i.2.1 i.2.2.1.toList i.2.2.2=r) (fun e0 i hi=>?_) (fun Rd hRd=>?_)
  rotate_left
  ·cases ht:takeP [105,102] l with
   | some l1 =>
    rw[ht] at hTk hr
    have hr:(exprP f l1).then (fun x l2=>(blockP (stmtP f) l2).then fun b l3=>match takeP [101,108,115,101] l3 with
     | some l4=>(blockP (stmtP f) l4).then fun c l5=>.ok (.mk 3 [] [x] b c) l5
     | none=>.ok (.mk 3 [] [x] b []) l3)=r:=hr
    have ho1:=hl.take ht
    have hE1:=hE l1 ho1
    refine callO [0] take_fn rfl rfl ⟨rfl,.inl rfl,.inl rfl,rfl⟩ hTk (fun d' h' hq=>?_) (fun d' h' hq=>by cases hq)
    injection hq with e1 e2;subst e1;subst e2
    refine callO [0] expr_fn rfl rfl ⟨rfl,.inl rfl,.inl rfl,rfl⟩ hE1 (fun d' h' hq=>?_) (fun d' h' hq=>?_)
    rotate_left
    ·obtain ⟨e,l',k',he,hk',rfl,rfl⟩:=rdQ_pan hq
     have hr:r=.bad e:=by rw[← hr];show (exprP f l1).then _=_;rw[he];rfl
     exact ⟨rfl,e,l',k',hr,rfl,by omega,[.old 0,.old 2],⟨rfl,.inl rfl,.inl rfl,rfl⟩⟩
    obtain ⟨x,l2,he2,rfl,rfl⟩:=rdQ_ret hq
    rw[he2] at hr
    have hr:(blockP (stmtP f) l2).then (fun b l3=>match takeP [101,108,115,101] l3 with | some l4=>(blockP (stmtP f) l4).then fun c l5=>.ok (.mk 3 [] [x] b c) l5 | none=>.ok (.mk 3 [] [x] b []) l3)=r:=hr
    refine ⟨[gx x],rfl,rfl,⟨rfl,rfl,rfl,rfl,rfl,trivial⟩,?_⟩
    have ho2:=ho1.next (expr_shr f) (expr_mem f) he2
    have hB2:=block_any hS l2 ho2
    refine callO [0] block_fn rfl rfl ⟨rfl,.inl rfl,.inl rfl,rfl⟩ hB2 (fun d' h' hq=>?_) (fun d' h' hq=>?_)
    rotate_left
    ·obtain ⟨e,l',k',he,hk',rfl,rfl⟩:=rdQ_pan hq
     have hr:r=.bad e:=by rw[← hr];show (blockP (stmtP f) l2).then _=_;rw[he];rfl
     exact ⟨rfl,e,l',k',hr,rfl,by omega,[.old 0,.old 2],⟨rfl,.inl rfl,.inl rfl,rfl⟩⟩
    obtain ⟨bb,l3,he3,rfl,rfl⟩:=rdQ_ret hq
    rw[he3] at hr
    have hr:(match takeP [101,108,115,101] l3 with | some l4=>(blockP (stmtP f) l4).then fun c l5=>.ok (.mk 3 [] [x] bb c) l5 | none=>.ok (.mk 3 [] [x] bb []) l3)=r:=hr
    have ho3:=ho2.next (block_shr (stmt_shr f)) (block_mem (stmt_mem f)) he3
    have hT3:=take_any (L:=L) l3 (k+1) [101,108,115,101] (by have:=ho3.1;omega)
    cases h3:takeP [101,108,115,101] l3 with
    | some l4 =>
     rw[h3] at hT3 hr
     have hr:(blockP (stmtP f) l4).then (fun c l5=>.ok (.mk 3 [] [x] bb c) l5)=r:=hr
     have ho4:=ho3.take h3
     have hB4:=block_any hS l4 ho4
     refine callO [0] take_fn rfl rfl ⟨rfl,.inl rfl,.inl rfl,rfl⟩ hT3 (fun d' h' hq=>?_) (fun d' h' hq=>by cases hq)
     injection hq with e1 e2;subst e1;subst e2
     refine callO [0] block_fn rfl rfl ⟨rfl,.inl rfl,.inl rfl,rfl⟩ hB4 (fun d' h' hq=>?_) (fun d' h' hq=>?_)
     rotate_left
     ·obtain ⟨e,l',k',he,hk',rfl,rfl⟩:=rdQ_pan hq
      have hr:r=.bad e:=by rw[← hr];show (blockP (stmtP f) l4).then _=_;rw[he];rfl
      exact ⟨rfl,e,l',k',hr,rfl,by omega,[.old 0,.old 2],⟨rfl,.inl rfl,.inl rfl,rfl⟩⟩
     obtain ⟨cc,l5,he5,rfl,rfl⟩:=rdQ_ret hq
     rw[he5] at hr
     have hr:.ok (.mk 3 [] [x] bb cc) l5=r:=hr
     have hr:r=.ok (.mk 3 [] [x] bb cc) l5:=by rw[← hr]
     exact ⟨rfl,_,l5,hr,[.old 0,.old 1,.old 2],⟨rfl,.inr ⟨⟨rfl,.inl rfl⟩,⟨rfl,.inr ⟨lk rfl,lk rfl,lkL (one_x x),lk rfl,lk rfl,trivial⟩⟩,⟨rfl,.inl rfl⟩,trivial⟩,.inl rfl,rfl⟩⟩
    | none =>
     rw[h3] at hT3 hr
     have hr:.ok (.mk 3 [] [x] bb []) l3=r:=hr
     refine callO [0] take_fn rfl rfl ⟨rfl,.inl rfl,.inl rfl,rfl⟩ hT3 (fun d' h' hq=>?_) (fun d' h' hq=>by cases hq)
     injection hq with e1 e2;subst e1;subst e2
     have hr:r=.ok (.mk 3 [] [x] bb []) l3:=by rw[← hr]
     exact ⟨rfl,_,l3,hr,[.old 0,.old 1,.old 2],⟨rfl,.inr ⟨⟨rfl,.inl rfl⟩,⟨rfl,.inr ⟨lk rfl,lk rfl,lkL (one_x x),lk rfl,lkNil,trivial⟩⟩,⟨rfl,.inl rfl⟩,trivial⟩,.inl rfl,rfl⟩⟩
   | none =>
    rw[ht] at hTk hr
    have hTw:=take_any (L:=L) l (k+1) [119,104,105,108,101] (by omega)
    cases hw:takeP [119,104,105,108,101] l with
    | some l1 =>
     rw[hw] at hTw hr
     have hr:(exprP f l1).then (fun x l2=>(blockP (stmtP f) l2).then fun b l3=>.ok (.mk 4 [] [x] b []) l3)=r:=hr
     have ho1:=hl.take hw
     have hE1:=hE l1 ho1
     refine callO [0] take_fn rfl rfl ⟨rfl,.inl rfl,.inl rfl,rfl⟩ hTk (fun d' h' hq=>?_) (fun d' h' hq=>by cases hq)
     injection hq with e1 e2;subst e1;subst e2
     refine callO [0] take_fn rfl rfl ⟨rfl,.inl rfl,.inl rfl,rfl⟩ hTw (fun d' h' hq=>?_) (fun d' h' hq=>by cases hq)
     injection hq with e1 e2;subst e1;subst e2
     refine callO [0] expr_fn rfl rfl ⟨rfl,.inl rfl,.inl rfl,rfl⟩ hE1 (fun d' h' hq=>?_) (fun d' h' hq=>?_)
     rotate_left
     ·obtain ⟨e,l',k',he,hk',rfl,rfl⟩:=rdQ_pan hq
      have hr:r=.bad e:=by rw[← hr];show (exprP f l1).then _=_;rw[he];rfl
      exact ⟨rfl,e,l',k',hr,rfl,by omega,[.old 0,.old 2],⟨rfl,.inl rfl,.inl rfl,rfl⟩⟩
     obtain ⟨x,l2,he2,rfl,rfl⟩:=rdQ_ret hq
     rw[he2] at hr
     have hr:(blockP (stmtP f) l2).then (fun b l3=>.ok (.mk 4 [] [x] b []) l3)=r:=hr
     refine ⟨[gx x],rfl,rfl,⟨rfl,rfl,rfl,rfl,rfl,trivial⟩,?_⟩
     have ho2:=ho1.next (expr_shr f) (expr_mem f) he2
     have hB2:=block_any hS l2 ho2
     refine callO [0] block_fn rfl rfl ⟨rfl,.inl rfl,.inl rfl,rfl⟩ hB2 (fun d' h' hq=>?_) (fun d' h' hq=>?_)
     rotate_left
     ·obtain ⟨e,l',k',he,hk',rfl,rfl⟩:=rdQ_pan hq
      have hr:r=.bad e:=by rw[← hr];show (blockP (stmtP f) l2).then _=_;rw[he];rfl
      exact ⟨rfl,e,l',k',hr,rfl,by omega,[.old 0,.old 2],⟨rfl,.inl rfl,.inl rfl,rfl⟩⟩
     obtain ⟨bb,l3,he3,rfl,rfl⟩:=rdQ_ret hq
     rw[he3] at hr
     have hr:.ok (.mk 4 [] [x] bb []) l3=r:=hr
     have hr:r=.ok (.mk 4 [] [x] bb []) l3:=by rw[← hr]
     exact ⟨rfl,_,l3,hr,[.old 0,.old 1,.old 2],⟨rfl,.inr ⟨⟨rfl,.inl rfl⟩,⟨rfl,.inr ⟨lk rfl,lk rfl,lkL (one_x x),lk rfl,lkNil,trivial⟩⟩,⟨rfl,.inl rfl⟩,trivial⟩,.inl rfl,rfl⟩⟩
    | none =>
     rw[hw] at hTw hr
     have hTr:=take_any (L:=L) l (k+1) [114,101,116,117,114,110] (by omega)
     cases h5:takeP [114,101,116,117,114,110] l with
     | some l1 =>
      rw[h5] at hTr hr
      have hr:finP (exprP f) 5 [] [] l1=r:=hr
      have ho1:=hl.take h5
      refine callO [0] take_fn rfl rfl ⟨rfl,.inl rfl,.inl rfl,rfl⟩ hTk (fun d' h' hq=>?_) (fun d' h' hq=>by cases hq)
      injection hq with e1 e2;subst e1;subst e2
      refine callO [0] take_fn rfl rfl ⟨rfl,.inl rfl,.inl rfl,rfl⟩ hTw (fun d' h' hq=>?_) (fun d' h' hq=>by cases hq)
      injection hq with e1 e2;subst e1;subst e2
      refine callO [0] take_fn rfl rfl ⟨rfl,.inl rfl,.inl rfl,rfl⟩ hTr (fun d' h' hq=>?_) (fun d' h' hq=>by cases hq)
      injection hq with e1 e2;subst e1;subst e2
      exact hRd (5,[],none,l1) _ _ [.old 0,.old 1,.old 2,.old 3] ⟨rfl,.inl rfl,.inl rfl,rfl⟩ ⟨ho1,hr⟩
     | none =>
      rw[h5] at hTr hr
      have hTs:=take_any (L:=L) l (k+1) [115,97,121] (by omega)
      cases h6:takeP [115,97,121] l with
      | some l1 =>
       rw[h6] at hTs hr
       have hr:finP (exprP f) 6 [] [] l1=r:=hr
       have ho1:=hl.take h6
       refine callO [0] take_fn rfl rfl ⟨rfl,.inl rfl,.inl rfl,rfl⟩ hTk (fun d' h' hq=>?_) (fun d' h' hq=>by cases hq)
       injection hq with e1 e2;subst e1;subst e2
       refine callO [0] take_fn rfl rfl ⟨rfl,.inl rfl,.inl rfl,rfl⟩ hTw (fun d' h' hq=>?_) (fun d' h' hq=>by cases hq)
       injection hq with e1 e2;subst e1;subst e2
       refine callO [0] take_fn rfl rfl ⟨rfl,.inl rfl,.inl rfl,rfl⟩ hTr (fun d' h' hq=>?_) (fun d' h' hq=>by cases hq)
       injection hq with e1 e2;subst e1;subst e2
       refine callO [0] take_fn rfl rfl ⟨rfl,.inl rfl,.inl rfl,rfl⟩ hTs (fun d' h' hq=>?_) (fun d' h' hq=>by cases hq)
       injection hq with e1 e2;subst e1;subst e2
       exact hRd (6,[],none,l1) _ _ [.old 0,.old 1,.old 2,.old 3] ⟨rfl,.inl rfl,.inl rfl,rfl⟩ ⟨ho1,hr⟩
      | none =>
       rw[h6] at hTs hr
       have hr:(nameP l).then (fun s l1=>(match takeP [91] l1 with | some l2=>(exprP f l2).then fun x l3=>(mustP [93] l3).then fun _ l4=>(mustP [61] l4).then fun _ l5=>finP (exprP f) 2 s [x] l5 | none=>(mustP [61] l1).then fun _ l2=>finP (exprP f) 1 s [] l2))=r:=hr
       have hNm:=name_any (L:=L) l (k+1) (by omega) (by have:=hl.text;omega)
       refine callO [0] take_fn rfl rfl ⟨rfl,.inl rfl,.inl rfl,rfl⟩ hTk (fun d' h' hq=>?_) (fun d' h' hq=>by cases hq)
       injection hq with e1 e2;subst e1;subst e2
       refine callO [0] take_fn rfl rfl ⟨rfl,.inl rfl,.inl rfl,rfl⟩ hTw (fun d' h' hq=>?_) (fun d' h' hq=>by cases hq)
       injection hq with e1 e2;subst e1;subst e2
       refine callO [0] take_fn rfl rfl ⟨rfl,.inl rfl,.inl rfl,rfl⟩ hTr (fun d' h' hq=>?_) (fun d' h' hq=>by cases hq)
       injection hq with e1 e2;subst e1;subst e2
       refine callO [0] take_fn rfl rfl ⟨rfl,.inl rfl,.inl rfl,rfl⟩ hTs (fun d' h' hq=>?_) (fun d' h' hq=>by cases hq)
       injection hq with e1 e2;subst e1;subst e2
       refine turnTo [.old 0,.old 1,.old 2,.old 3] [(0,.ptr 0 0),(2,.ptr 1 0),(5,backD 2),(3,.ptr 3 0)] (SHd l (k+1) zs++[.blk zs 78]) ⟨rfl,.inl rfl,.inl rfl,rfl⟩ ?_
       refine callO [0] name_fn rfl rfl ⟨rfl,.inl rfl,.inl rfl,rfl⟩ hNm (fun d' h' hq=>?_) (fun d' h' hq=>?_)
       rotate_left
       ·obtain ⟨e,l',k',he,hk',rfl,rfl⟩:=rdQ_pan hq
        have hr:r=.bad e:=by rw[← hr];show (nameP l).then _=_;rw[he];rfl
        exact ⟨rfl,e,l',k',hr,rfl,by omega,[.old 0,.old 2],⟨rfl,.inl rfl,.inl rfl,rfl⟩⟩
       obtain ⟨s,l1,he1,rfl,rfl⟩:=rdQ_ret hq
       rw[he1] at hr
       have hr:(match takeP [91] l1 with | some l2=>(exprP f l2).then fun x l3=>(mustP [93] l3).then fun _ l4=>(mustP [61] l4).then fun _ l5=>finP (exprP f) 2 s [x] l5 | none=>(mustP [61] l1).then fun _ l2=>finP (exprP f) 1 s [] l2)=r:=hr
       have ho1:=hl.next name_shr name_mem he1
       have hTb:=take_any (L:=L) l1 (k+1) [91] (by have:=ho1.1;omega)
       cases h7:takeP [91] l1 with
       | some l2 =>
        rw[h7] at hTb hr
        have hr:(exprP f l2).then (fun x l3=>(mustP [93] l3).then fun _ l4=>(mustP [61] l4).then fun _ l5=>finP (exprP f) 2 s [x] l5)=r:=hr
        have ho2:=ho1.take h7
        have hE2:=hE l2 ho2
        refine callO [0] take_fn rfl rfl ⟨rfl,.inl rfl,.inl rfl,rfl⟩ hTb (fun d' h' hq=>?_) (fun d' h' hq=>by cases hq)
        injection hq with e1 e2;subst e1;subst e2
        refine callO [0] expr_fn rfl rfl ⟨rfl,.inl rfl,.inl rfl,rfl⟩ hE2 (fun d' h' hq=>?_) (fun d' h' hq=>?_)
        rotate_left
        ·obtain ⟨e,l',k',he,hk',rfl,rfl⟩:=rdQ_pan hq
         have hr:r=.bad e:=by rw[← hr];show (exprP f l2).then _=_;rw[he];rfl
         exact ⟨rfl,e,l',k',hr,rfl,by omega,[.old 0,.old 2],⟨rfl,.inl rfl,.inl rfl,rfl⟩⟩
        obtain ⟨x,l3,he3,rfl,rfl⟩:=rdQ_ret hq
        rw[he3] at hr
        have hr:(mustP [93] l3).then (fun _ l4=>(mustP [61] l4).then fun _ l5=>finP (exprP f) 2 s [x] l5)=r:=hr
        refine ⟨[gx x],rfl,rfl,⟨rfl,rfl,rfl,rfl,rfl,trivial⟩,?_⟩
        have ho3:=ho2.next (expr_shr f) (expr_mem f) he3
        have hMu1:=must_any (L:=L) l3 (k+1) [93] (by have:=ho3.1;omega)
        refine turnTo [.old 0,.old 1,.old 2,.old 3,.old 4] [(0,.ptr 0 0),(2,.ptr 1 0),(5,backD 2),(3,.ptr 3 0)] (preH l3 (k+1) 2 s (some x)) ⟨rfl,.inl rfl,.inl rfl,rfl⟩ ?_
        refine callO [0] must_fn rfl rfl ⟨rfl,.inl rfl,.inl rfl,rfl⟩ hMu1 (fun d' h' hq=>?_) (fun d' h' hq=>?_)
        rotate_left
        ·obtain ⟨e,l',k',he,hk',rfl,rfl⟩:=rdQ_pan hq
         have hr:r=.bad e:=by rw[← hr];show (mustP [93] l3).then _=_;rw[he];rfl
         exact ⟨rfl,e,l',k',hr,rfl,by omega,[.old 0,.old 2],⟨rfl,.inl rfl,.inl rfl,rfl⟩⟩
        obtain ⟨_,l4,he4,rfl,rfl⟩:=rdQ_ret hq
        rw[he4] at hr
        have hr:(mustP [61] l4).then (fun _ l5=>finP (exprP f) 2 s [x] l5)=r:=hr
        have ho4:=ho3.next (must_shr _) (must_mem _) he4
        have hMu2:=must_any (L:=L) l4 (k+1) [61] (by have:=ho4.1;omega)
        refine turnTo [.old 0,.old 1,.old 2,.old 3,.old 4] [(0,.ptr 0 0),(2,.ptr 1 0),(5,backD 2),(3,.ptr 3 0)] (preH l4 (k+1) 2 s (some x)) ⟨rfl,.inl rfl,.inl rfl,rfl⟩ ?_
        refine callO [0] must_fn rfl rfl ⟨rfl,.inl rfl,.inl rfl,rfl⟩ hMu2 (fun d' h' hq=>?_) (fun d' h' hq=>?_)
        rotate_left
        ·obtain ⟨e,l',k',he,hk',rfl,rfl⟩:=rdQ_pan hq
         have hr:r=.bad e:=by rw[← hr];show (mustP [61] l4).then _=_;rw[he];rfl
         exact ⟨rfl,e,l',k',hr,rfl,by omega,[.old 0,.old 2],⟨rfl,.inl rfl,.inl rfl,rfl⟩⟩
        obtain ⟨_,l5,he5,rfl,rfl⟩:=rdQ_ret hq
        rw[he5] at hr
        have hr:finP (exprP f) 2 s [x] l5=r:=hr
        have ho5:=ho4.next (must_shr _) (must_mem _) he5
        exact hRd (2,s,some x,l5) _ _ [.old 0,.old 1,.old 2,.old 3,.old 4] ⟨rfl,.inl rfl,.inl rfl,rfl⟩ ⟨ho5,hr⟩
       | none =>
        rw[h7] at hTb hr
        have hr:(mustP [61] l1).then (fun _ l2=>finP (exprP f) 1 s [] l2)=r:=hr
        refine callO [0] take_fn rfl rfl ⟨rfl,.inl rfl,.inl rfl,rfl⟩ hTb (fun d' h' hq=>?_) (fun d' h' hq=>by cases hq)
        injection hq with e1 e2;subst e1;subst e2
        have hMu2:=must_any (L:=L) l1 (k+1) [61] (by have:=ho1.1;omega)
        refine turnTo [.old 0,.old 1,.old 2,.old 3] [(0,.ptr 0 0),(2,.ptr 1 0),(5,backD 2),(3,.ptr 3 0)] (preH l1 (k+1) 1 s none) ⟨rfl,.inl rfl,.inl rfl,rfl⟩ ?_
        refine callO [0] must_fn rfl rfl ⟨rfl,.inl rfl,.inl rfl,rfl⟩ hMu2 (fun d' h' hq=>?_) (fun d' h' hq=>?_)
        rotate_left
        ·obtain ⟨e,l',k',he,hk',rfl,rfl⟩:=rdQ_pan hq
         have hr:r=.bad e:=by rw[← hr];show (mustP [61] l1).then _=_;rw[he];rfl
         exact ⟨rfl,e,l',k',hr,rfl,by omega,[.old 0,.old 2],⟨rfl,.inl rfl,.inl rfl,rfl⟩⟩
        obtain ⟨_,l5,he5,rfl,rfl⟩:=rdQ_ret hq
        rw[he5] at hr
        have hr:finP (exprP f) 1 s [] l5=r:=hr
        have ho5:=ho1.next (must_shr _) (must_mem _) he5
        exact hRd (1,s,none,l5) _ _ [.old 0,.old 1,.old 2,.old 3] ⟨rfl,.inl rfl,.inl rfl,rfl⟩ ⟨ho5,hr⟩
  obtain ⟨kd,s,o,l2⟩:=i
  obtain ⟨ho2,hr⟩:=hi
  have ho2:RdOk l2:=ho2
  have hr:(exprP f l2).then (fun x l1=>(mustP [59] l1).then fun _ l2=>.ok (.mk kd s (o.toList++[x]) [] []) l2)=r:=hr
  have hE2:=hE l2 ho2
  have badE:∀ {d:D} {h:Heap},rdQ exD (k+1) (exprP f l2) (.panH d h)→∃ e l' k',r=.bad e∧(k+1≤k'∧k'≤k+2)∧d=panV e∧h=RH l' k':=fun hq=>by
   obtain ⟨e,l',k',he,hk',h1,h2⟩:=rdQ_pan hq
   exact ⟨e,l',k',by rw[← hr,he];rfl,by omega,h1,h2⟩
  refine joinTJ (ι:=Barb.Expr × List Tok) rfl (fun _=>[(0,.ptr 0 0),(2,.ptr 1 0),(5,backD 2),(3,.ptr 3 0)]) (fun i=>SHd i.2 (k+1) zs++[.blk [.g (.int kd),.g (.str s),.g (.sl 5 (o.toList.map gx++[gx i.1])),.nils,.nils] 78]) (fun i=>exprP f l2=.ok i.1 i.2) (fun e1 i hi=>?_) (fun Rd hRd=>?_)
  rotate_left
  ·cases o with
   | none =>
    refine ⟨some 60002,(.lead 0 (.lead 2 (.two (.run 1 (.run 3 (.run 4 (.run 5 (.run 6 (.run 7 .done)))))) (.run 3 (.two (.run 1 (.run 4 (.run 5 (.run 6 (.run 7 .done))))) (.run 4 (.run 1 (.run 5 (.run 6 (.run 7 .done)))))))))),rfl,?_⟩
    refine ⟨?_,?_⟩
    ·refine callO [0] expr_fn rfl rfl ⟨rfl,.inl rfl,.inl rfl,rfl⟩ hE2 (fun d' h' hq=>?_) (fun d' h' hq=>by obtain ⟨e,l',k',hr,hk',rfl,rfl⟩:=badE hq;exact ⟨rfl,e,l',k',hr,rfl,hk',[.old 0,.old 2],⟨rfl,.inl rfl,.inl rfl,rfl⟩⟩)
     obtain ⟨y,l3,he3,rfl,rfl⟩:=rdQ_ret hq
     refine ⟨[gx y],rfl,rfl,⟨rfl,rfl,rfl,rfl,rfl,trivial⟩,?_⟩
     refine ⟨⟨by simp only[maxLen,List.length_cons,List.length_nil];omega,by simp only[List.length_cons,List.length_nil];omega⟩,?_⟩
     exact hRd ⟨y,l3⟩ _ _ [.old 0,.old 1,.old 2,.old 3] ⟨rfl,.inl rfl,.inl rfl,rfl⟩ he3
    ·refine callO [0] expr_fn rfl rfl ⟨rfl,.inl rfl,.inl rfl,rfl⟩ hE2 (fun d' h' hq=>?_) (fun d' h' hq=>by obtain ⟨e,l',k',hr,hk',rfl,rfl⟩:=badE hq;exact ⟨rfl,e,l',k',hr,rfl,hk',[.old 0,.old 2],⟨rfl,.inl rfl,.inl rfl,rfl⟩⟩)
     obtain ⟨y,l3,he3,rfl,rfl⟩:=rdQ_ret hq
     refine ⟨?_,?_⟩
     ·refine ⟨[gx y],rfl,rfl,⟨rfl,rfl,rfl,rfl,rfl,trivial⟩,?_⟩
      refine ⟨⟨by simp only[maxLen,List.length_cons,List.length_nil];omega,by simp only[List.length_cons,List.length_nil];omega⟩,?_⟩
      exact hRd ⟨y,l3⟩ _ _ [.old 0,.old 1,.old 2,.old 3] ⟨rfl,.inl rfl,.inl rfl,rfl⟩ he3
     ·refine ⟨[gx y],rfl,rfl,⟨rfl,rfl,rfl,rfl,rfl,trivial⟩,?_⟩
      refine ⟨⟨by simp only[maxLen,List.length_cons,List.length_nil];omega,by simp only[List.length_cons,List.length_nil];omega⟩,?_⟩
      exact hRd ⟨y,l3⟩ _ _ [.old 0,.old 1,.old 2,.old 3] ⟨rfl,.inl rfl,.inl rfl,rfl⟩ he3
   | some x0 =>
    refine ⟨some 60002,(.lead 0 (.lead 2 (.two (.run 1 (.run 3 (.run 4 (.run 5 (.run 6 (.run 7 .done)))))) (.run 3 (.two (.run 1 (.run 4 (.run 5 (.run 6 (.run 7 .done))))) (.run 4 (.run 1 (.run 5 (.run 6 (.run 7 .done)))))))))),rfl,?_⟩
    refine ⟨?_,?_⟩
    ·refine callO [0] expr_fn rfl rfl ⟨rfl,.inl rfl,.inl rfl,rfl⟩ hE2 (fun d' h' hq=>?_) (fun d' h' hq=>by obtain ⟨e,l',k',hr,hk',rfl,rfl⟩:=badE hq;exact ⟨rfl,e,l',k',hr,rfl,hk',[.old 0,.old 2],⟨rfl,.inl rfl,.inl rfl,rfl⟩⟩)
     obtain ⟨y,l3,he3,rfl,rfl⟩:=rdQ_ret hq
     refine ⟨[gx y],rfl,rfl,⟨rfl,rfl,rfl,rfl,rfl,trivial⟩,?_⟩
     refine ⟨⟨by simp only[maxLen,List.length_cons,List.length_nil];omega,by simp only[List.length_cons,List.length_nil];omega⟩,?_⟩
     exact hRd ⟨y,l3⟩ _ _ [.old 0,.old 1,.old 2,.old 3] ⟨rfl,.inl rfl,.inl rfl,rfl⟩ he3
    ·refine callO [0] expr_fn rfl rfl ⟨rfl,.inl rfl,.inl rfl,rfl⟩ hE2 (fun d' h' hq=>?_) (fun d' h' hq=>by obtain ⟨e,l',k',hr,hk',rfl,rfl⟩:=badE hq;exact ⟨rfl,e,l',k',hr,rfl,hk',[.old 0,.old 2],⟨rfl,.inl rfl,.inl rfl,rfl⟩⟩)
     obtain ⟨y,l3,he3,rfl,rfl⟩:=rdQ_ret hq
     refine ⟨?_,?_⟩
     ·refine ⟨[gx y],rfl,rfl,⟨rfl,rfl,rfl,rfl,rfl,trivial⟩,?_⟩
      refine ⟨⟨by simp only[maxLen,List.length_cons,List.length_nil];omega,by simp only[List.length_cons,List.length_nil];omega⟩,?_⟩
      exact hRd ⟨y,l3⟩ _ _ [.old 0,.old 1,.old 2,.old 3] ⟨rfl,.inl rfl,.inl rfl,rfl⟩ he3
     ·refine ⟨[gx y],rfl,rfl,⟨rfl,rfl,rfl,rfl,rfl,trivial⟩,?_⟩
      refine ⟨⟨by simp only[maxLen,List.length_cons,List.length_nil];omega,by simp only[List.length_cons,List.length_nil];omega⟩,?_⟩
      exact hRd ⟨y,l3⟩ _ _ [.old 0,.old 1,.old 2,.old 3] ⟨rfl,.inl rfl,.inl rfl,rfl⟩ he3
  obtain ⟨y,l3⟩:=i
  have hi:exprP f l2=.ok y l3:=hi
  rw[hi] at hr
  have hr:(mustP [59] l3).then (fun _ l2=>.ok (.mk kd s (o.toList++[y]) [] []) l2)=r:=hr
  have ho3:=ho2.next (expr_shr f) (expr_mem f) hi
  have hMu1:=must_any (L:=L) l3 (k+1) [59] (by have:=ho3.1;omega)
  refine callO [0] must_fn rfl rfl ⟨rfl,.inl rfl,.inl rfl,rfl⟩ hMu1 (fun d' h' hq=>?_) (fun d' h' hq=>?_)
  rotate_left
  ·obtain ⟨e,l',k',he,hk',rfl,rfl⟩:=rdQ_pan hq
   have hr:r=.bad e:=by rw[← hr];show (mustP [59] l3).then _=_;rw[he];rfl
   exact ⟨rfl,e,l',k',hr,rfl,by omega,[.old 0,.old 2],⟨rfl,.inl rfl,.inl rfl,rfl⟩⟩
  obtain ⟨_,l4,he4,rfl,rfl⟩:=rdQ_ret hq
  rw[he4] at hr
  have hr:.ok (.mk kd s (o.toList++[y]) [] []) l4=r:=hr
  have hr:r=.ok (.mk kd s (o.toList++[y]) [] []) l4:=by rw[← hr]
  exact ⟨rfl,_,l4,hr,[.old 0,.old 1,.old 2],⟨rfl,.inr ⟨⟨rfl,.inl rfl⟩,⟨rfl,.inr ⟨lk rfl,lk rfl,lkL (rows_x o y),lkNil,lkNil,trivial⟩⟩,⟨rfl,.inl rfl⟩,trivial⟩,.inl rfl,rfl⟩⟩
end Go.Proofs.YtabjelabdojpkaaDoor
