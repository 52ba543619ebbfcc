/-
  More fuel changes nothing of a call that came to its end; less tells a beginning of it. No program in sight.
-/
import Derived.Test.YtcpbfpgighaonaaPe
namespace Barb
open Go Go.Dm Go.Eng Go.Proofs.Ytcpbfpgighaonaa
def RR.st {α:Type}:RR α→ES
 | .ok _ s=>s
 | .stop _ s=>s
def Grows {α:Type} (s:ES) (r:RR α):Prop:=s.told <+: r.st.told
theorem Grows.same {α:Type} {s s':ES} {a:α} (h:s'.told=s.told):Grows s (.ok a s'):=by
 show s.told <+: s'.told
 rw[h];exact List.prefix_refl _
theorem Grows.stop {α:Type} {s:ES} {e:Int}:Grows s (.stop e s:RR α):=List.prefix_refl _
theorem Grows.bind {α β:Type} {s:ES} {r:RR α} {f:α→ES→RR β} (h:Grows s r) (hf:∀ a s',Grows s' (f a s')):Grows s (r.bind f):=by
 cases r with
 | ok a s'=>exact List.IsPrefix.trans h (hf a s')
 | stop e s'=>exact h
theorem Grows.burn {α:Type} {s:ES} {k:ES→RR α} (hk:∀ s',Grows s' (k s')):Grows s (burnS s k):=by
 unfold burnS
 split
 ·exact List.prefix_refl _
 ·exact hk { s with fuel:=s.fuel - 1 }
theorem listF_grows {e:Expr→ES→RR Int} (he:∀ x s,Grows s (e x s)):∀ (l:List Expr) (s:ES),Grows s (listF e l s)
 | [],_=>Grows.same rfl
 | x :: l,s=>(he x s).bind fun _ s'=>(listF_grows he l s').bind fun _ _=>Grows.same rfl
theorem bodyF_grows {e:Stmt→EL→ES→RR EL} (he:∀ x el s,Grows s (e x el s)):∀ (l:List Stmt) (el:EL) (s:ES),Grows s (bodyF e l el s)
 | [],_,_=>Grows.same rfl
 | x :: l,el,s=>by
  unfold bodyF
  split
  ·exact Grows.same rfl
  ·exact (he x el s).bind fun el' s'=>bodyF_grows he l el' s'
theorem callF_grows {p:List Unit} {e:EvS} (he:∀ c x el s,Grows s (e c x el s)) (u i:Nat) (args:List Int) (deep:Nat) (s:ES):Grows s (callF p e u i args deep s):=by
 unfold callF
 split
 ·exact Grows.stop
 ·exact (bodyF_grows (he _) _ _ s).bind fun _ _=>Grows.same rfl
theorem lastF_grows {p:List Unit} {e:EvS} (he:∀ c x el s,Grows s (e c x el s)) (c:EC) (x:Expr) (l:List Int) (s:ES):Grows s (lastF p e c x l s):=by
 unfold lastF
 split
 ·unfold getA
  split
  ·exact Grows.stop
  ·exact Grows.same rfl
 split
 ·exact Grows.same rfl
 ·exact callF_grows he _ _ _ _ s
theorem whileF_grows {eE:EvE} {eS:EvS} {c:EC} {x:Stmt} (hE:∀ c ps x s,Grows s (eE c ps x s)) (hS:∀ c x el s,Grows s (eS c x el s)):∀ (g:Nat) (n:Int) (el:EL) (s:ES),Grows s (whileF eE eS c x g n el s)
 | 0,_,_,_=>Grows.stop
 | g+1,n,el,s=>by
  unfold whileF
  split
  ·exact Grows.same rfl
  ·refine (bodyF_grows (hS c) _ el s).bind fun el' s'=>?_
   split
   ·exact Grows.same rfl
   ·exact Grows.burn fun s2=>(hE _ _ _ s2).bind fun n' s3=>whileF_grows hE hS g n' el' s3
theorem stmtF_grows {p:List Unit} {eE:EvE} {eS:EvS} {g:Nat} (hE:∀ c ps x s,Grows s (eE c ps x s)) (hS:∀ c x el s,Grows s (eS c x el s)) (c:EC) (x:Stmt) (el:EL) (s:ES):Grows s (stmtF p eE eS g c x el s):=by
 unfold stmtF
 refine Grows.burn fun s1=>(hE _ _ _ s1).bind fun n s2=>?_
 split
 ·unfold putV
  split<;>exact Grows.same rfl
 split
 ·refine (hE _ _ _ s2).bind fun v s3=>?_
  unfold putA
  split
  ·exact Grows.stop
  ·exact Grows.same rfl
 split
 ·exact bodyF_grows (hS c) _ el s2
 split
 ·exact whileF_grows hE hS _ n el s2
 split
 ·exact Grows.same rfl
 split
 ·exact Grows.stop
 ·exact ⟨[n],rfl⟩
theorem evP_grows (p:List Unit):∀ g,(∀ c ps x s,Grows s (evE p g c ps x s))∧∀ c x el s,Grows s (evS p g c x el s)
 | 0=>⟨fun _ _ _ _=>Grows.stop,fun _ _ _ _=>Grows.stop⟩
 | g+1=>by
  obtain ⟨hE,hS⟩:=evP_grows p g
  refine ⟨fun c ps x s=>?_,fun c x el s=>?_⟩
  ·rw[evE_succ]
   unfold exprF
   refine Grows.burn fun s1=>?_
   split
   ·exact Grows.same rfl
   split
   ·exact Grows.same rfl
   ·exact (listF_grows (hE c ps) x.args s1).bind fun l s2=>lastF_grows hS c x l s2
  ·rw[evS_succ];exact stmtF_grows hE hS c x el s

def ES.up (s:ES) (k:Nat):ES:={ s with fuel:=s.fuel+k }
def Up {α:Type} (k:Nat):RR α→RR α→Prop
 | .ok a s,r=>r=.ok a (s.up k)
 | .stop e s,r=>(e≠3∧r=.stop e (s.up k))∨(e=3∧Grows s r)
theorem Up.stop {α:Type} {k:Nat} {e:Int} {s:ES} (h:e≠3):Up k (.stop e s:RR α) (.stop e (s.up k)):=.inl ⟨h,rfl⟩
theorem Up.bind {α β:Type} {k:Nat} {r r2:RR α} {f f2:α→ES→RR β} (h:Up k r r2) (hf:∀ a s,Up k (f a s) (f2 a (s.up k))) (hg:∀ a s,Grows s (f2 a s)):Up k (r.bind f) (r2.bind f2):=by
 cases r with
 | ok a s =>
  have h:r2=.ok a (s.up k):=h
  subst h
  exact hf a s
 | stop e s =>
  rcases h with ⟨h1,h2⟩ | ⟨h1,h2⟩
  ·subst h2;exact .inl ⟨h1,rfl⟩
  ·exact .inr ⟨h1,Grows.bind h2 hg⟩
theorem Up.burn {α:Type} {k:Nat} {s:ES} {f f2:ES→RR α} (hf:∀ s,Up k (f s) (f2 (s.up k))) (hg:∀ s,Grows s (f2 s)):Up k (burnS s f) (burnS (s.up k) f2):=by
 by_cases h0:s.fuel=0
 ·have:Grows (s.up k) (burnS (s.up k) f2):=Grows.burn hg
  unfold burnS at this ⊢
  rw[if_pos h0]
  exact .inr ⟨rfl,this⟩
 ·unfold burnS
  rw[if_neg h0,if_neg (show ¬(s.up k).fuel=0 from by show ¬s.fuel+k=0;omega)]
  have e:({ s.up k with fuel:=(s.up k).fuel - 1 }:ES)=({ s with fuel:=s.fuel - 1 }:ES).up k:=by
   have:s.fuel+k - 1=s.fuel - 1+k:=by omega
   show (⟨s.fuel+k - 1,s.told,s.cells⟩:ES)=⟨s.fuel - 1+k,s.told,s.cells⟩
   rw[this]
  rw[e]
  exact hf _
theorem listF_up {k:Nat} {e e2:Expr→ES→RR Int} (he:∀ x s,Up k (e x s) (e2 x (s.up k))) (hg:∀ x s,Grows s (e2 x s)):∀ (l:List Expr) (s:ES),Up k (listF e l s) (listF e2 l (s.up k))
 | [],_=>rfl
 | x :: l,s=>(he x s).bind (fun _ s'=>(listF_up he hg l s').bind (fun _ _=>rfl) (fun _ _=>Grows.same rfl)) (fun _ s'=>(listF_grows hg l s').bind fun _ _=>Grows.same rfl)
theorem bodyF_up {k:Nat} {e e2:Stmt→EL→ES→RR EL} (he:∀ x el s,Up k (e x el s) (e2 x el (s.up k))) (hg:∀ x el s,Grows s (e2 x el s)):∀ (l:List Stmt) (el:EL) (s:ES),Up k (bodyF e l el s) (bodyF e2 l el (s.up k))
 | [],_,_=>rfl
 | x :: l,el,s=>by
  unfold bodyF
  split
  ·rfl
  ·exact (he x el s).bind (fun el' s'=>bodyF_up he hg l el' s') (fun el' s'=>bodyF_grows hg l el' s')
theorem callF_up {p:List Unit} {k:Nat} {e e2:EvS} (he:∀ c x el s,Up k (e c x el s) (e2 c x el (s.up k))) (hg:∀ c x el s,Grows s (e2 c x el s)) (u i:Nat) (args:List Int) (deep:Nat) (s:ES):Up k (callF p e u i args deep s) (callF p e2 u i args deep (s.up k)):=by
 unfold callF
 split
 ·exact Up.stop (by decide)
 ·exact (bodyF_up (he _) (hg _) _ _ s).bind (fun _ _=>rfl) (fun _ _=>Grows.same rfl)
theorem lastF_up {p:List Unit} {k:Nat} {e e2:EvS} (he:∀ c x el s,Up k (e c x el s) (e2 c x el (s.up k))) (hg:∀ c x el s,Grows s (e2 c x el s)) (c:EC) (x:Expr) (l:List Int) (s:ES):Up k (lastF p e c x l s) (lastF p e2 c x l (s.up k)):=by
 unfold lastF
 split
 ·unfold getA
  have e1:arrAt p c (s.up k) x.s=arrAt p c s x.s:=rfl
  rw[e1]
  split
  ·exact Up.stop (by decide)
  ·rfl
 split
 ·rfl
 ·exact callF_up he hg _ _ _ _ s
theorem whileF_up {k:Nat} {eE eE2:EvE} {eS eS2:EvS} {c:EC} {x:Stmt} (hE:∀ c ps x s,Up k (eE c ps x s) (eE2 c ps x (s.up k))) (hS:∀ c x el s,Up k (eS c x el s) (eS2 c x el (s.up k))) (gE:∀ c ps x s,Grows s (eE2 c ps x s)) (gS:∀ c x el s,Grows s (eS2 c x el s)) :
  ∀ (g:Nat) (n:Int) (el:EL) (s:ES),Up k (whileF eE eS c x g n el s) (whileF eE2 eS2 c x (g+k) n el (s.up k))
 | 0,n,el,s=>.inr ⟨rfl,whileF_grows gE gS (0+k) n el (s.up k)⟩
 | g+1,n,el,s=>by
  rw[show g+1+k=g+k+1 from by omega]
  unfold whileF
  split
  ·rfl
  ·refine (bodyF_up (hS c) (gS c) _ el s).bind (fun el' s'=>?_) (fun el' s'=>?_)
   ·split
    ·rfl
    ·exact Up.burn (fun s2=>(hE _ _ _ s2).bind (fun n' s3=>whileF_up hE hS gE gS g n' el' s3) (fun n' s3=>whileF_grows gE gS _ n' el' s3)) (fun s2=>(gE _ _ _ s2).bind fun n' s3=>whileF_grows gE gS _ n' el' s3)
   ·split
    ·exact Grows.same rfl
    ·exact Grows.burn fun s2=>(gE _ _ _ s2).bind fun n' s3=>whileF_grows gE gS _ n' el' s3
theorem stmtF_up {p:List Unit} {k g:Nat} {eE eE2:EvE} {eS eS2:EvS} (hE:∀ c ps x s,Up k (eE c ps x s) (eE2 c ps x (s.up k))) (hS:∀ c x el s,Up k (eS c x el s) (eS2 c x el (s.up k))) (gE:∀ c ps x s,Grows s (eE2 c ps x s)) (gS:∀ c x el s,Grows s (eS2 c x el s)) (c:EC) (x:Stmt) (el:EL) (s:ES) :
  Up k (stmtF p eE eS g c x el s) (stmtF p eE2 eS2 (g+k) c x el (s.up k)):=by
 unfold stmtF
 have tail:∀ n s2,Grows s2 (if x.k=1 then putV p c el s2 x.s n else if x.k=2 then (eE2 c el.ps (x.xs.getD 1 noX) s2).bind fun v s=>putA p c el s x.s n v else if x.k=3 then bodyF (eS2 c) (if n=0 then x.e else x.b) el s2 else if x.k=4 then whileF eE2 eS2 c x (g+k+1) n el s2
   else if x.k=5 then .ok { el with back:=true,val:=n } s2 else if s2.told.length=500 then .stop 6 s2 else .ok el { s2 with told:=s2.told++[n] }):=fun n s2=>by
  split
  ·unfold putV
   split<;>exact Grows.same rfl
  split
  ·refine (gE _ _ _ s2).bind fun v s3=>?_
   unfold putA
   split
   ·exact Grows.stop
   ·exact Grows.same rfl
  split
  ·exact bodyF_grows (gS c) _ el s2
  split
  ·exact whileF_grows gE gS _ n el s2
  split
  ·exact Grows.same rfl
  split
  ·exact Grows.stop
  ·exact ⟨[n],rfl⟩
 refine Up.burn (fun s1=>(hE _ _ _ s1).bind (fun n s2=>?_) tail) (fun s1=>(gE _ _ _ s1).bind tail)
 split
 ·unfold putV
  split<;>rfl
 split
 ·refine (hE _ _ _ s2).bind (fun v s3=>?_) (fun v s3=>?_)
  ·unfold putA
   have e1:arrAt p c (s3.up k) x.s=arrAt p c s3 x.s:=rfl
   rw[e1]
   split
   ·exact Up.stop (by decide)
   ·rfl
  ·unfold putA
   split
   ·exact Grows.stop
   ·exact Grows.same rfl
 split
 ·exact bodyF_up (hS c) (gS c) _ el s2
 split
 ·have:=whileF_up hE hS gE gS (c:=c) (x:=x) (g+1) n el s2
  rwa [show g+1+k=g+k+1 from by omega] at this
 split
 ·rfl
 ·have e2:(s2.up k).told=s2.told:=rfl
  rw[e2]
  split
  ·exact Up.stop (by decide)
  ·rfl
theorem evP_up (p:List Unit) (k:Nat):∀ g,(∀ c ps x s,Up k (evE p g c ps x s) (evE p (g+k) c ps x (s.up k)))∧∀ c x el s,Up k (evS p g c x el s) (evS p (g+k) c x el (s.up k))
 | 0=>⟨fun c ps x s=>.inr ⟨rfl,(evP_grows p (0+k)).1 c ps x (s.up k)⟩,fun c x el s=>.inr ⟨rfl,(evP_grows p (0+k)).2 c x el (s.up k)⟩⟩
 | g+1=>by
  obtain ⟨hE,hS⟩:=evP_up p k g
  obtain ⟨gE,gS⟩:=evP_grows p (g+k)
  rw[show g+1+k=g+k+1 from by omega]
  refine ⟨fun c ps x s=>?_,fun c x el s=>?_⟩
  ·rw[evE_succ,evE_succ]
   unfold exprF
   have tail:∀ s1,Grows s1 (if x.k=1 then .ok x.n s1 else if x.k=2 then .ok (getV p c ps s1 x.s) s1 else (listF (evE p (g+k) c ps) x.args s1).bind (lastF p (evS p (g+k)) c x)):=fun s1=>by
    split
    ·exact Grows.same rfl
    split
    ·exact Grows.same rfl
    ·exact (listF_grows (gE c ps) x.args s1).bind fun l s2=>lastF_grows gS c x l s2
   refine Up.burn (fun s1=>?_) tail
   split
   ·rfl
   split
   ·rfl
   ·exact (listF_up (hE c ps) (gE c ps) x.args s1).bind (fun l s2=>lastF_up hS gS c x l s2) (fun l s2=>lastF_grows gS c x l s2)
  ·rw[evS_succ,evS_succ];exact stmtF_up hE hS gE gS c x el s
theorem callF_more (p:List Unit) (f k u i:Nat) (args:List Int) (deep:Nat) (cs:List Cells):Up k (callF p (evS p f) u i args deep ⟨f,[],cs⟩) (callF p (evS p (f+k)) u i args deep ⟨f+k,[],cs⟩) :=
 callF_up (evP_up p k f).2 (evP_grows p (f+k)).2 u i args deep ⟨f,[],cs⟩
end Barb
