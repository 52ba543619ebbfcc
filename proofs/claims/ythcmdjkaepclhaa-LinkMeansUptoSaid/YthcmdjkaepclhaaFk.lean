import Derived.Test.YthcmdjkaepclhaaFd
import Derived.Test.YthcmdjkaepclhaaPe
namespace Barb
open Go Go.Dm Go.Eng Go.Proofs.Ythcmdjkaepclhaa
structure Le (s s':ES):Prop where
 told:s'.told=s.told
 cells:s'.cells=s.cells
 fuel:s.fuel<=s'.fuel
theorem Le.refl (s:ES):Le s s:=⟨rfl,rfl,Nat.le_refl _⟩
theorem Le.trans {a b c:ES} (h:Le a b) (k:Le b c):Le a c:=⟨k.told.trans h.told,k.cells.trans h.cells,Nat.le_trans h.fuel k.fuel⟩
def Sim {α:Type}:RR α->RR α->Prop
 | .ok a s,r=>∃ s',Le s s'/\r=.ok a s'
 | .stop e s,r=>e=3\/∃ s',Le s s'/\r=.stop e s'
theorem Sim.ok {α:Type} {a:α} {s s':ES} (h:Le s s'):Sim (.ok a s) (.ok a s'):=⟨s',h,rfl⟩
theorem Sim.stop {α:Type} {e:Int} {s s':ES} (h:Le s s'):Sim (.stop e s:RR α) (.stop e s'):=.inr ⟨s',h,rfl⟩
theorem Sim.bind {α β:Type} {r r':RR α} {k k':α->ES->RR β} (h:Sim r r') (hk:∀ a s s',r=.ok a s->Le s s'->Sim (k a s) (k' a s')):Sim (r.bind k) (r'.bind k'):=by
 cases r with
 | ok a s =>
  obtain ⟨s',hl,rfl⟩:=h
  exact hk a s s' rfl hl
 | stop e s =>
  rcases h with h | ⟨s',hl,rfl⟩
  ·exact .inl h
  ·exact .inr ⟨s',hl,rfl⟩
theorem Sim.burn1 {α:Type} {s:ES} {k:ES->RR α} {r:RR α} (h:s.fuel≠0->Sim (k { s with fuel:=s.fuel - 1 }) r):Sim (burnS s k) r:=by
 unfold burnS
 by_cases h0:s.fuel=0
 ·rw[if_pos h0];exact .inl rfl
 ·rw[if_neg h0];exact h h0
theorem burn_ne {α:Type} {s:ES} {k:ES->RR α} (h:s.fuel≠0):burnS s k=k { s with fuel:=s.fuel - 1 }:=if_neg h
theorem Sim.burn {α:Type} {s s':ES} {k k':ES->RR α} (h:Le s s') (hk:∀ t t',t={ s with fuel:=s.fuel - 1 }->Le t t'->Sim (k t) (k' t')):Sim (burnS s k) (burnS s' k'):=by
 refine Sim.burn1 fun h0=>?_
 have:=h.fuel
 rw[burn_ne (show s'.fuel≠0 by omega)]
 exact hk _ _ rfl ⟨h.told,h.cells,by show s.fuel - 1<=s'.fuel - 1;omega⟩
def fc (c:EC):EC:=⟨c.u,foldF c.f,c.deep⟩
theorem uAt_fold (p:List Unit) (u:Nat):uAt (foldP p) u=foldU (uAt p u):=by
 unfold uAt foldP
 rw[List.getD_eq_getElem?_getD,List.getD_eq_getElem?_getD,List.getElem?_map]
 cases p[u]?<;>rfl
theorem idxFrom_map {α β:Type} (q:β->Prop) (f:α->β):∀ (l:List α) (n:Nat),idxFrom q (l.map f) n=idxFrom (fun x=>q (f x)) l n
 | [],_=>rfl
 | x :: l,n=>by simp only[List.map_cons,idxFrom,idxFrom_map q f l]
theorem funIdx_fold (u:Unit) (s:Str):funIdx (foldU u) s=funIdx u s:=idxFrom_map _ foldF u.funcs 0
theorem unitIdx_fold (p:List Unit) (s:Str):unitIdx (foldP p) s=unitIdx p s:=idxFrom_map _ foldU p 0
theorem toU_fold (p:List Unit) (c:EC) (of:Str):toU (foldP p) (fc c) of=toU p c of:=by
 unfold toU
 rw[unitIdx_fold]
 rfl
theorem fn_fold (u:Unit) (i:Nat):(foldU u).funcs.getD i noF=foldF (u.funcs.getD i noF):=by
 show (u.funcs.map foldF).getD i noF=_
 rw[List.getD_eq_getElem?_getD,List.getD_eq_getElem?_getD,List.getElem?_map]
 cases u.funcs[i]?<;>rfl
theorem getV_fold {p:List Unit} {c:EC} {s s':ES} (h:Le s s') (ps:List Int) (name:Str):getV (foldP p) (fc c) ps s' name=getV p c ps s name:=by
 unfold getV cAt
 rw[h.cells,show (fc c).u=c.u from rfl,uAt_fold]
 rfl
theorem arrAt_fold {p:List Unit} {c:EC} {s s':ES} (h:Le s s') (name:Str):arrAt (foldP p) (fc c) s' name=arrAt p c s name:=by
 unfold arrAt cAt
 rw[h.cells,show (fc c).u=c.u from rfl,uAt_fold]
 rfl
theorem getA_fold {p:List Unit} {c:EC} {s s':ES} (h:Le s s') (name:Str) (n:Int):Sim (getA p c s name n) (getA (foldP p) (fc c) s' name n):=by
 unfold getA
 rw[arrAt_fold h]
 split
 ·exact Sim.stop h
 ·exact Sim.ok h
theorem putV_fold {p:List Unit} {c:EC} {s s':ES} (h:Le s s') (el:EL) (name:Str) (n:Int):Sim (putV p c el s name n) (putV (foldP p) (fc c) el s' name n):=by
 unfold putV
 rw[show pIdx (fc c).f name=pIdx c.f name from rfl,show (fc c).u=c.u from rfl,uAt_fold]
 split
 ·exact Sim.ok h
 ·refine Sim.ok ⟨h.told,?_,h.fuel⟩
  show s'.cells.set _ ((s'.cells.getD c.u noC).setV _ n)=s.cells.set _ ((s.cells.getD c.u noC).setV _ n)
  rw[h.cells]
  rfl
theorem putA_fold {p:List Unit} {c:EC} {s s':ES} (h:Le s s') (el:EL) (name:Str) (at_ n:Int):Sim (putA p c el s name at_ n) (putA (foldP p) (fc c) el s' name at_ n):=by
 unfold putA
 rw[arrAt_fold h,show (fc c).u=c.u from rfl,uAt_fold]
 split
 ·exact Sim.stop h
 ·refine Sim.ok ⟨h.told,?_,h.fuel⟩
  show s'.cells.set _ ((s'.cells.getD c.u noC).setA _ _ n)=s.cells.set _ ((s.cells.getD c.u noC).setA _ _ n)
  rw[h.cells]
  rfl
theorem doI_zero {n v:Int} (hz:zeroOp n) (hv:wd v):doI n v 0=v:=by
 obtain ⟨h0,h1⟩:=hv
 have key:∀ k:Nat,(k=1\/k=2\/k=5\/k=6\/k=9\/k=10)->did k v.toNat 0=v.toNat:=fun k hk=>by
  rcases hk with rfl | rfl | rfl | rfl | rfl | rfl
  ·simp only[did];omega
  ·simp only[did];omega
  ·simp[did]
  ·simp[did]
  ·simp only[did,Nat.zero_mod,Nat.pow_zero,Nat.mul_one];omega
  ·simp[did]
 unfold doI
 have hz:=hz
 unfold zeroOp at hz
 rw[if_neg (by omega),if_pos (by omega)]
 have:=key n.toNat (by omega)
 rw[show (0:Int).toNat=0 from rfl,this]
 omega
theorem doI_one {v:Int} (hv:wd v):doI 3 v 1=v:=by
 obtain ⟨h0,h1⟩:=hv
 unfold doI
 rw[if_neg (by omega),if_pos (by omega)]
 show ((did 3 v.toNat 1:Nat):Int)=v
 simp only[did,Nat.mul_one]
 omega
theorem bodyF_back (e:Stmt->EL->ES->RR EL) {el:EL} (h:el.back=true) (l:List Stmt) (s:ES):bodyF e l el s=.ok el s:=by
 cases l with
 | nil=>rfl
 | cons x l=>unfold bodyF;rw[if_pos h]
theorem bodyF_app (e:Stmt->EL->ES->RR EL) (b:List Stmt):∀ (a:List Stmt) (el:EL) (s:ES),bodyF e (a++b) el s=(bodyF e a el s).bind (bodyF e b)
 | [],_,_=>rfl
 | x :: a,el,s=>by
  rw[List.cons_append]
  unfold bodyF
  by_cases h:el.back=true
  ·rw[if_pos h,if_pos h]
   exact (bodyF_back e h b s).symm
  ·rw[if_neg h,if_neg h]
   cases e x el s with
   | ok el1 s1=>exact bodyF_app e b a el1 s1
   | stop n s1=>rfl
theorem bodyF_one (e:Stmt->EL->ES->RR EL) (x:Stmt) {el:EL} (h:el.back=false) (s:ES):bodyF e [x] el s=e x el s:=by
 unfold bodyF
 rw[if_neg (by rw[h];decide)]
 cases e x el s<;>rfl
theorem RI.of {α:Type} {p:List Unit} {s s':ES} {A:α->Prop} {a:α} {r:RR α} (h:RI p s A r) (e:r=.ok a s'):SI p s'/\A a/\s'.fuel<=s.fuel:=by
 subst e
 exact ⟨h.1,h.2.2,h.2.1.1⟩
def SimE (p:List Unit) (g:Nat):Prop:=∀ g',g<=g'->∀ c ps x s s',CI p c->SI p s->wds ps->XI p c x->Le s s'->Sim (evE p g c ps x s) (evE (foldP p) g' (fc c) ps (foldE x) s')
def SimS (p:List Unit) (g:Nat):Prop:=∀ g',g<=g'->∀ c x el s s',CI p c->SI p s->ELI c el->StI p c x->el.back=false->Le s s'->Sim (evS p g c x el s) (bodyF (evS (foldP p) g' (fc c)) (foldS x) el s')
section
variable {p:List Unit}
theorem listSim (hp:PI p) {g g':Nat} (hE:SimE p g) (hg:g<=g') {c:EC} {ps:List Int} (hc:CI p c) (hps:wds ps):∀ (l:List Expr) (s s':ES),(∀ x∈l,XI p c x)->SI p s->Le s s'->Sim (listF (evE p g c ps) l s) (listF (evE (foldP p) g' (fc c) ps) (foldEs l) s')
 | [],_,_,_,_,h=>Sim.ok h
 | x :: l,s,s',hl,hs,h=>by
  refine (hE g' hg c ps x s s' hc hs hps (hl x List.mem_cons_self) h).bind fun a s1 s1' e h1=>?_
  obtain ⟨i1,_,_⟩:=((evP_I hp g).1 c ps x s hc hs hps (hl x List.mem_cons_self)).of e
  exact (listSim hp hE hg hc hps l s1 s1' (fun y hy=>hl y (List.mem_cons_of_mem _ hy)) i1 h1).bind fun ns s2 s2' _ h2=>Sim.ok h2
theorem back_ret {g:Nat} {c:EC} {x:Stmt} {el el':EL} {s s':ES} (hk:x.k=5) (h:evS p g c x el s=.ok el' s'):el'.back=true:=by
 cases g with
 | zero=>cases h
 | succ g =>
  rw[evS_succ] at h
  unfold stmtF burnS at h
  split at h
  ·cases h
  ·dsimp only at h
   cases hE:evE p g c el.ps (x.xs.getD 0 noX) { s with fuel:=s.fuel - 1 } with
   | ok n s1 =>
    rw[hE] at h
    simp only[RR.bind,hk] at h
    have h:(RR.ok ⟨el.ps,true,n⟩ s1:RR EL)=.ok el' s':=h
    injection h with h1 h2
    rw[<- h1]
   | stop e s1=>rw[hE] at h;cases h
theorem foldSs_cons2 (x:Stmt) (l:List Stmt):foldSs (x :: l)=foldS x++if x.k=5 then [] else foldSs l:=by
 obtain ⟨k,s,xs,b,e⟩:=x
 rw[foldSs]
 rfl
theorem bodySim (hp:PI p) {g g':Nat} (hS:SimS p g) (hg:g<=g') {c:EC} (hc:CI p c):∀ (l:List Stmt) (el:EL) (s s':ES),(∀ x∈l,StI p c x)->SI p s->ELI c el->Le s s'->Sim (bodyF (evS p g c) l el s) (bodyF (evS (foldP p) g' (fc c)) (foldSs l) el s')
 | [],el,s,s',_,_,_,h=>by
  rw[show foldSs []=[] by rw[foldSs]]
  exact Sim.ok h
 | x :: l,el,s,s',hl,hs,he,h=>by
  by_cases hb:el.back=true
  ·rw[bodyF_back _ hb,bodyF_back _ hb]
   exact Sim.ok h
  have hb:el.back=false:=by simpa using hb
  rw[foldSs_cons2,bodyF_app]
  rw[show bodyF (evS p g c) (x :: l) el s=(evS p g c x el s).bind (bodyF (evS p g c) l) by
   rw[show bodyF (evS p g c) (x :: l) el s=if el.back then .ok el s else (evS p g c x el s).bind (bodyF (evS p g c) l) from rfl,if_neg (by rw[hb];decide)]]
  have hx:=hl x List.mem_cons_self
  refine (hS g' hg c x el s s' hc hs he hx hb h).bind fun el1 s1 s1' e h1=>?_
  obtain ⟨i1,e1,_⟩:=((evP_I hp g).2 c x el s hc hs he hx).of e
  by_cases hk:x.k=5
  ·rw[if_pos hk,bodyF_back _ (back_ret hk e)]
   exact Sim.ok h1
  ·rw[if_neg hk]
   exact bodySim hp hS hg hc l el1 s1 s1' (fun y hy=>hl y (List.mem_cons_of_mem _ hy)) i1 e1 h1
theorem callSim (hp:PI p) {g g':Nat} (hS:SimS p g) (hg:g<=g') {u i:Nat} (hu:u < p.length) (hi:i < (uAt p u).funcs.length) {args:List Int} (ha:args.length=((uAt p u).funcs.getD i noF).params.length) (hw:wds args) (deep:Nat) {s s':ES} (hs:SI p s) (h:Le s s') :
  Sim (callF p (evS p g) u i args deep s) (callF (foldP p) (evS (foldP p) g') u i args deep s'):=by
 unfold callF
 split
 ·exact Sim.stop h
 rename_i hd
 have hc:CI p ⟨u,(uAt p u).funcs.getD i noF,deep⟩:=⟨hu,fn_mem hi,by show deep<=19;omega⟩
 rw[uAt_fold,fn_fold]
 exact (bodySim hp hS hg hc _ _ s s' ((hp.body hc).all) hs ⟨ha,hw,(show wd 0 from ⟨by decide,by decide⟩)⟩ h).bind fun el s1 s1' _ h1=>Sim.ok h1
theorem known {g:Nat} (hE:SimE p g) {c:EC} {ps:List Int} {x:Expr} {s:ES} (hc:CI p c) (hs:SI p s) (hps:wds ps) (hx:XI p c x) (hk:(foldE x).k=1):(∃ s1,evE p g c ps x s=.stop 3 s1)\/∃ s1,evE p g c ps x s=.ok (foldE x).n s1/\Le s1 s:=by
 have h:=hE (g+1) (by omega) c ps x s { s with fuel:=s.fuel+1 } hc hs hps hx ⟨rfl,rfl,Nat.le_succ _⟩
 rw[evE_succ] at h
 unfold exprF at h
 rw[burn_ne (show s.fuel+1≠0 by omega),if_pos hk] at h
 cases hr:evE p g c ps x s with
 | ok a s1 =>
  rw[hr] at h
  obtain ⟨s2,hl,e⟩:=h
  injection e with e1 e2
  subst e1
  exact .inr ⟨s1,rfl,⟨by rw[<- e2] at hl;exact hl.told,by rw[<- e2] at hl;exact hl.cells,by rw[<- e2] at hl;exact hl.fuel⟩⟩
 | stop e s1 =>
  rw[hr] at h
  rcases h with h | ⟨s2,_,e'⟩
  ·subst h;exact .inl ⟨s1,rfl⟩
  ·cases e'
theorem foldE_k {k n:Int} {of s:Str} {args:List Expr} (h:k≠5):foldE (.mk k n of s args)=.mk k n of s (foldEs args):=by
 rw[foldE,if_neg h]
theorem lastSim (hp:PI p) {g g':Nat} (hS:SimS p g) (hg:g<=g') {c:EC} (hc:CI p c) {x:Expr} (hx:XI p c x) (h1:x.k≠1) (h2:x.k≠2) (args':List Expr) {l:List Int} (hl:l.length=x.args.length/\wds l) {s s':ES} (hs:SI p s) (h:Le s s') :
  Sim (lastF p (evS p g) c x l s) (lastF (foldP p) (evS (foldP p) g') (fc c) (.mk x.k x.n x.of x.s args') l s'):=by
 unfold lastF
 rw[show (Expr.mk x.k x.n x.of x.s args').k=x.k from rfl,show (Expr.mk x.k x.n x.of x.s args').s=x.s from rfl,show (Expr.mk x.k x.n x.of x.s args').n=x.n from rfl,show (Expr.mk x.k x.n x.of x.s args').of=x.of from rfl]
 split
 ·exact getA_fold h _ _
 split
 ·exact Sim.ok h
 rw[toU_fold,uAt_fold,funIdx_fold]
 obtain ⟨a1,i,a2,a3,a4,_⟩:=hx.ask hc (by have:=hx.inv.1;omega)
 rw[a2,Int.toNat_natCast]
 exact callSim hp hS hg a1 a3 (hl.1.trans a4.symm) hl.2 (c.deep+1) hs h
theorem simE_succ (hp:PI p) {g:Nat} (hE:SimE p g) (hS:SimS p g):SimE p (g+1):=by
 intro g2 hg2 c ps x s s' hc hs hps hx h
 obtain ⟨h',rfl⟩:∃ h',g2=h'+1:=⟨g2 - 1,by omega⟩
 have hg:g<=h':=by omega
 have hinv:=hx.inv
 have hargs:=hinv.2.2.2.2.2
 obtain ⟨k,n,of,nm,args⟩:=x
 have ordinary:∀ (hk:foldE (.mk k n of nm args)=.mk k n of nm (foldEs args)),Sim (evE p (g+1) c ps (.mk k n of nm args) s) (evE (foldP p) (h'+1) (fc c) ps (foldE (.mk k n of nm args)) s'):=by
  intro hk
  rw[hk,evE_succ,evE_succ]
  unfold exprF
  refine Sim.burn h fun t t' et ht=>?_
  have ht0:SI p t:=by rw[et];exact hs.fuel _
  rw[show (Expr.mk k n of nm (foldEs args)).k=k from rfl,show (Expr.mk k n of nm args).k=k from rfl]
  split
  ·exact Sim.ok ht
  split
  ·rw[show (Expr.mk k n of nm (foldEs args)).s=nm from rfl,getV_fold ht]
   exact Sim.ok ht
  rename_i k1 k2
  refine (listSim hp hE hg hc hps args t t' hargs ht0 ht).bind fun l s1 s1' e h1=>?_
  obtain ⟨i1,hl,_⟩:=(listF_I args (fun y hy s hs=>(evP_I hp g).1 c ps y s hc hs hps (hargs y hy)) t ht0).of e
  exact lastSim hp hS hg hc hx k1 k2 (foldEs args) hl i1 h1
 by_cases h5:k=5
 ·subst h5
  obtain ⟨a,b,rfl⟩:=two_list (ok_two hinv.2.2.1 rfl)
  have xa:=hargs a List.mem_cons_self
  have xb:=hargs b (List.mem_cons_of_mem _ List.mem_cons_self)
  have e0:foldE (.mk 5 n of nm [a,b])=foldT n of nm (foldE a) (foldE b) (foldEs [a,b]):=by
   rw[foldE,if_pos rfl]
   simp[foldEs]
  have orig:∀ t,evE p (g+1) c ps (.mk 5 n of nm [a,b]) t=burnS t fun t=>(evE p g c ps a t).bind fun va t1=>(evE p g c ps b t1).bind fun vb t2=>.ok (doI n va vb) t2:=fun t=>by
   rw[evE_succ]
   unfold exprF burnS
   split
   ·rfl
   show (listF (evE p g c ps) [a,b] { t with fuel:=t.fuel - 1 }).bind (lastF p (evS p g) c (.mk 5 n of nm [a,b]))=_
   simp only[listF]
   cases evE p g c ps a { t with fuel:=t.fuel - 1 } with
   | stop e t1=>rfl
   | ok va t1 =>
    simp only[RR.bind]
    cases evE p g c ps b t1<;>rfl
  have ht0:SI p { s with fuel:=s.fuel - 1 }:=hs.fuel _
  have h1:s.fuel≠0->Le { s with fuel:=s.fuel - 1 } { s' with fuel:=s'.fuel - 1 }:=fun _=>⟨h.told,h.cells,by have:=h.fuel;show s.fuel - 1<=s'.fuel - 1;omega⟩
  have h2:Le { s with fuel:=s.fuel - 1 } s':=⟨h.told,h.cells,by have:=h.fuel;show s.fuel - 1<=s'.fuel;omega⟩
  by_cases hab:(foldE a).k=1/\(foldE b).k=1
  ·have e1:foldE (.mk 5 n of nm [a,b])=.mk 1 (doI n (foldE a).n (foldE b).n) [] [] []:=by rw[e0];unfold foldT;rw[if_pos hab]
   rw[orig,e1]
   refine Sim.burn1 fun h0=>?_
   rcases known hE hc ht0 hps xa hab.1 with ⟨s1,e⟩ | ⟨s1,e,l1⟩
   ·rw[e];exact .inl rfl
   obtain ⟨i1,_,_⟩:=((evP_I hp g).1 c ps a _ hc ht0 hps xa).of e
   rw[e]
   show Sim ((evE p g c ps b s1).bind fun vb t2=>.ok (doI n (foldE a).n vb) t2) _
   rcases known hE hc i1 hps xb hab.2 with ⟨s2,e'⟩ | ⟨s2,e',l2⟩
   ·rw[e'];exact .inl rfl
   rw[e',evE_succ]
   unfold exprF
   rw[burn_ne (show s'.fuel≠0 by have:=h.fuel;omega)]
   exact ⟨_,(l2.trans l1).trans (h1 h0),rfl⟩
  have first:∀ (hb:(foldE b).k=1) (_:∀ va,wd va->doI n va (foldE b).n=va) (_:foldE (.mk 5 n of nm [a,b])=foldE a),Sim (evE p (g+1) c ps (.mk 5 n of nm [a,b]) s) (evE (foldP p) (h'+1) (fc c) ps (foldE (.mk 5 n of nm [a,b])) s'):=fun hb hd e1=>by
   rw[orig,e1]
   refine Sim.burn1 fun h0=>?_
   have sa:=hE (h'+1) (by omega) c ps a _ s' hc ht0 hps xa h2
   cases ea:evE p g c ps a { s with fuel:=s.fuel - 1 } with
   | stop e s1=>rw[ea] at sa;exact sa
   | ok va s1 =>
    rw[ea] at sa
    obtain ⟨s2,l2,e2⟩:=sa
    obtain ⟨i1,iv,_⟩:=((evP_I hp g).1 c ps a _ hc ht0 hps xa).of ea
    show Sim ((evE p g c ps b s1).bind fun vb t2=>.ok (doI n va vb) t2) _
    rcases known hE hc i1 hps xb hb with ⟨s3,e'⟩ | ⟨s3,e',l3⟩
    ·rw[e'];exact .inl rfl
    rw[e',e2]
    show Sim (.ok (doI n va (foldE b).n) s3) _
    rw[hd va iv]
    exact ⟨_,l3.trans l2,rfl⟩
  by_cases hz:((foldE b).k=1/\(foldE b).n=0)/\zeroOp n
  ·refine first hz.1.1 (fun va hv=>by rw[hz.1.2];exact doI_zero hz.2 hv) ?_
   rw[e0];unfold foldT;rw[if_neg hab,if_pos hz]
  by_cases ho:n=3/\(foldE b).k=1/\(foldE b).n=1
  ·refine first ho.2.1 (fun va hv=>by rw[ho.1,ho.2.2];exact doI_one hv) ?_
   rw[e0];unfold foldT;rw[if_neg hab,if_neg hz,if_pos ho]
  ·refine ordinary ?_
   rw[e0];unfold foldT;rw[if_neg hab,if_neg hz,if_neg ho]
 ·exact ordinary (foldE_k h5)
theorem whileSim (hp:PI p) {g h':Nat} (hE:SimE p g) (hS:SimS p g) (hg:g<=h') {c:EC} (hc:CI p c) {x z:Stmt} (hx:StI p c x) (hzx:z.xs.getD 0 noX=foldE (x.xs.getD 0 noX)) (hzb:z.b=foldSs x.b):∀ (k k':Nat),k<=k'->∀ (n:Int) (el:EL) (s s':ES),SI p s->ELI c el->Le s s' ->
  Sim (whileF (evE p g) (evS p g) c x k n el s) (whileF (evE (foldP p) h') (evS (foldP p) h') (fc c) z k' n el s')
 | 0,_,_,_,_,_,_,_,_,_=>.inl rfl
 | k+1,k',hk,n,el,s,s',hs,he,h=>by
  obtain ⟨k2,rfl⟩:∃ k2,k'=k2+1:=⟨k' - 1,by omega⟩
  have iB:∀ el s,SI p s->ELI c el->RI p s (ELI c) (bodyF (evS p g c) x.b el s):=fun el s hs he=>bodyF_I x.b (fun y hy el s hs he=>(evP_I hp g).2 c y el s hc hs he (hx.inv.2.2.2.1.all y hy)) el s hs he
  unfold whileF
  split
  ·exact Sim.ok h
  rw[hzb]
  refine (bodySim hp hS hg hc x.b el s s' (hx.inv.2.2.2.1.all) hs he h).bind fun el1 s1 s1' e h1=>?_
  obtain ⟨i1,e1,_⟩:=(iB el s hs he).of e
  split
  ·exact Sim.ok h1
  refine Sim.burn h1 fun t t' et ht=>?_
  have ht0:SI p t:=by rw[et];exact i1.fuel _
  rw[hzx]
  refine (hE h' hg c el1.ps _ t t' hc ht0 e1.2.1 hx.one.2 ht).bind fun n2 s2 s2' e2 h2=>?_
  obtain ⟨i2,_,_⟩:=((evP_I hp g).1 c el1.ps _ t hc ht0 e1.2.1 hx.one.2).of e2
  exact whileSim hp hE hS hg hc hx hzx hzb k k2 (by omega) n2 el1 s2 s2' i2 e1 h2
theorem getD_fold {l:List Expr} {i:Nat} (h:i < l.length):(foldEs l).getD i noX=foldE (l.getD i noX):=by
 rw[foldEs_map,List.getD_eq_getElem?_getD,List.getD_eq_getElem?_getD,List.getElem?_map,List.getElem?_eq_getElem h]
 rfl
theorem simS_succ (hp:PI p) {g:Nat} (hE:SimE p g) (hS:SimS p g):SimS p (g+1):=by
 intro g2 hg2 c x el s s' hc hs he hx hb h
 obtain ⟨h',rfl⟩:∃ h',g2=h'+1:=⟨g2 - 1,by omega⟩
 have hg:g<=h':=by omega
 have hinv:=hx.inv
 have hone:=hx.one
 have htwo:=hx.two
 have hsb:=hinv.2.2.2.1.all
 have hse:=hinv.2.2.2.2.1.all
 have ht0:SI p { s with fuel:=s.fuel - 1 }:=hs.fuel _
 have hl2:Le { s with fuel:=s.fuel - 1 } s':=⟨h.told,h.cells,by have:=h.fuel;show s.fuel - 1<=s'.fuel;omega⟩
 obtain ⟨k,nm,xs,b,e⟩:=x
 dsimp only[Stmt.xs,Stmt.k,Stmt.b,Stmt.e] at hone htwo hsb hse
 have hx0:(foldEs xs).getD 0 noX=foldE (xs.getD 0 noX):=getD_fold hone.1
 have hx00:(foldEs xs).getD 0 noE=foldE (xs.getD 0 noX):=hx0
 have e0:foldS (.mk k nm xs b e)=foldH k nm (foldEs xs) (foldSs b) (foldSs e):=by rw[foldS]
 unfold foldH at e0
 rw[hx00] at e0
 dsimp only at e0
 have sees:∀ {n s1},evE p g c el.ps (xs.getD 0 noX) { s with fuel:=s.fuel - 1 }=.ok n s1->SI p s1/\wd n:=fun e=>by
  obtain ⟨a,b,_⟩:=((evP_I hp g).1 c el.ps _ _ hc ht0 he.2.1 hone.2).of e
  exact ⟨a,b⟩
 by_cases c1:k=3/\(foldE (xs.getD 0 noX)).k=1/\(foldE (xs.getD 0 noX)).n≠0
 ·rw[if_pos c1] at e0
  rw[e0,evS_succ]
  unfold stmtF
  refine Sim.burn1 fun h0=>?_
  rcases known hE hc ht0 he.2.1 hone.2 c1.2.1 with ⟨s1,e1⟩ | ⟨s1,e1,l1⟩
  ·rw[show (Stmt.mk k nm xs b e).xs=xs from rfl,e1];exact .inl rfl
  obtain ⟨i1,_⟩:=sees e1
  rw[show (Stmt.mk k nm xs b e).xs=xs from rfl,e1]
  simp only[RR.bind]
  rw[show (Stmt.mk k nm xs b e).k=3 from c1.1,if_neg (by decide),if_neg (by decide),if_pos rfl,if_neg c1.2.2]
  exact bodySim hp hS (by omega) hc b el s1 s' hsb i1 he (l1.trans hl2)
 rw[if_neg c1] at e0
 by_cases c2:k=3/\(foldE (xs.getD 0 noX)).k=1
 ·have n0:(foldE (xs.getD 0 noX)).n=0:=Classical.byContradiction fun hn=>c1 ⟨c2.1,c2.2,hn⟩
  rw[if_pos c2] at e0
  rw[e0,evS_succ]
  unfold stmtF
  refine Sim.burn1 fun h0=>?_
  rcases known hE hc ht0 he.2.1 hone.2 c2.2 with ⟨s1,e1⟩ | ⟨s1,e1,l1⟩
  ·rw[show (Stmt.mk k nm xs b e).xs=xs from rfl,e1];exact .inl rfl
  obtain ⟨i1,_⟩:=sees e1
  rw[show (Stmt.mk k nm xs b e).xs=xs from rfl,e1]
  simp only[RR.bind]
  rw[show (Stmt.mk k nm xs b e).k=3 from c2.1,if_neg (by decide),if_neg (by decide),if_pos rfl,if_pos n0]
  exact bodySim hp hS (by omega) hc e el s1 s' hse i1 he (l1.trans hl2)
 rw[if_neg c2] at e0
 by_cases c3:k=4/\(foldE (xs.getD 0 noX)).k=1/\(foldE (xs.getD 0 noX)).n=0
 ·rw[if_pos c3] at e0
  rw[e0,evS_succ]
  unfold stmtF
  refine Sim.burn1 fun h0=>?_
  rcases known hE hc ht0 he.2.1 hone.2 c3.2.1 with ⟨s1,e1⟩ | ⟨s1,e1,l1⟩
  ·rw[show (Stmt.mk k nm xs b e).xs=xs from rfl,e1];exact .inl rfl
  rw[show (Stmt.mk k nm xs b e).xs=xs from rfl,e1]
  simp only[RR.bind]
  rw[show (Stmt.mk k nm xs b e).k=4 from c3.1,if_neg (by decide),if_neg (by decide),if_neg (by decide),if_pos rfl]
  unfold whileF
  rw[if_pos (.inl c3.2.2)]
  exact Sim.ok (l1.trans hl2)
 rw[if_neg c3] at e0
 rw[e0,bodyF_one _ _ hb,evS_succ,evS_succ]
 unfold stmtF
 refine Sim.burn h fun t t' et ht=>?_
 have htI:SI p t:=by rw[et];exact ht0
 rw[show (Stmt.mk k nm (foldEs xs) (foldSs b) (foldSs e)).xs=foldEs xs from rfl,show (Stmt.mk k nm xs b e).xs=xs from rfl,hx0]
 refine (hE h' hg c el.ps _ t t' hc htI he.2.1 hone.2 ht).bind fun n s1 s1' e1 h1=>?_
 obtain ⟨i1,hn,_⟩:=((evP_I hp g).1 c el.ps _ t hc htI he.2.1 hone.2).of e1
 show Sim (if k=1 then putV p c el s1 nm n else if k=2 then _ else if k=3 then _ else if k=4 then _ else if k=5 then _ else _) (if k=1 then putV (foldP p) (fc c) el s1' nm n else if k=2 then _ else if k=3 then _ else if k=4 then _ else if k=5 then _ else _)
 split
 ·exact putV_fold h1 el nm n
 split
 ·rename_i hk
  rw[getD_fold (show 1 < xs.length from (htwo hk).1)]
  exact (hE h' hg c el.ps _ s1 s1' hc i1 he.2.1 (htwo hk).2 h1).bind fun v s2 s2' _ h2=>putA_fold h2 el nm n v
 split
 ·show Sim (bodyF (evS p g c) (if n=0 then e else b) el s1) (bodyF (evS (foldP p) h' (fc c)) (if n=0 then foldSs e else foldSs b) el s1')
  split
  ·exact bodySim hp hS hg hc e el s1 s1' hse i1 he h1
  ·exact bodySim hp hS hg hc b el s1 s1' hsb i1 he h1
 split
 ·exact whileSim hp hE hS hg hc (z:=.mk k nm (foldEs xs) (foldSs b) (foldSs e)) hx hx0 rfl (g+1) (h'+1) hg2 n el s1 s1' i1 he h1
 split
 ·exact Sim.ok h1
 ·rw[h1.told]
  split
  ·exact Sim.stop h1
  ·exact Sim.ok ⟨rfl,h1.cells,h1.fuel⟩
theorem sim_all (hp:PI p):∀ g,SimE p g/\SimS p g
 | 0=>⟨fun _ _ _ _ _ _ _ _ _ _ _ _=>.inl rfl,fun _ _ _ _ _ _ _ _ _ _ _ _ _=>.inl rfl⟩
 | g+1=>⟨simE_succ hp (sim_all hp g).1 (sim_all hp g).2,simS_succ hp (sim_all hp g).1 (sim_all hp g).2⟩
theorem fold_call (hp:PI p) (f:Nat) {u i:Nat} (hu:u < p.length) (hi:i < (uAt p u).funcs.length) {args:List Int} (ha:args.length=((uAt p u).funcs.getD i noF).params.length) (hw:wds args) (deep:Nat) {cs:List Cells} (hs:SI p ⟨f,[],cs⟩) :
  Sim (callF p (evS p f) u i args deep ⟨f,[],cs⟩) (callF (foldP p) (evS (foldP p) f) u i args deep ⟨f,[],cs⟩) :=
 callSim hp (sim_all hp f).2 (Nat.le_refl _) hu hi ha hw deep hs (Le.refl _)
end
end Barb
