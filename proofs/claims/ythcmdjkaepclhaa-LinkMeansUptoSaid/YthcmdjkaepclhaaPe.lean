import Derived.Test.YthcmdjkaepclhaaGi
import Derived.Test.YthcmdjkaepclhaaEk
namespace Barb
open Go Go.Dm Go.Eng Go.Proofs.Ythcmdjkaepclhaa
structure ES where
 fuel:Nat
 told:List Int
 cells:List Cells
structure EL where
 ps:List Int
 back:Bool
 val:Int
structure EC where
 u:Nat
 f:Fun
 deep:Nat
inductive RR (α:Type) where
 | ok (a:α) (s:ES)
 | stop (e:Int) (s:ES)
def RR.bind {α β:Type}:RR α->(α->ES->RR β)->RR β
 | .ok a s,k=>k a s
 | .stop e s,_=>.stop e s
def burnS {α:Type} (s:ES) (k:ES->RR α):RR α:=if s.fuel=0 then .stop 3 s else k { s with fuel:=s.fuel - 1 }
def noC:Cells:=⟨[],[]⟩
def noF:Fun:=⟨[],false,[],[]⟩
noncomputable def pIdx (f:Fun) (name:Str):Int:=idx (fun x=>name=x) f.params
noncomputable def vIdx (u:Unit) (name:Str):Int:=idx (fun x=>name=x) u.vars
noncomputable def aIdx (u:Unit) (name:Str):Int:=idx (fun a:Arr=>a.name=name) u.arrays
def uAt (p:List Unit) (u:Nat):Unit:=p.getD u noU
def cAt (s:ES) (u:Nat):Cells:=s.cells.getD u noC
noncomputable def getV (p:List Unit) (c:EC) (ps:List Int) (s:ES) (name:Str):Int :=
 if 0<=pIdx c.f name then ps.getD (pIdx c.f name).toNat 0 else (cAt s c.u).vars.getD (vIdx (uAt p c.u) name).toNat 0
def Cells.setV (c:Cells) (i:Nat) (n:Int):Cells:=⟨c.vars.set i n,c.arrays⟩
def Cells.setA (c:Cells) (k i:Nat) (n:Int):Cells:=⟨c.vars,c.arrays.set k ((c.arrays.getD k []).set i n)⟩
def ES.setV (s:ES) (u i:Nat) (n:Int):ES:={ s with cells:=s.cells.set u ((cAt s u).setV i n) }
def ES.setA (s:ES) (u k i:Nat) (n:Int):ES:={ s with cells:=s.cells.set u ((cAt s u).setA k i n) }
noncomputable def arrAt (p:List Unit) (c:EC) (s:ES) (name:Str):List Int:=(cAt s c.u).arrays.getD (aIdx (uAt p c.u) name).toNat []
noncomputable def getA (p:List Unit) (c:EC) (s:ES) (name:Str) (at_:Int):RR Int :=
 if ((arrAt p c s name).length:Int)<=at_ then .stop 2 s else .ok ((arrAt p c s name).getD at_.toNat 0) s
noncomputable def putV (p:List Unit) (c:EC) (el:EL) (s:ES) (name:Str) (n:Int):RR EL :=
 if 0<=pIdx c.f name then .ok { el with ps:=el.ps.set (pIdx c.f name).toNat n } s else .ok el (s.setV c.u (vIdx (uAt p c.u) name).toNat n)
noncomputable def putA (p:List Unit) (c:EC) (el:EL) (s:ES) (name:Str) (at_ n:Int):RR EL :=
 if ((arrAt p c s name).length:Int)<=at_ then .stop 2 s else .ok el (s.setA c.u (aIdx (uAt p c.u) name).toNat at_.toNat n)
abbrev EvE:=EC->List Int->Expr->ES->RR Int
abbrev EvS:=EC->Stmt->EL->ES->RR EL
def listF (e:Expr->ES->RR Int):List Expr->ES->RR (List Int)
 | [],s=>.ok [] s
 | x :: l,s=>(e x s).bind fun n s=>(listF e l s).bind fun ns s=>.ok (n :: ns) s
def bodyF (e:Stmt->EL->ES->RR EL):List Stmt->EL->ES->RR EL
 | [],el,s=>.ok el s
 | x :: l,el,s=>if el.back then .ok el s else (e x el s).bind (bodyF e l)
def callF (p:List Unit) (e:EvS) (u:Nat) (f:Nat) (args:List Int) (deep:Nat) (s:ES):RR Int :=
 if 20<=deep then .stop 5 s else (bodyF (e ⟨u,(uAt p u).funcs.getD f noF,deep⟩) ((uAt p u).funcs.getD f noF).body ⟨args,false,0⟩ s).bind fun el s=>.ok el.val s
noncomputable def toU (p:List Unit) (c:EC) (of:Str):Nat:=if of=[] then c.u else (unitIdx p of).toNat
noncomputable def lastF (p:List Unit) (e:EvS) (c:EC) (x:Expr) (l:List Int) (s:ES):RR Int :=
 if x.k=3 then getA p c s x.s (l.getD 0 0) else if x.k=5 then .ok (doI x.n (l.getD 0 0) (l.getD 1 0)) s
 else callF p e (toU p c x.of) (funIdx (uAt p (toU p c x.of)) x.s).toNat l (c.deep+1) s
noncomputable def exprF (p:List Unit) (eE:EvE) (eS:EvS):EvE:=fun c ps x s =>
 burnS s fun s=>if x.k=1 then .ok x.n s else if x.k=2 then .ok (getV p c ps s x.s) s else (listF (eE c ps) x.args s).bind (lastF p eS c x)
def whileF (eE:EvE) (eS:EvS) (c:EC) (x:Stmt):Nat->Int->EL->ES->RR EL
 | 0,_,_,s=>.stop 3 s
 | g+1,n,el,s=>if n=0\/el.back=true then .ok el s else (bodyF (eS c) x.b el s).bind fun el s =>
   if el.back then .ok el s else burnS s fun s=>(eE c el.ps (x.xs.getD 0 noX) s).bind fun n s=>whileF eE eS c x g n el s
noncomputable def stmtF (p:List Unit) (eE:EvE) (eS:EvS) (g:Nat):EvS:=fun c x el s =>
 burnS s fun s=>(eE c el.ps (x.xs.getD 0 noX) s).bind fun n s =>
  if x.k=1 then putV p c el s x.s n
  else if x.k=2 then (eE c el.ps (x.xs.getD 1 noX) s).bind fun v s=>putA p c el s x.s n v
  else if x.k=3 then bodyF (eS c) (if n=0 then x.e else x.b) el s
  else if x.k=4 then whileF eE eS c x (g+1) n el s
  else if x.k=5 then .ok { el with back:=true,val:=n } s
  else if s.told.length=500 then .stop 6 s else .ok el { s with told:=s.told++[n] }
noncomputable def evP (p:List Unit):Nat->EvE × EvS
 | 0=>(fun _ _ _ s=>.stop 3 s,fun _ _ _ s=>.stop 3 s)
 | g+1=>(exprF p (evP p g).1 (evP p g).2,stmtF p (evP p g).1 (evP p g).2 g)
noncomputable def evE (p:List Unit) (g:Nat):EvE:=(evP p g).1
noncomputable def evS (p:List Unit) (g:Nat):EvS:=(evP p g).2
theorem evE_succ (p:List Unit) (g:Nat):evE p (g+1)=exprF p (evE p g) (evS p g):=rfl
theorem evS_succ (p:List Unit) (g:Nat):evS p (g+1)=stmtF p (evE p g) (evS p g) g:=rfl
def wd (n:Int):Prop:=0<=n/\n<=65535
def wds (l:List Int):Prop:=∀ n∈l,wd n
structure SI (p:List Unit) (s:ES):Prop where
 len:s.cells.length=p.length
 ok:cellsOk p s.cells
 told:s.told.length<=500
 toldW:wds s.told
theorem cAt_eq {s:ES} {u:Nat} (h:u < s.cells.length):cAt s u=s.cells[u]:=by unfold cAt;simp[h]
theorem uAt_eq {p:List Unit} {u:Nat} (h:u < p.length):uAt p u=p[u]:=by unfold uAt;simp[h]
theorem SI.cell {p:List Unit} {s:ES} (h:SI p s) {u:Nat} (hu:u < p.length):cellOk (uAt p u) (cAt s u):=by
 rw[cAt_eq (by rw[h.len];exact hu),uAt_eq hu]
 exact h.ok u (by rw[h.len];exact hu) hu
theorem wds_set {l:List Int} (h:wds l) {n:Int} (hn:wd n) (i:Nat):wds (l.set i n):=fun x hx=>by
 rcases List.mem_or_eq_of_mem_set hx with h1 | rfl
 ·exact h x h1
 ·exact hn
theorem wds_getD {l:List Int} (h:wds l) (i:Nat):wd (l.getD i 0):=by
 rw[List.getD_eq_getElem?_getD]
 cases hx:l[i]? with
 | none=>exact ⟨by simp,by simp⟩
 | some x=>exact h x (List.mem_of_getElem? hx)
theorem wordsOk.w {l:List Int} {n:Int} (h:wordsOk l n):wds l:=h.2
theorem SI.set {p:List Unit} {s:ES} (h:SI p s) {u:Nat} {c:Cells} (hc:cellOk (uAt p u) c):SI p { s with cells:=s.cells.set u c }:=by
 refine ⟨by simp[h.len],fun i hi hi'=>?_,h.told,h.toldW⟩
 by_cases e:u=i
 ·subst e
  simp only[List.getElem_set_self]
  rw[uAt_eq hi'] at hc
  exact hc
 ·have hi2:i < s.cells.length:=by simpa using hi
  simp only[List.getElem_set_ne e]
  exact h.ok i hi2 hi'
theorem cellOk.setV {u:Unit} {c:Cells} (h:cellOk u c) (i:Nat) {n:Int} (hn:wd n):cellOk u (c.setV i n) :=
 ⟨⟨⟨by unfold Cells.setV;rw[List.length_set];exact h.1.1.1,wds_set h.1.1.2 hn i⟩,h.1.2⟩,h.2⟩
theorem cellOk.arr {u:Unit} {c:Cells} (h:cellOk u c) {k:Nat} (hk:k < u.arrays.length):wordsOk (c.arrays.getD k []) u.arrays[k].size:=by
 have hk':k < c.arrays.length:=by rw[h.1.2];exact hk
 have:c.arrays.getD k []=c.arrays[k]:=by simp[hk']
 rw[this]
 exact h.2 k hk' hk
theorem cellOk.setA {u:Unit} {c:Cells} (h:cellOk u c) (k i:Nat) {n:Int} (hn:wd n):cellOk u (c.setA k i n):=by
 refine ⟨⟨h.1.1,by unfold Cells.setA;rw[List.length_set];exact h.1.2⟩,fun j hj hj'=>?_⟩
 have hjl:j < c.arrays.length:=by rw[h.1.2];exact hj'
 have hj2:j < (c.arrays.set k ((c.arrays.getD k []).set i n)).length:=hj
 show wordsOk ((c.arrays.set k ((c.arrays.getD k []).set i n))[j]'hj2) _
 rw[List.getElem_set]
 split
 ·rename_i e
  subst e
  have:=h.arr hj'
  exact ⟨by rw[List.length_set];exact this.1,wds_set this.2 hn i⟩
 ·exact h.2 j hjl hj'
theorem SI.setV {p:List Unit} {s:ES} (h:SI p s) {u:Nat} (hu:u < p.length) (i:Nat) {n:Int} (hn:wd n):SI p (s.setV u i n):=h.set ((h.cell hu).setV i hn)
theorem SI.setA {p:List Unit} {s:ES} (h:SI p s) {u:Nat} (hu:u < p.length) (k i:Nat) {n:Int} (hn:wd n):SI p (s.setA u k i n):=h.set ((h.cell hu).setA k i hn)
theorem SI.fuel {p:List Unit} {s:ES} (h:SI p s) (n:Nat):SI p { s with fuel:=n }:=⟨h.len,h.ok,h.told,h.toldW⟩
theorem SI.arr {p:List Unit} {s:ES} (h:SI p s) {u:Nat} (hu:u < p.length) (k:Nat):wds ((cAt s u).arrays.getD k []):=by
 have hc:=h.cell hu
 rw[List.getD_eq_getElem?_getD]
 cases hx:(cAt s u).arrays[k]? with
 | none=>intro x hx;simp at hx
 | some l =>
  obtain ⟨hk,rfl⟩:=List.getElem?_eq_some_iff.1 hx
  exact (hc.2 k hk (by rw[<- hc.1.2];exact hk)).2
def RI {α:Type} (p:List Unit) (s:ES) (A:α->Prop):RR α->Prop
 | .ok a s'=>SI p s'/\(s'.fuel<=s.fuel/\s.told <+: s'.told)/\A a
 | .stop e s'=>SI p s'/\(s'.fuel<=s.fuel/\s.told <+: s'.told)/\2<=e/\e<=6
theorem RI.bind {α β:Type} {p:List Unit} {s:ES} {A:α->Prop} {B:β->Prop} {r:RR α} {k:α->ES->RR β} (h:RI p s A r) (hk:∀ a s',SI p s'->s'.fuel<=s.fuel->A a->RI p s' B (k a s')):RI p s B (r.bind k):=by
 cases r with
 | ok a s' =>
  have:=hk a s' h.1 h.2.1.1 h.2.2
  show RI p s B (k a s')
  cases hr:k a s' with
  | ok b s2=>rw[hr] at this;exact ⟨this.1,⟨Nat.le_trans this.2.1.1 h.2.1.1,h.2.1.2.trans this.2.1.2⟩,this.2.2⟩
  | stop e s2=>rw[hr] at this;exact ⟨this.1,⟨Nat.le_trans this.2.1.1 h.2.1.1,h.2.1.2.trans this.2.1.2⟩,this.2.2⟩
 | stop e s'=>exact h
theorem RI.burn {α:Type} {p:List Unit} {s:ES} {A:α->Prop} {k:ES->RR α} (h:SI p s) (hk:SI p { s with fuel:=s.fuel - 1 }->RI p { s with fuel:=s.fuel - 1 } A (k { s with fuel:=s.fuel - 1 })):RI p s A (burnS s k):=by
 unfold burnS
 by_cases h0:s.fuel=0
 ·rw[if_pos h0];exact ⟨h,⟨Nat.le_refl _,List.prefix_refl _⟩,by decide,by decide⟩
 ·rw[if_neg h0]
  have:=hk (h.fuel _)
  cases hr:k { s with fuel:=s.fuel - 1 } with
  | ok b s2=>rw[hr] at this;exact ⟨this.1,⟨Nat.le_trans this.2.1.1 (Nat.sub_le _ _),this.2.1.2⟩,this.2.2⟩
  | stop e s2=>rw[hr] at this;exact ⟨this.1,⟨Nat.le_trans this.2.1.1 (Nat.sub_le _ _),this.2.1.2⟩,this.2.2⟩
theorem RI.ok {α:Type} {p:List Unit} {s:ES} {A:α->Prop} {a:α} (h:SI p s) (ha:A a):RI p s A (.ok a s):=⟨h,⟨Nat.le_refl _,List.prefix_refl _⟩,ha⟩
theorem RI.stop {α:Type} {p:List Unit} {s:ES} {A:α->Prop} {e:Int} (h:SI p s) (h2:2<=e) (h6:e<=6):RI p s A (.stop e s):=⟨h,⟨Nat.le_refl _,List.prefix_refl _⟩,h2,h6⟩
theorem RI.same {α:Type} {p:List Unit} {s s':ES} {A:α->Prop} {a:α} (h:SI p s') (h1:s'.fuel=s.fuel) (h2:s'.told=s.told) (ha:A a):RI p s A (.ok a s'):=⟨h,⟨by omega,by rw[h2];exact List.prefix_refl _⟩,ha⟩
structure PI (p:List Unit):Prop where
 few:p.length<=5
 unit:∀ u∈p,unitE u=0
 sense:∀ u∈p,unitS p u=0
theorem PI.of {p:List Unit} (h:progE p=0):PI p:=by
 obtain ⟨h1,h2,_,h4⟩:=progE_inv h
 exact ⟨h1,h2,h4⟩
theorem uAt_mem {p:List Unit} {u:Nat} (h:u < p.length):uAt p u∈p:=by rw[uAt_eq h];exact List.getElem_mem h
structure CI (p:List Unit) (c:EC):Prop where
 u:c.u < p.length
 f:c.f∈(uAt p c.u).funcs
 deep:c.deep<=19
def ELI (c:EC) (el:EL):Prop:=el.ps.length=c.f.params.length/\wds el.ps/\wd el.val
def XI (p:List Unit) (c:EC) (x:Expr):Prop:=∃ n,exprE n x=0/\exprS p (uAt p c.u) c.f x=0
def SsI (p:List Unit) (c:EC) (l:List Stmt):Prop:=∃ n,stmtsE n l=0/\stmtsS p (uAt p c.u) c.f l=0
def StI (p:List Unit) (c:EC) (x:Stmt):Prop:=∃ n,stmtE1 (stmtsE n) x=0/\stmtS p (uAt p c.u) c.f x=0
theorem XI.inv {p:List Unit} {c:EC} {x:Expr} (h:XI p c x):(1<=x.k/\x.k<=5)/\x.args.length<=4/\exprOk x.k x.n x.of x.s x.args.length/\¬exprBad x.k x.n/\exprS1 p (uAt p c.u) c.f x.k x.of x.s x.args.length=0/\∀ y∈x.args,XI p c y:=by
 obtain ⟨n,h1,h2⟩:=h
 cases n with
 | zero=>cases x;simp[exprE] at h1
 | succ n =>
  obtain ⟨a1,a2,a3,a4,a5⟩:=exprE_inv h1
  obtain ⟨b1,b2⟩:=exprS_inv h2
  exact ⟨a1,a2,a3,a4,b1,fun y hy=>⟨n,a5 y hy,b2 y hy⟩⟩
theorem StI.inv {p:List Unit} {c:EC} {x:Stmt} (h:StI p c x):(1<=x.k/\x.k<=6)/\stmtOk x.k x.s x.xs.length x.b.length x.e.length/\(∀ y∈x.xs,XI p c y)/\SsI p c x.b/\SsI p c x.e/\¬((x.k=1/\¬varP (uAt p c.u) c.f x.s)\/(x.k=2/\¬arrP (uAt p c.u) x.s)):=by
 obtain ⟨n,h1,h2⟩:=h
 obtain ⟨a1,a2,a3,a4,a5⟩:=stmtE_inv h1
 obtain ⟨b1,b2,b3,b4⟩:=stmtS_inv h2
 exact ⟨a1,a2,fun y hy=>⟨12,a3 y hy,b2 y hy⟩,⟨n,a4,b3⟩,⟨n,a5,b4⟩,b1⟩
theorem SsI.all {p:List Unit} {c:EC} {l:List Stmt} (h:SsI p c l):∀ x∈l,StI p c x:=by
 obtain ⟨n,h1,h2⟩:=h
 intro x hx
 rw[stmtsS_first] at h2
 cases n with
 | zero=>simp[stmtsE] at h1
 | succ n=>exact ⟨n,firstE_all (f:=stmtE1 (stmtsE n)) h1 x hx,firstE_all h2 x hx⟩
theorem PI.body {p:List Unit} (h:PI p) {c:EC} (hc:CI p c):SsI p c c.f.body :=
 ⟨12,(funE_inv ((unitE_inv (h.unit _ (uAt_mem hc.u))).2.2.2.2.2.2 _ hc.f)).2.2.2,unitS_inv (h.sense _ (uAt_mem hc.u)) _ hc.f⟩
end Barb
namespace Barb
open Go Go.Dm Go.Eng Go.Proofs.Ythcmdjkaepclhaa
theorem did_w {op m n:Nat} (hm:m<=65535) (hn:n<=65535) (h1:1<=op) (h10:op<=10):did op m n<=65535:=by
 have h:op=1\/op=2\/op=3\/op=4\/op=5\/op=6\/op=7\/op=8\/op=9\/op=10:=by omega
 rcases h with rfl | rfl | rfl | rfl | rfl | rfl | rfl | rfl | rfl | rfl
 ·simp only[did];omega
 ·simp only[did];omega
 ·simp only[did];omega
 ·exact did_le (op:=4) hm hn (.inl rfl)
 ·exact did_le (op:=5) hm hn (.inr (.inl rfl))
 ·exact did_le (op:=6) hm hn (.inr (.inr rfl))
 ·simp only[did];split<;>omega
 ·simp only[did];split<;>omega
 ·simp only[did];omega
 ·have:m / 2 ^ (n % 16)<=m:=Nat.div_le_self _ _
  simp only[did];omega
theorem doI_w (op a b:Int):wd (doI op a b):=by
 unfold doI
 by_cases h:op < 1\/10 < op
 ·rw[if_pos h];exact ⟨by decide,by decide⟩
 rw[if_neg h]
 by_cases h2:(0<=a/\a<=65535)/\(0<=b/\b<=65535)
 ·rw[if_pos h2]
  have:=did_w (op:=op.toNat) (m:=a.toNat) (n:=b.toNat) (by omega) (by omega) (by omega) (by omega)
  exact ⟨by omega,by omega⟩
 ·rw[if_neg h2];exact ⟨by decide,by decide⟩
theorem getV_w {p:List Unit} {c:EC} {ps:List Int} {s:ES} (hc:CI p c) (hs:SI p s) (hp:wds ps) (name:Str):wd (getV p c ps s name):=by
 unfold getV
 split
 ·exact wds_getD hp _
 ·exact wds_getD (hs.cell hc.u).1.1.2 _
theorem getA_I {p:List Unit} {c:EC} {s:ES} (hc:CI p c) (hs:SI p s) (name:Str) (n:Int):RI p s wd (getA p c s name n):=by
 unfold getA
 split
 ·exact RI.stop hs (by decide) (by decide)
 ·exact RI.ok hs (wds_getD (hs.arr hc.u _) _)
theorem ELI.set {c:EC} {el:EL} (h:ELI c el) (i:Nat) {n:Int} (hn:wd n):ELI c { el with ps:=el.ps.set i n }:=⟨by simp[h.1],wds_set h.2.1 hn i,h.2.2⟩
theorem putV_I {p:List Unit} {c:EC} {s:ES} {el:EL} (hc:CI p c) (hs:SI p s) (he:ELI c el) (name:Str) {n:Int} (hn:wd n):RI p s (ELI c) (putV p c el s name n):=by
 unfold putV
 split
 ·exact RI.ok hs (he.set _ hn)
 ·exact RI.same (hs.setV hc.u _ hn) rfl rfl he
theorem putA_I {p:List Unit} {c:EC} {s:ES} {el:EL} (hc:CI p c) (hs:SI p s) (he:ELI c el) (name:Str) (at_:Int) {n:Int} (hn:wd n):RI p s (ELI c) (putA p c el s name at_ n):=by
 unfold putA
 split
 ·exact RI.stop hs (by decide) (by decide)
 ·exact RI.same (hs.setA hc.u _ _ hn) rfl rfl he
theorem listF_I {p:List Unit} {e:Expr->ES->RR Int}:∀ (l:List Expr),(∀ x∈l,∀ s,SI p s->RI p s wd (e x s))->∀ s,SI p s->RI p s (fun ns=>ns.length=l.length/\wds ns) (listF e l s)
 | [],_,s,hs=>RI.ok hs ⟨rfl,fun x hx=>by simp at hx⟩
 | x :: l,h,s,hs=>by
  refine (h x List.mem_cons_self s hs).bind fun n s1 h1 _ hn=>(listF_I l (fun y hy=>h y (List.mem_cons_of_mem _ hy)) s1 h1).bind fun ns s2 h2 _ hns=>RI.ok h2 ⟨by simp[hns.1],fun y hy=>?_⟩
  rcases List.mem_cons.1 hy with rfl | hy
  ·exact hn
  ·exact hns.2 y hy
theorem bodyF_I {p:List Unit} {c:EC} {e:Stmt->EL->ES->RR EL}:∀ (l:List Stmt),(∀ x∈l,∀ el s,SI p s->ELI c el->RI p s (ELI c) (e x el s))->∀ el s,SI p s->ELI c el->RI p s (ELI c) (bodyF e l el s)
 | [],_,el,s,hs,he=>RI.ok hs he
 | x :: l,h,el,s,hs,he=>by
  unfold bodyF
  split
  ·exact RI.ok hs he
  ·exact (h x List.mem_cons_self el s hs he).bind fun el1 s1 h1 _ he1=>bodyF_I l (fun y hy=>h y (List.mem_cons_of_mem _ hy)) el1 s1 h1 he1
theorem fn_mem {p:List Unit} {u:Nat} {i:Nat} (hi:i < (uAt p u).funcs.length):(uAt p u).funcs.getD i noF∈(uAt p u).funcs:=by
 rw[show (uAt p u).funcs.getD i noF=(uAt p u).funcs[i] by simp[hi]]
 exact List.getElem_mem hi
theorem callF_I {p:List Unit} (hp:PI p) {e:EvS} (ih:∀ c x el s,CI p c->SI p s->ELI c el->StI p c x->RI p s (ELI c) (e c x el s)) {u i:Nat} (hu:u < p.length) (hi:i < (uAt p u).funcs.length) {args:List Int} (ha:args.length=((uAt p u).funcs.getD i noF).params.length) (hw:wds args) (deep:Nat) {s:ES} (hs:SI p s) :
  RI p s wd (callF p e u i args deep s):=by
 unfold callF
 split
 ·exact RI.stop hs (by decide) (by decide)
 rename_i hd
 have hc:CI p ⟨u,(uAt p u).funcs.getD i noF,deep⟩:=⟨hu,fn_mem hi,by show deep<=19;omega⟩
 exact (bodyF_I _ (fun x hx el s hs he=>ih _ x el s hc hs he ((hp.body hc).all x hx)) _ s hs ⟨ha,hw,(show wd 0 from ⟨by decide,by decide⟩)⟩).bind fun el s1 h1 _ he=>RI.ok h1 he.2.2
theorem XI.ask {p:List Unit} {c:EC} {x:Expr} (hc:CI p c) (h:XI p c x) (hk:x.k=4):toU p c x.of < p.length/\∃ i,funIdx (uAt p (toU p c x.of)) x.s=((i:Nat):Int)/\i < (uAt p (toU p c x.of)).funcs.length/\((uAt p (toU p c x.of)).funcs.getD i noF).params.length=x.args.length/\(x.of≠[]->unitIdx p x.of=((toU p c x.of:Nat):Int)):=by
 have h1:=h.inv.2.2.2.2.1
 unfold exprS1 at h1
 rw[if_neg (by omega),if_pos hk] at h1
 unfold toU
 by_cases ho:x.of=[]
 ·rw[if_pos ho]
  unfold calledE at h1
  rw[if_pos ho] at h1
  obtain ⟨i,hi,e1,e2,_,_⟩:=calledIn_ok h1
  exact ⟨hc.u,i,e1,hi,by rw[show (uAt p c.u).funcs.getD i noF=(uAt p c.u).funcs[i] by simp[hi]];exact e2,fun hne=>absurd ho hne⟩
 ·rw[if_neg ho]
  obtain ⟨j,hj,e1,e2⟩:=calledE_out h1 ho
  obtain ⟨i,hi,f1,f2,_,_⟩:=calledIn_ok e2
  rw[e1,Int.toNat_natCast]
  rw[uAt_eq hj]
  exact ⟨hj,i,f1,hi,by rw[show p[j].funcs.getD i noF=p[j].funcs[i] by simp[hi]];exact f2,fun _=>rfl⟩
theorem lastF_I {p:List Unit} (hp:PI p) {e:EvS} (ih:∀ c x el s,CI p c->SI p s->ELI c el->StI p c x->RI p s (ELI c) (e c x el s)) {c:EC} (hc:CI p c) {x:Expr} (hx:XI p c x) (h1:x.k≠1) (h2:x.k≠2) {l:List Int} (hl:l.length=x.args.length/\wds l) {s:ES} (hs:SI p s):RI p s wd (lastF p e c x l s):=by
 unfold lastF
 split
 ·exact getA_I hc hs _ _
 split
 ·exact RI.ok hs (doI_w _ _ _)
 obtain ⟨a1,i,a2,a3,a4,_⟩:=hx.ask hc (by have:=hx.inv.1;omega)
 rw[a2,Int.toNat_natCast]
 exact callF_I hp ih a1 a3 (hl.1.trans a4.symm) hl.2 _ hs
theorem XI.num {p:List Unit} {c:EC} {x:Expr} (h:XI p c x) (hk:x.k=1):wd x.n:=by
 have:=h.inv.2.2.2.1
 unfold exprBad at this
 exact Classical.byContradiction fun hn=>this (.inl ⟨hk,hn⟩)
theorem exprs_at {l:List Expr} {i:Nat} (hi:i < l.length):l.getD i noX∈l:=by
 rw[show l.getD i noX=l[i] by simp[hi]]
 exact List.getElem_mem hi
theorem StI.one {p:List Unit} {c:EC} {x:Stmt} (h:StI p c x):0 < x.xs.length/\XI p c (x.xs.getD 0 noX):=by
 obtain ⟨h1,h2,h3,_⟩:=h.inv
 have:0 < x.xs.length:=by
  obtain ⟨⟨_,_,a,b⟩,_⟩:=h2
  by_cases h:x.k=2
  ·have:=a h;omega
  ·have:=b h;omega
 exact ⟨this,h3 _ (exprs_at this)⟩
theorem StI.two {p:List Unit} {c:EC} {x:Stmt} (h:StI p c x) (hk:x.k=2):1 < x.xs.length/\XI p c (x.xs.getD 1 noX):=by
 obtain ⟨h1,h2,h3,_⟩:=h.inv
 have:1 < x.xs.length:=by
  obtain ⟨⟨_,_,a,b⟩,_⟩:=h2
  have:=a hk;omega
 exact ⟨this,h3 _ (exprs_at this)⟩
theorem whileF_I {p:List Unit} {eE:EvE} {eS:EvS} {c:EC} {x:Stmt} (iE:∀ ps s,SI p s->wds ps->RI p s wd (eE c ps (x.xs.getD 0 noX) s)) (iB:∀ el s,SI p s->ELI c el->RI p s (ELI c) (bodyF (eS c) x.b el s)):∀ (g:Nat) (n:Int) (el:EL) (s:ES),SI p s->ELI c el->RI p s (ELI c) (whileF eE eS c x g n el s)
 | 0,_,_,_,hs,_=>RI.stop hs (by decide) (by decide)
 | g+1,n,el,s,hs,he=>by
  unfold whileF
  split
  ·exact RI.ok hs he
  refine (iB el s hs he).bind fun el1 s1 h1 _ he1=>?_
  split
  ·exact RI.ok h1 he1
  exact RI.burn h1 fun hb=>(iE _ _ hb he1.2.1).bind fun n1 s2 h2 _ _=>whileF_I iE iB g n1 el1 s2 h2 he1
theorem evP_I {p:List Unit} (hp:PI p):∀ g,(∀ c ps x s,CI p c->SI p s->wds ps->XI p c x->RI p s wd (evE p g c ps x s))/\(∀ c x el s,CI p c->SI p s->ELI c el->StI p c x->RI p s (ELI c) (evS p g c x el s))
 | 0=>⟨fun _ _ _ _ _ hs _ _=>RI.stop hs (by decide) (by decide),fun _ _ _ _ _ hs _ _=>RI.stop hs (by decide) (by decide)⟩
 | g+1=>by
  obtain ⟨iE,iS⟩:=evP_I hp g
  have iB:∀ c l el s,CI p c->SI p s->ELI c el->SsI p c l->RI p s (ELI c) (bodyF (evS p g c) l el s):=fun c l el s hc hs he hl=>bodyF_I l (fun x hx el s hs he=>iS c x el s hc hs he (hl.all x hx)) el s hs he
  refine ⟨fun c ps x s hc hs hps hx=>?_,fun c x el s hc hs he hx=>?_⟩
  ·rw[evE_succ]
   unfold exprF
   refine RI.burn hs fun hb=>?_
   split
   ·rename_i h1;exact RI.ok hb (hx.num h1)
   split
   ·exact RI.ok hb (getV_w hc hb hps _)
   rename_i h1 h2
   exact (listF_I x.args (fun y hy s hs=>iE c ps y s hc hs hps (hx.inv.2.2.2.2.2 y hy)) _ hb).bind fun l s1 hs1 _ hl=>lastF_I hp iS hc hx h1 h2 hl hs1
  ·rw[evS_succ]
   unfold stmtF
   refine RI.burn hs fun hb=>(iE c el.ps _ _ hc hb he.2.1 hx.one.2).bind fun n s1 h1 _ hn=>?_
   split
   ·exact putV_I hc h1 he _ hn
   split
   ·rename_i hk2
    exact (iE c el.ps _ _ hc h1 he.2.1 (hx.two hk2).2).bind fun v s2 h2 _ hv=>putA_I hc h2 he _ _ hv
   split
   ·split
    ·exact iB c _ el s1 hc h1 he hx.inv.2.2.2.2.1
    ·exact iB c _ el s1 hc h1 he hx.inv.2.2.2.1
   split
   ·exact whileF_I (fun ps s hs hw=>iE c ps _ s hc hs hw hx.one.2) (fun el s hs he=>iB c _ el s hc hs he hx.inv.2.2.2.1) _ n el s1 h1 he
   split
   ·exact RI.ok h1 ⟨he.1,he.2.1,hn⟩
   split
   ·exact RI.stop h1 (by decide) (by decide)
   ·rename_i h5
    refine ⟨⟨h1.len,h1.ok,by have:=h1.told;show (s1.told++[n]).length<=500;simp;omega,fun z hz=>?_⟩,⟨Nat.le_refl _,⟨[n],rfl⟩⟩,he⟩
    rcases List.mem_append.1 hz with hz | hz
    ·exact h1.toldW z hz
    ·rw[List.mem_singleton.1 hz];exact hn
theorem XI.var {p:List Unit} {c:EC} {x:Expr} (h:XI p c x) (hk:x.k=2):varP (uAt p c.u) c.f x.s:=by
 have h1:=h.inv.2.2.2.2.1
 unfold exprS1 at h1
 exact Classical.byContradiction fun hn=>by rw[if_pos (.inl ⟨hk,hn⟩)] at h1;omega
theorem XI.arr {p:List Unit} {c:EC} {x:Expr} (h:XI p c x) (hk:x.k=3):arrP (uAt p c.u) x.s:=by
 have h1:=h.inv.2.2.2.2.1
 unfold exprS1 at h1
 exact Classical.byContradiction fun hn=>by rw[if_pos (.inr ⟨hk,hn⟩)] at h1;omega
theorem StI.var {p:List Unit} {c:EC} {x:Stmt} (h:StI p c x) (hk:x.k=1):varP (uAt p c.u) c.f x.s:=Classical.byContradiction fun hn=>h.inv.2.2.2.2.2 (.inl ⟨hk,hn⟩)
theorem StI.arr {p:List Unit} {c:EC} {x:Stmt} (h:StI p c x) (hk:x.k=2):arrP (uAt p c.u) x.s:=Classical.byContradiction fun hn=>h.inv.2.2.2.2.2 (.inr ⟨hk,hn⟩)
theorem var_cases {u:Unit} {f:Fun} {name:Str} (h:varP u f name):(∃ i,i < f.params.length/\pIdx f name=((i:Nat):Int))\/(¬0<=pIdx f name/\∃ i,i < u.vars.length/\vIdx u name=((i:Nat):Int)):=by
 rcases idx_cases (fun x=>name=x) f.params with ⟨h1,h2⟩ | ⟨i,hi,h1,_⟩
 ·refine .inr ⟨by unfold pIdx;rw[h1];decide,?_⟩
  rcases idx_cases (fun x=>name=x) u.vars with ⟨h3,h4⟩ | ⟨i,hi,h3,_⟩
  ·rcases h with h | h
   ·exact absurd rfl (h2 _ h)
   ·exact absurd rfl (h4 _ h)
  ·exact ⟨i,hi,h3⟩
 ·exact .inl ⟨i,hi,h1⟩
theorem arr_at {u:Unit} {name:Str} (h:arrP u name):∃ i,i < u.arrays.length/\aIdx u name=((i:Nat):Int):=by
 rcases idx_cases (fun a:Arr=>a.name=name) u.arrays with ⟨_,h4⟩ | ⟨i,hi,h3,_⟩
 ·obtain ⟨a,ha,hn⟩:=h
  exact absurd hn (h4 _ ha)
 ·exact ⟨i,hi,h3⟩
end Barb
