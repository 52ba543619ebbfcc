/-
  What a call of a program does, as plain functions. No program in sight.
-/
import Derived.Test.YtijdegmamdhcbaaGreatDoorGi
import Derived.Test.YtijdegmamdhcbaaGreatDoorZf
import Derived.Test.YtijdegmamdhcbaaGreatDoorDjk
import Derived.Test.YtijdegmamdhcbaaGreatDoorGh
import Derived.Test.YtijdegmamdhcbaaGreatDoorZc
namespace Barb
open Go Go.Dm Go.Eng Go.Proofs.YtijdegmamdhcbaaGreatDoor

structure ES where
 fuel:Nat
 told:List Int
 cells:List Cells
structure EL where
 ps:List Int
 back:Bool
 val:Int
structure EC where
 u:Nat
 f:Fun
 deep:Nat
inductive RR (α:Type) where
 | ok (a:α) (s:ES)
 | stop (e:Int) (s:ES)
def RR.bind {α β:Type}:RR α→(α→ES→RR β)→RR β
 | .ok a s,k=>k a s
 | .stop e s,_=>.stop e s
def burnS {α:Type} (s:ES) (k:ES→RR α):RR α:=if s.fuel=0 then .stop 3 s else k { s with fuel:=s.fuel - 1 }
def noC:Cells:=⟨[],[]⟩
def noF:Fun:=⟨[],false,[],[]⟩
noncomputable def pIdx (f:Fun) (name:Str):Int:=idx (fun x=>name=x) f.params
noncomputable def vIdx (u:Unit) (name:Str):Int:=idx (fun x=>name=x) u.vars
noncomputable def aIdx (u:Unit) (name:Str):Int:=idx (fun a:Arr=>a.name=name) u.arrays
def uAt (p:List Unit) (u:Nat):Unit:=p.getD u noU
def cAt (s:ES) (u:Nat):Cells:=s.cells.getD u noC
noncomputable def getV (p:List Unit) (c:EC) (ps:List Int) (s:ES) (name:Str):Int :=
 if 0≤pIdx c.f name then ps.getD (pIdx c.f name).toNat 0 else (cAt s c.u).vars.getD (vIdx (uAt p c.u) name).toNat 0
def Cells.setV (c:Cells) (i:Nat) (n:Int):Cells:=⟨c.vars.set i n,c.arrays⟩
def Cells.setA (c:Cells) (k i:Nat) (n:Int):Cells:=⟨c.vars,c.arrays.set k ((c.arrays.getD k []).set i n)⟩
def ES.setV (s:ES) (u i:Nat) (n:Int):ES:={ s with cells:=s.cells.set u ((cAt s u).setV i n) }
def ES.setA (s:ES) (u k i:Nat) (n:Int):ES:={ s with cells:=s.cells.set u ((cAt s u).setA k i n) }
noncomputable def arrAt (p:List Unit) (c:EC) (s:ES) (name:Str):List Int:=(cAt s c.u).arrays.getD (aIdx (uAt p c.u) name).toNat []
noncomputable def getA (p:List Unit) (c:EC) (s:ES) (name:Str) (at_:Int):RR Int :=
 if ((arrAt p c s name).length:Int)≤at_ then .stop 2 s else .ok ((arrAt p c s name).getD at_.toNat 0) s
noncomputable def putV (p:List Unit) (c:EC) (el:EL) (s:ES) (name:Str) (n:Int):RR EL :=
 if 0≤pIdx c.f name then .ok { el with ps:=el.ps.set (pIdx c.f name).toNat n } s else .ok el (s.setV c.u (vIdx (uAt p c.u) name).toNat n)
noncomputable def putA (p:List Unit) (c:EC) (el:EL) (s:ES) (name:Str) (at_ n:Int):RR EL :=
 if ((arrAt p c s name).length:Int)≤at_ then .stop 2 s else .ok el (s.setA c.u (aIdx (uAt p c.u) name).toNat at_.toNat n)
abbrev EvE:=EC→List Int→Expr→ES→RR Int
abbrev EvS:=EC→Stmt→EL→ES→RR EL
def listF (e:Expr→ES→RR Int):List Expr→ES→RR (List Int)
 | [],s=>.ok [] s
 | x :: l,s=>(e x s).bind fun n s=>(listF e l s).bind fun ns s=>.ok (n :: ns) s
def bodyF (e:Stmt→EL→ES→RR EL):List Stmt→EL→ES→RR EL
 | [],el,s=>.ok el s
 | x :: l,el,s=>if el.back then .ok el s else (e x el s).bind (bodyF e l)
def callF (p:List Unit) (e:EvS) (u:Nat) (f:Nat) (args:List Int) (deep:Nat) (s:ES):RR Int :=
 if 20≤deep then .stop 5 s else (bodyF (e ⟨u,(uAt p u).funcs.getD f noF,deep⟩) ((uAt p u).funcs.getD f noF).body ⟨args,false,0⟩ s).bind fun el s=>.ok el.val s
noncomputable def toU (p:List Unit) (c:EC) (of:Str):Nat:=if of=[] then c.u else (unitIdx p of).toNat
noncomputable def lastF (p:List Unit) (e:EvS) (c:EC) (x:Expr) (l:List Int) (s:ES):RR Int :=
 if x.k=3 then getA p c s x.s (l.getD 0 0) else if x.k=5 then .ok (doI x.n (l.getD 0 0) (l.getD 1 0)) s
 else callF p e (toU p c x.of) (funIdx (uAt p (toU p c x.of)) x.s).toNat l (c.deep+1) s
noncomputable def exprF (p:List Unit) (eE:EvE) (eS:EvS):EvE:=fun c ps x s =>
 burnS s fun s=>if x.k=1 then .ok x.n s else if x.k=2 then .ok (getV p c ps s x.s) s else (listF (eE c ps) x.args s).bind (lastF p eS c x)
def whileF (eE:EvE) (eS:EvS) (c:EC) (x:Stmt):Nat→Int→EL→ES→RR EL
 | 0,_,_,s=>.stop 3 s
 | g+1,n,el,s=>if n=0∨el.back=true then .ok el s else (bodyF (eS c) x.b el s).bind fun el s =>
   if el.back then .ok el s else burnS s fun s=>(eE c el.ps (x.xs.getD 0 noX) s).bind fun n s=>whileF eE eS c x g n el s
noncomputable def stmtF (p:List Unit) (eE:EvE) (eS:EvS) (g:Nat):EvS:=fun c x el s =>
 burnS s fun s=>(eE c el.ps (x.xs.getD 0 noX) s).bind fun n s =>
  if x.k=1 then putV p c el s x.s n
  else if x.k=2 then (eE c el.ps (x.xs.getD 1 noX) s).bind fun v s=>putA p c el s x.s n v
  else if x.k=3 then bodyF (eS c) (if n=0 then x.e else x.b) el s
  else if x.k=4 then whileF eE eS c x (g+1) n el s
  else if x.k=5 then .ok { el with back:=true,val:=n } s
  else if s.told.length=500 then .stop 6 s else .ok el { s with told:=s.told++[n] }
noncomputable def evP (p:List Unit):Nat→EvE × EvS
 | 0=>(fun _ _ _ s=>.stop 3 s,fun _ _ _ s=>.stop 3 s)
 | g+1=>(exprF p (evP p g).1 (evP p g).2,stmtF p (evP p g).1 (evP p g).2 g)
noncomputable def evE (p:List Unit) (g:Nat):EvE:=(evP p g).1
noncomputable def evS (p:List Unit) (g:Nat):EvS:=(evP p g).2
theorem evE_succ (p:List Unit) (g:Nat):evE p (g+1)=exprF p (evE p g) (evS p g):=rfl
theorem evS_succ (p:List Unit) (g:Nat):evS p (g+1)=stmtF p (evE p g) (evS p g) g:=rfl

def wd (n:Int):Prop:=0≤n∧n≤65535
def wds (l:List Int):Prop:=∀ n∈l,wd n
structure SI (p:List Unit) (s:ES):Prop where
 len:s.cells.length=p.length
 ok:cellsOk p s.cells
 told:s.told.length≤500
 toldW:wds s.told
theorem cAt_eq {s:ES} {u:Nat} (h:u < s.cells.length):cAt s u=s.cells[u]:=by unfold cAt;simp[h]
theorem uAt_eq {p:List Unit} {u:Nat} (h:u < p.length):uAt p u=p[u]:=by unfold uAt;simp[h]
theorem SI.cell {p:List Unit} {s:ES} (h:SI p s) {u:Nat} (hu:u < p.length):cellOk (uAt p u) (cAt s u):=by
 rw[cAt_eq (by rw[h.len];exact hu),uAt_eq hu]
 exact h.ok u (by rw[h.len];exact hu) hu
theorem wds_set {l:List Int} (h:wds l) {n:Int} (hn:wd n) (i:Nat):wds (l.set i n):=fun x hx=>by
 rcases List.mem_or_eq_of_mem_set hx with h1 | rfl
 ·exact h x h1
 ·exact hn
theorem wds_getD {l:List Int} (h:wds l) (i:Nat):wd (l.getD i 0):=by
 rw[List.getD_eq_getElem?_getD]
 cases hx:l[i]? with
 | none=>exact ⟨by simp,by simp⟩
 | some x=>exact h x (List.mem_of_getElem? hx)
theorem wordsOk.w {l:List Int} {n:Int} (h:wordsOk l n):wds l:=h.2
theorem SI.set {p:List Unit} {s:ES} (h:SI p s) {u:Nat} {c:Cells} (hc:cellOk (uAt p u) c):SI p { s with cells:=s.cells.set u c }:=by
 refine ⟨by simp[h.len],fun i hi hi'=>?_,h.told,h.toldW⟩
 by_cases e:u=i
 ·subst e
  simp only[List.getElem_set_self]
  rw[uAt_eq hi'] at hc
  exact hc
 ·have hi2:i < s.cells.length:=by simpa using hi
  simp only[List.getElem_set_ne e]
  exact h.ok i hi2 hi'
theorem cellOk.setV {u:Unit} {c:Cells} (h:cellOk u c) (i:Nat) {n:Int} (hn:wd n):cellOk u (c.setV i n) :=
 ⟨⟨⟨by unfold Cells.setV;rw[List.length_set];exact h.1.1.1,wds_set h.1.1.2 hn i⟩,h.1.2⟩,h.2⟩
theorem cellOk.arr {u:Unit} {c:Cells} (h:cellOk u c) {k:Nat} (hk:k < u.arrays.length):wordsOk (c.arrays.getD k []) u.arrays[k].size:=by
 have hk':k < c.arrays.length:=by rw[h.1.2];exact hk
 have:c.arrays.getD k []=c.arrays[k]:=by simp[hk']
 rw[this]
 exact h.2 k hk' hk
theorem cellOk.setA {u:Unit} {c:Cells} (h:cellOk u c) (k i:Nat) {n:Int} (hn:wd n):cellOk u (c.setA k i n):=by
 refine ⟨⟨h.1.1,by unfold Cells.setA;rw[List.length_set];exact h.1.2⟩,fun j hj hj'=>?_⟩
 have hjl:j < c.arrays.length:=by rw[h.1.2];exact hj'
 have hj2:j < (c.arrays.set k ((c.arrays.getD k []).set i n)).length:=hj
 show wordsOk ((c.arrays.set k ((c.arrays.getD k []).set i n))[j]'hj2) _
 rw[List.getElem_set]
 split
 ·rename_i e
  subst e
  have:=h.arr hj'
  exact ⟨by rw[List.length_set];exact this.1,wds_set this.2 hn i⟩
 ·exact h.2 j hjl hj'
theorem SI.setV {p:List Unit} {s:ES} (h:SI p s) {u:Nat} (hu:u < p.length) (i:Nat) {n:Int} (hn:wd n):SI p (s.setV u i n):=h.set ((h.cell hu).setV i hn)
theorem SI.setA {p:List Unit} {s:ES} (h:SI p s) {u:Nat} (hu:u < p.length) (k i:Nat) {n:Int} (hn:wd n):SI p (s.setA u k i n):=h.set ((h.cell hu).setA k i hn)
theorem SI.fuel {p:List Unit} {s:ES} (h:SI p s) (n:Nat):SI p { s with fuel:=n }:=⟨h.len,h.ok,h.told,h.toldW⟩
theorem SI.arr {p:List Unit} {s:ES} (h:SI p s) {u:Nat} (hu:u < p.length) (k:Nat):wds ((cAt s u).arrays.getD k []):=by
 have hc:=h.cell hu
 rw[List.getD_eq_getElem?_getD]
 cases hx:(cAt s u).arrays[k]? with
 | none=>intro x hx;simp at hx
 | some l =>
  obtain ⟨hk,rfl⟩:=List.getElem?_eq_some_iff.1 hx
  exact (hc.2 k hk (by rw[← hc.1.2];exact hk)).2
def RI {α:Type} (p:List Unit) (s:ES) (A:α→Prop):RR α→Prop
 | .ok a s'=>SI p s'∧(s'.fuel≤s.fuel∧s.told <+: s'.told)∧A a
 | .stop e s'=>SI p s'∧(s'.fuel≤s.fuel∧s.told <+: s'.told)∧2≤e∧e≤6
theorem RI.bind {α β:Type} {p:List Unit} {s:ES} {A:α→Prop} {B:β→Prop} {r:RR α} {k:α→ES→RR β} (h:RI p s A r) (hk:∀ a s',SI p s'→s'.fuel≤s.fuel→A a→RI p s' B (k a s')):RI p s B (r.bind k):=by
 cases r with
 | ok a s' =>
  have:=hk a s' h.1 h.2.1.1 h.2.2
  show RI p s B (k a s')
  cases hr:k a s' with
  | ok b s2=>rw[hr] at this;exact ⟨this.1,⟨Nat.le_trans this.2.1.1 h.2.1.1,h.2.1.2.trans this.2.1.2⟩,this.2.2⟩
  | stop e s2=>rw[hr] at this;exact ⟨this.1,⟨Nat.le_trans this.2.1.1 h.2.1.1,h.2.1.2.trans this.2.1.2⟩,this.2.2⟩
 | stop e s'=>exact h
theorem RI.burn {α:Type} {p:List Unit} {s:ES} {A:α→Prop} {k:ES→RR α} (h:SI p s) (hk:SI p { s with fuel:=s.fuel - 1 }→RI p { s with fuel:=s.fuel - 1 } A (k { s with fuel:=s.fuel - 1 })):RI p s A (burnS s k):=by
 unfold burnS
 by_cases h0:s.fuel=0
 ·rw[if_pos h0];exact ⟨h,⟨Nat.le_refl _,List.prefix_refl _⟩,by decide,by decide⟩
 ·rw[if_neg h0]
  have:=hk (h.fuel _)
  cases hr:k { s with fuel:=s.fuel - 1 } with
  | ok b s2=>rw[hr] at this;exact ⟨this.1,⟨Nat.le_trans this.2.1.1 (Nat.sub_le _ _),this.2.1.2⟩,this.2.2⟩
  | stop e s2=>rw[hr] at this;exact ⟨this.1,⟨Nat.le_trans this.2.1.1 (Nat.sub_le _ _),this.2.1.2⟩,this.2.2⟩
theorem RI.ok {α:Type} {p:List Unit} {s:ES} {A:α→Prop} {a:α} (h:SI p s) (ha:A a):RI p s A (.ok a s):=⟨h,⟨Nat.le_refl _,List.prefix_refl _⟩,ha⟩
theorem RI.stop {α:Type} {p:List Unit} {s:ES} {A:α→Prop} {e:Int} (h:SI p s) (h2:2≤e) (h6:e≤6):RI p s A (.stop e s):=⟨h,⟨Nat.le_refl _,List.prefix_refl _⟩,h2,h6⟩
theorem RI.same {α:Type} {p:List Unit} {s s':ES} {A:α→Prop} {a:α} (h:SI p s') (h1:s'.fuel=s.fuel) (h2:s'.told=s.told) (ha:A a):RI p s A (.ok a s'):=⟨h,⟨by omega,by rw[h2];exact List.prefix_refl _⟩,ha⟩

structure PI (p:List Unit):Prop where
 few:p.length≤5
 unit:∀ u∈p,unitE u=0
 sense:∀ u∈p,unitS p u=0
theorem PI.of {p:List Unit} (h:progE p=0):PI p:=by
 obtain ⟨h1,h2,_,h4⟩:=progE_inv h
 exact ⟨h1,h2,h4⟩
theorem uAt_mem {p:List Unit} {u:Nat} (h:u < p.length):uAt p u∈p:=by rw[uAt_eq h];exact List.getElem_mem h
structure CI (p:List Unit) (c:EC):Prop where
 u:c.u < p.length
 f:c.f∈(uAt p c.u).funcs
 deep:c.deep≤19
def ELI (c:EC) (el:EL):Prop:=el.ps.length=c.f.params.length∧wds el.ps∧wd el.val
def XI (p:List Unit) (c:EC) (x:Expr):Prop:=∃ n,exprE n x=0∧exprS p (uAt p c.u) c.f x=0
def SsI (p:List Unit) (c:EC) (l:List Stmt):Prop:=∃ n,stmtsE n l=0∧stmtsS p (uAt p c.u) c.f l=0
def StI (p:List Unit) (c:EC) (x:Stmt):Prop:=∃ n,stmtE1 (stmtsE n) x=0∧stmtS p (uAt p c.u) c.f x=0
theorem XI.inv {p:List Unit} {c:EC} {x:Expr} (h:XI p c x):(1≤x.k∧x.k≤5)∧x.args.length≤4∧exprOk x.k x.n x.of x.s x.args.length∧¬exprBad x.k x.n∧exprS1 p (uAt p c.u) c.f x.k x.of x.s x.args.length=0∧∀ y∈x.args,XI p c y:=by
 obtain ⟨n,h1,h2⟩:=h
 cases n with
 | zero=>cases x;simp[exprE] at h1
 | succ n =>
  obtain ⟨a1,a2,a3,a4,a5⟩:=exprE_inv h1
  obtain ⟨b1,b2⟩:=exprS_inv h2
  exact ⟨a1,a2,a3,a4,b1,fun y hy=>⟨n,a5 y hy,b2 y hy⟩⟩
theorem StI.inv {p:List Unit} {c:EC} {x:Stmt} (h:StI p c x):(1≤x.k∧x.k≤6)∧stmtOk x.k x.s x.xs.length x.b.length x.e.length∧(∀ y∈x.xs,XI p c y)∧SsI p c x.b∧SsI p c x.e∧¬((x.k=1∧¬varP (uAt p c.u) c.f x.s)∨(x.k=2∧¬arrP (uAt p c.u) x.s)):=by
 obtain ⟨n,h1,h2⟩:=h
 obtain ⟨a1,a2,a3,a4,a5⟩:=stmtE_inv h1
 obtain ⟨b1,b2,b3,b4⟩:=stmtS_inv h2
 exact ⟨a1,a2,fun y hy=>⟨12,a3 y hy,b2 y hy⟩,⟨n,a4,b3⟩,⟨n,a5,b4⟩,b1⟩
theorem SsI.all {p:List Unit} {c:EC} {l:List Stmt} (h:SsI p c l):∀ x∈l,StI p c x:=by
 obtain ⟨n,h1,h2⟩:=h
 intro x hx
 rw[stmtsS_first] at h2
 cases n with
 | zero=>simp[stmtsE] at h1
 | succ n=>exact ⟨n,firstE_all (f:=stmtE1 (stmtsE n)) h1 x hx,firstE_all h2 x hx⟩
theorem PI.body {p:List Unit} (h:PI p) {c:EC} (hc:CI p c):SsI p c c.f.body :=
 ⟨12,(funE_inv ((unitE_inv (h.unit _ (uAt_mem hc.u))).2.2.2.2.2.2 _ hc.f)).2.2.2,unitS_inv (h.sense _ (uAt_mem hc.u)) _ hc.f⟩
end Barb
namespace Barb
open Go Go.Dm Go.Eng Go.Proofs.YtijdegmamdhcbaaGreatDoor
theorem did_w {op m n:Nat} (hm:m≤65535) (hn:n≤65535) (h1:1≤op) (h10:op≤10):did op m n≤65535:=by
 have h:op=1∨op=2∨op=3∨op=4∨op=5∨op=6∨op=7∨op=8∨op=9∨op=10:=by omega
 rcases h with rfl | rfl | rfl | rfl | rfl | rfl | rfl | rfl | rfl | rfl
 ·simp only[did];omega
 ·simp only[did];omega
 ·simp only[did];omega
 ·exact did_le (op:=4) hm hn (.inl rfl)
 ·exact did_le (op:=5) hm hn (.inr (.inl rfl))
 ·exact did_le (op:=6) hm hn (.inr (.inr rfl))
 ·simp only[did];split<;>omega
 ·simp only[did];split<;>omega
 ·simp only[did];omega
 ·have:m / 2 ^ (n % 16)≤m:=Nat.div_le_self _ _
  simp only[did];omega
theorem doI_w (op a b:Int):wd (doI op a b):=by
 unfold doI
 by_cases h:op < 1∨10 < op
 ·rw[if_pos h];exact ⟨by decide,by decide⟩
 rw[if_neg h]
 by_cases h2:(0≤a∧a≤65535)∧(0≤b∧b≤65535)
 ·rw[if_pos h2]
  have:=did_w (op:=op.toNat) (m:=a.toNat) (n:=b.toNat) (by omega) (by omega) (by omega) (by omega)
  exact ⟨by omega,by omega⟩
 ·rw[if_neg h2];exact ⟨by decide,by decide⟩
theorem getV_w {p:List Unit} {c:EC} {ps:List Int} {s:ES} (hc:CI p c) (hs:SI p s) (hp:wds ps) (name:Str):wd (getV p c ps s name):=by
 unfold getV
 split
 ·exact wds_getD hp _
 ·exact wds_getD (hs.cell hc.u).1.1.2 _
theorem getA_I {p:List Unit} {c:EC} {s:ES} (hc:CI p c) (hs:SI p s) (name:Str) (n:Int):RI p s wd (getA p c s name n):=by
 unfold getA
 split
 ·exact RI.stop hs (by decide) (by decide)
 ·exact RI.ok hs (wds_getD (hs.arr hc.u _) _)
theorem ELI.set {c:EC} {el:EL} (h:ELI c el) (i:Nat) {n:Int} (hn:wd n):ELI c { el with ps:=el.ps.set i n }:=⟨by simp[h.1],wds_set h.2.1 hn i,h.2.2⟩
theorem putV_I {p:List Unit} {c:EC} {s:ES} {el:EL} (hc:CI p c) (hs:SI p s) (he:ELI c el) (name:Str) {n:Int} (hn:wd n):RI p s (ELI c) (putV p c el s name n):=by
 unfold putV
 split
 ·exact RI.ok hs (he.set _ hn)
 ·exact RI.same (hs.setV hc.u _ hn) rfl rfl he
theorem putA_I {p:List Unit} {c:EC} {s:ES} {el:EL} (hc:CI p c) (hs:SI p s) (he:ELI c el) (name:Str) (at_:Int) {n:Int} (hn:wd n):RI p s (ELI c) (putA p c el s name at_ n):=by
 unfold putA
 split
 ·exact RI.stop hs (by decide) (by decide)
 ·exact RI.same (hs.setA hc.u _ _ hn) rfl rfl he
theorem listF_I {p:List Unit} {e:Expr→ES→RR Int}:∀ (l:List Expr),(∀ x∈l,∀ s,SI p s→RI p s wd (e x s))→∀ s,SI p s→RI p s (fun ns=>ns.length=l.length∧wds ns) (listF e l s)
 | [],_,s,hs=>RI.ok hs ⟨rfl,fun x hx=>by simp at hx⟩
 | x :: l,h,s,hs=>by
  refine (h x List.mem_cons_self s hs).bind fun n s1 h1 _ hn=>(listF_I l (fun y hy=>h y (List.mem_cons_of_mem _ hy)) s1 h1).bind fun ns s2 h2 _ hns=>RI.ok h2 ⟨by simp[hns.1],fun y hy=>?_⟩
  rcases List.mem_cons.1 hy with rfl | hy
  ·exact hn
  ·exact hns.2 y hy
theorem bodyF_I {p:List Unit} {c:EC} {e:Stmt→EL→ES→RR EL}:∀ (l:List Stmt),(∀ x∈l,∀ el s,SI p s→ELI c el→RI p s (ELI c) (e x el s))→∀ el s,SI p s→ELI c el→RI p s (ELI c) (bodyF e l el s)
 | [],_,el,s,hs,he=>RI.ok hs he
 | x :: l,h,el,s,hs,he=>by
  unfold bodyF
  split
  ·exact RI.ok hs he
  ·exact (h x List.mem_cons_self el s hs he).bind fun el1 s1 h1 _ he1=>bodyF_I l (fun y hy=>h y (List.mem_cons_of_mem _ hy)) el1 s1 h1 he1
theorem fn_mem {p:List Unit} {u:Nat} {i:Nat} (hi:i < (uAt p u).funcs.length):(uAt p u).funcs.getD i noF∈(uAt p u).funcs:=by
 rw[show (uAt p u).funcs.getD i noF=(uAt p u).funcs[i] by simp[hi]]
 exact List.getElem_mem hi
theorem callF_I {p:List Unit} (hp:PI p) {e:EvS} (ih:∀ c x el s,CI p c→SI p s→ELI c el→StI p c x→RI p s (ELI c) (e c x el s)) {u i:Nat} (hu:u < p.length) (hi:i < (uAt p u).funcs.length) {args:List Int} (ha:args.length=((uAt p u).funcs.getD i noF).params.length) (hw:wds args) (deep:Nat) {s:ES} (hs:SI p s) :
  RI p s wd (callF p e u i args deep s):=by
 unfold callF
 split
 ·exact RI.stop hs (by decide) (by decide)
 rename_i hd
 have hc:CI p ⟨u,(uAt p u).funcs.getD i noF,deep⟩:=⟨hu,fn_mem hi,by show deep≤19;omega⟩
 exact (bodyF_I _ (fun x hx el s hs he=>ih _ x el s hc hs he ((hp.body hc).all x hx)) _ s hs ⟨ha,hw,(show wd 0 from ⟨by decide,by decide⟩)⟩).bind fun el s1 h1 _ he=>RI.ok h1 he.2.2
theorem XI.ask {p:List Unit} {c:EC} {x:Expr} (hc:CI p c) (h:XI p c x) (hk:x.k=4):toU p c x.of < p.length∧∃ i,funIdx (uAt p (toU p c x.of)) x.s=((i:Nat):Int)∧i < (uAt p (toU p c x.of)).funcs.length∧((uAt p (toU p c x.of)).funcs.getD i noF).params.length=x.args.length∧(x.of≠[]→unitIdx p x.of=((toU p c x.of:Nat):Int)):=by
 have h1:=h.inv.2.2.2.2.1
 unfold exprS1 at h1
 rw[if_neg (by omega),if_pos hk] at h1
 unfold toU
 by_cases ho:x.of=[]
 ·rw[if_pos ho]
  unfold calledE at h1
  rw[if_pos ho] at h1
  obtain ⟨i,hi,e1,e2,_,_⟩:=calledIn_ok h1
  exact ⟨hc.u,i,e1,hi,by rw[show (uAt p c.u).funcs.getD i noF=(uAt p c.u).funcs[i] by simp[hi]];exact e2,fun hne=>absurd ho hne⟩
 ·rw[if_neg ho]
  obtain ⟨j,hj,e1,e2⟩:=calledE_out h1 ho
  obtain ⟨i,hi,f1,f2,_,_⟩:=calledIn_ok e2
  rw[e1,Int.toNat_natCast]
  rw[uAt_eq hj]
  exact ⟨hj,i,f1,hi,by rw[show p[j].funcs.getD i noF=p[j].funcs[i] by simp[hi]];exact f2,fun _=>rfl⟩
theorem lastF_I {p:List Unit} (hp:PI p) {e:EvS} (ih:∀ c x el s,CI p c→SI p s→ELI c el→StI p c x→RI p s (ELI c) (e c x el s)) {c:EC} (hc:CI p c) {x:Expr} (hx:XI p c x) (h1:x.k≠1) (h2:x.k≠2) {l:List Int} (hl:l.length=x.args.length∧wds l) {s:ES} (hs:SI p s):RI p s wd (lastF p e c x l s):=by
 unfold lastF
 split
 ·exact getA_I hc hs _ _
 split
 ·exact RI.ok hs (doI_w _ _ _)
 obtain ⟨a1,i,a2,a3,a4,_⟩:=hx.ask hc (by have:=hx.inv.1;omega)
 rw[a2,Int.toNat_natCast]
 exact callF_I hp ih a1 a3 (hl.1.trans a4.symm) hl.2 _ hs
theorem XI.num {p:List Unit} {c:EC} {x:Expr} (h:XI p c x) (hk:x.k=1):wd x.n:=by
 have:=h.inv.2.2.2.1
 unfold exprBad at this
 exact Classical.byContradiction fun hn=>this (.inl ⟨hk,hn⟩)
theorem exprs_at {l:List Expr} {i:Nat} (hi:i < l.length):l.getD i noX∈l:=by
 rw[show l.getD i noX=l[i] by simp[hi]]
 exact List.getElem_mem hi
theorem StI.one {p:List Unit} {c:EC} {x:Stmt} (h:StI p c x):0 < x.xs.length∧XI p c (x.xs.getD 0 noX):=by
 obtain ⟨h1,h2,h3,_⟩:=h.inv
 have:0 < x.xs.length:=by
  obtain ⟨⟨_,_,a,b⟩,_⟩:=h2
  by_cases h:x.k=2
  ·have:=a h;omega
  ·have:=b h;omega
 exact ⟨this,h3 _ (exprs_at this)⟩
theorem StI.two {p:List Unit} {c:EC} {x:Stmt} (h:StI p c x) (hk:x.k=2):1 < x.xs.length∧XI p c (x.xs.getD 1 noX):=by
 obtain ⟨h1,h2,h3,_⟩:=h.inv
 have:1 < x.xs.length:=by
  obtain ⟨⟨_,_,a,b⟩,_⟩:=h2
  have:=a hk;omega
 exact ⟨this,h3 _ (exprs_at this)⟩
theorem whileF_I {p:List Unit} {eE:EvE} {eS:EvS} {c:EC} {x:Stmt} (iE:∀ ps s,SI p s→wds ps→RI p s wd (eE c ps (x.xs.getD 0 noX) s)) (iB:∀ el s,SI p s→ELI c el→RI p s (ELI c) (bodyF (eS c) x.b el s)):∀ (g:Nat) (n:Int) (el:EL) (s:ES),SI p s→ELI c el→RI p s (ELI c) (whileF eE eS c x g n el s)
 | 0,_,_,_,hs,_=>RI.stop hs (by decide) (by decide)
 | g+1,n,el,s,hs,he=>by
  unfold whileF
  split
  ·exact RI.ok hs he
  refine (iB el s hs he).bind fun el1 s1 h1 _ he1=>?_
  split
  ·exact RI.ok h1 he1
  exact RI.burn h1 fun hb=>(iE _ _ hb he1.2.1).bind fun n1 s2 h2 _ _=>whileF_I iE iB g n1 el1 s2 h2 he1
theorem evP_I {p:List Unit} (hp:PI p):∀ g,(∀ c ps x s,CI p c→SI p s→wds ps→XI p c x→RI p s wd (evE p g c ps x s))∧(∀ c x el s,CI p c→SI p s→ELI c el→StI p c x→RI p s (ELI c) (evS p g c x el s))
 | 0=>⟨fun _ _ _ _ _ hs _ _=>RI.stop hs (by decide) (by decide),fun _ _ _ _ _ hs _ _=>RI.stop hs (by decide) (by decide)⟩
 | g+1=>by
  obtain ⟨iE,iS⟩:=evP_I hp g
  have iB:∀ c l el s,CI p c→SI p s→ELI c el→SsI p c l→RI p s (ELI c) (bodyF (evS p g c) l el s):=fun c l el s hc hs he hl=>bodyF_I l (fun x hx el s hs he=>iS c x el s hc hs he (hl.all x hx)) el s hs he
  refine ⟨fun c ps x s hc hs hps hx=>?_,fun c x el s hc hs he hx=>?_⟩
  ·rw[evE_succ]
   unfold exprF
   refine RI.burn hs fun hb=>?_
   split
   ·rename_i h1;exact RI.ok hb (hx.num h1)
   split
   ·exact RI.ok hb (getV_w hc hb hps _)
   rename_i h1 h2
   exact (listF_I x.args (fun y hy s hs=>iE c ps y s hc hs hps (hx.inv.2.2.2.2.2 y hy)) _ hb).bind fun l s1 hs1 _ hl=>lastF_I hp iS hc hx h1 h2 hl hs1
  ·rw[evS_succ]
   unfold stmtF
   refine RI.burn hs fun hb=>(iE c el.ps _ _ hc hb he.2.1 hx.one.2).bind fun n s1 h1 _ hn=>?_
   split
   ·exact putV_I hc h1 he _ hn
   split
   ·rename_i hk2
    exact (iE c el.ps _ _ hc h1 he.2.1 (hx.two hk2).2).bind fun v s2 h2 _ hv=>putA_I hc h2 he _ _ hv
   split
   ·split
    ·exact iB c _ el s1 hc h1 he hx.inv.2.2.2.2.1
    ·exact iB c _ el s1 hc h1 he hx.inv.2.2.2.1
   split
   ·exact whileF_I (fun ps s hs hw=>iE c ps _ s hc hs hw hx.one.2) (fun el s hs he=>iB c _ el s hc hs he hx.inv.2.2.2.1) _ n el s1 h1 he
   split
   ·exact RI.ok h1 ⟨he.1,he.2.1,hn⟩
   split
   ·exact RI.stop h1 (by decide) (by decide)
   ·rename_i h5
    refine ⟨⟨h1.len,h1.ok,by have:=h1.told;show (s1.told++[n]).length≤500;simp;omega,fun z hz=>?_⟩,⟨Nat.le_refl _,⟨[n],rfl⟩⟩,he⟩
    rcases List.mem_append.1 hz with hz | hz
    ·exact h1.toldW z hz
    ·rw[List.mem_singleton.1 hz];exact hn
theorem XI.var {p:List Unit} {c:EC} {x:Expr} (h:XI p c x) (hk:x.k=2):varP (uAt p c.u) c.f x.s:=by
 have h1:=h.inv.2.2.2.2.1
 unfold exprS1 at h1
 exact Classical.byContradiction fun hn=>by rw[if_pos (.inl ⟨hk,hn⟩)] at h1;omega
theorem XI.arr {p:List Unit} {c:EC} {x:Expr} (h:XI p c x) (hk:x.k=3):arrP (uAt p c.u) x.s:=by
 have h1:=h.inv.2.2.2.2.1
 unfold exprS1 at h1
 exact Classical.byContradiction fun hn=>by rw[if_pos (.inr ⟨hk,hn⟩)] at h1;omega
theorem StI.var {p:List Unit} {c:EC} {x:Stmt} (h:StI p c x) (hk:x.k=1):varP (uAt p c.u) c.f x.s:=Classical.byContradiction fun hn=>h.inv.2.2.2.2.2 (.inl ⟨hk,hn⟩)
theorem StI.arr {p:List Unit} {c:EC} {x:Stmt} (h:StI p c x) (hk:x.k=2):arrP (uAt p c.u) x.s:=Classical.byContradiction fun hn=>h.inv.2.2.2.2.2 (.inr ⟨hk,hn⟩)
theorem var_cases {u:Unit} {f:Fun} {name:Str} (h:varP u f name):(∃ i,i < f.params.length∧pIdx f name=((i:Nat):Int))∨(¬0≤pIdx f name∧∃ i,i < u.vars.length∧vIdx u name=((i:Nat):Int)):=by
 rcases idx_cases (fun x=>name=x) f.params with ⟨h1,h2⟩ | ⟨i,hi,h1,_⟩
 ·refine .inr ⟨by unfold pIdx;rw[h1];decide,?_⟩
  rcases idx_cases (fun x=>name=x) u.vars with ⟨h3,h4⟩ | ⟨i,hi,h3,_⟩
  ·rcases h with h | h
   ·exact absurd rfl (h2 _ h)
   ·exact absurd rfl (h4 _ h)
  ·exact ⟨i,hi,h3⟩
 ·exact .inl ⟨i,hi,h1⟩
theorem arr_at {u:Unit} {name:Str} (h:arrP u name):∃ i,i < u.arrays.length∧aIdx u name=((i:Nat):Int):=by
 rcases idx_cases (fun a:Arr=>a.name=name) u.arrays with ⟨_,h4⟩ | ⟨i,hi,h3,_⟩
 ·obtain ⟨a,ha,hn⟩:=h
  exact absurd hn (h4 _ ha)
 ·exact ⟨i,hi,h3⟩
end Barb
namespace Barb
open Go Go.Dm Go.Eng
theorem iteL {c p q:Prop} [Decidable c] (h:c) (hp:p):if c then p else q:=by rw[if_pos h];exact hp
theorem iteR {c p q:Prop} [Decidable c] (h:¬c) (hp:q):if c then p else q:=by rw[if_neg h];exact hp
structure CN where
 v:Value
 ar:List Value
def rowZ (t:Nat) (l:List Int):Ob0:=.row (l.map intG) t 1
def cellZ (t:Nat) (n:CN) (c:Cells):List (Value × Ob0):=(n.v,rowZ t c.vars) :: List.zipWith (fun v l=>(v,rowZ t l)) n.ar c.arrays
def manyZ (t:Nat):List CN→List Cells→List (Value × Ob0)
 | n :: N,c :: C=>cellZ t n c++manyZ t N C
 | _,_=>[]
def CN.g (n:CN):List GV:=[.raw n.v,.sl 1 (n.ar.map fun a=>[.raw a])]
theorem zip_split {α β γ:Type} (f:α→β→γ):∀ (ys:List α) (bs:List β) (k:Nat) (hk:k < ys.length),k < bs.length→∀ b,List.zipWith f ys (bs.set k b)=List.zipWith f (ys.take k) (bs.take k)++f ys[k] b :: List.zipWith f (ys.drop (k+1)) (bs.drop (k+1))
 | [],_,_,hk,_,_=>by simp at hk
 | _ :: _,[],_,_,hk,_=>by simp at hk
 | a :: ys,b' :: bs,0,_,_,b=>by simp
 | a :: ys,b' :: bs,k+1,hk,hk',b=>by
  simp only[List.set_cons_succ,List.zipWith_cons_cons,List.take_succ_cons,List.cons_append,List.drop_succ_cons,List.getElem_cons_succ]
  rw[zip_split f ys bs k (by simpa using hk) (by simpa using hk') b]
theorem many_split (t:Nat):∀ (N:List CN) (C:List Cells) (u:Nat) (hu:u < N.length),u < C.length→∀ c,manyZ t N (C.set u c)=manyZ t (N.take u) (C.take u)++(cellZ t N[u] c++manyZ t (N.drop (u+1)) (C.drop (u+1)))
 | [],_,_,hu,_,_=>by simp at hu
 | _ :: _,[],_,_,hu,_=>by simp at hu
 | n :: N,c' :: C,0,_,_,c=>by simp[manyZ]
 | n :: N,c' :: C,u+1,hu,hu',c=>by
  simp only[List.set_cons_succ,manyZ,List.take_succ_cons,List.drop_succ_cons,List.getElem_cons_succ,List.append_assoc]
  rw[many_split t N C u (by simpa using hu) (by simpa using hu') c]
structure NI (N:List CN) (C:List Cells):Prop where
 len:N.length=C.length
 ar:∀ i (h:i < N.length) (h':i < C.length),N[i].ar.length=C[i].arrays.length
theorem set_self {α:Type} {l:List α} {u:Nat} (h:u < l.length):l.set u l[u]=l:=by simp
theorem lendV {t:Nat} {N:List CN} {s:ES} (hN:NI N s.cells) {u:Nat} (hu:u < s.cells.length):∃ l1 l2,manyZ t N s.cells=l1++((N[u]'(by rw[hN.len];exact hu)).v,rowZ t (cAt s u).vars) :: l2 ∧
  (((N[u]'(by rw[hN.len];exact hu)).v,rowZ t (cAt s u).vars) :: (l1++l2)).Perm (manyZ t N s.cells)∧∀ i n,(((N[u]'(by rw[hN.len];exact hu)).v,rowZ t ((cAt s u).vars.set i n)) :: (l1++l2)).Perm (manyZ t N (s.setV u i n).cells):=by
 have huN:u < N.length:=by rw[hN.len];exact hu
 have key:=many_split t N s.cells u huN hu
 have e0:manyZ t N s.cells=manyZ t (N.take u) (s.cells.take u)++(cellZ t N[u] (cAt s u)++manyZ t (N.drop (u+1)) (s.cells.drop (u+1))):=by
  have:=key s.cells[u]
  rw[set_self hu] at this
  rw[this,cAt_eq hu]
 have e1:manyZ t N s.cells=manyZ t (N.take u) (s.cells.take u)++(N[u].v,rowZ t (cAt s u).vars) :: (List.zipWith (fun v l=>(v,rowZ t l)) N[u].ar (cAt s u).arrays++manyZ t (N.drop (u+1)) (s.cells.drop (u+1))):=by
  rw[e0];rfl
 refine ⟨_,_,e1,?_,fun i n=>?_⟩
 ·rw[e1];exact List.perm_middle.symm
 ·show List.Perm _ (manyZ t N (s.cells.set u ((cAt s u).setV i n)))
  rw[key]
  exact (List.perm_middle (l₁:=manyZ t (N.take u) (s.cells.take u)) (a:=(N[u].v,rowZ t ((cAt s u).vars.set i n)))).symm
theorem lendA {t:Nat} {N:List CN} {s:ES} (hN:NI N s.cells) {u:Nat} (hu:u < s.cells.length) {k:Nat} (hk:k < (cAt s u).arrays.length) :
  ∃ (v:Value) (l1 l2:List (Value × Ob0)),(N[u]'(by rw[hN.len];exact hu)).ar[k]?=some v∧manyZ t N s.cells=l1++(v,rowZ t ((cAt s u).arrays.getD k [])) :: l2 ∧
  ((v,rowZ t ((cAt s u).arrays.getD k [])) :: (l1++l2)).Perm (manyZ t N s.cells)∧∀ i n,((v,rowZ t (((cAt s u).arrays.getD k []).set i n)) :: (l1++l2)).Perm (manyZ t N (s.setA u k i n).cells):=by
 have huN:u < N.length:=by rw[hN.len];exact hu
 have hka:k < N[u].ar.length:=by rw[hN.ar u huN hu,← cAt_eq hu];exact hk
 have key:=many_split t N s.cells u huN hu
 have zk:=zip_split (fun v l=>(v,rowZ t l)) N[u].ar (cAt s u).arrays k hka hk
 have e0:manyZ t N s.cells=manyZ t (N.take u) (s.cells.take u)++(cellZ t N[u] (cAt s u)++manyZ t (N.drop (u+1)) (s.cells.drop (u+1))):=by
  have:=key s.cells[u]
  rw[set_self hu] at this
  rw[this,cAt_eq hu]
 have eg:(cAt s u).arrays.getD k []=(cAt s u).arrays[k]:=by simp[hk]
 have ez:=zk (cAt s u).arrays[k]
 rw[set_self hk] at ez
 have e1:manyZ t N s.cells=(manyZ t (N.take u) (s.cells.take u)++(N[u].v,rowZ t (cAt s u).vars) :: List.zipWith (fun v l=>(v,rowZ t l)) (N[u].ar.take k) ((cAt s u).arrays.take k))++(N[u].ar[k],rowZ t ((cAt s u).arrays.getD k [])) :: (List.zipWith (fun v l=>(v,rowZ t l)) (N[u].ar.drop (k+1)) ((cAt s u).arrays.drop (k+1))++manyZ t (N.drop (u+1)) (s.cells.drop (u+1))):=by
  rw[e0,eg];unfold cellZ;rw[ez];simp
 refine ⟨_,_,_,List.getElem?_eq_getElem hka,e1,?_,fun i n=>?_⟩
 ·rw[e1];exact List.perm_middle.symm
 ·show List.Perm _ (manyZ t N (s.cells.set u ((cAt s u).setA k i n)))
  rw[key]
  have ez2:=zk (((cAt s u).arrays.getD k []).set i n)
  have:manyZ t (N.take u) (s.cells.take u)++(cellZ t N[u] ((cAt s u).setA k i n)++manyZ t (N.drop (u+1)) (s.cells.drop (u+1)))=(manyZ t (N.take u) (s.cells.take u)++(N[u].v,rowZ t (cAt s u).vars) :: List.zipWith (fun v l=>(v,rowZ t l)) (N[u].ar.take k) ((cAt s u).arrays.take k))++(N[u].ar[k],rowZ t (((cAt s u).arrays.getD k []).set i n)) :: (List.zipWith (fun v l=>(v,rowZ t l)) (N[u].ar.drop (k+1)) ((cAt s u).arrays.drop (k+1))++manyZ t (N.drop (u+1)) (s.cells.drop (u+1))):=by
   unfold cellZ Cells.setA;rw[ez2];simp
  rw[this]
  exact (List.perm_middle (l₁:=_) (a:=(N[u].ar[k],rowZ t (((cAt s u).arrays.getD k []).set i n)))).symm
end Barb
namespace Go.Proofs.YtijdegmamdhcbaaGreatDoor
open Go Go.Dm Go.Eng Go.RowKit Barb
abbrev rC (p:List Barb.Unit) (N:List CN) (k:Nat) (fuel:Nat):List D:=[.g (.sl 4 (p.map Unit.g)),.g (.sl 2 (N.map CN.g)),.row k,.g (.int (fuel:Int))]
abbrev cC (r k:Nat) (c:EC) (el:EL):List D:=[.ptr r 0,.g (.int (c.u:Int)),.g (.str c.f.name),.g (.bool c.f.isOpen),.g (.sl 1 (c.f.params.map strG)),.g (.sl 5 (c.f.body.map Stmt.g)),.row k,.g (.int (c.deep:Int)),.g (.bool el.back),.g (.int el.val)]
abbrev tz (s:ES):List (List GV):=s.told.map intG
abbrev mz (N:List CN) (s:ES):List (Value × Ob0):=manyZ 3 N s.cells
abbrev BH (p:List Barb.Unit) (N:List CN) (fuel:Nat) (told:List Int):Heap:=[.blk (rC p N 1 fuel) 90,.row (told.map intG) 3 1]
abbrev XH (p:List Barb.Unit) (N:List CN) (R:Value) (s:ES) (c:EC) (el:EL):Heap :=
 [.blk (cC 1 3 c el) 147,.blk (rC p N 4 s.fuel) 90,.many (mz N s) [(R,1)],.row (el.ps.map intG) 3 1,.row (tz s) 3 1]
abbrev RH (p:List Barb.Unit) (N:List CN) (R:Value) (s:ES):Heap :=
 [.blk (rC p N 2 s.fuel) 90,.many (mz N s) [(R,0)],.row (tz s) 3 1]
abbrev stopD (e:Int):D:=.iface 124 (.agg [.g (.int e)])
theorem endBH {R':D→Heap→Prop} {env:Dm.Env} {p:List Barb.Unit} {N:List CN} {fuel:Nat} {told:List Int} {h hin:Heap} {d0:D} (d:D) (src:List Src) (hok:srcOk src=true) (hlen:nrOk src (BH p N fuel told)=true)
  (h0:conv h src 4 (env 0)=.ptr 0 0) (hd:conv h src 4 d0=d) (hT:turnH h src=BH p N fuel told) (q:R' d (BH p N fuel told)):ToH [0] hin 1 [] R' h env d0:=by
 refine ⟨src,d,BH p N fuel told,⟨hok,.inl hT,.inl ?_,hlen⟩,rfl,trivial,q⟩
 rw[List.map_cons,List.map_cons,List.map_cons,h0,hd];rfl
theorem burn_fn:fnOk Tryz.prog 93=true:=by kernel_rfl
theorem burn_any (p:List Barb.Unit) (N:List CN) (fuel:Nat) (told:List Int) (hf:fuel≤200000):CTH Tryz.prog gl 93 1 (BH p N fuel told) [.ptr 0 0]
  (fun out=>if fuel=0 then out=.panH (stopD 3) (BH p N 0 told) else out=.ret (.tuple []) (BH p N (fuel - 1) told)):=by
 refine enterH [] hT hF hM Tryz.func93 rfl 16 rfl (by kernel_rfl) [] rfl [.ptr 0 0] rfl (BH p N fuel told) [0] rfl rfl rfl 1 [] trivial _ ?_
 refine ⟨fun h=>?_,fun h=>?_⟩
 ·have h0:fuel=0:=by omega
  subst h0
  exact ⟨rfl,endBH (stopD 3) [.old 0,.old 1] rfl rfl rfl rfl rfl (iteL rfl rfl)⟩
 ·have h0:fuel≠0:=fun e=>h (by omega)
  refine ⟨by unfold I64;omega,?_⟩
  have e:((fuel:Int) - 1)=((fuel - 1:Nat):Int):=by omega
  rw[e]
  exact ⟨rfl,endBH (.tuple []) [.old 0,.old 1] rfl rfl rfl rfl rfl (iteR h0 rfl)⟩
end Go.Proofs.YtijdegmamdhcbaaGreatDoor
namespace Go.Dm
open Go Go.Eng Go.RowKit
section
variable {P:Program} {G:Gl} {n:Nat}
theorem turnLend {K:St→Prop} {env:Env} {h:Heap} {df:List Deferred} {v:Value} (m:Nat) (l1 l2:List (Value × Ob0)) (o:Ob0) {l:List (Value × Ob0)} {ts:List (Value × Nat)} (hm:h[m]?=some (.many l ts)) (hl:l=l1++(v,o) :: l2)
  (k:TurnP G n K ⟨env,h.set m (.many (l1++l2) ((v,h.length) :: ts))++[o.obj],df⟩):TurnP G n K ⟨env,h,df⟩:=by
 obtain ⟨st1,hst,hk⟩:=k
 refine ⟨st1,fun C a w hG hr=>hst C a w hG ?_,hk⟩
 obtain ⟨h1,h2,β,V,h3,h4⟩:=hr
 subst hl
 obtain ⟨q1,q2⟩:=RelD.lend h3 hm
 exact ⟨h1,h2,_,V,q1,fun i=>RepD.mono q2 (Moved.refl _ _) _ _ (h4 i)⟩
theorem turnTag {K:St→Prop} {env:Env} {h:Heap} {df:List Deferred} {v:Value} (s m q:Nat) {l:List (Value × Ob0)} {ts:List (Value × Nat)} {xs:List (List GV)} {e sz:Nat} (hs:env s=.g (.raw v)) (hm:h[m]?=some (.many l ts)) (ht:(v,q)∈ts) (hq:h[q]?=some (.row xs e sz))
  (k:TurnP G n K ⟨env.set s (.row q),h,df⟩):TurnP G n K ⟨env,h,df⟩:=by
 obtain ⟨st1,hst,hk⟩:=k
 refine ⟨st1,fun C a w hG hr=>hst C a w hG ?_,hk⟩
 obtain ⟨h1,h2,β,V,h3,h4⟩:=hr
 refine ⟨h1,h2,β,V,h3,fun i=>?_⟩
 show RepD h β V w (bif Nat.beq i s then .row q else env i) (a.tmps.getD i undef)
 by_cases hi:i=s
 ·subst hi
  rw[Nat.beq_refl]
  have hv:=h4 i
  show RepD h β V w (.row q) _
  rw[show (⟨env,h,df⟩:St).env i=.g (.raw v) from hs] at hv
  simp only[RepD,RepV] at hv
  obtain ⟨o,ho,hb⟩:=(h3.obj m _ hm).2.2 _ ht
  have ho':h[q]?=some o:=ho
  rw[hq] at ho'
  injection ho' with ho'
  subst ho'
  have hb':β q=v:=hb rfl
  simp only[RepD,hq]
  exact hv.1.trans hb'.symm
 ·rw[beq_ne hi]
  exact h4 i
end
end Go.Dm
namespace Go.Proofs.YtijdegmamdhcbaaGreatDoor
open Go Go.Dm Go.Eng Go.RowKit Barb
abbrev LH (p:List Barb.Unit) (N:List CN) (R:Value) (s:ES) (c:EC) (el:EL) (l:List (Value × Ob0)) (v:Value) (xs:List Int):Heap :=
 [.blk (cC 1 3 c el) 147,.blk (rC p N 4 s.fuel) 90,.many l [(v,5),(R,1)],.row (el.ps.map intG) 3 1,.row (tz s) 3 1,.row (xs.map intG) 3 1]
theorem tgX {p:List Barb.Unit} {N:List CN} {R:Value} {s:ES} {c:EC} {el:EL}:tagsN (XH p N R s c el) 2 1 [some R,none]:=⟨List.mem_cons_self,trivial,trivial⟩
theorem tgL {p:List Barb.Unit} {N:List CN} {R:Value} {s:ES} {c:EC} {el:EL} {l:List (Value × Ob0)} {v:Value} {xs:List Int}:tagsN (LH p N R s c el l v xs) 2 1 [some R,none]:=⟨List.mem_cons_of_mem _ List.mem_cons_self,trivial,trivial⟩
theorem variable_fn:fnOk Tryz.prog 95=true:=by kernel_rfl
theorem endSame {R':D→Heap→Prop} {env:Dm.Env} {h hin h':Heap} {nms:List (Option Value)} {d0:D} (d:D) (src:List Src) (hok:srcOk src=true) (hlen:nrOk src h'=true)
  (h0:conv h src 4 (env 0)=.ptr 0 0) (hd:conv h src 4 d0=d∨Like (newN src) 4 (conv h src 4 d0) d) (hT:turnH h src=h') (hb:(isBlk h' 0 && true && tagB h')=true) (hst:stayN hin h' 2 1 nms) (q:R' d h'):ToH [0] hin 2 nms R' h env d0:=by
 refine ⟨src,d,h',⟨hok,.inl hT,.inr ?_,hlen⟩,hb,hst,q⟩
 rw[List.map_cons,List.map_cons,List.map_cons,h0]
 exact ⟨by rcases hd with hd | hd;exact lk hd;exact hd,lk rfl,trivial⟩
theorem stX {p:List Barb.Unit} {N:List CN} {R:Value} {s:ES} {c:EC} {el:EL} {s':ES} {c':EC} {el':EL}:stayN (XH p N R s c el) (XH p N R s' c' el') 2 1 [some R,none] :=
 ⟨List.mem_cons_self,⟨trivial,rfl⟩,trivial,trivial⟩
theorem stL {p:List Barb.Unit} {N:List CN} {R:Value} {s:ES} {c:EC} {el:EL} {l:List (Value × Ob0)} {v:Value} {xs:List Int}:stayN (LH p N R s c el l v xs) (LH p N R s c el l v xs) 2 1 [some R,none] :=
 ⟨List.mem_cons_of_mem _ List.mem_cons_self,⟨trivial,rfl⟩,trivial,trivial⟩
set_option maxRecDepth 20000 in
theorem varPar_any {p:List Barb.Unit} {N:List CN} {R:Value} {s:ES} {c:EC} {el:EL} {name:Str} {i:Nat} (hi:i < el.ps.length) (hx:pIdx c.f name=(i:Int)) (hpl:c.f.params.length≤4) :
  CTH Tryz.prog gl 95 3 (XH p N R s c el) [.ptr 0 0,.g (.str name)] (fun out=>out=.ret (.el 3 i 0) (XH p N R s c el)):=by
 unfold pIdx at hx
 have hI:=strIdx_any c.f.params (by omega) name
 rw[hx] at hI
 refine enterH [] hT hF hM Tryz.func95 rfl 52 rfl (by kernel_rfl) [.tmp 4] rfl [.ptr 0 0,.g (.str name)] rfl (XH p N R s c el) [0] rfl rfl rfl 2 [some R,none] tgX _ ?_
 refine .inl (callIs (.inl rfl) hI ?_)
 refine ⟨fun _=>?_,fun h=>absurd (Int.natCast_nonneg i) h⟩
 refine ⟨i,rfl,by rw[List.length_map];exact hi,?_⟩
 exact ⟨rfl,.inl (endSame (.el 3 i 0) [.old 0,.old 1,.old 2,.old 3,.old 4] rfl rfl rfl (.inl rfl) rfl rfl stX rfl)⟩
theorem lrAt {N:List CN} {u:Nat} (hu:u < N.length):(N.map CN.g)[u]?=some N[u].g:=gm hu
set_option maxRecDepth 20000 in
theorem varVar_any {p:List Barb.Unit} {N:List CN} {R:Value} {s:ES} {c:EC} {el:EL} {name:Str} {l:List (Value × Ob0)} {v:Value} {xs:List Int} {i:Nat} (hi:i < xs.length) (hx:¬0≤pIdx c.f name) (hu:c.u < p.length) (hy:vIdx (uAt p c.u) name=(i:Int)) (hN:c.u < N.length) (hv:N[c.u].v=v) (hpl:c.f.params.length≤4) (hvl:(uAt p c.u).vars.length≤8) :
  CTH Tryz.prog gl 95 3 (LH p N R s c el l v xs) [.ptr 0 0,.g (.str name)] (fun out=>out=.ret (.el 5 i 0) (LH p N R s c el l v xs)):=by
 unfold pIdx at hx
 unfold vIdx at hy
 rw[uAt_eq hu] at hy hvl
 have hI:=strIdx_any p[c.u].vars (by omega) name
 rw[hy] at hI
 refine enterH [] hT hF hM Tryz.func95 rfl 52 rfl (by kernel_rfl) [.tmp 4] rfl [.ptr 0 0,.g (.str name)] rfl (LH p N R s c el l v xs) [0] rfl rfl rfl 2 [some R,none] tgL _ ?_
 refine .inl (callIs (.inl rfl) (strIdx_any c.f.params (by omega) name) ?_)
 refine ⟨fun h=>absurd h hx,fun _=>?_⟩
 refine ⟨none,rfl,?_⟩
 refine ⟨c.u,_,rfl,lrAt hN,?_⟩
 refine ⟨c.u,_,rfl,gm hu,?_⟩
 refine ⟨_,_,.inl rfl,hI,rfl,?_⟩
 refine ⟨2,5,l,[(v,5),(R,1)],xs.map intG,3,i,rfl,by rw[hv];exact List.mem_cons_self,rfl,rfl,by rw[List.length_map];exact hi,?_⟩
 exact ⟨rfl,.inl (endSame (.el 5 i 0) [.old 0,.old 1,.old 2,.old 3,.old 4,.old 5] rfl rfl rfl (.inl rfl) rfl rfl stL rfl)⟩
theorem element_fn2:fnOk Tryz.prog 96=true:=by kernel_rfl
theorem aEq2_any (a:Arr) (s:Str):CT Tryz.prog gl 105 [.agg [.g (.str a.name),.g (.int a.size)],.fp [.str s] 0] (Is (.pb (a.name=s))):=by
 refine enter hT hF hM Tryz.func105 rfl 8 rfl (by kernel_rfl) [.tmp 3] rfl [.agg [.g (.str a.name),.g (.int a.size)],.fp [.str s] 0] rfl _ ?_
 exact ⟨rfl,retP Iff.rfl⟩
theorem idxA2_any (l:List Arr) (hl:l.length≤9223372036854775807) (s:Str):CT Tryz.prog gl 104 [.g (.sl 2 (l.map Arr.g)),.fn 105 [] [.fp [.str s] 0]] (Is (.g (.int (idx (fun a:Arr=>a.name=s) l)))):=by
 have ll:(l.map Arr.g).length=l.length:=by simp
 refine enter hT hF hM Tryz.func104 rfl 19 rfl (by kernel_rfl) [.tmp 4] rfl [.g (.sl 2 (l.map Arr.g)),.fn 105 [] [.fp [.str s] 0]] rfl _ ?_
 refine loopR (ι:=Nat) (fun i=>[(8,.g (.int (i:Int)))]) (fun _=>[]) (fun i=>i≤l.length∧∀ j (hj:j < l.length),j < i→¬l[j].name=s) (fun i=>l.length - i)
  ⟨0,[],⟨rfl,.inl rfl,.inr ⟨lk rfl,trivial⟩,rfl⟩,Nat.zero_le _,alln_0 (q:=fun x:Arr=>x.name=s)⟩ ?_
 intro Rd hRd i ⟨hi,ha⟩
 refine ⟨fun h=>?_,fun h=>?_⟩
 ·have h1:i < l.length:=by omega
  refine ⟨i,_,rfl,gm h1,?_⟩
  refine callIs (.inl rfl) (aEq2_any l[i] s) ?_
  refine ⟨fun h2=>⟨rfl,retI (idx_at (q:=fun x:Arr=>x.name=s) h1 ha h2).symm⟩,fun h2=>⟨_,I64.wrap (by unfold I64;omega),?_⟩⟩
  exact hRd _ _ _ ⟨i+1,[],⟨rfl,.inl rfl,.inr ⟨lk rfl,trivial⟩,rfl⟩,⟨h1,alln_step (q:=fun x:Arr=>x.name=s) h1 ha h2⟩,by omega⟩
 ·exact ⟨rfl,retI (idx_no (alln_end (q:=fun x:Arr=>x.name=s) (by omega) ha)).symm⟩
theorem rawAt {ys:List Value} {k:Nat} {v:Value} (h:ys[k]?=some v):(ys.map fun a=>[GV.raw a])[k]?=some [.raw v]:=by simp[h]
set_option maxRecDepth 20000 in
theorem element_any2 {p:List Barb.Unit} {N:List CN} {R:Value} {s:ES} {c:EC} {el:EL} {name:Str} {n:Int} {l:List (Value × Ob0)} {v:Value} {xs:List Int} {k:Nat} (h0:0≤n) (hn:n≤65535) (hu:c.u < p.length) (hy:aIdx (uAt p c.u) name=(k:Int)) (hN:c.u < N.length) (hv:N[c.u].ar[k]?=some v) (hal:(uAt p c.u).arrays.length≤3) :
  CTH Tryz.prog gl 96 3 (LH p N R s c el l v xs) [.ptr 0 0,.g (.str name),.g (.int n)]
   (fun out=>if (xs.length:Int)≤n then out=.panH (stopD 2) (LH p N R s c el l v xs) else out=.ret (.el 5 n.toNat 0) (LH p N R s c el l v xs)):=by
 unfold aIdx at hy
 rw[uAt_eq hu] at hy hal
 have hI:=idxA2_any p[c.u].arrays (by omega) name
 rw[hy] at hI
 refine enterHJ [3] hT hF hM Tryz.func96 rfl 51 rfl (by kernel_rfl) [.tmp 6] rfl [.ptr 0 0,.g (.str name),.g (.int n)] rfl (LH p N R s c el l v xs) [0] rfl rfl rfl 2 [some R,none] tgL _ ?_
 refine ⟨none,rfl,?_⟩
 refine ⟨c.u,_,rfl,gm hu,?_⟩
 refine ⟨_,_,.inl rfl,hI,rfl,?_⟩
 refine ⟨none,rfl,?_⟩
 refine ⟨c.u,_,rfl,lrAt hN,?_⟩
 refine ⟨k,_,rfl,rawAt hv,?_⟩
 refine turnTag 8 2 5 rfl rfl List.mem_cons_self rfl (turnNo ?_)
 have lx:(xs.map intG).length=xs.length:=List.length_map _
 refine ⟨fun h=>?_,fun h=>?_⟩
 ·refine .inl ?_
  exact ⟨rfl,.inl (endSame (stopD 2) [.old 0,.old 1,.old 2,.old 3,.old 4,.old 5] rfl rfl rfl (.inl rfl) rfl rfl stL (iteL (by omega) rfl))⟩
 ·refine ⟨n.toNat,congrArg (fun z=>D.g (.int z)) (by omega),by omega,?_⟩
  exact ⟨rfl,.inl (endSame (.el 5 n.toNat 0) [.old 0,.old 1,.old 2,.old 3,.old 4,.old 5] rfl rfl rfl (.inl rfl) rfl rfl stL (iteR (by omega) rfl))⟩
end Go.Proofs.YtijdegmamdhcbaaGreatDoor
namespace Barb
open Go Go.Dm Go.Eng
structure NP (N:List CN) (p:List Unit):Prop where
 len:N.length=p.length
 ar:∀ i (h:i < N.length) (h':i < p.length),N[i].ar.length=p[i].arrays.length
theorem NP.ni {N:List CN} {p:List Unit} (h:NP N p) {s:ES} (hs:SI p s):NI N s.cells :=
 ⟨h.len.trans hs.len.symm,fun i hi hi'=>by
  have hp:i < p.length:=by rw[← hs.len];exact hi'
  rw[h.ar i hi hp,(hs.ok i hi' hp).1.2]⟩
theorem listF_cons (e:Expr→ES→RR Int) (x:Expr) (l:List Expr) (s:ES):listF e (x :: l) s=(e x s).bind fun n s=>(listF e l s).bind fun ns s=>.ok (n :: ns) s:=rfl
theorem bind_assoc {α β γ:Type} (r:RR α) (f:α→ES→RR β) (g:β→ES→RR γ):(r.bind f).bind g=r.bind fun a s=>(f a s).bind g:=by cases r<;>rfl
theorem listF_step {e:Expr→ES→RR Int} {l:List Expr} {s0 s:ES} {vs:List Int} (hi:vs.length < l.length) (h:listF e l s0=(listF e (l.drop vs.length) s).bind fun ns s=>.ok (vs++ns) s) :
  (∀ n s',e l[vs.length] s=.ok n s'→listF e l s0=(listF e (l.drop (vs++[n]).length) s').bind fun ns s=>.ok ((vs++[n])++ns) s)∧∀ c s',e l[vs.length] s=.stop c s'→listF e l s0=.stop c s':=by
 rw[List.drop_eq_getElem_cons hi,listF_cons] at h
 refine ⟨fun n s' hn=>?_,fun c s' hn=>?_⟩
 ·rw[hn] at h
  rw[h,List.length_append,List.length_singleton]
  show ((listF e (l.drop (vs.length+1)) s').bind _).bind _=_
  rw[bind_assoc]
  congr 1
  funext ns s
  show RR.ok _ _=RR.ok _ _
  simp
 ·rw[hn] at h;exact h
end Barb
namespace Go.Proofs.YtijdegmamdhcbaaGreatDoor
open Go Go.Dm Go.Eng Go.RowKit Barb
abbrev XHr (p:List Barb.Unit) (N:List CN) (R:Value) (s:ES) (c:EC) (el:EL) (r:Heap):Heap :=
 .blk (cC 1 3 c el) 147 :: .blk (rC p N 4 s.fuel) 90 :: .many (mz N s) [(R,1)] :: .row (el.ps.map intG) 3 1 :: .row (tz s) 3 1 :: r
abbrev XHd (p:List Barb.Unit) (N:List CN) (R:Value) (s:ES) (c:EC) (el:EL) (r:Heap):Heap :=
 .blk (cC 1 (0+(r.length+5)) c el) 147 :: .blk (rC p N (1+(r.length+5)) s.fuel) 90 :: .many (mz N s) [(R,1)] :: .dead :: .dead :: (r++[.row (el.ps.map intG) 3 1,.row (tz s) 3 1])
abbrev XHb (p:List Barb.Unit) (N:List CN) (R:Value) (s:ES) (c:EC) (el:EL) (r:Heap):Heap :=
 .blk (cC 1 3 c el) 147 :: .blk (rC p N (0+(r.length+5)) s.fuel) 90 :: .many (mz N s) [(R,1)] :: .row (el.ps.map intG) 3 1 :: .dead :: (r++[.row (tz s) 3 1])
theorem putO_rest5 (b:Nat) (f:Nat→Nat) (h':Heap):∀ (r:Heap) (q:Nat),putO [.old 0,.old 1,.old 2,.old 3,.old 4] b f h' (q+5) r=r
 | [],_=>rfl
 | x :: r,q=>by
  simp only[putO]
  rw[show q+5+1=q+1+5 from by omega,putO_rest5 b f h' r (q+1)]
  congr 1
theorem putO_rest2 (b:Nat) (f:Nat→Nat) (h':Heap):∀ (r:Heap) (q:Nat),putO [.old 1,.old 4] b f h' (q+5) r=r
 | [],_=>rfl
 | x :: r,q=>by
  simp only[putO]
  rw[show q+5+1=q+1+5 from by omega,putO_rest2 b f h' r (q+1)]
  congr 1
theorem putX (p:List Barb.Unit) (N:List CN) (R:Value) (s s':ES) (c:EC) (el el':EL) (r:Heap):putH (XHr p N R s c el r) [0,1,2,3,4] 3 (XH p N R s' c el')=XHd p N R s' c el' r:=by
 unfold putH
 simp only[List.map_cons,List.map_nil,putO]
 rw[show (0+1+1+1+1+1:Nat)=0+5 from rfl,putO_rest5]
 rfl
theorem putB (p:List Barb.Unit) (N:List CN) (R:Value) (s:ES) (c:EC) (el:EL) (r:Heap) (n:Nat):putH (XHr p N R s c el r) [1,4] 1 (BH p N n s.told)=XHb p N R { s with fuel:=n } c el r:=by
 unfold putH
 simp only[List.map_cons,List.map_nil,putO]
 rw[show (0+1+1+1+1+1:Nat)=0+5 from rfl,putO_rest2]
 rfl
theorem turnX (p:List Barb.Unit) (N:List CN) (R:Value) (s:ES) (c:EC) (el:EL) (r:Heap) (l:List D) (hn:l.map (conv (XHr p N R s c el r) [.old 0,.old 1,.old 2,.old 3,.old 4] 4)=l):TurnTo (XHr p N R s c el r) [.old 0,.old 1,.old 2,.old 3,.old 4] (.ptr 0 0 :: l) (XH p N R s c el) (.ptr 0 0 :: l) :=
 ⟨rfl,.inl rfl,.inl (by rw[List.map_cons,hn];rfl),rfl⟩
theorem callX {g:FuncId} (hg:fnOk Tryz.prog g=true) {l all:List D} {h:Heap} {K Qp:KD} {p:List Barb.Unit} {N:List CN} {R:Value} {s:ES} {c:EC} {el:EL} {Q:Out→Prop} (r:Heap)
  (hct:CTH Tryz.prog gl g 3 (XH p N R s c el) (.ptr 0 0 :: l) Q) (hn:l.map (conv (XHr p N R s c el r) [.old 0,.old 1,.old 2,.old 3,.old 4] 4)=l) (hl:closedσ (XHr p N R s c el r) [0,1,2,3,4] (.ptr 0 0 :: l)=true)
  (hh:h=XHr p N R s c el r) (ha:all=.ptr 0 0 :: l)
  (hQ:∀ out,Q out→(∃ d s' el',out=.ret d (XH p N R s' c el')∧K (rnD (rnI [0,1,2,3,4] 3 (r.length+5)) 4 d) (XHd p N R s' c el' r))∨(∃ e s' el',out=.panH (stopD e) (XH p N R s' c el')∧Qp (stopD e) (XHd p N R s' c el' r))) :
  fnOk Tryz.prog g=true∧(OwnCall Tryz.prog gl g all h K Qp∨SemCall Tryz.prog gl g all h K Qp):=by
 subst hh;subst ha
 refine callO [0,1,2,3,4] hg hl rfl (turnX _ _ _ _ _ _ _ _ hn) hct (fun d' h' hq=>?_) (fun d' h' hq=>?_)
 ·rcases hQ _ hq with ⟨d,s',el',he,hk⟩ | ⟨e,s',el',he,_⟩
  ·injection he with e1 e2;subst e1;subst e2
   rw[putX];exact hk
  ·cases he
 ·rcases hQ _ hq with ⟨d,s',el',he,hk⟩ | ⟨e,s',el',he,hk⟩
  ·cases he
  ·injection he with e1 e2;subst e1;subst e2
   rw[putX];exact hk
theorem callBurn {all:List D} {h:Heap} {K Qp:KD} {p:List Barb.Unit} {N:List CN} {R:Value} {s:ES} {c:EC} {el:EL} (r:Heap) (hf:s.fuel≤200000)
  (hh:h=XHr p N R s c el r) (ha:all=[.ptr 1 0])
  (hno:s.fuel=0→Qp (stopD 3) (XHb p N R s c el r)) (hyes:s.fuel≠0→K (.tuple []) (XHb p N R { s with fuel:=s.fuel - 1 } c el r)) :
  fnOk Tryz.prog 93=true∧(OwnCall Tryz.prog gl 93 all h K Qp∨SemCall Tryz.prog gl 93 all h K Qp):=by
 subst hh;subst ha
 refine callO [1,4] burn_fn rfl rfl ⟨rfl,.inl rfl,.inl rfl,rfl⟩ (burn_any p N s.fuel s.told hf) (fun d' h' hq=>?_) (fun d' h' hq=>?_)
 ·split at hq
  ·cases hq
  ·rename_i h0
   injection hq with e1 e2;subst e1;subst e2
   rw[putB];exact hyes h0
 ·split at hq
  ·rename_i h0
   injection hq with e1 e2;subst e1;subst e2
   have e:(BH p N 0 s.told)=BH p N s.fuel s.told:=by rw[h0]
   rw[e,putB];exact hno h0
  ·cases hq
theorem endXH {R':D→Heap→Prop} {env:Dm.Env} {p:List Barb.Unit} {N:List CN} {R:Value} {s s':ES} {c:EC} {el el':EL} {h:Heap} {l:List (Value × Ob0)} {ps told:List (List GV)} {d0:D} (d:D) (src:List Src) (hok:srcOk src=true) (hlen:nrOk src (XH p N R s' c el')=true)
  (h0:conv h src 4 (env 0)=.ptr 0 0) (hd:conv h src 4 d0=d∨Like (newN src) 4 (conv h src 4 d0) d)
  (hT:turnH h src=[.blk (cC 1 3 c el') 147,.blk (rC p N 4 s'.fuel) 90,.many l [(R,1)],.row ps 3 1,.row told 3 1])
  (e1:ps=el'.ps.map intG) (e2:told=tz s') (e3:l.Perm (mz N s')) (q:R' d (XH p N R s' c el')):ToH [0] (XH p N R s c el) 2 [some R,none] R' h env d0:=by
 subst e1;subst e2
 refine ⟨src,d,XH p N R s' c el',⟨hok,.inr ?_,.inr ?_,hlen⟩,rfl,stX,q⟩
 ·rw[hT]
  exact ⟨⟨rfl,.inl rfl⟩,⟨rfl,.inl rfl⟩,⟨e3,rfl⟩,⟨rfl,rfl,rfl⟩,⟨rfl,rfl,rfl⟩,trivial⟩
 ·rw[List.map_cons,List.map_cons,List.map_cons,h0]
  exact ⟨by rcases hd with hd | hd;exact lk hd;exact hd,lk rfl,trivial⟩
end Go.Proofs.YtijdegmamdhcbaaGreatDoor
namespace Go.Proofs.YtijdegmamdhcbaaGreatDoor
open Go Go.Dm Go.Eng Go.RowKit Barb
def xQ (p:List Barb.Unit) (N:List CN) (R:Value) (c:EC) (el:EL):RR Int→Out→Prop
 | .ok n s',out=>out=.ret (.g (.int n)) (XH p N R s' c el)
 | .stop e s',out=>out=.panH (stopD e) (XH p N R s' c el)
def kQ (p:List Barb.Unit) (N:List CN) (R:Value):RR Int→Out→Prop
 | .ok n s',out=>out=.ret (.g (.int n)) (RH p N R s')
 | .stop e s',out=>out=.panH (stopD e) (RH p N R s')
structure OkS (p:List Barb.Unit) (N:List CN) (g:Nat) (s:ES):Prop where
 si:SI p s
 np:NP N p
 fuel:s.fuel≤g
 g:g≤200000
def EvalC (p:List Barb.Unit) (N:List CN) (R:Value) (g:Nat):Prop:=∀ (c:EC) (el:EL) (s:ES) (x:Barb.Expr),OkS p N g s→CI p c→ELI c el→XI p c x→x.I →
 CTH Tryz.prog gl 94 3 (XH p N R s c el) [.ptr 0 0,.agg x.d] (xQ p N R c el (evE p g c el.ps x s))
def CallC (p:List Barb.Unit) (N:List CN) (R:Value) (g:Nat):Prop:=∀ (u i:Nat) (args:List Int) (deep:Nat) (s:ES),OkS p N g s→u < p.length→i < (uAt p u).funcs.length→args.length=((uAt p u).funcs.getD i noF).params.length→wds args→deep≤20 →
 CTH Tryz.prog gl 54 2 (RH p N R s++[.row (args.map intG) 3 1]) [.ptr 0 0,.g (.int (u:Int)),.g (.int (i:Int)),.row 3,.g (.int (deep:Int))] (kQ p N R (callF p (evS p g) u i args deep s))
theorem expr_fn:fnOk Tryz.prog 94=true:=by kernel_rfl
theorem call_fn:fnOk Tryz.prog 54=true:=by kernel_rfl
theorem xQ_out {p:List Barb.Unit} {N:List CN} {R:Value} {c:EC} {el:EL} {r:RR Int} {out:Out} (h:xQ p N R c el r out):(∃ n s',r=.ok n s'∧out=.ret (.g (.int n)) (XH p N R s' c el))∨∃ e s',r=.stop e s'∧out=.panH (stopD e) (XH p N R s' c el):=by
 cases r with
 | ok n s'=>exact .inl ⟨n,s',rfl,h⟩
 | stop e s'=>exact .inr ⟨e,s',rfl,h⟩
theorem kQ_out {p:List Barb.Unit} {N:List CN} {R:Value} {r:RR Int} {out:Out} (h:kQ p N R r out):(∃ n s',r=.ok n s'∧out=.ret (.g (.int n)) (RH p N R s'))∨∃ e s',r=.stop e s'∧out=.panH (stopD e) (RH p N R s'):=by
 cases r with
 | ok n s'=>exact .inl ⟨n,s',rfl,h⟩
 | stop e s'=>exact .inr ⟨e,s',rfl,h⟩
theorem callE {all:List D} {h:Heap} {K Qp:KD} {p:List Barb.Unit} {N:List CN} {R:Value} {g:Nat} (hE:EvalC p N R g) {s:ES} {c:EC} {el:EL} {x:Barb.Expr} (r:Heap) (hs:OkS p N g s) (hc:CI p c) (he:ELI c el) (hx:XI p c x) (hxI:x.I) (hp:PI p)
  (hh:h=XHr p N R s c el r) (ha:all=[.ptr 0 0,.agg x.d])
  (hgo:∀ n s',evE p g c el.ps x s=.ok n s'→OkS p N g s'→s'.fuel≤s.fuel→wd n→K (.g (.int n)) (XHd p N R s' c el r))
  (hno:∀ e s',evE p g c el.ps x s=.stop e s'→Qp (stopD e) (XHd p N R s' c el r)) :
  fnOk Tryz.prog 94=true∧(OwnCall Tryz.prog gl 94 all h K Qp∨SemCall Tryz.prog gl 94 all h K Qp):=by
 refine callX expr_fn r (hE c el s x hs hc he hx hxI) rfl rfl hh ha (fun out hq=>?_)
 have hI:=(evP_I hp g).1 c el.ps x s hc hs.si he.2.1 hx
 rcases xQ_out hq with ⟨n,s',h1,h2⟩ | ⟨e,s',h1,h2⟩
 ·rw[show evE p g c el.ps x s=.ok n s' from h1] at hI
  exact .inl ⟨_,s',el,h2,hgo n s' h1 ⟨hI.1,hs.np,Nat.le_trans hI.2.1.1 hs.fuel,hs.g⟩ hI.2.1.1 hI.2.2⟩
 ·exact .inr ⟨e,s',el,h2,hno e s' h1⟩
theorem exprF_eq (p:List Barb.Unit) (g:Nat) (c:EC) (ps:List Int) (x:Barb.Expr) (s:ES) (h0:s.fuel≠0):evE p (g+1) c ps x s=if x.k=1 then .ok x.n { s with fuel:=s.fuel - 1 } else if x.k=2 then .ok (getV p c ps { s with fuel:=s.fuel - 1 } x.s) { s with fuel:=s.fuel - 1 } else (listF (evE p g c ps) x.args { s with fuel:=s.fuel - 1 }).bind (lastF p (evS p g) c x):=by
 rw[evE_succ];unfold exprF burnS;rw[if_neg h0]
theorem expr_none (p:List Barb.Unit) (g:Nat) (c:EC) (ps:List Int) (x:Barb.Expr) (s:ES) (h0:s.fuel=0):evE p g c ps x s=.stop 3 s:=by
 cases g with
 | zero=>rfl
 | succ g=>rw[evE_succ];unfold exprF burnS;rw[if_pos h0]
theorem listF_none (e:Barb.Expr→ES→RR Int) (l:List Barb.Expr) (s:ES):listF e l s=(listF e (l.drop 0) s).bind fun ns s=>.ok ([]++ns) s:=by
 rw[List.drop_zero]
 cases listF e l s<;>rfl
theorem getD_at {l:List Int} {i:Nat} (h:i < l.length):l.getD i 0=l[i]:=by simp[h]
structure ArgI (p:List Barb.Unit) (N:List CN) (g:Nat) (c:EC) (ps:List Int) (args:List Barb.Expr) (s1:ES) (z:List Int × ES):Prop where
 le:z.1.length≤args.length
 ok:OkS p N g z.2
 w:wds z.1
 eq:listF (evE p g c ps) args s1=(listF (evE p g c ps) (args.drop z.1.length) z.2).bind fun ns s=>.ok (z.1++ns) s
theorem exG {l:List Barb.Expr} {i:Nat} (h:i < l.length):(l.map Expr.g)[i]?=some [.int l[i].k,.int l[i].n,.str l[i].of,.str l[i].s,.sl 5 (l[i].args.map Expr.g)]:=(gm h).trans (congrArg some (Expr.g_eq _))
set_option maxRecDepth 20000 in
set_option maxHeartbeats 1000000 in
theorem expr_any {p:List Barb.Unit} (hp:PI p) {N:List CN} {R:Value} {g:Nat} (hE:EvalC p N R g) (hC:CallC p N R g):EvalC p N R (g+1):=by
 intro c el s x hs hc he hx hxI
 suffices H:∀ r,evE p (g+1) c el.ps x s=r→CTH Tryz.prog gl 94 3 (XH p N R s c el) [.ptr 0 0,.agg x.d] (xQ p N R c el r) from H _ rfl
 intro r hr
 have hg:=hs.g
 have hf:=hs.fuel
 obtain ⟨i1,i2,i3,i4,i5,i6⟩:=hxI.inv
 refine enterHJ [2,1000006,1000015] hT hF hM Tryz.func94 rfl 114 rfl (by kernel_rfl) [.tmp 4] rfl [.ptr 0 0,.agg x.d] rfl (XH p N R s c el) [0] rfl rfl rfl 2 [some R,none] tgX _ ?_
 refine callBurn [.blk x.d 129] (by omega) rfl rfl (fun h0=>?_) (fun h0=>?_)
 ·rw[expr_none p _ c _ x s h0] at hr
  subst hr
  exact ⟨rfl,.inl (endXH (s':=s) (el':=el) (stopD 3) [.old 0,.old 1,.old 2,.old 3,.old 6] rfl rfl rfl (.inl rfl) rfl rfl rfl (List.Perm.refl _) rfl)⟩
 rw[exprF_eq p g c _ x s h0] at hr
 have hs1:OkS p N g { s with fuel:=s.fuel - 1 }:=⟨hs.si.fuel _,hs.np,by show s.fuel - 1≤g;omega,by omega⟩
 revert hr hs1
 generalize { s with fuel:=s.fuel - 1 }=s1
 intro hr hs1
 refine turnTo [.old 0,.old 1,.old 2,.old 3,.old 6,.old 5] [(0,.ptr 0 0),(3,.ptr 5 0)] (XHr p N R s1 c el [.blk x.d 129]) ⟨rfl,.inl rfl,.inl rfl,rfl⟩ ?_
 have ul:=hp.unit _ (uAt_mem hc.u)
 obtain ⟨_,u1,u2,u3,_⟩:=unitE_inv ul
 have hfp:c.f.params.length≤4:=(funE_inv ((unitE_inv ul).2.2.2.2.2.2 _ hc.f)).2.1
 have hNu:c.u < N.length:=by rw[hs.np.len];exact hc.u
 have huc:c.u < s1.cells.length:=by rw[hs1.si.len];exact hc.u
 have hcell:=hs1.si.cell hc.u
 refine ⟨fun k1=>?_,fun k1=>?_⟩
 ·refine ⟨rfl,.inl (endXH (s':=s1) (el':=el) (.g (.int x.n)) [.old 0,.old 1,.old 2,.old 3,.old 4] rfl rfl rfl (.inl rfl) rfl rfl rfl (List.Perm.refl _) ?_)⟩
  rw[← hr,if_pos k1];rfl
 refine ⟨fun k2=>?_,fun k2=>?_⟩
 ·rw[if_neg k1,if_pos k2] at hr
  rcases var_cases (hx.var k2) with ⟨i,hi,hpi⟩ | ⟨hpi,i,hi,hvi⟩
  ·have hi':i < el.ps.length:=by rw[he.1];exact hi
   refine turnNo ?_
   refine callX variable_fn [.blk x.d 129] (varPar_any hi' hpi hfp) rfl rfl rfl rfl (fun out hq=>.inl ⟨_,s1,el,hq,?_⟩)
   refine ⟨_,gm hi',?_⟩
   refine ⟨rfl,.inl (endXH (s':=s1) (el':=el) (.g (.int el.ps[i])) [.old 0,.old 1,.old 2,.old 6,.old 7] rfl rfl rfl (.inl rfl) rfl rfl rfl (List.Perm.refl _) ?_)⟩
   rw[← hr]
   unfold getV
   rw[if_pos (by omega),hpi]
   show Out.ret _ _=Out.ret (.g (.int (el.ps.getD i 0))) _
   simp[hi']
  ·obtain ⟨l1,l2,e1,e2,_⟩:=lendV (t:=3) (hs.np.ni hs1.si) huc
   have hvl:i < (cAt s1 c.u).vars.length:=by have:=hcell.1.1.1;omega
   refine turnLend 2 l1 l2 (rowZ 3 (cAt s1 c.u).vars) rfl e1 ?_
   refine turnTo [.old 0,.old 1,.old 2,.old 3,.old 4,.old 6,.old 5] [(0,.ptr 0 0),(3,.ptr 6 0)] (LH p N R s1 c el (l1++l2) N[c.u].v (cAt s1 c.u).vars++[.blk x.d 129]) ⟨rfl,.inl rfl,.inl rfl,rfl⟩ ?_
   refine callO [0,1,2,3,4,5] variable_fn rfl rfl ⟨rfl,.inl rfl,.inl rfl,rfl⟩ (varVar_any hvl hpi hc.u hvi hNu rfl hfp u1) (fun d' h' hq=>?_) (fun d' h' hq=>by cases hq)
   injection hq with q1 q2;subst q1;subst q2
   refine ⟨_,gm hvl,?_⟩
   refine ⟨rfl,.inr (ghHide 2 9 N[c.u].v (rowZ 3 (cAt s1 c.u).vars) rfl List.mem_cons_self rfl ⟨rfl,rfl,rfl⟩ (ghNo (endXH (s':=s1) (el':=el) (.g (.int (cAt s1 c.u).vars[i])) [.old 0,.old 1,.old 2,.old 7,.old 8] rfl rfl rfl (.inl rfl) rfl rfl rfl ((List.perm_append_singleton _ _).trans e2) ?_)))⟩
   rw[← hr]
   unfold getV
   rw[if_neg hpi,hvi]
   show Out.ret _ _=Out.ret (.g (.int ((cAt s1 c.u).vars.getD i 0))) _
   simp[hvl]
 rw[if_neg k1,if_neg k2] at hr
 have la:(x.args.map Expr.g).length=x.args.length:=List.length_map _
 refine loopR (ι:=List Int × ES) (fun z=>[(0,.ptr 0 0),(3,.ptr 5 0),(5,.row 6),(33,.g (.int (z.1.length:Int)))]) (fun z=>XHr p N R z.2 c el [.blk x.d 129,.row (z.1.map intG) 3 1]) (ArgI p N g c el.ps x.args s1) (fun z=>x.args.length - z.1.length)
  ⟨([],s1),[.old 0,.old 1,.old 2,.old 3,.old 4,.old 5,.nil 3 1],⟨rfl,.inl rfl,.inr ⟨lk rfl,lk rfl,.inr rfl,lk rfl,trivial⟩,rfl⟩,⟨Nat.zero_le _,hs1,fun _ h=>by simp at h,listF_none _ _ _⟩⟩ ?_
 rintro Rd hRd ⟨vs,sv⟩ ⟨v1,v2,v3,v4⟩
 dsimp only at v1 v2 v3 v4
 have lv:(vs.map intG).length=vs.length:=List.length_map _
 have ev:((vs,sv):List Int × ES).1.length=vs.length:=rfl
 have a4:=hx.inv.2.1
 refine ⟨fun hlt=>?_,fun hlt=>?_⟩
 ·have hi:vs.length < x.args.length:=by omega
  obtain ⟨st1,st2⟩:=listF_step hi v4
  have hxy:=i6 _ (List.getElem_mem hi)
  refine ⟨vs.length,_,rfl,exG hi,?_⟩
  refine .inl ?_
  refine callE hE [.blk x.d 129,.row (vs.map intG) 3 1,.blk x.args[vs.length].d 129] v2 hc he (hx.inv.2.2.2.2.2 _ (List.getElem_mem hi)) hxy hp rfl rfl (fun n s' hn ok' _ wn=>?_) (fun e s' hn=>?_)
  ·refine ⟨[[.int n]],rfl,rfl,⟨rfl,trivial⟩,?_⟩
   refine ⟨⟨by simp only[maxLen,List.length_map,List.length_cons,List.length_nil];omega,by simp only[List.length_map,List.length_cons,List.length_nil];omega⟩,.inl ?_⟩
   refine ⟨_,I64.wrap (by unfold I64;omega),?_⟩
   refine hRd _ _ _ ⟨(vs++[n],s'),[.old 0,.old 1,.old 2,.old 8,.old 9,.old 5,.old 11],⟨rfl,.inr ⟨⟨rfl,.inl rfl⟩,⟨rfl,.inl rfl⟩,⟨List.Perm.refl _,rfl⟩,⟨rfl,rfl,rfl⟩,⟨rfl,rfl,rfl⟩,⟨rfl,.inl rfl⟩,⟨by rw[List.map_append];rfl,rfl,rfl⟩,trivial⟩,.inr ⟨lk rfl,lk rfl,lk rfl,lkI (by simp),trivial⟩,rfl⟩,
    ⟨by simp;omega,ok',fun z hz=>?_,st1 n s' hn⟩,by simp;omega⟩
   rcases List.mem_append.1 hz with hz | hz
   ·exact v3 z hz
   ·rw[List.mem_singleton.1 hz];exact wn
  ·rw[st2 e s' hn] at hr
   refine ⟨rfl,.inl (endXH (s':=s') (el':=el) (stopD e) [.old 0,.old 1,.old 2,.old 8,.old 9] rfl rfl rfl (.inl rfl) rfl rfl rfl (List.Perm.refl _) ?_)⟩
   rw[← hr];rfl
 have hl:vs.length=x.args.length:=by omega
 rw[v4,hl,List.drop_length] at hr
 replace hr:lastF p (evS p g) c x vs sv=r:=by rw[← hr];show _=lastF p (evS p g) c x (vs++[]) sv;rw[List.append_nil]
 unfold lastF at hr
 have huv:c.u < sv.cells.length:=by rw[v2.si.len];exact hc.u
 have hcv:=v2.si.cell hc.u
 refine ⟨fun k3=>?_,fun k3=>?_⟩
 ·rw[if_pos k3] at hr
  have o3:=hx.inv.2.2.1
  rw[k3,exprOk_3] at o3
  obtain ⟨a,ha⟩:∃ a,vs=[a]:=by
   match vs,(hl.trans o3.2.2.1) with
   | [a],_=>exact ⟨a,rfl⟩
  subst ha
  obtain ⟨k,hk,hak⟩:=arr_at (hx.arr k3)
  have hka:k < (cAt sv c.u).arrays.length:=by rw[hcv.1.2];exact hk
  obtain ⟨v,l1,l2,hv,e1,e2,_⟩:=lendA (t:=3) (hs.np.ni v2.si) huv hka
  have hwa:wd a:=v3 a List.mem_cons_self
  refine turnLend 2 l1 l2 (rowZ 3 ((cAt sv c.u).arrays.getD k [])) rfl e1 ?_
  refine turnTo [.old 0,.old 1,.old 2,.old 3,.old 4,.old 7,.old 5,.old 6] [(0,.ptr 0 0),(3,.ptr 6 0),(5,.row 7)] (LH p N R sv c el (l1++l2) v ((cAt sv c.u).arrays.getD k [])++[.blk x.d 129,.row [[.int a]] 3 1]) ⟨rfl,.inl rfl,.inl rfl,rfl⟩ ?_
  refine ⟨some 9999,[6],rfl,?_⟩
  refine ⟨0,rfl,Nat.zero_lt_one,?_⟩
  have hct:=element_any2 (p:=p) (N:=N) (R:=R) (s:=sv) (c:=c) (el:=el) (name:=x.s) (l:=l1++l2) (xs:=(cAt sv c.u).arrays.getD k []) hwa.1 hwa.2 hc.u hak hNu hv u2
  have ear:arrAt p c sv x.s=(cAt sv c.u).arrays.getD k []:=by unfold arrAt;rw[hak];rfl
  unfold getA at hr
  rw[ear] at hr
  refine ⟨_,rfl,?_⟩
  refine callO [0,1,2,3,4,5] element_fn2 rfl rfl ⟨rfl,.inl rfl,.inl rfl,rfl⟩ hct (fun d' h' hq=>?_) (fun d' h' hq=>?_)
  ·by_cases hle:(((cAt sv c.u).arrays.getD k []).length:Int)≤a
   ·rw[if_pos hle] at hq;cases hq
   rw[if_neg hle] at hq
   injection hq with q1 q2;subst q1;subst q2
   have hal:a.toNat < ((cAt sv c.u).arrays.getD k []).length:=by have:=hwa.1;omega
   refine ⟨_,gm hal,?_⟩
   refine ⟨rfl,.inr (ghHide 2 10 v (rowZ 3 ((cAt sv c.u).arrays.getD k [])) rfl List.mem_cons_self rfl ⟨rfl,rfl,rfl⟩ (ghNo (endXH (s':=sv) (el':=el) (.g (.int ((cAt sv c.u).arrays.getD k [])[a.toNat])) [.old 0,.old 1,.old 2,.old 8,.old 9] rfl rfl rfl (.inl rfl) rfl rfl rfl ((List.perm_append_singleton _ _).trans e2) ?_)))⟩
   rw[← hr]
   show xQ p N R c el (if (((cAt sv c.u).arrays.getD k []).length:Int)≤a then _ else _) _
   rw[if_neg hle]
   show Out.ret _ _=Out.ret (.g (.int (((cAt sv c.u).arrays.getD k []).getD a.toNat 0))) _
   rw[getD_at hal]
  ·by_cases hle:(((cAt sv c.u).arrays.getD k []).length:Int)≤a
   ·rw[if_pos hle] at hq
    injection hq with q1 q2;subst q1;subst q2
    refine ⟨rfl,.inr (ghHide 2 10 v (rowZ 3 ((cAt sv c.u).arrays.getD k [])) rfl List.mem_cons_self rfl ⟨rfl,rfl,rfl⟩ (ghNo (endXH (s':=sv) (el':=el) (stopD 2) [.old 0,.old 1,.old 2,.old 8,.old 9] rfl rfl rfl (.inl rfl) rfl rfl rfl ((List.perm_append_singleton _ _).trans e2) ?_)))⟩
    rw[← hr]
    show xQ p N R c el (if (((cAt sv c.u).arrays.getD k []).length:Int)≤a then _ else _) _
    rw[if_pos hle]
    rfl
   ·rw[if_neg hle] at hq;cases hq
 rw[if_neg k3] at hr
 refine ⟨fun k5=>?_,fun k5=>?_⟩
 ·rw[if_pos k5] at hr
  have o5:=hx.inv.2.2.1
  rw[k5,exprOk_5] at o5
  obtain ⟨a,b,hab⟩:∃ a b,vs=[a,b]:=by
   match vs,(hl.trans o5.2.2) with
   | [a,b],_=>exact ⟨a,b,rfl⟩
  subst hab
  refine ⟨none,rfl,?_⟩
  refine ⟨0,rfl,Nat.zero_lt_succ _,?_⟩
  refine ⟨_,rfl,?_⟩
  refine ⟨1,rfl,Nat.one_lt_succ_succ _,?_⟩
  refine ⟨_,rfl,?_⟩
  refine ⟨_,_,.inl rfl,Do_any x.n a b,rfl,?_⟩
  refine ⟨rfl,.inl (endXH (s':=sv) (el':=el) (.g (.int (doI x.n a b))) [.old 0,.old 1,.old 2,.old 3,.old 4] rfl rfl rfl (.inl rfl) rfl rfl rfl (List.Perm.refl _) ?_)⟩
  rw[← hr];rfl
 rw[if_neg k5] at hr
 have k4:x.k=4:=by have:=hx.inv.1;omega
 obtain ⟨t1,fi,t2,t3,t4,t5⟩:=hx.ask hc k4
 rw[t2,Int.toNat_natCast] at hr
 have hcd:=hc.deep
 have hto:=uAt_mem t1
 obtain ⟨_,_,_,w3,_⟩:=unitE_inv (hp.unit _ hto)
 have hF:=NamesFunc_any (uAt p (toU p c x.of)) (by omega) x.s
 rw[t2] at hF
 have hU:x.of≠[]→CT Tryz.prog gl 27 [.g (.sl 4 (p.map Unit.g)),.g (.str x.of)] (Is (.g (.int ((toU p c x.of:Nat):Int)))):=fun ho=>by
  rw[← t5 ho];exact NamesUnit_any p (by have:=hp.few;omega) x.of
 have hu0:x.of=[]→toU p c x.of=c.u:=fun ho=>by unfold toU;rw[if_pos ho]
 have hcc:=hC (toU p c x.of) fi vs (c.deep+1) sv v2 t1 t3 (hl.trans t4.symm) v3 (by omega)
 revert hr hcc hF hU hu0 t1
 generalize toU p c x.of=u' at *
 intro t1 hr hF hU hu0 hcc
 rw[uAt_eq t1] at hF
 refine ⟨fun ho=>?_,fun ho=>?_⟩
 ·refine ⟨none,rfl,?_⟩
  refine ⟨_,_,.inl rfl,hU ho,rfl,?_⟩
  refine ⟨some 9999,[24],rfl,?_⟩
  refine ⟨u',_,rfl,gm t1,?_⟩
  refine ⟨_,_,.inl rfl,hF,rfl,?_⟩
  refine ⟨((c.deep+1:Nat):Int),(I64.wrap (by unfold I64;omega)).trans rfl,?_⟩
  refine callO [1,2,4,6] call_fn rfl rfl ⟨rfl,.inl rfl,.inl rfl,rfl⟩ hcc (fun d' h' hq=>?_) (fun d' h' hq=>?_)
  ·rcases kQ_out hq with ⟨n,s',h1,h2⟩ | ⟨e,s',h1,h2⟩
   ·injection h2 with q1 q2;subst q1;subst q2
    refine ⟨rfl,.inl (endXH (s':=s') (el':=el) (.g (.int n)) [.old 0,.old 1,.old 2,.old 3,.old 7] rfl rfl rfl (.inl rfl) rfl rfl rfl (List.Perm.refl _) ?_)⟩
    rw[← hr,h1];rfl
   ·cases h2
  ·rcases kQ_out hq with ⟨n,s',h1,h2⟩ | ⟨e,s',h1,h2⟩
   ·cases h2
   ·injection h2 with q1 q2;subst q1;subst q2
    refine ⟨rfl,.inl (endXH (s':=s') (el':=el) (stopD e) [.old 0,.old 1,.old 2,.old 3,.old 7] rfl rfl rfl (.inl rfl) rfl rfl rfl (List.Perm.refl _) ?_)⟩
    rw[← hr,h1];rfl
 ·obtain rfl:=hu0 ho
  refine ⟨some 9999,[24],rfl,?_⟩
  refine ⟨c.u,_,rfl,gm t1,?_⟩
  refine ⟨_,_,.inl rfl,hF,rfl,?_⟩
  refine ⟨((c.deep+1:Nat):Int),(I64.wrap (by unfold I64;omega)).trans rfl,?_⟩
  refine callO [1,2,4,6] call_fn rfl rfl ⟨rfl,.inl rfl,.inl rfl,rfl⟩ hcc (fun d' h' hq=>?_) (fun d' h' hq=>?_)
  ·rcases kQ_out hq with ⟨n,s',h1,h2⟩ | ⟨e,s',h1,h2⟩
   ·injection h2 with q1 q2;subst q1;subst q2
    refine ⟨rfl,.inl (endXH (s':=s') (el':=el) (.g (.int n)) [.old 0,.old 1,.old 2,.old 3,.old 7] rfl rfl rfl (.inl rfl) rfl rfl rfl (List.Perm.refl _) ?_)⟩
    rw[← hr,h1];rfl
   ·cases h2
  ·rcases kQ_out hq with ⟨n,s',h1,h2⟩ | ⟨e,s',h1,h2⟩
   ·cases h2
   ·injection h2 with q1 q2;subst q1;subst q2
    refine ⟨rfl,.inl (endXH (s':=s') (el':=el) (stopD e) [.old 0,.old 1,.old 2,.old 3,.old 7] rfl rfl rfl (.inl rfl) rfl rfl rfl (List.Perm.refl _) ?_)⟩
    rw[← hr,h1];rfl
end Go.Proofs.YtijdegmamdhcbaaGreatDoor
namespace Go.Proofs.YtijdegmamdhcbaaGreatDoor
open Go Go.Dm Go.Eng Go.RowKit Barb
def sQ (p:List Barb.Unit) (N:List CN) (R:Value) (c:EC):RR EL→Out→Prop
 | .ok el' s',out=>out=.ret (.tuple []) (XH p N R s' c el')
 | .stop e s',out=>∃ el',out=.panH (stopD e) (XH p N R s' c el')
theorem sQ_out {p:List Barb.Unit} {N:List CN} {R:Value} {c:EC} {r:RR EL} {out:Out} (h:sQ p N R c r out):(∃ el' s',r=.ok el' s'∧out=.ret (.tuple []) (XH p N R s' c el'))∨∃ e s' el',r=.stop e s'∧out=.panH (stopD e) (XH p N R s' c el'):=by
 cases r with
 | ok n s'=>exact .inl ⟨n,s',rfl,h⟩
 | stop e s'=>obtain ⟨el',h⟩:=h;exact .inr ⟨e,s',el',rfl,h⟩
structure SsC (p:List Barb.Unit) (c:EC) (l:List Barb.Stmt):Prop where
 ok:∀ x∈l,StI p c x
 i:∀ x∈l,Barb.Stmt.I x
 len:l.length*96≤140737488351232
def StmtC (p:List Barb.Unit) (N:List CN) (R:Value) (g:Nat):Prop:=∀ (c:EC) (el:EL) (s:ES) (x:Barb.Stmt),OkS p N g s→CI p c→ELI c el→StI p c x→x.I →
 CTH Tryz.prog gl 86 3 (XH p N R s c el) [.ptr 0 0,.agg x.d] (sQ p N R c (evS p g c x el s))
def BodyC (p:List Barb.Unit) (N:List CN) (R:Value) (g:Nat):Prop:=∀ (c:EC) (el:EL) (s:ES) (l:List Barb.Stmt),OkS p N g s→CI p c→ELI c el→SsC p c l →
 CTH Tryz.prog gl 72 3 (XH p N R s c el) [.ptr 0 0,.g (.sl 5 (l.map Stmt.g))] (sQ p N R c (bodyF (evS p g c) l el s))
theorem stmt_fn:fnOk Tryz.prog 86=true:=by kernel_rfl
theorem stmts_fn2:fnOk Tryz.prog 72=true:=by kernel_rfl
theorem callT {all:List D} {h:Heap} {K Qp:KD} {p:List Barb.Unit} {N:List CN} {R:Value} {g:Nat} (hS:StmtC p N R g) {s:ES} {c:EC} {el:EL} {x:Barb.Stmt} (r:Heap) (hs:OkS p N g s) (hc:CI p c) (he:ELI c el) (hx:StI p c x) (hxI:x.I) (hp:PI p)
  (hh:h=XHr p N R s c el r) (ha:all=[.ptr 0 0,.agg x.d])
  (hgo:∀ el' s',evS p g c x el s=.ok el' s'→OkS p N g s'→ELI c el'→K (.tuple []) (XHd p N R s' c el' r))
  (hno:∀ e s' el',evS p g c x el s=.stop e s'→Qp (stopD e) (XHd p N R s' c el' r)) :
  fnOk Tryz.prog 86=true∧(OwnCall Tryz.prog gl 86 all h K Qp∨SemCall Tryz.prog gl 86 all h K Qp):=by
 refine callX stmt_fn r (hS c el s x hs hc he hx hxI) rfl rfl hh ha (fun out hq=>?_)
 have hI:=(evP_I hp g).2 c x el s hc hs.si he hx
 rcases sQ_out hq with ⟨el',s',h1,h2⟩ | ⟨e,s',el',h1,h2⟩
 ·rw[show evS p g c x el s=.ok el' s' from h1] at hI
  exact .inl ⟨_,s',el',h2,hgo el' s' h1 ⟨hI.1,hs.np,Nat.le_trans hI.2.1.1 hs.fuel,hs.g⟩ hI.2.2⟩
 ·exact .inr ⟨e,s',el',h2,hno e s' el' h1⟩
theorem callB {all:List D} {h:Heap} {K Qp:KD} {p:List Barb.Unit} {N:List CN} {R:Value} {g:Nat} (hB:BodyC p N R g) {s:ES} {c:EC} {el:EL} {l:List Barb.Stmt} (r:Heap) (hs:OkS p N g s) (hc:CI p c) (he:ELI c el) (hl:SsC p c l) (hp:PI p)
  (hh:h=XHr p N R s c el r) (ha:all=[.ptr 0 0,.g (.sl 5 (l.map Stmt.g))])
  (hgo:∀ el' s',bodyF (evS p g c) l el s=.ok el' s'→OkS p N g s'→ELI c el'→s'.fuel≤s.fuel→K (.tuple []) (XHd p N R s' c el' r))
  (hno:∀ e s' el',bodyF (evS p g c) l el s=.stop e s'→Qp (stopD e) (XHd p N R s' c el' r)) :
  fnOk Tryz.prog 72=true∧(OwnCall Tryz.prog gl 72 all h K Qp∨SemCall Tryz.prog gl 72 all h K Qp):=by
 refine callX stmts_fn2 r (hB c el s l hs hc he hl) rfl rfl hh ha (fun out hq=>?_)
 have hI:=bodyF_I (p:=p) (c:=c) l (fun x hx el s hs he=>(evP_I hp g).2 c x el s hc hs he (hl.ok x hx)) el s hs.si he
 rcases sQ_out hq with ⟨el',s',h1,h2⟩ | ⟨e,s',el',h1,h2⟩
 ·rw[show bodyF (evS p g c) l el s=.ok el' s' from h1] at hI
  exact .inl ⟨_,s',el',h2,hgo el' s' h1 ⟨hI.1,hs.np,Nat.le_trans hI.2.1.1 hs.fuel,hs.g⟩ hI.2.2 hI.2.1.1⟩
 ·exact .inr ⟨e,s',el',h2,hno e s' el' h1⟩
structure BodI (p:List Barb.Unit) (N:List CN) (g:Nat) (c:EC) (l:List Barb.Stmt) (el0:EL) (s0:ES) (z:Nat × EL × ES):Prop where
 le:z.1≤l.length
 ok:OkS p N g z.2.2
 el:ELI c z.2.1
 eq:bodyF (evS p g c) l el0 s0=bodyF (evS p g c) (l.drop z.1) z.2.1 z.2.2
theorem stG {l:List Barb.Stmt} {i:Nat} (h:i < l.length):(l.map Stmt.g)[i]?=some [.int l[i].k,.str l[i].s,.sl 5 (l[i].xs.map Expr.g),.sl 5 (l[i].b.map Stmt.g),.sl 5 (l[i].e.map Stmt.g)]:=(gm h).trans (congrArg some (Stmt.g_eq _))
theorem bodyF_back (e:Barb.Stmt→EL→ES→RR EL):∀ (l:List Barb.Stmt) (el:EL) (s:ES),el.back=true→bodyF e l el s=.ok el s
 | [],_,_,_=>rfl
 | _ :: _,el,s,h=>by unfold bodyF;rw[if_pos h]
theorem bodyF_at (e:Barb.Stmt→EL→ES→RR EL) {l:List Barb.Stmt} {i:Nat} (hi:i < l.length) (el:EL) (s:ES) (h:el.back=false):bodyF e (l.drop i) el s=(e l[i] el s).bind (bodyF e (l.drop (i+1))):=by
 rw[List.drop_eq_getElem_cons hi]
 show (if el.back=true then _ else _)=_
 rw[if_neg (by rw[h];decide)]
set_option maxRecDepth 20000 in
theorem stmts_any2 {p:List Barb.Unit} (hp:PI p) {N:List CN} {R:Value} {g:Nat} (hS:StmtC p N R g):BodyC p N R g:=by
 intro c el s l hs hc he hl
 suffices H:∀ r,bodyF (evS p g c) l el s=r→CTH Tryz.prog gl 72 3 (XH p N R s c el) [.ptr 0 0,.g (.sl 5 (l.map Stmt.g))] (sQ p N R c r) from H _ rfl
 intro r hr
 have ll:(l.map Stmt.g).length=l.length:=List.length_map _
 refine enterHJ [] hT hF hM Tryz.func72 rfl 20 rfl (by kernel_rfl) [] rfl [.ptr 0 0,.g (.sl 5 (l.map Stmt.g))] rfl (XH p N R s c el) [0] rfl rfl rfl 2 [some R,none] tgX _ ?_
 refine loopR (ι:=Nat × EL × ES) (fun z=>[(0,.ptr 0 0),(8,.g (.int (z.1:Int)))]) (fun z=>XH p N R z.2.2 c z.2.1) (BodI p N g c l el s) (fun z=>l.length - z.1)
  ⟨(0,el,s),[.old 0,.old 1,.old 2,.old 3,.old 4],⟨rfl,.inl rfl,.inr ⟨lk rfl,lk rfl,trivial⟩,rfl⟩,⟨Nat.zero_le _,hs,he,rfl⟩⟩ ?_
 rintro Rd hRd ⟨i,⟨ps1,bk1,val1⟩,s1⟩ ⟨v1,v2,v3,v4⟩
 dsimp only at v1 v2 v3 v4
 have hlen:=hl.len
 refine ⟨fun hlt=>?_,fun hlt=>?_⟩
 ·have hi:i < l.length:=by have h:(i:Int) < ((l.map Stmt.g).length:Int):=hlt;omega
  refine ⟨i,_,rfl,stG hi,?_⟩
  refine .inl ?_
  cases bk1 with
  | true =>
   refine ⟨rfl,.inl (endXH (s':=s1) (el':=⟨ps1,true,val1⟩) (.tuple []) [.old 0,.old 1,.old 2,.old 3,.old 4] rfl rfl rfl (.inl rfl) rfl rfl rfl (List.Perm.refl _) ?_)⟩
   rw[← hr,v4,bodyF_back _ _ _ _ rfl];rfl
  | false =>
  rw[bodyF_at _ hi _ _ rfl] at v4
  refine callT hS [.blk l[i].d 132] v2 hc v3 (hl.ok _ (List.getElem_mem hi)) (hl.i _ (List.getElem_mem hi)) hp rfl rfl (fun el2 s2 h2 ok2 e2=>?_) (fun e s2 el2 h2=>?_)
  ·rw[h2] at v4
   refine ⟨_,I64.wrap (by unfold I64;omega),?_⟩
   exact hRd _ _ _ ⟨(i+1,el2,s2),[.old 0,.old 1,.old 2,.old 6,.old 7],⟨rfl,.inl rfl,.inr ⟨lk rfl,lk rfl,trivial⟩,rfl⟩,⟨hi,ok2,e2,v4⟩,by show l.length - (i+1) < l.length - i;omega⟩
  ·rw[h2] at v4
   refine ⟨rfl,.inl (endXH (s':=s2) (el':=el2) (stopD e) [.old 0,.old 1,.old 2,.old 6,.old 7] rfl rfl rfl (.inl rfl) rfl rfl rfl (List.Perm.refl _) ?_)⟩
   rw[← hr,v4];exact ⟨el2,rfl⟩
 ·have hi:i=l.length:=by have h:¬(i:Int) < ((l.map Stmt.g).length:Int):=hlt;omega
  refine ⟨rfl,.inl (endXH (s':=s1) (el':=⟨ps1,bk1,val1⟩) (.tuple []) [.old 0,.old 1,.old 2,.old 3,.old 4] rfl rfl rfl (.inl rfl) rfl rfl rfl (List.Perm.refl _) ?_)⟩
  rw[← hr,v4,hi,List.drop_length];rfl
theorem tgR {p:List Barb.Unit} {N:List CN} {R:Value} {s:ES} {x:Dm.Obj}:tagsN (RH p N R s++[x]) 1 1 [none]:=⟨trivial,trivial⟩
theorem endRH {R':D→Heap→Prop} {env:Dm.Env} {p:List Barb.Unit} {N:List CN} {R:Value} {s s':ES} {x:Dm.Obj} {h:Heap} {l:List (Value × Ob0)} {told:List (List GV)} {d0:D} (d:D) (src:List Src) (hok:srcOk src=true) (hlen:nrOk src (RH p N R s')=true)
  (h0:conv h src 4 (env 0)=.ptr 0 0) (hd:conv h src 4 d0=d)
  (hT:turnH h src=[.blk (rC p N 2 s'.fuel) 90,.many l [(R,0)],.row told 3 1])
  (e2:told=tz s') (e3:l.Perm (mz N s')) (q:R' d (RH p N R s')):ToH [0] (RH p N R s++[x]) 1 [none] R' h env d0:=by
 subst e2
 refine ⟨src,d,RH p N R s',⟨hok,.inr ?_,.inl ?_,hlen⟩,rfl,⟨trivial,trivial⟩,q⟩
 ·rw[hT]
  exact ⟨⟨rfl,.inl rfl⟩,⟨e3,rfl⟩,⟨rfl,rfl,rfl⟩,trivial⟩
 ·rw[List.map_cons,List.map_cons,List.map_cons,h0,hd];rfl
theorem fnG {l:List Fun} {i:Nat} (h:i < l.length):(l.map Fun.g)[i]?=some [.str l[i].name,.bool l[i].isOpen,.sl 1 (l[i].params.map strG),.sl 5 (l[i].body.map Stmt.g)]:=(gm h).trans (congrArg some (Fun.g_eq _))
set_option maxRecDepth 20000 in
theorem call_any {p:List Barb.Unit} (hp:PI p) (hpI:progI p) {N:List CN} {R:Value} {g:Nat} (hB:BodyC p N R g):CallC p N R g:=by
 intro u i args deep s hs hu hi ha hw hd
 obtain ⟨f,hf⟩:∃ f,f=(uAt p u).funcs.getD i noF:=⟨_,rfl⟩
 have hfm:f∈(uAt p u).funcs:=hf▸fn_mem hi
 have hfa:(uAt p u).funcs[i]=f:=by rw[hf];simp[hi]
 rw[← hf] at ha
 suffices H:∀ r,callF p (evS p g) u i args deep s=r→CTH Tryz.prog gl 54 2 (RH p N R s++[.row (args.map intG) 3 1]) [.ptr 0 0,.g (.int (u:Int)),.g (.int (i:Int)),.row 3,.g (.int (deep:Int))] (kQ p N R r) from H _ rfl
 intro r hr
 unfold callF at hr
 rw[← hf] at hr
 have hgm:(p.map Unit.g)[u]?=some [.str (uAt p u).name,.sl 1 ((uAt p u).vars.map strG),.sl 2 ((uAt p u).arrays.map Arr.g),.sl 4 ((uAt p u).funcs.map Fun.g)]:=by rw[uAt_eq hu];exact gm hu
 have hgf:((uAt p u).funcs.map Fun.g)[i]?=some [.str f.name,.bool f.isOpen,.sl 1 (f.params.map strG),.sl 5 (f.body.map Stmt.g)]:=by rw[← hfa];exact fnG hi
 refine enterH [] hT hF hM Tryz.func54 rfl 44 rfl (by kernel_rfl) [.tmp 10] rfl [.ptr 0 0,.g (.int (u:Int)),.g (.int (i:Int)),.row 3,.g (.int (deep:Int))] rfl ((RH p N R s++[.row (args.map intG) 3 1])) [0] rfl rfl rfl 1 [none] tgR _ ?_
 refine ⟨fun h20=>?_,fun h20=>?_⟩
 ·refine .inl ?_
  refine ⟨rfl,.inl (endRH (s':=s) (stopD 5) [.old 0,.old 1,.old 2] rfl rfl rfl rfl rfl rfl (List.Perm.refl _) ?_)⟩
  rw[← hr,if_pos (by omega)];rfl
 have hd19:deep≤19:=by omega
 rw[if_neg (by omega)] at hr
 have hc:CI p ⟨u,f,deep⟩:=⟨hu,hfm,hd19⟩
 have he:ELI ⟨u,f,deep⟩ ⟨args,false,0⟩:=⟨ha,hw,(show wd 0 from ⟨by decide,by decide⟩)⟩
 have hsc:SsC p ⟨u,f,deep⟩ f.body:=by
  obtain ⟨_,_,_,_,hI,_⟩:=hpI.1 _ (uAt_mem hu)
  obtain ⟨_,_,a1,a2⟩:=hI _ hfm
  exact ⟨(hp.body hc).all,a2,a1⟩
 refine ⟨u,_,rfl,hgm,?_⟩
 refine ⟨i,_,rfl,hgf,?_⟩
 refine .inl ?_
 refine callO [4,0,1,3,2] stmts_fn2 rfl rfl ⟨rfl,.inl rfl,.inl rfl,rfl⟩ (hB ⟨u,f,deep⟩ ⟨args,false,0⟩ s f.body hs hc he hsc) (fun d' h' hq=>?_) (fun d' h' hq=>?_)
 ·rcases sQ_out hq with ⟨el',s',h1,h2⟩ | ⟨e,s',el',h1,h2⟩
  ·injection h2 with q1 q2;subst q1;subst q2
   refine ⟨rfl,.inl (endRH (s':=s') (.g (.int el'.val)) [.old 0,.old 1,.old 6] rfl rfl rfl rfl rfl rfl (List.Perm.refl _) ?_)⟩
   rw[← hr,h1];rfl
  ·cases h2
 ·rcases sQ_out hq with ⟨el',s',h1,h2⟩ | ⟨e,s',el',h1,h2⟩
  ·cases h2
  ·injection h2 with q1 q2;subst q1;subst q2
   refine ⟨rfl,.inl (endRH (s':=s') (stopD e) [.old 0,.old 1,.old 6] rfl rfl rfl rfl rfl rfl (List.Perm.refl _) ?_)⟩
   rw[← hr,h1];rfl
end Go.Proofs.YtijdegmamdhcbaaGreatDoor
namespace Go.Proofs.YtijdegmamdhcbaaGreatDoor
open Go Go.Dm Go.Eng Go.RowKit Barb
theorem stmtF_eq (p:List Barb.Unit) (g:Nat) (c:EC) (x:Barb.Stmt) (el:EL) (s:ES) (h0:s.fuel≠0):evS p (g+1) c x el s=(evE p g c el.ps (x.xs.getD 0 noX) { s with fuel:=s.fuel - 1 }).bind fun n s =>
  if x.k=1 then putV p c el s x.s n
  else if x.k=2 then (evE p g c el.ps (x.xs.getD 1 noX) s).bind fun v s=>putA p c el s x.s n v
  else if x.k=3 then bodyF (evS p g c) (if n=0 then x.e else x.b) el s
  else if x.k=4 then whileF (evE p g) (evS p g) c x (g+1) n el s
  else if x.k=5 then .ok { el with back:=true,val:=n } s
  else if s.told.length=500 then .stop 6 s else .ok el { s with told:=s.told++[n] }:=by
 rw[evS_succ];unfold stmtF burnS;rw[if_neg h0]
theorem stmt_none (p:List Barb.Unit) (g:Nat) (c:EC) (x:Barb.Stmt) (el:EL) (s:ES) (h0:s.fuel=0):evS p g c x el s=.stop 3 s:=by
 cases g with
 | zero=>rfl
 | succ g=>rw[evS_succ];unfold stmtF burnS;rw[if_pos h0]
structure WhI (p:List Barb.Unit) (N:List CN) (g:Nat) (c:EC) (x:Barb.Stmt) (r:RR EL) (z:Nat × Int × EL × ES):Prop where
 ok:OkS p N g z.2.2.2
 el:ELI c z.2.2.1
 w:wd z.2.1
 eq:(z.2.2.1.back=true∧r=.ok z.2.2.1 z.2.2.2)∨(z.2.2.1.back=false∧z.2.2.2.fuel < z.1∧whileF (evE p g) (evS p g) c x z.1 z.2.1 z.2.2.1 z.2.2.2=r)
set_option maxRecDepth 20000 in
set_option maxHeartbeats 1000000 in
theorem stmt_any {p:List Barb.Unit} (hp:PI p) {N:List CN} {R:Value} {g:Nat} (hE:EvalC p N R g) (hB:BodyC p N R g):StmtC p N R (g+1):=by
 intro c el s x hs hc he hx hxI
 suffices H:∀ r,evS p (g+1) c x el s=r→CTH Tryz.prog gl 86 3 (XH p N R s c el) [.ptr 0 0,.agg x.d] (sQ p N R c r) from H _ rfl
 intro r hr
 have hg:=hs.g
 have hf:=hs.fuel
 obtain ⟨i1,i2,i3,i4,i5,i6,i7,i8⟩:=hxI.inv
 obtain ⟨hx0,hX0⟩:=hx.one
 have hinv:=hx.inv
 refine enterHJ [2,3,1000008,11,19,21] hT hF hM Tryz.func86 rfl 121 rfl (by kernel_rfl) [] rfl [.ptr 0 0,.agg x.d] rfl (XH p N R s c el) [0] rfl rfl rfl 2 [some R,none] tgX _ ?_
 refine callBurn [.blk x.d 132] (by omega) rfl rfl (fun h0=>?_) (fun h0=>?_)
 ·rw[stmt_none p _ c x _ s h0] at hr
  subst hr
  exact ⟨rfl,.inl (endXH (s':=s) (el':=el) (stopD 3) [.old 0,.old 1,.old 2,.old 3,.old 6] rfl rfl rfl (.inl rfl) rfl rfl rfl (List.Perm.refl _) ⟨el,rfl⟩)⟩
 rw[stmtF_eq p g c x _ s h0] at hr
 have hs1:OkS p N g { s with fuel:=s.fuel - 1 }:=⟨hs.si.fuel _,hs.np,by show s.fuel - 1≤g;omega,by omega⟩
 revert hr hs1
 generalize { s with fuel:=s.fuel - 1 }=s1
 intro hr hs1
 refine turnTo [.old 0,.old 1,.old 2,.old 3,.old 6,.old 5] [(0,.ptr 0 0),(3,.ptr 5 0)] (XHr p N R s1 c el [.blk x.d 132]) ⟨rfl,.inl rfl,.inl rfl,rfl⟩ ?_
 have ul:=hp.unit _ (uAt_mem hc.u)
 obtain ⟨_,u1,u2,u3,_⟩:=unitE_inv ul
 have hfp:c.f.params.length≤4:=(funE_inv ((unitE_inv ul).2.2.2.2.2.2 _ hc.f)).2.1
 have hNu:c.u < N.length:=by rw[hs.np.len];exact hc.u
 have ex0:x.xs.getD 0 noX=x.xs[0]:=by simp[hx0]
 rw[ex0] at hr hX0
 refine ⟨0,_,rfl,exG hx0,?_⟩
 refine callE hE [.blk x.d 132] hs1 hc he hX0 (i6 _ (List.getElem_mem hx0)) hp rfl rfl (fun n s2 hn hs2 _ wn=>?_) (fun e s2 hn=>?_)
 rotate_left
 ·rw[hn] at hr
  refine ⟨rfl,.inl (endXH (s':=s2) (el':=el) (stopD e) [.old 0,.old 1,.old 2,.old 6,.old 7] rfl rfl rfl (.inl rfl) rfl rfl rfl (List.Perm.refl _) ?_)⟩
  rw[← hr];exact ⟨el,rfl⟩
 rw[hn] at hr
 replace hr:(if x.k=1 then putV p c el s2 x.s n
  else if x.k=2 then (evE p g c el.ps (x.xs.getD 1 noX) s2).bind fun v s=>putA p c el s x.s n v
  else if x.k=3 then bodyF (evS p g c) (if n=0 then x.e else x.b) el s2
  else if x.k=4 then whileF (evE p g) (evS p g) c x (g+1) n el s2
  else if x.k=5 then .ok { el with back:=true,val:=n } s2
  else if s2.told.length=500 then .stop 6 s2 else .ok el { s2 with told:=s2.told++[n] })=r:=hr
 refine turnTo [.old 0,.old 1,.old 2,.old 6,.old 7,.old 5] [(0,.ptr 0 0),(3,.ptr 5 0),(4,.g (.int n))] (XHr p N R s2 c el [.blk x.d 132]) ⟨rfl,.inl rfl,.inl rfl,rfl⟩ ?_
 have hu2:c.u < s2.cells.length:=by rw[hs2.si.len];exact hc.u
 have hcell:=hs2.si.cell hc.u
 refine ⟨fun k1=>?_,fun k1=>?_⟩
 ·rw[if_pos k1] at hr
  rcases var_cases (hx.var k1) with ⟨i,hi,hpi⟩ | ⟨hpi,i,hi,hvi⟩
  ·have hi':i < el.ps.length:=by rw[he.1];exact hi
   refine turnNo ?_
   refine callX variable_fn [.blk x.d 132] (varPar_any hi' hpi hfp) rfl rfl rfl rfl (fun out hq=>.inl ⟨_,s2,el,hq,?_⟩)
   refine ⟨_,[.int n],gm hi',⟨rfl,trivial⟩,Nat.le_refl 1,(fun h=>by cases h),.inl ?_⟩
   refine ⟨rfl,.inl (endXH (s':=s2) (el':={ el with ps:=el.ps.set i n }) (.tuple []) [.old 0,.old 1,.old 2,.old 6,.old 7] rfl rfl rfl (.inl rfl) rfl (by rw[List.map_set];rfl) rfl (List.Perm.refl _) ?_)⟩
   rw[← hr]
   unfold putV
   rw[if_pos (by omega),hpi]
   rfl
  ·obtain ⟨l1,l2,e1,_,e3⟩:=lendV (t:=3) (hs.np.ni hs2.si) hu2
   have hvl:i < (cAt s2 c.u).vars.length:=by have:=hcell.1.1.1;omega
   refine turnLend 2 l1 l2 (rowZ 3 (cAt s2 c.u).vars) rfl e1 ?_
   refine turnTo [.old 0,.old 1,.old 2,.old 3,.old 4,.old 6,.old 5] [(0,.ptr 0 0),(3,.ptr 6 0),(4,.g (.int n))] (LH p N R s2 c el (l1++l2) N[c.u].v (cAt s2 c.u).vars++[.blk x.d 132]) ⟨rfl,.inl rfl,.inl rfl,rfl⟩ ?_
   refine callO [0,1,2,3,4,5] variable_fn rfl rfl ⟨rfl,.inl rfl,.inl rfl,rfl⟩ (varVar_any hvl hpi hc.u hvi hNu rfl hfp u1) (fun d' h' hq=>?_) (fun d' h' hq=>by cases hq)
   injection hq with q1 q2;subst q1;subst q2
   refine ⟨_,[.int n],gm hvl,⟨rfl,trivial⟩,Nat.le_refl 1,(fun h=>by cases h),.inl ?_⟩
   refine ⟨rfl,.inr (ghHide 2 9 N[c.u].v (rowZ 3 ((cAt s2 c.u).vars.set i n)) rfl List.mem_cons_self rfl ⟨by rw[List.map_set];rfl,rfl,rfl⟩ (ghNo (endXH (s':=s2.setV c.u i n) (el':=el) (.tuple []) [.old 0,.old 1,.old 2,.old 7,.old 8] rfl rfl rfl (.inl rfl) rfl rfl rfl ((List.perm_append_singleton _ _).trans (e3 i n)) ?_)))⟩
   rw[← hr]
   unfold putV
   rw[if_neg hpi,hvi]
   rfl
 rw[if_neg k1] at hr
 refine ⟨fun k2=>?_,fun k2=>?_⟩
 ·rw[if_pos k2] at hr
  obtain ⟨hx1,hX1⟩:=hx.two k2
  have ex1:x.xs.getD 1 noX=x.xs[1]:=by simp[hx1]
  rw[ex1] at hr hX1
  refine ⟨1,_,rfl,exG hx1,?_⟩
  refine callE hE [.blk x.d 132] hs2 hc he hX1 (i6 _ (List.getElem_mem hx1)) hp rfl rfl (fun v s3 hv hs3 _ wv=>?_) (fun e s3 hv=>?_)
  rotate_left
  ·rw[hv] at hr
   refine ⟨rfl,.inl (endXH (s':=s3) (el':=el) (stopD e) [.old 0,.old 1,.old 2,.old 6,.old 7] rfl rfl rfl (.inl rfl) rfl rfl rfl (List.Perm.refl _) ?_)⟩
   rw[← hr];exact ⟨el,rfl⟩
  rw[hv] at hr
  replace hr:putA p c el s3 x.s n v=r:=hr
  have hu3:c.u < s3.cells.length:=by rw[hs3.si.len];exact hc.u
  have hc3:=hs3.si.cell hc.u
  obtain ⟨k,hk,hak⟩:=arr_at (hx.arr k2)
  have hka:k < (cAt s3 c.u).arrays.length:=by rw[hc3.1.2];exact hk
  obtain ⟨z,l1,l2,hz,e1,e2,e3⟩:=lendA (t:=3) (hs.np.ni hs3.si) hu3 hka
  refine turnLend 2 l1 l2 (rowZ 3 ((cAt s3 c.u).arrays.getD k [])) rfl e1 ?_
  refine turnTo [.old 0,.old 1,.old 2,.old 6,.old 7,.old 8,.old 5] [(0,.ptr 0 0),(3,.ptr 6 0),(4,.g (.int n)),(5,.g (.int v))] (LH p N R s3 c el (l1++l2) z ((cAt s3 c.u).arrays.getD k [])++[.blk x.d 132]) ⟨rfl,.inl rfl,.inl rfl,rfl⟩ ?_
  have hct:=element_any2 (p:=p) (N:=N) (R:=R) (s:=s3) (c:=c) (el:=el) (name:=x.s) (l:=l1++l2) (xs:=(cAt s3 c.u).arrays.getD k []) wn.1 wn.2 hc.u hak hNu hz u2
  have ear:arrAt p c s3 x.s=(cAt s3 c.u).arrays.getD k []:=by unfold arrAt;rw[hak];rfl
  unfold putA at hr
  rw[ear,hak,Int.toNat_natCast] at hr
  refine callO [0,1,2,3,4,5] element_fn2 rfl rfl ⟨rfl,.inl rfl,.inl rfl,rfl⟩ hct (fun d' h' hq=>?_) (fun d' h' hq=>?_)
  ·by_cases hle:(((cAt s3 c.u).arrays.getD k []).length:Int)≤n
   ·rw[if_pos hle] at hq;cases hq
   rw[if_neg hle] at hq hr
   injection hq with q1 q2;subst q1;subst q2
   have hal:n.toNat < ((cAt s3 c.u).arrays.getD k []).length:=by have:=wn.1;omega
   refine ⟨_,[.int v],gm hal,⟨rfl,trivial⟩,Nat.le_refl 1,(fun h=>by cases h),.inl ?_⟩
   refine ⟨rfl,.inr (ghHide 2 9 z (rowZ 3 (((cAt s3 c.u).arrays.getD k []).set n.toNat v)) rfl List.mem_cons_self rfl ⟨by rw[List.map_set];rfl,rfl,rfl⟩ (ghNo (endXH (s':=s3.setA c.u k n.toNat v) (el':=el) (.tuple []) [.old 0,.old 1,.old 2,.old 7,.old 8] rfl rfl rfl (.inl rfl) rfl rfl rfl ((List.perm_append_singleton _ _).trans (e3 n.toNat v)) ?_)))⟩
   rw[← hr];rfl
  ·by_cases hle:(((cAt s3 c.u).arrays.getD k []).length:Int)≤n
   ·rw[if_pos hle] at hq hr
    injection hq with q1 q2;subst q1;subst q2
    refine ⟨rfl,.inr (ghHide 2 9 z (rowZ 3 ((cAt s3 c.u).arrays.getD k [])) rfl List.mem_cons_self rfl ⟨rfl,rfl,rfl⟩ (ghNo (endXH (s':=s3) (el':=el) (stopD 2) [.old 0,.old 1,.old 2,.old 7,.old 8] rfl rfl rfl (.inl rfl) rfl rfl rfl ((List.perm_append_singleton _ _).trans e2) ?_)))⟩
    rw[← hr];exact ⟨el,rfl⟩
   ·rw[if_neg hle] at hq;cases hq
 rw[if_neg k2] at hr
 have hsB:SsC p c x.b:=⟨hinv.2.2.2.1.all,i7,i4⟩
 have hsE:SsC p c x.e:=⟨hinv.2.2.2.2.1.all,i8,i5⟩
 refine ⟨fun k3=>?_,fun k3=>?_⟩
 ·rw[if_pos k3] at hr
  refine ⟨fun hn0=>?_,fun hn0=>?_⟩
  ·rw[if_neg hn0] at hr
   refine callB hB [.blk x.d 132] hs2 hc he hsB hp rfl rfl (fun el3 s3 h3 _ _ _=>?_) (fun e s3 el3 h3=>?_)
   ·refine ⟨rfl,.inl (endXH (s':=s3) (el':=el3) (.tuple []) [.old 0,.old 1,.old 2,.old 6,.old 7] rfl rfl rfl (.inl rfl) rfl rfl rfl (List.Perm.refl _) ?_)⟩
    rw[← hr,h3];rfl
   ·refine ⟨rfl,.inl (endXH (s':=s3) (el':=el3) (stopD e) [.old 0,.old 1,.old 2,.old 6,.old 7] rfl rfl rfl (.inl rfl) rfl rfl rfl (List.Perm.refl _) ?_)⟩
    rw[← hr,h3];exact ⟨el3,rfl⟩
  ·rw[if_pos hn0] at hr
   refine callB hB [.blk x.d 132] hs2 hc he hsE hp rfl rfl (fun el3 s3 h3 _ _ _=>?_) (fun e s3 el3 h3=>?_)
   ·refine ⟨rfl,.inl (endXH (s':=s3) (el':=el3) (.tuple []) [.old 0,.old 1,.old 2,.old 6,.old 7] rfl rfl rfl (.inl rfl) rfl rfl rfl (List.Perm.refl _) ?_)⟩
    rw[← hr,h3];rfl
   ·refine ⟨rfl,.inl (endXH (s':=s3) (el':=el3) (stopD e) [.old 0,.old 1,.old 2,.old 6,.old 7] rfl rfl rfl (.inl rfl) rfl rfl rfl (List.Perm.refl _) ?_)⟩
    rw[← hr,h3];exact ⟨el3,rfl⟩
 rw[if_neg k3] at hr
 refine ⟨fun k4=>?_,fun k4=>?_⟩
 ·rw[if_pos k4] at hr
  refine loopR (ι:=Nat × Int × EL × ES) (fun z=>[(0,.ptr 0 0),(3,.ptr 5 0),(4,.g (.int z.2.1))]) (fun z=>XHr p N R z.2.2.2 c z.2.2.1 [.blk x.d 132]) (WhI p N g c x r) (fun z=>if z.2.2.1.back then 0 else z.1+1)
   ⟨(g+1,n,el,s2),[.old 0,.old 1,.old 2,.old 3,.old 4,.old 5],⟨rfl,.inl rfl,.inr ⟨lk rfl,lk rfl,lk rfl,trivial⟩,rfl⟩,⟨hs2,he,wn,?_⟩⟩ ?_
  ·cases hb:el.back with
   | true=>exact .inl ⟨rfl,by rw[← hr];unfold whileF;rw[if_pos (.inr hb)]⟩
   | false=>exact .inr ⟨rfl,by have:=hs2.fuel;show s2.fuel < g+1;omega,hr⟩
  rintro Rd hRd ⟨k,m,⟨ps1,bk1,val1⟩,s3⟩ ⟨w1,w2,w3,w4⟩
  dsimp only at w1 w2 w3 w4
  cases bk1 with
  | true =>
   rcases w4 with ⟨_,rfl⟩ | ⟨h,_⟩
   ·refine ⟨fun _=>?_,fun _=>?_⟩
    all_goals exact ⟨rfl,.inl (endXH (s':=s3) (el':=⟨ps1,true,val1⟩) (.tuple []) [.old 0,.old 1,.old 2,.old 3,.old 4] rfl rfl rfl (.inl rfl) rfl rfl rfl (List.Perm.refl _) rfl)⟩
   ·cases h
  | false =>
  rcases w4 with ⟨h,_⟩ | ⟨_,wf,hr⟩
  ·cases h
  obtain ⟨k',rfl⟩:∃ k',k=k'+1:=⟨k - 1,by have:s3.fuel < k:=wf;omega⟩
  replace hr:whileF (evE p g) (evS p g) c x (k'+1) m ⟨ps1,false,val1⟩ s3=r:=hr
  unfold whileF at hr
  refine ⟨fun hm=>?_,fun hm=>?_⟩
  ·replace hm:¬m=0:=hm
   rw[if_neg (by rintro (h | h);exact hm h;cases h)] at hr
   refine callB hB [.blk x.d 132] w1 hc w2 hsB hp rfl rfl (fun el4 s4 h4 ok4 e4 lt4=>?_) (fun e s4 el4 h4=>?_)
   rotate_left
   ·refine ⟨rfl,.inl (endXH (s':=s4) (el':=el4) (stopD e) [.old 0,.old 1,.old 2,.old 6,.old 7] rfl rfl rfl (.inl rfl) rfl rfl rfl (List.Perm.refl _) ?_)⟩
    rw[← hr,h4];exact ⟨el4,rfl⟩
   rw[h4] at hr
   refine turnTo [.old 0,.old 1,.old 2,.old 6,.old 7,.old 5] [(0,.ptr 0 0),(3,.ptr 5 0),(4,.g (.int m))] (XHr p N R s4 c el4 [.blk x.d 132]) ⟨rfl,.inl rfl,.inl rfl,rfl⟩ ?_
   obtain ⟨ps4,bk4,val4⟩:=el4
   cases bk4 with
   | true =>
    exact hRd _ _ _ ⟨(k',m,⟨ps4,true,val4⟩,s4),[.old 0,.old 1,.old 2,.old 3,.old 4,.old 5],⟨rfl,.inl rfl,.inr ⟨lk rfl,lk rfl,lk rfl,trivial⟩,rfl⟩,⟨ok4,e4,w3,.inl ⟨rfl,hr.symm⟩⟩,Nat.succ_pos _⟩
   | false =>
   replace hr:(burnS s4 fun s=>(evE p g c ps4 (x.xs.getD 0 noX) s).bind fun n s=>whileF (evE p g) (evS p g) c x k' n ⟨ps4,false,val4⟩ s)=r:=hr
   unfold burnS at hr
   refine callBurn (el:=⟨ps4,false,val4⟩) [.blk x.d 132] (by have:=ok4.fuel;omega) rfl rfl (fun h0=>?_) (fun h0=>?_)
   ·rw[if_pos h0] at hr
    subst hr
    exact ⟨rfl,.inl (endXH (s':=s4) (el':=⟨ps4,false,val4⟩) (stopD 3) [.old 0,.old 1,.old 2,.old 3,.old 6] rfl rfl rfl (.inl rfl) rfl rfl rfl (List.Perm.refl _) ⟨_,rfl⟩)⟩
   rw[if_neg h0,ex0] at hr
   have hs5:OkS p N g { s4 with fuel:=s4.fuel - 1 }:=⟨ok4.si.fuel _,ok4.np,by have:=ok4.fuel;show s4.fuel - 1≤g;omega,ok4.g⟩
   have hk5:({ s4 with fuel:=s4.fuel - 1 }:ES).fuel < k':=by
    have h1:s3.fuel < k'+1:=wf
    show s4.fuel - 1 < k'
    omega
   revert hr hs5 hk5
   generalize { s4 with fuel:=s4.fuel - 1 }=s5
   intro hr hs5 hk5
   replace hr:(evE p g c ps4 x.xs[0] s5).bind (fun n s=>whileF (evE p g) (evS p g) c x k' n ⟨ps4,false,val4⟩ s)=r:=hr
   refine turnTo [.old 0,.old 1,.old 2,.old 3,.old 6,.old 5] [(0,.ptr 0 0),(3,.ptr 5 0)] (XHr p N R s5 c ⟨ps4,false,val4⟩ [.blk x.d 132]) ⟨rfl,.inl rfl,.inl rfl,rfl⟩ ?_
   refine ⟨0,_,rfl,exG hx0,?_⟩
   refine callE hE (el:=⟨ps4,false,val4⟩) [.blk x.d 132] hs5 hc e4 hX0 (i6 _ (List.getElem_mem hx0)) hp rfl rfl (fun n6 s6 h6 ok6 lt6 wn6=>?_) (fun e s6 h6=>?_)
   ·rw[show evE p g c ps4 x.xs[0] s5=.ok n6 s6 from h6] at hr
    exact hRd _ _ _ ⟨(k',n6,⟨ps4,false,val4⟩,s6),[.old 0,.old 1,.old 2,.old 6,.old 7,.old 5],⟨rfl,.inl rfl,.inr ⟨lk rfl,lk rfl,lk rfl,trivial⟩,rfl⟩,⟨ok6,e4,wn6,.inr ⟨rfl,by show s6.fuel < k';omega,hr⟩⟩,Nat.lt_succ_self _⟩
   ·rw[show evE p g c ps4 x.xs[0] s5=.stop e s6 from h6] at hr
    refine ⟨rfl,.inl (endXH (s':=s6) (el':=⟨ps4,false,val4⟩) (stopD e) [.old 0,.old 1,.old 2,.old 6,.old 7] rfl rfl rfl (.inl rfl) rfl rfl rfl (List.Perm.refl _) ?_)⟩
    rw[← hr];exact ⟨_,rfl⟩
  ·replace hm:m=0:=hm
   rw[if_pos (.inl hm)] at hr
   refine ⟨rfl,.inl (endXH (s':=s3) (el':=⟨ps1,false,val1⟩) (.tuple []) [.old 0,.old 1,.old 2,.old 3,.old 4] rfl rfl rfl (.inl rfl) rfl rfl rfl (List.Perm.refl _) ?_)⟩
   rw[← hr];rfl
 rw[if_neg k4] at hr
 refine ⟨fun k5=>?_,fun k5=>?_⟩
 ·rw[if_pos k5] at hr
  refine .inl ?_
  refine .inl ?_
  refine ⟨rfl,.inl (endXH (s':=s2) (el':={ el with back:=true,val:=n }) (.tuple []) [.old 0,.old 1,.old 2,.old 3,.old 4] rfl rfl rfl (.inl rfl) rfl rfl rfl (List.Perm.refl _) ?_)⟩
  rw[← hr];rfl
 rw[if_neg k5] at hr
 have lt:(tz s2).length=s2.told.length:=List.length_map _
 have htold:=hs2.si.told
 refine ⟨fun h5=>?_,fun h5=>?_⟩
 ·rw[if_pos (by omega)] at hr
  refine .inl ?_
  refine ⟨rfl,.inl (endXH (s':=s2) (el':=el) (stopD 6) [.old 0,.old 1,.old 2,.old 3,.old 4] rfl rfl rfl (.inl rfl) rfl rfl rfl (List.Perm.refl _) ?_)⟩
  rw[← hr];exact ⟨el,rfl⟩
 rw[if_neg (by omega)] at hr
 have hroom:(tz s2).length+1≤maxLen∧((tz s2).length+1)*8≤140737488355328:=⟨by unfold maxLen;omega,by omega⟩
 have hend:sQ p N R c r (.ret (.tuple []) (XH p N R { s2 with told:=s2.told++[n] } c el)):=by rw[← hr];rfl
 have etold:tz s2++[[.int n]]=tz { s2 with told:=s2.told++[n] }:=by show _=(s2.told++[n]).map intG;rw[List.map_append];rfl
 refine ⟨some 60001,(.lead 0 (.lead 1 (.lead 2 (.lead 4 (.lead 5 (.lead 6 (.lead 11 (.two (.run 3 (.two (.run 7 (.lead 8 (.lead 9 (.two (.run 10 (.run 12 (.run 13 (.lead 14 (.lead 15 (.run 16 .done)))))) (.run 12 (.run 10 (.run 13 (.lead 14 (.lead 15 (.run 16 .done)))))))))) (.run 12 (.run 7 (.lead 8 (.lead 9 (.run 10 (.run 13 (.lead 14 (.lead 15 (.run 16 .done))))))))))) (.two (.run 7 (.lead 8 (.lead 9 (.two (.run 3 (.two (.run 10 (.run 12 (.run 13 (.lead 14 (.lead 15 (.run 16 .done)))))) (.run 12 (.run 10 (.run 13 (.lead 14 (.lead 15 (.run 16 .done)))))))) (.two (.run 10 (.two (.run 3 (.run 12 (.run 13 (.lead 14 (.lead 15 (.run 16 .done)))))) (.run 12 (.two (.run 3 (.run 13 (.lead 14 (.lead 15 (.run 16 .done))))) (.run 13 (.run 3 (.lead 14 (.lead 15 (.run 16 .done))))))))) (.run 12 (.two (.run 3 (.run 10 (.run 13 (.lead 14 (.lead 15 (.run 16 .done)))))) (.run 10 (.two (.run 3 (.run 13 (.lead 14 (.lead 15 (.run 16 .done))))) (.run 13 (.run 3 (.lead 14 (.lead 15 (.run 16 .done)))))))))))))) (.run 12 (.two (.run 3 (.run 7 (.lead 8 (.lead 9 (.run 10 (.run 13 (.lead 14 (.lead 15 (.run 16 .done))))))))) (.run 7 (.lead 8 (.lead 9 (.two (.run 3 (.run 10 (.run 13 (.lead 14 (.lead 15 (.run 16 .done)))))) (.run 10 (.two (.run 3 (.run 13 (.lead 14 (.lead 15 (.run 16 .done))))) (.run 13 (.run 3 (.lead 14 (.lead 15 (.run 16 .done)))))))))))))))))))))),rfl,?_⟩
 refine ⟨⟨⟨⟨[[.int n]],rfl,rfl,⟨rfl,trivial⟩,⟨hroom,.inl (.inl (?_))⟩⟩,⟨[[.int n]],rfl,rfl,⟨rfl,trivial⟩,⟨hroom,.inl (.inl (?_))⟩⟩⟩,⟨[[.int n]],rfl,rfl,⟨rfl,trivial⟩,⟨hroom,.inl (.inl (?_))⟩⟩⟩,⟨⟨⟨⟨[[.int n]],rfl,rfl,⟨rfl,trivial⟩,⟨hroom,.inl (.inl (?_))⟩⟩,⟨[[.int n]],rfl,rfl,⟨rfl,trivial⟩,⟨hroom,.inl (.inl (?_))⟩⟩⟩,⟨⟨⟨[[.int n]],rfl,rfl,⟨rfl,trivial⟩,⟨hroom,.inl (.inl (?_))⟩⟩,⟨[[.int n]],rfl,rfl,⟨rfl,trivial⟩,⟨⟨hroom,.inl (.inl (?_))⟩,⟨hroom,.inl (.inl (?_))⟩⟩⟩⟩,⟨[[.int n]],rfl,rfl,⟨rfl,trivial⟩,⟨⟨hroom,.inl (.inl (?_))⟩,⟨⟨hroom,.inl (.inl (?_))⟩,⟨hroom,.inl (.inl (?_))⟩⟩⟩⟩⟩⟩,⟨[[.int n]],rfl,rfl,⟨rfl,trivial⟩,⟨⟨hroom,.inl (.inl (?_))⟩,⟨⟨hroom,.inl (.inl (?_))⟩,⟨⟨hroom,.inl (.inl (?_))⟩,⟨hroom,.inl (.inl (?_))⟩⟩⟩⟩⟩⟩⟩
 all_goals exact ⟨rfl,.inl (endXH (s':={ s2 with told:=s2.told++[n] }) (el':=el) (.tuple []) [.old 0,.old 1,.old 2,.old 3,.old 7] rfl rfl rfl (.inl rfl) rfl rfl etold (List.Perm.refl _) hend)⟩
end Go.Proofs.YtijdegmamdhcbaaGreatDoor
