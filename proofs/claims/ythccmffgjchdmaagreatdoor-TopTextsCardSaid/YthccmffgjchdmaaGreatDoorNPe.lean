import Derived.Test.YthccmffgjchdmaaGreatDoorNNq
import Derived.Test.YthccmffgjchdmaaGreatDoorNDjk
import Derived.Test.YthccmffgjchdmaaGreatDoorNGh
import Derived.Test.YthccmffgjchdmaaGreatDoorNWd
import Derived.Test.YthccmffgjchdmaaGreatDoorNPm
open Go Go.Proofs Go.Proofs.YthccmffgjchdmaaGreatDoor
namespace Barb
open Go Go.Dm Go.Eng ZN
structure ES where
 fuel:Nat
 told:List Int
 cells:List Cells
structure EL where
 ps:List Int
 back:Bool
 val:Int
structure EC where
 u:Nat
 f:Fun
 deep:Nat
inductive RR (α:Type) where
 | ok (a:α) (s:ES)
 | stop (e:Int) (s:ES)
def RR.bind {α β:Type}:RR α->(α->ES->RR β)->RR β
 | .ok a s,k=>k a s
 | .stop e s,_=>.stop e s
def ZzP {α:Type} (s:ES) (k:ES->RR α):RR α:=if s.fuel=0 then .stop 3 s else k { s with fuel:=s.fuel - 1 }
def noC:Cells:=⟨[],[]⟩
def noF:Fun:=⟨[],false,[],[]⟩
noncomputable def ZBI (f:Fun) (name:Str):Int:=idx (λx=>name=x) f.params
noncomputable def ZCz (u:Unit) (name:Str):Int:=idx (λx=>name=x) u.vars
noncomputable def ZCQ (u:Unit) (name:Str):Int:=idx (λa:Arr=>a.name=name) u.arrays
def uAt (p:List Unit) (u:Nat):Unit:=p.getD u noU
def cAt (s:ES) (u:Nat):Cells:=s.cells.getD u noC
noncomputable def ZC5 (p:List Unit) (c:EC) (ps:List Int) (s:ES) (name:Str):Int :=
 if 0<=ZBI c.f name then ps.getD (ZBI c.f name).toNat 0 else (cAt s c.u).vars.getD (ZCz (uAt p c.u) name).toNat 0
def Cells.setV (c:Cells) (i:Nat) (n:Int):Cells:=⟨c.vars.set i n,c.arrays⟩
def Cells.setA (c:Cells) (k i:Nat) (n:Int):Cells:=⟨c.vars,c.arrays.set k ((c.arrays.getD k []).set i n)⟩
def ES.setV (s:ES) (u i:Nat) (n:Int):ES:={ s with cells:=s.cells.set u ((cAt s u).setV i n) }
def ES.setA (s:ES) (u k i:Nat) (n:Int):ES:={ s with cells:=s.cells.set u ((cAt s u).setA k i n) }
noncomputable def ZzW (p:List Unit) (c:EC) (s:ES) (name:Str):List Int:=(cAt s c.u).arrays.getD (ZCQ (uAt p c.u) name).toNat []
noncomputable def ZC6 (p:List Unit) (c:EC) (s:ES) (name:Str) (at_:Int):RR Int :=
 if ((ZzW p c s name).length:Int)<=at_ then .stop 2 s else .ok ((ZzW p c s name).getD at_.toNat 0) s
noncomputable def ZC1 (p:List Unit) (c:EC) (el:EL) (s:ES) (name:Str) (n:Int):RR EL :=
 if 0<=ZBI c.f name then .ok { el with ps:=el.ps.set (ZBI c.f name).toNat n } s else .ok el (s.setV c.u (ZCz (uAt p c.u) name).toNat n)
noncomputable def ZC2 (p:List Unit) (c:EC) (el:EL) (s:ES) (name:Str) (at_ n:Int):RR EL :=
 if ((ZzW p c s name).length:Int)<=at_ then .stop 2 s else .ok el (s.setA c.u (ZCQ (uAt p c.u) name).toNat at_.toNat n)
abbrev EvE:=EC->List Int->Expr->ES->RR Int
abbrev EvS:=EC->Stmt->EL->ES->RR EL
def ZwB (e:Expr->ES->RR Int):List Expr->ES->RR (List Int)
 | [],s=>.ok [] s
 | x :: l,s=>(e x s).bind λn s=>(ZwB e l s).bind λns s=>.ok (n :: ns) s
def ZsB (e:Stmt->EL->ES->RR EL):List Stmt->EL->ES->RR EL
 | [],el,s=>.ok el s
 | x :: l,el,s=>if el.back then .ok el s else (e x el s).bind (ZsB e l)
def ZCu (p:List Unit) (e:EvS) (u:Nat) (f:Nat) (args:List Int) (deep:Nat) (s:ES):RR Int :=
 if 20<=deep then .stop 5 s else (ZsB (e ⟨u,(uAt p u).funcs.getD f noF,deep⟩) ((uAt p u).funcs.getD f noF).body ⟨args,false,0⟩ s).bind λel s=>.ok el.val s
noncomputable def toU (p:List Unit) (c:EC) (of:Str):Nat:=if of=[] then c.u else (Zc6 p of).toNat
noncomputable def ZCe (p:List Unit) (e:EvS) (c:EC) (x:Expr) (l:List Int) (s:ES):RR Int :=
 if x.k=3 then ZC6 p c s x.s (l.getD 0 0) else if x.k=5 then .ok (doI x.n (l.getD 0 0) (l.getD 1 0)) s
 else ZCu p e (toU p c x.of) (Zfh (uAt p (toU p c x.of)) x.s).toNat l (c.deep+1) s
noncomputable def ZCm (p:List Unit) (eE:EvE) (eS:EvS):EvE:=λc ps x s =>
 ZzP s λs=>if x.k=1 then .ok x.n s else if x.k=2 then .ok (ZC5 p c ps s x.s) s else (ZwB (eE c ps) x.args s).bind (ZCe p eS c x)
def ZsR (eE:EvE) (eS:EvS) (c:EC) (x:Stmt):Nat->Int->EL->ES->RR EL
 | 0,_,_,s=>.stop 3 s
 | g+1,n,el,s=>if n=0\/el.back=true then .ok el s else (ZsB (eS c) x.b el s).bind λel s =>
   if el.back then .ok el s else ZzP s λs=>(eE c el.ps (x.xs.getD 0 noX) s).bind λn s=>ZsR eE eS c x g n el s
noncomputable def ZBV (p:List Unit) (eE:EvE) (eS:EvS) (g:Nat):EvS:=λc x el s =>
 ZzP s λs=>(eE c el.ps (x.xs.getD 0 noX) s).bind λn s =>
  if x.k=1 then ZC1 p c el s x.s n
  else if x.k=2 then (eE c el.ps (x.xs.getD 1 noX) s).bind λv s=>ZC2 p c el s x.s n v
  else if x.k=3 then ZsB (eS c) (if n=0 then x.e else x.b) el s
  else if x.k=4 then ZsR eE eS c x (g+1) n el s
  else if x.k=5 then .ok { el with back:=true,val:=n } s
  else if s.told.length=500 then .stop 6 s else .ok el { s with told:=s.told++[n] }
noncomputable def evP (p:List Unit):Nat->EvE × EvS
 | 0=>(λ_ _ _ s=>.stop 3 s,λ_ _ _ s=>.stop 3 s)
 | g+1=>(ZCm p (evP p g).1 (evP p g).2,ZBV p (evP p g).1 (evP p g).2 g)
noncomputable def evE (p:List Unit) (g:Nat):EvE:=(evP p g).1
noncomputable def evS (p:List Unit) (g:Nat):EvS:=(evP p g).2
def wd (n:Int):Prop:=0<=n/\n<=65535
def wds (l:List Int):Prop:=∀n∈l,wd n
structure SI (p:List Unit) (s:ES):Prop where
 len:s.cells.length=p.length
 ok:ZgL p s.cells
 told:s.told.length<=500
 toldW:wds s.told
theorem Zu9 {s:ES} {u:Nat} (h:u < s.cells.length):cAt s u=s.cells[u]:=by unfold cAt;simp[h]
theorem Ztd {p:List Unit} {u:Nat} (h:u < p.length):uAt p u=p[u]:=by unfold uAt;simp[h]
theorem SI.cell {p:List Unit} {s:ES} (h:SI p s) {u:Nat} (hu:u < p.length):ZcM (uAt p u) (cAt s u):=by rw[Zu9 (by rw[h.len];exact hu),Ztd hu];exact h.ok u (by rw[h.len];exact hu) hu
theorem ZoG {l:List Int} (h:wds l) {n:Int} (hn:wd n) (i:Nat):wds (l.set i n):=λx hx=>by
 rcases Yce hx with h1 | rfl
 ·exact h x h1
 ·exact hn
theorem ZdL.w {l:List Int} {n:Int} (h:ZdL l n):wds l:=h.2
theorem SI.set {p:List Unit} {s:ES} (h:SI p s) {u:Nat} {c:Cells} (hc:ZcM (uAt p u) c):SI p { s with cells:=s.cells.set u c }:=by
 refine ⟨by simp[h.len],λi hi bc=>?_,h.told,h.toldW⟩;by_cases e:u=i
 ·subst e;simp only[List.getElem_set_self];rw[Ztd bc] at hc;exact hc
 ·have dK:i < s.cells.length:=by simpa using hi
  simp only[List.getElem_set_ne e];exact h.ok i dK bc
theorem ZcM.setV {u:Unit} {c:Cells} (h:ZcM u c) (i:Nat) {n:Int} (hn:wd n):ZcM u (c.setV i n) :=
 ⟨⟨⟨by unfold Cells.setV;rw[Ybw];exact h.1.1.1,ZoG h.1.1.2 hn i⟩,h.1.2⟩,h.2⟩
theorem ZcM.arr {u:Unit} {c:Cells} (h:ZcM u c) {k:Nat} (hk:k < u.arrays.length):ZdL (c.arrays.getD k []) u.arrays[k].size:=by
 have ae:k < c.arrays.length:=by rw[h.1.2];exact hk
 have:c.arrays.getD k []=c.arrays[k]:=by simp[ae]
 rw[this];exact h.2 k ae hk
theorem ZcM.setA {u:Unit} {c:Cells} (h:ZcM u c) (k i:Nat) {n:Int} (hn:wd n):ZcM u (c.setA k i n):=by
 refine ⟨⟨h.1.1,by unfold Cells.setA;rw[Ybw];exact h.1.2⟩,λj hj cn=>?_⟩;have aD:j < c.arrays.length:=by rw[h.1.2];exact cn
 have dt:j < (c.arrays.set k ((c.arrays.getD k []).set i n)).length:=hj;show ZdL ((c.arrays.set k ((c.arrays.getD k []).set i n))[j]'dt) _;rw[List.getElem_set];split
 ·rename_i e;subst e;have:=h.arr cn;exact ⟨by rw[Ybw];exact this.1,ZoG this.2 hn i⟩
 ·exact h.2 j aD cn
theorem SI.setV {p:List Unit} {s:ES} (h:SI p s) {u:Nat} (hu:u < p.length) (i:Nat) {n:Int} (hn:wd n):SI p (s.setV u i n):=h.set ((h.cell hu).setV i hn)
theorem SI.setA {p:List Unit} {s:ES} (h:SI p s) {u:Nat} (hu:u < p.length) (k i:Nat) {n:Int} (hn:wd n):SI p (s.setA u k i n):=h.set ((h.cell hu).setA k i hn)
theorem SI.fuel {p:List Unit} {s:ES} (h:SI p s) (n:Nat):SI p { s with fuel:=n }:=⟨h.len,h.ok,h.told,h.toldW⟩
theorem SI.arr {p:List Unit} {s:ES} (h:SI p s) {u:Nat} (hu:u < p.length) (k:Nat):wds ((cAt s u).arrays.getD k []):=by
 have hc:=h.cell hu;rw[YaG];cases hx:(cAt s u).arrays[k]? with
 | none=>intro x hx;simp at hx
 | some l =>obtain ⟨hk,rfl⟩:=Yac.1 hx;exact (hc.2 k hk (by rw[<- hc.1.2];exact hk)).2
def RI {α:Type} (p:List Unit) (s:ES) (A:α->Prop):RR α->Prop
 | .ok a s'=>SI p s'/\(s'.fuel<=s.fuel/\s.told <+: s'.told)/\A a
 | .stop e s'=>SI p s'/\(s'.fuel<=s.fuel/\s.told <+: s'.told)/\2<=e/\e<=6
theorem RI.bind {α β:Type} {p:List Unit} {s:ES} {A:α->Prop} {B:β->Prop} {r:RR α} {k:α->ES->RR β} (h:RI p s A r) (hk:∀a s',SI p s'->s'.fuel<=s.fuel->A a->RI p s' B (k a s')):RI p s B (r.bind k):=by
 cases r with
 | ok a s' =>
  have:=hk a s' h.1 h.2.1.1 h.2.2;show RI p s B (k a s');cases hr:k a s' with
  | ok b s2=>rw[hr] at this;exact ⟨this.1,⟨YaC this.2.1.1 h.2.1.1,h.2.1.2.trans this.2.1.2⟩,this.2.2⟩
  | stop e s2=>rw[hr] at this;exact ⟨this.1,⟨YaC this.2.1.1 h.2.1.1,h.2.1.2.trans this.2.1.2⟩,this.2.2⟩
 | stop e s'=>exact h
theorem RI.ok {α:Type} {p:List Unit} {s:ES} {A:α->Prop} {a:α} (h:SI p s) (ha:A a):RI p s A (.ok a s):=⟨h,⟨Yas _,Ycn _⟩,ha⟩
theorem RI.stop {α:Type} {p:List Unit} {s:ES} {A:α->Prop} {e:Int} (h:SI p s) (h2:2<=e) (h6:e<=6):RI p s A (.stop e s):=⟨h,⟨Yas _,Ycn _⟩,h2,h6⟩
structure PI (p:List Unit):Prop where
 few:p.length<=5
 unit:∀u∈p,Zbm u=0
 sense:∀u∈p,ZgT p u=0
theorem PI.of {p:List Unit} (h:ZbC p=0):PI p:=by obtain ⟨h1,h2,_,h4⟩:=Zbk h;exact ⟨h1,h2,h4⟩
theorem Ztc {p:List Unit} {u:Nat} (h:u < p.length):uAt p u∈p:=by rw[Ztd h];exact Yai h
structure CI (p:List Unit) (c:EC):Prop where
 u:c.u < p.length
 f:c.f∈(uAt p c.u).funcs
 deep:c.deep<=19
def ELI (c:EC) (el:EL):Prop:=el.ps.length=c.f.params.length/\wds el.ps/\wd el.val
def XI (p:List Unit) (c:EC) (x:Expr):Prop:=∃n,Zaw n x=0/\ZbR p (uAt p c.u) c.f x=0
def SsI (p:List Unit) (c:EC) (l:List Stmt):Prop:=∃n,Zai n l=0/\Zbt p (uAt p c.u) c.f l=0
def StI (p:List Unit) (c:EC) (x:Stmt):Prop:=∃n,ZbI (Zai n) x=0/\Zd1 p (uAt p c.u) c.f x=0
theorem XI.inv {p:List Unit} {c:EC} {x:Expr} (h:XI p c x):(1<=x.k/\x.k<=5)/\x.args.length<=4/\ZbJ x.k x.n x.of x.s x.args.length/\¬Za0 x.k x.n/\Zbp p (uAt p c.u) c.f x.k x.of x.s x.args.length=0/\∀y∈x.args,XI p c y:=by
 obtain ⟨n,h1,h2⟩:=h;cases n with
 | zero=>cases x;simp[Zaw] at h1
 | succ n =>obtain ⟨a1,a2,a3,a4,a5⟩:=Zdo h1;obtain ⟨b1,b2⟩:=Zho h2;exact ⟨a1,a2,a3,a4,b1,λy hy=>⟨n,a5 y hy,b2 y hy⟩⟩
theorem StI.inv {p:List Unit} {c:EC} {x:Stmt} (h:StI p c x):(1<=x.k/\x.k<=6)/\ZdN x.k x.s x.xs.length x.b.length x.e.length/\(∀y∈x.xs,XI p c y)/\SsI p c x.b/\SsI p c x.e/\¬((x.k=1/\¬ZkM (uAt p c.u) c.f x.s)\/(x.k=2/\¬Zlk (uAt p c.u) x.s)):=by obtain ⟨n,h1,h2⟩:=h;obtain ⟨a1,a2,a3,a4,a5⟩:=Zct h1;obtain ⟨b1,b2,b3,b4⟩:=ZgZ h2;exact ⟨a1,a2,λy hy=>⟨12,a3 y hy,b2 y hy⟩,⟨n,a4,b3⟩,⟨n,a5,b4⟩,b1⟩
theorem SsI.all {p:List Unit} {c:EC} {l:List Stmt} (h:SsI p c l):∀x∈l,StI p c x:=by
 obtain ⟨n,h1,h2⟩:=h;intro x hx;rw[Za1] at h2;cases n with
 | zero=>simp[Zai] at h1
 | succ n=>exact ⟨n,Zaf (f:=ZbI (Zai n)) h1 x hx,Zaf h2 x hx⟩
theorem PI.body {p:List Unit} (h:PI p) {c:EC} (hc:CI p c):SsI p c c.f.body :=
 ⟨12,(Zb7 ((ZaQ (h.unit _ (Ztc hc.u))).2.2.2.2.2.2 _ hc.f)).2.2.2,Zjj (h.sense _ (Ztc hc.u)) _ hc.f⟩
theorem ELI.set {c:EC} {el:EL} (h:ELI c el) (i:Nat) {n:Int} (hn:wd n):ELI c { el with ps:=el.ps.set i n }:=⟨by simp[h.1],ZoG h.2.1 hn i,h.2.2⟩
theorem ZqU {l:List Expr} {i:Nat} (hi:i < l.length):l.getD i noX∈l:=by rw[show l.getD i noX=l[i] by simp[hi]];exact Yai hi
theorem StI.one {p:List Unit} {c:EC} {x:Stmt} (h:StI p c x):0 < x.xs.length/\XI p c (x.xs.getD 0 noX):=by
 obtain ⟨h1,h2,h3,_⟩:=h.inv;have:0 < x.xs.length:=by
  obtain ⟨⟨_,_,a,b⟩,_⟩:=h2;by_cases h:x.k=2
  ·have:=a h;omega
  ·have:=b h;omega
 exact ⟨this,h3 _ (ZqU this)⟩
theorem StI.two {p:List Unit} {c:EC} {x:Stmt} (h:StI p c x) (hk:x.k=2):1 < x.xs.length/\XI p c (x.xs.getD 1 noX):=by
 obtain ⟨h1,h2,h3,_⟩:=h.inv;have:1 < x.xs.length:=by obtain ⟨⟨_,_,a,b⟩,_⟩:=h2;have:=a hk;omega
 exact ⟨this,h3 _ (ZqU this)⟩
theorem XI.arr {p:List Unit} {c:EC} {x:Expr} (h:XI p c x) (hk:x.k=3):Zlk (uAt p c.u) x.s:=by have h1:=h.inv.2.2.2.2.1;unfold Zbp at h1;exact YaN λhn=>by rw[if_pos (.inr ⟨hk,hn⟩)] at h1;omega
theorem StI.arr {p:List Unit} {c:EC} {x:Stmt} (h:StI p c x) (hk:x.k=2):Zlk (uAt p c.u) x.s:=YaN λhn=>h.inv.2.2.2.2.2 (.inr ⟨hk,hn⟩)
def RR.st {α:Type}:RR α->ES
 | .ok _ s=>s
 | .stop _ s=>s
def ZmI {α:Type} (s:ES) (r:RR α):Prop:=s.told <+: r.st.told
theorem ZmI.stop {α:Type} {s:ES} {e:Int}:ZmI s (.stop e s:RR α):=Ycn _
theorem ZmI.bind {α β:Type} {s:ES} {r:RR α} {f:α->ES->RR β} (h:ZmI s r) (hf:∀a s',ZmI s' (f a s')):ZmI s (r.bind f):=by
 cases r with
 | ok a s'=>exact List.IsPrefix.trans h (hf a s')
 | stop e s'=>exact h
def ES.up (s:ES) (k:Nat):ES:={ s with fuel:=s.fuel+k }
def Up {α:Type} (k:Nat):RR α->RR α->Prop
 | .ok a s,r=>r=.ok a (s.up k)
 | .stop e s,r=>(e≠3/\r=.stop e (s.up k))\/(e=3/\ZmI s r)
theorem Up.stop {α:Type} {k:Nat} {e:Int} {s:ES} (h:e≠3):Up k (.stop e s:RR α) (.stop e (s.up k)):=.inl ⟨h,rfl⟩
theorem Up.bind {α β:Type} {k:Nat} {r r2:RR α} {f f2:α->ES->RR β} (h:Up k r r2) (hf:∀a s,Up k (f a s) (f2 a (s.up k))) (hg:∀a s,ZmI s (f2 a s)):Up k (r.bind f) (r2.bind f2):=by
 cases r with
 | ok a s =>have h:r2=.ok a (s.up k):=h;subst h;exact hf a s
 | stop e s =>
  rcases h with ⟨h1,h2⟩ | ⟨h1,h2⟩
  ·subst h2;exact .inl ⟨h1,rfl⟩
  ·exact .inr ⟨h1,ZmI.bind h2 hg⟩
end Barb
namespace Barb
open Go Go.Dm Go.Eng
structure CN where
 v:Value
 ar:List Value
def CN.g (n:CN):List GV:=[.raw n.v,.sl 1 (n.ar.map λa=>[.raw a])]
structure NI (N:List CN) (C:List Cells):Prop where
 len:N.length=C.length
 ar:∀i (h:i < N.length) (h':i < C.length),N[i].ar.length=C[i].arrays.length
theorem NI.setV {N:List CN} {s:ES} (h:NI N s.cells) (u i:Nat) (n:Int):NI N (s.setV u i n).cells:=by
 refine ⟨by simp[ES.setV,h.len],λj hj cn=>?_⟩;have dt:j < s.cells.length:=by simpa [ES.setV] using cn
 show _=((s.cells.set u ((cAt s u).setV i n))[j]'(by simpa using dt)).arrays.length;rw[List.getElem_set];split
 ·rename_i e;subst e;rw[h.ar u hj dt,<- Zu9 dt];rfl
 ·exact h.ar j hj dt
theorem NI.setA {N:List CN} {s:ES} (h:NI N s.cells) (u k i:Nat) (n:Int):NI N (s.setA u k i n).cells:=by
 refine ⟨by simp[ES.setA,h.len],λj hj cn=>?_⟩;have dt:j < s.cells.length:=by simpa [ES.setA] using cn
 show _=((s.cells.set u ((cAt s u).setA k i n))[j]'(by simpa using dt)).arrays.length;rw[List.getElem_set];split
 ·rename_i e;subst e;rw[h.ar u hj dt,<- Zu9 dt];simp[Cells.setA]
 ·exact h.ar j hj dt
end Barb
namespace ZN
open Go Go.Dm Go.Eng Go.RowKit Barb
abbrev cC (r k:Nat) (c:EC) (el:EL):List D:=[.ptr r 0,.g (.int (c.u:Int)),.g (.str c.f.name),.g (.bool c.f.isOpen),.g (.sl 1 (c.f.params.map ZaT)),.g (.sl 5 (c.f.body.map Stmt.g)),.row k,.g (.int (c.deep:Int)),.g (.bool el.back),.g (.int el.val)]
end ZN
namespace Go.Dm
open Go Go.Eng Go.RowKit
section
variable {P:Program} {G:Gl} {n:Nat}
end
end Go.Dm
namespace ZN
open Go Go.Dm Go.Eng Go.RowKit Barb
end ZN
namespace Barb
open Go Go.Dm Go.Eng
structure NP (N:List CN) (p:List Unit):Prop where
 len:N.length=p.length
 ar:∀i (h:i < N.length) (h':i < p.length),N[i].ar.length=p[i].arrays.length
end Barb
namespace ZN
open Go Go.Dm Go.Eng Go.RowKit Barb
structure OkS (p:List Barb.Unit) (N:List CN) (g:Nat) (s:ES):Prop where
 si:SI p s
 np:NP N p
 fuel:s.fuel<=g
 g:g<=200000
structure ArgI (p:List Barb.Unit) (N:List CN) (g:Nat) (c:EC) (ps:List Int) (args:List Barb.Expr) (s1:ES) (z:List Int × ES):Prop where
 le:z.1.length<=args.length
 ok:OkS p N g z.2
 w:wds z.1
 eq:ZwB (evE p g c ps) args s1=(ZwB (evE p g c ps) (args.drop z.1.length) z.2).bind λns s=>.ok (z.1++ns) s
structure SsC (p:List Barb.Unit) (c:EC) (l:List Barb.Stmt):Prop where
 ok:∀x∈l,StI p c x
 i:∀x∈l,Barb.Stmt.I x
 len:l.length*96<=140737488351232
structure BodI (p:List Barb.Unit) (N:List CN) (g:Nat) (c:EC) (l:List Barb.Stmt) (xR:EL) (s0:ES) (z:Nat × EL × ES):Prop where
 le:z.1<=l.length
 ok:OkS p N g z.2.2
 el:ELI c z.2.1
 eq:ZsB (evS p g c) l xR s0=ZsB (evS p g c) (l.drop z.1) z.2.1 z.2.2
structure WhI (p:List Barb.Unit) (N:List CN) (g:Nat) (c:EC) (x:Barb.Stmt) (r:RR EL) (z:Nat × Int × EL × ES):Prop where
 ok:OkS p N g z.2.2.2
 el:ELI c z.2.2.1
 w:wd z.2.1
 eq:(z.2.2.1.back=true/\r=.ok z.2.2.1 z.2.2.2)\/(z.2.2.1.back=false/\z.2.2.2.fuel < z.1/\ZsR (evE p g) (evS p g) c x z.1 z.2.1 z.2.2.1 z.2.2.2=r)
end ZN
namespace Barb
open Go Go.Dm Go.Eng
end Barb
namespace ZN
open Go Go.Dm Go.Eng Go.RowKit Barb
end ZN
namespace Go.Dm
open Go Go.Eng Go.RowKit Barb
section
variable {V V':Nat->Prop} {w:World} {t:Nat}
end
section
variable {G:Gl} {n:Nat}
end
end Go.Dm
namespace ZN
open Go Go.Dm Go.Eng Go.RowKit Barb
end ZN
namespace Barb
open Go Go.Dm Go.Eng ZN
def RR.code:RR Int->Int
 | .ok _ _=>1
 | .stop e _=>e
def RR.val:RR Int->Int
 | .ok n _=>n
 | .stop _ _=>0
structure RB (p:List Unit) (r:RR Int):Prop where
 si:SI p r.st
 code:1<=r.code/\r.code<=6
 val:wd r.val
theorem ZzO {p:List Unit} {cs:List Cells} (hg:ZbC p=0) (hl:cs.length=p.length) (h:ZgL p cs):∀c∈cs,c.I:=by intro c hc;obtain ⟨i,hi,rfl⟩:=YaR hc;have hU:=(Zbk hg).2.1 _ (Yai (show i < p.length by omega));obtain ⟨s1,s2,s3⟩:=Zlg hU (h i hi (by omega));obtain ⟨⟨h1,h2⟩,h3⟩:=h i hi (by omega);refine ⟨⟨λx hx=>by have:=h1.2 x hx;unfold I64;omega,by omega⟩,λa ha=>⟨λx hx=>?_,by have:=s3 a ha;omega⟩,by omega⟩;obtain ⟨k,hk,rfl⟩:=YaR ha;have:=(h3 k hk (by omega)).2 x hx;unfold I64;omega
end Barb
namespace ZN
open Go Go.Dm Go.Eng Go.RowKit Barb
end ZN
namespace Barb
open Go Go.Dm Go.Eng ZN
theorem ZtH {f:Int->Int} {k:Nat} {n:Int} (h:∀j,0<=ZcD f j n/\ZcD f j n < 70):ZdL (ZmL f k n) k:=by refine ⟨by rw[ZlH],λx hx=>?_⟩;unfold ZmL at hx;obtain ⟨j,_,rfl⟩:=YaU.1 hx;have:=h j;omega
theorem Zrn (c:Int):∀(l:List Arr) (n:Int),(0<=n/\n < 70)->(∀a∈l,1<=a.size/\a.size<=10)->∀k (h:k < (Zfa c l n).length) (h':k < l.length),ZdL (Zfa c l n)[k] l[k].size
 | [],_,_,_,k,_,h'=>by simp at h'
 | a :: l,n,hn,hs,0,_,_=>by have ha:=hs a Yae;have:=ZtH (k:=a.size.toNat) (λj=>Zhg (c:=c) j hn);rw[show ((a.size.toNat:Nat):Int)=a.size by omega] at this;exact this
 | a :: l,n,hn,hs,k+1,h,h'=>by have:=Zrn c l (ZcD (Zdk c) a.size.toNat n) (Zhg _ hn) (λb hb=>hs b (Yad _ hb)) k (by simpa [Zfa] using h) (by simpa using h');simpa [Zfa] using this
theorem Zu6 (b c:Int) (u:Unit) {n:Int} (hn:0<=n/\n < 70) (hs:∀a∈u.arrays,1<=a.size/\a.size<=10):ZcM u (Zoc b c u n) :=
 ⟨⟨ZtH (λj=>ZfH j hn),Zkl _ _ _⟩,λk h h'=>Zrn c u.arrays _ (ZfH _ hn) hs k h h'⟩
theorem Zod (b c:Int):∀(l:List Unit) (n:Int),(0<=n/\n < 70)->(∀u∈l,∀a∈u.arrays,1<=a.size/\a.size<=10)->∀i (h:i < (ZaG b c l n).length) (h':i < l.length),ZcM l[i] (ZaG b c l n)[i]
 | [],_,_,_,i,_,h'=>by simp at h'
 | u :: l,n,hn,hs,0,_,_=>Zu6 b c u hn (hs u Yae)
 | u :: l,n,hn,hs,i+1,h,h'=>by have:=Zod b c l (ZxZ b c u n) (Zq6 hn) (λv hv=>hs v (Yad _ hv)) i (by simpa [ZaG] using h) (by simpa using h');simpa [ZaG] using this
theorem Zkb {p:List Unit} (hg:ZbC p=0) (r:Raw):ZdZ p (ZcL p r)=0:=by obtain ⟨_,hU,_,_⟩:=Zbk hg;obtain ⟨k,hk,yr⟩:=Zcc r.a (many:=7) (by decide);exact Zlf hg (Zh7 _ _ _ _) (λi h h'=>Zod _ _ p (Zbs r.a 7) (by rw[show (7:Int)=((7:Nat):Int) from rfl,hk];omega) (λu hu a ha=>(ZcC ((ZaQ (hU u hu)).2.2.2.2.2.1 a ha)).2) i h h')
end Barb
namespace ZN
open Go Go.Dm Go.Eng Go.RowKit Barb
variable {L:Lv}
theorem ZpN (l:List Raw) (hl:l.length*32<=140737488351232) (hI:∀r∈l,r.I):CT Tryz.prog (gl L) 11 [.g (.sl 4 (l.map Raw.g))] (Is (.g (.sl 4 ((Zbw l).map Unit.g)))) :=
 Zvp l hl hI _ (λh i hi=>ZbN (.inl (by simp only[conv,kp,hi])))
theorem Zvu (p:List Barb.Unit) (hp:PC p) (r:Raw) (hr:r.I):CT Tryz.prog (gl L) 12 [.g (.sl 4 (p.map Unit.g)),.agg r.d] (Is (.g (.sl 2 ((ZcL p r).map Cells.g)))) :=
 Zz5 p hp r hr _ (λh i hi=>ZbN (.inl (by simp only[conv,kp,hi])))
theorem Zwj {p:List Barb.Unit} (h:ZbC p=0):PC p:=by obtain ⟨h5,hU,_,_⟩:=Zbk h;exact ⟨by omega,λu hu=>by have:=(ZaQ (hU u hu)).2.1;omega,λu hu=>by have:=(ZaQ (hU u hu)).2.2.1;omega,λu hu a ha=>by have:=(ZcC ((ZaQ (hU u hu)).2.2.2.2.2.1 a ha)).2;omega⟩
end ZN
