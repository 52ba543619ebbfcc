import Derived.Test.YthccmffgjchdmaaGreatDoorNDa4
import Derived.Test.YthccmffgjchdmaaGreatDoorNDs
namespace Barb
open Go Go.Dm
abbrev Str:=List UInt8
structure Instr where
 op:Int
 a:Int
 b:Int
 c:Int
deriving DecidableEq
structure Entry where
 at_:Int
 params:Int
deriving DecidableEq
structure Part where
 code:List Instr
 entries:List Entry
 lo:Int
 hi:Int
abbrev Zax:=List Part
structure Arr where
 name:Str
 size:Int
deriving DecidableEq
inductive Expr where
 | mk (kind n:Int) (of s:Str) (args:List Expr)
inductive Stmt where
 | mk (kind:Int) (s:Str) (exprs:List Expr) (body yK:List Stmt)
structure Fun where
 name:Str
 isOpen:Bool
 params:List Str
 body:List Stmt
structure Unit where
 name:Str
 vars:List Str
 arrays:List Arr
 funcs:List Fun
structure Cells where
 vars:List Int
 arrays:List (List Int)
def Instr.g (i:Instr):List GV:=[.int i.op,.int i.a,.int i.b,.int i.c]
def Entry.g (i:Entry):List GV:=[.int i.at_,.int i.params]
def Part.g (p:Part):List GV:=[.sl 4 (p.code.map Instr.g),.sl 2 (p.entries.map Entry.g),.int p.lo,.int p.hi]
def Zax.g (m:Zax):List GV:=[.sl 4 (m.map Part.g)]
def Arr.g (a:Arr):List GV:=[.str a.name,.int a.size]
def ZaU (n:Int):List GV:=[.int n]
def ZaT (l:Str):List GV:=[.str l]
def Zmf (l:List Int):List GV:=[.sl 1 (l.map ZaU)]
mutual
def Expr.g:Expr->List GV
 | .mk k n of s args=>[.int k,.int n,.str of,.str s,.sl 5 (Expr.gs args)]
def Expr.gs:List Expr->List (List GV)
 | []=>[]
 | x :: l=>x.g :: Expr.gs l
end
mutual
def Stmt.g:Stmt->List GV
 | .mk k s xs b e=>[.int k,.str s,.sl 5 (Expr.gs xs),.sl 5 (Stmt.gs b),.sl 5 (Stmt.gs e)]
def Stmt.gs:List Stmt->List (List GV)
 | []=>[]
 | x :: l=>x.g :: Stmt.gs l
end
def Fun.g (f:Fun):List GV:=[.str f.name,.bool f.isOpen,.sl 1 (f.params.map ZaT),.sl 5 (Stmt.gs f.body)]
def Unit.g (u:Unit):List GV:=[.str u.name,.sl 1 (u.vars.map ZaT),.sl 2 (u.arrays.map Arr.g),.sl 4 (u.funcs.map Fun.g)]
def Cells.g (c:Cells):List GV:=[.sl 1 (c.vars.map ZaU),.sl 1 (c.arrays.map Zmf)]
theorem Expr.gs_map (l:List Expr):Expr.gs l=l.map Expr.g:=by
 induction l with
 | nil=>rfl
 | cons x l ih=>simp[Expr.gs,ih]
theorem Stmt.gs_map (l:List Stmt):Stmt.gs l=l.map Stmt.g:=by
 induction l with
 | nil=>rfl
 | cons x l ih=>simp[Stmt.gs,ih]
theorem Zuh {α:Type} {e:α->List GV} {ok:α->Prop}:∀xs:List (List GV),(∀r∈xs,∃x,r=e x/\ok x)->∃l:List α,xs=l.map e/\∀x∈l,ok x
 | [],_=>⟨[],rfl,λx h=>by simp at h⟩
 | r :: xs,h=>by
  obtain ⟨x,rfl,hx⟩:=h r Yae;obtain ⟨l,rfl,hl⟩:=Zuh xs (λr hr=>h r (Yad _ hr));refine ⟨x :: l,rfl,λy hy=>?_⟩;rcases Yav.1 hy with rfl | hy
  ·exact hx
  ·exact hl y hy
def Instr.I (i:Instr):Prop:=I64 i.op/\I64 i.a/\I64 i.b/\I64 i.c
def Entry.I (i:Entry):Prop:=I64 i.at_/\I64 i.params
def Part.I (p:Part):Prop:=(∀i∈p.code,i.I)/\(∀i∈p.entries,i.I)/\I64 p.lo/\I64 p.hi/\p.code.length*32<=140737488351232/\p.entries.length*16<=140737488351232
def Zax.I (m:Zax):Prop:=(∀p∈m,p.I)/\m.length*64<=140737488351232
def Arr.I (a:Arr):Prop:=a.name.length<=maxLen/\I64 a.size
def Zyv (l:List Str):Prop:=(∀s∈l,s.length<=maxLen)/\l.length*16<=140737488351232
def ZA1 (l:List Int):Prop:=(∀s∈l,I64 s)/\l.length*8<=140737488351232
inductive Expr.I:Expr->Prop
 | mk {k n:Int} {of s:Str} {args:List Expr}:I64 k->I64 n->of.length<=maxLen->s.length<=maxLen->args.length*72<=140737488351232->(∀x∈args,Expr.I x)->Expr.I (.mk k n of s args)
inductive Stmt.I:Stmt->Prop
 | mk {k:Int} {s:Str} {xs:List Expr} {b e:List Stmt}:I64 k->s.length<=maxLen->xs.length*72<=140737488351232->b.length*96<=140737488351232->e.length*96<=140737488351232->(∀x∈xs,Expr.I x)->(∀x∈b,Stmt.I x)->(∀x∈e,Stmt.I x)->Stmt.I (.mk k s xs b e)
def Fun.I (f:Fun):Prop:=f.name.length<=maxLen/\Zyv f.params/\f.body.length*96<=140737488351232/\∀x∈f.body,Stmt.I x
def Unit.I (u:Unit):Prop:=u.name.length<=maxLen/\Zyv u.vars/\(∀a∈u.arrays,a.I)/\u.arrays.length*24<=140737488351232/\(∀f∈u.funcs,f.I)/\u.funcs.length*72<=140737488351232
def Cells.I (c:Cells):Prop:=ZA1 c.vars/\(∀l∈c.arrays,ZA1 l)/\c.arrays.length*24<=140737488351232
theorem ZBo {P:Program} {f:Nat} {t e:TypeId} {g:GV} (hu:P.underlying t=some (.slice e)) (h:ZbF P f t g):∃f' xs,g=.sl (P.cellsOf e) xs/\xs.length*P.bytesOf e<=reachBytes/\∀r∈xs,Zdr P f' e r:=by
 cases f with
 | zero=>simp only[ZbF] at h
 | succ f =>simp only[ZbF,hu] at h;obtain ⟨xs,h1,h2,h3⟩:=h;exact ⟨f,xs,h1,h2,λr hr=>by unfold Zdr;exact h3 r hr⟩
theorem Zw8 {P:Program} {f:Nat} {t e:TypeId} {g:GV} {k:Nat} {α:Type} {enc:α->List GV} {ok:α->Prop} (hu:P.underlying t=some (.slice e)) (hk:P.cellsOf e=k) {b:Nat} (hb:P.bytesOf e=b) (h:ZbF P f t g)
  (hd:∀f r,Zdr P f e r->∃x,r=enc x/\ok x):∃l:List α,g=.sl k (l.map enc)/\(∀x∈l,ok x)/\l.length*b<=140737488351232:=by obtain ⟨f',xs,rfl,hl,hx⟩:=ZBo hu h;obtain ⟨l,rfl,aR⟩:=Zuh (e:=enc) (ok:=ok) xs (λr hr=>hd f' r (hx r hr));subst hk;subst hb;exact ⟨l,rfl,aR,by simpa [reachBytes] using hl⟩
theorem ZzH {P:Program} {f:Nat} {t:TypeId} {g:GV} (hu:P.underlying t=some (.int .i64)) (h:ZbF P f t g):∃n,g=.int n/\I64 n:=by
 cases f with
 | zero=>simp only[ZbF] at h
 | succ f=>simp only[ZbF,hu] at h;exact h
theorem Zsx {P:Program} {f:Nat} {t:TypeId} {r:List GV} {fs:Array Field} (hu:P.underlying t=some (.struct fs)) (h:Zdr P f t r):r.length=fs.size/\∀(i:Nat) (fd:Field) (g:GV),fs[i]?=some fd->r[i]?=some g->ZbF P f fd.type g:=by unfold Zdr at h;rw[hu] at h;exact h
end Barb
open Go Go.Proofs Go.Proofs.YthccmffgjchdmaaGreatDoor
namespace ZN
open Go Go.Dm Barb
theorem Zmv {f:Nat} {g:GV} (h:ZbF Tryz.prog f 3 g):∃n,g=.int n/\I64 n:=ZzH Tryz.underlying3 h
end ZN
namespace Barb
open Go Go.Eng Go.Dm Go.RowKit
theorem Zdj (x:Int):Op.intBits .and .i64 x 65535=pure (.int .i64 (x % 65536)):=by
 have h:(BitVec.ofInt 64 x &&& BitVec.ofInt 64 65535).toNat=(x % 65536).toNat:=by rw[BitVec.toNat_and,BitVec.toNat_ofInt,show (BitVec.ofInt 64 65535).toNat=2 ^ 16 - 1 from rfl,Yb5];omega
 have h2:IntKind.i64.wrap ((x % 65536).toNat:Int)=x % 65536:=by have:=Zse.of (x:=x % 65536) (by omega) (by omega);rw[Yby (by omega)];exact this
 show pure (Value.int .i64 (IntKind.i64.wrap ((BitVec.ofInt 64 x &&& BitVec.ofInt 64 65535).toNat:Int)))=_;rw[h,h2]
theorem ZeD {x:Nat} (hx:x<=65535):(BitVec.ofInt 64 (x:Int)).toNat=x:=by rw[BitVec.toNat_ofInt];omega
theorem Zlp {x:Nat} (hx:x<=65535):IntKind.i64.wrap (x:Int)=x:=Zse.of (x:=(x:Int)) (by omega) (by omega)
theorem Zvj {x y:Nat} (hx:x<=65535) (hy:y<=65535):Op.intBits .and .i64 x y=pure (.int .i64 ((x &&& y:Nat):Int)):=by show pure (Value.int .i64 (IntKind.i64.wrap ((BitVec.ofInt 64 (x:Int) &&& BitVec.ofInt 64 (y:Int)).toNat:Int)))=_;rw[BitVec.toNat_and,ZeD hx,ZeD hy,Zlp];exact YaC Ycq hx
theorem Zy7 {x y:Nat} (hx:x<=65535) (hy:y<=65535):x ||| y<=65535:=Nat.le_of_lt_succ (Nat.or_lt_two_pow (n:=16) (YbZ hx) (YbZ hy))
theorem ZsN {x y:Nat} (hx:x<=65535) (hy:y<=65535):x ^^^ y<=65535:=Nat.le_of_lt_succ (Nat.xor_lt_two_pow (n:=16) (YbZ hx) (YbZ hy))
theorem ZAL {x y:Nat} (hx:x<=65535) (hy:y<=65535):Op.intBits .or .i64 x y=pure (.int .i64 ((x ||| y:Nat):Int)):=by show pure (Value.int .i64 (IntKind.i64.wrap ((BitVec.ofInt 64 (x:Int) ||| BitVec.ofInt 64 (y:Int)).toNat:Int)))=_;rw[BitVec.toNat_or,ZeD hx,ZeD hy,Zlp (Zy7 hx hy)]
theorem Zx9 {x y:Nat} (hx:x<=65535) (hy:y<=65535):Op.intBits .xor .i64 x y=pure (.int .i64 ((x ^^^ y:Nat):Int)):=by show pure (Value.int .i64 (IntKind.i64.wrap ((BitVec.ofInt 64 (x:Int) ^^^ BitVec.ofInt 64 (y:Int)).toNat:Int)))=_;rw[BitVec.toNat_xor,ZeD hx,ZeD hy,Zlp (ZsN hx hy)]
def ZDe (m k:Nat):Nat:=m / 2 ^ k
def did (op:Nat) (m n:Nat):Nat:=match op with
 | 1=>(m+n) % 65536 | 2=>(m+65536 - n) % 65536 | 3=>m*n % 65536 | 4=>m &&& n | 5=>m ||| n | 6=>m ^^^ n
 | 7=>if m < n then 1 else 0 | 8=>if m=n then 1 else 0 | 9=>m*2 ^ (n % 16) % 65536 | _=>m / 2 ^ (n % 16)
theorem ZxO {n:Nat} (hn:n<=65535):Op.intBits .and .i64 (n:Int) 15=pure (.int .i64 ((n % 16:Nat):Int)):=by have h:=Zvj (x:=n) (y:=15) hn (by decide);have h2:n &&& 15=n % 16:=Yb5 n 4;rw[h2] at h;exact h
theorem ZyF (m n:Nat):(m:Int)*2 ^ (min ((n % 16:Nat):Int).toNat 64)=((m*2 ^ (n % 16):Nat):Int):=by rw[Int.toNat_natCast,Ybd (by omega)];simp
theorem ZAs {m n:Nat} (hm:m<=65535):m*2 ^ (n % 16)<=65535*32768 :=
 Nat.mul_le_mul hm (YaC (Nat.pow_le_pow_right (by decide) (show n % 16<=15 by omega)) (by decide))
theorem ZyD (m n:Nat):(m:Int).fdiv (2 ^ (min ((n % 16:Nat):Int).toNat 64))=((m / 2 ^ (n % 16):Nat):Int):=by rw[Int.toNat_natCast,Ybd (by omega),Int.fdiv_eq_ediv_of_nonneg _ (by exact_mod_cast Yat _)];simp
end Barb
namespace Go.Dm
open Go Go.Eng Go.RowKit
theorem ZtM {h:Zae} {a b c d:Int} (e:a=b) (e':c=d):Zby (Is (.tuple [.g (.int b),.g (.int d)])) h (.tuple [.g (.int a),.g (.int c)]):=by subst e;subst e';exact ZbN (.inl rfl)
def Zal {α:Type} (f:α->Int):List α->Int
 | []=>0
 | x :: l=>if f x=0 then Zal f l else f x
theorem Zap {α:Type} {f:α->Int}:∀{l:List α},(∀x∈l,f x=0)->Zal f l=0
 | [],_=>rfl
 | x :: l,h=>by simp only[Zal];rw[if_pos (h x Yae)];exact Zap (λy hy=>h y (Yad _ hy))
theorem Zbb {α:Type} {f:α->Int} {l:List α} {i:Nat} (hi:l.length<=i) (h:∀j (hj:j < l.length),j < i->f l[j]=0):Zal f l=0 :=
 Zap (λx hx=>by obtain ⟨j,hj,rfl⟩:=YaR hx;exact h j hj (by omega))
theorem Za3 {α:Type} {f:α->Int}:∀{l:List α} {i:Nat} (hi:i < l.length),(∀j (hj:j < l.length),j < i->f l[j]=0)->f l[i]≠0->Zal f l=f l[i]
 | [],i,hi,_,_=>by simp at hi
 | x :: l,0,hi,_,h1=>by simp only[Zal];rw[if_neg (by simpa using h1)];rfl
 | x :: l,i+1,hi,h,h1=>by simp only[Zal];rw[if_pos (show f x=0 from h 0 (by simp) (by omega))];have:=Za3 (f:=f) (l:=l) (i:=i) (by simpa using hi) (λj hj cL=>show f l[j]=0 from h (j+1) (by simpa using hj) (by omega)) (by simpa using h1);simpa using this
theorem ZaV {α:Type} {f:α->Int} {l:List α} {i:Nat} (hi:i < l.length) (h:∀j (hj:j < l.length),j < i->f l[j]=0) (h1:f l[i]=0):∀j (hj:j < l.length),j < i+1->f l[j]=0:=by
 intro j hj cL;by_cases e:j=i
 ·subst e;exact h1
 ·exact h j hj (by omega)
theorem Zgk {α:Type} {f:α->Int} {l:List α}:∀j (hj:j < l.length),j < 0->f l[j]=0:=λj _ h=>absurd h (Ybn j)
theorem Zvk {α:Type} {p:α->Prop} {l:List α} {i:Nat} (hi:i < l.length) (h:∀j (hj:j < l.length),j < i->p l[j]) (h1:p l[i]):∀j (hj:j < l.length),j < i+1->p l[j]:=by
 intro j hj cL;by_cases e:j=i
 ·subst e;exact h1
 ·exact h j hj (by omega)
theorem Zxm {α:Type} {p:α->Prop} {l:List α} {i:Nat} (hi:l.length<=i) (h:∀j (hj:j < l.length),j < i->p l[j]):∀x∈l,p x :=
 λx hx=>by obtain ⟨j,hj,rfl⟩:=YaR hx;exact h j hj (by omega)
theorem Zdq {α:Type} {q:α->Prop} {l:List α} {i:Nat} (hi:i < l.length) (h:∀j (hj:j < l.length),j < i->¬q l[j]) (h1:¬q l[i]):∀j (hj:j < l.length),j < i+1->¬q l[j]:=Zvk (p:=λx=>¬q x) hi h h1
theorem Zir {α:Type} {q:α->Prop} {l:List α}:∀j (hj:j < l.length),j < 0->¬q l[j]:=λj _ h=>absurd h (Ybn j)
theorem Zed {α:Type} {q:α->Prop} {l:List α} {i:Nat} (hi:l.length<=i) (h:∀j (hj:j < l.length),j < i->¬q l[j]):∀x∈l,¬q x:=Zxm (p:=λx=>¬q x) hi h
def ZsG (env:Env):List (Nat × D)->Prop
 | []=>True
 | (k,x) :: l=>env k=x/\ZsG env l
theorem ZfA {env:Env}:∀{l:List (Nat × D)},ZsG env l->Env.many env l=env
 | [],_=>rfl
 | (k,x) :: l,h=>by
  simp only[Env.many,ZfA h.2];funext j;by_cases hj:j=k
  ·subst hj;simp[Env.set,h.1]
  ·simp[Env.set,Zc5 hj]
def Zeh (Rd:St->Prop) (Q:Post):Post
 | .normal,st'=>Rd st'
 | e,st'=>Q e st'
theorem ZrK {P:Program} {T:Tab} {F:FuncId->Bool} {G:Gl} {n:Nat} {x y:Code} {env:Env} {h:Zae} {df:List Deferred} {Q:Post} {ι:Type} (val:ι->List (Nat × D)) (cK:ι->Zae) (Inv:ι->Prop)
  (tail:∀(e0:Env) (i:ι),Inv i->vc P T F G n y ⟨Env.many e0 (val i),cK i,df⟩ Q)
  (head:∀Rd:St->Prop,(∀(i:ι) (e:Env),ZsG e (val i)->Inv i->Rd ⟨e,cK i,df⟩)->vc P T F G n x ⟨env,h,df⟩ (Zeh Rd Q)) :
  vc P T F G n (.seq x y) ⟨env,h,df⟩ Q:=by
 have hh:=head (λst'=>vc P T F G n y st' Q) (λi e ha hi=>by
  have:=tail e i hi;rw[ZfA ha] at this;exact this)
 have e:Zeh (λst'=>vc P T F G n y st' Q) Q=(λe st'=>match e with | .normal=>vc P T F G n y st' Q | e=>Q e st'):=by
  funext e st';cases e<;>rfl
 rw[e] at hh;exact hh
structure Hold (p:Prop):Prop where
 out:p
def ZqH (P:Program) (T:Tab) (F:FuncId->Bool) (G:Gl) (n:Nat) (y:Code) (Q:Post):Post
 | .normal,st'=>Hold (vc P T F G n y st' Q)
 | e,st'=>Q e st'
theorem stepS {P:Program} {T:Tab} {F:FuncId->Bool} {G:Gl} {n:Nat} {x y:Code} {st:St} {Q:Post} (h:vc P T F G n x st (ZqH P T F G n y Q)):vc P T F G n (.seq x y) st Q:=by
 have e:ZqH P T F G n y Q=(λe st'=>match e with | .normal=>vc P T F G n y st' Q | e=>Q e st'):=by
  funext e st';cases e with
  | normal=>exact propext ⟨Hold.out,Hold.mk⟩
  | _=>rfl
 rw[e] at h;exact h
end Go.Dm
