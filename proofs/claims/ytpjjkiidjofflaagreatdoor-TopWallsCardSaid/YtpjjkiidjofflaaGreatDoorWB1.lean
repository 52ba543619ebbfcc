import Derived.Test.YtpjjkiidjofflaaGreatDoorWDa4
import Derived.Test.YtpjjkiidjofflaaGreatDoorWDlaw
import Derived.Test.YtpjjkiidjofflaaGreatDoorWKer
import Derived.OpenShut
namespace Barb
open Go Go.Dm
abbrev Str:=List UInt8
structure Instr where
 op:Int
 a:Int
 b:Int
 c:Int
deriving DecidableEq
structure Entry where
 at_:Int
 params:Int
deriving DecidableEq
structure Part where
 code:List Instr
 entries:List Entry
 lo:Int
 hi:Int
abbrev Zaf:=List Part
structure Arr where
 name:Str
 size:Int
deriving DecidableEq
inductive Expr where
 | mk (kind n:Int) (of s:Str) (args:List Expr)
inductive Stmt where
 | mk (kind:Int) (s:Str) (exprs:List Expr) (body els:List Stmt)
structure Fun where
 name:Str
 isOpen:Bool
 params:List Str
 body:List Stmt
structure Unit where
 name:Str
 vars:List Str
 arrays:List Arr
 funcs:List Fun
structure Cells where
 vars:List Int
 arrays:List (List Int)
def Instr.g (i:Instr):List GV:=[.int i.op,.int i.a,.int i.b,.int i.c]
def Entry.g (i:Entry):List GV:=[.int i.at_,.int i.params]
def Part.g (p:Part):List GV:=[.sl 4 (p.code.map Instr.g),.sl 2 (p.entries.map Entry.g),.int p.lo,.int p.hi]
def Zaf.g (m:Zaf):List GV:=[.sl 4 (m.map Part.g)]
def Arr.g (a:Arr):List GV:=[.str a.name,.int a.size]
def Zat (n:Int):List GV:=[.int n]
def ZbP (l:Str):List GV:=[.str l]
def ZhF (l:List Int):List GV:=[.sl 1 (l.map Zat)]
mutual
def Expr.g:Expr->List GV
 | .mk k n of s args=>[.int k,.int n,.str of,.str s,.sl 5 (Expr.gs args)]
def Expr.gs:List Expr->List (List GV)
 | []=>[]
 | x :: l=>x.g :: Expr.gs l
end
mutual
def Stmt.g:Stmt->List GV
 | .mk k s xs b e=>[.int k,.str s,.sl 5 (Expr.gs xs),.sl 5 (Stmt.gs b),.sl 5 (Stmt.gs e)]
def Stmt.gs:List Stmt->List (List GV)
 | []=>[]
 | x :: l=>x.g :: Stmt.gs l
end
def Fun.g (f:Fun):List GV:=[.str f.name,.bool f.isOpen,.sl 1 (f.params.map ZbP),.sl 5 (Stmt.gs f.body)]
def Unit.g (u:Unit):List GV:=[.str u.name,.sl 1 (u.vars.map ZbP),.sl 2 (u.arrays.map Arr.g),.sl 4 (u.funcs.map Fun.g)]
def Cells.g (c:Cells):List GV:=[.sl 1 (c.vars.map Zat),.sl 1 (c.arrays.map ZhF)]
theorem Expr.gs_map (l:List Expr):Expr.gs l=l.map Expr.g:=by
 induction l with
 | nil=>rfl
 | cons x l ih=>simp[Expr.gs,ih]
theorem Stmt.gs_map (l:List Stmt):Stmt.gs l=l.map Stmt.g:=by
 induction l with
 | nil=>rfl
 | cons x l ih=>simp[Stmt.gs,ih]
theorem ZtT {α:Type} {e:α->List GV} {ok:α->Prop}:∀xs:List (List GV),(∀r∈xs,∃x,r=e x/\ok x)->∃l:List α,xs=l.map e/\∀x∈l,ok x
 | [],_=>⟨[],rfl,λx h=>by simp at h⟩
 | r :: xs,h=>by
  obtain ⟨x,rfl,hx⟩:=h r Yac;obtain ⟨l,rfl,hl⟩:=ZtT xs (λr hr=>h r (Yad _ hr));refine ⟨x :: l,rfl,λy hy=>?_⟩;rcases Yav.1 hy with rfl | hy
  ·exact hx
  ·exact hl y hy
def Instr.I (i:Instr):Prop:=I64 i.op/\I64 i.a/\I64 i.b/\I64 i.c
def Entry.I (i:Entry):Prop:=I64 i.at_/\I64 i.params
def Part.I (p:Part):Prop:=(∀i∈p.code,i.I)/\(∀i∈p.entries,i.I)/\I64 p.lo/\I64 p.hi/\p.code.length*32<=140737488351232/\p.entries.length*16<=140737488351232
def Zaf.I (m:Zaf):Prop:=(∀p∈m,p.I)/\m.length*64<=140737488351232
def Arr.I (a:Arr):Prop:=a.name.length<=maxLen/\I64 a.size
def Zz8 (l:List Str):Prop:=(∀s∈l,s.length<=maxLen)/\l.length*16<=140737488351232
def ZAM (l:List Int):Prop:=(∀s∈l,I64 s)/\l.length*8<=140737488351232
inductive Expr.I:Expr->Prop
 | mk {k n:Int} {of s:Str} {args:List Expr}:I64 k->I64 n->of.length<=maxLen->s.length<=maxLen->args.length*72<=140737488351232->(∀x∈args,Expr.I x)->Expr.I (.mk k n of s args)
inductive Stmt.I:Stmt->Prop
 | mk {k:Int} {s:Str} {xs:List Expr} {b e:List Stmt}:I64 k->s.length<=maxLen->xs.length*72<=140737488351232->b.length*96<=140737488351232->e.length*96<=140737488351232->(∀x∈xs,Expr.I x)->(∀x∈b,Stmt.I x)->(∀x∈e,Stmt.I x)->Stmt.I (.mk k s xs b e)
def Fun.I (f:Fun):Prop:=f.name.length<=maxLen/\Zz8 f.params/\f.body.length*96<=140737488351232/\∀x∈f.body,Stmt.I x
def Unit.I (u:Unit):Prop:=u.name.length<=maxLen/\Zz8 u.vars/\(∀a∈u.arrays,a.I)/\u.arrays.length*24<=140737488351232/\(∀f∈u.funcs,f.I)/\u.funcs.length*72<=140737488351232
def Cells.I (c:Cells):Prop:=ZAM c.vars/\(∀l∈c.arrays,ZAM l)/\c.arrays.length*24<=140737488351232
theorem ZBi {P:Program} {f:Nat} {t e:TypeId} {g:GV} (hu:P.underlying t=some (.slice e)) (h:ZbA P f t g):∃f' xs,g=.sl (P.cellsOf e) xs/\xs.length*P.bytesOf e<=reachBytes/\∀r∈xs,Zdt P f' e r:=by
 cases f with
 | zero=>simp only[ZbA] at h
 | succ f =>simp only[ZbA,hu] at h;obtain ⟨xs,h1,h2,h3⟩:=h;exact ⟨f,xs,h1,h2,λr hr=>by unfold Zdt;exact h3 r hr⟩
theorem ZwO {P:Program} {f:Nat} {t e:TypeId} {g:GV} {k:Nat} {α:Type} {enc:α->List GV} {ok:α->Prop} (hu:P.underlying t=some (.slice e)) (hk:P.cellsOf e=k) {b:Nat} (hb:P.bytesOf e=b) (h:ZbA P f t g)
  (hd:∀f r,Zdt P f e r->∃x,r=enc x/\ok x):∃l:List α,g=.sl k (l.map enc)/\(∀x∈l,ok x)/\l.length*b<=140737488351232:=by obtain ⟨f',xs,rfl,hl,hx⟩:=ZBi hu h;obtain ⟨l,rfl,hok⟩:=ZtT (e:=enc) (ok:=ok) xs (λr hr=>hd f' r (hx r hr));subst hk;subst hb;exact ⟨l,rfl,hok,by simpa [reachBytes] using hl⟩
theorem Zzn {P:Program} {f:Nat} {t:TypeId} {g:GV} (hu:P.underlying t=some (.int .i64)) (h:ZbA P f t g):∃n,g=.int n/\I64 n:=by
 cases f with
 | zero=>simp only[ZbA] at h
 | succ f=>simp only[ZbA,hu] at h;exact h
theorem Zsb {P:Program} {f:Nat} {t:TypeId} {r:List GV} {fs:Array Field} (hu:P.underlying t=some (.struct fs)) (h:Zdt P f t r):r.length=fs.size/\∀(i:Nat) (fd:Field) (g:GV),fs[i]?=some fd->r[i]?=some g->ZbA P f fd.type g:=by unfold Zdt at h;rw[hu] at h;exact h
end Barb
open Go Go.Proofs Go.Proofs.YtpjjkiidjofflaaGreatDoor
namespace ZN
open Go.Dm Go.Eng Go.RowKit Go.ChangeShapes Go.WideShapes Go.ChangeAt
theorem hM:Mix Tryz.prog:=⟨by kernel_rfl⟩
def ZtC:List TypeId:=[3
 ,9
 ,40
 ,30
 ,90
 ,127
 ,76
 ,81
 ,77
 ,79
 ,26
 ,28
 ,92
 ,29
 ,103
 ,41
 ,132
 ,130
 ,135
 ,63
 ,65,4
 ,42
 ,44
 ,25
 ,24
 ,22
 ]
theorem ZtB:ZgT Tryz.prog ZtC=true:=by kernel_rfl
theorem ZyD {ts:List TypeId} (h:Zxr Tryz.prog ZtC ts=true):∀t∈ts,t∈ZtC/\Tryz.prog.readableRec t=true/\t < Tryz.prog.types.size:=ZtD h
end ZN
namespace ZN
open Go Go.Dm Barb
theorem Zl9 {f:Nat} {g:GV} (h:ZbA Tryz.prog f 3 g):∃n,g=.int n/\I64 n:=Zzn Tryz.underlying3 h
end ZN
namespace Barb
open Go Go.Eng Go.Dm Go.RowKit
theorem Zdc (x:Int):Op.intBits .and .i64 x 65535=pure (.int .i64 (x % 65536)):=by
 have h:(BitVec.ofInt 64 x &&& BitVec.ofInt 64 65535).toNat=(x % 65536).toNat:=by rw[BitVec.toNat_and,BitVec.toNat_ofInt,show (BitVec.ofInt 64 65535).toNat=2 ^ 16 - 1 from rfl,Ych];omega
 have h2:IntKind.i64.wrap ((x % 65536).toNat:Int)=x % 65536:=by have:=ZrV.of (x:=x % 65536) (by omega) (by omega);rw[YbT (by omega)];exact this
 show pure (Value.int .i64 (IntKind.i64.wrap ((BitVec.ofInt 64 x &&& BitVec.ofInt 64 65535).toNat:Int)))=_;rw[h,h2]
theorem Zem {x:Nat} (hx:x<=65535):(BitVec.ofInt 64 (x:Int)).toNat=x:=by rw[BitVec.toNat_ofInt];omega
theorem Zld {x:Nat} (hx:x<=65535):IntKind.i64.wrap (x:Int)=x:=ZrV.of (x:=(x:Int)) (by omega) (by omega)
theorem Zu1 {x y:Nat} (hx:x<=65535) (hy:y<=65535):Op.intBits .and .i64 x y=pure (.int .i64 ((x &&& y:Nat):Int)):=by show pure (Value.int .i64 (IntKind.i64.wrap ((BitVec.ofInt 64 (x:Int) &&& BitVec.ofInt 64 (y:Int)).toNat:Int)))=_;rw[BitVec.toNat_and,Zem hx,Zem hy,Zld];exact YaB Yci hx
theorem Zv1 {x y:Nat} (hx:x<=65535) (hy:y<=65535):x ||| y<=65535:=Nat.le_of_lt_succ (Nat.or_lt_two_pow (n:=16) (Yca hx) (Yca hy))
theorem ZpF {x y:Nat} (hx:x<=65535) (hy:y<=65535):x ^^^ y<=65535:=Nat.le_of_lt_succ (Nat.xor_lt_two_pow (n:=16) (Yca hx) (Yca hy))
theorem ZAw {x y:Nat} (hx:x<=65535) (hy:y<=65535):Op.intBits .or .i64 x y=pure (.int .i64 ((x ||| y:Nat):Int)):=by show pure (Value.int .i64 (IntKind.i64.wrap ((BitVec.ofInt 64 (x:Int) ||| BitVec.ofInt 64 (y:Int)).toNat:Int)))=_;rw[BitVec.toNat_or,Zem hx,Zem hy,Zld (Zv1 hx hy)]
theorem ZxM {x y:Nat} (hx:x<=65535) (hy:y<=65535):Op.intBits .xor .i64 x y=pure (.int .i64 ((x ^^^ y:Nat):Int)):=by show pure (Value.int .i64 (IntKind.i64.wrap ((BitVec.ofInt 64 (x:Int) ^^^ BitVec.ofInt 64 (y:Int)).toNat:Int)))=_;rw[BitVec.toNat_xor,Zem hx,Zem hy,Zld (ZpF hx hy)]
def ZCW (m k:Nat):Nat:=m / 2 ^ k
def did (op:Nat) (m n:Nat):Nat:=match op with
 | 1=>(m+n) % 65536 | 2=>(m+65536 - n) % 65536 | 3=>m*n % 65536 | 4=>m &&& n | 5=>m ||| n | 6=>m ^^^ n
 | 7=>if m < n then 1 else 0 | 8=>if m=n then 1 else 0 | 9=>m*2 ^ (n % 16) % 65536 | _=>m / 2 ^ (n % 16)
theorem Zxv {n:Nat} (hn:n<=65535):Op.intBits .and .i64 (n:Int) 15=pure (.int .i64 ((n % 16:Nat):Int)):=by have h:=Zu1 (x:=n) (y:=15) hn (by decide);have h2:n &&& 15=n % 16:=Ych n 4;rw[h2] at h;exact h
theorem Zye (m n:Nat):(m:Int)*2 ^ (min ((n % 16:Nat):Int).toNat 64)=((m*2 ^ (n % 16):Nat):Int):=by rw[Int.toNat_natCast,Ybb (by omega)];simp
theorem ZAb {m n:Nat} (hm:m<=65535):m*2 ^ (n % 16)<=65535*32768 :=
 Nat.mul_le_mul hm (YaB (Nat.pow_le_pow_right (by decide) (show n % 16<=15 by omega)) (by decide))
theorem Zyd (m n:Nat):(m:Int).fdiv (2 ^ (min ((n % 16:Nat):Int).toNat 64))=((m / 2 ^ (n % 16):Nat):Int):=by rw[Int.toNat_natCast,Ybb (by omega),Int.fdiv_eq_ediv_of_nonneg _ (by exact_mod_cast Yau _)];simp
theorem ZuC {op:Int} {m n:Nat} (hm:m<=65535) (hn:n<=65535) (h:op=4\/op=5\/op=6):did op.toNat m n<=65535:=by
 rcases h with e | e | e<;>subst e
 ·exact YaB Yci hm
 ·exact Zv1 hm hn
 ·exact ZpF hm hn
end Barb
namespace Go.Dm
open Go Go.Eng Go.RowKit
theorem Ztl {h:Zad} {a b c d:Int} (e:a=b) (e':c=d):Zbk (Is (.tuple [.g (.int b),.g (.int d)])) h (.tuple [.g (.int a),.g (.int c)]):=by subst e;subst e';exact Zbl (.inl rfl)
def Zah {α:Type} (f:α->Int):List α->Int
 | []=>0
 | x :: l=>if f x=0 then Zah f l else f x
theorem Zal {α:Type} {f:α->Int}:∀{l:List α},(∀x∈l,f x=0)->Zah f l=0
 | [],_=>rfl
 | x :: l,h=>by simp only[Zah];rw[if_pos (h x Yac)];exact Zal (λy hy=>h y (Yad _ hy))
theorem Za0 {α:Type} {f:α->Int} {l:List α} {i:Nat} (hi:l.length<=i) (h:∀j (hj:j < l.length),j < i->f l[j]=0):Zah f l=0 :=
 Zal (λx hx=>by obtain ⟨j,hj,rfl⟩:=YaK hx;exact h j hj (by omega))
theorem ZaV {α:Type} {f:α->Int}:∀{l:List α} {i:Nat} (hi:i < l.length),(∀j (hj:j < l.length),j < i->f l[j]=0)->f l[i]≠0->Zah f l=f l[i]
 | [],i,hi,_,_=>by simp at hi
 | x :: l,0,hi,_,h1=>by simp only[Zah];rw[if_neg (by simpa using h1)];rfl
 | x :: l,i+1,hi,h,h1=>by simp only[Zah];rw[if_pos (show f x=0 from h 0 (by simp) (by omega))];have:=ZaV (f:=f) (l:=l) (i:=i) (by simpa using hi) (λj hj hji=>show f l[j]=0 from h (j+1) (by simpa using hj) (by omega)) (by simpa using h1);simpa using this
theorem ZaO {α:Type} {f:α->Int} {l:List α} {i:Nat} (hi:i < l.length) (h:∀j (hj:j < l.length),j < i->f l[j]=0) (h1:f l[i]=0):∀j (hj:j < l.length),j < i+1->f l[j]=0:=by
 intro j hj hji;by_cases e:j=i
 ·subst e;exact h1
 ·exact h j hj (by omega)
theorem ZfT {α:Type} {f:α->Int} {l:List α}:∀j (hj:j < l.length),j < 0->f l[j]=0:=λj _ h=>absurd h (YbA j)
theorem Zu2 {α:Type} {p:α->Prop} {l:List α} {i:Nat} (hi:i < l.length) (h:∀j (hj:j < l.length),j < i->p l[j]) (h1:p l[i]):∀j (hj:j < l.length),j < i+1->p l[j]:=by
 intro j hj hji;by_cases e:j=i
 ·subst e;exact h1
 ·exact h j hj (by omega)
theorem Zw4 {α:Type} {p:α->Prop} {l:List α} {i:Nat} (hi:l.length<=i) (h:∀j (hj:j < l.length),j < i->p l[j]):∀x∈l,p x :=
 λx hx=>by obtain ⟨j,hj,rfl⟩:=YaK hx;exact h j hj (by omega)
theorem ZcS {α:Type} {q:α->Prop} {l:List α} {i:Nat} (hi:i < l.length) (h:∀j (hj:j < l.length),j < i->¬q l[j]) (h1:¬q l[i]):∀j (hj:j < l.length),j < i+1->¬q l[j]:=Zu2 (p:=λx=>¬q x) hi h h1
theorem Zhg {α:Type} {q:α->Prop} {l:List α}:∀j (hj:j < l.length),j < 0->¬q l[j]:=λj _ h=>absurd h (YbA j)
theorem Zdw {α:Type} {q:α->Prop} {l:List α} {i:Nat} (hi:l.length<=i) (h:∀j (hj:j < l.length),j < i->¬q l[j]):∀x∈l,¬q x:=Zw4 (p:=λx=>¬q x) hi h
def Zsl (env:Env):List (Nat × D)->Prop
 | []=>True
 | (k,x) :: l=>env k=x/\Zsl env l
theorem Zfe {env:Env}:∀{l:List (Nat × D)},Zsl env l->Env.many env l=env
 | [],_=>rfl
 | (k,x) :: l,h=>by
  simp only[Env.many,Zfe h.2];funext j;by_cases hj:j=k
  ·subst hj;simp[Env.set,h.1]
  ·simp[Env.set,ZcR hj]
def Ze8 (Rd:St->Prop) (Q:Post):Post
 | .normal,st'=>Rd st'
 | e,st'=>Q e st'
theorem Zrt {P:Program} {T:Tab} {F:FuncId->Bool} {G:Gl} {n:Nat} {x y:Code} {env:Env} {h:Zad} {df:List Deferred} {Q:Post} {ι:Type} (val:ι->List (Nat × D)) (hpI:ι->Zad) (Inv:ι->Prop)
  (tail:∀(e0:Env) (i:ι),Inv i->vc P T F G n y ⟨Env.many e0 (val i),hpI i,df⟩ Q)
  (head:∀Rd:St->Prop,(∀(i:ι) (e:Env),Zsl e (val i)->Inv i->Rd ⟨e,hpI i,df⟩)->vc P T F G n x ⟨env,h,df⟩ (Ze8 Rd Q)) :
  vc P T F G n (.seq x y) ⟨env,h,df⟩ Q:=by
 have hh:=head (λst'=>vc P T F G n y st' Q) (λi e ha hi=>by
  have:=tail e i hi;rw[Zfe ha] at this;exact this)
 have e:Ze8 (λst'=>vc P T F G n y st' Q) Q=(λe st'=>match e with | .normal=>vc P T F G n y st' Q | e=>Q e st'):=by
  funext e st';cases e<;>rfl
 rw[e] at hh;exact hh
structure Hold (p:Prop):Prop where
 out:p
def Zqr (P:Program) (T:Tab) (F:FuncId->Bool) (G:Gl) (n:Nat) (y:Code) (Q:Post):Post
 | .normal,st'=>Hold (vc P T F G n y st' Q)
 | e,st'=>Q e st'
theorem stepS {P:Program} {T:Tab} {F:FuncId->Bool} {G:Gl} {n:Nat} {x y:Code} {st:St} {Q:Post} (h:vc P T F G n x st (Zqr P T F G n y Q)):vc P T F G n (.seq x y) st Q:=by
 have e:Zqr P T F G n y Q=(λe st'=>match e with | .normal=>vc P T F G n y st' Q | e=>Q e st'):=by
  funext e st';cases e with
  | normal=>exact propext ⟨Hold.out,Hold.mk⟩
  | _=>rfl
 rw[e] at h;exact h
end Go.Dm
