/-
  The engine, first part: symbolic values, the state of a walk, and what one operation asks. No statement of the seat is proved here. It holds of every program whose table of types is met.
-/
import Derived.OwnWalk
import Derived.Below
import Derived.Laws.OwnMore
import Derived.Laws.Tables
import Derived.Laws.CopyRow
import Derived.Laws.AppendOwnNone
import Derived.WalkSmall
import Derived.Maps.AppendAt
import Derived.Laws.MakeOwn
import Derived.Lib.Strings
import Derived.Laws.Concat
import Derived.Laws.Small
import Derived.Orders
namespace Go.Eng
open Go.RowKit

inductive SV where
 | v (x:Value)
 | sb (c:Bool)
 | loc (i off:Nat)

def SV.of:Value→SV
 | .bool c=>.sb c
 | x=>.v x

structure LB where
 b:Nat
 cs:List Value
 t:TypeId

structure Row where
 v:Value
 n:Nat
 xs:List Value
 e:TypeId
 sz:Nat

abbrev Env:=Nat→SV
def Env.set (e:Env) (d:Nat) (x:SV):Env:=fun i=>bif Nat.beq i d then x else e i
def Env.put (e:Env) (d:Option Nat) (x:SV):Env:=match d with | some k=>e.set k x | none=>e

structure St where
 env:Env
 hp:List LB
 rows:List Row
 df:List Deferred

def bnum (hp:List LB) (i:Nat):Nat:=match hp[i]? with | some x=>x.b | none=>0

def SV.val (hp:List LB):SV→Value
 | .v x=>x
 | .sb c=>.bool c
 | .loc i off=>.pointer (some ⟨bnum hp i,off,none⟩)

def sv (st:St):Operand→SV
 | .tmp t=>st.env t
 | .const x=>SV.of x
 | .global g=>.v (.pointer (some ⟨g,0,none⟩))
 | .func f=>.v (.func (.func f) #[] #[])

def nums (hp:List LB) (rows:List Row):List Nat:=hp.map LB.b++rows.filterMap (fun r=>r.v.ownBlock)

structure Fr (own:Nat→Prop) (w w':World):Prop where
 os:w'.os=w.os
 tape:w'.tape=w.tape
 output:w'.output=w.output
 size:w.heap.size≤w'.heap.size
 block:∀ k,k < w.heap.size→¬ own k→w'.heap[k]?=w.heap[k]?

theorem Fr.refl (own:Nat→Prop) (w:World):Fr own w w:=⟨rfl,rfl,rfl,Nat.le_refl _,fun _ _ _=>rfl⟩
theorem Fr.below {w w':World} (h:Fr (fun _=>False) w w'):Below w.heap.size w w':=⟨h.os,h.tape,h.output,h.size,fun k hk=>h.block k hk (fun h=>h)⟩
theorem Fr.of_below {own:Nat→Prop} {w w':World} (h:Below w.heap.size w w'):Fr own w w':=⟨h.os,h.tape,h.output,h.size,fun k hk _=>h.block k hk⟩

structure Ctx where
 w0:World
 own:Nat→Prop

structure Anch where
 w:World
 V:Nat→Prop

structure RelW (C:Ctx) (hp:List LB) (rows:List Row) (A:Anch) (w:World):Prop where
 blk:∀ (i:Nat) (x:LB),hp[i]?=some x→w.heap[x.b]?=some (.cells x.cs.toArray x.t (0,0))
 row:∀ (i:Nat) (r:Row),rows[i]?=some r→w.ownsRow 0 r.e r.sz r.v r.n r.xs
 nodup:(nums hp rows).Nodup
 mine:∀ k,k∈nums hp rows→C.w0.heap.size≤k∨C.own k
 agree:∀ k,A.V k→w.heap[k]?=A.w.heap[k]?
 vlt:∀ k,A.V k→k < A.w.heap.size
 vout:∀ k,k∈nums hp rows→¬ A.V k
 asz:A.w.heap.size≤w.heap.size
 a0:C.w0.heap.size≤A.w.heap.size
 fr:Fr C.own C.w0 w

inductive TK where
 | cell
 | bool
 | int (k:IntKind)
 | str
 | slice (e:TypeId)
 | struct (fs:List (Nat × Nat))
 | array (n:Nat) (e:TypeId)
 | iface

structure TI where
 agg:Bool
 size:Nat
 bytes:Nat
 zero:List Value
 kind:TK

abbrev Tab:=TypeId→Option TI

def isAggD:TypeDesc→Bool
 | .struct _ | .array _ _=>true
 | _=>false

def descOk (P:Program) (d:TypeDesc):TK→Prop
 | .cell=>(match d with | .interface _=>False | _=>True)
 | .bool=>d=.bool
 | .int k=>d=.int k
 | .str=>d=.string
 | .slice e=>d=.slice e
 | .struct fs=>∃ fields,d=.struct fields∧fields.size=fs.length∧∀ (k off sz:Nat),fs[k]?=some (off,sz)→∃ (f:Field) (inf:TypeInfo),fields[k]?=some f∧f.offset=off∧P.info? f.type=some inf∧inf.size=sz∧sz≠0
 | .array n e=>d=.array n e
 | .iface=>(match d with | .interface _=>True | _=>False)

structure InfoOk (P:Program) (t:TypeId) (i:TI):Prop where
 d:∃ d,P.underlying t=some d∧descOk P d i.kind∧isAggD d=i.agg
 inf:∃ (inf:TypeInfo) (z:Value),P.info? t=some inf∧inf.size=i.size∧inf.bytes=i.bytes∧inf.zero=some z∧z.cells=i.zero.toArray
 zsize:i.zero.length=i.size

def TabOk (P:Program) (T:Tab):Prop:=∀ t i,T t=some i→InfoOk P t i

def fnOk (P:Program) (g:FuncId):Bool :=
 match P.funcs[g]? with
 | some fn => !(fn.name == "runtime.NumGoroutine") && fn.body.isSome
 | none=>false

def bcase (c:SV) (A B:Prop):Prop :=
 match c with
 | .v (.bool true)=>A
 | .v (.bool false)=>B
 | .sb c=>(c=true→A)∧(c=false→B)
 | _=>False

theorem bcase.yes {c:Bool} {A B:Prop} (h:c=true) (hA:A):bcase (.sb c) A B:=⟨fun _=>hA,fun h'=>absurd (h'.symm.trans h) (by simp)⟩
theorem bcase.no {c:Bool} {A B:Prop} (h:c=false) (hB:B):bcase (.sb c) A B:=⟨fun h'=>absurd (h'.symm.trans h) (by simp),fun _=>hB⟩

abbrev Cont:=SV→List LB→List Row→Anch→Prop
abbrev PCont:=List PanicEntry→List LB→List Row→Anch→Prop

def isI64 (x c:Int):Prop:=IntKind.i64.wrap x=c
theorem isI64.of {x:Int} (h0:-9223372036854775808≤x) (h1:x≤9223372036854775807):isI64 x x:=by
 unfold isI64
 rw[IntKind.wrap_i64]
 omega

def vcBin (op:BinOp) (x y:SV) (K:SV→Prop):Prop :=
 match op,x,y with
 | .add,.v (.int .i64 a),.v (.int .i64 b)=>∃ c,isI64 (a+b) c∧K (.v (.int .i64 c))
 | .sub,.v (.int .i64 a),.v (.int .i64 b)=>∃ c,isI64 (a - b) c∧K (.v (.int .i64 c))
 | .mul,.v (.int .i64 a),.v (.int .i64 b)=>∃ c,isI64 (a*b) c∧K (.v (.int .i64 c))
 | .add,.v (.int .u8 a),.v (.int .u8 b)=>K (.v (.int .u8 (IntKind.u8.wrap (a+b))))
 | .sub,.v (.int .u8 a),.v (.int .u8 b)=>K (.v (.int .u8 (IntKind.u8.wrap (a - b))))
 | .quo,.v (.int .i64 a),.v (.int .i64 b)=>b≠0∧∃ c,isI64 (a.tdiv b) c∧K (.v (.int .i64 c))
 | .rem,.v (.int .i64 a),.v (.int .i64 b)=>b≠0∧K (.v (.int .i64 (a.tmod b)))
 | .and,.v (.int .i64 a),.v (.int .i64 b)=>∃ c,(Op.intBits .and .i64 a b=pure (.int .i64 c))∧K (.v (.int .i64 c))
 | .or,.v (.int .i64 a),.v (.int .i64 b)=>∃ c,(Op.intBits .or .i64 a b=pure (.int .i64 c))∧K (.v (.int .i64 c))
 | .xor,.v (.int .i64 a),.v (.int .i64 b)=>∃ c,(Op.intBits .xor .i64 a b=pure (.int .i64 c))∧K (.v (.int .i64 c))
 | .shl,.v (.int .i64 a),.v (.int .i64 b)=>0≤b∧∃ c,isI64 (a*2 ^ (min b.toNat 64)) c∧K (.v (.int .i64 c))
 | .shr,.v (.int .i64 a),.v (.int .i64 b)=>0≤b∧K (.v (.int .i64 (a.fdiv (2 ^ (min b.toNat 64)))))
 | .eql,.v (.int .i64 a),.v (.int .i64 b)=>K (.sb (decide (a=b)))
 | .neq,.v (.int .i64 a),.v (.int .i64 b)=>K (.sb (!decide (a=b)))
 | .lss,.v (.int .i64 a),.v (.int .i64 b)=>K (.sb (decide (a < b)))
 | .leq,.v (.int .i64 a),.v (.int .i64 b)=>K (.sb (decide (a≤b)))
 | .gtr,.v (.int .i64 a),.v (.int .i64 b)=>K (.sb (decide (b < a)))
 | .geq,.v (.int .i64 a),.v (.int .i64 b)=>K (.sb (decide (b≤a)))
 | .eql,.v (.int .u8 a),.v (.int .u8 b)=>K (.sb (decide (a=b)))
 | .neq,.v (.int .u8 a),.v (.int .u8 b)=>K (.sb (!decide (a=b)))
 | .lss,.v (.int .u8 a),.v (.int .u8 b)=>K (.sb (decide (a < b)))
 | .leq,.v (.int .u8 a),.v (.int .u8 b)=>K (.sb (decide (a≤b)))
 | .gtr,.v (.int .u8 a),.v (.int .u8 b)=>K (.sb (decide (b < a)))
 | .geq,.v (.int .u8 a),.v (.int .u8 b)=>K (.sb (decide (b≤a)))
 | .eql,.v (.string a),.v (.string b)=>K (.sb (decide (a.data.toList=b.data.toList)))
 | .neq,.v (.string a),.v (.string b)=>K (.sb (!decide (a.data.toList=b.data.toList)))
 | .add,.v (.string a),.v (.string b)=>a.size+b.size≤9223372036854775807∧K (.v (.string ⟨⟨a.data.toList++b.data.toList⟩⟩))
 | _,_,_=>False

def vcBoolEq (op:BinOp) (x y:SV) (K:SV→Prop):Prop :=
 match op,x,y with
 | .eql,.sb a,.sb b=>K (.sb (a == b))
 | .neq,.sb a,.sb b=>K (.sb (!(a == b)))
 | .eql,.v (.bool a),.sb b=>K (.sb (a == b))
 | .neq,.v (.bool a),.sb b=>K (.sb (!(a == b)))
 | .eql,.sb a,.v (.bool b)=>K (.sb (a == b))
 | .neq,.sb a,.v (.bool b)=>K (.sb (!(a == b)))
 | _,_,_=>False

def vcUn (op:UnOp) (x:SV) (K:SV→Prop):Prop :=
 match op,x with
 | .not,.sb c=>K (.sb (!c))
 | .not,.v (.bool true)=>K (.v (.bool false))
 | .not,.v (.bool false)=>K (.v (.bool true))
 | .neg,.v (.int .i64 a)=>∃ c,isI64 (0 - a) c∧K (.v (.int .i64 c))
 | _,_=>False

structure Ld (hp:List LB) (rows:List Row) (A:Anch) (p v:Value):Prop where
 ex:∃ a,p=.pointer (some a)∧A.w.cell? a=some v∧A.V a.block
structure LdN (hp:List LB) (rows:List Row) (A:Anch) (k:Nat) (p:Value) (vs:List Value):Prop where
 len:vs.length=k
 ex:∃ a,p=.pointer (some a)∧(∀ j v,vs[j]?=some v→A.w.cell? (a.add j)=some v)∧A.V a.block
structure LdR (rows:List Row) (k:Nat) (p:Value) (vs:List Value):Prop where
 len:vs.length=k
 ex:∃ (i:Nat) (r:Row) (g o:Nat),rows[i]?=some r∧r.v.ownBlock=some g∧p=.pointer (some ⟨g,o,none⟩)∧∀ j v,vs[j]?=some v→r.xs[o+j]?=some v
structure LdB (hp:List LB) (k:Nat) (p:Value) (vs:List Value):Prop where
 len:vs.length=k
 ex:∃ (i:Nat) (x:LB) (o:Nat),hp[i]?=some x∧p=.pointer (some ⟨x.b,o,none⟩)∧∀ j v,vs[j]?=some v→x.cs[o+j]?=some v

def LdAny (hp:List LB) (rows:List Row) (A:Anch) (k:Nat) (p:Value) (vs:List Value):Prop :=
 LdN hp rows A k p vs∨LdR rows k p vs∨LdB hp k p vs

def setAt:List Value→Nat→List Value→List Value
 | l,_,[]=>l
 | l,k,v :: vs=>setAt (l.set k v) (k+1) vs

def fillO (place:Nat→Option (Nat × Nat)):List Value→List (Nat × List Value)→Option (List Value)
 | cs,[]=>some cs
 | cs,(i,v) :: rest =>
  match place i with
  | none=>none
  | some (off,size)=>bif Nat.beq v.length size && Nat.ble (off+size) cs.length then fillO place (setAt cs off v) rest else none

def cellsL (x:Value):List Value :=
 match x with
 | .agg cs=>cs.toList
 | x=>[x]

def flat:List Value→Bool
 | []=>true
 | v :: vs=>v.oneCell' && flat vs

def repL (z:List Value):Nat→List Value
 | 0=>[]
 | n+1=>z++repL z n


def vcLoad (T:Tab) (t:TypeId) (p:SV) (hp:List LB) (rows:List Row) (A:Anch) (K:SV→Prop):Prop :=
 match T t with
 | none=>False
 | some i =>
  match p with
  | .loc j off =>
   match hp[j]? with
   | none=>False
   | some x =>
    match i.agg with
    | false=>match x.cs[off]? with
     | some v=>K (SV.of v)
     | none=>False
    | true=>bif Nat.ble (off+i.size) x.cs.length then K (.v (.agg (List.take i.size (x.cs.drop off)).toArray)) else False
  | .v q =>
   match i.agg with
   | false=>∃ v,LdAny hp rows A 1 q [v]∧K (SV.of v)
   | true=>∃ vs,LdAny hp rows A i.size q vs∧K (.v (.agg vs.toArray))
  | .sb _=>False

def StPlain (C:Ctx) (hp:List LB) (rows:List Row) (A:Anch) (q:Value) (vs:List Value) (K:List LB→List Row→Anch→Prop):Prop :=
 ∃ (g o:Nat) (cur:Array Value) (t:TypeId),q=.pointer (some ⟨g,o,none⟩)∧A.w.heap[g]?=some (.cells cur t (0,0))∧o+vs.length≤cur.size∧A.V g ∧
  (C.w0.heap.size≤g∨C.own g)∧K hp rows { A with w:=A.w.setRow g (cur.toList.take o++vs++cur.toList.drop (o+vs.length)).toArray }
def StRow (hp:List LB) (rows:List Row) (A:Anch) (q:Value) (vs:List Value) (K:List LB→List Row→Anch→Prop):Prop :=
 ∃ (i:Nat) (r:Row) (g o:Nat),rows[i]?=some r∧r.v.ownBlock=some g∧q=.pointer (some ⟨g,o,none⟩)∧o+vs.length≤r.xs.length∧K hp (rows.set i { r with xs:=setAt r.xs o vs }) A
def StBlk (hp:List LB) (rows:List Row) (A:Anch) (q:Value) (vs:List Value) (K:List LB→List Row→Anch→Prop):Prop :=
 ∃ (j:Nat) (x:LB) (o:Nat),hp[j]?=some x∧q=.pointer (some ⟨x.b,o,none⟩)∧o+vs.length≤x.cs.length∧K (hp.set j { x with cs:=setAt x.cs o vs }) rows A

def vcStore (C:Ctx) (T:Tab) (t:TypeId) (p:SV) (y:Value) (hp:List LB) (rows:List Row) (A:Anch) (K:List LB→List Row→Anch→Prop):Prop :=
 match T t with
 | none=>False
 | some i =>
  bif Nat.beq (cellsL y).length i.size && flat (cellsL y) then
   match p with
   | .loc j off =>
    match hp[j]? with
    | none=>False
    | some x=>bif Nat.ble (off+i.size) x.cs.length then K (hp.set j { x with cs:=setAt x.cs off (cellsL y) }) rows A else False
   | .v q=>StPlain C hp rows A q (cellsL y) K∨StRow hp rows A q (cellsL y) K∨StBlk hp rows A q (cellsL y) K
   | .sb _=>False
  else False

def Src (hp:List LB) (rows:List Row) (A:Anch) (size:Nat) (y:Value) (m:Nat) (news:List Value):Prop :=
 (y=.slice none 0 0∧m=0∧news=[])∨(∃ a c,y=.slice (some a) m c∧LdAny hp rows A (m*size) (.pointer (some a)) news)

def RowShape (v:Value) (n:Nat):Prop:=(v=.slice none 0 0∧n=0)∨∃ g cap,v=.slice (some ⟨g,0,none⟩) n cap∧n≤cap

def vcAppend (T:Tab) (t:TypeId) (x y:Value) (hp:List LB) (rows:List Row) (A:Anch) (K:Cont):Prop :=
 match T t with
 | some { kind:=.slice e,.. } =>
  match T e with
  | none=>False
  | some ei =>
   ∃ (i:Nat) (n m:Nat) (xs news:List Value),
    ((∃ r,rows[i]?=some r∧r.v=x∧r.e=e∧r.sz=ei.size∧r.n=n∧r.xs=xs)∨(i=rows.length∧x=.slice none 0 0∧n=0∧xs=[])) ∧
    Src hp rows A ei.size y m news∧flat news=true∧n+m≤maxLen∧(n+m)*ei.bytes≤140737488355328∧0 < ei.size ∧
    ∀ v',RowShape v' (n+m)→(v'=.slice none 0 0→x=.slice none 0 0)→K (.v v') hp ((rows.take i++[{ v:=v',n:=n+m,xs:=xs++news,e:=e,sz:=ei.size }])++rows.drop (i+1)) A
 | _=>False

def intArg:SV→Option Int
 | .v (.int .i64 n)=>some n
 | _=>none

def vcSlice (T:Tab) (t:TypeId) (x:SV) (lo hi:Option SV) (K:SV→Prop):Prop :=
 match T t,x with
 | some { kind:=.str,.. },.v (.string s) =>
  ∃ l h:Nat,(match lo with | none=>l=0 | some p=>p=.v (.int .i64 (l:Int)))∧(match hi with | none=>h=s.data.toList.length | some p=>p=.v (.int .i64 (h:Int))) ∧
   l≤h∧h≤s.data.toList.length∧K (.v (.string ⟨⟨(s.data.toList.take h).drop l⟩⟩))
 | some { kind:=.slice e,.. },.v (.slice a len cap) =>
  match T e with
  | none=>False
  | some ei =>
   ∃ l h:Nat,(match lo with | none=>l=0 | some p=>p=.v (.int .i64 (l:Int)))∧(match hi with | none=>h=len | some p=>p=.v (.int .i64 (h:Int))) ∧
    l≤h∧h≤cap∧K (.v (.slice (if cap=l then a else a.map (·.add (l*ei.size))) (h - l) (cap - l)))
 | _,_=>False

/- Values are brought to their heads before the walk goes on, so that no step is reckoned twice. -/
def forceV (v:Value) (K:Value→Prop):Prop :=
 match v with
 | .bool b=>K (.bool b)
 | .int k n=>K (.int k n)
 | .float k b=>K (.float k b)
 | .complex k a b=>K (.complex k a b)
 | .string s=>K (.string s)
 | .pointer a=>K (.pointer a)
 | .slice a n c=>K (.slice a n c)
 | .map r=>K (.map r)
 | .chan r=>K (.chan r)
 | .func f x y=>K (.func f x y)
 | .nilFunc=>K .nilFunc
 | .iface t x=>K (.iface t x)
 | .nilIface=>K .nilIface
 | .agg cs=>K (.agg cs)
 | .tuple vs=>K (.tuple vs)
theorem forceV_eq (v:Value) (K:Value→Prop):forceV v K=K v:=by cases v<;>rfl
def forceVL:List Value→(List Value→Prop)→Prop
 | [],K=>K []
 | v :: l,K=>forceV v fun v=>forceVL l fun l=>K (v :: l)
theorem forceVL_eq:∀ (l:List Value) (K:List Value→Prop),forceVL l K=K l:=by
 intro l
 induction l with
 | nil=>intro K;rfl
 | cons v l ih=>intro K;simp only[forceVL,forceV_eq,ih]

def CallPost (C:Ctx) (hp0:List LB) (K:Cont) (Qp:PCont):Ending→World→Prop
 | .returned r,w'=>∃ hp rows A',RelW C hp rows A' w'∧hp.map LB.b=hp0.map LB.b∧K (SV.of r) hp rows A'
 | .panicked ch,w'=>∃ hp rows A',RelW C hp rows A' w'∧hp.map LB.b=hp0.map LB.b∧Qp ch hp rows A'
 | .outgrown,_=>False

def vcOp (P:Program) (T:Tab) (F:FuncId→Bool) (C:Ctx) (o:Op) (st:St) (A:Anch) (K:Cont) (Qp:PCont):Prop :=
 match o with
 | .move x=>K (sv st x) st.hp st.rows A
 | .assign x=>K (sv st x) st.hp st.rows A
 | .pick c a b=>bcase (sv st c) (K (sv st a) st.hp st.rows A) (K (sv st b) st.hp st.rows A)
 | .alloc t=>match T t with
  | none=>False
  | some i=>∀ b,A.w.heap.size≤b→K (.loc st.hp.length 0) (st.hp++[⟨b,i.zero,t⟩]) st.rows A
 | .box t x=>∀ b,A.w.heap.size≤b→K (.loc st.hp.length 0) (st.hp++[⟨b,cellsL ((sv st x).val st.hp),t⟩]) st.rows A
 | .build t parts=>match T t with
  | some { kind:=.struct fs,zero:=z,.. }=>match fillO (fs[·]?) z (parts.toList.map fun p=>(p.1,cellsL ((sv st p.2).val st.hp))) with
   | some cs=>K (.v (.agg cs.toArray)) st.hp st.rows A
   | none=>False
  | _=>False
 | .buildSlice t len parts=>match T t with
  | some { kind:=.slice e,.. }=>match T e with
   | some ei=>match fillO (fun i=>some (i*ei.size,ei.size)) (repL ei.zero len) (parts.toList.map fun p=>(p.1,cellsL ((sv st p.2).val st.hp))) with
    | some cs=>bif Nat.ble (len*ei.size) 16777216 && Nat.blt 0 ei.size then ∀ b,A.w.heap.size≤b →
      K (.v (.slice (some ⟨b,0,none⟩) len len)) st.hp (st.rows++[{ v:=.slice (some ⟨b,0,none⟩) len len,n:=len,xs:=cs,e:=e,sz:=ei.size }]) A else False
    | none=>False
   | none=>False
  | _=>False
 | .makeSlice t l c=>match T t with
  | some { kind:=.slice e,.. }=>match T e with
   | some ei=>∃ len cap:Nat,sv st l=.v (.int .i64 (len:Int))∧sv st c=.v (.int .i64 (cap:Int))∧len≤cap∧ei.bytes*cap≤140737488355328∧cap≤maxLen ∧
     ∀ b,A.w.heap.size≤b →
      K (.v (.slice (some ⟨b,0,none⟩) len cap)) st.hp (st.rows++[{ v:=.slice (some ⟨b,0,none⟩) len cap,n:=len,xs:=repL ei.zero len,e:=e,sz:=ei.size }]) A
   | none=>False
  | _=>False
 | .load t x=>vcLoad T t (sv st x) st.hp st.rows A fun v=>K v st.hp st.rows A
 | .store t x y=>vcStore C T t (sv st x) ((sv st y).val st.hp) st.hp st.rows A fun hp rows A=>K (.v undef) hp rows A
 | .nilCheck x=>match sv st x with
  | .loc i off=>K (.loc i off) st.hp st.rows A
  | .v (.pointer (some a))=>K (.v (.pointer (some a))) st.hp st.rows A
  | .v (.func (.func f) first captured)=>K (.v (.func (.func f) first captured)) st.hp st.rows A
  | _=>False
 | .binOp op t x y _=>match T t with
  | some { kind:=.bool,.. }=>vcBoolEq op (sv st x) (sv st y) fun v=>K v st.hp st.rows A
  | _=>vcBin op (sv st x) (sv st y) fun v=>K v st.hp st.rows A
 | .unOp op _ x=>vcUn op (sv st x) fun v=>K v st.hp st.rows A
 | .convert src dst x=>match T src,T dst,sv st x with
  | some _,some { kind:=.int .i64,.. },.v (.int .i64 n)=>∃ c,isI64 n c∧K (.v (.int .i64 c)) st.hp st.rows A
  | some _,some { kind:=.int .i64,.. },.v (.int .u8 n)=>∃ c,isI64 n c∧K (.v (.int .i64 c)) st.hp st.rows A
  | some _,some { kind:=.int .u8,.. },.v (.int .i64 n)=>K (.v (.int .u8 (IntKind.u8.wrap n))) st.hp st.rows A
  | _,_,_=>False
 | .fieldAddr s x f=>match T s with
  | some { kind:=.struct fs,.. }=>match fs[f]? with
   | some (off,_)=>match sv st x with
    | .loc i o=>K (.loc i (o+off)) st.hp st.rows A
    | .v (.pointer (some a))=>K (.v (.pointer (some (a.add off)))) st.hp st.rows A
    | _=>False
   | none=>False
  | _=>False
 | .indexAddr t x ix=>match T t with
  | some { kind:=.slice e,.. }=>match T e,sv st x with
   | some ei,.v (.slice a n _)=>∃ (b:Addr) (j:Nat),a=some b∧sv st ix=.v (.int .i64 (j:Int))∧j < n∧K (.v (.pointer (some (b.add (j*ei.size))))) st.hp st.rows A
   | _,_=>False
  | some { kind:=.array n e,.. }=>match T e,sv st x with
   | some ei,.loc i o=>∃ j:Nat,sv st ix=.v (.int .i64 (j:Int))∧j < n∧K (.loc i (o+j*ei.size)) st.hp st.rows A
   | some ei,.v (.pointer (some b))=>∃ j:Nat,sv st ix=.v (.int .i64 (j:Int))∧j < n∧K (.v (.pointer (some (b.add (j*ei.size))))) st.hp st.rows A
   | _,_=>False
  | _=>False
 | .index t x ix=>match T t,sv st x with
  | some { kind:=.str,.. },.v (.string s)=>∃ (j:Nat) (c:UInt8),sv st ix=.v (.int .i64 (j:Int))∧s.data.toList[j]?=some c∧K (.v (.int .u8 (c.toNat:Int))) st.hp st.rows A
  | _,_=>False
 | .slice t x lo hi none=>vcSlice T t (sv st x) (lo.map (sv st)) (hi.map (sv st)) fun v=>K v st.hp st.rows A
 | .extract t i=>match sv st t with
  | .v (.tuple vs)=>match vs.toList[i]? with
   | some v=>K (SV.of v) st.hp st.rows A
   | none=>False
  | _=>False
 | .makeFunc fn first captured=>K (.v (.func fn (first.map fun x=>(sv st x).val st.hp) (captured.map fun x=>(sv st x).val st.hp))) st.hp st.rows A
 | .makeInterface t x=>match T t with
  | some { kind:=.iface,.. }=>False
  | some _=>K (.v (.iface t ((sv st x).val st.hp))) st.hp st.rows A
  | none=>False
 | .panic x=>match sv st x with
  | .v (.iface t v)=>Qp [{ v:=.iface t v,recovered:=false }] st.hp st.rows A
  | _=>False
 | .call { callee:=.builtin .len,args,argTypes }=>match argTypes.toList,args.toList with
  | [t],[x]=>match T t,sv st x with
   | some { kind:=.slice _,.. },.v (.slice _ n _)=>K (.v (.int .i64 (n:Int))) st.hp st.rows A
   | some { kind:=.str,.. },.v (.string s)=>K (.v (.int .i64 (s.data.toList.length:Int))) st.hp st.rows A
   | _,_=>False
  | _,_=>False
 | .call { callee:=.builtin .append,args,argTypes }=>match argTypes.toList,args.toList with
  | [t,t'],[x,y]=>bif Nat.beq t t' then vcAppend T t ((sv st x).val st.hp) ((sv st y).val st.hp) st.hp st.rows A K else False
  | _,_=>False
 | .call { callee:=.value f,args,.. }=>match sv st f with
  | .v (.func (.func g) first captured)=>bif F g then
    forceVL (first.toList++(args.toList.map (fun x=>(sv st x).val st.hp)++captured.toList)) fun l=>∀ w,RelW C st.hp st.rows A w→Calls P g l.toArray w (CallPost C st.hp K Qp) else False
  | _=>False
 | _=>False

end Go.Eng
/-
  The engine, second part: that the state of a walk is kept by each kind of step. It holds of every program.
-/
namespace Go.Eng
open Go.RowKit

def Ext (hp hp':List LB):Prop:=∀ i,i < hp.length→i < hp'.length∧bnum hp' i=bnum hp i
def SVok (hp:List LB) (s:SV):Prop:=match s with | .loc j _=>j < hp.length | _=>True

theorem Ext.refl (hp:List LB):Ext hp hp:=fun _ h=>⟨h,rfl⟩
theorem Ext.trans {a b c:List LB} (h:Ext a b) (k:Ext b c):Ext a c:=fun i hi=>⟨(k i (h i hi).1).1,((k i (h i hi).1).2).trans (h i hi).2⟩
theorem bnum_map (hp:List LB) (i:Nat):bnum hp i=((hp.map LB.b)[i]?).getD 0:=by
 unfold bnum
 rw[List.getElem?_map]
 cases hp[i]?<;>rfl
theorem Ext.of_map {hp hp':List LB} (h:hp'.map LB.b=hp.map LB.b):Ext hp hp':=fun i hi=>by
 have hl:hp'.length=hp.length:=by have:=congrArg List.length h;simpa using this
 exact ⟨by omega,by rw[bnum_map,bnum_map,h]⟩
theorem Ext.snoc (hp:List LB) (x:LB):Ext hp (hp++[x]):=fun i hi=>by
 refine ⟨by simp;omega,?_⟩
 unfold bnum
 rw[List.getElem?_append_left hi]
theorem bnum_snoc (hp:List LB) (x:LB):bnum (hp++[x]) hp.length=x.b:=by simp[bnum]
theorem val_ext {hp hp':List LB} (h:Ext hp hp') {s:SV} (hs:SVok hp s):s.val hp'=s.val hp:=by
 cases s with
 | v x=>rfl
 | sb c=>rfl
 | loc i off=>simp only[SV.val];rw[(h i hs).2]
theorem SVok.ext {hp hp':List LB} (h:Ext hp hp') {s:SV} (hs:SVok hp s):SVok hp' s:=by
 cases s with
 | v x=>trivial
 | sb c=>trivial
 | loc i off=>exact (h i hs).1
theorem SVok.of_ (hp:List LB) (v:Value):SVok hp (SV.of v):=by cases v<;>trivial
theorem SV.val_of (hp:List LB) (v:Value):(SV.of v).val hp=v:=by cases v<;>rfl
theorem cellsL_eq (x:Value):cellsL x=x.cells.toList:=by cases x<;>rfl

theorem map_b_set {hp:List LB} {j:Nat} {x y:LB} (h:hp[j]?=some x) (hb:y.b=x.b):(hp.set j y).map LB.b=hp.map LB.b:=by
 apply List.ext_getElem?
 intro i
 rw[List.getElem?_map,List.getElem?_map,List.getElem?_set]
 by_cases hi:j=i
 ·subst hi
  have hl:j < hp.length:=(List.getElem?_eq_some_iff.1 h).1
  have hx:hp[j]=x:=(List.getElem?_eq_some_iff.1 h).2
  simp[hl,hb,hx]
 ·simp[hi]

theorem filterMap_set {rows:List Row} {i:Nat} {r r':Row} (h:rows[i]?=some r) (hb:r'.v.ownBlock=r.v.ownBlock) :
  (rows.set i r').filterMap (fun r=>r.v.ownBlock)=rows.filterMap (fun r=>r.v.ownBlock):=by
 induction rows generalizing i with
 | nil=>simp at h
 | cons a l ih =>
  cases i with
  | zero=>simp at h;subst h;simp[List.filterMap_cons,hb]
  | succ i=>simp at h;simp[List.filterMap_cons,ih h]

theorem owns_keep {w w':World} {b e sz n:Nat} {v:Value} {xs:List Value} (h:w.ownsRow b e sz v n xs) (hb:∀ k,v.ownBlock=some k→w'.heap[k]?=w.heap[k]?):w'.ownsRow b e sz v n xs:=by
 refine ⟨h.1,?_⟩
 rcases h.2 with hn | ⟨g,cap,cur,rfl,hg,hgg,rest⟩
 ·exact .inl hn
 ·exact .inr ⟨g,cap,cur,rfl,hg,(hb g rfl).trans hgg,rest⟩

theorem mem_nums_hp {hp:List LB} {rows:List Row} {i:Nat} {x:LB} (h:hp[i]?=some x):x.b∈nums hp rows:=by
 unfold nums
 exact List.mem_append.2 (.inl (List.mem_map.2 ⟨x,List.mem_of_getElem? h,rfl⟩))
theorem mem_nums_row {hp:List LB} {rows:List Row} {i:Nat} {r:Row} {k:Nat} (h:rows[i]?=some r) (hk:r.v.ownBlock=some k):k∈nums hp rows:=by
 unfold nums
 exact List.mem_append.2 (.inr (List.mem_filterMap.2 ⟨r,List.mem_of_getElem? h,hk⟩))

section
variable {C:Ctx} {hp:List LB} {rows:List Row} {A:Anch} {w w':World}

theorem RelW.lt (h:RelW C hp rows A w):∀ k,k∈nums hp rows→k < w.heap.size:=by
 intro k hk
 unfold nums at hk
 rcases List.mem_append.1 hk with hk | hk
 ·obtain ⟨x,hx,rfl⟩:=List.mem_map.1 hk
  obtain ⟨i,hi⟩:=List.getElem?_of_mem hx
  exact (Array.getElem?_eq_some_iff.1 (h.blk i x hi)).1
 ·obtain ⟨r,hr,hk⟩:=List.mem_filterMap.1 hk
  obtain ⟨i,hi⟩:=List.getElem?_of_mem hr
  exact ((h.row i r hi).lt k hk).2

theorem RelW.step (h:RelW C hp rows A w) {G:Nat→Prop} (hf:Fr G w w') (hG:∀ k,G k→k < w.heap.size→k∈nums hp rows) {hp':List LB} {rows':List Row}
  (blk':∀ (i:Nat) (x:LB),hp'[i]?=some x→w'.heap[x.b]?=some (.cells x.cs.toArray x.t (0,0)))
  (row':∀ (i:Nat) (r:Row),rows'[i]?=some r→w'.ownsRow 0 r.e r.sz r.v r.n r.xs)
  (nodup':(nums hp' rows').Nodup)
  (sub:∀ k,k∈nums hp' rows'→k∈nums hp rows∨w.heap.size≤k):RelW C hp' rows' A w' where
 blk:=blk'
 row:=row'
 nodup:=nodup'
 mine:=fun k hk=>by
  rcases sub k hk with hk | hk
  ·exact h.mine k hk
  ·exact .inl (Nat.le_trans h.a0 (Nat.le_trans h.asz hk))
 agree:=fun k hk=>by
  have hlt:=h.vlt k hk
  have hsz:=h.asz
  rw[hf.block k (by omega) (fun hg=>h.vout k (hG k hg (by omega)) hk)]
  exact h.agree k hk
 vlt:=h.vlt
 vout:=fun k hk hv=>by
  rcases sub k hk with hk | hk
  ·exact h.vout k hk hv
  ·have:=h.vlt k hv
   have:=h.asz
   omega
 asz:=Nat.le_trans h.asz hf.size
 a0:=h.a0
 fr:=by
  refine ⟨hf.os.trans h.fr.os,hf.tape.trans h.fr.tape,hf.output.trans h.fr.output,Nat.le_trans h.fr.size hf.size,fun k hk hn=>?_⟩
  have hsz:=h.fr.size
  rw[hf.block k (by omega) (fun hg=>?_)]
  ·exact h.fr.block k hk hn
  ·rcases h.mine k (hG k hg (by omega)) with hm | hm
   ·omega
   ·exact hn hm

theorem Fr.alloc (G:Nat→Prop) (w:World) (o:Obj):Fr G w (w.alloc o) :=
 ⟨rfl,rfl,rfl,by simp,fun k hk _=>Below.heap_alloc w o k hk⟩

theorem nodup_hp_snoc {x:LB} (hn:(nums hp rows).Nodup) (hx:x.b ∉ nums hp rows):(nums (hp++[x]) rows).Nodup:=by
 have hp1:(nums (hp++[x]) rows).Perm (x.b :: nums hp rows):=by
  unfold nums
  simp only[List.map_append,List.map_cons,List.map_nil,List.append_assoc,List.cons_append,List.nil_append]
  exact List.perm_middle
 exact hp1.nodup_iff.2 (List.nodup_cons.2 ⟨hx,hn⟩)

theorem nums_rows_snoc (hp:List LB) (rows:List Row) (r:Row):nums hp (rows++[r])=nums hp rows++(match r.v.ownBlock with | some k=>[k] | none=>[]):=by
 unfold nums
 cases hr:r.v.ownBlock<;>simp[List.filterMap_append,hr]

theorem nodup_rows_snoc {r:Row} (hn:(nums hp rows).Nodup) (hx:∀ k,r.v.ownBlock=some k→k ∉ nums hp rows):(nums hp (rows++[r])).Nodup:=by
 rw[nums_rows_snoc]
 cases hr:r.v.ownBlock with
 | none=>simpa using hn
 | some k =>
  refine List.nodup_append.2 ⟨hn,by simp,?_⟩
  intro a ha b hb
  simp at hb
  subst hb
  intro e
  subst e
  exact hx _ hr ha

theorem blk_alloc (h:RelW C hp rows A w) (o:Obj):∀ (i:Nat) (x:LB),hp[i]?=some x→(w.alloc o).heap[x.b]?=some (.cells x.cs.toArray x.t (0,0)):=by
 intro i x hi
 have hl:x.b < w.heap.size:=h.lt _ (mem_nums_hp hi)
 rw[Below.heap_alloc w o _ hl]
 exact h.blk i x hi

theorem RelW.alloc_hp (h:RelW C hp rows A w) (cs:List Value) (t:TypeId) :
  RelW C (hp++[⟨w.heap.size,cs,t⟩]) rows A (w.alloc (.cells cs.toArray t)):=by
 have hnew:w.heap.size ∉ nums hp rows:=fun hk=>by have:=h.lt _ hk;omega
 refine h.step (G:=fun _=>False) (Fr.alloc _ w _) (fun _ h _=>h.elim) ?_ (fun i r hi=>(h.row i r hi).alloc _) (nodup_hp_snoc h.nodup hnew) ?_
 ·intro i x hi
  by_cases hl:i < hp.length
  ·rw[List.getElem?_append_left hl] at hi
   exact blk_alloc h _ i x hi
  ·have hi2:i=hp.length:=by
    have:=(List.getElem?_eq_some_iff.1 hi).1
    simp at this
    omega
   subst hi2
   simp at hi
   subst hi
   exact heap_alloc_new w _
 ·intro k hk
  unfold nums at hk ⊢
  simp only[List.map_append,List.map_cons,List.map_nil,List.mem_append,List.mem_cons,List.not_mem_nil,or_false] at hk ⊢
  rcases hk with (hk | hk) | hk
  ·exact .inl (.inl hk)
  ·exact .inr (by omega)
  ·exact .inl (.inr hk)

theorem RelW.alloc_row (h:RelW C hp rows A w) (n cap:Nat) (xs:List Value) (cur:Array Value) (e:TypeId) (sz:Nat) (hl:xs.length=n*sz) (hnc:n≤cap) (hcm:cap≤maxLen)
  (hsz:cur.size=cap*sz) (ht:cur.toList.take (n*sz)=xs) :
  RelW C hp (rows++[{ v:=.slice (some ⟨w.heap.size,0,none⟩) n cap,n:=n,xs:=xs,e:=e,sz:=sz }]) A (w.alloc (.cells cur e)):=by
 have hnew:w.heap.size ∉ nums hp rows:=fun hk=>by have:=h.lt _ hk;omega
 refine h.step (G:=fun _=>False) (Fr.alloc _ w _) (fun _ h _=>h.elim) (blk_alloc h _) ?_ (nodup_rows_snoc h.nodup ?_) ?_
 ·intro i r hi
  by_cases hlt:i < rows.length
  ·rw[List.getElem?_append_left hlt] at hi
   exact (h.row i r hi).alloc _
  ·have hi2:i=rows.length:=by
    have:=(List.getElem?_eq_some_iff.1 hi).1
    simp at this
    omega
   subst hi2
   simp at hi
   subst hi
   exact ⟨hl,.inr ⟨w.heap.size,cap,cur,rfl,Nat.zero_le _,heap_alloc_new w _,hnc,hcm,hsz,ht⟩⟩
 ·intro k hk
  simp[Value.ownBlock] at hk
  subst hk
  exact hnew
 ·intro k hk
  rw[nums_rows_snoc] at hk
  simp[Value.ownBlock] at hk
  rcases hk with hk | hk
  ·exact .inl hk
  ·exact .inr (by omega)

theorem heap_setRow_other (w:World) (g:Nat) (cs:Array Value) (k:Nat) (h:k≠g):(w.setRow g cs).heap[k]?=w.heap[k]?:=by
 simp only[World.setRow,Array.getElem?_modify]
 rw[if_neg (fun e=>h e.symm)]

theorem Fr.setRow (w:World) (g:Nat) (cs:Array Value):Fr (fun k=>k=g) w (w.setRow g cs) :=
 ⟨rfl,rfl,rfl,by simp[World.setRow],fun k _ hn=>heap_setRow_other w g cs k hn⟩

theorem nodup_sep_hp (h:RelW C hp rows A w) {i j:Nat} {x y:LB} (hi:hp[i]?=some x) (hj:hp[j]?=some y) (hb:x.b=y.b):i=j:=by
 have hn:=h.nodup
 unfold nums at hn
 have hn1:(hp.map LB.b).Nodup:=(List.nodup_append.1 hn).1
 have hi':(hp.map LB.b)[i]?=some x.b:=by rw[List.getElem?_map,hi];rfl
 have hj':(hp.map LB.b)[j]?=some x.b:=by rw[List.getElem?_map,hj,hb];rfl
 have hil:i < (hp.map LB.b).length:=(List.getElem?_eq_some_iff.1 hi').1
 exact (List.getElem?_inj hil hn1).1 (hi'.trans hj'.symm)

theorem nodup_sep_hp_row (h:RelW C hp rows A w) {i j:Nat} {x:LB} {r:Row} (hi:hp[i]?=some x) (hj:rows[j]?=some r):r.v.ownBlock≠some x.b:=by
 intro hb
 have hn:=h.nodup
 unfold nums at hn
 exact (List.nodup_append.1 hn).2.2 x.b (List.mem_map.2 ⟨x,List.mem_of_getElem? hi,rfl⟩) x.b (List.mem_filterMap.2 ⟨r,List.mem_of_getElem? hj,hb⟩) rfl

theorem nodup_rows_at:∀ {rows:List Row} {i j:Nat} {r s:Row} {k:Nat},(rows.filterMap (fun r=>r.v.ownBlock)).Nodup→rows[i]?=some r→rows[j]?=some s→r.v.ownBlock=some k→s.v.ownBlock=some k→i=j:=by
 intro rows
 induction rows with
 | nil=>intro i j r s k _ hi;simp at hi
 | cons a l ih =>
  intro i j r s k hn hi hj hr hs
  rw[List.filterMap_cons] at hn
  cases i with
  | zero =>
   cases j with
   | zero=>rfl
   | succ j =>
    simp at hi hj
    subst hi
    rw[hr] at hn
    exact absurd (List.mem_filterMap.2 ⟨s,List.mem_of_getElem? hj,hs⟩) (List.nodup_cons.1 hn).1
  | succ i =>
   cases j with
   | zero =>
    simp at hi hj
    subst hj
    rw[hs] at hn
    exact absurd (List.mem_filterMap.2 ⟨r,List.mem_of_getElem? hi,hr⟩) (List.nodup_cons.1 hn).1
   | succ j =>
    simp at hi hj
    have hn':(l.filterMap (fun r=>r.v.ownBlock)).Nodup:=by
     cases ha:a.v.ownBlock with
     | none=>rw[ha] at hn;exact hn
     | some b=>rw[ha] at hn;exact (List.nodup_cons.1 hn).2
    rw[ih hn' hi hj hr hs]

theorem RelW.set_hp (h:RelW C hp rows A w) {j:Nat} {x:LB} (hj:hp[j]?=some x) (cs:List Value) :
  RelW C (hp.set j { x with cs:=cs }) rows A (w.setRow x.b cs.toArray):=by
 have hm:=map_b_set (y:={ x with cs:=cs }) hj rfl
 have hnums:nums (hp.set j { x with cs:=cs }) rows=nums hp rows:=by unfold nums;rw[hm]
 refine h.step (Fr.setRow w x.b _) (fun k hk _=>by subst hk;exact mem_nums_hp hj) ?_ ?_ (by rw[hnums];exact h.nodup) (fun k hk=>.inl (by rw[hnums] at hk;exact hk))
 ·intro i y hi
  rw[List.getElem?_set] at hi
  by_cases hij:j=i
  ·subst hij
   have hl:j < hp.length:=(List.getElem?_eq_some_iff.1 hj).1
   simp[hl] at hi
   subst hi
   exact setRow_heap w x.b _ _ _ _ (h.blk j x hj)
  ·simp[hij] at hi
   have hne:y.b≠x.b:=fun e=>hij (nodup_sep_hp h hj hi e.symm)
   rw[heap_setRow_other _ _ _ _ hne]
   exact h.blk i y hi
 ·intro i r hi
  refine owns_keep (h.row i r hi) (fun k hk=>heap_setRow_other _ _ _ _ ?_)
  intro e
  subst e
  exact nodup_sep_hp_row h hj hi hk

theorem RelW.set_row (h:RelW C hp rows A w) {i:Nat} {r:Row} {g:Nat} (hi:rows[i]?=some r) (hg:r.v.ownBlock=some g) (cur':Array Value) (xs':List Value)
  (hcur:∀ cur,w.heap[g]?=some (.cells cur r.e (0,0))→cur'.size=cur.size) (hlen:xs'.length=r.xs.length) (ht:cur'.toList.take xs'.length=xs') :
  RelW C hp (rows.set i { r with xs:=xs' }) A (w.setRow g cur'):=by
 have hm:=filterMap_set (r':={ r with xs:=xs' }) hi rfl
 have hnums:nums hp (rows.set i { r with xs:=xs' })=nums hp rows:=by unfold nums;rw[hm]
 refine h.step (Fr.setRow w g _) (fun k hk _=>by subst hk;exact mem_nums_row hi hg) ?_ ?_ (by rw[hnums];exact h.nodup) (fun k hk=>.inl (by rw[hnums] at hk;exact hk))
 ·intro j x hj
  have hne:x.b≠g:=fun e=>nodup_sep_hp_row h hj hi (by rw[e];exact hg)
  rw[heap_setRow_other _ _ _ _ hne]
  exact h.blk j x hj
 ·intro j s hj
  rw[List.getElem?_set] at hj
  by_cases hij:i=j
  ·subst hij
   have hl:i < rows.length:=(List.getElem?_eq_some_iff.1 hi).1
   simp[hl] at hj
   subst hj
   obtain ⟨h1,h2⟩:=h.row i r hi
   refine ⟨by simp only;rw[hlen];exact h1,?_⟩
   rcases h2 with ⟨hv,_⟩ | ⟨g',cap,cur,hv,hb,hh,hnc,hcm,hsz,htk⟩
   ·rw[hv] at hg;simp[Value.ownBlock] at hg
   ·have e:g'=g:=by rw[hv] at hg;simpa [Value.ownBlock] using hg
    subst e
    refine .inr ⟨g',cap,cur',hv,hb,setRow_heap w g' _ _ _ _ hh,hnc,hcm,by rw[hcur cur hh];exact hsz,?_⟩
    simp only
    rw[show r.n*r.sz=xs'.length from by rw[hlen];exact h1.symm]
    exact ht
  ·simp[hij] at hj
   refine owns_keep (h.row j s hj) (fun k hk=>heap_setRow_other _ _ _ _ ?_)
   intro e
   subst e
   have hn:=h.nodup
   unfold nums at hn
   exact hij (nodup_rows_at (List.nodup_append.1 hn).2.1 hi hj hg hk)

theorem RelW.set_plain (h:RelW C hp rows A w) {g:Nat} {cur:Array Value} {t:TypeId} (hg:A.w.heap[g]?=some (.cells cur t (0,0))) (hv:A.V g) (hm:C.w0.heap.size≤g∨C.own g) (cs:Array Value) :
  RelW C hp rows { A with w:=A.w.setRow g cs } (w.setRow g cs):=by
 have hne:∀ k,k∈nums hp rows→k≠g:=fun k hk e=>by subst e;exact h.vout k hk hv
 refine ⟨fun i x hi=>?_,fun i r hi=>?_,h.nodup,h.mine,fun k hk=>?_,fun k hk=>?_,h.vout,?_,?_,?_⟩
 ·rw[heap_setRow_other _ _ _ _ (hne _ (mem_nums_hp hi))];exact h.blk i x hi
 ·exact owns_keep (h.row i r hi) (fun k hk=>heap_setRow_other _ _ _ _ (hne _ (mem_nums_row hi hk)))
 ·by_cases e:k=g
  ·subst e
   rw[setRow_heap w k _ _ _ _ ((h.agree k hv).trans hg),setRow_heap A.w k _ _ _ _ hg]
  ·rw[heap_setRow_other _ _ _ _ e,heap_setRow_other _ _ _ _ e];exact h.agree k hk
 ·simpa [World.setRow] using h.vlt k hk
 ·simpa [World.setRow] using h.asz
 ·simpa [World.setRow] using h.a0
 ·refine ⟨h.fr.os,h.fr.tape,h.fr.output,by simpa [World.setRow] using h.fr.size,fun k hk hn=>?_⟩
  rw[heap_setRow_other _ _ _ _ (fun e=>?_)]
  ·exact h.fr.block k hk hn
  ·subst e
   rcases hm with hm | hm
   ·omega
   ·exact hn hm
end
end Go.Eng
/-
  The engine, third part: what each operation's run gives, out of what the clauses ask. It holds of every program.
-/
namespace Go.Eng
open Go.RowKit

section
variable {C:Ctx} {hp:List LB} {rows:List Row} {A:Anch} {w w':World}

theorem add_mk (b o j:Nat):(⟨b,o,none⟩:Addr).add j=⟨b,o+j,none⟩:=by unfold Addr.add;split<;>simp_all
theorem add_block (a:Addr) (j:Nat):(a.add j).block=a.block:=by unfold Addr.add;split<;>rfl

theorem LdAny.cells (h:RelW C hp rows A w) {k:Nat} {a:Addr} {vs:List Value} (hl:LdAny hp rows A k (.pointer (some a)) vs):vs.length=k∧∀ j v,vs[j]?=some v→w.cell? (a.add j)=some v:=by
 rcases hl with hl | hl | hl
 ·obtain ⟨b,hb,hc,hv⟩:=hl.ex
  injection hb with hb
  injection hb with hb
  subst hb
  refine ⟨hl.len,fun j v hj=>?_⟩
  rw[World.cell?_of_block (w:=A.w) (w':=w) (a:=a.add j) (by rw[add_block];exact h.agree _ hv)]
  exact hc j v hj
 ·obtain ⟨i,r,g,o,hi,hg,hb,hc⟩:=hl.ex
  injection hb with hb
  injection hb with hb
  subst hb
  refine ⟨hl.len,fun j v hj=>?_⟩
  have:=(h.row i r hi).cells hg (o+j) v (hc j v hj)
  rw[add_mk] at this ⊢
  simpa using this
 ·obtain ⟨i,x,o,hi,hb,hc⟩:=hl.ex
  injection hb with hb
  injection hb with hb
  subst hb
  refine ⟨hl.len,fun j v hj=>?_⟩
  rw[add_mk,cell_of_row w _ _ _ _ _ (h.blk i x hi)]
  simpa using hc j v hj

theorem run_loadVar_one {P:Program} {t:TypeId} {i:TI} (hi:InfoOk P t i) (hagg:i.agg=false) {a:Addr} {v:Value} (hc:w.cell? a=some v):(loadVar t a).run P w=.ok v w:=by
 obtain ⟨d,hd,_,hda⟩:=hi.d
 rw[hagg] at hda
 have:(isAgg t).run P w=.ok false w:=by
  cases d<;>simp_all [isAgg,run_underlying hd,isAggD]
 simp[loadVar,this,hc]

theorem run_loadVar_agg {P:Program} {t:TypeId} {i:TI} (hi:InfoOk P t i) (hagg:i.agg=true) {a:Addr} {vs:List Value} (hl:vs.length=i.size) (hc:∀ j v,vs[j]?=some v→w.cell? (a.add j)=some v) :
  (loadVar t a).run P w=.ok (.agg vs.toArray) w:=by
 obtain ⟨d,hd,_,hda⟩:=hi.d
 obtain ⟨inf,z,hinf,hsz,_⟩:=hi.inf
 rw[hagg] at hda
 have h1:(isAgg t).run P w=.ok true w:=by
  cases d<;>simp_all [isAgg,run_underlying hd,isAggD]
 have h2:(sizeOf t).run P w=.ok vs.length w:=by simp[sizeOf,typeInfo,hinf,hsz,hl]
 simp[loadVar,h1,h2,run_loadCells_list (P:=P) w a vs hc]

theorem length_setAt (vs:List Value):∀ (l:List Value) (o:Nat),(setAt l o vs).length=l.length:=by
 induction vs with
 | nil=>intro l o;rfl
 | cons v vs ih=>intro l o;simp[setAt,ih]

theorem setAt_eq (vs:List Value):∀ (l:List Value) (o:Nat),o+vs.length≤l.length→setAt l o vs=l.take o++vs++l.drop (o+vs.length):=by
 induction vs with
 | nil=>intro l o h;simp[setAt]
 | cons v vs ih =>
  intro l o h
  simp only[List.length_cons] at h
  rw[setAt,ih (l.set o v) (o+1) (by simp;omega)]
  have h1:(l.set o v).take (o+1)=l.take o++[v]:=by
   rw[List.take_succ_eq_append_getElem (by simp;omega)]
   simp[List.take_set_of_le]
  have h2:(l.set o v).drop (o+1+vs.length)=l.drop (o+(vs.length+1)):=by
   rw[List.drop_set_of_lt (by omega),show o+1+vs.length=o+(vs.length+1) from by omega]
  rw[h1,h2]
  simp[List.append_assoc,List.length_cons]

theorem take_setAt (vs:List Value) (l:List Value) (m o:Nat) (hm:m≤l.length) (ho:o+vs.length≤m):(l.take o++vs++l.drop (o+vs.length)).take m=setAt (l.take m) o vs:=by
 rw[setAt_eq _ _ _ (by rw[List.length_take];omega)]
 rw[List.take_append,List.take_append,List.take_take,Nat.min_eq_right (by omega)]
 have e1:(l.take o).length=o:=by rw[List.length_take];omega
 have e2:vs.take (m - o)=vs:=List.take_of_length_le (by omega)
 rw[e1,e2,List.take_take,Nat.min_eq_left (by omega),List.length_append,e1,List.drop_take]

theorem flat_mem:∀ {l:List Value},flat l=true→∀ v∈l,v.oneCell'=true:=by
 intro l
 induction l with
 | nil=>intro _ v hv;simp at hv
 | cons a l ih =>
  intro h v hv
  simp only[flat,Bool.and_eq_true] at h
  rcases List.mem_cons.1 hv with rfl | hv
  ·exact h.1
  ·exact ih h.2 v hv

theorem run_storeVar_at {P:Program} {t:TypeId} {i:TI} (hi:InfoOk P t i) {y:Value} (hl:(cellsL y).length=i.size) (hf:flat (cellsL y)=true) {g o:Nat} {cur:Array Value} {t':TypeId}
  (hg:w.heap[g]?=some (.cells cur t' (0,0))) (hfit:o+(cellsL y).length≤cur.size) :
  (storeVar t ⟨g,o,none⟩ y).run P w=.ok () (w.setRow g (cur.toList.take o++cellsL y++cur.toList.drop (o+(cellsL y).length)).toArray):=by
 obtain ⟨inf,z,hinf,hsz,_⟩:=hi.inf
 have hs:y.cells.size=inf.size:=by rw[cellsL_eq] at hl;simpa [hsz] using hl
 have:=run_storeCells_at (P:=P) g o t' (cellsL y) 0 cur w hg (by simpa using hfit) (flat_mem hf)
 rw[cellsL_eq] at this
 simp only[Nat.add_zero] at this
 rw[cellsL_eq]
 simp[storeVar,sizeOf,typeInfo,hinf,hs,this]

theorem run_fieldAt {P:Program} {T:Tab} (hT:TabOk P T) {s f off sz:Nat} {i:TI} {fs:List (Nat × Nat)} (hs:T s=some i) (hk:i.kind=.struct fs) (hf:fs[f]?=some (off,sz)) (a:Addr) (w:World) :
  (Instr.fieldAt s (.pointer (some a)) f).run P w=.ok (.pointer (some (a.add off))) w:=by
 obtain ⟨d,hd,hdk,_⟩:=(hT s i hs).d
 rw[hk] at hdk
 obtain ⟨fields,rfl,_,hfs⟩:=hdk
 obtain ⟨fd,inf,hfd,rfl,hinf,rfl,hne⟩:=hfs f off sz hf
 simp[Instr.fieldAt,run_underlying hd,hfd,Instr.sureAddr,fieldPlace,sizeOf,typeInfo,hinf,hne]

theorem run_indexAt_sl {P:Program} {T:Tab} (hT:TabOk P T) {t e:TypeId} {i ei:TI} (hs:T t=some i) (hk:i.kind=.slice e) (he:T e=some ei) (b:Addr) (n c j:Nat) (hj:j < n) (w:World) :
  (Instr.indexAt t (.slice (some b) n c) (.int .i64 (j:Int))).run P w=.ok (.pointer (some (b.add (j*ei.size)))) w:=by
 obtain ⟨d,hd,hdk,_⟩:=(hT t i hs).d
 rw[hk] at hdk
 have hdk:d=.slice e:=hdk
 subst hdk
 obtain ⟨inf,z,hinf,hsz,_⟩:=(hT e ei he).inf
 have h1:(0:Int)≤(j:Int)∧(j:Int) < (n:Int):=by omega
 simp[Instr.indexAt,run_underlying hd,asIntOf,sizeOf,typeInfo,hinf,hsz,hj]

theorem run_indexAt_arr {P:Program} {T:Tab} (hT:TabOk P T) {t e:TypeId} {i ei:TI} {n:Nat} (hs:T t=some i) (hk:i.kind=.array n e) (he:T e=some ei) (b:Addr) (j:Nat) (hj:j < n) (w:World) :
  (Instr.indexAt t (.pointer (some b)) (.int .i64 (j:Int))).run P w=.ok (.pointer (some (b.add (j*ei.size)))) w:=by
 obtain ⟨d,hd,hdk,_⟩:=(hT t i hs).d
 rw[hk] at hdk
 have hdk:d=.array n e:=hdk
 subst hdk
 obtain ⟨inf,z,hinf,hsz,_⟩:=(hT e ei he).inf
 simp[Instr.indexAt,run_underlying hd,asIntOf,Instr.sureAddr,sizeOf,typeInfo,hinf,hsz,hj]

theorem run_len_sl {P:Program} {T:Tab} (hT:TabOk P T) {t e:TypeId} {i:TI} (hs:T t=some i) (hk:i.kind=.slice e) (a:Option Addr) (n c:Nat) (ty:TypeId) (w:World) :
  (Builtin.len_ #[t] ty #[.slice a n c]).run P w=.ok (.int .i64 (n:Int)) w:=by
 obtain ⟨d,hd,hdk,_⟩:=(hT t i hs).d
 rw[hk] at hdk
 have hdk:d=.slice e:=hdk
 subst hdk
 simp[Builtin.len_,run_underlying hd,goInt]

theorem run_len_str {P:Program} {T:Tab} (hT:TabOk P T) {t:TypeId} {i:TI} (hs:T t=some i) (hk:i.kind=.str) (s:ByteArray) (ty:TypeId) (w:World) :
  (Builtin.len_ #[t] ty #[.string s]).run P w=.ok (.int .i64 (s.data.toList.length:Int)) w:=by
 obtain ⟨d,hd,hdk,_⟩:=(hT t i hs).d
 rw[hk] at hdk
 have hdk:d=.string:=hdk
 subst hdk
 show _=Result.ok (Value.int .i64 ((s.size:Nat):Int)) w
 simp[Builtin.len_,run_underlying hd,goInt]

theorem fill_eq (place:Nat→Option (Nat × Nat)):∀ (parts:List (Nat × Value)) (cs out:List Value),fillO place cs (parts.map fun p=>(p.1,cellsL p.2))=some out→Instr.fill place cs.toArray parts=some out.toArray:=by
 intro parts
 induction parts with
 | nil=>intro cs out h;simp[fillO] at h;subst h;rfl
 | cons p rest ih =>
  intro cs out h
  obtain ⟨k,v⟩:=p
  simp only[List.map_cons,fillO] at h
  cases hp:place k with
  | none=>rw[hp] at h;cases h
  | some q =>
   obtain ⟨off,size⟩:=q
   rw[hp] at h
   simp only at h
   cases hb:Nat.beq (cellsL v).length size && Nat.ble (off+size) cs.length with
   | false=>rw[hb] at h;cases h
   | true =>
    rw[hb] at h
    simp only[Bool.and_eq_true] at hb
    have h1:(cellsL v).length=size:=Nat.eq_of_beq_eq_true hb.1
    have h2:off+size≤cs.length:=Nat.le_of_ble_eq_true hb.2
    have h:=ih _ _ h
    simp only[Instr.fill,hp]
    have hsz:v.cells.size=size:=by rw[cellsL_eq] at h1;simpa using h1
    rw[if_neg (by simp[hsz];omega)]
    rw[← h]
    congr 1
    rw[cellsL_eq]
    have key:∀ (vs:List Value) (o:Nat) (l:List Value),(vs.zipIdx o).foldl (fun (a:Array Value) (x:Value × Nat)=>a.setIfInBounds (off+x.2) x.1) l.toArray=(setAt l (off+o) vs).toArray:=by
     intro vs
     induction vs with
     | nil=>intro o l;rfl
     | cons u us ih2 =>
      intro o l
      simp only[List.zipIdx_cons,List.foldl_cons,List.setIfInBounds_toArray,setAt]
      rw[ih2 (o+1) (l.set (off+o) u)]
      rfl
    have:=key v.cells.toList 0 cs
    rw[← Array.foldl_toList,Array.toList_zipIdx]
    simpa using this

theorem run_build_st {P:Program} {T:Tab} (hT:TabOk P T) {t:TypeId} {i:TI} {fs:List (Nat × Nat)} (hs:T t=some i) (hk:i.kind=.struct fs) (parts:Array (Nat × Value)) (out:List Value)
  (h:fillO (fs[·]?) i.zero (parts.toList.map fun p=>(p.1,cellsL p.2))=some out) (w:World) :
  (Instr.build t parts).run P w=.ok (.agg out.toArray) w:=by
 obtain ⟨d,hd,hdk,_⟩:=(hT t i hs).d
 rw[hk] at hdk
 obtain ⟨fields,rfl,hlen,hfs⟩:=hdk
 obtain ⟨inf,z,hinf,_,_,hz,hzc⟩:=(hT t i hs).inf
 have hm:(fields.mapM (m:=Sem) fun f=>do pure (f.offset,← sizeOf f.type)).run P w=.ok fs.toArray w:=by
  have key:∀ (l:List Field) (gs:List (Nat × Nat)),l.length=gs.length→(∀ (k off sz:Nat),gs[k]?=some (off,sz)→∃ (f:Field) (inf:TypeInfo),l[k]?=some f∧f.offset=off∧P.info? f.type=some inf∧inf.size=sz∧sz≠0) →
    (l.mapM (m:=Sem) fun f=>do pure (f.offset,← sizeOf f.type)).run P w=.ok gs w:=by
   intro l
   induction l with
   | nil=>intro gs hg _;cases gs with | nil=>rfl | cons a b=>simp at hg
   | cons f l ih =>
    intro gs hg hh
    cases gs with
    | nil=>simp at hg
    | cons a b =>
     obtain ⟨off,sz⟩:=a
     obtain ⟨f',inf',hf',rfl,hinf',rfl,_⟩:=hh 0 off sz rfl
     simp at hf'
     subst hf'
     have:=ih b (by simpa using hg) (fun k off sz hk=>by simpa using hh (k+1) off sz (by simpa using hk))
     simp only[List.mapM_cons,Sem.run_bind,sizeOf,typeInfo,run_program,Result.andThen_ok,hinf',Sem.run_pure]
     simp only[sizeOf,typeInfo] at this
     rw[this]
     rfl
  have:=key fields.toList fs (by simpa using hlen) (fun k off sz hk=>by simpa using hfs k off sz hk)
  rw[Array.mapM_eq_mapM_toList,Sem.run_map,this]
  rfl
 have hfill:=fill_eq (fs[·]?) parts.toList i.zero out h
 simp only[Instr.build,Sem.run_bind,zeroValue,typeInfo,run_program,Result.andThen_ok,hinf,Sem.run_pure,hz,run_underlying hd,hm,hzc]
 have hfill':Instr.fill (fun x=>fs.toArray[x]?) i.zero.toArray parts.toList=some out.toArray:=by
  rw[← hfill]
  congr 1
  funext x
  simp
 rw[hfill']
 rfl
end
end Go.Eng
/-
  The engine, fourth part: what is asked of an operation suffices for its run. It holds of every program whose table of types is met.
-/
namespace Go.Eng
open Go.RowKit

theorem length_repL (z:List Value):∀ n,(repL z n).length=n*z.length:=by
 intro n
 induction n with
 | zero=>simp[repL]
 | succ n ih=>simp[repL,ih,Nat.succ_mul,Nat.add_comm]

theorem getElem_repL (z:List Value) (_hz:0 < z.length):∀ (n j:Nat),j < n*z.length→(repL z n)[j]?=z[j % z.length]?:=by
 intro n
 induction n with
 | zero=>intro j h;simp at h
 | succ n ih =>
  intro j h
  rw[repL]
  by_cases hj:j < z.length
  ·rw[List.getElem?_append_left hj,Nat.mod_eq_of_lt hj]
  ·rw[List.getElem?_append_right (by omega),ih (j - z.length) (by rw[Nat.succ_mul] at h;omega),← Nat.mod_eq_sub_mod (by omega)]

theorem made_repL (z:List Value) (hz:0 < z.length) (n:Nat):(Array.range (n*z.length)).map (fun i=>z.toArray[i % z.toArray.size]!)=(repL z n).toArray:=by
 apply Array.ext'
 apply List.ext_getElem?
 intro j
 by_cases hj:j < n*z.length
 ·show _=(repL z n)[j]?
  rw[getElem_repL z hz n j hj]
  have hm:j % z.length < z.length:=Nat.mod_lt _ hz
  simp[hj,hm]
 ·have h1:(repL z n)[j]?=none:=List.getElem?_eq_none (by rw[length_repL];omega)
  simp[h1]
  omega

theorem fillO_length (place:Nat→Option (Nat × Nat)):∀ (parts:List (Nat × List Value)) (cs out:List Value),fillO place cs parts=some out→out.length=cs.length:=by
 intro parts
 induction parts with
 | nil=>intro cs out h;simp[fillO] at h;subst h;rfl
 | cons p rest ih =>
  intro cs out h
  obtain ⟨k,v⟩:=p
  simp only[fillO] at h
  cases hp:place k with
  | none=>rw[hp] at h;cases h
  | some q =>
   obtain ⟨off,size⟩:=q
   rw[hp] at h
   simp only at h
   cases hb:Nat.beq v.length size && Nat.ble (off+size) cs.length with
   | false=>rw[hb] at h;cases h
   | true=>rw[hb] at h;rw[ih _ _ h,length_setAt]

section
variable {C:Ctx} {hp:List LB} {rows:List Row} {A:Anch} {w w':World}

theorem row_split {i:Nat} {r:Row} (h:rows[i]?=some r):rows=rows.take i++[r]++rows.drop (i+1):=by
 obtain ⟨hl,he⟩:=List.getElem?_eq_some_iff.1 h
 have:=List.take_append_drop i rows
 rw[List.drop_eq_getElem_cons hl,he] at this
 simpa using this.symm

theorem nums_mid (hp:List LB) (a c:List Row) (r:Row):(nums hp (a++[r]++c)).Perm ((match r.v.ownBlock with | some k=>[k] | none=>[])++nums hp (a++c)):=by
 unfold nums
 cases hr:r.v.ownBlock with
 | none=>simp[List.filterMap_append,hr]
 | some k =>
  simp only[List.filterMap_append,List.filterMap_cons,hr,List.append_assoc,List.cons_append,List.nil_append]
  rw[← List.append_assoc,← List.append_assoc]
  exact List.perm_middle

theorem RelW.grow (h:RelW C hp rows A w) {i:Nat} {x v':Value} {e:TypeId} {sz n:Nat} {xs:List Value}
  (hx:(∃ r,rows[i]?=some r∧r.v=x)∨(i=rows.length∧x=.slice none 0 0)) (own':w'.ownsRow 0 e sz v' n xs) (hg:w.grownBy w' x.ownBlock)
  (hb:v'.ownBlock=x.ownBlock∨v'.ownBlock=some w.heap.size) :
  RelW C hp (rows.take i++[{ v:=v',n:=n,xs:=xs,e:=e,sz:=sz }]++rows.drop (i+1)) A w':=by
 have hil:i≤rows.length:=by
  rcases hx with ⟨r,hr,_⟩ | ⟨hi,_⟩
  ·have:=(List.getElem?_eq_some_iff.1 hr).1;omega
  ·omega
 have hold:∀ k,x.ownBlock=some k→∃ r,rows[i]?=some r∧r.v.ownBlock=some k:=by
  intro k hk
  rcases hx with ⟨r,hr,rfl⟩ | ⟨_,rfl⟩
  ·exact ⟨r,hr,hk⟩
  ·simp[Value.ownBlock] at hk
 have hsub:∀ k,k∈nums hp (rows.take i++rows.drop (i+1))→k∈nums hp rows:=by
  intro k hk
  unfold nums at hk ⊢
  simp only[List.filterMap_append,List.mem_append] at hk ⊢
  rcases hk with hk | hk | hk
  ·exact .inl hk
  ·obtain ⟨r,hr,hk⟩:=List.mem_filterMap.1 hk
   exact .inr (List.mem_filterMap.2 ⟨r,List.mem_of_mem_take hr,hk⟩)
  ·obtain ⟨r,hr,hk⟩:=List.mem_filterMap.1 hk
   exact .inr (List.mem_filterMap.2 ⟨r,List.mem_of_mem_drop hr,hk⟩)
 have hrest:(nums hp (rows.take i++rows.drop (i+1))).Nodup∧∀ k,x.ownBlock=some k→k ∉ nums hp (rows.take i++rows.drop (i+1)):=by
  rcases hx with ⟨r,hr,rfl⟩ | ⟨hi,rfl⟩
  ·have hn:=h.nodup
   rw[row_split hr] at hn
   have hn:=(nums_mid hp _ _ r).nodup_iff.1 hn
   refine ⟨(List.nodup_append.1 hn).2.1,fun k hk hm=>?_⟩
   rw[hk] at hn
   exact (List.nodup_cons.1 hn).1 hm
  ·refine ⟨?_,fun k hk=>by simp[Value.ownBlock] at hk⟩
   subst hi
   rw[List.take_of_length_le (Nat.le_refl _),List.drop_of_length_le (by omega),List.append_nil]
   exact h.nodup
 refine h.step (G:=fun k=>some k=x.ownBlock) ⟨hg.os,hg.tape,hg.output,hg.size,fun k hk hn=>hg.block k hk hn⟩ (fun k hk _=>?_) ?_ ?_ ?_ ?_
 ·obtain ⟨r,hr,hk⟩:=hold k hk.symm
  exact mem_nums_row hr hk
 ·intro j y hj
  rw[hg.block y.b (h.lt _ (mem_nums_hp hj)) (fun e=>by obtain ⟨r,hr,hk⟩:=hold _ e.symm;exact nodup_sep_hp_row h hj hr hk)]
  exact h.blk j y hj
 ·have other:∀ (j:Nat) (r:Row),rows[j]?=some r→j≠i→w'.ownsRow 0 r.e r.sz r.v r.n r.xs:=by
   intro j r hj hne
   refine owns_keep (h.row j r hj) (fun k hk=>hg.block k (h.lt _ (mem_nums_row hj hk)) (fun e=>?_))
   obtain ⟨r2,hr2,hk2⟩:=hold k e.symm
   have hn:=h.nodup
   unfold nums at hn
   exact hne (nodup_rows_at (List.nodup_append.1 hn).2.1 hj hr2 hk hk2)
  intro j r hj
  have hlt:(rows.take i).length=i:=by rw[List.length_take];omega
  rcases Nat.lt_trichotomy j i with hji | hji | hji
  ·rw[List.append_assoc,List.getElem?_append_left (by omega),List.getElem?_take_of_lt hji] at hj
   exact other j r hj (by omega)
  ·subst hji
   rw[List.append_assoc,List.getElem?_append_right (by omega),hlt] at hj
   simp at hj
   subst hj
   exact own'
  ·rw[List.append_assoc,List.getElem?_append_right (by omega),hlt] at hj
   obtain ⟨d,rfl⟩:∃ d,j=i+1+d:=⟨j - (i+1),by omega⟩
   rw[show i+1+d - i=d+1 from by omega] at hj
   simp only[List.cons_append,List.nil_append,List.getElem?_cons_succ,List.getElem?_drop] at hj
   exact other (i+1+d) r hj (by omega)
 ·refine (nums_mid hp _ _ _).nodup_iff.2 ?_
  cases hv:v'.ownBlock with
  | none=>simpa using hrest.1
  | some k =>
   refine List.nodup_cons.2 ⟨?_,hrest.1⟩
   rcases hb with hb | hb
   ·exact hrest.2 k (by rw[← hb];exact hv)
   ·rw[hv] at hb
    injection hb with hb
    subst hb
    intro hk
    have:=h.lt _ (hsub _ hk)
    omega
 ·intro k hk
  have hk:=(nums_mid hp _ _ _).mem_iff.1 hk
  rcases List.mem_append.1 hk with hk | hk
  ·cases hv:v'.ownBlock with
   | none=>simp[hv] at hk
   | some k' =>
    simp[hv] at hk
    subst hk
    rcases hb with hb | hb
    ·obtain ⟨r,hr,hk⟩:=hold k (by rw[← hb];exact hv)
     exact .inl (mem_nums_row hr hk)
    ·rw[hv] at hb
     injection hb with hb
     exact .inr (by omega)
  ·exact .inl (hsub k hk)

theorem owns_shape {b e sz n:Nat} {v:Value} {xs:List Value} (h:w.ownsRow b e sz v n xs):RowShape v n:=by
 rcases h.2 with ⟨rfl,rfl⟩ | ⟨g,cap,cur,rfl,_,_,hnc,_⟩
 ·exact .inl ⟨rfl,rfl⟩
 ·exact .inr ⟨g,cap,rfl,hnc⟩

theorem run_sliceBound {P:Program} (l y:Nat) (code:BoundsCode) (h:l≤y):(Instr.sliceBound (.int .i64 (l:Int)) y code).run P w=.ok l w:=by
 have h1:(0:Int)≤(l:Int)∧(l:Int)≤(y:Int):=by omega
 simp[Instr.sliceBound,asIntOf,h]

theorem run_bounds {P:Program} (b:Bool) (len cap l h:Nat) (lo hi:Option Value) (hlo:match lo with | none=>l=0 | some p=>p=.int .i64 (l:Int)) (hhi:match hi with | none=>h=len | some p=>p=.int .i64 (h:Int))
  (hl:l≤h) (hc:h≤cap):(Instr.sliceBounds b len cap lo hi none).run P w=.ok (l,h,cap) w:=by
 cases lo with
 | none =>
  cases hi with
  | none=>simp only at hlo hhi;subst hlo;subst hhi;simp[Instr.sliceBounds]
  | some q=>simp only at hlo hhi;subst hlo;subst hhi;cases b<;>simp[Instr.sliceBounds,run_sliceBound,hc]
 | some p =>
  cases hi with
  | none=>simp only at hlo hhi;subst hlo;subst hhi;simp[Instr.sliceBounds,run_sliceBound,hl]
  | some q=>simp only at hlo hhi;subst hlo;subst hhi;cases b<;>simp[Instr.sliceBounds,run_sliceBound,hc,hl]

theorem extract_list (s:ByteArray) (l h:Nat) (_hh:h≤s.data.toList.length):s.extract l h=⟨⟨(s.data.toList.take h).drop l⟩⟩:=by
 have:(s.extract l h).data=(⟨(s.data.toList.take h).drop l⟩:Array UInt8):=by
  rw[ByteArray.data_extract]
  apply Array.ext'
  simp[Array.toList_extract,List.extract_eq_take_drop,List.drop_take]
 cases hs:s.extract l h with
 | mk d=>rw[hs] at this;simp only at this;rw[this]
end
end Go.Eng
/-
  The engine, fifth part: each operation's clause suffices for its run. It holds of every program whose table of types is met.
-/
namespace Go.Eng
open Go.RowKit

structure Rel (C:Ctx) (n:Nat) (st:St) (A:Anch) (a:Act) (w:World):Prop where
 size:a.tmps.size=n
 tm:∀ i,a.tmps.getD i undef=(st.env i).val st.hp
 wf:∀ i,SVok st.hp (st.env i)
 df:a.defers=st.df
 rw:RelW C st.hp st.rows A w

def OpRun (P:Program) (next:Value→World→Prop) (qp:List PanicEntry→World→Prop):Result Next→Prop
 | .ok (.value v) w'=>next v w'
 | .ok .skip w'=>next undef w'
 | .ok (.enter f args) w'=>Calls P f args w' fun
   | .returned v,w''=>next v w''
   | .panicked ch,w''=>qp ch w''
   | .outgrown,_=>False
 | .halt (.panic v) w'=>qp [{ v,recovered:=false }] w'
 | _=>False

theorem OpRun.wp {P:Program} {o:Oper} {a:Act} {w:World} {next:Act→World→Prop} {Q:Exit→Act→World→Prop}
  (h:OpRun P (fun v w'=>next (a.put o.dst v) w') (fun ch w'=>Q (.panic ch) a w') ((execOp a.eval o).run P w)):o.wp P a w next Q:=by
 unfold Oper.wp
 revert h
 cases (execOp a.eval o).run P w with
 | ok x w' =>
  cases x<;>intro h<;>try exact h.elim
  ·exact h
  ·exact h
  ·refine h.mono fun e w'' he=>?_
   cases e with
   | returned v=>exact he
   | panicked ch=>exact he
   | outgrown=>exact he.elim
 | halt x w' =>
  cases x<;>intro h<;>first | exact h.elim | exact h

section
variable {P:Program} {T:Tab} {F:FuncId→Bool} {C:Ctx} {n:Nat} {st:St} {A:Anch} {a:Act} {w:World} {K:Cont} {Qp:PCont} {next:Value→World→Prop} {qp:List PanicEntry→World→Prop}

theorem Rel.eval (hr:Rel C n st A a w) (x:Operand):a.eval x=(sv st x).val st.hp:=by
 cases x with
 | tmp t=>exact hr.tm t
 | const v=>exact (SV.val_of st.hp v).symm
 | global g=>rfl
 | func f=>rfl
theorem Rel.ok (hr:Rel C n st A a w) (x:Operand):SVok st.hp (sv st x):=by
 cases x with
 | tmp t=>exact hr.wf t
 | const v=>exact SVok.of_ st.hp v
 | global g=>trivial
 | func f=>trivial

def Nx (C:Ctx) (hp0:List LB) (K:Cont) (next:Value→World→Prop):Prop:=∀ s hp rows A w,K s hp rows A→RelW C hp rows A w→Ext hp0 hp→SVok hp s→next (s.val hp) w
def Px (C:Ctx) (hp0:List LB) (Qp:PCont) (qp:List PanicEntry→World→Prop):Prop:=∀ ch hp rows A w,Qp ch hp rows A→RelW C hp rows A w→Ext hp0 hp→qp ch w

theorem Nx.same (hN:Nx C st.hp K next) (hr:Rel C n st A a w) {s:SV} (h:K s st.hp st.rows A) (hs:SVok st.hp s):next (s.val st.hp) w:=hN _ _ _ _ _ h hr.rw (Ext.refl _) hs

theorem bcase.use {c:SV} {A B:Prop} (h:bcase c A B):∃ b:Bool,(∀ hp,c.val hp=.bool b)∧(b=true→A)∧(b=false→B):=by
 unfold bcase at h
 split at h
 ·exact ⟨true,fun _=>rfl,fun _=>h,fun h'=>(by cases h')⟩
 ·exact ⟨false,fun _=>rfl,fun h'=>(by cases h'),fun _=>h⟩
 ·exact ⟨_,fun _=>rfl,h.1,h.2⟩
 ·exact h.elim

theorem s_move {x:Operand} {o:Oper} (ho:o.op=.move x∨o.op=.assign x) (h:K (sv st x) st.hp st.rows A) (hr:Rel C n st A a w) (hN:Nx C st.hp K next):OpRun P next qp ((execOp a.eval o).run P w):=by
 have:(execOp a.eval o).run P w=.ok (.value (a.eval x)) w:=by rcases ho with ho | ho<;>simp[execOp,ho]
 rw[this,hr.eval]
 exact hN.same hr h (hr.ok x)

theorem s_pick {c x y:Operand} {o:Oper} (ho:o.op=.pick c x y) (h:bcase (sv st c) (K (sv st x) st.hp st.rows A) (K (sv st y) st.hp st.rows A)) (hr:Rel C n st A a w) (hN:Nx C st.hp K next):OpRun P next qp ((execOp a.eval o).run P w):=by
 obtain ⟨b,hv,ht,hf⟩:=bcase.use h
 have hc:a.eval c=.bool b:=by rw[hr.eval];exact hv _
 cases b with
 | true =>
  have:(execOp a.eval o).run P w=.ok (.value (a.eval x)) w:=by simp[execOp,ho,hc,asBool]
  rw[this,hr.eval]
  exact hN.same hr (ht rfl) (hr.ok x)
 | false =>
  have:(execOp a.eval o).run P w=.ok (.value (a.eval y)) w:=by simp[execOp,ho,hc,asBool]
  rw[this,hr.eval]
  exact hN.same hr (hf rfl) (hr.ok y)

theorem s_new {cs:List Value} {t:TypeId} (h:∀ b,A.w.heap.size≤b→K (.loc st.hp.length 0) (st.hp++[⟨b,cs,t⟩]) st.rows A) (hr:Rel C n st A a w) (hN:Nx C st.hp K next) :
  next (.pointer (some ⟨w.heap.size,0,none⟩)) (w.alloc (.cells cs.toArray t)):=by
 have:=hN _ _ _ _ _ (h w.heap.size hr.rw.asz) (hr.rw.alloc_hp cs t) (Ext.snoc _ _) (by simp[SVok])
 simpa [SV.val,bnum_snoc] using this

theorem s_alloc (hT:TabOk P T) {t:TypeId} {o:Oper} (ho:o.op=.alloc t) (h:vcOp P T F C (.alloc t) st A K Qp) (hr:Rel C n st A a w) (hN:Nx C st.hp K next):OpRun P next qp ((execOp a.eval o).run P w):=by
 simp only[vcOp] at h
 cases ht:T t with
 | none=>rw[ht] at h;exact h.elim
 | some i =>
  rw[ht] at h
  obtain ⟨inf,z,hinf,_,_,hz,hzc⟩:=(hT t i ht).inf
  have hrun:(execOp a.eval o).run P w=.ok (.value (.pointer (some ⟨w.heap.size,0,none⟩))) (w.alloc (.cells i.zero.toArray t)):=by
   simp[execOp,ho,Instr.alloc,zeroValue,typeInfo,hinf,hz,newVar,newRow,hzc]
  rw[hrun]
  exact s_new h hr hN

theorem s_box {t:TypeId} {x:Operand} {o:Oper} (ho:o.op=.box t x) (h:vcOp P T F C (.box t x) st A K Qp) (hr:Rel C n st A a w) (hN:Nx C st.hp K next):OpRun P next qp ((execOp a.eval o).run P w):=by
 have hrun:(execOp a.eval o).run P w=.ok (.value (.pointer (some ⟨w.heap.size,0,none⟩))) (w.alloc (.cells (cellsL ((sv st x).val st.hp)).toArray t)):=by
  simp[execOp,ho,Instr.box,newVar,newRow,hr.eval,cellsL_eq]
 rw[hrun]
 exact s_new h hr hN

theorem parts_eval (hr:Rel C n st A a w) (parts:Array (Nat × Operand)) :
  ((parts.map fun (p:Nat × Operand)=>(p.1,a.eval p.2)).toList.map fun p=>(p.1,cellsL p.2))=parts.toList.map fun p=>(p.1,cellsL ((sv st p.2).val st.hp)):=by
 simp only[Array.toList_map,List.map_map]
 apply List.map_congr_left
 intro p _
 simp[Function.comp,hr.eval]

theorem s_build (hT:TabOk P T) {t:TypeId} {parts:Array (Nat × Operand)} {o:Oper} (ho:o.op=.build t parts) (h:vcOp P T F C (.build t parts) st A K Qp) (hr:Rel C n st A a w) (hN:Nx C st.hp K next):OpRun P next qp ((execOp a.eval o).run P w):=by
 simp only[vcOp] at h
 cases ht:T t with
 | none=>rw[ht] at h;exact h.elim
 | some i =>
  obtain ⟨agg,size,bytes,zero,kind⟩:=i
  rw[ht] at h
  cases kind<;>try exact h.elim
  rename_i fs
  simp only at h
  cases hf:fillO (fs[·]?) zero (parts.toList.map fun p=>(p.1,cellsL ((sv st p.2).val st.hp))) with
  | none=>rw[hf] at h;exact h.elim
  | some cs =>
   rw[hf] at h
   rw[← parts_eval hr] at hf
   have hrun:=run_build_st hT ht rfl (parts.map fun (p:Nat × Operand)=>(p.1,a.eval p.2)) cs hf w
   have:(execOp a.eval o).run P w=.ok (.value (.agg cs.toArray)) w:=by simp only[execOp,ho,Sem.run_bind,hrun,Result.andThen_ok,Sem.run_pure]
   rw[this]
   exact hN.same hr h trivial

theorem s_buildSlice (hT:TabOk P T) {t:TypeId} {len:Nat} {parts:Array (Nat × Operand)} {o:Oper} (ho:o.op=.buildSlice t len parts) (h:vcOp P T F C (.buildSlice t len parts) st A K Qp) (hr:Rel C n st A a w) (hN:Nx C st.hp K next):OpRun P next qp ((execOp a.eval o).run P w):=by
 simp only[vcOp] at h
 cases ht:T t with
 | none=>rw[ht] at h;exact h.elim
 | some i =>
  obtain ⟨agg,size,bytes,zero,kind⟩:=i
  rw[ht] at h
  cases kind<;>try exact h.elim
  rename_i e
  simp only at h
  cases he:T e with
  | none=>rw[he] at h;exact h.elim
  | some ei =>
   rw[he] at h
   simp only at h
   cases hf:fillO (fun i=>some (i*ei.size,ei.size)) (repL ei.zero len) (parts.toList.map fun p=>(p.1,cellsL ((sv st p.2).val st.hp))) with
   | none=>rw[hf] at h;exact h.elim
   | some cs =>
    rw[hf] at h
    simp only at h
    cases hb:Nat.ble (len*ei.size) 16777216 && Nat.blt 0 ei.size with
    | false=>rw[hb] at h;exact h.elim
    | true =>
     rw[hb] at h
     simp only[Bool.and_eq_true] at hb
     have h1:len*ei.size≤16777216:=Nat.le_of_ble_eq_true hb.1
     have h2:0 < ei.size:=Nat.le_of_ble_eq_true hb.2
     obtain ⟨d,hd,hdk,_⟩:=(hT t _ ht).d
     have hdk:d=.slice e:=hdk
     subst hdk
     obtain ⟨inf,z,hinf,hsz,_,hz,hzc⟩:=(hT e ei he).inf
     have hzl:ei.zero.length=ei.size:=(hT e ei he).zsize
     rw[← parts_eval hr] at hf
     have hfe:=fill_eq (fun i=>some (i*ei.size,ei.size)) _ (repL ei.zero len) cs hf
     have hcl:cs.length=len*ei.size:=by rw[fillO_length _ _ _ _ hf,length_repL,hzl]
     have hm:=made_repL ei.zero (by omega) len
     rw[hzl] at hm
     have hrun:(Instr.buildSlice t len (parts.map fun (p:Nat × Operand)=>(p.1,a.eval p.2))).run P w=.ok (.slice (some ⟨w.heap.size,0,none⟩) len len) (w.alloc (.cells cs.toArray e)):=by
      have n1:¬ (len*inf.size > 2 ^ 24):=by rw[hsz];omega
      simp only[Instr.buildSlice,Sem.run_bind,run_underlying hd,Result.andThen_ok,sizeOf,typeInfo,run_program,hinf,Sem.run_pure,Sem.run_ite]
      rw[if_neg n1]
      by_cases h0:len*inf.size=0
      ·rw[if_pos h0]
       have hl0:len*ei.size=0:=by rw[← hsz];exact h0
       have hlen0:len=0:=by rcases Nat.mul_eq_zero.1 hl0 with h | h<;>omega
       subst hlen0
       simp only[Nat.zero_mul]
       have:(Array.map (fun i=>(#[]:Array Value)[i % (#[]:Array Value).size]!) (Array.range 0))=(repL ei.zero 0).toArray:=by simp[repL]
       rw[this,hsz,hfe]
       simp[newRow]
      ·rw[if_neg h0]
       simp only[Sem.run_bind,zeroValue,typeInfo,run_program,Result.andThen_ok,hinf,Sem.run_pure,hz,hzc]
       rw[hsz]
       have hm':Array.map (fun i=>ei.zero.toArray[i % ei.zero.toArray.size]!) (Array.range (len*ei.size))=(repL ei.zero len).toArray:=hm
       rw[hm',hfe]
       simp[newRow]
     have:(execOp a.eval o).run P w=.ok (.value (.slice (some ⟨w.heap.size,0,none⟩) len len)) (w.alloc (.cells cs.toArray e)):=by simp only[execOp,ho,Sem.run_bind,hrun,Result.andThen_ok,Sem.run_pure]
     rw[this]
     exact hN _ _ _ _ _ (h w.heap.size hr.rw.asz) (hr.rw.alloc_row len len cs cs.toArray e ei.size hcl (Nat.le_refl _) (by simp only[maxLen];have:=Nat.le_mul_of_pos_right len h2;omega) (by simpa using hcl) (by rw[← hcl];simp)) (Ext.refl _) trivial
end
end Go.Eng
/-
  The engine, sixth part: the other operations' clauses suffice for their runs. It holds of every program whose table of types is met.
-/
namespace Go.Eng
open Go.RowKit

section
variable {P:Program} {T:Tab} {F:FuncId→Bool} {C:Ctx} {n:Nat} {st:St} {A:Anch} {a:Act} {w:World} {K:Cont} {Qp:PCont} {next:Value→World→Prop} {qp:List PanicEntry→World→Prop}

theorem run_v {o:Oper} {ρ:Operand→Value} {x:Sem Value} {v:Value} {w':World} (he:execOp ρ o=(do pure (.value (← x)))) (h:x.run P w=.ok v w'):(execOp ρ o).run P w=.ok (.value v) w':=by
 rw[he,Sem.run_bind,h]
 rfl

theorem s_load (hT:TabOk P T) {t:TypeId} {x:Operand} {o:Oper} (ho:o.op=.load t x) (h:vcOp P T F C (.load t x) st A K Qp) (hr:Rel C n st A a w) (hN:Nx C st.hp K next):OpRun P next qp ((execOp a.eval o).run P w):=by
 simp only[vcOp,vcLoad] at h
 have hev:=hr.eval x
 have hok:=hr.ok x
 cases ht:T t with
 | none=>rw[ht] at h;exact h.elim
 | some i =>
  rw[ht] at h
  simp only at h
  have hi:=hT t i ht
  have fin:∀ (b:Addr) (v:Value),a.eval x=.pointer (some b)→(loadVar t b).run P w=.ok v w→K (SV.of v) st.hp st.rows A→OpRun P next qp ((execOp a.eval o).run P w):=by
   intro b v hb hl hk
   have:(execOp a.eval o).run P w=.ok (.value v) w:=run_v (x:=Instr.loadAt t (a.eval x)) (by simp[execOp,ho]) (by simp[hb,Instr.loadAt,Instr.sureAddr,hl])
   rw[this]
   have:=hN.same hr hk (SVok.of_ _ _)
   rwa [SV.val_of] at this
  cases hs:sv st x with
  | sb c=>rw[hs] at h;exact h.elim
  | v q =>
   rw[hs] at h hev
   simp only at h
   have hev:a.eval x=q:=hev
   have ptr:∀ {k:Nat} {vs:List Value},LdAny st.hp st.rows A k q vs→∃ b,q=.pointer (some b):=by
    intro k vs hl
    rcases hl with hl | hl | hl
    ·obtain ⟨b,hb,_⟩:=hl.ex;exact ⟨b,hb⟩
    ·obtain ⟨_,_,g,o,_,_,hb,_⟩:=hl.ex;exact ⟨_,hb⟩
    ·obtain ⟨_,_,o,_,hb,_⟩:=hl.ex;exact ⟨_,hb⟩
   cases hagg:i.agg with
   | false =>
    rw[hagg] at h
    simp only at h
    obtain ⟨v,hl,hk⟩:=h
    obtain ⟨b,rfl⟩:=ptr hl
    obtain ⟨_,hc⟩:=hl.cells hr.rw
    have hc0:=hc 0 v rfl
    have:b.add 0=b:=rfl
    rw[this] at hc0
    exact fin b v hev (run_loadVar_one hi hagg hc0) hk
   | true =>
    rw[hagg] at h
    simp only at h
    obtain ⟨vs,hl,hk⟩:=h
    obtain ⟨b,rfl⟩:=ptr hl
    obtain ⟨hlen,hc⟩:=hl.cells hr.rw
    exact fin b _ hev (run_loadVar_agg hi hagg hlen hc) hk
  | loc j off =>
   rw[hs] at h hev
   simp only at h
   cases hx:st.hp[j]? with
   | none=>rw[hx] at h;exact h.elim
   | some lb =>
    rw[hx] at h
    simp only at h
    have hb:bnum st.hp j=lb.b:=by simp[bnum,hx]
    have hev:a.eval x=.pointer (some ⟨lb.b,off,none⟩):=by rw[hev];simp[SV.val,hb]
    have hblk:=hr.rw.blk j lb hx
    cases hagg:i.agg with
    | false =>
     rw[hagg] at h
     simp only at h
     cases hv:lb.cs[off]? with
     | none=>rw[hv] at h;exact h.elim
     | some v =>
      rw[hv] at h
      refine fin _ v hev (run_loadVar_one hi hagg ?_) h
      rw[cell_of_row w _ _ _ _ _ hblk]
      simpa using hv
    | true =>
     rw[hagg] at h
     simp only at h
     cases hble:Nat.ble (off+i.size) lb.cs.length with
     | false=>rw[hble] at h;exact h.elim
     | true =>
      rw[hble] at h
      have hle:=Nat.le_of_ble_eq_true hble
      refine fin _ _ hev (run_loadVar_agg hi hagg (vs:=List.take i.size (lb.cs.drop off)) (by simp;omega) ?_) h
      intro k v hk
      rw[add_mk,cell_of_row w _ _ _ _ _ hblk]
      have hkl:k < i.size:=by have:=(List.getElem?_eq_some_iff.1 hk).1;simp at this;omega
      rw[List.getElem?_take_of_lt hkl,List.getElem?_drop] at hk
      simpa using hk

theorem s_store (hT:TabOk P T) {t:TypeId} {x y:Operand} {o:Oper} (ho:o.op=.store t x y) (h:vcOp P T F C (.store t x y) st A K Qp) (hr:Rel C n st A a w) (hN:Nx C st.hp K next):OpRun P next qp ((execOp a.eval o).run P w):=by
 simp only[vcOp,vcStore] at h
 have hev:=hr.eval x
 have hey:=hr.eval y
 cases ht:T t with
 | none=>rw[ht] at h;exact h.elim
 | some i =>
  rw[ht] at h
  simp only at h
  have hi:=hT t i ht
  generalize hvs:(sv st y).val st.hp=vy at h hey
  cases hg:Nat.beq (cellsL vy).length i.size && flat (cellsL vy) with
  | false=>rw[hg] at h;exact h.elim
  | true =>
   rw[hg] at h
   simp only[cond_true] at h
   simp only[Bool.and_eq_true] at hg
   have hlen:(cellsL vy).length=i.size:=Nat.eq_of_beq_eq_true hg.1
   have hflat:=hg.2
   have fin:∀ (g off:Nat) (cur:Array Value) (t':TypeId) (hp':List LB) (rows':List Row) (A':Anch),a.eval x=.pointer (some ⟨g,off,none⟩)→w.heap[g]?=some (.cells cur t' (0,0))→off+(cellsL vy).length≤cur.size →
     RelW C hp' rows' A' (w.setRow g (cur.toList.take off++cellsL vy++cur.toList.drop (off+(cellsL vy).length)).toArray)→Ext st.hp hp'→K (.v undef) hp' rows' A'→OpRun P next qp ((execOp a.eval o).run P w):=by
    intro g off cur t' hp' rows' A' hb hcur hfit hrel hext hk
    have hrun:=run_storeVar_at (P:=P) hi hlen hflat hcur hfit
    have:(execOp a.eval o).run P w=.ok .skip (w.setRow g (cur.toList.take off++cellsL vy++cur.toList.drop (off+(cellsL vy).length)).toArray):=by
     simp only[execOp,ho,Instr.storeAt,hb,Instr.sureAddr,hey,Sem.run_bind,Sem.run_pure,Result.andThen_ok,hrun]
    rw[this]
    exact hN (.v undef) hp' rows' A' _ hk hrel hext trivial
   cases hs:sv st x with
   | sb c=>rw[hs] at h;exact h.elim
   | loc j off =>
    rw[hs] at h hev
    simp only at h
    cases hx:st.hp[j]? with
    | none=>rw[hx] at h;exact h.elim
    | some lb =>
     rw[hx] at h
     simp only at h
     cases hble:Nat.ble (off+i.size) lb.cs.length with
     | false=>rw[hble] at h;exact h.elim
     | true =>
      rw[hble] at h
      have hle:=Nat.le_of_ble_eq_true hble
      have hb:bnum st.hp j=lb.b:=by simp[bnum,hx]
      have hset:=hr.rw.set_hp hx (setAt lb.cs off (cellsL vy))
      rw[setAt_eq _ _ _ (by omega)] at hset
      refine fin lb.b off lb.cs.toArray lb.t _ _ A (by rw[hev];simp[SV.val,hb]) (hr.rw.blk j lb hx) (by simp;omega) ?_ (Ext.of_map (map_b_set (y:={ lb with cs:=setAt lb.cs off (cellsL vy) }) hx rfl)) h
      rw[setAt_eq _ _ _ (by omega)]
      simpa using hset
   | v q =>
    rw[hs] at h hev
    simp only at h
    have hev:a.eval x=q:=hev
    rcases h with h | h | h
    ·obtain ⟨g,off,cur,t',rfl,hcur,hfit,hv,hm,hk⟩:=h
     exact fin g off cur t' _ _ _ hev ((hr.rw.agree g hv).trans hcur) hfit (hr.rw.set_plain hcur hv hm _) (Ext.refl _) hk
    ·obtain ⟨j,r,g,off,hj,hg,rfl,hfit,hk⟩:=h
     obtain ⟨h1,h2⟩:=hr.rw.row j r hj
     rcases h2 with ⟨hv,_⟩ | ⟨g',cap,cur,hv,_,hh,hnc,hcm,hsz,htk⟩
     ·rw[hv] at hg;simp[Value.ownBlock] at hg
     ·have e:g'=g:=by rw[hv] at hg;simpa [Value.ownBlock] using hg
      subst e
      have hxl:r.xs.length≤cur.toList.length:=by rw[h1];rw[Array.length_toList,hsz];exact Nat.mul_le_mul_right _ hnc
      refine fin g' off cur r.e st.hp _ A hev hh (by rw[Array.length_toList] at hxl;omega) (hr.rw.set_row hj hg _ (setAt r.xs off (cellsL vy)) ?_ (length_setAt _ _ _) ?_) (Ext.refl _) hk
      ·intro cur2 hh2
       rw[hh] at hh2
       injection hh2 with hh2
       injection hh2 with hh2
       subst hh2
       simp
       rw[Array.length_toList] at hxl
       omega
      ·rw[length_setAt]
       have:=take_setAt (cellsL vy) cur.toList r.xs.length off hxl hfit
       rw[show cur.toList.take r.xs.length=r.xs from by rw[h1];exact htk] at this
       simpa using this
    ·obtain ⟨j,lb,off,hj,rfl,hfit,hk⟩:=h
     have hset:=hr.rw.set_hp hj (setAt lb.cs off (cellsL vy))
     rw[setAt_eq _ _ _ hfit] at hset
     refine fin lb.b off lb.cs.toArray lb.t _ _ A hev (hr.rw.blk j lb hj) (by simpa using hfit) ?_ (Ext.of_map (map_b_set (y:={ lb with cs:=setAt lb.cs off (cellsL vy) }) hj rfl)) hk
     rw[setAt_eq _ _ _ hfit]
     simpa using hset

theorem str_eq (s t:ByteArray):(s.toList == t.toList)=decide (s.data.toList=t.data.toList):=by
 rw[ByteArray.toList_eq,ByteArray.toList_eq]
 by_cases hd:s.data.toList=t.data.toList
 ·simp[hd]
 ·have hd':¬ s.data=t.data:=fun e=>hd (by rw[e])
  simp[hd']
theorem str_add (s t:ByteArray):s++t=⟨⟨s.data.toList++t.data.toList⟩⟩:=by
 have h:(s++t).data=(⟨s.data.toList++t.data.toList⟩:Array UInt8):=by
  apply Array.ext'
  simp
 cases hs:s++t with
 | mk d=>rw[hs] at h;simp only at h;rw[h]

theorem bin_run {op:BinOp} {x y:SV} {k:SV→Prop} (h:vcBin op x y k) (hp:List LB) (t:TypeId) (ox oy:Operand) :
  ∃ s,k s∧SVok hp s∧∀ w:World,(do eqGuard op t ox oy (x.val hp) (y.val hp);binOp op t (x.val hp) (y.val hp)).run P w=.ok (s.val hp) w:=by
 unfold vcBin at h
 split at h<;>first | exact h.elim | skip
 all_goals first
  | (obtain ⟨c,hc,hk⟩:=h;refine ⟨_,hk,trivial,fun w=>?_⟩;simp[eqGuard,SV.val,binOp,Op.intArith,isI64] at hc ⊢;exact hc)
  | (obtain ⟨c,hc,hk⟩:=h;refine ⟨_,hk,trivial,fun w=>?_⟩;simp only[eqGuard,SV.val,binOp,Sem.run_bind];simp[hc])
  | (obtain ⟨h0,c,hc,hk⟩:=h;refine ⟨_,hk,trivial,fun w=>?_⟩;simp[eqGuard,SV.val,binOp,Op.intDiv,isI64,h0] at hc ⊢;exact hc)
  | (obtain ⟨h0,c,hc,hk⟩:=h;refine ⟨_,hk,trivial,fun w=>?_⟩;simp[eqGuard,SV.val,binOp,Op.shift,isI64,IntKind.bits] at hc ⊢;rw[if_neg (by omega)];simp[hc])
  | (obtain ⟨h0,hk⟩:=h;refine ⟨_,hk,trivial,fun w=>?_⟩;simp[eqGuard,SV.val,binOp,Op.intDiv,h0];done)
  | (obtain ⟨h0,hk⟩:=h;refine ⟨_,hk,trivial,fun w=>?_⟩;have h1:=Int.not_lt.2 h0;simp[eqGuard,SV.val,binOp,Op.shift,IntKind.bits,h1];done)
  | (obtain ⟨h0,hk⟩:=h;refine ⟨_,hk,trivial,fun w=>?_⟩;have h1:=Nat.not_lt.2 h0;simp[eqGuard,SV.val,binOp,run_string_add_if,h1,str_add];done)
  | (refine ⟨_,h,trivial,fun w=>?_⟩;simp[eqGuard,SV.val,binOp,Op.intArith];done)
  | (refine ⟨_,h,trivial,fun w=>?_⟩;simp[eqGuard,SV.val,binOp,Op.intCmp];done)
  | (refine ⟨_,h,trivial,fun w=>?_⟩;simp[eqGuard,SV.val,binOp,Op.intCmp];rfl)
  | (refine ⟨_,h,trivial,fun w=>?_⟩;simp[eqGuard,SV.val,binOp,Op.stringOp,str_eq];done)
  | skip

theorem boolEq_run (hT:TabOk P T) {op:BinOp} {x y:SV} {k:SV→Prop} (h:vcBoolEq op x y k) (hp:List LB) {t:TypeId} {i:TI} (ht:T t=some i) (hk:i.kind=.bool) (ox oy:Operand) :
  ∃ s,k s∧SVok hp s∧∀ w:World,(do eqGuard op t ox oy (x.val hp) (y.val hp);binOp op t (x.val hp) (y.val hp)).run P w=.ok (s.val hp) w:=by
 obtain ⟨d,hd,hdk,_⟩:=(hT t i ht).d
 rw[hk] at hdk
 have hdk:d=.bool:=hdk
 subst hdk
 unfold vcBoolEq at h
 split at h<;>first | exact h.elim | skip
 all_goals (refine ⟨_,h,trivial,fun w=>?_⟩;simp[eqGuard,SV.val,run_eql_bool w t _ _ hd,run_neq_bool w t _ _ hd])

theorem s_bin (hT:TabOk P T) {op:BinOp} {t t':TypeId} {x y:Operand} {o:Oper} (ho:o.op=.binOp op t x y t') (h:vcOp P T F C (.binOp op t x y t') st A K Qp) (hr:Rel C n st A a w) (hN:Nx C st.hp K next):OpRun P next qp ((execOp a.eval o).run P w):=by
 have fin:(∃ s,K s st.hp st.rows A∧SVok st.hp s∧∀ w:World,(do eqGuard op t x y ((sv st x).val st.hp) ((sv st y).val st.hp);binOp op t ((sv st x).val st.hp) ((sv st y).val st.hp)).run P w=.ok (s.val st.hp) w)→OpRun P next qp ((execOp a.eval o).run P w):=by
  rintro ⟨s,hk,hs,hrun⟩
  have:(execOp a.eval o).run P w=.ok (.value (s.val st.hp)) w:=run_v (x:=do eqGuard op t x y (a.eval x) (a.eval y);binOp op t (a.eval x) (a.eval y)) (by simp[execOp,ho]) (by rw[hr.eval,hr.eval];exact hrun w)
  rw[this]
  exact hN.same hr hk hs
 simp only[vcOp] at h
 split at h
 ·rename_i ht
  exact fin (boolEq_run hT h st.hp ht rfl x y)
 ·exact fin (bin_run h st.hp t x y)

theorem s_un {op:UnOp} {t:TypeId} {x:Operand} {o:Oper} (ho:o.op=.unOp op t x) (h:vcOp P T F C (.unOp op t x) st A K Qp) (hr:Rel C n st A a w) (hN:Nx C st.hp K next):OpRun P next qp ((execOp a.eval o).run P w):=by
 have fin:∀ s:SV,K s st.hp st.rows A→SVok st.hp s→(Op.unary op ((sv st x).val st.hp)).run P w=.ok (s.val st.hp) w→OpRun P next qp ((execOp a.eval o).run P w):=by
  intro s hk hs hrun
  have:(execOp a.eval o).run P w=.ok (.value (s.val st.hp)) w:=run_v (x:=Op.unary op (a.eval x)) (by simp[execOp,ho]) (by rw[hr.eval];exact hrun)
  rw[this]
  exact hN.same hr hk hs
 simp only[vcOp] at h
 unfold vcUn at h
 split at h
 ·rename_i hx;exact fin _ h trivial (by rw[hx];rfl)
 ·rename_i hx;exact fin _ h trivial (by rw[hx];rfl)
 ·rename_i hx;exact fin _ h trivial (by rw[hx];rfl)
 ·rename_i hx
  obtain ⟨c,hc,hk⟩:=h
  refine fin _ hk trivial (by rw[hx];simp[SV.val,Op.unary,Op.intArith,isI64] at hc ⊢;exact hc)
 ·exact h.elim
end
end Go.Eng
/-
  The engine, seventh part: what is asked of any operation suffices for its run. It holds of every program whose table of types is met.
-/
namespace Go.Eng
open Go.RowKit

section
variable {P:Program} {T:Tab} {F:FuncId→Bool} {C:Ctx} {n:Nat} {st:St} {A:Anch} {a:Act} {w:World} {K:Cont} {Qp:PCont} {next:Value→World→Prop} {qp:List PanicEntry→World→Prop}

theorem fin_v {o:Oper} {x:Sem Value} (he:execOp a.eval o=(do pure (.value (← x)))) (hr:Rel C n st A a w) (hN:Nx C st.hp K next) {s:SV} (hk:K s st.hp st.rows A) (hs:SVok st.hp s) (h:x.run P w=.ok (s.val st.hp) w) :
  OpRun P next qp ((execOp a.eval o).run P w):=by
 rw[run_v he h]
 exact hN.same hr hk hs

theorem s_convert (hT:TabOk P T) {src dst:TypeId} {x:Operand} {o:Oper} (ho:o.op=.convert src dst x) (h:vcOp P T F C (.convert src dst x) st A K Qp) (hr:Rel C n st A a w) (hN:Nx C st.hp K next):OpRun P next qp ((execOp a.eval o).run P w):=by
 have he:execOp a.eval o=(do pure (.value (← convert src dst (a.eval x)))):=by simp[execOp,ho]
 simp only[vcOp] at h
 split at h
 ·rename_i i j hs hd hx
  obtain ⟨c,hc,hk⟩:=h
  obtain ⟨d1,hd1,_⟩:=(hT src _ hs).d
  obtain ⟨d,hd2,hdk,_⟩:=(hT dst _ hd).d
  have hdk:d=.int .i64:=hdk
  subst hdk
  refine fin_v he hr hN hk trivial ?_
  rw[hr.eval,hx]
  simp[SV.val,convert,run_underlying hd1,run_underlying hd2,Conv.intToInt]
  exact hc
 ·rename_i i j hs hd hx
  obtain ⟨c,hc,hk⟩:=h
  obtain ⟨d1,hd1,_⟩:=(hT src _ hs).d
  obtain ⟨d,hd2,hdk,_⟩:=(hT dst _ hd).d
  have hdk:d=.int .i64:=hdk
  subst hdk
  refine fin_v he hr hN hk trivial ?_
  rw[hr.eval,hx]
  simp[SV.val,convert,run_underlying hd1,run_underlying hd2,Conv.intToInt]
  exact hc
 ·rename_i i j hs hd hx
  obtain ⟨d1,hd1,_⟩:=(hT src _ hs).d
  obtain ⟨d,hd2,hdk,_⟩:=(hT dst _ hd).d
  have hdk:d=.int .u8:=hdk
  subst hdk
  refine fin_v he hr hN h trivial ?_
  rw[hr.eval,hx]
  simp[SV.val,convert,run_underlying hd1,run_underlying hd2,Conv.intToInt]
 ·exact h.elim

theorem s_fieldAddr (hT:TabOk P T) {t:TypeId} {x:Operand} {f:Nat} {o:Oper} (ho:o.op=.fieldAddr t x f) (h:vcOp P T F C (.fieldAddr t x f) st A K Qp) (hr:Rel C n st A a w) (hN:Nx C st.hp K next):OpRun P next qp ((execOp a.eval o).run P w):=by
 have he:execOp a.eval o=(do pure (.value (← Instr.fieldAt t (a.eval x) f))):=by simp[execOp,ho]
 simp only[vcOp] at h
 split at h
 ·rename_i fs _ _ _ _ hs
  split at h
  ·rename_i off sz hf
   split at h
   ·rename_i i o' hx
    have hok:=hr.ok x
    rw[hx] at hok
    refine fin_v he hr hN h hok ?_
    rw[hr.eval,hx]
    simp only[SV.val]
    rw[run_fieldAt hT hs rfl hf,add_mk]
   ·rename_i b hx
    refine fin_v he hr hN h trivial ?_
    rw[hr.eval,hx]
    exact run_fieldAt hT hs rfl hf b w
   ·exact h.elim
  ·exact h.elim
 ·exact h.elim

theorem s_indexAddr (hT:TabOk P T) {t:TypeId} {x ix:Operand} {o:Oper} (ho:o.op=.indexAddr t x ix) (h:vcOp P T F C (.indexAddr t x ix) st A K Qp) (hr:Rel C n st A a w) (hN:Nx C st.hp K next):OpRun P next qp ((execOp a.eval o).run P w):=by
 have he:execOp a.eval o=(do pure (.value (← Instr.indexAt t (a.eval x) (a.eval ix)))):=by simp[execOp,ho]
 simp only[vcOp] at h
 split at h
 ·rename_i e _ _ _ _ hs
  split at h
  ·rename_i ei b m c hte hx
   obtain ⟨b',j,rfl,hi,hj,hk⟩:=h
   refine fin_v he hr hN hk trivial ?_
   rw[hr.eval,hr.eval,hx,hi]
   exact run_indexAt_sl hT hs rfl hte b' m c j hj w
  ·exact h.elim
 ·rename_i m e _ _ _ _ hs
  split at h
  ·rename_i ei i o' hte hx
   obtain ⟨j,hi,hj,hk⟩:=h
   have hok:=hr.ok x
   rw[hx] at hok
   refine fin_v he hr hN hk hok ?_
   rw[hr.eval,hr.eval,hx,hi]
   simp only[SV.val]
   rw[run_indexAt_arr hT hs rfl hte _ j hj w,add_mk]
  ·rename_i ei b hte hx
   obtain ⟨j,hi,hj,hk⟩:=h
   refine fin_v he hr hN hk trivial ?_
   rw[hr.eval,hr.eval,hx,hi]
   exact run_indexAt_arr hT hs rfl hte b j hj w
  ·exact h.elim
 ·exact h.elim

theorem s_index (hT:TabOk P T) {t:TypeId} {x ix:Operand} {o:Oper} (ho:o.op=.index t x ix) (h:vcOp P T F C (.index t x ix) st A K Qp) (hr:Rel C n st A a w) (hN:Nx C st.hp K next):OpRun P next qp ((execOp a.eval o).run P w):=by
 have he:execOp a.eval o=(do pure (.value (← Instr.index t (a.eval x) (a.eval ix)))):=by simp[execOp,ho]
 simp only[vcOp] at h
 split at h
 ·rename_i s hs hx
  obtain ⟨j,c,hi,hj,hk⟩:=h
  obtain ⟨d,hd,hdk,_⟩:=(hT t _ hs).d
  have hdk:d=.string:=hdk
  subst hdk
  refine fin_v he hr hN hk trivial ?_
  rw[hr.eval,hr.eval,hx,hi]
  have h1:(0:Int)≤(j:Int):=by omega
  have h2:s[j]?=some c:=by
   have hl:=(List.getElem?_eq_some_iff.1 hj)
   obtain ⟨hl,hc⟩:=hl
   have hsz:j < s.size:=hl
   rw[getElem?_pos s j hsz]
   exact congrArg some hc
  simp[SV.val,Instr.index,run_underlying hd,asIntOf,h2]
 ·exact h.elim

theorem s_slice (hT:TabOk P T) {t:TypeId} {x:Operand} {lo hi:Option Operand} {o:Oper} (ho:o.op=.slice t x lo hi none) (h:vcOp P T F C (.slice t x lo hi none) st A K Qp) (hr:Rel C n st A a w) (hN:Nx C st.hp K next):OpRun P next qp ((execOp a.eval o).run P w):=by
 have he:execOp a.eval o=(do pure (.value (← Instr.sliceAt t (a.eval x) (lo.map a.eval) (hi.map a.eval) none))):=by simp[execOp,ho]
 simp only[vcOp] at h
 unfold vcSlice at h
 have bnd:∀ (q:Option Operand) (k m:Nat),(match q.map (sv st) with | none=>m=k | some p=>p=.v (.int .i64 (m:Int)))→(match q.map a.eval with | none=>m=k | some p=>p=.int .i64 (m:Int)):=by
  intro q k m hq
  cases q with
  | none=>exact hq
  | some p=>simp only[Option.map_some] at hq ⊢;rw[hr.eval,hq];rfl
 split at h
 ·rename_i s hs hx
  obtain ⟨l,hh,hlo,hhi,h1,h2,hk⟩:=h
  obtain ⟨d,hd,hdk,_⟩:=(hT t _ hs).d
  have hdk:d=.string:=hdk
  subst hdk
  refine fin_v he hr hN hk trivial ?_
  have hb:=run_bounds (P:=P) (w:=w) false s.data.toList.length s.data.toList.length l hh (lo.map a.eval) (hi.map a.eval) (bnd lo 0 l hlo) (bnd hi _ hh hhi) h1 h2
  have hsz:s.size=s.data.toList.length:=rfl
  rw[hr.eval,hx]
  simp only[SV.val,Instr.sliceAt,Instr.slice,Sem.run_bind,run_underlying hd,Result.andThen_ok]
  rw[← hsz] at hb
  simp[hb,extract_list s l hh h2]
 ·rename_i _ _ _ _ e b len cap hs hx
  split at h
  ·exact h.elim
  ·rename_i ei hte
   obtain ⟨l,hh,hlo,hhi,h1,h2,hk⟩:=h
   obtain ⟨d,hd,hdk,_⟩:=(hT t _ hs).d
   have hdk:d=.slice e:=hdk
   subst hdk
   obtain ⟨inf,z,hinf,hsz,_⟩:=(hT e ei hte).inf
   refine fin_v he hr hN hk trivial ?_
   have hb:=run_bounds (P:=P) (w:=w) true len cap l hh (lo.map a.eval) (hi.map a.eval) (bnd lo 0 l hlo) (bnd hi _ hh hhi) h1 h2
   rw[hr.eval,hx]
   simp only[SV.val,Instr.sliceAt,Instr.slice,Sem.run_bind,run_underlying hd,Result.andThen_ok]
   simp[hb,sizeOf,typeInfo,hinf,hsz]
 ·exact h.elim

theorem s_extract {x:Operand} {f:Nat} {o:Oper} (ho:o.op=.extract x f) (h:vcOp P T F C (.extract x f) st A K Qp) (hr:Rel C n st A a w) (hN:Nx C st.hp K next):OpRun P next qp ((execOp a.eval o).run P w):=by
 have he:execOp a.eval o=(do pure (.value (← Instr.extract (a.eval x) f))):=by simp[execOp,ho]
 simp only[vcOp] at h
 split at h
 ·rename_i vs hx
  split at h
  ·rename_i v hv
   refine fin_v he hr hN h (SVok.of_ _ _) ?_
   rw[hr.eval,hx,SV.val_of]
   have hv':vs[f]?=some v:=by simpa using hv
   simp[SV.val,Instr.extract,hv']
  ·exact h.elim
 ·exact h.elim

theorem s_makeFunc {fn:Fn} {first captured:Array Operand} {o:Oper} (ho:o.op=.makeFunc fn first captured) (h:vcOp P T F C (.makeFunc fn first captured) st A K Qp) (hr:Rel C n st A a w) (hN:Nx C st.hp K next):OpRun P next qp ((execOp a.eval o).run P w):=by
 have he:execOp a.eval o=(do pure (.value (← Instr.makeFunc fn (first.map a.eval) (captured.map a.eval)))):=by simp[execOp,ho]
 have hev:a.eval=fun x=>(sv st x).val st.hp:=funext hr.eval
 refine fin_v he hr hN (s:=.v (.func fn (first.map fun x=>(sv st x).val st.hp) (captured.map fun x=>(sv st x).val st.hp))) h trivial ?_
 rw[hev]
 rfl

theorem s_makeInterface (hT:TabOk P T) {t:TypeId} {x:Operand} {o:Oper} (ho:o.op=.makeInterface t x) (h:vcOp P T F C (.makeInterface t x) st A K Qp) (hr:Rel C n st A a w) (hN:Nx C st.hp K next):OpRun P next qp ((execOp a.eval o).run P w):=by
 have he:execOp a.eval o=(do pure (.value (← Instr.makeInterface t (a.eval x)))):=by simp[execOp,ho]
 simp only[vcOp] at h
 split at h
 ·exact h.elim
 ·rename_i i hne hs
  obtain ⟨d,hd,hdk,_⟩:=(hT t _ hs).d
  have hni:∀ ms,d≠.interface ms:=by
   intro ms e
   subst e
   obtain ⟨agg,size,bytes,zero,kind⟩:=i
   cases kind<;>first | exact hne _ _ _ _ rfl | (simp[descOk] at hdk)
  refine fin_v he hr hN h trivial ?_
  rw[hr.eval]
  simp only[Instr.makeInterface,Sem.run_bind,run_underlying hd,Result.andThen_ok]
  cases d<;>first | rfl | exact absurd rfl (hni _)
 ·exact h.elim

theorem s_nilCheck {x:Operand} {o:Oper} (ho:o.op=.nilCheck x) (h:vcOp P T F C (.nilCheck x) st A K Qp) (hr:Rel C n st A a w) (hN:Nx C st.hp K next):OpRun P next qp ((execOp a.eval o).run P w):=by
 simp only[vcOp] at h
 have hev:=hr.eval x
 have hok:=hr.ok x
 split at h
 ·rename_i i off hx
  rw[hx] at hev hok
  have:(execOp a.eval o).run P w=.ok (.value ((SV.loc i off).val st.hp)) w:=by simp[execOp,ho,hev,SV.val]
  rw[this]
  exact hN.same hr h hok
 ·rename_i b hx
  rw[hx] at hev
  have:(execOp a.eval o).run P w=.ok (.value ((SV.v (.pointer (some b))).val st.hp)) w:=by simp[execOp,ho,hev,SV.val]
  rw[this]
  exact hN.same hr h trivial
 ·rename_i f first captured hx
  rw[hx] at hev
  have:(execOp a.eval o).run P w=.ok (.value ((SV.v (.func (.func f) first captured)).val st.hp)) w:=by simp[execOp,ho,hev,SV.val]
  rw[this]
  exact hN.same hr h trivial
 ·exact h.elim

theorem s_panic {x:Operand} {o:Oper} (ho:o.op=.panic x) (h:vcOp P T F C (.panic x) st A K Qp) (hr:Rel C n st A a w) (hP:Px C st.hp Qp qp):OpRun P next qp ((execOp a.eval o).run P w):=by
 simp only[vcOp] at h
 have hev:=hr.eval x
 split at h
 ·rename_i t v hx
  rw[hx] at hev
  have hev:a.eval x=.iface t v:=hev
  have:(execOp a.eval o).run P w=.halt (.panic (.iface t v)) w:=by simp[execOp,ho,hev,run_panic_iface]
  rw[this]
  exact hP _ _ _ _ _ h hr.rw (Ext.refl _)
 ·exact h.elim

theorem s_makeSlice (hT:TabOk P T) {t:TypeId} {l c:Operand} {o:Oper} (ho:o.op=.makeSlice t l c) (h:vcOp P T F C (.makeSlice t l c) st A K Qp) (hr:Rel C n st A a w) (hN:Nx C st.hp K next):OpRun P next qp ((execOp a.eval o).run P w):=by
 simp only[vcOp] at h
 split at h
 ·rename_i e hs
  split at h
  ·rename_i ei hte
   obtain ⟨len,cap,hl,hc,hlc,hb,hm,hk⟩:=h
   obtain ⟨d,hd,hdk,_⟩:=(hT t _ hs).d
   have hdk:d=.slice e:=hdk
   subst hdk
   obtain ⟨inf,z,hinf,hsz,hby,hz,hzc⟩:=(hT e ei hte).inf
   have hzl:ei.zero.length=ei.size:=(hT e ei hte).zsize
   have hmm:=hm
   simp only[maxLen] at hmm
   have hbI:(inf.bytes:Int)*(cap:Int)≤281474976710656:=by
    have:((inf.bytes*cap:Nat):Int)≤281474976710656:=by rw[hby];omega
    rwa [Int.natCast_mul] at this
   have hrun:=run_make (P:=P) w t e inf z hd hinf hz .i64 .i64 (len:Int) (cap:Int) (by omega) (by omega) hbI (by omega)
   simp only[Int.toNat_natCast] at hrun
   have hcells:madeCells z.cells (cap*inf.size)=(repL ei.zero cap).toArray:=by
    rw[hsz,hzc]
    by_cases h0:0 < ei.zero.length
    ·have:=made_repL ei.zero h0 cap
     rw[hzl] at this
     exact this
    ·have h0:ei.zero=[]:=List.eq_nil_of_length_eq_zero (by omega)
     have h1:ei.size=0:=by rw[← hzl,h0];rfl
     have h2:repL ei.zero cap=[]:=List.eq_nil_of_length_eq_zero (by rw[length_repL,h0];simp)
     rw[h1,h2]
     simp[madeCells]
   rw[hcells] at hrun
   have:(execOp a.eval o).run P w=.ok (.value (.slice (some ⟨w.heap.size,0,none⟩) len cap)) (w.alloc (.cells (repL ei.zero cap).toArray e)) :=
    run_v (x:=Instr.makeSlice t (a.eval l) (a.eval c)) (by simp[execOp,ho]) (by rw[hr.eval,hr.eval,hl,hc];exact hrun)
   rw[this]
   have htake:∀ (m k:Nat),k≤m→(repL ei.zero m).take (k*ei.size)=repL ei.zero k:=by
    intro m
    induction m with
    | zero =>
     intro k hk
     have:k=0:=by omega
     subst this;simp[repL]
    | succ m ih =>
     intro k hk
     cases k with
     | zero=>simp[repL]
     | succ k=>simp only[repL];rw[List.take_append,List.take_of_length_le (by rw[hzl,Nat.succ_mul];omega),hzl,show (k+1)*ei.size - ei.size=k*ei.size from by rw[Nat.succ_mul];omega,ih k (by omega)]
   exact hN _ _ _ _ _ (hk w.heap.size hr.rw.asz) (hr.rw.alloc_row len cap (repL ei.zero len) _ e ei.size (by rw[length_repL,hzl]) hlc hm (by simp[length_repL,hzl]) (htake cap len hlc)) (Ext.refl _) trivial
  ·exact h.elim
 ·exact h.elim

theorem s_len (hT:TabOk P T) {args:Array Operand} {ts:Array TypeId} {o:Oper} (ho:o.op=.call { callee:=.builtin .len,args:=args,argTypes:=ts }) (h:vcOp P T F C (.call { callee:=.builtin .len,args:=args,argTypes:=ts }) st A K Qp) (hr:Rel C n st A a w) (hN:Nx C st.hp K next):OpRun P next qp ((execOp a.eval o).run P w):=by
 simp only[vcOp] at h
 split at h
 ·rename_i t x hts har
  have hts':ts=#[t]:=by rw[← Array.toArray_toList (xs:=ts),hts]
  have har':args=#[x]:=by rw[← Array.toArray_toList (xs:=args),har]
  subst hts'
  subst har'
  have key:∀ v,(Builtin.len_ #[t] o.type #[a.eval x]).run P w=.ok v w→K (.v v) st.hp st.rows A→OpRun P next qp ((execOp a.eval o).run P w):=by
   intro v hv hk
   have:(execOp a.eval o).run P w=.ok (.value v) w:=by simp[execOp,ho,resolve,invoke,builtin,hv]
   rw[this]
   exact hN.same hr (s:=.v v) hk trivial
  split at h
  ·rename_i b m c hs hx
   refine key _ ?_ h
   rw[hr.eval,hx]
   exact run_len_sl hT hs rfl b m c o.type w
  ·rename_i s hs hx
   refine key _ ?_ h
   rw[hr.eval,hx]
   exact run_len_str hT hs rfl s o.type w
  ·exact h.elim
 ·exact h.elim

theorem s_append (hT:TabOk P T) {args:Array Operand} {ts:Array TypeId} {o:Oper} (ho:o.op=.call { callee:=.builtin .append,args:=args,argTypes:=ts }) (h:vcOp P T F C (.call { callee:=.builtin .append,args:=args,argTypes:=ts }) st A K Qp) (hr:Rel C n st A a w) (hN:Nx C st.hp K next):OpRun P next qp ((execOp a.eval o).run P w):=by
 simp only[vcOp] at h
 split at h
 ·rename_i t t' x y hts har
  have hts':ts=#[t,t']:=by rw[← Array.toArray_toList (xs:=ts),hts]
  have har':args=#[x,y]:=by rw[← Array.toArray_toList (xs:=args),har]
  subst hts'
  subst har'
  cases hb:Nat.beq t t' with
  | false=>rw[hb] at h;exact h.elim
  | true =>
   rw[hb] at h
   have htt:t=t':=Nat.eq_of_beq_eq_true hb
   subst htt
   simp only[cond_true] at h
   unfold vcAppend at h
   split at h
   ·rename_i e hs
    split at h
    ·exact h.elim
    ·rename_i ei hte
     obtain ⟨i,m0,m,xs,news,hx,hsrc,hflat,h63,hbytes,hpos,hk⟩:=h
     obtain ⟨d,hd,hdk,_⟩:=(hT t _ hs).d
     have hdk:d=.slice e:=hdk
     subst hdk
     obtain ⟨inf,z,hinf,hsz,hby,hz,hzc⟩:=(hT e ei hte).inf
     have hzl:ei.zero.length=ei.size:=(hT e ei hte).zsize
     have hown:w.ownsRow 0 e ei.size ((sv st x).val st.hp) m0 xs:=by
      rcases hx with ⟨r,hr1,hr2,hr3,hr4,hr5,hr6⟩ | ⟨_,hnil,h0,hxs⟩
      ·have:=hr.rw.row i r hr1
       rw[hr2,hr3,hr4,hr5,hr6] at this
       exact this
      ·rw[hnil,h0,hxs]
       exact World.ownsRow_nil w 0 e ei.size
     have hx':(∃ r,st.rows[i]?=some r∧r.v=(sv st x).val st.hp)∨(i=st.rows.length∧(sv st x).val st.hp=.slice none 0 0):=by
      rcases hx with ⟨r,hr1,hr2,_⟩ | ⟨h1,h2,_⟩
      ·exact .inl ⟨r,hr1,hr2⟩
      ·exact .inr ⟨h1,h2⟩
     have hrun:∃ v' w',(Builtin.append_ #[t,t] o.type #[(sv st x).val st.hp,(sv st y).val st.hp]).run P w=.ok v' w'∧w'.ownsRow 0 e ei.size v' (m0+m) (xs++news)∧w.grownBy w' ((sv st x).val st.hp).ownBlock ∧
       (v'=.slice none 0 0→(sv st x).val st.hp=.slice none 0 0)∧(v'.ownBlock=((sv st x).val st.hp).ownBlock∨v'.ownBlock=some w.heap.size):=by
      rcases hsrc with ⟨hy,hm0,hnews⟩ | ⟨b,c,hy,hld⟩
      ·subst hm0
       subst hnews
       rw[hy]
       exact ⟨_,w,run_append_owned_none (P:=P) w 0 t o.type e inf ei.size hd hinf _ m0 xs hown,by simpa using hown,World.grownBy.refl w _,fun h=>h,.inl rfl⟩
      ·rw[hy]
       obtain ⟨hl,hc⟩:=hld.cells hr.rw
       obtain ⟨v',w',h1,h2,h3,h4,h5⟩:=run_append_own_at (P:=P) w 0 t o.type e inf z ei.size ei.bytes hd hinf hz hsz hby (by rw[hzc];simpa using hzl) hpos _ m0 xs hown b m c news hl hc (flat_mem hflat) h63 hbytes (Nat.zero_le _)
       exact ⟨v',w',h1,h2,h3,fun h=>(h4.1 h).1,h5⟩
     obtain ⟨v',w',hrun,hown',hg,hnil,hblk⟩:=hrun
     have:(execOp a.eval o).run P w=.ok (.value v') w':=by simp[execOp,ho,resolve,invoke,builtin,hr.eval,hrun]
     rw[this]
     exact hN _ _ _ _ _ (hk v' (owns_shape hown') hnil) (hr.rw.grow hx' hown' hg hblk) (Ext.refl _) trivial
   ·exact h.elim
 ·exact h.elim

theorem s_call (hF:∀ g,F g=true→fnOk P g=true) {f:Operand} {args:Array Operand} {ts:Array TypeId} {o:Oper} (ho:o.op=.call { callee:=.value f,args:=args,argTypes:=ts }) (h:vcOp P T F C (.call { callee:=.value f,args:=args,argTypes:=ts }) st A K Qp)
  (hr:Rel C n st A a w) (hN:Nx C st.hp K next) (hP:Px C st.hp Qp qp):OpRun P next qp ((execOp a.eval o).run P w):=by
 simp only[vcOp] at h
 split at h
 ·rename_i g first captured hf
  cases hg:F g with
  | false=>rw[hg] at h;exact h.elim
  | true =>
   rw[hg] at h
   simp only[cond_true,forceVL_eq] at h
   have harr:(first.toList++(args.toList.map (fun x=>(sv st x).val st.hp)++captured.toList)).toArray=first++args.map (fun x=>(sv st x).val st.hp)++captured:=by
    apply Array.ext'
    simp
   rw[harr] at h
   have hfn:=hF g hg
   unfold fnOk at hfn
   have hev:a.eval=fun x=>(sv st x).val st.hp:=funext hr.eval
   have hef:a.eval f=.func (.func g) first captured:=by rw[hr.eval,hf];rfl
   cases hfg:P.funcs[g]? with
   | none=>rw[hfg] at hfn;cases hfn
   | some fn =>
    rw[hfg] at hfn
    simp only[Bool.and_eq_true,Bool.not_eq_true'] at hfn
    obtain ⟨hn1,hn2⟩:=hfn
    have hn3 : ¬ fn.name = "runtime.NumGoroutine" := by simpa using hn1
    have hnone:¬ fn.body=none:=by intro hb;rw[hb] at hn2;cases hn2
    have:(execOp a.eval o).run P w=.ok (.enter g (first++args.map (fun x=>(sv st x).val st.hp)++captured)) w:=by
     simp[execOp,ho,resolve,invoke,Deferred.ofValue,callFunc,hef,hev,hfg,hn3,hnone]
    rw[this]
    refine (h w hr.rw).mono fun e w' he=>?_
    cases e with
    | returned r =>
     obtain ⟨hp,rows,A',hrel,hmap,hk⟩:=he
     have:=hN _ _ _ _ _ hk hrel (Ext.of_map hmap) (SVok.of_ _ _)
     rwa [SV.val_of] at this
    | panicked ch =>
     obtain ⟨hp,rows,A',hrel,hmap,hk⟩:=he
     exact hP _ _ _ _ _ hk hrel (Ext.of_map hmap)
    | outgrown=>exact he.elim
 ·exact h.elim

theorem op_sound (hT:TabOk P T) (hF:∀ g,F g=true→fnOk P g=true) {o:Oper} (h:vcOp P T F C o.op st A K Qp) (hr:Rel C n st A a w) (hN:Nx C st.hp K next) (hP:Px C st.hp Qp qp):OpRun P next qp ((execOp a.eval o).run P w):=by
 generalize ho:o.op=op at h
 cases op with
 | move x=>exact s_move (.inl ho) h hr hN
 | assign x=>exact s_move (.inr ho) h hr hN
 | pick c x y=>exact s_pick ho h hr hN
 | alloc t=>exact s_alloc hT ho h hr hN
 | box t x=>exact s_box ho h hr hN
 | build t parts=>exact s_build hT ho h hr hN
 | buildSlice t len parts=>exact s_buildSlice hT ho h hr hN
 | makeSlice t l c=>exact s_makeSlice hT ho h hr hN
 | load t x=>exact s_load hT ho h hr hN
 | store t x y=>exact s_store hT ho h hr hN
 | nilCheck x=>exact s_nilCheck ho h hr hN
 | binOp op t x y t'=>exact s_bin hT ho h hr hN
 | unOp op t x=>exact s_un ho h hr hN
 | convert s t x=>exact s_convert hT ho h hr hN
 | fieldAddr s x f=>exact s_fieldAddr hT ho h hr hN
 | indexAddr t x ix=>exact s_indexAddr hT ho h hr hN
 | index t x ix=>exact s_index hT ho h hr hN
 | slice t x lo hi mx =>
  cases mx with
  | none=>exact s_slice hT ho h hr hN
  | some m=>exact h.elim
 | extract x i=>exact s_extract ho h hr hN
 | makeFunc fn first captured=>exact s_makeFunc ho h hr hN
 | makeInterface t x=>exact s_makeInterface hT ho h hr hN
 | panic x=>exact s_panic ho h hr hP
 | call c =>
  obtain ⟨callee,args,ts⟩:=c
  cases callee with
  | value f=>exact s_call hF ho h hr hN hP
  | invoke r m=>exact h.elim
  | builtin b =>
   cases b<;>first | exact s_len hT ho h hr hN | exact s_append hT ho h hr hN | exact h.elim
 | _=>exact h.elim
end
end Go.Eng
/-
  The engine, eighth part: regions, code, loops, and the entering of a function. It holds of every program whose table of types is met.
-/
namespace Go.Eng
open Go.RowKit

abbrev Post:=Exit→St→Anch→Prop

def St.next (st:St) (dst:Option Nat) (s:SV) (hp:List LB) (rows:List Row):St:={ env:=st.env.put dst s,hp:=hp,rows:=rows,df:=st.df }
def St.mem (st:St) (hp:List LB) (rows:List Row):St:={ env:=st.env,hp:=hp,rows:=rows,df:=st.df }
def St.setE (st:St) (d:Nat) (s:SV):St:={ env:=st.env.set d s,hp:=st.hp,rows:=st.rows,df:=st.df }

def forceW (v:Value) (K:Value→Prop):Prop :=
 match v with
 | .agg ⟨cs⟩=>forceVL cs fun cs=>K (.agg ⟨cs⟩)
 | v=>forceV v K
theorem forceW_eq (v:Value) (K:Value→Prop):forceW v K=K v:=by
 unfold forceW
 split
 ·rw[forceVL_eq]
 ·rw[forceV_eq]
def forceSV (s:SV) (K:SV→Prop):Prop :=
 match s with
 | .v x=>forceW x fun x=>K (.v x)
 | .sb c=>K (.sb c)
 | .loc i o=>K (.loc i o)
theorem forceSV_eq (s:SV) (K:SV→Prop):forceSV s K=K s:=by cases s<;>simp only[forceSV,forceW_eq]
def forceHp:List LB→(List LB→Prop)→Prop
 | [],K=>K []
 | ⟨b,cs,t⟩ :: l,K=>forceVL cs fun cs=>forceHp l fun l=>K (⟨b,cs,t⟩ :: l)
theorem forceHp_eq:∀ (l:List LB) (K:List LB→Prop),forceHp l K=K l:=by
 intro l
 induction l with
 | nil=>intro K;rfl
 | cons v l ih=>intro K;simp only[forceHp,forceVL_eq,ih]
def forceRows:List Row→(List Row→Prop)→Prop
 | [],K=>K []
 | ⟨v,n,xs,e,sz⟩ :: l,K=>forceV v fun v=>forceRows l fun l=>K (⟨v,n,xs,e,sz⟩ :: l)
theorem forceRows_eq:∀ (l:List Row) (K:List Row→Prop),forceRows l K=K l:=by
 intro l
 induction l with
 | nil=>intro K;rfl
 | cons v l ih=>intro K;simp only[forceRows,forceV_eq,ih]

def runOp (P:Program) (T:Tab) (F:FuncId→Bool) (C:Ctx) (op:Op) (dst:Option Nat) (st:St) (A:Anch) (K:St→Anch→Prop) (Q:Post):Prop :=
 match st with
 | ⟨env,hp,rows,df⟩=>vcOp P T F C op ⟨env,hp,rows,df⟩ A
   (fun s hp rows A'=>forceSV s fun s=>forceHp hp fun hp=>forceRows rows fun rows=>match dst with | some d=>K ⟨env.set d s,hp,rows,df⟩ A' | none=>K ⟨env,hp,rows,df⟩ A')
   (fun ch hp rows A'=>Q (.panic ch) ⟨env,hp,rows,df⟩ A')
def skipOp (dst:Option Nat) (st:St) (A:Anch) (K:St→Anch→Prop):Prop :=
 match st with
 | ⟨env,hp,rows,df⟩=>match dst with | some d=>K ⟨env.set d (.v undef),hp,rows,df⟩ A | none=>K ⟨env,hp,rows,df⟩ A

def vcOne (P:Program) (T:Tab) (F:FuncId→Bool) (C:Ctx) (all:Array Oper) (o:Oper) (st:St) (A:Anch) (K:St→Anch→Prop) (Q:Post):Prop :=
 match o with
 | ⟨dst,op,_,_,_,none⟩=>runOp P T F C op dst st A K Q
 | ⟨dst,op,_,_,_,some (j,b)⟩ =>
  match (all[j]?).bind (·.dst) with
  | none=>skipOp dst st A K
  | some d =>
   match st.env d with
   | .v (.bool true)=>bif b then runOp P T F C op dst st A K Q else skipOp dst st A K
   | .v (.bool false)=>bif b then skipOp dst st A K else runOp P T F C op dst st A K Q
   | .v (.tuple _)=>skipOp dst st A K
   | .sb c=>match st with
    | ⟨env,hp,rows,df⟩=>(c=b→runOp P T F C op dst ⟨env.set d (.v (.bool b)),hp,rows,df⟩ A K Q)∧(c=(!b)→skipOp dst ⟨env.set d (.v (.bool (!b))),hp,rows,df⟩ A K)
   | _=>False

def vcOps (P:Program) (T:Tab) (F:FuncId→Bool) (C:Ctx) (all:Array Oper) (K:St→Anch→Prop) (Q:Post):List Oper→St→Anch→Prop
 | [],st,A=>K st A
 | o :: r,st,A=>vcOne P T F C all o st A (fun st' A'=>vcOps P T F C all K Q r st' A') Q

theorem runOp_eq (P:Program) (T:Tab) (F:FuncId→Bool) (C:Ctx) (op:Op) (dst:Option Nat) (st:St) (A:Anch) (K:St→Anch→Prop) (Q:Post) :
  runOp P T F C op dst st A K Q=vcOp P T F C op st A (fun s hp rows A'=>K (st.next dst s hp rows) A') (fun ch hp rows A'=>Q (.panic ch) (st.mem hp rows) A'):=by
 obtain ⟨env,hp,rows,df⟩:=st
 unfold runOp
 simp only[forceSV_eq,forceHp_eq,forceRows_eq]
 cases dst<;>rfl
theorem skipOp_eq (dst:Option Nat) (st:St) (A:Anch) (K:St→Anch→Prop):skipOp dst st A K=K (st.next dst (.v undef) st.hp st.rows) A:=by
 obtain ⟨env,hp,rows,df⟩:=st
 cases dst<;>rfl

def modsIn (S:Nat→Bool):Code→Bool
 | .region _ ops _=>ops.toList.all fun o=>match o.dst with | some d=>S d | none=>true
 | .seq a b=>modsIn S a && modsIn S b
 | .cond _ a b=>modsIn S a && modsIn S b
 | .block _ a=>modsIn S a
 | .loop a=>modsIn S a
 | .skip | .exit _ | .ret=>true
 | _=>false

def slotsIn (n:Nat) (c:Code):Bool:=modsIn (fun d=>Nat.blt d n) c

def LoopP (C:Ctx) (n:Nat) (B:St→Anch→Post→Prop) (M:(Nat→Bool)→Bool) (st:St) (A:Anch) (Q:Post):Prop :=
 ∃ S:Nat→Bool,M S=true∧∃ (ι:Type) (I:ι→St→Anch→Prop) (μ:ι→Nat),
  (∀ a w,Rel C n st A a w→∃ i st1 A1,Rel C n st1 A1 a w∧I i st1 A1) ∧
  (∀ i st1 A1,I i st1 A1→B st1 A1 (fun e st' A'=>match e with
   | .normal=>∀ a w,Rel C n st' A' a w→(∀ k,S k=false→a.tmps.getD k undef=(st.env k).val st.hp)→∃ i' st2 A2,Rel C n st2 A2 a w∧I i' st2 A2∧μ i' < μ i
   | e=>Q e st' A'))

def vc (P:Program) (T:Tab) (F:FuncId→Bool) (C:Ctx) (n:Nat):Code→St→Anch→Post→Prop
 | .skip,st,A,Q=>Q .normal st A
 | .region _ ops false,st,A,Q=>vcOps P T F C ops (Q .normal) Q ops.toList st A
 | .seq x y,st,A,Q=>vc P T F C n x st A (fun e st' A'=>match e with | .normal=>vc P T F C n y st' A' Q | e=>Q e st' A')
 | .cond c x y,st,A,Q=>bcase (sv st c) (vc P T F C n x st A Q) (vc P T F C n y st A Q)
 | .block id x,st,A,Q=>vc P T F C n x st A (fun e st' A'=>match e with | .exit i=>bif Nat.beq i id then Q .normal st' A' else Q (.exit i) st' A' | e=>Q e st' A')
 | .loop x,st,A,Q=>LoopP C n (vc P T F C n x) (fun S=>modsIn S x) st A Q
 | .exit id,st,A,Q=>Q (.exit id) st A
 | .ret,st,A,Q=>Q .ret st A
 | _,_,_,_=>False

theorem beq_ne {i d:Nat} (h:i≠d):Nat.beq i d=false:=by
 cases h':Nat.beq i d with
 | false=>rfl
 | true=>exact absurd (Nat.eq_of_beq_eq_true h') h

theorem modsIn_and (S S':Nat→Bool):∀ c:Code,modsIn S c=true→modsIn S' c=true→modsIn (fun k=>S k && S' k) c=true:=by
 intro c
 induction c with
 | region id ops d =>
  intro h1 h2
  simp only[modsIn,List.all_eq_true] at h1 h2 ⊢
  intro o ho
  have h1:=h1 o ho
  have h2:=h2 o ho
  cases hd:o.dst with
  | none=>rfl
  | some d=>rw[hd] at h1 h2;simp only at h1 h2 ⊢;rw[h1,h2];rfl
 | seq x y ihx ihy=>intro h1 h2;simp only[modsIn,Bool.and_eq_true] at h1 h2 ⊢;exact ⟨ihx h1.1 h2.1,ihy h1.2 h2.2⟩
 | cond c x y ihx ihy=>intro h1 h2;simp only[modsIn,Bool.and_eq_true] at h1 h2 ⊢;exact ⟨ihx h1.1 h2.1,ihy h1.2 h2.2⟩
 | block id x ih=>intro h1 h2;exact ih h1 h2
 | loop x ih=>intro h1 h2;exact ih h1 h2
 | skip=>intro _ _;rfl
 | exit id=>intro _ _;rfl
 | ret=>intro _ _;rfl
 | _=>intro h1 _;simp[modsIn] at h1

section
variable {P:Program} {T:Tab} {F:FuncId→Bool} {C:Ctx} {n:Nat}

theorem Rel.next {st:St} {A A':Anch} {a:Act} {w w':World} (hr:Rel C n st A a w) {dst:Option Nat} (hd:∀ d,dst=some d→d < n) {s:SV} {hp:List LB} {rows:List Row} (hw:RelW C hp rows A' w') (he:Ext st.hp hp) (hs:SVok hp s) :
  Rel C n (st.next dst s hp rows) A' (a.put dst (s.val hp)) w':=by
 cases dst with
 | none =>
  refine ⟨hr.size,fun i=>?_,fun i=>SVok.ext he (hr.wf i),hr.df,hw⟩
  show a.tmps.getD i undef=(st.env i).val hp
  rw[val_ext he (hr.wf i)]
  exact hr.tm i
 | some d =>
  have hdn:=hd d rfl
  refine ⟨by simp[Act.put,hr.size],fun i=>?_,fun i=>?_,hr.df,hw⟩
  ·show (a.tmps.setIfInBounds d (s.val hp)).getD i undef=((Env.set st.env d s) i).val hp
   unfold Env.set
   by_cases hi:i=d
   ·subst hi
    have h1:Nat.beq i i=true:=Nat.beq_refl i
    rw[h1]
    have hlt:i < a.tmps.size:=by rw[hr.size];exact hdn
    simp[Array.getD,hlt]
   ·have h1:Nat.beq i d=false:=beq_ne hi
    rw[h1]
    have h2:(a.tmps.setIfInBounds d (s.val hp)).getD i undef=a.tmps.getD i undef:=by
     simp only[Array.getD_eq_getD_getElem?,Array.getElem?_setIfInBounds]
     rw[if_neg (fun e=>hi e.symm)]
    rw[h2,hr.tm i]
    exact (val_ext he (hr.wf i)).symm
  ·show SVok hp ((Env.set st.env d s) i)
   unfold Env.set
   cases Nat.beq i d with
   | true=>exact hs
   | false=>exact SVok.ext he (hr.wf i)

theorem Rel.mem {st:St} {A A':Anch} {a:Act} {w w':World} (hr:Rel C n st A a w) {hp:List LB} {rows:List Row} (hw:RelW C hp rows A' w') (he:Ext st.hp hp):Rel C n (st.mem hp rows) A' a w' :=
 ⟨hr.size,fun i=>by show a.tmps.getD i undef=(st.env i).val hp;rw[val_ext he (hr.wf i)];exact hr.tm i,fun i=>SVok.ext he (hr.wf i),hr.df,hw⟩

theorem Rel.setE {st:St} {A:Anch} {a:Act} {w:World} (hr:Rel C n st A a w) {d:Nat} {s:SV} (hs:SVok st.hp s) (hv:s.val st.hp=(st.env d).val st.hp):Rel C n (st.setE d s) A a w:=by
 refine ⟨hr.size,fun i=>?_,fun i=>?_,hr.df,hr.rw⟩
 ·show a.tmps.getD i undef=((Env.set st.env d s) i).val st.hp
  unfold Env.set
  by_cases hi:i=d
  ·subst hi
   rw[Nat.beq_refl]
   show _=s.val st.hp
   rw[hv]
   exact hr.tm i
  ·have h1:Nat.beq i d=false:=beq_ne hi
   rw[h1]
   exact hr.tm i
 ·show SVok st.hp ((Env.set st.env d s) i)
  unfold Env.set
  cases Nat.beq i d with
  | true=>exact hs
  | false=>exact hr.wf i

theorem yielded_of {st:St} {A:Anch} {a:Act} {w:World} (hr:Rel C n st A a w) {ops:Array Oper} {j d:Nat} (hj:(ops[j]?).bind (·.dst)=some d) :
  yielded ops a.tmps j=(match (st.env d).val st.hp with | .bool b=>some b | _=>none):=by
 unfold yielded
 rw[hj]
 simp only[Option.bind_some]
 have:=hr.tm d
 rw[Array.getD_eq_getD_getElem?] at this
 cases hd:a.tmps[d]? with
 | none=>rw[hd] at this;simp only[Option.getD_none] at this;rw[← this];rfl
 | some v=>rw[hd] at this;simp only[Option.getD_some] at this;rw[← this];cases v<;>rfl

def StepW (P:Program) (ops:Array Oper) (o:Oper) (a:Act) (w:World) (next:Act→World→Prop) (Q:Exit→Act→World→Prop):Prop :=
 if Region.wanted o (yielded ops a.tmps)=true then o.wp P a w next Q else next (a.put o.dst undef) w

theorem one_sound (hT:TabOk P T) (hF:∀ g,F g=true→fnOk P g=true) {all:Array Oper} {o:Oper} {st:St} {A:Anch} {a:Act} {w:World} {K:St→Anch→Prop} {Q:Post} {next:Act→World→Prop} {Qa:Exit→Act→World→Prop}
  (hr:Rel C n st A a w) (hd:∀ d,o.dst=some d→d < n) (h:vcOne P T F C all o st A K Q)
  (hK:∀ st' A' v w',K st' A'→Rel C n st' A' (a.put o.dst v) w'→next (a.put o.dst v) w') (hQ:∀ ch st' A' w',Q (.panic ch) st' A'→Rel C n st' A' a w'→Qa (.panic ch) a w') :
  StepW P all o a w next Qa:=by
 have run:∀ st0:St,Rel C n st0 A a w→vcOp P T F C o.op st0 A (fun s hp rows A'=>K (st0.next o.dst s hp rows) A') (fun ch hp rows A'=>Q (.panic ch) (st0.mem hp rows) A')→o.wp P a w next Qa:=by
  intro st0 hr0 h0
  refine OpRun.wp (op_sound hT hF h0 hr0 ?_ ?_)
  ·intro s hp rows A' w' hk hw he hs
   exact hK _ _ _ _ hk (hr0.next hd hw he hs)
  ·intro ch hp rows A' w' hq hw he
   exact hQ _ _ _ _ hq (hr0.mem hw he)
 have skip:∀ st0:St,Rel C n st0 A a w→K (st0.next o.dst (.v undef) st0.hp st0.rows) A→next (a.put o.dst undef) w:=by
  intro st0 hr0 hk
  exact hK _ _ undef _ hk (hr0.next hd (s:=.v undef) hr0.rw (Ext.refl _) trivial)
 obtain ⟨dst,op,ty,pos,after,guard⟩:=o
 unfold StepW
 cases guard with
 | none =>
  have h:runOp P T F C op dst st A K Q:=h
  rw[runOp_eq] at h
  rw[if_pos (by simp[Region.wanted])]
  exact run st hr h
 | some g =>
  obtain ⟨j,b⟩:=g
  simp only[vcOne,runOp_eq,skipOp_eq] at h
  have hwant:Region.wanted ⟨dst,op,ty,pos,after,some (j,b)⟩ (yielded all a.tmps)=(yielded all a.tmps j == some b):=by simp[Region.wanted]
  rw[hwant]
  split at h
  ·rename_i hnone
   have:yielded all a.tmps j=none:=by unfold yielded;rw[hnone];rfl
   rw[this,if_neg (by simp)]
   exact skip st hr h
  ·rename_i d hsome
   have hy:=yielded_of hr hsome
   rw[hy]
   split at h
   ·rename_i he
    rw[he]
    cases b with
    | true=>rw[if_pos (by simp[SV.val])];exact run st hr h
    | false=>rw[if_neg (by simp[SV.val])];exact skip st hr h
   ·rename_i he
    rw[he]
    cases b with
    | true=>rw[if_neg (by simp[SV.val])];exact skip st hr h
    | false=>rw[if_pos (by simp[SV.val])];exact run st hr h
   ·rename_i he
    rw[he,if_neg (by simp[SV.val])]
    exact skip st hr h
   ·rename_i c he
    rw[he]
    obtain ⟨env,hp,rows,df⟩:=st
    by_cases hc:c=b
    ·subst hc
     rw[if_pos (by simp[SV.val])]
     exact run _ (hr.setE (d:=d) (s:=.v (.bool c)) trivial (by rw[he];rfl)) (h.1 rfl)
    ·have hc':c=!b:=by cases c<;>cases b<;>simp_all
     rw[if_neg (by simp[SV.val,hc])]
     exact skip _ (hr.setE (d:=d) (s:=.v (.bool (!b))) trivial (by rw[he];simp[SV.val,hc'])) (h.2 hc')
   ·exact h.elim

def Keeps (S:Nat→Bool) (a a':Act):Prop:=∀ k,S k=false→a'.tmps.getD k undef=a.tmps.getD k undef
theorem Keeps.refl (S:Nat→Bool) (a:Act):Keeps S a a:=fun _ _=>rfl
theorem Keeps.trans {S:Nat→Bool} {a b c:Act} (h:Keeps S a b) (k:Keeps S b c):Keeps S a c:=fun i hi=>(k i hi).trans (h i hi)
theorem Keeps.put {S:Nat→Bool} {a:Act} {dst:Option Nat} (h:∀ d,dst=some d→S d=true) (v:Value):Keeps S a (a.put dst v):=by
 intro k hk
 cases dst with
 | none=>rfl
 | some d =>
  have hne:d≠k:=fun e=>by subst e;rw[h d rfl] at hk;cases hk
  show (a.tmps.setIfInBounds d v).getD k undef=_
  simp only[Array.getD_eq_getD_getElem?,Array.getElem?_setIfInBounds]
  rw[if_neg hne]

theorem ops_sound (hT:TabOk P T) (hF:∀ g,F g=true→fnOk P g=true) {all:Array Oper} {S:Nat→Bool} {K:St→Anch→Prop} {Q:Post} {Qa:Exit→Act→World→Prop} {a0:Act}
  (hK:∀ st A a w,K st A→Rel C n st A a w→Keeps S a0 a→Qa .normal a w) (hQ:∀ e st A a w,Q e st A→Rel C n st A a w→Keeps S a0 a→Qa e a w) :
  ∀ (l:List Oper),(∀ o∈l,∀ d,o.dst=some d→d < n∧S d=true)→∀ (st:St) (A:Anch) (a:Act) (w:World),vcOps P T F C all K Q l st A→Rel C n st A a w→Keeps S a0 a→wpList P all Qa l a w:=by
 intro l
 induction l with
 | nil=>intro _ st A a w h hr hk;exact hK st A a w h hr hk
 | cons o r ih =>
  intro hl st A a w h hr hk
  have hput:∀ v,Keeps S a0 (a.put o.dst v):=fun v=>hk.trans (Keeps.put (fun d hd=>(hl o List.mem_cons_self d hd).2) v)
  have:=one_sound (next:=wpList P all Qa r) (Qa:=Qa) hT hF hr (fun d hd=>(hl o List.mem_cons_self d hd).1) h
   (fun st' A' v w' hk' hr'=>ih (fun o ho=>hl o (List.mem_cons_of_mem _ ho)) st' A' _ w' hk' hr' (hput v)) (fun ch st' A' w' hq hr'=>hQ _ st' A' a w' hq hr' hk)
  unfold StepW at this
  unfold wpList
  split
  ·rename_i hw
   rw[if_pos hw] at this
   exact .inl this
  ·rename_i hw
   rw[if_neg hw] at this
   exact this

theorem vc_sound (hT:TabOk P T) (hF:∀ g,F g=true→fnOk P g=true):∀ (c:Code) (S:Nat→Bool),slotsIn n c=true→modsIn S c=true→∀ (st:St) (A:Anch) (a:Act) (w:World) (Q:Post),vc P T F C n c st A Q→Rel C n st A a w →
  c.wp P (fun e a' w'=>Keeps S a a'∧∃ st' A',Q e st' A'∧Rel C n st' A' a' w') a w:=by
 intro c
 induction c with
 | skip=>intro S _ _ st A a w Q h hr;exact wp_skip ⟨Keeps.refl _ _,st,A,h,hr⟩
 | region id ops draw =>
  intro S hs hm st A a w Q h hr
  cases draw with
  | true=>exact h.elim
  | false =>
   refine wp_region_list (ops_sound hT hF (K:=Q .normal) (Q:=Q) (a0:=a) (S:=S) (fun st A a w hq hr hk=>⟨hk,st,A,hq,hr⟩) (fun e st A a w hq hr hk=>⟨hk,st,A,hq,hr⟩) ops.toList (fun o ho d hd=>?_) st A a w h hr (Keeps.refl _ _))
   simp only[slotsIn,modsIn,List.all_eq_true] at hs hm
   have h1:=hs o ho
   have h2:=hm o ho
   rw[hd] at h1 h2
   exact ⟨Nat.le_of_ble_eq_true h1,h2⟩
 | seq x y ihx ihy =>
  intro S hs hm st A a w Q h hr
  simp only[slotsIn,modsIn,Bool.and_eq_true] at hs hm
  refine wp_seq (Code.wp_mono ?_ (ihx S hs.1 hm.1 st A a w _ h hr))
  rintro e a' w' ⟨hk,st',A',hq,hr'⟩
  cases e with
  | normal =>
   refine Code.wp_mono ?_ (ihy S hs.2 hm.2 st' A' a' w' Q hq hr')
   rintro e a'' w'' ⟨hk',rest⟩
   exact ⟨hk.trans hk',rest⟩
  | _=>exact ⟨hk,st',A',hq,hr'⟩
 | cond c x y ihx ihy =>
  intro S hs hm st A a w Q h hr
  simp only[slotsIn,modsIn,Bool.and_eq_true] at hs hm
  obtain ⟨b,hv,ht,hf⟩:=bcase.use h
  have hc:a.eval c=.bool b:=by rw[hr.eval];exact hv _
  refine wp_cond hc ?_
  cases b with
  | true=>exact ihx S hs.1 hm.1 st A a w Q (ht rfl) hr
  | false=>exact ihy S hs.2 hm.2 st A a w Q (hf rfl) hr
 | block id x ih =>
  intro S hs hm st A a w Q h hr
  refine wp_block (Code.wp_mono ?_ (ih S hs hm st A a w _ h hr))
  rintro e a' w' ⟨hk,st',A',hq,hr'⟩
  cases e with
  | exit i =>
   simp only[Exit.inBlock]
   by_cases hi:i=id
   ·subst hi
    rw[if_pos rfl]
    simp only[Nat.beq_refl,cond_true] at hq
    exact ⟨hk,st',A',hq,hr'⟩
   ·rw[if_neg hi]
    have:Nat.beq i id=false:=beq_ne hi
    simp only[this,cond_false] at hq
    exact ⟨hk,st',A',hq,hr'⟩
  | _=>exact ⟨hk,st',A',hq,hr'⟩
 | loop x ih =>
  intro S hs hm st A a w Q h hr
  obtain ⟨S',hS',ι,I,μ,hstart,hround⟩:=h
  let J:ι→Act→World→Prop:=fun i a' w'=>∃ st1 A1,I i st1 A1∧Rel C n st1 A1 a' w'∧Keeps S' a a'∧Keeps S a a'
  obtain ⟨i0,st0,A0,hr0,hI0⟩:=hstart a w hr
  classical
  have least:∀ (a':Act) (w':World),(∃ i,J i a' w')→∃ i,J i a' w'∧∀ j,J j a' w'→μ i≤μ j:=by
   intro a' w' hex
   have wf:∀ m,∀ i,μ i=m→J i a' w'→∃ i,J i a' w'∧∀ j,J j a' w'→μ i≤μ j:=by
    intro m
    induction m using Nat.strongRecOn with
    | _ m ihm =>
     intro i hi hJ
     by_cases hall:∀ j,J j a' w'→μ i≤μ j
     ·exact ⟨i,hJ,hall⟩
     ·have ⟨j,hj⟩:=Classical.not_forall.1 hall
      have ⟨hJj,hlt⟩:=Classical.not_imp.1 hj
      exact ihm (μ j) (by omega) j rfl hJj
   obtain ⟨i,hi⟩:=hex
   exact wf _ i rfl hi
  let ν:Act→World→Nat:=fun a' w'=>if hex:∃ i,J i a' w' then μ (Classical.choose (least a' w' hex)) else 0
  have hν:∀ a' w',(∃ i,J i a' w')→∃ i,J i a' w'∧ν a' w'=μ i:=by
   intro a' w' hex
   refine ⟨Classical.choose (least a' w' hex),(Classical.choose_spec (least a' w' hex)).1,?_⟩
   simp only[ν,dif_pos hex]
  have hνle:∀ a' w' j,J j a' w'→ν a' w'≤μ j:=by
   intro a' w' j hj
   have hex:∃ i,J i a' w':=⟨j,hj⟩
   simp only[ν,dif_pos hex]
   exact (Classical.choose_spec (least a' w' hex)).2 j hj
  refine wp_loop (fun a' w'=>∃ i,J i a' w') ν ⟨i0,st0,A0,hI0,hr0,Keeps.refl _ _,Keeps.refl _ _⟩ ?_
  intro a1 w1 hex
  obtain ⟨i,⟨st1,A1,hI,hr1,hk1,hk2⟩,hνi⟩:=hν a1 w1 hex
  have hb:=ih (fun k=>S k && S' k) hs (modsIn_and S S' x hm hS') st1 A1 a1 w1 _ (hround i st1 A1 hI) hr1
  refine Code.wp_mono ?_ hb
  rintro e a2 w2 ⟨hk,st2,A2,hq,hr2⟩
  have hkS:Keeps S a1 a2:=fun k hk'=>hk k (by simp[hk'])
  have hkS':Keeps S' a1 a2:=fun k hk'=>hk k (by simp[hk'])
  cases e with
  | normal =>
   obtain ⟨i',st3,A3,hr3,hI3,hlt⟩:=hq a2 w2 hr2 (fun k hk=>((hk1.trans hkS') k hk).trans (hr.tm k))
   have hJ:J i' a2 w2:=⟨st3,A3,hI3,hr3,hk1.trans hkS',hk2.trans hkS⟩
   refine ⟨⟨i',hJ⟩,?_⟩
   have:=hνle a2 w2 i' hJ
   rw[hνi]
   omega
  | _=>exact ⟨hk2.trans hkS,st2,A2,hq,hr2⟩
 | exit id=>intro S _ _ st A a w Q h hr;exact wp_exit ⟨Keeps.refl _ _,st,A,h,hr⟩
 | ret=>intro S _ _ st A a w Q h hr;exact wp_ret ⟨Keeps.refl _ _,st,A,h,hr⟩
 | _=>intro S _ _ st A a w Q h hr;exact h.elim
end
end Go.Eng
/-
  The engine, ninth part: tables that are checked by the kernel; the entering of a function; the rule for loops; what stays of memory. It holds of every program.
-/
namespace Go.Eng
open Go.RowKit

def eqV:Value→Value→Bool
 | .int k a,.int k' b=>decide (k=k') && decide (a=b)
 | .bool a,.bool b=>a == b
 | .string a,.string b=>a.data.toList == b.data.toList
 | .slice none n c,.slice none n' c'=>n == n' && c == c'
 | .pointer none,.pointer none=>true
 | .map none,.map none=>true
 | .chan none,.chan none=>true
 | .nilFunc,.nilFunc=>true
 | .nilIface,.nilIface=>true
 | _,_=>false
theorem eqV_eq {a b:Value} (h:eqV a b=true):a=b:=by
 unfold eqV at h
 split at h<;>first | (cases h;done) | rfl | skip
 ·simp only[Bool.and_eq_true,decide_eq_true_eq] at h;rw[h.1,h.2]
 ·rw[eq_of_beq h]
 ·rename_i s t
  have:s=t:=by cases s;cases t;rename_i x y;have:=eq_of_beq h;simp at this;rw[this]
  rw[this]
 ·simp only[Bool.and_eq_true,beq_iff_eq] at h;rw[h.1,h.2]
def eqVL:List Value→List Value→Bool
 | [],[]=>true
 | a :: l,b :: m=>eqV a b && eqVL l m
 | _,_=>false
theorem eqVL_eq:∀ {a b:List Value},eqVL a b=true→a=b:=by
 intro a
 induction a with
 | nil=>intro b h;cases b with | nil=>rfl | cons x y=>cases h
 | cons x l ih =>
  intro b h
  cases b with
  | nil=>cases h
  | cons y m=>simp only[eqVL,Bool.and_eq_true] at h;rw[eqV_eq h.1,ih h.2]

def fieldsCheck (P:Program):List Field→List (Nat × Nat)→Bool
 | [],[]=>true
 | f :: fs,(off,sz) :: l=>f.offset == off && (match P.info? f.type with | some inf=>inf.size == sz | none=>false) && !(sz == 0) && fieldsCheck P fs l
 | _,_=>false
theorem fieldsCheck_ok {P:Program}:∀ {fs:List Field} {l:List (Nat × Nat)},fieldsCheck P fs l=true→fs.length=l.length∧∀ (k off sz:Nat),l[k]?=some (off,sz)→∃ (f:Field) (inf:TypeInfo),fs[k]?=some f∧f.offset=off∧P.info? f.type=some inf∧inf.size=sz∧sz≠0:=by
 intro fs
 induction fs with
 | nil=>intro l h;cases l with | nil=>exact ⟨rfl,fun k off sz hk=>by simp at hk⟩ | cons x y=>cases h
 | cons f fs ih =>
  intro l h
  cases l with
  | nil=>cases h
  | cons p l =>
   obtain ⟨off,sz⟩:=p
   simp only[fieldsCheck,Bool.and_eq_true,beq_iff_eq,Bool.not_eq_true',beq_eq_false_iff_ne] at h
   obtain ⟨⟨⟨h1,h2⟩,h3⟩,h4⟩:=h
   obtain ⟨hl,hh⟩:=ih h4
   refine ⟨by simp[hl],fun k o s hk=>?_⟩
   cases k with
   | zero =>
    simp at hk
    obtain ⟨rfl,rfl⟩:=hk
    cases hi:P.info? f.type with
    | none=>rw[hi] at h2;cases h2
    | some inf=>rw[hi] at h2;exact ⟨f,inf,rfl,h1,hi,eq_of_beq h2,h3⟩
   | succ k=>exact hh k o s (by simpa using hk)

def kindCheck (P:Program):TypeDesc→TK→Bool
 | .interface _,.iface=>true
 | .interface _,_=>false
 | .bool,.bool=>true
 | .int k,.int k'=>decide (k=k')
 | .string,.str=>true
 | .slice e,.slice e'=>e == e'
 | .struct fs,.struct l=>fieldsCheck P fs.toList l
 | .array n e,.array n' e'=>n == n' && e == e'
 | _,.cell=>true
 | _,_=>false
theorem kindCheck_ok {P:Program} {d:TypeDesc} {k:TK} (h:kindCheck P d k=true):descOk P d k:=by
 unfold kindCheck at h
 split at h<;>first | (cases h;done) | skip
 ·trivial
 ·rfl
 ·rw[of_decide_eq_true h];rfl
 ·rfl
 ·rw[eq_of_beq h];rfl
 ·rename_i fs l
  obtain ⟨h1,h2⟩:=fieldsCheck_ok h
  exact ⟨fs,rfl,by simpa using h1,fun k off sz hk=>by simpa using h2 k off sz hk⟩
 ·simp only[Bool.and_eq_true,beq_iff_eq] at h;rw[h.1,h.2];rfl
 ·unfold descOk
  split<;>first | trivial | simp_all

def infoCheck (P:Program) (t:TypeId) (i:TI):Bool :=
 match P.underlying t,P.info? t with
 | some d,some inf=>kindCheck P d i.kind && inf.size == i.size && inf.bytes == i.bytes && (match inf.zero with | some z=>eqVL z.cells.toList i.zero | none=>false) && (isAggD d == i.agg) && (i.zero.length == i.size)
 | _,_=>false
theorem infoCheck_ok {P:Program} {t:TypeId} {i:TI} (h:infoCheck P t i=true):InfoOk P t i:=by
 unfold infoCheck at h
 split at h
 ·rename_i d inf hd hi
  simp only[Bool.and_eq_true,beq_iff_eq] at h
  obtain ⟨⟨⟨⟨⟨h1,h2⟩,h3⟩,h4⟩,h5⟩,h6⟩:=h
  cases hz:inf.zero with
  | none=>rw[hz] at h4;cases h4
  | some z =>
   rw[hz] at h4
   exact ⟨⟨d,hd,kindCheck_ok h1,h5⟩,⟨inf,z,hi,h2,h3,hz,by rw[← eqVL_eq h4]⟩,h6⟩
 ·cases h

def lookT:List (TypeId × TI)→Tab
 | [],_=>none
 | p :: l,t=>bif Nat.beq p.1 t then some p.2 else lookT l t
def tabCheck (P:Program) (L:List (TypeId × TI)):Bool:=L.all fun p=>infoCheck P p.1 p.2
theorem tabCheck_ok {P:Program} {L:List (TypeId × TI)} (h:tabCheck P L=true):TabOk P (lookT L):=by
 induction L with
 | nil=>intro t i ht;cases ht
 | cons p l ih =>
  unfold tabCheck at h
  simp only[List.all_cons,Bool.and_eq_true] at h
  intro t i ht
  unfold lookT at ht
  cases hb:Nat.beq p.1 t with
  | true =>
   rw[hb] at ht
   have he:=Nat.eq_of_beq_eq_true hb
   injection ht with ht
   subst ht
   subst he
   exact infoCheck_ok h.1
  | false=>rw[hb] at ht;exact ih h.2 t i ht
def fnsIn (lo N:Nat) (g:Nat):Bool:=Nat.ble lo g && Nat.blt g N
def fnsCheck (P:Program) (lo:Nat):Nat→Bool
 | 0=>true
 | N+1=>(Nat.blt N lo || fnOk P N) && fnsCheck P lo N
theorem fns_ok {P:Program} {lo N:Nat} (h:fnsCheck P lo N=true):∀ g:Nat,fnsIn lo N g=true→fnOk P g=true:=by
 induction N with
 | zero=>intro g hg;simp[fnsIn,Nat.blt] at hg
 | succ N ih =>
  intro g hg
  simp only[fnsCheck,Bool.and_eq_true,Bool.or_eq_true] at h
  simp only[fnsIn,Bool.and_eq_true] at hg
  have h1:=Nat.le_of_ble_eq_true hg.1
  have h2:g < N+1:=Nat.le_of_ble_eq_true hg.2
  by_cases hgn:g=N
  ·subst hgn
   rcases h.1 with h3 | h3
   ·have:g < lo:=Nat.le_of_ble_eq_true h3
    omega
   ·exact h3
  ·exact ih h.2 g (by simp only[fnsIn,Bool.and_eq_true];exact ⟨hg.1,Nat.ble_eq_true_of_le (by omega)⟩)

def envOf (args:List Value):Env:=fun i=>match args[i]? with | some v=>SV.of v | none=>.v undef

def resV (st:St):List ResultVar→Option (List Value)
 | []=>some []
 | .tmp t :: l=>match resV st l with
  | some vs=>some ((st.env t).val st.hp :: vs)
  | none=>none
 | .cell _ _ :: _=>none
def oneOr:List Value→Value
 | [v]=>v
 | vs=>.tuple vs.toArray

def resVC (T:Tab) (st:St):List ResultVar→Option (List Value)
 | []=>some []
 | .tmp t :: l=>match resVC T st l with
  | some vs=>some ((st.env t).val st.hp :: vs)
  | none=>none
 | .cell t ty :: l=>match resVC T st l,st.env t,T ty with
  | some vs,.loc j off,some i=>match st.hp[j]? with
   | some x=>bif i.agg && Nat.ble (off+i.size) x.cs.length then some (.agg (List.take i.size (x.cs.drop off)).toArray :: vs) else none
   | none=>none
  | _,_,_=>none

def Fin (T:Tab) (C:Ctx) (rs:List ResultVar) (R:Ending→World→Prop):Post
 | .normal,⟨env,hp,rows,df⟩,A | .ret,⟨env,hp,rows,df⟩,A=>match resVC T ⟨env,hp,rows,df⟩ rs with
  | some vs=>forceVL vs fun vs=>df=[]∧∀ w,RelW C hp rows A w→R (.returned (oneOr vs)) w
  | none=>False
 | .panic ch,⟨_,hp,rows,df⟩,A=>df=[]∧∀ w,RelW C hp rows A w→R (.panicked ch) w
 | _,_,_=>False

section
variable {P:Program} {T:Tab} {F:FuncId→Bool} {C:Ctx} {n:Nat}

theorem run_results (hT:TabOk P T) {st:St} {A:Anch} {a:Act} {w:World} (hr:Rel C n st A a w):∀ (rs:List ResultVar) (vs:List Value),resVC T st rs=some vs →
  (rs.mapM (m:=Sem) fun | .tmp t=>pure (a.tmps.getD t undef) | .cell c t=>do loadVar t (← asAddr (a.tmps.getD c undef))).run P w=.ok vs w:=by
 intro rs
 induction rs with
 | nil=>intro vs h;simp[resVC] at h;subst h;rfl
 | cons r l ih =>
  intro vs h
  cases r with
  | tmp t =>
   simp only[resVC] at h
   cases hl:resVC T st l with
   | none=>rw[hl] at h;cases h
   | some us =>
    rw[hl] at h
    injection h with h
    subst h
    simp only[List.mapM_cons,Sem.run_bind,Sem.run_pure,Result.andThen_ok,ih us hl,hr.tm t]
  | cell t ty =>
   simp only[resVC] at h
   split at h
   ·rename_i us j off i hl he ht
    split at h
    ·rename_i x hx
     cases hb:i.agg && Nat.ble (off+i.size) x.cs.length with
     | false=>rw[hb] at h;cases h
     | true =>
      rw[hb] at h
      simp only[cond_true] at h
      injection h with h
      subst h
      simp only[Bool.and_eq_true] at hb
      have hle:=Nat.le_of_ble_eq_true hb.2
      have hbn:bnum st.hp j=x.b:=by simp[bnum,hx]
      have hp:a.tmps.getD t undef=.pointer (some ⟨x.b,off,none⟩):=by rw[hr.tm t,he];simp[SV.val,hbn]
      have hld:=run_loadVar_agg (P:=P) (w:=w) (a:=⟨x.b,off,none⟩) (hT ty i ht) hb.1 (vs:=List.take i.size (x.cs.drop off)) (by simp;omega) (by
       intro k v hk
       rw[add_mk,cell_of_row w _ _ _ _ _ (hr.rw.blk j x hx)]
       have hkl:k < i.size:=by have:=(List.getElem?_eq_some_iff.1 hk).1;simp at this;omega
       rw[List.getElem?_take_of_lt hkl,List.getElem?_drop] at hk
       simpa using hk)
      have hone:(do loadVar ty (← asAddr (a.tmps.getD t undef)):Sem Value).run P w=.ok (.agg (List.take i.size (x.cs.drop off)).toArray) w:=by simp[hp,asAddr,hld]
      rw[List.mapM_cons,Sem.run_bind,hone]
      simp only[Result.andThen_ok,Sem.run_bind,ih us hl,Sem.run_pure]
    ·cases h
   ·cases h

theorem run_results' (hT:TabOk P T) {st:St} {A:Anch} {a:Act} {w:World} (hr:Rel C n st A a w) {fn:Func} {vs:List Value} (h:resVC T st fn.results.toList=some vs):(results fn a.tmps).run P w=.ok (oneOr vs) w:=by
 unfold results
 rw[Array.mapM_eq_mapM_toList]
 simp only[Sem.run_bind,Sem.run_map]
 have:=run_results hT hr _ _ h
 erw[this]
 simp only[Result.andThen_ok,Sem.run_pure]
 congr 1
 match vs with
 | []=>rfl
 | [v]=>rfl
 | _ :: _ :: _=>simp[oneOr]

theorem enter (hT:TabOk P T) (hF:∀ g,F g=true→fnOk P g=true) {f:FuncId} {fn:Func} {c:Code} (hf:P.funcs[f]?=some fn) (hb:fn.body=some c) (N:Nat) (hN:fn.ntmps=N) (hs:slotsIn N c=true) (rs:List ResultVar) (hrs:fn.results.toList=rs)
  (args:List Value) (hal:args.length≤N) (own:Nat→Prop) (w:World) (R:Ending→World→Prop)
  (h:vc P T F ⟨w,own⟩ N c { env:=envOf args,hp:=[],rows:=[],df:=[] } ⟨w,fun k=>k < w.heap.size∧¬ own k⟩ (Fin T ⟨w,own⟩ rs R)):Calls P f args.toArray w R:=by
 subst hN
 subst hrs
 refine calls_of_wp hf hb ?_
 have hr:Rel ⟨w,own⟩ fn.ntmps { env:=envOf args,hp:=[],rows:=[],df:=[] } ⟨w,fun k=>k < w.heap.size∧¬ own k⟩ { tmps:=args.toArray++Array.replicate (fn.ntmps - args.toArray.size) undef,defers:=[] } w:=by
  refine ⟨?_,fun i=>?_,fun i=>?_,rfl,⟨fun i x h=>by simp at h,fun i r h=>by simp at h,by simp[nums],fun k hk=>by simp[nums] at hk,fun k _=>rfl,fun k hk=>hk.1,fun k hk=>by simp[nums] at hk,Nat.le_refl _,Nat.le_refl _,Fr.refl _ _⟩⟩
  ·simp;omega
  ·show _=(envOf args i).val []
   unfold envOf
   rw[Array.getD_eq_getD_getElem?]
   by_cases hi:i < args.length
   ·rw[Array.getElem?_append_left (by simpa using hi)]
    simp[hi,SV.val_of]
   ·have h1:args[i]?=none:=List.getElem?_eq_none (by omega)
    rw[h1,Array.getElem?_append_right (by simp;omega)]
    simp only[SV.val]
    rw[Array.getElem?_replicate]
    split<;>rfl
  ·show SVok [] (envOf args i)
   unfold envOf
   split
   ·exact SVok.of_ _ _
   ·trivial
 refine Code.wp_mono ?_ (vc_sound hT hF c _ hs hs _ _ _ w _ h hr)
 rintro e a' w' ⟨_,st',A',hq,hr'⟩
 cases e with
 | normal =>
  obtain ⟨env,hp,rows,df⟩:=st'
  simp only[Fin,forceVL_eq] at hq
  split at hq
  ·rename_i vs hvs
   exact ⟨hr'.df.trans hq.1,_,run_results' hT hr' hvs,hq.2 w' hr'.rw⟩
  ·exact hq.elim
 | ret =>
  obtain ⟨env,hp,rows,df⟩:=st'
  simp only[Fin,forceVL_eq] at hq
  split at hq
  ·rename_i vs hvs
   exact ⟨hr'.df.trans hq.1,_,run_results' hT hr' hvs,hq.2 w' hr'.rw⟩
  ·exact hq.elim
 | panic ch =>
  obtain ⟨env,hp,rows,df⟩:=st'
  exact ⟨hr'.df.trans hq.1,hq.2 w' hr'.rw⟩
 | exit id=>exact hq.elim
 | goto l=>exact hq.elim
 | outgrown=>exact hq.elim
end
end Go.Eng
