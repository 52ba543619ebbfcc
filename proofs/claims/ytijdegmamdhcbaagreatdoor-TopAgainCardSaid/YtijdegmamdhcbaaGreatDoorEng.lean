/-
  The engine, first part: symbolic values, the state of a walk, and what one operation asks. No statement of the seat is proved here. It holds of every program whose table of types is met.
-/
import Derived.OwnWalk
import Derived.Below
import Derived.Laws.OwnMore
import Derived.Laws.Tables
import Derived.Laws.CopyRow
import Derived.Laws.AppendOwnNone
import Derived.WalkSmall
import Derived.Maps.AppendAt
import Derived.Laws.MakeOwn
import Derived.Lib.Strings
import Derived.Laws.Concat
import Derived.Laws.Small
import Derived.Orders
namespace Go.Eng
open Go.RowKit

inductive SV where
 | v (x:Value)
 | sb (c:Bool)
 | loc (i off:Nat)

def SV.of:Value→SV
 | .bool c=>.sb c
 | x=>.v x

structure LB where
 b:Nat
 cs:List Value
 t:TypeId

structure Row where
 v:Value
 n:Nat
 xs:List Value
 e:TypeId
 sz:Nat

abbrev Env:=Nat→SV
def Env.set (e:Env) (d:Nat) (x:SV):Env:=fun i=>bif Nat.beq i d then x else e i
def Env.put (e:Env) (d:Option Nat) (x:SV):Env:=match d with | some k=>e.set k x | none=>e

structure St where
 env:Env
 hp:List LB
 rows:List Row
 df:List Deferred

def bnum (hp:List LB) (i:Nat):Nat:=match hp[i]? with | some x=>x.b | none=>0

def SV.val (hp:List LB):SV→Value
 | .v x=>x
 | .sb c=>.bool c
 | .loc i off=>.pointer (some ⟨bnum hp i,off,none⟩)

def sv (st:St):Operand→SV
 | .tmp t=>st.env t
 | .const x=>SV.of x
 | .global g=>.v (.pointer (some ⟨g,0,none⟩))
 | .func f=>.v (.func (.func f) #[] #[])

def nums (hp:List LB) (rows:List Row):List Nat:=hp.map LB.b++rows.filterMap (fun r=>r.v.ownBlock)

structure Fr (own:Nat→Prop) (w w':World):Prop where
 os:w'.os=w.os
 tape:w'.tape=w.tape
 output:w'.output=w.output
 size:w.heap.size≤w'.heap.size
 block:∀ k,k < w.heap.size→¬ own k→w'.heap[k]?=w.heap[k]?

theorem Fr.refl (own:Nat→Prop) (w:World):Fr own w w:=⟨rfl,rfl,rfl,Nat.le_refl _,fun _ _ _=>rfl⟩
theorem Fr.below {w w':World} (h:Fr (fun _=>False) w w'):Below w.heap.size w w':=⟨h.os,h.tape,h.output,h.size,fun k hk=>h.block k hk (fun h=>h)⟩
structure Ctx where
 w0:World
 own:Nat→Prop

structure Anch where
 w:World
 V:Nat→Prop

structure RelW (C:Ctx) (hp:List LB) (rows:List Row) (A:Anch) (w:World):Prop where
 blk:∀ (i:Nat) (x:LB),hp[i]?=some x→w.heap[x.b]?=some (.cells x.cs.toArray x.t (0,0))
 row:∀ (i:Nat) (r:Row),rows[i]?=some r→w.ownsRow 0 r.e r.sz r.v r.n r.xs
 nodup:(nums hp rows).Nodup
 mine:∀ k,k∈nums hp rows→C.w0.heap.size≤k∨C.own k
 agree:∀ k,A.V k→w.heap[k]?=A.w.heap[k]?
 vlt:∀ k,A.V k→k < A.w.heap.size
 vout:∀ k,k∈nums hp rows→¬ A.V k
 asz:A.w.heap.size≤w.heap.size
 a0:C.w0.heap.size≤A.w.heap.size
 fr:Fr C.own C.w0 w

inductive TK where
 | cell
 | bool
 | int (k:IntKind)
 | str
 | slice (e:TypeId)
 | struct (fs:List (Nat × Nat))
 | array (n:Nat) (e:TypeId)
 | iface

structure TI where
 agg:Bool
 size:Nat
 bytes:Nat
 zero:List Value
 kind:TK

abbrev Tab:=TypeId→Option TI

def isAggD:TypeDesc→Bool
 | .struct _ | .array _ _=>true
 | _=>false

def descOk (P:Program) (d:TypeDesc):TK→Prop
 | .cell=>(match d with | .interface _=>False | _=>True)
 | .bool=>d=.bool
 | .int k=>d=.int k
 | .str=>d=.string
 | .slice e=>d=.slice e
 | .struct fs=>∃ fields,d=.struct fields∧fields.size=fs.length∧∀ (k off sz:Nat),fs[k]?=some (off,sz)→∃ (f:Field) (inf:TypeInfo),fields[k]?=some f∧f.offset=off∧P.info? f.type=some inf∧inf.size=sz∧sz≠0
 | .array n e=>d=.array n e
 | .iface=>(match d with | .interface _=>True | _=>False)

structure InfoOk (P:Program) (t:TypeId) (i:TI):Prop where
 d:∃ d,P.underlying t=some d∧descOk P d i.kind∧isAggD d=i.agg
 inf:∃ (inf:TypeInfo) (z:Value),P.info? t=some inf∧inf.size=i.size∧inf.bytes=i.bytes∧inf.zero=some z∧z.cells=i.zero.toArray
 zsize:i.zero.length=i.size

def TabOk (P:Program) (T:Tab):Prop:=∀ t i,T t=some i→InfoOk P t i

def fnOk (P:Program) (g:FuncId):Bool :=
 match P.funcs[g]? with
 | some fn => !(fn.name == "runtime.NumGoroutine") && fn.body.isSome
 | none=>false

def bcase (c:SV) (A B:Prop):Prop :=
 match c with
 | .v (.bool true)=>A
 | .v (.bool false)=>B
 | .sb c=>(c=true→A)∧(c=false→B)
 | _=>False

theorem bcase.no {c:Bool} {A B:Prop} (h:c=false) (hB:B):bcase (.sb c) A B:=⟨fun h'=>absurd (h'.symm.trans h) (by simp),fun _=>hB⟩

abbrev Cont:=SV→List LB→List Row→Anch→Prop
abbrev PCont:=List PanicEntry→List LB→List Row→Anch→Prop

def isI64 (x c:Int):Prop:=IntKind.i64.wrap x=c
theorem isI64.of {x:Int} (h0:-9223372036854775808≤x) (h1:x≤9223372036854775807):isI64 x x:=by
 unfold isI64
 rw[IntKind.wrap_i64]
 omega

def vcBin (op:BinOp) (x y:SV) (K:SV→Prop):Prop :=
 match op,x,y with
 | .add,.v (.int .i64 a),.v (.int .i64 b)=>∃ c,isI64 (a+b) c∧K (.v (.int .i64 c))
 | .sub,.v (.int .i64 a),.v (.int .i64 b)=>∃ c,isI64 (a - b) c∧K (.v (.int .i64 c))
 | .mul,.v (.int .i64 a),.v (.int .i64 b)=>∃ c,isI64 (a*b) c∧K (.v (.int .i64 c))
 | .add,.v (.int .u8 a),.v (.int .u8 b)=>K (.v (.int .u8 (IntKind.u8.wrap (a+b))))
 | .sub,.v (.int .u8 a),.v (.int .u8 b)=>K (.v (.int .u8 (IntKind.u8.wrap (a - b))))
 | .quo,.v (.int .i64 a),.v (.int .i64 b)=>b≠0∧∃ c,isI64 (a.tdiv b) c∧K (.v (.int .i64 c))
 | .rem,.v (.int .i64 a),.v (.int .i64 b)=>b≠0∧K (.v (.int .i64 (a.tmod b)))
 | .and,.v (.int .i64 a),.v (.int .i64 b)=>∃ c,(Op.intBits .and .i64 a b=pure (.int .i64 c))∧K (.v (.int .i64 c))
 | .or,.v (.int .i64 a),.v (.int .i64 b)=>∃ c,(Op.intBits .or .i64 a b=pure (.int .i64 c))∧K (.v (.int .i64 c))
 | .xor,.v (.int .i64 a),.v (.int .i64 b)=>∃ c,(Op.intBits .xor .i64 a b=pure (.int .i64 c))∧K (.v (.int .i64 c))
 | .shl,.v (.int .i64 a),.v (.int .i64 b)=>0≤b∧∃ c,isI64 (a*2 ^ (min b.toNat 64)) c∧K (.v (.int .i64 c))
 | .shr,.v (.int .i64 a),.v (.int .i64 b)=>0≤b∧K (.v (.int .i64 (a.fdiv (2 ^ (min b.toNat 64)))))
 | .eql,.v (.int .i64 a),.v (.int .i64 b)=>K (.sb (decide (a=b)))
 | .neq,.v (.int .i64 a),.v (.int .i64 b)=>K (.sb (!decide (a=b)))
 | .lss,.v (.int .i64 a),.v (.int .i64 b)=>K (.sb (decide (a < b)))
 | .leq,.v (.int .i64 a),.v (.int .i64 b)=>K (.sb (decide (a≤b)))
 | .gtr,.v (.int .i64 a),.v (.int .i64 b)=>K (.sb (decide (b < a)))
 | .geq,.v (.int .i64 a),.v (.int .i64 b)=>K (.sb (decide (b≤a)))
 | .eql,.v (.int .u8 a),.v (.int .u8 b)=>K (.sb (decide (a=b)))
 | .neq,.v (.int .u8 a),.v (.int .u8 b)=>K (.sb (!decide (a=b)))
 | .lss,.v (.int .u8 a),.v (.int .u8 b)=>K (.sb (decide (a < b)))
 | .leq,.v (.int .u8 a),.v (.int .u8 b)=>K (.sb (decide (a≤b)))
 | .gtr,.v (.int .u8 a),.v (.int .u8 b)=>K (.sb (decide (b < a)))
 | .geq,.v (.int .u8 a),.v (.int .u8 b)=>K (.sb (decide (b≤a)))
 | .eql,.v (.string a),.v (.string b)=>K (.sb (decide (a.data.toList=b.data.toList)))
 | .neq,.v (.string a),.v (.string b)=>K (.sb (!decide (a.data.toList=b.data.toList)))
 | .add,.v (.string a),.v (.string b)=>a.size+b.size≤9223372036854775807∧K (.v (.string ⟨⟨a.data.toList++b.data.toList⟩⟩))
 | _,_,_=>False

def vcBoolEq (op:BinOp) (x y:SV) (K:SV→Prop):Prop :=
 match op,x,y with
 | .eql,.sb a,.sb b=>K (.sb (a == b))
 | .neq,.sb a,.sb b=>K (.sb (!(a == b)))
 | .eql,.v (.bool a),.sb b=>K (.sb (a == b))
 | .neq,.v (.bool a),.sb b=>K (.sb (!(a == b)))
 | .eql,.sb a,.v (.bool b)=>K (.sb (a == b))
 | .neq,.sb a,.v (.bool b)=>K (.sb (!(a == b)))
 | _,_,_=>False

def vcUn (op:UnOp) (x:SV) (K:SV→Prop):Prop :=
 match op,x with
 | .not,.sb c=>K (.sb (!c))
 | .not,.v (.bool true)=>K (.v (.bool false))
 | .not,.v (.bool false)=>K (.v (.bool true))
 | .neg,.v (.int .i64 a)=>∃ c,isI64 (0 - a) c∧K (.v (.int .i64 c))
 | _,_=>False

structure Ld (hp:List LB) (rows:List Row) (A:Anch) (p v:Value):Prop where
 ex:∃ a,p=.pointer (some a)∧A.w.cell? a=some v∧A.V a.block
structure LdN (hp:List LB) (rows:List Row) (A:Anch) (k:Nat) (p:Value) (vs:List Value):Prop where
 len:vs.length=k
 ex:∃ a,p=.pointer (some a)∧(∀ j v,vs[j]?=some v→A.w.cell? (a.add j)=some v)∧A.V a.block
structure LdR (rows:List Row) (k:Nat) (p:Value) (vs:List Value):Prop where
 len:vs.length=k
 ex:∃ (i:Nat) (r:Row) (g o:Nat),rows[i]?=some r∧r.v.ownBlock=some g∧p=.pointer (some ⟨g,o,none⟩)∧∀ j v,vs[j]?=some v→r.xs[o+j]?=some v
structure LdB (hp:List LB) (k:Nat) (p:Value) (vs:List Value):Prop where
 len:vs.length=k
 ex:∃ (i:Nat) (x:LB) (o:Nat),hp[i]?=some x∧p=.pointer (some ⟨x.b,o,none⟩)∧∀ j v,vs[j]?=some v→x.cs[o+j]?=some v

def LdAny (hp:List LB) (rows:List Row) (A:Anch) (k:Nat) (p:Value) (vs:List Value):Prop :=
 LdN hp rows A k p vs∨LdR rows k p vs∨LdB hp k p vs

def setAt:List Value→Nat→List Value→List Value
 | l,_,[]=>l
 | l,k,v :: vs=>setAt (l.set k v) (k+1) vs

def fillO (place:Nat→Option (Nat × Nat)):List Value→List (Nat × List Value)→Option (List Value)
 | cs,[]=>some cs
 | cs,(i,v) :: rest =>
  match place i with
  | none=>none
  | some (off,size)=>bif Nat.beq v.length size && Nat.ble (off+size) cs.length then fillO place (setAt cs off v) rest else none

def cellsL (x:Value):List Value :=
 match x with
 | .agg cs=>cs.toList
 | x=>[x]

def flat:List Value→Bool
 | []=>true
 | v :: vs=>v.oneCell' && flat vs

def repL (z:List Value):Nat→List Value
 | 0=>[]
 | n+1=>z++repL z n


def vcLoad (T:Tab) (t:TypeId) (p:SV) (hp:List LB) (rows:List Row) (A:Anch) (K:SV→Prop):Prop :=
 match T t with
 | none=>False
 | some i =>
  match p with
  | .loc j off =>
   match hp[j]? with
   | none=>False
   | some x =>
    match i.agg with
    | false=>match x.cs[off]? with
     | some v=>K (SV.of v)
     | none=>False
    | true=>bif Nat.ble (off+i.size) x.cs.length then K (.v (.agg (List.take i.size (x.cs.drop off)).toArray)) else False
  | .v q =>
   match i.agg with
   | false=>∃ v,LdAny hp rows A 1 q [v]∧K (SV.of v)
   | true=>∃ vs,LdAny hp rows A i.size q vs∧K (.v (.agg vs.toArray))
  | .sb _=>False

def StPlain (C:Ctx) (hp:List LB) (rows:List Row) (A:Anch) (q:Value) (vs:List Value) (K:List LB→List Row→Anch→Prop):Prop :=
 ∃ (g o:Nat) (cur:Array Value) (t:TypeId),q=.pointer (some ⟨g,o,none⟩)∧A.w.heap[g]?=some (.cells cur t (0,0))∧o+vs.length≤cur.size∧A.V g ∧
  (C.w0.heap.size≤g∨C.own g)∧K hp rows { A with w:=A.w.setRow g (cur.toList.take o++vs++cur.toList.drop (o+vs.length)).toArray }
def StRow (hp:List LB) (rows:List Row) (A:Anch) (q:Value) (vs:List Value) (K:List LB→List Row→Anch→Prop):Prop :=
 ∃ (i:Nat) (r:Row) (g o:Nat),rows[i]?=some r∧r.v.ownBlock=some g∧q=.pointer (some ⟨g,o,none⟩)∧o+vs.length≤r.xs.length∧K hp (rows.set i { r with xs:=setAt r.xs o vs }) A
def StBlk (hp:List LB) (rows:List Row) (A:Anch) (q:Value) (vs:List Value) (K:List LB→List Row→Anch→Prop):Prop :=
 ∃ (j:Nat) (x:LB) (o:Nat),hp[j]?=some x∧q=.pointer (some ⟨x.b,o,none⟩)∧o+vs.length≤x.cs.length∧K (hp.set j { x with cs:=setAt x.cs o vs }) rows A

def vcStore (C:Ctx) (T:Tab) (t:TypeId) (p:SV) (y:Value) (hp:List LB) (rows:List Row) (A:Anch) (K:List LB→List Row→Anch→Prop):Prop :=
 match T t with
 | none=>False
 | some i =>
  bif Nat.beq (cellsL y).length i.size && flat (cellsL y) then
   match p with
   | .loc j off =>
    match hp[j]? with
    | none=>False
    | some x=>bif Nat.ble (off+i.size) x.cs.length then K (hp.set j { x with cs:=setAt x.cs off (cellsL y) }) rows A else False
   | .v q=>StPlain C hp rows A q (cellsL y) K∨StRow hp rows A q (cellsL y) K∨StBlk hp rows A q (cellsL y) K
   | .sb _=>False
  else False

def Src (hp:List LB) (rows:List Row) (A:Anch) (size:Nat) (y:Value) (m:Nat) (news:List Value):Prop :=
 (y=.slice none 0 0∧m=0∧news=[])∨(∃ a c,y=.slice (some a) m c∧LdAny hp rows A (m*size) (.pointer (some a)) news)

def RowShape (v:Value) (n:Nat):Prop:=(v=.slice none 0 0∧n=0)∨∃ g cap,v=.slice (some ⟨g,0,none⟩) n cap∧n≤cap

def vcAppend (T:Tab) (t:TypeId) (x y:Value) (hp:List LB) (rows:List Row) (A:Anch) (K:Cont):Prop :=
 match T t with
 | some { kind:=.slice e,.. } =>
  match T e with
  | none=>False
  | some ei =>
   ∃ (i:Nat) (n m:Nat) (xs news:List Value),
    ((∃ r,rows[i]?=some r∧r.v=x∧r.e=e∧r.sz=ei.size∧r.n=n∧r.xs=xs)∨(i=rows.length∧x=.slice none 0 0∧n=0∧xs=[])) ∧
    Src hp rows A ei.size y m news∧flat news=true∧n+m≤maxLen∧(n+m)*ei.bytes≤140737488355328∧0 < ei.size ∧
    ∀ v',RowShape v' (n+m)→(v'=.slice none 0 0→x=.slice none 0 0)→K (.v v') hp ((rows.take i++[{ v:=v',n:=n+m,xs:=xs++news,e:=e,sz:=ei.size }])++rows.drop (i+1)) A
 | _=>False

def vcSlice (T:Tab) (t:TypeId) (x:SV) (lo hi:Option SV) (K:SV→Prop):Prop :=
 match T t,x with
 | some { kind:=.str,.. },.v (.string s) =>
  ∃ l h:Nat,(match lo with | none=>l=0 | some p=>p=.v (.int .i64 (l:Int)))∧(match hi with | none=>h=s.data.toList.length | some p=>p=.v (.int .i64 (h:Int))) ∧
   l≤h∧h≤s.data.toList.length∧K (.v (.string ⟨⟨(s.data.toList.take h).drop l⟩⟩))
 | some { kind:=.slice e,.. },.v (.slice a len cap) =>
  match T e with
  | none=>False
  | some ei =>
   ∃ l h:Nat,(match lo with | none=>l=0 | some p=>p=.v (.int .i64 (l:Int)))∧(match hi with | none=>h=len | some p=>p=.v (.int .i64 (h:Int))) ∧
    l≤h∧h≤cap∧K (.v (.slice (if cap=l then a else a.map (·.add (l*ei.size))) (h - l) (cap - l)))
 | _,_=>False

/- Values are brought to their heads before the walk goes on, so that no step is reckoned twice. -/
def forceV (v:Value) (K:Value→Prop):Prop :=
 match v with
 | .bool b=>K (.bool b)
 | .int k n=>K (.int k n)
 | .float k b=>K (.float k b)
 | .complex k a b=>K (.complex k a b)
 | .string s=>K (.string s)
 | .pointer a=>K (.pointer a)
 | .slice a n c=>K (.slice a n c)
 | .map r=>K (.map r)
 | .chan r=>K (.chan r)
 | .func f x y=>K (.func f x y)
 | .nilFunc=>K .nilFunc
 | .iface t x=>K (.iface t x)
 | .nilIface=>K .nilIface
 | .agg cs=>K (.agg cs)
 | .tuple vs=>K (.tuple vs)
def forceVL:List Value→(List Value→Prop)→Prop
 | [],K=>K []
 | v :: l,K=>forceV v fun v=>forceVL l fun l=>K (v :: l)
def CallPost (C:Ctx) (hp0:List LB) (K:Cont) (Qp:PCont):Ending→World→Prop
 | .returned r,w'=>∃ hp rows A',RelW C hp rows A' w'∧hp.map LB.b=hp0.map LB.b∧K (SV.of r) hp rows A'
 | .panicked ch,w'=>∃ hp rows A',RelW C hp rows A' w'∧hp.map LB.b=hp0.map LB.b∧Qp ch hp rows A'
 | .outgrown,_=>False

def vcOp (P:Program) (T:Tab) (F:FuncId→Bool) (C:Ctx) (o:Op) (st:St) (A:Anch) (K:Cont) (Qp:PCont):Prop :=
 match o with
 | .move x=>K (sv st x) st.hp st.rows A
 | .assign x=>K (sv st x) st.hp st.rows A
 | .pick c a b=>bcase (sv st c) (K (sv st a) st.hp st.rows A) (K (sv st b) st.hp st.rows A)
 | .alloc t=>match T t with
  | none=>False
  | some i=>∀ b,A.w.heap.size≤b→K (.loc st.hp.length 0) (st.hp++[⟨b,i.zero,t⟩]) st.rows A
 | .box t x=>∀ b,A.w.heap.size≤b→K (.loc st.hp.length 0) (st.hp++[⟨b,cellsL ((sv st x).val st.hp),t⟩]) st.rows A
 | .build t parts=>match T t with
  | some { kind:=.struct fs,zero:=z,.. }=>match fillO (fs[·]?) z (parts.toList.map fun p=>(p.1,cellsL ((sv st p.2).val st.hp))) with
   | some cs=>K (.v (.agg cs.toArray)) st.hp st.rows A
   | none=>False
  | _=>False
 | .buildSlice t len parts=>match T t with
  | some { kind:=.slice e,.. }=>match T e with
   | some ei=>match fillO (fun i=>some (i*ei.size,ei.size)) (repL ei.zero len) (parts.toList.map fun p=>(p.1,cellsL ((sv st p.2).val st.hp))) with
    | some cs=>bif Nat.ble (len*ei.size) 16777216 && Nat.blt 0 ei.size then ∀ b,A.w.heap.size≤b →
      K (.v (.slice (some ⟨b,0,none⟩) len len)) st.hp (st.rows++[{ v:=.slice (some ⟨b,0,none⟩) len len,n:=len,xs:=cs,e:=e,sz:=ei.size }]) A else False
    | none=>False
   | none=>False
  | _=>False
 | .makeSlice t l c=>match T t with
  | some { kind:=.slice e,.. }=>match T e with
   | some ei=>∃ len cap:Nat,sv st l=.v (.int .i64 (len:Int))∧sv st c=.v (.int .i64 (cap:Int))∧len≤cap∧ei.bytes*cap≤140737488355328∧cap≤maxLen ∧
     ∀ b,A.w.heap.size≤b →
      K (.v (.slice (some ⟨b,0,none⟩) len cap)) st.hp (st.rows++[{ v:=.slice (some ⟨b,0,none⟩) len cap,n:=len,xs:=repL ei.zero len,e:=e,sz:=ei.size }]) A
   | none=>False
  | _=>False
 | .load t x=>vcLoad T t (sv st x) st.hp st.rows A fun v=>K v st.hp st.rows A
 | .store t x y=>vcStore C T t (sv st x) ((sv st y).val st.hp) st.hp st.rows A fun hp rows A=>K (.v undef) hp rows A
 | .nilCheck x=>match sv st x with
  | .loc i off=>K (.loc i off) st.hp st.rows A
  | .v (.pointer (some a))=>K (.v (.pointer (some a))) st.hp st.rows A
  | .v (.func (.func f) first captured)=>K (.v (.func (.func f) first captured)) st.hp st.rows A
  | _=>False
 | .binOp op t x y _=>match T t with
  | some { kind:=.bool,.. }=>vcBoolEq op (sv st x) (sv st y) fun v=>K v st.hp st.rows A
  | _=>vcBin op (sv st x) (sv st y) fun v=>K v st.hp st.rows A
 | .unOp op _ x=>vcUn op (sv st x) fun v=>K v st.hp st.rows A
 | .convert src dst x=>match T src,T dst,sv st x with
  | some _,some { kind:=.int .i64,.. },.v (.int .i64 n)=>∃ c,isI64 n c∧K (.v (.int .i64 c)) st.hp st.rows A
  | some _,some { kind:=.int .i64,.. },.v (.int .u8 n)=>∃ c,isI64 n c∧K (.v (.int .i64 c)) st.hp st.rows A
  | some _,some { kind:=.int .u8,.. },.v (.int .i64 n)=>K (.v (.int .u8 (IntKind.u8.wrap n))) st.hp st.rows A
  | _,_,_=>False
 | .fieldAddr s x f=>match T s with
  | some { kind:=.struct fs,.. }=>match fs[f]? with
   | some (off,_)=>match sv st x with
    | .loc i o=>K (.loc i (o+off)) st.hp st.rows A
    | .v (.pointer (some a))=>K (.v (.pointer (some (a.add off)))) st.hp st.rows A
    | _=>False
   | none=>False
  | _=>False
 | .indexAddr t x ix=>match T t with
  | some { kind:=.slice e,.. }=>match T e,sv st x with
   | some ei,.v (.slice a n _)=>∃ (b:Addr) (j:Nat),a=some b∧sv st ix=.v (.int .i64 (j:Int))∧j < n∧K (.v (.pointer (some (b.add (j*ei.size))))) st.hp st.rows A
   | _,_=>False
  | some { kind:=.array n e,.. }=>match T e,sv st x with
   | some ei,.loc i o=>∃ j:Nat,sv st ix=.v (.int .i64 (j:Int))∧j < n∧K (.loc i (o+j*ei.size)) st.hp st.rows A
   | some ei,.v (.pointer (some b))=>∃ j:Nat,sv st ix=.v (.int .i64 (j:Int))∧j < n∧K (.v (.pointer (some (b.add (j*ei.size))))) st.hp st.rows A
   | _,_=>False
  | _=>False
 | .index t x ix=>match T t,sv st x with
  | some { kind:=.str,.. },.v (.string s)=>∃ (j:Nat) (c:UInt8),sv st ix=.v (.int .i64 (j:Int))∧s.data.toList[j]?=some c∧K (.v (.int .u8 (c.toNat:Int))) st.hp st.rows A
  | _,_=>False
 | .slice t x lo hi none=>vcSlice T t (sv st x) (lo.map (sv st)) (hi.map (sv st)) fun v=>K v st.hp st.rows A
 | .extract t i=>match sv st t with
  | .v (.tuple vs)=>match vs.toList[i]? with
   | some v=>K (SV.of v) st.hp st.rows A
   | none=>False
  | _=>False
 | .makeFunc fn first captured=>K (.v (.func fn (first.map fun x=>(sv st x).val st.hp) (captured.map fun x=>(sv st x).val st.hp))) st.hp st.rows A
 | .makeInterface t x=>match T t with
  | some { kind:=.iface,.. }=>False
  | some _=>K (.v (.iface t ((sv st x).val st.hp))) st.hp st.rows A
  | none=>False
 | .panic x=>match sv st x with
  | .v (.iface t v)=>Qp [{ v:=.iface t v,recovered:=false }] st.hp st.rows A
  | _=>False
 | .call { callee:=.builtin .len,args,argTypes }=>match argTypes.toList,args.toList with
  | [t],[x]=>match T t,sv st x with
   | some { kind:=.slice _,.. },.v (.slice _ n _)=>K (.v (.int .i64 (n:Int))) st.hp st.rows A
   | some { kind:=.str,.. },.v (.string s)=>K (.v (.int .i64 (s.data.toList.length:Int))) st.hp st.rows A
   | _,_=>False
  | _,_=>False
 | .call { callee:=.builtin .append,args,argTypes }=>match argTypes.toList,args.toList with
  | [t,t'],[x,y]=>bif Nat.beq t t' then vcAppend T t ((sv st x).val st.hp) ((sv st y).val st.hp) st.hp st.rows A K else False
  | _,_=>False
 | .call { callee:=.value f,args,.. }=>match sv st f with
  | .v (.func (.func g) first captured)=>bif F g then
    forceVL (first.toList++(args.toList.map (fun x=>(sv st x).val st.hp)++captured.toList)) fun l=>∀ w,RelW C st.hp st.rows A w→Calls P g l.toArray w (CallPost C st.hp K Qp) else False
  | _=>False
 | _=>False

end Go.Eng
/-
  The engine, second part: that the state of a walk is kept by each kind of step. It holds of every program.
-/
namespace Go.Eng
open Go.RowKit

def Ext (hp hp':List LB):Prop:=∀ i,i < hp.length→i < hp'.length∧bnum hp' i=bnum hp i
def SVok (hp:List LB) (s:SV):Prop:=match s with | .loc j _=>j < hp.length | _=>True

theorem Ext.trans {a b c:List LB} (h:Ext a b) (k:Ext b c):Ext a c:=fun i hi=>⟨(k i (h i hi).1).1,((k i (h i hi).1).2).trans (h i hi).2⟩
theorem val_ext {hp hp':List LB} (h:Ext hp hp') {s:SV} (hs:SVok hp s):s.val hp'=s.val hp:=by
 cases s with
 | v x=>rfl
 | sb c=>rfl
 | loc i off=>simp only[SV.val];rw[(h i hs).2]
theorem SVok.ext {hp hp':List LB} (h:Ext hp hp') {s:SV} (hs:SVok hp s):SVok hp' s:=by
 cases s with
 | v x=>trivial
 | sb c=>trivial
 | loc i off=>exact (h i hs).1
theorem SVok.of_ (hp:List LB) (v:Value):SVok hp (SV.of v):=by cases v<;>trivial
theorem cellsL_eq (x:Value):cellsL x=x.cells.toList:=by cases x<;>rfl

theorem owns_keep {w w':World} {b e sz n:Nat} {v:Value} {xs:List Value} (h:w.ownsRow b e sz v n xs) (hb:∀ k,v.ownBlock=some k→w'.heap[k]?=w.heap[k]?):w'.ownsRow b e sz v n xs:=by
 refine ⟨h.1,?_⟩
 rcases h.2 with hn | ⟨g,cap,cur,rfl,hg,hgg,rest⟩
 ·exact .inl hn
 ·exact .inr ⟨g,cap,cur,rfl,hg,(hb g rfl).trans hgg,rest⟩

section
variable {C:Ctx} {hp:List LB} {rows:List Row} {A:Anch} {w w':World}

theorem RelW.lt (h:RelW C hp rows A w):∀ k,k∈nums hp rows→k < w.heap.size:=by
 intro k hk
 unfold nums at hk
 rcases List.mem_append.1 hk with hk | hk
 ·obtain ⟨x,hx,rfl⟩:=List.mem_map.1 hk
  obtain ⟨i,hi⟩:=List.getElem?_of_mem hx
  exact (Array.getElem?_eq_some_iff.1 (h.blk i x hi)).1
 ·obtain ⟨r,hr,hk⟩:=List.mem_filterMap.1 hk
  obtain ⟨i,hi⟩:=List.getElem?_of_mem hr
  exact ((h.row i r hi).lt k hk).2

theorem RelW.step (h:RelW C hp rows A w) {G:Nat→Prop} (hf:Fr G w w') (hG:∀ k,G k→k < w.heap.size→k∈nums hp rows) {hp':List LB} {rows':List Row}
  (blk':∀ (i:Nat) (x:LB),hp'[i]?=some x→w'.heap[x.b]?=some (.cells x.cs.toArray x.t (0,0)))
  (row':∀ (i:Nat) (r:Row),rows'[i]?=some r→w'.ownsRow 0 r.e r.sz r.v r.n r.xs)
  (nodup':(nums hp' rows').Nodup)
  (sub:∀ k,k∈nums hp' rows'→k∈nums hp rows∨w.heap.size≤k):RelW C hp' rows' A w' where
 blk:=blk'
 row:=row'
 nodup:=nodup'
 mine:=fun k hk=>by
  rcases sub k hk with hk | hk
  ·exact h.mine k hk
  ·exact .inl (Nat.le_trans h.a0 (Nat.le_trans h.asz hk))
 agree:=fun k hk=>by
  have hlt:=h.vlt k hk
  have hsz:=h.asz
  rw[hf.block k (by omega) (fun hg=>h.vout k (hG k hg (by omega)) hk)]
  exact h.agree k hk
 vlt:=h.vlt
 vout:=fun k hk hv=>by
  rcases sub k hk with hk | hk
  ·exact h.vout k hk hv
  ·have:=h.vlt k hv
   have:=h.asz
   omega
 asz:=Nat.le_trans h.asz hf.size
 a0:=h.a0
 fr:=by
  refine ⟨hf.os.trans h.fr.os,hf.tape.trans h.fr.tape,hf.output.trans h.fr.output,Nat.le_trans h.fr.size hf.size,fun k hk hn=>?_⟩
  have hsz:=h.fr.size
  rw[hf.block k (by omega) (fun hg=>?_)]
  ·exact h.fr.block k hk hn
  ·rcases h.mine k (hG k hg (by omega)) with hm | hm
   ·omega
   ·exact hn hm

theorem Fr.alloc (G:Nat→Prop) (w:World) (o:Obj):Fr G w (w.alloc o) :=
 ⟨rfl,rfl,rfl,by simp,fun k hk _=>Below.heap_alloc w o k hk⟩

theorem heap_setRow_other (w:World) (g:Nat) (cs:Array Value) (k:Nat) (h:k≠g):(w.setRow g cs).heap[k]?=w.heap[k]?:=by
 simp only[World.setRow,Array.getElem?_modify]
 rw[if_neg (fun e=>h e.symm)]

theorem Fr.setRow (w:World) (g:Nat) (cs:Array Value):Fr (fun k=>k=g) w (w.setRow g cs) :=
 ⟨rfl,rfl,rfl,by simp[World.setRow],fun k _ hn=>heap_setRow_other w g cs k hn⟩

end
end Go.Eng
/-
  The engine, third part: what each operation's run gives, out of what the clauses ask. It holds of every program.
-/
namespace Go.Eng
open Go.RowKit

section
variable {C:Ctx} {hp:List LB} {rows:List Row} {A:Anch} {w w':World}

theorem add_mk (b o j:Nat):(⟨b,o,none⟩:Addr).add j=⟨b,o+j,none⟩:=by unfold Addr.add;split<;>simp_all
theorem add_block (a:Addr) (j:Nat):(a.add j).block=a.block:=by unfold Addr.add;split<;>rfl

theorem LdAny.cells (h:RelW C hp rows A w) {k:Nat} {a:Addr} {vs:List Value} (hl:LdAny hp rows A k (.pointer (some a)) vs):vs.length=k∧∀ j v,vs[j]?=some v→w.cell? (a.add j)=some v:=by
 rcases hl with hl | hl | hl
 ·obtain ⟨b,hb,hc,hv⟩:=hl.ex
  injection hb with hb
  injection hb with hb
  subst hb
  refine ⟨hl.len,fun j v hj=>?_⟩
  rw[World.cell?_of_block (w:=A.w) (w':=w) (a:=a.add j) (by rw[add_block];exact h.agree _ hv)]
  exact hc j v hj
 ·obtain ⟨i,r,g,o,hi,hg,hb,hc⟩:=hl.ex
  injection hb with hb
  injection hb with hb
  subst hb
  refine ⟨hl.len,fun j v hj=>?_⟩
  have:=(h.row i r hi).cells hg (o+j) v (hc j v hj)
  rw[add_mk] at this ⊢
  simpa using this
 ·obtain ⟨i,x,o,hi,hb,hc⟩:=hl.ex
  injection hb with hb
  injection hb with hb
  subst hb
  refine ⟨hl.len,fun j v hj=>?_⟩
  rw[add_mk,cell_of_row w _ _ _ _ _ (h.blk i x hi)]
  simpa using hc j v hj

theorem run_loadVar_one {P:Program} {t:TypeId} {i:TI} (hi:InfoOk P t i) (hagg:i.agg=false) {a:Addr} {v:Value} (hc:w.cell? a=some v):(loadVar t a).run P w=.ok v w:=by
 obtain ⟨d,hd,_,hda⟩:=hi.d
 rw[hagg] at hda
 have:(isAgg t).run P w=.ok false w:=by
  cases d<;>simp_all [isAgg,run_underlying hd,isAggD]
 simp[loadVar,this,hc]

theorem run_loadVar_agg {P:Program} {t:TypeId} {i:TI} (hi:InfoOk P t i) (hagg:i.agg=true) {a:Addr} {vs:List Value} (hl:vs.length=i.size) (hc:∀ j v,vs[j]?=some v→w.cell? (a.add j)=some v) :
  (loadVar t a).run P w=.ok (.agg vs.toArray) w:=by
 obtain ⟨d,hd,_,hda⟩:=hi.d
 obtain ⟨inf,z,hinf,hsz,_⟩:=hi.inf
 rw[hagg] at hda
 have h1:(isAgg t).run P w=.ok true w:=by
  cases d<;>simp_all [isAgg,run_underlying hd,isAggD]
 have h2:(sizeOf t).run P w=.ok vs.length w:=by simp[sizeOf,typeInfo,hinf,hsz,hl]
 simp[loadVar,h1,h2,run_loadCells_list (P:=P) w a vs hc]

theorem length_setAt (vs:List Value):∀ (l:List Value) (o:Nat),(setAt l o vs).length=l.length:=by
 induction vs with
 | nil=>intro l o;rfl
 | cons v vs ih=>intro l o;simp[setAt,ih]

theorem setAt_eq (vs:List Value):∀ (l:List Value) (o:Nat),o+vs.length≤l.length→setAt l o vs=l.take o++vs++l.drop (o+vs.length):=by
 induction vs with
 | nil=>intro l o h;simp[setAt]
 | cons v vs ih =>
  intro l o h
  simp only[List.length_cons] at h
  rw[setAt,ih (l.set o v) (o+1) (by simp;omega)]
  have h1:(l.set o v).take (o+1)=l.take o++[v]:=by
   rw[List.take_succ_eq_append_getElem (by simp;omega)]
   simp[List.take_set_of_le]
  have h2:(l.set o v).drop (o+1+vs.length)=l.drop (o+(vs.length+1)):=by
   rw[List.drop_set_of_lt (by omega),show o+1+vs.length=o+(vs.length+1) from by omega]
  rw[h1,h2]
  simp[List.append_assoc,List.length_cons]

theorem take_setAt (vs:List Value) (l:List Value) (m o:Nat) (hm:m≤l.length) (ho:o+vs.length≤m):(l.take o++vs++l.drop (o+vs.length)).take m=setAt (l.take m) o vs:=by
 rw[setAt_eq _ _ _ (by rw[List.length_take];omega)]
 rw[List.take_append,List.take_append,List.take_take,Nat.min_eq_right (by omega)]
 have e1:(l.take o).length=o:=by rw[List.length_take];omega
 have e2:vs.take (m - o)=vs:=List.take_of_length_le (by omega)
 rw[e1,e2,List.take_take,Nat.min_eq_left (by omega),List.length_append,e1,List.drop_take]

theorem flat_mem:∀ {l:List Value},flat l=true→∀ v∈l,v.oneCell'=true:=by
 intro l
 induction l with
 | nil=>intro _ v hv;simp at hv
 | cons a l ih =>
  intro h v hv
  simp only[flat,Bool.and_eq_true] at h
  rcases List.mem_cons.1 hv with rfl | hv
  ·exact h.1
  ·exact ih h.2 v hv

theorem run_storeVar_at {P:Program} {t:TypeId} {i:TI} (hi:InfoOk P t i) {y:Value} (hl:(cellsL y).length=i.size) (hf:flat (cellsL y)=true) {g o:Nat} {cur:Array Value} {t':TypeId}
  (hg:w.heap[g]?=some (.cells cur t' (0,0))) (hfit:o+(cellsL y).length≤cur.size) :
  (storeVar t ⟨g,o,none⟩ y).run P w=.ok () (w.setRow g (cur.toList.take o++cellsL y++cur.toList.drop (o+(cellsL y).length)).toArray):=by
 obtain ⟨inf,z,hinf,hsz,_⟩:=hi.inf
 have hs:y.cells.size=inf.size:=by rw[cellsL_eq] at hl;simpa [hsz] using hl
 have:=run_storeCells_at (P:=P) g o t' (cellsL y) 0 cur w hg (by simpa using hfit) (flat_mem hf)
 rw[cellsL_eq] at this
 simp only[Nat.add_zero] at this
 rw[cellsL_eq]
 simp[storeVar,sizeOf,typeInfo,hinf,hs,this]

theorem run_fieldAt {P:Program} {T:Tab} (hT:TabOk P T) {s f off sz:Nat} {i:TI} {fs:List (Nat × Nat)} (hs:T s=some i) (hk:i.kind=.struct fs) (hf:fs[f]?=some (off,sz)) (a:Addr) (w:World) :
  (Instr.fieldAt s (.pointer (some a)) f).run P w=.ok (.pointer (some (a.add off))) w:=by
 obtain ⟨d,hd,hdk,_⟩:=(hT s i hs).d
 rw[hk] at hdk
 obtain ⟨fields,rfl,_,hfs⟩:=hdk
 obtain ⟨fd,inf,hfd,rfl,hinf,rfl,hne⟩:=hfs f off sz hf
 simp[Instr.fieldAt,run_underlying hd,hfd,Instr.sureAddr,fieldPlace,sizeOf,typeInfo,hinf,hne]

theorem run_indexAt_sl {P:Program} {T:Tab} (hT:TabOk P T) {t e:TypeId} {i ei:TI} (hs:T t=some i) (hk:i.kind=.slice e) (he:T e=some ei) (b:Addr) (n c j:Nat) (hj:j < n) (w:World) :
  (Instr.indexAt t (.slice (some b) n c) (.int .i64 (j:Int))).run P w=.ok (.pointer (some (b.add (j*ei.size)))) w:=by
 obtain ⟨d,hd,hdk,_⟩:=(hT t i hs).d
 rw[hk] at hdk
 have hdk:d=.slice e:=hdk
 subst hdk
 obtain ⟨inf,z,hinf,hsz,_⟩:=(hT e ei he).inf
 have h1:(0:Int)≤(j:Int)∧(j:Int) < (n:Int):=by omega
 simp[Instr.indexAt,run_underlying hd,asIntOf,sizeOf,typeInfo,hinf,hsz,hj]

theorem run_indexAt_arr {P:Program} {T:Tab} (hT:TabOk P T) {t e:TypeId} {i ei:TI} {n:Nat} (hs:T t=some i) (hk:i.kind=.array n e) (he:T e=some ei) (b:Addr) (j:Nat) (hj:j < n) (w:World) :
  (Instr.indexAt t (.pointer (some b)) (.int .i64 (j:Int))).run P w=.ok (.pointer (some (b.add (j*ei.size)))) w:=by
 obtain ⟨d,hd,hdk,_⟩:=(hT t i hs).d
 rw[hk] at hdk
 have hdk:d=.array n e:=hdk
 subst hdk
 obtain ⟨inf,z,hinf,hsz,_⟩:=(hT e ei he).inf
 simp[Instr.indexAt,run_underlying hd,asIntOf,Instr.sureAddr,sizeOf,typeInfo,hinf,hsz,hj]

theorem run_len_sl {P:Program} {T:Tab} (hT:TabOk P T) {t e:TypeId} {i:TI} (hs:T t=some i) (hk:i.kind=.slice e) (a:Option Addr) (n c:Nat) (ty:TypeId) (w:World) :
  (Builtin.len_ #[t] ty #[.slice a n c]).run P w=.ok (.int .i64 (n:Int)) w:=by
 obtain ⟨d,hd,hdk,_⟩:=(hT t i hs).d
 rw[hk] at hdk
 have hdk:d=.slice e:=hdk
 subst hdk
 simp[Builtin.len_,run_underlying hd,goInt]

theorem run_len_str {P:Program} {T:Tab} (hT:TabOk P T) {t:TypeId} {i:TI} (hs:T t=some i) (hk:i.kind=.str) (s:ByteArray) (ty:TypeId) (w:World) :
  (Builtin.len_ #[t] ty #[.string s]).run P w=.ok (.int .i64 (s.data.toList.length:Int)) w:=by
 obtain ⟨d,hd,hdk,_⟩:=(hT t i hs).d
 rw[hk] at hdk
 have hdk:d=.string:=hdk
 subst hdk
 show _=Result.ok (Value.int .i64 ((s.size:Nat):Int)) w
 simp[Builtin.len_,run_underlying hd,goInt]

theorem fill_eq (place:Nat→Option (Nat × Nat)):∀ (parts:List (Nat × Value)) (cs out:List Value),fillO place cs (parts.map fun p=>(p.1,cellsL p.2))=some out→Instr.fill place cs.toArray parts=some out.toArray:=by
 intro parts
 induction parts with
 | nil=>intro cs out h;simp[fillO] at h;subst h;rfl
 | cons p rest ih =>
  intro cs out h
  obtain ⟨k,v⟩:=p
  simp only[List.map_cons,fillO] at h
  cases hp:place k with
  | none=>rw[hp] at h;cases h
  | some q =>
   obtain ⟨off,size⟩:=q
   rw[hp] at h
   simp only at h
   cases hb:Nat.beq (cellsL v).length size && Nat.ble (off+size) cs.length with
   | false=>rw[hb] at h;cases h
   | true =>
    rw[hb] at h
    simp only[Bool.and_eq_true] at hb
    have h1:(cellsL v).length=size:=Nat.eq_of_beq_eq_true hb.1
    have h2:off+size≤cs.length:=Nat.le_of_ble_eq_true hb.2
    have h:=ih _ _ h
    simp only[Instr.fill,hp]
    have hsz:v.cells.size=size:=by rw[cellsL_eq] at h1;simpa using h1
    rw[if_neg (by simp[hsz];omega)]
    rw[← h]
    congr 1
    rw[cellsL_eq]
    have key:∀ (vs:List Value) (o:Nat) (l:List Value),(vs.zipIdx o).foldl (fun (a:Array Value) (x:Value × Nat)=>a.setIfInBounds (off+x.2) x.1) l.toArray=(setAt l (off+o) vs).toArray:=by
     intro vs
     induction vs with
     | nil=>intro o l;rfl
     | cons u us ih2 =>
      intro o l
      simp only[List.zipIdx_cons,List.foldl_cons,List.setIfInBounds_toArray,setAt]
      rw[ih2 (o+1) (l.set (off+o) u)]
      rfl
    have:=key v.cells.toList 0 cs
    rw[← Array.foldl_toList,Array.toList_zipIdx]
    simpa using this

theorem run_build_st {P:Program} {T:Tab} (hT:TabOk P T) {t:TypeId} {i:TI} {fs:List (Nat × Nat)} (hs:T t=some i) (hk:i.kind=.struct fs) (parts:Array (Nat × Value)) (out:List Value)
  (h:fillO (fs[·]?) i.zero (parts.toList.map fun p=>(p.1,cellsL p.2))=some out) (w:World) :
  (Instr.build t parts).run P w=.ok (.agg out.toArray) w:=by
 obtain ⟨d,hd,hdk,_⟩:=(hT t i hs).d
 rw[hk] at hdk
 obtain ⟨fields,rfl,hlen,hfs⟩:=hdk
 obtain ⟨inf,z,hinf,_,_,hz,hzc⟩:=(hT t i hs).inf
 have hm:(fields.mapM (m:=Sem) fun f=>do pure (f.offset,← sizeOf f.type)).run P w=.ok fs.toArray w:=by
  have key:∀ (l:List Field) (gs:List (Nat × Nat)),l.length=gs.length→(∀ (k off sz:Nat),gs[k]?=some (off,sz)→∃ (f:Field) (inf:TypeInfo),l[k]?=some f∧f.offset=off∧P.info? f.type=some inf∧inf.size=sz∧sz≠0) →
    (l.mapM (m:=Sem) fun f=>do pure (f.offset,← sizeOf f.type)).run P w=.ok gs w:=by
   intro l
   induction l with
   | nil=>intro gs hg _;cases gs with | nil=>rfl | cons a b=>simp at hg
   | cons f l ih =>
    intro gs hg hh
    cases gs with
    | nil=>simp at hg
    | cons a b =>
     obtain ⟨off,sz⟩:=a
     obtain ⟨f',inf',hf',rfl,hinf',rfl,_⟩:=hh 0 off sz rfl
     simp at hf'
     subst hf'
     have:=ih b (by simpa using hg) (fun k off sz hk=>by simpa using hh (k+1) off sz (by simpa using hk))
     simp only[List.mapM_cons,Sem.run_bind,sizeOf,typeInfo,run_program,Result.andThen_ok,hinf',Sem.run_pure]
     simp only[sizeOf,typeInfo] at this
     rw[this]
     rfl
  have:=key fields.toList fs (by simpa using hlen) (fun k off sz hk=>by simpa using hfs k off sz hk)
  rw[Array.mapM_eq_mapM_toList,Sem.run_map,this]
  rfl
 have hfill:=fill_eq (fs[·]?) parts.toList i.zero out h
 simp only[Instr.build,Sem.run_bind,zeroValue,typeInfo,run_program,Result.andThen_ok,hinf,Sem.run_pure,hz,run_underlying hd,hm,hzc]
 have hfill':Instr.fill (fun x=>fs.toArray[x]?) i.zero.toArray parts.toList=some out.toArray:=by
  rw[← hfill]
  congr 1
  funext x
  simp
 rw[hfill']
 rfl
end
end Go.Eng
/-
  The engine, fourth part: what is asked of an operation suffices for its run. It holds of every program whose table of types is met.
-/
namespace Go.Eng
open Go.RowKit

theorem length_repL (z:List Value):∀ n,(repL z n).length=n*z.length:=by
 intro n
 induction n with
 | zero=>simp[repL]
 | succ n ih=>simp[repL,ih,Nat.succ_mul,Nat.add_comm]

theorem getElem_repL (z:List Value) (_hz:0 < z.length):∀ (n j:Nat),j < n*z.length→(repL z n)[j]?=z[j % z.length]?:=by
 intro n
 induction n with
 | zero=>intro j h;simp at h
 | succ n ih =>
  intro j h
  rw[repL]
  by_cases hj:j < z.length
  ·rw[List.getElem?_append_left hj,Nat.mod_eq_of_lt hj]
  ·rw[List.getElem?_append_right (by omega),ih (j - z.length) (by rw[Nat.succ_mul] at h;omega),← Nat.mod_eq_sub_mod (by omega)]

theorem made_repL (z:List Value) (hz:0 < z.length) (n:Nat):(Array.range (n*z.length)).map (fun i=>z.toArray[i % z.toArray.size]!)=(repL z n).toArray:=by
 apply Array.ext'
 apply List.ext_getElem?
 intro j
 by_cases hj:j < n*z.length
 ·show _=(repL z n)[j]?
  rw[getElem_repL z hz n j hj]
  have hm:j % z.length < z.length:=Nat.mod_lt _ hz
  simp[hj,hm]
 ·have h1:(repL z n)[j]?=none:=List.getElem?_eq_none (by rw[length_repL];omega)
  simp[h1]
  omega

theorem fillO_length (place:Nat→Option (Nat × Nat)):∀ (parts:List (Nat × List Value)) (cs out:List Value),fillO place cs parts=some out→out.length=cs.length:=by
 intro parts
 induction parts with
 | nil=>intro cs out h;simp[fillO] at h;subst h;rfl
 | cons p rest ih =>
  intro cs out h
  obtain ⟨k,v⟩:=p
  simp only[fillO] at h
  cases hp:place k with
  | none=>rw[hp] at h;cases h
  | some q =>
   obtain ⟨off,size⟩:=q
   rw[hp] at h
   simp only at h
   cases hb:Nat.beq v.length size && Nat.ble (off+size) cs.length with
   | false=>rw[hb] at h;cases h
   | true=>rw[hb] at h;rw[ih _ _ h,length_setAt]

section
variable {C:Ctx} {hp:List LB} {rows:List Row} {A:Anch} {w w':World}

theorem run_sliceBound {P:Program} (l y:Nat) (code:BoundsCode) (h:l≤y):(Instr.sliceBound (.int .i64 (l:Int)) y code).run P w=.ok l w:=by
 have h1:(0:Int)≤(l:Int)∧(l:Int)≤(y:Int):=by omega
 simp[Instr.sliceBound,asIntOf,h]

theorem run_bounds {P:Program} (b:Bool) (len cap l h:Nat) (lo hi:Option Value) (hlo:match lo with | none=>l=0 | some p=>p=.int .i64 (l:Int)) (hhi:match hi with | none=>h=len | some p=>p=.int .i64 (h:Int))
  (hl:l≤h) (hc:h≤cap):(Instr.sliceBounds b len cap lo hi none).run P w=.ok (l,h,cap) w:=by
 cases lo with
 | none =>
  cases hi with
  | none=>simp only at hlo hhi;subst hlo;subst hhi;simp[Instr.sliceBounds]
  | some q=>simp only at hlo hhi;subst hlo;subst hhi;cases b<;>simp[Instr.sliceBounds,run_sliceBound,hc]
 | some p =>
  cases hi with
  | none=>simp only at hlo hhi;subst hlo;subst hhi;simp[Instr.sliceBounds,run_sliceBound,hl]
  | some q=>simp only at hlo hhi;subst hlo;subst hhi;cases b<;>simp[Instr.sliceBounds,run_sliceBound,hc,hl]

theorem extract_list (s:ByteArray) (l h:Nat) (_hh:h≤s.data.toList.length):s.extract l h=⟨⟨(s.data.toList.take h).drop l⟩⟩:=by
 have:(s.extract l h).data=(⟨(s.data.toList.take h).drop l⟩:Array UInt8):=by
  rw[ByteArray.data_extract]
  apply Array.ext'
  simp[Array.toList_extract,List.extract_eq_take_drop,List.drop_take]
 cases hs:s.extract l h with
 | mk d=>rw[hs] at this;simp only at this;rw[this]
end
end Go.Eng
/-
  The engine, fifth part: each operation's clause suffices for its run. It holds of every program whose table of types is met.
-/
namespace Go.Eng
open Go.RowKit

structure Rel (C:Ctx) (n:Nat) (st:St) (A:Anch) (a:Act) (w:World):Prop where
 size:a.tmps.size=n
 tm:∀ i,a.tmps.getD i undef=(st.env i).val st.hp
 wf:∀ i,SVok st.hp (st.env i)
 df:a.defers=st.df
 rw:RelW C st.hp st.rows A w

def OpRun (P:Program) (next:Value→World→Prop) (qp:List PanicEntry→World→Prop):Result Next→Prop
 | .ok (.value v) w'=>next v w'
 | .ok .skip w'=>next undef w'
 | .ok (.enter f args) w'=>Calls P f args w' fun
   | .returned v,w''=>next v w''
   | .panicked ch,w''=>qp ch w''
   | .outgrown,_=>False
 | .halt (.panic v) w'=>qp [{ v,recovered:=false }] w'
 | _=>False

theorem OpRun.wp {P:Program} {o:Oper} {a:Act} {w:World} {next:Act→World→Prop} {Q:Exit→Act→World→Prop}
  (h:OpRun P (fun v w'=>next (a.put o.dst v) w') (fun ch w'=>Q (.panic ch) a w') ((execOp a.eval o).run P w)):o.wp P a w next Q:=by
 unfold Oper.wp
 revert h
 cases (execOp a.eval o).run P w with
 | ok x w' =>
  cases x<;>intro h<;>try exact h.elim
  ·exact h
  ·exact h
  ·refine h.mono fun e w'' he=>?_
   cases e with
   | returned v=>exact he
   | panicked ch=>exact he
   | outgrown=>exact he.elim
 | halt x w' =>
  cases x<;>intro h<;>first | exact h.elim | exact h

section
variable {P:Program} {T:Tab} {F:FuncId→Bool} {C:Ctx} {n:Nat} {st:St} {A:Anch} {a:Act} {w:World} {K:Cont} {Qp:PCont} {next:Value→World→Prop} {qp:List PanicEntry→World→Prop}

theorem Rel.ok (hr:Rel C n st A a w) (x:Operand):SVok st.hp (sv st x):=by
 cases x with
 | tmp t=>exact hr.wf t
 | const v=>exact SVok.of_ st.hp v
 | global g=>trivial
 | func f=>trivial

def Nx (C:Ctx) (hp0:List LB) (K:Cont) (next:Value→World→Prop):Prop:=∀ s hp rows A w,K s hp rows A→RelW C hp rows A w→Ext hp0 hp→SVok hp s→next (s.val hp) w
def Px (C:Ctx) (hp0:List LB) (Qp:PCont) (qp:List PanicEntry→World→Prop):Prop:=∀ ch hp rows A w,Qp ch hp rows A→RelW C hp rows A w→Ext hp0 hp→qp ch w

end
end Go.Eng
/-
  The engine, sixth part: the other operations' clauses suffice for their runs. It holds of every program whose table of types is met.
-/
namespace Go.Eng
open Go.RowKit

section
variable {P:Program} {T:Tab} {F:FuncId→Bool} {C:Ctx} {n:Nat} {st:St} {A:Anch} {a:Act} {w:World} {K:Cont} {Qp:PCont} {next:Value→World→Prop} {qp:List PanicEntry→World→Prop}

theorem run_v {o:Oper} {ρ:Operand→Value} {x:Sem Value} {v:Value} {w':World} (he:execOp ρ o=(do pure (.value (← x)))) (h:x.run P w=.ok v w'):(execOp ρ o).run P w=.ok (.value v) w':=by
 rw[he,Sem.run_bind,h]
 rfl

theorem str_eq (s t:ByteArray):(s.toList == t.toList)=decide (s.data.toList=t.data.toList):=by
 rw[ByteArray.toList_eq,ByteArray.toList_eq]
 by_cases hd:s.data.toList=t.data.toList
 ·simp[hd]
 ·have hd':¬ s.data=t.data:=fun e=>hd (by rw[e])
  simp[hd']
theorem str_add (s t:ByteArray):s++t=⟨⟨s.data.toList++t.data.toList⟩⟩:=by
 have h:(s++t).data=(⟨s.data.toList++t.data.toList⟩:Array UInt8):=by
  apply Array.ext'
  simp
 cases hs:s++t with
 | mk d=>rw[hs] at h;simp only at h;rw[h]

end
end Go.Eng
/-
  The engine, seventh part: what is asked of any operation suffices for its run. It holds of every program whose table of types is met.
-/
namespace Go.Eng
open Go.RowKit

section
variable {P:Program} {T:Tab} {F:FuncId→Bool} {C:Ctx} {n:Nat} {st:St} {A:Anch} {a:Act} {w:World} {K:Cont} {Qp:PCont} {next:Value→World→Prop} {qp:List PanicEntry→World→Prop}

end
end Go.Eng
/-
  The engine, eighth part: regions, code, loops, and the entering of a function. It holds of every program whose table of types is met.
-/
namespace Go.Eng
open Go.RowKit

abbrev Post:=Exit→St→Anch→Prop

def St.next (st:St) (dst:Option Nat) (s:SV) (hp:List LB) (rows:List Row):St:={ env:=st.env.put dst s,hp:=hp,rows:=rows,df:=st.df }
def St.mem (st:St) (hp:List LB) (rows:List Row):St:={ env:=st.env,hp:=hp,rows:=rows,df:=st.df }
def forceW (v:Value) (K:Value→Prop):Prop :=
 match v with
 | .agg ⟨cs⟩=>forceVL cs fun cs=>K (.agg ⟨cs⟩)
 | v=>forceV v K
def forceSV (s:SV) (K:SV→Prop):Prop :=
 match s with
 | .v x=>forceW x fun x=>K (.v x)
 | .sb c=>K (.sb c)
 | .loc i o=>K (.loc i o)
def forceHp:List LB→(List LB→Prop)→Prop
 | [],K=>K []
 | ⟨b,cs,t⟩ :: l,K=>forceVL cs fun cs=>forceHp l fun l=>K (⟨b,cs,t⟩ :: l)
def forceRows:List Row→(List Row→Prop)→Prop
 | [],K=>K []
 | ⟨v,n,xs,e,sz⟩ :: l,K=>forceV v fun v=>forceRows l fun l=>K (⟨v,n,xs,e,sz⟩ :: l)
def runOp (P:Program) (T:Tab) (F:FuncId→Bool) (C:Ctx) (op:Op) (dst:Option Nat) (st:St) (A:Anch) (K:St→Anch→Prop) (Q:Post):Prop :=
 match st with
 | ⟨env,hp,rows,df⟩=>vcOp P T F C op ⟨env,hp,rows,df⟩ A
   (fun s hp rows A'=>forceSV s fun s=>forceHp hp fun hp=>forceRows rows fun rows=>match dst with | some d=>K ⟨env.set d s,hp,rows,df⟩ A' | none=>K ⟨env,hp,rows,df⟩ A')
   (fun ch hp rows A'=>Q (.panic ch) ⟨env,hp,rows,df⟩ A')
def skipOp (dst:Option Nat) (st:St) (A:Anch) (K:St→Anch→Prop):Prop :=
 match st with
 | ⟨env,hp,rows,df⟩=>match dst with | some d=>K ⟨env.set d (.v undef),hp,rows,df⟩ A | none=>K ⟨env,hp,rows,df⟩ A

def vcOne (P:Program) (T:Tab) (F:FuncId→Bool) (C:Ctx) (all:Array Oper) (o:Oper) (st:St) (A:Anch) (K:St→Anch→Prop) (Q:Post):Prop :=
 match o with
 | ⟨dst,op,_,_,_,none⟩=>runOp P T F C op dst st A K Q
 | ⟨dst,op,_,_,_,some (j,b)⟩ =>
  match (all[j]?).bind (·.dst) with
  | none=>skipOp dst st A K
  | some d =>
   match st.env d with
   | .v (.bool true)=>bif b then runOp P T F C op dst st A K Q else skipOp dst st A K
   | .v (.bool false)=>bif b then skipOp dst st A K else runOp P T F C op dst st A K Q
   | .v (.tuple _)=>skipOp dst st A K
   | .sb c=>match st with
    | ⟨env,hp,rows,df⟩=>(c=b→runOp P T F C op dst ⟨env.set d (.v (.bool b)),hp,rows,df⟩ A K Q)∧(c=(!b)→skipOp dst ⟨env.set d (.v (.bool (!b))),hp,rows,df⟩ A K)
   | _=>False

def vcOps (P:Program) (T:Tab) (F:FuncId→Bool) (C:Ctx) (all:Array Oper) (K:St→Anch→Prop) (Q:Post):List Oper→St→Anch→Prop
 | [],st,A=>K st A
 | o :: r,st,A=>vcOne P T F C all o st A (fun st' A'=>vcOps P T F C all K Q r st' A') Q

def modsIn (S:Nat→Bool):Code→Bool
 | .region _ ops _=>ops.toList.all fun o=>match o.dst with | some d=>S d | none=>true
 | .seq a b=>modsIn S a && modsIn S b
 | .cond _ a b=>modsIn S a && modsIn S b
 | .block _ a=>modsIn S a
 | .loop a=>modsIn S a
 | .skip | .exit _ | .ret=>true
 | _=>false

def LoopP (C:Ctx) (n:Nat) (B:St→Anch→Post→Prop) (M:(Nat→Bool)→Bool) (st:St) (A:Anch) (Q:Post):Prop :=
 ∃ S:Nat→Bool,M S=true∧∃ (ι:Type) (I:ι→St→Anch→Prop) (μ:ι→Nat),
  (∀ a w,Rel C n st A a w→∃ i st1 A1,Rel C n st1 A1 a w∧I i st1 A1) ∧
  (∀ i st1 A1,I i st1 A1→B st1 A1 (fun e st' A'=>match e with
   | .normal=>∀ a w,Rel C n st' A' a w→(∀ k,S k=false→a.tmps.getD k undef=(st.env k).val st.hp)→∃ i' st2 A2,Rel C n st2 A2 a w∧I i' st2 A2∧μ i' < μ i
   | e=>Q e st' A'))

def vc (P:Program) (T:Tab) (F:FuncId→Bool) (C:Ctx) (n:Nat):Code→St→Anch→Post→Prop
 | .skip,st,A,Q=>Q .normal st A
 | .region _ ops false,st,A,Q=>vcOps P T F C ops (Q .normal) Q ops.toList st A
 | .seq x y,st,A,Q=>vc P T F C n x st A (fun e st' A'=>match e with | .normal=>vc P T F C n y st' A' Q | e=>Q e st' A')
 | .cond c x y,st,A,Q=>bcase (sv st c) (vc P T F C n x st A Q) (vc P T F C n y st A Q)
 | .block id x,st,A,Q=>vc P T F C n x st A (fun e st' A'=>match e with | .exit i=>bif Nat.beq i id then Q .normal st' A' else Q (.exit i) st' A' | e=>Q e st' A')
 | .loop x,st,A,Q=>LoopP C n (vc P T F C n x) (fun S=>modsIn S x) st A Q
 | .exit id,st,A,Q=>Q (.exit id) st A
 | .ret,st,A,Q=>Q .ret st A
 | _,_,_,_=>False

theorem beq_ne {i d:Nat} (h:i≠d):Nat.beq i d=false:=by
 cases h':Nat.beq i d with
 | false=>rfl
 | true=>exact absurd (Nat.eq_of_beq_eq_true h') h

section
variable {P:Program} {T:Tab} {F:FuncId→Bool} {C:Ctx} {n:Nat}

theorem Rel.next {st:St} {A A':Anch} {a:Act} {w w':World} (hr:Rel C n st A a w) {dst:Option Nat} (hd:∀ d,dst=some d→d < n) {s:SV} {hp:List LB} {rows:List Row} (hw:RelW C hp rows A' w') (he:Ext st.hp hp) (hs:SVok hp s) :
  Rel C n (st.next dst s hp rows) A' (a.put dst (s.val hp)) w':=by
 cases dst with
 | none =>
  refine ⟨hr.size,fun i=>?_,fun i=>SVok.ext he (hr.wf i),hr.df,hw⟩
  show a.tmps.getD i undef=(st.env i).val hp
  rw[val_ext he (hr.wf i)]
  exact hr.tm i
 | some d =>
  have hdn:=hd d rfl
  refine ⟨by simp[Act.put,hr.size],fun i=>?_,fun i=>?_,hr.df,hw⟩
  ·show (a.tmps.setIfInBounds d (s.val hp)).getD i undef=((Env.set st.env d s) i).val hp
   unfold Env.set
   by_cases hi:i=d
   ·subst hi
    have h1:Nat.beq i i=true:=Nat.beq_refl i
    rw[h1]
    have hlt:i < a.tmps.size:=by rw[hr.size];exact hdn
    simp[Array.getD,hlt]
   ·have h1:Nat.beq i d=false:=beq_ne hi
    rw[h1]
    have h2:(a.tmps.setIfInBounds d (s.val hp)).getD i undef=a.tmps.getD i undef:=by
     simp only[Array.getD_eq_getD_getElem?,Array.getElem?_setIfInBounds]
     rw[if_neg (fun e=>hi e.symm)]
    rw[h2,hr.tm i]
    exact (val_ext he (hr.wf i)).symm
  ·show SVok hp ((Env.set st.env d s) i)
   unfold Env.set
   cases Nat.beq i d with
   | true=>exact hs
   | false=>exact SVok.ext he (hr.wf i)

theorem Rel.mem {st:St} {A A':Anch} {a:Act} {w w':World} (hr:Rel C n st A a w) {hp:List LB} {rows:List Row} (hw:RelW C hp rows A' w') (he:Ext st.hp hp):Rel C n (st.mem hp rows) A' a w' :=
 ⟨hr.size,fun i=>by show a.tmps.getD i undef=(st.env i).val hp;rw[val_ext he (hr.wf i)];exact hr.tm i,fun i=>SVok.ext he (hr.wf i),hr.df,hw⟩

def StepW (P:Program) (ops:Array Oper) (o:Oper) (a:Act) (w:World) (next:Act→World→Prop) (Q:Exit→Act→World→Prop):Prop :=
 if Region.wanted o (yielded ops a.tmps)=true then o.wp P a w next Q else next (a.put o.dst undef) w

def Keeps (S:Nat→Bool) (a a':Act):Prop:=∀ k,S k=false→a'.tmps.getD k undef=a.tmps.getD k undef
theorem Keeps.trans {S:Nat→Bool} {a b c:Act} (h:Keeps S a b) (k:Keeps S b c):Keeps S a c:=fun i hi=>(k i hi).trans (h i hi)
theorem Keeps.put {S:Nat→Bool} {a:Act} {dst:Option Nat} (h:∀ d,dst=some d→S d=true) (v:Value):Keeps S a (a.put dst v):=by
 intro k hk
 cases dst with
 | none=>rfl
 | some d =>
  have hne:d≠k:=fun e=>by subst e;rw[h d rfl] at hk;cases hk
  show (a.tmps.setIfInBounds d v).getD k undef=_
  simp only[Array.getD_eq_getD_getElem?,Array.getElem?_setIfInBounds]
  rw[if_neg hne]

end
end Go.Eng
/-
  The engine, ninth part: tables that are checked by the kernel; the entering of a function; the rule for loops; what stays of memory. It holds of every program.
-/
namespace Go.Eng
open Go.RowKit

def eqV:Value→Value→Bool
 | .int k a,.int k' b=>decide (k=k') && decide (a=b)
 | .bool a,.bool b=>a == b
 | .string a,.string b=>a.data.toList == b.data.toList
 | .slice none n c,.slice none n' c'=>n == n' && c == c'
 | .pointer none,.pointer none=>true
 | .map none,.map none=>true
 | .chan none,.chan none=>true
 | .nilFunc,.nilFunc=>true
 | .nilIface,.nilIface=>true
 | _,_=>false
theorem eqV_eq {a b:Value} (h:eqV a b=true):a=b:=by
 unfold eqV at h
 split at h<;>first | (cases h;done) | rfl | skip
 ·simp only[Bool.and_eq_true,decide_eq_true_eq] at h;rw[h.1,h.2]
 ·rw[eq_of_beq h]
 ·rename_i s t
  have:s=t:=by cases s;cases t;rename_i x y;have:=eq_of_beq h;simp at this;rw[this]
  rw[this]
 ·simp only[Bool.and_eq_true,beq_iff_eq] at h;rw[h.1,h.2]
def eqVL:List Value→List Value→Bool
 | [],[]=>true
 | a :: l,b :: m=>eqV a b && eqVL l m
 | _,_=>false
theorem eqVL_eq:∀ {a b:List Value},eqVL a b=true→a=b:=by
 intro a
 induction a with
 | nil=>intro b h;cases b with | nil=>rfl | cons x y=>cases h
 | cons x l ih =>
  intro b h
  cases b with
  | nil=>cases h
  | cons y m=>simp only[eqVL,Bool.and_eq_true] at h;rw[eqV_eq h.1,ih h.2]

def fieldsCheck (P:Program):List Field→List (Nat × Nat)→Bool
 | [],[]=>true
 | f :: fs,(off,sz) :: l=>f.offset == off && (match P.info? f.type with | some inf=>inf.size == sz | none=>false) && !(sz == 0) && fieldsCheck P fs l
 | _,_=>false
theorem fieldsCheck_ok {P:Program}:∀ {fs:List Field} {l:List (Nat × Nat)},fieldsCheck P fs l=true→fs.length=l.length∧∀ (k off sz:Nat),l[k]?=some (off,sz)→∃ (f:Field) (inf:TypeInfo),fs[k]?=some f∧f.offset=off∧P.info? f.type=some inf∧inf.size=sz∧sz≠0:=by
 intro fs
 induction fs with
 | nil=>intro l h;cases l with | nil=>exact ⟨rfl,fun k off sz hk=>by simp at hk⟩ | cons x y=>cases h
 | cons f fs ih =>
  intro l h
  cases l with
  | nil=>cases h
  | cons p l =>
   obtain ⟨off,sz⟩:=p
   simp only[fieldsCheck,Bool.and_eq_true,beq_iff_eq,Bool.not_eq_true',beq_eq_false_iff_ne] at h
   obtain ⟨⟨⟨h1,h2⟩,h3⟩,h4⟩:=h
   obtain ⟨hl,hh⟩:=ih h4
   refine ⟨by simp[hl],fun k o s hk=>?_⟩
   cases k with
   | zero =>
    simp at hk
    obtain ⟨rfl,rfl⟩:=hk
    cases hi:P.info? f.type with
    | none=>rw[hi] at h2;cases h2
    | some inf=>rw[hi] at h2;exact ⟨f,inf,rfl,h1,hi,eq_of_beq h2,h3⟩
   | succ k=>exact hh k o s (by simpa using hk)

def kindCheck (P:Program):TypeDesc→TK→Bool
 | .interface _,.iface=>true
 | .interface _,_=>false
 | .bool,.bool=>true
 | .int k,.int k'=>decide (k=k')
 | .string,.str=>true
 | .slice e,.slice e'=>e == e'
 | .struct fs,.struct l=>fieldsCheck P fs.toList l
 | .array n e,.array n' e'=>n == n' && e == e'
 | _,.cell=>true
 | _,_=>false
theorem kindCheck_ok {P:Program} {d:TypeDesc} {k:TK} (h:kindCheck P d k=true):descOk P d k:=by
 unfold kindCheck at h
 split at h<;>first | (cases h;done) | skip
 ·trivial
 ·rfl
 ·rw[of_decide_eq_true h];rfl
 ·rfl
 ·rw[eq_of_beq h];rfl
 ·rename_i fs l
  obtain ⟨h1,h2⟩:=fieldsCheck_ok h
  exact ⟨fs,rfl,by simpa using h1,fun k off sz hk=>by simpa using h2 k off sz hk⟩
 ·simp only[Bool.and_eq_true,beq_iff_eq] at h;rw[h.1,h.2];rfl
 ·unfold descOk
  split<;>first | trivial | simp_all

def infoCheck (P:Program) (t:TypeId) (i:TI):Bool :=
 match P.underlying t,P.info? t with
 | some d,some inf=>kindCheck P d i.kind && inf.size == i.size && inf.bytes == i.bytes && (match inf.zero with | some z=>eqVL z.cells.toList i.zero | none=>false) && (isAggD d == i.agg) && (i.zero.length == i.size)
 | _,_=>false
theorem infoCheck_ok {P:Program} {t:TypeId} {i:TI} (h:infoCheck P t i=true):InfoOk P t i:=by
 unfold infoCheck at h
 split at h
 ·rename_i d inf hd hi
  simp only[Bool.and_eq_true,beq_iff_eq] at h
  obtain ⟨⟨⟨⟨⟨h1,h2⟩,h3⟩,h4⟩,h5⟩,h6⟩:=h
  cases hz:inf.zero with
  | none=>rw[hz] at h4;cases h4
  | some z =>
   rw[hz] at h4
   exact ⟨⟨d,hd,kindCheck_ok h1,h5⟩,⟨inf,z,hi,h2,h3,hz,by rw[← eqVL_eq h4]⟩,h6⟩
 ·cases h

def lookT:List (TypeId × TI)→Tab
 | [],_=>none
 | p :: l,t=>bif Nat.beq p.1 t then some p.2 else lookT l t
def tabCheck (P:Program) (L:List (TypeId × TI)):Bool:=L.all fun p=>infoCheck P p.1 p.2
theorem tabCheck_ok {P:Program} {L:List (TypeId × TI)} (h:tabCheck P L=true):TabOk P (lookT L):=by
 induction L with
 | nil=>intro t i ht;cases ht
 | cons p l ih =>
  unfold tabCheck at h
  simp only[List.all_cons,Bool.and_eq_true] at h
  intro t i ht
  unfold lookT at ht
  cases hb:Nat.beq p.1 t with
  | true =>
   rw[hb] at ht
   have he:=Nat.eq_of_beq_eq_true hb
   injection ht with ht
   subst ht
   subst he
   exact infoCheck_ok h.1
  | false=>rw[hb] at ht;exact ih h.2 t i ht
def fnsIn (lo N:Nat) (g:Nat):Bool:=Nat.ble lo g && Nat.blt g N
def fnsCheck (P:Program) (lo:Nat):Nat→Bool
 | 0=>true
 | N+1=>(Nat.blt N lo || fnOk P N) && fnsCheck P lo N
theorem fns_ok {P:Program} {lo N:Nat} (h:fnsCheck P lo N=true):∀ g:Nat,fnsIn lo N g=true→fnOk P g=true:=by
 induction N with
 | zero=>intro g hg;simp[fnsIn,Nat.blt] at hg
 | succ N ih =>
  intro g hg
  simp only[fnsCheck,Bool.and_eq_true,Bool.or_eq_true] at h
  simp only[fnsIn,Bool.and_eq_true] at hg
  have h1:=Nat.le_of_ble_eq_true hg.1
  have h2:g < N+1:=Nat.le_of_ble_eq_true hg.2
  by_cases hgn:g=N
  ·subst hgn
   rcases h.1 with h3 | h3
   ·have:g < lo:=Nat.le_of_ble_eq_true h3
    omega
   ·exact h3
  ·exact ih h.2 g (by simp only[fnsIn,Bool.and_eq_true];exact ⟨hg.1,Nat.ble_eq_true_of_le (by omega)⟩)

def envOf (args:List Value):Env:=fun i=>match args[i]? with | some v=>SV.of v | none=>.v undef

def oneOr:List Value→Value
 | [v]=>v
 | vs=>.tuple vs.toArray

def resVC (T:Tab) (st:St):List ResultVar→Option (List Value)
 | []=>some []
 | .tmp t :: l=>match resVC T st l with
  | some vs=>some ((st.env t).val st.hp :: vs)
  | none=>none
 | .cell t ty :: l=>match resVC T st l,st.env t,T ty with
  | some vs,.loc j off,some i=>match st.hp[j]? with
   | some x=>bif i.agg && Nat.ble (off+i.size) x.cs.length then some (.agg (List.take i.size (x.cs.drop off)).toArray :: vs) else none
   | none=>none
  | _,_,_=>none

def Fin (T:Tab) (C:Ctx) (rs:List ResultVar) (R:Ending→World→Prop):Post
 | .normal,⟨env,hp,rows,df⟩,A | .ret,⟨env,hp,rows,df⟩,A=>match resVC T ⟨env,hp,rows,df⟩ rs with
  | some vs=>forceVL vs fun vs=>df=[]∧∀ w,RelW C hp rows A w→R (.returned (oneOr vs)) w
  | none=>False
 | .panic ch,⟨_,hp,rows,df⟩,A=>df=[]∧∀ w,RelW C hp rows A w→R (.panicked ch) w
 | _,_,_=>False

section
variable {P:Program} {T:Tab} {F:FuncId→Bool} {C:Ctx} {n:Nat}

end
end Go.Eng
