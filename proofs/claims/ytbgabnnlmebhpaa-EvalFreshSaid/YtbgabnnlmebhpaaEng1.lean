/-
  The engine, first part: symbolic values, the state of a walk, and what one operation asks. No statement of the seat is proved here. It holds of every program whose table of types is met.
-/
import Derived.OwnWalk
import Derived.Below
import Derived.Laws.OwnMore
import Derived.Laws.Tables
import Derived.Laws.CopyRow
import Derived.Laws.AppendOwnNone
import Derived.WalkSmall
namespace Go.Eng
open Go.RowKit

/-- What a slot holds: a value, a bool that is not yet decided, or the address of a local block. -/
inductive SV where
  | v (x : Value)
  | sb (c : Bool)
  | loc (i off : Nat)

def SV.of : Value → SV
  | .bool c => .sb c
  | x => .v x

/-- A block of the call's own, known whole. -/
structure LB where
  b : Nat
  cs : List Value
  t : TypeId

/-- A row of the call's own, that grows by append. -/
structure Row where
  v : Value
  n : Nat
  xs : List Value
  e : TypeId
  sz : Nat

abbrev Env := Nat → SV
def Env.set (e : Env) (d : Nat) (x : SV) : Env := fun i => bif Nat.beq i d then x else e i
def Env.put (e : Env) (d : Option Nat) (x : SV) : Env := match d with | some k => e.set k x | none => e

structure St where
  env : Env
  hp : List LB
  rows : List Row
  df : List Deferred

def bnum (hp : List LB) (i : Nat) : Nat := match hp[i]? with | some x => x.b | none => 0

def SV.val (hp : List LB) : SV → Value
  | .v x => x
  | .sb c => .bool c
  | .loc i off => .pointer (some ⟨bnum hp i, off, none⟩)

def sv (st : St) : Operand → SV
  | .tmp t => st.env t
  | .const x => SV.of x
  | .global g => .v (.pointer (some ⟨g, 0, none⟩))
  | .func f => .v (.func (.func f) #[] #[])

def nums (hp : List LB) (rows : List Row) : List Nat := hp.map LB.b ++ rows.filterMap (fun r => r.v.ownBlock)

/-- Of what was there nothing has turned but the blocks in own. -/
structure Fr (own : Nat → Prop) (w w' : World) : Prop where
  os : w'.os = w.os
  tape : w'.tape = w.tape
  output : w'.output = w.output
  size : w.heap.size ≤ w'.heap.size
  block : ∀ k, k < w.heap.size → ¬ own k → w'.heap[k]? = w.heap[k]?

theorem Fr.refl (own : Nat → Prop) (w : World) : Fr own w w := ⟨rfl, rfl, rfl, Nat.le_refl _, fun _ _ _ => rfl⟩
theorem Fr.below {w w' : World} (h : Fr (fun _ => False) w w') : Below w.heap.size w w' := ⟨h.os, h.tape, h.output, h.size, fun k hk => h.block k hk (fun h => h)⟩
theorem Fr.of_below {own : Nat → Prop} {w w' : World} (h : Below w.heap.size w w') : Fr own w w' := ⟨h.os, h.tape, h.output, h.size, fun k hk _ => h.block k hk⟩

structure Ctx where
  w0 : World
  own : Nat → Prop

/-- The anchor: a world to which the facts refer, and the blocks that still are as they are there. -/
structure Anch where
  w : World
  V : Nat → Prop

structure RelW (C : Ctx) (hp : List LB) (rows : List Row) (A : Anch) (w : World) : Prop where
  blk : ∀ (i : Nat) (x : LB), hp[i]? = some x → w.heap[x.b]? = some (.cells x.cs.toArray x.t (0, 0))
  row : ∀ (i : Nat) (r : Row), rows[i]? = some r → w.ownsRow 0 r.e r.sz r.v r.n r.xs
  nodup : (nums hp rows).Nodup
  mine : ∀ k, k ∈ nums hp rows → C.w0.heap.size ≤ k ∨ C.own k
  agree : ∀ k, A.V k → w.heap[k]? = A.w.heap[k]?
  vlt : ∀ k, A.V k → k < A.w.heap.size
  vout : ∀ k, k ∈ nums hp rows → ¬ A.V k
  asz : A.w.heap.size ≤ w.heap.size
  a0 : C.w0.heap.size ≤ A.w.heap.size
  fr : Fr C.own C.w0 w

/-- What the table says of a type. -/
inductive TK where
  | cell
  | bool
  | int (k : IntKind)
  | str
  | slice (e : TypeId)
  | struct (fs : List (Nat × Nat))
  | array (n : Nat) (e : TypeId)
  | iface

structure TI where
  agg : Bool
  size : Nat
  bytes : Nat
  zero : List Value
  kind : TK

abbrev Tab := TypeId → Option TI

def isAggD : TypeDesc → Bool
  | .struct _ | .array _ _ => true
  | _ => false

def descOk (P : Program) (d : TypeDesc) : TK → Prop
  | .cell => (match d with | .interface _ => False | _ => True)
  | .bool => d = .bool
  | .int k => d = .int k
  | .str => d = .string
  | .slice e => d = .slice e
  | .struct fs => ∃ fields, d = .struct fields ∧ fields.size = fs.length ∧ ∀ (k off sz : Nat), fs[k]? = some (off, sz) → ∃ (f : Field) (inf : TypeInfo), fields[k]? = some f ∧ f.offset = off ∧ P.info? f.type = some inf ∧ inf.size = sz ∧ sz ≠ 0
  | .array n e => d = .array n e
  | .iface => (match d with | .interface _ => True | _ => False)

structure InfoOk (P : Program) (t : TypeId) (i : TI) : Prop where
  d : ∃ d, P.underlying t = some d ∧ descOk P d i.kind ∧ isAggD d = i.agg
  inf : ∃ (inf : TypeInfo) (z : Value), P.info? t = some inf ∧ inf.size = i.size ∧ inf.bytes = i.bytes ∧ inf.zero = some z ∧ z.cells = i.zero.toArray
  zsize : i.zero.length = i.size

def TabOk (P : Program) (T : Tab) : Prop := ∀ t i, T t = some i → InfoOk P t i

def fnOk (P : Program) (g : FuncId) : Bool :=
  match P.funcs[g]? with
  | some fn => !(fn.name == "runtime.NumGoroutine") && fn.body.isSome
  | none => false

/-- Two ways, by a bool. -/
def bcase (c : SV) (A B : Prop) : Prop :=
  match c with
  | .v (.bool true) => A
  | .v (.bool false) => B
  | .sb c => (c = true → A) ∧ (c = false → B)
  | _ => False

theorem bcase.yes {c : Bool} {A B : Prop} (h : c = true) (hA : A) : bcase (.sb c) A B := ⟨fun _ => hA, fun h' => absurd (h'.symm.trans h) (by simp)⟩
theorem bcase.no {c : Bool} {A B : Prop} (h : c = false) (hB : B) : bcase (.sb c) A B := ⟨fun h' => absurd (h'.symm.trans h) (by simp), fun _ => hB⟩

abbrev Cont := SV → List LB → List Row → Anch → Prop
abbrev PCont := List PanicEntry → List LB → List Row → Anch → Prop

def isI64 (x c : Int) : Prop := IntKind.i64.wrap x = c
theorem isI64.of {x : Int} (h0 : -9223372036854775808 ≤ x) (h1 : x ≤ 9223372036854775807) : isI64 x x := by
  unfold isI64
  rw [IntKind.wrap_i64]
  omega

def vcBin (op : BinOp) (x y : SV) (K : SV → Prop) : Prop :=
  match op, x, y with
  | .add, .v (.int .i64 a), .v (.int .i64 b) => ∃ c, isI64 (a + b) c ∧ K (.v (.int .i64 c))
  | .sub, .v (.int .i64 a), .v (.int .i64 b) => ∃ c, isI64 (a - b) c ∧ K (.v (.int .i64 c))
  | .mul, .v (.int .i64 a), .v (.int .i64 b) => ∃ c, isI64 (a * b) c ∧ K (.v (.int .i64 c))
  | .add, .v (.int .u8 a), .v (.int .u8 b) => K (.v (.int .u8 (IntKind.u8.wrap (a + b))))
  | .sub, .v (.int .u8 a), .v (.int .u8 b) => K (.v (.int .u8 (IntKind.u8.wrap (a - b))))
  | .quo, .v (.int .i64 a), .v (.int .i64 b) => b ≠ 0 ∧ ∃ c, isI64 (a.tdiv b) c ∧ K (.v (.int .i64 c))
  | .rem, .v (.int .i64 a), .v (.int .i64 b) => b ≠ 0 ∧ K (.v (.int .i64 (a.tmod b)))
  | .and, .v (.int .i64 a), .v (.int .i64 b) => ∃ c, (Op.intBits .and .i64 a b = pure (.int .i64 c)) ∧ K (.v (.int .i64 c))
  | .or, .v (.int .i64 a), .v (.int .i64 b) => ∃ c, (Op.intBits .or .i64 a b = pure (.int .i64 c)) ∧ K (.v (.int .i64 c))
  | .xor, .v (.int .i64 a), .v (.int .i64 b) => ∃ c, (Op.intBits .xor .i64 a b = pure (.int .i64 c)) ∧ K (.v (.int .i64 c))
  | .shl, .v (.int .i64 a), .v (.int .i64 b) => 0 ≤ b ∧ ∃ c, isI64 (a * 2 ^ (min b.toNat 64)) c ∧ K (.v (.int .i64 c))
  | .shr, .v (.int .i64 a), .v (.int .i64 b) => 0 ≤ b ∧ K (.v (.int .i64 (a.fdiv (2 ^ (min b.toNat 64)))))
  | .eql, .v (.int .i64 a), .v (.int .i64 b) => K (.sb (decide (a = b)))
  | .neq, .v (.int .i64 a), .v (.int .i64 b) => K (.sb (!decide (a = b)))
  | .lss, .v (.int .i64 a), .v (.int .i64 b) => K (.sb (decide (a < b)))
  | .leq, .v (.int .i64 a), .v (.int .i64 b) => K (.sb (decide (a ≤ b)))
  | .gtr, .v (.int .i64 a), .v (.int .i64 b) => K (.sb (decide (b < a)))
  | .geq, .v (.int .i64 a), .v (.int .i64 b) => K (.sb (decide (b ≤ a)))
  | .eql, .v (.int .u8 a), .v (.int .u8 b) => K (.sb (decide (a = b)))
  | .neq, .v (.int .u8 a), .v (.int .u8 b) => K (.sb (!decide (a = b)))
  | .lss, .v (.int .u8 a), .v (.int .u8 b) => K (.sb (decide (a < b)))
  | .leq, .v (.int .u8 a), .v (.int .u8 b) => K (.sb (decide (a ≤ b)))
  | .gtr, .v (.int .u8 a), .v (.int .u8 b) => K (.sb (decide (b < a)))
  | .geq, .v (.int .u8 a), .v (.int .u8 b) => K (.sb (decide (b ≤ a)))
  | .eql, .v (.string a), .v (.string b) => K (.sb (decide (a.data.toList = b.data.toList)))
  | .neq, .v (.string a), .v (.string b) => K (.sb (!decide (a.data.toList = b.data.toList)))
  | .add, .v (.string a), .v (.string b) => a.size + b.size ≤ 9223372036854775807 ∧ K (.v (.string ⟨⟨a.data.toList ++ b.data.toList⟩⟩))
  | _, _, _ => False

/-- == and != of two bools. -/
def vcBoolEq (op : BinOp) (x y : SV) (K : SV → Prop) : Prop :=
  match op, x, y with
  | .eql, .sb a, .sb b => K (.sb (a == b))
  | .neq, .sb a, .sb b => K (.sb (!(a == b)))
  | .eql, .v (.bool a), .sb b => K (.sb (a == b))
  | .neq, .v (.bool a), .sb b => K (.sb (!(a == b)))
  | .eql, .sb a, .v (.bool b) => K (.sb (a == b))
  | .neq, .sb a, .v (.bool b) => K (.sb (!(a == b)))
  | _, _, _ => False

def vcUn (op : UnOp) (x : SV) (K : SV → Prop) : Prop :=
  match op, x with
  | .not, .sb c => K (.sb (!c))
  | .not, .v (.bool true) => K (.v (.bool false))
  | .not, .v (.bool false) => K (.v (.bool true))
  | .neg, .v (.int .i64 a) => ∃ c, isI64 (0 - a) c ∧ K (.v (.int .i64 c))
  | _, _ => False

/-- One cell of memory that is not the call's own, read in the anchor. -/
structure Ld (hp : List LB) (rows : List Row) (A : Anch) (p v : Value) : Prop where
  ex : ∃ a, p = .pointer (some a) ∧ A.w.cell? a = some v ∧ A.V a.block
/-- Several cells. -/
structure LdN (hp : List LB) (rows : List Row) (A : Anch) (k : Nat) (p : Value) (vs : List Value) : Prop where
  len : vs.length = k
  ex : ∃ a, p = .pointer (some a) ∧ (∀ j v, vs[j]? = some v → A.w.cell? (a.add j) = some v) ∧ A.V a.block
/-- Cells of a row of the call's own. -/
structure LdR (rows : List Row) (k : Nat) (p : Value) (vs : List Value) : Prop where
  len : vs.length = k
  ex : ∃ (i : Nat) (r : Row) (g o : Nat), rows[i]? = some r ∧ r.v.ownBlock = some g ∧ p = .pointer (some ⟨g, o, none⟩) ∧ ∀ j v, vs[j]? = some v → r.xs[o + j]? = some v
/-- Cells of a block of the call's own, by its number. -/
structure LdB (hp : List LB) (k : Nat) (p : Value) (vs : List Value) : Prop where
  len : vs.length = k
  ex : ∃ (i : Nat) (x : LB) (o : Nat), hp[i]? = some x ∧ p = .pointer (some ⟨x.b, o, none⟩) ∧ ∀ j v, vs[j]? = some v → x.cs[o + j]? = some v

def LdAny (hp : List LB) (rows : List Row) (A : Anch) (k : Nat) (p : Value) (vs : List Value) : Prop :=
  LdN hp rows A k p vs ∨ LdR rows k p vs ∨ LdB hp k p vs

def setAt : List Value → Nat → List Value → List Value
  | l, _, [] => l
  | l, k, v :: vs => setAt (l.set k v) (k + 1) vs

def fillO (place : Nat → Option (Nat × Nat)) : List Value → List (Nat × List Value) → Option (List Value)
  | cs, [] => some cs
  | cs, (i, v) :: rest =>
    match place i with
    | none => none
    | some (off, size) => bif Nat.beq v.length size && Nat.ble (off + size) cs.length then fillO place (setAt cs off v) rest else none

def cellsL (x : Value) : List Value :=
  match x with
  | .agg cs => cs.toList
  | x => [x]

/-- No part of it is an aggregate. -/
def flat : List Value → Bool
  | [] => true
  | v :: vs => v.oneCell' && flat vs

def repL (z : List Value) : Nat → List Value
  | 0 => []
  | n + 1 => z ++ repL z n


def vcLoad (T : Tab) (t : TypeId) (p : SV) (hp : List LB) (rows : List Row) (A : Anch) (K : SV → Prop) : Prop :=
  match T t with
  | none => False
  | some i =>
    match p with
    | .loc j off =>
      match hp[j]? with
      | none => False
      | some x =>
        match i.agg with
        | false => match x.cs[off]? with
          | some v => K (SV.of v)
          | none => False
        | true => bif Nat.ble (off + i.size) x.cs.length then K (.v (.agg (List.take i.size (x.cs.drop off)).toArray)) else False
    | .v q =>
      match i.agg with
      | false => ∃ v, LdAny hp rows A 1 q [v] ∧ K (SV.of v)
      | true => ∃ vs, LdAny hp rows A i.size q vs ∧ K (.v (.agg vs.toArray))
    | .sb _ => False

/-- The three ways to store: into memory that is not known as the call's own blocks; into a row; into a block by its number. -/
def StPlain (C : Ctx) (hp : List LB) (rows : List Row) (A : Anch) (q : Value) (vs : List Value) (K : List LB → List Row → Anch → Prop) : Prop :=
  ∃ (g o : Nat) (cur : Array Value) (t : TypeId), q = .pointer (some ⟨g, o, none⟩) ∧ A.w.heap[g]? = some (.cells cur t (0, 0)) ∧ o + vs.length ≤ cur.size ∧ A.V g ∧
    (C.w0.heap.size ≤ g ∨ C.own g) ∧ K hp rows { A with w := A.w.setRow g (cur.toList.take o ++ vs ++ cur.toList.drop (o + vs.length)).toArray }
def StRow (hp : List LB) (rows : List Row) (A : Anch) (q : Value) (vs : List Value) (K : List LB → List Row → Anch → Prop) : Prop :=
  ∃ (i : Nat) (r : Row) (g o : Nat), rows[i]? = some r ∧ r.v.ownBlock = some g ∧ q = .pointer (some ⟨g, o, none⟩) ∧ o + vs.length ≤ r.xs.length ∧ K hp (rows.set i { r with xs := setAt r.xs o vs }) A
def StBlk (hp : List LB) (rows : List Row) (A : Anch) (q : Value) (vs : List Value) (K : List LB → List Row → Anch → Prop) : Prop :=
  ∃ (j : Nat) (x : LB) (o : Nat), hp[j]? = some x ∧ q = .pointer (some ⟨x.b, o, none⟩) ∧ o + vs.length ≤ x.cs.length ∧ K (hp.set j { x with cs := setAt x.cs o vs }) rows A

def vcStore (C : Ctx) (T : Tab) (t : TypeId) (p : SV) (y : Value) (hp : List LB) (rows : List Row) (A : Anch) (K : List LB → List Row → Anch → Prop) : Prop :=
  match T t with
  | none => False
  | some i =>
    bif Nat.beq (cellsL y).length i.size && flat (cellsL y) then
      match p with
      | .loc j off =>
        match hp[j]? with
        | none => False
        | some x => bif Nat.ble (off + i.size) x.cs.length then K (hp.set j { x with cs := setAt x.cs off (cellsL y) }) rows A else False
      | .v q => StPlain C hp rows A q (cellsL y) K ∨ StRow hp rows A q (cellsL y) K ∨ StBlk hp rows A q (cellsL y) K
      | .sb _ => False
    else False

/-- What append takes its new cells from. -/
def Src (hp : List LB) (rows : List Row) (A : Anch) (size : Nat) (y : Value) (m : Nat) (news : List Value) : Prop :=
  (y = .slice none 0 0 ∧ m = 0 ∧ news = []) ∨ (∃ a c, y = .slice (some a) m c ∧ LdAny hp rows A (m * size) (.pointer (some a)) news)

def RowShape (v : Value) (n : Nat) : Prop := (v = .slice none 0 0 ∧ n = 0) ∨ ∃ g cap, v = .slice (some ⟨g, 0, none⟩) n cap ∧ n ≤ cap

def vcAppend (T : Tab) (t : TypeId) (x y : Value) (hp : List LB) (rows : List Row) (A : Anch) (K : Cont) : Prop :=
  match T t with
  | some { kind := .slice e, .. } =>
    match T e with
    | none => False
    | some ei =>
      ∃ (i : Nat) (n m : Nat) (xs news : List Value),
        ((∃ r, rows[i]? = some r ∧ r.v = x ∧ r.e = e ∧ r.sz = ei.size ∧ r.n = n ∧ r.xs = xs) ∨ (i = rows.length ∧ x = .slice none 0 0 ∧ n = 0 ∧ xs = [])) ∧
        Src hp rows A ei.size y m news ∧ flat news = true ∧ n + m ≤ maxLen ∧ (n + m) * ei.bytes ≤ 140737488355328 ∧ 0 < ei.size ∧
        ∀ v', RowShape v' (n + m) → (v' = .slice none 0 0 → x = .slice none 0 0) → K (.v v') hp ((rows.take i ++ [{ v := v', n := n + m, xs := xs ++ news, e := e, sz := ei.size }]) ++ rows.drop (i + 1)) A
  | _ => False

def intArg : SV → Option Int
  | .v (.int .i64 n) => some n
  | _ => none

def vcSlice (T : Tab) (t : TypeId) (x : SV) (lo hi : Option SV) (K : SV → Prop) : Prop :=
  match T t, x with
  | some { kind := .str, .. }, .v (.string s) =>
    ∃ l h : Nat, (match lo with | none => l = 0 | some p => p = .v (.int .i64 (l : Int))) ∧ (match hi with | none => h = s.data.toList.length | some p => p = .v (.int .i64 (h : Int))) ∧
      l ≤ h ∧ h ≤ s.data.toList.length ∧ K (.v (.string ⟨⟨(s.data.toList.take h).drop l⟩⟩))
  | some { kind := .slice e, .. }, .v (.slice a len cap) =>
    match T e with
    | none => False
    | some ei =>
      ∃ l h : Nat, (match lo with | none => l = 0 | some p => p = .v (.int .i64 (l : Int))) ∧ (match hi with | none => h = len | some p => p = .v (.int .i64 (h : Int))) ∧
        l ≤ h ∧ h ≤ cap ∧ K (.v (.slice (if cap = l then a else a.map (·.add (l * ei.size))) (h - l) (cap - l)))
  | _, _ => False

/- Values are brought to their heads before the walk goes on, so that no step is reckoned twice. -/
def forceV (v : Value) (K : Value → Prop) : Prop :=
  match v with
  | .bool b => K (.bool b)
  | .int k n => K (.int k n)
  | .float k b => K (.float k b)
  | .complex k a b => K (.complex k a b)
  | .string s => K (.string s)
  | .pointer a => K (.pointer a)
  | .slice a n c => K (.slice a n c)
  | .map r => K (.map r)
  | .chan r => K (.chan r)
  | .func f x y => K (.func f x y)
  | .nilFunc => K .nilFunc
  | .iface t x => K (.iface t x)
  | .nilIface => K .nilIface
  | .agg cs => K (.agg cs)
  | .tuple vs => K (.tuple vs)
theorem forceV_eq (v : Value) (K : Value → Prop) : forceV v K = K v := by cases v <;> rfl
def forceVL : List Value → (List Value → Prop) → Prop
  | [], K => K []
  | v :: l, K => forceV v fun v => forceVL l fun l => K (v :: l)
theorem forceVL_eq : ∀ (l : List Value) (K : List Value → Prop), forceVL l K = K l := by
  intro l
  induction l with
  | nil => intro K; rfl
  | cons v l ih => intro K; simp only [forceVL, forceV_eq, ih]

/-- What a call must lead to. -/
def CallPost (C : Ctx) (hp0 : List LB) (K : Cont) (Qp : PCont) : Ending → World → Prop
  | .returned r, w' => ∃ hp rows A', RelW C hp rows A' w' ∧ hp.map LB.b = hp0.map LB.b ∧ K (SV.of r) hp rows A'
  | .panicked ch, w' => ∃ hp rows A', RelW C hp rows A' w' ∧ hp.map LB.b = hp0.map LB.b ∧ Qp ch hp rows A'
  | .outgrown, _ => False

def vcOp (P : Program) (T : Tab) (F : FuncId → Bool) (C : Ctx) (o : Op) (st : St) (A : Anch) (K : Cont) (Qp : PCont) : Prop :=
  match o with
  | .move x => K (sv st x) st.hp st.rows A
  | .assign x => K (sv st x) st.hp st.rows A
  | .pick c a b => bcase (sv st c) (K (sv st a) st.hp st.rows A) (K (sv st b) st.hp st.rows A)
  | .alloc t => match T t with
    | none => False
    | some i => ∀ b, A.w.heap.size ≤ b → K (.loc st.hp.length 0) (st.hp ++ [⟨b, i.zero, t⟩]) st.rows A
  | .box t x => ∀ b, A.w.heap.size ≤ b → K (.loc st.hp.length 0) (st.hp ++ [⟨b, cellsL ((sv st x).val st.hp), t⟩]) st.rows A
  | .build t parts => match T t with
    | some { kind := .struct fs, zero := z, .. } => match fillO (fs[·]?) z (parts.toList.map fun p => (p.1, cellsL ((sv st p.2).val st.hp))) with
      | some cs => K (.v (.agg cs.toArray)) st.hp st.rows A
      | none => False
    | _ => False
  | .buildSlice t len parts => match T t with
    | some { kind := .slice e, .. } => match T e with
      | some ei => match fillO (fun i => some (i * ei.size, ei.size)) (repL ei.zero len) (parts.toList.map fun p => (p.1, cellsL ((sv st p.2).val st.hp))) with
        | some cs => bif Nat.ble (len * ei.size) 16777216 && Nat.blt 0 ei.size then ∀ b, A.w.heap.size ≤ b →
            K (.v (.slice (some ⟨b, 0, none⟩) len len)) st.hp (st.rows ++ [{ v := .slice (some ⟨b, 0, none⟩) len len, n := len, xs := cs, e := e, sz := ei.size }]) A else False
        | none => False
      | none => False
    | _ => False
  | .makeSlice t l c => match T t with
    | some { kind := .slice e, .. } => match T e with
      | some ei => ∃ len cap : Nat, sv st l = .v (.int .i64 (len : Int)) ∧ sv st c = .v (.int .i64 (cap : Int)) ∧ len ≤ cap ∧ ei.bytes * cap ≤ 140737488355328 ∧ cap ≤ maxLen ∧
          ∀ b, A.w.heap.size ≤ b →
            K (.v (.slice (some ⟨b, 0, none⟩) len cap)) st.hp (st.rows ++ [{ v := .slice (some ⟨b, 0, none⟩) len cap, n := len, xs := repL ei.zero len, e := e, sz := ei.size }]) A
      | none => False
    | _ => False
  | .load t x => vcLoad T t (sv st x) st.hp st.rows A fun v => K v st.hp st.rows A
  | .store t x y => vcStore C T t (sv st x) ((sv st y).val st.hp) st.hp st.rows A fun hp rows A => K (.v undef) hp rows A
  | .nilCheck x => match sv st x with
    | .loc i off => K (.loc i off) st.hp st.rows A
    | .v (.pointer (some a)) => K (.v (.pointer (some a))) st.hp st.rows A
    | .v (.func (.func f) first captured) => K (.v (.func (.func f) first captured)) st.hp st.rows A
    | _ => False
  | .binOp op t x y _ => match T t with
    | some { kind := .bool, .. } => vcBoolEq op (sv st x) (sv st y) fun v => K v st.hp st.rows A
    | _ => vcBin op (sv st x) (sv st y) fun v => K v st.hp st.rows A
  | .unOp op _ x => vcUn op (sv st x) fun v => K v st.hp st.rows A
  | .convert src dst x => match T src, T dst, sv st x with
    | some _, some { kind := .int .i64, .. }, .v (.int .i64 n) => ∃ c, isI64 n c ∧ K (.v (.int .i64 c)) st.hp st.rows A
    | some _, some { kind := .int .i64, .. }, .v (.int .u8 n) => ∃ c, isI64 n c ∧ K (.v (.int .i64 c)) st.hp st.rows A
    | some _, some { kind := .int .u8, .. }, .v (.int .i64 n) => K (.v (.int .u8 (IntKind.u8.wrap n))) st.hp st.rows A
    | _, _, _ => False
  | .fieldAddr s x f => match T s with
    | some { kind := .struct fs, .. } => match fs[f]? with
      | some (off, _) => match sv st x with
        | .loc i o => K (.loc i (o + off)) st.hp st.rows A
        | .v (.pointer (some a)) => K (.v (.pointer (some (a.add off)))) st.hp st.rows A
        | _ => False
      | none => False
    | _ => False
  | .indexAddr t x ix => match T t with
    | some { kind := .slice e, .. } => match T e, sv st x with
      | some ei, .v (.slice a n _) => ∃ (b : Addr) (j : Nat), a = some b ∧ sv st ix = .v (.int .i64 (j : Int)) ∧ j < n ∧ K (.v (.pointer (some (b.add (j * ei.size))))) st.hp st.rows A
      | _, _ => False
    | some { kind := .array n e, .. } => match T e, sv st x with
      | some ei, .loc i o => ∃ j : Nat, sv st ix = .v (.int .i64 (j : Int)) ∧ j < n ∧ K (.loc i (o + j * ei.size)) st.hp st.rows A
      | some ei, .v (.pointer (some b)) => ∃ j : Nat, sv st ix = .v (.int .i64 (j : Int)) ∧ j < n ∧ K (.v (.pointer (some (b.add (j * ei.size))))) st.hp st.rows A
      | _, _ => False
    | _ => False
  | .index t x ix => match T t, sv st x with
    | some { kind := .str, .. }, .v (.string s) => ∃ (j : Nat) (c : UInt8), sv st ix = .v (.int .i64 (j : Int)) ∧ s.data.toList[j]? = some c ∧ K (.v (.int .u8 (c.toNat : Int))) st.hp st.rows A
    | _, _ => False
  | .slice t x lo hi none => vcSlice T t (sv st x) (lo.map (sv st)) (hi.map (sv st)) fun v => K v st.hp st.rows A
  | .extract t i => match sv st t with
    | .v (.tuple vs) => match vs.toList[i]? with
      | some v => K (SV.of v) st.hp st.rows A
      | none => False
    | _ => False
  | .makeFunc fn first captured => K (.v (.func fn (first.map fun x => (sv st x).val st.hp) (captured.map fun x => (sv st x).val st.hp))) st.hp st.rows A
  | .makeInterface t x => match T t with
    | some { kind := .iface, .. } => False
    | some _ => K (.v (.iface t ((sv st x).val st.hp))) st.hp st.rows A
    | none => False
  | .panic x => match sv st x with
    | .v (.iface t v) => Qp [{ v := .iface t v, recovered := false }] st.hp st.rows A
    | _ => False
  | .call { callee := .builtin .len, args, argTypes } => match argTypes.toList, args.toList with
    | [t], [x] => match T t, sv st x with
      | some { kind := .slice _, .. }, .v (.slice _ n _) => K (.v (.int .i64 (n : Int))) st.hp st.rows A
      | some { kind := .str, .. }, .v (.string s) => K (.v (.int .i64 (s.data.toList.length : Int))) st.hp st.rows A
      | _, _ => False
    | _, _ => False
  | .call { callee := .builtin .append, args, argTypes } => match argTypes.toList, args.toList with
    | [t, t'], [x, y] => bif Nat.beq t t' then vcAppend T t ((sv st x).val st.hp) ((sv st y).val st.hp) st.hp st.rows A K else False
    | _, _ => False
  | .call { callee := .value f, args, .. } => match sv st f with
    | .v (.func (.func g) first captured) => bif F g then
        forceVL (first.toList ++ (args.toList.map (fun x => (sv st x).val st.hp) ++ captured.toList)) fun l => ∀ w, RelW C st.hp st.rows A w → Calls P g l.toArray w (CallPost C st.hp K Qp) else False
    | _ => False
  | _ => False

end Go.Eng
