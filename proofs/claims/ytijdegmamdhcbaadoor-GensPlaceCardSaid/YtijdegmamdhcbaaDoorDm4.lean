/-
  The second engine, fourth part: what each operation asks. It holds of every program whose table of types is met.
-/
import Derived.Test.YtijdegmamdhcbaaDoorDm3
namespace Go.Dm
open Go Go.Eng Go.RowKit

def I64 (x : Int) : Prop := -9223372036854775808 ≤ x ∧ x ≤ 9223372036854775807
theorem I64.wrap {x : Int} (h : I64 x) : IntKind.i64.wrap x = x := isI64.of h.1 h.2

def of1 : Value → D
  | .int .i64 n => .g (.int n)
  | .int .u8 n => .g (.u8 n)
  | .bool b => .g (.bool b)
  | .string s => .g (.str s.data.toList)
  | .slice none 0 0 => .nils
  | .pointer none => .nilP
  | .nilFunc => .nilF
  | .nilIface => .nilI
  | _ => .any
def ofV : Value → D
  | .agg ⟨cs⟩ => .agg (cs.map of1)
  | v => of1 v

abbrev Env := Nat → D
def Env.set (e : Env) (d : Nat) (x : D) : Env := fun i => bif Nat.beq i d then x else e i

structure St where
  env : Env
  h : Heap
  df : List Deferred

def glD : Gl → Nat → D
  | [], _ => .any
  | (b', cs) :: l, b => bif Nat.beq b' b then .fp cs 0 else glD l b
def sv (G : Gl) (st : St) : Operand → D
  | .tmp t => st.env t
  | .const v => ofV v
  | .global b => glD G b
  | .func f => .fn f [] []

def flat1 (h : Heap) : D → Bool
  | .agg _ | .any | .tuple _ => false
  | .row i | .rs i _ _ | .el i _ _ => match h[i]? with
    | some (.row _ _ _) => true
    | _ => false
  | .ptr i _ => match h[i]? with
    | some (.blk _ _) => true
    | _ => false
  | _ => true
def flatD (h : Heap) : List D → Bool
  | [] => true
  | d :: ds => flat1 h d && flatD h ds
def cellsD (h : Heap) : D → Option (List D)
  | .agg cs => bif flatD h cs then some cs else none
  | d => bif flat1 h d then some [d] else none

def setL {α : Type} : List α → Nat → List α → List α
  | l, _, [] => l
  | l, k, v :: vs => setL (l.set k v) (k + 1) vs

def fillD (place : Nat → Option (Nat × Nat)) : List D → List (Nat × List D) → Option (List D)
  | cs, [] => some cs
  | cs, (i, v) :: rest =>
    match place i with
    | none => none
    | some (off, size) => bif Nat.beq v.length size && Nat.ble (off + size) cs.length then fillD place (setL cs off v) rest else none
/-- All elements are named, in their order. -/
def seqOk (sz : Nat) : Nat → List (Nat × List D) → Nat → Bool
  | i, [], len => Nat.beq i len
  | i, (j, v) :: l, len => Nat.beq j i && (Nat.beq v.length sz && seqOk sz (i + 1) l len)
def flatP : List (Nat × List D) → List D
  | [] => []
  | (_, v) :: l => v ++ flatP l
def partsD (h : Heap) (f : Operand → D) : List (Nat × Operand) → Option (List (Nat × List D))
  | [] => some []
  | (i, o) :: l => match cellsD h (f o), partsD h f l with
    | some ds, some r => some ((i, ds) :: r)
    | _, _ => none
def repD (z : List D) : Nat → List D
  | 0 => []
  | n + 1 => z ++ repD z n

def fillS (sz : Nat) (z : List D) (len : Nat) (ps : List (Nat × List D)) : Option (List D) := bif seqOk sz 0 ps len then some (flatP ps) else fillD (fun i => some (i * sz, sz)) (repD z len) ps
/-- A value of one cell stands for a datum that no one turns any more. -/
def Sees (h : Heap) : D → GV → Prop
  | .g x, y => x = y
  | .pb p, y => ∃ b, y = .bool b ∧ (b = true ↔ p)
  | .pn p, y => ∃ b, y = .bool b ∧ (b = true ↔ ¬p)
  | .nils, y => ∃ k, y = .sl k []
  | .row i, y => match h[i]? with
    | some (.row xs _ sz) => .sl sz xs = y
    | _ => False
  | .rs i lo n, y => match h[i]? with
    | some (.row xs _ sz) => .sl sz ((xs.drop lo).take n) = y
    | _ => False
  | _, _ => False
def SeesL (h : Heap) : List D → List GV → Prop
  | [], [] => True
  | d :: ds, y :: ys => Sees h d y ∧ SeesL h ds ys
  | _, _ => False
def allLen (sz : Nat) : List (List GV) → Bool
  | [] => true
  | r :: l => Nat.beq r.length sz && allLen sz l

def kills (h : Heap) : List Nat → Heap
  | [] => h
  | i :: l => kills (h.set i .dead) l
def idsL : List D → List Nat
  | [] => []
  | d :: l => ids 4 d ++ idsL l

def memFree : Nat → D → Bool
  | 0, _ => false
  | n + 1, d => match d with
    | .g (.int _) | .g (.str _) | .g (.bool _) | .g (.u8 _) | .pb _ | .pn _ | .nils | .nilP | .nilF | .nilI => true
    | .tuple ds | .agg ds => ds.all (memFree n)
    | .iface _ x => memFree n x
    | _ => false
def sh (m : Nat) : Nat → D → D
  | 0, _ => .any
  | n + 1, d => match d with
    | .row i => .row (i + m)
    | .rs i lo k => .rs (i + m) lo k
    | .ptr i off => .ptr (i + m) off
    | .el i j off => .el (i + m) j off
    | .fn f fs cs => .fn f (fs.map (sh m n)) (cs.map (sh m n))
    | .iface t x => .iface t (sh m n x)
    | .agg cs => .agg (cs.map (sh m n))
    | .tuple cs => .tuple (cs.map (sh m n))
    | d => d
def rnT (f : Nat → Nat) : List (Value × Nat) → List (Value × Nat)
  | [] => []
  | (v, q) :: l => (v, f q) :: rnT f l
def shO (m : Nat) : Obj → Obj
  | .blk cs t => .blk (cs.map (sh m 4)) t
  | .many l ts => .many l (rnT (· + m) ts)
  | o => o
def isNil {α : Type} : List α → Bool
  | [] => true
  | _ => false
def after (h : Heap) (l : List Nat) (d : D) (h' : Heap) : Heap := bif memFree 4 d && isNil h' then h else kills h l ++ h'.map (shO h.length)

abbrev KD := D → Heap → Prop
inductive Out where
  | ret (d : D) (h : Heap)
  | pan (d : D)
  | panH (d : D) (h : Heap)

/-- Values of a call's memory, told in the caller's. -/
def rnD (f : Nat → Nat) : Nat → D → D
  | 0, _ => .any
  | n + 1, d => match d with
    | .row i => .row (f i)
    | .rs i lo k => .rs (f i) lo k
    | .ptr i off => .ptr (f i) off
    | .el i j off => .el (f i) j off
    | .fn g fs cs => .fn g (fs.map (rnD f n)) (cs.map (rnD f n))
    | .iface t x => .iface t (rnD f n x)
    | .agg cs => .agg (cs.map (rnD f n))
    | .tuple cs => .tuple (cs.map (rnD f n))
    | d => d
def rnO (f : Nat → Nat) : Obj → Obj
  | .blk cs t => .blk (cs.map (rnD f 4)) t
  | .many l ts => .many l (rnT f ts)
  | o => o
def atN : List Nat → Nat → Nat
  | [], _ => 0
  | a :: _, 0 => a
  | _ :: l, n + 1 => atN l n
def rnI (σ : List Nat) (b n i : Nat) : Nat := bif Nat.blt i b then atN σ i else i - b + n
def putE (src : List Src) (b : Nat) (f : Nat → Nat) (h' : Heap) (p : Nat) (o : Obj) : Obj := match kp src 0 p with
  | none => o
  | some k => bif Nat.blt k b then (match h'[k]? with | some o' => rnO f o' | none => .dead) else .dead
def putO (src : List Src) (b : Nat) (f : Nat → Nat) (h' : Heap) : Nat → Heap → Heap
  | _, [] => []
  | p, o :: l => putE src b f h' p o :: putO src b f h' (p + 1) l
/-- The caller's memory behind a call that was handed some of it. -/
def putH (h : Heap) (σ : List Nat) (b : Nat) (h' : Heap) : Heap :=
  putO (σ.map .old) b (rnI σ b h.length) h' 0 h ++ (h'.drop b).map (rnO (rnI σ b h.length))
def inσ : List Nat → Nat → Bool
  | [], _ => false
  | a :: l, i => Nat.beq a i || inσ l i
def idsO : Obj → List Nat
  | .blk cs _ => idsL cs
  | .many _ ts => ts.map (·.2)
  | _ => []
/-- This, or, where it is so, that. -/
def orS (b : Bool) (A B : Prop) : Prop := bif b then A ∨ B else A
theorem orS_l {b : Bool} {A B : Prop} (h : A) : orS b A B := by cases b with | true => exact Or.inl h | false => exact h
theorem orS_get {b : Bool} {A B : Prop} (h : orS b A B) : A ∨ B := by cases b with | true => exact h | false => exact Or.inl h
/-- Where there are many, laid away. -/
def hasMany : Heap → Bool
  | [] => false
  | .many _ _ :: _ => true
  | _ :: l => hasMany l
def isBlk (h : Heap) (i : Nat) : Bool := match h[i]? with
  | some (.blk _ _) => true
  | _ => false
/-- What is handed over names nothing that is not. -/
def closedσ (h : Heap) (σ : List Nat) (all : List D) : Bool := (idsL all).all (inσ σ) && σ.all fun i => match h[i]? with
  | some o => (idsO o).all (inσ σ)
  | none => false

def PostC (G : Gl) (Q : Out → Prop) (V : Nat → Prop) (w : World) : Ending → World → Prop
  | .returned v, w' => ∃ d h' β' V', Q (.ret d h') ∧ RelD ⟨w, fun _ => False, V, G⟩ h' β' V' w' ∧ RepD h' β' V' w' d v
  | .panicked ch, w' => ∃ d t u β' V', ch = [{ v := .iface t u, recovered := false }] ∧ Q (.pan d) ∧ RelD ⟨w, fun _ => False, V, G⟩ [] β' V' w' ∧ RepD [] β' V' w' d (.iface t u)
  | .outgrown, _ => False

/-- THE CONTRACT of a function: called with such values it ends so, and turns nothing of what was there. -/
def CT (P : Program) (G : Gl) (g : FuncId) (as : List D) (Q : Out → Prop) : Prop :=
  ∀ (w : World) (V : Nat → Prop) (vals : List Value), (∀ k, V k → k < w.heap.size) → GlOk G V w → RepDL [] (fun _ => undef) V w as vals → Calls P g ⟨vals⟩ w (PostC G Q V w)
/-- What a memory owns. -/
def ownB (h : Heap) (β : Nat → Value) (k : Nat) : Prop := ∃ i o, h[i]? = some o ∧ o.live = true ∧ Bk o (β i) k
/-- An object stays where it is. -/
def Stays (h h' : Heap) (β β' : Nat → Value) (i : Nat) : Prop := (∃ o o', h[i]? = some o ∧ h'[i]? = some o' ∧ OLe o o' ∧ o'.live = true) ∧ β' i = β i
def PostH (G : Gl) (Q : Out → Prop) (b : Nat) (hin : Heap) (β : Nat → Value) (V : Nat → Prop) (w : World) : Ending → World → Prop
  | .returned v, w' => ∃ d h' β' V', Q (.ret d h') ∧ RelD ⟨w, ownB hin β, V, G⟩ h' β' V' w' ∧ RepD h' β' V' w' d v ∧ ∀ i, i < b → Stays hin h' β β' i
  | .panicked ch, w' => ∃ d h' t u β' V', ch = [{ v := .iface t u, recovered := false }] ∧ Q (.panH d h') ∧ RelD ⟨w, ownB hin β, V, G⟩ h' β' V' w' ∧ RepD h' β' V' w' d (.iface t u) ∧ ∀ i, i < b → Stays hin h' β β' i
  | .outgrown, _ => False
/-- THE CONTRACT of a function that is handed memory of its caller's own: its first b objects stay where they are. -/
def CTH (P : Program) (G : Gl) (g : FuncId) (b : Nat) (hin : Heap) (as : List D) (Q : Out → Prop) : Prop :=
  ∀ (w : World) (β : Nat → Value) (V : Nat → Prop) (vals : List Value), RelD ⟨w, ownB hin β, V, G⟩ hin β V w → RepDL hin β V w as vals → Calls P g ⟨vals⟩ w (PostH G Q b hin β V w)
/-- A call, told by what it does in every world that this memory stands in. -/
def SemCall (P : Program) (G : Gl) (g : FuncId) (all : List D) (h : Heap) (K Qp : KD) : Prop :=
  ∀ (C : Ctx) (w : World) (β : Nat → Value) (V : Nat → Prop) (vals : List Value), C.G = G → RelD C h β V w → RepDL h β V w all vals → Calls P g ⟨vals⟩ w fun
    | .returned v, w' => ∃ d h' β' V', K d h' ∧ RelD C h' β' V' w' ∧ RepD h' β' V' w' d v ∧ LeH h β h' β' ∧ Moved V w V' w'
    | .panicked ch, w' => ∃ d h' t u β' V', ch = [{ v := .iface t u, recovered := false }] ∧ Qp d h' ∧ RelD C h' β' V' w' ∧ RepD h' β' V' w' d (.iface t u) ∧ LeH h β h' β' ∧ Moved V w V' w'
    | .outgrown, _ => False
/-- A function that only reads. -/
def CTR (P : Program) (G : Gl) (g : FuncId) (all : List D) (h : Heap) (d : D) : Prop :=
  ∀ (C : Ctx) (w : World) (β : Nat → Value) (V : Nat → Prop) (vals : List Value), C.G = G → RelD C h β V w → RepDL h β V w all vals → Calls P g ⟨vals⟩ w fun
    | .returned v, w' => RelD C h β V w' ∧ RepD h β V w' d v ∧ Moved V w V w'
    | _, _ => False
/-- It returns this. -/
def Is (d : D) : Out → Prop := fun o => o = .ret d []

/-- A call that is handed memory of one's own. -/
def OwnCall (P : Program) (G : Gl) (g : FuncId) (all : List D) (h : Heap) (K Qp : KD) : Prop :=
  ∃ (σ : List Nat) (b : Nat) (hin : Heap) (as : List D) (Q : Out → Prop), closedσ h σ all = true ∧ Nat.ble b σ.length = true ∧ TurnTo h (σ.map .old) all hin as ∧ CTH P G g b hin as Q ∧
    (∀ d h', Q (.ret d h') → K (rnD (rnI σ b h.length) 4 d) (putH h σ b h')) ∧ (∀ d h', Q (.panH d h') → Qp (rnD (rnI σ b h.length) 4 d) (putH h σ b h'))

def bcase (c : D) (A B : Prop) : Prop :=
  match c with
  | .g (.bool true) => A
  | .g (.bool false) => B
  | .pb p => (p → A) ∧ (¬p → B)
  | .pn p => (¬p → A) ∧ (p → B)
  | _ => False

def vcBin (op : BinOp) (x y : D) (K : D → Prop) : Prop :=
  match op, x, y with
  | .add, .g (.int a), .g (.int b) => ∃ c, IntKind.i64.wrap (a + b) = c ∧ K (.g (.int c))
  | .sub, .g (.int a), .g (.int b) => I64 (a - b) ∧ K (.g (.int (a - b)))
  | .mul, .g (.int a), .g (.int b) => I64 (a * b) ∧ K (.g (.int (a * b)))
  | .add, .g (.u8 a), .g (.u8 b) => K (.g (.u8 (IntKind.u8.wrap (a + b))))
  | .sub, .g (.u8 a), .g (.u8 b) => K (.g (.u8 (IntKind.u8.wrap (a - b))))
  | .quo, .g (.int a), .g (.int b) => b ≠ 0 ∧ I64 (a.tdiv b) ∧ K (.g (.int (a.tdiv b)))
  | .rem, .g (.int a), .g (.int b) => b ≠ 0 ∧ K (.g (.int (a.tmod b)))
  | .and, .g (.int a), .g (.int b) => ∃ c, (Op.intBits .and .i64 a b = pure (.int .i64 c)) ∧ K (.g (.int c))
  | .or, .g (.int a), .g (.int b) => ∃ c, (Op.intBits .or .i64 a b = pure (.int .i64 c)) ∧ K (.g (.int c))
  | .xor, .g (.int a), .g (.int b) => ∃ c, (Op.intBits .xor .i64 a b = pure (.int .i64 c)) ∧ K (.g (.int c))
  | .shl, .g (.int a), .g (.int b) => 0 ≤ b ∧ I64 (a * 2 ^ (min b.toNat 64)) ∧ K (.g (.int (a * 2 ^ (min b.toNat 64))))
  | .shr, .g (.int a), .g (.int b) => 0 ≤ b ∧ K (.g (.int (a.fdiv (2 ^ (min b.toNat 64)))))
  | .eql, .g (.int a), .g (.int b) => K (.pb (a = b))
  | .neq, .g (.int a), .g (.int b) => K (.pn (a = b))
  | .lss, .g (.int a), .g (.int b) => K (.pb (a < b))
  | .leq, .g (.int a), .g (.int b) => K (.pb (a ≤ b))
  | .gtr, .g (.int a), .g (.int b) => K (.pb (b < a))
  | .geq, .g (.int a), .g (.int b) => K (.pb (b ≤ a))
  | .eql, .g (.u8 a), .g (.u8 b) => K (.pb (a = b))
  | .neq, .g (.u8 a), .g (.u8 b) => K (.pn (a = b))
  | .lss, .g (.u8 a), .g (.u8 b) => K (.pb (a < b))
  | .leq, .g (.u8 a), .g (.u8 b) => K (.pb (a ≤ b))
  | .gtr, .g (.u8 a), .g (.u8 b) => K (.pb (b < a))
  | .geq, .g (.u8 a), .g (.u8 b) => K (.pb (b ≤ a))
  | .eql, .g (.str a), .g (.str b) => K (.pb (a = b))
  | .neq, .g (.str a), .g (.str b) => K (.pn (a = b))
  | .add, .g (.str a), .g (.str b) => a.length + b.length ≤ 9223372036854775807 ∧ K (.g (.str (a ++ b)))
  | _, _, _ => False

/-- A slice against the literal nil: what has no rows may be either. -/
def vcNil (op : BinOp) (x y : D) (K : D → Prop) : Prop :=
  match op, x, y with
  | .eql, .g (.sl _ xs), .nils => ∀ p : Prop, (p → xs = []) → K (.pb p)
  | .neq, .g (.sl _ xs), .nils => ∀ p : Prop, (p → xs = []) → K (.pn p)
  | .eql, .nils, .nils => K (.g (.bool true))
  | .neq, .nils, .nils => K (.g (.bool false))
  | _, _, _ => False
/-- Structs of numbers, texts and truth values: equal if all their cells are. -/
def kindV : Nat → Value → Prop
  | 0, .int .i64 _ => True
  | 1, .string _ => True
  | 2, .bool _ => True
  | _, _ => False
def kindL : List Nat → List Value → Prop
  | [], [] => True
  | k :: ks, v :: vs => kindV k v ∧ kindL ks vs
  | _, _ => False
def StEq (P : Program) (t : TypeId) (ks : List Nat) : Prop :=
  ∀ (xs ys : List Value) (op : BinOp) (ox oy : Operand) (w : World), kindL ks xs → kindL ks ys → (op = .eql ∨ op = .neq) →
    ∃ b : Bool, (do eqGuard op t ox oy (.agg ⟨xs⟩) (.agg ⟨ys⟩); binOp op t (.agg ⟨xs⟩) (.agg ⟨ys⟩)).run P w = .ok (.bool b) w ∧ (op = .eql → (b = true ↔ xs = ys)) ∧ (op = .neq → (b = true ↔ ¬xs = ys))
def eqCs : List D → List D → Option (List Nat × Prop)
  | [], [] => some ([], True)
  | .g (.int a) :: l, .g (.int b) :: m => match eqCs l m with
    | some (ks, p) => some (0 :: ks, a = b ∧ p)
    | none => none
  | .g (.str a) :: l, .g (.str b) :: m => match eqCs l m with
    | some (ks, p) => some (1 :: ks, a = b ∧ p)
    | none => none
  | .g (.bool a) :: l, .g (.bool b) :: m => match eqCs l m with
    | some (ks, p) => some (2 :: ks, a = b ∧ p)
    | none => none
  | _, _ => none
def vcStEq (P : Program) (t : TypeId) (op : BinOp) (x y : D) (K : D → Prop) : Prop :=
  match op, x, y with
  | .eql, .agg cs, .agg ds => match eqCs cs ds with
    | some (ks, p) => StEq P t ks ∧ K (.pb p)
    | none => False
  | .neq, .agg cs, .agg ds => match eqCs cs ds with
    | some (ks, p) => StEq P t ks ∧ K (.pn p)
    | none => False
  | _, _, _ => False
/-- A string's bytes. -/
def bytesG (s : List UInt8) : List (List GV) := s.map fun c => [.u8 (c.toNat : Int)]

def asP : D → Option Prop
  | .pb p => some p
  | .pn p => some (¬p)
  | .g (.bool b) => some (b = true)
  | _ => none
def vcBoolEq (op : BinOp) (x y : D) (K : D → Prop) : Prop :=
  match op, asP x, asP y with
  | .eql, some p, some q => K (.pb (p ↔ q))
  | .neq, some p, some q => K (.pn (p ↔ q))
  | _, _, _ => False

def vcUn (op : UnOp) (x : D) (K : D → Prop) : Prop :=
  match op, x with
  | .not, .pb p => K (.pn p)
  | .not, .pn p => K (.pb p)
  | .not, .g (.bool true) => K (.g (.bool false))
  | .not, .g (.bool false) => K (.g (.bool true))
  | .neg, .g (.int a) => I64 (0 - a) ∧ K (.g (.int (0 - a)))
  | _, _ => False

def ldG (i : TI) (r : List GV) (off : Nat) (K : D → Prop) : Prop :=
  match i.agg with
  | false => match r[off]? with
    | some x => K (.g x)
    | none => False
  | true => bif Nat.ble (off + i.size) r.length then K (.agg ((List.take i.size (r.drop off)).map .g)) else False

def getK (o : Option D) (K : D → Prop) : Prop := match o with
  | some d => K d
  | none => False
theorem getK_ok {o : Option D} {K : D → Prop} (h : getK o K) : ∃ d, o = some d ∧ K d := by
  cases o with
  | none => exact h.elim
  | some d => exact ⟨d, rfl, h⟩
theorem getK_at {o : Option D} {K : D → Prop} {d : D} (h : o = some d) (k : K d) : getK o K := by rw [h]; exact k
theorem ldG_at {i : TI} {r : List GV} {off : Nat} {K : D → Prop} {x : GV} (hi : i.agg = false) (h : r[off]? = some x) (k : K (.g x)) : ldG i r off K := by
  unfold ldG
  rw [hi, h]
  exact k
def vcLoad (T : Tab) (t : TypeId) (p : D) (h : Heap) (K : D → Prop) : Prop :=
  match T t with
  | none => False
  | some i =>
    match p with
    | .ptr j off =>
      match h[j]? with
      | some (.blk cs _) => match i.agg with
        | false => getK cs[off]? K
        | true => bif Nat.ble (off + i.size) cs.length then K (.agg (List.take i.size (cs.drop off))) else False
      | _ => False
    | .el j k off =>
      match h[j]? with
      | some (.row xs _ _) => ∃ r, xs[k]? = some r ∧ ldG i r off K
      | _ => False
    | .fp r off => ldG i r off K
    | _ => False

def vcStore (T : Tab) (t : TypeId) (p : D) (y : D) (h : Heap) (K : Heap → Prop) : Prop :=
  match T t with
  | none => False
  | some i =>
    match cellsD h y with
    | none => False
    | some ds => bif Nat.beq ds.length i.size then
      match p with
      | .ptr j off =>
        match h[j]? with
        | some (.blk cs ty) => bif Nat.ble (off + i.size) cs.length then K (h.set j (.blk (setL cs off ds) ty)) else False
        | _ => False
      | .el j k off =>
        match h[j]? with
        | some (.row xs e sz) => ∃ r gs, xs[k]? = some r ∧ SeesL h ds gs ∧ off + i.size ≤ r.length ∧ j ∉ idsL ds ∧ K (kills (h.set j (.row (xs.set k (setL r off gs)) e sz)) (idsL ds))
        | _ => False
      | _ => False
      else False

def srcD (h : Heap) (sz : Nat) : D → Option (List (List GV))
  | .nils => some []
  | .g (.sl k xs) => bif Nat.beq k sz then some xs else none
  | .row j => match h[j]? with
    | some (.row ys _ sz') => bif Nat.beq sz' sz then some ys else none
    | _ => none
  | .rs j lo n => match h[j]? with
    | some (.row ys _ sz') => bif Nat.beq sz' sz then some ((ys.drop lo).take n) else none
    | _ => none
  | _ => none

def roomFor (ei : TI) (n : Nat) : Prop := n ≤ maxLen ∧ n * ei.bytes ≤ 140737488355328

def vcAppend (T : Tab) (t : TypeId) (x y : D) (h : Heap) (K : KD) : Prop :=
  match T t with
  | some { kind := .slice e, .. } =>
    match T e with
    | none => False
    | some ei =>
      match srcD h ei.size y with
      | none => False
      | some news => bif Nat.blt 0 ei.size then
        match x with
        | .nils => roomFor ei news.length ∧ K (.row h.length) (h ++ [.row news e ei.size])
        | .row i => match h[i]? with
          | some (.row xs e' sz') => bif Nat.beq e' e && Nat.beq sz' ei.size then roomFor ei (xs.length + news.length) ∧ K (.row h.length) (h.set i .dead ++ [.row (xs ++ news) e ei.size]) else False
          | _ => False
        | .rs i 0 n => match h[i]? with
          | some (.row xs e' sz') => bif Nat.beq e' e && Nat.beq sz' ei.size then n ≤ xs.length ∧ roomFor ei (n + news.length) ∧ K (.row h.length) (h.set i .dead ++ [.row (xs.take n ++ news) e ei.size]) else False
          | _ => False
        | _ => False
        else False
  | _ => False

def vcSlice (T : Tab) (t : TypeId) (x : D) (lo hi : Option D) (h : Heap) (K : D → Prop) : Prop :=
  match T t, x with
  | some { kind := .str, .. }, .g (.str s) =>
    match lo, hi with
    | none, none => K (.g (.str s))
    | none, some p => ∃ hh : Nat, p = .g (.int (hh : Int)) ∧ hh ≤ s.length ∧ K (.g (.str (s.take hh)))
    | some p, none => ∃ l : Nat, p = .g (.int (l : Int)) ∧ l ≤ s.length ∧ K (.g (.str (s.drop l)))
    | some p, some q => ∃ l hh : Nat, p = .g (.int (l : Int)) ∧ q = .g (.int (hh : Int)) ∧ l ≤ hh ∧ hh ≤ s.length ∧ K (.g (.str ((s.take hh).drop l)))
  | some { kind := .slice e, .. }, .g (.sl k xs) =>
    match T e with
    | none => False
    | some ei => bif Nat.beq k ei.size then
      match lo, hi with
      | none, none => K (.g (.sl k xs))
      | none, some p => ∃ hh : Nat, p = .g (.int (hh : Int)) ∧ hh ≤ xs.length ∧ K (.g (.sl k (xs.take hh)))
      | some p, none => ∃ l : Nat, p = .g (.int (l : Int)) ∧ l ≤ xs.length ∧ K (.g (.sl k (xs.drop l)))
      | some p, some q => ∃ l hh : Nat, p = .g (.int (l : Int)) ∧ q = .g (.int (hh : Int)) ∧ l ≤ hh ∧ hh ≤ xs.length ∧ K (.g (.sl k ((xs.take hh).drop l)))
      else False
  | some { kind := .slice e, .. }, .row i =>
    match T e, h[i]? with
    | some ei, some (.row xs _ sz) => bif Nat.beq sz ei.size then
      match lo, hi with
      | none, none => K (.row i)
      | none, some p => ∃ hh : Nat, p = .g (.int (hh : Int)) ∧ hh ≤ xs.length ∧ K (.rs i 0 hh)
      | some p, none => ∃ l : Nat, p = .g (.int (l : Int)) ∧ l ≤ xs.length ∧ K (.rs i l (xs.length - l))
      | some p, some q => ∃ l hh : Nat, p = .g (.int (l : Int)) ∧ q = .g (.int (hh : Int)) ∧ l ≤ hh ∧ hh ≤ xs.length ∧ K (.rs i l (hh - l))
      else False
    | _, _ => False
  | some { kind := .array n e, .. }, .ptr i o => match lo, hi, T e, h[i]? with
    | none, none, some ei, some (.blk cs _) => bif Nat.ble (o + n * ei.size) cs.length && Nat.blt 0 n then K (.rs i o n) else False
    | _, _, _, _ => False
  | _, _ => False

/-- Cells of a block are overwritten by those of a list. -/
def vcCopy (T : Tab) (t : TypeId) (x y : D) (h : Heap) (K : KD) : Prop :=
  match T t with
  | some { kind := .slice e, .. } => match T e with
    | some ei => bif Nat.beq ei.size 1 then
      match x, srcD h 1 y with
      | .rs i o n, some news => match h[i]? with
        | some (.blk cs ty) => bif Nat.ble (o + n) cs.length then ∃ cs', cs' = setL cs o (((news.take n).flatten).map .g) ∧ K (.g (.int ((min news.length n : Nat) : Int))) (h.set i (.blk cs' ty)) else False
        | _ => False
      | _, _ => False
      else False
    | none => False
  | _ => False

def vcLen (i : TI) (x : D) (h : Heap) (K : D → Prop) : Prop :=
  match i.kind, x with
  | .slice _, .g (.sl _ xs) => K (.g (.int (xs.length : Int)))
  | .slice _, .nils => K (.g (.int 0))
  | .slice _, .row j => match h[j]? with
    | some (.row xs _ _) => K (.g (.int (xs.length : Int)))
    | _ => False
  | .slice _, .rs j _ n => match h[j]? with
    | some (.row _ _ _) => K (.g (.int (n : Int)))
    | _ => False
  | .str, .g (.str s) => K (.g (.int (s.length : Int)))
  | _, _ => False

def vcIndexAddr (T : Tab) (t : TypeId) (x ix : D) (h : Heap) (K : D → Prop) : Prop :=
  match T t with
  | some { kind := .slice e, .. } => match T e, x with
    | some ei, .g (.sl k xs) => bif Nat.beq k ei.size then ∃ (j : Nat) (r : List GV), ix = .g (.int (j : Int)) ∧ xs[j]? = some r ∧ K (.fp r 0) else False
    | some ei, .row i => match h[i]? with
      | some (.row xs _ sz) => bif Nat.beq sz ei.size then ∃ j : Nat, ix = .g (.int (j : Int)) ∧ j < xs.length ∧ K (.el i j 0) else False
      | _ => False
    | some ei, .rs i lo n => match h[i]? with
      | some (.row _ _ sz) => bif Nat.beq sz ei.size then ∃ j : Nat, ix = .g (.int (j : Int)) ∧ j < n ∧ K (.el i (lo + j) 0) else False
      | _ => False
    | _, _ => False
  | some { kind := .array n e, .. } => match T e, x with
    | some ei, .ptr i o => match h[i]? with
      | some (.blk _ _) => ∃ j : Nat, ix = .g (.int (j : Int)) ∧ j < n ∧ K (.ptr i (o + j * ei.size))
      | _ => False
    | some ei, .fp r o => ∃ j : Nat, ix = .g (.int (j : Int)) ∧ j < n ∧ K (.fp r (o + j * ei.size))
    | some ei, .el i k o => match h[i]? with
      | some (.row _ _ _) => ∃ j : Nat, ix = .g (.int (j : Int)) ∧ j < n ∧ K (.el i k (o + j * ei.size))
      | _ => False
    | _, _ => False
  | _ => False

def forceDL : List D → (List D → Prop) → Prop
  | [], K => K []
  | d :: l, K => forceDL l fun l => K (d :: l)
theorem forceDL_eq : ∀ (l : List D) (K : List D → Prop), forceDL l K = K l
  | [], _ => rfl
  | d :: l, K => by simp only [forceDL, forceDL_eq l]
def forceD (d : D) (K : D → Prop) : Prop :=
  match d with
  | .g x => K (.g x)
  | .pb p => K (.pb p)
  | .pn p => K (.pn p)
  | .nils => K .nils
  | .row i => K (.row i)
  | .rs i lo n => K (.rs i lo n)
  | .ptr i o => K (.ptr i o)
  | .el i j o => K (.el i j o)
  | .fp r o => K (.fp r o)
  | .nilP => K .nilP
  | .nilF => K .nilF
  | .nilI => K .nilI
  | .fn f fs cs => K (.fn f fs cs)
  | .iface t x => K (.iface t x)
  | .agg cs => forceDL cs fun cs => K (.agg cs)
  | .tuple cs => forceDL cs fun cs => K (.tuple cs)
  | .any => K .any
theorem forceD_eq (d : D) (K : D → Prop) : forceD d K = K d := by cases d <;> simp only [forceD, forceDL_eq]
def forceH : Heap → (Heap → Prop) → Prop
  | [], K => K []
  | .blk cs t :: l, K => forceDL cs fun cs => forceH l fun l => K (.blk cs t :: l)
  | .row xs e sz :: l, K => forceH l fun l => K (.row xs e sz :: l)
  | .many xs ts :: l, K => forceH l fun l => K (.many xs ts :: l)
  | .dead :: l, K => forceH l fun l => K (.dead :: l)
theorem forceH_eq : ∀ (l : Heap) (K : Heap → Prop), forceH l K = K l
  | [], _ => rfl
  | .blk cs t :: l, K => by simp only [forceH, forceDL_eq, forceH_eq l]
  | .row xs e sz :: l, K => by simp only [forceH, forceH_eq l]
  | .many xs ts :: l, K => by simp only [forceH, forceH_eq l]
  | .dead :: l, K => by simp only [forceH, forceH_eq l]

def vcOp (P : Program) (T : Tab) (F : FuncId → Bool) (G : Gl) (o : Op) (st : St) (K : KD) (Qp : KD) : Prop :=
  match o with
  | .move x => K (sv G st x) st.h
  | .assign x => K (sv G st x) st.h
  | .pick c a b => bcase (sv G st c) (K (sv G st a) st.h) (K (sv G st b) st.h)
  | .alloc t => match T t with
    | none => False
    | some i => K (.ptr st.h.length 0) (st.h ++ [.blk (i.zero.map of1) t])
  | .box t x => match cellsD st.h (sv G st x) with
    | none => False
    | some ds => K (.ptr st.h.length 0) (st.h ++ [.blk ds t])
  | .build t parts => match T t with
    | some { kind := .struct fs, zero := z, .. } => match partsD st.h (sv G st) parts.toList with
      | none => False
      | some ps => match fillD (fs[·]?) (z.map of1) ps with
        | some cs => K (.agg cs) st.h
        | none => False
    | _ => False
  | .buildSlice t len parts => match T t with
    | some { kind := .slice e, .. } => match T e with
      | some ei => match partsD st.h (sv G st) parts.toList with
        | none => False
        | some ps => match fillS ei.size (ei.zero.map of1) len ps with
          | some cs => bif Nat.ble (len * ei.size) 16777216 && Nat.blt 0 ei.size then
              ∃ xs, xs.length = len ∧ allLen ei.size xs = true ∧ SeesL st.h cs xs.flatten ∧ K (.row st.h.length) (kills st.h (idsL cs) ++ [.row xs e ei.size]) else False
          | none => False
      | none => False
    | _ => False
  | .makeSlice t l c => match T t with
    | some { kind := .slice e, .. } => match T e with
      | some ei => bif Nat.blt 0 ei.size then ∃ (len cap : Nat) (z : List GV), sv G st l = .g (.int (len : Int)) ∧ sv G st c = .g (.int (cap : Int)) ∧ len ≤ cap ∧ ei.bytes * cap ≤ 140737488355328 ∧ cap ≤ maxLen ∧
          SeesL [] (ei.zero.map of1) z ∧ K (.row st.h.length) (st.h ++ [.row (List.replicate len z) e ei.size]) else False
      | none => False
    | _ => False
  | .load t x => vcLoad T t (sv G st x) st.h fun d => K d st.h
  | .store t x y => vcStore T t (sv G st x) (sv G st y) st.h fun h => K .any h
  | .nilCheck x => match sv G st x with
    | .ptr i o => match st.h[i]? with
      | some (.blk _ _) => K (.ptr i o) st.h
      | _ => False
    | .el i j o => match st.h[i]? with
      | some (.row _ _ _) => K (.el i j o) st.h
      | _ => False
    | .fp r o => K (.fp r o) st.h
    | .fn f fs cs => K (.fn f fs cs) st.h
    | _ => False
  | .binOp op t x y _ => match T t with
    | some { kind := .bool, .. } => vcBoolEq op (sv G st x) (sv G st y) fun v => K v st.h
    | some { kind := .slice _, .. } => vcNil op (sv G st x) (sv G st y) fun v => K v st.h
    | some { kind := .struct _, .. } => vcStEq P t op (sv G st x) (sv G st y) fun v => K v st.h
    | _ => vcBin op (sv G st x) (sv G st y) fun v => K v st.h
  | .unOp op _ x => vcUn op (sv G st x) fun v => K v st.h
  | .convert src dst x => match T src, T dst, sv G st x with
    | some _, some { kind := .int .i64, .. }, .g (.int n) => I64 n ∧ K (.g (.int n)) st.h
    | some _, some { kind := .int .i64, .. }, .g (.u8 n) => I64 n ∧ K (.g (.int n)) st.h
    | some _, some { kind := .int .u8, .. }, .g (.int n) => K (.g (.u8 (IntKind.u8.wrap n))) st.h
    | some { kind := .str, .. }, some { kind := .slice e, .. }, .g (.str s) => match T e with
      | some { kind := .int .u8, .. } => K (.g (.sl 1 (bytesG s))) st.h
      | _ => False
    | _, _, _ => False
  | .fieldAddr s x f => match T s with
    | some { kind := .struct fs, .. } => match fs[f]? with
      | some (off, _) => match sv G st x with
        | .ptr i o => match st.h[i]? with
          | some (.blk _ _) => K (.ptr i (o + off)) st.h
          | _ => False
        | .el i j o => match st.h[i]? with
          | some (.row _ _ _) => K (.el i j (o + off)) st.h
          | _ => False
        | .fp r o => K (.fp r (o + off)) st.h
        | _ => False
      | none => False
    | _ => False
  | .indexAddr t x ix => vcIndexAddr T t (sv G st x) (sv G st ix) st.h fun d => K d st.h
  | .index t x ix => match T t, sv G st x with
    | some { kind := .str, .. }, .g (.str s) => ∃ (j : Nat) (c : UInt8), sv G st ix = .g (.int (j : Int)) ∧ s[j]? = some c ∧ K (.g (.u8 (c.toNat : Int))) st.h
    | _, _ => False
  | .slice t x lo hi none => vcSlice T t (sv G st x) (lo.map (sv G st)) (hi.map (sv G st)) st.h fun d => K d st.h
  | .extract t i => match sv G st t with
    | .tuple vs => match vs[i]? with
      | some d => K d st.h
      | none => False
    | _ => False
  | .makeFunc (.func f) first captured => K (.fn f (first.toList.map (sv G st)) (captured.toList.map (sv G st))) st.h
  | .makeInterface t x => match T t with
    | some { kind := .iface, .. } => False
    | some _ => K (.iface t (sv G st x)) st.h
    | none => False
  | .panic x => match sv G st x with
    | .iface t d => Qp (.iface t d) st.h
    | _ => False
  | .call { callee := .builtin .len, args, argTypes } => match argTypes.toList, args.toList with
    | [t], [x] => match T t with
      | some i => vcLen i (sv G st x) st.h fun d => K d st.h
      | none => False
    | _, _ => False
  | .call { callee := .builtin .max, args, .. } => match args.toList with
    | [x, y] => match sv G st x, sv G st y with
      | .g (.int a), .g (.int b) => K (.g (.int (if b > a then b else a))) st.h
      | _, _ => False
    | _ => False
  | .call { callee := .builtin .min, args, .. } => match args.toList with
    | [x, y] => match sv G st x, sv G st y with
      | .g (.int a), .g (.int b) => K (.g (.int (if b < a then b else a))) st.h
      | _, _ => False
    | _ => False
  | .call { callee := .builtin .append, args, argTypes } => match argTypes.toList, args.toList with
    | [t, t'], [x, y] => bif Nat.beq t t' then vcAppend T t (sv G st x) (sv G st y) st.h K else False
    | _, _ => False
  | .call { callee := .builtin .copy, args, argTypes } => match argTypes.toList, args.toList with
    | [t, _], [x, y] => vcCopy T t (sv G st x) (sv G st y) st.h K
    | _, _ => False
  | .call { callee := .value f, args, .. } => match sv G st f with
    | .fn g fs cs => bif F g then forceDL (fs ++ (args.toList.map (sv G st) ++ cs)) fun all =>
        orS (hasMany st.h) (∃ as Q, likeA (all.map (conv st.h [] 4)) as ∧ CT P G g as Q ∧ (∀ d h', Q (.ret d h') → K (sh st.h.length 4 d) (after st.h (idsL all) d h')) ∧ (∀ d, Q (.pan d) → Qp d (kills st.h (idsL all)))) (SemCall P G g all st.h K Qp)
      else forceDL (fs ++ (args.toList.map (sv G st) ++ cs)) fun all => fnOk P g = true ∧ (OwnCall P G g all st.h K Qp ∨ SemCall P G g all st.h K Qp)
    | _ => False
  | _ => False
end Go.Dm
