/-
  The second engine, first part: abstract data and memory, and how they stand in a world. No statement of the seat is proved here. It holds of every program whose table of types is met.
-/
import Derived.Test.YtijdegmamdhcbaaDoorEng
namespace Go.Dm
open Go Go.Eng Go.RowKit

/-- Data that nobody turns any more: numbers, texts, bools, bytes, lists of rows of k cells each. -/
inductive GV where
  | int (n : Int)
  | str (l : List UInt8)
  | bool (b : Bool)
  | u8 (n : Int)
  | sl (k : Nat) (xs : List (List GV))
  | raw (v : Value)

mutual
def RepV (V : Nat → Prop) (w : World) : GV → Value → Prop
  | .int n, v => v = .int .i64 n
  | .str l, v => v = .string ⟨⟨l⟩⟩
  | .bool b, v => v = .bool b
  | .u8 n, v => v = .int .u8 n
  | .raw u, v => v = u ∧ v.oneCell' = true ∧ cellsL v = [v]
  | .sl k xs, v => ∃ A cap, v = .slice A xs.length cap ∧ xs.length ≤ cap ∧ (0 < xs.length → ∃ a, A = some a ∧ V a.block ∧ RepAll V w k a 0 xs) ∧ (A = none → cap = 0)
def RepAll (V : Nat → Prop) (w : World) (k : Nat) (a : Addr) : Nat → List (List GV) → Prop
  | _, [] => True
  | j, r :: rs => (r.length = k ∧ RepRow V w a (j * k) r) ∧ RepAll V w k a (j + 1) rs
def RepRow (V : Nat → Prop) (w : World) (a : Addr) : Nat → List GV → Prop
  | _, [] => True
  | i, g :: gs => (∃ u, w.cell? (a.add i) = some u ∧ RepV V w g u) ∧ RepRow V w a (i + 1) gs
end

def RepL (V : Nat → Prop) (w : World) : List GV → List Value → Prop
  | [], [] => True
  | g :: gs, v :: vs => RepV V w g v ∧ RepL V w gs vs
  | _, _ => False

/-- What stood below V in one world stands so in another. -/
def Moved (V : Nat → Prop) (w : World) (V' : Nat → Prop) (w' : World) : Prop := ∀ k, V k → V' k ∧ w'.heap[k]? = w.heap[k]?

theorem Moved.refl (V : Nat → Prop) (w : World) : Moved V w V w := fun _ h => ⟨h, rfl⟩
theorem Moved.trans {V V' V'' : Nat → Prop} {w w' w'' : World} (h : Moved V w V' w') (k : Moved V' w' V'' w'') : Moved V w V'' w'' := fun i hi => ⟨(k i (h i hi).1).1, (k i (h i hi).1).2.trans (h i hi).2⟩

mutual
theorem RepV.move {V V' : Nat → Prop} {w w' : World} (h : Moved V w V' w') : ∀ (g : GV) (v : Value), RepV V w g v → RepV V' w' g v
  | .int _, _, hr => hr
  | .str _, _, hr => hr
  | .bool _, _, hr => hr
  | .u8 _, _, hr => hr
  | .raw _, _, hr => hr
  | .sl k xs, v, hr => by
    simp only [RepV] at hr ⊢
    obtain ⟨A, cap, hv, hc, ha⟩ := hr
    refine ⟨A, cap, hv, hc, fun h0 => ?_, ha.2⟩
    obtain ⟨a, hA, hV, hall⟩ := ha.1 h0
    exact ⟨a, hA, (h _ hV).1, RepAll.move h hV xs 0 hall⟩
theorem RepAll.move {V V' : Nat → Prop} {w w' : World} (h : Moved V w V' w') {k : Nat} {a : Addr} (ha : V a.block) : ∀ (xs : List (List GV)) (j : Nat), RepAll V w k a j xs → RepAll V' w' k a j xs
  | [], _, _ => by simp [RepAll]
  | r :: rs, j, hr => by
    simp only [RepAll] at hr ⊢
    exact ⟨⟨hr.1.1, RepRow.move h ha r _ hr.1.2⟩, RepAll.move h ha rs _ hr.2⟩
theorem RepRow.move {V V' : Nat → Prop} {w w' : World} (h : Moved V w V' w') {a : Addr} (ha : V a.block) : ∀ (gs : List GV) (i : Nat), RepRow V w a i gs → RepRow V' w' a i gs
  | [], _, _ => by simp [RepRow]
  | g :: gs, i, hr => by
    simp only [RepRow] at hr ⊢
    obtain ⟨⟨u, hu, hg⟩, hr⟩ := hr
    refine ⟨⟨u, ?_, RepV.move h g u hg⟩, RepRow.move h ha gs _ hr⟩
    rw [World.cell?_of_block (w := w) (w' := w') (a := a.add i) (by rw [add_block]; exact (h _ ha).2)]
    exact hu
end
theorem RepL.move {V V' : Nat → Prop} {w w' : World} (h : Moved V w V' w') : ∀ (gs : List GV) (vs : List Value), RepL V w gs vs → RepL V' w' gs vs
  | [], [], _ => trivial
  | [], _ :: _, hr => hr.elim
  | _ :: _, [], hr => hr.elim
  | g :: gs, v :: vs, hr => ⟨RepV.move h g v hr.1, RepL.move h gs vs hr.2⟩

theorem add_add (a : Addr) (i j : Nat) : (a.add i).add j = a.add (i + j) := by
  unfold Addr.add
  by_cases hi : i = 0 <;> by_cases hj : j = 0 <;> simp [hi, hj, Nat.add_assoc]

theorem RepL.len {V : Nat → Prop} {w : World} : ∀ {gs : List GV} {vs : List Value}, RepL V w gs vs → gs.length = vs.length
  | [], [], _ => rfl
  | [], _ :: _, h => h.elim
  | _ :: _, [], h => h.elim
  | _ :: _, _ :: _, h => by simp [RepL.len h.2]
theorem RepL.get {V : Nat → Prop} {w : World} : ∀ {gs : List GV} {vs : List Value}, RepL V w gs vs → ∀ {i : Nat} {g : GV}, gs[i]? = some g → ∃ v, vs[i]? = some v ∧ RepV V w g v
  | [], [], _, i, g, hi => by simp at hi
  | [], _ :: _, h, _, _, _ => h.elim
  | _ :: _, [], h, _, _, _ => h.elim
  | _ :: _, v :: _, h, 0, g, hi => by simp at hi; subst hi; exact ⟨v, rfl, h.1⟩
  | _ :: _, _ :: _, h, i + 1, g, hi => by
    obtain ⟨v, h1, h2⟩ := RepL.get h.2 (i := i) (g := g) (by simpa using hi)
    exact ⟨v, by simpa using h1, h2⟩
theorem RepL.getv {V : Nat → Prop} {w : World} {gs : List GV} {vs : List Value} (h : RepL V w gs vs) {i : Nat} {v : Value} (hi : vs[i]? = some v) : ∃ g, gs[i]? = some g ∧ RepV V w g v := by
  have hl : i < gs.length := by rw [h.len]; exact (List.getElem?_eq_some_iff.1 hi).1
  obtain ⟨v', h1, h2⟩ := h.get (List.getElem?_eq_getElem hl)
  rw [hi] at h1
  injection h1 with h1
  subst h1
  exact ⟨_, List.getElem?_eq_getElem hl, h2⟩
theorem RepL.append {V : Nat → Prop} {w : World} : ∀ {gs hs : List GV} {vs us : List Value}, RepL V w gs vs → RepL V w hs us → RepL V w (gs ++ hs) (vs ++ us)
  | [], _, [], _, _, k => k
  | [], _, _ :: _, _, h, _ => h.elim
  | _ :: _, _, [], _, h, _ => h.elim
  | _ :: _, _, _ :: _, _, h, k => ⟨h.1, RepL.append h.2 k⟩
theorem RepL.take {V : Nat → Prop} {w : World} : ∀ {gs : List GV} {vs : List Value} (n : Nat), RepL V w gs vs → RepL V w (gs.take n) (vs.take n)
  | [], [], n, _ => by simp [RepL]
  | [], _ :: _, _, h => h.elim
  | _ :: _, [], _, h => h.elim
  | _ :: _, _ :: _, 0, _ => by simp [RepL]
  | _ :: _, _ :: _, n + 1, h => by simp only [List.take_succ_cons]; exact ⟨h.1, RepL.take n h.2⟩
theorem RepL.drop {V : Nat → Prop} {w : World} : ∀ {gs : List GV} {vs : List Value} (n : Nat), RepL V w gs vs → RepL V w (gs.drop n) (vs.drop n)
  | [], [], n, _ => by simp [RepL]
  | [], _ :: _, _, h => h.elim
  | _ :: _, [], _, h => h.elim
  | _ :: _, _ :: _, 0, h => h
  | _ :: _, _ :: _, n + 1, h => by simp only [List.drop_succ_cons]; exact RepL.drop n h.2

theorem RepAll.get {V : Nat → Prop} {w : World} {k : Nat} {a : Addr} : ∀ (xs : List (List GV)) (j0 j : Nat) (r : List GV), RepAll V w k a j0 xs → xs[j]? = some r → r.length = k ∧ RepRow V w a ((j0 + j) * k) r
  | [], _, j, r, _, hj => by simp at hj
  | x :: xs, j0, 0, r, h, hj => by
    simp only [RepAll] at h
    simp at hj
    subst hj
    exact h.1
  | x :: xs, j0, j + 1, r, h, hj => by
    simp only [RepAll] at h
    have := RepAll.get xs (j0 + 1) j r h.2 (by simpa using hj)
    rwa [show j0 + 1 + j = j0 + (j + 1) from by omega] at this

theorem RepRow.cells {V : Nat → Prop} {w : World} {a : Addr} : ∀ (gs : List GV) (i : Nat), RepRow V w a i gs → ∃ vs, RepL V w gs vs ∧ vs.length = gs.length ∧ ∀ j v, vs[j]? = some v → w.cell? (a.add (i + j)) = some v
  | [], _, _ => ⟨[], trivial, rfl, fun j v h => by simp at h⟩
  | g :: gs, i, h => by
    simp only [RepRow] at h
    obtain ⟨⟨u, hu, hg⟩, hr⟩ := h
    obtain ⟨vs, h1, h2, h3⟩ := RepRow.cells gs (i + 1) hr
    refine ⟨u :: vs, ⟨hg, h1⟩, by simp [h2], fun j v hj => ?_⟩
    cases j with
    | zero => simp at hj; subst hj; exact hu
    | succ j =>
      have := h3 j v (by simpa using hj)
      rwa [show i + 1 + j = i + (j + 1) from by omega] at this
theorem RepRow.of_cells {V : Nat → Prop} {w : World} {a : Addr} : ∀ (gs : List GV) (vs : List Value) (i : Nat), RepL V w gs vs → (∀ j v, vs[j]? = some v → w.cell? (a.add (i + j)) = some v) → RepRow V w a i gs
  | [], [], _, _, _ => by simp [RepRow]
  | [], _ :: _, _, h, _ => h.elim
  | _ :: _, [], _, h, _ => h.elim
  | g :: gs, v :: vs, i, h, hc => by
    simp only [RepRow]
    refine ⟨⟨v, by simpa using hc 0 v rfl, h.1⟩, RepRow.of_cells gs vs (i + 1) h.2 (fun j u hj => ?_)⟩
    have := hc (j + 1) u (by simpa using hj)
    rwa [show i + (j + 1) = i + 1 + j from by omega] at this
theorem RepRow.shift {V : Nat → Prop} {w : World} {a : Addr} : ∀ (gs : List GV) (i o : Nat), RepRow V w a (i + o) gs ↔ RepRow V w (a.add o) i gs
  | [], _, _ => by simp [RepRow]
  | g :: gs, i, o => by
    simp only [RepRow]
    rw [add_add, Nat.add_comm o i, show i + o + 1 = i + 1 + o from by omega, RepRow.shift gs (i + 1) o]

/-- A list of rows out of the cells of all of them. -/
theorem RepAll.of_flat {V : Nat → Prop} {w : World} {k : Nat} {a : Addr} : ∀ (xs : List (List GV)) (vs : List Value) (j : Nat), (∀ r ∈ xs, r.length = k) → RepL V w xs.flatten vs → (∀ i v, vs[i]? = some v → w.cell? (a.add (j * k + i)) = some v) → RepAll V w k a j xs
  | [], _, _, _, _, _ => by simp [RepAll]
  | r :: xs, vs, j, hk, h, hc => by
    have hr := hk r List.mem_cons_self
    simp only [List.flatten_cons] at h
    have h1 : RepL V w r (vs.take k) := by
      have := h.take k
      rwa [List.take_append_of_le_length (by omega), List.take_of_length_le (by omega)] at this
    have h2 : RepL V w xs.flatten (vs.drop k) := by
      have := h.drop k
      rwa [List.drop_append_of_le_length (by omega), List.drop_of_length_le (by omega), List.nil_append] at this
    simp only [RepAll]
    refine ⟨⟨hr, RepRow.of_cells r _ _ h1 (fun i v hi => hc i v ?_)⟩, RepAll.of_flat xs (vs.drop k) (j + 1) (fun r hr => hk r (List.mem_cons_of_mem _ hr)) h2 (fun i v hi => ?_)⟩
    · have hil : i < k := by have := (List.getElem?_eq_some_iff.1 hi).1; simp at this; omega
      rwa [List.getElem?_take_of_lt hil] at hi
    · rw [List.getElem?_drop] at hi
      have := hc (k + i) v hi
      rwa [show j * k + (k + i) = (j + 1) * k + i from by rw [Nat.succ_mul]; omega] at this
/-- The cells of all rows. -/
theorem RepAll.flat {V : Nat → Prop} {w : World} {k : Nat} {a : Addr} : ∀ (xs : List (List GV)) (j : Nat), RepAll V w k a j xs → ∃ vs, RepL V w xs.flatten vs ∧ vs.length = xs.length * k ∧ (∀ r ∈ xs, r.length = k) ∧ ∀ i v, vs[i]? = some v → w.cell? (a.add (j * k + i)) = some v
  | [], _, _ => ⟨[], trivial, by simp, fun r h => by simp at h, fun i v h => by simp at h⟩
  | r :: xs, j, h => by
    simp only [RepAll] at h
    obtain ⟨vs, h1, h2, h3, h4⟩ := RepAll.flat xs (j + 1) h.2
    obtain ⟨us, g1, g2, g3⟩ := RepRow.cells r _ h.1.2
    have hr := h.1.1
    refine ⟨us ++ vs, by simp only [List.flatten_cons]; exact g1.append h1, by simp [h2, g2, hr, Nat.succ_mul]; omega, fun r' hr' => ?_, fun i v hi => ?_⟩
    · rcases List.mem_cons.1 hr' with rfl | hr'
      · exact hr
      · exact h3 r' hr'
    · by_cases hl : i < us.length
      · rw [List.getElem?_append_left hl] at hi; exact g3 i v hi
      · rw [List.getElem?_append_right (by omega)] at hi
        have := h4 (i - us.length) v hi
        rwa [show (j + 1) * k + (i - us.length) = j * k + i from by rw [Nat.succ_mul]; omega] at this

/-- A list is known by its cells: what is behind a slice's value. -/
theorem RepV.sl_of {V : Nat → Prop} {w : World} {k : Nat} {xs : List (List GV)} {a : Addr} {cap : Nat} (hc : xs.length ≤ cap) (h : 0 < xs.length → V a.block ∧ RepAll V w k a 0 xs) : RepV V w (.sl k xs) (.slice (some a) xs.length cap) := by
  simp only [RepV]
  exact ⟨some a, cap, rfl, hc, fun h0 => ⟨a, rfl, h h0⟩, fun e => (by cases e)⟩
theorem RepV.sl_nil {V : Nat → Prop} {w : World} (k : Nat) : RepV V w (.sl k []) (.slice none 0 0) := by
  simp only [RepV]
  exact ⟨none, 0, rfl, Nat.le_refl _, fun h => absurd h (by simp), fun _ => rfl⟩
theorem RepAll.drop {V : Nat → Prop} {w : World} {k : Nat} {a : Addr} : ∀ (xs : List (List GV)) (j l : Nat), RepAll V w k a j xs → RepAll V w k a (j + l) (xs.drop l)
  | [], _, _, _ => by simp [RepAll]
  | _ :: _, _, 0, h => h
  | r :: xs, j, l + 1, h => by
    simp only [RepAll] at h
    have := RepAll.drop xs (j + 1) l h.2
    rw [show j + 1 + l = j + (l + 1) from by omega] at this
    simpa using this
theorem RepAll.take {V : Nat → Prop} {w : World} {k : Nat} {a : Addr} : ∀ (xs : List (List GV)) (j l : Nat), RepAll V w k a j xs → RepAll V w k a j (xs.take l)
  | [], _, _, _ => by simp [RepAll]
  | _ :: _, _, 0, _ => by simp [RepAll]
  | r :: xs, j, l + 1, h => by
    simp only [RepAll, List.take_succ_cons] at h ⊢
    exact ⟨h.1, RepAll.take xs (j + 1) l h.2⟩
theorem RepAll.shift {V : Nat → Prop} {w : World} {k : Nat} {a : Addr} : ∀ (xs : List (List GV)) (j o : Nat), RepAll V w k a (j + o) xs ↔ RepAll V w k (a.add (o * k)) j xs
  | [], _, _ => by simp [RepAll]
  | r :: xs, j, o => by
    simp only [RepAll]
    rw [show (j + o) * k = j * k + o * k from by rw [Nat.add_mul], RepRow.shift, show j + o + 1 = j + 1 + o from by omega, RepAll.shift xs (j + 1) o]
/-- A piece of a list. -/
theorem RepV.piece {V : Nat → Prop} {w : World} {k : Nat} {xs : List (List GV)} {A : Option Addr} {n cap : Nat} (h : RepV V w (.sl k xs) (.slice A n cap)) {l hh : Nat} (h1 : l ≤ hh) (h2 : hh ≤ xs.length) :
    RepV V w (.sl k ((xs.take hh).drop l)) (.slice (if cap = l then A else A.map (·.add (l * k))) (hh - l) (cap - l)) := by
  simp only [RepV] at h ⊢
  obtain ⟨A', cap', hv, hc, ha⟩ := h
  injection hv with e1 e2 e3
  subst e1; subst e2; subst e3
  have hlen : ((xs.take hh).drop l).length = hh - l := by simp; omega
  refine ⟨_, cap - l, by rw [hlen], by rw [hlen]; omega, fun h0 => ?_, fun e => ?_⟩
  rotate_left
  · by_cases hcl : cap = l
    · omega
    · rw [if_neg hcl] at e
      have := ha.2 (by simpa using e)
      omega
  rw [hlen] at h0
  have hcl : cap ≠ l := by omega
  obtain ⟨a, rfl, hV, hall⟩ := ha.1 (by omega)
  refine ⟨a.add (l * k), by rw [if_neg hcl]; rfl, by rw [add_block]; exact hV, ?_⟩
  have := ((hall.take xs 0 hh).drop _ 0 l)
  exact (RepAll.shift _ 0 l).1 this

/-- Abstract values of slots and cells. -/
inductive D where
  | g (x : GV)
  | pb (p : Prop)
  | pn (p : Prop)
  | nils
  | row (i : Nat)
  | rs (i lo n : Nat)
  | ptr (i off : Nat)
  | el (i j off : Nat)
  | fp (r : List GV) (off : Nat)
  | nilP
  | nilF
  | nilI
  | fn (f : FuncId) (fs cs : List D)
  | iface (t : TypeId) (x : D)
  | agg (cs : List D)
  | tuple (vs : List D)
  | any

/-- Objects that are known by their values, laid away. -/
inductive Ob0 where
  | row (xs : List (List GV)) (e : TypeId) (sz : Nat)
  | blk (cs : List GV) (t : TypeId)
/-- An object of memory of one's own: a block of cells; a row that may grow; many of them, laid away, and names of others that stand here; one that is given away. -/
inductive Obj where
  | blk (cs : List D) (t : TypeId)
  | row (xs : List (List GV)) (e : TypeId) (sz : Nat)
  | many (l : List (Value × Ob0)) (ts : List (Value × Nat))
  | dead
abbrev Heap := List Obj
def Obj.live : Obj → Bool
  | .dead => false
  | _ => true

def bk : Value → Option Nat
  | .pointer (some a) => some a.block
  | .slice (some a) _ _ => some a.block
  | _ => none
/-- The blocks of an object. -/
def Bk : Obj → Value → Nat → Prop
  | .many l _, _, k => ∃ p ∈ l, bk p.1 = some k
  | .blk _ _, v, k => bk v = some k
  | .row _ _ _, v, k => bk v = some k
  | .dead, v, k => bk v = some k

def SubS (u : Value) (lo n sz : Nat) (v : Value) : Prop := ∃ A m cap, u = .slice A m cap ∧ v = .slice (if cap = lo then A else A.map (·.add (lo * sz))) n (cap - lo)

mutual
def RepD (h : Heap) (β : Nat → Value) (V : Nat → Prop) (w : World) : D → Value → Prop
  | .g x, v => RepV V w x v
  | .pb p, v => ∃ b, v = .bool b ∧ (b = true ↔ p)
  | .pn p, v => ∃ b, v = .bool b ∧ (b = true ↔ ¬p)
  | .nils, v => v = .slice none 0 0
  | .row i, v => match h[i]? with
    | some (.row _ _ _) => v = β i
    | some .dead => True
    | _ => False
  | .rs i lo n, v => match h[i]? with
    | some (.row xs _ sz) => lo + n ≤ xs.length ∧ SubS (β i) lo n sz v
    | some (.blk _ _) => ∃ g c, β i = .pointer (some ⟨g, 0, none⟩) ∧ v = .slice (some ⟨g, lo, none⟩) n c
    | some .dead => True
    | _ => False
  | .ptr i off, v => match h[i]? with
    | some (.blk _ _) => ∃ g, β i = .pointer (some ⟨g, 0, none⟩) ∧ v = .pointer (some ⟨g, off, none⟩)
    | some .dead => True
    | _ => False
  | .el i j off, v => match h[i]? with
    | some (.row xs _ sz) => j < xs.length ∧ ∃ g n c, β i = .slice (some ⟨g, 0, none⟩) n c ∧ v = .pointer (some ⟨g, j * sz + off, none⟩)
    | some .dead => True
    | _ => False
  | .fp r off, v => ∃ a, v = .pointer (some (a.add off)) ∧ V a.block ∧ RepRow V w a 0 r
  | .nilP, v => v = .pointer none
  | .nilF, v => v = .nilFunc
  | .nilI, v => v = .nilIface
  | .fn f fs cs, v => ∃ us ts, v = .func (.func f) ⟨us⟩ ⟨ts⟩ ∧ RepDL h β V w fs us ∧ RepDL h β V w cs ts
  | .iface t x, v => ∃ u, v = .iface t u ∧ RepD h β V w x u
  | .agg cs, v => ∃ us, v = .agg ⟨us⟩ ∧ RepDL h β V w cs us
  | .tuple vs, v => ∃ us, v = .tuple ⟨us⟩ ∧ RepDL h β V w vs us
  | .any, _ => True
def RepDL (h : Heap) (β : Nat → Value) (V : Nat → Prop) (w : World) : List D → List Value → Prop
  | [], vs => vs = []
  | d :: ds, vs => ∃ v us, vs = v :: us ∧ RepD h β V w d v ∧ RepDL h β V w ds us
end

def Ob0Ok (V : Nat → Prop) (w : World) (v : Value) : Ob0 → Prop
  | .blk cs t => ∃ g vs, v = .pointer (some ⟨g, 0, none⟩) ∧ w.heap[g]? = some (.cells ⟨vs⟩ t (0, 0)) ∧ RepL V w cs vs
  | .row xs e sz => ∃ vs, w.ownsRow 0 e sz v xs.length vs ∧ RepL V w xs.flatten vs ∧ (∀ r ∈ xs, r.length = sz) ∧ 0 < sz
/-- A name is that of an object. -/
def TagOk (h : Heap) (β : Nat → Value) (t : Value × Nat) : Prop := ∃ o, h[t.2]? = some o ∧ (o.live = true → β t.2 = t.1)
def Apart (p q : Value × Ob0) : Prop := ∀ k, bk p.1 = some k → bk q.1 ≠ some k
/-- An object stands in a world. -/
def ObjOk (h : Heap) (β : Nat → Value) (V : Nat → Prop) (w : World) (i : Nat) : Obj → Prop
  | .blk cs t => ∃ g vs, β i = .pointer (some ⟨g, 0, none⟩) ∧ w.heap[g]? = some (.cells ⟨vs⟩ t (0, 0)) ∧ RepDL h β V w cs vs
  | .row xs e sz => ∃ vs, w.ownsRow 0 e sz (β i) xs.length vs ∧ RepL V w xs.flatten vs ∧ (∀ r ∈ xs, r.length = sz) ∧ 0 < sz
  | .many l ts => (∀ p ∈ l, Ob0Ok V w p.1 p.2) ∧ l.Pairwise Apart ∧ ∀ t ∈ ts, TagOk h β t
  | .dead => True

/-- Tables at package level that no one turns: the block, and its cells. -/
abbrev Gl := List (Nat × List GV)
def GlOk (G : Gl) (V : Nat → Prop) (w : World) : Prop := ∀ p ∈ G, V p.1 ∧ RepRow V w ⟨p.1, 0, none⟩ 0 p.2
theorem GlOk.move {G : Gl} {V V' : Nat → Prop} {w w' : World} (h : GlOk G V w) (hm : Moved V w V' w') : GlOk G V' w' := fun p hp => ⟨(hm _ (h p hp).1).1, RepRow.move hm (h p hp).1 _ _ (h p hp).2⟩

structure Ctx where
  w0 : World
  own : Nat → Prop
  V0 : Nat → Prop
  G : Gl

structure RelD (C : Ctx) (h : Heap) (β : Nat → Value) (V : Nat → Prop) (w : World) : Prop where
  obj : ∀ (i : Nat) (o : Obj), h[i]? = some o → ObjOk h β V w i o
  sep : ∀ (i j : Nat) (o o' : Obj) (k : Nat), h[i]? = some o → o.live = true → h[j]? = some o' → o'.live = true → Bk o (β i) k → Bk o' (β j) k → i = j
  mine : ∀ (i : Nat) (o : Obj) (k : Nat), h[i]? = some o → o.live = true → Bk o (β i) k → C.w0.heap.size ≤ k ∨ C.own k
  vout : ∀ (i : Nat) (o : Obj) (k : Nat), h[i]? = some o → o.live = true → Bk o (β i) k → ¬ V k
  vlt : ∀ k, V k → k < w.heap.size
  vin : ∀ k, C.V0 k → V k
  vnew : ∀ k, V k → C.V0 k ∨ C.w0.heap.size ≤ k ∨ C.own k
  fr : Fr C.own C.w0 w
  gl : GlOk C.G V w

/-- One memory goes on as another: what lives there lives here as it was. -/
def OLe : Obj → Obj → Prop
  | _, .dead => True
  | .blk _ _, .blk _ _ => True
  | .row xs _ sz, .row ys _ sz' => xs.length = ys.length ∧ sz = sz'
  | .many _ _, .many _ _ => True
  | _, _ => False
theorem OLe.refl (o : Obj) : OLe o o := by cases o <;> simp [OLe]
def LeH (h : Heap) (β : Nat → Value) (h' : Heap) (β' : Nat → Value) : Prop := ∀ (i : Nat) (o : Obj), h[i]? = some o → ∃ o', h'[i]? = some o' ∧ OLe o o' ∧ (o'.live = true → β' i = β i)
theorem LeH.refl (h : Heap) (β : Nat → Value) : LeH h β h β := fun _ o ho => ⟨o, ho, OLe.refl o, fun _ => rfl⟩

section
variable {h h' : Heap} {β β' : Nat → Value} {V V' : Nat → Prop} {w w' : World}
mutual
theorem RepD.mono (hl : LeH h β h' β') (hm : Moved V w V' w') : ∀ (d : D) (v : Value), RepD h β V w d v → RepD h' β' V' w' d v
  | .g x, v, hr => by simp only [RepD] at hr ⊢; exact RepV.move hm x v hr
  | .pb p, v, hr => by simp only [RepD] at hr ⊢; exact hr
  | .pn p, v, hr => by simp only [RepD] at hr ⊢; exact hr
  | .nils, v, hr => by simp only [RepD] at hr ⊢; exact hr
  | .row i, v, hr => by
    simp only [RepD] at hr ⊢
    cases ho : h[i]? with
    | none => rw [ho] at hr; exact hr.elim
    | some o =>
      obtain ⟨o', ho', hle, hb⟩ := hl i o ho
      rw [ho] at hr
      rw [ho']
      cases o <;> cases o' <;> simp_all [OLe, Obj.live]
  | .rs i lo n, v, hr => by
    simp only [RepD] at hr ⊢
    cases ho : h[i]? with
    | none => rw [ho] at hr; exact hr.elim
    | some o =>
      obtain ⟨o', ho', hle, hb⟩ := hl i o ho
      rw [ho] at hr
      rw [ho']
      cases o <;> cases o' <;> simp_all [OLe, Obj.live]
  | .ptr i off, v, hr => by
    simp only [RepD] at hr ⊢
    cases ho : h[i]? with
    | none => rw [ho] at hr; exact hr.elim
    | some o =>
      obtain ⟨o', ho', hle, hb⟩ := hl i o ho
      rw [ho] at hr
      rw [ho']
      cases o <;> cases o' <;> simp_all [OLe, Obj.live]
  | .el i j off, v, hr => by
    simp only [RepD] at hr ⊢
    cases ho : h[i]? with
    | none => rw [ho] at hr; exact hr.elim
    | some o =>
      obtain ⟨o', ho', hle, hb⟩ := hl i o ho
      rw [ho] at hr
      rw [ho']
      cases o <;> cases o' <;> simp_all [OLe, Obj.live]
  | .fp r off, v, hr => by
    simp only [RepD] at hr ⊢
    obtain ⟨a, hv, hV, hrow⟩ := hr
    exact ⟨a, hv, (hm _ hV).1, RepRow.move hm hV r 0 hrow⟩
  | .nilP, v, hr => by simp only [RepD] at hr ⊢; exact hr
  | .nilF, v, hr => by simp only [RepD] at hr ⊢; exact hr
  | .nilI, v, hr => by simp only [RepD] at hr ⊢; exact hr
  | .fn f fs cs, v, hr => by
    simp only [RepD] at hr ⊢
    obtain ⟨us, ts, hv, h1, h2⟩ := hr
    exact ⟨us, ts, hv, RepDL.mono hl hm fs us h1, RepDL.mono hl hm cs ts h2⟩
  | .iface t x, v, hr => by
    simp only [RepD] at hr ⊢
    obtain ⟨u, hv, h1⟩ := hr
    exact ⟨u, hv, RepD.mono hl hm x u h1⟩
  | .agg cs, v, hr => by
    simp only [RepD] at hr ⊢
    obtain ⟨us, hv, h1⟩ := hr
    exact ⟨us, hv, RepDL.mono hl hm cs us h1⟩
  | .tuple cs, v, hr => by
    simp only [RepD] at hr ⊢
    obtain ⟨us, hv, h1⟩ := hr
    exact ⟨us, hv, RepDL.mono hl hm cs us h1⟩
  | .any, v, hr => by simp only [RepD]
theorem RepDL.mono (hl : LeH h β h' β') (hm : Moved V w V' w') : ∀ (ds : List D) (vs : List Value), RepDL h β V w ds vs → RepDL h' β' V' w' ds vs
  | [], vs, hr => by simp only [RepDL] at hr ⊢; exact hr
  | d :: ds, vs, hr => by
    simp only [RepDL] at hr ⊢
    obtain ⟨v, us, hv, h1, h2⟩ := hr
    exact ⟨v, us, hv, RepD.mono hl hm d v h1, RepDL.mono hl hm ds us h2⟩
end
end

theorem RepDL.len {h : Heap} {β : Nat → Value} {V : Nat → Prop} {w : World} : ∀ {ds : List D} {vs : List Value}, RepDL h β V w ds vs → ds.length = vs.length
  | [], vs, hr => by simp only [RepDL] at hr; subst hr; rfl
  | d :: ds, vs, hr => by
    simp only [RepDL] at hr
    obtain ⟨v, us, rfl, h1, h2⟩ := hr
    simp [RepDL.len h2]
theorem RepDL.get {h : Heap} {β : Nat → Value} {V : Nat → Prop} {w : World} : ∀ {ds : List D} {vs : List Value}, RepDL h β V w ds vs → ∀ {i : Nat} {d : D}, ds[i]? = some d → ∃ v, vs[i]? = some v ∧ RepD h β V w d v
  | [], vs, hr, i, d, hi => by simp at hi
  | d :: ds, vs, hr, i, d', hi => by
    simp only [RepDL] at hr
    obtain ⟨v, us, rfl, h1, h2⟩ := hr
    cases i with
    | zero => simp at hi; subst hi; exact ⟨v, rfl, h1⟩
    | succ i =>
      obtain ⟨v', h3, h4⟩ := RepDL.get h2 (i := i) (d := d') (by simpa using hi)
      exact ⟨v', by simpa using h3, h4⟩
theorem RepDL.append {h : Heap} {β : Nat → Value} {V : Nat → Prop} {w : World} : ∀ {ds es : List D} {vs us : List Value}, RepDL h β V w ds vs → RepDL h β V w es us → RepDL h β V w (ds ++ es) (vs ++ us)
  | [], _, vs, us, hr, k => by simp only [RepDL] at hr; subst hr; exact k
  | d :: ds, es, vs, us, hr, k => by
    simp only [RepDL] at hr
    obtain ⟨v, us', rfl, h1, h2⟩ := hr
    simp only [List.cons_append, RepDL]
    exact ⟨v, _, rfl, h1, RepDL.append h2 k⟩
theorem RepDL.take {h : Heap} {β : Nat → Value} {V : Nat → Prop} {w : World} : ∀ {ds : List D} {vs : List Value} (n : Nat), RepDL h β V w ds vs → RepDL h β V w (ds.take n) (vs.take n)
  | [], vs, n, hr => by simp only [RepDL] at hr; subst hr; simp [RepDL]
  | d :: ds, vs, 0, hr => by simp [RepDL]
  | d :: ds, vs, n + 1, hr => by
    simp only [RepDL] at hr
    obtain ⟨v, us, rfl, h1, h2⟩ := hr
    simp only [List.take_succ_cons, RepDL]
    exact ⟨v, _, rfl, h1, RepDL.take n h2⟩
theorem RepDL.drop {h : Heap} {β : Nat → Value} {V : Nat → Prop} {w : World} : ∀ {ds : List D} {vs : List Value} (n : Nat), RepDL h β V w ds vs → RepDL h β V w (ds.drop n) (vs.drop n)
  | [], vs, n, hr => by simp only [RepDL] at hr; subst hr; simp [RepDL]
  | d :: ds, vs, 0, hr => hr
  | d :: ds, vs, n + 1, hr => by
    simp only [RepDL] at hr
    obtain ⟨v, us, rfl, h1, h2⟩ := hr
    simp only [List.drop_succ_cons]
    exact RepDL.drop n h2
theorem RepDL.set {h : Heap} {β : Nat → Value} {V : Nat → Prop} {w : World} : ∀ {ds : List D} {vs : List Value} (i : Nat) {d : D} {v : Value}, RepDL h β V w ds vs → RepD h β V w d v → RepDL h β V w (ds.set i d) (vs.set i v)
  | [], vs, i, d, v, hr, _ => by simp only [RepDL] at hr; subst hr; simp [RepDL]
  | d0 :: ds, vs, 0, d, v, hr, hd => by
    simp only [RepDL] at hr
    obtain ⟨v0, us, rfl, h1, h2⟩ := hr
    simp only [List.set_cons_zero, RepDL]
    exact ⟨v, us, rfl, hd, h2⟩
  | d0 :: ds, vs, i + 1, d, v, hr, hd => by
    simp only [RepDL] at hr
    obtain ⟨v0, us, rfl, h1, h2⟩ := hr
    simp only [List.set_cons_succ, RepDL]
    exact ⟨v0, _, rfl, h1, RepDL.set i h2 hd⟩
theorem RepL.set {V : Nat → Prop} {w : World} : ∀ {ds : List GV} {vs : List Value} (i : Nat) {d : GV} {v : Value}, RepL V w ds vs → RepV V w d v → RepL V w (ds.set i d) (vs.set i v)
  | [], [], i, d, v, _, _ => by simp [RepL]
  | [], _ :: _, _, _, _, h, _ => h.elim
  | _ :: _, [], _, _, _, h, _ => h.elim
  | d0 :: ds, _ :: _, 0, d, v, hr, hd => ⟨hd, hr.2⟩
  | d0 :: ds, _ :: _, i + 1, d, v, hr, hd => ⟨hr.1, RepL.set i hr.2 hd⟩
theorem RepDL_g {h : Heap} {β : Nat → Value} {V : Nat → Prop} {w : World} : ∀ (gs : List GV) (vs : List Value), RepDL h β V w (gs.map .g) vs ↔ RepL V w gs vs
  | [], [] => by simp [RepDL, RepL]
  | [], _ :: _ => by simp [RepDL, RepL]
  | g :: gs, [] => by simp [RepDL, RepL]
  | g :: gs, v :: vs => by
    simp only [List.map_cons, RepDL, RepL]
    constructor
    · rintro ⟨v', us, e, h1, h2⟩
      injection e with e1 e2
      subst e1; subst e2
      simp only [RepD] at h1
      exact ⟨h1, (RepDL_g gs _).1 h2⟩
    · rintro ⟨h1, h2⟩
      exact ⟨v, vs, rfl, by simp only [RepD]; exact h1, (RepDL_g gs vs).2 h2⟩
end Go.Dm
