/-
  Data in memory: what it is for values to stand for data (integers, texts, bools, lists of rows of such), how that stays, and how it is read. It holds of every program.
-/
import Derived.Test.YtbgabnnlmebhpaaEng10
namespace Go.Eng
open Go.RowKit

/-- Data: an integer, a text, a bool, a list of rows of k cells each. -/
inductive GV where
  | int (n : Int)
  | str (l : List UInt8)
  | bool (b : Bool)
  | sl (k : Nat) (xs : List (List GV))

mutual
/-- A value stands for a datum, in a world, its memory in blocks of V. -/
def RepV (V : Nat → Prop) (w : World) : GV → Value → Prop
  | .int n, v => v = .int .i64 n
  | .str l, v => v = .string ⟨⟨l⟩⟩
  | .bool b, v => v = .bool b
  | .sl k xs, v => ∃ A cap, v = .slice A xs.length cap ∧ xs.length ≤ cap ∧ (0 < xs.length → ∃ a, A = some a ∧ V a.block ∧ RepAll V w k a 0 xs)
def RepAll (V : Nat → Prop) (w : World) (k : Nat) (a : Addr) : Nat → List (List GV) → Prop
  | _, [] => True
  | j, r :: rs => (r.length = k ∧ RepRow V w a (j * k) r) ∧ RepAll V w k a (j + 1) rs
def RepRow (V : Nat → Prop) (w : World) (a : Addr) : Nat → List GV → Prop
  | _, [] => True
  | i, g :: gs => (∃ u, w.cell? (a.add i) = some u ∧ RepV V w g u) ∧ RepRow V w a (i + 1) gs
end

def RepL (V : Nat → Prop) (w : World) : List GV → List Value → Prop
  | [], [] => True
  | g :: gs, v :: vs => RepV V w g v ∧ RepL V w gs vs
  | _, _ => False

/-- What stood below V in one world stands so in another. -/
def Moved (V : Nat → Prop) (w : World) (V' : Nat → Prop) (w' : World) : Prop := ∀ k, V k → V' k ∧ w'.heap[k]? = w.heap[k]?

theorem Moved.refl (V : Nat → Prop) (w : World) : Moved V w V w := fun _ h => ⟨h, rfl⟩
theorem Moved.trans {V V' V'' : Nat → Prop} {w w' w'' : World} (h : Moved V w V' w') (k : Moved V' w' V'' w'') : Moved V w V'' w'' := fun i hi => ⟨(k i (h i hi).1).1, (k i (h i hi).1).2.trans (h i hi).2⟩

mutual
theorem RepV.move {V V' : Nat → Prop} {w w' : World} (h : Moved V w V' w') : ∀ (g : GV) (v : Value), RepV V w g v → RepV V' w' g v
  | .int _, _, hr => hr
  | .str _, _, hr => hr
  | .bool _, _, hr => hr
  | .sl k xs, v, hr => by
    simp only [RepV] at hr ⊢
    obtain ⟨A, cap, hv, hc, ha⟩ := hr
    refine ⟨A, cap, hv, hc, fun h0 => ?_⟩
    obtain ⟨a, hA, hV, hall⟩ := ha h0
    exact ⟨a, hA, (h _ hV).1, RepAll.move h hV xs 0 hall⟩
theorem RepAll.move {V V' : Nat → Prop} {w w' : World} (h : Moved V w V' w') {k : Nat} {a : Addr} (ha : V a.block) : ∀ (xs : List (List GV)) (j : Nat), RepAll V w k a j xs → RepAll V' w' k a j xs
  | [], _, _ => by simp [RepAll]
  | r :: rs, j, hr => by
    simp only [RepAll] at hr ⊢
    exact ⟨⟨hr.1.1, RepRow.move h ha r _ hr.1.2⟩, RepAll.move h ha rs _ hr.2⟩
theorem RepRow.move {V V' : Nat → Prop} {w w' : World} (h : Moved V w V' w') {a : Addr} (ha : V a.block) : ∀ (gs : List GV) (i : Nat), RepRow V w a i gs → RepRow V' w' a i gs
  | [], _, _ => by simp [RepRow]
  | g :: gs, i, hr => by
    simp only [RepRow] at hr ⊢
    obtain ⟨⟨u, hu, hg⟩, hr⟩ := hr
    refine ⟨⟨u, ?_, RepV.move h g u hg⟩, RepRow.move h ha gs _ hr⟩
    rw [World.cell?_of_block (w := w) (w' := w') (a := a.add i) (by rw [add_block]; exact (h _ ha).2)]
    exact hu
end
theorem RepL.move {V V' : Nat → Prop} {w w' : World} (h : Moved V w V' w') : ∀ (gs : List GV) (vs : List Value), RepL V w gs vs → RepL V' w' gs vs
  | [], [], _ => trivial
  | [], _ :: _, hr => hr.elim
  | _ :: _, [], hr => hr.elim
  | g :: gs, v :: vs, hr => ⟨RepV.move h g v hr.1, RepL.move h gs vs hr.2⟩

theorem add_add (a : Addr) (i j : Nat) : (a.add i).add j = a.add (i + j) := by
  unfold Addr.add
  by_cases hi : i = 0 <;> by_cases hj : j = 0 <;> simp [hi, hj, Nat.add_assoc]

theorem RepAll.get {V : Nat → Prop} {w : World} {k : Nat} {a : Addr} : ∀ (xs : List (List GV)) (j0 j : Nat) (r : List GV), RepAll V w k a j0 xs → xs[j]? = some r → r.length = k ∧ RepRow V w a ((j0 + j) * k) r
  | [], _, j, r, _, hj => by simp at hj
  | x :: xs, j0, 0, r, h, hj => by
    simp only [RepAll] at h
    simp at hj
    subst hj
    exact h.1
  | x :: xs, j0, j + 1, r, h, hj => by
    simp only [RepAll] at h
    have := RepAll.get xs (j0 + 1) j r h.2 (by simpa using hj)
    rwa [show j0 + 1 + j = j0 + (j + 1) from by omega] at this

theorem RepRow.cells {V : Nat → Prop} {w : World} {a : Addr} : ∀ (gs : List GV) (i : Nat), RepRow V w a i gs → ∃ vs, RepL V w gs vs ∧ vs.length = gs.length ∧ ∀ j v, vs[j]? = some v → w.cell? (a.add (i + j)) = some v
  | [], _, _ => ⟨[], trivial, rfl, fun j v h => by simp at h⟩
  | g :: gs, i, h => by
    simp only [RepRow] at h
    obtain ⟨⟨u, hu, hg⟩, hr⟩ := h
    obtain ⟨vs, h1, h2, h3⟩ := RepRow.cells gs (i + 1) hr
    refine ⟨u :: vs, ⟨hg, h1⟩, by simp [h2], fun j v hj => ?_⟩
    cases j with
    | zero => simp at hj; subst hj; exact hu
    | succ j =>
      have := h3 j v (by simpa using hj)
      rwa [show i + 1 + j = i + (j + 1) from by omega] at this

/-- The row of a list, read from its place in memory. -/
theorem RepV.row {V : Nat → Prop} {w : World} {k : Nat} {xs : List (List GV)} {v : Value} (h : RepV V w (.sl k xs) v) {j : Nat} {r : List GV} (hj : xs[j]? = some r) :
    ∃ a cap vs, v = .slice (some a) xs.length cap ∧ xs.length ≤ cap ∧ V a.block ∧ RepL V w r vs ∧ vs.length = k ∧ ∀ i u, vs[i]? = some u → w.cell? ((a.add (j * k)).add i) = some u := by
  simp only [RepV] at h
  obtain ⟨A, cap, hv, hc, ha⟩ := h
  have hl : j < xs.length := (List.getElem?_eq_some_iff.1 hj).1
  obtain ⟨a, rfl, hV, hall⟩ := ha (by omega)
  obtain ⟨hlen, hrow⟩ := RepAll.get xs 0 j r hall hj
  obtain ⟨vs, h1, h2, h3⟩ := RepRow.cells r _ hrow
  refine ⟨a, cap, vs, hv, hc, hV, h1, by omega, fun i u hu => ?_⟩
  rw [add_add]
  have := h3 i u hu
  rwa [Nat.zero_add] at this

/-- The shape of a slice's value. -/
theorem RepV.shape {V : Nat → Prop} {w : World} {k : Nat} {xs : List (List GV)} {v : Value} (h : RepV V w (.sl k xs) v) : ∃ A cap, v = .slice A xs.length cap ∧ xs.length ≤ cap := by
  simp only [RepV] at h
  obtain ⟨A, cap, hv, hc, _⟩ := h
  exact ⟨A, cap, hv, hc⟩

/-- At a slice's value that is written out: the row at a place. -/
theorem RepV.at_ {V : Nat → Prop} {w : World} {k : Nat} {xs : List (List GV)} {A : Option Addr} {n cap : Nat} (h : RepV V w (.sl k xs) (.slice A n cap)) {j : Nat} {r : List GV} (hj : xs[j]? = some r) :
    ∃ a vs, A = some a ∧ RepL V w r vs ∧ (∀ hp rows, LdAny hp rows ⟨w, V⟩ k (.pointer (some (a.add (j * k)))) vs) ∧
      ∀ hp rows i u, vs[i]? = some u → LdAny hp rows ⟨w, V⟩ 1 (.pointer (some ((a.add (j * k)).add i))) [u] := by
  obtain ⟨a, c, vs, hv, _, hV, hL, hlen, hc⟩ := h.row hj
  injection hv with hA _ _
  refine ⟨a, vs, hA, hL, fun hp rows => .inl ⟨hlen, _, rfl, hc, by rw [add_block]; exact hV⟩, fun hp rows i u hu => .inl ⟨rfl, _, rfl, fun j' u' hu' => ?_, by rw [add_block, add_block]; exact hV⟩⟩
  cases j' with
  | zero => simp at hu'; subst hu'; exact hc i u hu
  | succ j' => simp at hu'

theorem RepV.len {V : Nat → Prop} {w : World} {k : Nat} {xs : List (List GV)} {A : Option Addr} {n cap : Nat} (h : RepV V w (.sl k xs) (.slice A n cap)) : n = xs.length := by
  obtain ⟨_, _, hv, _⟩ := h.shape
  injection hv

section
variable {C : Ctx} {hp : List LB} {rows : List Row} {A : Anch} {w w' : World}
/-- From the anchor to the world that it stands for. -/
theorem RelW.moved (h : RelW C hp rows A w) {hp' : List LB} {rows' : List Row} (hs : ∀ k, k ∈ nums hp' rows' → k ∈ nums hp rows) : Moved A.V A.w (here w hp' rows').V w := fun k hk =>
  ⟨⟨Nat.lt_of_lt_of_le (h.vlt k hk) h.asz, fun hm => h.vout k (hs k hm) hk⟩, h.agree k hk⟩
theorem RelW.movedw (h : RelW C hp rows A w) : Moved A.V A.w (fun k => k < w.heap.size) w := fun k hk => ⟨Nat.lt_of_lt_of_le (h.vlt k hk) h.asz, h.agree k hk⟩
end

/-- What a call without effect on what was there leaves. -/
theorem moved_fr {V : Nat → Prop} {w w' : World} (h : Fr (fun _ => False) w w') (hV : ∀ k, V k → k < w.heap.size) : Moved V w V w' := fun k hk => ⟨hk, h.block k (hV k hk) (fun h => h)⟩

end Go.Eng
