/-
  The first place of a name in a list; a block of one cell. It holds of every program.
-/
import Derived.Test.YtbgabnnlmebhpaaDec
namespace Go.Eng
open Go Go.RowKit

/-- The first place of a name; -1: there is none. -/
def placeOf (l : List (List UInt8)) (name : List UInt8) : Int := match l.findIdx? (fun n => decide (n = name)) with | some i => (i : Int) | none => -1

theorem placeOf_some {l : List (List UInt8)} {name : List UInt8} {i : Nat} (hi : i < l.length) (h : l[i] = name) (hb : ∀ j (hj : j < i), l[j]'(Nat.lt_trans hj hi) ≠ name) : placeOf l name = i := by
  have : l.findIdx? (fun n => decide (n = name)) = some i := by
    rw [List.findIdx?_eq_some_iff_getElem]
    exact ⟨hi, by simpa using h, fun j hj => by simpa using hb j hj⟩
  unfold placeOf; rw [this]
theorem placeOf_none {l : List (List UInt8)} {name : List UInt8} (hb : ∀ j (hj : j < l.length), l[j] ≠ name) : placeOf l name = -1 := by
  have : l.findIdx? (fun n => decide (n = name)) = none := by
    rw [List.findIdx?_eq_none_iff]
    intro x hx
    obtain ⟨j, hj, rfl⟩ := List.mem_iff_getElem.1 hx
    simpa using hb j hj
  unfold placeOf; rw [this]

/-- A block of one cell. -/
def Cell1 (w : World) (b : Nat) (v : Value) : Prop := ∃ t, w.heap[b]? = some (.cells #[v] t (0, 0))
theorem Cell1.lt {w : World} {b : Nat} {v : Value} (h : Cell1 w b v) : b < w.heap.size := by
  obtain ⟨t, h⟩ := h
  exact (Array.getElem?_eq_some_iff.1 h).1
theorem Cell1.cell {w : World} {b : Nat} {v : Value} (h : Cell1 w b v) : w.cell? ⟨b, 0, none⟩ = some v := by
  obtain ⟨t, h⟩ := h
  simp [World.cell?, h]
theorem Cell1.ld {w : World} {b : Nat} {v : Value} (h : Cell1 w b v) {V : Nat → Prop} (hV : V b) (hp : List LB) (rows : List Row) : LdAny hp rows ⟨w, V⟩ 1 (.pointer (some ⟨b, 0, none⟩)) [v] := by
  refine .inl ⟨rfl, ⟨b, 0, none⟩, rfl, fun j u hu => ?_, hV⟩
  cases j with
  | zero => simp at hu; subst hu; exact h.cell
  | succ j => simp at hu
theorem Cell1.move {w w' : World} {b : Nat} {v : Value} (h : Cell1 w b v) (hh : w'.heap[b]? = w.heap[b]?) : Cell1 w' b v := by
  obtain ⟨t, h⟩ := h
  exact ⟨t, by rw [hh]; exact h⟩

end Go.Eng
