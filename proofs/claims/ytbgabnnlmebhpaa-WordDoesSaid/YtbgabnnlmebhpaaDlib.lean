/-
  Small things that walks use again and again: returns of two numbers, the first fault of a list. It holds of every program.
-/
import Derived.Test.YtbgabnnlmebhpaaDm13
namespace Go.Dm
open Go Go.Eng Go.RowKit

theorem ret2I {h : Heap} {a b c d : Int} (e : a = b) (e' : c = d) : RetTo (Is (.tuple [.g (.int b), .g (.int d)])) h (.tuple [.g (.int a), .g (.int c)]) := by subst e; subst e'; exact retIs (.inl rfl)

/-- Two ways. -/
theorem spl {p q A B : Prop} (a : p → A) (b : q → B) : (p → A) ∧ (q → B) := ⟨a, b⟩
/-- The first fault of a list; 0: none. -/
def firstE {α : Type} (f : α → Int) : List α → Int
  | [] => 0
  | x :: l => if f x = 0 then firstE f l else f x
theorem firstE_zero {α : Type} {f : α → Int} : ∀ {l : List α}, (∀ x ∈ l, f x = 0) → firstE f l = 0
  | [], _ => rfl
  | x :: l, h => by simp only [firstE]; rw [if_pos (h x List.mem_cons_self)]; exact firstE_zero (fun y hy => h y (List.mem_cons_of_mem _ hy))
theorem firstE_end {α : Type} {f : α → Int} {l : List α} {i : Nat} (hi : l.length ≤ i) (h : ∀ j (hj : j < l.length), j < i → f l[j] = 0) : firstE f l = 0 :=
  firstE_zero (fun x hx => by obtain ⟨j, hj, rfl⟩ := List.getElem_of_mem hx; exact h j hj (by omega))
theorem firstE_at {α : Type} {f : α → Int} : ∀ {l : List α} {i : Nat} (hi : i < l.length), (∀ j (hj : j < l.length), j < i → f l[j] = 0) → f l[i] ≠ 0 → firstE f l = f l[i]
  | [], i, hi, _, _ => by simp at hi
  | x :: l, 0, hi, _, h1 => by simp only [firstE]; rw [if_neg (by simpa using h1)]; rfl
  | x :: l, i + 1, hi, h, h1 => by
    simp only [firstE]
    rw [if_pos (show f x = 0 from h 0 (by simp) (by omega))]
    have := firstE_at (f := f) (l := l) (i := i) (by simpa using hi) (fun j hj hji => show f l[j] = 0 from h (j + 1) (by simpa using hj) (by omega)) (by simpa using h1)
    simpa using this
theorem firstE_step {α : Type} {f : α → Int} {l : List α} {i : Nat} (hi : i < l.length) (h : ∀ j (hj : j < l.length), j < i → f l[j] = 0) (h1 : f l[i] = 0) : ∀ j (hj : j < l.length), j < i + 1 → f l[j] = 0 := by
  intro j hj hji
  by_cases e : j = i
  · subst e; exact h1
  · exact h j hj (by omega)
theorem none0 {α : Type} {f : α → Int} {l : List α} : ∀ j (hj : j < l.length), j < 0 → f l[j] = 0 := fun j _ h => absurd h (Nat.not_lt_zero j)
theorem firstE_congr {α : Type} {f g : α → Int} : ∀ {l : List α}, (∀ x ∈ l, f x = g x) → firstE f l = firstE g l
  | [], _ => rfl
  | x :: l, h => by
    simp only [firstE]
    rw [h x List.mem_cons_self, firstE_congr (fun y hy => h y (List.mem_cons_of_mem _ hy))]
/-- So far it held of all. -/
theorem allp_step {α : Type} {p : α → Prop} {l : List α} {i : Nat} (hi : i < l.length) (h : ∀ j (hj : j < l.length), j < i → p l[j]) (h1 : p l[i]) : ∀ j (hj : j < l.length), j < i + 1 → p l[j] := by
  intro j hj hji
  by_cases e : j = i
  · subst e; exact h1
  · exact h j hj (by omega)
theorem allp_0 {α : Type} {p : α → Prop} {l : List α} : ∀ j (hj : j < l.length), j < 0 → p l[j] := fun j _ h => absurd h (Nat.not_lt_zero j)
theorem allp_end {α : Type} {p : α → Prop} {l : List α} {i : Nat} (hi : l.length ≤ i) (h : ∀ j (hj : j < l.length), j < i → p l[j]) : ∀ x ∈ l, p x :=
  fun x hx => by obtain ⟨j, hj, rfl⟩ := List.getElem_of_mem hx; exact h j hj (by omega)
end Go.Dm
