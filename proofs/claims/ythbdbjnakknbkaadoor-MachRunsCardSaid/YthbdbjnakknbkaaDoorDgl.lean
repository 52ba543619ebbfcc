/-
  The table of package code, as this seat's rows list it: its cells are at hand wherever the rows' condition holds.
-/
import Derived.Test.YthbdbjnakknbkaaDoorDcard
import Derived.Test.YthbdbjnakknbkaaDoorDseat
namespace Go.Proofs.YthbdbjnakknbkaaDoor
open Go Go.Dm Go.Eng

def ofRows : List (List Int) := [[0, 0, 0], [65535, 0, 0], [0, 0, 0], [0, 0, 0], [7, 0, 0], [7, 0, 0], [0, 0, 0], [0, 0, 0], [10, 0, 0], [1199, 0, 0], [1199, 0, 0], [1199, 4, 0], [4, 7, 4], [0, 0, 0], [0, 0, 0], [0, 0, 0]]
abbrev gl : Gl := [(0, ofRows.flatten.map .int)]
theorem ofName : Tryd.prog.globalNamed "barbican/code.of" = some 0 := by kernel_rfl
theorem ofType : (Tryd.prog.globals[0]?).map (·.type) = some 126 := by kernel_rfl
theorem ofCells : Tryd.prog.cellsOf 125 = 3 := by kernel_rfl
def fieldsOk (P : Program) : List Field → Nat → Bool
  | [], _ => true
  | f :: l, j => f.offset == j && (match P.underlying f.type with | some (.int .i64) => true | _ => false) && P.cellsOf f.type == 1 && fieldsOk P l (j + 1)
theorem fieldsOk_at {P : Program} : ∀ {l : List Field} {i : Nat}, fieldsOk P l i = true → ∀ (j : Nat) (f : Field), l[j]? = some f → f.offset = i + j ∧ P.underlying f.type = some (.int .i64) ∧ P.cellsOf f.type = 1
  | [], _, _, j, f, hj => by simp at hj
  | g :: l, i, h, j, f, hj => by
    simp only [fieldsOk, Bool.and_eq_true, beq_iff_eq] at h
    cases j with
    | zero =>
      simp at hj
      subst hj
      refine ⟨h.1.1.1, ?_, h.1.2⟩
      have h2 := h.1.1.2
      split at h2
      · assumption
      · cases h2
    | succ j =>
      have := fieldsOk_at h.2 j f (by simpa using hj)
      exact ⟨by omega, this.2⟩
theorem ofFields : (match Tryd.prog.underlying 125 with | some (.struct fs) => fieldsOk Tryd.prog fs.toList 0 | _ => false) = true := by kernel_rfl
theorem ofStruct : ∃ fs, Tryd.prog.underlying 125 = some (.struct fs) ∧ ∀ (j : Nat) (f : Field), fs[j]? = some f → f.offset = j ∧ Tryd.prog.underlying f.type = some (.int .i64) ∧ Tryd.prog.cellsOf f.type = 1 := by
  have h := ofFields
  split at h
  · rename_i fs hu
    exact ⟨fs, hu, fun j f hj => by have := fieldsOk_at h j f (by simpa using hj); simpa using this⟩
  · cases h
theorem ofArray : Tryd.prog.underlying 126 = some (.array 16 125) := by kernel_rfl
theorem laid_tab : (Rows.laid_barbican_code_of : DataW Unit) = tab2 ofRows := rfl
theorem gl_ok {W : World} (h : laidMetH Tryd.prog [("barbican/code.of", Rows.laid_barbican_code_of)] W) : GlOk gl (fun k => k < W.heap.size) W := by
  obtain ⟨fs, hs, hf⟩ := ofStruct
  rw [laid_tab] at h
  exact glOk_of_head (rest := []) ofName ofType ofArray hs ofCells hf (by decide) (by decide) h
end Go.Proofs.YthbdbjnakknbkaaDoor
