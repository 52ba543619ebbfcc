/-
  eval.Copy answers what P8.1 says: the law EvalCopies returns true for every list of cells.
-/
import Derived.Test.YtbgabnnlmebhpaaJEvalCopies
import Derived.Test.YtbgabnnlmebhpaaEv
namespace Go.Proofs.Ytbgabnnlmebhpaa
open Go Go.Dm Go.Eng Go.RowKit Go.ChangeShapes Go.WideShapes Go.ChangeAt Barb

theorem EvalCopies_walk (cs : List Cells) (hI : ∀ c ∈ cs, Cells.I c) (hl : cs.length * 48 ≤ 140737488351232) : CT Try.prog [] 11 [.g (.sl 2 (cs.map Cells.g))] (Is (.g (.bool true))) := by
  refine enter hT hF hM Try.func11 rfl 9 rfl (by kernel_rfl) [.tmp 2] rfl [.g (.sl 2 (cs.map Cells.g))] rfl _ ?_
  refine callIs (.inl rfl) (Copy_any cs hI hl) ?_
  exact callIs (.inl rfl) (sameCells_any cs hI hl) ⟨rfl, retIs (.inl rfl)⟩

set_option maxRecDepth 100000 in
theorem EvalCopies_lifted (os : Os) (started : os.Started) (H : Type) (enc : TypeId × Value → H) :
    ReturnsInHanded {} Try.checked os 11 .any (Rows.evalCopiesSpec.pre6 enc Try.prog Try.f11 Rows.evalCopiesRow.domain false) (Rows.evalCopiesSpec.post enc Try.prog Try.f11 false true false false) := by
  refine handed (C := Try.checked) own started (by kernel_rfl) Try.func11
    (ChangeSpec.witness6 (enc := enc) (C := Try.checked) false ⟨#[], #[.slice none 0 0], []⟩ 8 (by kernel_rfl) (by kernel_rfl) (by kernel_rfl) (by kernel_rfl)) ?_
  intro W base args ds gs before hval hwt hW
  refine law_contract plainS_ok laidOut rfl ?_ rfl Try.underlying4 (pars_ok (by kernel_rfl)) ?_ W base args ds gs before hval hwt hW
  · intro ds hds
    match ds, hds with
    | [d0], _ => rfl
  · intro W args hargs
    obtain ⟨v0, r0, rfl, h0, hargs⟩ := hargs.inv
    obtain rfl := hargs.inv0
    obtain ⟨f0, g0, t0, R0⟩ := h0.slice Try.underlying58
    obtain ⟨x0, rfl, i0, b0⟩ := dec_Cellss t0
    exact law_of_ct (EvalCopies_walk x0 i0 b0) (args_cons (arg_g R0) args_nil)
/-- THE STATEMENT. -/
theorem EvalCopies_said : Rows.EvalCopiesSaid := EvalCopies_over EvalCopies_lifted
#print axioms EvalCopies_said
end Go.Proofs.Ytbgabnnlmebhpaa
