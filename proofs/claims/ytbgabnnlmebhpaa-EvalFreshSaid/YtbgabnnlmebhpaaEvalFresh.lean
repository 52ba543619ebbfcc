/-
  eval.Fresh answers what P8.1 says: the law EvalFresh returns true for every program.
-/
import Derived.Test.YtbgabnnlmebhpaaJEvalFresh
import Derived.Test.YtbgabnnlmebhpaaFr
namespace Go.Proofs.Ytbgabnnlmebhpaa
open Go Go.Dm Go.Eng Go.RowKit Go.ChangeShapes Go.WideShapes Go.ChangeAt Barb

theorem EvalFresh_walk (p : List Barb.Unit) (hI : ∀ u ∈ p, u.I) (hl : p.length * 88 ≤ 140737488351232) : CT Try.prog [] 17 [.g (.sl 4 (p.map Unit.g))] (Is (.g (.bool true))) := by
  have hp : progI p := ⟨hI, by omega⟩
  obtain ⟨h1, h2⟩ := freshL_ok p
  refine enter hT hF hM Try.func17 rfl 25 rfl (by kernel_rfl) [.tmp 2] rfl [.g (.sl 4 (p.map Unit.g))] rfl _ ?_
  refine callIs (.inl rfl) (Fresh_any p hp) ?_
  refine callIs (.inl rfl) (FreshOf_any p hp) ?_
  exact ⟨fun _ => callIs (.inl rfl) (sameCells_any (freshL p) h1 h2) ⟨rfl, retIs (.inl rfl)⟩, fun h => absurd rfl h⟩

set_option maxRecDepth 100000 in
theorem EvalFresh_lifted (os : Os) (started : os.Started) (H : Type) (enc : TypeId × Value → H) :
    ReturnsInHanded {} Try.checked os 17 .any (Rows.evalFreshSpec.pre6 enc Try.prog Try.f17 Rows.evalFreshRow.domain false) (Rows.evalFreshSpec.post enc Try.prog Try.f17 false true false false) := by
  refine handed (C := Try.checked) own started (by kernel_rfl) Try.func17
    (ChangeSpec.witness6 (enc := enc) (C := Try.checked) false ⟨#[], #[.slice none 0 0], []⟩ 8 (by kernel_rfl) (by kernel_rfl) (by kernel_rfl) (by kernel_rfl)) ?_
  intro W base args ds gs before hval hwt hW
  refine law_contract plainS_ok laidOut rfl ?_ rfl Try.underlying4 (pars_ok (by kernel_rfl)) ?_ W base args ds gs before hval hwt hW
  · intro ds hds
    match ds, hds with
    | [d0], _ => rfl
  · intro W args hargs
    obtain ⟨v0, r0, rfl, h0, hargs⟩ := hargs.inv
    obtain rfl := hargs.inv0
    obtain ⟨f0, g0, t0, R0⟩ := h0.slice Try.underlying52
    obtain ⟨x0, rfl, i0, b0⟩ := dec_Units t0
    exact law_of_ct (EvalFresh_walk x0 i0 b0) (args_cons (arg_g R0) args_nil)
/-- THE STATEMENT. -/
theorem EvalFresh_said : Rows.EvalFreshSaid := EvalFresh_over EvalFresh_lifted
#print axioms EvalFresh_said
end Go.Proofs.Ytbgabnnlmebhpaa
