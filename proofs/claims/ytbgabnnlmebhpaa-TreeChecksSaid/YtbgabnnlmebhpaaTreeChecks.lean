/-
  tree.Check answers what P6.3 says: the law TreeChecks returns true for every unit.
-/
import Derived.Test.YtbgabnnlmebhpaaJTreeChecks
import Derived.Test.YtbgabnnlmebhpaaTc
namespace Go.Proofs.Ytbgabnnlmebhpaa
open Go Go.Dm Go.Eng Go.RowKit Go.ChangeShapes Go.WideShapes Go.ChangeAt Barb

theorem TreeChecks_walk (u : Barb.Unit) (hu : u.I) : CT Try.prog [] 15 [.agg u.d] (Is (.g (.bool true))) := by
  refine enter hT hF hM Try.func15 rfl 12 rfl (by kernel_rfl) [.tmp 2] rfl [.agg u.d] rfl _ ?_
  refine callIs (.inl rfl) (TreeCheck_any u hu) ?_
  exact callIs (.inl rfl) (UnitFault_any u hu) ⟨rfl, retYes rfl⟩

set_option maxRecDepth 100000 in
theorem TreeChecks_lifted (os : Os) (started : os.Started) (H : Type) (enc : TypeId × Value → H) :
    ReturnsInHanded {} Try.checked os 15 .any (Rows.treeChecksSpec.pre6 enc Try.prog Try.f15 Rows.treeChecksRow.domain false) (Rows.treeChecksSpec.post enc Try.prog Try.f15 false true false false) := by
  refine handed (C := Try.checked) own started (by kernel_rfl) Try.func15
    (ChangeSpec.witness6 (enc := enc) (C := Try.checked) false ⟨#[], #[.agg #[.string ⟨⟨[]⟩⟩, .slice none 0 0, .slice none 0 0, .slice none 0 0]], []⟩ 8 (by kernel_rfl) (by kernel_rfl) (by kernel_rfl) (by kernel_rfl)) ?_
  intro W base args ds gs before hval hwt hW
  refine law_contract plainS_ok laidOut rfl ?_ rfl Try.underlying4 (pars_ok (by kernel_rfl)) ?_ W base args ds gs before hval hwt hW
  · intro ds hds
    match ds, hds with
    | [d0], _ => rfl
  · intro W args hargs
    obtain ⟨v0, r0, rfl, h0, hargs⟩ := hargs.inv
    obtain rfl := hargs.inv0
    obtain ⟨f0, g0, c0, rfl, t0, R0⟩ := h0.struct Try.underlying36
    obtain ⟨x0, rfl, b0⟩ := dec_Unit t0
    exact law_of_ct (TreeChecks_walk x0 b0) (args_cons (arg_agg R0) args_nil)
/-- THE STATEMENT. -/
theorem TreeChecks_said : Rows.TreeChecksSaid := TreeChecks_over TreeChecks_lifted
#print axioms TreeChecks_said
end Go.Proofs.Ytbgabnnlmebhpaa
