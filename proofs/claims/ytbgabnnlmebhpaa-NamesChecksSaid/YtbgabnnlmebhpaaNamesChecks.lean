/-
  names.Check answers what P7.2 says: the law NamesChecks returns true for every program.
-/
import Derived.Test.YtbgabnnlmebhpaaJNamesChecks
import Derived.Test.YtbgabnnlmebhpaaNq
namespace Go.Proofs.Ytbgabnnlmebhpaa
open Go Go.Dm Go.Eng Go.RowKit Go.ChangeShapes Go.WideShapes Go.ChangeAt Barb

theorem NamesChecks_walk (p : List Barb.Unit) (hI : ∀ u ∈ p, u.I) (hl : p.length * 88 ≤ 140737488351232) : CT Try.prog [] 16 [.g (.sl 4 (p.map Unit.g))] (Is (.g (.bool true))) := by
  have hp : progI p := ⟨hI, by omega⟩
  refine enter hT hF hM Try.func16 rfl 12 rfl (by kernel_rfl) [.tmp 2] rfl [.g (.sl 4 (p.map Unit.g))] rfl _ ?_
  refine callIs (.inl rfl) (NamesCheck_any p hp) ?_
  exact callIs (.inl rfl) (ProgramFault_any p hp) ⟨rfl, retYes rfl⟩

set_option maxRecDepth 100000 in
theorem NamesChecks_lifted (os : Os) (started : os.Started) (H : Type) (enc : TypeId × Value → H) :
    ReturnsInHanded {} Try.checked os 16 .any (Rows.namesChecksSpec.pre6 enc Try.prog Try.f16 Rows.namesChecksRow.domain false) (Rows.namesChecksSpec.post enc Try.prog Try.f16 false true false false) := by
  refine handed (C := Try.checked) own started (by kernel_rfl) Try.func16
    (ChangeSpec.witness6 (enc := enc) (C := Try.checked) false ⟨#[], #[.slice none 0 0], []⟩ 8 (by kernel_rfl) (by kernel_rfl) (by kernel_rfl) (by kernel_rfl)) ?_
  intro W base args ds gs before hval hwt hW
  refine law_contract plainS_ok laidOut rfl ?_ rfl Try.underlying4 (pars_ok (by kernel_rfl)) ?_ W base args ds gs before hval hwt hW
  · intro ds hds
    match ds, hds with
    | [d0], _ => rfl
  · intro W args hargs
    obtain ⟨v0, r0, rfl, h0, hargs⟩ := hargs.inv
    obtain rfl := hargs.inv0
    obtain ⟨f0, g0, t0, R0⟩ := h0.slice Try.underlying52
    obtain ⟨x0, rfl, i0, b0⟩ := dec_Units t0
    exact law_of_ct (NamesChecks_walk x0 i0 b0) (args_cons (arg_g R0) args_nil)
/-- THE STATEMENT. -/
theorem NamesChecks_said : Rows.NamesChecksSaid := NamesChecks_over NamesChecks_lifted
#print axioms NamesChecks_said
end Go.Proofs.Ytbgabnnlmebhpaa
