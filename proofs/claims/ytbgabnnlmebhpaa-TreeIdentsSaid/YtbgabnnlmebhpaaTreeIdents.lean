/-
  tree.Ident answers what P6.1 says: the law TreeIdents returns true for every text.
-/
import Derived.Test.YtbgabnnlmebhpaaJTreeIdents
import Derived.Test.YtbgabnnlmebhpaaNm
namespace Go.Proofs.Ytbgabnnlmebhpaa
open Go Go.Dm Go.Eng Go.RowKit Go.ChangeShapes Go.WideShapes Go.ChangeAt Barb

theorem TreeIdents_walk (s : Str) (hs : s.length ≤ maxLen) : CT Try.prog [] 12 [.g (.str s)] (Is (.g (.bool true))) := by
  refine enter hT hF hM Try.func12 rfl 12 rfl (by kernel_rfl) [.tmp 2] rfl [.g (.str s)] rfl _ ?_
  refine callIs (.inl rfl) (Ident_any s hs) ?_
  exact callIs (.inl rfl) (NameMay_any s hs) ⟨rfl, retYes Iff.rfl⟩

set_option maxRecDepth 100000 in
theorem TreeIdents_lifted (os : Os) (started : os.Started) (H : Type) (enc : TypeId × Value → H) :
    ReturnsInHanded {} Try.checked os 12 .any (Rows.treeIdentsSpec.pre6 enc Try.prog Try.f12 Rows.treeIdentsRow.domain false) (Rows.treeIdentsSpec.post enc Try.prog Try.f12 false true false false) := by
  refine handed (C := Try.checked) own started (by kernel_rfl) Try.func12
    (ChangeSpec.witness6 (enc := enc) (C := Try.checked) false ⟨#[], #[.string ⟨⟨[]⟩⟩], []⟩ 8 (by kernel_rfl) (by kernel_rfl) (by kernel_rfl) (by kernel_rfl)) ?_
  intro W base args ds gs before hval hwt hW
  refine law_contract plainS_ok laidOut rfl ?_ rfl Try.underlying4 (pars_ok (by kernel_rfl)) ?_ W base args ds gs before hval hwt hW
  · intro ds hds
    match ds, hds with
    | [d0], _ => rfl
  · intro W args hargs
    obtain ⟨v0, r0, rfl, h0, hargs⟩ := hargs.inv
    obtain rfl := hargs.inv0
    obtain ⟨x0, rfl, b0⟩ := h0.str Try.underlying9
    exact law_of_ct (TreeIdents_walk x0 b0) (args_cons (arg_g (by simp only [RepV])) args_nil)
/-- THE STATEMENT. -/
theorem TreeIdents_said : Rows.TreeIdentsSaid := TreeIdents_over TreeIdents_lifted
#print axioms TreeIdents_said
end Go.Proofs.Ytbgabnnlmebhpaa
