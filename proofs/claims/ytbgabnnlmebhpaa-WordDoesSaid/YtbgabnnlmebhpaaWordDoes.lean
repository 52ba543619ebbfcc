/-
  word.Do answers what P1.2 says: the law WordDoes returns true for every operation and every two numbers.
-/
import Derived.Test.YtbgabnnlmebhpaaJWordDoes
import Derived.Test.YtbgabnnlmebhpaaWd
namespace Go.Proofs.Ytbgabnnlmebhpaa
open Go Go.Dm Go.Eng Go.RowKit Go.ChangeShapes Go.WideShapes Go.ChangeAt Barb

theorem WordDoes_walk (op : Int) (_ : I64 op) (a : Int) (_ : I64 a) (b : Int) (_ : I64 b) : CT Try.prog [] 13 [.g (.int op), .g (.int a), .g (.int b)] (Is (.g (.bool true))) := by
  refine enter hT hF hM Try.func13 rfl 33 rfl (by kernel_rfl) [.tmp 6] rfl [.g (.int op), .g (.int a), .g (.int b)] rfl _ ?_
  refine callIs (.inl rfl) (Do_any op a b) ?_
  refine callIs (.inl rfl) (DidOf_any op a b) ?_
  exact ⟨fun _ => ⟨rfl, retYes rfl⟩, fun h => absurd rfl h⟩

set_option maxRecDepth 100000 in
theorem WordDoes_lifted (os : Os) (started : os.Started) (H : Type) (enc : TypeId × Value → H) :
    ReturnsInHanded {} Try.checked os 13 .any (Rows.wordDoesSpec.pre6 enc Try.prog Try.f13 Rows.wordDoesRow.domain false) (Rows.wordDoesSpec.post enc Try.prog Try.f13 false true false false) := by
  refine returnsInHanded_of_change (C := Try.checked) own started (by kernel_rfl) Try.func13
    (ChangeSpec.witness6 (enc := enc) (C := Try.checked) false ⟨#[], #[.int .i64 0, .int .i64 0, .int .i64 0], []⟩ 8 (by kernel_rfl) (by kernel_rfl) (by kernel_rfl) (by kernel_rfl)) ?_
  intro W base args ds gs before hval hW _ _
  refine law_contract plainS_ok laidOut rfl ?_ rfl Try.underlying4 (pars_ok (by kernel_rfl)) ?_ W base args ds gs before hval hW
  · intro ds hds
    match ds, hds with
    | [d0, d1, d2], _ => rfl
  · intro W args hargs
    obtain ⟨v0, r0, rfl, h0, hargs⟩ := hargs.inv
    obtain ⟨v1, r1, rfl, h1, hargs⟩ := hargs.inv
    obtain ⟨v2, r2, rfl, h2, hargs⟩ := hargs.inv
    obtain rfl := hargs.inv0
    obtain ⟨x0, rfl, b0⟩ := h0.int Try.underlying3
    obtain ⟨x1, rfl, b1⟩ := h1.int Try.underlying3
    obtain ⟨x2, rfl, b2⟩ := h2.int Try.underlying3
    exact law_of_ct (WordDoes_walk x0 b0 x1 b1 x2 b2) (args_cons (arg_g (by simp only [RepV])) (args_cons (arg_g (by simp only [RepV])) (args_cons (arg_g (by simp only [RepV])) args_nil)))
/-- THE STATEMENT. -/
theorem WordDoes_said : Rows.WordDoesSaid := WordDoes_over WordDoes_lifted
#print axioms WordDoes_said
end Go.Proofs.Ytbgabnnlmebhpaa
