/-
  link.Data answers what P11.2 says: the law LinkData returns true for every program and all cells.
-/
import Derived.Test.YtibhhcncefkoiaaJLinkData
import Derived.Test.YtibhhcncefkoiaaLd
namespace Go.Proofs.Ytibhhcncefkoiaa
open Go Go.Dm Go.Eng Go.RowKit Go.ChangeShapes Go.WideShapes Go.ChangeAt Barb

theorem LinkData_walk (p : List Barb.Unit) (hI : ∀ u ∈ p, u.I) (hl : p.length * 88 ≤ 140737488351232) (cs : List Cells) (hC : ∀ c ∈ cs, Cells.I c) (hlc : cs.length * 48 ≤ 140737488351232) : CT Try.prog [] 5 [.g (.sl 4 (p.map Unit.g)), .g (.sl 2 (cs.map Cells.g))] (Is (.g (.bool true))) := by
  have hp : progI p := ⟨hI, by omega⟩
  have hd := dataL_len p cs
  refine enter hT hF hM Try.func5 rfl 29 rfl (by kernel_rfl) [.tmp 4] rfl [.g (.sl 4 (p.map Unit.g)), .g (.sl 2 (cs.map Cells.g))] rfl _ ?_
  refine callIs (.inl rfl) (Data_any p hp cs hC hlc) ?_
  refine callIs (.inl rfl) (DataOf_any p hp cs hC hlc) ?_
  exact ⟨fun _ => callIs (.inl rfl) (sameInts_any (dataL p cs) (dataL p cs) (by omega)) ⟨rfl, retYes rfl⟩, fun h => absurd rfl h⟩

set_option maxRecDepth 100000 in
theorem LinkData_lifted (os : Os) (started : os.Started) (H : Type) (enc : TypeId × Value → H) :
    ReturnsInHanded {} Try.checked os 5 .any (Rows.linkDataSpec.pre6 enc Try.prog Try.f5 Rows.linkDataRow.domain false) (Rows.linkDataSpec.post enc Try.prog Try.f5 false true false false) := by
  refine handed (C := Try.checked) own started (by kernel_rfl) Try.func5
    (ChangeSpec.witness6 (enc := enc) (C := Try.checked) false ⟨#[], #[.slice none 0 0, .slice none 0 0], []⟩ 8 (by kernel_rfl) (by kernel_rfl) (by kernel_rfl) (by kernel_rfl)) ?_
  intro W base args ds gs before hval hwt hW
  refine law_contract plainS_ok laidOut rfl ?_ rfl Try.underlying4 (pars_ok (by kernel_rfl)) ?_ W base args ds gs before hval hwt hW
  · intro ds hds
    match ds, hds with
    | [d0, d1], _ => rfl
  · intro W args hargs
    obtain ⟨v0, r0, rfl, h0, hargs⟩ := hargs.inv
    obtain ⟨v1, r1, rfl, h1, hargs⟩ := hargs.inv
    obtain rfl := hargs.inv0
    obtain ⟨f0, g0, t0, R0⟩ := h0.slice Try.underlying39
    obtain ⟨x0, rfl, i0, b0⟩ := dec_Units t0
    obtain ⟨f1, g1, t1, R1⟩ := h1.slice Try.underlying40
    obtain ⟨x1, rfl, i1, b1⟩ := dec_Cellss t1
    exact law_of_ct (LinkData_walk x0 i0 b0 x1 i1 b1) (args_cons (arg_g R0) (args_cons (arg_g R1) args_nil))
/-- THE STATEMENT. -/
theorem LinkData_said : Rows.LinkDataSaid := LinkData_over LinkData_lifted
#print axioms LinkData_said
end Go.Proofs.Ytibhhcncefkoiaa
