/-
  code.Decode answers what P2.3 says: the law CodeDecodes returns true for every list of words, wherever the table of package code holds what the program's text lays there.
-/
import Derived.Test.YtencdcmbfeeekaaDoorJCodeDecodes
import Derived.Test.YtencdcmbfeeekaaDoorCards
import Derived.Test.YtencdcmbfeeekaaDoorTie
import Derived.Test.YtencdcmbfeeekaaDoorDc
namespace Go.Proofs.YtencdcmbfeeekaaDoor
open Go Go.Dm Go.Eng Go.RowKit Go.ChangeShapes Go.WideShapes Go.ChangeAt Barb

theorem CodeDecodes_walk (ws : List Int) (_ : ∀ x ∈ ws, I64 x) (hl : ws.length * 8 ≤ 140737488351232) : CT Tryd.prog gl 5 [.g (.sl 1 (ws.map intG))] (Is (.g (.bool true))) := by
  refine enter hT hF hM Tryd.func5 rfl 25 rfl (by kernel_rfl) [.tmp 2] rfl [.g (.sl 1 (ws.map intG))] rfl _ ?_
  refine callIs (.inl rfl) (Decode_any ws hl) ?_
  refine callIs (.inl rfl) (CodeOf_any ws hl) ?_
  exact ⟨fun _ => callIs (.inl rfl) (sameCode_any (decL ws) (decL_len ws (by omega))) ⟨rfl, retIs (.inl rfl)⟩, fun h => absurd rfl h⟩

set_option maxRecDepth 100000 in
theorem CodeDecodes_contract (H : Type) (enc : TypeId × Value → H) (W : World) (base : Nat) (args : Array Value) (ds gs : List (DataW H)) (before : List MemPlace)
    (hval : ∀ (j : Nat) t v, Tryd.f5.params[j]? = some t → args[j]? = some v → Value.okWide Tryd.prog W .any base t v)
    (hwt : (DataW.weightsEach Tryd.prog (Tryd.f5.params.toList ++ Rows.codeDecodesSpec.plain.varTypes Tryd.prog) (ds ++ gs)).all (· ≤ reachBytes) = true)
    (hW : DataW.Whole enc Tryd.prog Tryd.f5.params.toList Rows.codeDecodesSpec.vars false W args.toList ds gs before) (hL : laidMetH Tryd.prog Rows.codeDecodesRow.laid W) :
    Calls Tryd.prog 5 args W fun e W' => ∃ v, e = .returned v ∧ Rows.codeDecodesSpec.post enc Tryd.prog Tryd.f5 false true false false W args v W' := by
  refine law_contractW plainS_ok laidOut rfl ?_ rfl Tryd.underlying4 (pars_ok (by kernel_rfl)) W ?_ base args ds gs before hval hwt hW
  · intro ds hds
    match ds, hds with
    | [d0], _ => rfl
  · intro args hargs
    obtain ⟨v0, r0, rfl, h0, hargs⟩ := hargs.inv
    obtain rfl := hargs.inv0
    obtain ⟨f0, g0, t0, R0⟩ := h0.slice Tryd.underlying28
    obtain ⟨x0, rfl, i0, b0⟩ := dec_ints t0
    exact law_of_ctG (gl_ok hL) (CodeDecodes_walk x0 i0 b0) (args_cons (arg_g R0) args_nil)
/-- A world for the witness: the settled one, the table holding what its initialiser lays. -/
noncomputable def CodeDecodes_world (os : Os) : World :=
  { World.holding Tryd.prog os ⟨#[], #[], []⟩ with heap := (World.holding Tryd.prog os ⟨#[], #[], []⟩).heap.modify 0 fun
      | .cells _ t frozen => .cells (ofRows.flatten.map fun z => Value.int .i64 z).toArray t frozen
      | o => o }
theorem CodeDecodes_met (os : Os) : laidMet Tryd.prog Rows.codeDecodesRow.laid ((CodeDecodes_world os).forCall (fun _ _ => 0) ⟨#[], #[.slice none 0 0], []⟩).memory :=
  laidMet_of_run' 8 (by kernel_rfl) (by kernel_rfl)
theorem CodeDecodes_reads (os : Os) {H : Type} (enc : TypeId × Value → H) : ∃ places, DataW.whole enc Tryd.prog ((CodeDecodes_world os).forCall (fun _ _ => 0) ⟨#[], #[.slice none 0 0], []⟩).memory Tryd.f5.params.toList Rows.codeDecodesSpec.vars false (#[.slice none 0 0] : Array Value).toList 8 = some ([.nil], [], places) :=
  ⟨[], by kernel_rfl⟩
set_option maxRecDepth 100000 in
theorem CodeDecodes_lifted (os : Os) (started : os.Started) (H : Type) (enc : TypeId × Value → H) (F : Stop.Interp) :
    ReturnsInHanded {} Tryd.checked os 5 .any ((OpenSpec.ofChange Rows.codeDecodesSpec).preRow enc Tryd.prog Tryd.f5 Rows.codeDecodesRow.domain false Rows.codeDecodesRow.laid) (((OpenSpec.ofChange Rows.codeDecodesSpec).at F).post enc Tryd.prog Tryd.f5 false true false false) := by
  obtain ⟨places, hx⟩ := CodeDecodes_reads os enc
  refine returnsInHanded_of_row (C := Tryd.checked) (s := OpenSpec.ofChange Rows.codeDecodesSpec) own started (by kernel_rfl) Tryd.func5
    (witness_row_at (enc := enc) (C := Tryd.checked) false (CodeDecodes_world os) #[.slice none 0 0] rfl (by kernel_rfl) (by kernel_rfl) (by kernel_rfl)
      (OpenSpec.preRow_of_cond 8 hx (by kernel_rfl) (fun k hk => by cases hk) (by kernel_rfl) (CodeDecodes_met os))) ?_
  intro W base args ds gs before hval hW _ _ hwt hL _ _
  exact CodeDecodes_contract H enc W base args ds gs before hval hwt hW hL
theorem CodeDecodes_row : Rows.CodeDecodesSaid := CodeDecodes_over CodeDecodes_lifted
/-- THE CARD. -/
theorem CodeDecodes_said : Rows.CodeDecodesCardSaid :=
  Claim7.holds_tied_plain_at .later [] _ _ _ _ CodeDecodes_row (fun _ h => by cases h) (by kernel_rfl) (fun _ h => by cases h) codeDecodes_row_tie rfl ⟨rfl, rfl⟩ (by kernel_rfl) rfl CodeDecodes_plain (by kernel_rfl)
#print axioms CodeDecodes_said
end Go.Proofs.YtencdcmbfeeekaaDoor
