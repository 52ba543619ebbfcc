/-
  code.Encode answers what P2.2 says: the law CodeEncodes returns true for every list of instructions, wherever the table of package code holds what the program's text lays there.
-/
import Derived.Test.YtencdcmbfeeekaaDoorJCodeEncodes
import Derived.Test.YtencdcmbfeeekaaDoorCards
import Derived.Test.YtencdcmbfeeekaaDoorTie
import Derived.Test.YtencdcmbfeeekaaDoorEc
namespace Go.Proofs.YtencdcmbfeeekaaDoor
open Go Go.Dm Go.Eng Go.RowKit Go.ChangeShapes Go.WideShapes Go.ChangeAt Barb

theorem CodeEncodes_walk (l : List Barb.Instr) (_ : ∀ x ∈ l, Barb.Instr.I x) (hl : l.length * 32 ≤ 140737488351232) : CT Tryd.prog gl 4 [.g (.sl 4 (l.map Instr.g))] (Is (.g (.bool true))) := by
  have hlen := encL_len l (by omega)
  refine enter hT hF hM Tryd.func4 rfl 25 rfl (by kernel_rfl) [.tmp 2] rfl [.g (.sl 4 (l.map Instr.g))] rfl _ ?_
  refine callIs (.inl rfl) (Encode_any l) ?_
  refine callIs (.inl rfl) (CodeWords_any l) ?_
  exact ⟨fun _ => callIs (.inl rfl) (sameInts_any (encL l) (encL l) (by omega)) ⟨rfl, retYes rfl⟩, fun h => absurd rfl h⟩

set_option maxRecDepth 100000 in
theorem CodeEncodes_contract (H : Type) (enc : TypeId × Value → H) (W : World) (base : Nat) (args : Array Value) (ds gs : List (DataW H)) (before : List MemPlace)
    (hval : ∀ (j : Nat) t v, Tryd.f4.params[j]? = some t → args[j]? = some v → Value.okWide Tryd.prog W .any base t v)
    (hwt : (DataW.weightsEach Tryd.prog (Tryd.f4.params.toList ++ Rows.codeEncodesSpec.plain.varTypes Tryd.prog) (ds ++ gs)).all (· ≤ reachBytes) = true)
    (hW : DataW.Whole enc Tryd.prog Tryd.f4.params.toList Rows.codeEncodesSpec.vars false W args.toList ds gs before) (hL : laidMetH Tryd.prog Rows.codeEncodesRow.laid W) :
    Calls Tryd.prog 4 args W fun e W' => ∃ v, e = .returned v ∧ Rows.codeEncodesSpec.post enc Tryd.prog Tryd.f4 false true false false W args v W' := by
  refine law_contractW plainS_ok laidOut rfl ?_ rfl Tryd.underlying4 (pars_ok (by kernel_rfl)) W ?_ base args ds gs before hval hwt hW
  · intro ds hds
    match ds, hds with
    | [d0], _ => rfl
  · intro args hargs
    obtain ⟨v0, r0, rfl, h0, hargs⟩ := hargs.inv
    obtain rfl := hargs.inv0
    obtain ⟨f0, g0, t0, R0⟩ := h0.slice Tryd.underlying27
    obtain ⟨x0, rfl, i0, b0⟩ := dec_Code t0
    exact law_of_ctG (gl_ok hL) (CodeEncodes_walk x0 i0 b0) (args_cons (arg_g R0) args_nil)
/-- A world for the witness: the settled one, the table holding what its initialiser lays. -/
noncomputable def CodeEncodes_world (os : Os) : World :=
  { World.holding Tryd.prog os ⟨#[], #[], []⟩ with heap := (World.holding Tryd.prog os ⟨#[], #[], []⟩).heap.modify 0 fun
      | .cells _ t frozen => .cells (ofRows.flatten.map fun z => Value.int .i64 z).toArray t frozen
      | o => o }
theorem CodeEncodes_met (os : Os) : laidMet Tryd.prog Rows.codeEncodesRow.laid ((CodeEncodes_world os).forCall (fun _ _ => 0) ⟨#[], #[.slice none 0 0], []⟩).memory :=
  laidMet_of_run' 8 (by kernel_rfl) (by kernel_rfl)
theorem CodeEncodes_reads (os : Os) {H : Type} (enc : TypeId × Value → H) : ∃ places, DataW.whole enc Tryd.prog ((CodeEncodes_world os).forCall (fun _ _ => 0) ⟨#[], #[.slice none 0 0], []⟩).memory Tryd.f4.params.toList Rows.codeEncodesSpec.vars false (#[.slice none 0 0] : Array Value).toList 8 = some ([.nil], [], places) :=
  ⟨[], by kernel_rfl⟩
set_option maxRecDepth 100000 in
theorem CodeEncodes_lifted (os : Os) (started : os.Started) (H : Type) (enc : TypeId × Value → H) (F : Stop.Interp) :
    ReturnsInHanded {} Tryd.checked os 4 .any ((OpenSpec.ofChange Rows.codeEncodesSpec).preRow enc Tryd.prog Tryd.f4 Rows.codeEncodesRow.domain false Rows.codeEncodesRow.laid) (((OpenSpec.ofChange Rows.codeEncodesSpec).at F).post enc Tryd.prog Tryd.f4 false true false false) := by
  obtain ⟨places, hx⟩ := CodeEncodes_reads os enc
  refine returnsInHanded_of_row (C := Tryd.checked) (s := OpenSpec.ofChange Rows.codeEncodesSpec) own started (by kernel_rfl) Tryd.func4
    (witness_row_at (enc := enc) (C := Tryd.checked) false (CodeEncodes_world os) #[.slice none 0 0] rfl (by kernel_rfl) (by kernel_rfl) (by kernel_rfl)
      (OpenSpec.preRow_of_cond 8 hx (by kernel_rfl) (fun k hk => by cases hk) (by kernel_rfl) (CodeEncodes_met os))) ?_
  intro W base args ds gs before hval hW _ _ hwt hL _ _
  exact CodeEncodes_contract H enc W base args ds gs before hval hwt hW hL
theorem CodeEncodes_row : Rows.CodeEncodesSaid := CodeEncodes_over CodeEncodes_lifted
/-- THE CARD. -/
theorem CodeEncodes_said : Rows.CodeEncodesCardSaid :=
  Claim7.holds_tied_plain_at .later [] _ _ _ _ CodeEncodes_row (fun _ h => by cases h) (by kernel_rfl) (fun _ h => by cases h) codeEncodes_row_tie rfl ⟨rfl, rfl⟩ (by kernel_rfl) rfl CodeEncodes_plain (by kernel_rfl)
#print axioms CodeEncodes_said
end Go.Proofs.YtencdcmbfeeekaaDoor
