/-
  mem.CheckData answers what P3.2 says: the law MemData returns true for every image and words, wherever the table of package code holds what the program's text lays there.
-/
import Derived.Test.YtencdcmbfeeekaaDoorJMemData
import Derived.Test.YtencdcmbfeeekaaDoorCards
import Derived.Test.YtencdcmbfeeekaaDoorTie
import Derived.Test.YtencdcmbfeeekaaDoorMd
namespace Go.Proofs.YtencdcmbfeeekaaDoor
open Go Go.Dm Go.Eng Go.RowKit Go.ChangeShapes Go.WideShapes Go.ChangeAt Barb

theorem MemData_walk (m : Image) (hm : Image.I m) (d : List Int) (_ : ∀ x ∈ d, I64 x) (hd : d.length * 8 ≤ 140737488351232) : CT Tryd.prog gl 8 [.agg (imgD m), .g (.sl 1 (d.map intG))] (Is (.g (.bool true))) := by
  refine enter hT hF hM Tryd.func8 rfl 16 rfl (by kernel_rfl) [.tmp 4] rfl [.agg (imgD m), .g (.sl 1 (d.map intG))] rfl _ ?_
  refine callIs (.inl rfl) (CheckData_any m hm d hd) ?_
  exact callIs (.inl rfl) (DataFault_any m hm d hd) ⟨rfl, retYes rfl⟩

set_option maxRecDepth 100000 in
theorem MemData_contract (H : Type) (enc : TypeId × Value → H) (W : World) (base : Nat) (args : Array Value) (ds gs : List (DataW H)) (before : List MemPlace)
    (hval : ∀ (j : Nat) t v, Tryd.f8.params[j]? = some t → args[j]? = some v → Value.okWide Tryd.prog W .any base t v)
    (hwt : (DataW.weightsEach Tryd.prog (Tryd.f8.params.toList ++ Rows.memDataSpec.plain.varTypes Tryd.prog) (ds ++ gs)).all (· ≤ reachBytes) = true)
    (hW : DataW.Whole enc Tryd.prog Tryd.f8.params.toList Rows.memDataSpec.vars false W args.toList ds gs before) (hL : laidMetH Tryd.prog Rows.memDataRow.laid W) :
    Calls Tryd.prog 8 args W fun e W' => ∃ v, e = .returned v ∧ Rows.memDataSpec.post enc Tryd.prog Tryd.f8 false true false false W args v W' := by
  refine law_contractW plainS_ok laidOut rfl ?_ rfl Tryd.underlying4 (pars_ok (by kernel_rfl)) W ?_ base args ds gs before hval hwt hW
  · intro ds hds
    match ds, hds with
    | [d0, d1], _ => rfl
  · intro args hargs
    obtain ⟨v0, r0, rfl, h0, hargs⟩ := hargs.inv
    obtain ⟨v1, r1, rfl, h1, hargs⟩ := hargs.inv
    obtain rfl := hargs.inv0
    obtain ⟨f0, g0, c0, rfl, t0, R0⟩ := h0.struct Tryd.underlying39
    obtain ⟨x0, rfl, b0⟩ := dec_Image t0
    obtain ⟨f1, g1, t1, R1⟩ := h1.slice Tryd.underlying28
    obtain ⟨x1, rfl, i1, b1⟩ := dec_ints t1
    exact law_of_ctG (gl_ok hL) (MemData_walk x0 b0 x1 i1 b1) (args_cons (arg_agg R0) (args_cons (arg_g R1) args_nil))
/-- A world for the witness: the settled one, the table holding what its initialiser lays. -/
noncomputable def MemData_world (os : Os) : World :=
  { World.holding Tryd.prog os ⟨#[], #[], []⟩ with heap := (World.holding Tryd.prog os ⟨#[], #[], []⟩).heap.modify 0 fun
      | .cells _ t frozen => .cells (ofRows.flatten.map fun z => Value.int .i64 z).toArray t frozen
      | o => o }
theorem MemData_met (os : Os) : laidMet Tryd.prog Rows.memDataRow.laid ((MemData_world os).forCall (fun _ _ => 0) ⟨#[], #[.agg #[.slice none 0 0], .slice none 0 0], []⟩).memory :=
  laidMet_of_run' 8 (by kernel_rfl) (by kernel_rfl)
theorem MemData_reads (os : Os) {H : Type} (enc : TypeId × Value → H) : ∃ places, DataW.whole enc Tryd.prog ((MemData_world os).forCall (fun _ _ => 0) ⟨#[], #[.agg #[.slice none 0 0], .slice none 0 0], []⟩).memory Tryd.f8.params.toList Rows.memDataSpec.vars false (#[.agg #[.slice none 0 0], .slice none 0 0] : Array Value).toList 8 = some ([.agg [.nil], .nil], [], places) :=
  ⟨[], by kernel_rfl⟩
set_option maxRecDepth 100000 in
theorem MemData_lifted (os : Os) (started : os.Started) (H : Type) (enc : TypeId × Value → H) (F : Stop.Interp) :
    ReturnsInHanded {} Tryd.checked os 8 .any ((OpenSpec.ofChange Rows.memDataSpec).preRow enc Tryd.prog Tryd.f8 Rows.memDataRow.domain false Rows.memDataRow.laid) (((OpenSpec.ofChange Rows.memDataSpec).at F).post enc Tryd.prog Tryd.f8 false true false false) := by
  obtain ⟨places, hx⟩ := MemData_reads os enc
  refine returnsInHanded_of_row (C := Tryd.checked) (s := OpenSpec.ofChange Rows.memDataSpec) own started (by kernel_rfl) Tryd.func8
    (witness_row_at (enc := enc) (C := Tryd.checked) false (MemData_world os) #[.agg #[.slice none 0 0], .slice none 0 0] rfl (by kernel_rfl) (by kernel_rfl) (by kernel_rfl)
      (OpenSpec.preRow_of_cond 8 hx (by kernel_rfl) (fun k hk => by cases hk) (by kernel_rfl) (MemData_met os))) ?_
  intro W base args ds gs before hval hW _ _ hwt hL _ _
  exact MemData_contract H enc W base args ds gs before hval hwt hW hL
theorem MemData_row : Rows.MemDataSaid := MemData_over MemData_lifted
/-- THE CARD. -/
theorem MemData_said : Rows.MemDataCardSaid :=
  Claim7.holds_tied_plain_at .later [] _ _ _ _ MemData_row (fun _ h => by cases h) (by kernel_rfl) (fun _ h => by cases h) memData_row_tie rfl ⟨rfl, rfl⟩ (by kernel_rfl) rfl MemData_plain (by kernel_rfl)
#print axioms MemData_said
end Go.Proofs.YtencdcmbfeeekaaDoor
