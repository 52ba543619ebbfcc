/-
  mem.Check answers what P3.1 says: the law MemChecks returns true for every image, wherever the table of package code holds what the program's text lays there.
-/
import Derived.Test.YtencdcmbfeeekaaDoorJMemChecks
import Derived.Test.YtencdcmbfeeekaaDoorCards
import Derived.Test.YtencdcmbfeeekaaDoorTie
import Derived.Test.YtencdcmbfeeekaaDoorMc
namespace Go.Proofs.YtencdcmbfeeekaaDoor
open Go Go.Dm Go.Eng Go.RowKit Go.ChangeShapes Go.WideShapes Go.ChangeAt Barb

theorem MemChecks_walk (m : Image) (hm : Image.I m) : CT Tryd.prog gl 6 [.agg (imgD m)] (Is (.g (.bool true))) := by
  refine enter hT hF hM Tryd.func6 rfl 12 rfl (by kernel_rfl) [.tmp 2] rfl [.agg (imgD m)] rfl _ ?_
  refine callIs (.inl rfl) (MemCheck_any m hm) ?_
  exact callIs (.inl rfl) (ImageFault_any m hm) ⟨rfl, retYes rfl⟩

set_option maxRecDepth 100000 in
theorem MemChecks_contract (H : Type) (enc : TypeId × Value → H) (W : World) (base : Nat) (args : Array Value) (ds gs : List (DataW H)) (before : List MemPlace)
    (hval : ∀ (j : Nat) t v, Tryd.f6.params[j]? = some t → args[j]? = some v → Value.okWide Tryd.prog W .any base t v)
    (hwt : (DataW.weightsEach Tryd.prog (Tryd.f6.params.toList ++ Rows.memChecksSpec.plain.varTypes Tryd.prog) (ds ++ gs)).all (· ≤ reachBytes) = true)
    (hW : DataW.Whole enc Tryd.prog Tryd.f6.params.toList Rows.memChecksSpec.vars false W args.toList ds gs before) (hL : laidMetH Tryd.prog Rows.memChecksRow.laid W) :
    Calls Tryd.prog 6 args W fun e W' => ∃ v, e = .returned v ∧ Rows.memChecksSpec.post enc Tryd.prog Tryd.f6 false true false false W args v W' := by
  refine law_contractW plainS_ok laidOut rfl ?_ rfl Tryd.underlying4 (pars_ok (by kernel_rfl)) W ?_ base args ds gs before hval hwt hW
  · intro ds hds
    match ds, hds with
    | [d0], _ => rfl
  · intro args hargs
    obtain ⟨v0, r0, rfl, h0, hargs⟩ := hargs.inv
    obtain rfl := hargs.inv0
    obtain ⟨f0, g0, c0, rfl, t0, R0⟩ := h0.struct Tryd.underlying39
    obtain ⟨x0, rfl, b0⟩ := dec_Image t0
    exact law_of_ctG (gl_ok hL) (MemChecks_walk x0 b0) (args_cons (arg_agg R0) args_nil)
/-- A world for the witness: the settled one, the table holding what its initialiser lays. -/
noncomputable def MemChecks_world (os : Os) : World :=
  { World.holding Tryd.prog os ⟨#[], #[], []⟩ with heap := (World.holding Tryd.prog os ⟨#[], #[], []⟩).heap.modify 0 fun
      | .cells _ t frozen => .cells (ofRows.flatten.map fun z => Value.int .i64 z).toArray t frozen
      | o => o }
theorem MemChecks_met (os : Os) : laidMet Tryd.prog Rows.memChecksRow.laid ((MemChecks_world os).forCall (fun _ _ => 0) ⟨#[], #[.agg #[.slice none 0 0]], []⟩).memory :=
  laidMet_of_run' 8 (by kernel_rfl) (by kernel_rfl)
theorem MemChecks_reads (os : Os) {H : Type} (enc : TypeId × Value → H) : ∃ places, DataW.whole enc Tryd.prog ((MemChecks_world os).forCall (fun _ _ => 0) ⟨#[], #[.agg #[.slice none 0 0]], []⟩).memory Tryd.f6.params.toList Rows.memChecksSpec.vars false (#[.agg #[.slice none 0 0]] : Array Value).toList 8 = some ([.agg [.nil]], [], places) :=
  ⟨[], by kernel_rfl⟩
set_option maxRecDepth 100000 in
theorem MemChecks_lifted (os : Os) (started : os.Started) (H : Type) (enc : TypeId × Value → H) (F : Stop.Interp) :
    ReturnsInHanded {} Tryd.checked os 6 .any ((OpenSpec.ofChange Rows.memChecksSpec).preRow enc Tryd.prog Tryd.f6 Rows.memChecksRow.domain false Rows.memChecksRow.laid) (((OpenSpec.ofChange Rows.memChecksSpec).at F).post enc Tryd.prog Tryd.f6 false true false false) := by
  obtain ⟨places, hx⟩ := MemChecks_reads os enc
  refine returnsInHanded_of_row (C := Tryd.checked) (s := OpenSpec.ofChange Rows.memChecksSpec) own started (by kernel_rfl) Tryd.func6
    (witness_row_at (enc := enc) (C := Tryd.checked) false (MemChecks_world os) #[.agg #[.slice none 0 0]] rfl (by kernel_rfl) (by kernel_rfl) (by kernel_rfl)
      (OpenSpec.preRow_of_cond 8 hx (by kernel_rfl) (fun k hk => by cases hk) (by kernel_rfl) (MemChecks_met os))) ?_
  intro W base args ds gs before hval hW _ _ hwt hL _ _
  exact MemChecks_contract H enc W base args ds gs before hval hwt hW hL
theorem MemChecks_row : Rows.MemChecksSaid := MemChecks_over MemChecks_lifted
/-- THE CARD. -/
theorem MemChecks_said : Rows.MemChecksCardSaid :=
  Claim7.holds_tied_plain_at .later [] _ _ _ _ MemChecks_row (fun _ h => by cases h) (by kernel_rfl) (fun _ h => by cases h) memChecks_row_tie rfl ⟨rfl, rfl⟩ (by kernel_rfl) rfl MemChecks_plain (by kernel_rfl)
#print axioms MemChecks_said
end Go.Proofs.YtencdcmbfeeekaaDoor
