/-
  code.Check answers what P2.1 says: the law CodeChecks returns true for every instruction, wherever the table of package code holds what the program's text lays there.
-/
import Derived.Test.YtencdcmbfeeekaaDoorJCodeChecks
import Derived.Test.YtencdcmbfeeekaaDoorCards
import Derived.Test.YtencdcmbfeeekaaDoorTie
import Derived.Test.YtencdcmbfeeekaaDoorCk
namespace Go.Proofs.YtencdcmbfeeekaaDoor
open Go Go.Dm Go.Eng Go.RowKit Go.ChangeShapes Go.WideShapes Go.ChangeAt Barb

theorem CodeChecks_walk (x : Barb.Instr) (_ : x.I) : CT Tryd.prog gl 3 [.agg x.d] (Is (.g (.bool true))) := by
  refine enter hT hF hM Tryd.func3 rfl 12 rfl (by kernel_rfl) [.tmp 2] rfl [.agg x.d] rfl _ ?_
  refine callIs (.inl rfl) (Check_any x) ?_
  exact callIs (.inl rfl) (InstrFault_any x) ⟨rfl, retYes rfl⟩

set_option maxRecDepth 100000 in
theorem CodeChecks_contract (H : Type) (enc : TypeId × Value → H) (W : World) (base : Nat) (args : Array Value) (ds gs : List (DataW H)) (before : List MemPlace)
    (hval : ∀ (j : Nat) t v, Tryd.f3.params[j]? = some t → args[j]? = some v → Value.okWide Tryd.prog W .any base t v)
    (hwt : (DataW.weightsEach Tryd.prog (Tryd.f3.params.toList ++ Rows.codeChecksSpec.plain.varTypes Tryd.prog) (ds ++ gs)).all (· ≤ reachBytes) = true)
    (hW : DataW.Whole enc Tryd.prog Tryd.f3.params.toList Rows.codeChecksSpec.vars false W args.toList ds gs before) (hL : laidMetH Tryd.prog Rows.codeChecksRow.laid W) :
    Calls Tryd.prog 3 args W fun e W' => ∃ v, e = .returned v ∧ Rows.codeChecksSpec.post enc Tryd.prog Tryd.f3 false true false false W args v W' := by
  refine law_contractW plainS_ok laidOut rfl ?_ rfl Tryd.underlying4 (pars_ok (by kernel_rfl)) W ?_ base args ds gs before hval hwt hW
  · intro ds hds
    match ds, hds with
    | [d0], _ => rfl
  · intro args hargs
    obtain ⟨v0, r0, rfl, h0, hargs⟩ := hargs.inv
    obtain rfl := hargs.inv0
    obtain ⟨f0, g0, c0, rfl, t0, R0⟩ := h0.struct Tryd.underlying23
    obtain ⟨x0, rfl, b0⟩ := dec_Instr t0
    exact law_of_ctG (gl_ok hL) (CodeChecks_walk x0 b0) (args_cons (arg_agg R0) args_nil)
/-- A world for the witness: the settled one, the table holding what its initialiser lays. -/
noncomputable def CodeChecks_world (os : Os) : World :=
  { World.holding Tryd.prog os ⟨#[], #[], []⟩ with heap := (World.holding Tryd.prog os ⟨#[], #[], []⟩).heap.modify 0 fun
      | .cells _ t frozen => .cells (ofRows.flatten.map fun z => Value.int .i64 z).toArray t frozen
      | o => o }
theorem CodeChecks_met (os : Os) : laidMet Tryd.prog Rows.codeChecksRow.laid ((CodeChecks_world os).forCall (fun _ _ => 0) ⟨#[], #[.agg #[.int .i64 0, .int .i64 0, .int .i64 0, .int .i64 0]], []⟩).memory :=
  laidMet_of_run' 8 (by kernel_rfl) (by kernel_rfl)
theorem CodeChecks_reads (os : Os) {H : Type} (enc : TypeId × Value → H) : ∃ places, DataW.whole enc Tryd.prog ((CodeChecks_world os).forCall (fun _ _ => 0) ⟨#[], #[.agg #[.int .i64 0, .int .i64 0, .int .i64 0, .int .i64 0]], []⟩).memory Tryd.f3.params.toList Rows.codeChecksSpec.vars false (#[.agg #[.int .i64 0, .int .i64 0, .int .i64 0, .int .i64 0]] : Array Value).toList 8 = some ([.agg [.lit (.int .i64 0), .lit (.int .i64 0), .lit (.int .i64 0), .lit (.int .i64 0)]], [], places) :=
  ⟨[], by kernel_rfl⟩
set_option maxRecDepth 100000 in
theorem CodeChecks_lifted (os : Os) (started : os.Started) (H : Type) (enc : TypeId × Value → H) (F : Stop.Interp) :
    ReturnsInHanded {} Tryd.checked os 3 .any ((OpenSpec.ofChange Rows.codeChecksSpec).preRow enc Tryd.prog Tryd.f3 Rows.codeChecksRow.domain false Rows.codeChecksRow.laid) (((OpenSpec.ofChange Rows.codeChecksSpec).at F).post enc Tryd.prog Tryd.f3 false true false false) := by
  obtain ⟨places, hx⟩ := CodeChecks_reads os enc
  refine returnsInHanded_of_row (C := Tryd.checked) (s := OpenSpec.ofChange Rows.codeChecksSpec) own started (by kernel_rfl) Tryd.func3
    (witness_row_at (enc := enc) (C := Tryd.checked) false (CodeChecks_world os) #[.agg #[.int .i64 0, .int .i64 0, .int .i64 0, .int .i64 0]] rfl (by kernel_rfl) (by kernel_rfl) (by kernel_rfl)
      (OpenSpec.preRow_of_cond 8 hx (by kernel_rfl) (fun k hk => by cases hk) (by kernel_rfl) (CodeChecks_met os))) ?_
  intro W base args ds gs before hval hW _ _ hwt hL _ _
  exact CodeChecks_contract H enc W base args ds gs before hval hwt hW hL
theorem CodeChecks_row : Rows.CodeChecksSaid := CodeChecks_over CodeChecks_lifted
/-- THE CARD. -/
theorem CodeChecks_said : Rows.CodeChecksCardSaid :=
  Claim7.holds_tied_plain_at .later [] _ _ _ _ CodeChecks_row (fun _ h => by cases h) (by kernel_rfl) (fun _ h => by cases h) codeChecks_row_tie rfl ⟨rfl, rfl⟩ (by kernel_rfl) rfl CodeChecks_plain (by kernel_rfl)
#print axioms CodeChecks_said
end Go.Proofs.YtencdcmbfeeekaaDoor
