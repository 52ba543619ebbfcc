/-
  mach.Run answers what P4.1 says: the law MachRuns returns true for every image, words, part, entry, arguments and fuel, wherever the table of package code holds what the program's text lays there.
-/
import Derived.Test.YthbdbjnakknbkaaDoorJMachRuns
import Derived.Test.YthbdbjnakknbkaaDoorCards
import Derived.Test.YthbdbjnakknbkaaDoorTie
import Derived.Test.YthbdbjnakknbkaaDoorRo
import Derived.Test.YthbdbjnakknbkaaDoorRl
namespace Go.Proofs.YthbdbjnakknbkaaDoor
open Go Go.Dm Go.Eng Go.RowKit Go.ChangeShapes Go.WideShapes Go.ChangeAt Barb

set_option maxRecDepth 20000 in
theorem MachRuns_walk (m : Image) (hm : Image.I m) (d : List Int) (_ : ∀ x ∈ d, I64 x) (hd : d.length * 8 ≤ 140737488351232) (part : Int) (_ : I64 part) (entry : Int) (_ : I64 entry) (args : List Int) (_ : ∀ x ∈ args, I64 x) (hargs : args.length * 8 ≤ 140737488351232) (fuel : Int) (_ : I64 fuel) :
    CT Tryd.prog gl 5 [.agg (imgD m), .g (.sl 1 (d.map intG)), .g (.int part), .g (.int entry), .g (.sl 1 (args.map intG)), .g (.int fuel)] (Is (.g (.bool true))) := by
  obtain ⟨D, hD, hlen⟩ := runV_len m d part entry args fuel
  have h1 : (runV m d part entry args fuel).told.length ≤ 500 := hlen.told
  have h2 : (runV m d part entry args fuel).data.length = D := hlen.data
  have r1 := Run_any m hm d hd part entry args hargs fuel
  have r2 := RunOf_any m hm d hd part entry args fuel
  have s1 := sameO_any (runV m d part entry args fuel) (by omega) (by omega) hlen.calls hlen.args
  generalize runV m d part entry args fuel = o at r1 r2 s1
  generalize runE m d part entry args fuel = e at r1 r2
  refine enterT [1] hT hF hM Tryd.func5 rfl 53 rfl (by kernel_rfl) [.tmp 12] rfl [.agg (imgD m), .g (.sl 1 (d.map intG)), .g (.int part), .g (.int entry), .g (.sl 1 (args.map intG)), .g (.int fuel)] rfl _ ?_
  refine ⟨⟨by simp [maxLen]; omega, by simp; omega⟩, ?_⟩
  refine turnTo [.old 0] [(6, .ptr 0 0), (13, .g (.sl 1 (d.map intG)))] [.blk [.g (.sl 4 (m.map Part.g))] 27] ⟨rfl, .inl rfl, .inl rfl, rfl⟩ ?_
  refine callIs (.inl rfl) r1 ?_
  refine callIs (.inl rfl) r2 ?_
  refine ⟨fun _ => ?_, fun x => absurd rfl x⟩
  refine callIs (.inl rfl) s1 ?_
  refine callIs (.inl rfl) (sameInts_any d d (by omega)) ?_
  exact ⟨rfl, retYes rfl⟩

set_option maxRecDepth 100000 in
theorem MachRuns_contract (H : Type) (enc : TypeId × Value → H) (W : World) (base : Nat) (args : Array Value) (ds gs : List (DataW H)) (before : List MemPlace)
    (hval : ∀ (j : Nat) t v, Tryd.f5.params[j]? = some t → args[j]? = some v → Value.okWide Tryd.prog W .any base t v)
    (hwt : (DataW.weightsEach Tryd.prog (Tryd.f5.params.toList ++ Rows.machRunsSpec.plain.varTypes Tryd.prog) (ds ++ gs)).all (· ≤ reachBytes) = true)
    (hW : DataW.Whole enc Tryd.prog Tryd.f5.params.toList Rows.machRunsSpec.vars false W args.toList ds gs before) (hL : laidMetH Tryd.prog Rows.machRunsRow.laid W) :
    Calls Tryd.prog 5 args W fun e W' => ∃ v, e = .returned v ∧ Rows.machRunsSpec.post enc Tryd.prog Tryd.f5 false true false false W args v W' := by
  refine law_contractW plainS_ok laidOut rfl ?_ rfl Tryd.underlying4 (pars_ok (by kernel_rfl)) W ?_ base args ds gs before hval hwt hW
  · intro ds hds
    match ds, hds with
    | [d0, d1, d2, d3, d4, d5], _ => rfl
  · intro args hargs
    obtain ⟨v0, r0, rfl, h0, hargs⟩ := hargs.inv
    obtain ⟨v1, r1, rfl, h1, hargs⟩ := hargs.inv
    obtain ⟨v2, r2, rfl, h2, hargs⟩ := hargs.inv
    obtain ⟨v3, r3, rfl, h3, hargs⟩ := hargs.inv
    obtain ⟨v4, r4, rfl, h4, hargs⟩ := hargs.inv
    obtain ⟨v5, r5, rfl, h5, hargs⟩ := hargs.inv
    obtain rfl := hargs.inv0
    obtain ⟨f0, g0, c0, rfl, t0, R0⟩ := h0.struct Tryd.underlying27
    obtain ⟨x0, rfl, b0⟩ := dec_Image t0
    obtain ⟨f1, g1, t1, R1⟩ := h1.slice Tryd.underlying28
    obtain ⟨x1, rfl, i1, b1⟩ := dec_ints t1
    obtain ⟨x2, rfl, b2⟩ := h2.int Tryd.underlying3
    obtain ⟨x3, rfl, b3⟩ := h3.int Tryd.underlying3
    obtain ⟨f4, g4, t4, R4⟩ := h4.slice Tryd.underlying28
    obtain ⟨x4, rfl, i4, b4⟩ := dec_ints t4
    obtain ⟨x5, rfl, b5⟩ := h5.int Tryd.underlying3
    exact law_of_ctG (gl_ok hL) (MachRuns_walk x0 b0 x1 i1 b1 x2 b2 x3 b3 x4 i4 b4 x5 b5) (args_cons (arg_agg R0) (args_cons (arg_g R1) (args_cons (arg_g (by simp only [RepV])) (args_cons (arg_g (by simp only [RepV])) (args_cons (arg_g R4) (args_cons (arg_g (by simp only [RepV])) args_nil))))))
/-- A world for the witness: the settled one, the table holding what its initialiser lays. -/
noncomputable def MachRuns_world (os : Os) : World :=
  { World.holding Tryd.prog os ⟨#[], #[], []⟩ with heap := (World.holding Tryd.prog os ⟨#[], #[], []⟩).heap.modify 0 fun
      | .cells _ t frozen => .cells (ofRows.flatten.map fun z => Value.int .i64 z).toArray t frozen
      | o => o }
theorem MachRuns_met (os : Os) : laidMet Tryd.prog Rows.machRunsRow.laid ((MachRuns_world os).forCall (fun _ _ => 0) ⟨#[], #[.agg #[.slice none 0 0], .slice none 0 0, .int .i64 0, .int .i64 0, .slice none 0 0, .int .i64 0], []⟩).memory :=
  laidMet_of_run' 8 (by kernel_rfl) (by kernel_rfl)
theorem MachRuns_reads (os : Os) {H : Type} (enc : TypeId × Value → H) : ∃ places, DataW.whole enc Tryd.prog ((MachRuns_world os).forCall (fun _ _ => 0) ⟨#[], #[.agg #[.slice none 0 0], .slice none 0 0, .int .i64 0, .int .i64 0, .slice none 0 0, .int .i64 0], []⟩).memory Tryd.f5.params.toList Rows.machRunsSpec.vars false (#[.agg #[.slice none 0 0], .slice none 0 0, .int .i64 0, .int .i64 0, .slice none 0 0, .int .i64 0] : Array Value).toList 8 = some ([.agg [.nil], .nil, .lit (.int .i64 0), .lit (.int .i64 0), .nil, .lit (.int .i64 0)], [], places) :=
  ⟨[], by kernel_rfl⟩
set_option maxRecDepth 100000 in
theorem MachRuns_lifted (os : Os) (started : os.Started) (H : Type) (enc : TypeId × Value → H) (F : Stop.Interp) :
    ReturnsInHanded {} Tryd.checked os 5 .any ((OpenSpec.ofChange Rows.machRunsSpec).preRow enc Tryd.prog Tryd.f5 Rows.machRunsRow.domain false Rows.machRunsRow.laid) (((OpenSpec.ofChange Rows.machRunsSpec).at F).post enc Tryd.prog Tryd.f5 false true false false) := by
  obtain ⟨places, hx⟩ := MachRuns_reads os enc
  refine returnsInHanded_of_row (C := Tryd.checked) (s := OpenSpec.ofChange Rows.machRunsSpec) own started (by kernel_rfl) Tryd.func5
    (witness_row_at (enc := enc) (C := Tryd.checked) false (MachRuns_world os) #[.agg #[.slice none 0 0], .slice none 0 0, .int .i64 0, .int .i64 0, .slice none 0 0, .int .i64 0] rfl (by kernel_rfl) (by kernel_rfl) (by kernel_rfl)
      (OpenSpec.preRow_of_cond 8 hx (by kernel_rfl) (fun k hk => by cases hk) (by kernel_rfl) (MachRuns_met os))) ?_
  intro W base args ds gs before hval hW _ _ hwt hL _ _
  exact MachRuns_contract H enc W base args ds gs before hval hwt hW hL
theorem MachRuns_row : Rows.MachRunsSaid := MachRuns_over MachRuns_lifted
/-- THE CARD. -/
theorem MachRuns_said : Rows.MachRunsCardSaid :=
  Claim7.holds_tied_plain_at .later [] _ _ _ _ MachRuns_row (fun _ h => by cases h) (by kernel_rfl) (fun _ h => by cases h) machRuns_row_tie rfl ⟨rfl, rfl⟩ (by kernel_rfl) rfl MachRuns_plain (by kernel_rfl)
#print axioms MachRuns_said
end Go.Proofs.YthbdbjnakknbkaaDoor
