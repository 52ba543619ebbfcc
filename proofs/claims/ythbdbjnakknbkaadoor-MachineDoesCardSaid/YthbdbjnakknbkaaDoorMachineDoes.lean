/-
  Code does words' operations, and tells and returns what comes of it: the law MachineDoes returns true for every three numbers, wherever the table of package code holds what the program's text lays there.
-/
import Derived.Test.YthbdbjnakknbkaaDoorJMachineDoes
import Derived.Test.YthbdbjnakknbkaaDoorCards
import Derived.Test.YthbdbjnakknbkaaDoorTie
import Derived.Test.YthbdbjnakknbkaaDoorKr2
namespace Barb
open Go Go.Dm Go.Eng Go.Proofs.YthbdbjnakknbkaaDoor
theorem instrE_ok {i : Instr} (h1 : 1 ≤ i.op ∧ i.op ≤ 15) (hn : ¬instrBad i) : instrE i = 0 := by
  unfold instrE; rw [if_neg (fun h => h h1), if_neg hn]
abbrev codeD (k x y : Int) : List Instr := [⟨1, x, 0, 0⟩, ⟨1, y, 0, 0⟩, ⟨8, k, 0, 0⟩, ⟨3, 0, 0, 0⟩, ⟨14, 0, 0, 0⟩, ⟨13, 0, 0, 0⟩]
theorem codeD_ok {k x y : Int} (hk : 1 ≤ k ∧ k ≤ 10) (hx : 0 ≤ x ∧ x ≤ 65535) (hy : 0 ≤ y ∧ y ≤ 65535) : (∀ i ∈ codeD k x y, i.I) ∧ ∀ i ∈ codeD k x y, instrE i = 0 := by
  constructor
  · intro i hi
    simp only [codeD, List.mem_cons, List.not_mem_nil, or_false] at hi
    rcases hi with rfl | rfl | rfl | rfl | rfl | rfl <;> (refine ⟨?_, ?_, ?_, ?_⟩ <;> (unfold I64; dsimp only; omega))
  · intro i hi
    simp only [codeD, List.mem_cons, List.not_mem_nil, or_false] at hi
    rcases hi with rfl | rfl | rfl | rfl | rfl | rfl <;> exact instrE_ok (by constructor <;> dsimp only <;> omega) (by unfold instrBad bdA bdB bdC; simp <;> omega)
theorem codeD_does (k x y : Int) : iterS (img2 (codeD k x y) ((0 : Nat) : Int)) 100 ⟨[], List.replicate (3 + 0) 0, []⟩ [⟨1, 0, p8 [], [], -1⟩] = (1, doI k x y, ⟨[doI k x y], [0, 0, 0], []⟩) := by
  kernel_rfl
end Barb
namespace Go.Proofs.YthbdbjnakknbkaaDoor
open Go Go.Dm Go.Eng Go.RowKit Go.ChangeShapes Go.WideShapes Go.ChangeAt Barb
set_option maxRecDepth 20000 in
set_option maxHeartbeats 1000000 in
theorem MachineDoes_walk (op : Int) (hop : I64 op) (a : Int) (ha : I64 a) (b : Int) (hb : I64 b) : CT Tryd.prog gl 7 [.g (.int op), .g (.int a), .g (.int b)] (Is (.g (.bool true))) := by
  have hk := pickN_lo op (many := 10) (by decide)
  have hx := pickN_lo a (many := 65536) (by decide)
  have hy := pickN_lo b (many := 65536) (by decide)
  have pk := picked_any op 10 hop (by decide)
  have px := picked_any a 65536 ha (by decide)
  have py := picked_any b 65536 hb (by decide)
  generalize pickN op 10 = k0 at hk pk
  generalize pickN a 65536 = x at hx px
  generalize pickN b 65536 = y at hy py
  obtain ⟨c1, c2⟩ := codeD_ok (k := 1 + k0) (x := x) (y := y) ⟨by omega, by omega⟩ ⟨by omega, by omega⟩ ⟨by omega, by omega⟩
  obtain ⟨hE, hV⟩ := img2_run (w := 0) c2 (Nat.le_of_ble_eq_true rfl) (Nat.le_of_ble_eq_true rfl) (by decide) (fuel := 100) (by decide)
  rw [codeD_does] at hV
  have hdo : doE (1 + k0) x y = 0 := by unfold doE; rw [if_neg (by omega), if_pos ⟨⟨by omega, by omega⟩, by omega, by omega⟩]
  have hrun := runK_any (codeD (1 + k0) x y) 0 (by decide) (img2_I c1 (Nat.le_of_ble_eq_true rfl) (by decide)) 100
  have hE' : runE (img2 (codeD (1 + k0) x y) ((0 : Nat) : Int)) (List.replicate (3 + 0) 0) 1 0 [] 100 = 0 := hE
  have hV' : runV (img2 (codeD (1 + k0) x y) ((0 : Nat) : Int)) (List.replicate (3 + 0) 0) 1 0 [] 100 = ⟨1, doI (1 + k0) x y, [doI (1 + k0) x y], [0, 0, 0], []⟩ := hV
  rw [hV'] at hrun
  refine enter hT hF hM Tryd.func7 rfl 65 rfl (by kernel_rfl) [.tmp 6] rfl [.g (.int op), .g (.int a), .g (.int b)] rfl _ ?_
  refine callIs (.inl rfl) pk ⟨_, I64.wrap (by unfold I64; omega), ?_⟩
  refine callIs (.inl rfl) px ?_
  refine callIs (.inl rfl) py ?_
  refine callIs (.inl rfl) (Do_any _ _ _) ?_
  refine ⟨(codeD (1 + k0) x y).map Instr.g, rfl, rfl, ⟨rfl, rfl, rfl, rfl, rfl, rfl, rfl, rfl, rfl, rfl, rfl, rfl, rfl, rfl, rfl, rfl, rfl, rfl, rfl, rfl, rfl, rfl, rfl, rfl, trivial⟩, ?_⟩
  refine callIs (.inl rfl) hrun ?_
  refine ⟨fun _ => ⟨fun _ => ⟨fun _ => ⟨fun _ => ?_, fun h => absurd rfl h⟩, fun h => absurd rfl h⟩, fun h => absurd hdo h⟩, fun h => absurd hE' h⟩
  refine ⟨[[.int (doI (1 + k0) x y)]], rfl, rfl, ⟨rfl, trivial⟩, ?_⟩
  refine callIs (.inl rfl) (EqualN_any [doI (1 + k0) x y] (Nat.le_of_ble_eq_true rfl)) ?_
  exact ⟨rfl, retIs (.inl rfl)⟩

set_option maxRecDepth 100000 in
theorem MachineDoes_contract (H : Type) (enc : TypeId × Value → H) (W : World) (base : Nat) (args : Array Value) (ds gs : List (DataW H)) (before : List MemPlace)
    (hval : ∀ (j : Nat) t v, Tryd.f7.params[j]? = some t → args[j]? = some v → Value.okWide Tryd.prog W .any base t v)
    (hwt : (DataW.weightsEach Tryd.prog (Tryd.f7.params.toList ++ Rows.machineDoesSpec.plain.varTypes Tryd.prog) (ds ++ gs)).all (· ≤ reachBytes) = true)
    (hW : DataW.Whole enc Tryd.prog Tryd.f7.params.toList Rows.machineDoesSpec.vars false W args.toList ds gs before) (hL : laidMetH Tryd.prog Rows.machineDoesRow.laid W) :
    Calls Tryd.prog 7 args W fun e W' => ∃ v, e = .returned v ∧ Rows.machineDoesSpec.post enc Tryd.prog Tryd.f7 false true false false W args v W' := by
  refine law_contractW plainS_ok laidOut rfl ?_ rfl Tryd.underlying4 (pars_ok (by kernel_rfl)) W ?_ base args ds gs before hval hwt hW
  · intro ds hds
    match ds, hds with
    | [d0, d1, d2], _ => rfl
  · intro args hargs
    obtain ⟨v0, r0, rfl, h0, hargs⟩ := hargs.inv
    obtain ⟨v1, r1, rfl, h1, hargs⟩ := hargs.inv
    obtain ⟨v2, r2, rfl, h2, hargs⟩ := hargs.inv
    obtain rfl := hargs.inv0
    obtain ⟨x0, rfl, b0⟩ := h0.int Tryd.underlying3
    obtain ⟨x1, rfl, b1⟩ := h1.int Tryd.underlying3
    obtain ⟨x2, rfl, b2⟩ := h2.int Tryd.underlying3
    exact law_of_ctG (gl_ok hL) (MachineDoes_walk x0 b0 x1 b1 x2 b2) (args_cons (arg_g (by simp only [RepV])) (args_cons (arg_g (by simp only [RepV])) (args_cons (arg_g (by simp only [RepV])) args_nil)))
/-- A world for the witness: the settled one, the table holding what its initialiser lays. -/
noncomputable def MachineDoes_world (os : Os) : World :=
  { World.holding Tryd.prog os ⟨#[], #[], []⟩ with heap := (World.holding Tryd.prog os ⟨#[], #[], []⟩).heap.modify 0 fun
      | .cells _ t frozen => .cells (ofRows.flatten.map fun z => Value.int .i64 z).toArray t frozen
      | o => o }
theorem MachineDoes_met (os : Os) : laidMet Tryd.prog Rows.machineDoesRow.laid ((MachineDoes_world os).forCall (fun _ _ => 0) ⟨#[], #[.int .i64 0, .int .i64 0, .int .i64 0], []⟩).memory :=
  laidMet_of_run' 8 (by kernel_rfl) (by kernel_rfl)
theorem MachineDoes_reads (os : Os) {H : Type} (enc : TypeId × Value → H) : ∃ places, DataW.whole enc Tryd.prog ((MachineDoes_world os).forCall (fun _ _ => 0) ⟨#[], #[.int .i64 0, .int .i64 0, .int .i64 0], []⟩).memory Tryd.f7.params.toList Rows.machineDoesSpec.vars false (#[.int .i64 0, .int .i64 0, .int .i64 0] : Array Value).toList 8 = some ([.lit (.int .i64 0), .lit (.int .i64 0), .lit (.int .i64 0)], [], places) :=
  ⟨[], by kernel_rfl⟩
set_option maxRecDepth 100000 in
theorem MachineDoes_lifted (os : Os) (started : os.Started) (H : Type) (enc : TypeId × Value → H) (F : Stop.Interp) :
    ReturnsInHanded {} Tryd.checked os 7 .any ((OpenSpec.ofChange Rows.machineDoesSpec).preRow enc Tryd.prog Tryd.f7 Rows.machineDoesRow.domain false Rows.machineDoesRow.laid) (((OpenSpec.ofChange Rows.machineDoesSpec).at F).post enc Tryd.prog Tryd.f7 false true false false) := by
  obtain ⟨places, hx⟩ := MachineDoes_reads os enc
  refine returnsInHanded_of_row (C := Tryd.checked) (s := OpenSpec.ofChange Rows.machineDoesSpec) own started (by kernel_rfl) Tryd.func7
    (witness_row_at (enc := enc) (C := Tryd.checked) false (MachineDoes_world os) #[.int .i64 0, .int .i64 0, .int .i64 0] rfl (by kernel_rfl) (by kernel_rfl) (by kernel_rfl)
      (OpenSpec.preRow_of_cond 8 hx (by kernel_rfl) (fun k hk => by cases hk) (by kernel_rfl) (MachineDoes_met os))) ?_
  intro W base args ds gs before hval hW _ _ hwt hL _ _
  exact MachineDoes_contract H enc W base args ds gs before hval hwt hW hL
theorem MachineDoes_row : Rows.MachineDoesSaid := MachineDoes_over MachineDoes_lifted
/-- THE CARD. -/
theorem MachineDoes_said : Rows.MachineDoesCardSaid :=
  Claim7.holds_tied_plain_at .later [] _ _ _ _ MachineDoes_row (fun _ h => by cases h) (by kernel_rfl) (fun _ h => by cases h) machineDoes_row_tie rfl ⟨rfl, rfl⟩ (by kernel_rfl) rfl MachineDoes_plain (by kernel_rfl)
#print axioms MachineDoes_said
end Go.Proofs.YthbdbjnakknbkaaDoor
