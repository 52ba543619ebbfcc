/-
  A loop of code ends by itself where it is given enough fuel, and is stopped where it is given less: the law MachineLoops returns true for every two numbers, wherever the table of package code holds what the program's text lays there.
-/
import Derived.Test.YthbdbjnakknbkaaDoorJMachineLoops
import Derived.Test.YthbdbjnakknbkaaDoorCards
import Derived.Test.YthbdbjnakknbkaaDoorTie
import Derived.Test.YthbdbjnakknbkaaDoorKr2
namespace Barb
open Go Go.Dm Go.Eng Go.Proofs.YthbdbjnakknbkaaDoor
theorem instrE_ok {i : Instr} (h1 : 1 ≤ i.op ∧ i.op ≤ 15) (hn : ¬instrBad i) : instrE i = 0 := by
  unfold instrE; rw [if_neg (fun h => h h1), if_neg hn]
abbrev codeL (k : Int) : List Instr := [⟨1, k, 0, 0⟩, ⟨5, 0, 0, 0⟩, ⟨4, 0, 0, 0⟩, ⟨10, 9, 0, 0⟩, ⟨4, 0, 0, 0⟩, ⟨1, 1, 0, 0⟩, ⟨8, 2, 0, 0⟩, ⟨5, 0, 0, 0⟩, ⟨9, 2, 0, 0⟩, ⟨1, 7, 0, 0⟩, ⟨13, 0, 0, 0⟩]
theorem codeL_ok {k : Int} (hk : 0 ≤ k ∧ k < 100) : (∀ i ∈ codeL k, i.I) ∧ ∀ i ∈ codeL k, instrE i = 0 := by
  constructor
  · intro i hi
    simp only [codeL, List.mem_cons, List.not_mem_nil, or_false] at hi
    rcases hi with rfl | rfl | rfl | rfl | rfl | rfl | rfl | rfl | rfl | rfl | rfl <;> (refine ⟨?_, ?_, ?_, ?_⟩ <;> (unfold I64; dsimp only; omega))
  · intro i hi
    simp only [codeL, List.mem_cons, List.not_mem_nil, or_false] at hi
    rcases hi with rfl | rfl | rfl | rfl | rfl | rfl | rfl | rfl | rfl | rfl | rfl <;> exact instrE_ok (by constructor <;> dsimp only <;> omega) (by unfold instrBad bdA bdB bdC; simp <;> omega)
abbrev oL : MO := ⟨[], [0, 0, 0], []⟩
abbrev FL (a j : Int) (ws : List Int) : PF := ⟨1, a, [j, 0, 0, 0, 0, 0, 0, 0], ws, -1⟩
/-- So many steps it takes, no fewer, and then it has answered seven. -/
def RunL (k : Int) (n : Nat) (t : PF) : Prop := (∀ f, f < n → iterS (img2 (codeL k) 0) f oL [t] = (3, 0, oL)) ∧ ∀ f, n ≤ f → iterS (img2 (codeL k) 0) f oL [t] = (1, 7, oL)
theorem RunL.stop {k : Int} {t : PF} (h : Barb.stepS (img2 (codeL k) 0) oL [] t = .stop 1 7 oL) : RunL k 1 t := by
  refine ⟨fun f hf => ?_, fun f hf => ?_⟩
  · obtain rfl : f = 0 := by omega
    rfl
  · obtain ⟨g, rfl⟩ : ∃ g, f = g + 1 := ⟨f - 1, by omega⟩
    have := iterS_snoc (img2 (codeL k) 0) g oL [] t
    rw [h] at this
    exact this
theorem RunL.go {k : Int} {n : Nat} {t t' : PF} (h : Barb.stepS (img2 (codeL k) 0) oL [] t = .go oL [t']) (hr : RunL k n t') : RunL k (n + 1) t := by
  have e : ∀ g, iterS (img2 (codeL k) 0) (g + 1) oL [t] = iterS (img2 (codeL k) 0) g oL [t'] := fun g => by
    have := iterS_snoc (img2 (codeL k) 0) g oL [] t
    rw [h] at this
    exact this
  refine ⟨fun f hf => ?_, fun f hf => ?_⟩
  · match f, hf with
    | 0, _ => rfl
    | g + 1, hf => rw [e]; exact hr.1 g (by omega)
  · obtain ⟨g, rfl⟩ : ∃ g, f = g + 1 := ⟨f - 1, by omega⟩
    rw [e]; exact hr.2 g (by omega)
theorem did_sub (m : Nat) : did 2 m 1 = (m + 65536 - 1) % 65536 := by unfold did; rfl
theorem do_less {j : Nat} (hj : j < 100) : doI 2 ((j : Int) + 1) 1 = (j : Int) := by
  unfold doI
  rw [if_neg (by omega), if_pos (by omega), show ((j : Int) + 1).toNat = j + 1 from by omega, show (2 : Int).toNat = 2 from rfl, show (1 : Int).toNat = 1 from rfl, did_sub]
  omega
theorem RunL.loop (k : Int) : ∀ (j : Nat), j < 100 → RunL k (7 * j + 4) (FL 2 j [])
  | 0, _ => by
    refine RunL.go (t' := FL 3 0 [0]) (by kernel_rfl) (RunL.go (t' := FL 9 0 []) (by kernel_rfl) (RunL.go (t' := FL 10 0 [7]) (by kernel_rfl) (RunL.stop (by kernel_rfl))))
  | j + 1, h => by
    have ih := RunL.loop k j (by omega)
    have e : 7 * (j + 1) + 4 = (7 * j + 4) + 1 + 1 + 1 + 1 + 1 + 1 + 1 := by omega
    rw [e]
    have hj : ((j + 1 : Nat) : Int) = (j : Int) + 1 := by omega
    rw [hj]
    have hd := do_less (j := j) (by omega)
    have hz : ¬((j : Int) + 1 = 0) := by omega
    have s1 : ∀ x : Int, Barb.stepS (img2 (codeL k) 0) oL [] (FL 2 x []) = .go oL [FL 3 x [x]] := fun x => rfl
    have s2 : ∀ x : Int, Barb.stepS (img2 (codeL k) 0) oL [] (FL 3 x [x]) = .go oL [if x = 0 then FL 9 x [] else FL 4 x []] := fun x => rfl
    have s3 : ∀ x : Int, Barb.stepS (img2 (codeL k) 0) oL [] (FL 4 x []) = .go oL [FL 5 x [x]] := fun x => rfl
    have s4 : ∀ x : Int, Barb.stepS (img2 (codeL k) 0) oL [] (FL 5 x [x]) = .go oL [FL 6 x [x, 1]] := fun x => rfl
    have s5 : ∀ x : Int, Barb.stepS (img2 (codeL k) 0) oL [] (FL 6 x [x, 1]) = .go oL [FL 7 x [doI 2 x 1]] := fun x => rfl
    have s6 : ∀ x y : Int, Barb.stepS (img2 (codeL k) 0) oL [] (FL 7 x [y]) = .go oL [FL 8 y []] := fun x y => rfl
    have s7 : ∀ x : Int, Barb.stepS (img2 (codeL k) 0) oL [] (FL 8 x []) = .go oL [FL 2 x []] := fun x => rfl
    have s2' := s2 ((j : Int) + 1)
    rw [if_neg hz] at s2'
    have s5' := s5 ((j : Int) + 1)
    rw [hd] at s5'
    exact (((((((ih.go (s7 _)).go (s6 _ _)).go s5').go (s4 _)).go (s3 _)).go s2').go (s1 _))
theorem RunL.all {j : Nat} (hj : j < 100) : RunL j (7 * j + 6) (FL 0 0 []) := by
  have e : 7 * j + 6 = (7 * j + 4) + 1 + 1 := by omega
  rw [e]
  have s1 : ∀ x : Int, Barb.stepS (img2 (codeL x) 0) oL [] (FL 0 0 []) = .go oL [FL 1 0 [x]] := fun x => rfl
  have s2 : ∀ x y : Int, Barb.stepS (img2 (codeL x) 0) oL [] (FL 1 0 [y]) = .go oL [FL 2 y []] := fun x y => rfl
  exact ((RunL.loop (j : Int) j hj).go (s2 _ _)).go (s1 _)
end Barb
namespace Go.Proofs.YthbdbjnakknbkaaDoor
open Go Go.Dm Go.Eng Go.RowKit Go.ChangeShapes Go.WideShapes Go.ChangeAt Barb
set_option maxRecDepth 20000 in
set_option maxHeartbeats 1000000 in
theorem MachineLoops_walk (n : Int) (hn : I64 n) (less : Int) (hl : I64 less) : CT Tryd.prog gl 6 [.g (.int n), .g (.int less)] (Is (.g (.bool true))) := by
  have hk := pickN_lo n (many := 100) (by decide)
  have pk := picked_any n 100 hn (by decide)
  generalize pickN n 100 = k0 at hk pk
  obtain ⟨k, rfl⟩ : ∃ k : Nat, k0 = (k : Int) := ⟨k0.toNat, by omega⟩
  have hm : (0 : Int) < 2 + 7 * (k : Int) + 2 + 2 := by omega
  have hx := pickN_lo less (many := 2 + 7 * (k : Int) + 2 + 2) hm
  have px := picked_any less (2 + 7 * (k : Int) + 2 + 2) hl hm
  generalize pickN less (2 + 7 * (k : Int) + 2 + 2) = x at hx px
  obtain ⟨c1, c2⟩ := codeL_ok (k := (k : Int)) ⟨by omega, by omega⟩
  have hI := img2_I (w := 0) c1 (Nat.le_of_ble_eq_true rfl) (by decide)
  have hR := RunL.all (j := k) (by omega)
  have run : ∀ (fuel : Int), 0 ≤ fuel → fuel ≤ 100000 → CT Tryd.prog gl 27 [.g (.sl 4 ((codeL (k : Int)).map Instr.g)), .g (.int ((0 : Nat) : Int)), .g (.int fuel)] (Is (.tuple [.agg (outOf (iterS (img2 (codeL (k : Int)) 0) fuel.toNat oL [FL 0 0 []])).d, .pb (runE (img2 (codeL (k : Int)) 0) (List.replicate (3 + 0) 0) 1 0 [] fuel = 0)])) := fun fuel h0 h1 => by
    obtain ⟨f, rfl⟩ : ∃ f : Nat, fuel = (f : Int) := ⟨fuel.toNat, by omega⟩
    have hV := (img2_run (w := 0) c2 (Nat.le_of_ble_eq_true rfl) (Nat.le_of_ble_eq_true rfl) (by decide) (fuel := f) (by omega)).2
    have h := runK_any (codeL (k : Int)) 0 (by decide) hI (f : Int)
    rw [hV] at h
    exact h
  have ok : ∀ (fuel : Int), 0 ≤ fuel → fuel ≤ 100000 → runE (img2 (codeL (k : Int)) 0) (List.replicate (3 + 0) 0) 1 0 [] fuel = 0 := fun fuel h0 h1 => by
    obtain ⟨f, rfl⟩ : ∃ f : Nat, fuel = (f : Int) := ⟨fuel.toNat, by omega⟩
    exact (img2_run (w := 0) c2 (Nat.le_of_ble_eq_true rfl) (Nat.le_of_ble_eq_true rfl) (by decide) (fuel := f) (by omega)).1
  have ran1 := run (2 + 7 * (k : Int) + 2 + 2) (by omega) (by omega)
  rw [hR.2 _ (by omega)] at ran1
  have ran2 := run x (by omega) (by omega)
  rw [hR.1 _ (by omega)] at ran2
  have ok1 := ok (2 + 7 * (k : Int) + 2 + 2) (by omega) (by omega)
  have ok2 := ok x (by omega) (by omega)
  generalize runE (img2 (codeL (k : Int)) 0) (List.replicate (3 + 0) 0) 1 0 [] (2 + 7 * (k : Int) + 2 + 2) = e1 at ran1 ok1
  generalize runE (img2 (codeL (k : Int)) 0) (List.replicate (3 + 0) 0) 1 0 [] x = e2 at ran2 ok2
  refine enterT [2] hT hF hM Tryd.func6 rfl 70 rfl (by kernel_rfl) [.tmp 4] rfl [.g (.int n), .g (.int less)] rfl _ ?_
  refine callIs (.inl rfl) pk ?_
  refine ⟨(codeL (k : Int)).map Instr.g, rfl, rfl, ⟨rfl, rfl, rfl, rfl, rfl, rfl, rfl, rfl, rfl, rfl, rfl, rfl, rfl, rfl, rfl, rfl, rfl, rfl, rfl, rfl, rfl, rfl, rfl, rfl, rfl, rfl, rfl, rfl, rfl, rfl, rfl, rfl, rfl, rfl, rfl, rfl, rfl, rfl, rfl, rfl, rfl, rfl, rfl, rfl, trivial⟩, ?_⟩
  refine turnTo [] [(6, .g (.sl 4 ((codeL (k : Int)).map Instr.g)))] [] ⟨rfl, .inl rfl, .inl rfl, rfl⟩ ?_
  refine ⟨by unfold I64; omega, ?_⟩
  refine ⟨_, I64.wrap (by unfold I64; omega), ?_⟩
  refine ⟨_, I64.wrap (by unfold I64; omega), ?_⟩
  refine ⟨_, I64.wrap (by unfold I64; omega), ?_⟩
  refine callIs (.inl rfl) ran1 ?_
  refine callIs (.inl rfl) px ?_
  refine callIs (.inl rfl) ran2 ?_
  refine ⟨fun _ => ⟨fun _ => ⟨fun _ => ⟨fun _ => ⟨fun _ => ?_, fun h => absurd rfl h⟩, fun h => absurd rfl h⟩, fun h => absurd rfl h⟩, fun h => absurd ok2 h⟩, fun h => absurd ok1 h⟩
  exact ⟨rfl, retYes rfl⟩


set_option maxRecDepth 100000 in
theorem MachineLoops_contract (H : Type) (enc : TypeId × Value → H) (W : World) (base : Nat) (args : Array Value) (ds gs : List (DataW H)) (before : List MemPlace)
    (hval : ∀ (j : Nat) t v, Tryd.f6.params[j]? = some t → args[j]? = some v → Value.okWide Tryd.prog W .any base t v)
    (hwt : (DataW.weightsEach Tryd.prog (Tryd.f6.params.toList ++ Rows.machineLoopsSpec.plain.varTypes Tryd.prog) (ds ++ gs)).all (· ≤ reachBytes) = true)
    (hW : DataW.Whole enc Tryd.prog Tryd.f6.params.toList Rows.machineLoopsSpec.vars false W args.toList ds gs before) (hL : laidMetH Tryd.prog Rows.machineLoopsRow.laid W) :
    Calls Tryd.prog 6 args W fun e W' => ∃ v, e = .returned v ∧ Rows.machineLoopsSpec.post enc Tryd.prog Tryd.f6 false true false false W args v W' := by
  refine law_contractW plainS_ok laidOut rfl ?_ rfl Tryd.underlying4 (pars_ok (by kernel_rfl)) W ?_ base args ds gs before hval hwt hW
  · intro ds hds
    match ds, hds with
    | [d0, d1], _ => rfl
  · intro args hargs
    obtain ⟨v0, r0, rfl, h0, hargs⟩ := hargs.inv
    obtain ⟨v1, r1, rfl, h1, hargs⟩ := hargs.inv
    obtain rfl := hargs.inv0
    obtain ⟨x0, rfl, b0⟩ := h0.int Tryd.underlying3
    obtain ⟨x1, rfl, b1⟩ := h1.int Tryd.underlying3
    exact law_of_ctG (gl_ok hL) (MachineLoops_walk x0 b0 x1 b1) (args_cons (arg_g (by simp only [RepV])) (args_cons (arg_g (by simp only [RepV])) args_nil))
/-- A world for the witness: the settled one, the table holding what its initialiser lays. -/
noncomputable def MachineLoops_world (os : Os) : World :=
  { World.holding Tryd.prog os ⟨#[], #[], []⟩ with heap := (World.holding Tryd.prog os ⟨#[], #[], []⟩).heap.modify 0 fun
      | .cells _ t frozen => .cells (ofRows.flatten.map fun z => Value.int .i64 z).toArray t frozen
      | o => o }
theorem MachineLoops_met (os : Os) : laidMet Tryd.prog Rows.machineLoopsRow.laid ((MachineLoops_world os).forCall (fun _ _ => 0) ⟨#[], #[.int .i64 0, .int .i64 0], []⟩).memory :=
  laidMet_of_run' 8 (by kernel_rfl) (by kernel_rfl)
theorem MachineLoops_reads (os : Os) {H : Type} (enc : TypeId × Value → H) : ∃ places, DataW.whole enc Tryd.prog ((MachineLoops_world os).forCall (fun _ _ => 0) ⟨#[], #[.int .i64 0, .int .i64 0], []⟩).memory Tryd.f6.params.toList Rows.machineLoopsSpec.vars false (#[.int .i64 0, .int .i64 0] : Array Value).toList 8 = some ([.lit (.int .i64 0), .lit (.int .i64 0)], [], places) :=
  ⟨[], by kernel_rfl⟩
set_option maxRecDepth 100000 in
theorem MachineLoops_lifted (os : Os) (started : os.Started) (H : Type) (enc : TypeId × Value → H) (F : Stop.Interp) :
    ReturnsInHanded {} Tryd.checked os 6 .any ((OpenSpec.ofChange Rows.machineLoopsSpec).preRow enc Tryd.prog Tryd.f6 Rows.machineLoopsRow.domain false Rows.machineLoopsRow.laid) (((OpenSpec.ofChange Rows.machineLoopsSpec).at F).post enc Tryd.prog Tryd.f6 false true false false) := by
  obtain ⟨places, hx⟩ := MachineLoops_reads os enc
  refine returnsInHanded_of_row (C := Tryd.checked) (s := OpenSpec.ofChange Rows.machineLoopsSpec) own started (by kernel_rfl) Tryd.func6
    (witness_row_at (enc := enc) (C := Tryd.checked) false (MachineLoops_world os) #[.int .i64 0, .int .i64 0] rfl (by kernel_rfl) (by kernel_rfl) (by kernel_rfl)
      (OpenSpec.preRow_of_cond 8 hx (by kernel_rfl) (fun k hk => by cases hk) (by kernel_rfl) (MachineLoops_met os))) ?_
  intro W base args ds gs before hval hW _ _ hwt hL _ _
  exact MachineLoops_contract H enc W base args ds gs before hval hwt hW hL
theorem MachineLoops_row : Rows.MachineLoopsSaid := MachineLoops_over MachineLoops_lifted
/-- THE CARD. -/
theorem MachineLoops_said : Rows.MachineLoopsCardSaid :=
  Claim7.holds_tied_plain_at .later [] _ _ _ _ MachineLoops_row (fun _ h => by cases h) (by kernel_rfl) (fun _ h => by cases h) machineLoops_row_tie rfl ⟨rfl, rfl⟩ (by kernel_rfl) rfl MachineLoops_plain (by kernel_rfl)
#print axioms MachineLoops_said
end Go.Proofs.YthbdbjnakknbkaaDoor
