/-
  Code that would leave what is its own is stopped: the law MachineWalls returns true for every two numbers, wherever the table of package code holds what the program's text lays there.
-/
import Derived.Test.YthbdbjnakknbkaaDoorJMachineWalls
import Derived.Test.YthbdbjnakknbkaaDoorCards
import Derived.Test.YthbdbjnakknbkaaDoorTie
import Derived.Test.YthbdbjnakknbkaaDoorKr2
namespace Barb
open Go Go.Dm Go.Eng Go.Proofs.YthbdbjnakknbkaaDoor
theorem instrE_ok {i : Instr} (h1 : 1 ≤ i.op ∧ i.op ≤ 15) (hn : ¬instrBad i) : instrE i = 0 := by
  unfold instrE; rw [if_neg (fun h => h h1), if_neg hn]
/-- A row of one's own, as what it holds. -/
theorem sees_row {h : Heap} {i : Nat} {xs : List (List GV)} {e : TypeId} {sz : Nat} {y : GV} (hi : h[i]? = some (.row xs e sz)) (hy : GV.sl sz xs = y) : Sees h (.row i) y := by
  unfold Sees
  simp only [hi]
  exact hy
abbrev codesW (a b c d : Int) : List (List Instr) :=
  [[⟨1, a, 0, 0⟩, ⟨1, 9, 0, 0⟩, ⟨7, 0, 0, 0⟩, ⟨1, 0, 0, 0⟩, ⟨13, 0, 0, 0⟩], [⟨1, a, 0, 0⟩, ⟨6, 0, 0, 0⟩, ⟨13, 0, 0, 0⟩], [⟨1, 7 + b, 0, 0⟩, ⟨6, 0, 0, 0⟩, ⟨13, 0, 0, 0⟩],
   [⟨12, 0, 1 + c, 0⟩, ⟨13, 0, 0, 0⟩], [⟨12, 2 + a, 0, 0⟩, ⟨13, 0, 0, 0⟩], [⟨1, 0, 0, 0⟩, ⟨1, 0, 0, 0⟩, ⟨12, 0, 0, 2⟩, ⟨13, 0, 0, 0⟩], [⟨12, 0, 0, 1⟩, ⟨13, 0, 0, 0⟩],
   [⟨2, 0, 0, 0⟩], [⟨13, 0, 0, 0⟩], [⟨9, 5 + d, 0, 0⟩], [⟨1, 0, 0, 0⟩, ⟨9, 0, 0, 0⟩]]
abbrev oW : MO := ⟨[], [0, 0, 0, 0, 0, 0, 0], []⟩
abbrev FW (a : Int) (ws : List Int) : PF := ⟨1, a, [0, 0, 0, 0, 0, 0, 0, 0], ws, -1⟩
theorem it_go {m : Image} {o o' : MO} {t t' : PF} {n : Nat} {x : Int × Int × MO} (h : Barb.stepS m o [] t = .go o' [t']) (hx : iterS m n o' [t'] = x) : iterS m (n + 1) o [t] = x := by
  have := iterS_snoc m n o [] t
  rw [h] at this
  exact this.trans hx
theorem it_stop {m : Image} {o o' : MO} {t : PF} {n : Nat} {c v : Int} (h : Barb.stepS m o [] t = .stop c v o') : iterS m (n + 1) o [t] = (c, v, o') := by
  have := iterS_snoc m n o [] t
  rw [h] at this
  exact this
structure WallOk (c : List Instr) : Prop where
  I : ∀ i ∈ c, i.I
  E : ∀ i ∈ c, instrE i = 0
  lo : 0 < c.length
  hi : c.length ≤ 100
  stop : iterS (img2 c 4) 1000 oW [FW 0 []] = (4, 0, oW)
theorem wall_ok {a b c d : Int} (ha : 0 ≤ a ∧ a < 3) (hb : 0 ≤ b ∧ b < 60000) (hc : 0 ≤ c ∧ c < 7) (hd : 0 ≤ d ∧ d < 50) : ∀ l ∈ codesW a b c d, WallOk l := by
  intro l hl
  have hI : ∀ i ∈ l, i.I := fun i hi => by
    simp only [codesW, List.mem_cons, List.not_mem_nil, or_false] at hl
    rcases hl with rfl | rfl | rfl | rfl | rfl | rfl | rfl | rfl | rfl | rfl | rfl <;> simp only [List.mem_cons, List.not_mem_nil, or_false] at hi
    all_goals (repeat' (refine Or.elim hi (fun hi => ?_) (fun hi => ?_)))
    all_goals subst hi
    all_goals (refine ⟨?_, ?_, ?_, ?_⟩ <;> (unfold I64; dsimp only; omega))
  have hE : ∀ i ∈ l, instrE i = 0 := fun i hi => by
    simp only [codesW, List.mem_cons, List.not_mem_nil, or_false] at hl
    rcases hl with rfl | rfl | rfl | rfl | rfl | rfl | rfl | rfl | rfl | rfl | rfl <;> simp only [List.mem_cons, List.not_mem_nil, or_false] at hi
    all_goals (repeat' (refine Or.elim hi (fun hi => ?_) (fun hi => ?_)))
    all_goals subst hi
    all_goals exact instrE_ok (by constructor <;> dsimp only <;> omega) (by unfold instrBad bdA bdB bdC; simp <;> omega)
  have hs : 0 < l.length ∧ l.length ≤ 100 := by
    simp only [codesW, List.mem_cons, List.not_mem_nil, or_false] at hl
    rcases hl with rfl | rfl | rfl | rfl | rfl | rfl | rfl | rfl | rfl | rfl | rfl <;> (constructor <;> simp)
  refine ⟨hI, hE, hs.1, hs.2, ?_⟩
  have ha3 : a = 0 ∨ a = 1 ∨ a = 2 := by omega
  simp only [codesW, List.mem_cons, List.not_mem_nil, or_false] at hl
  rcases hl with rfl | rfl | rfl | rfl | rfl | rfl | rfl | rfl | rfl | rfl | rfl
  · rcases ha3 with rfl | rfl | rfl <;> (show iterS _ 1000 oW [FW 0 []] = _; kernel_rfl)
  · rcases ha3 with rfl | rfl | rfl <;> (show iterS _ 1000 oW [FW 0 []] = _; kernel_rfl)
  · have s1 : Barb.stepS (img2 [⟨1, 7 + b, 0, 0⟩, ⟨6, 0, 0, 0⟩, ⟨13, 0, 0, 0⟩] 4) oW [] (FW 0 []) = .go oW [FW 1 [7 + b]] := rfl
    have s2 : Barb.stepS (img2 [⟨1, 7 + b, 0, 0⟩, ⟨6, 0, 0, 0⟩, ⟨13, 0, 0, 0⟩] 4) oW [] (FW 1 [7 + b]) = if isOwn ⟨[⟨1, 7 + b, 0, 0⟩, ⟨6, 0, 0, 0⟩, ⟨13, 0, 0, 0⟩], [⟨0, 0⟩], 3, 3 + 4⟩ (7 + b) then .go oW [FW 2 [oW.data.getD (7 + b).toNat 0]] else .stop 4 0 oW := rfl
    rw [if_neg (by unfold isOwn; dsimp only; omega)] at s2
    exact it_go s1 (it_stop s2)
  · have h7 : c = 0 ∨ c = 1 ∨ c = 2 ∨ c = 3 ∨ c = 4 ∨ c = 5 ∨ c = 6 := by omega
    rcases h7 with rfl | rfl | rfl | rfl | rfl | rfl | rfl <;> (show iterS _ 1000 oW [FW 0 []] = _; kernel_rfl)
  · rcases ha3 with rfl | rfl | rfl <;> (show iterS _ 1000 oW [FW 0 []] = _; kernel_rfl)
  · show iterS _ 1000 oW [FW 0 []] = _; kernel_rfl
  · show iterS _ 1000 oW [FW 0 []] = _; kernel_rfl
  · show iterS _ 1000 oW [FW 0 []] = _; kernel_rfl
  · show iterS _ 1000 oW [FW 0 []] = _; kernel_rfl
  · have s1 : Barb.stepS (img2 [⟨9, 5 + d, 0, 0⟩] 4) oW [] (FW 0 []) = .go oW [FW (5 + d) []] := rfl
    have s2 : Barb.stepS (img2 [⟨9, 5 + d, 0, 0⟩] 4) oW [] (FW (5 + d) []) = .stop 4 0 oW := by
      unfold Barb.stepS
      exact if_pos (by show 5 + d ≥ 1; omega)
    exact it_go s1 (it_stop s2)
  · show iterS _ 1000 oW [FW 0 []] = _; kernel_rfl
end Barb
namespace Go.Proofs.YthbdbjnakknbkaaDoor
open Go Go.Dm Go.Eng Go.RowKit Go.ChangeShapes Go.WideShapes Go.ChangeAt Barb
set_option maxRecDepth 20000 in
set_option maxHeartbeats 1000000 in
theorem MachineWalls_walk (n : Int) (hn : I64 n) (way : Int) (hl : I64 way) : CT Tryd.prog gl 8 [.g (.int n), .g (.int way)] (Is (.g (.bool true))) := by
  have ha := pickN_lo way (many := 3) (by decide)
  have hb := pickN_lo way (many := 60000) (by decide)
  have hc := pickN_lo way (many := 7) (by decide)
  have hd := pickN_lo way (many := 50) (by decide)
  have hj := pickN_lo n (many := 11) (by decide)
  have pa := picked_any way 3 hl (by decide)
  have pb := picked_any way 60000 hl (by decide)
  have pc := picked_any way 7 hl (by decide)
  have pd := picked_any way 50 hl (by decide)
  have pj := picked_any n 11 hn (by decide)
  generalize pickN way 3 = a at ha pa
  generalize pickN way 60000 = b at hb pb
  generalize pickN way 7 = c at hc pc
  generalize pickN way 50 = d at hd pd
  generalize pickN n 11 = j0 at hj pj
  obtain ⟨j, rfl⟩ : ∃ j : Nat, j0 = (j : Int) := ⟨j0.toNat, by omega⟩
  have hj11 : j < (codesW a b c d).length := by show j < 11; omega
  have hw := wall_ok ha hb hc hd _ (List.getElem_mem hj11)
  have hrun := runK_any (codesW a b c d)[j] 4 (by decide) (img2_I hw.I hw.hi (by decide)) 1000
  obtain ⟨hE, hV⟩ := img2_run (w := 4) hw.E hw.lo hw.hi (by decide) (fuel := 1000) (by decide)
  have hs : iterS (img2 (codesW a b c d)[j] ((4 : Nat) : Int)) 1000 ⟨[], List.replicate (3 + 4) 0, []⟩ [⟨1, 0, p8 [], [], -1⟩] = (4, 0, oW) := hw.stop
  rw [hs] at hV
  have hV' : runV (img2 (codesW a b c d)[j] ((4 : Nat) : Int)) (List.replicate (3 + 4) 0) 1 0 [] 1000 = ⟨4, 0, [], [0, 0, 0, 0, 0, 0, 0], []⟩ := hV
  have hE' : runE (img2 (codesW a b c d)[j] ((4 : Nat) : Int)) (List.replicate (3 + 4) 0) 1 0 [] 1000 = 0 := hE
  rw [hV'] at hrun
  generalize runE (img2 (codesW a b c d)[j] ((4 : Nat) : Int)) (List.replicate (3 + 4) 0) 1 0 [] 1000 = er at hE' hrun
  refine enter hT hF hM Tryd.func8 rfl 93 rfl (by kernel_rfl) [.tmp 4] rfl [.g (.int n), .g (.int way)] rfl _ ?_
  refine callIs (.inl rfl) pa ?_
  refine ⟨[Instr.g ⟨1, a, 0, 0⟩, Instr.g ⟨1, 9, 0, 0⟩, Instr.g ⟨7, 0, 0, 0⟩, Instr.g ⟨1, 0, 0, 0⟩, Instr.g ⟨13, 0, 0, 0⟩], rfl, rfl, ⟨rfl, rfl, rfl, rfl, rfl, rfl, rfl, rfl, rfl, rfl, rfl, rfl, rfl, rfl, rfl, rfl, rfl, rfl, rfl, rfl, trivial⟩, ?_⟩
  refine callIs (.inl rfl) pa ?_
  refine ⟨[Instr.g ⟨1, a, 0, 0⟩, Instr.g ⟨6, 0, 0, 0⟩, Instr.g ⟨13, 0, 0, 0⟩], rfl, rfl, ⟨rfl, rfl, rfl, rfl, rfl, rfl, rfl, rfl, rfl, rfl, rfl, rfl, trivial⟩, ?_⟩
  refine callIs (.inl rfl) pb ⟨_, I64.wrap (by unfold I64; omega), ?_⟩
  refine ⟨[Instr.g ⟨1, 7 + b, 0, 0⟩, Instr.g ⟨6, 0, 0, 0⟩, Instr.g ⟨13, 0, 0, 0⟩], rfl, rfl, ⟨rfl, rfl, rfl, rfl, rfl, rfl, rfl, rfl, rfl, rfl, rfl, rfl, trivial⟩, ?_⟩
  refine callIs (.inl rfl) pc ⟨_, I64.wrap (by unfold I64; omega), ?_⟩
  refine ⟨[Instr.g ⟨12, 0, 1 + c, 0⟩, Instr.g ⟨13, 0, 0, 0⟩], rfl, rfl, ⟨rfl, rfl, rfl, rfl, rfl, rfl, rfl, rfl, trivial⟩, ?_⟩
  refine callIs (.inl rfl) pa ⟨_, I64.wrap (by unfold I64; omega), ?_⟩
  refine ⟨[Instr.g ⟨12, 2 + a, 0, 0⟩, Instr.g ⟨13, 0, 0, 0⟩], rfl, rfl, ⟨rfl, rfl, rfl, rfl, rfl, rfl, rfl, rfl, trivial⟩, ?_⟩
  refine ⟨[Instr.g ⟨1, 0, 0, 0⟩, Instr.g ⟨1, 0, 0, 0⟩, Instr.g ⟨12, 0, 0, 2⟩, Instr.g ⟨13, 0, 0, 0⟩], rfl, rfl, ⟨rfl, rfl, rfl, rfl, rfl, rfl, rfl, rfl, rfl, rfl, rfl, rfl, rfl, rfl, rfl, rfl, trivial⟩, ?_⟩
  refine ⟨[Instr.g ⟨12, 0, 0, 1⟩, Instr.g ⟨13, 0, 0, 0⟩], rfl, rfl, ⟨rfl, rfl, rfl, rfl, rfl, rfl, rfl, rfl, trivial⟩, ?_⟩
  refine ⟨[Instr.g ⟨2, 0, 0, 0⟩], rfl, rfl, ⟨rfl, rfl, rfl, rfl, trivial⟩, ?_⟩
  refine ⟨[Instr.g ⟨13, 0, 0, 0⟩], rfl, rfl, ⟨rfl, rfl, rfl, rfl, trivial⟩, ?_⟩
  refine callIs (.inl rfl) pd ⟨_, I64.wrap (by unfold I64; omega), ?_⟩
  refine ⟨[Instr.g ⟨9, 5 + d, 0, 0⟩], rfl, rfl, ⟨rfl, rfl, rfl, rfl, trivial⟩, ?_⟩
  refine ⟨[Instr.g ⟨1, 0, 0, 0⟩, Instr.g ⟨9, 0, 0, 0⟩], rfl, rfl, ⟨rfl, rfl, rfl, rfl, rfl, rfl, rfl, rfl, trivial⟩, ?_⟩
  refine ⟨(codesW a b c d).map (fun l => [GV.sl 4 (l.map Instr.g)]), rfl, rfl, ⟨sees_row rfl rfl, sees_row rfl rfl, sees_row rfl rfl, sees_row rfl rfl, sees_row rfl rfl, sees_row rfl rfl, sees_row rfl rfl, sees_row rfl rfl, sees_row rfl rfl, sees_row rfl rfl, sees_row rfl rfl, trivial⟩, ?_⟩
  refine callIs (.inl rfl) pj ?_
  refine ⟨j, rfl, hj11, ?_⟩
  refine ⟨_, gm hj11, ?_⟩
  refine callIs (.inl rfl) hrun ?_
  refine ⟨none, rfl, ?_⟩
  refine ⟨fun _ => ?_, fun h => absurd hE' h⟩
  refine ⟨fun _ => ?_, fun h => absurd rfl h⟩
  refine ⟨7, 7, [.int 0], rfl, rfl, Nat.le_refl _, by decide, by unfold maxLen; omega, ⟨rfl, trivial⟩, ?_⟩
  refine ⟨[.g (.sl 1 (([0, 0, 0, 0, 0, 0, 0] : List Int).map intG)), .g (.sl 1 (([0, 0, 0, 0, 0, 0, 0] : List Int).map intG))], _, .inl rfl, EqualN_any [0, 0, 0, 0, 0, 0, 0] (by decide), rfl, ?_⟩
  exact ⟨rfl, retYes rfl⟩

set_option maxRecDepth 100000 in
theorem MachineWalls_contract (H : Type) (enc : TypeId × Value → H) (W : World) (base : Nat) (args : Array Value) (ds gs : List (DataW H)) (before : List MemPlace)
    (hval : ∀ (j : Nat) t v, Tryd.f8.params[j]? = some t → args[j]? = some v → Value.okWide Tryd.prog W .any base t v)
    (hwt : (DataW.weightsEach Tryd.prog (Tryd.f8.params.toList ++ Rows.machineWallsSpec.plain.varTypes Tryd.prog) (ds ++ gs)).all (· ≤ reachBytes) = true)
    (hW : DataW.Whole enc Tryd.prog Tryd.f8.params.toList Rows.machineWallsSpec.vars false W args.toList ds gs before) (hL : laidMetH Tryd.prog Rows.machineWallsRow.laid W) :
    Calls Tryd.prog 8 args W fun e W' => ∃ v, e = .returned v ∧ Rows.machineWallsSpec.post enc Tryd.prog Tryd.f8 false true false false W args v W' := by
  refine law_contractW plainS_ok laidOut rfl ?_ rfl Tryd.underlying4 (pars_ok (by kernel_rfl)) W ?_ base args ds gs before hval hwt hW
  · intro ds hds
    match ds, hds with
    | [d0, d1], _ => rfl
  · intro args hargs
    obtain ⟨v0, r0, rfl, h0, hargs⟩ := hargs.inv
    obtain ⟨v1, r1, rfl, h1, hargs⟩ := hargs.inv
    obtain rfl := hargs.inv0
    obtain ⟨x0, rfl, b0⟩ := h0.int Tryd.underlying3
    obtain ⟨x1, rfl, b1⟩ := h1.int Tryd.underlying3
    exact law_of_ctG (gl_ok hL) (MachineWalls_walk x0 b0 x1 b1) (args_cons (arg_g (by simp only [RepV])) (args_cons (arg_g (by simp only [RepV])) args_nil))
/-- A world for the witness: the settled one, the table holding what its initialiser lays. -/
noncomputable def MachineWalls_world (os : Os) : World :=
  { World.holding Tryd.prog os ⟨#[], #[], []⟩ with heap := (World.holding Tryd.prog os ⟨#[], #[], []⟩).heap.modify 0 fun
      | .cells _ t frozen => .cells (ofRows.flatten.map fun z => Value.int .i64 z).toArray t frozen
      | o => o }
theorem MachineWalls_met (os : Os) : laidMet Tryd.prog Rows.machineWallsRow.laid ((MachineWalls_world os).forCall (fun _ _ => 0) ⟨#[], #[.int .i64 0, .int .i64 0], []⟩).memory :=
  laidMet_of_run' 8 (by kernel_rfl) (by kernel_rfl)
theorem MachineWalls_reads (os : Os) {H : Type} (enc : TypeId × Value → H) : ∃ places, DataW.whole enc Tryd.prog ((MachineWalls_world os).forCall (fun _ _ => 0) ⟨#[], #[.int .i64 0, .int .i64 0], []⟩).memory Tryd.f8.params.toList Rows.machineWallsSpec.vars false (#[.int .i64 0, .int .i64 0] : Array Value).toList 8 = some ([.lit (.int .i64 0), .lit (.int .i64 0)], [], places) :=
  ⟨[], by kernel_rfl⟩
set_option maxRecDepth 100000 in
theorem MachineWalls_lifted (os : Os) (started : os.Started) (H : Type) (enc : TypeId × Value → H) (F : Stop.Interp) :
    ReturnsInHanded {} Tryd.checked os 8 .any ((OpenSpec.ofChange Rows.machineWallsSpec).preRow enc Tryd.prog Tryd.f8 Rows.machineWallsRow.domain false Rows.machineWallsRow.laid) (((OpenSpec.ofChange Rows.machineWallsSpec).at F).post enc Tryd.prog Tryd.f8 false true false false) := by
  obtain ⟨places, hx⟩ := MachineWalls_reads os enc
  refine returnsInHanded_of_row (C := Tryd.checked) (s := OpenSpec.ofChange Rows.machineWallsSpec) own started (by kernel_rfl) Tryd.func8
    (witness_row_at (enc := enc) (C := Tryd.checked) false (MachineWalls_world os) #[.int .i64 0, .int .i64 0] rfl (by kernel_rfl) (by kernel_rfl) (by kernel_rfl)
      (OpenSpec.preRow_of_cond 8 hx (by kernel_rfl) (fun k hk => by cases hk) (by kernel_rfl) (MachineWalls_met os))) ?_
  intro W base args ds gs before hval hW _ _ hwt hL _ _
  exact MachineWalls_contract H enc W base args ds gs before hval hwt hW hL
theorem MachineWalls_row : Rows.MachineWallsSaid := MachineWalls_over MachineWalls_lifted
/-- THE CARD. -/
theorem MachineWalls_said : Rows.MachineWallsCardSaid :=
  Claim7.holds_tied_plain_at .later [] _ _ _ _ MachineWalls_row (fun _ h => by cases h) (by kernel_rfl) (fun _ h => by cases h) machineWalls_row_tie rfl ⟨rfl, rfl⟩ (by kernel_rfl) rfl MachineWalls_plain (by kernel_rfl)
#print axioms MachineWalls_said
end Go.Proofs.YthbdbjnakknbkaaDoor
