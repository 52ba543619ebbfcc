/-
  Code is read as it was written: the law CodeBack returns true for all raw things and every number, wherever the table of package code holds what the program's text lays there.
-/
import Derived.Test.YthbdbjnakknbkaaDoorJCodeBack
import Derived.Test.YthbdbjnakknbkaaDoorCards
import Derived.Test.YthbdbjnakknbkaaDoorTie
import Derived.Test.YthbdbjnakknbkaaDoorQe
namespace Go.Proofs.YthbdbjnakknbkaaDoor
open Go Go.Dm Go.Eng Go.RowKit Go.ChangeShapes Go.WideShapes Go.ChangeAt Barb

theorem room1 {n : Nat} (h : n ≤ 1000) : n ≤ maxLen ∧ n * 8 ≤ 140737488355328 := by unfold maxLen; omega
set_option maxRecDepth 20000 in
set_option maxHeartbeats 1000000 in
theorem CodeBack_walk (l : List Barb.Raw) (hI : ∀ r ∈ l, Barb.Raw.I r) (_ : l.length * 32 ≤ 140737488351232) (n : Int) (hn : I64 n) : CT Tryd.prog gl 3 [.g (.sl 4 (l.map Raw.g)), .g (.int n)] (Is (.g (.bool true))) := by
  refine enter hT hF hM Tryd.func3 rfl 76 rfl (by kernel_rfl) [.tmp 4] rfl [.g (.sl 4 (l.map Raw.g)), .g (.int n)] rfl _ ?_
  refine callQ (show likeA _ [.g (.sl 4 (l.map Raw.g)), .agg [.g (.sl 4 [])], .g (.int 0)] from .inr ⟨lk rfl, .inr ⟨lkNil, trivial⟩, lk rfl, trivial⟩) (Code_any l hI) (fun d h' hq => ?_) (fun d hq => by obtain ⟨c, _, _, _, e⟩ := hq; cases e)
  obtain ⟨c, hok, h2, h122, e⟩ := hq
  injection e with e1 e2
  subst e1; subst e2
  have hlen := encW_len c
  have ht1 := Encode_any c
  rw [encL_ok hok h122, encE_ok hok h122] at ht1
  have ht2 := Decode_any (encW c) (by omega)
  rw [decL_enc hok h122, decE_enc hok h122] at ht2
  have ht3 := Decode_any (encW c ++ [1]) (by simp only [List.length_append, List.length_cons, List.length_nil]; omega)
  rw [decL_no (decE_odd h122) (by decide), decE_odd h122, List.map_append] at ht3
  obtain ⟨q, hq, pq⟩ := pick_any n hn (many := 50) (by decide)
  obtain ⟨p, hp, pp⟩ := pick_any n hn (many := c.length) (by omega)
  have ht4 := Decode_any ((encW c).set (4 * p) ((16 + q : Nat) : Int)) (by rw [List.length_set]; omega)
  rw [decL_no (decE_bad hok h122 hp hq) (by decide), decE_bad hok h122 hp hq, List.map_set] at ht4
  have hcl := Clone_any ((encW c).map intG) (by rw [List.length_map]; omega)
  refine callIs (.inl rfl) ht1 ⟨fun h => ?_, fun _ => ?_⟩
  · exfalso
    rw [List.length_map] at h
    omega
  refine callIs (.inl rfl) ht2 ?_
  refine callQ (.inl rfl) hcl (fun d h' hq => ?_) (fun d hq => by cases hq)
  injection hq with e1 e2
  subst e1; subst e2
  refine ⟨[[.int 1]], rfl, rfl, ⟨rfl, trivial⟩, ?_⟩
  refine ⟨room1 (by simp only [List.length_map, List.length_cons, List.length_nil]; omega), ?_⟩
  refine callIs (.inl rfl) ht3 ?_
  refine callQ (.inl rfl) hcl (fun d h' hq => ?_) (fun d hq => by cases hq)
  injection hq with e1 e2
  subst e1; subst e2
  have hdiv : ((((encW c).map intG).length : Nat) : Int).tdiv 4 = (c.length : Int) := by
    rw [Int.tdiv_eq_ediv_of_nonneg (by omega), List.length_map, hlen]; omega
  refine ⟨by decide, by rw [hdiv]; unfold I64; omega, ?_⟩
  refine callIs (show likeA _ [.g (.int n), .g (.int (c.length : Int))] from .inr ⟨lk rfl, lkI hdiv, trivial⟩) pp ⟨by unfold I64; omega, ?_⟩
  refine callIs (.inl rfl) pq ⟨((16 + q : Nat) : Int), (I64.wrap (by unfold I64; omega)).trans (by omega), ?_⟩
  have hpl : 4 * p < (encW c).length := by omega
  refine ⟨4 * p, dJ (by omega), by rw [List.length_map]; exact hpl, ?_⟩
  refine ⟨_, [.int ((16 + q : Nat) : Int)], gm hpl, ⟨rfl, trivial⟩, Nat.le_of_ble_eq_true rfl, (fun h => by cases h), ?_⟩
  refine callIs (.inl rfl) ht4 ?_
  refine ⟨fun _ => ⟨fun _ => ?_, fun h => absurd rfl h⟩, fun h => absurd rfl h⟩
  refine callIs (.inl rfl) (EqualI_any c (by omega)) ?_
  exact ⟨fun _ => ⟨rfl, retYes rfl⟩, fun h => absurd rfl h⟩

set_option maxRecDepth 100000 in
theorem CodeBack_contract (H : Type) (enc : TypeId × Value → H) (W : World) (base : Nat) (args : Array Value) (ds gs : List (DataW H)) (before : List MemPlace)
    (hval : ∀ (j : Nat) t v, Tryd.f3.params[j]? = some t → args[j]? = some v → Value.okWide Tryd.prog W .any base t v)
    (hwt : (DataW.weightsEach Tryd.prog (Tryd.f3.params.toList ++ Rows.codeBackSpec.plain.varTypes Tryd.prog) (ds ++ gs)).all (· ≤ reachBytes) = true)
    (hW : DataW.Whole enc Tryd.prog Tryd.f3.params.toList Rows.codeBackSpec.vars false W args.toList ds gs before) (hL : laidMetH Tryd.prog Rows.codeBackRow.laid W) :
    Calls Tryd.prog 3 args W fun e W' => ∃ v, e = .returned v ∧ Rows.codeBackSpec.post enc Tryd.prog Tryd.f3 false true false false W args v W' := by
  refine law_contractW plainS_ok laidOut rfl ?_ rfl Tryd.underlying4 (pars_ok (by kernel_rfl)) W ?_ base args ds gs before hval hwt hW
  · intro ds hds
    match ds, hds with
    | [d0, d1], _ => rfl
  · intro args hargs
    obtain ⟨v0, r0, rfl, h0, hargs⟩ := hargs.inv
    obtain ⟨v1, r1, rfl, h1, hargs⟩ := hargs.inv
    obtain rfl := hargs.inv0
    obtain ⟨f0, g0, t0, R0⟩ := h0.slice Tryd.underlying22
    obtain ⟨x0, rfl, i0, b0⟩ := dec_Raws t0
    obtain ⟨x1, rfl, b1⟩ := h1.int Tryd.underlying3
    exact law_of_ctG (gl_ok hL) (CodeBack_walk x0 i0 b0 x1 b1) (args_cons (arg_g R0) (args_cons (arg_g (by simp only [RepV])) args_nil))
/-- A world for the witness: the settled one, the table holding what its initialiser lays. -/
noncomputable def CodeBack_world (os : Os) : World :=
  { World.holding Tryd.prog os ⟨#[], #[], []⟩ with heap := (World.holding Tryd.prog os ⟨#[], #[], []⟩).heap.modify 0 fun
      | .cells _ t frozen => .cells (ofRows.flatten.map fun z => Value.int .i64 z).toArray t frozen
      | o => o }
theorem CodeBack_met (os : Os) : laidMet Tryd.prog Rows.codeBackRow.laid ((CodeBack_world os).forCall (fun _ _ => 0) ⟨#[], #[.slice none 0 0, .int .i64 0], []⟩).memory :=
  laidMet_of_run' 8 (by kernel_rfl) (by kernel_rfl)
theorem CodeBack_reads (os : Os) {H : Type} (enc : TypeId × Value → H) : ∃ places, DataW.whole enc Tryd.prog ((CodeBack_world os).forCall (fun _ _ => 0) ⟨#[], #[.slice none 0 0, .int .i64 0], []⟩).memory Tryd.f3.params.toList Rows.codeBackSpec.vars false (#[.slice none 0 0, .int .i64 0] : Array Value).toList 8 = some ([.nil, .lit (.int .i64 0)], [], places) :=
  ⟨[], by kernel_rfl⟩
set_option maxRecDepth 100000 in
theorem CodeBack_lifted (os : Os) (started : os.Started) (H : Type) (enc : TypeId × Value → H) (F : Stop.Interp) :
    ReturnsInHanded {} Tryd.checked os 3 .any ((OpenSpec.ofChange Rows.codeBackSpec).preRow enc Tryd.prog Tryd.f3 Rows.codeBackRow.domain false Rows.codeBackRow.laid) (((OpenSpec.ofChange Rows.codeBackSpec).at F).post enc Tryd.prog Tryd.f3 false true false false) := by
  obtain ⟨places, hx⟩ := CodeBack_reads os enc
  refine returnsInHanded_of_row (C := Tryd.checked) (s := OpenSpec.ofChange Rows.codeBackSpec) own started (by kernel_rfl) Tryd.func3
    (witness_row_at (enc := enc) (C := Tryd.checked) false (CodeBack_world os) #[.slice none 0 0, .int .i64 0] rfl (by kernel_rfl) (by kernel_rfl) (by kernel_rfl)
      (OpenSpec.preRow_of_cond 8 hx (by kernel_rfl) (fun k hk => by cases hk) (by kernel_rfl) (CodeBack_met os))) ?_
  intro W base args ds gs before hval hW _ _ hwt hL _ _
  exact CodeBack_contract H enc W base args ds gs before hval hwt hW hL
theorem CodeBack_row : Rows.CodeBackSaid := CodeBack_over CodeBack_lifted
/-- THE CARD. -/
theorem CodeBack_said : Rows.CodeBackCardSaid :=
  Claim7.holds_tied_plain_at .later [] _ _ _ _ CodeBack_row (fun _ h => by cases h) (by kernel_rfl) (fun _ h => by cases h) codeBack_row_tie rfl ⟨rfl, rfl⟩ (by kernel_rfl) rfl CodeBack_plain (by kernel_rfl)
#print axioms CodeBack_said
end Go.Proofs.YthbdbjnakknbkaaDoor
