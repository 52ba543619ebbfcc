/-
  mem.Store answers what P3.3 says: the law MemStores returns true for every image, words, part, place and word, wherever the table of package code holds what the program's text lays there.
-/
import Derived.Test.YtencdcmbfeeekaaDoorJMemStores
import Derived.Test.YtencdcmbfeeekaaDoorCards
import Derived.Test.YtencdcmbfeeekaaDoorTie
import Derived.Test.YtencdcmbfeeekaaDoorMs
namespace Go.Proofs.YtencdcmbfeeekaaDoor
open Go Go.Dm Go.Eng Go.RowKit Go.ChangeShapes Go.WideShapes Go.ChangeAt Barb

theorem MemStores_walk (m : Image) (hm : Image.I m) (d : List Int) (_ : ∀ x ∈ d, I64 x) (hd : d.length * 8 ≤ 140737488351232) (p : Int) (_ : I64 p) (a : Int) (_ : I64 a) (v : Int) (_ : I64 v) : CT Tryd.prog gl 10 [.agg (imgD m), .g (.sl 1 (d.map intG)), .g (.int p), .g (.int a), .g (.int v)] (Is (.g (.bool true))) := by
  have hlen := storeL_len m d p a v
  refine enter hT hF hM Tryd.func10 rfl 42 rfl (by kernel_rfl) [.tmp 10] rfl [.agg (imgD m), .g (.sl 1 (d.map intG)), .g (.int p), .g (.int a), .g (.int v)] rfl _ ?_
  refine ⟨some 1002, rfl, ⟨by simp only [maxLen, List.length_map]; omega, by simp only [List.length_map]; omega⟩, ?_⟩
  refine ⟨_, _, .inl rfl, Store_any m hm d hd p a v, rfl, ?_⟩
  refine callIs (.inl rfl) (StoreOf_any m hm d hd p a v) ?_
  exact ⟨fun _ => callIs (.inl rfl) (sameInts_any _ _ (by omega)) ⟨rfl, retYes rfl⟩, fun h => absurd rfl h⟩

set_option maxRecDepth 100000 in
theorem MemStores_contract (H : Type) (enc : TypeId × Value → H) (W : World) (base : Nat) (args : Array Value) (ds gs : List (DataW H)) (before : List MemPlace)
    (hval : ∀ (j : Nat) t v, Tryd.f10.params[j]? = some t → args[j]? = some v → Value.okWide Tryd.prog W .any base t v)
    (hwt : (DataW.weightsEach Tryd.prog (Tryd.f10.params.toList ++ Rows.memStoresSpec.plain.varTypes Tryd.prog) (ds ++ gs)).all (· ≤ reachBytes) = true)
    (hW : DataW.Whole enc Tryd.prog Tryd.f10.params.toList Rows.memStoresSpec.vars false W args.toList ds gs before) (hL : laidMetH Tryd.prog Rows.memStoresRow.laid W) :
    Calls Tryd.prog 10 args W fun e W' => ∃ v, e = .returned v ∧ Rows.memStoresSpec.post enc Tryd.prog Tryd.f10 false true false false W args v W' := by
  refine law_contractW plainS_ok laidOut rfl ?_ rfl Tryd.underlying4 (pars_ok (by kernel_rfl)) W ?_ base args ds gs before hval hwt hW
  · intro ds hds
    match ds, hds with
    | [d0, d1, d2, d3, d4], _ => rfl
  · intro args hargs
    obtain ⟨v0, r0, rfl, h0, hargs⟩ := hargs.inv
    obtain ⟨v1, r1, rfl, h1, hargs⟩ := hargs.inv
    obtain ⟨v2, r2, rfl, h2, hargs⟩ := hargs.inv
    obtain ⟨v3, r3, rfl, h3, hargs⟩ := hargs.inv
    obtain ⟨v4, r4, rfl, h4, hargs⟩ := hargs.inv
    obtain rfl := hargs.inv0
    obtain ⟨f0, g0, c0, rfl, t0, R0⟩ := h0.struct Tryd.underlying39
    obtain ⟨x0, rfl, b0⟩ := dec_Image t0
    obtain ⟨f1, g1, t1, R1⟩ := h1.slice Tryd.underlying28
    obtain ⟨x1, rfl, i1, b1⟩ := dec_ints t1
    obtain ⟨x2, rfl, b2⟩ := h2.int Tryd.underlying3
    obtain ⟨x3, rfl, b3⟩ := h3.int Tryd.underlying3
    obtain ⟨x4, rfl, b4⟩ := h4.int Tryd.underlying3
    exact law_of_ctG (gl_ok hL) (MemStores_walk x0 b0 x1 i1 b1 x2 b2 x3 b3 x4 b4) (args_cons (arg_agg R0) (args_cons (arg_g R1) (args_cons (arg_g (by simp only [RepV])) (args_cons (arg_g (by simp only [RepV])) (args_cons (arg_g (by simp only [RepV])) args_nil)))))
/-- A world for the witness: the settled one, the table holding what its initialiser lays. -/
noncomputable def MemStores_world (os : Os) : World :=
  { World.holding Tryd.prog os ⟨#[], #[], []⟩ with heap := (World.holding Tryd.prog os ⟨#[], #[], []⟩).heap.modify 0 fun
      | .cells _ t frozen => .cells (ofRows.flatten.map fun z => Value.int .i64 z).toArray t frozen
      | o => o }
theorem MemStores_met (os : Os) : laidMet Tryd.prog Rows.memStoresRow.laid ((MemStores_world os).forCall (fun _ _ => 0) ⟨#[], #[.agg #[.slice none 0 0], .slice none 0 0, .int .i64 0, .int .i64 0, .int .i64 0], []⟩).memory :=
  laidMet_of_run' 8 (by kernel_rfl) (by kernel_rfl)
theorem MemStores_reads (os : Os) {H : Type} (enc : TypeId × Value → H) : ∃ places, DataW.whole enc Tryd.prog ((MemStores_world os).forCall (fun _ _ => 0) ⟨#[], #[.agg #[.slice none 0 0], .slice none 0 0, .int .i64 0, .int .i64 0, .int .i64 0], []⟩).memory Tryd.f10.params.toList Rows.memStoresSpec.vars false (#[.agg #[.slice none 0 0], .slice none 0 0, .int .i64 0, .int .i64 0, .int .i64 0] : Array Value).toList 8 = some ([.agg [.nil], .nil, .lit (.int .i64 0), .lit (.int .i64 0), .lit (.int .i64 0)], [], places) :=
  ⟨[], by kernel_rfl⟩
set_option maxRecDepth 100000 in
theorem MemStores_lifted (os : Os) (started : os.Started) (H : Type) (enc : TypeId × Value → H) (F : Stop.Interp) :
    ReturnsInHanded {} Tryd.checked os 10 .any ((OpenSpec.ofChange Rows.memStoresSpec).preRow enc Tryd.prog Tryd.f10 Rows.memStoresRow.domain false Rows.memStoresRow.laid) (((OpenSpec.ofChange Rows.memStoresSpec).at F).post enc Tryd.prog Tryd.f10 false true false false) := by
  obtain ⟨places, hx⟩ := MemStores_reads os enc
  refine returnsInHanded_of_row (C := Tryd.checked) (s := OpenSpec.ofChange Rows.memStoresSpec) own started (by kernel_rfl) Tryd.func10
    (witness_row_at (enc := enc) (C := Tryd.checked) false (MemStores_world os) #[.agg #[.slice none 0 0], .slice none 0 0, .int .i64 0, .int .i64 0, .int .i64 0] rfl (by kernel_rfl) (by kernel_rfl) (by kernel_rfl)
      (OpenSpec.preRow_of_cond 8 hx (by kernel_rfl) (fun k hk => by cases hk) (by kernel_rfl) (MemStores_met os))) ?_
  intro W base args ds gs before hval hW _ _ hwt hL _ _
  exact MemStores_contract H enc W base args ds gs before hval hwt hW hL
theorem MemStores_row : Rows.MemStoresSaid := MemStores_over MemStores_lifted
/-- THE CARD. -/
theorem MemStores_said : Rows.MemStoresCardSaid :=
  Claim7.holds_tied_plain_at .later [] _ _ _ _ MemStores_row (fun _ h => by cases h) (by kernel_rfl) (fun _ h => by cases h) memStores_row_tie rfl ⟨rfl, rfl⟩ (by kernel_rfl) rfl MemStores_plain (by kernel_rfl)
#print axioms MemStores_said
end Go.Proofs.YtencdcmbfeeekaaDoor
