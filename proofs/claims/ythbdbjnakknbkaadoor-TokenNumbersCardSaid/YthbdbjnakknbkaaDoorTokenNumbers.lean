/-
  token.Number answers what P5.1 says: the law TokenNumbers returns true for every text, wherever the library's variables hold what their text lays there.
-/
import Derived.Test.YthbdbjnakknbkaaDoorJTokenNumbers
import Derived.Test.YthbdbjnakknbkaaDoorCards
import Derived.Test.YthbdbjnakknbkaaDoorTie
import Derived.Test.YthbdbjnakknbkaaDoorNn
import Derived.Test.YthbdbjnakknbkaaDoorDcard
import Derived.Stop.LaidErr
import Derived.Lib.LaidTab
import Derived.LaidMore
namespace Go.Proofs.YthbdbjnakknbkaaDoor
open Go Go.Dm Go.Eng Go.RowKit Go.ChangeShapes Go.WideShapes Go.ChangeAt Barb

theorem numberOf_raw (s : ByteArray) (hs : s.size ≤ 140737488351232) (w : World) : Calls Tryd.prog 30 #[.string s] w fun e w' => e = .returned (.tuple #[.int .i64 (numR s.data.toList), .bool (numB s.data.toList)]) ∧ Below w.heap.size w w' := by
  have hl : s.data.toList.length = s.size := rfl
  refine (NumberOf_any s.data.toList (by omega) w (fun k => k < w.heap.size) [.string s] (fun _ h => h) (fun p hp => by simp at hp) (args_cons (arg_g (by simp only [RepV])) args_nil)).mono fun e w' he => ?_
  cases e with
  | returned v =>
    obtain ⟨d, h', β', V', hq, hrel, hd⟩ := he
    injection hq with e1 e2
    subst e1
    simp only [RepD, RepDL, RepV] at hd
    obtain ⟨us, rfl, v1, u1, rfl, rfl, v2, u2, rfl, rfl, rfl⟩ := hd
    exact ⟨rfl, hrel.fr.below⟩
  | panicked ch => obtain ⟨d, t, u, β', V', _, hq, _⟩ := he; cases hq
  | outgrown => exact he.elim
set_option maxRecDepth 100000 in
theorem TokenNumbers_walk (s : ByteArray) (hs : s.size ≤ 140737488351232) (w : World) (hw : LibOk w) : Calls Tryd.prog 9 #[.string s] w (Yes w) := by
  have key : Calls Tryd.prog 9 #[.string s] w fun e w' => e = .returned (.bool true) ∧ Below w.heap.size w w' := by
    go_enter Tryd.func9, Tryd.ntmps9
    go_wp2_with (first
      | (go_at_call 29; refine (number_raw s hs _ hw).mono ?_; rintro e w1 ⟨rfl, hb1⟩)
      | (go_at_call 30; refine (numberOf_raw s hs _).mono ?_; rintro e w2 ⟨rfl, hb2⟩))
    go_ret
    exact ⟨rfl, hb1.trans (hb2.mono hb1.size)⟩
  exact key.mono fun e w' h => ⟨h.1, Fr.of_below h.2⟩
theorem errName (u : TypeId) (h : Tryd.prog.typeName? 3 u = some "*errors.errorString") : u = 194 :=
  typeName_ptr_named (nm := "errors.errorString") (by rw [show "*" ++ "errors.errorString" = "*errors.errorString" from by decide]; kernel_rfl) (by kernel_rfl) (by decide) u (by rw [show "*" ++ "errors.errorString" = "*errors.errorString" from by decide]; exact h)
theorem synName : Tryd.prog.globalNamed "strconv.ErrSyntax" = some 1 := by kernel_rfl
theorem synType : (Tryd.prog.globals[1]?).map (·.type) = some 101 := by kernel_rfl
theorem ranName : Tryd.prog.globalNamed "strconv.ErrRange" = some 2 := by kernel_rfl
theorem ranType : (Tryd.prog.globals[2]?).map (·.type) = some 101 := by kernel_rfl
theorem tabType : (Tryd.prog.globals[4]?).map (·.type) = some 198 := by kernel_rfl
theorem errCells : Tryd.prog.cellsOf 196 = 1 := by kernel_rfl
theorem strCells : Tryd.prog.cellsOf 9 = 1 := by kernel_rfl
theorem u64Cells : Tryd.prog.cellsOf 175 = 1 := by kernel_rfl
theorem tabCells : Tryd.prog.cellsOf 198 = 20 := by kernel_rfl
theorem libOk_of {W : World} (h : laidMetH Tryd.prog Rows.tokenNumbersRow.laid W) : LibOk W := by
  have e : (Rows.tokenNumbersRow.laid.filter fun x => x.2.handleName?.isSome) = [] := by kernel_rfl
  unfold laidMetH at h
  rw [e] at h
  have h3 : laidMet Tryd.prog (("internal/strconv.uint64pow10", Lib.tabData .u64 Lib.pow10Tab) :: ("strconv.ErrRange", Rows.laid_strconv_ErrRange) :: ("strconv.ErrSyntax", Rows.laid_strconv_ErrSyntax) :: []) W := h.tail.tail
  obtain ⟨a0, s0, hv0, -, -, -⟩ := laid_sentinel h3.tail ranName ranType Tryd.underlying101 errName Tryd.underlying194 Tryd.underlying196 rfl rfl Tryd.underlying9 errCells strCells
  obtain ⟨a1, s1, hv1, -, -, -⟩ := laid_sentinel h3.tail.tail synName synType Tryd.underlying101 errName Tryd.underlying194 Tryd.underlying196 rfl rfl Tryd.underlying9 errCells strCells
  exact ⟨⟨_, _, by have h0 := World.var?_cell synName hv1 0; simpa using h0⟩, ⟨_, _, by have h0 := World.var?_cell ranName hv0 0; simpa using h0⟩, Lib.tabIs_of_head pow10Named tabType Tryd.underlying198 Tryd.underlying175 u64Cells tabCells h3⟩

set_option maxRecDepth 100000 in
theorem TokenNumbers_contract (H : Type) (enc : TypeId × Value → H) (W : World) (base : Nat) (args : Array Value) (ds gs : List (DataW H)) (before : List MemPlace)
    (hval : ∀ (j : Nat) t v, Tryd.f9.params[j]? = some t → args[j]? = some v → Value.okWide Tryd.prog W .any base t v)
    (hwt : (DataW.weightsEach Tryd.prog (Tryd.f9.params.toList ++ Rows.tokenNumbersSpec.plain.varTypes Tryd.prog) (ds ++ gs)).all (· ≤ reachBytes) = true)
    (hW : DataW.Whole enc Tryd.prog Tryd.f9.params.toList Rows.tokenNumbersSpec.vars false W args.toList ds gs before) (hL : laidMetH Tryd.prog Rows.tokenNumbersRow.laid W) :
    Calls Tryd.prog 9 args W fun e W' => ∃ v, e = .returned v ∧ Rows.tokenNumbersSpec.post enc Tryd.prog Tryd.f9 false true false false W args v W' := by
  refine law_contractW plainS_ok laidOut rfl ?_ rfl Tryd.underlying4 (pars_ok (by kernel_rfl)) W ?_ base args ds gs before hval hwt hW
  · intro ds hds
    match ds, hds with
    | [d0], _ => rfl
  · intro args hargs
    obtain ⟨v0, r0, rfl, h0, hargs⟩ := hargs.inv
    obtain rfl := hargs.inv0
    obtain ⟨x0, rfl, b0⟩ := h0.strR Tryd.underlying9
    exact TokenNumbers_walk ⟨⟨x0⟩⟩ b0 W (libOk_of hL)
/-- A world for the witness: the settled one, the table holding what its initialiser lays. -/
noncomputable def TokenNumbers_world (os : Os) : World := World.doorLaid Tryd.prog 400 os
theorem TokenNumbers_met (os : Os) : laidMet Tryd.prog Rows.tokenNumbersRow.laid ((TokenNumbers_world os).forCall (fun _ _ => 0) ⟨#[], #[.string ⟨⟨[]⟩⟩], []⟩).memory :=
  laidMet_of_run' 8 (by kernel_rfl) (by kernel_rfl)
theorem TokenNumbers_reads (os : Os) {H : Type} (enc : TypeId × Value → H) : ∃ places, DataW.whole enc Tryd.prog ((TokenNumbers_world os).forCall (fun _ _ => 0) ⟨#[], #[.string ⟨⟨[]⟩⟩], []⟩).memory Tryd.f9.params.toList Rows.tokenNumbersSpec.vars false (#[.string ⟨⟨[]⟩⟩] : Array Value).toList 8 = some ([.lit (.string [])], [], places) :=
  ⟨[], by kernel_rfl⟩
set_option maxRecDepth 100000 in
theorem TokenNumbers_lifted (os : Os) (started : os.Started) (H : Type) (enc : TypeId × Value → H) (F : Stop.Interp) :
    ReturnsInHanded {} Tryd.checked os 9 .any ((OpenSpec.ofChange Rows.tokenNumbersSpec).preRow enc Tryd.prog Tryd.f9 Rows.tokenNumbersRow.domain false Rows.tokenNumbersRow.laid) (((OpenSpec.ofChange Rows.tokenNumbersSpec).at F).post enc Tryd.prog Tryd.f9 false true false false) := by
  obtain ⟨places, hx⟩ := TokenNumbers_reads os enc
  refine returnsInHanded_of_row (C := Tryd.checked) (s := OpenSpec.ofChange Rows.tokenNumbersSpec) own started (by kernel_rfl) Tryd.func9
    (witness_row_at (enc := enc) (C := Tryd.checked) false (TokenNumbers_world os) #[.string ⟨⟨[]⟩⟩] rfl (by kernel_rfl) (by kernel_rfl) (by kernel_rfl)
      (OpenSpec.preRow_of_cond 8 hx (by kernel_rfl) (fun k hk => by cases hk) (by kernel_rfl) (TokenNumbers_met os))) ?_
  intro W base args ds gs before hval hW _ _ hwt hL _ _
  exact TokenNumbers_contract H enc W base args ds gs before hval hwt hW hL
theorem TokenNumbers_row : Rows.TokenNumbersSaid := TokenNumbers_over TokenNumbers_lifted
/-- THE CARD. -/
theorem TokenNumbers_said : Rows.TokenNumbersCardSaid :=
  Claim7.holds_tied_plain_at .later [] _ _ _ _ TokenNumbers_row (fun _ h => by cases h) (by kernel_rfl) (fun _ h => by cases h) tokenNumbers_row_tie rfl ⟨rfl, rfl⟩ (by kernel_rfl) rfl TokenNumbers_plain (by kernel_rfl)
#print axioms TokenNumbers_said
end Go.Proofs.YthbdbjnakknbkaaDoor
