/-
  Each function of a unit begins somewhere in its code, and all of that may be: the law GensPlace returns true for every list of raw things and every number of a unit, wherever the tables of the packages code and barbicankeep hold what the program's text lays there.
-/
import Derived.Test.YtijdegmamdhcbaaDoorJGensPlace
import Derived.Test.YtijdegmamdhcbaaDoorCards
import Derived.Test.YtijdegmamdhcbaaDoorTie
import Derived.Test.YtijdegmamdhcbaaDoorDgk
import Derived.Test.YtijdegmamdhcbaaDoorGn
import Derived.Test.YtijdegmamdhcbaaDoorPm
import Derived.Test.YtijdegmamdhcbaaDoorEc
namespace Go.Proofs.YtijdegmamdhcbaaDoor
open Go Go.Dm Go.Eng Go.RowKit Go.ChangeShapes Go.WideShapes Go.ChangeAt Barb

theorem Program_is (l : List Raw) (hl : l.length * 32 ≤ 140737488351232) (hI : ∀ r ∈ l, r.I) : CT Tryd.prog gl 24 [.g (.sl 4 (l.map Raw.g))] (Is (.g (.sl 4 ((programP l).map Unit.g)))) :=
  Program_Q l hl hI _ (fun h i hi => retIs (.inl (by simp only [conv, kp, hi])))
theorem gpOdd_any (c : List Barb.Instr) (n : Int) (h0 : 0 ≤ n ∧ n < (c.length : Int)) : CT Tryd.prog gl 29 [.g (.int n), .fp [.sl 4 (c.map Instr.g)] 0] (Is (.g (.bool false))) := by
  have lc : (c.map Instr.g).length = c.length := List.length_map _
  refine enter hT hF hM Tryd.func29 rfl 12 rfl (by kernel_rfl) [.tmp 3] rfl [.g (.int n), .fp [.sl 4 (c.map Instr.g)] 0] rfl _ ?_
  refine ⟨fun h => absurd h (by omega), fun _ => ?_⟩
  exact ⟨rfl, retPB ⟨fun h => absurd h (by decide), fun h => by omega⟩⟩
theorem gpIdx_any (c : List Barb.Instr) (l : List Int) (hl : l.length ≤ 9223372036854775807) (ha : ∀ n ∈ l, 0 ≤ n ∧ n < (c.length : Int)) : CT Tryd.prog gl 48 [.g (.sl 1 (l.map intG)), .fn 29 [] [.fp [.sl 4 (c.map Instr.g)] 0]] (Is (.g (.int (-1)))) := by
  have ll : (l.map intG).length = l.length := List.length_map _
  refine enter hT hF hM Tryd.func48 rfl 19 rfl (by kernel_rfl) [.tmp 4] rfl [.g (.sl 1 (l.map intG)), .fn 29 [] [.fp [.sl 4 (c.map Instr.g)] 0]] rfl _ ?_
  refine loopR (ι := Nat) (fun i => [(8, .g (.int (i : Int)))]) (fun _ => []) (fun i => i ≤ l.length) (fun i => l.length - i)
    ⟨0, [], ⟨rfl, .inl rfl, .inr ⟨lk rfl, trivial⟩, rfl⟩, Nat.zero_le _⟩ ?_
  intro Rd hRd i hi
  refine ⟨fun h => ?_, fun h => ?_⟩
  · have h1 : i < l.length := by omega
    refine ⟨i, _, rfl, gm h1, ?_⟩
    refine callIs (.inl rfl) (gpOdd_any c l[i] (ha _ (List.getElem_mem h1))) ?_
    refine ⟨_, I64.wrap (by unfold I64; omega), ?_⟩
    exact hRd _ _ _ ⟨i + 1, [], ⟨rfl, .inl rfl, .inr ⟨lk rfl, trivial⟩, rfl⟩, h1, by omega⟩
  · exact ⟨rfl, retI rfl⟩
theorem gpHas_any (c : List Barb.Instr) (l : List Int) (hl : l.length ≤ 9223372036854775807) (ha : ∀ n ∈ l, 0 ≤ n ∧ n < (c.length : Int)) : CT Tryd.prog gl 28 [.g (.sl 1 (l.map intG)), .fn 29 [] [.fp [.sl 4 (c.map Instr.g)] 0]] (Is (.g (.bool false))) := by
  refine enter hT hF hM Tryd.func28 rfl 9 rfl (by kernel_rfl) [.tmp 4] rfl [.g (.sl 1 (l.map intG)), .fn 29 [] [.fp [.sl 4 (c.map Instr.g)] 0]] rfl _ ?_
  refine callIs (.inl rfl) (gpIdx_any c l hl ha) ⟨rfl, retPB ⟨fun h => absurd h (by decide), fun h => absurd h (by decide)⟩⟩
theorem GensPlace_walk (l : List Raw) (hI : ∀ r ∈ l, r.I) (hl : l.length * 32 ≤ 140737488351232) (u : Int) (hu : I64 u) : CT Tryd.prog gl 6 [.g (.sl 4 (l.map Raw.g)), .g (.int u)] (Is (.g (.bool true))) := by
  have hP := programP_prog l
  have hgood := prog_good hP
  have hfew := prog_few hP
  have hpi := progE_I hgood hfew
  have hlen : (programP l).length = manyP l := prog_len hP
  have hm := hP.m
  have hPr := Program_is l hl hI
  generalize programP l = p at *
  have lp : (p.map Unit.g).length = p.length := List.length_map _
  obtain ⟨k, hk, hkl⟩ := pickN_nat u (many := p.length) (by omega)
  have hpk : CT Tryd.prog gl 25 [.g (.int u), .g (.int (p.map Unit.g).length)] (Is (.g (.int (k : Int)))) := by
    rw [← hk, lp]; exact picked_any u p.length hu (by omega)
  have hgen := GenUnit_any p hpi hfew k 5 (by decide)
  have hmem : p[k] ∈ p := List.getElem_mem hkl
  have hgd : p.getD (k : Int).toNat noU = p[k] := by rw [Int.toNat_natCast]; simp [hkl]
  have he : genE p k 5 = 1 ∨ (genE p k 5 = 0 ∧ (genC p k 5).length ≤ 1200 ∧ (∀ x ∈ genC p k 5, instrE x = 0) ∧ (genA p k 5).length = p[k].funcs.length ∧ ∀ n ∈ genA p k 5, 0 ≤ n ∧ n < ((genC p k 5).length : Int)) := by
    have hsh := shape_words (hP.shape _ hmem)
    by_cases h0 : genE p k 5 = 0
    · have h1 : genC p k 5 = unitC p p[k] 5 := by unfold genC; rw [if_pos h0, hgd]
      have h2 : genA p k 5 = atsG p p[k] 5 p[k].funcs ⟨[], [], 0, 0⟩ := by unfold genA; rw [if_pos h0, hgd]
      have h3 : (unitC p p[k] 5).length ≤ 1200 := by
        unfold genE at h0
        rw [if_neg (fun h => h hgood), if_neg (by omega), show p.getD (k : Int).toNat ⟨[], [], [], []⟩ = p[k] from hgd, if_neg (by omega)] at h0
        by_cases hx : (unitC p p[k] 5).length > 1200 ∨ (unitW p p[k] 5).most > 40
        · rw [if_pos hx] at h0; omega
        · omega
      have h4 := unitC_ok (base := 5) (fun f hf => fits_of hgood hmem (by decide) hf) h3
      have h5 : (unitC p p[k] 5).length = (unitW p p[k] 5).code.length := patchG_len _ _ _
      refine .inr ⟨h0, by rw [h1]; exact h3, by rw [h1]; exact h4, by rw [h2]; exact atsG_len _ _ _ _ _, fun n hn => ?_⟩
      rw [h2] at hn
      have := atsG_rng p p[k] 5 p[k].funcs ⟨[], [], 0, 0⟩ n hn
      rw [h1, h5]
      exact ⟨by have := this.1; simp at this; exact this, this.2⟩
    · refine .inl ?_
      unfold genE at h0 ⊢
      rw [if_neg (fun h => h hgood), if_neg (by omega), show p.getD (k : Int).toNat ⟨[], [], [], []⟩ = p[k] from hgd, if_neg (by omega)] at h0 ⊢
      by_cases hx : (unitC p p[k] 5).length > 1200 ∨ (unitW p p[k] 5).most > 40
      · rw [if_pos hx]
      · rw [if_neg hx] at h0; exact absurd rfl h0
  generalize genE p k 5 = e at *
  generalize genC p k 5 = c at *
  generalize genA p k 5 = a at *
  refine enter hT hF hM Tryd.func6 rfl 53 rfl (by kernel_rfl) [.tmp 4] rfl [.g (.sl 4 (l.map Raw.g)), .g (.int u)] rfl _ ?_
  refine callIs (.inl rfl) hPr ?_
  refine callIs (.inl rfl) hpk ?_
  refine callIs (.inl rfl) hgen ?_
  refine ⟨fun h => ⟨rfl, retYes (by omega)⟩, fun h => ?_⟩
  obtain ⟨_, h1, h2, h3, h4⟩ := he.resolve_left (by omega)
  have hz : encE c = 0 := by unfold encE; rw [if_neg (by omega)]; exact firstE_zero h2
  refine callIs (.inl rfl) (Encode_any c) ?_
  refine ⟨fun _ => ?_, fun h => absurd hz h⟩
  refine ⟨k, _, rfl, gm hkl, ?_⟩
  have hal : (a.map intG).length = (p[k].funcs.map Fun.g).length := by rw [List.length_map, List.length_map]; exact h3
  have hfl := (hpi.1 _ hmem).2.2.2.2.2
  refine ⟨fun _ => ?_, fun h => absurd (congrArg Int.ofNat hal) h⟩
  refine callIs (.inl rfl) (gpHas_any c a (by omega) h4) ⟨rfl, retIs (.inl rfl)⟩

set_option maxRecDepth 100000 in
theorem GensPlace_contract (H : Type) (enc : TypeId × Value → H) (W : World) (base : Nat) (args : Array Value) (ds gs : List (DataW H)) (before : List MemPlace)
    (hval : ∀ (j : Nat) t v, Tryd.f6.params[j]? = some t → args[j]? = some v → Value.okWide Tryd.prog W .any base t v)
    (hwt : (DataW.weightsEach Tryd.prog (Tryd.f6.params.toList ++ Rows.gensPlaceSpec.plain.varTypes Tryd.prog) (ds ++ gs)).all (· ≤ reachBytes) = true)
    (hW : DataW.Whole enc Tryd.prog Tryd.f6.params.toList Rows.gensPlaceSpec.vars false W args.toList ds gs before) (hL : laidMetH Tryd.prog Rows.gensPlaceRow.laid W) :
    Calls Tryd.prog 6 args W fun e W' => ∃ v, e = .returned v ∧ Rows.gensPlaceSpec.post enc Tryd.prog Tryd.f6 false true false false W args v W' := by
  refine law_contractW plainS_ok laidOut rfl ?_ rfl Tryd.underlying4 (pars_ok (by kernel_rfl)) W ?_ base args ds gs before hval hwt hW
  · intro ds hds
    match ds, hds with
    | [d0, d1], _ => rfl
  · intro args hargs
    obtain ⟨v0, r0, rfl, h0, hargs⟩ := hargs.inv
    obtain ⟨v1, r1, rfl, h1, hargs⟩ := hargs.inv
    obtain rfl := hargs.inv0
    obtain ⟨f0, g0, t0, R0⟩ := h0.slice Tryd.underlying22
    obtain ⟨x0, rfl, i0, b0⟩ := dec_Raws t0
    obtain ⟨x1, rfl, b1⟩ := h1.int Tryd.underlying3
    exact law_of_ctG (gl_ok hL) (GensPlace_walk x0 i0 b0 x1 b1) (args_cons (arg_g R0) (args_cons (arg_g (by simp only [RepV])) args_nil))
theorem GensPlace_met (os : Os) : laidMet Tryd.prog Rows.gensPlaceRow.laid ((gl_world os).forCall (fun _ _ => 0) ⟨#[], #[.slice none 0 0, .int .i64 0], []⟩).memory :=
  laidMet_of_run' 8 (by kernel_rfl) (by kernel_rfl)
theorem GensPlace_reads (os : Os) {H : Type} (enc : TypeId × Value → H) : ∃ places, DataW.whole enc Tryd.prog ((gl_world os).forCall (fun _ _ => 0) ⟨#[], #[.slice none 0 0, .int .i64 0], []⟩).memory Tryd.f6.params.toList Rows.gensPlaceSpec.vars false (#[.slice none 0 0, .int .i64 0] : Array Value).toList 8 = some ([.nil, .lit (.int .i64 0)], [], places) :=
  ⟨[], by kernel_rfl⟩
set_option maxRecDepth 100000 in
theorem GensPlace_lifted (os : Os) (started : os.Started) (H : Type) (enc : TypeId × Value → H) (F : Stop.Interp) :
    ReturnsInHanded {} Tryd.checked os 6 .any ((OpenSpec.ofChange Rows.gensPlaceSpec).preRow enc Tryd.prog Tryd.f6 Rows.gensPlaceRow.domain false Rows.gensPlaceRow.laid) (((OpenSpec.ofChange Rows.gensPlaceSpec).at F).post enc Tryd.prog Tryd.f6 false true false false) := by
  obtain ⟨places, hx⟩ := GensPlace_reads os enc
  refine returnsInHanded_of_row (C := Tryd.checked) (s := OpenSpec.ofChange Rows.gensPlaceSpec) own started (by kernel_rfl) Tryd.func6
    (witness_row_at (enc := enc) (C := Tryd.checked) false (gl_world os) #[.slice none 0 0, .int .i64 0] rfl (by kernel_rfl) (by kernel_rfl) (by kernel_rfl)
      (OpenSpec.preRow_of_cond 8 hx (by kernel_rfl) (fun k hk => by cases hk) (by kernel_rfl) (GensPlace_met os))) ?_
  intro W base args ds gs before hval hW _ _ hwt hL _ _
  exact GensPlace_contract H enc W base args ds gs before hval hwt hW hL
theorem GensPlace_row : Rows.GensPlaceSaid := GensPlace_over GensPlace_lifted
/-- THE CARD. -/
theorem GensPlace_said : Rows.GensPlaceCardSaid :=
  Claim7.holds_tied_plain_at .later [] _ _ _ _ GensPlace_row (fun _ h => by cases h) (by kernel_rfl) (fun _ h => by cases h) gensPlace_row_tie rfl ⟨rfl, rfl⟩ (by kernel_rfl) rfl GensPlace_plain (by kernel_rfl)
#print axioms GensPlace_said
end Go.Proofs.YtijdegmamdhcbaaDoor
