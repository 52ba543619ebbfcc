/-
  An image of a program may be, and has all of its words: the law LinksMay returns true for every list of raw things and every raw thing, wherever the tables of the packages code and barbicankeep hold what the program's text lays there.
-/
import Derived.Test.YtijdegmamdhcbaaDoorJLinksMay
import Derived.Test.YtijdegmamdhcbaaDoorCards
import Derived.Test.YtijdegmamdhcbaaDoorTie
import Derived.Test.YtijdegmamdhcbaaDoorDgk
import Derived.Test.YtijdegmamdhcbaaDoorLq
namespace Go.Proofs.YtijdegmamdhcbaaDoor
open Go Go.Dm Go.Eng Go.RowKit Go.ChangeShapes Go.WideShapes Go.ChangeAt Barb

theorem Program_is (l : List Raw) (hl : l.length * 32 ≤ 140737488351232) (hI : ∀ r ∈ l, r.I) : CT Tryd.prog gl 24 [.g (.sl 4 (l.map Raw.g))] (Is (.g (.sl 4 ((programP l).map Unit.g)))) :=
  Program_Q l hl hI _ (fun h i hi => retIs (.inl (by simp only [conv, kp, hi])))
theorem Cells_is (p : List Barb.Unit) (hp : PC p) (r : Raw) (hr : r.I) : CT Tryd.prog gl 22 [.g (.sl 4 (p.map Unit.g)), .agg r.d] (Is (.g (.sl 2 ((cellsP p r).map Cells.g)))) :=
  Cells_Q p hp r hr _ (fun h i hi => retIs (.inl (by simp only [conv, kp, hi])))
theorem words_sum_any (p : List Barb.Unit) (hp : p.length ≤ 5) (hU : ∀ u ∈ p, unitE u = 0) : CT Tryd.prog gl 37 [.g (.sl 4 (p.map Unit.g))] (Is (.g (.int (progWords p)))) := by
  have lp : (p.map Unit.g).length = p.length := List.length_map _
  have hb := progWords_take p (fun u hu => (unitWords_good (hU u hu)).1)
  have hb' : ∀ k, baseAt p k ≤ 40 * p.length := fun k => by
    have key : ∀ l : List Barb.Unit, (∀ u ∈ l, unitE u = 0) → progWords l ≤ 40 * l.length := by
      intro l
      induction l with
      | nil => intro _; simp [progWords]
      | cons u l ih =>
        intro h
        have h1 := ih (fun v hv => h v (List.mem_cons_of_mem _ hv))
        have h2 := unitWords_good (h u List.mem_cons_self)
        unfold progWords at h1 ⊢
        rw [List.map_cons, List.sum_cons, List.length_cons]
        push_cast
        omega
    have := key p hU
    have := (hb k).2
    omega
  refine enter hT hF hM Tryd.func37 rfl 18 rfl (by kernel_rfl) [.tmp 2] rfl [.g (.sl 4 (p.map Unit.g))] rfl _ ?_
  refine loopR (ι := Nat) (fun i => [(3, .g (.int (baseAt p i))), (8, .g (.int (i : Int)))]) (fun _ => []) (fun i => i ≤ p.length) (fun i => p.length - i)
    ⟨0, [], ⟨rfl, .inl rfl, .inr ⟨lkI (by simp [baseAt, progWords]), lk rfl, trivial⟩, rfl⟩, Nat.zero_le _⟩ ?_
  intro Rd hRd i hi
  refine ⟨fun h => ?_, fun h => ?_⟩
  · have hil : i < p.length := by have : (i : Int) < ((p.map Unit.g).length : Nat) := h; omega
    obtain ⟨_, hv8, ha3, _, _, hAE, _⟩ := unitE_inv (hU _ (List.getElem_mem hil))
    have h1 := hb i
    have h2 := unitWords_good (hU _ (List.getElem_mem hil))
    have h3 := hb' i
    have hs := baseAt_succ hil
    refine ⟨i, _, rfl, gm hil, ?_⟩
    refine callIs (.inl rfl) (Words_any p[i] hv8 (fun a ha => (arrE_inv (hAE a ha)).2) ha3) ?_
    refine ⟨baseAt p (i + 1), by rw [hs]; exact I64.wrap (by unfold I64; omega), ?_⟩
    refine ⟨_, I64.wrap (by unfold I64; omega), ?_⟩
    exact hRd _ _ _ ⟨i + 1, [], ⟨rfl, .inl rfl, .inr ⟨lk rfl, lkI (by push_cast; rfl), trivial⟩, rfl⟩, hil, by show p.length - (i + 1) < p.length - i; omega⟩
  · have hie : i = p.length := by have : ¬(i : Int) < ((p.map Unit.g).length : Nat) := h; omega
    exact ⟨rfl, retI (by rw [hie]; unfold baseAt; rw [List.take_length])⟩
theorem LinksMay_walk (l : List Raw) (hI : ∀ r ∈ l, r.I) (hl : l.length * 32 ≤ 140737488351232) (r : Raw) (hr : r.I) : CT Tryd.prog gl 10 [.g (.sl 4 (l.map Raw.g)), .agg r.d] (Is (.g (.bool true))) := by
  have hP := programP_prog l
  have hgood := prog_good hP
  have hfew := prog_few hP
  have hpi := progE_I hgood hfew
  have hPr := Program_is l hl hI
  generalize programP l = p at *
  have lp : (p.map Unit.g).length = p.length := List.length_map _
  obtain ⟨h5, hU, _, _⟩ := progE_inv hgood
  have hPC : PC p := ⟨by omega, fun u hu => by have := (unitE_inv (hU u hu)).2.1; omega, fun u hu => by have := (unitE_inv (hU u hu)).2.2.1; omega, fun u hu a ha => by have := (arrE_inv ((unitE_inv (hU u hu)).2.2.2.2.2.1 a ha)).2; omega⟩
  have hC := Cells_is p hPC r hr
  have hc0 := cellsP_good hgood r
  obtain ⟨_, hcl, hcc⟩ := cellsE_ok hc0
  have hcI := cells_I hgood hcl hcc
  have hD := Data_any p hpi (cellsP p r) hcI (by omega)
  rw [hc0] at hD
  obtain ⟨d1, d2, d3⟩ := built_of hgood r
  have hdl := dataL_len p (cellsP p r)
  have hL := linkProgram_any p hpi hfew
  have he := linkE_two hgood hfew
  have hLi : linkE p = 0 → imgE (linkI p) = 0 ∧ Image.I (linkI p) ∧ imgWords (linkI p) = progWords p ∧ (linkI p).length = p.length := linkI_good hgood hfew
  have hW := words_sum_any p h5 hU
  rw [← d1] at d2 d3
  generalize cellsP p r = cs at *
  generalize dataL p cs = d at *
  generalize linkI p = m at *
  generalize linkE p = e at *
  refine enter hT hF hM Tryd.func10 rfl 56 rfl (by kernel_rfl) [.tmp 4] rfl [.g (.sl 4 (l.map Raw.g)), .agg r.d] rfl _ ?_
  refine callIs (.inl rfl) hPr ?_
  refine callIs (.inl rfl) hL ?_
  refine callIs (.inl rfl) hC ?_
  refine callIs (.inl rfl) hD ?_
  refine ⟨fun g1 => ?_, fun g1 => ?_⟩
  · refine ⟨fun _ => ⟨rfl, retYes rfl⟩, fun h => absurd (he.resolve_left g1) h⟩
  obtain ⟨m1, m2, m3, m4⟩ := hLi g1
  have lm : ((m.map Part.g).length : Int) = ((p.map Unit.g).length : Int) := by rw [List.length_map, List.length_map, m4]
  have hK := CheckData_any m m2 d (by omega)
  have hdE : dataE m d = 0 := by
    unfold dataE
    rw [if_neg (fun h => h m1), if_neg (fun h => h (by rw [m3]; exact d2))]
    exact wordE_zero d3
  rw [hdE] at hK
  have hMW := MemWords_any m m2
  rw [m3] at hMW
  refine ⟨fun _ => ⟨fun _ => ?_, fun h => absurd lm h⟩, fun h => absurd rfl h⟩
  refine callIs (.inl rfl) hK ?_
  refine ⟨fun _ => ?_, fun h => absurd rfl h⟩
  refine callIs (.inl rfl) hMW ?_
  refine callIs (.inl rfl) hW ?_
  exact ⟨rfl, retYes rfl⟩

set_option maxRecDepth 100000 in
theorem LinksMay_contract (H : Type) (enc : TypeId × Value → H) (W : World) (base : Nat) (args : Array Value) (ds gs : List (DataW H)) (before : List MemPlace)
    (hval : ∀ (j : Nat) t v, Tryd.f10.params[j]? = some t → args[j]? = some v → Value.okWide Tryd.prog W .any base t v)
    (hwt : (DataW.weightsEach Tryd.prog (Tryd.f10.params.toList ++ Rows.linksMaySpec.plain.varTypes Tryd.prog) (ds ++ gs)).all (· ≤ reachBytes) = true)
    (hW : DataW.Whole enc Tryd.prog Tryd.f10.params.toList Rows.linksMaySpec.vars false W args.toList ds gs before) (hL : laidMetH Tryd.prog Rows.linksMayRow.laid W) :
    Calls Tryd.prog 10 args W fun e W' => ∃ v, e = .returned v ∧ Rows.linksMaySpec.post enc Tryd.prog Tryd.f10 false true false false W args v W' := by
  refine law_contractW plainS_ok laidOut rfl ?_ rfl Tryd.underlying4 (pars_ok (by kernel_rfl)) W ?_ base args ds gs before hval hwt hW
  · intro ds hds
    match ds, hds with
    | [d0, d1], _ => rfl
  · intro args hargs
    obtain ⟨v0, r0, rfl, h0, hargs⟩ := hargs.inv
    obtain ⟨v1, r1, rfl, h1, hargs⟩ := hargs.inv
    obtain rfl := hargs.inv0
    obtain ⟨f0, g0, t0, R0⟩ := h0.slice Tryd.underlying22
    obtain ⟨x0, rfl, i0, b0⟩ := dec_Raws t0
    obtain ⟨f1, g1, c1, rfl, t1, R1⟩ := h1.struct Tryd.underlying24
    obtain ⟨x1, rfl, b1⟩ := dec_Raw t1
    exact law_of_ctG (gl_ok hL) (LinksMay_walk x0 i0 b0 x1 b1) (args_cons (arg_g R0) (args_cons (arg_agg R1) args_nil))
theorem LinksMay_met (os : Os) : laidMet Tryd.prog Rows.linksMayRow.laid ((gl_world os).forCall (fun _ _ => 0) ⟨#[], #[.slice none 0 0, .agg #[.int .i64 0, .int .i64 0, .int .i64 0, .int .i64 0]], []⟩).memory :=
  laidMet_of_run' 8 (by kernel_rfl) (by kernel_rfl)
theorem LinksMay_reads (os : Os) {H : Type} (enc : TypeId × Value → H) : ∃ places, DataW.whole enc Tryd.prog ((gl_world os).forCall (fun _ _ => 0) ⟨#[], #[.slice none 0 0, .agg #[.int .i64 0, .int .i64 0, .int .i64 0, .int .i64 0]], []⟩).memory Tryd.f10.params.toList Rows.linksMaySpec.vars false (#[.slice none 0 0, .agg #[.int .i64 0, .int .i64 0, .int .i64 0, .int .i64 0]] : Array Value).toList 8 = some ([.nil, .agg [.lit (.int .i64 0), .lit (.int .i64 0), .lit (.int .i64 0), .lit (.int .i64 0)]], [], places) :=
  ⟨[], by kernel_rfl⟩
set_option maxRecDepth 100000 in
theorem LinksMay_lifted (os : Os) (started : os.Started) (H : Type) (enc : TypeId × Value → H) (F : Stop.Interp) :
    ReturnsInHanded {} Tryd.checked os 10 .any ((OpenSpec.ofChange Rows.linksMaySpec).preRow enc Tryd.prog Tryd.f10 Rows.linksMayRow.domain false Rows.linksMayRow.laid) (((OpenSpec.ofChange Rows.linksMaySpec).at F).post enc Tryd.prog Tryd.f10 false true false false) := by
  obtain ⟨places, hx⟩ := LinksMay_reads os enc
  refine returnsInHanded_of_row (C := Tryd.checked) (s := OpenSpec.ofChange Rows.linksMaySpec) own started (by kernel_rfl) Tryd.func10
    (witness_row_at (enc := enc) (C := Tryd.checked) false (gl_world os) #[.slice none 0 0, .agg #[.int .i64 0, .int .i64 0, .int .i64 0, .int .i64 0]] rfl (by kernel_rfl) (by kernel_rfl) (by kernel_rfl)
      (OpenSpec.preRow_of_cond 8 hx (by kernel_rfl) (fun k hk => by cases hk) (by kernel_rfl) (LinksMay_met os))) ?_
  intro W base args ds gs before hval hW _ _ hwt hL _ _
  exact LinksMay_contract H enc W base args ds gs before hval hwt hW hL
theorem LinksMay_row : Rows.LinksMaySaid := LinksMay_over LinksMay_lifted
/-- THE CARD. -/
theorem LinksMay_said : Rows.LinksMayCardSaid :=
  Claim7.holds_tied_plain_at .later [] _ _ _ _ LinksMay_row (fun _ h => by cases h) (by kernel_rfl) (fun _ h => by cases h) linksMay_row_tie rfl ⟨rfl, rfl⟩ (by kernel_rfl) rfl LinksMay_plain (by kernel_rfl)
#print axioms LinksMay_said
end Go.Proofs.YtijdegmamdhcbaaDoor
