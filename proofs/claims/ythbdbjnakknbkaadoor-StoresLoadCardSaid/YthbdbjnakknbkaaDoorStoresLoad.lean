/-
  What a part stores it loads: the law StoresLoad returns true for every three numbers, wherever the table of package code holds what the program's text lays there.
-/
import Derived.Test.YthbdbjnakknbkaaDoorJStoresLoad
import Derived.Test.YthbdbjnakknbkaaDoorCards
import Derived.Test.YthbdbjnakknbkaaDoorTie
import Derived.Test.YthbdbjnakknbkaaDoorSl
namespace Barb
open Go Go.Dm Go.Eng
/-- The image of the law, and its words. -/
abbrev imgS : List Part := img2 [⟨15, 0, 0, 0⟩] 4
abbrev dataS : List Int := [1, 2, 3, 4, 5, 6, 7]
theorem imgS_I : Image.I imgS := by
  refine ⟨fun p hp => ?_, by decide⟩
  simp only [imgS, img2, List.mem_cons, List.not_mem_nil, or_false] at hp
  rcases hp with rfl | rfl
  · refine ⟨fun i hi => ?_, fun i hi => ?_, by unfold I64; decide, by unfold I64; decide, by decide, by decide⟩
    · simp only [List.mem_cons, List.not_mem_nil, or_false] at hi
      rcases hi with rfl | rfl <;> (refine ⟨?_, ?_, ?_, ?_⟩ <;> (unfold I64; decide))
    · simp only [List.mem_cons, List.not_mem_nil, or_false] at hi
      subst hi
      refine ⟨?_, ?_⟩ <;> (unfold I64; decide)
  · refine ⟨fun i hi => ?_, fun i hi => ?_, by unfold I64; decide, by unfold I64; decide, by decide, by decide⟩
    · simp only [List.mem_cons, List.not_mem_nil, or_false] at hi
      subst hi
      refine ⟨?_, ?_, ?_, ?_⟩ <;> (unfold I64; decide)
    · simp only [List.mem_cons, List.not_mem_nil, or_false] at hi
      subst hi
      refine ⟨?_, ?_⟩ <;> (unfold I64; decide)
theorem dataS_ok (v : Int) (k : Nat) (hv : 0 ≤ v ∧ v ≤ 65535) : dataE imgS (dataS.set k v) = 0 := by
  have h1 : imgE imgS = 0 := by decide
  have h2 : imgWords imgS = 7 := by decide
  unfold dataE
  rw [if_neg (fun h => h h1), if_neg (fun h => h (by rw [h2, List.length_set]; rfl))]
  refine wordE_zero (fun n hn => ?_)
  rcases List.mem_or_eq_of_mem_set hn with hn | rfl
  · simp only [dataS, List.mem_cons, List.not_mem_nil, or_false] at hn
    unfold wordN
    omega
  · exact hv
theorem dataS_ok0 : dataE imgS dataS = 0 := by
  have := dataS_ok 1 0 (by decide)
  exact this
theorem ownS (d : List Int) (hd : dataE imgS d = 0) (p : Nat) (hp : p < 2) (a : Int) : ownE imgS d p a = if (p = 0 ∧ 0 ≤ a ∧ a < 3) ∨ (p = 1 ∧ 3 ≤ a ∧ a < 7) then 0 else 9 := by
  unfold ownE
  rw [if_neg (fun h => h hd), if_neg (fun h => h ⟨by omega, by show (p : Int) < 2; omega⟩)]
  match p, hp with
  | 0, _ =>
    show (if ¬((0 : Int) ≤ a ∧ a < 3) then (9 : Int) else 0) = _
    by_cases h : 0 ≤ a ∧ a < 3
    · rw [if_neg (fun h' => h' h), if_pos (.inl ⟨rfl, h⟩)]
    · rw [if_pos h, if_neg (by omega)]
  | 1, _ =>
    show (if ¬((3 : Int) ≤ a ∧ a < 7) then (9 : Int) else 0) = _
    by_cases h : 3 ≤ a ∧ a < 7
    · rw [if_neg (fun h' => h' h), if_pos (.inr ⟨rfl, h⟩)]
    · rw [if_pos h, if_neg (by omega)]
end Barb
namespace Go.Proofs.YthbdbjnakknbkaaDoor
open Go Go.Dm Go.Eng Go.RowKit Go.ChangeShapes Go.WideShapes Go.ChangeAt Barb

theorem setBack {k : Nat} (hk : k < dataS.length) {v : Int} : (((dataS.set k v).map intG).set k [.int dataS[k]]) = dataS.map intG := by
  rw [show [GV.int dataS[k]] = intG dataS[k] from rfl, ← List.map_set, List.set_set, List.set_getElem_self]
theorem setGet {k : Nat} (hk : k < dataS.length) {v : Int} : (dataS.set k v).getD ((k : Int)).toNat 0 = v := by
  rw [Int.toNat_natCast, List.getD_eq_getElem?_getD, List.getElem?_set_self hk]; rfl
set_option maxRecDepth 20000 in
set_option maxHeartbeats 1000000 in
theorem walk0 (at_ n part : Int) (kk v : Nat) (hkk : kk < 9) (hv : v < 65536) (pp : CT Tryd.prog gl 16 [.g (.int part), .g (.int ((2 : Nat) : Int))] (Is (.g (.int ((0 : Nat) : Int)))))
    (pk : CT Tryd.prog gl 16 [.g (.int at_), .g (.int ((9 : Nat) : Int))] (Is (.g (.int (kk : Int))))) (pv : CT Tryd.prog gl 16 [.g (.int n), .g (.int ((65536 : Nat) : Int))] (Is (.g (.int (v : Int))))) :
    CT Tryd.prog gl 4 [.g (.int at_), .g (.int n), .g (.int part)] (Is (.g (.bool true))) := by
  by_cases how : 0 ≤ (kk : Int) - 1 ∧ (kk : Int) - 1 < 3
  · obtain ⟨k, rfl⟩ : ∃ k, kk = k + 1 := ⟨kk - 1, by omega⟩
    have hk : k < dataS.length := by show k < 7; omega
    have h0 : ownE imgS dataS ((0 : Nat) : Int) (k : Int) = 0 := by rw [ownS dataS dataS_ok0 0 (by decide)]; exact if_pos (by omega)
    have h1 : ownE imgS (dataS.set k (v : Int)) ((0 : Nat) : Int) (k : Int) = 0 := by rw [ownS _ (dataS_ok _ _ (by omega)) 0 (by decide)]; exact if_pos (by omega)
    have hld := Load_any imgS imgS_I (dataS.set k (v : Int)) (by rw [List.length_set]; decide) ((0 : Nat) : Int) (k : Int)
    rw [h1, show loadV imgS (dataS.set k (v : Int)) ((0 : Nat) : Int) (k : Int) = (v : Int) from by unfold loadV; rw [if_pos h1]; exact setGet hk] at hld
    refine enterT [2] hT hF hM Tryd.func4 rfl 118 rfl (by kernel_rfl) [.tmp 6] rfl [.g (.int at_), .g (.int n), .g (.int part)] rfl _ ?_
    refine ⟨[Instr.g ⟨15, 0, 0, 0⟩], rfl, rfl, ⟨rfl, rfl, rfl, rfl, trivial⟩, ?_⟩
    refine callIs (.inl rfl) (image_any [⟨15, 0, 0, 0⟩] 4 (by decide)) ?_
    refine ⟨dataS.map intG, rfl, rfl, ⟨rfl, rfl, rfl, rfl, rfl, rfl, rfl, trivial⟩, ?_⟩
    refine turnTo [.old 1] [(7, .ptr 0 0), (8, .g (.sl 1 (dataS.map intG)))] [.blk (imgD imgS) 27] ⟨rfl, .inl rfl, .inl rfl, rfl⟩ ?_
    refine callIs (.inl rfl) pp ?_
    refine callIs (.inl rfl) pk ⟨by unfold I64; omega, ?_⟩
    refine callIs (.inl rfl) pv ?_
    refine callQ (show likeA _ [.agg (imgD imgS), .g (.sl 1 (dataS.map intG)), .g (.int ((0 : Nat) : Int)), .g (.int (k : Int)), .g (.int (v : Int))] from .inr ⟨lk rfl, lk rfl, lk rfl, lkI (by omega), lk rfl, trivial⟩) (StoreRow_any imgS imgS_I dataS (by decide) ((0 : Nat) : Int) k (v : Int) hk h0 (by omega)) (fun d h' hq => ?_) (fun d hq => by cases hq)
    injection hq with e1 e2
    subst e1; subst e2
    refine ⟨fun _ => ⟨fun _ => ⟨fun _ => ?_, fun h => (by exfalso; omega)⟩, fun h => (by exfalso; omega)⟩, fun h => absurd rfl h⟩
    refine callIs (show likeA _ [.agg (imgD imgS), .g (.sl 1 ((dataS.set k (v : Int)).map intG)), .g (.int ((0 : Nat) : Int)), .g (.int (k : Int))] from .inr ⟨lk rfl, lk rfl, lk rfl, lkI (by omega), trivial⟩) hld ?_
    refine ⟨fun h => absurd (by simp) h, fun _ => ?_⟩
    refine ⟨k, _, dJ (by omega), gm hk, ?_⟩
    refine ⟨k, dJ (by omega), by simpa using hk, ?_⟩
    refine ⟨_, [.int dataS[k]], gm (by simpa using hk), ⟨rfl, trivial⟩, Nat.le_refl 1, (fun h => by cases h), ?_⟩
    refine ⟨fun _ => ⟨fun _ => ⟨fun _ => ?_, fun h => absurd rfl h⟩, fun h => absurd rfl h⟩, fun h => absurd rfl h⟩
    refine callIs (show likeA _ [.g (.sl 1 (dataS.map intG)), .g (.sl 1 (dataS.map intG))] from .inr ⟨lkL (setBack hk), lk rfl, trivial⟩) (EqualN_any dataS (by decide)) ?_
    refine callIs (.inl rfl) (MemWords_any imgS imgS_I) ⟨rfl, retYes (by decide)⟩
  · have h9 : ownE imgS dataS ((0 : Nat) : Int) ((kk : Int) - 1) = 9 := by rw [ownS dataS dataS_ok0 0 (by decide)]; exact if_neg (by omega)
    have hst := Store_any imgS imgS_I dataS (by decide) ((0 : Nat) : Int) ((kk : Int) - 1) (v : Int)
    have hE : storeE imgS dataS ((0 : Nat) : Int) ((kk : Int) - 1) (v : Int) = 9 := by unfold storeE; rw [h9]; rfl
    rw [hE] at hst
    have hl9 := Load_any imgS imgS_I dataS (by decide) ((0 : Nat) : Int) ((kk : Int) - 1)
    rw [h9] at hl9
    refine enterT [2] hT hF hM Tryd.func4 rfl 118 rfl (by kernel_rfl) [.tmp 6] rfl [.g (.int at_), .g (.int n), .g (.int part)] rfl _ ?_
    refine ⟨[Instr.g ⟨15, 0, 0, 0⟩], rfl, rfl, ⟨rfl, rfl, rfl, rfl, trivial⟩, ?_⟩
    refine callIs (.inl rfl) (image_any [⟨15, 0, 0, 0⟩] 4 (by decide)) ?_
    refine ⟨dataS.map intG, rfl, rfl, ⟨rfl, rfl, rfl, rfl, rfl, rfl, rfl, trivial⟩, ?_⟩
    refine turnTo [.old 1] [(7, .ptr 0 0), (8, .g (.sl 1 (dataS.map intG)))] [.blk (imgD imgS) 27] ⟨rfl, .inl rfl, .inl rfl, rfl⟩ ?_
    refine callIs (.inl rfl) pp ?_
    refine callIs (.inl rfl) pk ⟨by unfold I64; omega, ?_⟩
    refine callIs (.inl rfl) pv ?_
    refine callIs (.inl rfl) hst ?_
    exact ⟨fun _ => ⟨fun _ => ⟨fun h => (by exfalso; omega), fun _ => ⟨fun h => absurd h (by decide), fun _ => callIs (.inl rfl) hl9 ⟨fun _ => ⟨rfl, retYes rfl⟩, fun h => absurd rfl h⟩⟩⟩, fun _ => ⟨fun h => absurd h (by decide), fun _ => callIs (.inl rfl) hl9 ⟨fun _ => ⟨rfl, retYes rfl⟩, fun h => absurd rfl h⟩⟩⟩, fun h => absurd rfl h⟩
set_option maxRecDepth 20000 in
set_option maxHeartbeats 1000000 in
theorem walk1 (at_ n part : Int) (kk v : Nat) (hkk : kk < 9) (hv : v < 65536) (pp : CT Tryd.prog gl 16 [.g (.int part), .g (.int ((2 : Nat) : Int))] (Is (.g (.int ((1 : Nat) : Int)))))
    (pk : CT Tryd.prog gl 16 [.g (.int at_), .g (.int ((9 : Nat) : Int))] (Is (.g (.int (kk : Int))))) (pv : CT Tryd.prog gl 16 [.g (.int n), .g (.int ((65536 : Nat) : Int))] (Is (.g (.int (v : Int))))) :
    CT Tryd.prog gl 4 [.g (.int at_), .g (.int n), .g (.int part)] (Is (.g (.bool true))) := by
  by_cases how : 3 ≤ (kk : Int) - 1 ∧ (kk : Int) - 1 < 7
  · obtain ⟨k, rfl⟩ : ∃ k, kk = k + 1 := ⟨kk - 1, by omega⟩
    have hk : k < dataS.length := by show k < 7; omega
    have h0 : ownE imgS dataS ((1 : Nat) : Int) (k : Int) = 0 := by rw [ownS dataS dataS_ok0 1 (by decide)]; exact if_pos (by omega)
    have h1 : ownE imgS (dataS.set k (v : Int)) ((1 : Nat) : Int) (k : Int) = 0 := by rw [ownS _ (dataS_ok _ _ (by omega)) 1 (by decide)]; exact if_pos (by omega)
    have hld := Load_any imgS imgS_I (dataS.set k (v : Int)) (by rw [List.length_set]; decide) ((1 : Nat) : Int) (k : Int)
    rw [h1, show loadV imgS (dataS.set k (v : Int)) ((1 : Nat) : Int) (k : Int) = (v : Int) from by unfold loadV; rw [if_pos h1]; exact setGet hk] at hld
    refine enterT [2] hT hF hM Tryd.func4 rfl 118 rfl (by kernel_rfl) [.tmp 6] rfl [.g (.int at_), .g (.int n), .g (.int part)] rfl _ ?_
    refine ⟨[Instr.g ⟨15, 0, 0, 0⟩], rfl, rfl, ⟨rfl, rfl, rfl, rfl, trivial⟩, ?_⟩
    refine callIs (.inl rfl) (image_any [⟨15, 0, 0, 0⟩] 4 (by decide)) ?_
    refine ⟨dataS.map intG, rfl, rfl, ⟨rfl, rfl, rfl, rfl, rfl, rfl, rfl, trivial⟩, ?_⟩
    refine turnTo [.old 1] [(7, .ptr 0 0), (8, .g (.sl 1 (dataS.map intG)))] [.blk (imgD imgS) 27] ⟨rfl, .inl rfl, .inl rfl, rfl⟩ ?_
    refine callIs (.inl rfl) pp ?_
    refine callIs (.inl rfl) pk ⟨by unfold I64; omega, ?_⟩
    refine callIs (.inl rfl) pv ?_
    refine callQ (show likeA _ [.agg (imgD imgS), .g (.sl 1 (dataS.map intG)), .g (.int ((1 : Nat) : Int)), .g (.int (k : Int)), .g (.int (v : Int))] from .inr ⟨lk rfl, lk rfl, lk rfl, lkI (by omega), lk rfl, trivial⟩) (StoreRow_any imgS imgS_I dataS (by decide) ((1 : Nat) : Int) k (v : Int) hk h0 (by omega)) (fun d h' hq => ?_) (fun d hq => by cases hq)
    injection hq with e1 e2
    subst e1; subst e2
    refine ⟨fun h => absurd h (by decide), fun _ => ⟨fun _ => ⟨fun _ => ⟨fun h => (by exfalso; omega), fun _ => ?_⟩, fun h => (by exfalso; omega)⟩, fun h => absurd rfl h⟩⟩
    refine callIs (show likeA _ [.agg (imgD imgS), .g (.sl 1 ((dataS.set k (v : Int)).map intG)), .g (.int ((1 : Nat) : Int)), .g (.int (k : Int))] from .inr ⟨lk rfl, lk rfl, lk rfl, lkI (by omega), trivial⟩) hld ?_
    refine ⟨fun h => absurd (by simp) h, fun _ => ?_⟩
    refine ⟨k, _, dJ (by omega), gm hk, ?_⟩
    refine ⟨k, dJ (by omega), by simpa using hk, ?_⟩
    refine ⟨_, [.int dataS[k]], gm (by simpa using hk), ⟨rfl, trivial⟩, Nat.le_refl 1, (fun h => by cases h), ?_⟩
    refine ⟨fun _ => ⟨fun _ => ⟨fun _ => ?_, fun h => absurd rfl h⟩, fun h => absurd rfl h⟩, fun h => absurd rfl h⟩
    refine callIs (show likeA _ [.g (.sl 1 (dataS.map intG)), .g (.sl 1 (dataS.map intG))] from .inr ⟨lkL (setBack hk), lk rfl, trivial⟩) (EqualN_any dataS (by decide)) ?_
    refine callIs (.inl rfl) (MemWords_any imgS imgS_I) ⟨rfl, retYes (by decide)⟩
  · have h9 : ownE imgS dataS ((1 : Nat) : Int) ((kk : Int) - 1) = 9 := by rw [ownS dataS dataS_ok0 1 (by decide)]; exact if_neg (by omega)
    have hst := Store_any imgS imgS_I dataS (by decide) ((1 : Nat) : Int) ((kk : Int) - 1) (v : Int)
    have hE : storeE imgS dataS ((1 : Nat) : Int) ((kk : Int) - 1) (v : Int) = 9 := by unfold storeE; rw [h9]; rfl
    rw [hE] at hst
    have hl9 := Load_any imgS imgS_I dataS (by decide) ((1 : Nat) : Int) ((kk : Int) - 1)
    rw [h9] at hl9
    refine enterT [2] hT hF hM Tryd.func4 rfl 118 rfl (by kernel_rfl) [.tmp 6] rfl [.g (.int at_), .g (.int n), .g (.int part)] rfl _ ?_
    refine ⟨[Instr.g ⟨15, 0, 0, 0⟩], rfl, rfl, ⟨rfl, rfl, rfl, rfl, trivial⟩, ?_⟩
    refine callIs (.inl rfl) (image_any [⟨15, 0, 0, 0⟩] 4 (by decide)) ?_
    refine ⟨dataS.map intG, rfl, rfl, ⟨rfl, rfl, rfl, rfl, rfl, rfl, rfl, trivial⟩, ?_⟩
    refine turnTo [.old 1] [(7, .ptr 0 0), (8, .g (.sl 1 (dataS.map intG)))] [.blk (imgD imgS) 27] ⟨rfl, .inl rfl, .inl rfl, rfl⟩ ?_
    refine callIs (.inl rfl) pp ?_
    refine callIs (.inl rfl) pk ⟨by unfold I64; omega, ?_⟩
    refine callIs (.inl rfl) pv ?_
    refine callIs (.inl rfl) hst ?_
    exact ⟨fun h => absurd h (by decide), fun _ => ⟨fun _ => ⟨fun _ => ⟨fun _ => callIs (.inl rfl) hl9 ⟨fun _ => ⟨rfl, retYes rfl⟩, fun h => absurd rfl h⟩, fun h => (by exfalso; omega)⟩, fun _ => callIs (.inl rfl) hl9 ⟨fun _ => ⟨rfl, retYes rfl⟩, fun h => absurd rfl h⟩⟩, fun h => absurd rfl h⟩⟩

theorem StoresLoad_walk (at_ : Int) (ha : I64 at_) (n : Int) (hn : I64 n) (part : Int) (hp : I64 part) : CT Tryd.prog gl 4 [.g (.int at_), .g (.int n), .g (.int part)] (Is (.g (.bool true))) := by
  obtain ⟨p, hp2, pp⟩ := pick_any part hp (many := 2) (by decide)
  obtain ⟨kk, hkk, pk⟩ := pick_any at_ ha (many := 9) (by decide)
  obtain ⟨v, hv, pv⟩ := pick_any n hn (many := 65536) (by decide)
  rcases (show p = 0 ∨ p = 1 by omega) with rfl | rfl
  · exact walk0 at_ n part kk v hkk hv pp pk pv
  · exact walk1 at_ n part kk v hkk hv pp pk pv

set_option maxRecDepth 100000 in
theorem StoresLoad_contract (H : Type) (enc : TypeId × Value → H) (W : World) (base : Nat) (args : Array Value) (ds gs : List (DataW H)) (before : List MemPlace)
    (hval : ∀ (j : Nat) t v, Tryd.f4.params[j]? = some t → args[j]? = some v → Value.okWide Tryd.prog W .any base t v)
    (hwt : (DataW.weightsEach Tryd.prog (Tryd.f4.params.toList ++ Rows.storesLoadSpec.plain.varTypes Tryd.prog) (ds ++ gs)).all (· ≤ reachBytes) = true)
    (hW : DataW.Whole enc Tryd.prog Tryd.f4.params.toList Rows.storesLoadSpec.vars false W args.toList ds gs before) (hL : laidMetH Tryd.prog Rows.storesLoadRow.laid W) :
    Calls Tryd.prog 4 args W fun e W' => ∃ v, e = .returned v ∧ Rows.storesLoadSpec.post enc Tryd.prog Tryd.f4 false true false false W args v W' := by
  refine law_contractW plainS_ok laidOut rfl ?_ rfl Tryd.underlying4 (pars_ok (by kernel_rfl)) W ?_ base args ds gs before hval hwt hW
  · intro ds hds
    match ds, hds with
    | [d0, d1, d2], _ => rfl
  · intro args hargs
    obtain ⟨v0, r0, rfl, h0, hargs⟩ := hargs.inv
    obtain ⟨v1, r1, rfl, h1, hargs⟩ := hargs.inv
    obtain ⟨v2, r2, rfl, h2, hargs⟩ := hargs.inv
    obtain rfl := hargs.inv0
    obtain ⟨x0, rfl, b0⟩ := h0.int Tryd.underlying3
    obtain ⟨x1, rfl, b1⟩ := h1.int Tryd.underlying3
    obtain ⟨x2, rfl, b2⟩ := h2.int Tryd.underlying3
    exact law_of_ctG (gl_ok hL) (StoresLoad_walk x0 b0 x1 b1 x2 b2) (args_cons (arg_g (by simp only [RepV])) (args_cons (arg_g (by simp only [RepV])) (args_cons (arg_g (by simp only [RepV])) args_nil)))
/-- A world for the witness: the settled one, the table holding what its initialiser lays. -/
noncomputable def StoresLoad_world (os : Os) : World :=
  { World.holding Tryd.prog os ⟨#[], #[], []⟩ with heap := (World.holding Tryd.prog os ⟨#[], #[], []⟩).heap.modify 0 fun
      | .cells _ t frozen => .cells (ofRows.flatten.map fun z => Value.int .i64 z).toArray t frozen
      | o => o }
theorem StoresLoad_met (os : Os) : laidMet Tryd.prog Rows.storesLoadRow.laid ((StoresLoad_world os).forCall (fun _ _ => 0) ⟨#[], #[.int .i64 0, .int .i64 0, .int .i64 0], []⟩).memory :=
  laidMet_of_run' 8 (by kernel_rfl) (by kernel_rfl)
theorem StoresLoad_reads (os : Os) {H : Type} (enc : TypeId × Value → H) : ∃ places, DataW.whole enc Tryd.prog ((StoresLoad_world os).forCall (fun _ _ => 0) ⟨#[], #[.int .i64 0, .int .i64 0, .int .i64 0], []⟩).memory Tryd.f4.params.toList Rows.storesLoadSpec.vars false (#[.int .i64 0, .int .i64 0, .int .i64 0] : Array Value).toList 8 = some ([.lit (.int .i64 0), .lit (.int .i64 0), .lit (.int .i64 0)], [], places) :=
  ⟨[], by kernel_rfl⟩
set_option maxRecDepth 100000 in
theorem StoresLoad_lifted (os : Os) (started : os.Started) (H : Type) (enc : TypeId × Value → H) (F : Stop.Interp) :
    ReturnsInHanded {} Tryd.checked os 4 .any ((OpenSpec.ofChange Rows.storesLoadSpec).preRow enc Tryd.prog Tryd.f4 Rows.storesLoadRow.domain false Rows.storesLoadRow.laid) (((OpenSpec.ofChange Rows.storesLoadSpec).at F).post enc Tryd.prog Tryd.f4 false true false false) := by
  obtain ⟨places, hx⟩ := StoresLoad_reads os enc
  refine returnsInHanded_of_row (C := Tryd.checked) (s := OpenSpec.ofChange Rows.storesLoadSpec) own started (by kernel_rfl) Tryd.func4
    (witness_row_at (enc := enc) (C := Tryd.checked) false (StoresLoad_world os) #[.int .i64 0, .int .i64 0, .int .i64 0] rfl (by kernel_rfl) (by kernel_rfl) (by kernel_rfl)
      (OpenSpec.preRow_of_cond 8 hx (by kernel_rfl) (fun k hk => by cases hk) (by kernel_rfl) (StoresLoad_met os))) ?_
  intro W base args ds gs before hval hW _ _ hwt hL _ _
  exact StoresLoad_contract H enc W base args ds gs before hval hwt hW hL
theorem StoresLoad_row : Rows.StoresLoadSaid := StoresLoad_over StoresLoad_lifted
/-- THE CARD. -/
theorem StoresLoad_said : Rows.StoresLoadCardSaid :=
  Claim7.holds_tied_plain_at .later [] _ _ _ _ StoresLoad_row (fun _ h => by cases h) (by kernel_rfl) (fun _ h => by cases h) storesLoad_row_tie rfl ⟨rfl, rfl⟩ (by kernel_rfl) rfl StoresLoad_plain (by kernel_rfl)
#print axioms StoresLoad_said
end Go.Proofs.YthbdbjnakknbkaaDoor
