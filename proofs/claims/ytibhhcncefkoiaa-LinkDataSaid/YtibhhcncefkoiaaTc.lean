/-
  tree.Check: the contract.
-/
import Derived.Test.YtibhhcncefkoiaaEd
namespace Go.Proofs.Ytibhhcncefkoiaa
open Go Go.Dm Go.Eng Barb

theorem panC {e v : Int} (h : e = v) : panV e = .iface 148 (.agg [.g (.int v)]) := by rw [← h]; rfl
theorem blkC {a v : Int} {t : TypeId} {o : Option Go.Dm.Obj} (h : a = v) (ho : o = some (.blk [.g (.int a)] t)) : o = some (.blk [.g (.int v)] t) := by rw [← h]; exact ho

set_option maxHeartbeats 1000000 in
theorem TreeCheck_any (u : Barb.Unit) (hu : u.I) : CT Try.prog [] 46 [.agg u.d] (Is (.g (.int (unitE u)))) := by
  obtain ⟨hn, ⟨hvs, hvl⟩, hai, hal, hfi, hfl⟩ := hu
  have lv : (u.vars.map strG).length = u.vars.length := by simp
  have la : (u.arrays.map Arr.g).length = u.arrays.length := by simp
  have lf : (u.funcs.map Fun.g).length = u.funcs.length := by simp
  have e : unitE u = unitE u := rfl
  conv at e => rhs; unfold unitE
  refine enterD hT hF hM Try.func46 rfl 101 rfl (by kernel_rfl) (by kernel_rfl) 2 27 rfl (by kernel_rfl) rfl rfl [.agg u.d] rfl 148 70 (fun Q a w hq => ?_) (fun x w => ?_) caught_idle caught_panicking (unitE u) ?_
  · apply wp_region
    simp [wpOps, go_sem]
    exact .inl (by simpa using hq)
  · simp [go_sem]
  refine ⟨rfl, fun d => ?_⟩
  refine stepS ?_
  refine callIs (.inl rfl) (Ident_any u.name hn) (callNeed (p := identP u.name) (by decide) (lkP Iff.rfl) (fun h1 => ⟨?_⟩) (fun h1 => ⟨rfl, panC (by rw [e, if_pos h1]), _, _, _, rfl, rfl⟩))
  rw [if_neg (Classical.not_not.2 h1)] at e
  refine seqJ (ι := PUnit) (fun _ => [(1, .ptr 0 0), (2, .ptr 1 0)]) (fun _ => [.blk u.d 64, .blk [.g (.int 0)] 27]) (fun _ => ¬(8 < u.vars.length ∨ 3 < u.arrays.length ∨ 8 < u.funcs.length)) (fun e0 _ h2 => ?_) (fun Rj hRj => ?_)
  rotate_left
  · refine ⟨fun a1 => ⟨fun a2 => ?_, fun a2 => ?_⟩, fun a1 => ?_⟩
    · exact callNeed (p := ¬(8 < u.vars.length ∨ 3 < u.arrays.length ∨ 8 < u.funcs.length)) (by decide) (lkP (by omega)) (fun h => hRj ⟨⟩ _ ⟨rfl, rfl, trivial⟩ h) (fun h => ⟨rfl, panC (by rw [e, if_pos (Classical.not_not.1 h)]), _, _, _, rfl, rfl⟩)
    · have hb : 8 < u.vars.length ∨ 3 < u.arrays.length ∨ 8 < u.funcs.length := by omega
      exact callNeed (p := ¬(8 < u.vars.length ∨ 3 < u.arrays.length ∨ 8 < u.funcs.length)) (by decide) (lkBP ⟨fun h => (by cases h), fun h => absurd hb h⟩) (fun h => absurd hb h) (fun h => ⟨rfl, panC (by rw [e, if_pos hb]), _, _, _, rfl, rfl⟩)
    · have hb : 8 < u.vars.length ∨ 3 < u.arrays.length ∨ 8 < u.funcs.length := by omega
      exact callNeed (p := ¬(8 < u.vars.length ∨ 3 < u.arrays.length ∨ 8 < u.funcs.length)) (by decide) (lkBP ⟨fun h => (by cases h), fun h => absurd hb h⟩) (fun h => absurd hb h) (fun h => ⟨rfl, panC (by rw [e, if_pos hb]), _, _, _, rfl, rfl⟩)
  rw [if_neg h2] at e
  refine loopR (ι := Nat) (fun i => [(36, .g (.int (i : Int))), (1, .ptr 0 0), (2, .ptr 1 0)]) (fun _ => [.blk u.d 64, .blk [.g (.int 0)] 27]) (fun i => i ≤ u.vars.length ∧ ∀ j (hj : j < u.vars.length), j < i → nameE u.vars[j] = 0) (fun i => u.vars.length - i)
    ⟨0, [.old 0, .old 1], ⟨rfl, .inl rfl, .inr ⟨lk rfl, lk rfl, lk rfl, trivial⟩, rfl⟩, Nat.zero_le _, none0⟩ ?_
  intro Rd hRd i ⟨hi, ha⟩
  refine ⟨fun b0 => ?_, fun b0 => ?_⟩
  · have b1 : i < u.vars.length := by omega
    refine ⟨i, _, rfl, gm b1, ?_⟩
    refine callIs (.inl rfl) (Ident_any u.vars[i] (hvs _ (List.getElem_mem _))) (callNeed (p := identP u.vars[i]) (by decide) (lkP Iff.rfl) (fun b2 => ⟨_, I64.wrap (by unfold I64; omega), ?_⟩) (fun b2 => ⟨rfl, panC ?_, _, _, _, rfl, rfl⟩))
    · exact hRd _ _ _ ⟨i + 1, [.old 0, .old 1], ⟨rfl, .inl rfl, .inr ⟨lk rfl, lk rfl, lk rfl, trivial⟩, rfl⟩, ⟨b1, firstE_step b1 ha (nameE_ok b2)⟩, by omega⟩
    · have hz := nameE_no b2
      rw [e, firstE_at b1 ha (by rw [hz]; decide), hz, if_pos (by decide)]
  have hv0 : firstE nameE u.vars = 0 := firstE_end (by omega) ha
  rw [if_neg (fun h => h hv0)] at e
  clear hRd ha hi b0
  refine loopR (ι := Nat) (fun i => [(47, .g (.int (i : Int))), (1, .ptr 0 0), (2, .ptr 1 0)]) (fun _ => [.blk u.d 64, .blk [.g (.int 0)] 27]) (fun i => i ≤ u.arrays.length ∧ ∀ j (hj : j < u.arrays.length), j < i → arrE u.arrays[j] = 0) (fun i => u.arrays.length - i)
    ⟨0, [.old 0, .old 1], ⟨rfl, .inl rfl, .inr ⟨lk rfl, lk rfl, lk rfl, trivial⟩, rfl⟩, Nat.zero_le _, none0⟩ ?_
  intro Rd hRd i ⟨hi, ha⟩
  refine ⟨fun b0 => ?_, fun b0 => ?_⟩
  · have b1 : i < u.arrays.length := by omega
    have bI := hai _ (List.getElem_mem b1)
    refine ⟨i, _, rfl, gm b1, ?_⟩
    have hz : ∀ v : Int, v ≠ 0 → arrE u.arrays[i] = v → unitE u = v := fun v h0 h => by rw [e, firstE_at b1 ha (by rw [h]; exact h0), h, if_pos h0]
    refine callIs (.inl rfl) (Ident_any u.arrays[i].name bI.1) (callNeed (p := identP u.arrays[i].name) (by decide) (lkP Iff.rfl) (fun b2 => ?_) (fun b2 => ⟨rfl, panC (hz 4 (by decide) (by unfold arrE; rw [if_pos b2])).symm, _, _, _, rfl, rfl⟩))
    refine ⟨fun a1 => ?_, fun a1 => ?_⟩
    · refine callNeed (p := 1 ≤ u.arrays[i].size ∧ u.arrays[i].size ≤ 10) (by decide) (lkP ⟨fun h => ⟨a1, h⟩, fun h => h.2⟩) (fun b3 => ⟨_, I64.wrap (by unfold I64; omega), ?_⟩) (fun b3 => ⟨rfl, panC (hz 2 (by decide) (by unfold arrE; rw [if_neg (Classical.not_not.2 b2), if_pos b3])).symm, _, _, _, rfl, rfl⟩)
      exact hRd _ _ _ ⟨i + 1, [.old 0, .old 1], ⟨rfl, .inl rfl, .inr ⟨lk rfl, lk rfl, lk rfl, trivial⟩, rfl⟩, ⟨b1, firstE_step b1 ha (by unfold arrE; rw [if_neg (Classical.not_not.2 b2), if_neg (Classical.not_not.2 b3)])⟩, by omega⟩
    · exact callNeed (p := 1 ≤ u.arrays[i].size ∧ u.arrays[i].size ≤ 10) (by decide) (lkBP ⟨fun h => (by cases h), fun h => absurd h.1 a1⟩) (fun b3 => absurd b3.1 a1) (fun b3 => ⟨rfl, panC (hz 2 (by decide) (by unfold arrE; rw [if_neg (Classical.not_not.2 b2), if_pos b3])).symm, _, _, _, rfl, rfl⟩)
  have ha0 : firstE arrE u.arrays = 0 := firstE_end (by omega) ha
  rw [if_neg (fun h => h ha0)] at e
  clear hRd ha hi b0
  refine loopR (ι := Nat) (fun i => [(68, .g (.int (i : Int))), (7, .g (.int (IntKind.i64.wrap (manyN (u.funcs.take i))))), (1, .ptr 0 0), (2, .ptr 1 0)]) (fun _ => [.blk u.d 64, .blk [.g (.int 0)] 27]) (fun i => i ≤ u.funcs.length ∧ ∀ j (hj : j < u.funcs.length), j < i → funE u.funcs[j] = 0) (fun i => u.funcs.length - i)
    ⟨0, [.old 0, .old 1], ⟨rfl, .inl rfl, .inr ⟨lk rfl, lkI rfl, lk rfl, lk rfl, trivial⟩, rfl⟩, Nat.zero_le _, none0⟩ ?_
  intro Rd hRd i ⟨hi, ha⟩
  refine ⟨fun b0 => ?_, fun b0 => ?_⟩
  rotate_left
  · have hf0 : firstE funE u.funcs = 0 := firstE_end (by omega) ha
    rw [if_neg (fun h => h hf0)] at e
    have hiE : i = u.funcs.length := by omega
    rw [← List.take_length (l := u.funcs), ← hiE] at e
    refine callNeed (p := ¬300 < IntKind.i64.wrap (manyN (u.funcs.take i))) (by decide) (lkP (by omega)) (fun c => ?_) (fun c => ⟨rfl, panC (by rw [e, if_pos (Classical.not_not.1 c)]), _, _, _, rfl, rfl⟩)
    exact ⟨rfl, _, _, rfl, blkC (a := 0) (v := unitE u) (by rw [e, if_neg c]) rfl⟩
  have b1 : i < u.funcs.length := by omega
  obtain ⟨fn, ⟨fps, fpl⟩, fbl, fbI⟩ := hfi _ (List.getElem_mem b1)
  have hz : ∀ v : Int, v ≠ 0 → funE u.funcs[i] = v → unitE u = v := fun v h0 h => by rw [e, firstE_at b1 ha (by rw [h]; exact h0), h, if_pos h0]
  have next : funE u.funcs[i] = 0 → ∀ j (hj : j < u.funcs.length), j < i + 1 → funE u.funcs[j] = 0 := fun h0 => firstE_step b1 ha h0
  have hsucc := manyN_succ b1
  have ef : funE u.funcs[i] = funE u.funcs[i] := rfl
  conv at ef => rhs; unfold funE
  refine ⟨i, _, rfl, (gm b1).trans (congrArg some (Fun.g_eq _)), ?_⟩
  generalize u.funcs[i] = f at *
  have lp : (f.params.map strG).length = f.params.length := by simp
  refine callIs (.inl rfl) (Ident_any f.name fn) (callNeed (p := identP f.name) (by decide) (lkP Iff.rfl) (fun b2 => ?_) (fun b2 => ⟨rfl, panC (hz 4 (by decide) (by rw [ef, if_pos b2])).symm, _, _, _, rfl, rfl⟩))
  rw [if_neg (Classical.not_not.2 b2)] at ef
  refine callNeed (p := ¬4 < f.params.length) (by decide) (lkP (by omega)) (fun b3 => ?_) (fun b3 => ⟨rfl, panC (hz 1 (by decide) (by rw [ef, if_pos (Classical.not_not.1 b3)])).symm, _, _, _, rfl, rfl⟩)
  rw [if_neg b3] at ef
  refine loopR (ι := Nat) (fun k => [(84, .g (.int (k : Int))), (9, .ptr 2 0), (1, .ptr 0 0), (2, .ptr 1 0)]) (fun _ => [.blk u.d 64, .blk [.g (.int 0)] 27, .blk f.d 67]) (fun k => k ≤ f.params.length ∧ ∀ j (hj : j < f.params.length), j < k → nameE f.params[j] = 0) (fun k => f.params.length - k)
    ⟨0, [.old 0, .old 1, .old 2], ⟨rfl, .inl rfl, .inr ⟨lk rfl, lk rfl, lk rfl, lk rfl, trivial⟩, rfl⟩, Nat.zero_le _, none0⟩ ?_
  intro Rk hRk k ⟨hk, hak⟩
  refine ⟨fun c0 => ?_, fun c0 => ?_⟩
  · have c1 : k < f.params.length := by omega
    refine ⟨k, _, rfl, gm c1, ?_⟩
    refine callIs (.inl rfl) (Ident_any f.params[k] (fps _ (List.getElem_mem _))) (callNeed (p := identP f.params[k]) (by decide) (lkP Iff.rfl) (fun c2 => ⟨_, I64.wrap (by unfold I64; omega), ?_⟩) (fun c2 => ⟨rfl, panC (hz 4 (by decide) ?_).symm, _, _, _, rfl, rfl⟩))
    · exact hRk _ _ _ ⟨k + 1, [.old 0, .old 1, .old 2], ⟨rfl, .inl rfl, .inr ⟨lk rfl, lk rfl, lk rfl, lk rfl, trivial⟩, rfl⟩, ⟨c1, firstE_step c1 hak (nameE_ok c2)⟩, by omega⟩
    · have hz4 := nameE_no c2
      rw [ef, firstE_at c1 hak (by rw [hz4]; decide), hz4, if_pos (by decide)]
  have hp0 : firstE nameE f.params = 0 := firstE_end (by omega) hak
  rw [if_neg (fun h => h hp0)] at ef
  refine callRP (.inl rfl) (tstmts_any 12 f.body fbI fbl 1 (by decide) (by decide)) (fun d0 => ?_) (fun d0 => ⟨rfl, panC (hz _ d0 ef).symm, _, _, _, rfl, rfl⟩)
  refine ⟨_, rfl, _, I64.wrap (by unfold I64; omega), ?_⟩
  exact hRd _ _ _ ⟨i + 1, [.old 0, .old 1], ⟨rfl, .inl rfl, .inr ⟨lk rfl, lkI (by rw [wrap_add, wrap_add', hsucc]), lk rfl, lk rfl, trivial⟩, rfl⟩, ⟨b1, next (ef.trans d0)⟩, by omega⟩
end Go.Proofs.Ytibhhcncefkoiaa
