/-
  tree.expr: what it finds wrong with an expression, it panics with: the contract.
-/
import Derived.Test.YtibhhcncefkoiaaTr
namespace Go.Proofs.Ytibhhcncefkoiaa
open Go Go.Dm Go.Eng Barb

set_option maxHeartbeats 1000000 in
theorem texpr_any : ∀ (f : Nat) (x : Barb.Expr), x.I → ∀ depth : Int, depth + f = 13 → 0 ≤ depth → CT Try.prog [] 85 [.agg x.d, .g (.int depth)] (RP (exprE f x) (.tuple [])) := by
  intro f
  induction f with
  | zero =>
    intro x _ depth hd _
    refine enter hT hF hM Try.func85 rfl 141 rfl (by kernel_rfl) [] rfl [.agg x.d, .g (.int depth)] rfl _ ?_
    exact callNeed (p := depth ≤ 12) (by decide) (lkP Iff.rfl) (fun h => absurd h (by omega)) (fun _ => ⟨rfl, panRP (by decide) rfl⟩)
  | succ f ih =>
    intro x hx depth hd hd0
    obtain ⟨hk, hn, ho, hs, ha, hI⟩ := hx.inv
    have e := exprE_succ f x
    have hl : (x.args.map Expr.g).length = x.args.length := by simp
    refine enter hT hF hM Try.func85 rfl 141 rfl (by kernel_rfl) [] rfl [.agg x.d, .g (.int depth)] rfl _ ?_
    refine stepS ⟨?_⟩
    refine stepS ?_
    refine callNeed (p := depth ≤ 12) (by decide) (lkP Iff.rfl) (fun _ => ⟨?_⟩) (fun h => absurd (by omega) h)
    refine seqJ (ι := PUnit) (fun _ => [(2, .ptr 0 0), (1, .g (.int depth))]) (fun _ => [.blk x.d 119]) (fun _ => 1 ≤ x.k ∧ x.k ≤ 5) (fun e0 _ h2 => ?_) (fun Rj hRj => ?_)
    rotate_left
    · refine ⟨fun a1 => ?_, fun a1 => ?_⟩
      · exact callNeed (p := 1 ≤ x.k ∧ x.k ≤ 5) (by decide) (lkP ⟨fun h => ⟨a1, h⟩, fun h => h.2⟩) (fun h => hRj ⟨⟩ _ ⟨rfl, rfl, trivial⟩ h) (fun h => ⟨rfl, panRP (by decide) (by rw [e, if_pos h])⟩)
      · exact callNeed (p := 1 ≤ x.k ∧ x.k ≤ 5) (by decide) (lkBP ⟨fun h => (by cases h), fun h => absurd h.1 a1⟩) (fun h => absurd h.1 a1) (fun h => ⟨rfl, panRP (by decide) (by rw [e, if_pos h])⟩)
    rw [if_neg (Classical.not_not.2 h2)] at e
    refine stepS ⟨?_⟩
    refine stepS ?_
    refine callNeed (p := ¬4 < x.args.length) (by decide) (lkP (by omega)) (fun h3 => ⟨?_⟩) (fun h3 => ⟨rfl, panRP (by decide) (by rw [e, if_pos (by omega)])⟩)
    rw [if_neg h3] at e
    refine seqJ (ι := PUnit) (fun _ => [(2, .ptr 0 0), (1, .g (.int depth))]) (fun _ => [.blk x.d 119]) (fun _ => exprOk x.k x.n x.of x.s x.args.length ∧ ¬exprBad x.k x.n) (fun e0 _ h45 => ?_) (fun Rj hRj => ?_)
    rotate_left
    · have pan4 : ∀ hh : Heap, ¬exprOk x.k x.n x.of x.s x.args.length → PanTo (RP (exprE (f + 1) x) (.tuple [])) hh (panV 4) := fun hh h4 => panRP (by decide) (by rw [e, if_pos h4])
      have pan2 : ∀ hh : Heap, exprOk x.k x.n x.of x.s x.args.length → exprBad x.k x.n → PanTo (RP (exprE (f + 1) x) (.tuple [])) hh (panV 2) := fun hh h4 h5 => panRP (by decide) (by rw [e, if_neg (Classical.not_not.2 h4), if_pos h5])
      have ok : ∀ (k' : Int), x.k = k' → (exprOk x.k x.n x.of x.s x.args.length ↔ exprOk k' x.n x.of x.s x.args.length) := fun k' hk' => by rw [hk']
      have hl0 : ∀ m : Nat, ((List.map Expr.g x.args).length : Int) = (m : Int) ↔ x.args.length = m := fun m => by rw [hl]; omega
      have bad : ∀ k', x.k = k' → k' ≠ 1 → k' ≠ 5 → ¬exprBad x.k x.n := fun k' h0 h1 h5 => by unfold exprBad; omega
      clear e
      generalize hP : exprOk x.k x.n x.of x.s x.args.length = P at *
      have noP : ∀ hh : Heap, ¬P → ∀ K : D → Heap → Prop, ∀ Kp : D → Prop, (¬P → Kp (panV 4)) → ∃ es Q, likeA [.g (.bool false), .g (.int 4)] es ∧ CT Try.prog [] 71 es Q ∧ (∀ d h', Q (.ret d h') → K d h') ∧ (∀ d, Q (.pan d) → Kp d) :=
        fun _ h K Kp hp => callNeed (p := P) (by decide) (lkBP ⟨fun h => (by cases h), fun hp => absurd hp h⟩) (fun hp => absurd hp h) hp
      refine ⟨fun b1 => ?_, fun b1 => ⟨fun b2 => ?_, fun b2 => ⟨fun b3 => ?_, fun b3 => ⟨fun b4 => ?_, fun b4 => ?_⟩⟩⟩⟩
      · have o := (ok 1 b1).trans exprOk_1
        refine ⟨fun c1 => ⟨fun c2 => ?_, fun c2 => ?_⟩, fun c1 => ?_⟩
        · refine callNeed (p := P) (by decide) (lkP ⟨fun c3 => o.2 ⟨c1, c2, (hl0 0).1 c3⟩, fun c3 => (hl0 0).2 (o.1 c3).2.2⟩) (fun h4 => ?_) (fun h4 => ⟨rfl, pan4 _ h4⟩)
          refine callIs (.inl rfl) (Is_any x.n) ?_
          exact callNeed (p := ¬exprBad x.k x.n) (by decide) (lkP (by unfold exprBad; omega)) (fun h5 => hRj ⟨⟩ _ ⟨rfl, rfl, trivial⟩ ⟨h4, h5⟩) (fun h5 => ⟨rfl, pan2 _ h4 (Classical.not_not.1 h5)⟩)
        · exact noP [] (fun h => c2 (o.1 h).2.1) _ _ (fun h4 => ⟨rfl, pan4 _ h4⟩)
        · exact noP [] (fun h => c1 (o.1 h).1) _ _ (fun h4 => ⟨rfl, pan4 _ h4⟩)
      · have o := (ok 2 b2).trans exprOk_2
        refine ⟨fun c1 => callIs (.inl rfl) (Ident_any x.s hs) ⟨fun c2 => ⟨fun c3 => ?_, fun c3 => ?_⟩, fun c2 => ?_⟩, fun c1 => ?_⟩
        · exact callNeed (p := P) (by decide) (lkP ⟨fun c4 => o.2 ⟨c1, c2, (hl0 0).1 c3, c4⟩, fun c4 => (o.1 c4).2.2.2⟩) (fun h4 => hRj ⟨⟩ _ ⟨rfl, rfl, trivial⟩ ⟨h4, bad 2 b2 (by decide) (by decide)⟩) (fun h4 => ⟨rfl, pan4 _ h4⟩)
        · exact noP [] (fun c4 => c3 ((hl0 0).2 (o.1 c4).2.2.1)) _ _ (fun h4 => ⟨rfl, pan4 _ h4⟩)
        · exact noP [] (fun c4 => c2 (o.1 c4).2.1) _ _ (fun h4 => ⟨rfl, pan4 _ h4⟩)
        · exact noP [] (fun c4 => c1 (o.1 c4).1) _ _ (fun h4 => ⟨rfl, pan4 _ h4⟩)
      · have o := (ok 3 b3).trans exprOk_3
        refine ⟨fun c1 => callIs (.inl rfl) (Ident_any x.s hs) ⟨fun c2 => ⟨fun c3 => ?_, fun c3 => ?_⟩, fun c2 => ?_⟩, fun c1 => ?_⟩
        · exact callNeed (p := P) (by decide) (lkP ⟨fun c4 => o.2 ⟨c1, c2, (hl0 1).1 c3, c4⟩, fun c4 => (o.1 c4).2.2.2⟩) (fun h4 => hRj ⟨⟩ _ ⟨rfl, rfl, trivial⟩ ⟨h4, bad 3 b3 (by decide) (by decide)⟩) (fun h4 => ⟨rfl, pan4 _ h4⟩)
        · exact noP [] (fun c4 => c3 ((hl0 1).2 (o.1 c4).2.2.1)) _ _ (fun h4 => ⟨rfl, pan4 _ h4⟩)
        · exact noP [] (fun c4 => c2 (o.1 c4).2.1) _ _ (fun h4 => ⟨rfl, pan4 _ h4⟩)
        · exact noP [] (fun c4 => c1 (o.1 c4).1) _ _ (fun h4 => ⟨rfl, pan4 _ h4⟩)
      · have o := (ok 4 b4).trans exprOk_4
        have b' := bad 4 b4 (by decide) (by decide)
        refine callIs (.inl rfl) (Ident_any x.s hs) ⟨fun c2 => ⟨fun c1 => ?_, fun c1 => callIs (.inl rfl) (Ident_any x.of ho) ⟨fun c0 => ?_, fun c0 => ?_⟩⟩, fun c2 => ?_⟩
        · exact callNeed (p := P) (by decide) (lkP ⟨fun c4 => o.2 ⟨.inl c1, c2, c4⟩, fun c4 => (o.1 c4).2.2⟩) (fun h4 => hRj ⟨⟩ _ ⟨rfl, rfl, trivial⟩ ⟨h4, b'⟩) (fun h4 => ⟨rfl, pan4 _ h4⟩)
        · exact callNeed (p := P) (by decide) (lkP ⟨fun c4 => o.2 ⟨.inr c0, c2, c4⟩, fun c4 => (o.1 c4).2.2⟩) (fun h4 => hRj ⟨⟩ _ ⟨rfl, rfl, trivial⟩ ⟨h4, b'⟩) (fun h4 => ⟨rfl, pan4 _ h4⟩)
        · exact noP [] (fun c4 => (o.1 c4).1.elim c1 c0) _ _ (fun h4 => ⟨rfl, pan4 _ h4⟩)
        · exact noP [] (fun c4 => c2 (o.1 c4).2.1) _ _ (fun h4 => ⟨rfl, pan4 _ h4⟩)
      · have b5 : x.k = 5 := by omega
        have o := (ok 5 b5).trans exprOk_5
        refine ⟨fun c1 => ⟨fun c2 => ?_, fun c2 => ?_⟩, fun c1 => ?_⟩
        · refine callNeed (p := P) (by decide) (lkP ⟨fun c3 => o.2 ⟨c1, c2, (hl0 2).1 c3⟩, fun c3 => (hl0 2).2 (o.1 c3).2.2⟩) (fun h4 => ?_) (fun h4 => ⟨rfl, pan4 _ h4⟩)
          refine ⟨fun d1 => ?_, fun d1 => ?_⟩
          · exact callNeed (p := ¬exprBad x.k x.n) (by decide) (lkP (by unfold exprBad; omega)) (fun h5 => hRj ⟨⟩ _ ⟨rfl, rfl, trivial⟩ ⟨h4, h5⟩) (fun h5 => ⟨rfl, pan2 _ h4 (Classical.not_not.1 h5)⟩)
          · exact callNeed (p := ¬exprBad x.k x.n) (by decide) (lkBP ⟨fun h => (by cases h), fun h => absurd (by unfold exprBad; omega) h⟩) (fun h5 => absurd (by unfold exprBad; omega) h5) (fun h5 => ⟨rfl, pan2 _ h4 (Classical.not_not.1 h5)⟩)
        · exact noP [] (fun c3 => c2 (o.1 c3).2.1) _ _ (fun h4 => ⟨rfl, pan4 _ h4⟩)
        · exact noP [] (fun c3 => c1 (o.1 c3).1) _ _ (fun h4 => ⟨rfl, pan4 _ h4⟩)
    rw [if_neg (Classical.not_not.2 h45.1), if_neg h45.2] at e
    refine loopR (ι := Nat) (fun i => [(132, .g (.int (i : Int)))]) (fun _ => []) (fun i => i ≤ x.args.length ∧ ∀ j (hj : j < x.args.length), j < i → exprE f x.args[j] = 0) (fun i => x.args.length - i)
      ⟨0, [], ⟨rfl, .inl rfl, .inr ⟨lk rfl, trivial⟩, rfl⟩, Nat.zero_le _, none0⟩ ?_
    intro Rd hRd i ⟨hi, ha'⟩
    refine ⟨fun h6 => ?_, fun h6 => ?_⟩
    · have h7 : i < x.args.length := by omega
      refine ⟨i, _, rfl, (gm h7).trans (congrArg some (Expr.g_eq _)), ?_⟩
      refine ⟨_, I64.wrap (by unfold I64; omega), ?_⟩
      refine callRP (.inl rfl) (ih x.args[i] (hI _ (List.getElem_mem _)) (depth + 1) (by omega) (by omega)) (fun h8 => ?_) (fun h8 => ⟨rfl, panRP h8 (by rw [e, firstE_at h7 ha' h8])⟩)
      refine ⟨_, I64.wrap (by unfold I64; omega), ?_⟩
      exact hRd _ _ _ ⟨i + 1, [], ⟨rfl, .inl rfl, .inr ⟨lk rfl, trivial⟩, rfl⟩, ⟨h7, firstE_step h7 ha' h8⟩, by omega⟩
    · exact ⟨rfl, retQ (.tuple []) (.inl rfl) (.inl ⟨by rw [e, firstE_end (by omega) ha'], rfl⟩)⟩
end Go.Proofs.Ytibhhcncefkoiaa
