/-
  tree.stmts: what it finds wrong with statements, it panics with: the contract.
-/
import Derived.Test.YtibhhcncefkoiaaTx
namespace Barb
open Go Go.Dm Go.Eng
theorem wrap4 (m a b : Int) : IntKind.i64.wrap (IntKind.i64.wrap m + IntKind.i64.wrap (IntKind.i64.wrap a + IntKind.i64.wrap b)) = IntKind.i64.wrap (m + (a + b)) := by
  rw [wrap_add (a := a), wrap_add' (a := a), wrap_add, wrap_add']
theorem identP_ne {s : Str} (h : identP s) : s ≠ [] := fun e => by
  subst e
  have := h.1.1.1
  simp at this
abbrev kpT (depth m : Int) (i : Nat) : List (Nat × D) := [(1, .g (.int depth)), (5, .g (.int m)), (19, .g (.int (i : Int))), (7, .ptr 0 0)]
end Barb
namespace Go.Proofs.Ytibhhcncefkoiaa
open Go Go.Dm Go.Eng Barb

set_option maxHeartbeats 1000000 in
theorem tstmts_any : ∀ (f : Nat) (l : List Barb.Stmt), (∀ x ∈ l, Barb.Stmt.I x) → l.length * 96 ≤ 140737488351232 → ∀ depth : Int, depth + f = 13 → 0 ≤ depth → CT Try.prog [] 73 [.g (.sl 5 (l.map Stmt.g)), .g (.int depth)] (RP (stmtsE f l) (.g (.int (IntKind.i64.wrap (stmtsN f l))))) := by
  intro f
  induction f with
  | zero =>
    intro l _ _ depth hd _
    refine enter hT hF hM Try.func73 rfl 116 rfl (by kernel_rfl) [.tmp 4] rfl [.g (.sl 5 (l.map Stmt.g)), .g (.int depth)] rfl _ ?_
    exact callNeed (p := depth ≤ 12) (by decide) (lkP Iff.rfl) (fun h => absurd h (by omega)) (fun _ => ⟨rfl, panRP (by decide) rfl⟩)
  | succ f ih =>
    intro l hI hlen depth hd hd0
    have hl : (l.map Stmt.g).length = l.length := by simp
    refine enter hT hF hM Try.func73 rfl 116 rfl (by kernel_rfl) [.tmp 4] rfl [.g (.sl 5 (l.map Stmt.g)), .g (.int depth)] rfl _ ?_
    refine stepS ⟨?_⟩
    refine stepS ?_
    refine callNeed (p := depth ≤ 12) (by decide) (lkP Iff.rfl) (fun _ => ⟨?_⟩) (fun h => absurd (by omega) h)
    refine loopR (ι := Nat) (fun i => [(5, .g (.int (IntKind.i64.wrap (manyAt f l i)))), (19, .g (.int (i : Int)))]) (fun _ => []) (fun i => i ≤ l.length ∧ ∀ j (hj : j < l.length), j < i → stmtE1 (stmtsE f) l[j] = 0) (fun i => l.length - i)
      ⟨0, [], ⟨rfl, .inl rfl, .inr ⟨lkI (by rw [hl, I64.wrap (by simp [manyAt, I64]; omega)]; simp [manyAt]), lk rfl, trivial⟩, rfl⟩, Nat.zero_le _, none0⟩ ?_
    intro Rd hRd i ⟨hi, ha⟩
    refine ⟨fun h0 => ?_, fun h0 => ?_⟩
    rotate_left
    · have hz : stmtsE (f + 1) l = 0 := firstE_end (by rw [hl] at h0; omega) ha
      have hil : i = l.length := by rw [hl] at h0; omega
      exact ⟨rfl, retQ (.g (.int (IntKind.i64.wrap (manyAt f l i)))) (.inl rfl) (.inl ⟨hz, by rw [hil]; simp [manyAt, stmtsN]⟩)⟩
    have h1 : i < l.length := by rw [hl] at h0; omega
    have fin : ∀ v : Int, v ≠ 0 → stmtE1 (stmtsE f) l[i] = v → ∀ h : Heap, PanTo (RP (stmtsE (f + 1) l) (.g (.int (IntKind.i64.wrap (stmtsN (f + 1) l))))) h (panV v) := by
      intro v hv he h
      refine panRP hv ?_
      have : stmtsE (f + 1) l = firstE (stmtE1 (stmtsE f)) l := rfl
      rw [this, firstE_at h1 ha (by rw [he]; exact hv), he]
    have hsucc := manyAt_succ (f := f) h1
    obtain ⟨hk, hs, hxl, hbl, hel, hxI, hbI, heI⟩ := (hI l[i] (List.getElem_mem _)).inv
    have e := stmtE1_eq (stmtsE f) l[i]
    have next : ∀ v, stmtE1 (stmtsE f) l[i] = v → v = 0 → ∀ j (hj : j < l.length), j < i + 1 → stmtE1 (stmtsE f) l[j] = 0 := fun v hv h0 => firstE_step h1 ha (hv.trans h0)
    refine stepS ?_
    refine stepS ?_
    refine ⟨i, _, rfl, (gm h1).trans (congrArg some (Stmt.g_eq _)), ⟨?_⟩⟩
    generalize l[i] = y at *
    refine seqJ (ι := PUnit) (fun _ => kpT depth (IntKind.i64.wrap (manyAt f l i)) i) (fun _ => [.blk y.d 117]) (fun _ => 1 ≤ y.k ∧ y.k ≤ 6) (fun e0 _ h2 => ?_) (fun Rj hRj => ?_)
    rotate_left
    · refine ⟨fun a1 => ?_, fun a1 => ?_⟩
      · exact callNeed (p := 1 ≤ y.k ∧ y.k ≤ 6) (by decide) (lkP ⟨fun h => ⟨a1, h⟩, fun h => h.2⟩) (fun h => hRj ⟨⟩ _ ⟨rfl, rfl, rfl, rfl, trivial⟩ h) (fun h => ⟨rfl, fin 3 (by decide) (by rw [e, if_pos h]) _⟩)
      · exact callNeed (p := 1 ≤ y.k ∧ y.k ≤ 6) (by decide) (lkBP ⟨fun h => (by cases h), fun h => absurd h.1 a1⟩) (fun h => absurd h.1 a1) (fun h => ⟨rfl, fin 3 (by decide) (by rw [e, if_pos h]) _⟩)
    rw [if_neg (Classical.not_not.2 h2)] at e
    refine seqJ (ι := D) (fun d => kpT depth (IntKind.i64.wrap (manyAt f l i)) i ++ [(8, d)]) (fun _ => [.blk y.d 117]) (fun d => (d = .g (.bool true) ∧ y.k = 1) ∨ (d = .pb (y.k = 2) ∧ y.k ≠ 1)) (fun e1 d h8 => ?_) (fun Rj hRj => ?_)
    rotate_left
    · exact ⟨fun a1 => hRj _ _ ⟨rfl, rfl, rfl, rfl, rfl, trivial⟩ (.inl ⟨rfl, a1⟩), fun a1 => hRj _ _ ⟨rfl, rfl, rfl, rfl, rfl, trivial⟩ (.inr ⟨rfl, a1⟩)⟩
    refine stepS ⟨?_⟩
    refine seqJ (ι := PUnit) (fun _ => kpT depth (IntKind.i64.wrap (manyAt f l i)) i ++ [(8, d), (9, .g (.int (nOf y.k)))]) (fun _ => [.blk y.d 117]) (fun _ => True) (fun e2 _ _ => ?_) (fun Rj hRj => ?_)
    rotate_left
    · refine ⟨fun h3 => hRj ⟨⟩ _ ⟨rfl, rfl, rfl, rfl, rfl, (by rw [nOf, if_pos h3]; rfl), trivial⟩ trivial, fun h3 => hRj ⟨⟩ _ ⟨rfl, rfl, rfl, rfl, rfl, (by rw [nOf, if_neg h3]; rfl), trivial⟩ trivial⟩
    have hx : (y.xs.map Expr.g).length = y.xs.length := by simp
    have hb' : (y.b.map Stmt.g).length = y.b.length := by simp
    have he' : (y.e.map Stmt.g).length = y.e.length := by simp
    refine seqJ (ι := PUnit) (fun _ => kpT depth (IntKind.i64.wrap (manyAt f l i)) i) (fun _ => [.blk y.d 117]) (fun _ => ¬bad1 y.k y.s y.xs.length) (fun e3 _ hb1 => ?_) (fun Rj hRj => ?_)
    rotate_left
    · have pan4 : ∀ hh : Heap, ¬¬bad1 y.k y.s y.xs.length → PanTo (RP (stmtsE (f + 1) l) (.g (.int (IntKind.i64.wrap (stmtsN (f + 1) l))))) hh (panV 4) := fun hh h4 => fin 4 (by decide) (by rw [e, if_pos (fun h => h4 (stmtOk_iff.1 h).1)]) hh
      have fls : ∀ hh : Heap, bad1 y.k y.s y.xs.length → ∀ K : D → Heap → Prop, ∀ Kp : D → Prop, Kp (panV 4) → ∃ es Q, likeA [.g (.bool false), .g (.int 4)] es ∧ CT Try.prog [] 71 es Q ∧ (∀ d h', Q (.ret d h') → K d h') ∧ (∀ d, Q (.pan d) → Kp d) :=
        fun _ h K Kp hp => callNeed (p := ¬bad1 y.k y.s y.xs.length) (by decide) (lkBP ⟨fun h => (by cases h), fun hp => absurd h hp⟩) (fun hp => absurd h hp) (fun _ => hp)
      have b1 : bad1 y.k y.s y.xs.length ↔ ¬((y.k ≤ 2 → identP y.s) ∧ (2 < y.k → y.s = []) ∧ (y.xs.length : Int) = nOf y.k) := Iff.rfl
      clear e
      rcases h8 with ⟨rfl, hk1⟩ | ⟨rfl, hk1⟩
      · refine ⟨fun a1 => callIs (.inl rfl) (Ident_any y.s hs) ⟨fun a2 => ?_, fun a2 => ?_⟩, fun a1 => ?_⟩
        · exact callNeed (p := ¬bad1 y.k y.s y.xs.length) (by decide) (lkP (by rw [b1, hx, Classical.not_not]; exact ⟨fun h => ⟨fun _ => a2, fun h' => absurd h' (by omega), h⟩, fun h => h.2.2⟩)) (fun h4 => hRj ⟨⟩ _ ⟨rfl, rfl, rfl, rfl, trivial⟩ h4) (fun h4 => ⟨rfl, pan4 _ h4⟩)
        · have hb : bad1 y.k y.s y.xs.length := fun h => a2 (h.1 (by omega))
          exact fls [] hb _ _ ⟨rfl, pan4 _ (fun h => h hb)⟩
        · have hb : bad1 y.k y.s y.xs.length := fun h => a1 ⟨fun _ => identP_ne (h.1 (by omega)), fun _ => rfl⟩
          exact fls [] hb _ _ ⟨rfl, pan4 _ (fun h => h hb)⟩
      · refine ⟨fun a1 => ⟨fun a2 => ?_, fun a2 => ?_⟩, fun a1 => ?_⟩
        · have hs0 : y.s = [] := Classical.not_not.1 (fun h => a2 (a1.2 h))
          exact callNeed (p := ¬bad1 y.k y.s y.xs.length) (by decide) (lkP (by rw [b1, hx, Classical.not_not]; exact ⟨fun h => ⟨fun h' => absurd h' (by omega), fun _ => hs0, h⟩, fun h => h.2.2⟩)) (fun h4 => hRj ⟨⟩ _ ⟨rfl, rfl, rfl, rfl, trivial⟩ h4) (fun h4 => ⟨rfl, pan4 _ h4⟩)
        · refine callIs (.inl rfl) (Ident_any y.s hs) ⟨fun a3 => ?_, fun a3 => ?_⟩
          · exact callNeed (p := ¬bad1 y.k y.s y.xs.length) (by decide) (lkP (by rw [b1, hx, Classical.not_not]; exact ⟨fun h => ⟨fun _ => a3, fun h' => absurd h' (by omega), h⟩, fun h => h.2.2⟩)) (fun h4 => hRj ⟨⟩ _ ⟨rfl, rfl, rfl, rfl, trivial⟩ h4) (fun h4 => ⟨rfl, pan4 _ h4⟩)
          · have hb : bad1 y.k y.s y.xs.length := fun h => a3 (h.1 (by omega))
            exact fls [] hb _ _ ⟨rfl, pan4 _ (fun h => h hb)⟩
        · have hb : bad1 y.k y.s y.xs.length := fun h => a1 ⟨fun hk2 => identP_ne (h.1 (by omega)), fun hs0 => Classical.byContradiction fun hk2 => hs0 (h.2.1 (by omega))⟩
          exact fls [] hb _ _ ⟨rfl, pan4 _ (fun h => h hb)⟩
    refine seqJ (ι := PUnit) (fun _ => kpT depth (IntKind.i64.wrap (manyAt f l i)) i) (fun _ => [.blk y.d 117]) (fun _ => ¬bad2 y.k y.b.length y.e.length) (fun e4 _ hb2 => ?_) (fun Rj hRj => ?_)
    rotate_left
    · have pan4 : ∀ hh : Heap, ¬¬bad2 y.k y.b.length y.e.length → PanTo (RP (stmtsE (f + 1) l) (.g (.int (IntKind.i64.wrap (stmtsN (f + 1) l))))) hh (panV 4) := fun hh h4 => fin 4 (by decide) (by rw [e, if_pos (fun h => h4 (stmtOk_iff.1 h).2)]) hh
      have fls : ∀ hh : Heap, bad2 y.k y.b.length y.e.length → ∀ K : D → Heap → Prop, ∀ Kp : D → Prop, Kp (panV 4) → ∃ es Q, likeA [.g (.bool false), .g (.int 4)] es ∧ CT Try.prog [] 71 es Q ∧ (∀ d h', Q (.ret d h') → K d h') ∧ (∀ d, Q (.pan d) → Kp d) :=
        fun _ h K Kp hp => callNeed (p := ¬bad2 y.k y.b.length y.e.length) (by decide) (lkBP ⟨fun h => (by cases h), fun hp => absurd h hp⟩) (fun hp => absurd h hp) (fun _ => hp)
      have tru : ∀ hh : Heap, ¬bad2 y.k y.b.length y.e.length → ∀ K : D → Heap → Prop, ∀ Kp : D → Prop, K (.tuple []) [] → ∃ es Q, likeA [.g (.bool true), .g (.int 4)] es ∧ CT Try.prog [] 71 es Q ∧ (∀ d h', Q (.ret d h') → K d h') ∧ (∀ d, Q (.pan d) → Kp d) :=
        fun _ h K Kp hp => callNeed (p := ¬bad2 y.k y.b.length y.e.length) (by decide) (lkBP ⟨fun _ => h, fun _ => rfl⟩) (fun _ => hp) (fun hp => absurd h hp)
      have b2 : bad2 y.k y.b.length y.e.length ↔ ¬((y.b.length = 0 ∨ y.k = 3 ∨ y.k = 4) ∧ (y.e.length = 0 ∨ y.k = 3)) := Iff.rfl
      clear e
      refine ⟨fun a1 => ⟨fun a2 => ?_, fun a2 => absurd a1 a2⟩, fun a1 => ⟨fun a2 => ⟨fun a3 => absurd a3 a1, fun a3 => ?_⟩, fun a2 => ⟨fun a3 => ⟨fun a4 => absurd a4 a1, fun a4 => ?_⟩, fun a3 => ?_⟩⟩⟩
      · have hz : ¬bad2 y.k y.b.length y.e.length := by rw [b2]; omega
        exact tru [] hz _ _ (hRj ⟨⟩ _ ⟨rfl, rfl, rfl, rfl, trivial⟩ hz)
      · exact callNeed (p := ¬bad2 y.k y.b.length y.e.length) (by decide) (lkP (by rw [b2, he']; omega)) (fun h4 => hRj ⟨⟩ _ ⟨rfl, rfl, rfl, rfl, trivial⟩ h4) (fun h4 => ⟨rfl, pan4 _ h4⟩)
      · exact callNeed (p := ¬bad2 y.k y.b.length y.e.length) (by decide) (lkP (by rw [b2, he']; omega)) (fun h4 => hRj ⟨⟩ _ ⟨rfl, rfl, rfl, rfl, trivial⟩ h4) (fun h4 => ⟨rfl, pan4 _ h4⟩)
      · have hb : bad2 y.k y.b.length y.e.length := by rw [b2]; omega
        exact fls [] hb _ _ ⟨rfl, pan4 _ (fun h => h hb)⟩
    rw [if_neg (Classical.not_not.2 (stmtOk_iff.2 ⟨hb1, hb2⟩))] at e
    have hnx : (y.xs.length : Int) = nOf y.k := (Classical.not_not.1 hb1).2.2
    clear h8
    refine loopR (ι := Nat) (fun k => [(94, .g (.int (k : Int))), (7, .ptr 0 0)]) (fun _ => [.blk y.d 117]) (fun k => k ≤ y.xs.length ∧ ∀ j (hj : j < y.xs.length), j < k → exprE 12 y.xs[j] = 0) (fun k => y.xs.length - k)
      ⟨0, [.old 0], ⟨rfl, .inl rfl, .inr ⟨lk rfl, lk rfl, trivial⟩, rfl⟩, Nat.zero_le _, none0⟩ ?_
    intro Rk hRk k ⟨hk1, hk2⟩
    refine ⟨fun c0 => ?_, fun c0 => ?_⟩
    · have c1 : k < y.xs.length := by omega
      refine ⟨k, _, rfl, (gm c1).trans (congrArg some (Expr.g_eq _)), ?_⟩
      refine callRP (.inl rfl) (texpr_any 12 y.xs[k] (hxI _ (List.getElem_mem _)) 1 (by decide) (by decide)) (fun c2 => ?_) (fun c2 => ⟨rfl, fin _ c2 (by rw [e, if_pos (by rw [firstE_at c1 hk2 c2]; exact c2), firstE_at c1 hk2 c2]) _⟩)
      refine ⟨_, I64.wrap (by unfold I64; omega), ?_⟩
      exact hRk _ _ _ ⟨k + 1, [.old 0], ⟨rfl, .inl rfl, .inr ⟨lk rfl, lk rfl, trivial⟩, rfl⟩, ⟨c1, firstE_step c1 hk2 c2⟩, by omega⟩
    · have hx0 : firstE (exprE 12) y.xs = 0 := firstE_end (by omega) hk2
      rw [if_neg (fun h => h hx0)] at e
      have cb := ih y.b hbI hbl (depth + 1) (by omega) (by omega)
      have ce := ih y.e heI hel (depth + 1) (by omega) (by omega)
      by_cases c3 : stmtsE f y.b ≠ 0
      · rw [if_pos c3] at e
        exact ⟨some 5, rfl, _, I64.wrap (by unfold I64; omega), _, .any, panV (stmtsE f y.b), .inl rfl, cb.weaken (fun o ho => ho.elim (fun h => absurd h.1 c3) (fun h => h.2)), rfl, fun _ _ => ⟨rfl, fin _ c3 e _⟩, _, I64.wrap (by unfold I64; omega), .any, .any, .any, .any, trivial⟩
      · have c3' := Classical.not_not.1 c3
        rw [if_neg c3] at e
        have cb' := cb.weaken (Q' := Is (.g (.int (IntKind.i64.wrap (stmtsN f y.b))))) (fun o ho => ho.elim (fun h => h.2) (fun h => absurd h.1 c3))
        by_cases c4 : stmtsE f y.e ≠ 0
        · exact ⟨some 10, rfl, _, I64.wrap (by unfold I64; omega), _, _, .inl rfl, cb', rfl, _, I64.wrap (by unfold I64; omega), _, .any, panV (stmtsE f y.e), .inl rfl, ce.weaken (fun o ho => ho.elim (fun h => absurd h.1 c4) (fun h => h.2)), rfl, fun _ _ => ⟨rfl, fin _ c4 e _⟩, .any, .any, .any, trivial⟩
        · have c4' := Classical.not_not.1 c4
          have ce' := ce.weaken (Q' := Is (.g (.int (IntKind.i64.wrap (stmtsN f y.e))))) (fun o ho => ho.elim (fun h => h.2) (fun h => absurd h.1 c4))
          refine ⟨none, rfl, _, I64.wrap (by unfold I64; omega), _, _, .inl rfl, cb', rfl, _, I64.wrap (by unfold I64; omega), _, _, .inl rfl, ce', rfl, _, rfl, _, rfl, ?_⟩
          refine ⟨_, I64.wrap (by unfold I64; omega), ?_⟩
          exact hRd _ _ _ ⟨i + 1, [], ⟨rfl, .inl rfl, .inr ⟨lkI (by rw [hsucc, wrap4]), lk rfl, trivial⟩, rfl⟩, ⟨h1, next _ e c4'⟩, by omega⟩
end Go.Proofs.Ytibhhcncefkoiaa
