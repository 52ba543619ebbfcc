/-
  The second engine, regions that draw their order, second part: whatever the order, the same comes of it. It holds of every program.
-/
import Derived.Test.YtijdegmamdhcbaaDoorDq1
import Derived.Orders
namespace Go.Dm
open Go Go.Eng Go.RowKit

section
variable {P : Program} {T : Tab} {F : FuncId → Bool} {G : Gl}

def heapless : Op → Bool
  | .move _ | .assign _ | .pick _ _ _ | .binOp _ _ _ _ _ | .unOp _ _ _ | .convert _ _ _ | .extract _ _ | .index _ _ _ | .makeInterface _ _ | .makeFunc _ _ _ => true
  | _ => false
theorem vcQ_any {o : Op} {st : St} {K : D → Prop} (hl : heapless o = true) (h : vcQ P T F G o st K) : ∃ d, K d ∧ ∀ (h' : Heap) (K' : KD), K' d h' → vcOp P T F G o ⟨st.env, h', st.df⟩ K' (fun _ _ => False) := by
  have svf : ∀ (h' : Heap), sv G ⟨st.env, h', st.df⟩ = sv G st := fun h' => funext (fun x => by cases x <;> rfl)
  have h0 : vcQ P T F G o ⟨st.env, [], st.df⟩ K := by
    cases o <;> first | (cases hl; done) | (simp only [vcQ, vcOp, svf] at h ⊢; exact h) | skip
    rename_i fn first captured
    cases fn <;> first | exact h.elim | (simp only [vcQ, vcOp, svf] at h ⊢; exact h)
  have ha : active o = false := by cases o <;> first | rfl | cases hl
  obtain ⟨d, h1, h2⟩ := vcQ_one ha h0
  exact ⟨d, h1, fun h' K' hk => h2 h' K' (fun i o hi => by simp at hi) hk⟩

theorem ofV_nil (n c : Nat) : ofV (.slice none n c) = .nils ∨ ofV (.slice none n c) = .any := by
  unfold ofV of1
  cases n with
  | zero => cases c with
    | zero => exact .inl rfl
    | succ c => exact .inr rfl
  | succ n => exact .inr rfl
theorem ofV_row {n c i : Nat} (h : ofV (.slice none n c) = .row i) : False := by rcases ofV_nil n c with e | e <;> rw [e] at h <;> cases h
theorem ofV_rs {n c i a b : Nat} (h : ofV (.slice none n c) = .rs i a b) : False := by rcases ofV_nil n c with e | e <;> rw [e] at h <;> cases h
theorem condE {b : Bool} {X : Prop} (h : bif b then X else False) : b = true ∧ X := by cases b with | true => exact ⟨rfl, h⟩ | false => exact h.elim
theorem condI {b : Bool} {X : Prop} (hb : b = true) (h : X) : bif b then X else False := by subst hb; exact h

theorem active_one {o : Op} {st : St} {K : KD} (ha : active o = true) (h : vcOp P T F G o st K (fun _ _ => False)) : ∃ d h1, K d h1 ∧ (∀ K' : KD, K' d h1 → vcOp P T F G o st K' (fun _ _ => False)) ∧ (mutating o = false → Ex st.h h1) := by
  cases o with
  | alloc t =>
    simp only [vcOp] at h ⊢
    split at h
    · exact h.elim
    · exact ⟨_, _, h, fun K' hk => hk, fun _ => Ex.app _ _⟩
  | box t x =>
    simp only [vcOp] at h ⊢
    split at h
    · exact h.elim
    · exact ⟨_, _, h, fun K' hk => hk, fun _ => Ex.app _ _⟩
  | buildSlice t len parts =>
    simp only [vcOp] at h ⊢
    split at h
    · split at h
      · rename_i ei hte
        split at h
        · exact h.elim
        · split at h
          · cases hb : Nat.ble (len * ei.size) 16777216 && Nat.blt 0 ei.size with
            | false => rw [hb] at h; exact h.elim
            | true =>
              rw [hb] at h
              obtain ⟨xs, h1, h2, h3, h4⟩ := h
              exact ⟨_, _, h4, fun K' hk => ⟨xs, h1, h2, h3, hk⟩, fun hm => by cases hm⟩
          · exact h.elim
      · exact h.elim
    · exact h.elim
  | makeSlice t l c =>
    simp only [vcOp] at h ⊢
    split at h
    · split at h
      · rename_i ei hte
        cases hb : Nat.blt 0 ei.size with
        | false => rw [hb] at h; exact h.elim
        | true =>
          rw [hb] at h
          obtain ⟨len, cap, z, h1, h2, h3, h4, h5, h6, h7⟩ := h
          exact ⟨_, _, h7, fun K' hk => ⟨len, cap, z, h1, h2, h3, h4, h5, h6, hk⟩, fun _ => Ex.app _ _⟩
      · exact h.elim
    · exact h.elim
  | store t x y =>
    simp only [vcOp, vcStore] at h ⊢
    split at h
    · exact h.elim
    · rename_i i hi
      split at h
      · exact h.elim
      · rename_i ds hds
        cases hb : Nat.beq ds.length i.size with
        | false => rw [hb] at h; exact h.elim
        | true =>
          rw [hb] at h
          simp only [cond_true] at h ⊢
          split at h
          · split at h
            · rename_i cs ty hj
              obtain ⟨hc, h⟩ := condE h
              exact ⟨_, _, h, fun K' hk => condI hc hk, fun hm => by cases hm⟩
            · exact h.elim
          · split at h
            · obtain ⟨r, gs, h1, h2, h3, h4, h5⟩ := h
              exact ⟨_, _, h5, fun K' hk => ⟨r, gs, h1, h2, h3, h4, hk⟩, fun hm => by cases hm⟩
            · exact h.elim
          · exact h.elim
  | call c =>
    obtain ⟨callee, args, ts⟩ := c
    cases callee with
    | builtin b =>
      cases b with
      | append =>
        simp only [vcOp] at h ⊢
        split at h
        · rename_i t t' x y hts har
          cases hb : Nat.beq t t' with
          | false => rw [hb] at h; exact h.elim
          | true =>
            rw [hb] at h
            simp only [cond_true] at h ⊢
            unfold vcAppend at h ⊢
            split at h
            · split at h
              · exact h.elim
              · rename_i ei hte
                split at h
                · exact h.elim
                · cases hpos : Nat.blt 0 ei.size with
                  | false => rw [hpos] at h; exact h.elim
                  | true =>
                    rw [hpos] at h
                    simp only [cond_true] at h ⊢
                    split at h
                    · exact ⟨_, _, h.2, fun K' hk => ⟨h.1, hk⟩, fun _ => Ex.app _ _⟩
                    · rename_i i ex
                      have hmut : mutating (Op.call { callee := .builtin .append, args := args, argTypes := ts }) = false → False := by
                        intro hm
                        simp only [mutating, har] at hm
                        split at hm
                        · rename_i e
                          injection e with e1 e2
                          subst e1
                          exact ofV_row ex
                        · cases hm
                      split at h
                      · obtain ⟨hc, h⟩ := condE h
                        exact ⟨_, _, h.2, fun K' hk => condI hc ⟨h.1, hk⟩, fun hm => (hmut hm).elim⟩
                      · exact h.elim
                    · rename_i i n ex
                      have hmut : mutating (Op.call { callee := .builtin .append, args := args, argTypes := ts }) = false → False := by
                        intro hm
                        simp only [mutating, har] at hm
                        split at hm
                        · rename_i e
                          injection e with e1 e2
                          subst e1
                          exact ofV_rs ex
                        · cases hm
                      split at h
                      · obtain ⟨hc, h⟩ := condE h
                        exact ⟨_, _, h.2.2, fun K' hk => condI hc ⟨h.1, h.2.1, hk⟩, fun hm => (hmut hm).elim⟩
                      · exact h.elim
                    · exact h.elim
            · exact h.elim
        · exact h.elim
      | _ => cases ha
    | _ => cases ha
  | _ => cases ha
end
end Go.Dm
