/-
  tree.need, tree.expr and tree.stmts: what they find, and that they panic with it: the contracts.
-/
import Derived.Test.YtibhhcncefkoiaaUf
namespace Go.Dm
open Go Go.Eng
theorem CT.weaken {P : Program} {G : Gl} {g : FuncId} {ds : List D} {Q Q' : Out → Prop} (h : CT P G g ds Q) (hq : ∀ o, Q o → Q' o) : CT P G g ds Q' := fun w V vals hV hG hr =>
  (h w V vals hV hG hr).mono fun e w' he => by
    cases e with
    | returned v => obtain ⟨d, h', β', V', h1, h2⟩ := he; exact ⟨d, h', β', V', hq _ h1, h2⟩
    | panicked ch => obtain ⟨d, t, u, β', V', h1, h2, h3⟩ := he; exact ⟨d, t, u, β', V', h1, hq _ h2, h3⟩
    | outgrown => exact he.elim
end Go.Dm
namespace Go.Proofs.Ytibhhcncefkoiaa
open Go Go.Dm Go.Eng Barb

def panV (e : Int) : D := .iface 148 (.agg [.g (.int e)])
/-- It returns, or panics with what is wrong. -/
def RP (e : Int) (d : D) : Out → Prop := fun o => (e = 0 ∧ o = .ret d []) ∨ (e ≠ 0 ∧ o = .pan (panV e))
theorem callRP {P : Program} {G : Gl} {g : FuncId} {ds es : List D} {e : Int} {d : D} {K : D → Heap → Prop} {Kp : D → Prop} (hl : likeA ds es) (hc : CT P G g es (RP e d)) (hk : e = 0 → K d []) (hp : e ≠ 0 → Kp (panV e)) :
    ∃ es Q, likeA ds es ∧ CT P G g es Q ∧ (∀ d h', Q (.ret d h') → K d h') ∧ (∀ d, Q (.pan d) → Kp d) := by
  refine ⟨es, _, hl, hc, fun d' h' hq => ?_, fun d' hq => ?_⟩
  · rcases hq with ⟨h0, hq⟩ | ⟨_, hq⟩
    · injection hq with e1 e2; subst e1; subst e2; exact hk h0
    · cases hq
  · rcases hq with ⟨_, hq⟩ | ⟨h0, hq⟩
    · cases hq
    · injection hq with e1; subst e1; exact hp h0
theorem panRP {e : Int} {d : D} {h : Heap} {v : Int} (hv : v ≠ 0) (he : e = v) : PanTo (RP e d) h (panV v) := panQ (panV v) rfl (.inr ⟨by rw [he]; exact hv, by rw [he]⟩)
open Classical in
theorem need_any (p : Prop) (e : Int) (he : e ≠ 0) : CT Try.prog [] 71 [.pb p, .g (.int e)] (RP (if p then 0 else e) (.tuple [])) := by
  refine enter hT hF hM Try.func71 rfl 9 rfl (by kernel_rfl) [] rfl [.pb p, .g (.int e)] rfl _ ?_
  refine ⟨fun h => ⟨rfl, panRP he (if_neg h)⟩, fun h => ?_⟩
  exact ⟨rfl, retQ (.tuple []) (.inl rfl) (.inl ⟨if_pos h, rfl⟩)⟩
theorem callNeed {d : D} {p : Prop} {e : Int} (he : e ≠ 0) {K : D → Heap → Prop} {Kp : D → Prop} (hl : Like N0 4 d (.pb p)) (hk : p → K (.tuple []) []) (hp : ¬p → Kp (panV e)) :
    ∃ es Q, likeA [d, .g (.int e)] es ∧ CT Try.prog [] 71 es Q ∧ (∀ d h', Q (.ret d h') → K d h') ∧ (∀ d, Q (.pan d) → Kp d) := by
  by_cases h : p
  · have hc := need_any p e he
    rw [if_pos h] at hc
    exact callRP (es := [.pb p, .g (.int e)]) (.inr ⟨hl, lk rfl, trivial⟩) hc (fun _ => hk h) (fun h0 => absurd rfl h0)
  · have hc := need_any p e he
    rw [if_neg h] at hc
    exact callRP (es := [.pb p, .g (.int e)]) (.inr ⟨hl, lk rfl, trivial⟩) hc (fun h0 => absurd h0 he) (fun _ => hp h)

end Go.Proofs.Ytibhhcncefkoiaa
