/-
  The engine, eleventh part: calls by their contracts. It holds of every program.
-/
import Derived.Test.YtbgabnnlmebhpaaRep1
namespace Go.Eng
open Go.RowKit

/-- A call returns this, and nothing of what was there has turned. -/
def Ret (w : World) (v : Value) : Ending → World → Prop := fun e w' => e = .returned v ∧ Fr (fun _ => False) w w'
/-- A call returns such a value in such a world, and nothing of what was there has turned. -/
def Rets (w : World) (R : Value → World → Prop) : Ending → World → Prop := fun e w' => ∃ v, e = .returned v ∧ Fr (fun _ => False) w w' ∧ R v w'

section
variable {P : Program} {C : Ctx} {hp : List LB} {rows : List Row} {A : Anch} {w w' : World} {g : FuncId} {args : Array Value} {K : Cont} {Qp : PCont}

theorem RelW.call (h : RelW C hp rows A w) (hf : Fr (fun _ => False) w w') : RelW C hp rows A w' := by
  refine h.step hf (fun k hk _ => hk.elim) (fun i x hi => ?_) (fun i r hi => ?_) h.nodup (fun k hk => .inl hk)
  · rw [hf.block x.b (h.lt _ (mem_nums_hp hi)) (fun h => h)]; exact h.blk i x hi
  · exact owns_keep (h.row i r hi) (fun k hk => hf.block k (h.lt _ (mem_nums_row hi hk)) (fun h => h))

theorem RelW.self (h : RelW C hp rows A w) : RelW C hp rows (here w hp rows) w := RelW.rehere (hx := []) (rx := []) (by simpa using h)

/-- A call of known result, that makes nothing that is kept. -/
theorem call_ret {v : Value} (hw : RelW C hp rows A w) (h : Calls P g args w (Ret w v)) (hk : K (SV.of v) hp rows A) :
    Calls P g args w (CallPost C hp K Qp) :=
  h.mono fun e w' he => by
    obtain ⟨rfl, hf⟩ := he
    exact ⟨hp, rows, A, hw.call hf, rfl, hk⟩

/-- A call whose result is told by a relation; the anchor stays. -/
theorem call_keep {R : Value → World → Prop} (hw : RelW C hp rows A w) (h : Calls P g args w (Rets w R)) (hk : ∀ v w', R v w' → K (SV.of v) hp rows A) :
    Calls P g args w (CallPost C hp K Qp) :=
  h.mono fun e w' he => by
    obtain ⟨v, rfl, hf, hr⟩ := he
    exact ⟨hp, rows, A, hw.call hf, rfl, hk v w' hr⟩

/-- A call whose result lies in new memory: from here on the anchor is the world behind it. -/
theorem call_new {R : Value → World → Prop} (hw : RelW C hp rows A w) (h : Calls P g args w (Rets w R))
    (hk : ∀ v w', R v w' → Moved A.V A.w (here w' hp rows).V w' → (∀ k, w.heap.size ≤ k → k < w'.heap.size → (here w' hp rows).V k) → RelW C hp rows (here w' hp rows) w' → K (SV.of v) hp rows (here w' hp rows)) :
    Calls P g args w (CallPost C hp K Qp) :=
  h.mono fun e w' he => by
    obtain ⟨v, rfl, hf, hr⟩ := he
    have h1 := hw.call hf
    refine ⟨hp, rows, here w' hp rows, h1.self, rfl, hk v w' hr (h1.moved (fun k hk => hk)) (fun k hk hlt => ⟨hlt, fun hm => ?_⟩) h1.self⟩
    have := hw.lt k hm
    omega
end
end Go.Eng
