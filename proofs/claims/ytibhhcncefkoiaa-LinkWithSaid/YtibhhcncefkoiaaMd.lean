/-
  mem.Words, mem.CheckData and what the document says of them: the contracts.
-/
import Derived.Test.YtibhhcncefkoiaaMc
import Derived.Test.YtibhhcncefkoiaaSpec2
namespace Barb
open Go Go.Dm Go.Eng
def imgWords (m : List Part) : Int := fromAt m m.length
def wordN (n : Int) : Prop := 0 ≤ n ∧ n ≤ 65535
instance (n : Int) : Decidable (wordN n) := by unfold wordN; infer_instance
def wordE (n : Int) : Int := if wordN n then 0 else 2
/-- What is wrong with the words of an image. -/
def dataE (m : List Part) (d : List Int) : Int := if imgE m ≠ 0 then imgE m else if ¬((d.length : Int) = imgWords m) then 4 else firstE wordE d
theorem wordE_two {d : List Int} (h : ∃ n ∈ d, ¬wordN n) : firstE wordE d = 2 := by
  induction d with
  | nil => obtain ⟨n, hn, _⟩ := h; simp at hn
  | cons x d ih =>
    simp only [firstE]
    by_cases hx : wordN x
    · have hz : wordE x = 0 := by unfold wordE; rw [if_pos hx]
      rw [if_pos hz]
      refine ih ?_
      obtain ⟨n, hn, hw⟩ := h
      rcases List.mem_cons.1 hn with rfl | hn
      · exact absurd hx hw
      · exact ⟨n, hn, hw⟩
    · have hz : wordE x = 2 := by unfold wordE; rw [if_neg hx]
      rw [if_neg (by rw [hz]; decide), hz]
theorem wordE_zero {d : List Int} (h : ∀ n ∈ d, wordN n) : firstE wordE d = 0 := firstE_zero (fun x hx => by unfold wordE; rw [if_pos (h x hx)])
end Barb
namespace Go.Proofs.Ytibhhcncefkoiaa
open Go Go.Dm Go.Eng Barb

theorem WordsOf_any (m : Image) (hm : Image.I m) : CT Try.prog [] 12 [.agg (imgD m)] (Is (.g (.int (imgWords m)))) := by
  have lm : (m.map Part.g).length = m.length := by simp
  have hl := hm.2
  refine enter hT hF hM Try.func12 rfl 19 rfl (by kernel_rfl) [.tmp 2] rfl [.agg (imgD m)] rfl _ ?_
  refine loopR (ι := Nat) (fun i => [(4, .g (.int (i : Int))), (3, .g (.int (fromAt m i))), (1, .ptr 0 0)]) (fun _ => [.blk (imgD m) 24]) (fun i => i ≤ m.length) (fun i => m.length - i)
    ⟨0, [.old 0], ⟨rfl, .inl rfl, .inr ⟨lk rfl, lk rfl, lk rfl, trivial⟩, rfl⟩, Nat.zero_le _⟩ ?_
  intro Rd hRd i hi
  refine ⟨fun b0 => ?_, fun b0 => ?_⟩
  · have b1 : i < m.length := by omega
    refine ⟨i, _, rfl, gm b1, ?_⟩
    refine ⟨_, I64.wrap (by unfold I64; omega), ?_⟩
    exact hRd _ _ _ ⟨i + 1, [.old 0], ⟨rfl, .inl rfl, .inr ⟨lk rfl, lkI (fromAt_succ b1).symm, lk rfl, trivial⟩, rfl⟩, b1, by omega⟩
  · have hil : i = m.length := by omega
    subst hil
    exact ⟨rfl, retI rfl⟩
end Go.Proofs.Ytibhhcncefkoiaa
