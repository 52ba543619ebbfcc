/-
  word.Is answers what P1.1 says: the law WordIs returns true for every argument, and leaves its argument as it was.
-/
import Derived.Test.YtbgabnnlmebhpaaJWordIs
import Derived.Test.YtbgabnnlmebhpaaSeat
namespace Go.Proofs.Ytbgabnnlmebhpaa
open Go.Eng Go.RowKit Go.ChangeShapes Go.WideShapes Go.ChangeAt

theorem In_any (x lo hi : Int) (w : World) : Calls Try.prog 32 #[.int .i64 x, .int .i64 lo, .int .i64 hi] w (Ret w (.bool (decide (lo ≤ x) && decide (x ≤ hi)))) := by
  refine enter hT hF Try.func32 rfl 15 rfl (by kernel_rfl) [.tmp 6] rfl [.int .i64 x, .int .i64 lo, .int .i64 hi] (by simp) (fun _ => False) _ _ ?_
  refine ⟨fun h1 => ?_, fun h1 => ?_⟩
  · refine ⟨rfl, fun w' hw => ⟨?_, hw.fr⟩⟩
    rw [h1]; rfl
  · refine ⟨rfl, fun w' hw => ⟨?_, hw.fr⟩⟩
    rw [h1]; rfl

theorem Is_any (x : Int) (w : World) : Calls Try.prog 24 #[.int .i64 x] w (Ret w (.bool (decide (0 ≤ x) && decide (x ≤ 65535)))) := by
  refine enter hT hF Try.func24 rfl 9 rfl (by kernel_rfl) [.tmp 2] rfl [.int .i64 x] (by simp) (fun _ => False) _ _ ?_
  refine ⟨fun h1 => ?_, fun h1 => ?_⟩
  · refine ⟨rfl, fun w' hw => ⟨?_, hw.fr⟩⟩
    rw [h1]; rfl
  · refine ⟨rfl, fun w' hw => ⟨?_, hw.fr⟩⟩
    rw [h1]; rfl

theorem IsWord_any (x : Int) (w : World) : Calls Try.prog 25 #[.int .i64 x] w (Ret w (.bool (decide (0 ≤ x) && decide (x ≤ 65535)))) := by
  refine enter hT hF Try.func25 rfl 5 rfl (by kernel_rfl) [.tmp 2] rfl [.int .i64 x] (by simp) (fun _ => False) _ _ ?_
  intro w1 hw1
  refine call_ret hw1 (In_any x 0 65535 w1) ?_
  exact ⟨rfl, fun w' hw => ⟨rfl, hw.fr⟩⟩

/-- THE WALK OF THE LAW. -/
theorem WordIs_walk (x : Int) (w : World) : Calls Try.prog 4 #[.int .i64 x] w (Ret w (.bool true)) := by
  refine enter hT hF Try.func4 rfl 12 rfl (by kernel_rfl) [.tmp 2] rfl [.int .i64 x] (by simp) (fun _ => False) _ _ ?_
  intro w1 hw1
  refine call_ret hw1 (Is_any x w1) ?_
  intro w2 hw2
  refine call_ret hw2 (IsWord_any x w2) ?_
  exact ⟨rfl, fun w' hw => ⟨by simp [oneOr, SV.val, SV.of, Env.set], hw.fr⟩⟩

set_option maxRecDepth 100000 in
theorem WordIs_lifted (os : Os) (started : os.Started) (H : Type) (enc : TypeId × Value → H) :
    ReturnsInHanded {} Try.checked os 4 .any (Rows.wordIsSpec.pre6 enc Try.prog Try.f4 Rows.wordIsRow.domain false) (Rows.wordIsSpec.post enc Try.prog Try.f4 false true false false) := by
  refine returnsInHanded_of_change (C := Try.checked) own started (by kernel_rfl) Try.func4
    (ChangeSpec.witness6 (enc := enc) (C := Try.checked) false ⟨#[], #[.int .i64 0], []⟩ 8 (by kernel_rfl) (by kernel_rfl) (by kernel_rfl) (by kernel_rfl)) ?_
  intro W base args ds gs before hval hW _ _
  refine law_contract plainS_ok laidOut rfl ?_ rfl Try.underlying4 (pars_ok (by kernel_rfl)) ?_ W base args ds gs before hval hW
  · intro ds hds
    match ds, hds with
    | [d0], _ => rfl
  · intro W args hargs
    obtain ⟨v0, r0, rfl, h0, hargs⟩ := hargs.inv
    obtain rfl := hargs.inv0
    obtain ⟨x, rfl, _⟩ := h0.int Try.underlying3
    exact WordIs_walk x W

/-- THE STATEMENT. -/
theorem WordIs_said : Rows.WordIsSaid := WordIs_over WordIs_lifted
#print axioms WordIs_said
end Go.Proofs.Ytbgabnnlmebhpaa
