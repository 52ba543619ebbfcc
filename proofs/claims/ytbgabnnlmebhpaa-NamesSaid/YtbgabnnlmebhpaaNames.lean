/-
  The error numbers, kinds and limits of package api are the document's: the law Names returns true.
-/
import Derived.Test.YtbgabnnlmebhpaaJNames
import Derived.Test.YtbgabnnlmebhpaaWd
namespace Go.Proofs.Ytbgabnnlmebhpaa
open Go Go.Dm Go.Eng Go.RowKit Go.ChangeShapes Go.WideShapes Go.ChangeAt Barb

def errL : List Int := (List.range 10).map Int.ofNat
def limA : List Int := [65535, 1200, 5, 8, 250, 4, 8, 40, 20, 100000, 100, 8, 3000, 12, 300, 8, 3, 10, 8, 500]
def limB : List Int := [1, 2, 3, 4, 5, 6, 7, 8, 9, 10, 1, 2, 3, 4, 5, 6, 7, 8, 9, 10, 11, 12, 13, 14, 15]
def limC : List Int := [1, 2, 3, 4, 5, 6, 1, 2, 3, 4, 5, 1, 2, 3, 4, 5, 6, 1, 2, 3]
def limL : List Int := limA ++ limB ++ limC

set_option maxHeartbeats 1000000 in
theorem Names_walk : CT Try.prog [] 3 [] (Is (.g (.bool true))) := by
  refine enter hT hF hM Try.func3 rfl 48 rfl (by kernel_rfl) [.tmp 0] rfl [] rfl _ ?_
  refine ⟨errL.map intG, rfl, rfl, ⟨rfl, rfl, rfl, rfl, rfl, rfl, rfl, rfl, rfl, rfl, trivial⟩, ?_⟩
  refine loopR (ι := Nat) (fun i => [(2, .g (.int (i : Int))), (1, .row 0)]) (fun _ => [.row (errL.map intG) 22 1]) (fun i => i ≤ 10) (fun i => 10 - i)
    ⟨0, [.old 0], ⟨rfl, .inl rfl, .inr ⟨lk rfl, lk rfl, trivial⟩, rfl⟩, Nat.zero_le _⟩ ?_
  intro Rd hRd i hi
  have hl : errL.length = 10 := rfl
  refine ⟨fun h => ?_, fun h => ?_⟩
  · have h1 : i < errL.length := by simp at h; omega
    refine ⟨i, rfl, by simpa using h1, ?_⟩
    refine ⟨_, gm h1, ?_⟩
    have he : errL[i] = (i : Int) := by simp [errL]
    refine ⟨fun h2 => absurd he h2, fun _ => ?_⟩
    refine ⟨_, I64.wrap (by unfold I64; omega), ?_⟩
    exact hRd _ _ _ ⟨i + 1, [.old 0], ⟨rfl, .inl rfl, .inr ⟨lk rfl, lk rfl, trivial⟩, rfl⟩, by omega, by omega⟩
  · refine ⟨limA.map intG, rfl, rfl, ⟨rfl, rfl, rfl, rfl, rfl, rfl, rfl, rfl, rfl, rfl, rfl, rfl, rfl, rfl, rfl, rfl, rfl, rfl, rfl, rfl, trivial⟩, ?_⟩
    refine ⟨limA.map intG, rfl, rfl, ⟨rfl, rfl, rfl, rfl, rfl, rfl, rfl, rfl, rfl, rfl, rfl, rfl, rfl, rfl, rfl, rfl, rfl, rfl, rfl, rfl, trivial⟩, ?_⟩
    refine ⟨limB.map intG, rfl, rfl, ⟨rfl, rfl, rfl, rfl, rfl, rfl, rfl, rfl, rfl, rfl, rfl, rfl, rfl, rfl, rfl, rfl, rfl, rfl, rfl, rfl, rfl, rfl, rfl, rfl, rfl, trivial⟩, ?_⟩
    refine ⟨⟨by decide, by decide⟩, ?_⟩
    refine ⟨limB.map intG, rfl, rfl, ⟨rfl, rfl, rfl, rfl, rfl, rfl, rfl, rfl, rfl, rfl, rfl, rfl, rfl, rfl, rfl, rfl, rfl, rfl, rfl, rfl, rfl, rfl, rfl, rfl, rfl, trivial⟩, ?_⟩
    refine ⟨⟨by decide, by decide⟩, ?_⟩
    refine ⟨limC.map intG, rfl, rfl, ⟨rfl, rfl, rfl, rfl, rfl, rfl, rfl, rfl, rfl, rfl, rfl, rfl, rfl, rfl, rfl, rfl, rfl, rfl, rfl, rfl, trivial⟩, ?_⟩
    refine ⟨⟨by decide, by decide⟩, ?_⟩
    refine ⟨limC.map intG, rfl, rfl, ⟨rfl, rfl, rfl, rfl, rfl, rfl, rfl, rfl, rfl, rfl, rfl, rfl, rfl, rfl, rfl, rfl, rfl, rfl, rfl, rfl, trivial⟩, ?_⟩
    refine ⟨⟨by decide, by decide⟩, ?_⟩
    refine loopR (ι := Nat) (fun i => [(5, .g (.int (i : Int))), (3, .row 0), (4, .row 1)]) (fun _ => [.row (limL.map intG) 3 1, .row (limL.map intG) 3 1]) (fun i => i ≤ 65) (fun i => 65 - i)
      ⟨0, [.old 8, .old 10], ⟨rfl, .inl rfl, .inr ⟨lk rfl, lk rfl, lk rfl, trivial⟩, rfl⟩, Nat.zero_le _⟩ ?_
    intro Rd hRd i hi
    have hn : limL.length = 65 := rfl
    refine ⟨fun h => ?_, fun h => ?_⟩
    · have h1 : i < limL.length := by simp at h; omega
      refine ⟨rfl, i, rfl, by simpa using h1, ?_⟩
      refine ⟨_, gm h1, ?_⟩
      refine ⟨i, rfl, by simpa using h1, ?_⟩
      refine ⟨_, gm h1, ?_⟩
      refine ⟨fun h2 => absurd rfl h2, fun _ => ?_⟩
      refine ⟨_, I64.wrap (by unfold I64; omega), ?_⟩
      exact hRd _ _ _ ⟨i + 1, [.old 0, .old 1], ⟨rfl, .inl rfl, .inr ⟨lk rfl, lk rfl, lk rfl, trivial⟩, rfl⟩, by omega, by omega⟩
    · exact ⟨rfl, retIs (.inl rfl)⟩

set_option maxRecDepth 100000 in
theorem Names_lifted (os : Os) (started : os.Started) (H : Type) (enc : TypeId × Value → H) :
    ReturnsInHanded {} Try.checked os 3 .any (Rows.namesSpec.pre6 enc Try.prog Try.f3 Rows.namesRow.domain false) (Rows.namesSpec.post enc Try.prog Try.f3 false true false false) := by
  refine handed (C := Try.checked) own started (by kernel_rfl) Try.func3
    (ChangeSpec.witness6 (enc := enc) (C := Try.checked) false ⟨#[], #[], []⟩ 8 (by kernel_rfl) (by kernel_rfl) (by kernel_rfl) (by kernel_rfl)) ?_
  intro W base args ds gs before hval hwt hW
  refine law_contract plainS_ok laidOut rfl ?_ rfl Try.underlying4 (pars_ok (by kernel_rfl)) ?_ W base args ds gs before hval hwt hW
  · intro ds hds
    match ds, hds with
    | [], _ => rfl
  · intro W args hargs
    obtain rfl := hargs.inv0
    exact law_of_ct (Names_walk ) args_nil
/-- THE STATEMENT. -/
theorem Names_said : Rows.NamesSaid := Names_over Names_lifted
#print axioms Names_said
end Go.Proofs.Ytbgabnnlmebhpaa
