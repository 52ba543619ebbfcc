/-
  mem.Store and what the document says of it: the contracts.
-/
import Derived.Test.YthbdbjnakknbkaaDoorMo
import Derived.Test.YthbdbjnakknbkaaDoorSi
import Derived.Test.YthbdbjnakknbkaaDoorCl
namespace Barb
open Go Go.Dm Go.Eng
def storeE (m : List Part) (d : List Int) (p at_ v : Int) : Int := if ownE m d p at_ ≠ 0 then ownE m d p at_ else if ¬(0 ≤ v ∧ v ≤ 65535) then 2 else 0
def storeL (m : List Part) (d : List Int) (p at_ v : Int) : List Int := if storeE m d p at_ v = 0 then d.set at_.toNat v else []
end Barb
namespace Go.Proofs.YthbdbjnakknbkaaDoor
open Go Go.Dm Go.Eng Barb

theorem Store_any (m : Image) (hm : Image.I m) (d : List Int) (hd : d.length * 8 ≤ 140737488351232) (p at_ v : Int) : CT Tryd.prog gl 19 [.agg (imgD m), .g (.sl 1 (d.map intG)), .g (.int p), .g (.int at_), .g (.int v)] (Is (.tuple [.g (.sl 1 ((storeL m d p at_ v).map intG)), .g (.int (storeE m d p at_ v))])) := by
  refine enter hT hF hM Tryd.func19 rfl 31 rfl (by kernel_rfl) [.tmp 10, .tmp 11] rfl [.agg (imgD m), .g (.sl 1 (d.map intG)), .g (.int p), .g (.int at_), .g (.int v)] rfl _ ?_
  have err : ∀ e : Int, e ≠ 0 → storeE m d p at_ v = e → ∀ h : Heap, RetTo (Is (.tuple [.g (.sl 1 ((storeL m d p at_ v).map intG)), .g (.int (storeE m d p at_ v))])) h (.tuple [.nils, .g (.int e)]) :=
    fun e h0 he h => retNE he.symm (by unfold storeL; rw [if_neg (by rw [he]; exact h0)]; rfl)
  refine callIs (.inl rfl) (own_any m hm d hd p at_) ⟨fun h => ⟨rfl, err _ h (by unfold storeE; rw [if_pos h]) _⟩, fun h => ?_⟩
  refine callIs (.inl rfl) (Is_any v) ⟨fun h2 => ⟨rfl, err 2 (by decide) (by unfold storeE; rw [if_neg (fun h' => h' h), if_pos h2]) _⟩, fun h2 => ?_⟩
  have hz : storeE m d p at_ v = 0 := by unfold storeE; rw [if_neg (fun h' => h' h), if_neg (fun h' => h' h2)]
  obtain ⟨k, rfl, hk⟩ := ownE_ok h
  refine callQ (.inl rfl) (Clone_any (d.map intG) (by rw [List.length_map]; exact hd)) (fun d' h' hq => ?_) (fun d' hq => by cases hq)
  injection hq with e1 e2
  subst e1; subst e2
  refine ⟨k, rfl, by rw [List.length_map]; exact hk, ?_⟩
  refine ⟨_, [.int v], gm hk, ⟨rfl, trivial⟩, Nat.le_refl 1, (fun h => by cases h), ?_⟩
  refine ⟨rfl, retRE rfl hz.symm ?_⟩
  unfold storeL
  rw [if_pos hz, List.map_set]
  rfl
theorem storeL_len (m : List Part) (d : List Int) (p at_ v : Int) : (storeL m d p at_ v).length ≤ d.length := by
  unfold storeL
  by_cases h : storeE m d p at_ v = 0
  · rw [if_pos h]; simp
  · rw [if_neg h]; simp
end Go.Proofs.YthbdbjnakknbkaaDoor
