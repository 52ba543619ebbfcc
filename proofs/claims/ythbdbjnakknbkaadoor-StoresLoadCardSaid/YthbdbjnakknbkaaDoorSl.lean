/-
  mem.Store where it does what it is told, its words a row of one's own; an image of two parts: the contracts.
-/
import Derived.Test.YthbdbjnakknbkaaDoorMs
import Derived.Test.YthbdbjnakknbkaaDoorQe
namespace Go.Dm
open Go Go.Eng Go.RowKit
theorem retRow2 {Q : Out → Prop} {h : Heap} {i : Nat} {xs ys : List (List GV)} {e sz : Nat} {x : Int} (hi : h[i]? = some (.row xs e sz)) (hx : xs = ys) (q : Q (.ret (.tuple [.row 0, .g (.int x)]) [.row ys e sz])) : RetTo Q h (.tuple [.row i, .g (.int x)]) := by
  subst hx
  have hkp : kp [.old i] 0 i = some 0 := by simp [kp]
  refine ⟨[.old i], .tuple [.row 0, .g (.int x)], [.row xs e sz], ⟨rfl, .inl ?_, .inl ?_, rfl⟩, q⟩
  · simp only [turnH, List.map_cons, List.map_nil, turnO, hi]
  · simp only [List.map_cons, List.map_nil, conv, hkp]
end Go.Dm
namespace Barb
open Go Go.Dm Go.Eng
/-- The image of a part that is handed code, behind another one. -/
def img2 (c : List Instr) (w : Int) : List Part := [⟨[⟨4, 0, 0, 0⟩, ⟨13, 0, 0, 0⟩], [⟨0, 1⟩], 0, 3⟩, ⟨c, [⟨0, 0⟩], 3, 3 + w⟩]
end Barb
namespace Go.Proofs.YthbdbjnakknbkaaDoor
open Go Go.Dm Go.Eng Barb
theorem StoreRow_any (m : Image) (hm : Image.I m) (d : List Int) (hd : d.length * 8 ≤ 140737488351232) (p : Int) (k : Nat) (v : Int) (hk : k < d.length) (h0 : ownE m d p (k : Int) = 0) (h2 : 0 ≤ v ∧ v ≤ 65535) :
    CT Tryd.prog gl 19 [.agg (imgD m), .g (.sl 1 (d.map intG)), .g (.int p), .g (.int (k : Int)), .g (.int v)] (fun o => o = .ret (.tuple [.row 0, .g (.int 0)]) [.row ((d.set k v).map intG) 3 1]) := by
  refine enter hT hF hM Tryd.func19 rfl 31 rfl (by kernel_rfl) [.tmp 10, .tmp 11] rfl [.agg (imgD m), .g (.sl 1 (d.map intG)), .g (.int p), .g (.int (k : Int)), .g (.int v)] rfl _ ?_
  refine callIs (.inl rfl) (own_any m hm d hd p (k : Int)) ⟨fun h => absurd h0 h, fun _ => ?_⟩
  refine callIs (.inl rfl) (Is_any v) ⟨fun h => absurd h2 h, fun _ => ?_⟩
  refine callQ (.inl rfl) (Clone_any (d.map intG) (by rw [List.length_map]; exact hd)) (fun d' h' hq => ?_) (fun d' hq => by cases hq)
  injection hq with e1 e2
  subst e1; subst e2
  refine ⟨k, rfl, by rw [List.length_map]; exact hk, ?_⟩
  refine ⟨_, [.int v], gm hk, ⟨rfl, trivial⟩, Nat.le_refl 1, (fun h => by cases h), ?_⟩
  refine ⟨rfl, retRow2 rfl ?_ rfl⟩
  rw [List.map_set]
  rfl
set_option maxRecDepth 20000 in
theorem image_any (c : List Barb.Instr) (w : Int) (hw : 0 ≤ w ∧ w ≤ 1000) : CT Tryd.prog gl 18 [.g (.sl 4 (c.map Instr.g)), .g (.int w)] (Is (.agg (imgD (img2 c w)))) := by
  refine enter hT hF hM Tryd.func18 rfl 19 rfl (by kernel_rfl) [.cell 4 27] rfl [.g (.sl 4 (c.map Instr.g)), .g (.int w)] rfl _ ?_
  refine ⟨[Instr.g ⟨4, 0, 0, 0⟩, Instr.g ⟨13, 0, 0, 0⟩], rfl, rfl, ⟨rfl, rfl, rfl, rfl, rfl, rfl, rfl, rfl, trivial⟩, ?_⟩
  refine ⟨[Entry.g ⟨0, 1⟩], rfl, rfl, ⟨rfl, rfl, trivial⟩, ?_⟩
  refine ⟨[Entry.g ⟨0, 0⟩], rfl, rfl, ⟨rfl, rfl, trivial⟩, ?_⟩
  refine ⟨3 + w, I64.wrap (by unfold I64; omega), ?_⟩
  refine ⟨[[.sl 4 [Instr.g ⟨4, 0, 0, 0⟩, Instr.g ⟨13, 0, 0, 0⟩], .sl 2 [Entry.g ⟨0, 1⟩], .int 0, .int 3], [.sl 4 (c.map Instr.g), .sl 2 [Entry.g ⟨0, 0⟩], .int 3, .int (3 + w)]], rfl, rfl, ⟨rfl, rfl, rfl, rfl, rfl, rfl, rfl, rfl, trivial⟩, ?_⟩
  exact ⟨rfl, retIs (.inl rfl)⟩
end Go.Proofs.YthbdbjnakknbkaaDoor
