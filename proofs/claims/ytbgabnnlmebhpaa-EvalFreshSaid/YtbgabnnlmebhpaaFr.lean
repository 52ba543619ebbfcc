/-
  eval.Fresh, and the cells that the document says a program begins with: the contracts.
-/
import Derived.Test.YtbgabnnlmebhpaaNq
import Derived.Test.YtbgabnnlmebhpaaEv
namespace Barb
open Go Go.Dm Go.Eng
theorem progE_ok {p : List Unit} (h : progE p = 0) : p.length ≤ 5 ∧ ∀ u ∈ p, unitE u = 0 := by
  unfold progE at h
  by_cases h5 : 5 < p.length
  · rw [if_pos h5] at h; omega
  · rw [if_neg h5] at h
    by_cases h1 : firstE unitE p ≠ 0
    · rw [if_pos h1] at h; exact absurd h h1
    · exact ⟨by omega, firstE_all (Classical.not_not.1 h1)⟩
def zeros (n : Nat) : List Int := List.replicate n 0
theorem zeros_g (n : Nat) : List.replicate n [GV.int 0] = (zeros n).map intG := by simp [zeros, intG]
def freshA (a : Arr) : List Int := zeros a.size.toNat
def freshC (u : Unit) : Cells := ⟨zeros u.vars.length, u.arrays.map freshA⟩
noncomputable def freshL (p : List Unit) : List Cells := if progE p = 0 then p.map freshC else []
theorem freshC_I {u : Unit} (h : unitE u = 0) : (freshC u).I := by
  obtain ⟨h1, h2, _, h4⟩ := unitE_ok h
  refine ⟨⟨fun s hs => ?_, by show (zeros _).length * 8 ≤ _; simp only [zeros, List.length_replicate]; omega⟩, fun l hl => ?_, by show (u.arrays.map freshA).length * 24 ≤ _; simp only [List.length_map]; omega⟩
  · have : s = 0 := (List.mem_replicate.1 hs).2
    subst this
    unfold I64; omega
  · obtain ⟨a, ha, rfl⟩ := List.mem_map.1 hl
    have := h4 a ha
    refine ⟨fun s hs => ?_, by show (zeros _).length * 8 ≤ _; simp only [zeros, List.length_replicate]; omega⟩
    have h0 : s = 0 := (List.mem_replicate.1 hs).2
    subst h0
    unfold I64; omega
end Barb
namespace Go.Proofs.Ytbgabnnlmebhpaa
open Go Go.Dm Go.Eng Barb

theorem dJ {a b : Int} (h : a = b) : D.g (.int a) = D.g (.int b) := by rw [h]
set_option maxRecDepth 20000 in
theorem Fresh_any (p : List Barb.Unit) (hp : progI p) : CT Try.prog [] 52 [.g (.sl 4 (p.map Unit.g))] (Is (.tuple [.g (.sl 2 ((freshL p).map Cells.g)), .g (.int (progE p))])) := by
  have lp : (p.map Unit.g).length = p.length := by simp
  refine enter hT hF hM Try.func52 rfl 49 rfl (by kernel_rfl) [.tmp 2, .tmp 3] rfl [.g (.sl 4 (p.map Unit.g))] rfl _ ?_
  refine callIs (.inl rfl) (NamesCheck_any p hp) ⟨fun h => ⟨rfl, retNE rfl (by unfold freshL; rw [if_neg h]; rfl)⟩, fun hE => ?_⟩
  obtain ⟨hl5, hu⟩ := progE_ok hE
  refine loopR (ι := Nat) (fun i => [(18, .g (.int (i : Int))), (5, .row 0)]) (fun i => [.row (((p.take i).map freshC).map Cells.g) 112 2]) (fun i => i ≤ p.length) (fun i => p.length - i)
    ⟨0, [.nil 112 2], ⟨rfl, .inl rfl, .inr ⟨lk rfl, .inr rfl, trivial⟩, rfl⟩, Nat.zero_le _⟩ ?_
  intro Rd hRd i hi
  refine ⟨fun b0 => ?_, fun b0 => ?_⟩
  rotate_left
  · have hil : i = p.length := by omega
    exact ⟨rfl, retRE rfl hE.symm (by unfold freshL; rw [if_pos hE, hil, List.take_length])⟩
  have b1 : i < p.length := by omega
  have hE1 := hu _ (List.getElem_mem b1)
  obtain ⟨w1, w2, _, w4⟩ := unitE_ok hE1
  refine ⟨i, _, rfl, gm b1, ?_⟩
  have htk : ((p.take i).map freshC).map Cells.g ++ [Cells.g (freshC p[i])] = ((p.take (i + 1)).map freshC).map Cells.g := by
    rw [take_one b1, List.map_append (f := freshC), List.map_append (f := Cells.g)]; rfl
  generalize p[i] = u at *
  have lv : (u.vars.map strG).length = u.vars.length := by simp
  have la : (u.arrays.map Arr.g).length = u.arrays.length := by simp
  refine ⟨u.vars.length, u.vars.length, [.int 0], dJ (by omega), dJ (by omega), Nat.le_refl _, by dsimp only; omega, by simp only [maxLen]; omega, ⟨rfl, trivial⟩, ?_⟩
  refine loopR (ι := Nat) (fun j => [(30, .g (.int (j : Int))), (8, .ptr 1 0), (5, .row 0)]) (fun j => [.row (((p.take i).map freshC).map Cells.g) 112 2, .blk [.row 2, .row 3] 112, .row ((zeros u.vars.length).map intG) 3 1, .row (((u.arrays.take j).map freshA).map intsG) 24 1]) (fun j => j ≤ u.arrays.length) (fun j => u.arrays.length - j)
    ⟨0, [.old 0, .old 3, .old 2, .nil 24 1], ⟨rfl, .inr ⟨⟨rfl, rfl, rfl⟩, ⟨rfl, .inr ⟨lk rfl, .inr rfl, trivial⟩⟩, ⟨zeros_g _, rfl, rfl⟩, ⟨rfl, rfl, rfl⟩, trivial⟩, .inr ⟨lk rfl, lk rfl, lk rfl, trivial⟩, rfl⟩, Nat.zero_le _⟩ ?_
  intro Rj hRj j hj
  refine ⟨fun h3 => ?_, fun h3 => ?_⟩
  · have h4 : j < u.arrays.length := by omega
    obtain ⟨s1, s2⟩ := w4 _ (List.getElem_mem h4)
    refine ⟨j, _, rfl, gm h4, ?_⟩
    have htk' : ((u.arrays.take j).map freshA).map intsG ++ [[GV.sl 1 (List.replicate u.arrays[j].size.toNat [GV.int 0])]] = ((u.arrays.take (j + 1)).map freshA).map intsG := by
      rw [take_one h4, List.map_append (f := freshA), List.map_append (f := intsG), zeros_g]; rfl
    generalize u.arrays[j] = a at *
    refine ⟨some 3004, rfl, a.size.toNat, a.size.toNat, [.int 0], dJ (by omega), dJ (by omega), Nat.le_refl _, by dsimp only; omega, by simp only [maxLen]; omega, ⟨rfl, trivial⟩, ?_⟩
    refine ⟨[[.sl 1 (List.replicate a.size.toNat [GV.int 0])]], rfl, rfl, ⟨rfl, trivial⟩, ⟨_, rfl⟩, ?_⟩
    refine ⟨⟨by simp only [maxLen, List.length_cons, List.length_nil, List.length_map, List.length_take]; omega, by simp only [List.length_cons, List.length_nil, List.length_map, List.length_take]; omega⟩, ?_⟩
    refine ⟨_, I64.wrap (by unfold I64; omega), ?_⟩
    exact hRj _ _ _ ⟨j + 1, [.old 0, .old 1, .old 2, .old 7], ⟨rfl, .inr ⟨⟨rfl, rfl, rfl⟩, ⟨rfl, .inl rfl⟩, ⟨rfl, rfl, rfl⟩, ⟨htk', rfl, rfl⟩, trivial⟩, .inr ⟨lk rfl, lk rfl, lk rfl, trivial⟩, rfl⟩, h4, by omega⟩
  · have hjl : j = u.arrays.length := by omega
    have hfull : ((u.arrays.take j).map freshA).map intsG = (freshC u).arrays.map intsG := by rw [hjl, List.take_length]; rfl
    refine ⟨[Cells.g (freshC u)], rfl, rfl, ⟨rfl, congrArg (GV.sl 1) hfull, trivial⟩, ?_⟩
    refine ⟨⟨by simp only [maxLen, List.length_cons, List.length_nil, List.length_map, List.length_take]; omega, by simp only [List.length_cons, List.length_nil, List.length_map, List.length_take]; omega⟩, ?_⟩
    refine ⟨_, I64.wrap (by unfold I64; omega), ?_⟩
    exact hRd _ _ _ ⟨i + 1, [.old 5], ⟨rfl, .inr ⟨⟨htk, rfl, rfl⟩, trivial⟩, .inr ⟨lk rfl, lk rfl, trivial⟩, rfl⟩, b1, by omega⟩
set_option maxRecDepth 20000 in
theorem FreshOf_any (p : List Barb.Unit) (hp : progI p) : CT Try.prog [] 53 [.g (.sl 4 (p.map Unit.g))] (Is (.tuple [.g (.sl 2 ((freshL p).map Cells.g)), .g (.int (progE p))])) := by
  have lp : (p.map Unit.g).length = p.length := by simp
  refine enter hT hF hM Try.func53 rfl 58 rfl (by kernel_rfl) [.tmp 2, .tmp 3] rfl [.g (.sl 4 (p.map Unit.g))] rfl _ ?_
  refine callIs (.inl rfl) (ProgramFault_any p hp) ⟨fun h => ⟨rfl, retNE rfl (by unfold freshL; rw [if_neg h]; rfl)⟩, fun hE => ?_⟩
  obtain ⟨hl5, hu⟩ := progE_ok hE
  refine loopR (ι := Nat) (fun i => [(6, .g (.int (i : Int))), (5, .row 0)]) (fun i => [.row (((p.take i).map freshC).map Cells.g) 112 2]) (fun i => i ≤ p.length) (fun i => p.length - i)
    ⟨0, [.nil 112 2], ⟨rfl, .inl rfl, .inr ⟨lk rfl, .inr rfl, trivial⟩, rfl⟩, Nat.zero_le _⟩ ?_
  intro Rd hRd i hi
  refine ⟨fun b0 => ?_, fun b0 => ?_⟩
  rotate_left
  · have hil : i = p.length := by omega
    exact ⟨rfl, retRE rfl hE.symm (by unfold freshL; rw [if_pos hE, hil, List.take_length])⟩
  have b1 : i < p.length := by omega
  have hE1 := hu _ (List.getElem_mem b1)
  obtain ⟨w1, w2, _, w4⟩ := unitE_ok hE1
  have htk : ((p.take i).map freshC).map Cells.g ++ [Cells.g (freshC p[i])] = ((p.take (i + 1)).map freshC).map Cells.g := by
    rw [take_one b1, List.map_append (f := freshC), List.map_append (f := Cells.g)]; rfl
  have lv : (p[i].vars.map strG).length = p[i].vars.length := by simp
  have la : (p[i].arrays.map Arr.g).length = p[i].arrays.length := by simp
  refine ⟨i, _, rfl, gm b1, ?_⟩
  refine ⟨p[i].vars.length, p[i].vars.length, [.int 0], dJ (by omega), dJ (by omega), Nat.le_refl _, by dsimp only; omega, by simp only [maxLen]; omega, ⟨rfl, trivial⟩, ?_⟩
  refine loopR (ι := Nat) (fun j => [(8, .g (.int (j : Int))), (7, .ptr 1 0), (5, .row 0)]) (fun j => [.row (((p.take i).map freshC).map Cells.g) 112 2, .blk [.row 2, .row 3] 112, .row ((zeros p[i].vars.length).map intG) 3 1, .row (((p[i].arrays.take j).map freshA).map intsG) 24 1]) (fun j => j ≤ p[i].arrays.length) (fun j => p[i].arrays.length - j)
    ⟨0, [.old 0, .old 2, .old 1, .nil 24 1], ⟨rfl, .inr ⟨⟨rfl, rfl, rfl⟩, ⟨rfl, .inr ⟨lk rfl, .inr rfl, trivial⟩⟩, ⟨zeros_g _, rfl, rfl⟩, ⟨rfl, rfl, rfl⟩, trivial⟩, .inr ⟨lk rfl, lk rfl, lk rfl, trivial⟩, rfl⟩, Nat.zero_le _⟩ ?_
  intro Rj hRj j hj
  refine ⟨i, _, rfl, gm b1, ?_⟩
  refine ⟨fun h3 => ?_, fun h3 => ?_⟩
  · have h4 : j < p[i].arrays.length := by omega
    obtain ⟨s1, s2⟩ := w4 _ (List.getElem_mem h4)
    have htk' : ((p[i].arrays.take j).map freshA).map intsG ++ [[GV.sl 1 (List.replicate p[i].arrays[j].size.toNat [GV.int 0])]] = ((p[i].arrays.take (j + 1)).map freshA).map intsG := by
      rw [take_one h4, List.map_append (f := freshA), List.map_append (f := intsG), zeros_g]; rfl
    refine ⟨some 3011, rfl, i, _, rfl, gm b1, j, _, rfl, gm h4, p[i].arrays[j].size.toNat, p[i].arrays[j].size.toNat, [.int 0], dJ (by omega), dJ (by omega), Nat.le_refl _, by dsimp only; omega, by simp only [maxLen]; omega, ⟨rfl, trivial⟩, ?_⟩
    refine ⟨[[.sl 1 (List.replicate p[i].arrays[j].size.toNat [GV.int 0])]], rfl, rfl, ⟨rfl, trivial⟩, ⟨_, rfl⟩, ?_⟩
    refine ⟨⟨by simp only [maxLen, List.length_cons, List.length_nil, List.length_map, List.length_take]; omega, by simp only [List.length_cons, List.length_nil, List.length_map, List.length_take]; omega⟩, ?_⟩
    refine ⟨_, I64.wrap (by unfold I64; omega), ?_⟩
    exact hRj _ _ _ ⟨j + 1, [.old 0, .old 1, .old 2, .old 6], ⟨rfl, .inr ⟨⟨rfl, rfl, rfl⟩, ⟨rfl, .inl rfl⟩, ⟨rfl, rfl, rfl⟩, ⟨htk', rfl, rfl⟩, trivial⟩, .inr ⟨lk rfl, lk rfl, lk rfl, trivial⟩, rfl⟩, h4, by omega⟩
  · have hjl : j = p[i].arrays.length := by omega
    have hfull : ((p[i].arrays.take j).map freshA).map intsG = (freshC p[i]).arrays.map intsG := by rw [hjl, List.take_length]; rfl
    refine ⟨[Cells.g (freshC p[i])], rfl, rfl, ⟨rfl, congrArg (GV.sl 1) hfull, trivial⟩, ?_⟩
    refine ⟨⟨by simp only [maxLen, List.length_cons, List.length_nil, List.length_map, List.length_take]; omega, by simp only [List.length_cons, List.length_nil, List.length_map, List.length_take]; omega⟩, ?_⟩
    refine ⟨_, I64.wrap (by unfold I64; omega), ?_⟩
    exact hRd _ _ _ ⟨i + 1, [.old 5], ⟨rfl, .inr ⟨⟨htk, rfl, rfl⟩, trivial⟩, .inr ⟨lk rfl, lk rfl, trivial⟩, rfl⟩, b1, by omega⟩
theorem freshL_ok (p : List Barb.Unit) : (∀ c ∈ freshL p, Cells.I c) ∧ (freshL p).length * 48 ≤ 140737488351232 := by
  unfold freshL
  by_cases hE : progE p = 0
  · rw [if_pos hE]
    obtain ⟨h5, hu⟩ := progE_ok hE
    exact ⟨fun c hc => by obtain ⟨u, hu', rfl⟩ := List.mem_map.1 hc; exact freshC_I (hu u hu'), by simp only [List.length_map]; omega⟩
  · rw [if_neg hE]; exact ⟨fun c hc => by simp at hc, by simp⟩
end Go.Proofs.Ytbgabnnlmebhpaa
