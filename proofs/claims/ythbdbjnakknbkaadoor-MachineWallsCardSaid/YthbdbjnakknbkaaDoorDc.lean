/-
  code.Decode and what the document says of it: the contracts.
-/
import Derived.Test.YthbdbjnakknbkaaDoorMc
import Derived.Test.YthbdbjnakknbkaaDoorSq
namespace Barb
open Go Go.Dm Go.Eng
def insAt (ws : List Int) (k : Nat) : Instr := ⟨ws.getD (4 * k + 0) 0, ws.getD (4 * k + 1) 0, ws.getD (4 * k + 2) 0, ws.getD (4 * k + 3) 0⟩
def wordI (x : Int) : Prop := 0 ≤ x ∧ x ≤ 65535
instance (x : Int) : Decidable (wordI x) := by unfold wordI; infer_instance
/-- What is wrong with the words of an instruction. -/
def decF (ws : List Int) (k : Nat) : Int := if ¬(wordI (ws.getD (4 * k + 0) 0) ∧ wordI (ws.getD (4 * k + 1) 0) ∧ wordI (ws.getD (4 * k + 2) 0) ∧ wordI (ws.getD (4 * k + 3) 0)) then 2 else instrE (insAt ws k)
def decE (ws : List Int) : Int := if 4800 < ws.length then 1 else if ws.length % 4 ≠ 0 then 4 else firstN (decF ws) (ws.length / 4)
def insTo (ws : List Int) (k : Nat) : List Instr := (List.range k).map (insAt ws)
theorem insTo_succ (ws : List Int) (k : Nat) : insTo ws (k + 1) = insTo ws k ++ [insAt ws k] := by
  unfold insTo; rw [List.range_succ, List.map_append]; rfl
theorem insTo_len (ws : List Int) (k : Nat) : (insTo ws k).length = k := by unfold insTo; simp
def decL (ws : List Int) : List Instr := if decE ws = 0 then insTo ws (ws.length / 4) else []
theorem gW {ws : List Int} {i : Nat} (h : i < ws.length) : (ws.map intG)[i]? = some (intG (ws.getD i 0)) := by simp [h]
theorem gWs {ws : List Int} {l hh j : Nat} (h : l + j < hh) (h' : hh ≤ ws.length) : ((((ws.map intG).take hh).drop l))[j]? = some (intG (ws.getD (l + j) 0)) := by
  rw [List.getElem?_drop, List.getElem?_take_of_lt h, gW (by omega)]
theorem decL_len (ws : List Int) (h : ws.length ≤ 9223372036854775807) : (decL ws).length ≤ 9223372036854775807 := by
  unfold decL
  by_cases hz : decE ws = 0
  · rw [if_pos hz, insTo_len]; omega
  · rw [if_neg hz]; simp
end Barb
namespace Go.Proofs.YthbdbjnakknbkaaDoor
open Go Go.Dm Go.Eng Barb

set_option maxRecDepth 20000 in
theorem Decode_any (ws : List Int) (hws : ws.length * 8 ≤ 140737488351232) : CT Tryd.prog gl 14 [.g (.sl 1 (ws.map intG))] (Is (.tuple [.g (.sl 4 ((decL ws).map Instr.g)), .g (.int (decE ws))])) := by
  have ll : (ws.map intG).length = ws.length := by simp
  refine enter hT hF hM Tryd.func14 rfl 67 rfl (by kernel_rfl) [.tmp 2, .tmp 3] rfl [.g (.sl 1 (ws.map intG))] rfl _ ?_
  have err : ∀ e : Int, e ≠ 0 → decE ws = e → ∀ h : Heap, RetTo (Is (.tuple [.g (.sl 4 ((decL ws).map Instr.g)), .g (.int (decE ws))])) h (.tuple [.nils, .g (.int e)]) :=
    fun e h0 he h => retNE he.symm (by unfold decL; rw [if_neg (by rw [he]; exact h0)]; rfl)
  refine ⟨fun h => ⟨rfl, err 1 (by decide) (by unfold decE; rw [if_pos (by omega)]) _⟩, fun h => ?_⟩
  have hrem : (((ws.map intG).length : Int)).tmod 4 = ((ws.length % 4 : Nat) : Int) := by rw [Int.tmod_eq_emod_of_nonneg (by omega), ll]; rfl
  refine ⟨by decide, fun h2 => ⟨rfl, err 4 (by decide) (by unfold decE; rw [if_neg (by omega), if_pos (fun h' => h2 (by rw [hrem, h']; rfl))]) _⟩, fun h2 => ?_⟩
  have hmod : ws.length % 4 = 0 := by rw [hrem] at h2; omega
  have e : decE ws = firstN (decF ws) (ws.length / 4) := by unfold decE; rw [if_neg (by omega), if_neg (fun h' => h' hmod)]
  refine loopR (ι := Nat) (fun k => [(5, .g (.int ((4 * k : Nat) : Int))), (4, .row 0)]) (fun k => [.row ((insTo ws k).map Instr.g) 38 4]) (fun k => 4 * k ≤ ws.length ∧ ∀ j, j < k → decF ws j = 0) (fun k => ws.length - 4 * k)
    ⟨0, [.nil 38 4], ⟨rfl, .inl rfl, .inr ⟨lk rfl, .inr rfl, trivial⟩, rfl⟩, Nat.zero_le _, fun j h => absurd h (Nat.not_lt_zero j)⟩ ?_
  intro Rd hRd k ⟨hk, ha⟩
  refine ⟨fun h1 => ?_, fun h1 => ?_⟩
  rotate_left
  · have hkl : k = ws.length / 4 := by omega
    have hz : decE ws = 0 := by rw [e]; exact firstN_all (fun j hj => ha j (by omega))
    refine ⟨rfl, retRE rfl hz.symm ?_⟩
    unfold decL
    rw [if_pos hz, hkl]
  have h3 : 4 * k + 4 ≤ ws.length := by omega
  have bad : ∀ v : Int, v ≠ 0 → decF ws k = v → decE ws = v := fun v h0 hv => by rw [e, firstN_at (by omega) ha (by rw [hv]; exact h0), hv]
  refine ⟨_, I64.wrap (by unfold I64; omega), 4 * k, 4 * k + 4, rfl, rfl, by omega, by omega, ?_⟩
  have l4 : (((ws.map intG).take (4 * k + 4)).drop (4 * k)).length = 4 := by simp; omega
  refine loopR (ι := Nat) (fun j => [(29, .g (.int (j : Int))), (4, .row 0)]) (fun _ => [.row ((insTo ws k).map Instr.g) 38 4]) (fun j => j ≤ 4 ∧ ∀ m, m < j → wordI (ws.getD (4 * k + m) 0)) (fun j => 4 - j)
    ⟨0, [.old 0], ⟨rfl, .inl rfl, .inr ⟨lk rfl, lk rfl, trivial⟩, rfl⟩, Nat.zero_le _, fun j h => absurd h (Nat.not_lt_zero j)⟩ ?_
  intro Rj hRj j ⟨hj, hw⟩
  refine ⟨fun h4 => ?_, fun h4 => ?_⟩
  · have h5 : j < 4 := by omega
    refine ⟨j, _, rfl, gWs (by omega) h3, ?_⟩
    refine callIs (.inl rfl) (Is_any _) ⟨fun h6 => ⟨rfl, err 2 (by decide) (bad 2 (by decide) ?_) _⟩, fun h6 => ⟨_, I64.wrap (by unfold I64; omega), ?_⟩⟩
    · unfold decF
      rw [if_pos]
      rintro ⟨b0, b1, b2, b3⟩
      have hc : j = 0 ∨ j = 1 ∨ j = 2 ∨ j = 3 := by omega
      rcases hc with rfl | rfl | rfl | rfl
      · exact h6 b0
      · exact h6 b1
      · exact h6 b2
      · exact h6 b3
    · refine hRj _ _ _ ⟨j + 1, [.old 0], ⟨rfl, .inl rfl, .inr ⟨lk rfl, lk rfl, trivial⟩, rfl⟩, ⟨h5, fun m hm => ?_⟩, by omega⟩
      by_cases hmj : m = j
      · subst hmj; exact h6
      · exact hw m (by omega)
  · have hj4 : j = 4 := by omega
    subst hj4
    have hF : decF ws k = instrE (insAt ws k) := by unfold decF; rw [if_neg (fun h' => h' ⟨hw 0 (by omega), hw 1 (by omega), hw 2 (by omega), hw 3 (by omega)⟩)]
    refine ⟨none, rfl, 4 * k + 0, _, rfl, gW (by omega), ?_⟩
    refine ⟨_, I64.wrap (by unfold I64; omega), 4 * k + 1, _, rfl, gW (by omega), ?_⟩
    refine ⟨_, I64.wrap (by unfold I64; omega), 4 * k + 2, _, rfl, gW (by omega), ?_⟩
    refine ⟨_, I64.wrap (by unfold I64; omega), 4 * k + 3, _, rfl, gW (by omega), ?_⟩
    refine callIs (.inl rfl) (Check_any (insAt ws k)) ⟨fun h6 => ⟨rfl, err _ h6 (bad _ h6 hF) _⟩, fun h6 => ?_⟩
    refine ⟨[Instr.g (insAt ws k)], rfl, rfl, ⟨rfl, rfl, rfl, rfl, trivial⟩, ?_⟩
    refine ⟨⟨by simp only [maxLen, List.length_cons, List.length_nil, List.length_map, insTo_len]; omega, by simp only [List.length_cons, List.length_nil, List.length_map, insTo_len]; omega⟩, ?_⟩
    refine ⟨_, I64.wrap (by unfold I64; omega), ?_⟩
    refine hRd _ _ _ ⟨k + 1, [.old 3], ⟨rfl, .inr ⟨⟨?_, rfl, rfl⟩, trivial⟩, .inr ⟨lk rfl, lk rfl, trivial⟩, rfl⟩, ⟨h3, fun m hm => ?_⟩, by omega⟩
    · rw [insTo_succ, List.map_append]; rfl
    · by_cases hmk : m = k
      · subst hmk; rw [hF]; exact h6
      · exact ha m (by omega)
end Go.Proofs.YthbdbjnakknbkaaDoor
