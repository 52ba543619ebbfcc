/-
  slices.Equal at lists that are the same; code that was written is read: the contracts and the plain laws.
-/
import Derived.Test.YthbdbjnakknbkaaDoorCb
import Derived.Test.YthbdbjnakknbkaaDoorEc
import Derived.Test.YthbdbjnakknbkaaDoorDc
import Derived.Test.YthbdbjnakknbkaaDoorCl
namespace Barb
open Go Go.Dm Go.Eng
theorem enc_get : ∀ (c : List Instr) (k : Nat) (h : k < c.length) (j : Nat), (encW c).getD (4 * k + j) 0 = (if j < 4 then (Instr.ws c[k]).getD j 0 else (encW c).getD (4 * k + j) 0)
  | [], k, h, _ => by simp at h
  | x :: c, 0, _, j => by
    by_cases hj : j < 4
    · rw [if_pos hj]
      match j, hj with
      | 0, _ => rfl
      | 1, _ => rfl
      | 2, _ => rfl
      | 3, _ => rfl
    · rw [if_neg hj]
  | x :: c, k + 1, h, j => by
    by_cases hj : j < 4
    · rw [if_pos hj]
      have ih := enc_get c k (by simpa using h) j
      rw [if_pos hj] at ih
      rw [show 4 * (k + 1) + j = (4 * k + j) + 4 from by omega]
      show ([x.op, x.a, x.b, x.c] ++ encW c).getD (4 * k + j + 4) 0 = _
      simp only [List.cons_append, List.nil_append, List.getD_cons_succ]
      rw [ih]
      rfl
    · rw [if_neg hj]
theorem enc_at {c : List Instr} {k : Nat} (h : k < c.length) {j : Nat} (hj : j < 4) : (encW c).getD (4 * k + j) 0 = (Instr.ws c[k]).getD j 0 := by
  rw [enc_get c k h j, if_pos hj]
theorem insAt_enc {c : List Instr} {k : Nat} (h : k < c.length) : insAt (encW c) k = c[k] := by
  unfold insAt
  rw [enc_at h (by decide), enc_at h (by decide), enc_at h (by decide), enc_at h (by decide)]
  rfl
theorem bd_hi (op : Int) : bdA op ≤ 65535 ∧ bdB op ≤ 65535 ∧ bdC op ≤ 65535 := by
  unfold bdA bdB bdC
  refine ⟨?_, ?_, ?_⟩ <;> (repeat' split) <;> omega
theorem instr_words {x : Instr} (h : instrE x = 0) : wordI x.op ∧ wordI x.a ∧ wordI x.b ∧ wordI x.c := by
  unfold instrE at h
  by_cases h1 : 1 ≤ x.op ∧ x.op ≤ 15
  · rw [if_neg (fun h' => h' h1)] at h
    by_cases h2 : instrBad x
    · rw [if_pos h2] at h; omega
    · unfold instrBad at h2
      obtain ⟨b1, b2, b3⟩ := bd_hi x.op
      unfold wordI
      refine ⟨by omega, ?_, ?_, ?_⟩ <;> omega
  · rw [if_pos h1] at h; omega
theorem encE_ok {c : List Instr} (h : okC c) (hl : c.length ≤ 122) : encE c = 0 := by
  unfold encE
  rw [if_neg (by omega)]
  exact firstE_zero h
theorem encL_ok {c : List Instr} (h : okC c) (hl : c.length ≤ 122) : encL c = encW c := by
  unfold encL
  rw [if_pos (encE_ok h hl)]
theorem decF_enc {c : List Instr} (h : okC c) {k : Nat} (hk : k < c.length) : decF (encW c) k = 0 := by
  have hz := h _ (List.getElem_mem hk)
  obtain ⟨w1, w2, w3, w4⟩ := instr_words hz
  unfold decF
  rw [insAt_enc hk, enc_at hk (by decide), enc_at hk (by decide), enc_at hk (by decide), enc_at hk (by decide)]
  rw [if_neg (fun h' => h' ⟨w1, w2, w3, w4⟩)]
  exact hz
theorem decE_enc {c : List Instr} (h : okC c) (hl : c.length ≤ 122) : decE (encW c) = 0 := by
  unfold decE
  have e := encW_len c
  rw [if_neg (by omega), if_neg (fun h' => h' (by omega))]
  exact firstN_all (fun k hk => decF_enc h (by omega))
theorem decL_enc {c : List Instr} (h : okC c) (hl : c.length ≤ 122) : decL (encW c) = c := by
  unfold decL
  rw [if_pos (decE_enc h hl)]
  have e : (encW c).length / 4 = c.length := by rw [encW_len]; omega
  rw [e]
  refine List.ext_getElem (insTo_len _ _) (fun i h1 h2 => ?_)
  simp only [insTo, List.getElem_map, List.getElem_range]
  exact insAt_enc h2
theorem decE_odd {c : List Instr} (hl : c.length ≤ 122) : decE (encW c ++ [1]) = 4 := by
  unfold decE
  have e := encW_len c
  rw [if_neg (by simp; omega), if_pos (by simp only [List.length_append, List.length_cons, List.length_nil]; omega)]
theorem decL_no {ws : List Int} {v : Int} (h : decE ws = v) (hv : v ≠ 0) : decL ws = [] := by
  unfold decL
  rw [if_neg (by rw [h]; exact hv)]
theorem decE_bad {c : List Instr} (h : okC c) (hl : c.length ≤ 122) {p q : Nat} (hp : p < c.length) (hq : q < 50) : decE ((encW c).set (4 * p) ((16 + q : Nat) : Int)) = 3 := by
  unfold decE
  have e := encW_len c
  rw [List.length_set, if_neg (by omega), if_neg (fun h' => h' (by omega))]
  have same : ∀ k j : Nat, j < 4 → ¬(k = p ∧ j = 0) → ((encW c).set (4 * p) ((16 + q : Nat) : Int)).getD (4 * k + j) 0 = (encW c).getD (4 * k + j) 0 := fun k j hj hn => by
    rw [List.getD_eq_getElem?_getD, List.getD_eq_getElem?_getD, List.getElem?_set_ne (by omega)]
  have hat : decF ((encW c).set (4 * p) ((16 + q : Nat) : Int)) p = 3 := by
    have h0 : ((encW c).set (4 * p) ((16 + q : Nat) : Int)).getD (4 * p + 0) 0 = ((16 + q : Nat) : Int) := by
      rw [List.getD_eq_getElem?_getD, Nat.add_zero, List.getElem?_set_self (by omega)]; rfl
    obtain ⟨w1, w2, w3, w4⟩ := instr_words (h _ (List.getElem_mem hp))
    unfold decF insAt
    rw [h0, same p 1 (by decide) (by omega), same p 2 (by decide) (by omega), same p 3 (by decide) (by omega), enc_at hp (by decide), enc_at hp (by decide), enc_at hp (by decide)]
    rw [if_neg (fun h' => h' ⟨by unfold wordI; omega, w2, w3, w4⟩)]
    unfold instrE
    exact if_pos (by dsimp only; omega)
  rw [firstN_at (i := p) (by omega) (fun k hk => ?_) (by rw [hat]; decide), hat]
  have := decF_enc h (show k < c.length by omega)
  unfold decF insAt at this ⊢
  rw [same k 0 (by decide) (by omega), same k 1 (by decide) (by omega), same k 2 (by decide) (by omega), same k 3 (by decide) (by omega)]
  exact this
end Barb
namespace Go.Proofs.YthbdbjnakknbkaaDoor
open Go Go.Dm Go.Eng Barb

theorem EqualI_any (l : List Barb.Instr) (hl : l.length ≤ 9223372036854775807) : CT Tryd.prog gl 17 [.g (.sl 4 (l.map Instr.g)), .g (.sl 4 (l.map Instr.g))] (Is (.g (.bool true))) := by
  have ll : (l.map Instr.g).length = l.length := by simp
  refine enter hT hF hM Tryd.func17 rfl 26 rfl (by kernel_rfl) [.tmp 4] rfl [.g (.sl 4 (l.map Instr.g)), .g (.sl 4 (l.map Instr.g))] rfl _ ?_
  refine ⟨fun h => absurd rfl h, fun _ => ?_⟩
  refine loopR (ι := Nat) (fun i => [(13, .g (.int (i : Int)))]) (fun _ => []) (fun i => i ≤ l.length) (fun i => l.length - i)
    ⟨0, [], ⟨rfl, .inl rfl, .inr ⟨lk rfl, trivial⟩, rfl⟩, Nat.zero_le _⟩ ?_
  intro Rd hRd i hi
  refine ⟨fun h1 => ?_, fun h1 => ⟨rfl, retIs (.inl rfl)⟩⟩
  have h2 : i < l.length := by omega
  refine ⟨none, rfl, i, _, rfl, gm h2, i, _, rfl, gm h2, ?_⟩
  refine ⟨stEq_Instr, ?_⟩
  refine ⟨fun h => absurd ⟨rfl, rfl, rfl, rfl, trivial⟩ h, fun _ => ⟨_, I64.wrap (by unfold I64; omega), ?_⟩⟩
  exact hRd _ _ _ ⟨i + 1, [], ⟨rfl, .inl rfl, .inr ⟨lk rfl, trivial⟩, rfl⟩, h2, by omega⟩
theorem EqualN_any (l : List Int) (hl : l.length ≤ 9223372036854775807) : CT Tryd.prog gl 21 [.g (.sl 1 (l.map intG)), .g (.sl 1 (l.map intG))] (Is (.g (.bool true))) := by
  have ll : (l.map intG).length = l.length := by simp
  refine enter hT hF hM Tryd.func21 rfl 26 rfl (by kernel_rfl) [.tmp 4] rfl [.g (.sl 1 (l.map intG)), .g (.sl 1 (l.map intG))] rfl _ ?_
  refine ⟨fun h => absurd rfl h, fun _ => ?_⟩
  refine loopR (ι := Nat) (fun i => [(13, .g (.int (i : Int)))]) (fun _ => []) (fun i => i ≤ l.length) (fun i => l.length - i)
    ⟨0, [], ⟨rfl, .inl rfl, .inr ⟨lk rfl, trivial⟩, rfl⟩, Nat.zero_le _⟩ ?_
  intro Rd hRd i hi
  refine ⟨fun h1 => ?_, fun h1 => ⟨rfl, retIs (.inl rfl)⟩⟩
  have h2 : i < l.length := by omega
  refine ⟨none, rfl, i, _, rfl, gm h2, i, _, rfl, gm h2, ?_⟩
  refine ⟨fun h => absurd rfl h, fun _ => ⟨_, I64.wrap (by unfold I64; omega), ?_⟩⟩
  exact hRd _ _ _ ⟨i + 1, [], ⟨rfl, .inl rfl, .inr ⟨lk rfl, trivial⟩, rfl⟩, h2, by omega⟩
end Go.Proofs.YthbdbjnakknbkaaDoor
