/-
  Laws of words' operations, as numbers: what is added and taken away is as it was, and others. No program in sight.
-/
import Derived.Test.YtbgabnnlmebhpaaBits
namespace Barb
open Go Go.Eng Go.Dm Go.RowKit

theorem add_sub {x y : Nat} (hx : x ≤ 65535) (hy : y ≤ 65535) : did 2 (did 1 x y) y = x := by simp only [did]; omega
theorem xor_xor (x y : Nat) : did 6 (did 6 x y) y = x := by
  simp only [did]
  rw [Nat.xor_assoc, Nat.xor_self, Nat.xor_zero]
theorem and_or_bits (x y k : Nat) : (x &&& y) % 2 ^ k + (x ||| y) % 2 ^ k = x % 2 ^ k + y % 2 ^ k := by
  induction k with
  | zero => simp [Nat.mod_one]
  | succ k ih =>
    have ha := did_bit (op := 4) (m := x) (n := y) (k := k) (.inl rfl)
    have ho := did_bit (op := 5) (m := x) (n := y) (k := k) (.inr (.inl rfl))
    have ea : did (4 : Int).toNat x y = x &&& y := rfl
    have eo : did (5 : Int).toNat x y = x ||| y := rfl
    rw [ea] at ha
    rw [eo] at ho
    unfold bitC at ha ho
    have h1 := Nat.mod_lt (half (x &&& y) k) (show 0 < 2 by decide)
    have h2 := Nat.mod_lt (half (x ||| y) k) (show 0 < 2 by decide)
    have h3 := Nat.mod_lt (half x k) (show 0 < 2 by decide)
    have h4 := Nat.mod_lt (half y k) (show 0 < 2 by decide)
    have s1 : (x &&& y) % 2 ^ (k + 1) = (x &&& y) % 2 ^ k + 2 ^ k * (half (x &&& y) k % 2) := Nat.mod_pow_succ
    have s2 : (x ||| y) % 2 ^ (k + 1) = (x ||| y) % 2 ^ k + 2 ^ k * (half (x ||| y) k % 2) := Nat.mod_pow_succ
    have s3 : x % 2 ^ (k + 1) = x % 2 ^ k + 2 ^ k * (half x k % 2) := Nat.mod_pow_succ
    have s4 : y % 2 ^ (k + 1) = y % 2 ^ k + 2 ^ k * (half y k % 2) := Nat.mod_pow_succ
    have hs : half (x &&& y) k % 2 + half (x ||| y) k % 2 = half x k % 2 + half y k % 2 := by
      generalize half (x &&& y) k % 2 = a at ha h1
      generalize half (x ||| y) k % 2 = b at ho h2
      generalize half x k % 2 = c at ha ho h3
      generalize half y k % 2 = d at ha ho h4
      omega
    have hm : 2 ^ k * (half (x &&& y) k % 2) + 2 ^ k * (half (x ||| y) k % 2) = 2 ^ k * (half x k % 2) + 2 ^ k * (half y k % 2) := by
      rw [← Nat.mul_add, ← Nat.mul_add, hs]
    rw [s1, s2, s3, s4]
    omega
theorem and_or {x y : Nat} (hx : x ≤ 65535) (hy : y ≤ 65535) : did 1 (did 4 x y) (did 5 x y) = did 1 x y := by
  have h := and_or_bits x y 16
  have h1 : x &&& y ≤ 65535 := Nat.le_trans Nat.and_le_left hx
  have h2 := or_le hx hy
  simp only [did]
  omega
theorem three (x y : Nat) : did 7 x y + did 7 y x + did 8 x y = 1 := by
  simp only [did]
  by_cases h1 : x < y
  · rw [if_pos h1, if_neg (by omega), if_neg (by omega)]
  · by_cases h2 : y < x
    · rw [if_neg h1, if_pos h2, if_neg (by omega)]
    · rw [if_neg h1, if_neg h2, if_pos (by omega)]
theorem shl_mul (x : Nat) {k : Nat} (hk : k < 16) : did 9 x k = did 3 x (2 ^ k) := by simp only [did, Nat.mod_eq_of_lt hk]
theorem shr_shl (x : Nat) {k : Nat} (hk : k < 16) : did 10 (did 9 x k) k = did 4 x (65535 / 2 ^ k) := by
  have e : (65536 : Nat) = 2 ^ (16 - k) * 2 ^ k := by rw [← Nat.pow_add, Nat.sub_add_cancel (by omega)]
  have p : 0 < 2 ^ k := Nat.two_pow_pos k
  have q : 0 < 2 ^ (16 - k) := Nat.two_pow_pos _
  have f : 65535 / 2 ^ k = 2 ^ (16 - k) - 1 := by
    have : 65535 = (2 ^ (16 - k) - 1) * 2 ^ k + (2 ^ k - 1) := by
      rw [Nat.sub_mul, ← e]
      have : 2 ^ k ≤ 65536 := by rw [e]; exact Nat.le_mul_of_pos_left _ q
      omega
    rw [this, Nat.mul_comm, Nat.mul_add_div p, Nat.div_eq_of_lt (by omega), Nat.add_zero]
  simp only [did, Nat.mod_eq_of_lt hk]
  rw [f, Nat.and_two_pow_sub_one_eq_mod, e, Nat.mul_mod_mul_right, Nat.mul_div_cancel _ p]
theorem pow_word {k : Nat} (hk : k < 16) : 2 ^ k ≤ 32768 := Nat.le_trans (Nat.pow_le_pow_right (by decide) (show k ≤ 15 by omega)) (by decide)
end Barb
