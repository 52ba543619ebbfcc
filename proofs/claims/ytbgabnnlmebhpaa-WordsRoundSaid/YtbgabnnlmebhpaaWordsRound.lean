/-
  What is added and taken away is as it was, and other laws of words: the law WordsRound returns true for every three numbers.
-/
import Derived.Test.YtbgabnnlmebhpaaJWordsRound
import Derived.Test.YtbgabnnlmebhpaaWd
import Derived.Test.YtbgabnnlmebhpaaRounds
namespace Go.Proofs.Ytbgabnnlmebhpaa
open Go Go.Dm Go.Eng Go.RowKit Go.ChangeShapes Go.WideShapes Go.ChangeAt Barb

def pickN (n many : Int) : Int := (if n < 0 then -(n + 1) else n) % many
theorem picked_any (n many : Int) (hn : I64 n) (hm : 0 < many) : CT Try.prog [] 47 [.g (.int n), .g (.int many)] (Is (.g (.int (pickN n many)))) := by
  refine enter hT hF hM Try.func47 rfl 13 rfl (by kernel_rfl) [.tmp 4] rfl [.g (.int n), .g (.int many)] rfl _ ?_
  unfold I64 at hn
  refine ⟨fun h => ?_, fun h => ?_⟩
  · refine ⟨_, I64.wrap (by unfold I64; omega), by unfold I64; omega, by omega, rfl, retI ?_⟩
    rw [Int.tmod_eq_emod_of_nonneg (by omega)]
    unfold pickN
    rw [if_pos h]
    congr 1
    omega
  · refine ⟨by omega, rfl, retI ?_⟩
    rw [Int.tmod_eq_emod_of_nonneg (by omega)]
    unfold pickN
    rw [if_neg h]
theorem pickN_nat (n : Int) {many : Nat} (hm : 0 < many) : ∃ k : Nat, pickN n many = (k : Int) ∧ k < many := by
  have h1 := Int.emod_nonneg (if n < 0 then -(n + 1) else n) (show ((many : Nat) : Int) ≠ 0 by omega)
  have h2 := Int.emod_lt_of_pos (if n < 0 then -(n + 1) else n) (show (0 : Int) < ((many : Nat) : Int) by omega)
  exact ⟨(pickN n many).toNat, by unfold pickN; omega, by unfold pickN; omega⟩
def doV (op a b : Int) : Int := if doE op a b = 0 then doI op a b else -1
theorem do_any (op a b : Int) : CT Try.prog [] 48 [.g (.int op), .g (.int a), .g (.int b)] (Is (.g (.int (doV op a b)))) := by
  refine enter hT hF hM Try.func48 rfl 19 rfl (by kernel_rfl) [.tmp 6] rfl [.g (.int op), .g (.int a), .g (.int b)] rfl _ ?_
  refine callIs (.inl rfl) (Do_any op a b) ?_
  refine ⟨fun h => ⟨rfl, retI (by unfold doV; rw [if_neg h])⟩, fun h => ⟨rfl, retI (by unfold doV; rw [if_pos h])⟩⟩
theorem doV_nat {k m n : Nat} (h1 : 1 ≤ k) (h2 : k ≤ 10) (hm : m ≤ 65535) (hn : n ≤ 65535) : doV (k : Int) (m : Int) (n : Int) = ((did k m n : Nat) : Int) := by
  obtain ⟨e1, e2⟩ := do_ok (op := (k : Int)) (a := (m : Int)) (b := (n : Int)) (by omega) rfl rfl hm hn rfl
  unfold doV
  rw [if_pos e2, e1]
theorem did_word {k m n : Nat} (h2 : k ≤ 10) (h0 : 1 ≤ k) (hm : m ≤ 65535) (hn : n ≤ 65535) : did k m n ≤ 65535 := by
  have h7 : (if m < n then 1 else 0) ≤ 65535 := by split <;> omega
  have h8 : (if m = n then 1 else 0) ≤ 65535 := by split <;> omega
  have h10 : m / 2 ^ (n % 16) ≤ 65535 := Nat.le_trans (Nat.div_le_self _ _) hm
  have h4 : m &&& n ≤ 65535 := Nat.le_trans Nat.and_le_left hm
  match k, h0, h2 with
  | 1, _, _ => simp only [did]; omega
  | 2, _, _ => simp only [did]; omega
  | 3, _, _ => simp only [did]; omega
  | 4, _, _ => exact h4
  | 5, _, _ => exact or_le hm hn
  | 6, _, _ => exact xor_le hm hn
  | 7, _, _ => exact h7
  | 8, _, _ => exact h8
  | 9, _, _ => simp only [did]; omega
  | 10, _, _ => exact h10

theorem do_word (k m n : Nat) (h1 : 1 ≤ k ∧ k ≤ 10) (hm : m ≤ 65535) (hn : n ≤ 65535) : CT Try.prog [] 48 [.g (.int (k : Int)), .g (.int (m : Int)), .g (.int (n : Int))] (Is (.g (.int ((did k m n : Nat) : Int)))) := by
  rw [← doV_nat h1.1 h1.2 hm hn]
  exact do_any _ _ _

theorem do_r {k m n : Nat} {r : Nat} (hr : did k m n = r) (h1 : 1 ≤ k ∧ k ≤ 10) (hm : m ≤ 65535) (hn : n ≤ 65535) : CT Try.prog [] 48 [.g (.int (k : Int)), .g (.int (m : Int)), .g (.int (n : Int))] (Is (.g (.int (r : Int)))) := by
  subst hr
  exact do_word k m n h1 hm hn
theorem do_big (x : Nat) : doV 1 (x : Int) 65536 = -1 := by
  have h : doE 1 (x : Int) 65536 = 2 := by
    unfold doE
    rw [if_neg (by decide), if_neg (by omega)]
  unfold doV
  rw [if_neg (by rw [h]; decide)]

set_option maxRecDepth 100000 in
set_option maxHeartbeats 1000000 in
theorem WordsRound_walk (a : Int) (ha : I64 a) (b : Int) (hb : I64 b) (c : Int) (hc : I64 c) : CT Try.prog [] 14 [.g (.int a), .g (.int b), .g (.int c)] (Is (.g (.bool true))) := by
  obtain ⟨x, ex, hx⟩ := pickN_nat a (many := 65536) (by decide)
  obtain ⟨y, ey, hy⟩ := pickN_nat b (many := 65536) (by decide)
  obtain ⟨k, ek, hk⟩ := pickN_nat c (many := 16) (by decide)
  have pa := picked_any a 65536 ha (by decide)
  rw [show pickN a 65536 = (x : Int) from ex] at pa
  have pb := picked_any b 65536 hb (by decide)
  rw [show pickN b 65536 = (y : Int) from ey] at pb
  have pc := picked_any c 16 hc (by decide)
  rw [show pickN c 16 = (k : Int) from ek] at pc
  clear ex ey ek ha hb hc
  have hx : x ≤ 65535 := by omega
  have hy : y ≤ 65535 := by omega
  have hk5 : k ≤ 65535 := by omega
  have f1 := add_sub hx hy
  have f2 := xor_xor x y
  have f3 := and_or hx hy
  have f4 := three x y
  have f5 := shl_mul x hk
  have f6 := shr_shl x hk
  have w1 : did 1 x y ≤ 65535 := did_word (by decide) (by decide) hx hy
  have w6 : did 6 x y ≤ 65535 := did_word (by decide) (by decide) hx hy
  have w4 : did 4 x y ≤ 65535 := did_word (by decide) (by decide) hx hy
  have w5 : did 5 x y ≤ 65535 := did_word (by decide) (by decide) hx hy
  have w9 : did 9 x k ≤ 65535 := did_word (by decide) (by decide) hx hk5
  have hp := pow_word hk
  have hq : 65535 / 2 ^ k ≤ 65535 := Nat.div_le_self _ _
  have hmin : min ((k : Nat) : Int).toNat 64 = k := by rw [Int.toNat_natCast]; omega
  have e1 : (1 : Int) * 2 ^ (min ((k : Nat) : Int).toNat 64) = ((2 ^ k : Nat) : Int) := by rw [hmin]; simp
  have e2 : (65535 : Int).fdiv (2 ^ (min ((k : Nat) : Int).toNat 64)) = ((65535 / 2 ^ k : Nat) : Int) := by
    rw [hmin, Int.fdiv_eq_ediv_of_nonneg _ (by exact_mod_cast Nat.zero_le _)]; simp
  have e3 := do_big x
  generalize 65535 / 2 ^ k = q at f6 hq e2
  generalize 2 ^ k = p at f5 hp e1
  generalize g1 : did 1 x y = r1 at f1 f3 w1
  generalize g6 : did 6 x y = r6 at f2 w6
  generalize g4 : did 4 x y = r4 at f3 w4
  generalize g5 : did 5 x y = r5 at f3 w5
  generalize g7 : did 7 x y = l1 at f4
  generalize g7' : did 7 y x = l2 at f4
  generalize g8 : did 8 x y = l3 at f4
  generalize g9 : did 9 x k = r9 at f5 f6 w9
  generalize gm : did 4 x q = r10 at f6
  have c5 : CT Try.prog [] 48 [.g (.int 3), .g (.int (x : Int)), .g (.int (1 * 2 ^ (min ((k : Nat) : Int).toNat 64)))] (Is (.g (.int (r9 : Int)))) := by
    rw [e1]; exact do_r f5.symm (by decide) hx (by omega)
  have c6 : CT Try.prog [] 48 [.g (.int 4), .g (.int (x : Int)), .g (.int ((65535 : Int).fdiv (2 ^ (min ((k : Nat) : Int).toNat 64))))] (Is (.g (.int (r10 : Int)))) := by
    rw [e2]; exact do_r gm (by decide) hx hq
  have hI : I64 (1 * 2 ^ (min ((k : Nat) : Int).toNat 64)) := by rw [e1]; unfold I64; omega
  have d5 := do_any 1 x 65536
  rw [e3] at d5
  refine enter hT hF hM Try.func14 rfl 104 rfl (by kernel_rfl) [.tmp 6] rfl [.g (.int a), .g (.int b), .g (.int c)] rfl _ ?_
  refine callIs (.inl rfl) pa ?_
  refine callIs (.inl rfl) pb ?_
  refine callIs (.inl rfl) pc ?_
  clear pa pb pc
  refine ⟨rfl, ?_⟩
  refine ⟨_, _, .inl rfl, do_r g1 (by decide) hx hy, rfl, ?_⟩
  refine ⟨_, _, .inl rfl, do_r f1 (by decide) w1 hy, rfl, ?_⟩
  refine ⟨fun _ => ?_, fun h => absurd rfl h⟩
  refine ⟨_, _, .inl rfl, do_r g6 (by decide) hx hy, rfl, ?_⟩
  refine ⟨_, _, .inl rfl, do_r f2 (by decide) w6 hy, rfl, ?_⟩
  refine ⟨fun _ => ?_, fun h => absurd rfl h⟩
  refine ⟨_, _, .inl rfl, do_r g4 (by decide) hx hy, rfl, ?_⟩
  refine ⟨_, _, .inl rfl, do_r g5 (by decide) hx hy, rfl, ?_⟩
  refine ⟨_, _, .inl rfl, do_r f3 (by decide) w4 w5, rfl, ?_⟩
  refine ⟨_, _, .inl rfl, do_r g1 (by decide) hx hy, rfl, ?_⟩
  refine ⟨fun _ => ?_, fun h => absurd rfl h⟩
  refine ⟨_, _, .inl rfl, do_r g7 (by decide) hx hy, rfl, ?_⟩
  refine ⟨_, _, .inl rfl, do_r g7' (by decide) hy hx, rfl, ?_⟩
  refine ⟨_, I64.wrap (by unfold I64; omega), ?_⟩
  refine ⟨_, _, .inl rfl, do_r g8 (by decide) hx hy, rfl, ?_⟩
  refine ⟨_, I64.wrap (by unfold I64; omega), ?_⟩
  refine ⟨fun _ => ?_, fun h => absurd (show (l1 : Int) + l2 + l3 = 1 by omega) h⟩
  refine ⟨_, _, .inl rfl, do_r g9 (by decide) hx hk5, rfl, ?_⟩
  refine ⟨by omega, hI, ?_⟩
  refine ⟨_, _, .inl rfl, c5, rfl, ?_⟩
  refine ⟨fun _ => ?_, fun h => absurd rfl h⟩
  refine ⟨_, _, .inl rfl, do_r g9 (by decide) hx hk5, rfl, ?_⟩
  refine ⟨_, _, .inl rfl, do_r f6 (by decide) w9 hk5, rfl, ?_⟩
  refine ⟨by omega, ?_⟩
  refine ⟨_, _, .inl rfl, c6, rfl, ?_⟩
  refine ⟨fun _ => ?_, fun h => absurd rfl h⟩
  refine ⟨_, _, .inl rfl, d5, rfl, ?_⟩
  exact ⟨rfl, retYes rfl⟩

set_option maxRecDepth 100000 in
theorem WordsRound_lifted (os : Os) (started : os.Started) (H : Type) (enc : TypeId × Value → H) :
    ReturnsInHanded {} Try.checked os 14 .any (Rows.wordsRoundSpec.pre6 enc Try.prog Try.f14 Rows.wordsRoundRow.domain false) (Rows.wordsRoundSpec.post enc Try.prog Try.f14 false true false false) := by
  refine handed (C := Try.checked) own started (by kernel_rfl) Try.func14
    (ChangeSpec.witness6 (enc := enc) (C := Try.checked) false ⟨#[], #[.int .i64 0, .int .i64 0, .int .i64 0], []⟩ 8 (by kernel_rfl) (by kernel_rfl) (by kernel_rfl) (by kernel_rfl)) ?_
  intro W base args ds gs before hval hwt hW
  refine law_contract plainS_ok laidOut rfl ?_ rfl Try.underlying4 (pars_ok (by kernel_rfl)) ?_ W base args ds gs before hval hwt hW
  · intro ds hds
    match ds, hds with
    | [d0, d1, d2], _ => rfl
  · intro W args hargs
    obtain ⟨v0, r0, rfl, h0, hargs⟩ := hargs.inv
    obtain ⟨v1, r1, rfl, h1, hargs⟩ := hargs.inv
    obtain ⟨v2, r2, rfl, h2, hargs⟩ := hargs.inv
    obtain rfl := hargs.inv0
    obtain ⟨x0, rfl, b0⟩ := h0.int Try.underlying3
    obtain ⟨x1, rfl, b1⟩ := h1.int Try.underlying3
    obtain ⟨x2, rfl, b2⟩ := h2.int Try.underlying3
    exact law_of_ct (WordsRound_walk x0 b0 x1 b1 x2 b2) (args_cons (arg_g (by simp only [RepV])) (args_cons (arg_g (by simp only [RepV])) (args_cons (arg_g (by simp only [RepV])) args_nil)))
/-- THE STATEMENT. -/
theorem WordsRound_said : Rows.WordsRoundSaid := WordsRound_over WordsRound_lifted
#print axioms WordsRound_said
end Go.Proofs.Ytbgabnnlmebhpaa
