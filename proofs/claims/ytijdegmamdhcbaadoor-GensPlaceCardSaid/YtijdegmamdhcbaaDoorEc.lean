/-
  code.Encode and what the document says of it: the contracts.
-/
import Derived.Test.YtijdegmamdhcbaaDoorCk
import Derived.Test.YtijdegmamdhcbaaDoorSi
namespace Barb
open Go Go.Dm Go.Eng
def Instr.ws (x : Instr) : List Int := [x.op, x.a, x.b, x.c]
def encW (l : List Instr) : List Int := l.flatMap Instr.ws
theorem encW_len : ∀ l : List Instr, (encW l).length = 4 * l.length
  | [] => rfl
  | x :: l => by
    have := encW_len l
    simp only [encW, List.flatMap_cons, List.length_append, List.length_cons] at this ⊢
    rw [this]
    simp only [Instr.ws, List.length_cons, List.length_nil]
    omega
theorem encW_succ {l : List Instr} {i : Nat} (h : i < l.length) : encW (l.take (i + 1)) = encW (l.take i) ++ Instr.ws l[i] := by
  unfold encW; rw [take_one h, List.flatMap_append]; simp
def encE (l : List Instr) : Int := if 1200 < l.length then 1 else firstE instrE l
def encL (l : List Instr) : List Int := if encE l = 0 then encW l else []
end Barb
namespace Go.Proofs.YtijdegmamdhcbaaDoor
open Go Go.Dm Go.Eng Barb

set_option maxRecDepth 20000 in
theorem Encode_any (l : List Barb.Instr) : CT Tryd.prog gl 27 [.g (.sl 4 (l.map Instr.g))] (Is (.tuple [.g (.sl 1 ((encL l).map intG)), .g (.int (encE l))])) := by
  have ll : (l.map Instr.g).length = l.length := by simp
  refine enter hT hF hM Tryd.func27 rfl 39 rfl (by kernel_rfl) [.tmp 2, .tmp 3] rfl [.g (.sl 4 (l.map Instr.g))] rfl _ ?_
  have err : ∀ e : Int, e ≠ 0 → encE l = e → ∀ h : Heap, RetTo (Is (.tuple [.g (.sl 1 ((encL l).map intG)), .g (.int (encE l))])) h (.tuple [.nils, .g (.int e)]) :=
    fun e h0 he h => retNE he.symm (by unfold encL; rw [if_neg (by rw [he]; exact h0)]; rfl)
  refine ⟨fun h => ⟨rfl, err 1 (by decide) (by unfold encE; rw [if_pos (by omega)]) _⟩, fun h => ?_⟩
  have e : encE l = firstE instrE l := by unfold encE; rw [if_neg (by omega)]
  refine ⟨by unfold I64; omega, 0, 4 * l.length, [.int 0], rfl, (show D.g (.int (4 * ((l.map Instr.g).length : Int))) = D.g (.int ((4 * l.length : Nat) : Int)) by rw [ll]; simp), Nat.zero_le _, (show 8 * (4 * l.length) ≤ 140737488355328 by omega), by simp only [maxLen]; omega, ⟨rfl, trivial⟩, ?_⟩
  refine loopR (ι := Nat) (fun i => [(17, .g (.int (i : Int))), (4, .row 0)]) (fun i => [.row ((encW (l.take i)).map intG) 3 1]) (fun i => i ≤ l.length ∧ ∀ j (hj : j < l.length), j < i → instrE l[j] = 0) (fun i => l.length - i)
    ⟨0, [.old 0], ⟨rfl, .inl rfl, .inr ⟨lk rfl, lk rfl, trivial⟩, rfl⟩, Nat.zero_le _, none0⟩ ?_
  intro Rd hRd i ⟨hi, ha⟩
  refine ⟨fun h1 => ?_, fun h1 => ?_⟩
  · have h2 : i < l.length := by omega
    refine ⟨i, _, rfl, gm h2, ?_⟩
    refine callIs (.inl rfl) (Check_any l[i]) ?_
    refine ⟨fun h3 => ⟨rfl, err _ h3 (by rw [e, firstE_at h2 ha h3]) _⟩, fun h3 => ?_⟩
    refine ⟨[[.int l[i].op], [.int l[i].a], [.int l[i].b], [.int l[i].c]], rfl, rfl, ⟨rfl, rfl, rfl, rfl, trivial⟩, ?_⟩
    have hlen : ((encW (l.take i)).map intG).length ≤ 4800 := by
      rw [List.length_map, encW_len, List.length_take]; omega
    refine ⟨⟨by simp only [maxLen, List.length_cons, List.length_nil]; omega, by simp only [List.length_cons, List.length_nil]; omega⟩, ?_⟩
    refine ⟨_, I64.wrap (by unfold I64; omega), ?_⟩
    refine hRd _ _ _ ⟨i + 1, [.old 3], ⟨rfl, .inr ⟨⟨?_, rfl, rfl⟩, trivial⟩, .inr ⟨lk rfl, lk rfl, trivial⟩, rfl⟩, ⟨h2, firstE_step h2 ha h3⟩, by omega⟩
    rw [encW_succ h2, List.map_append]; rfl
  · have hz : encE l = 0 := by rw [e, firstE_end (by omega) ha]
    have hil : i = l.length := by omega
    refine ⟨rfl, retRE rfl hz.symm ?_⟩
    unfold encL
    rw [if_pos hz, hil, List.take_length]
theorem encL_len (l : List Barb.Instr) (h : l.length ≤ 9223372036854775807) : (encL l).length ≤ 4800 := by
  unfold encL
  by_cases hz : encE l = 0
  · rw [if_pos hz, encW_len]
    unfold encE at hz
    by_cases h1 : 1200 < l.length
    · rw [if_pos h1] at hz; omega
    · omega
  · rw [if_neg hz]; simp
end Go.Proofs.YtijdegmamdhcbaaDoor
