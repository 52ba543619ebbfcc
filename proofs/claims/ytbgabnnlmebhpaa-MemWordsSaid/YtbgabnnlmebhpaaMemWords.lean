/-
  mem.Words answers what P3.2 says: the law MemWords returns true for every image.
-/
import Derived.Test.YtbgabnnlmebhpaaJMemWords
import Derived.Test.YtbgabnnlmebhpaaSeat
import Derived.Test.YtbgabnnlmebhpaaDec
namespace Go.Proofs.Ytbgabnnlmebhpaa
open Go.Eng Go.RowKit Go.ChangeShapes Go.WideShapes Go.ChangeAt Barb

/-- The words that an image has. -/
def wordsOf (m : List Part) : Int := (m.getLast?.map Part.hi).getD 0

theorem Words_any (m : List Part) (v : Value) (w : World) (hR : RepV (fun k => k < w.heap.size) w (.sl 4 (m.map Part.g)) v) (hlen : m.length ≤ maxLen) :
    Calls Try.prog 26 #[.agg #[v]] w (Ret w (.int .i64 (wordsOf m))) := by
  obtain ⟨A, cap, rfl, hcap⟩ := hR.shape
  have hR' : RepV (fun k => k < w.heap.size ∧ ¬False) w (.sl 4 (m.map Part.g)) (.slice A (m.map Part.g).length cap) := hR.move (fun k hk => ⟨⟨hk, fun h => h⟩, rfl⟩) _ _
  refine enter hT hF Try.func26 rfl 16 rfl (by kernel_rfl) [.tmp 2] rfl [.agg #[.slice A (m.map Part.g).length cap]] (by simp) (fun _ => False) _ _ ?_
  intro b hb
  refine ⟨fun h1 => ?_, fun h1 => ?_⟩
  · refine ⟨rfl, fun w' hw => ⟨?_, hw.fr⟩⟩
    have h2 : m = [] := by simpa using h1
    rw [h2]; rfl
  · have h2 : m.length ≠ 0 := by simpa using h1
    simp only [maxLen] at hlen
    refine ⟨_, isI64.of (by simp; omega) (by simp; omega), ?_⟩
    have hlt : m.length - 1 < m.length := by omega
    have hg : (m.map Part.g)[m.length - 1]? = some (m[m.length - 1].g) := by simp [List.getElem?_eq_getElem hlt]
    obtain ⟨a, vs, rfl, hL, _, hld⟩ := hR'.at_ hg
    match vs, hL with
    | [v0, v1, v2, v3], hL =>
      have h3 : v3 = .int .i64 m[m.length - 1].hi := hL.2.2.2.1
      refine ⟨a, m.length - 1, rfl, ?_, by simp; omega, ?_⟩
      · show SV.v (Value.int .i64 (((List.map Part.g m).length : Int) - 1)) = _
        congr 2; simp; omega
      refine ⟨v3, hld _ _ 3 v3 rfl, ?_⟩
      subst h3
      refine ⟨rfl, fun w' hw => ⟨?_, hw.fr⟩⟩
      have : wordsOf m = m[m.length - 1].hi := by
        unfold wordsOf
        rw [List.getLast?_eq_getElem?, List.getElem?_eq_getElem hlt]; rfl
      rw [this]; rfl

theorem WordsOf_any (m : List Part) (v : Value) (w : World) (hR : RepV (fun k => k < w.heap.size) w (.sl 4 (m.map Part.g)) v) (hlen : m.length ≤ maxLen) :
    Calls Try.prog 27 #[.agg #[v]] w (Ret w (.int .i64 (wordsOf m))) := by
  obtain ⟨A, cap, rfl, hcap⟩ := hR.shape
  have hR' : RepV (fun k => k < w.heap.size ∧ ¬False) w (.sl 4 (m.map Part.g)) (.slice A (m.map Part.g).length cap) := hR.move (fun k hk => ⟨⟨hk, fun h => h⟩, rfl⟩) _ _
  refine enter hT hF Try.func27 rfl 19 rfl (by kernel_rfl) [.tmp 2] rfl [.agg #[.slice A (m.map Part.g).length cap]] (by simp) (fun _ => False) _ _ ?_
  intro b hb
  have hlen' := hlen
  simp only [maxLen] at hlen'
  refine loopR (fun k => Nat.ble 3 k && Nat.ble k 17) rfl (ι := Nat) (fun i => [(3, .v (.int .i64 (wordsOf (m.take i)))), (4, .v (.int .i64 (i : Int)))])
    (fun _ => [⟨b, [.slice A (m.map Part.g).length cap], 29⟩]) (fun _ => [])
    (fun i A' => RepV A'.V A'.w (.sl 4 (m.map Part.g)) (.slice A (m.map Part.g).length cap) ∧ i ≤ m.length) (fun i => m.length - i) ?_ (fun _ => rfl)
    ⟨0, rfl, fun w' hw => ⟨hw.self, hR'.move (hw.moved (fun k hk => hk)) _ _, Nat.zero_le _⟩⟩ ?_
  · intro i p hp
    simp only [List.mem_cons, List.not_mem_nil, or_false] at hp
    rcases hp with rfl | rfl <;> exact ⟨rfl, trivial⟩
  · intro Rd hRd i e w1 hI
    obtain ⟨hI, hle⟩ := hI
    refine ⟨fun h1 => ?_, fun h1 => ?_⟩
    · have h2 : i < m.length := by simpa using h1
      have hg : (m.map Part.g)[i]? = some (m[i].g) := by simp [List.getElem?_eq_getElem h2]
      obtain ⟨a, vs, rfl, hL, _, hld⟩ := hI.at_ hg
      match vs, hL with
      | [v0, v1, v2, v3], hL =>
        have h3 : v3 = .int .i64 m[i].hi := hL.2.2.2.1
        subst h3
        refine ⟨a, i, rfl, rfl, by simpa using h2, ?_⟩
        refine ⟨_, hld _ _ 3 _ rfl, ?_⟩
        refine ⟨_, isI64.of (by omega) (by omega), ?_⟩
        have hw : wordsOf (m.take (i + 1)) = m[i].hi := by
          unfold wordsOf
          have : m.take (i + 1) = m.take i ++ [m[i]] := by rw [List.take_add_one, List.getElem?_eq_getElem h2]; rfl
          rw [this, List.getLast?_append]; rfl
        refine hRd i _ _ _ _ ⟨i + 1, ?_, ⟨[], [], rfl, rfl⟩, fun w2 hw1 hw2 => ⟨hI.move (hw2.moved (fun k hk => hk)) _ _, h2⟩, by omega⟩
        rw [hw]; rfl
    · have h2 : i = m.length := by
        have : ¬ i < m.length := by simpa using h1
        omega
      subst h2
      refine ⟨rfl, fun w' hw => ⟨?_, hw.fr⟩⟩
      rw [List.take_length]; rfl

/-- THE WALK OF THE LAW. -/
theorem MemWords_walk (m : List Part) (v : Value) (w : World) (hR : RepV (fun k => k < w.heap.size) w (.sl 4 (m.map Part.g)) v) (hlen : m.length ≤ maxLen) :
    Calls Try.prog 5 #[.agg #[v]] w (Ret w (.bool true)) := by
  have hh := hR
  obtain ⟨A, cap, rfl, hcap⟩ := hR.shape
  refine enter hT hF Try.func5 rfl 12 rfl (by kernel_rfl) [.tmp 2] rfl [.agg #[.slice A (m.map Part.g).length cap]] (by simp) (fun _ => False) _ _ ?_
  intro b hb
  intro w1 hw1
  have m1 := hh.move (V' := fun k => k < w1.heap.size) (fun k hk => ⟨(hw1.movedw k ⟨hk, fun h => h⟩).1, (hw1.movedw k ⟨hk, fun h => h⟩).2⟩)
  refine call_ret hw1 (Words_any m _ w1 m1 hlen) ?_
  intro w2 hw2
  have m2 := hh.move (V' := fun k => k < w2.heap.size) (fun k hk => ⟨(hw2.movedw k ⟨hk, fun h => h⟩).1, (hw2.movedw k ⟨hk, fun h => h⟩).2⟩)
  refine call_ret hw2 (WordsOf_any m _ w2 m2 hlen) ?_
  exact ⟨rfl, fun w' hw => ⟨by simp [oneOr, SV.val, SV.of, Env.set], hw.fr⟩⟩

set_option maxRecDepth 100000 in
theorem MemWords_lifted (os : Os) (started : os.Started) (H : Type) (enc : TypeId × Value → H) :
    ReturnsInHanded {} Try.checked os 5 .any (Rows.memWordsSpec.pre6 enc Try.prog Try.f5 Rows.memWordsRow.domain false) (Rows.memWordsSpec.post enc Try.prog Try.f5 false true false false) := by
  refine returnsInHanded_of_change (C := Try.checked) own started (by kernel_rfl) Try.func5
    (ChangeSpec.witness6 (enc := enc) (C := Try.checked) false ⟨#[], #[.agg #[.slice none 0 0]], []⟩ 8 (by kernel_rfl) (by kernel_rfl) (by kernel_rfl) (by kernel_rfl)) ?_
  intro W base args ds gs before hval hW _ _
  refine law_contract plainS_ok laidOut rfl ?_ rfl Try.underlying4 (pars_ok (by kernel_rfl)) ?_ W base args ds gs before hval hW
  · intro ds hds
    match ds, hds with
    | [d0], _ => rfl
  · intro W args hargs
    obtain ⟨v0, r0, rfl, h0, hargs⟩ := hargs.inv
    obtain rfl := hargs.inv0
    obtain ⟨f, gs, cs, rfl, hT, hL⟩ := h0.struct Try.underlying29
    obtain ⟨m, rfl, _, hm⟩ := dec_Image hT
    match cs, hL with
    | [v], hL => exact MemWords_walk m v W hL.1 hm

/-- THE STATEMENT. -/
theorem MemWords_said : Rows.MemWordsSaid := MemWords_over MemWords_lifted
#print axioms MemWords_said
end Go.Proofs.Ytbgabnnlmebhpaa
