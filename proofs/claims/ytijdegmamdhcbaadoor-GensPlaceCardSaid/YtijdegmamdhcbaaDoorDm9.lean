/-
  The second engine, ninth part: append, calls, and all operations at once. It holds of every program whose table of types is met.
-/
import Derived.Test.YtijdegmamdhcbaaDoorDm8
namespace Go.Dm
open Go Go.Eng Go.RowKit

section
variable {P : Program} {T : Tab} {F : FuncId → Bool} {C : Ctx} {st : St} {a : Act} {w : World} {β : Nat → Value} {V : Nat → Prop} {K : KD} {Qp : KD} {next : Value → World → Prop} {qp : List PanicEntry → World → Prop}

/-- What append takes its new cells from. -/
theorem srcD_rep {h : Heap} (hr : RelD C h β V w) {sz : Nat} {y : D} {v : Value} {news : List (List GV)} (hs : srcD h sz y = some news) (hy : RepD h β V w y v) (h0 : 0 < sz) :
    (news = [] ∧ v = .slice none 0 0) ∨ ∃ ad cap vs, v = .slice (some ad) news.length cap ∧ RepL V w news.flatten vs ∧ (∀ r ∈ news, r.length = sz) ∧ (vs.length = news.length * sz) ∧ ∀ i u, vs[i]? = some u → w.cell? (ad.add i) = some u := by
  unfold srcD at hs
  have rowc : ∀ (j : Nat) (ys : List (List GV)) (e sz' : Nat), h[j]? = some (.row ys e sz') → sz' = sz → ∀ (lo n : Nat), lo + n ≤ ys.length → ∀ v, SubS (β j) lo n sz v → (n = 0 ∧ v = .slice none 0 0) ∨
      ∃ ad cap vs, v = .slice (some ad) n cap ∧ RepL V w ((ys.drop lo).take n).flatten vs ∧ (∀ r ∈ (ys.drop lo).take n, r.length = sz) ∧ (vs.length = n * sz) ∧ ∀ i u, vs[i]? = some u → w.cell? (ad.add i) = some u := by
    intro j ys e sz' hj hsz lo n hln v hv
    subst hsz
    obtain ⟨A, m, cap, hb, rfl⟩ := hv
    obtain ⟨vs, hown, hvs, hxs, _⟩ := hr.obj j _ hj
    rcases hown.2 with ⟨hn, hl0⟩ | ⟨g, cap', cur, hbv, _, _, hnc, _⟩
    · rw [hn] at hb
      injection hb with e1 e2 e3
      subst e1; subst e3
      left
      have hlo : lo = 0 := by omega
      have hn0 : n = 0 := by omega
      subst hlo
      subst hn0
      exact ⟨rfl, by simp⟩
    · rw [hbv] at hb
      injection hb with e1 e2 e3
      subst e1; subst e3
      have hcells := hown.cells (g := g) (by rw [hbv]; rfl)
      right
      have hmem : ∀ r ∈ (ys.drop lo).take n, r.length = sz' := fun r hr => hxs r (List.mem_of_mem_drop (List.mem_of_mem_take hr))
      have hfl : ((ys.drop lo).take n).flatten = ((ys.flatten).drop (lo * sz')).take (n * sz') := by
        have k1 : ∀ (ys : List (List GV)) (lo : Nat), (∀ r ∈ ys, r.length = sz') → (ys.drop lo).flatten = ys.flatten.drop (lo * sz') := by
          intro ys
          induction ys with
          | nil => intro lo _; simp
          | cons y ys ih =>
            intro lo hy
            cases lo with
            | zero => simp
            | succ lo =>
              have hyl := hy y List.mem_cons_self
              have hd : y.drop ((lo + 1) * sz') = [] := List.drop_of_length_le (by rw [hyl, Nat.succ_mul]; omega)
              rw [List.drop_succ_cons, List.flatten_cons, List.drop_append, hd, hyl, Nat.succ_mul, Nat.add_sub_cancel, List.nil_append]
              exact ih lo (fun r hr => hy r (List.mem_cons_of_mem _ hr))
        have k2 : ∀ (ys : List (List GV)) (n : Nat), (∀ r ∈ ys, r.length = sz') → (ys.take n).flatten = ys.flatten.take (n * sz') := by
          intro ys
          induction ys with
          | nil => intro n _; simp
          | cons y ys ih =>
            intro n hy
            cases n with
            | zero => simp
            | succ n =>
              have hyl := hy y List.mem_cons_self
              have hd : y.take ((n + 1) * sz') = y := List.take_of_length_le (by rw [hyl, Nat.succ_mul]; omega)
              rw [List.take_succ_cons, List.flatten_cons, List.flatten_cons, List.take_append, hd, hyl, Nat.succ_mul, Nat.add_sub_cancel, ih n (fun r hr => hy r (List.mem_cons_of_mem _ hr))]
        rw [k2 _ _ (fun r hr => hxs r (List.mem_of_mem_drop hr)), k1 _ _ hxs]
      have hvl : vs.length = ys.length * sz' := hown.1
      have hls : lo * sz' + n * sz' ≤ ys.length * sz' := by rw [← Nat.add_mul]; exact Nat.mul_le_mul_right _ hln
      refine ⟨if cap' = lo then ⟨g, 0, none⟩ else ⟨g, lo * sz', none⟩, cap' - lo, (vs.drop (lo * sz')).take (n * sz'), ?_, by rw [hfl]; exact (hvs.drop _).take _, hmem, by rw [List.length_take, List.length_drop]; omega, fun i u hi => ?_⟩
      · by_cases hc : cap' = lo
        · simp [hc]
        · simp [hc, add_mk]
      · have hil : i < n * sz' := by have := (List.getElem?_eq_some_iff.1 hi).1; simp at this; omega
        have hne : cap' ≠ lo := by
          intro hc
          have : n = 0 := by omega
          subst this
          omega
        rw [if_neg hne, add_mk]
        rw [List.getElem?_take_of_lt hil, List.getElem?_drop] at hi
        have := hcells (lo * sz' + i) u hi
        rw [add_mk, Nat.zero_add] at this
        exact this
  split at hs
  · injection hs with hs
    subst hs
    simp only [RepD] at hy
    exact .inl ⟨rfl, hy⟩
  · rename_i k xs
    cases hb : Nat.beq k sz with
    | false => rw [hb] at hs; cases hs
    | true =>
      rw [hb] at hs
      simp at hs
      subst hs
      have := Nat.eq_of_beq_eq_true hb
      subst this
      simp only [RepD, RepV] at hy
      obtain ⟨A, cap, rfl, hc, ha⟩ := hy
      cases A with
      | none =>
        by_cases h1 : 0 < xs.length
        · obtain ⟨ad, h2, _⟩ := ha.1 h1; cases h2
        · have hx0 : xs = [] := List.eq_nil_of_length_eq_zero (by omega)
          subst hx0
          have := ha.2 rfl
          subst this
          exact .inl ⟨rfl, rfl⟩
      | some ad =>
        right
        by_cases h1 : 0 < xs.length
        · obtain ⟨ad', h2, hV, hall⟩ := ha.1 h1
          injection h2 with h2
          subst h2
          obtain ⟨vs, g1, g2, g3, g4⟩ := RepAll.flat xs 0 hall
          exact ⟨ad, cap, vs, rfl, g1, g3, g2, fun i u hi => by simpa using g4 i u hi⟩
        · have hx0 : xs = [] := List.eq_nil_of_length_eq_zero (by omega)
          subst hx0
          exact ⟨ad, cap, [], rfl, trivial, fun r hr => by simp at hr, by simp, fun i u hi => by simp at hi⟩
  · rename_i j
    split at hs
    · rename_i ys e sz' hj
      cases hb : Nat.beq sz' sz with
      | false => rw [hb] at hs; cases hs
      | true =>
        rw [hb] at hs
        simp at hs
        subst hs
        have := Nat.eq_of_beq_eq_true hb
        simp only [RepD, hj] at hy
        obtain ⟨vs, hown, _⟩ := hr.obj j _ hj
        have hsub : SubS (β j) 0 ys.length sz v := by
          rcases hown.2 with ⟨hn, hl0⟩ | ⟨g, cap', cur, hbv, _, _, hnc, _⟩
          · exact ⟨none, 0, 0, hn, by rw [hy, hn, hl0]; simp⟩
          · refine ⟨_, _, _, hbv, ?_⟩
            rw [hy, hbv]
            by_cases hc : cap' = 0
            · simp [hc]
            · simp [hc, Addr.add]
        rcases rowc j ys e sz' hj this 0 ys.length (by omega) v hsub with ⟨h1, h2⟩ | ⟨ad, cap, vs, h1, h2, h3, h4, h5⟩
        · exact .inl ⟨List.eq_nil_of_length_eq_zero h1, h2⟩
        · exact .inr ⟨ad, cap, vs, h1, by simpa using h2, by simpa using h3, h4, h5⟩
    · cases hs
  · rename_i j lo n
    split at hs
    · rename_i ys e sz' hj
      cases hb : Nat.beq sz' sz with
      | false => rw [hb] at hs; cases hs
      | true =>
        rw [hb] at hs
        simp at hs
        subst hs
        have := Nat.eq_of_beq_eq_true hb
        simp only [RepD, hj] at hy
        obtain ⟨hln, hsub⟩ := hy
        have hlen : ((ys.drop lo).take n).length = n := by simp; omega
        subst this
        rcases rowc j ys e sz' hj rfl lo n hln v hsub with ⟨h1, h2⟩ | ⟨ad, cap, vs, h1, h2, h3, h4, h5⟩
        · exact .inl ⟨List.eq_nil_of_length_eq_zero (by omega), h2⟩
        · exact .inr ⟨ad, cap, vs, by rw [hlen]; exact h1, h2, h3, by rw [hlen]; exact h4, h5⟩
    · cases hs
  · cases hs
end
end Go.Dm
