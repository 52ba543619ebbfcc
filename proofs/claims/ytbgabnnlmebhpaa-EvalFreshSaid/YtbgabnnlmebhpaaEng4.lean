/-
  The engine, fourth part: what is asked of an operation suffices for its run. It holds of every program whose table of types is met.
-/
import Derived.Test.YtbgabnnlmebhpaaEng3
namespace Go.Eng
open Go.RowKit

theorem length_repL (z : List Value) : ∀ n, (repL z n).length = n * z.length := by
  intro n
  induction n with
  | zero => simp [repL]
  | succ n ih => simp [repL, ih, Nat.succ_mul, Nat.add_comm]

theorem getElem_repL (z : List Value) (_hz : 0 < z.length) : ∀ (n j : Nat), j < n * z.length → (repL z n)[j]? = z[j % z.length]? := by
  intro n
  induction n with
  | zero => intro j h; simp at h
  | succ n ih =>
    intro j h
    rw [repL]
    by_cases hj : j < z.length
    · rw [List.getElem?_append_left hj, Nat.mod_eq_of_lt hj]
    · rw [List.getElem?_append_right (by omega), ih (j - z.length) (by rw [Nat.succ_mul] at h; omega), ← Nat.mod_eq_sub_mod (by omega)]

theorem made_repL (z : List Value) (hz : 0 < z.length) (n : Nat) : (Array.range (n * z.length)).map (fun i => z.toArray[i % z.toArray.size]!) = (repL z n).toArray := by
  apply Array.ext'
  apply List.ext_getElem?
  intro j
  by_cases hj : j < n * z.length
  · show _ = (repL z n)[j]?
    rw [getElem_repL z hz n j hj]
    have hm : j % z.length < z.length := Nat.mod_lt _ hz
    simp [hj, hm]
  · have h1 : (repL z n)[j]? = none := List.getElem?_eq_none (by rw [length_repL]; omega)
    simp [h1]
    omega

theorem fillO_length (place : Nat → Option (Nat × Nat)) : ∀ (parts : List (Nat × List Value)) (cs out : List Value), fillO place cs parts = some out → out.length = cs.length := by
  intro parts
  induction parts with
  | nil => intro cs out h; simp [fillO] at h; subst h; rfl
  | cons p rest ih =>
    intro cs out h
    obtain ⟨k, v⟩ := p
    simp only [fillO] at h
    cases hp : place k with
    | none => rw [hp] at h; cases h
    | some q =>
      obtain ⟨off, size⟩ := q
      rw [hp] at h
      simp only at h
      cases hb : Nat.beq v.length size && Nat.ble (off + size) cs.length with
      | false => rw [hb] at h; cases h
      | true => rw [hb] at h; rw [ih _ _ h, length_setAt]

section
variable {C : Ctx} {hp : List LB} {rows : List Row} {A : Anch} {w w' : World}

theorem row_split {i : Nat} {r : Row} (h : rows[i]? = some r) : rows = rows.take i ++ [r] ++ rows.drop (i + 1) := by
  obtain ⟨hl, he⟩ := List.getElem?_eq_some_iff.1 h
  have := List.take_append_drop i rows
  rw [List.drop_eq_getElem_cons hl, he] at this
  simpa using this.symm

theorem nums_mid (hp : List LB) (a c : List Row) (r : Row) : (nums hp (a ++ [r] ++ c)).Perm ((match r.v.ownBlock with | some k => [k] | none => []) ++ nums hp (a ++ c)) := by
  unfold nums
  cases hr : r.v.ownBlock with
  | none => simp [List.filterMap_append, hr]
  | some k =>
    simp only [List.filterMap_append, List.filterMap_cons, hr, List.append_assoc, List.cons_append, List.nil_append]
    rw [← List.append_assoc, ← List.append_assoc]
    exact List.perm_middle

theorem RelW.grow (h : RelW C hp rows A w) {i : Nat} {x v' : Value} {e : TypeId} {sz n : Nat} {xs : List Value}
    (hx : (∃ r, rows[i]? = some r ∧ r.v = x) ∨ (i = rows.length ∧ x = .slice none 0 0)) (own' : w'.ownsRow 0 e sz v' n xs) (hg : w.grownBy w' x.ownBlock)
    (hb : v'.ownBlock = x.ownBlock ∨ v'.ownBlock = some w.heap.size) :
    RelW C hp (rows.take i ++ [{ v := v', n := n, xs := xs, e := e, sz := sz }] ++ rows.drop (i + 1)) A w' := by
  have hil : i ≤ rows.length := by
    rcases hx with ⟨r, hr, _⟩ | ⟨hi, _⟩
    · have := (List.getElem?_eq_some_iff.1 hr).1; omega
    · omega
  have hold : ∀ k, x.ownBlock = some k → ∃ r, rows[i]? = some r ∧ r.v.ownBlock = some k := by
    intro k hk
    rcases hx with ⟨r, hr, rfl⟩ | ⟨_, rfl⟩
    · exact ⟨r, hr, hk⟩
    · simp [Value.ownBlock] at hk
  have hsub : ∀ k, k ∈ nums hp (rows.take i ++ rows.drop (i + 1)) → k ∈ nums hp rows := by
    intro k hk
    unfold nums at hk ⊢
    simp only [List.filterMap_append, List.mem_append] at hk ⊢
    rcases hk with hk | hk | hk
    · exact .inl hk
    · obtain ⟨r, hr, hk⟩ := List.mem_filterMap.1 hk
      exact .inr (List.mem_filterMap.2 ⟨r, List.mem_of_mem_take hr, hk⟩)
    · obtain ⟨r, hr, hk⟩ := List.mem_filterMap.1 hk
      exact .inr (List.mem_filterMap.2 ⟨r, List.mem_of_mem_drop hr, hk⟩)
  have hrest : (nums hp (rows.take i ++ rows.drop (i + 1))).Nodup ∧ ∀ k, x.ownBlock = some k → k ∉ nums hp (rows.take i ++ rows.drop (i + 1)) := by
    rcases hx with ⟨r, hr, rfl⟩ | ⟨hi, rfl⟩
    · have hn := h.nodup
      rw [row_split hr] at hn
      have hn := (nums_mid hp _ _ r).nodup_iff.1 hn
      refine ⟨(List.nodup_append.1 hn).2.1, fun k hk hm => ?_⟩
      rw [hk] at hn
      exact (List.nodup_cons.1 hn).1 hm
    · refine ⟨?_, fun k hk => by simp [Value.ownBlock] at hk⟩
      subst hi
      rw [List.take_of_length_le (Nat.le_refl _), List.drop_of_length_le (by omega), List.append_nil]
      exact h.nodup
  refine h.step (G := fun k => some k = x.ownBlock) ⟨hg.os, hg.tape, hg.output, hg.size, fun k hk hn => hg.block k hk hn⟩ (fun k hk _ => ?_) ?_ ?_ ?_ ?_
  · obtain ⟨r, hr, hk⟩ := hold k hk.symm
    exact mem_nums_row hr hk
  · intro j y hj
    rw [hg.block y.b (h.lt _ (mem_nums_hp hj)) (fun e => by obtain ⟨r, hr, hk⟩ := hold _ e.symm; exact nodup_sep_hp_row h hj hr hk)]
    exact h.blk j y hj
  · have other : ∀ (j : Nat) (r : Row), rows[j]? = some r → j ≠ i → w'.ownsRow 0 r.e r.sz r.v r.n r.xs := by
      intro j r hj hne
      refine owns_keep (h.row j r hj) (fun k hk => hg.block k (h.lt _ (mem_nums_row hj hk)) (fun e => ?_))
      obtain ⟨r2, hr2, hk2⟩ := hold k e.symm
      have hn := h.nodup
      unfold nums at hn
      exact hne (nodup_rows_at (List.nodup_append.1 hn).2.1 hj hr2 hk hk2)
    intro j r hj
    have hlt : (rows.take i).length = i := by rw [List.length_take]; omega
    rcases Nat.lt_trichotomy j i with hji | hji | hji
    · rw [List.append_assoc, List.getElem?_append_left (by omega), List.getElem?_take_of_lt hji] at hj
      exact other j r hj (by omega)
    · subst hji
      rw [List.append_assoc, List.getElem?_append_right (by omega), hlt] at hj
      simp at hj
      subst hj
      exact own'
    · rw [List.append_assoc, List.getElem?_append_right (by omega), hlt] at hj
      obtain ⟨d, rfl⟩ : ∃ d, j = i + 1 + d := ⟨j - (i + 1), by omega⟩
      rw [show i + 1 + d - i = d + 1 from by omega] at hj
      simp only [List.cons_append, List.nil_append, List.getElem?_cons_succ, List.getElem?_drop] at hj
      exact other (i + 1 + d) r hj (by omega)
  · refine (nums_mid hp _ _ _).nodup_iff.2 ?_
    cases hv : v'.ownBlock with
    | none => simpa using hrest.1
    | some k =>
      refine List.nodup_cons.2 ⟨?_, hrest.1⟩
      rcases hb with hb | hb
      · exact hrest.2 k (by rw [← hb]; exact hv)
      · rw [hv] at hb
        injection hb with hb
        subst hb
        intro hk
        have := h.lt _ (hsub _ hk)
        omega
  · intro k hk
    have hk := (nums_mid hp _ _ _).mem_iff.1 hk
    rcases List.mem_append.1 hk with hk | hk
    · cases hv : v'.ownBlock with
      | none => simp [hv] at hk
      | some k' =>
        simp [hv] at hk
        subst hk
        rcases hb with hb | hb
        · obtain ⟨r, hr, hk⟩ := hold k (by rw [← hb]; exact hv)
          exact .inl (mem_nums_row hr hk)
        · rw [hv] at hb
          injection hb with hb
          exact .inr (by omega)
    · exact .inl (hsub k hk)

theorem owns_shape {b e sz n : Nat} {v : Value} {xs : List Value} (h : w.ownsRow b e sz v n xs) : RowShape v n := by
  rcases h.2 with ⟨rfl, rfl⟩ | ⟨g, cap, cur, rfl, _, _, hnc, _⟩
  · exact .inl ⟨rfl, rfl⟩
  · exact .inr ⟨g, cap, rfl, hnc⟩

theorem run_sliceBound {P : Program} (l y : Nat) (code : BoundsCode) (h : l ≤ y) : (Instr.sliceBound (.int .i64 (l : Int)) y code).run P w = .ok l w := by
  have h1 : (0 : Int) ≤ (l : Int) ∧ (l : Int) ≤ (y : Int) := by omega
  simp [Instr.sliceBound, asIntOf, h]

theorem run_bounds {P : Program} (b : Bool) (len cap l h : Nat) (lo hi : Option Value) (hlo : match lo with | none => l = 0 | some p => p = .int .i64 (l : Int)) (hhi : match hi with | none => h = len | some p => p = .int .i64 (h : Int))
    (hl : l ≤ h) (hc : h ≤ cap) : (Instr.sliceBounds b len cap lo hi none).run P w = .ok (l, h, cap) w := by
  cases lo with
  | none =>
    cases hi with
    | none => simp only at hlo hhi; subst hlo; subst hhi; simp [Instr.sliceBounds]
    | some q => simp only at hlo hhi; subst hlo; subst hhi; cases b <;> simp [Instr.sliceBounds, run_sliceBound, hc]
  | some p =>
    cases hi with
    | none => simp only at hlo hhi; subst hlo; subst hhi; simp [Instr.sliceBounds, run_sliceBound, hl]
    | some q => simp only at hlo hhi; subst hlo; subst hhi; cases b <;> simp [Instr.sliceBounds, run_sliceBound, hc, hl]

theorem extract_list (s : ByteArray) (l h : Nat) (_hh : h ≤ s.data.toList.length) : s.extract l h = ⟨⟨(s.data.toList.take h).drop l⟩⟩ := by
  have : (s.extract l h).data = (⟨(s.data.toList.take h).drop l⟩ : Array UInt8) := by
    rw [ByteArray.data_extract]
    apply Array.ext'
    simp [Array.toList_extract, List.extract_eq_take_drop, List.drop_take]
  cases hs : s.extract l h with
  | mk d => rw [hs] at this; simp only at this; rw [this]
end
end Go.Eng
