/-
  The engine, second part: that the state of a walk is kept by each kind of step. It holds of every program.
-/
import Derived.Test.YtbgabnnlmebhpaaEng1
namespace Go.Eng
open Go.RowKit

def Ext (hp hp' : List LB) : Prop := ∀ i, i < hp.length → i < hp'.length ∧ bnum hp' i = bnum hp i
def SVok (hp : List LB) (s : SV) : Prop := match s with | .loc j _ => j < hp.length | _ => True

theorem Ext.refl (hp : List LB) : Ext hp hp := fun _ h => ⟨h, rfl⟩
theorem Ext.trans {a b c : List LB} (h : Ext a b) (k : Ext b c) : Ext a c := fun i hi => ⟨(k i (h i hi).1).1, ((k i (h i hi).1).2).trans (h i hi).2⟩
theorem bnum_map (hp : List LB) (i : Nat) : bnum hp i = ((hp.map LB.b)[i]?).getD 0 := by
  unfold bnum
  rw [List.getElem?_map]
  cases hp[i]? <;> rfl
theorem Ext.of_map {hp hp' : List LB} (h : hp'.map LB.b = hp.map LB.b) : Ext hp hp' := fun i hi => by
  have hl : hp'.length = hp.length := by have := congrArg List.length h; simpa using this
  exact ⟨by omega, by rw [bnum_map, bnum_map, h]⟩
theorem Ext.snoc (hp : List LB) (x : LB) : Ext hp (hp ++ [x]) := fun i hi => by
  refine ⟨by simp; omega, ?_⟩
  unfold bnum
  rw [List.getElem?_append_left hi]
theorem bnum_snoc (hp : List LB) (x : LB) : bnum (hp ++ [x]) hp.length = x.b := by simp [bnum]
theorem val_ext {hp hp' : List LB} (h : Ext hp hp') {s : SV} (hs : SVok hp s) : s.val hp' = s.val hp := by
  cases s with
  | v x => rfl
  | sb c => rfl
  | loc i off => simp only [SV.val]; rw [(h i hs).2]
theorem SVok.ext {hp hp' : List LB} (h : Ext hp hp') {s : SV} (hs : SVok hp s) : SVok hp' s := by
  cases s with
  | v x => trivial
  | sb c => trivial
  | loc i off => exact (h i hs).1
theorem SVok.of_ (hp : List LB) (v : Value) : SVok hp (SV.of v) := by cases v <;> trivial
theorem SV.val_of (hp : List LB) (v : Value) : (SV.of v).val hp = v := by cases v <;> rfl
theorem cellsL_eq (x : Value) : cellsL x = x.cells.toList := by cases x <;> rfl

theorem map_b_set {hp : List LB} {j : Nat} {x y : LB} (h : hp[j]? = some x) (hb : y.b = x.b) : (hp.set j y).map LB.b = hp.map LB.b := by
  apply List.ext_getElem?
  intro i
  rw [List.getElem?_map, List.getElem?_map, List.getElem?_set]
  by_cases hi : j = i
  · subst hi
    have hl : j < hp.length := (List.getElem?_eq_some_iff.1 h).1
    have hx : hp[j] = x := (List.getElem?_eq_some_iff.1 h).2
    simp [hl, hb, hx]
  · simp [hi]

theorem filterMap_set {rows : List Row} {i : Nat} {r r' : Row} (h : rows[i]? = some r) (hb : r'.v.ownBlock = r.v.ownBlock) :
    (rows.set i r').filterMap (fun r => r.v.ownBlock) = rows.filterMap (fun r => r.v.ownBlock) := by
  induction rows generalizing i with
  | nil => simp at h
  | cons a l ih =>
    cases i with
    | zero => simp at h; subst h; simp [List.filterMap_cons, hb]
    | succ i => simp at h; simp [List.filterMap_cons, ih h]

theorem owns_keep {w w' : World} {b e sz n : Nat} {v : Value} {xs : List Value} (h : w.ownsRow b e sz v n xs) (hb : ∀ k, v.ownBlock = some k → w'.heap[k]? = w.heap[k]?) : w'.ownsRow b e sz v n xs := by
  refine ⟨h.1, ?_⟩
  rcases h.2 with hn | ⟨g, cap, cur, rfl, hg, hgg, rest⟩
  · exact .inl hn
  · exact .inr ⟨g, cap, cur, rfl, hg, (hb g rfl).trans hgg, rest⟩

theorem mem_nums_hp {hp : List LB} {rows : List Row} {i : Nat} {x : LB} (h : hp[i]? = some x) : x.b ∈ nums hp rows := by
  unfold nums
  exact List.mem_append.2 (.inl (List.mem_map.2 ⟨x, List.mem_of_getElem? h, rfl⟩))
theorem mem_nums_row {hp : List LB} {rows : List Row} {i : Nat} {r : Row} {k : Nat} (h : rows[i]? = some r) (hk : r.v.ownBlock = some k) : k ∈ nums hp rows := by
  unfold nums
  exact List.mem_append.2 (.inr (List.mem_filterMap.2 ⟨r, List.mem_of_getElem? h, hk⟩))

section
variable {C : Ctx} {hp : List LB} {rows : List Row} {A : Anch} {w w' : World}

theorem RelW.lt (h : RelW C hp rows A w) : ∀ k, k ∈ nums hp rows → k < w.heap.size := by
  intro k hk
  unfold nums at hk
  rcases List.mem_append.1 hk with hk | hk
  · obtain ⟨x, hx, rfl⟩ := List.mem_map.1 hk
    obtain ⟨i, hi⟩ := List.getElem?_of_mem hx
    exact (Array.getElem?_eq_some_iff.1 (h.blk i x hi)).1
  · obtain ⟨r, hr, hk⟩ := List.mem_filterMap.1 hk
    obtain ⟨i, hi⟩ := List.getElem?_of_mem hr
    exact ((h.row i r hi).lt k hk).2

theorem RelW.step (h : RelW C hp rows A w) {G : Nat → Prop} (hf : Fr G w w') (hG : ∀ k, G k → k < w.heap.size → k ∈ nums hp rows) {hp' : List LB} {rows' : List Row}
    (blk' : ∀ (i : Nat) (x : LB), hp'[i]? = some x → w'.heap[x.b]? = some (.cells x.cs.toArray x.t (0, 0)))
    (row' : ∀ (i : Nat) (r : Row), rows'[i]? = some r → w'.ownsRow 0 r.e r.sz r.v r.n r.xs)
    (nodup' : (nums hp' rows').Nodup)
    (sub : ∀ k, k ∈ nums hp' rows' → k ∈ nums hp rows ∨ w.heap.size ≤ k) : RelW C hp' rows' A w' where
  blk := blk'
  row := row'
  nodup := nodup'
  mine := fun k hk => by
    rcases sub k hk with hk | hk
    · exact h.mine k hk
    · exact .inl (Nat.le_trans h.a0 (Nat.le_trans h.asz hk))
  agree := fun k hk => by
    have hlt := h.vlt k hk
    have hsz := h.asz
    rw [hf.block k (by omega) (fun hg => h.vout k (hG k hg (by omega)) hk)]
    exact h.agree k hk
  vlt := h.vlt
  vout := fun k hk hv => by
    rcases sub k hk with hk | hk
    · exact h.vout k hk hv
    · have := h.vlt k hv
      have := h.asz
      omega
  asz := Nat.le_trans h.asz hf.size
  a0 := h.a0
  fr := by
    refine ⟨hf.os.trans h.fr.os, hf.tape.trans h.fr.tape, hf.output.trans h.fr.output, Nat.le_trans h.fr.size hf.size, fun k hk hn => ?_⟩
    have hsz := h.fr.size
    rw [hf.block k (by omega) (fun hg => ?_)]
    · exact h.fr.block k hk hn
    · rcases h.mine k (hG k hg (by omega)) with hm | hm
      · omega
      · exact hn hm

theorem Fr.alloc (G : Nat → Prop) (w : World) (o : Obj) : Fr G w (w.alloc o) :=
  ⟨rfl, rfl, rfl, by simp, fun k hk _ => Below.heap_alloc w o k hk⟩

theorem nodup_hp_snoc {x : LB} (hn : (nums hp rows).Nodup) (hx : x.b ∉ nums hp rows) : (nums (hp ++ [x]) rows).Nodup := by
  have hp1 : (nums (hp ++ [x]) rows).Perm (x.b :: nums hp rows) := by
    unfold nums
    simp only [List.map_append, List.map_cons, List.map_nil, List.append_assoc, List.cons_append, List.nil_append]
    exact List.perm_middle
  exact hp1.nodup_iff.2 (List.nodup_cons.2 ⟨hx, hn⟩)

theorem nums_rows_snoc (hp : List LB) (rows : List Row) (r : Row) : nums hp (rows ++ [r]) = nums hp rows ++ (match r.v.ownBlock with | some k => [k] | none => []) := by
  unfold nums
  cases hr : r.v.ownBlock <;> simp [List.filterMap_append, hr]

theorem nodup_rows_snoc {r : Row} (hn : (nums hp rows).Nodup) (hx : ∀ k, r.v.ownBlock = some k → k ∉ nums hp rows) : (nums hp (rows ++ [r])).Nodup := by
  rw [nums_rows_snoc]
  cases hr : r.v.ownBlock with
  | none => simpa using hn
  | some k =>
    refine List.nodup_append.2 ⟨hn, by simp, ?_⟩
    intro a ha b hb
    simp at hb
    subst hb
    intro e
    subst e
    exact hx _ hr ha

theorem blk_alloc (h : RelW C hp rows A w) (o : Obj) : ∀ (i : Nat) (x : LB), hp[i]? = some x → (w.alloc o).heap[x.b]? = some (.cells x.cs.toArray x.t (0, 0)) := by
  intro i x hi
  have hl : x.b < w.heap.size := h.lt _ (mem_nums_hp hi)
  rw [Below.heap_alloc w o _ hl]
  exact h.blk i x hi

theorem RelW.alloc_hp (h : RelW C hp rows A w) (cs : List Value) (t : TypeId) :
    RelW C (hp ++ [⟨w.heap.size, cs, t⟩]) rows A (w.alloc (.cells cs.toArray t)) := by
  have hnew : w.heap.size ∉ nums hp rows := fun hk => by have := h.lt _ hk; omega
  refine h.step (G := fun _ => False) (Fr.alloc _ w _) (fun _ h _ => h.elim) ?_ (fun i r hi => (h.row i r hi).alloc _) (nodup_hp_snoc h.nodup hnew) ?_
  · intro i x hi
    by_cases hl : i < hp.length
    · rw [List.getElem?_append_left hl] at hi
      exact blk_alloc h _ i x hi
    · have hi2 : i = hp.length := by
        have := (List.getElem?_eq_some_iff.1 hi).1
        simp at this
        omega
      subst hi2
      simp at hi
      subst hi
      exact heap_alloc_new w _
  · intro k hk
    unfold nums at hk ⊢
    simp only [List.map_append, List.map_cons, List.map_nil, List.mem_append, List.mem_cons, List.not_mem_nil, or_false] at hk ⊢
    rcases hk with (hk | hk) | hk
    · exact .inl (.inl hk)
    · exact .inr (by omega)
    · exact .inl (.inr hk)

theorem RelW.alloc_row (h : RelW C hp rows A w) (n cap : Nat) (xs : List Value) (cur : Array Value) (e : TypeId) (sz : Nat) (hl : xs.length = n * sz) (hnc : n ≤ cap) (hcm : cap ≤ maxLen)
    (hsz : cur.size = cap * sz) (ht : cur.toList.take (n * sz) = xs) :
    RelW C hp (rows ++ [{ v := .slice (some ⟨w.heap.size, 0, none⟩) n cap, n := n, xs := xs, e := e, sz := sz }]) A (w.alloc (.cells cur e)) := by
  have hnew : w.heap.size ∉ nums hp rows := fun hk => by have := h.lt _ hk; omega
  refine h.step (G := fun _ => False) (Fr.alloc _ w _) (fun _ h _ => h.elim) (blk_alloc h _) ?_ (nodup_rows_snoc h.nodup ?_) ?_
  · intro i r hi
    by_cases hlt : i < rows.length
    · rw [List.getElem?_append_left hlt] at hi
      exact (h.row i r hi).alloc _
    · have hi2 : i = rows.length := by
        have := (List.getElem?_eq_some_iff.1 hi).1
        simp at this
        omega
      subst hi2
      simp at hi
      subst hi
      exact ⟨hl, .inr ⟨w.heap.size, cap, cur, rfl, Nat.zero_le _, heap_alloc_new w _, hnc, hcm, hsz, ht⟩⟩
  · intro k hk
    simp [Value.ownBlock] at hk
    subst hk
    exact hnew
  · intro k hk
    rw [nums_rows_snoc] at hk
    simp [Value.ownBlock] at hk
    rcases hk with hk | hk
    · exact .inl hk
    · exact .inr (by omega)

theorem heap_setRow_other (w : World) (g : Nat) (cs : Array Value) (k : Nat) (h : k ≠ g) : (w.setRow g cs).heap[k]? = w.heap[k]? := by
  simp only [World.setRow, Array.getElem?_modify]
  rw [if_neg (fun e => h e.symm)]

theorem Fr.setRow (w : World) (g : Nat) (cs : Array Value) : Fr (fun k => k = g) w (w.setRow g cs) :=
  ⟨rfl, rfl, rfl, by simp [World.setRow], fun k _ hn => heap_setRow_other w g cs k hn⟩

theorem nodup_sep_hp (h : RelW C hp rows A w) {i j : Nat} {x y : LB} (hi : hp[i]? = some x) (hj : hp[j]? = some y) (hb : x.b = y.b) : i = j := by
  have hn := h.nodup
  unfold nums at hn
  have hn1 : (hp.map LB.b).Nodup := (List.nodup_append.1 hn).1
  have hi' : (hp.map LB.b)[i]? = some x.b := by rw [List.getElem?_map, hi]; rfl
  have hj' : (hp.map LB.b)[j]? = some x.b := by rw [List.getElem?_map, hj, hb]; rfl
  have hil : i < (hp.map LB.b).length := (List.getElem?_eq_some_iff.1 hi').1
  exact (List.getElem?_inj hil hn1).1 (hi'.trans hj'.symm)

theorem nodup_sep_hp_row (h : RelW C hp rows A w) {i j : Nat} {x : LB} {r : Row} (hi : hp[i]? = some x) (hj : rows[j]? = some r) : r.v.ownBlock ≠ some x.b := by
  intro hb
  have hn := h.nodup
  unfold nums at hn
  exact (List.nodup_append.1 hn).2.2 x.b (List.mem_map.2 ⟨x, List.mem_of_getElem? hi, rfl⟩) x.b (List.mem_filterMap.2 ⟨r, List.mem_of_getElem? hj, hb⟩) rfl

theorem nodup_rows_at : ∀ {rows : List Row} {i j : Nat} {r s : Row} {k : Nat}, (rows.filterMap (fun r => r.v.ownBlock)).Nodup → rows[i]? = some r → rows[j]? = some s → r.v.ownBlock = some k → s.v.ownBlock = some k → i = j := by
  intro rows
  induction rows with
  | nil => intro i j r s k _ hi; simp at hi
  | cons a l ih =>
    intro i j r s k hn hi hj hr hs
    rw [List.filterMap_cons] at hn
    cases i with
    | zero =>
      cases j with
      | zero => rfl
      | succ j =>
        simp at hi hj
        subst hi
        rw [hr] at hn
        exact absurd (List.mem_filterMap.2 ⟨s, List.mem_of_getElem? hj, hs⟩) (List.nodup_cons.1 hn).1
    | succ i =>
      cases j with
      | zero =>
        simp at hi hj
        subst hj
        rw [hs] at hn
        exact absurd (List.mem_filterMap.2 ⟨r, List.mem_of_getElem? hi, hr⟩) (List.nodup_cons.1 hn).1
      | succ j =>
        simp at hi hj
        have hn' : (l.filterMap (fun r => r.v.ownBlock)).Nodup := by
          cases ha : a.v.ownBlock with
          | none => rw [ha] at hn; exact hn
          | some b => rw [ha] at hn; exact (List.nodup_cons.1 hn).2
        rw [ih hn' hi hj hr hs]

theorem RelW.set_hp (h : RelW C hp rows A w) {j : Nat} {x : LB} (hj : hp[j]? = some x) (cs : List Value) :
    RelW C (hp.set j { x with cs := cs }) rows A (w.setRow x.b cs.toArray) := by
  have hm := map_b_set (y := { x with cs := cs }) hj rfl
  have hnums : nums (hp.set j { x with cs := cs }) rows = nums hp rows := by unfold nums; rw [hm]
  refine h.step (Fr.setRow w x.b _) (fun k hk _ => by subst hk; exact mem_nums_hp hj) ?_ ?_ (by rw [hnums]; exact h.nodup) (fun k hk => .inl (by rw [hnums] at hk; exact hk))
  · intro i y hi
    rw [List.getElem?_set] at hi
    by_cases hij : j = i
    · subst hij
      have hl : j < hp.length := (List.getElem?_eq_some_iff.1 hj).1
      simp [hl] at hi
      subst hi
      exact setRow_heap w x.b _ _ _ _ (h.blk j x hj)
    · simp [hij] at hi
      have hne : y.b ≠ x.b := fun e => hij (nodup_sep_hp h hj hi e.symm)
      rw [heap_setRow_other _ _ _ _ hne]
      exact h.blk i y hi
  · intro i r hi
    refine owns_keep (h.row i r hi) (fun k hk => heap_setRow_other _ _ _ _ ?_)
    intro e
    subst e
    exact nodup_sep_hp_row h hj hi hk

theorem RelW.set_row (h : RelW C hp rows A w) {i : Nat} {r : Row} {g : Nat} (hi : rows[i]? = some r) (hg : r.v.ownBlock = some g) (cur' : Array Value) (xs' : List Value)
    (hcur : ∀ cur, w.heap[g]? = some (.cells cur r.e (0, 0)) → cur'.size = cur.size) (hlen : xs'.length = r.xs.length) (ht : cur'.toList.take xs'.length = xs') :
    RelW C hp (rows.set i { r with xs := xs' }) A (w.setRow g cur') := by
  have hm := filterMap_set (r' := { r with xs := xs' }) hi rfl
  have hnums : nums hp (rows.set i { r with xs := xs' }) = nums hp rows := by unfold nums; rw [hm]
  refine h.step (Fr.setRow w g _) (fun k hk _ => by subst hk; exact mem_nums_row hi hg) ?_ ?_ (by rw [hnums]; exact h.nodup) (fun k hk => .inl (by rw [hnums] at hk; exact hk))
  · intro j x hj
    have hne : x.b ≠ g := fun e => nodup_sep_hp_row h hj hi (by rw [e]; exact hg)
    rw [heap_setRow_other _ _ _ _ hne]
    exact h.blk j x hj
  · intro j s hj
    rw [List.getElem?_set] at hj
    by_cases hij : i = j
    · subst hij
      have hl : i < rows.length := (List.getElem?_eq_some_iff.1 hi).1
      simp [hl] at hj
      subst hj
      obtain ⟨h1, h2⟩ := h.row i r hi
      refine ⟨by simp only; rw [hlen]; exact h1, ?_⟩
      rcases h2 with ⟨hv, _⟩ | ⟨g', cap, cur, hv, hb, hh, hnc, hcm, hsz, htk⟩
      · rw [hv] at hg; simp [Value.ownBlock] at hg
      · have e : g' = g := by rw [hv] at hg; simpa [Value.ownBlock] using hg
        subst e
        refine .inr ⟨g', cap, cur', hv, hb, setRow_heap w g' _ _ _ _ hh, hnc, hcm, by rw [hcur cur hh]; exact hsz, ?_⟩
        simp only
        rw [show r.n * r.sz = xs'.length from by rw [hlen]; exact h1.symm]
        exact ht
    · simp [hij] at hj
      refine owns_keep (h.row j s hj) (fun k hk => heap_setRow_other _ _ _ _ ?_)
      intro e
      subst e
      have hn := h.nodup
      unfold nums at hn
      exact hij (nodup_rows_at (List.nodup_append.1 hn).2.1 hi hj hg hk)

theorem RelW.set_plain (h : RelW C hp rows A w) {g : Nat} {cur : Array Value} {t : TypeId} (hg : A.w.heap[g]? = some (.cells cur t (0, 0))) (hv : A.V g) (hm : C.w0.heap.size ≤ g ∨ C.own g) (cs : Array Value) :
    RelW C hp rows { A with w := A.w.setRow g cs } (w.setRow g cs) := by
  have hne : ∀ k, k ∈ nums hp rows → k ≠ g := fun k hk e => by subst e; exact h.vout k hk hv
  refine ⟨fun i x hi => ?_, fun i r hi => ?_, h.nodup, h.mine, fun k hk => ?_, fun k hk => ?_, h.vout, ?_, ?_, ?_⟩
  · rw [heap_setRow_other _ _ _ _ (hne _ (mem_nums_hp hi))]; exact h.blk i x hi
  · exact owns_keep (h.row i r hi) (fun k hk => heap_setRow_other _ _ _ _ (hne _ (mem_nums_row hi hk)))
  · by_cases e : k = g
    · subst e
      rw [setRow_heap w k _ _ _ _ ((h.agree k hv).trans hg), setRow_heap A.w k _ _ _ _ hg]
    · rw [heap_setRow_other _ _ _ _ e, heap_setRow_other _ _ _ _ e]; exact h.agree k hk
  · simpa [World.setRow] using h.vlt k hk
  · simpa [World.setRow] using h.asz
  · simpa [World.setRow] using h.a0
  · refine ⟨h.fr.os, h.fr.tape, h.fr.output, by simpa [World.setRow] using h.fr.size, fun k hk hn => ?_⟩
    rw [heap_setRow_other _ _ _ _ (fun e => ?_)]
    · exact h.fr.block k hk hn
    · subst e
      rcases hm with hm | hm
      · omega
      · exact hn hm
end
end Go.Eng
