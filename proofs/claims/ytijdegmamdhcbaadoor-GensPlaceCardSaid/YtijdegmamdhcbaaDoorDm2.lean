/-
  The second engine, second part: steps of memory. It holds of every program.
-/
import Derived.Test.YtijdegmamdhcbaaDoorDm1
namespace Go.Dm
open Go Go.Eng Go.RowKit

section
variable {C : Ctx} {h h' : Heap} {β β' : Nat → Value} {V : Nat → Prop} {w w' : World}

theorem owns_bk {e sz n : Nat} {v : Value} {xs : List Value} (ho : w.ownsRow 0 e sz v n xs) {k : Nat} (hk : bk v = some k) : v.ownBlock = some k := by
  rcases ho.2 with ⟨rfl, _⟩ | ⟨g, cap, cur, rfl, _⟩
  · simp [bk] at hk
  · simpa [bk, Value.ownBlock] using hk
theorem bk_owns {e sz n : Nat} {v : Value} {xs : List Value} (ho : w.ownsRow 0 e sz v n xs) {k : Nat} (hk : v.ownBlock = some k) : bk v = some k := by
  rcases ho.2 with ⟨rfl, _⟩ | ⟨g, cap, cur, rfl, _⟩
  · simp [Value.ownBlock] at hk
  · simpa [bk, Value.ownBlock] using hk

theorem Ob0Ok.lt {v : Value} {o : Ob0} (ho : Ob0Ok V w v o) {k : Nat} (hk : bk v = some k) : k < w.heap.size := by
  cases o with
  | blk cs t =>
    obtain ⟨g, vs, hb, hg, _⟩ := ho
    rw [hb] at hk
    simp [bk] at hk
    subst hk
    exact (Array.getElem?_eq_some_iff.1 hg).1
  | row xs e sz =>
    obtain ⟨vs, hv, _⟩ := ho
    exact (hv.lt k (owns_bk hv hk)).2
theorem ObjOk.lt {i : Nat} {o : Obj} (ho : ObjOk h β V w i o) (hl : o.live = true) {k : Nat} (hk : Bk o (β i) k) : k < w.heap.size := by
  cases o with
  | many l ts => obtain ⟨p, hp, hk⟩ := hk; exact (ho.1 p hp).lt hk
  | blk cs t =>
    obtain ⟨g, vs, hb, hg, _⟩ := ho
    rw [hb] at hk
    simp [Bk, bk] at hk
    subst hk
    exact (Array.getElem?_eq_some_iff.1 hg).1
  | row xs e sz =>
    obtain ⟨vs, hv, _⟩ := ho
    exact (hv.lt k (owns_bk hv hk)).2
  | dead => cases hl

theorem RelD.lt (hr : RelD C h β V w) {i : Nat} {o : Obj} (hi : h[i]? = some o) (hl : o.live = true) {k : Nat} (hk : Bk o (β i) k) : k < w.heap.size := (hr.obj i o hi).lt hl hk

theorem Ob0Ok.keep {v : Value} {o : Ob0} (ho : Ob0Ok V w v o) {V' : Nat → Prop} (hm : Moved V w V' w') (hk : ∀ k, bk v = some k → w'.heap[k]? = w.heap[k]?) : Ob0Ok V' w' v o := by
  cases o with
  | blk cs t =>
    obtain ⟨g, vs, hb', hg, hc⟩ := ho
    exact ⟨g, vs, hb', (hk g (by rw [hb']; rfl)).trans hg, RepL.move hm _ _ hc⟩
  | row xs e sz =>
    obtain ⟨vs, hv, hc, h1, h2⟩ := ho
    exact ⟨vs, owns_keep hv (fun k hk' => hk k (bk_owns hv hk')), RepL.move hm _ _ hc, h1, h2⟩
theorem OLe_live {o o' : Obj} (h : OLe o o') (hl : o'.live = true) : o.live = true := by
  cases o <;> cases o' <;> simp_all [OLe, Obj.live]
theorem TagOk.le {t : Value × Nat} (ht : TagOk h β t) (hle : LeH h β h' β') : TagOk h' β' t := by
  obtain ⟨o, ho, hb⟩ := ht
  obtain ⟨o', h1, h2, h3⟩ := hle _ o ho
  exact ⟨o', h1, fun hl => (h3 hl).trans (hb (OLe_live h2 hl))⟩
theorem ObjOk.keep {i : Nat} {o : Obj} (ho : ObjOk h β V w i o) (hle : LeH h β h' β') {V' : Nat → Prop} (hm : Moved V w V' w') (hb : β' i = β i) (hk : ∀ k, Bk o (β i) k → w'.heap[k]? = w.heap[k]?) : ObjOk h' β' V' w' i o := by
  cases o with
  | many l ts => exact ⟨fun p hp => (ho.1 p hp).keep hm (fun k hk' => hk k ⟨p, hp, hk'⟩), ho.2.1, fun t ht => (ho.2.2 t ht).le hle⟩
  | blk cs t =>
    obtain ⟨g, vs, hb', hg, hc⟩ := ho
    exact ⟨g, vs, hb.trans hb', (hk g (by rw [hb']; rfl)).trans hg, RepDL.mono hle hm _ _ hc⟩
  | row xs e sz =>
    obtain ⟨vs, hv, hc, h1, h2⟩ := ho
    refine ⟨vs, ?_, RepL.move hm _ _ hc, h1, h2⟩
    rw [hb]
    exact owns_keep hv (fun k hk' => hk k (bk_owns hv hk'))
  | dead => trivial

theorem RelD.moved {G : Nat → Prop} (hr : RelD C h β V w) (hf : Fr G w w') (hG : ∀ k, G k → ∃ i o, h[i]? = some o ∧ o.live = true ∧ Bk o (β i) k) : Moved V w V w' := fun k hk =>
  ⟨hk, hf.block k (hr.vlt k hk) (fun hg => by
    obtain ⟨i, o, hi, hl, hbk⟩ := hG k hg
    exact hr.vout i o k hi hl hbk hk)⟩

/-- A step of memory: one object is new or turned; the others are as they were, or given away. -/
theorem RelD.upd {G : Nat → Prop} (hr : RelD C h β V w) (hf : Fr G w w') (i0 : Nat) (o0 : Obj) (h0 : h'[i0]? = some o0)
    (hoth : ∀ (j : Nat) (o : Obj), j ≠ i0 → h'[j]? = some o → o.live = true → h[j]? = some o ∧ β' j = β j ∧ ∀ k, Bk o (β j) k → ¬ G k)
    (le : LeH h β h' β')
    (hG : ∀ k, G k → ∃ i o, h[i]? = some o ∧ o.live = true ∧ Bk o (β i) k)
    (hok : Moved V w V w' → ObjOk h' β' V w' i0 o0)
    (hb : ∀ k, Bk o0 (β' i0) k → w.heap.size ≤ k ∨ ∃ i o, h[i]? = some o ∧ o.live = true ∧ Bk o (β i) k ∧ (i = i0 ∨ ∀ o', h'[i]? = some o' → o'.live = false)) :
    RelD C h' β' V w' := by
  have hm : Moved V w V w' := fun k hk => ⟨hk, hf.block k (hr.vlt k hk) (fun hg => by
    obtain ⟨i, o, hi, hl, hbk⟩ := hG k hg
    exact hr.vout i o k hi hl hbk hk)⟩
  refine ⟨?_, ?_, ?_, ?_, ?_, hr.vin, hr.vnew, ?_, hr.gl.move hm⟩
  · intro j o hj
    by_cases hj0 : j = i0
    · subst hj0
      rw [h0] at hj
      injection hj with hj
      subst hj
      exact hok hm
    · cases hl : o.live with
      | false => cases o <;> simp_all [Obj.live, ObjOk]
      | true =>
        obtain ⟨h1, h2, h3⟩ := hoth j o hj0 hj hl
        exact (hr.obj j o h1).keep le hm h2 (fun k hk => hf.block k (hr.lt h1 hl hk) (h3 k hk))
  · have key : ∀ (j : Nat) (o : Obj) (k : Nat), j ≠ i0 → h'[j]? = some o → o.live = true → Bk o0 (β' i0) k → Bk o (β' j) k → False := by
      intro j o k hj hjo hl hk hk'
      obtain ⟨h1, h2, h3⟩ := hoth j o hj hjo hl
      rw [h2] at hk'
      rcases hb k hk with hfr | ⟨i, o', hi, hl', hbi, hor⟩
      · have := hr.lt h1 hl hk'
        omega
      · have : i = j := hr.sep i j o' o k hi hl' h1 hl hbi hk'
        subst this
        rcases hor with e | e
        · exact hj e
        · rw [e o hjo] at hl; cases hl
    intro i j o o' k hi hl hj hl' hbi hbj
    by_cases hi0 : i = i0
    · by_cases hj0 : j = i0
      · rw [hi0, hj0]
      · subst hi0
        rw [h0] at hi
        injection hi with hi
        subst hi
        exact (key j o' k hj0 hj hl' hbi hbj).elim
    · by_cases hj0 : j = i0
      · subst hj0
        rw [h0] at hj
        injection hj with hj
        subst hj
        exact (key i o k hi0 hi hl hbj hbi).elim
      · obtain ⟨a1, a2, _⟩ := hoth i o hi0 hi hl
        obtain ⟨b1, b2, _⟩ := hoth j o' hj0 hj hl'
        rw [a2] at hbi
        rw [b2] at hbj
        exact hr.sep i j o o' k a1 hl b1 hl' hbi hbj
  · intro i o k hi hl hk
    by_cases hi0 : i = i0
    · subst hi0
      rw [h0] at hi
      injection hi with hi
      subst hi
      rcases hb k hk with hfr | ⟨i', o', hi', hl', hbi, _⟩
      · exact .inl (Nat.le_trans hr.fr.size hfr)
      · exact hr.mine i' o' k hi' hl' hbi
    · obtain ⟨a1, a2, _⟩ := hoth i o hi0 hi hl
      rw [a2] at hk
      exact hr.mine i o k a1 hl hk
  · intro i o k hi hl hk
    by_cases hi0 : i = i0
    · subst hi0
      rw [h0] at hi
      injection hi with hi
      subst hi
      rcases hb k hk with hfr | ⟨i', o', hi', hl', hbi, _⟩
      · intro hv
        have := hr.vlt k hv
        omega
      · exact hr.vout i' o' k hi' hl' hbi
    · obtain ⟨a1, a2, _⟩ := hoth i o hi0 hi hl
      rw [a2] at hk
      exact hr.vout i o k a1 hl hk
  · intro k hk
    exact Nat.lt_of_lt_of_le (hr.vlt k hk) hf.size
  · refine ⟨hf.os.trans hr.fr.os, hf.tape.trans hr.fr.tape, hf.output.trans hr.fr.output, Nat.le_trans hr.fr.size hf.size, fun k hk hn => ?_⟩
    rw [hf.block k (Nat.lt_of_lt_of_le hk hr.fr.size) (fun hg => ?_)]
    · exact hr.fr.block k hk hn
    · obtain ⟨i, o, hi, hl, hbk⟩ := hG k hg
      rcases hr.mine i o k hi hl hbk with hm | hm
      · omega
      · exact hn hm

def upf (β : Nat → Value) (i : Nat) (v : Value) : Nat → Value := fun k => if k = i then v else β k
theorem upf_eq (β : Nat → Value) (i : Nat) (v : Value) : upf β i v i = v := by simp [upf]
theorem upf_ne {β : Nat → Value} {i k : Nat} {v : Value} (h : k ≠ i) : upf β i v k = β k := by simp [upf, h]

theorem le_snoc (h : Heap) (β : Nat → Value) (o : Obj) (v : Value) : LeH h β (h ++ [o]) (upf β h.length v) := by
  intro i o' ho
  have hl : i < h.length := (List.getElem?_eq_some_iff.1 ho).1
  exact ⟨o', by rw [List.getElem?_append_left hl]; exact ho, OLe.refl o', fun _ => upf_ne (by omega)⟩
theorem snoc_oth {h : Heap} {β : Nat → Value} {o0 : Obj} {v : Value} {G : Nat → Prop} (hG : ∀ k, ¬ G k) : ∀ (j : Nat) (o : Obj), j ≠ h.length → (h ++ [o0])[j]? = some o → o.live = true → h[j]? = some o ∧ upf β h.length v j = β j ∧ ∀ k, Bk o (β j) k → ¬ G k := by
  intro j o hj ho hl
  have hlt : j < h.length := by
    have := (List.getElem?_eq_some_iff.1 ho).1
    simp at this
    omega
  rw [List.getElem?_append_left hlt] at ho
  exact ⟨ho, upf_ne hj, fun k _ => hG k⟩

theorem fr_alloc (w : World) (o : Go.Obj) : Fr (fun _ => False) w (w.alloc o) := Fr.alloc _ w o

/-- A new block. -/
theorem RelD.alloc_blk (hr : RelD C h β V w) (cs : List D) (vs : List Value) (t : TypeId) (hc : RepDL h β V w cs vs) :
    RelD C (h ++ [.blk cs t]) (upf β h.length (.pointer (some ⟨w.heap.size, 0, none⟩))) V (w.alloc (.cells ⟨vs⟩ t)) := by
  refine hr.upd (G := fun _ => False) (fr_alloc w _) h.length (.blk cs t) (by simp) (snoc_oth (fun _ h => h)) (le_snoc _ _ _ _) (fun k hk => hk.elim) (fun hm => ?_) (fun k hk => ?_)
  · exact ⟨w.heap.size, vs, upf_eq _ _ _, heap_alloc_new w _, RepDL.mono (le_snoc _ _ _ _) hm _ _ hc⟩
  · rw [upf_eq] at hk
    simp [Bk, bk] at hk
    exact .inl (by omega)

/-- A new row. -/
theorem RelD.alloc_row (hr : RelD C h β V w) (xs : List (List GV)) (vs : List Value) (cap : Nat) (cur : Array Value) (e : TypeId) (sz : Nat) (hx : ∀ r ∈ xs, r.length = sz) (h0 : 0 < sz) (hv : RepL V w xs.flatten vs)
    (hnc : xs.length ≤ cap) (hcm : cap ≤ maxLen) (hsz : cur.size = cap * sz) (ht : cur.toList.take (xs.length * sz) = vs) :
    RelD C (h ++ [.row xs e sz]) (upf β h.length (.slice (some ⟨w.heap.size, 0, none⟩) xs.length cap)) V (w.alloc (.cells cur e)) := by
  refine hr.upd (G := fun _ => False) (fr_alloc w _) h.length (.row xs e sz) (by simp) (snoc_oth (fun _ h => h)) (le_snoc _ _ _ _) (fun k hk => hk.elim) (fun hm => ?_) (fun k hk => ?_)
  · refine ⟨vs, ?_, RepL.move hm _ _ hv, hx, h0⟩
    rw [upf_eq]
    refine ⟨?_, .inr ⟨w.heap.size, cap, cur, rfl, Nat.zero_le _, heap_alloc_new w _, hnc, hcm, hsz, ht⟩⟩
    rw [← ht, List.length_take, show cur.toList.length = cap * sz from by rw [Array.length_toList (xs := cur), hsz]]
    exact Nat.min_eq_left (Nat.mul_le_mul_right _ hnc)
  · rw [upf_eq] at hk
    simp [Bk, bk] at hk
    exact .inl (by omega)

/-- A nil slice is a row. -/
theorem RelD.nil_row (hr : RelD C h β V w) (e : TypeId) (sz : Nat) (h0 : 0 < sz) :
    RelD C (h ++ [.row [] e sz]) (upf β h.length (.slice none 0 0)) V w := by
  refine hr.upd (G := fun _ => False) (Fr.refl _ w) h.length (.row [] e sz) (by simp) (snoc_oth (fun _ h => h)) (le_snoc _ _ _ _) (fun k hk => hk.elim) (fun hm => ?_) (fun k hk => ?_)
  · refine ⟨[], ?_, trivial, fun r hr => by simp at hr, h0⟩
    rw [upf_eq]
    exact World.ownsRow_nil w 0 e sz
  · rw [upf_eq] at hk
    simp [Bk, bk] at hk

theorem set_oth {h : Heap} {β : Nat → Value} {i0 : Nat} {o0 : Obj} {G : Nat → Prop} (hG : ∀ (j : Nat) (o : Obj) (k : Nat), j ≠ i0 → h[j]? = some o → o.live = true → Bk o (β j) k → ¬ G k) : ∀ (j : Nat) (o : Obj), j ≠ i0 → (h.set i0 o0)[j]? = some o → o.live = true → h[j]? = some o ∧ β j = β j ∧ ∀ k, Bk o (β j) k → ¬ G k := by
  intro j o hj ho hl
  rw [List.getElem?_set_ne (fun e => hj e.symm)] at ho
  exact ⟨ho, rfl, fun k hk => hG j o k hj ho hl hk⟩
theorem le_set {h : Heap} {β : Nat → Value} {i : Nat} {o o' : Obj} (hi : h[i]? = some o) (hle : OLe o o') : LeH h β (h.set i o') β := by
  intro j oj hj
  by_cases hij : j = i
  · subst hij
    rw [hi] at hj
    injection hj with hj
    subst hj
    exact ⟨o', by simp [(List.getElem?_eq_some_iff.1 hi).1], hle, fun _ => rfl⟩
  · exact ⟨oj, by rw [List.getElem?_set_ne (fun e => hij e.symm)]; exact hj, OLe.refl _, fun _ => rfl⟩

/-- A block is written. -/
theorem RelD.set_blk (hr : RelD C h β V w) {i : Nat} {cs : List D} {t : TypeId} (hi : h[i]? = some (.blk cs t)) {g : Nat} (hg : β i = .pointer (some ⟨g, 0, none⟩)) (cs' : List D) (vs' : List Value) (hc : RepDL h β V w cs' vs') :
    RelD C (h.set i (.blk cs' t)) β V (w.setRow g ⟨vs'⟩) := by
  obtain ⟨g', vs, hb, hgg, hcs⟩ := hr.obj i _ hi
  have e : g' = g := by rw [hb] at hg; simpa using hg
  subst e
  refine hr.upd (G := fun k => k = g') (Fr.setRow w g' _) i (.blk cs' t) (by simp [(List.getElem?_eq_some_iff.1 hi).1]) (set_oth (fun j o k hj ho hl hk hkg => ?_)) (le_set hi trivial) (fun k hk => ⟨i, _, hi, rfl, by subst hk; rw [hb]; rfl⟩) (fun hm => ?_) (fun k hk => .inr ⟨i, _, hi, rfl, hk, .inl rfl⟩)
  · subst hkg
    exact hj (hr.sep j i o _ k ho hl hi rfl hk (by rw [hb]; rfl))
  · exact ⟨g', vs', hb, setRow_heap w g' _ _ _ _ hgg, RepDL.mono (le_set hi (o' := .blk cs' t) trivial) hm _ _ hc⟩

/-- Elements of a row are written. -/
theorem RelD.set_row (hr : RelD C h β V w) {i : Nat} {xs : List (List GV)} {e : TypeId} {sz : Nat} (hi : h[i]? = some (.row xs e sz)) {g n c : Nat} (hg : β i = .slice (some ⟨g, 0, none⟩) n c) (xs' : List (List GV)) (vs' : List Value) (hv : RepL V w xs'.flatten vs')
    (hx : ∀ r ∈ xs', r.length = sz) (hlen : xs'.length = xs.length) (cur' : Array Value) (hcur : ∀ cur, w.heap[g]? = some (.cells cur e (0, 0)) → cur'.size = cur.size) (ht : cur'.toList.take (xs.length * sz) = vs') :
    RelD C (h.set i (.row xs' e sz)) β V (w.setRow g cur') := by
  obtain ⟨vs, hown, hvs, hxs, h0⟩ := hr.obj i _ hi
  have hbk : bk (β i) = some g := by rw [hg]; rfl
  refine hr.upd (G := fun k => k = g) (Fr.setRow w g _) i (.row xs' e sz) (by simp [(List.getElem?_eq_some_iff.1 hi).1]) (set_oth (fun j o k hj ho hl hk hkg => ?_)) (le_set hi ⟨hlen.symm, rfl⟩) (fun k hk => ⟨i, _, hi, rfl, by subst hk; exact hbk⟩) (fun hm => ?_) (fun k hk => .inr ⟨i, _, hi, rfl, hk, .inl rfl⟩)
  · subst hkg
    exact hj (hr.sep j i o _ k ho hl hi rfl hk hbk)
  · refine ⟨vs', ?_, RepL.move hm _ _ hv, hx, h0⟩
    rcases hown.2 with ⟨hnil, _⟩ | ⟨g', cap, cur, hv', hb0, hh, hnc, hcm, hsz, htk⟩
    · rw [hnil] at hg; cases hg
    · have eg : g' = g := by rw [hv'] at hg; injection hg with e1 _ _; injection e1 with e1; injection e1
      subst eg
      have hcs := hcur cur hh
      have hle : xs.length * sz ≤ cap * sz := Nat.mul_le_mul_right _ hnc
      refine ⟨?_, .inr ⟨g', cap, cur', by rw [hlen]; exact hv', hb0, setRow_heap w g' _ _ _ _ hh, by rw [hlen]; exact hnc, hcm, by rw [hcs]; exact hsz, by rw [hlen]; exact ht⟩⟩
      rw [← ht, List.length_take, show cur'.toList.length = cap * sz from by rw [Array.length_toList (xs := cur'), hcs, hsz], hlen]
      exact Nat.min_eq_left hle

/-- A row grows: the old one is given away, the new one is behind all. -/
theorem RelD.grow_row (hr : RelD C h β V w) {i : Nat} {xs0 : List (List GV)} {e0 : TypeId} {sz0 : Nat} (hi : h[i]? = some (.row xs0 e0 sz0)) (xs : List (List GV)) (vs : List Value) (v' : Value) (e : TypeId) (sz : Nat)
    (hv : RepL V w xs.flatten vs) (hx : ∀ r ∈ xs, r.length = sz) (h0 : 0 < sz) (hown : w'.ownsRow 0 e sz v' xs.length vs) (hg : w.grownBy w' (β i).ownBlock)
    (hb : v'.ownBlock = (β i).ownBlock ∨ v'.ownBlock = some w.heap.size) :
    RelD C (h.set i .dead ++ [.row xs e sz]) (upf β h.length v') V w' := by
  obtain ⟨vs0, hown0, _⟩ := hr.obj i _ hi
  have hil : i < h.length := (List.getElem?_eq_some_iff.1 hi).1
  have hlen : (h.set i .dead).length = h.length := by simp
  have hget : ∀ j, j < h.length → j ≠ i → (h.set i .dead ++ [Obj.row xs e sz])[j]? = h[j]? := by
    intro j hj hji
    rw [List.getElem?_append_left (by simpa using hj), List.getElem?_set_ne (fun e => hji e.symm)]
  have hgi : (h.set i .dead ++ [Obj.row xs e sz])[i]? = some .dead := by
    rw [List.getElem?_append_left (by simpa using hil)]
    simp [hil]
  have le : LeH h β (h.set i .dead ++ [Obj.row xs e sz]) (upf β h.length v') := by
    intro j oj hj
    have hjl : j < h.length := (List.getElem?_eq_some_iff.1 hj).1
    by_cases hji : j = i
    · subst hji
      exact ⟨.dead, hgi, by cases oj <;> trivial, fun h => by cases h⟩
    · exact ⟨oj, by rw [hget j hjl hji]; exact hj, OLe.refl _, fun _ => upf_ne (by omega)⟩
  refine hr.upd (G := fun k => some k = (β i).ownBlock) ⟨hg.os, hg.tape, hg.output, hg.size, fun k hk hn => hg.block k hk hn⟩ h.length (.row xs e sz) (by rw [List.getElem?_append_right (by simp)]; simp) (fun j o hj ho hl => ?_) le (fun k hk => ⟨i, _, hi, rfl, bk_owns hown0 hk.symm⟩) (fun hm => ?_) (fun k hk => ?_)
  · have hjl : j < h.length := by
      have := (List.getElem?_eq_some_iff.1 ho).1
      simp at this
      omega
    by_cases hji : j = i
    · subst hji
      rw [hgi] at ho
      injection ho with ho
      subst ho
      cases hl
    · rw [hget j hjl hji] at ho
      refine ⟨ho, upf_ne hj, fun k hk hkg => ?_⟩
      exact hji (hr.sep j i o _ k ho hl hi rfl hk (bk_owns hown0 hkg.symm))
  · refine ⟨vs, ?_, RepL.move hm _ _ hv, hx, h0⟩
    rw [upf_eq]
    exact hown
  · rw [upf_eq] at hk
    have hk := owns_bk hown hk
    rcases hb with hb | hb
    · refine .inr ⟨i, _, hi, rfl, bk_owns hown0 (by rw [← hb]; exact hk), .inr (fun o' ho' => ?_)⟩
      rw [hgi] at ho'
      injection ho' with ho'
      subst ho'
      rfl
    · rw [hk] at hb
      injection hb with hb
      exact .inl (by omega)
/-- A row out of a nil slice. -/
theorem RelD.grow_nil (hr : RelD C h β V w) (xs : List (List GV)) (vs : List Value) (v' : Value) (e : TypeId) (sz : Nat)
    (hv : RepL V w xs.flatten vs) (hx : ∀ r ∈ xs, r.length = sz) (h0 : 0 < sz) (hown : w'.ownsRow 0 e sz v' xs.length vs) (hg : w.grownBy w' none)
    (hb : v'.ownBlock = none ∨ v'.ownBlock = some w.heap.size) :
    RelD C (h ++ [.row xs e sz]) (upf β h.length v') V w' := by
  refine hr.upd (G := fun _ => False) ⟨hg.os, hg.tape, hg.output, hg.size, fun k hk hn => hg.block k hk (by simp)⟩ h.length (.row xs e sz) (by simp) (snoc_oth (fun _ h => h)) (le_snoc _ _ _ _) (fun k hk => hk.elim) (fun hm => ?_) (fun k hk => ?_)
  · refine ⟨vs, ?_, RepL.move hm _ _ hv, hx, h0⟩
    rw [upf_eq]
    exact hown
  · rw [upf_eq] at hk
    have hk := owns_bk hown hk
    rw [hk] at hb
    simp at hb
    exact .inl (by omega)
end
end Go.Dm
