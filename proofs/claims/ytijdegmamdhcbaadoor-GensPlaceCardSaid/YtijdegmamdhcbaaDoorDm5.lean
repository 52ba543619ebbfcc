/-
  The second engine, fifth part: each operation's clause suffices for its run (first half). It holds of every program whose table of types is met.
-/
import Derived.Test.YtijdegmamdhcbaaDoorDm4
namespace Go.Dm
open Go Go.Eng Go.RowKit

section
variable {h : Heap} {β : Nat → Value} {V : Nat → Prop} {w : World}

theorem of1_rep (v : Value) : RepD h β V w (of1 v) v := by
  unfold of1
  split <;> simp only [RepD, RepV]
theorem ofL_rep : ∀ (cs : List Value), RepDL h β V w (cs.map of1) cs
  | [] => by simp [RepDL]
  | c :: cs => by simp only [List.map_cons, RepDL]; exact ⟨c, cs, rfl, of1_rep c, ofL_rep cs⟩
theorem ofV_rep (v : Value) : RepD h β V w (ofV v) v := by
  unfold ofV
  split
  · rename_i cs
    simp only [RepD]
    exact ⟨cs, rfl, ofL_rep cs⟩
  · exact of1_rep _

theorem glD_rep {G : Gl} (hG : GlOk G V w) (b : Nat) : RepD h β V w (glD G b) (.pointer (some ⟨b, 0, none⟩)) := by
  induction G with
  | nil => simp only [glD, RepD]
  | cons p l ih =>
    obtain ⟨b', cs⟩ := p
    simp only [glD]
    cases hb : Nat.beq b' b with
    | true =>
      have := Nat.eq_of_beq_eq_true hb
      subst this
      obtain ⟨h1, h2⟩ := hG (b', cs) List.mem_cons_self
      simp only [cond_true, RepD]
      exact ⟨⟨b', 0, none⟩, rfl, h1, h2⟩
    | false => exact ih (fun p hp => hG p (List.mem_cons_of_mem _ hp))

/-- The slots hold what they are said to. -/
def EnvOk (st : St) (β : Nat → Value) (V : Nat → Prop) (w : World) (a : Act) : Prop := ∀ i, RepD st.h β V w (st.env i) (a.tmps.getD i undef)
theorem EnvOk.eval {G : Gl} {st : St} {a : Act} (he : EnvOk st β V w a) (hG : GlOk G V w) (x : Operand) : RepD st.h β V w (sv G st x) (a.eval x) := by
  cases x with
  | tmp t => exact he t
  | const v => exact ofV_rep v
  | global g => exact glD_rep hG g
  | func f => simp only [sv, RepD]; exact ⟨[], [], rfl, by simp [RepDL], by simp [RepDL]⟩

theorem flat1_rep {d : D} {v : Value} (hf : flat1 h d = true) (hd : RepD h β V w d v) (hr : ∀ (i : Nat) (o : Obj), h[i]? = some o → ObjOk h β V w i o) : v.oneCell' = true ∧ cellsL v = [v] := by
  have row : ∀ (i : Nat) (xs : List (List GV)) (e sz : Nat), h[i]? = some (.row xs e sz) → ∃ A n c, β i = .slice A n c := by
    intro i xs e sz hi
    obtain ⟨vs, hown, _⟩ := hr i _ hi
    rcases hown.2 with ⟨hn, _⟩ | ⟨g, cap, cur, hb, _⟩
    · exact ⟨_, _, _, hn⟩
    · exact ⟨_, _, _, hb⟩
  cases d with
  | g x =>
    simp only [RepD] at hd
    cases x with
    | sl k xs => simp only [RepV] at hd; obtain ⟨A, cap, rfl, _⟩ := hd; exact ⟨rfl, rfl⟩
    | raw u => simp only [RepV] at hd; exact hd.2
    | _ => simp only [RepV] at hd; subst hd; exact ⟨rfl, rfl⟩
  | pb p => simp only [RepD] at hd; obtain ⟨b, rfl, _⟩ := hd; exact ⟨rfl, rfl⟩
  | pn p => simp only [RepD] at hd; obtain ⟨b, rfl, _⟩ := hd; exact ⟨rfl, rfl⟩
  | nils => simp only [RepD] at hd; subst hd; exact ⟨rfl, rfl⟩
  | row i =>
    simp only [flat1] at hf
    simp only [RepD] at hd
    split at hf
    · rename_i xs e sz hi
      rw [hi] at hd
      obtain ⟨A, n, c, hb⟩ := row i _ _ _ hi
      simp only at hd
      rw [hb] at hd
      subst hd
      exact ⟨rfl, rfl⟩
    · cases hf
  | rs i lo n =>
    simp only [flat1] at hf
    simp only [RepD] at hd
    split at hf
    · rename_i xs e sz hi
      rw [hi] at hd
      obtain ⟨_, A, m, cap, _, rfl⟩ := hd
      exact ⟨rfl, rfl⟩
    · cases hf
  | ptr i off =>
    simp only [flat1] at hf
    simp only [RepD] at hd
    split at hf
    · rename_i cs t hi
      rw [hi] at hd
      obtain ⟨g, _, rfl⟩ := hd
      exact ⟨rfl, rfl⟩
    · cases hf
  | el i j off =>
    simp only [flat1] at hf
    simp only [RepD] at hd
    split at hf
    · rename_i xs e sz hi
      rw [hi] at hd
      obtain ⟨_, g, n, c, _, rfl⟩ := hd
      exact ⟨rfl, rfl⟩
    · cases hf
  | fp r off => simp only [RepD] at hd; obtain ⟨a, rfl, _⟩ := hd; exact ⟨rfl, rfl⟩
  | nilP => simp only [RepD] at hd; subst hd; exact ⟨rfl, rfl⟩
  | nilF => simp only [RepD] at hd; subst hd; exact ⟨rfl, rfl⟩
  | nilI => simp only [RepD] at hd; subst hd; exact ⟨rfl, rfl⟩
  | fn f fs cs => simp only [RepD] at hd; obtain ⟨us, ts, rfl, _⟩ := hd; exact ⟨rfl, rfl⟩
  | iface t x => simp only [RepD] at hd; obtain ⟨u, rfl, _⟩ := hd; exact ⟨rfl, rfl⟩
  | agg cs => cases hf
  | tuple cs => cases hf
  | any => cases hf

theorem flatD_rep (hr : ∀ (i : Nat) (o : Obj), h[i]? = some o → ObjOk h β V w i o) : ∀ (ds : List D) (vs : List Value), flatD h ds = true → RepDL h β V w ds vs → flat vs = true
  | [], vs, _, hd => by simp only [RepDL] at hd; subst hd; rfl
  | d :: ds, vs, hf, hd => by
    simp only [RepDL] at hd
    obtain ⟨v, us, rfl, h1, h2⟩ := hd
    simp only [flatD, Bool.and_eq_true] at hf
    simp only [flat, Bool.and_eq_true]
    exact ⟨(flat1_rep hf.1 h1 hr).1, flatD_rep hr ds us hf.2 h2⟩

theorem cellsD_rep (hr : ∀ (i : Nat) (o : Obj), h[i]? = some o → ObjOk h β V w i o) {d : D} {v : Value} {ds : List D} (hc : cellsD h d = some ds) (hd : RepD h β V w d v) : RepDL h β V w ds (cellsL v) ∧ flat (cellsL v) = true := by
  unfold cellsD at hc
  split at hc
  · rename_i cs
    cases hf : flatD h cs with
    | false => rw [hf] at hc; cases hc
    | true =>
      rw [hf] at hc
      simp at hc
      subst hc
      simp only [RepD] at hd
      obtain ⟨us, rfl, h1⟩ := hd
      exact ⟨h1, flatD_rep hr cs us hf h1⟩
  · cases hf : flat1 h d with
    | false => rw [hf] at hc; cases hc
    | true =>
      rw [hf] at hc
      simp at hc
      subst hc
      obtain ⟨h1, h2⟩ := flat1_rep hf hd hr
      rw [h2]
      exact ⟨by simp only [RepDL]; exact ⟨v, [], rfl, hd, rfl⟩, by simp [flat, h1]⟩

theorem setL_length {α : Type} (vs : List α) : ∀ (l : List α) (o : Nat), (setL l o vs).length = l.length := by
  induction vs with
  | nil => intro l o; rfl
  | cons v vs ih => intro l o; simp [setL, ih]
theorem setL_rep : ∀ (ds : List D) (vs : List Value) (cs : List D) (us : List Value) (o : Nat), RepDL h β V w cs us → RepDL h β V w ds vs → RepDL h β V w (setL cs o ds) (setAt us o vs)
  | [], vs, cs, us, o, hc, hd => by simp only [RepDL] at hd; subst hd; simpa [setL, setAt] using hc
  | d :: ds, vs, cs, us, o, hc, hd => by
    simp only [RepDL] at hd
    obtain ⟨v, vs', rfl, h1, h2⟩ := hd
    simp only [setL, setAt]
    exact setL_rep ds vs' _ _ _ (hc.set o h1) h2
theorem setG_rep : ∀ (ds : List GV) (vs : List Value) (cs : List GV) (us : List Value) (o : Nat), RepL V w cs us → RepL V w ds vs → RepL V w (setL cs o ds) (setAt us o vs)
  | [], [], cs, us, o, hc, hd => by simpa [setL, setAt] using hc
  | [], _ :: _, _, _, _, _, hd => hd.elim
  | _ :: _, [], _, _, _, _, hd => hd.elim
  | d :: ds, v :: vs, cs, us, o, hc, hd => by
    simp only [setL, setAt]
    exact setG_rep ds vs _ _ _ (hc.set o hd.1) hd.2

theorem fillD_rep (place : Nat → Option (Nat × Nat)) : ∀ (ps : List (Nat × List D)) (qs : List (Nat × List Value)) (cs out : List D) (us : List Value), fillD place cs ps = some out → RepDL h β V w cs us →
    ps.length = qs.length → (∀ (i : Nat) p q, ps[i]? = some p → qs[i]? = some q → p.1 = q.1 ∧ RepDL h β V w p.2 q.2) → ∃ vout, fillO place us qs = some vout ∧ RepDL h β V w out vout
  | [], qs, cs, out, us, hf, hc, hl, _ => by
    cases qs with
    | nil => simp [fillD] at hf; subst hf; exact ⟨us, rfl, hc⟩
    | cons => simp at hl
  | (i, d) :: ps, qs, cs, out, us, hf, hc, hl, hp => by
    cases qs with
    | nil => simp at hl
    | cons q qs =>
      obtain ⟨i', v⟩ := q
      obtain ⟨rfl, hv⟩ := hp 0 (i, d) (i', v) rfl rfl
      simp only [fillD] at hf
      simp only [fillO]
      cases hpl : place i with
      | none => rw [hpl] at hf; cases hf
      | some os =>
        obtain ⟨off, size⟩ := os
        rw [hpl] at hf
        simp only at hf ⊢
        cases hb : Nat.beq d.length size && Nat.ble (off + size) cs.length with
        | false => rw [hb] at hf; cases hf
        | true =>
          rw [hb] at hf
          simp only [cond_true] at hf
          have e1 : v.length = d.length := hv.len.symm
          have e2 : us.length = cs.length := hc.len.symm
          rw [e1, e2, hb]
          simp only [cond_true]
          exact fillD_rep place ps qs _ out _ hf (setL_rep _ _ _ _ _ hc hv) (by simpa using hl) (fun j p q hp1 hq1 => hp (j + 1) p q (by simpa using hp1) (by simpa using hq1))

theorem partsD_rep (hr : ∀ (i : Nat) (o : Obj), h[i]? = some o → ObjOk h β V w i o) {f : Operand → D} {ev : Operand → Value} (he : ∀ x, RepD h β V w (f x) (ev x)) : ∀ (l : List (Nat × Operand)) (ps : List (Nat × List D)), partsD h f l = some ps →
    ps.length = (l.map fun p => (p.1, cellsL (ev p.2))).length ∧ ∀ (i : Nat) p q, ps[i]? = some p → (l.map fun p => (p.1, cellsL (ev p.2)))[i]? = some q → p.1 = q.1 ∧ RepDL h β V w p.2 q.2
  | [], ps, hp => by simp [partsD] at hp; subst hp; exact ⟨rfl, fun i p q h => by simp at h⟩
  | (i, o) :: l, ps, hp => by
    simp only [partsD] at hp
    split at hp
    · rename_i ds r h1 h2
      injection hp with hp
      subst hp
      obtain ⟨hl, hh⟩ := partsD_rep hr he l r h2
      refine ⟨by simpa using hl, fun j p q hp hq => ?_⟩
      cases j with
      | zero =>
        simp at hp hq
        subst hp
        subst hq
        exact ⟨rfl, (cellsD_rep hr h1 (he o)).1⟩
      | succ j => exact hh j p q (by simpa using hp) (by simpa using hq)
    · cases hp

theorem repD_rep (z : List D) (zs : List Value) (hz : RepDL h β V w z zs) : ∀ n, RepDL h β V w (repD z n) (repL zs n)
  | 0 => by simp [repD, repL, RepDL]
  | n + 1 => by simp only [repD, repL]; exact hz.append (repD_rep z zs hz n)

theorem seqOk_le {sz : Nat} : ∀ {ps : List (Nat × List D)} {i len : Nat}, seqOk sz i ps len = true → i ≤ len
  | [], i, len, h => by simp only [seqOk] at h; have := Nat.eq_of_beq_eq_true h; omega
  | (j, v) :: ps, i, len, h => by
    simp only [seqOk, Bool.and_eq_true] at h
    have := seqOk_le h.2.2
    omega
theorem setL_mid {α : Type} : ∀ (v : List α) (pre z rest : List α), v.length = z.length → setL (pre ++ (z ++ rest)) pre.length v = pre ++ (v ++ rest)
  | [], pre, z, rest, h => by cases z with | nil => rfl | cons => simp at h
  | x :: v, pre, z, rest, h => by
    cases z with
    | nil => simp at h
    | cons y z =>
      simp only [setL]
      have e : (pre ++ (y :: z ++ rest)).set pre.length x = (pre ++ [x]) ++ (z ++ rest) := by simp
      have hl : pre.length + 1 = (pre ++ [x]).length := by simp
      rw [e, hl, setL_mid v (pre ++ [x]) z rest (by simpa using h)]
      simp
theorem fillS_go {sz : Nat} {z : List D} (hz : z.length = sz) : ∀ (ps : List (Nat × List D)) (i len : Nat) (pre : List D), pre.length = i * sz → seqOk sz i ps len = true → fillD (fun i => some (i * sz, sz)) (pre ++ repD z (len - i)) ps = some (pre ++ flatP ps)
  | [], i, len, pre, hp, h => by
    simp only [seqOk] at h
    have := Nat.eq_of_beq_eq_true h
    subst this
    simp [fillD, flatP, repD]
  | (j, v) :: ps, i, len, pre, hp, h => by
    simp only [seqOk, Bool.and_eq_true] at h
    have hj := Nat.eq_of_beq_eq_true h.1
    have hv := Nat.eq_of_beq_eq_true h.2.1
    subst hj
    have hle := seqOk_le h.2.2
    have hn : len - j = (len - (j + 1)) + 1 := by omega
    rw [hn]
    simp only [fillD, repD, flatP]
    have hb : (Nat.beq v.length sz && Nat.ble (j * sz + sz) (pre ++ (z ++ repD z (len - (j + 1)))).length) = true := by
      rw [Bool.and_eq_true]
      refine ⟨h.2.1, Nat.ble_eq_true_of_le ?_⟩
      simp [hp, hz]
    rw [hb]
    simp only [cond_true]
    rw [← hp, setL_mid v pre z _ (by rw [hv, hz])]
    have := fillS_go hz ps (j + 1) len (pre ++ v) (by simp [hp, hv, Nat.succ_mul]) h.2.2
    rw [List.append_assoc] at this
    rw [this, List.append_assoc]
theorem fillS_fill {sz : Nat} {z : List D} (hz : z.length = sz) {len : Nat} {ps : List (Nat × List D)} {cs : List D} (h : fillS sz z len ps = some cs) : fillD (fun i => some (i * sz, sz)) (repD z len) ps = some cs := by
  unfold fillS at h
  cases hs : seqOk sz 0 ps len with
  | false => rw [hs] at h; exact h
  | true =>
    rw [hs] at h
    simp only [cond_true] at h
    have := fillS_go hz ps 0 len [] (by simp) hs
    simp only [List.nil_append, Nat.sub_zero] at this
    rw [this]
    exact h

/-- What is given away for good. -/
def killV (h : Heap) (l : List Nat) (β : Nat → Value) (V : Nat → Prop) : Nat → Prop := fun k => V k ∨ ∃ i o, i ∈ l ∧ h[i]? = some o ∧ o.live = true ∧ Bk o (β i) k
theorem kills_get : ∀ (l : List Nat) (h : Heap) (i : Nat) (o : Obj), (kills h l)[i]? = some o → (o = .dead ∧ (∃ o', h[i]? = some o')) ∨ (i ∉ l ∧ h[i]? = some o)
  | [], h, i, o, hi => .inr ⟨by simp, hi⟩
  | a :: l, h, i, o, hi => by
    simp only [kills] at hi
    rcases kills_get l (h.set a .dead) i o hi with ⟨rfl, o', ho'⟩ | ⟨hn, ho⟩
    · left
      refine ⟨rfl, ?_⟩
      by_cases hai : a = i
      · subst hai
        have : a < h.length := by have := (List.getElem?_eq_some_iff.1 ho').1; simpa using this
        exact ⟨_, List.getElem?_eq_getElem this⟩
      · rw [List.getElem?_set_ne hai] at ho'
        exact ⟨o', ho'⟩
    · by_cases hai : a = i
      · subst hai
        have hl : a < h.length := by have := (List.getElem?_eq_some_iff.1 ho).1; simpa using this
        left
        rw [List.getElem?_set_self hl] at ho
        injection ho with ho
        exact ⟨ho.symm, _, List.getElem?_eq_getElem hl⟩
      · right
        rw [List.getElem?_set_ne hai] at ho
        exact ⟨by simp [hn]; exact fun e => hai e.symm, ho⟩
theorem kills_len : ∀ (l : List Nat) (h : Heap), (kills h l).length = h.length
  | [], h => rfl
  | a :: l, h => by simp only [kills]; rw [kills_len l]; simp
theorem kills_le (l : List Nat) (h : Heap) (β : Nat → Value) : LeH h β (kills h l) β := by
  intro i o hi
  have hl : i < (kills h l).length := by rw [kills_len]; exact (List.getElem?_eq_some_iff.1 hi).1
  refine ⟨(kills h l)[i], List.getElem?_eq_getElem hl, ?_, fun _ => rfl⟩
  rcases kills_get l h i _ (List.getElem?_eq_getElem hl) with ⟨e, _⟩ | ⟨_, e⟩
  · rw [e]; cases o <;> trivial
  · rw [hi] at e
    injection e with e
    rw [← e]
    exact OLe.refl _
theorem kill_moved (h : Heap) (l : List Nat) (β : Nat → Value) (V : Nat → Prop) (w : World) : Moved V w (killV h l β V) w := fun _ hk => ⟨.inl hk, rfl⟩
theorem kill_rel {C : Ctx} (hr : RelD C h β V w) (l : List Nat) : RelD C (kills h l) β (killV h l β V) w := by
  have alive : ∀ (i : Nat) (o : Obj), (kills h l)[i]? = some o → o.live = true → i ∉ l ∧ h[i]? = some o := by
    intro i o hi hl
    rcases kills_get l h i o hi with ⟨rfl, _⟩ | h1
    · cases hl
    · exact h1
  refine ⟨fun i o hi => ?_, fun i j o o' k hi hl hj hl' hk hk' => ?_, fun i o k hi hl hk => ?_, fun i o k hi hl hk => ?_, fun k hk => ?_, fun k hk => .inl (hr.vin k hk), fun k hk => ?_, hr.fr, hr.gl.move (kill_moved h l β V w)⟩
  · cases hl : o.live with
    | false => cases o <;> simp_all [Obj.live, ObjOk]
    | true =>
      obtain ⟨_, h2⟩ := alive i o hi hl
      exact (hr.obj i o h2).keep (kills_le l h β) (kill_moved h l β V w) rfl (fun _ _ => rfl)
  · exact hr.sep i j o o' k (alive i o hi hl).2 hl (alive j o' hj hl').2 hl' hk hk'
  · exact hr.mine i o k (alive i o hi hl).2 hl hk
  · obtain ⟨h1, h2⟩ := alive i o hi hl
    rintro (hv | ⟨i', o', g1, g2, g3, g4⟩)
    · exact hr.vout i o k h2 hl hk hv
    · have := hr.sep i i' o o' k h2 hl g2 g3 hk g4
      subst this
      exact h1 g1
  · rcases hk with hk | ⟨i', o', g1, g2, g3, g4⟩
    · exact hr.vlt k hk
    · exact hr.lt g2 g3 g4
  · rcases hk with hk | ⟨i', o', g1, g2, g3, g4⟩
    · exact hr.vnew k hk
    · exact .inr (hr.mine i' o' k g2 g3 g4)

theorem ids_mem {l : List Nat} : ∀ {ds : List D} {d : D}, d ∈ ds → ∀ i ∈ ids 4 d, (∀ j ∈ idsL ds, j ∈ l) → i ∈ l
  | [], d, hd, i, hi, hl => by simp at hd
  | e :: ds, d, hd, i, hi, hl => by
    rcases List.mem_cons.1 hd with rfl | hd
    · exact hl i (by simp only [idsL, List.mem_append]; exact .inl hi)
    · exact ids_mem hd i hi (fun j hj => hl j (by simp only [idsL, List.mem_append]; exact .inr hj))

theorem sees_rep {C : Ctx} (hr : RelD C h β V w) {l : List Nat} {d : D} {v : Value} {y : GV} (hs : Sees h d y) (hd : RepD h β V w d v) (hl : ∀ i ∈ ids 4 d, i ∈ l) : RepV (killV h l β V) w y v := by
  cases d with
  | g x => simp only [Sees] at hs; subst hs; simp only [RepD] at hd; exact RepV.move (kill_moved h l β V w) _ _ hd
  | pb p =>
    obtain ⟨b, rfl, hb⟩ := hs
    simp only [RepD] at hd
    obtain ⟨b', rfl, hb'⟩ := hd
    have : b' = b := by have := hb'.trans hb.symm; cases b <;> cases b' <;> simp_all
    subst this
    simp only [RepV]
  | pn p =>
    obtain ⟨b, rfl, hb⟩ := hs
    simp only [RepD] at hd
    obtain ⟨b', rfl, hb'⟩ := hd
    have : b' = b := by have := hb'.trans hb.symm; cases b <;> cases b' <;> simp_all
    subst this
    simp only [RepV]
  | nils =>
    obtain ⟨k, rfl⟩ := hs
    simp only [RepD] at hd
    subst hd
    exact RepV.sl_nil k
  | row i =>
    simp only [Sees] at hs
    simp only [RepD] at hd
    split at hs
    · rename_i xs e sz hi
      subst hs
      rw [hi] at hd
      simp only at hd
      subst hd
      exact row_frozen (hr.obj i _ hi) (fun k hk => .inl hk) (fun k hk => .inr ⟨i, _, hl i (by simp [ids]), hi, rfl, hk⟩)
    · exact hs.elim
  | rs i lo n =>
    simp only [Sees] at hs
    simp only [RepD] at hd
    split at hs
    · rename_i xs e sz hi
      subst hs
      rw [hi] at hd
      simp only at hd
      obtain ⟨hlm, A, q, cap, hb, rfl⟩ := hd
      have hfz := row_frozen (V' := killV h l β V) (hr.obj i _ hi) (fun k hk => .inl hk) (fun k hk => .inr ⟨i, _, hl i (by simp [ids]), hi, rfl, hk⟩)
      rw [hb] at hfz
      have := hfz.piece (l := lo) (hh := lo + n) (by omega) hlm
      rw [List.drop_take, Nat.add_sub_cancel_left] at this
      exact this
    · exact hs.elim
  | _ => exact hs.elim
theorem seesL_rep {C : Ctx} (hr : RelD C h β V w) {l : List Nat} : ∀ {ds : List D} {vs : List Value} {ys : List GV}, SeesL h ds ys → RepDL h β V w ds vs → (∀ j ∈ idsL ds, j ∈ l) → RepL (killV h l β V) w ys vs
  | [], vs, [], _, hd, _ => by simp only [RepDL] at hd; subst hd; trivial
  | [], _, _ :: _, hs, _, _ => hs.elim
  | _ :: _, _, [], hs, _, _ => hs.elim
  | d :: ds, vs, y :: ys, hs, hd, hl => by
    simp only [RepDL] at hd
    obtain ⟨v, us, rfl, h1, h2⟩ := hd
    exact ⟨sees_rep hr hs.1 h1 (fun i hi => hl i (by simp only [idsL, List.mem_append]; exact .inl hi)), seesL_rep hr hs.2 h2 (fun j hj => hl j (by simp only [idsL, List.mem_append]; exact .inr hj))⟩
theorem allLen_mem {sz : Nat} : ∀ {xs : List (List GV)}, allLen sz xs = true → ∀ r ∈ xs, r.length = sz
  | [], _, r, hr => by simp at hr
  | x :: xs, h, r, hr => by
    simp only [allLen, Bool.and_eq_true] at h
    rcases List.mem_cons.1 hr with rfl | hr
    · exact Nat.eq_of_beq_eq_true h.1
    · exact allLen_mem h.2 r hr
theorem flat_len {sz : Nat} {α : Type} : ∀ {xs : List (List α)}, (∀ r ∈ xs, r.length = sz) → xs.flatten.length = xs.length * sz
  | [], _ => by simp
  | x :: xs, h => by
    have := flat_len (xs := xs) (fun r hr => h r (List.mem_cons_of_mem _ hr))
    have hx := h x List.mem_cons_self
    rw [List.flatten_cons, List.length_append, this, hx, List.length_cons, Nat.succ_mul]
    omega
end
end Go.Dm
