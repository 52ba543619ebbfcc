/-
  The second engine, third part: memory is told anew (some objects kept, others given away for good), likeness of abstract values, contracts, and what stands behind a call. It holds of every program.
-/
import Derived.Test.YtijdegmamdhcbaaDoorDm2
namespace Go.Dm
open Go Go.Eng Go.RowKit

inductive Src where
  | old (i : Nat)
  | nil (e : TypeId) (sz : Nat)
  | many0

def kp : List Src → Nat → Nat → Option Nat
  | [], _, _ => none
  | .old j :: l, p, i => bif Nat.beq j i then some p else kp l (p + 1) i
  | .nil _ _ :: l, p, i => kp l (p + 1) i
  | .many0 :: l, p, i => kp l (p + 1) i
def srcOk : List Src → Bool
  | [] => true
  | .old j :: l => (match kp l 0 j with | some _ => false | none => true) && srcOk l
  | .nil _ sz :: l => Nat.blt 0 sz && srcOk l
  | .many0 :: l => srcOk l

def plains : List D → Option (List GV)
  | [] => some []
  | .g x :: l => match plains l with
    | some gs => some (x :: gs)
    | none => none
  | _ :: _ => none

def conv (h : Heap) (src : List Src) : Nat → D → D
  | 0, _ => .any
  | n + 1, d => match d with
    | .row i => match kp src 0 i with
      | some j => .row j
      | none => match h[i]? with
        | some (.row xs _ sz) => .g (.sl sz xs)
        | _ => .any
    | .rs i lo m => match kp src 0 i with
      | some j => .rs j lo m
      | none => match h[i]? with
        | some (.row xs _ sz) => .g (.sl sz ((xs.drop lo).take m))
        | _ => .any
    | .ptr i off => match kp src 0 i with
      | some j => .ptr j off
      | none => match h[i]? with
        | some (.blk cs _) => match plains cs with
          | some gs => .fp gs off
          | none => .any
        | _ => .any
    | .el i j off => match kp src 0 i with
      | some i' => .el i' j off
      | none => .any
    | .fn f fs cs => .fn f (fs.map (conv h src n)) (cs.map (conv h src n))
    | .iface t x => .iface t (conv h src n x)
    | .agg cs => .agg (cs.map (conv h src n))
    | .tuple vs => .tuple (vs.map (conv h src n))
    | d => d

def ids : Nat → D → List Nat
  | 0, _ => []
  | n + 1, d => match d with
    | .row i => [i]
    | .rs i _ _ => [i]
    | .ptr i _ => [i]
    | .el i _ _ => [i]
    | .fn _ fs cs => fs.flatMap (ids n) ++ cs.flatMap (ids n)
    | .iface _ x => ids n x
    | .agg cs => cs.flatMap (ids n)
    | .tuple vs => vs.flatMap (ids n)
    | _ => []

def tagsT (src : List Src) : List (Value × Nat) → List (Value × Nat)
  | [] => []
  | (v, q) :: l => match kp src 0 q with
    | some j => (v, j) :: tagsT src l
    | none => tagsT src l
def turnO (h : Heap) (src : List Src) : Src → Obj
  | .old i => match h[i]? with
    | some (.blk cs t) => .blk (cs.map (conv h src 3)) t
    | some (.row xs e sz) => .row xs e sz
    | some (.many l ts) => .many l (tagsT src ts)
    | _ => .dead
  | .nil e sz => .row [] e sz
  | .many0 => .many [] []
def turnH (h : Heap) (src : List Src) : Heap := src.map (turnO h src)
def turnβ (src : List Src) (β : Nat → Value) (j : Nat) : Value := match src[j]? with
  | some (.old i) => β i
  | _ => .slice none 0 0

theorem kp_some : ∀ {src : List Src} {p i q : Nat}, kp src p i = some q → p ≤ q ∧ src[q - p]? = some (.old i)
  | [], p, i, q, h => by simp [kp] at h
  | .old j :: l, p, i, q, h => by
    simp only [kp] at h
    cases hb : Nat.beq j i with
    | true =>
      rw [hb] at h
      simp at h
      subst h
      have := Nat.eq_of_beq_eq_true hb
      subst this
      exact ⟨Nat.le_refl _, by simp⟩
    | false =>
      rw [hb] at h
      simp only [cond_false] at h
      obtain ⟨h1, h2⟩ := kp_some h
      refine ⟨by omega, ?_⟩
      rw [show q - p = (q - (p + 1)) + 1 from by omega]
      simpa using h2
  | .nil e sz :: l, p, i, q, h => by
    simp only [kp] at h
    obtain ⟨h1, h2⟩ := kp_some h
    refine ⟨by omega, ?_⟩
    rw [show q - p = (q - (p + 1)) + 1 from by omega]
    simpa using h2
  | .many0 :: l, p, i, q, h => by
    simp only [kp] at h
    obtain ⟨h1, h2⟩ := kp_some h
    refine ⟨by omega, ?_⟩
    rw [show q - p = (q - (p + 1)) + 1 from by omega]
    simpa using h2
theorem tagsT_mem {src : List Src} : ∀ {ts : List (Value × Nat)} {t : Value × Nat}, t ∈ tagsT src ts → ∃ q, (t.1, q) ∈ ts ∧ kp src 0 q = some t.2
  | [], t, h => by simp [tagsT] at h
  | (v, q) :: l, t, h => by
    simp only [tagsT] at h
    split at h
    · rename_i j hj
      rcases List.mem_cons.1 h with rfl | h
      · exact ⟨q, List.mem_cons_self, hj⟩
      · obtain ⟨q', h1, h2⟩ := tagsT_mem h
        exact ⟨q', List.mem_cons_of_mem _ h1, h2⟩
    · obtain ⟨q', h1, h2⟩ := tagsT_mem h
      exact ⟨q', List.mem_cons_of_mem _ h1, h2⟩
theorem kp_of : ∀ {src : List Src} {p i j : Nat}, src[j]? = some (.old i) → ∃ q, kp src p i = some q
  | [], p, i, j, h => by simp at h
  | .old j' :: l, p, i, j, h => by
    simp only [kp]
    cases hb : Nat.beq j' i with
    | true => exact ⟨p, rfl⟩
    | false =>
      cases j with
      | zero => simp at h; subst h; rw [Nat.beq_refl] at hb; cases hb
      | succ j => exact kp_of (by simpa using h)
  | .nil e sz :: l, p, i, j, h => by
    simp only [kp]
    cases j with
    | zero => simp at h
    | succ j => exact kp_of (by simpa using h)
  | .many0 :: l, p, i, j, h => by
    simp only [kp]
    cases j with
    | zero => simp at h
    | succ j => exact kp_of (by simpa using h)
theorem kp_inj : ∀ {src : List Src}, srcOk src = true → ∀ {i a b : Nat}, src[a]? = some (.old i) → src[b]? = some (.old i) → a = b
  | [], _, i, a, b, h, _ => by simp at h
  | .old j :: l, hs, i, a, b, ha, hb => by
    simp only [srcOk, Bool.and_eq_true] at hs
    have no : ∀ c : Nat, l[c]? ≠ some (Src.old j) := by
      intro c hc
      obtain ⟨q, hq⟩ := kp_of (p := 0) hc
      rw [hq] at hs
      exact absurd hs.1 (by simp)
    cases a with
    | zero =>
      cases b with
      | zero => rfl
      | succ b => simp at ha hb; subst ha; exact absurd hb (no b)
    | succ a =>
      cases b with
      | zero => simp at ha hb; subst hb; exact absurd ha (no a)
      | succ b => rw [kp_inj hs.2 (i := i) (a := a) (b := b) (by simpa using ha) (by simpa using hb)]
  | .nil e sz :: l, hs, i, a, b, ha, hb => by
    simp only [srcOk, Bool.and_eq_true] at hs
    cases a with
    | zero => simp at ha
    | succ a =>
      cases b with
      | zero => simp at hb
      | succ b => rw [kp_inj hs.2 (i := i) (a := a) (b := b) (by simpa using ha) (by simpa using hb)]
  | .many0 :: l, hs, i, a, b, ha, hb => by
    simp only [srcOk] at hs
    cases a with
    | zero => simp at ha
    | succ a =>
      cases b with
      | zero => simp at hb
      | succ b => rw [kp_inj hs (i := i) (a := a) (b := b) (by simpa using ha) (by simpa using hb)]
theorem srcOk_nil : ∀ {src : List Src}, srcOk src = true → ∀ {a e sz : Nat}, src[a]? = some (.nil e sz) → 0 < sz
  | [], _, a, e, sz, h => by simp at h
  | .old j :: l, hs, a, e, sz, h => by
    simp only [srcOk, Bool.and_eq_true] at hs
    cases a with
    | zero => simp at h
    | succ a => exact srcOk_nil hs.2 (by simpa using h)
  | .nil e' sz' :: l, hs, a, e, sz, h => by
    simp only [srcOk, Bool.and_eq_true] at hs
    cases a with
    | zero => simp at h; obtain ⟨rfl, rfl⟩ := h; exact Nat.le_of_ble_eq_true hs.1
    | succ a => exact srcOk_nil hs.2 (by simpa using h)
  | .many0 :: l, hs, a, e, sz, h => by
    simp only [srcOk] at hs
    cases a with
    | zero => simp at h
    | succ a => exact srcOk_nil hs (by simpa using h)

theorem plains_rep {h : Heap} {β : Nat → Value} {V : Nat → Prop} {w : World} : ∀ {cs : List D} {gs : List GV} {vs : List Value}, plains cs = some gs → RepDL h β V w cs vs → RepL V w gs vs
  | [], gs, vs, hp, hr => by simp [plains] at hp; subst hp; simp only [RepDL] at hr; subst hr; trivial
  | d :: cs, gs, vs, hp, hr => by
    simp only [RepDL] at hr
    obtain ⟨v, us, rfl, h1, h2⟩ := hr
    cases d <;> simp only [plains] at hp <;> try (cases hp; done)
    rename_i x
    cases hl : plains cs with
    | none => rw [hl] at hp; cases hp
    | some gs' =>
      rw [hl] at hp
      simp at hp
      subst hp
      simp only [RepD] at h1
      exact ⟨h1, plains_rep hl h2⟩

section
variable {C : Ctx} {h h' : Heap} {β β' : Nat → Value} {V V' : Nat → Prop} {w w' : World} {src : List Src}

/-- What is frozen of an own row. -/
theorem row_frozen {i : Nat} {xs : List (List GV)} {e sz : Nat} (ho : ObjOk h β V w i (.row xs e sz)) (hV : ∀ k, V k → V' k) (hb : ∀ k, bk (β i) = some k → V' k) : RepV V' w (.sl sz xs) (β i) := by
  obtain ⟨vs, hown, hv, hx, h0⟩ := ho
  have hv' : RepL V' w xs.flatten vs := RepL.move (fun k hk => ⟨hV k hk, rfl⟩) _ _ hv
  rcases hown.2 with ⟨hn, h1⟩ | ⟨g, cap, cur, hbv, hb0, hg, hnc, hcm, hsz, ht⟩
  · have : xs = [] := List.eq_nil_of_length_eq_zero h1
    subst this
    rw [hn]
    exact RepV.sl_nil sz
  · rw [hbv]
    refine RepV.sl_of hnc (fun _ => ⟨hb g (by rw [hbv]; rfl), RepAll.of_flat xs vs 0 hx hv' (fun j v hj => ?_)⟩)
    have := hown.cells (g := g) (by rw [hbv]; rfl) j v hj
    rw [show 0 * sz + j = j from by omega]
    exact this

mutual
theorem conv_rep (hr : RelD C h β V w) (Z : Nat → Prop) (hV : ∀ k, V k → V' k) (hZ : ∀ (i : Nat) (o : Obj) (k : Nat), Z i → h[i]? = some o → o.live = true → Bk o (β i) k → V' k) :
    ∀ (n : Nat) (d : D) (v : Value), (∀ i ∈ ids n d, kp src 0 i = none → Z i) → RepD h β V w d v → RepD (turnH h src) (turnβ src β) V' w (conv h src n d) v
  | 0, d, v, _, _ => by simp only [conv, RepD]
  | n + 1, .g x, v, hz, hd => by
    simp only [conv, RepD] at hd ⊢
    exact RepV.move (fun k hk => ⟨hV k hk, rfl⟩) _ _ hd
  | n + 1, .pb p, v, hz, hd => by simp only [conv, RepD] at hd ⊢; exact hd
  | n + 1, .pn p, v, hz, hd => by simp only [conv, RepD] at hd ⊢; exact hd
  | n + 1, .nils, v, hz, hd => by simp only [conv, RepD] at hd ⊢; exact hd
  | n + 1, .row i, v, hz, hd => by
    simp only [conv]
    cases hk : kp src 0 i with
    | some j =>
      obtain ⟨_, hj⟩ := kp_some hk
      have hj : src[j]? = some (.old i) := hj
      simp only [RepD] at hd ⊢
      have hT : (turnH h src)[j]? = some (turnO h src (.old i)) := by simp [turnH, hj]
      have hB : turnβ src β j = β i := by simp [turnβ, hj]
      rw [hT, hB]
      cases ho : h[i]? with
      | none => rw [ho] at hd; exact hd.elim
      | some o => rw [ho] at hd; cases o <;> simp_all [turnO]
    | none =>
      cases ho : h[i]? with
      | none => simp only [RepD]
      | some o =>
        cases o with
        | blk cs t => simp only [RepD]
        | many l ts => simp only [RepD]
        | dead => simp only [RepD]
        | row xs e sz =>
          simp only [RepD] at hd ⊢
          rw [ho] at hd
          simp only at hd
          subst hd
          exact row_frozen (hr.obj i _ ho) hV (fun k hk' => hZ i _ k (hz i (by simp [ids]) hk) ho rfl hk')
  | n + 1, .rs i lo m, v, hz, hd => by
    simp only [conv]
    cases hk : kp src 0 i with
    | some j =>
      obtain ⟨_, hj⟩ := kp_some hk
      have hj : src[j]? = some (.old i) := hj
      simp only [RepD] at hd ⊢
      have hT : (turnH h src)[j]? = some (turnO h src (.old i)) := by simp [turnH, hj]
      have hB : turnβ src β j = β i := by simp [turnβ, hj]
      rw [hT, hB]
      cases ho : h[i]? with
      | none => rw [ho] at hd; exact hd.elim
      | some o => rw [ho] at hd; cases o <;> simp_all [turnO]
    | none =>
      cases ho : h[i]? with
      | none => simp only [RepD]
      | some o =>
        cases o with
        | blk cs t => simp only [RepD]
        | many l ts => simp only [RepD]
        | dead => simp only [RepD]
        | row xs e sz =>
          simp only [RepD] at hd ⊢
          rw [ho] at hd
          simp only at hd
          obtain ⟨hlm, A, q, cap, hb, rfl⟩ := hd
          have hfz := row_frozen (hr.obj i _ ho) hV (fun k hk' => hZ i _ k (hz i (by simp [ids]) hk) ho rfl hk')
          rw [hb] at hfz
          have := hfz.piece (l := lo) (hh := lo + m) (by omega) hlm
          rw [List.drop_take, Nat.add_sub_cancel_left] at this
          exact this
  | n + 1, .ptr i off, v, hz, hd => by
    simp only [conv]
    cases hk : kp src 0 i with
    | some j =>
      obtain ⟨_, hj⟩ := kp_some hk
      have hj : src[j]? = some (.old i) := hj
      simp only [RepD] at hd ⊢
      have hT : (turnH h src)[j]? = some (turnO h src (.old i)) := by simp [turnH, hj]
      have hB : turnβ src β j = β i := by simp [turnβ, hj]
      rw [hT, hB]
      cases ho : h[i]? with
      | none => rw [ho] at hd; exact hd.elim
      | some o => rw [ho] at hd; cases o <;> simp_all [turnO]
    | none =>
      cases ho : h[i]? with
      | none => simp only [RepD]
      | some o =>
        cases o with
        | row xs e sz => simp only [RepD]
        | many l ts => simp only [RepD]
        | dead => simp only [RepD]
        | blk cs t =>
          simp only
          cases hp : plains cs with
          | none => simp only [RepD]
          | some gs =>
            simp only [RepD] at hd ⊢
            rw [ho] at hd
            simp only at hd
            obtain ⟨g, hb, rfl⟩ := hd
            obtain ⟨g', vs, hb', hg, hc⟩ := hr.obj i _ ho
            have e : g' = g := by rw [hb] at hb'; injection hb' with hb'; injection hb' with hb'; injection hb' with hb'; exact hb'.symm
            subst e
            refine ⟨⟨g', 0, none⟩, by rw [add_mk, Nat.zero_add], hZ i _ g' (hz i (by simp [ids]) hk) ho rfl (by rw [hb]; rfl), RepRow.of_cells gs vs 0 (RepL.move (fun k hk => ⟨hV k hk, rfl⟩) _ _ (plains_rep hp hc)) (fun j u hj => ?_)⟩
            rw [add_mk, cell_of_row w _ _ _ _ _ hg]
            simpa using hj
  | n + 1, .el i j off, v, hz, hd => by
    simp only [conv]
    cases hk : kp src 0 i with
    | some q =>
      obtain ⟨_, hj⟩ := kp_some hk
      have hj : src[q]? = some (.old i) := hj
      simp only [RepD] at hd ⊢
      have hT : (turnH h src)[q]? = some (turnO h src (.old i)) := by simp [turnH, hj]
      have hB : turnβ src β q = β i := by simp [turnβ, hj]
      rw [hT, hB]
      cases ho : h[i]? with
      | none => rw [ho] at hd; exact hd.elim
      | some o => rw [ho] at hd; cases o <;> simp_all [turnO]
    | none => simp only [RepD]
  | n + 1, .fp r off, v, hz, hd => by
    simp only [conv, RepD] at hd ⊢
    obtain ⟨a, hv, hVa, hrow⟩ := hd
    exact ⟨a, hv, hV _ hVa, RepRow.move (fun k hk => ⟨hV k hk, rfl⟩) hVa _ _ hrow⟩
  | n + 1, .nilP, v, hz, hd => by simp only [conv, RepD] at hd ⊢; exact hd
  | n + 1, .nilF, v, hz, hd => by simp only [conv, RepD] at hd ⊢; exact hd
  | n + 1, .nilI, v, hz, hd => by simp only [conv, RepD] at hd ⊢; exact hd
  | n + 1, .fn f fs cs, v, hz, hd => by
    simp only [conv, RepD] at hd ⊢
    obtain ⟨us, ts, hv, h1, h2⟩ := hd
    exact ⟨us, ts, hv, convL_rep hr Z hV hZ n fs us (fun d hd i hi => hz i (by simp only [ids, List.mem_append, List.mem_flatMap]; exact .inl ⟨d, hd, hi⟩)) h1, convL_rep hr Z hV hZ n cs ts (fun d hd i hi => hz i (by simp only [ids, List.mem_append, List.mem_flatMap]; exact .inr ⟨d, hd, hi⟩)) h2⟩
  | n + 1, .iface t x, v, hz, hd => by
    simp only [conv, RepD] at hd ⊢
    obtain ⟨u, hv, h1⟩ := hd
    exact ⟨u, hv, conv_rep hr Z hV hZ n x u (fun i hi => hz i (by simp only [ids]; exact hi)) h1⟩
  | n + 1, .agg cs, v, hz, hd => by
    simp only [conv, RepD] at hd ⊢
    obtain ⟨us, hv, h1⟩ := hd
    exact ⟨us, hv, convL_rep hr Z hV hZ n cs us (fun d hd i hi => hz i (by simp only [ids, List.mem_flatMap]; exact ⟨d, hd, hi⟩)) h1⟩
  | n + 1, .tuple cs, v, hz, hd => by
    simp only [conv, RepD] at hd ⊢
    obtain ⟨us, hv, h1⟩ := hd
    exact ⟨us, hv, convL_rep hr Z hV hZ n cs us (fun d hd i hi => hz i (by simp only [ids, List.mem_flatMap]; exact ⟨d, hd, hi⟩)) h1⟩
  | n + 1, .any, v, hz, hd => by simp only [conv, RepD]
theorem convL_rep (hr : RelD C h β V w) (Z : Nat → Prop) (hV : ∀ k, V k → V' k) (hZ : ∀ (i : Nat) (o : Obj) (k : Nat), Z i → h[i]? = some o → o.live = true → Bk o (β i) k → V' k) :
    ∀ (n : Nat) (ds : List D) (vs : List Value), (∀ d ∈ ds, ∀ i ∈ ids n d, kp src 0 i = none → Z i) → RepDL h β V w ds vs → RepDL (turnH h src) (turnβ src β) V' w (ds.map (conv h src n)) vs
  | n, [], vs, _, hd => by simp only [RepDL, List.map_nil] at hd ⊢; exact hd
  | n, d :: ds, vs, hz, hd => by
    simp only [RepDL, List.map_cons] at hd ⊢
    obtain ⟨v, us, hv, h1, h2⟩ := hd
    exact ⟨v, us, hv, conv_rep hr Z hV hZ n d v (hz d List.mem_cons_self) h1, convL_rep hr Z hV hZ n ds us (fun d hd => hz d (List.mem_cons_of_mem _ hd)) h2⟩
end

/-- All that is not kept is given away for good. -/
def turnV (h : Heap) (src : List Src) (β : Nat → Value) (V : Nat → Prop) : Nat → Prop := fun k => V k ∨ ∃ i o, kp src 0 i = none ∧ h[i]? = some o ∧ o.live = true ∧ Bk o (β i) k

theorem turn_d (hr : RelD C h β V w) (n : Nat) (d : D) (v : Value) (hd : RepD h β V w d v) : RepD (turnH h src) (turnβ src β) (turnV h src β V) w (conv h src n d) v :=
  conv_rep hr (fun i => kp src 0 i = none) (fun _ hk => .inl hk) (fun i o _ h1 h2 h3 h4 => .inr ⟨i, o, h1, h2, h3, h4⟩) n d v (fun _ _ h => h) hd
theorem turn_dl (hr : RelD C h β V w) (n : Nat) (d : List D) (v : List Value) (hd : RepDL h β V w d v) : RepDL (turnH h src) (turnβ src β) (turnV h src β V) w (d.map (conv h src n)) v :=
  convL_rep hr (fun i => kp src 0 i = none) (fun _ hk => .inl hk) (fun i o _ h1 h2 h3 h4 => .inr ⟨i, o, h1, h2, h3, h4⟩) n d v (fun _ _ _ _ h => h) hd

theorem tagT_ok {ts : List (Value × Nat)} (h3 : ∀ t ∈ ts, TagOk h β t) {t : Value × Nat} (ht : t ∈ tagsT src ts) : TagOk (turnH h src) (turnβ src β) t := by
  obtain ⟨q, hq, hk⟩ := tagsT_mem ht
  have hj : src[t.2]? = some (.old q) := (kp_some hk).2
  obtain ⟨o, ho, hb⟩ := h3 _ hq
  refine ⟨turnO h src (.old q), by simp [turnH, hj], fun hl => ?_⟩
  have : turnβ src β t.2 = β q := by simp [turnβ, hj]
  rw [this]
  exact hb (by cases o <;> simp_all [turnO, Obj.live])
theorem turn_rel (hr : RelD C h β V w) (hs : srcOk src = true) : RelD C (turnH h src) (turnβ src β) (turnV h src β V) w := by
  have at_ : ∀ (j : Nat) (o : Obj), (turnH h src)[j]? = some o → ∃ s, src[j]? = some s ∧ o = turnO h src s := by
    intro j o hj
    unfold turnH at hj
    rw [List.getElem?_map] at hj
    cases hsj : src[j]? with
    | none => rw [hsj] at hj; cases hj
    | some s => rw [hsj] at hj; simp at hj; exact ⟨s, rfl, hj.symm⟩
  have old : ∀ (j : Nat) (o : Obj) (k : Nat), (turnH h src)[j]? = some o → o.live = true → Bk o (turnβ src β j) k → ∃ i o', src[j]? = some (.old i) ∧ h[i]? = some o' ∧ o'.live = true ∧ Bk o' (β i) k := by
    intro j o k hj hl hk
    obtain ⟨s, hsj, rfl⟩ := at_ j o hj
    cases s with
    | nil e sz => simp [turnO, Bk, turnβ, hsj, bk] at hk
    | many0 => simp [turnO, Bk] at hk
    | old i =>
      have hB : turnβ src β j = β i := by simp [turnβ, hsj]
      rw [hB] at hk
      cases ho : h[i]? with
      | none => simp [turnO, ho, Obj.live] at hl
      | some o' =>
        cases o' with
        | dead => simp [turnO, ho, Obj.live] at hl
        | blk cs t => exact ⟨i, _, hsj, ho, rfl, by simpa only [turnO, ho, Bk] using hk⟩
        | row xs e sz => exact ⟨i, _, hsj, ho, rfl, by simpa only [turnO, ho, Bk] using hk⟩
        | many l ts => exact ⟨i, _, hsj, ho, rfl, by simpa only [turnO, ho, Bk] using hk⟩
  refine ⟨?_, ?_, ?_, ?_, ?_, ?_, ?_, hr.fr, hr.gl.move (fun k hk => ⟨.inl hk, rfl⟩)⟩
  · intro j o hj
    obtain ⟨s, hsj, rfl⟩ := at_ j o hj
    cases s with
    | nil e sz =>
      have hB : turnβ src β j = .slice none 0 0 := by simp [turnβ, hsj]
      refine ⟨[], ?_, trivial, fun r hr => by simp at hr, srcOk_nil hs hsj⟩
      rw [hB]
      exact World.ownsRow_nil w 0 e sz
    | many0 =>
      simp only [turnO, ObjOk]
      exact ⟨fun p hp => (by simp at hp), List.Pairwise.nil, fun t ht => (by simp at ht)⟩
    | old i =>
      have hB : turnβ src β j = β i := by simp [turnβ, hsj]
      cases ho : h[i]? with
      | none => simp [turnO, ho, ObjOk]
      | some o' =>
        cases o' with
        | dead => simp [turnO, ho, ObjOk]
        | blk cs t =>
          obtain ⟨g, vs, hb, hg, hc⟩ := hr.obj i _ ho
          simp only [turnO, ho, ObjOk]
          exact ⟨g, vs, hB.trans hb, hg, turn_dl hr 3 _ _ hc⟩
        | row xs e sz =>
          obtain ⟨vs, hown, hv, hx, h0⟩ := hr.obj i _ ho
          simp only [turnO, ho, ObjOk]
          exact ⟨vs, by rw [hB]; exact hown, RepL.move (fun k hk => ⟨.inl hk, rfl⟩) _ _ hv, hx, h0⟩
        | many l ts =>
          obtain ⟨h1, h2, h3⟩ := hr.obj i _ ho
          simp only [turnO, ho, ObjOk]
          exact ⟨fun p hp => (h1 p hp).keep (fun k hk => ⟨.inl hk, rfl⟩) (fun _ _ => rfl), h2, fun t ht => tagT_ok h3 ht⟩
  · intro a b o o' k ha hla hb hlb hka hkb
    obtain ⟨i, oi, hi1, hi2, hi3, hi4⟩ := old a o k ha hla hka
    obtain ⟨j, oj, hj1, hj2, hj3, hj4⟩ := old b o' k hb hlb hkb
    have := hr.sep i j oi oj k hi2 hi3 hj2 hj3 hi4 hj4
    subst this
    exact kp_inj hs hi1 hj1
  · intro j o k hj hl hk
    obtain ⟨i, oi, hi1, hi2, hi3, hi4⟩ := old j o k hj hl hk
    exact hr.mine i oi k hi2 hi3 hi4
  · intro j o k hj hl hk hv
    obtain ⟨i, oi, hi1, hi2, hi3, hi4⟩ := old j o k hj hl hk
    rcases hv with hv | ⟨i', o', hn, h1, h2, h3⟩
    · exact hr.vout i oi k hi2 hi3 hi4 hv
    · have := hr.sep i i' oi o' k hi2 hi3 h1 h2 hi4 h3
      subst this
      obtain ⟨q, hq⟩ := kp_of (p := 0) hi1
      rw [hn] at hq
      cases hq
  · intro k hk
    rcases hk with hk | ⟨i, o, _, h1, h2, h3⟩
    · exact hr.vlt k hk
    · exact hr.lt h1 h2 h3
  · intro k hk
    exact .inl (hr.vin k hk)
  · intro k hk
    rcases hk with hk | ⟨i, o, _, h1, h2, h3⟩
    · exact hr.vnew k hk
    · exact .inr (hr.mine i o k h1 h2 h3)
end

def likeL (R : D → D → Prop) : List D → List D → Prop
  | [], [] => True
  | d :: ds, e :: es => R d e ∧ likeL R ds es
  | _, _ => False
def Like (N : Nat → Bool) : Nat → D → D → Prop
  | 0, d, d' => d = d'
  | n + 1, d, d' => d = d' ∨ match d, d' with
    | _, .any => True
    | .pb p, .pb q => (p ↔ q)
    | .pb p, .g (.bool b) => (b = true ↔ p)
    | .pn p, .pb q => (¬p ↔ q)
    | .pn p, .g (.bool b) => (b = true ↔ ¬p)
    | .g (.bool b), .pb q => (b = true ↔ q)
    | .g (.int a), .g (.int b) => a = b
    | .g (.str a), .g (.str b) => a = b
    | .g (.sl k a), .g (.sl k' b) => k = k' ∧ a = b
    | .nils, .g (.sl _ xs) => xs = []
    | .nils, .row j => N j = true
    | .agg cs, .agg ds => likeL (Like N n) cs ds
    | .tuple cs, .tuple ds => likeL (Like N n) cs ds
    | .fn f fs cs, .fn g gs ds => f = g ∧ likeL (Like N n) fs gs ∧ likeL (Like N n) cs ds
    | .iface t x, .iface t' x' => t = t' ∧ Like N n x x'
    | _, _ => False

section
variable {h : Heap} {β : Nat → Value} {V : Nat → Prop} {w : World} {N : Nat → Bool}
theorem likeL_rep {R : D → D → Prop} (hR : ∀ d d' v, R d d' → RepD h β V w d v → RepD h β V w d' v) : ∀ (ds es : List D) (vs : List Value), likeL R ds es → RepDL h β V w ds vs → RepDL h β V w es vs
  | [], [], vs, _, hr => hr
  | [], _ :: _, _, hl, _ => hl.elim
  | _ :: _, [], _, hl, _ => hl.elim
  | d :: ds, e :: es, vs, hl, hr => by
    simp only [RepDL] at hr ⊢
    obtain ⟨v, us, hv, h1, h2⟩ := hr
    exact ⟨v, us, hv, hR d e v hl.1 h1, likeL_rep hR ds es us hl.2 h2⟩
theorem like_rep (hN : ∀ j, N j = true → β j = .slice none 0 0 ∧ ∃ xs e sz, h[j]? = some (.row xs e sz)) : ∀ (n : Nat) (d d' : D) (v : Value), Like N n d d' → RepD h β V w d v → RepD h β V w d' v := by
  intro n
  induction n with
  | zero => intro d d' v hl hr; simp only [Like] at hl; subst hl; exact hr
  | succ n ih =>
    intro d d' v hl hr
    simp only [Like] at hl
    rcases hl with rfl | hl
    · exact hr
    · split at hl
      · simp only [RepD]
      · simp only [RepD] at hr ⊢; obtain ⟨b, hv, hb⟩ := hr; exact ⟨b, hv, hb.trans hl⟩
      · simp only [RepD] at hr ⊢
        obtain ⟨b, hv, hb⟩ := hr
        rename_i p c
        have : b = c := by cases b <;> cases c <;> simp_all
        subst this
        simpa [RepV] using hv
      · simp only [RepD] at hr ⊢; obtain ⟨b, hv, hb⟩ := hr; exact ⟨b, hv, hb.trans hl⟩
      · simp only [RepD] at hr ⊢
        obtain ⟨b, hv, hb⟩ := hr
        rename_i p c
        have : b = c := by
          have := hb.trans hl.symm
          cases b <;> cases c <;> simp_all
        subst this
        simpa [RepV] using hv
      · simp only [RepD, RepV] at hr ⊢; exact ⟨_, hr, hl⟩
      · subst hl; exact hr
      · subst hl; exact hr
      · obtain ⟨rfl, rfl⟩ := hl; exact hr
      · subst hl
        simp only [RepD] at hr ⊢
        subst hr
        exact RepV.sl_nil _
      · simp only [RepD] at hr ⊢
        obtain ⟨h1, xs, e, sz, h2⟩ := hN _ hl
        rw [h2, hr, h1]
      · simp only [RepD] at hr ⊢; obtain ⟨us, hv, h1⟩ := hr; exact ⟨us, hv, likeL_rep ih _ _ _ hl h1⟩
      · simp only [RepD] at hr ⊢; obtain ⟨us, hv, h1⟩ := hr; exact ⟨us, hv, likeL_rep ih _ _ _ hl h1⟩
      · obtain ⟨rfl, l1, l2⟩ := hl
        simp only [RepD] at hr ⊢; obtain ⟨us, ts, hv, h1, h2⟩ := hr; exact ⟨us, ts, hv, likeL_rep ih _ _ _ l1 h1, likeL_rep ih _ _ _ l2 h2⟩
      · obtain ⟨rfl, l1⟩ := hl
        simp only [RepD] at hr ⊢; obtain ⟨us, hv, h1⟩ := hr; exact ⟨us, hv, ih _ _ _ l1 h1⟩
      · exact hl.elim
end
/-- No new row. -/
def N0 : Nat → Bool := fun _ => false
def likeA (ds es : List D) : Prop := ds = es ∨ likeL (Like N0 4) ds es
theorem likeA_rep {h : Heap} {β : Nat → Value} {V : Nat → Prop} {w : World} {ds es : List D} {vs : List Value} (hl : likeA ds es) (hr : RepDL h β V w ds vs) : RepDL h β V w es vs := by
  rcases hl with rfl | hl
  · exact hr
  · exact likeL_rep (like_rep (N := N0) (fun j h => by cases h) 4) _ _ _ hl hr

def likeO (N : Nat → Bool) : Obj → Obj → Prop
  | _, .dead => True
  | .blk cs t, .blk ds t' => t = t' ∧ (cs = ds ∨ likeL (Like N 4) cs ds)
  | .row xs e sz, .row ys e' sz' => xs = ys ∧ e = e' ∧ sz = sz'
  | .many l ts, .many l' ts' => l.Perm l' ∧ ts = ts'
  | _, _ => False
def likeH (N : Nat → Bool) : Heap → Heap → Prop
  | [], [] => True
  | a :: l, b :: m => likeO N a b ∧ likeH N l m
  | _, _ => False
theorem likeH_at {N : Nat → Bool} : ∀ {h h' : Heap}, likeH N h h' → (∀ (i : Nat) (o : Obj), h[i]? = some o → ∃ o', h'[i]? = some o' ∧ likeO N o o') ∧ ∀ (i : Nat) (o' : Obj), h'[i]? = some o' → ∃ o, h[i]? = some o ∧ likeO N o o'
  | [], [], _ => ⟨fun i o h => by simp at h, fun i o h => by simp at h⟩
  | [], _ :: _, h => h.elim
  | _ :: _, [], h => h.elim
  | a :: l, b :: m, h => by
    obtain ⟨h1, h2⟩ := likeH_at h.2
    refine ⟨fun i o hi => ?_, fun i o hi => ?_⟩
    · cases i with
      | zero => simp at hi; subst hi; exact ⟨b, rfl, h.1⟩
      | succ i => obtain ⟨o', h3, h4⟩ := h1 i o (by simpa using hi); exact ⟨o', by simpa using h3, h4⟩
    · cases i with
      | zero => simp at hi; subst hi; exact ⟨a, rfl, h.1⟩
      | succ i => obtain ⟨o', h3, h4⟩ := h2 i o (by simpa using hi); exact ⟨o', by simpa using h3, h4⟩
theorem likeO_le {N : Nat → Bool} {o o' : Obj} (h : likeO N o o') : OLe o o' := by
  cases o <;> cases o' <;> simp_all [likeO, OLe]
theorem likeO_live {N : Nat → Bool} {o o' : Obj} (h : likeO N o o') (hl : o'.live = true) : o.live = true := by
  cases o <;> cases o' <;> simp_all [likeO, Obj.live]
theorem likeO_Bk {N : Nat → Bool} {o o' : Obj} (h : likeO N o o') (hl : o'.live = true) {v : Value} {k : Nat} (hk : Bk o' v k) : Bk o v k := by
  cases o' with
  | dead => cases hl
  | blk cs t => cases o <;> first | exact h.elim | exact hk
  | row xs e sz => cases o <;> first | exact h.elim | exact hk
  | many l ts =>
    cases o with
    | many l' ts' =>
      obtain ⟨p, h1, h2⟩ := hk
      exact ⟨p, h.1.mem_iff.2 h1, h2⟩
    | _ => exact h.elim
theorem Apart.symm {p q : Value × Ob0} (h : Apart p q) : Apart q p := fun k hq hp => h k hp hq
theorem likeH_le {N : Nat → Bool} {h h' : Heap} {β : Nat → Value} (hl : likeH N h h') : LeH h β h' β := fun i o hi => by
  obtain ⟨o', h1, h2⟩ := (likeH_at hl).1 i o hi
  exact ⟨o', h1, likeO_le h2, fun _ => rfl⟩
theorem likeH_rel {N : Nat → Bool} {C : Ctx} {h h' : Heap} {β : Nat → Value} {V : Nat → Prop} {w : World} (hr : RelD C h β V w) (hl : likeH N h h') (hN : ∀ j, N j = true → β j = .slice none 0 0 ∧ ∃ xs e sz, h[j]? = some (.row xs e sz)) (hN' : ∀ j, N j = true → ∃ xs e sz, h'[j]? = some (.row xs e sz)) : RelD C h' β V w := by
  have hle : LeH h β h' β := likeH_le hl
  refine ⟨fun i o' hi => ?_, fun i j o o' k hi hli hj hlj hki hkj => ?_, fun i o k hi hli hk => ?_, fun i o k hi hli hk => ?_, hr.vlt, hr.vin, hr.vnew, hr.fr, hr.gl⟩
  · obtain ⟨o, ho, hlo⟩ := (likeH_at hl).2 i o' hi
    have hob := hr.obj i o ho
    cases o' with
    | dead => trivial
    | blk ds t' =>
      cases o with
      | blk cs t =>
        obtain ⟨rfl, hcs⟩ := hlo
        obtain ⟨g, vs, hb, hg, hc⟩ := hob
        refine ⟨g, vs, hb, hg, ?_⟩
        have hc' := RepDL.mono hle (Moved.refl V w) _ _ hc
        rcases hcs with rfl | hcs
        · exact hc'
        · exact likeL_rep (like_rep (N := N) (fun j hj => ⟨(hN j hj).1, hN' j hj⟩) 4) _ _ _ hcs hc'
      | _ => exact hlo.elim
    | row ys e' sz' =>
      cases o with
      | row xs e sz => obtain ⟨rfl, rfl, rfl⟩ := hlo; exact hob
      | _ => exact hlo.elim
    | many l' ts' =>
      cases o with
      | many l ts =>
        obtain ⟨hp, rfl⟩ := hlo
        exact ⟨fun p hp' => hob.1 p (hp.mem_iff.2 hp'), (hp.pairwise_iff (fun h => h.symm)).1 hob.2.1, fun t ht => (hob.2.2 t ht).le hle⟩
      | _ => exact hlo.elim
  · obtain ⟨a, ha, hla⟩ := (likeH_at hl).2 i o hi
    obtain ⟨b, hb, hlb⟩ := (likeH_at hl).2 j o' hj
    exact hr.sep i j a b k ha (likeO_live hla hli) hb (likeO_live hlb hlj) (likeO_Bk hla hli hki) (likeO_Bk hlb hlj hkj)
  · obtain ⟨a, ha, hla⟩ := (likeH_at hl).2 i o hi
    exact hr.mine i a k ha (likeO_live hla hli) (likeO_Bk hla hli hk)
  · obtain ⟨a, ha, hla⟩ := (likeH_at hl).2 i o hi
    exact hr.vout i a k ha (likeO_live hla hli) (likeO_Bk hla hli hk)

/-- Which of the new objects are nil rows. -/
def newN (src : List Src) (j : Nat) : Bool := match src[j]? with
  | some (.nil _ _) => true
  | _ => false
theorem newN_ok {h : Heap} {src : List Src} {β : Nat → Value} {j : Nat} (hj : newN src j = true) : turnβ src β j = .slice none 0 0 ∧ ∃ xs e sz, (turnH h src)[j]? = some (.row xs e sz) := by
  unfold newN at hj
  split at hj
  · rename_i e sz hs
    exact ⟨by simp [turnβ, hs], [], e, sz, by simp [turnH, hs, turnO]⟩
  · cases hj

def nrOk : List Src → Heap → Bool
  | [], _ => true
  | .old _ :: l, _ :: h => nrOk l h
  | .nil _ _ :: l, .row _ _ _ :: h => nrOk l h
  | .many0 :: l, _ :: h => nrOk l h
  | _, _ => false
theorem nrOk_at : ∀ {src : List Src} {h : Heap}, nrOk src h = true → ∀ j, newN src j = true → ∃ xs e sz, h[j]? = some (.row xs e sz)
  | [], h, _, j, hj => by simp [newN] at hj
  | .old i :: l, [], hn, _, _ => by simp [nrOk] at hn
  | .old i :: l, o :: h, hn, 0, hj => by simp [newN] at hj
  | .old i :: l, o :: h, hn, j + 1, hj => by
    simp only [nrOk] at hn
    obtain ⟨xs, e, sz, h1⟩ := nrOk_at hn j (by simpa [newN] using hj)
    exact ⟨xs, e, sz, by simpa using h1⟩
  | .many0 :: l, [], hn, _, _ => by simp [nrOk] at hn
  | .many0 :: l, o :: h, hn, 0, hj => by simp [newN] at hj
  | .many0 :: l, o :: h, hn, j + 1, hj => by
    simp only [nrOk] at hn
    obtain ⟨xs, e, sz, h1⟩ := nrOk_at hn j (by simpa [newN] using hj)
    exact ⟨xs, e, sz, by simpa using h1⟩
  | .nil e sz :: l, h, hn, j, hj => by
    cases h with
    | nil => simp [nrOk] at hn
    | cons o h =>
      cases o with
      | row xs e' sz' =>
        cases j with
        | zero => exact ⟨xs, e', sz', rfl⟩
        | succ j =>
          simp only [nrOk] at hn
          obtain ⟨xs, e, sz, h1⟩ := nrOk_at hn j (by simpa [newN] using hj)
          exact ⟨xs, e, sz, by simpa using h1⟩
      | _ => simp [nrOk] at hn
theorem likeH_refl (N : Nat → Bool) : ∀ h : Heap, likeH N h h
  | [] => trivial
  | .blk cs t :: h => ⟨⟨rfl, .inl rfl⟩, likeH_refl N h⟩
  | .row xs e sz :: h => ⟨⟨rfl, rfl, rfl⟩, likeH_refl N h⟩
  | .many l ts :: h => ⟨⟨List.Perm.refl _, rfl⟩, likeH_refl N h⟩
  | .dead :: h => ⟨by simp [likeO], likeH_refl N h⟩

/-- MEMORY IS TOLD ANEW: values and memory are, by src, like others. -/
structure TurnTo (h : Heap) (src : List Src) (ds : List D) (h' : Heap) (ds' : List D) : Prop where
  ok : srcOk src = true
  hp : turnH h src = h' ∨ likeH (newN src) (turnH h src) h'
  dl : ds.map (conv h src 4) = ds' ∨ likeL (Like (newN src) 4) (ds.map (conv h src 4)) ds'
  nr : nrOk src h' = true
theorem TurnTo.use {h h' : Heap} {src : List Src} {ds ds' : List D} (ht : TurnTo h src ds h' ds') {C : Ctx} {β : Nat → Value} {V : Nat → Prop} {w : World} (hr : RelD C h β V w) {vs : List Value} (hd : RepDL h β V w ds vs) :
    RelD C h' (turnβ src β) (turnV h src β V) w ∧ RepDL h' (turnβ src β) (turnV h src β V) w ds' vs := by
  have h1 := turn_rel (src := src) hr ht.ok
  have h2 := turn_dl (src := src) hr 4 _ _ hd
  have hhp : likeH (newN src) (turnH h src) h' := by
    rcases ht.hp with e | e
    · rw [← e]; exact likeH_refl _ _
    · exact e
  have h3 := likeH_rel h1 hhp (fun j hj => newN_ok hj) (nrOk_at ht.nr)
  refine ⟨h3, ?_⟩
  have h4 := RepDL.mono (likeH_le (β := turnβ src β) hhp) (Moved.refl _ w) _ _ h2
  rcases ht.dl with h | h
  · rw [← h]; exact h4
  · exact likeL_rep (like_rep (N := newN src) (fun j hj => ⟨(newN_ok (h := []) hj).1, nrOk_at ht.nr j hj⟩) 4) _ _ _ h h4
theorem lk {N : Nat → Bool} {n : Nat} {d d' : D} (e : d = d') : Like N (n + 1) d d' := .inl e
theorem lkI {N : Nat → Bool} {n : Nat} {a b : Int} (e : a = b) : Like N (n + 1) (.g (.int a)) (.g (.int b)) := .inr e
theorem lkS {N : Nat → Bool} {n : Nat} {a b : List UInt8} (e : a = b) : Like N (n + 1) (.g (.str a)) (.g (.str b)) := .inr e
theorem lkL {N : Nat → Bool} {n k : Nat} {a b : List (List GV)} (e : a = b) : Like N (n + 1) (.g (.sl k a)) (.g (.sl k b)) := .inr ⟨rfl, e⟩
theorem lkP {N : Nat → Bool} {n : Nat} {a b : Prop} (e : a ↔ b) : Like N (n + 1) (.pb a) (.pb b) := .inr e
theorem lkNP {N : Nat → Bool} {n : Nat} {a b : Prop} (e : ¬a ↔ b) : Like N (n + 1) (.pn a) (.pb b) := .inr e
theorem lkPB {N : Nat → Bool} {n : Nat} {p : Prop} {b : Bool} (e : b = true ↔ p) : Like N (n + 1) (.pb p) (.g (.bool b)) := .inr e
theorem lkBP {N : Nat → Bool} {n : Nat} {p : Prop} {b : Bool} (e : b = true ↔ p) : Like N (n + 1) (.g (.bool b)) (.pb p) := .inr e
theorem lkA {N : Nat → Bool} {n : Nat} (d : D) : Like N (n + 1) d .any := .inr trivial
theorem lkNil {N : Nat → Bool} {n k : Nat} : Like N (n + 1) .nils (.g (.sl k [])) := .inr rfl
end Go.Dm
