/-
  The engine, tenth part: the rule for loops, in the form in which walks use it. It holds of every program.
-/
import Derived.Test.YtbgabnnlmebhpaaEng9
namespace Go.Eng
open Go.RowKit

/-- At the head of a loop the slots of S hold whatever they hold. -/
def hav (S : Nat → Bool) (e0 : Env) (e : Nat → Value) : Env := fun k => bif S k then .v (e k) else e0 k
def Env.many (b : Env) : List (Nat × SV) → Env
  | [] => b
  | (t, x) :: l => (Env.many b l).set t x

/-- The anchor that a world is for itself. -/
def here (w : World) (hp : List LB) (rows : List Row) : Anch := ⟨w, fun k => k < w.heap.size ∧ k ∉ nums hp rows⟩

section
variable {C : Ctx} {hp : List LB} {rows : List Row} {A : Anch} {w : World}

theorem RelW.rehere {hx : List LB} {rx : List Row} (h : RelW C (hp ++ hx) (rows ++ rx) A w) : RelW C hp rows (here w hp rows) w := by
  have hsub : ∀ k, k ∈ nums hp rows → k ∈ nums (hp ++ hx) (rows ++ rx) := by
    intro k hk
    unfold nums at hk ⊢
    simp only [List.map_append, List.filterMap_append, List.mem_append] at hk ⊢
    rcases hk with hk | hk
    · exact .inl (.inl hk)
    · exact .inr (.inl hk)
  refine ⟨fun i x hi => h.blk i x ?_, fun i r hi => h.row i r ?_, ?_, fun k hk => h.mine k (hsub k hk), fun k _ => rfl, fun k hk => hk.1, fun k hk hv => hv.2 hk, Nat.le_refl _, Nat.le_trans h.a0 h.asz, h.fr⟩
  · rw [List.getElem?_append_left (List.getElem?_eq_some_iff.1 hi).1]; exact hi
  · rw [List.getElem?_append_left (List.getElem?_eq_some_iff.1 hi).1]; exact hi
  · have hn := h.nodup
    unfold nums at hn ⊢
    simp only [List.map_append, List.filterMap_append] at hn
    obtain ⟨h1, h2, h3⟩ := List.nodup_append.1 hn
    exact List.nodup_append.2 ⟨(List.nodup_append.1 h1).1, (List.nodup_append.1 h2).1, fun a ha b hb => h3 a (List.mem_append.2 (.inl ha)) b (List.mem_append.2 (.inl hb))⟩

/-- A nil slice is a row of the call's own. -/
theorem RelW.nil_row (h : RelW C hp rows A w) (e : TypeId) (sz : Nat) : RelW C hp (rows ++ [{ v := .slice none 0 0, n := 0, xs := [], e := e, sz := sz }]) A w := by
  have hnums : nums hp (rows ++ [{ v := .slice none 0 0, n := 0, xs := [], e := e, sz := sz }]) = nums hp rows := by rw [nums_rows_snoc]; simp [Value.ownBlock]
  refine ⟨h.blk, fun i r hi => ?_, by rw [hnums]; exact h.nodup, by rw [hnums]; exact h.mine, h.agree, h.vlt, by rw [hnums]; exact h.vout, h.asz, h.a0, h.fr⟩
  by_cases hl : i < rows.length
  · rw [List.getElem?_append_left hl] at hi; exact h.row i r hi
  · have hi2 : i = rows.length := by
      have := (List.getElem?_eq_some_iff.1 hi).1
      simp at this
      omega
    subst hi2
    simp at hi
    subst hi
    exact World.ownsRow_nil w 0 e sz
end

section
variable {C : Ctx} {n : Nat}

/-- What a round of a loop must come to: the relation again, for an index of a lower measure. -/
structure Again {ι : Type} (C : Ctx) (val : ι → List (Nat × SV)) (hpI : ι → List LB) (rowsI : ι → List Row) (Inv : ι → Anch → Prop) (μ : ι → Nat) (m : Nat) (env : Env) (hp : List LB) (rows : List Row) (A : Anch) : Prop where
  ex : ∃ i, ((val i).map fun p => (p.1, env p.1)) = val i ∧ (∃ hx rx, hp = hpI i ++ hx ∧ rows = rowsI i ++ rx) ∧ (∀ w, RelW C (hpI i) (rowsI i) (here w (hpI i) (rowsI i)) w → RelW C hp rows A w → Inv i (here w (hpI i) (rowsI i))) ∧ μ i < m

theorem loopR {B : St → Anch → Post → Prop} {M : (Nat → Bool) → Bool} {env : Env} {hp : List LB} {rows : List Row} {df : List Deferred} {A : Anch} {Q : Post}
    (S : Nat → Bool) (hM : M S = true) {ι : Type} (val : ι → List (Nat × SV)) (hpI : ι → List LB) (rowsI : ι → List Row) (Inv : ι → Anch → Prop) (μ : ι → Nat)
    (hS : ∀ i, ∀ p ∈ val i, S p.1 = true ∧ SVok (hpI i) p.2) (hN : ∀ i, (hpI i).map LB.b = hp.map LB.b)
    (start : ∃ i, ((val i).map fun p => (p.1, env p.1)) = val i ∧ ∀ w, RelW C hp rows A w → RelW C (hpI i) (rowsI i) (here w (hpI i) (rowsI i)) w ∧ Inv i (here w (hpI i) (rowsI i)))
    (round : ∀ (Rd : ι → St → Anch → Prop), (∀ i env' hp' rows' A', Again C val hpI rowsI Inv μ (μ i) env' hp' rows' A' → Rd i ⟨env', hp', rows', df⟩ A') → ∀ (i : ι) (e : Nat → Value) (w : World), Inv i (here w (hpI i) (rowsI i)) →
      B ⟨(hav S env e).many (val i), hpI i, rowsI i, df⟩ (here w (hpI i) (rowsI i)) (fun ex st' A' => match ex with
      | .normal => Rd i st' A'
      | ex => Q ex st' A')) :
    LoopP C n B M ⟨env, hp, rows, df⟩ A Q := by
  have bn : ∀ i j, bnum (hpI i) j = bnum hp j := fun i j => by rw [bnum_map, bnum_map, hN]
  have ln : ∀ i, (hpI i).length = hp.length := fun i => by have := congrArg List.length (hN i); simpa using this
  have ve : ∀ i (s : SV), s.val (hpI i) = s.val hp := fun i s => by cases s <;> simp [SV.val, bn]
  have oke : ∀ i (s : SV), SVok hp s → SVok (hpI i) s := fun i s h => by cases s <;> simp_all [SVok]
  have lookup : ∀ (b : Env) (l : List (Nat × SV)) (k : Nat), (∃ x, (k, x) ∈ l ∧ Env.many b l k = x) ∨ ((∀ x, (k, x) ∉ l) ∧ Env.many b l k = b k) := by
    intro b l k
    induction l with
    | nil => exact .inr ⟨fun x h => by simp at h, rfl⟩
    | cons p l ih =>
      obtain ⟨t, x⟩ := p
      by_cases hk : k = t
      · subst hk
        exact .inl ⟨x, List.mem_cons_self, by simp [Env.many, Env.set]⟩
      · have hb : Nat.beq k t = false := beq_ne hk
        rcases ih with ⟨y, hy, he⟩ | ⟨hno, he⟩
        · exact .inl ⟨y, List.mem_cons_of_mem _ hy, by simp [Env.many, Env.set, hb, he]⟩
        · refine .inr ⟨fun y hy => ?_, by simp [Env.many, Env.set, hb, he]⟩
          rcases List.mem_cons.1 hy with h | h
          · injection h with h1 h2; exact hk h1
          · exact hno y h
  have pick : ∀ (l : List (Nat × SV)) (env : Env), (l.map fun p => (p.1, env p.1)) = l → ∀ p ∈ l, p.2 = env p.1 := by
    intro l env
    induction l with
    | nil => intro _ p hp; simp at hp
    | cons q l ih =>
      intro h p hp
      simp only [List.map_cons, List.cons.injEq] at h
      rcases List.mem_cons.1 hp with rfl | hp
      · exact (congrArg Prod.snd h.1).symm
      · exact ih h.2 p hp
  have mk : ∀ (i : ι) (a : Act) (w : World), a.tmps.size = n → a.defers = df → (∀ k, S k = false → a.tmps.getD k undef = (env k).val hp) → (∀ k, S k = false → SVok hp (env k)) →
      (∀ p ∈ val i, a.tmps.getD p.1 undef = p.2.val (hpI i)) → RelW C (hpI i) (rowsI i) (here w (hpI i) (rowsI i)) w →
      Rel C n ⟨(hav S env (fun k => a.tmps.getD k undef)).many (val i), hpI i, rowsI i, df⟩ (here w (hpI i) (rowsI i)) a w := by
    intro i a w hsz hdf hout hok htr hw
    refine ⟨hsz, fun k => ?_, fun k => ?_, hdf, hw⟩
    · show a.tmps.getD k undef = (Env.many _ (val i) k).val (hpI i)
      rcases lookup (hav S env (fun k => a.tmps.getD k undef)) (val i) k with ⟨x, hx, he⟩ | ⟨_, he⟩
      · rw [he]; exact htr _ hx
      · rw [he]
        unfold hav
        cases hk : S k with
        | true => rfl
        | false => rw [ve]; exact hout k hk
    · show SVok (hpI i) (Env.many _ (val i) k)
      rcases lookup (hav S env (fun k => a.tmps.getD k undef)) (val i) k with ⟨x, hx, he⟩ | ⟨_, he⟩
      · rw [he]; exact (hS i _ hx).2
      · rw [he]
        unfold hav
        cases hk : S k with
        | true => trivial
        | false => exact oke i _ (hok k hk)
  have okk : ∀ (a : Act) (w : World), Rel C n ⟨env, hp, rows, df⟩ A a w → ∀ k, SVok hp (env k) := fun a w hr k => hr.wf k
  by_cases hex : ∃ a w, Rel C n ⟨env, hp, rows, df⟩ A a w
  case neg =>
    refine ⟨S, hM, Empty, fun i => i.elim, fun i => i.elim, fun a w hr => (hex ⟨a, w, hr⟩).elim, fun i => i.elim⟩
  obtain ⟨a0, w0, hr0⟩ := hex
  have hok0 := okk a0 w0 hr0
  refine ⟨S, hM, ι, fun i st1 A1 => ∃ (e : Nat → Value) (w : World), st1 = ⟨(hav S env e).many (val i), hpI i, rowsI i, df⟩ ∧ A1 = here w (hpI i) (rowsI i) ∧ Inv i (here w (hpI i) (rowsI i)), μ, ?_, ?_⟩
  · intro a w hr
    obtain ⟨i, hval, hst⟩ := start
    obtain ⟨hw, hinv⟩ := hst w hr.rw
    refine ⟨i, _, _, mk i a w hr.size hr.df (fun k _ => hr.tm k) (fun k _ => hok0 k) (fun p hp' => ?_) hw, _, w, rfl, rfl, hinv⟩
    have h2 : p.2 = env p.1 := pick _ env hval p hp'
    rw [hr.tm p.1, h2, ve]
  · rintro i st1 A1 ⟨e, w, rfl, rfl, hinv⟩
    refine round (fun i st' A' => ∀ a w, Rel C n st' A' a w → (∀ k, S k = false → a.tmps.getD k undef = (env k).val hp) → ∃ i' st2 A2, Rel C n st2 A2 a w ∧
      (∃ (e : Nat → Value) (w : World), st2 = ⟨(hav S env e).many (val i'), hpI i', rowsI i', df⟩ ∧ A2 = here w (hpI i') (rowsI i') ∧ Inv i' (here w (hpI i') (rowsI i'))) ∧ μ i' < μ i) ?_ i e w hinv
    rintro i env' hp' rows' A' ⟨i', hval, ⟨hx, rx, rfl, rfl⟩, hinv', hlt⟩ a w hr hout
    have hw := hr.rw.rehere
    refine ⟨i', _, _, mk i' a w hr.size hr.df hout (fun k _ => hok0 k) (fun p hp' => ?_) hw, ⟨_, w, rfl, rfl, hinv' w hw hr.rw⟩, hlt⟩
    have h2 : p.2 = env' p.1 := pick _ env' hval p hp'
    rw [hr.tm p.1, h2]
    have hs := (hS i' p hp').2
    rw [h2] at hs
    show SV.val (hpI i' ++ hx) (env' p.1) = SV.val (hpI i') (env' p.1)
    generalize env' p.1 = s at hs ⊢
    cases s with
    | v x => rfl
    | sb c => rfl
    | loc j off =>
      simp only [SV.val, bnum]
      rw [List.getElem?_append_left hs]
end
end Go.Eng
