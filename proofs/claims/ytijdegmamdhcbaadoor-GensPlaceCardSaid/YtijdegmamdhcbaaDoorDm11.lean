/-
  The second engine, eleventh part: code. It holds of every program whose table of types is met.
-/
import Derived.Test.YtijdegmamdhcbaaDoorDq4
namespace Go.Dm
open Go Go.Eng Go.RowKit

def vc (P : Program) (T : Tab) (F : FuncId → Bool) (G : Gl) (n : Nat) : Code → St → Post → Prop
  | .skip, st, Q => Q .normal st
  | .region _ ops false, st, Q => vcOps P T F G ops (Q .normal) Q ops.toList st
  | .region _ ops true, ⟨env, h, df⟩, Q => ∃ pp : Option Nat, vcDx P T F G ops Q pp env h df
  | .seq x y, st, Q => vc P T F G n x st (fun e st' => match e with | .normal => vc P T F G n y st' Q | e => Q e st')
  | .cond c x y, st, Q => bcase (sv G st c) (vc P T F G n x st Q) (vc P T F G n y st Q)
  | .block id x, st, Q => vc P T F G n x st (fun e st' => match e with | .exit i => bif Nat.beq i id then Q .normal st' else Q (.exit i) st' | e => Q e st')
  | .loop x, st, Q => LoopP G n (vc P T F G n x) (mods x) st Q
  | .exit id, st, Q => Q (.exit id) st
  | .ret, st, Q => Q .ret st
  | _, _, _ => False

section
variable {P : Program} {T : Tab} {F : FuncId → Bool} {C : Ctx} {n : Nat}

/-- THE GENERATOR IS SOUND. -/
theorem vc_sound (hT : TabOk P T) (hF : ∀ g, F g = true → fnOk P g = true) (hM : P.follows .mixedOrders = true) : ∀ (c : Code) (S : List Nat), (∀ k ∈ mods c, k < n) → (∀ k ∈ mods c, inL S k = true) → ∀ (C : Ctx) (st : St) (a : Act) (w : World) (Q : Post), vc P T F C.G n c st Q → Rel C n st a w →
    c.wp P (fun e a' w' => Keeps S a a' ∧ ∃ x st', Q x st' ∧ XOk e x st' a' w' C n) a w := by
  intro c
  induction c with
  | skip => intro S _ _ C st a w Q h hr; exact wp_skip ⟨Keeps.refl _ _, .normal, st, h, hr⟩
  | region id ops draw =>
    intro S hs hm C st a w Q h hr
    cases draw with
    | true =>
      obtain ⟨env, hp, df⟩ := st
      exact draw_sound hT hF hM S hs hm h hr
    | false =>
      refine wp_region_list (ops_sound hT hF (K := Q .normal) (Q := Q) (a0 := a) (S := S) (fun st a w hq hr hk => ⟨hk, .normal, st, hq, hr⟩) (fun d st ch a w hq hx hk => ⟨hk, .pan d, st, hq, hx⟩) ops.toList (fun o ho d hd => ?_) st a w h hr (Keeps.refl _ _))
      have : d ∈ mods (.region id ops false) := by simp only [mods, List.mem_filterMap]; exact ⟨o, ho, hd⟩
      exact ⟨hs d this, hm d this⟩
  | seq x y ihx ihy =>
    intro S hs hm C st a w Q h hr
    simp only [mods, List.mem_append] at hs hm
    refine wp_seq (Code.wp_mono ?_ (ihx S (fun k hk => hs k (.inl hk)) (fun k hk => hm k (.inl hk)) C st a w _ h hr))
    rintro e a' w' ⟨hk, x, st', hq, hx⟩
    cases e with
    | normal =>
      cases x <;> try exact hx.elim
      refine Code.wp_mono ?_ (ihy S (fun k hk => hs k (.inr hk)) (fun k hk => hm k (.inr hk)) C st' a' w' Q hq hx)
      rintro e a'' w'' ⟨hk', rest⟩
      exact ⟨hk.trans hk', rest⟩
    | exit i => cases x <;> first | exact hx.elim | exact ⟨hk, _, st', hq, hx⟩
    | ret => cases x <;> first | exact hx.elim | exact ⟨hk, _, st', hq, hx⟩
    | panic ch => cases x <;> first | exact hx.elim | exact ⟨hk, _, st', hq, hx⟩
    | goto l => cases x <;> exact hx.elim
    | outgrown => cases x <;> exact hx.elim
  | cond c x y ihx ihy =>
    intro S hs hm C st a w Q h hr
    simp only [mods, List.mem_append] at hs hm
    obtain ⟨hsz, hdf, β, V, hrel, he⟩ := hr
    obtain ⟨b, hv, ht, hf⟩ := bcase.use h (he.eval hrel.gl c)
    refine wp_cond hv ?_
    cases b with
    | true => exact ihx S (fun k hk => hs k (.inl hk)) (fun k hk => hm k (.inl hk)) C st a w Q (ht rfl) ⟨hsz, hdf, β, V, hrel, he⟩
    | false => exact ihy S (fun k hk => hs k (.inr hk)) (fun k hk => hm k (.inr hk)) C st a w Q (hf rfl) ⟨hsz, hdf, β, V, hrel, he⟩
  | block id x ih =>
    intro S hs hm C st a w Q h hr
    refine wp_block (Code.wp_mono ?_ (ih S hs hm C st a w _ h hr))
    rintro e a' w' ⟨hk, x, st', hq, hx⟩
    cases e with
    | exit i =>
      cases x <;> try exact hx.elim
      obtain ⟨rfl, hx⟩ := hx
      simp only [Exit.inBlock]
      by_cases hi : i = id
      · subst hi
        rw [if_pos rfl]
        simp only [Nat.beq_refl, cond_true] at hq
        exact ⟨hk, _, st', hq, hx⟩
      · rw [if_neg hi]
        have : Nat.beq i id = false := beq_ne hi
        simp only [this, cond_false] at hq
        exact ⟨hk, _, st', hq, rfl, hx⟩
    | normal => cases x <;> first | exact hx.elim | exact ⟨hk, _, st', hq, hx⟩
    | ret => cases x <;> first | exact hx.elim | exact ⟨hk, _, st', hq, hx⟩
    | panic ch => cases x <;> first | exact hx.elim | exact ⟨hk, _, st', hq, hx⟩
    | goto l => cases x <;> exact hx.elim
    | outgrown => cases x <;> exact hx.elim
  | loop x ih =>
    intro S hs hm C st a w Q h hr
    obtain ⟨ι, I, μ, hstart, hround⟩ := h
    obtain ⟨hsz, hdf, β, V, hrel, he⟩ := hr
    let C' : Ctx := ⟨w, fun k => ∃ i o, st.h[i]? = some o ∧ o.live = true ∧ Bk o (β i) k, V, C.G⟩
    have hrel' : RelD C' st.h β V w := base_start hrel
    have hr' : Rel C' n st a w := ⟨hsz, hdf, β, V, hrel', he⟩
    have back : ∀ e y st2 a2 w2, XOk e y st2 a2 w2 C' n → XOk e y st2 a2 w2 C n := by
      intro e y st2 a2 w2 hx
      have key : ∀ st2 a2 w2, Rel C' n st2 a2 w2 → Rel C n st2 a2 w2 := fun st2 a2 w2 ⟨h1, h2, β2, V2, h3, h4⟩ => ⟨h1, h2, β2, V2, rebase hrel h3, h4⟩
      cases e <;> cases y <;> try exact hx.elim
      · exact key _ _ _ hx
      · exact ⟨hx.1, key _ _ _ hx.2⟩
      · exact key _ _ _ hx
      · obtain ⟨t, u, h0, h1, h2, β2, V2, h3, h4, h5⟩ := hx
        exact ⟨t, u, h0, h1, h2, β2, V2, rebase hrel h3, h4, h5⟩
    have hbase : ∀ a', Keeps (mods x) a a' → Base C' st (mods x) a' := fun a' hk => ⟨fun k hv ⟨i, o, h1, h2, h3⟩ => hrel.vout i o k h1 h2 h3 hv, hrel.vlt, a, β, he, hk⟩
    let J : ι → Act → World → Prop := fun i a' w' => ∃ st1, I i st1 ∧ Rel C' n st1 a' w' ∧ Keeps (mods x) a a' ∧ Keeps S a a'
    obtain ⟨i0, st0, hr0, hI0⟩ := hstart C' a w rfl hr'
    classical
    have least : ∀ (a' : Act) (w' : World), (∃ i, J i a' w') → ∃ i, J i a' w' ∧ ∀ j, J j a' w' → μ i ≤ μ j := by
      intro a' w' hex
      have wf : ∀ m, ∀ i, μ i = m → J i a' w' → ∃ i, J i a' w' ∧ ∀ j, J j a' w' → μ i ≤ μ j := by
        intro m
        induction m using Nat.strongRecOn with
        | _ m ihm =>
          intro i hi hJ
          by_cases hall : ∀ j, J j a' w' → μ i ≤ μ j
          · exact ⟨i, hJ, hall⟩
          · have ⟨j, hj⟩ := Classical.not_forall.1 hall
            have ⟨hJj, hlt⟩ := Classical.not_imp.1 hj
            exact ihm (μ j) (by omega) j rfl hJj
      obtain ⟨i, hi⟩ := hex
      exact wf _ i rfl hi
    let ν : Act → World → Nat := fun a' w' => if hex : ∃ i, J i a' w' then μ (Classical.choose (least a' w' hex)) else 0
    have hν : ∀ a' w', (∃ i, J i a' w') → ∃ i, J i a' w' ∧ ν a' w' = μ i := by
      intro a' w' hex
      refine ⟨Classical.choose (least a' w' hex), (Classical.choose_spec (least a' w' hex)).1, ?_⟩
      simp only [ν, dif_pos hex]
    have hνle : ∀ a' w' j, J j a' w' → ν a' w' ≤ μ j := by
      intro a' w' j hj
      have hex : ∃ i, J i a' w' := ⟨j, hj⟩
      simp only [ν, dif_pos hex]
      exact (Classical.choose_spec (least a' w' hex)).2 j hj
    refine wp_loop (fun a' w' => ∃ i, J i a' w') ν ⟨i0, st0, hI0, hr0, Keeps.refl _ _, Keeps.refl _ _⟩ ?_
    intro a1 w1 hex
    obtain ⟨i, ⟨st1, hI, hr1, hk1, hk2⟩, hνi⟩ := hν a1 w1 hex
    have hb := ih (mods x) hs (fun k hk => inL_iff.2 hk) C' st1 a1 w1 _ (hround i st1 hI) hr1
    refine Code.wp_mono ?_ hb
    rintro e a2 w2 ⟨hk, y, st2, hq, hx⟩
    have hkS : Keeps S a1 a2 := fun k hk' => hk k (by
      cases h : inL (mods x) k with
      | false => rfl
      | true => rw [hm k (inL_iff.1 h)] at hk'; cases hk')
    cases e with
    | normal =>
      cases y <;> try exact hx.elim
      obtain ⟨i', st3, hr3, hI3, hlt⟩ := hq C' a2 w2 rfl hx (hbase a2 (hk1.trans hk))
      have hJ : J i' a2 w2 := ⟨st3, hI3, hr3, hk1.trans hk, hk2.trans hkS⟩
      refine ⟨⟨i', hJ⟩, ?_⟩
      have := hνle a2 w2 i' hJ
      rw [hνi]
      omega
    | exit j => cases y <;> first | exact hx.elim | exact ⟨hk2.trans hkS, _, st2, hq, back _ _ _ _ _ hx⟩
    | ret => cases y <;> first | exact hx.elim | exact ⟨hk2.trans hkS, _, st2, hq, back _ _ _ _ _ hx⟩
    | panic ch => cases y <;> first | exact hx.elim | exact ⟨hk2.trans hkS, _, st2, hq, back _ _ _ _ _ hx⟩
    | goto l => cases y <;> exact hx.elim
    | outgrown => cases y <;> exact hx.elim
  | exit id => intro S _ _ C st a w Q h hr; exact wp_exit ⟨Keeps.refl _ _, .exit id, st, h, rfl, hr⟩
  | ret => intro S _ _ C st a w Q h hr; exact wp_ret ⟨Keeps.refl _ _, .ret, st, h, hr⟩
  | _ => intro S _ _ C st a w Q h hr; exact h.elim
end
end Go.Dm
