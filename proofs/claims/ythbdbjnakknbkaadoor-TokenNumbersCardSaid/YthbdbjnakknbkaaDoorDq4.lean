/-
  The second engine, regions that draw their order, fourth part: whatever the order, the same comes of it. It holds of every program.
-/
import Derived.Test.YthbdbjnakknbkaaDoorDq3
namespace Go.Dm
open Go Go.Eng Go.RowKit

theorem accOf_len : ∀ (l : List Oper), (accOf l).length = l.length := by
  intro l
  have key : ∀ (l : List Oper) (acc : List Nat), (l.foldl (fun acc o => acc ++ [rowOf acc (edgesOf o)]) acc).length = acc.length + l.length := by
    intro l
    induction l with
    | nil => intro acc; rfl
    | cons o l ih => intro acc; rw [List.foldl_cons, ih]; simp; omega
  have := key l []
  simpa [accOf] using this

theorem snoc_ind {α : Type} {Q : List α → Prop} (h0 : Q []) (h1 : ∀ l a, Q l → Q (l ++ [a])) : ∀ l, Q l := by
  have : ∀ l : List α, Q l.reverse := by
    intro l
    induction l with
    | nil => exact h0
    | cons a l ih => rw [List.reverse_cons]; exact h1 _ _ ih
  intro l
  have := this l.reverse
  rwa [List.reverse_reverse] at this

/-- What is listed ahead of each: done when what it waits for is done. -/
theorem row_done {X : Nat → Bool} : ∀ (l : List Oper), (∀ (i : Nat) (o : Oper), l[i]? = some o → X i = true → ∀ e ∈ edgesOf o, X e = true) → (∀ (i : Nat) (o : Oper), l[i]? = some o → ∀ e ∈ edgesOf o, e < i) →
    (∀ k, k < l.length → X k = true → ∀ j, Nat.testBit (nthD 0 (accOf l) k) j = true → X j = true) ∧ ∀ es : List Nat, (∀ e ∈ es, X e = true) → (∀ e ∈ es, e < l.length) → ∀ j, Nat.testBit (rowOf (accOf l) es) j = true → X j = true := by
  refine snoc_ind ?_ ?_
  · intro _ _
    refine ⟨fun k hk => by simp at hk, fun es he hl j hj => ?_⟩
    cases es with
    | nil => simp [rowOf] at hj
    | cons e es => have := hl e List.mem_cons_self; simp at this
  · intro l o ih hX hE
    have hX' : ∀ (i : Nat) (o : Oper), l[i]? = some o → X i = true → ∀ e ∈ edgesOf o, X e = true := fun i o hi => hX i o (by rw [List.getElem?_append_left (List.getElem?_eq_some_iff.1 hi).1]; exact hi)
    have hE' : ∀ (i : Nat) (o : Oper), l[i]? = some o → ∀ e ∈ edgesOf o, e < i := fun i o hi => hE i o (by rw [List.getElem?_append_left (List.getElem?_eq_some_iff.1 hi).1]; exact hi)
    obtain ⟨h1, h2⟩ := ih hX' hE'
    have hlast : (l ++ [o])[l.length]? = some o := by simp
    have rows : ∀ k, k < (l ++ [o]).length → X k = true → ∀ j, Nat.testBit (nthD 0 (accOf (l ++ [o])) k) j = true → X j = true := by
      intro k hk hXk j hj
      rw [accOf_snoc] at hj
      by_cases hkl : k < l.length
      · rw [nthD_app (by rw [accOf_len]; exact hkl)] at hj
        exact h1 k hkl hXk j hj
      · have hk2 : k = l.length := by simp at hk; omega
        subst hk2
        have : nthD 0 (accOf l ++ [rowOf (accOf l) (edgesOf o)]) l.length = rowOf (accOf l) (edgesOf o) := by
          have := nthD_last (z := 0) (l := accOf l) (a := rowOf (accOf l) (edgesOf o)) (m := [])
          rwa [accOf_len] at this
        rw [this] at hj
        exact h2 _ (hX _ _ hlast hXk) (hE _ _ hlast) j hj
    refine ⟨rows, fun es => ?_⟩
    induction es with
    | nil => intro _ _ j hj; simp [rowOf] at hj
    | cons e es ihe =>
      intro he hl j hj
      simp only [rowOf, Nat.testBit_or, Bool.or_eq_true] at hj
      rcases hj with (hj | hj) | hj
      · rw [Nat.testBit_two_pow] at hj
        have : e = j := by simpa using hj
        subst this
        exact he e List.mem_cons_self
      · exact rows e (hl e List.mem_cons_self) (he e List.mem_cons_self) j hj
      · exact ihe (fun e h => he e (List.mem_cons_of_mem _ h)) (fun e h => hl e (List.mem_cons_of_mem _ h)) j hj

theorem okAt_at {lt : Option Nat} {all : Array Oper} {row : Nat} {o : Oper} : ∀ (l : List Oper) (j : Nat), okAt lt all row o j l = true → ∀ (k : Nat) (p : Oper), l[k]? = some p → confl lt all o p = true → Nat.testBit row (j + k) = true
  | [], _, _, k, p, h, _ => by simp at h
  | q :: l, j, h, 0, p, hk, hc => by
    simp at hk
    subst hk
    simp only [okAt, Bool.and_eq_true, Bool.or_eq_true, Bool.not_eq_true'] at h
    rcases h.1 with h1 | h1
    · rw [hc] at h1; cases h1
    · exact h1
  | q :: l, j, h, k + 1, p, hk, hc => by
    simp only [okAt, Bool.and_eq_true] at h
    have := okAt_at l (j + 1) h.2 k p (by simpa using hk) hc
    rwa [show j + 1 + k = j + (k + 1) from by omega] at this
theorem drawChk_at {lt : Option Nat} {all : Array Oper} : ∀ (r pre : List Oper), drawChk lt all r pre (accOf pre) = true → ∀ (i : Nat) (o : Oper), r[i]? = some o →
    (∀ e ∈ edgesOf o, e < pre.length + i) ∧ ∀ (k : Nat) (p : Oper), (pre ++ r.take i)[k]? = some p → confl lt all o p = true → Nat.testBit (rowOf (accOf (pre ++ r.take i)) (edgesOf o)) k = true
  | [], _, _, i, o, h => by simp at h
  | o :: r, pre, h, 0, o', hi => by
    simp at hi
    subst hi
    simp only [drawChk, Bool.and_eq_true] at h
    refine ⟨fun e he => by simpa using allLt_mem h.1.1 e he, fun k p hk hc => ?_⟩
    have := okAt_at pre 0 h.1.2 k p (by simpa using hk) hc
    simpa using this
  | o :: r, pre, h, i + 1, o', hi => by
    simp only [drawChk, Bool.and_eq_true] at h
    have h2 := h.2
    rw [← accOf_snoc] at h2
    obtain ⟨h3, h4⟩ := drawChk_at r (pre ++ [o]) h2 i o' (by simpa using hi)
    refine ⟨fun e he => by have := h3 e he; simp at this; omega, fun k p hk hc => ?_⟩
    have := h4 k p (by simpa [List.append_assoc] using hk) hc
    simpa [List.append_assoc] using this

theorem confl_symm_reads {lt : Option Nat} {all : Array Oper} {o p : Oper} (h : confl lt all o p = false) : (∀ d, o.dst = some d → d ∉ p.looksAt all) ∧ (∀ d, p.dst = some d → d ∉ o.looksAt all) ∧ (∀ d, o.dst = some d → p.dst ≠ some d) ∧ ((active o.op && active p.op) = false) ∧ (mutat lt o.op = true → hpl lt p.op = true) ∧ (mutat lt p.op = true → hpl lt o.op = true) := by
  unfold confl at h
  simp only [Bool.or_eq_false_iff] at h
  obtain ⟨⟨⟨⟨h1, h2⟩, h3⟩, h4⟩, h5⟩ := h
  refine ⟨fun d hd hm => ?_, fun d hd hm => ?_, fun d hd hm => ?_, h3, fun hm => ?_, fun hm => ?_⟩
  · rw [hd] at h1
    simp only [Bool.or_eq_false_iff] at h1
    rw [inL_iff.2 hm] at h1
    exact absurd h1.1 (by simp)
  · rw [hd] at h2
    simp only at h2
    rw [inL_iff.2 hm] at h2
    cases h2
  · rw [hd] at h1
    simp only [Bool.or_eq_false_iff] at h1
    rw [hm] at h1
    simp only [Nat.beq_refl] at h1
    exact absurd h1.2 (by simp)
  · rw [hm] at h4
    simpa using h4
  · rw [hm] at h5
    simpa using h5

theorem cntA_take_succ (l : List Oper) (k : Nat) (o : Oper) (h : l[k]? = some o) : cntA (l.take (k + 1)) = bif active o.op then cntA (l.take k) + 1 else cntA (l.take k) := by
  have : l.take (k + 1) = l.take k ++ [o] := by rw [List.take_add_one, h]; rfl
  rw [this, cntA_snoc]

theorem RelD.drew {C : Ctx} {h : Heap} {β : Nat → Value} {V : Nat → Prop} {w : World} (hr : RelD C h β V w) (k : Nat) : RelD C h β V { w with drawn := k } := by
  have mv : Moved V w V { w with drawn := k } := fun k hk => ⟨hk, rfl⟩
  refine ⟨fun i o hi => (hr.obj i o hi).keep (LeH.refl _ _) mv rfl (fun _ _ => rfl), hr.sep, hr.mine, hr.vout, hr.vlt, hr.vin, hr.vnew, ⟨hr.fr.os, hr.fr.tape, hr.fr.output, hr.fr.size, hr.fr.block⟩, hr.gl.move mv⟩

section
variable {P : Program} {T : Tab} {F : FuncId → Bool} {C : Ctx} {n : Nat}

theorem countP_upd {p q : Nat → Bool} {i : Nat} : ∀ (l : List Nat), l.Nodup → i ∈ l → p i = true → q i = false → (∀ j, j ≠ i → p j = q j) → l.countP q + 1 = l.countP p
  | [], _, h, _, _, _ => by simp at h
  | a :: l, hn, hm, hp, hq, hj => by
    have hn' := List.nodup_cons.1 hn
    by_cases ha : a = i
    · subst ha
      have : l.countP q = l.countP p := List.countP_congr (fun j hjl => by rw [hj j (fun e => hn'.1 (e ▸ hjl))])
      rw [List.countP_cons, List.countP_cons, hp, hq, this]
      simp
    · have hm' : i ∈ l := by rcases List.mem_cons.1 hm with h | h; exact absurd h.symm ha; exact h
      have := countP_upd l hn'.2 hm' hp hq hj
      rw [List.countP_cons, List.countP_cons, hj a ha]
      omega

theorem getD_set {l : Array Bool} {i j : Nat} (hi : i < l.size) (z : Bool) : (l.setIfInBounds i true).getD j z = if j = i then true else l.getD j z := by
  simp only [Array.getD_eq_getD_getElem?, Array.getElem?_setIfInBounds]
  by_cases h : i = j
  · subst h
    simp [hi]
  · rw [if_neg h, if_neg (fun e => h e.symm)]

theorem draw_sound (hT : TabOk P T) (hF : ∀ g, F g = true → fnOk P g = true) (hM : P.follows .mixedOrders = true) {id : Nat} {ops : Array Oper} (S : List Nat) (hs : ∀ k ∈ mods (.region id ops true), k < n) (hm : ∀ k ∈ mods (.region id ops true), inL S k = true)
    {env : Env} {hh : Heap} {df : List Deferred} {Q : Post} (h : ∃ pp : Option Nat, (drawChk pp ops ops.toList [] [] = true) ∧ vcDr P T F C.G pp (fun dp => ∀ (e : Env) (h : Heap), Q (.pan dp) ⟨e, h, df⟩) ops ops.toList [] [] [hh] env df [] (Q .normal)) {a : Act} {w : World} (hr : Rel C n ⟨env, hh, df⟩ a w) :
    (Code.region id ops true).wp P (fun e a' w' => Keeps S a a' ∧ ∃ x st', Q x st' ∧ XOk e x st' a' w' C n) a w := by
  obtain ⟨pp, hchk, hv⟩ := h
  have hat := drawChk_at ops.toList [] (by simpa [accOf] using hchk)
  obtain ⟨fs, hs', Lf, hfl, hLf, hQf, hfact⟩ := vcDr_facts ops.toList [] [hh] env env df [] (Q .normal) (by simpa [accOf] using hv) (Ref.refl env) (by simp [cntA])
  generalize hH : nthD ([] : Heap) ([hh] ++ hs') = H at hQf hfact
  have hH0 : H 0 = hh := by rw [← hH]; rfl
  simp only [List.nil_append] at hQf hfact hat
  have hops : ∀ (i : Nat) (o : Oper), ops[i]? = some o ↔ ops.toList[i]? = some o := fun i o => by simp
  have hedge : ∀ (i : Nat) (o : Oper), ops.toList[i]? = some o → ∀ e ∈ edgesOf o, e < i := fun i o hi e he => by have := (hat i o hi).1 e he; simpa using this
  have hbind : ∀ (o : Oper) (e : Edge), e ∈ o.after.toList → Region.binds .any e = true → e.on ∈ edgesOf o := by
    intro o e he hb
    simp only [edgesOf, List.mem_filterMap]
    refine ⟨e, he, ?_⟩
    unfold Region.binds at hb
    cases hg : e.ground <;> rw [hg] at hb <;> first | rfl | (simp at hb)
  have hedges : ∀ (o : Oper) (j : Nat), j ∈ edgesOf o → ∃ e ∈ o.after.toList, e.on = j ∧ Region.binds .any e = true := by
    intro o j hj
    simp only [edgesOf, List.mem_filterMap] at hj
    obtain ⟨e, he, hej⟩ := hj
    refine ⟨e, he, ?_⟩
    unfold Region.binds
    cases hg : e.ground <;> rw [hg] at hej <;> simp_all
  -- the state behind those that are done
  let E : (Nat → Bool) → Env := fun X => eXr X 0 env ops.toList fs
  let M : (Nat → Bool) → Nat := fun X => lastP X 0 ops.toList 0
  let stX : (Nat → Bool) → St := fun X => ⟨E X, H (cntA (ops.toList.take (M X))), df⟩
  have inv : ∀ (fuel : Nat) (listed : Array Bool) (a' : Act) (w' : World), listed.size = ops.size → (List.range ops.size).countP (fun i => !listed.getD i false) ≤ fuel →
      (∀ (i : Nat) (o : Oper), ops.toList[i]? = some o → listed.getD i false = true → ∀ e ∈ edgesOf o, listed.getD e false = true) →
      Rel C n (stX (fun i => listed.getD i false)) a' w' → Keeps S a a' → (∀ (i : Nat) (f : Fact), fs[i]? = some f → listed.getD i false = true → f.pn = false) →
      wpAny P .any ops (fun e a' w' => Keeps S a a' ∧ ∃ x st', Q x st' ∧ XOk e x st' a' w' C n) fuel listed a' w' := by
    intro fuel
    have done : ∀ (listed : Array Bool) (a' : Act) (w' : World), listed.size = ops.size → (∀ i, i < ops.size → listed.getD i false = true) → Rel C n (stX (fun i => listed.getD i false)) a' w' → Keeps S a a' → (∀ (i : Nat) (f : Fact), fs[i]? = some f → listed.getD i false = true → f.pn = false) → Keeps S a a' ∧ ∃ x st', Q x st' ∧ XOk .normal x st' a' w' C n := by
      intro listed a' w' hsz hall hrel hk hnp
      refine ⟨hk, .normal, _, hQf trivial (fun f hf => by
        obtain ⟨i, hi, he⟩ := List.getElem_of_mem hf
        exact hnp i f (by rw [List.getElem?_eq_getElem hi, he]) (hall i (by rw [hfl] at hi; simpa using hi))), ?_⟩
      obtain ⟨h1, h2, β, V, h3, h4⟩ := hrel
      have hEq : ∀ s, E (fun i => listed.getD i false) s = foldE env ops.toList fs s := by
        intro s
        have := foldE_eX ops.toList fs ops.toList.length 0 env hfl
        rw [List.take_length, List.take_of_length_le (by omega)] at this
        rw [this]
        refine eXr_congr _ _ _ _ _ (fun k o hk _ => ?_) rfl
        have hkl : k < ops.toList.length := (List.getElem?_eq_some_iff.1 hk).1
        simp only [Nat.zero_add]
        rw [hall k (by simpa using hkl)]
        exact (decide_eq_true hkl).symm
      have hMq : cntA (ops.toList.take (M (fun i => listed.getD i false))) = cntA ops.toList := by
        -- behind the last that turns memory none does
        have key : ∀ m, M (fun i => listed.getD i false) ≤ m → m ≤ ops.toList.length → cntA (ops.toList.take m) = cntA (ops.toList.take (M (fun i => listed.getD i false))) := by
          intro m
          induction m with
          | zero => intro h _; have : M (fun i => listed.getD i false) = 0 := by omega
                    rw [this]
          | succ m ih =>
            intro hm hml
            by_cases he : M (fun i => listed.getD i false) = m + 1
            · rw [he]
            · have ho : ops.toList[m]? = some (ops.toList[m]'(by omega)) := List.getElem?_eq_getElem (by omega)
              rw [cntA_take_succ _ _ _ ho]
              cases hact : active (ops.toList[m]'(by omega)).op with
              | false => exact ih (by omega) (by omega)
              | true =>
                have := lastP_of (p := fun i => listed.getD i false) ops.toList 0 0 m _ ho hact (by rw [Nat.zero_add]; exact hall m (by simp at hml; omega))
                have hlt : m < M (fun i => listed.getD i false) := by simpa using this
                omega
        have hMle : M (fun i => listed.getD i false) ≤ ops.toList.length := by
          rcases lastP_some (p := fun i => listed.getD i false) ops.toList 0 0 with h | ⟨k, o, hk, _, _, h⟩
          · show lastP _ _ _ _ ≤ _; omega
          · have := (List.getElem?_eq_some_iff.1 hk).1
            show lastP _ _ _ _ ≤ _
            omega
        have := key ops.toList.length hMle (Nat.le_refl _)
        rw [List.take_length] at this
        exact this.symm
      refine ⟨h1, h2, β, V, ?_, fun s => ?_⟩
      · have h3' : RelD C (H (cntA (ops.toList.take (M (fun i => listed.getD i false))))) β V w' := h3
        rw [hMq] at h3'
        exact h3'
      · have h4s : RepD (H (cntA (ops.toList.take (M (fun i => listed.getD i false))))) β V w' (E (fun i => listed.getD i false) s) (a'.tmps.getD s undef) := h4 s
        rw [hMq, hEq s] at h4s
        exact hLf.rep h4s
    have alld : ∀ (listed : Array Bool), listed.size = ops.size → Region.ready .any ops listed = [] → ∀ i, i < ops.size → listed.getD i false = true := by
      intro listed hsz hrd i
      induction i using Nat.strongRecOn with
      | _ i ih =>
        intro hi
        by_cases hl : listed.getD i false = true
        · exact hl
        · exfalso
          have hl : listed.getD i false = false := by simpa using hl
          have hmem : i ∈ Region.ready .any ops listed := by
            simp only [Region.ready, List.mem_filter, List.mem_range]
            refine ⟨hi, ?_⟩
            have hlt : listed.getD i true = false := by
              rw [Array.getD_eq_getD_getElem?] at hl ⊢
              rw [Array.getElem?_eq_getElem (by omega)] at hl ⊢
              exact hl
            have hoi : ops[i]? = some ops[i] := Array.getElem?_eq_getElem hi
            rw [hlt, hoi]
            simp only [Bool.not_false, Bool.true_and, Option.map_some, Option.getD_some]
            rw [Array.all_eq_true]
            intro k hk
            simp only [Bool.or_eq_true, Bool.not_eq_true']
            by_cases hb : Region.binds .any ops[i].after[k] = true
            · right
              have hm := hbind ops[i] ops[i].after[k] (by simp) hb
              have hlt := hedge i ops[i] ((hops i _).1 hoi) _ hm
              exact ih _ hlt (by omega)
            · left; simpa using hb
          rw [hrd] at hmem
          simp at hmem
    induction fuel with
    | zero =>
      intro listed a' w' hsz hcount hcl hrel hk hnp
      have hall : ∀ i, i < ops.size → listed.getD i false = true := by
        intro i hi
        have h0 : (List.range ops.size).countP (fun i => !listed.getD i false) = 0 := by omega
        rw [List.countP_eq_zero] at h0
        have := h0 i (List.mem_range.2 hi)
        simpa using this
      refine ⟨?_, done listed a' w' hsz hall hrel hk hnp⟩
      simp only [Region.ready, List.filter_eq_nil_iff, List.mem_range]
      intro i hi
      have := hall i hi
      have hlt : listed.getD i true = true := by
        rw [Array.getD_eq_getD_getElem?] at this ⊢
        rw [Array.getElem?_eq_getElem (by omega)] at this ⊢
        exact this
      rw [hlt]
      simp
    | succ fuel ih =>
      intro listed a' w' hsz hcount hcl hrel hk hnp
      refine ⟨fun hrd => done listed a' w' hsz (alld listed hsz hrd) hrel hk hnp, fun i hi => ?_⟩
      simp only [Region.ready, List.mem_filter, List.mem_range, Bool.and_eq_true, Bool.not_eq_true'] at hi
      obtain ⟨hil, hli, hrdy⟩ := hi
      have hlif : listed.getD i false = false := by
        rw [Array.getD_eq_getD_getElem?] at hli ⊢
        rw [Array.getElem?_eq_getElem (by omega)] at hli ⊢
        exact hli
      have hoi : ops[i]? = some ops[i] := Array.getElem?_eq_getElem hil
      generalize ho : ops[i] = o at hoi
      have hot : ops.toList[i]? = some o := (hops i o).1 hoi
      obtain ⟨f, hfi⟩ : ∃ f, fs[i]? = some f := ⟨fs[i]'(by rw [hfl]; simpa using hil), List.getElem?_eq_getElem _⟩
      obtain ⟨hfa, hdead⟩ := hfact i o f hot hfi
      -- what it waits for is done
      have hpre : ∀ e ∈ edgesOf o, listed.getD e false = true := by
        intro j hj
        obtain ⟨e, he, rfl, hb⟩ := hedges o j hj
        rw [hoi] at hrdy
        simp only [Option.map_some, Option.getD_some] at hrdy
        rw [Array.all_eq_true] at hrdy
        obtain ⟨k, hk, hke⟩ := List.getElem_of_mem he
        have := hrdy k (by simpa using hk)
        simp only [Bool.or_eq_true, Bool.not_eq_true'] at this
        have hke' : o.after[k]'(by simpa using hk) = e := by simpa using hke
        rw [hke'] at this
        rcases this with h1 | h1
        · rw [hb] at h1; cases h1
        · exact h1
      let X : Nat → Bool := fun k => listed.getD k false
      have hXi : X i = false := hlif
      have hrow := row_done (X := X) (ops.toList.take i) (fun k p hkp hXk e he => by
          have hki : k < i := by have := (List.getElem?_eq_some_iff.1 hkp).1; simp at this; omega
          rw [List.getElem?_take_of_lt hki] at hkp
          exact hcl k p hkp hXk e he) (fun k p hkp e he => by
          have hki : k < i := by have := (List.getElem?_eq_some_iff.1 hkp).1; simp at this; omega
          rw [List.getElem?_take_of_lt hki] at hkp
          exact hedge k p hkp e he)
      have hil' : i < ops.toList.length := by simpa using hil
      have before : ∀ (k : Nat) (p : Oper), k < i → ops.toList[k]? = some p → confl pp ops o p = true → X k = true := by
        intro k p hki hkp hc
        have hb := (hat i o hot).2 k p (by rw [List.getElem?_take_of_lt hki]; exact hkp) hc
        exact hrow.2 (edgesOf o) hpre (fun e he => by have := hedge i o hot e he; simp; omega) k hb
      have later : ∀ (k : Nat) (p : Oper), i < k → ops.toList[k]? = some p → confl pp ops p o = true → X k = false := by
        intro k p hki hkp hc
        cases hXk : X k with
        | false => rfl
        | true =>
          exfalso
          have hb := (hat k p hkp).2 i o (by rw [List.getElem?_take_of_lt hki]; exact hot) hc
          have hrowk := row_done (X := X) (ops.toList.take k) (fun m q hmq hXm e he => by
              have hmk : m < k := by have := (List.getElem?_eq_some_iff.1 hmq).1; simp at this; omega
              rw [List.getElem?_take_of_lt hmk] at hmq
              exact hcl m q hmq hXm e he) (fun m q hmq e he => by
              have hmk : m < k := by have := (List.getElem?_eq_some_iff.1 hmq).1; simp at this; omega
              rw [List.getElem?_take_of_lt hmk] at hmq
              exact hedge m q hmq e he)
          have hkl : k < ops.toList.length := (List.getElem?_eq_some_iff.1 hkp).1
          have hks : k < ops.size := by simpa using hkl
          have := hrowk.2 (edgesOf p) (hcl k p hkp hXk) (fun e he => by have := hedge k p hkp e he; simp; omega) i hb
          rw [hXi] at this
          cases this
      -- the slots that it looks at hold what they held in the listed order
      have hlook : ∀ s ∈ o.looksAt ops, E X s = foldE env (ops.toList.take i) (fs.take i) s := by
        intro s hsl
        rw [foldE_eX ops.toList fs i 0 env hfl]
        refine eXr_congr _ _ _ _ _ (fun k p hkp hd => ?_) rfl
        simp only [Nat.zero_add]
        rcases Nat.lt_trichotomy k i with hki | hki | hki
        · have : confl pp ops o p = true := by
            cases hc : confl pp ops o p with
            | true => rfl
            | false => exact absurd hsl ((confl_symm_reads hc).2.1 s hd)
          rw [before k p hki hkp this]
          exact (decide_eq_true hki).symm
        · subst hki
          rw [hXi]
          simp
        · have : confl pp ops p o = true := by
            cases hc : confl pp ops p o with
            | true => rfl
            | false => exact absurd hsl ((confl_symm_reads hc).1 s hd)
          rw [later k p hki hkp this]
          exact (decide_eq_false (by omega)).symm
      have actpre : ∀ (k : Nat) (p : Oper), ops.toList[k]? = some p → active p.op = true → (X k = true ↔ k < M X) := by
        intro k p hkp hact
        constructor
        · intro hXk
          have := lastP_of (p := X) ops.toList 0 0 k p hkp hact (by rw [Nat.zero_add]; exact hXk)
          simpa using this
        · intro hlt
          rcases lastP_some (p := X) ops.toList 0 0 with h0 | ⟨j, q, hjq, hqa, hXj, hj⟩
          · have : M X = 0 := h0
            omega
          · have hMj : M X = j + 1 := by show lastP X 0 ops.toList 0 = j + 1; omega
            rw [Nat.zero_add] at hXj
            by_cases hkj : k = j
            · subst hkj; exact hXj
            · have hlt' : k < j := by omega
              have hc : confl pp ops q p = true := by
                cases hc : confl pp ops q p with
                | true => rfl
                | false => have := (confl_symm_reads hc).2.2.2.1; rw [hqa, hact] at this; cases this
              have hb := (hat j q hjq).2 k p (by rw [List.getElem?_take_of_lt hlt']; exact hkp) hc
              have hrowj := row_done (X := X) (ops.toList.take j) (fun m q hmq hXm e he => by
                  have hmk : m < j := by have := (List.getElem?_eq_some_iff.1 hmq).1; simp at this; omega
                  rw [List.getElem?_take_of_lt hmk] at hmq
                  exact hcl m q hmq hXm e he) (fun m q hmq e he => by
                  have hmk : m < j := by have := (List.getElem?_eq_some_iff.1 hmq).1; simp at this; omega
                  rw [List.getElem?_take_of_lt hmk] at hmq
                  exact hedge m q hmq e he)
              have hjl : j < ops.toList.length := (List.getElem?_eq_some_iff.1 hjq).1
              have hjs : j < ops.size := by simpa using hjl
              exact hrowj.2 (edgesOf q) (hcl j q hjq hXj) (fun e he => by have := hedge j q hjq e he; simp; omega) k hb
      obtain ⟨hsza, hdfa, β, V, hrelX, henvX⟩ := hrel
      have htmp : ∀ s, .tmp s ∈ o.op.operands → s ∈ o.looksAt ops := fun s hs => List.mem_append_left _ (List.mem_filterMap.2 ⟨.tmp s, by simpa using hs, rfl⟩)
      have hLrep : ∀ s ∈ o.looksAt ops, RepD (H (cntA (ops.toList.take (M X)))) β V w' (f.L s) (a'.tmps.getD s undef) := by
        intro s hsl
        have h1 : RepD (H (cntA (ops.toList.take (M X)))) β V w' (E X s) (a'.tmps.getD s undef) := henvX s
        rw [hlook s hsl] at h1
        exact hfa.ref.rep h1
      have hwant : Region.wanted o (yielded ops a'.tmps) = f.run := by
        have hg := hfa.guard
        unfold GuardOk at hg
        cases hgd : o.guard with
        | none => rw [hgd] at hg; simp [Region.wanted, hgd, hg]
        | some g =>
          obtain ⟨j, b⟩ := g
          rw [hgd] at hg
          simp only at hg
          have hw1 : Region.wanted o (yielded ops a'.tmps) = (yielded ops a'.tmps j == some b) := by simp [Region.wanted, hgd]
          rw [hw1]
          cases hd : (ops[j]?).bind (·.dst) with
          | none =>
            rw [hd] at hg
            have : yielded ops a'.tmps j = none := by unfold yielded; rw [hd]; rfl
            rw [this, hg]
            rfl
          | some s =>
            rw [hd] at hg
            simp only at hg
            have hsl : s ∈ o.looksAt ops := by
              unfold Oper.looksAt
              refine List.mem_append_right _ ?_
              rw [hgd]
              simp [hd]
            have hrs := hLrep s hsl
            rw [yielded_val hd]
            rcases hg with ⟨c, e1, e2⟩ | ⟨l, e1, e2⟩
            · rw [e1] at hrs
              simp only [RepD, RepV] at hrs
              rw [hrs, e2]
              rfl
            · rw [e1] at hrs
              simp only [RepD] at hrs
              obtain ⟨us, hv', _⟩ := hrs
              rw [hv', e2]
              rfl
      have hdn : ∀ d, o.dst = some d → d < n ∧ inL S d = true := fun d hd => by
        have hmm : d ∈ mods (.region id ops true) := by simp only [mods, List.mem_filterMap]; exact ⟨o, List.mem_of_getElem? hot, hd⟩
        exact ⟨hs d hmm, hm d hmm⟩
      let X' : Nat → Bool := fun k => (listed.setIfInBounds i true).getD k false
      have hX' : ∀ k, X' k = if k = i then true else X k := fun k => getD_set (by omega) false
      -- what the slots hold behind it
      have henv' : ∀ s, E X' s = if o.dst = some s then f.d else E X s := by
        intro s
        by_cases hd : o.dst = some s
        · rw [if_pos hd]
          refine eXr_at ops.toList fs 0 env i o f hot hfi hd (by rw [Nat.zero_add, hX', if_pos rfl]) (fun k p hik hkp hd' => ?_)
          rw [Nat.zero_add, hX', if_neg (by omega)]
          have hc : confl pp ops p o = true := by
            cases hc : confl pp ops p o with
            | true => rfl
            | false => exact absurd hd ((confl_symm_reads hc).2.2.1 s hd')
          exact later k p hik hkp hc
        · rw [if_neg hd]
          refine eXr_congr _ _ _ _ _ (fun k p hkp hd' => ?_) rfl
          rw [Nat.zero_add, hX']
          by_cases hki : k = i
          · subst hki
            rw [hot] at hkp
            injection hkp with e
            subst e
            exact absurd hd' hd
          · rw [if_neg hki]
      have stretch : ∀ (Pr : Nat → Prop) (lo hi : Nat), lo ≤ hi → hi ≤ ops.toList.length → (∀ m p, lo ≤ m → m < hi → ops.toList[m]? = some p → active p.op = false) → cntA (ops.toList.take hi) = cntA (ops.toList.take lo) := by
        intro _ lo hi hle hhl hna
        induction hi with
        | zero => have : lo = 0 := by omega
                  rw [this]
        | succ m ihm =>
          by_cases he : lo = m + 1
          · rw [he]
          · have hop : ops.toList[m]? = some (ops.toList[m]'(by omega)) := List.getElem?_eq_getElem (by omega)
            rw [cntA_take_succ _ _ _ hop, hna m _ (by omega) (by omega) hop]
            exact ihm (by omega) (by omega) (fun k p h1 h2 h3 => hna k p h1 (by omega) h3)
      have hXact : ∀ (k : Nat) (p : Oper), active o.op = true → ops.toList[k]? = some p → active p.op = true → (X k = true ↔ k < i) := by
        intro k p hao hkp hap
        have hc : ∀ q r : Oper, active q.op = true → active r.op = true → confl pp ops q r = true := fun q r h1 h2 => by
          cases hc : confl pp ops q r with
          | true => rfl
          | false => have := (confl_symm_reads hc).2.2.2.1; rw [h1, h2] at this; cases this
        rcases Nat.lt_trichotomy k i with hki | hki | hki
        · exact ⟨fun _ => hki, fun _ => before k p hki hkp (hc _ _ hao hap)⟩
        · subst hki; rw [hXi]; exact ⟨fun h => (by cases h), fun h => absurd h (Nat.lt_irrefl _)⟩
        · rw [later k p hki hkp (hc _ _ hap hao)]; exact ⟨fun h => (by cases h), fun h => (by omega)⟩
      have hcA : active o.op = true → cntA (ops.toList.take (M X)) = cntA (ops.toList.take i) ∧ cntA (ops.toList.take (M X')) = cntA (ops.toList.take i) + 1 := by
        intro hao
        have hMi : M X ≤ i := by
          rcases lastP_some (p := X) ops.toList 0 0 with h0 | ⟨j, q, hjq, hqa, hXj, hj⟩
          · show lastP X 0 ops.toList 0 ≤ i; omega
          · rw [Nat.zero_add] at hXj
            have := (hXact j q hao hjq hqa).1 hXj
            show lastP X 0 ops.toList 0 ≤ i
            omega
        refine ⟨(stretch (fun _ => True) (M X) i hMi (by omega) (fun m p h1 h2 hmp => ?_)).symm, ?_⟩
        · cases hap : active p.op with
          | false => rfl
          | true =>
            have := (actpre m p hmp hap).1 ((hXact m p hao hmp hap).2 h2)
            omega
        · have hM' : M X' = i + 1 := by
            have h1 : i < M X' := by
              have := lastP_of (p := X') ops.toList 0 0 i o hot hao (by rw [Nat.zero_add, hX', if_pos rfl])
              simpa using this
            rcases lastP_some (p := X') ops.toList 0 0 with h0 | ⟨j, q, hjq, hqa, hXj, hj⟩
            · have : M X' = 0 := h0
              omega
            · have hMj : M X' = j + 1 := by show lastP X' 0 ops.toList 0 = j + 1; omega
              rw [Nat.zero_add, hX'] at hXj
              by_cases hji : j = i
              · omega
              · rw [if_neg hji] at hXj
                have := (hXact j q hao hjq hqa).1 hXj
                omega
          rw [hM', cntA_take_succ _ _ _ hot, hao]
          rfl
      have hcQ : active o.op = false → M X' = M X := by
        intro hao
        refine lastP_congr ops.toList 0 0 (fun k p hkp hap => ?_)
        rw [Nat.zero_add, hX']
        by_cases hki : k = i
        · subst hki
          rw [hot] at hkp
          injection hkp with e
          subst e
          rw [hao] at hap
          cases hap
        · rw [if_neg hki]
      -- the relation behind it
      have next : f.pn = false → ∀ (v : Value) (w'' : World) (β' : Nat → Value) (V' : Nat → Prop), RelD C (H (cntA (ops.toList.take (M X')))) β' V' w'' → RepD (H (cntA (ops.toList.take (M X')))) β' V' w'' f.d v →
          LeH (H (cntA (ops.toList.take (M X)))) β (H (cntA (ops.toList.take (M X')))) β' → Moved V w' V' w'' → wpAny P .any ops (fun e a' w' => Keeps S a a' ∧ ∃ x st', Q x st' ∧ XOk e x st' a' w' C n) fuel (listed.setIfInBounds i true) (a'.put o.dst v) w'' := by
        intro hfp v w'' β' V' hrel' hd' hle hmv
        refine ih (listed.setIfInBounds i true) (a'.put o.dst v) w'' (by simp [hsz]) ?_ ?_ ⟨?_, ?_, β', V', hrel', fun s => ?_⟩ (hk.trans (Keeps.put (fun d hd => (hdn d hd).2) v)) (fun k f' hf' hXk => ?_)
        · have := countP_upd (p := fun k => !listed.getD k false) (q := fun k => !(listed.setIfInBounds i true).getD k false) (i := i) (List.range ops.size) List.nodup_range (List.mem_range.2 hil) (by simp [hlif]) (by have := hX' i; simp only [X'] at this; rw [this]; simp) (fun j hj => by have := hX' j; simp only [X'] at this; rw [this, if_neg hj])
          omega
        · intro k p hkp hXk e he
          have hXk' : X' k = true := hXk
          show X' e = true
          rw [hX'] at hXk' ⊢
          by_cases hei : e = i
          · rw [if_pos hei]
          · rw [if_neg hei]
            by_cases hki : k = i
            · subst hki
              rw [hot] at hkp
              injection hkp with e'
              subst e'
              exact hpre e he
            · rw [if_neg hki] at hXk'
              exact hcl k p hkp hXk' e he
        · cases o.dst with
          | none => exact hsza
          | some d => simp [Act.put, hsza]
        · cases o.dst with
          | none => exact hdfa
          | some d => exact hdfa
        · show RepD (H (cntA (ops.toList.take (M X')))) β' V' w'' (E X' s) ((a'.put o.dst v).tmps.getD s undef)
          rw [henv' s]
          cases hdst : o.dst with
          | none =>
            rw [if_neg (by simp)]
            exact RepD.mono hle hmv _ _ (henvX s)
          | some d =>
            have := env_put (n := n) (st := ⟨E X, H (cntA (ops.toList.take (M X))), df⟩) (a := a') henvX hsza hle hmv (i := d) (hdn d hdst).1 hd' df s
            simp only [Env.set] at this
            by_cases hsd : s = d
            · subst hsd
              rw [Nat.beq_refl] at this
              rw [if_pos rfl]
              exact this
            · rw [beq_ne hsd] at this
              rw [if_neg (by intro e; injection e with e; exact hsd e.symm)]
              exact this
        · have hXk' : X' k = true := hXk
          rw [hX'] at hXk'
          by_cases hki : k = i
          · subst hki
            rw [hfi] at hf'
            injection hf' with e'
            rw [← e']
            exact hfp
          · rw [if_neg hki] at hXk'
            exact hnp k f' hf' hXk'
      unfold wpOp
      rw [hoi]
      simp only [hwant]
      cases hrun : f.run with
      | false =>
        obtain ⟨hdany, hHs⟩ := hfa.skip hrun
        have hHeq : H (cntA (ops.toList.take (M X'))) = H (cntA (ops.toList.take (M X))) := by
          cases hao : active o.op with
          | true => obtain ⟨e1, e2⟩ := hcA hao; rw [e1, e2]; exact hHs hao
          | false => rw [hcQ hao]
        simp only [Bool.false_eq_true, if_false]
        have hfp : f.pn = false := by
          cases hfp : f.pn with
          | false => rfl
          | true => have := (hfa.pan hfp).1; rw [hrun] at this; cases this
        have := next hfp undef w' β V (by rw [hHeq]; exact hrelX) (by rw [hdany]; simp only [RepD]; exact ⟨[], rfl, by simp [RepDL]⟩) (by rw [hHeq]; exact LeH.refl _ _) (Moved.refl _ _)
        exact this
      | true =>
        simp only [if_true]
        left
        let L' : Env := fun s => bif inL (o.looksAt ops) s then f.L s else E X s
        have hL' : ∀ s ∈ o.looksAt ops, L' s = f.L s := fun s hs => by simp only [L', inL_iff.2 hs]; rfl
        have henvL : EnvOk ⟨L', H (cntA (ops.toList.take (M X))), df⟩ β V w' a' := by
          intro s
          show RepD _ β V w' (L' s) _
          cases hin : inL (o.looksAt ops) s with
          | true => rw [hL' s (inL_iff.1 hin)]; exact hLrep s (inL_iff.1 hin)
          | false => simp only [L', hin]; exact henvX s
        have hsame : ∀ h', Same C.G ⟨f.L, h', df⟩ ⟨L', h', df⟩ o.op.operands.toList := by
          intro h' x hx
          cases x with
          | tmp t => exact (hL' t (htmp t (by simpa using hx))).symm
          | _ => rfl
        have hnd : f.dd = false := by
          cases hdd : f.dd with
          | false => rfl
          | true =>
            exfalso
            obtain ⟨p, hb, hp⟩ := hdead hdd
            rcases hp with hp | ⟨i', f', hp, hf', hpf⟩
            · simp at hp
            · have hXp := hrow.2 (edgesOf o) hpre (fun e he => by have := hedge i o hot e he; simp; omega) p hb
              simp only [List.length_nil, Nat.zero_add] at hp
              subst hp
              have := hnp p f' hf' hXp
              rw [hpf] at this
              cases this
        cases hfp : f.pn with
        | true =>
          obtain ⟨_, _, hpop⟩ := hfa.pan hfp
          have hop : vcOp P T F C.G o.op ⟨L', H (cntA (ops.toList.take (M X))), df⟩ (fun _ _ => False) (fun dp _ => ∀ (e : Env) (h : Heap), Q (.pan dp) ⟨e, h, df⟩) :=
            vcOp_congr (st := ⟨f.L, H (cntA (ops.toList.take (M X))), df⟩) (st' := ⟨L', H (cntA (ops.toList.take (M X))), df⟩) rfl (hsame _) (hpop _)
          refine OpRun.wp (op_soundD (st := ⟨L', H (cntA (ops.toList.take (M X))), df⟩) hT hF hop hrelX henvL ?_ ?_)
          · intro d h' v w'' β' V' hq
            exact hq.elim
          · intro d h' t u w'' β' V' hq hrel' hd' hle hmv
            exact ⟨hk, .pan d, ⟨L', h', df⟩, hq L' h', t, u, rfl, hsza, hdfa, β', V', hrel', fun k => RepD.mono hle hmv _ _ (henvL k), hd'⟩
        | false =>
        have hop : ∃ z : Bool, vcOp P T F C.G o.op ⟨L', H (cntA (ops.toList.take (M X))), df⟩ (fun d h => frz z (H (cntA (ops.toList.take (M X)))).length d h fun d h => d = f.d ∧ h = H (cntA (ops.toList.take (M X')))) (fun _ _ => False) := by
          cases hao : active o.op with
          | true =>
            obtain ⟨e1, e2⟩ := hcA hao
            obtain ⟨z, hz⟩ := (hfa.act hrun hao).1
            refine ⟨z, vcOp_congr (st := ⟨f.L, H (cntA (ops.toList.take (M X))), df⟩) (st' := ⟨L', H (cntA (ops.toList.take (M X))), df⟩) rfl (hsame _) ?_⟩
            rw [e1, e2]
            exact hz _ ⟨rfl, rfl⟩
          | false =>
            refine ⟨false, vcOp_congr (st := ⟨f.L, H (cntA (ops.toList.take (M X))), df⟩) (st' := ⟨L', H (cntA (ops.toList.take (M X))), df⟩) rfl (hsame _) ?_⟩
            refine hfa.quiet hrun hao hfp hnd _ _ ?_ ⟨rfl, by rw [hcQ hao]⟩
            cases hhl : hpl pp o.op with
            | true => exact .inr rfl
            | false =>
              left
              -- from the last that it waits for to the last that is done nothing turned what was there
              have hi0 : ∀ j p, (ops.toList.take i)[j]? = some p → active p.op = true → Nat.testBit (rowOf (accOf (ops.toList.take i)) (edgesOf o)) j = true → j < lastP (Nat.testBit (rowOf (accOf (ops.toList.take i)) (edgesOf o))) 0 (ops.toList.take i) 0 := by
                intro j p hjp hap hb
                have := lastP_of (p := Nat.testBit (rowOf (accOf (ops.toList.take i)) (edgesOf o))) (ops.toList.take i) 0 0 j p hjp hap (by rw [Nat.zero_add]; exact hb)
                simpa using this
              generalize hi0e : lastP (Nat.testBit (rowOf (accOf (ops.toList.take i)) (edgesOf o))) 0 (ops.toList.take i) 0 = i0 at hi0
              have hle : i0 ≤ M X ∧ i0 ≤ i := by
                rcases lastP_some (p := Nat.testBit (rowOf (accOf (ops.toList.take i)) (edgesOf o))) (ops.toList.take i) 0 0 with h0 | ⟨j, q, hjq, hqa, hb, hj⟩
                · rw [hi0e] at h0
                  omega
                · rw [hi0e] at hj
                  rw [Nat.zero_add] at hb
                  have hji : j < i := by have := (List.getElem?_eq_some_iff.1 hjq).1; simp at this; omega
                  have hXj := hrow.2 (edgesOf o) hpre (fun e he => by have := hedge i o hot e he; simp; omega) j hb
                  rw [List.getElem?_take_of_lt hji] at hjq
                  have := (actpre j q hjq hqa).1 hXj
                  omega
              have hlo : cntR (rowOf (accOf (ops.toList.take i)) (edgesOf o)) (ops.toList.take i) = cntA (ops.toList.take i0) := by
                unfold cntR
                rw [hi0e, List.take_take, Nat.min_eq_left hle.2]
              rw [hlo]
              have hMl : M X ≤ ops.toList.length := by
                rcases lastP_some (p := X) ops.toList 0 0 with h0 | ⟨j, q, hjq, _, _, hj⟩
                · show lastP X 0 ops.toList 0 ≤ _; omega
                · have := (List.getElem?_eq_some_iff.1 hjq).1
                  show lastP X 0 ops.toList 0 ≤ _
                  omega
              have chain : ∀ m, i0 ≤ m → m ≤ M X → Ex (H (cntA (ops.toList.take i0))) (H (cntA (ops.toList.take m))) := by
                intro m
                induction m with
                | zero => intro h1 _; have : i0 = 0 := by omega
                          rw [this]; exact Ex.refl _
                | succ m ihm =>
                  intro h1 h2
                  by_cases he : i0 = m + 1
                  · rw [he]; exact Ex.refl _
                  · have hop : ops.toList[m]? = some (ops.toList[m]'(by omega)) := List.getElem?_eq_getElem (by omega)
                    generalize ops.toList[m]'(by omega) = p at hop
                    refine (ihm (by omega) (by omega)).trans ?_
                    rw [cntA_take_succ _ _ _ hop]
                    cases hap : active p.op with
                    | false => exact Ex.refl _
                    | true =>
                      simp only [cond_true]
                      obtain ⟨fm, hfm⟩ : ∃ fm, fs[m]? = some fm := ⟨fs[m]'(by rw [hfl]; omega), List.getElem?_eq_getElem _⟩
                      have hfam := (hfact m p fm hop hfm).1
                      cases hrm : fm.run with
                      | false => rw [(hfam.skip hrm).2 hap]; exact Ex.refl _
                      | true =>
                        refine (hfam.act hrm hap).2 ?_
                        cases hmu : mutat pp p.op with
                        | false => rfl
                        | true =>
                          exfalso
                          have hXm := (actpre m p hop hap).2 (by omega)
                          rcases Nat.lt_trichotomy m i with hmi | hmi | hmi
                          · have hc : confl pp ops o p = true := by
                              cases hc : confl pp ops o p with
                              | true => rfl
                              | false => have := (confl_symm_reads hc).2.2.2.2.2 hmu; rw [hhl] at this; cases this
                            have hb := (hat i o hot).2 m p (by rw [List.getElem?_take_of_lt hmi]; exact hop) hc
                            have := hi0 m p (by rw [List.getElem?_take_of_lt hmi]; exact hop) hap hb
                            omega
                          · subst hmi
                            rw [hot] at hop
                            injection hop with e
                            subst e
                            rw [hao] at hap
                            cases hap
                          · have hc : confl pp ops p o = true := by
                              cases hc : confl pp ops p o with
                              | true => rfl
                              | false => have := (confl_symm_reads hc).2.2.2.2.1 hmu; rw [hhl] at this; cases this
                            rw [later m p hmi hop hc] at hXm
                            cases hXm
              exact chain (M X) hle.1 (Nat.le_refl _)
        obtain ⟨z, hop⟩ := hop
        refine OpRun.wp (op_soundD (st := ⟨L', H (cntA (ops.toList.take (M X))), df⟩) hT hF hop hrelX henvL ?_ ?_)
        · intro d h' v w'' β' V' hq hrel' hd' hle hmv
          cases z with
          | false =>
            obtain ⟨rfl, rfl⟩ := hq
            exact next hfp v w'' β' V' hrel' hd' hle hmv
          | true =>
            obtain ⟨xs, e, sz, rfl, hi, e1, e2⟩ := frz_true hq
            refine next hfp v w'' β' (killV h' [(H (cntA (ops.toList.take (M X)))).length] β' V') (by rw [← e2]; exact kill_rel hrel' _) ?_ (by rw [← e2]; exact LeH.trans hle (kills_le _ _ _)) (hmv.trans (kill_moved _ _ _ _ _))
            rw [← e1, ← e2]
            simp only [RepD]
            refine sees_rep (d := .row _) hrel' ?_ hd' (fun j hj => by simpa [ids] using hj)
            simp only [Sees, hi]
        · intro d h' t u w'' β' V' hq
          exact hq.elim
  refine wp_region_any hM ?_
  refine inv ops.size (Array.replicate ops.size false) a _ (by simp) (Nat.le_trans List.countP_le_length (by simp)) (fun i o _ hX => ?_) ?_ (Keeps.refl _ _) (fun i f _ hX => ?_)
  rotate_right
  · exfalso
    rw [Array.getD_eq_getD_getElem?, Array.getElem?_replicate] at hX
    split at hX <;> simp at hX
  · exfalso
    rw [Array.getD_eq_getD_getElem?, Array.getElem?_replicate] at hX
    split at hX <;> simp at hX
  · obtain ⟨h1, h2, β, V, h3, h4⟩ := hr
    have hXf : (fun i => (Array.replicate ops.size false).getD i false) = fun _ => false := by
      funext i
      rw [Array.getD_eq_getD_getElem?, Array.getElem?_replicate]
      split <;> rfl
    rw [hXf]
    have hM0 : M (fun _ => false) = 0 := by
      rcases lastP_some (p := fun _ => false) ops.toList 0 0 with h0 | ⟨j, q, _, _, hb, _⟩
      · exact h0
      · cases hb
    have hE0 : ∀ s, E (fun _ => false) s = env s := by
      intro s
      have := foldE_eX ops.toList fs 0 0 env hfl
      simp only [List.take_zero, foldE] at this
      rw [this]
      exact eXr_congr _ _ _ _ _ (fun k o _ _ => by simp) rfl
    have hHz : H (cntA (ops.toList.take (M (fun _ => false)))) = hh := by rw [hM0]; simpa [cntA] using hH0
    refine ⟨h1, h2, β, V, ?_, fun s => ?_⟩
    · show RelD C (H (cntA (ops.toList.take (M (fun _ => false))))) β V _
      rw [hHz]
      exact h3.drew _
    · show RepD (H (cntA (ops.toList.take (M (fun _ => false))))) β V _ (E (fun _ => false) s) _
      rw [hHz, hE0 s]
      have h4s : RepD hh β V w (env s) (a.tmps.getD s undef) := h4 s
      exact RepD.mono (w := w) (w' := { w with drawn := w.drawn + 1 }) (V := V) (LeH.refl hh β) (fun k hk => ⟨hk, rfl⟩) _ _ h4s
end
end Go.Dm
