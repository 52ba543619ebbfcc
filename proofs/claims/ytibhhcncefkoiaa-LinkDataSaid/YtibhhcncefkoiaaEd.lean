/-
  A function that defers a call at its beginning, which turns what it panics with into its result: how it is entered. And tree.Check's contract.
-/
import Derived.Test.YtibhhcncefkoiaaCt
import Derived.OneCell
namespace Go.Dm
open Go Go.Eng Go.RowKit
def thenD (P : Program) (T : Tab) (F : FuncId → Bool) (G : Gl) (n : Nat) (rest : Code) (Q : Deferred → Post) : Post
  | .normal, ⟨env, h, df⟩ => df = [] ∧ ∀ d, vc P T F G n rest ⟨env, h, [d]⟩ (Q d)
  | _, _ => False
def FinC (c : Nat) (tF : TypeId) (v : Int) (d : Deferred) : Post
  | .normal, ⟨env, h, df⟩ | .ret, ⟨env, h, df⟩ => df = [d] ∧ ∃ j t, env c = .ptr j 0 ∧ h[j]? = some (.blk [.g (.int v)] t)
  | .pan x, ⟨env, h, df⟩ => df = [d] ∧ x = .iface tF (.agg [.g (.int v)]) ∧ ∃ j y t, env c = .ptr j 0 ∧ h[j]? = some (.blk [.g (.int y)] t)
  | .exit _, _ => False
section
variable {P : Program} {T : Tab} {F : FuncId → Bool} {G : Gl}
/-- The world in which the cell has been written. -/
theorem cell_rel {w w2 : World} {V V2 : Nat → Prop} {h : Heap} {β : Nat → Value} (hrel : RelD ⟨w, fun _ => False, V, G⟩ h β V2 w2) {j : Nat} {y : Int} {t : TypeId} (hj : h[j]? = some (.blk [.g (.int y)] t)) {g : Nat} (hb : β j = .pointer (some ⟨g, 0, none⟩)) (o : Go.Obj) (v : Int) :
    (∀ o, (w2.alloc o).cell? ⟨g, 0, none⟩ = some (.int .i64 y)) ∧ (∀ o, (w2.alloc o).frozen? ⟨g, 0, none⟩ = false) ∧ RelD ⟨w, fun _ => False, V, G⟩ [.blk [.g (.int v)] t] (fun _ => .pointer (some ⟨g, 0, none⟩)) V2 ((w2.alloc o).setCell ⟨g, 0, none⟩ (.int .i64 v)) := by
  obtain ⟨g', us, hb', hg, hcs⟩ := hrel.obj j _ hj
  have e : g' = g := by rw [hb] at hb'; injection hb' with hb'; injection hb' with hb'; injection hb' with hb'; exact hb'.symm
  subst e
  simp only [RepDL, RepD, RepV] at hcs
  obtain ⟨v', us', rfl, rfl, rfl⟩ := hcs
  have hlt : g' < w2.heap.size := by
    rw [Array.getElem?_eq_some_iff] at hg
    exact hg.1
  have hga : ∀ o, (w2.alloc o).heap[g']? = some (.cells #[.int .i64 y] t (0, 0)) := fun o => by
    simp only [World.alloc, Array.getElem?_push]
    rw [if_neg (by omega)]
    exact hg
  have hmin : w.heap.size ≤ g' := by
    rcases hrel.mine j _ g' hj rfl (by rw [hb]; rfl) with h1 | h1
    · exact h1
    · exact h1.elim
  have hnV : ¬V2 g' := hrel.vout j _ g' hj rfl (by rw [hb]; rfl)
  have hoth : ∀ k, k < w2.heap.size → k ≠ g' → ((w2.alloc o).setCell ⟨g', 0, none⟩ (.int .i64 v)).heap[k]? = w2.heap[k]? := fun k hk hne => by
    rw [Below.heap_setCell _ _ _ _ hne]
    simp only [World.alloc, Array.getElem?_push]
    rw [if_neg (by omega)]
  have hmv : Moved V2 w2 V2 ((w2.alloc o).setCell ⟨g', 0, none⟩ (.int .i64 v)) := fun k hk => ⟨hk, hoth k (hrel.vlt k hk) (fun e => hnV (e ▸ hk))⟩
  have one : ∀ {i : Nat} {o' : Obj}, [Obj.blk [D.g (.int v)] t][i]? = some o' → i = 0 ∧ o' = .blk [D.g (.int v)] t := fun {i o'} hi => by
    cases i with
    | zero => simp at hi; exact ⟨rfl, hi.symm⟩
    | succ i => simp at hi
  refine ⟨fun o => ?_, fun o => ?_, ⟨fun i o' hi => ?_, fun i j o1 o2 k hi _ hj _ _ _ => ?_, fun i o' k hi _ hk => ?_, fun i o' k hi _ hk => ?_, fun k hk => ?_, hrel.vin, hrel.vnew, ?_, hrel.gl.move hmv⟩⟩
  · simp only [World.cell?, hga o]
    rfl
  · simp only [World.frozen?, hga o]
    rfl
  · obtain ⟨rfl, rfl⟩ := one hi
    exact ⟨g', [.int .i64 v], rfl, one_setCell (hga o), by simp only [RepDL, RepD, RepV]; exact ⟨_, _, rfl, rfl, rfl⟩⟩
  · rw [(one hi).1, (one hj).1]
  · have : g' = k := by injection hk
    subst this
    exact .inl hmin
  · have : g' = k := by injection hk
    subst this
    exact hnV
  · rw [World.size_setCell, World.size_alloc]
    have := hrel.vlt k hk
    omega
  · refine ⟨hrel.fr.os, hrel.fr.tape, hrel.fr.output, ?_, fun k hk hn => ?_⟩
    · rw [World.size_setCell, World.size_alloc]
      have := hrel.fr.size
      exact Nat.le_succ_of_le this
    · have hk' : k < w.heap.size := hk
      have h2 : w.heap.size ≤ w2.heap.size := hrel.fr.size
      rw [hoth k (by omega) (by omega)]
      exact hrel.fr.block k hk hn
theorem enterD (hT : TabOk P T) (hF : ∀ g, F g = true → fnOk P g = true) (hM : Mix P) {f : FuncId} {fn : Func} {r0 rd rest : Code} (hf : P.funcs[f]? = some fn) (hb : fn.body = some (.seq r0 (.seq rd rest))) (N : Nat) (hN : fn.ntmps = N) (hs0 : allLt N (mods r0) = true) (hs1 : allLt N (mods rest) = true)
    (c : Nat) (ty : TypeId) (hrs : fn.results.toList = [.cell c ty]) (hc : inL (mods rest) c = false) {ti : TI} (hti : T ty = some ti) (hagg : ti.agg = false) (args : List D) (hal : Nat.ble args.length N = true) (tF : TypeId) (g : FuncId)
    (hrd : ∀ (Q : Exit → Act → World → Prop) (a : Act) (w : World), Q .normal { a with defers := { target := .fn (.func g) #[], args := #[a.tmps.getD c undef] } :: a.defers } w → rd.wp P Q a w)
    (hinv : ∀ x w, (invoke (.fn (.func g) #[]) #[x]).run P w = .ok (.enter g #[x]) w)
    (idle : ∀ p w, CallsD P g #[.pointer (some p)] .returning w fun e u' w' => e = .returned (.tuple #[]) ∧ u' = .returning ∧ w' = w)
    (caught : ∀ (p : Addr) (x e : Int) (w : World), (∀ o, (w.alloc o).cell? p = some (.int .i64 x)) → (∀ o, (w.alloc o).frozen? p = false) → CallsD P g #[.pointer (some p)] (.panicking [{ v := .iface tF (.agg #[.int .i64 e]), recovered := false }]) w fun en u' w' => en = .returned (.tuple #[]) ∧ u' = .panicking [{ v := .iface tF (.agg #[.int .i64 e]), recovered := true }] ∧ ∃ o, w' = (w.alloc o).setCell p (.int .i64 e))
    (v : Int) (h : vc P T F G N r0 ⟨envOf args, [], []⟩ (thenD P T F G N rest (FinC c tF v))) : CT P G f args (Is (.g (.int v))) := by
  subst hN
  intro w V vals hV hG hargs
  have hlen := hargs.len
  have hal := Nat.le_of_ble_eq_true hal
  refine calls_of_wp_defers hf hb ?_
  have hnth : ∀ (ds : List D) (vs : List Value), RepDL [] (fun _ => undef) V w ds vs → ∀ i, RepD [] (fun _ => undef) V w (nth .any ds i) (vs.getD i undef) := by
    intro ds
    induction ds with
    | nil => intro vs _ i; simp only [nth, RepD]
    | cons d ds ih =>
      intro vs h i
      simp only [RepDL] at h
      obtain ⟨v, us, rfl, h1, h2⟩ := h
      cases i with
      | zero => simpa [nth] using h1
      | succ i => simpa [nth] using ih us h2 i
  have hr : Rel ⟨w, fun _ => False, V, G⟩ fn.ntmps ⟨envOf args, [], []⟩ { tmps := (⟨vals⟩ : Array Value) ++ Array.replicate (fn.ntmps - (⟨vals⟩ : Array Value).size) undef, defers := [] } w := by
    refine ⟨by simp; omega, rfl, fun _ => undef, V, empty_rel hV hG, fun i => ?_⟩
    have h1 := hnth args vals hargs i
    have h2 : ((⟨vals⟩ : Array Value) ++ Array.replicate (fn.ntmps - (⟨vals⟩ : Array Value).size) undef).getD i undef = vals.getD i undef := by
      rw [Array.getD_eq_getD_getElem?, List.getD_eq_getElem?_getD]
      by_cases hi : i < vals.length
      · rw [Array.getElem?_append_left (by simpa using hi)]
        simp
      · rw [Array.getElem?_append_right (by simp; omega), List.getElem?_eq_none (by omega)]
        rw [Array.getElem?_replicate]
        split <;> rfl
    rw [h2]
    exact h1
  have hlt0 := allLt_mem hs0
  have hlt1 := allLt_mem hs1
  refine wp_seq (Code.wp_mono ?_ (vc_sound hT hF hM.ok r0 (mods r0) hlt0 (fun k hk => inL_iff.2 hk) ⟨w, fun _ => False, V, G⟩ _ _ w _ h hr))
  rintro e a1 w1 ⟨_, x, st1, hq, hx⟩
  cases x with
  | exit _ => exact hq.elim
  | ret => exact hq.elim
  | pan _ => exact hq.elim
  | normal =>
  cases e <;> try exact hx.elim
  obtain ⟨hsz, hdf, β1, V1, hrel1, he1⟩ := hx
  obtain ⟨env1, h1, df1⟩ := st1
  obtain ⟨rfl, hq⟩ := hq
  refine wp_seq (hrd _ a1 w1 ?_)
  have hx1 : Rel ⟨w, fun _ => False, V, G⟩ fn.ntmps ⟨env1, h1, [{ target := .fn (.func g) #[], args := #[a1.tmps.getD c undef] }]⟩ { a1 with defers := { target := .fn (.func g) #[], args := #[a1.tmps.getD c undef] } :: a1.defers } w1 :=
    ⟨hsz, by rw [hdf], β1, V1, hrel1, he1⟩
  refine Code.wp_mono ?_ (vc_sound hT hF hM.ok rest (mods rest) hlt1 (fun k hk => inL_iff.2 hk) ⟨w, fun _ => False, V, G⟩ _ _ w1 _ (hq _) hx1)
  rintro e a2 w2 ⟨hk2, x, ⟨env2, h2, df2⟩, hq2, hx2⟩
  have hc2 : a2.tmps.getD c undef = a1.tmps.getD c undef := hk2 c hc
  -- the cell
  have ptr : ∀ {β2 : Nat → Value} {V2 : Nat → Prop} {j : Nat} {y : Int} {t : TypeId}, RelD ⟨w, fun _ => False, V, G⟩ h2 β2 V2 w2 → EnvOk ⟨env2, h2, df2⟩ β2 V2 w2 a2 → env2 c = .ptr j 0 → h2[j]? = some (.blk [.g (.int y)] t) → ∃ g', β2 j = .pointer (some ⟨g', 0, none⟩) ∧ a1.tmps.getD c undef = .pointer (some ⟨g', 0, none⟩) := by
    intro β2 V2 j y t hrel he hj hh
    have hp := he c
    rw [show (⟨env2, h2, df2⟩ : St).env c = env2 c from rfl, hj, hc2] at hp
    simp only [RepD, hh] at hp
    obtain ⟨g', hb', hv⟩ := hp
    exact ⟨g', hb', hv⟩
  have fin : ∀ {w3 : World} {β3 : Nat → Value} {V3 : Nat → Prop} {h3 : Heap} {env3 : Env} {j : Nat} {t : TypeId}, RelD ⟨w, fun _ => False, V, G⟩ h3 β3 V3 w3 → EnvOk ⟨env3, h3, []⟩ β3 V3 w3 a2 → env3 c = .ptr j 0 → h3[j]? = some (.blk [.g (.int v)] t) →
      Leaves P fn a2.tmps (PostC G (Is (.g (.int v))) V w) [] .returning w3 := by
    intro w3 β3 V3 h3 env3 j t hrel he hj hh
    have hres : resD T ⟨env3, h3, []⟩ fn.results.toList = some [.g (.int v)] := by
      rw [hrs]
      simp only [resD, hj, hti, hh, hagg]
      rfl
    obtain ⟨v', hv1, hv2⟩ := run_resultsD' hT hrel he hres
    obtain ⟨src, d', h', ht, hQ⟩ := (retIs (.inl rfl) : RetTo (Is (.g (.int v))) h3 (.g (.int v)))
    obtain ⟨r1, r2⟩ := ht.use hrel hv2
    simp only [RepDL] at r2
    obtain ⟨v'', us, e, r3, _⟩ := r2
    injection e with e1 e2
    subst e1
    exact ⟨v', hv1, d', h', _, _, hQ, r1, r3⟩
  have ret : ∀ {st2 : St}, st2 = ⟨env2, h2, df2⟩ → Rel ⟨w, fun _ => False, V, G⟩ fn.ntmps st2 a2 w2 → (df2 = [{ target := .fn (.func g) #[], args := #[a1.tmps.getD c undef] }] ∧ ∃ j t, env2 c = .ptr j 0 ∧ h2[j]? = some (.blk [.g (.int v)] t)) → Leaves P fn a2.tmps (PostC G (Is (.g (.int v))) V w) a2.defers .returning w2 := by
    rintro _ rfl ⟨_, hdf2, β2, V2, hrel2, he2⟩ ⟨hd2, j, t, hj, hh⟩
    obtain ⟨g', hb', hp⟩ := ptr hrel2 he2 hj hh
    rw [hdf2]
    show Leaves P fn a2.tmps _ df2 .returning w2
    rw [hd2, hp]
    refine leaves_cons (by simp) (hinv _ _) ((idle _ w2).mono ?_)
    rintro e u' w' ⟨rfl, rfl, rfl⟩
    exact fin (env3 := env2) hrel2 he2 hj hh
  cases x with
  | exit _ => exact hq2.elim
  | normal => cases e <;> first | exact hx2.elim | exact ret rfl hx2 hq2
  | ret => cases e <;> first | exact hx2.elim | exact ret rfl hx2 hq2
  | pan d =>
    cases e <;> try exact hx2.elim
    obtain ⟨t, u, rfl, _, hdf2, β2, V2, hrel2, he2, hd⟩ := hx2
    obtain ⟨hd2, rfl, j, y, t', hj, hh⟩ := hq2
    obtain ⟨g', hb', hp⟩ := ptr hrel2 he2 hj hh
    simp only [RepD] at hd
    obtain ⟨u', e1, us, rfl, hus⟩ := hd
    injection e1 with e1 e2
    subst e1; subst e2
    simp only [RepDL, RepD, RepV] at hus
    obtain ⟨v', us', rfl, rfl, rfl⟩ := hus
    show Leaves P fn a2.tmps _ a2.defers (.panicking _) w2
    rw [hdf2]
    show Leaves P fn a2.tmps _ df2 (.panicking _) w2
    rw [hd2, hp]
    obtain ⟨c1, c2, _⟩ := cell_rel hrel2 hh hb' (Go.Obj.cells #[] 0 (0, 0)) v
    refine leaves_cons (by simp) (hinv _ _) ((caught _ y v w2 c1 c2).mono ?_)
    rintro e u' w' ⟨rfl, rfl, o, rfl⟩
    obtain ⟨_, _, r3⟩ := cell_rel hrel2 hh hb' o v
    refine fin (env3 := fun k => bif Nat.beq k c then .ptr 0 0 else .any) (j := 0) r3 (fun k => ?_) (by simp) rfl
    show RepD _ _ _ _ (bif Nat.beq k c then .ptr 0 0 else .any) _
    cases hk : Nat.beq k c with
    | false => simp only [cond_false, RepD]
    | true =>
      have := Nat.eq_of_beq_eq_true hk
      subst this
      simp only [cond_true, RepD]
      exact ⟨g', rfl, hc2.trans hp⟩
end
end Go.Dm
