/-
  The second engine, thirteenth part: the entering of a function, and the lines by which walks use calls and returns. It holds of every program whose table of types is met.
-/
import Derived.Test.YthbdbjnakknbkaaDoorDm12
namespace Go.Dm
open Go Go.Eng Go.RowKit

/-- Regions draw their order. -/
structure Mix (P : Program) : Prop where
  ok : P.follows .mixedOrders = true
def nth {α : Type} (z : α) : List α → Nat → α
  | [], _ => z
  | a :: _, 0 => a
  | _ :: l, n + 1 => nth z l n
def envOf (args : List D) : Env := fun i => nth .any args i

def resD (T : Tab) (st : St) : List ResultVar → Option (List D)
  | [] => some []
  | .tmp t :: l => match resD T st l with
    | some ds => some (st.env t :: ds)
    | none => none
  | .cell t ty :: l => match resD T st l, st.env t, T ty with
    | some ds, .ptr j off, some i => match st.h[j]? with
      | some (.blk cs _) => match i.agg with
        | true => bif Nat.ble (off + i.size) cs.length then some (.agg (List.take i.size (cs.drop off)) :: ds) else none
        | false => match cs[off]? with
          | some d => some (d :: ds)
          | none => none
      | _ => none
    | _, _, _ => none
def oneOrD : List D → D
  | [d] => d
  | ds => .tuple ds

/-- What a function's end must come to. -/
def RetTo (Q : Out → Prop) (h : Heap) (d : D) : Prop := ∃ src d' h', TurnTo h src [d] h' [d'] ∧ Q (.ret d' h')
def PanTo (Q : Out → Prop) (h : Heap) (d : D) : Prop := ∃ d', TurnTo h [] [d] [] [d'] ∧ Q (.pan d')
def Fin (T : Tab) (rs : List ResultVar) (Q : Out → Prop) : Post
  | .normal, ⟨env, h, df⟩ | .ret, ⟨env, h, df⟩ => match resD T ⟨env, h, df⟩ rs with
    | some ds => forceDL ds fun ds => df = [] ∧ RetTo Q h (oneOrD ds)
    | none => False
  | .pan d, ⟨_, h, df⟩ => df = [] ∧ PanTo Q h d
  | .exit _, _ => False

section
variable {P : Program} {T : Tab} {F : FuncId → Bool} {G : Gl}

theorem run_resultsD (hT : TabOk P T) {st : St} {a : Act} {w : World} {C : Ctx} {β : Nat → Value} {V : Nat → Prop} (hr : RelD C st.h β V w) (he : EnvOk st β V w a) : ∀ (rs : List ResultVar) (ds : List D), resD T st rs = some ds →
    ∃ vs, (rs.mapM (m := Sem) fun | .tmp t => pure (a.tmps.getD t undef) | .cell c t => do loadVar t (← asAddr (a.tmps.getD c undef))).run P w = .ok vs w ∧ RepDL st.h β V w ds vs := by
  intro rs
  induction rs with
  | nil => intro ds h; simp [resD] at h; subst h; exact ⟨[], rfl, by simp [RepDL]⟩
  | cons r l ih =>
    intro ds h
    cases r with
    | tmp t =>
      simp only [resD] at h
      cases hl : resD T st l with
      | none => rw [hl] at h; cases h
      | some us =>
        rw [hl] at h
        injection h with h
        subst h
        obtain ⟨vs, h1, h2⟩ := ih us hl
        refine ⟨a.tmps.getD t undef :: vs, ?_, by simp only [RepDL]; exact ⟨_, _, rfl, he t, h2⟩⟩
        simp only [List.mapM_cons, Sem.run_bind, Sem.run_pure, Result.andThen_ok, h1]
    | cell t ty =>
      simp only [resD] at h
      split at h
      · rename_i us j off i hl het ht
        obtain ⟨vs, h1, h2⟩ := ih us hl
        have hx := he t
        rw [het] at hx
        split at h
        · rename_i cs ty' hj
          simp only [RepD, hj] at hx
          obtain ⟨g, hb, hv⟩ := hx
          obtain ⟨g', us', hb', hg, hcs⟩ := hr.obj j _ hj
          have e : g' = g := by rw [hb] at hb'; injection hb' with hb'; injection hb' with hb'; injection hb' with hb'; exact hb'.symm
          subst e
          have fin : ∀ (d : D) (v : Value), (loadVar ty ⟨g', off, none⟩).run P w = .ok v w → RepD st.h β V w d v → d :: us = ds → ∃ vs, ((ResultVar.cell t ty :: l).mapM (m := Sem) fun | .tmp t => pure (a.tmps.getD t undef) | .cell c t => do loadVar t (← asAddr (a.tmps.getD c undef))).run P w = .ok vs w ∧ RepDL st.h β V w ds vs := by
            intro d v hrun hd hds
            subst hds
            have hone : (do loadVar ty (← asAddr (a.tmps.getD t undef)) : Sem Value).run P w = .ok v w := by simp [hv, asAddr, hrun]
            refine ⟨v :: vs, ?_, by simp only [RepDL]; exact ⟨_, _, rfl, hd, h2⟩⟩
            rw [List.mapM_cons, Sem.run_bind, hone]
            simp only [Result.andThen_ok, Sem.run_bind, h1, Sem.run_pure]
          cases hagg : i.agg with
          | true =>
            rw [hagg] at h
            simp only at h
            cases hble : Nat.ble (off + i.size) cs.length with
            | false => rw [hble] at h; cases h
            | true =>
              rw [hble] at h
              simp only [cond_true] at h
              injection h with h
              have hle := Nat.le_of_ble_eq_true hble
              have hlen := hcs.len
              refine fin _ (.agg ⟨List.take i.size (us'.drop off)⟩) (run_loadVar_agg (hT ty i ht) hagg (vs := List.take i.size (us'.drop off)) (by simp; omega) (fun k v hk => ?_)) (by simp only [RepD]; exact ⟨_, rfl, (hcs.drop off).take i.size⟩) h
              rw [add_mk, cell_of_row w _ _ _ _ _ hg]
              have hkl : k < i.size := by have := (List.getElem?_eq_some_iff.1 hk).1; simp at this; omega
              rw [List.getElem?_take_of_lt hkl, List.getElem?_drop] at hk
              simpa using hk
          | false =>
            rw [hagg] at h
            simp only at h
            split at h
            · rename_i d hd
              injection h with h
              obtain ⟨v, hv1, hv2⟩ := hcs.get hd
              refine fin d v (run_loadVar_one (hT ty i ht) hagg ?_) hv2 h
              rw [cell_of_row w _ _ _ _ _ hg]
              simpa using hv1
            · cases h
        · cases h
      · cases h

theorem run_resultsD' (hT : TabOk P T) {st : St} {a : Act} {w : World} {C : Ctx} {β : Nat → Value} {V : Nat → Prop} (hr : RelD C st.h β V w) (he : EnvOk st β V w a) {fn : Func} {ds : List D} (h : resD T st fn.results.toList = some ds) :
    ∃ v, (results fn a.tmps).run P w = .ok v w ∧ RepDL st.h β V w [oneOrD ds] [v] := by
  obtain ⟨vs, h1, h2⟩ := run_resultsD hT hr he _ _ h
  refine ⟨oneOr vs, ?_, ?_⟩
  · unfold results
    rw [Array.mapM_eq_mapM_toList]
    simp only [Sem.run_bind, Sem.run_map]
    erw [h1]
    simp only [Result.andThen_ok, Sem.run_pure]
    congr 1
    match vs with
    | [] => rfl
    | [v] => rfl
    | _ :: _ :: _ => simp [oneOr]
  · have hlen := h2.len
    simp only [RepDL]
    refine ⟨_, [], rfl, ?_, rfl⟩
    match ds, vs, hlen with
    | [d], [v], _ =>
      simp only [RepDL] at h2
      obtain ⟨v', us, e, h3, h4⟩ := h2
      injection e with e1 e2
      subst e1
      exact h3
    | [], [], _ => simp only [oneOrD, oneOr, RepD]; exact ⟨[], rfl, by simp [RepDL]⟩
    | _ :: _ :: _, _ :: _ :: _, _ => simp only [oneOrD, oneOr, RepD]; exact ⟨_, rfl, h2⟩

theorem empty_rel {G : Gl} {V : Nat → Prop} {w : World} (hV : ∀ k, V k → k < w.heap.size) (hG : GlOk G V w) : RelD ⟨w, fun _ => False, V, G⟩ [] (fun _ => undef) V w :=
  ⟨fun i o h => by simp at h, fun i j o o' k h => by simp at h, fun i o k h => by simp at h, fun i o k h => by simp at h, hV, fun k hk => hk, fun k hk => .inl hk, Fr.refl _ _, hG⟩

/-- What code asks where memory may be told anew at some of its joints. -/
def vcT (P : Program) (T : Tab) (F : FuncId → Bool) (G : Gl) (n : Nat) : List Nat → Code → St → Post → Prop
  | [], c, st, Q => vc P T F G n c st Q
  | 0 :: l, .seq x y, st, Q => vc P T F G n x st (fun e st' => match e with | .normal => TurnP G n (fun st1 => vcT P T F G n l y st1 Q) st' | e => Q e st')
  | (k + 1) :: l, .seq x y, st, Q => vc P T F G n x st (fun e st' => match e with | .normal => vcT P T F G n (k :: l) y st' Q | e => Q e st')
  | _, _, _, _ => False
theorem vcT_sound {n : Nat} (hT : TabOk P T) (hF : ∀ g, F g = true → fnOk P g = true) (hM : P.follows .mixedOrders = true) : ∀ (c : Code) (l : List Nat) (S : List Nat), (∀ k ∈ mods c, k < n) → (∀ k ∈ mods c, inL S k = true) → ∀ (C : Ctx) (st : St) (a : Act) (w : World) (Q : Post), vcT P T F C.G n l c st Q → Rel C n st a w →
    c.wp P (fun e a' w' => Keeps S a a' ∧ ∃ x st', Q x st' ∧ XOk e x st' a' w' C n) a w := by
  intro c
  induction c with
  | seq x y _ ihy =>
    intro l S hs hm C st a w Q h hr
    cases l with
    | nil => exact vc_sound hT hF hM _ S hs hm C st a w Q h hr
    | cons k l =>
      simp only [mods, List.mem_append] at hs hm
      cases k with
      | zero =>
        simp only [vcT] at h
        refine wp_seq (Code.wp_mono ?_ (vc_sound hT hF hM x S (fun k hk => hs k (.inl hk)) (fun k hk => hm k (.inl hk)) C st a w _ h hr))
        rintro e a' w' ⟨hk, x', st', hq, hx⟩
        cases e with
        | normal =>
          cases x' <;> try exact hx.elim
          obtain ⟨st1, ht, hq⟩ := hq
          refine Code.wp_mono ?_ (ihy l S (fun k hk => hs k (.inr hk)) (fun k hk => hm k (.inr hk)) C st1 a' w' Q hq (ht C a' w' rfl hx))
          rintro e a'' w'' ⟨hk', rest⟩
          exact ⟨hk.trans hk', rest⟩
        | exit i => cases x' <;> first | exact hx.elim | exact ⟨hk, _, st', hq, hx⟩
        | ret => cases x' <;> first | exact hx.elim | exact ⟨hk, _, st', hq, hx⟩
        | panic ch => cases x' <;> first | exact hx.elim | exact ⟨hk, _, st', hq, hx⟩
        | goto l => cases x' <;> exact hx.elim
        | outgrown => cases x' <;> exact hx.elim
      | succ k =>
        simp only [vcT] at h
        refine wp_seq (Code.wp_mono ?_ (vc_sound hT hF hM x S (fun k hk => hs k (.inl hk)) (fun k hk => hm k (.inl hk)) C st a w _ h hr))
        rintro e a' w' ⟨hk, x', st', hq, hx⟩
        cases e with
        | normal =>
          cases x' <;> try exact hx.elim
          refine Code.wp_mono ?_ (ihy (k :: l) S (fun k hk => hs k (.inr hk)) (fun k hk => hm k (.inr hk)) C st' a' w' Q hq hx)
          rintro e a'' w'' ⟨hk', rest⟩
          exact ⟨hk.trans hk', rest⟩
        | exit i => cases x' <;> first | exact hx.elim | exact ⟨hk, _, st', hq, hx⟩
        | ret => cases x' <;> first | exact hx.elim | exact ⟨hk, _, st', hq, hx⟩
        | panic ch => cases x' <;> first | exact hx.elim | exact ⟨hk, _, st', hq, hx⟩
        | goto l => cases x' <;> exact hx.elim
        | outgrown => cases x' <;> exact hx.elim
  | _ =>
    intro l S hs hm C st a w Q h hr
    cases l with
    | nil => exact vc_sound hT hF hM _ S hs hm C st a w Q h hr
    | cons k l => cases k <;> exact h.elim

/-- A FUNCTION IS ENTERED. -/
theorem enterT (tn : List Nat) (hT : TabOk P T) (hF : ∀ g, F g = true → fnOk P g = true) (hM : Mix P) {f : FuncId} {fn : Func} {c : Code} (hf : P.funcs[f]? = some fn) (hb : fn.body = some c) (N : Nat) (hN : fn.ntmps = N) (hs : allLt N (mods c) = true) (rs : List ResultVar) (hrs : fn.results.toList = rs)
    (args : List D) (hal : Nat.ble args.length N = true) (Q : Out → Prop) (h : vcT P T F G N tn c ⟨envOf args, [], []⟩ (Fin T rs Q)) : CT P G f args Q := by
  subst hN
  subst hrs
  intro w V vals hV hG hargs
  have hlen := hargs.len
  have hal := Nat.le_of_ble_eq_true hal
  refine calls_of_wp hf hb ?_
  have hnth : ∀ (ds : List D) (vs : List Value), RepDL [] (fun _ => undef) V w ds vs → ∀ i, RepD [] (fun _ => undef) V w (nth .any ds i) (vs.getD i undef) := by
    intro ds
    induction ds with
    | nil => intro vs _ i; simp only [nth, RepD]
    | cons d ds ih =>
      intro vs h i
      simp only [RepDL] at h
      obtain ⟨v, us, rfl, h1, h2⟩ := h
      cases i with
      | zero => simpa [nth] using h1
      | succ i => simpa [nth] using ih us h2 i
  have hr : Rel ⟨w, fun _ => False, V, G⟩ fn.ntmps ⟨envOf args, [], []⟩ { tmps := (⟨vals⟩ : Array Value) ++ Array.replicate (fn.ntmps - (⟨vals⟩ : Array Value).size) undef, defers := [] } w := by
    refine ⟨by simp; omega, rfl, fun _ => undef, V, empty_rel hV hG, fun i => ?_⟩
    have h1 := hnth args vals hargs i
    have h2 : ((⟨vals⟩ : Array Value) ++ Array.replicate (fn.ntmps - (⟨vals⟩ : Array Value).size) undef).getD i undef = vals.getD i undef := by
      rw [Array.getD_eq_getD_getElem?, List.getD_eq_getElem?_getD]
      by_cases hi : i < vals.length
      · rw [Array.getElem?_append_left (by simpa using hi)]
        simp
      · rw [Array.getElem?_append_right (by simp; omega), List.getElem?_eq_none (by omega)]
        rw [Array.getElem?_replicate]
        split <;> rfl
    rw [h2]
    exact h1
  have hlt := allLt_mem hs
  refine Code.wp_mono ?_ (vcT_sound hT hF hM.ok c tn (mods c) hlt (fun k hk => inL_iff.2 hk) ⟨w, fun _ => False, V, G⟩ _ _ w _ h hr)
  rintro e a' w' ⟨_, x, st', hq, hx⟩
  have ret : ∀ {st' : St}, Rel ⟨w, fun _ => False, V, G⟩ fn.ntmps st' a' w' → (match resD T st' fn.results.toList with | some ds => forceDL ds fun ds => st'.df = [] ∧ RetTo Q st'.h (oneOrD ds) | none => False) →
      a'.defers = [] ∧ ∃ v, (results fn a'.tmps).run P w' = .ok v w' ∧ PostC G Q V w (.returned v) w' := by
    rintro st' ⟨_, hdf, β, V', hrel, he⟩ hq
    cases hres : resD T st' fn.results.toList with
    | none => rw [hres] at hq; exact hq.elim
    | some ds =>
      rw [hres] at hq
      simp only [forceDL_eq] at hq
      obtain ⟨hd0, src, d', h', ht, hQ⟩ := hq
      obtain ⟨v, hv1, hv2⟩ := run_resultsD' hT hrel he hres
      obtain ⟨h1, h2⟩ := ht.use hrel hv2
      simp only [RepDL] at h2
      obtain ⟨v', us, e, h3, _⟩ := h2
      injection e with e1 e2
      subst e1
      exact ⟨hdf.trans hd0, v, hv1, d', h', _, _, hQ, h1, h3⟩
  cases e with
  | normal =>
    cases x <;> try exact hx.elim
    exact ret hx hq
  | ret =>
    cases x <;> try exact hx.elim
    exact ret hx hq
  | panic ch =>
    cases x <;> try exact hx.elim
    obtain ⟨t, u, hch, hsz, hdf, β, V', hrel, he, hd⟩ := hx
    obtain ⟨hd0, d', ht, hQ⟩ := hq
    obtain ⟨h1, h2⟩ := ht.use hrel (vs := [.iface t u]) (by simp only [RepDL]; exact ⟨_, _, rfl, hd, rfl⟩)
    simp only [RepDL] at h2
    obtain ⟨v', us, e, h3, _⟩ := h2
    injection e with e1 e2
    subst e1
    exact ⟨hdf.trans hd0, d', t, u, _, _, hch, hQ, h1, h3⟩
  | exit i => cases x <;> first | exact hx.elim | exact hq.elim
  | goto l => cases x <;> exact hx.elim
  | outgrown => cases x <;> exact hx.elim

theorem enter (hT : TabOk P T) (hF : ∀ g, F g = true → fnOk P g = true) (hM : Mix P) {f : FuncId} {fn : Func} {c : Code} (hf : P.funcs[f]? = some fn) (hb : fn.body = some c) (N : Nat) (hN : fn.ntmps = N) (hs : allLt N (mods c) = true) (rs : List ResultVar) (hrs : fn.results.toList = rs)
    (args : List D) (hal : Nat.ble args.length N = true) (Q : Out → Prop) (h : vc P T F G N c ⟨envOf args, [], []⟩ (Fin T rs Q)) : CT P G f args Q :=
  enterT [] hT hF hM hf hb N hN hs rs hrs args hal Q (by simp only [vcT]; exact h)

/-- Returns. -/
theorem retIs {h : Heap} {x d : D} (hl : conv h [] 4 x = d ∨ Like (newN []) 4 (conv h [] 4 x) d) : RetTo (Is d) h x :=
  ⟨[], d, [], ⟨rfl, .inl rfl, by rcases hl with rfl | hl; exact .inl rfl; exact .inr ⟨hl, trivial⟩, rfl⟩, rfl⟩
theorem retQ {Q : Out → Prop} {h : Heap} {x : D} (d : D) (hl : conv h [] 4 x = d ∨ Like (newN []) 4 (conv h [] 4 x) d) (q : Q (.ret d [])) : RetTo Q h x :=
  ⟨[], d, [], ⟨rfl, .inl rfl, by rcases hl with rfl | hl; exact .inl rfl; exact .inr ⟨hl, trivial⟩, rfl⟩, q⟩
theorem retP {h : Heap} {p q : Prop} (e : p ↔ q) : RetTo (Is (.pb q)) h (.pb p) := retIs (.inr (.inr e))
theorem retN {h : Heap} {p q : Prop} (e : ¬p ↔ q) : RetTo (Is (.pb q)) h (.pn p) := retIs (.inr (.inr e))
theorem retB {h : Heap} {b : Bool} {q : Prop} (e : b = true ↔ q) : RetTo (Is (.pb q)) h (.g (.bool b)) := retIs (.inr (.inr e))
theorem retT {h : Heap} {q : Prop} (e : q) : RetTo (Is (.pb q)) h (.g (.bool true)) := retB ⟨fun _ => e, fun _ => rfl⟩
theorem retF {h : Heap} {q : Prop} (e : ¬q) : RetTo (Is (.pb q)) h (.g (.bool false)) := retB ⟨fun h => absurd h (by decide), fun h => absurd h e⟩
theorem retPB {h : Heap} {p : Prop} {b : Bool} (e : b = true ↔ p) : RetTo (Is (.g (.bool b))) h (.pb p) := retIs (.inr (.inr e))
theorem retNB {h : Heap} {p : Prop} {b : Bool} (e : b = true ↔ ¬p) : RetTo (Is (.g (.bool b))) h (.pn p) := retIs (.inr (.inr e))
/-- A law's end: true. -/
theorem retYes {h : Heap} {p : Prop} (e : p) : RetTo (Is (.g (.bool true))) h (.pb p) := retPB ⟨fun _ => e, fun _ => rfl⟩
theorem retI {h : Heap} {a b : Int} (e : a = b) : RetTo (Is (.g (.int b))) h (.g (.int a)) := by subst e; exact retIs (.inl rfl)
theorem retS {h : Heap} {a b : List UInt8} (e : a = b) : RetTo (Is (.g (.str b))) h (.g (.str a)) := by subst e; exact retIs (.inl rfl)
/-- A row is returned, to be used further. -/
theorem retRow {Q : Out → Prop} {h : Heap} {i : Nat} {xs ys : List (List GV)} {e sz : Nat} (hi : h[i]? = some (.row xs e sz)) (hx : xs = ys) (q : Q (.ret (.row 0) [.row ys e sz])) : RetTo Q h (.row i) := by
  subst hx
  have hkp : kp [.old i] 0 i = some 0 := by simp [kp]
  refine ⟨[.old i], .row 0, [.row xs e sz], ⟨rfl, .inl ?_, .inl ?_, rfl⟩, q⟩
  · simp only [turnH, List.map_cons, List.map_nil, turnO, hi]
  · simp only [List.map_cons, List.map_nil, conv, hkp]
theorem panQ {Q : Out → Prop} {h : Heap} {x : D} (d : D) (hl : conv h [] 4 x = d) (q : Q (.pan d)) : PanTo Q h x :=
  ⟨d, ⟨rfl, .inl rfl, .inl (by rw [← hl]; rfl), rfl⟩, q⟩

/-- Calls: what is returned is known. -/
theorem callIs {g : FuncId} {ds as : List D} {d : D} {K : D → Heap → Prop} {Kp : D → Prop} (hl : likeA ds as) (hc : CT P G g as (Is d)) (hk : K d []) :
    ∃ as Q, likeA ds as ∧ CT P G g as Q ∧ (∀ d h', Q (.ret d h') → K d h') ∧ (∀ d, Q (.pan d) → Kp d) :=
  ⟨as, Is d, hl, hc, fun d' h' hq => by injection hq with e1 e2; subst e1; subst e2; exact hk, fun d' hq => by cases hq⟩
theorem callQ {g : FuncId} {ds as : List D} {Q : Out → Prop} {K : D → Heap → Prop} {Kp : D → Prop} (hl : likeA ds as) (hc : CT P G g as Q) (hk : ∀ d h', Q (.ret d h') → K d h') (hp : ∀ d, Q (.pan d) → Kp d) :
    ∃ as Q, likeA ds as ∧ CT P G g as Q ∧ (∀ d h', Q (.ret d h') → K d h') ∧ (∀ d, Q (.pan d) → Kp d) :=
  ⟨as, Q, hl, hc, hk, hp⟩
/-- The element of a list of rows at a place. -/
theorem gm {α β : Type} {f : α → β} {l : List α} {i : Nat} (h : i < l.length) : (l.map f)[i]? = some (f l[i]) := by simp [h]
theorem ge {α : Type} {l : List α} {i : Nat} (h : i < l.length) : l[i]? = some l[i] := by simp [h]
theorem take_one {α : Type} {l : List α} {i : Nat} (h : i < l.length) : l.take (i + 1) = l.take i ++ [l[i]] := List.take_succ_eq_append_getElem h
end
end Go.Dm
