/-
  The engine, ninth part: tables that are checked by the kernel; the entering of a function; the rule for loops; what stays of memory. It holds of every program.
-/
import Derived.Test.YtbgabnnlmebhpaaEng8
namespace Go.Eng
open Go.RowKit

def eqV : Value → Value → Bool
  | .int k a, .int k' b => decide (k = k') && decide (a = b)
  | .bool a, .bool b => a == b
  | .string a, .string b => a.data.toList == b.data.toList
  | .slice none n c, .slice none n' c' => n == n' && c == c'
  | .pointer none, .pointer none => true
  | .map none, .map none => true
  | .chan none, .chan none => true
  | .nilFunc, .nilFunc => true
  | .nilIface, .nilIface => true
  | _, _ => false
theorem eqV_eq {a b : Value} (h : eqV a b = true) : a = b := by
  unfold eqV at h
  split at h <;> first | (cases h; done) | rfl | skip
  · simp only [Bool.and_eq_true, decide_eq_true_eq] at h; rw [h.1, h.2]
  · rw [eq_of_beq h]
  · rename_i s t
    have : s = t := by cases s; cases t; rename_i x y; have := eq_of_beq h; simp at this; rw [this]
    rw [this]
  · simp only [Bool.and_eq_true, beq_iff_eq] at h; rw [h.1, h.2]
def eqVL : List Value → List Value → Bool
  | [], [] => true
  | a :: l, b :: m => eqV a b && eqVL l m
  | _, _ => false
theorem eqVL_eq : ∀ {a b : List Value}, eqVL a b = true → a = b := by
  intro a
  induction a with
  | nil => intro b h; cases b with | nil => rfl | cons x y => cases h
  | cons x l ih =>
    intro b h
    cases b with
    | nil => cases h
    | cons y m => simp only [eqVL, Bool.and_eq_true] at h; rw [eqV_eq h.1, ih h.2]

def fieldsCheck (P : Program) : List Field → List (Nat × Nat) → Bool
  | [], [] => true
  | f :: fs, (off, sz) :: l => f.offset == off && (match P.info? f.type with | some inf => inf.size == sz | none => false) && !(sz == 0) && fieldsCheck P fs l
  | _, _ => false
theorem fieldsCheck_ok {P : Program} : ∀ {fs : List Field} {l : List (Nat × Nat)}, fieldsCheck P fs l = true → fs.length = l.length ∧ ∀ (k off sz : Nat), l[k]? = some (off, sz) → ∃ (f : Field) (inf : TypeInfo), fs[k]? = some f ∧ f.offset = off ∧ P.info? f.type = some inf ∧ inf.size = sz ∧ sz ≠ 0 := by
  intro fs
  induction fs with
  | nil => intro l h; cases l with | nil => exact ⟨rfl, fun k off sz hk => by simp at hk⟩ | cons x y => cases h
  | cons f fs ih =>
    intro l h
    cases l with
    | nil => cases h
    | cons p l =>
      obtain ⟨off, sz⟩ := p
      simp only [fieldsCheck, Bool.and_eq_true, beq_iff_eq, Bool.not_eq_true', beq_eq_false_iff_ne] at h
      obtain ⟨⟨⟨h1, h2⟩, h3⟩, h4⟩ := h
      obtain ⟨hl, hh⟩ := ih h4
      refine ⟨by simp [hl], fun k o s hk => ?_⟩
      cases k with
      | zero =>
        simp at hk
        obtain ⟨rfl, rfl⟩ := hk
        cases hi : P.info? f.type with
        | none => rw [hi] at h2; cases h2
        | some inf => rw [hi] at h2; exact ⟨f, inf, rfl, h1, hi, eq_of_beq h2, h3⟩
      | succ k => exact hh k o s (by simpa using hk)

def kindCheck (P : Program) : TypeDesc → TK → Bool
  | .interface _, .iface => true
  | .interface _, _ => false
  | .bool, .bool => true
  | .int k, .int k' => decide (k = k')
  | .string, .str => true
  | .slice e, .slice e' => e == e'
  | .struct fs, .struct l => fieldsCheck P fs.toList l
  | .array n e, .array n' e' => n == n' && e == e'
  | _, .cell => true
  | _, _ => false
theorem kindCheck_ok {P : Program} {d : TypeDesc} {k : TK} (h : kindCheck P d k = true) : descOk P d k := by
  unfold kindCheck at h
  split at h <;> first | (cases h; done) | skip
  · trivial
  · rfl
  · rw [of_decide_eq_true h]; rfl
  · rfl
  · rw [eq_of_beq h]; rfl
  · rename_i fs l
    obtain ⟨h1, h2⟩ := fieldsCheck_ok h
    exact ⟨fs, rfl, by simpa using h1, fun k off sz hk => by simpa using h2 k off sz hk⟩
  · simp only [Bool.and_eq_true, beq_iff_eq] at h; rw [h.1, h.2]; rfl
  · unfold descOk
    split <;> first | trivial | simp_all

def infoCheck (P : Program) (t : TypeId) (i : TI) : Bool :=
  match P.underlying t, P.info? t with
  | some d, some inf => kindCheck P d i.kind && inf.size == i.size && inf.bytes == i.bytes && (match inf.zero with | some z => eqVL z.cells.toList i.zero | none => false) && (isAggD d == i.agg) && (i.zero.length == i.size)
  | _, _ => false
theorem infoCheck_ok {P : Program} {t : TypeId} {i : TI} (h : infoCheck P t i = true) : InfoOk P t i := by
  unfold infoCheck at h
  split at h
  · rename_i d inf hd hi
    simp only [Bool.and_eq_true, beq_iff_eq] at h
    obtain ⟨⟨⟨⟨⟨h1, h2⟩, h3⟩, h4⟩, h5⟩, h6⟩ := h
    cases hz : inf.zero with
    | none => rw [hz] at h4; cases h4
    | some z =>
      rw [hz] at h4
      exact ⟨⟨d, hd, kindCheck_ok h1, h5⟩, ⟨inf, z, hi, h2, h3, hz, by rw [← eqVL_eq h4]⟩, h6⟩
  · cases h

def lookT : List (TypeId × TI) → Tab
  | [], _ => none
  | p :: l, t => bif Nat.beq p.1 t then some p.2 else lookT l t
def tabCheck (P : Program) (L : List (TypeId × TI)) : Bool := L.all fun p => infoCheck P p.1 p.2
theorem tabCheck_ok {P : Program} {L : List (TypeId × TI)} (h : tabCheck P L = true) : TabOk P (lookT L) := by
  induction L with
  | nil => intro t i ht; cases ht
  | cons p l ih =>
    unfold tabCheck at h
    simp only [List.all_cons, Bool.and_eq_true] at h
    intro t i ht
    unfold lookT at ht
    cases hb : Nat.beq p.1 t with
    | true =>
      rw [hb] at ht
      have he := Nat.eq_of_beq_eq_true hb
      injection ht with ht
      subst ht
      subst he
      exact infoCheck_ok h.1
    | false => rw [hb] at ht; exact ih h.2 t i ht
/-- The functions that a walk may call: those of the numbers in l. -/
def fnsIn (lo N : Nat) (g : Nat) : Bool := Nat.ble lo g && Nat.blt g N
def fnsCheck (P : Program) (lo : Nat) : Nat → Bool
  | 0 => true
  | N + 1 => (Nat.blt N lo || fnOk P N) && fnsCheck P lo N
theorem fns_ok {P : Program} {lo N : Nat} (h : fnsCheck P lo N = true) : ∀ g : Nat, fnsIn lo N g = true → fnOk P g = true := by
  induction N with
  | zero => intro g hg; simp [fnsIn, Nat.blt] at hg
  | succ N ih =>
    intro g hg
    simp only [fnsCheck, Bool.and_eq_true, Bool.or_eq_true] at h
    simp only [fnsIn, Bool.and_eq_true] at hg
    have h1 := Nat.le_of_ble_eq_true hg.1
    have h2 : g < N + 1 := Nat.le_of_ble_eq_true hg.2
    by_cases hgn : g = N
    · subst hgn
      rcases h.1 with h3 | h3
      · have : g < lo := Nat.le_of_ble_eq_true h3
        omega
      · exact h3
    · exact ih h.2 g (by simp only [fnsIn, Bool.and_eq_true]; exact ⟨hg.1, Nat.ble_eq_true_of_le (by omega)⟩)

def envOf (args : List Value) : Env := fun i => match args[i]? with | some v => SV.of v | none => .v undef

def resV (st : St) : List ResultVar → Option (List Value)
  | [] => some []
  | .tmp t :: l => match resV st l with
    | some vs => some ((st.env t).val st.hp :: vs)
    | none => none
  | .cell _ _ :: _ => none
def oneOr : List Value → Value
  | [v] => v
  | vs => .tuple vs.toArray

/-- The results, of which some lie in blocks of the call's own. -/
def resVC (T : Tab) (st : St) : List ResultVar → Option (List Value)
  | [] => some []
  | .tmp t :: l => match resVC T st l with
    | some vs => some ((st.env t).val st.hp :: vs)
    | none => none
  | .cell t ty :: l => match resVC T st l, st.env t, T ty with
    | some vs, .loc j off, some i => match st.hp[j]? with
      | some x => bif i.agg && Nat.ble (off + i.size) x.cs.length then some (.agg (List.take i.size (x.cs.drop off)).toArray :: vs) else none
      | none => none
    | _, _, _ => none

def Fin (T : Tab) (C : Ctx) (rs : List ResultVar) (R : Ending → World → Prop) : Post
  | .normal, ⟨env, hp, rows, df⟩, A | .ret, ⟨env, hp, rows, df⟩, A => match resVC T ⟨env, hp, rows, df⟩ rs with
    | some vs => forceVL vs fun vs => df = [] ∧ ∀ w, RelW C hp rows A w → R (.returned (oneOr vs)) w
    | none => False
  | .panic ch, ⟨_, hp, rows, df⟩, A => df = [] ∧ ∀ w, RelW C hp rows A w → R (.panicked ch) w
  | _, _, _ => False

section
variable {P : Program} {T : Tab} {F : FuncId → Bool} {C : Ctx} {n : Nat}

theorem run_results (hT : TabOk P T) {st : St} {A : Anch} {a : Act} {w : World} (hr : Rel C n st A a w) : ∀ (rs : List ResultVar) (vs : List Value), resVC T st rs = some vs →
    (rs.mapM (m := Sem) fun | .tmp t => pure (a.tmps.getD t undef) | .cell c t => do loadVar t (← asAddr (a.tmps.getD c undef))).run P w = .ok vs w := by
  intro rs
  induction rs with
  | nil => intro vs h; simp [resVC] at h; subst h; rfl
  | cons r l ih =>
    intro vs h
    cases r with
    | tmp t =>
      simp only [resVC] at h
      cases hl : resVC T st l with
      | none => rw [hl] at h; cases h
      | some us =>
        rw [hl] at h
        injection h with h
        subst h
        simp only [List.mapM_cons, Sem.run_bind, Sem.run_pure, Result.andThen_ok, ih us hl, hr.tm t]
    | cell t ty =>
      simp only [resVC] at h
      split at h
      · rename_i us j off i hl he ht
        split at h
        · rename_i x hx
          cases hb : i.agg && Nat.ble (off + i.size) x.cs.length with
          | false => rw [hb] at h; cases h
          | true =>
            rw [hb] at h
            simp only [cond_true] at h
            injection h with h
            subst h
            simp only [Bool.and_eq_true] at hb
            have hle := Nat.le_of_ble_eq_true hb.2
            have hbn : bnum st.hp j = x.b := by simp [bnum, hx]
            have hp : a.tmps.getD t undef = .pointer (some ⟨x.b, off, none⟩) := by rw [hr.tm t, he]; simp [SV.val, hbn]
            have hld := run_loadVar_agg (P := P) (w := w) (a := ⟨x.b, off, none⟩) (hT ty i ht) hb.1 (vs := List.take i.size (x.cs.drop off)) (by simp; omega) (by
              intro k v hk
              rw [add_mk, cell_of_row w _ _ _ _ _ (hr.rw.blk j x hx)]
              have hkl : k < i.size := by have := (List.getElem?_eq_some_iff.1 hk).1; simp at this; omega
              rw [List.getElem?_take_of_lt hkl, List.getElem?_drop] at hk
              simpa using hk)
            have hone : (do loadVar ty (← asAddr (a.tmps.getD t undef)) : Sem Value).run P w = .ok (.agg (List.take i.size (x.cs.drop off)).toArray) w := by simp [hp, asAddr, hld]
            rw [List.mapM_cons, Sem.run_bind, hone]
            simp only [Result.andThen_ok, Sem.run_bind, ih us hl, Sem.run_pure]
        · cases h
      · cases h

theorem run_results' (hT : TabOk P T) {st : St} {A : Anch} {a : Act} {w : World} (hr : Rel C n st A a w) {fn : Func} {vs : List Value} (h : resVC T st fn.results.toList = some vs) : (results fn a.tmps).run P w = .ok (oneOr vs) w := by
  unfold results
  rw [Array.mapM_eq_mapM_toList]
  simp only [Sem.run_bind, Sem.run_map]
  have := run_results hT hr _ _ h
  erw [this]
  simp only [Result.andThen_ok, Sem.run_pure]
  congr 1
  match vs with
  | [] => rfl
  | [v] => rfl
  | _ :: _ :: _ => simp [oneOr]

/-- A FUNCTION IS ENTERED. -/
theorem enter (hT : TabOk P T) (hF : ∀ g, F g = true → fnOk P g = true) {f : FuncId} {fn : Func} {c : Code} (hf : P.funcs[f]? = some fn) (hb : fn.body = some c) (N : Nat) (hN : fn.ntmps = N) (hs : slotsIn N c = true) (rs : List ResultVar) (hrs : fn.results.toList = rs)
    (args : List Value) (hal : args.length ≤ N) (own : Nat → Prop) (w : World) (R : Ending → World → Prop)
    (h : vc P T F ⟨w, own⟩ N c { env := envOf args, hp := [], rows := [], df := [] } ⟨w, fun k => k < w.heap.size ∧ ¬ own k⟩ (Fin T ⟨w, own⟩ rs R)) : Calls P f args.toArray w R := by
  subst hN
  subst hrs
  refine calls_of_wp hf hb ?_
  have hr : Rel ⟨w, own⟩ fn.ntmps { env := envOf args, hp := [], rows := [], df := [] } ⟨w, fun k => k < w.heap.size ∧ ¬ own k⟩ { tmps := args.toArray ++ Array.replicate (fn.ntmps - args.toArray.size) undef, defers := [] } w := by
    refine ⟨?_, fun i => ?_, fun i => ?_, rfl, ⟨fun i x h => by simp at h, fun i r h => by simp at h, by simp [nums], fun k hk => by simp [nums] at hk, fun k _ => rfl, fun k hk => hk.1, fun k hk => by simp [nums] at hk, Nat.le_refl _, Nat.le_refl _, Fr.refl _ _⟩⟩
    · simp; omega
    · show _ = (envOf args i).val []
      unfold envOf
      rw [Array.getD_eq_getD_getElem?]
      by_cases hi : i < args.length
      · rw [Array.getElem?_append_left (by simpa using hi)]
        simp [hi, SV.val_of]
      · have h1 : args[i]? = none := List.getElem?_eq_none (by omega)
        rw [h1, Array.getElem?_append_right (by simp; omega)]
        simp only [SV.val]
        rw [Array.getElem?_replicate]
        split <;> rfl
    · show SVok [] (envOf args i)
      unfold envOf
      split
      · exact SVok.of_ _ _
      · trivial
  refine Code.wp_mono ?_ (vc_sound hT hF c _ hs hs _ _ _ w _ h hr)
  rintro e a' w' ⟨_, st', A', hq, hr'⟩
  cases e with
  | normal =>
    obtain ⟨env, hp, rows, df⟩ := st'
    simp only [Fin, forceVL_eq] at hq
    split at hq
    · rename_i vs hvs
      exact ⟨hr'.df.trans hq.1, _, run_results' hT hr' hvs, hq.2 w' hr'.rw⟩
    · exact hq.elim
  | ret =>
    obtain ⟨env, hp, rows, df⟩ := st'
    simp only [Fin, forceVL_eq] at hq
    split at hq
    · rename_i vs hvs
      exact ⟨hr'.df.trans hq.1, _, run_results' hT hr' hvs, hq.2 w' hr'.rw⟩
    · exact hq.elim
  | panic ch =>
    obtain ⟨env, hp, rows, df⟩ := st'
    exact ⟨hr'.df.trans hq.1, hq.2 w' hr'.rw⟩
  | exit id => exact hq.elim
  | goto l => exact hq.elim
  | outgrown => exact hq.elim
end
end Go.Eng
