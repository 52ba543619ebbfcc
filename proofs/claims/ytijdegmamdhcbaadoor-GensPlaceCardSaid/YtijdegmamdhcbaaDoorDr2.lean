/-
  What a reading of an argument gives: values that stand for data of the argument's type. And the frame of a law's proof: it returns true, and what was there stays. It holds of every program.
-/
import Derived.Test.YtijdegmamdhcbaaDoorDm13
import Derived.ChangeArms
import Derived.Deep.Fields
import Derived.ProofKit
namespace Go.Dm
open Go Go.Eng Go.RowKit Go.ChangeShapes Go.WideShapes Go.Deep

/-- A datum is of a type. -/
def TypedG (P : Program) : Nat → TypeId → GV → Prop
  | 0, _, _ => False
  | f + 1, t, g => match P.underlying t with
    | some (.int .i64) => ∃ n, g = .int n ∧ -9223372036854775808 ≤ n ∧ n ≤ 9223372036854775807
    | some .string => ∃ l, g = .str l ∧ l.length ≤ reachBytes
    | some .bool => ∃ b, g = .bool b
    | some (.slice e) => ∃ xs, g = .sl (P.cellsOf e) xs ∧ xs.length * P.bytesOf e ≤ reachBytes ∧ ∀ r ∈ xs, match P.underlying e with
      | some (.struct fs) => r.length = fs.size ∧ ∀ (i : Nat) (fd : Field) (g : GV), fs[i]? = some fd → r[i]? = some g → TypedG P f fd.type g
      | _ => ∃ g, r = [g] ∧ TypedG P f e g
    | _ => False

def TypedR (P : Program) (f : Nat) (t : TypeId) (r : List GV) : Prop := match P.underlying t with
  | some (.struct fs) => r.length = fs.size ∧ ∀ (i : Nat) (fd : Field) (g : GV), fs[i]? = some fd → r[i]? = some g → TypedG P f fd.type g
  | _ => ∃ g, r = [g] ∧ TypedG P f t g

/-- A set of types that are all plain: integers, texts, bools, slices and structs of them. -/
def plainAt (P : Program) (S : List TypeId) (t : TypeId) : Bool :=
  match P.underlying t with
  | some (.int k) => decide (k = .i64) && P.cellsOf t == 1
  | some .string => P.cellsOf t == 1
  | some .bool => P.cellsOf t == 1
  | some (.slice e) => S.contains e && P.cellsOf t == 1 && !(P.cellsOf e == 0)
  | some (.struct fs) => oneCellFields P fs && P.cellsOf t == fs.size && fs.toList.all fun f => S.contains f.type && !(match P.underlying f.type with | some (.struct _) => true | _ => false)
  | _ => false
def plainSet (P : Program) (S : List TypeId) : Bool := S.all (plainAt P S)

theorem mem_weightsAll {H : Type} {P : Program} {e : TypeId} : ∀ {l : List (DataW H)} {d : DataW H} {n : Nat}, d ∈ l → n ∈ d.weights P e → n ∈ DataW.weightsAll P e l
  | [], _, _, h, _ => by simp at h
  | x :: l, d, n, h, hn => by
    simp only [DataW.weightsAll, List.mem_append]
    rcases List.mem_cons.1 h with rfl | h
    · exact .inl hn
    · exact .inr (mem_weightsAll h hn)
theorem mem_weightsEach {H : Type} {P : Program} : ∀ {ts : List TypeId} {l : List (DataW H)} {i : Nat} {t : TypeId} {d : DataW H} {n : Nat}, ts[i]? = some t → l[i]? = some d → n ∈ d.weights P t → n ∈ DataW.weightsEach P ts l
  | [], _, i, _, _, _, h, _, _ => by simp at h
  | _ :: _, [], i, _, _, _, _, h, _ => by simp at h
  | t :: ts, x :: l, 0, _, _, n, h, h', hn => by
    simp at h h'; subst h; subst h'
    simp only [DataW.weightsEach, List.mem_append]; exact .inl hn
  | t :: ts, x :: l, i + 1, _, _, n, h, h', hn => by
    simp only [DataW.weightsEach, List.mem_append]
    exact .inr (mem_weightsEach (i := i) (by simpa using h) (by simpa using h') hn)
theorem RepL.one {V : Nat → Prop} {w : World} {g : GV} {v : Value} (h : RepV V w g v) : RepL V w [g] [v] := ⟨h, trivial⟩

theorem repL_of {V : Nat → Prop} {w : World} : ∀ (cs : List Value) (f : Nat → Value → GV → Prop), (∀ (i : Nat) (v : Value), cs[i]? = some v → ∃ g, f i v g ∧ RepV V w g v) → ∃ gs, RepL V w gs cs ∧ gs.length = cs.length ∧ ∀ (i : Nat) (v : Value) (g : GV), cs[i]? = some v → gs[i]? = some g → f i v g
  | [], _, _ => ⟨[], trivial, rfl, fun i v g h => by simp at h⟩
  | c :: cs, f, h => by
    obtain ⟨g, hf, hg⟩ := h 0 c rfl
    obtain ⟨gs, h1, h2, h3⟩ := repL_of cs (fun i => f (i + 1)) (fun i v hi => h (i + 1) v (by simpa using hi))
    refine ⟨g :: gs, ⟨hg, h1⟩, by simp [h2], fun i v g' hi hg' => ?_⟩
    cases i with
    | zero => simp at hi hg'; subst hi; subst hg'; exact hf
    | succ i => exact h3 i v g' (by simpa using hi) (by simpa using hg')

theorem typedG_succ {P : Program} : ∀ (f : Nat) (t : TypeId) (g : GV), TypedG P f t g → TypedG P (f + 1) t g := by
  intro f
  induction f with
  | zero => intro t g h; exact h.elim
  | succ f ih =>
    intro t g h
    unfold TypedG at h ⊢
    split at h
    · exact h
    · exact h
    · exact h
    · obtain ⟨xs, rfl, hl, hx⟩ := h
      refine ⟨xs, rfl, hl, fun r hr => ?_⟩
      have := hx r hr
      split at this
      · exact ⟨this.1, fun i fd g hi hg => ih _ _ (this.2 i fd g hi hg)⟩
      · obtain ⟨g, rfl, hg⟩ := this
        exact ⟨g, rfl, ih _ _ hg⟩
    · exact h.elim

section
variable {H : Type} {enc : TypeId × Value → H} {P : Program} {w : World}

theorem rep_of_trod {S : List TypeId} (hS : plainSet P S = true) : ∀ (fuel : Nat) (t : TypeId) (cs : List Value) (x : DataW H × List MemPlace), t ∈ S → (∀ n ∈ x.1.weights P t, n ≤ reachBytes) → DataW.trod enc P w 0 (fun _ => true) true fuel t cs = some x →
    ∃ gs, TypedR P fuel t gs ∧ RepL (fun k => k < w.heap.size) w gs cs := by
  intro fuel
  induction fuel with
  | zero => intro t cs x _ _ h; simp [DataW.trod] at h
  | succ n ih =>
    intro t cs x ht hwt h
    have hp := List.all_eq_true.1 hS t ht
    unfold plainAt at hp
    unfold TypedR
    split at hp
    · rename_i k hu
      simp only [Bool.and_eq_true, decide_eq_true_eq] at hp
      obtain ⟨rfl, _⟩ := hp
      obtain ⟨m, rfl, _, hwf⟩ := DataW.trod_int hu h
      rw [hu]
      have hb : -9223372036854775808 ≤ m ∧ m ≤ 9223372036854775807 := by simpa [Lit.wf, IntKind.min, IntKind.max, IntKind.signed, IntKind.bits] using hwf
      exact ⟨[.int m], ⟨.int m, rfl, by simp only [TypedG, hu]; exact ⟨m, rfl, hb⟩⟩, RepL.one (by simp [RepV])⟩
    · rename_i hu
      obtain ⟨s, rfl, hx, _⟩ := DataW.trod_string hu h
      have hs : s.data.toList.length ≤ reachBytes := hwt _ (by rw [hx]; simp [DataW.weights])
      rw [hu]
      exact ⟨[.str s.data.toList], ⟨_, rfl, by simp only [TypedG, hu]; exact ⟨_, rfl, hs⟩⟩, RepL.one (by simp [RepV])⟩
    · rename_i hu
      obtain ⟨b, rfl, _⟩ := DataW.trod_bool hu h
      rw [hu]
      exact ⟨[.bool b], ⟨_, rfl, by simp only [TypedG, hu]; exact ⟨_, rfl⟩⟩, RepL.one (by simp [RepV])⟩
    · rename_i e hu
      simp only [Bool.and_eq_true, Bool.not_eq_true', beq_iff_eq, beq_eq_false_iff_ne] at hp
      obtain ⟨⟨heS, _⟩, hne⟩ := hp
      have heS : e ∈ S := by simpa using heS
      rw [hu]
      rcases DataW.trod_slice hu h with ⟨rfl, _⟩ | ⟨a, len, cap, elems, rest, n', hfu, rfl, rfl, _, hlc, hcm, hel, hcell, _, _⟩
      · refine ⟨[.sl (P.cellsOf e) []], ⟨_, rfl, ?_⟩, RepL.one ?_⟩
        · simp only [TypedG, hu]
          exact ⟨[], rfl, by simp, fun r hr => by simp at hr⟩
        · simp only [RepV]
          exact ⟨none, 0, rfl, Nat.le_refl _, fun h => by simp at h, fun _ => rfl⟩
      · injection hfu with hfu
        subst hfu
        simp only [DataW.weights, hu, List.mem_cons, List.mem_append, forall_eq_or_imp, List.length_map] at hwt
        have key : ∀ i, i < len → ∃ gs cs', TypedR P n e gs ∧ RepL (fun k => k < w.heap.size) w gs cs' ∧ cs'.length = P.cellsOf e ∧ ∀ j v, cs'[j]? = some v → w.cell? ((a.add (i * P.cellsOf e)).add j) = some v := by
          intro i hi
          have hc := hcell i hi
          rw [List.getElem?_eq_getElem (by omega)] at hc
          obtain ⟨cs', hcs, htr⟩ := Option.bind_eq_some_iff.1 hc
          obtain ⟨_, hl, hat⟩ := World.cells?_some hcs
          obtain ⟨gs, hg1, hg2⟩ := ih e cs' _ heS (fun n hn => hwt.2 n (.inl (mem_weightsAll (List.mem_map.2 ⟨_, List.getElem_mem _, rfl⟩) hn))) htr
          refine ⟨gs, cs', hg1, hg2, hl, fun j v hj => ?_⟩
          have hjl : j < P.cellsOf e := by rw [← hl]; exact (List.getElem?_eq_some_iff.1 hj).1
          rw [hat j hjl, hj]
        have build : ∀ (m k : Nat), k + m ≤ len → ∃ xs : List (List GV), xs.length = m ∧ (∀ r ∈ xs, TypedR P n e r) ∧ RepAll (fun k => k < w.heap.size) w (P.cellsOf e) a k xs := by
          intro m
          induction m with
          | zero => intro k _; exact ⟨[], rfl, fun r hr => by simp at hr, by simp [RepAll]⟩
          | succ m ihm =>
            intro k hk
            obtain ⟨xs, h1, h2, h3⟩ := ihm (k + 1) (by omega)
            obtain ⟨gs, cs', g1, g2, g3, g4⟩ := key k (by omega)
            refine ⟨gs :: xs, by simp [h1], fun r hr => ?_, ?_⟩
            · rcases List.mem_cons.1 hr with rfl | hr
              · exact g1
              · exact h2 r hr
            · simp only [RepAll]
              have rowl : ∀ (gs : List GV) (cs : List Value) (i : Nat), RepL (fun k => k < w.heap.size) w gs cs → (∀ j v, cs[j]? = some v → w.cell? ((a.add (k * P.cellsOf e)).add (i + j)) = some v) → gs.length = cs.length ∧ RepRow (fun k => k < w.heap.size) w a (k * P.cellsOf e + i) gs := by
                intro gs
                induction gs with
                | nil => intro cs i hr _; cases cs with | nil => exact ⟨rfl, by simp [RepRow]⟩ | cons c cs => exact hr.elim
                | cons g gs ihg =>
                  intro cs i hr hc
                  cases cs with
                  | nil => exact hr.elim
                  | cons c cs =>
                    obtain ⟨hl, hrow⟩ := ihg cs (i + 1) hr.2 (fun j v hj => by
                      have := hc (j + 1) v (by simpa using hj)
                      rwa [show i + (j + 1) = i + 1 + j from by omega] at this)
                    refine ⟨by simp [hl], ?_⟩
                    simp only [RepRow]
                    refine ⟨⟨c, ?_, hr.1⟩, by rwa [show k * P.cellsOf e + i + 1 = k * P.cellsOf e + (i + 1) from by omega]⟩
                    have := hc 0 c rfl
                    rwa [add_add, Nat.add_zero] at this
              obtain ⟨hl, hrow⟩ := rowl gs cs' 0 g2 (fun j v hj => by rw [Nat.zero_add]; exact g4 j v hj)
              exact ⟨⟨by omega, by simpa using hrow⟩, h3⟩
        obtain ⟨xs, hx1, hx2, hx3⟩ := build len 0 (by omega)
        refine ⟨[.sl (P.cellsOf e) xs], ⟨_, rfl, ?_⟩, RepL.one ?_⟩
        · simp only [TypedG, hu]
          exact ⟨xs, rfl, by rw [hx1, ← hel]; exact Nat.le_trans (Nat.mul_le_mul_right _ (Nat.le_add_right _ _)) hwt.1, fun r hr => hx2 r hr⟩
        · simp only [RepV]
          refine ⟨some a, cap, by rw [hx1], by omega, fun h0 => ⟨a, rfl, ?_, hx3⟩, fun e => (by cases e)⟩
          obtain ⟨gs, cs', _, _, hl, hat⟩ := key 0 (by omega)
          have h1 : cs'[0]? = some (cs'[0]'(by omega)) := List.getElem?_eq_getElem (by omega)
          have := World.block_lt_of_cell? w _ (hat 0 _ h1)
          rwa [add_block, add_block] at this
    · rename_i fs hu
      simp only [Bool.and_eq_true, beq_iff_eq] at hp
      obtain ⟨⟨hone, hsz⟩, hall⟩ := hp
      obtain ⟨ys, n', hfu, rfl, hlen, hyl, hf⟩ := DataW.trod_struct hu h
      injection hfu with hfu
      subst hfu
      simp only [DataW.weights, hu] at hwt
      rw [hu]
      have hcl : cs.length = fs.size := hlen.trans hsz
      obtain ⟨gs, h1, h2, h3⟩ := repL_of (V := fun k => k < w.heap.size) (w := w) cs (fun i v g => ∀ fd, fs[i]? = some fd → TypedG P (n + 1) fd.type g) (by
        intro i v hi
        have hil : i < fs.size := by rw [← hcl]; exact (List.getElem?_eq_some_iff.1 hi).1
        obtain ⟨fd, hfd⟩ : ∃ fd, fs[i]? = some fd := ⟨fs[i], Array.getElem?_eq_getElem hil⟩
        obtain ⟨ho, hk⟩ := hone_of hone i fd hfd
        have ht' := hf i fd hfd
        rw [ho, hk] at ht'
        have h1v : (cs.drop i).take 1 = [v] := by
          obtain ⟨hil', he⟩ := List.getElem?_eq_some_iff.1 hi
          rw [List.drop_eq_getElem_cons hil', he]
          rfl
        rw [h1v, List.getElem?_eq_getElem (by omega)] at ht'
        have hfm := List.all_eq_true.1 hall fd (by rw [Array.getElem?_eq_some_iff] at hfd; obtain ⟨hh, he⟩ := hfd; rw [← he]; simp)
        simp only [Bool.and_eq_true, Bool.not_eq_true'] at hfm
        have hns : ∀ fs', P.underlying fd.type ≠ some (.struct fs') := fun fs' e => by rw [e] at hfm; exact absurd hfm.2 (by simp)
        obtain ⟨gs, hg, hr⟩ := ih fd.type [v] _ (by simpa using hfm.1) (fun n hn => hwt n (mem_weightsEach (i := i) (t := fd.type) (by rw [List.getElem?_map, Array.getElem?_toList, hfd]; rfl) (by rw [List.getElem?_map, List.getElem?_eq_getElem (by omega)]; rfl) hn)) ht'
        unfold TypedR at hg
        split at hg
        · rename_i fs' hu'; exact absurd hu' (hns fs')
        · obtain ⟨g, rfl, hg⟩ := hg
          refine ⟨g, fun fd' hfd' => ?_, hr.1⟩
          rw [hfd] at hfd'
          injection hfd' with e
          subst e
          exact typedG_succ _ _ _ hg)
      exact ⟨gs, ⟨by rw [h2, hcl], fun i fd g hi hg => by
        have hil : i < cs.length := by rw [hcl]; exact (Array.getElem?_eq_some_iff.1 hi).1
        exact h3 i _ g (List.getElem?_eq_getElem hil) hg fd hi⟩, h1⟩
    · cases hp
end
attribute [irreducible] TypedG TypedR
end Go.Dm
