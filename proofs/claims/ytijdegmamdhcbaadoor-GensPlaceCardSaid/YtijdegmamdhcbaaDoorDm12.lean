/-
  The second engine, twelfth part: the rule for loops, and the entering of a function. It holds of every program whose table of types is met.
-/
import Derived.Test.YtijdegmamdhcbaaDoorDm11
namespace Go.Dm
open Go Go.Eng Go.RowKit

/-- At the head of a loop: what the loop writes is unknown, what names memory of one's own too. -/
def hav (S : List Nat) (e0 : Env) : Env := fun k => bif inL S k then .any else bif closed 4 (e0 k) then e0 k else .any
def Env.many (b : Env) : List (Nat × D) → Env
  | [] => b
  | (t, x) :: l => (Env.many b l).set t x

theorem many_at (b : Env) : ∀ (l : List (Nat × D)) (k : Nat), (∃ x, (k, x) ∈ l ∧ Env.many b l k = x) ∨ ((∀ x, (k, x) ∉ l) ∧ Env.many b l k = b k)
  | [], k => .inr ⟨fun x h => by simp at h, rfl⟩
  | (t, x) :: l, k => by
    by_cases hk : k = t
    · subst hk
      exact .inl ⟨x, List.mem_cons_self, by simp [Env.many, Env.set]⟩
    · have hb : Nat.beq k t = false := beq_ne hk
      rcases many_at b l k with ⟨y, hy, he⟩ | ⟨hno, he⟩
      · exact .inl ⟨y, List.mem_cons_of_mem _ hy, by simp [Env.many, Env.set, hb, he]⟩
      · refine .inr ⟨fun y hy => ?_, by simp [Env.many, Env.set, hb, he]⟩
        rcases List.mem_cons.1 hy with h | h
        · injection h with h1 h2; exact hk h1
        · exact hno y h

section
variable {G : Gl} {n : Nat}

/-- The slots of a list hold, memory told anew, what the list says. -/
abbrev Heads (env : Env) (h : Heap) (src : List Src) (val : List (Nat × D)) (h' : Heap) : Prop := TurnTo h src (val.map fun p => env p.1) h' (val.map (·.2))

/-- A round's end: the loop's head again, for an index of a lower measure. -/
structure Again {ι : Type} (val : ι → List (Nat × D)) (hpI : ι → Heap) (Inv : ι → Prop) (μ : ι → Nat) (m : Nat) (env : Env) (h : Heap) : Prop where
  ex : ∃ i src, Heads env h src (val i) (hpI i) ∧ Inv i ∧ μ i < m

theorem RepDL.at_map {h : Heap} {β : Nat → Value} {V : Nat → Prop} {w : World} {α : Type} (f : α → D) (g : α → Value) : ∀ (l : List α), RepDL h β V w (l.map f) (l.map g) ↔ ∀ x ∈ l, RepD h β V w (f x) (g x)
  | [] => by simp [RepDL]
  | x :: l => by
    simp only [List.map_cons, RepDL]
    constructor
    · rintro ⟨v, us, e, h1, h2⟩ y hy
      injection e with e1 e2
      subst e1; subst e2
      rcases List.mem_cons.1 hy with rfl | hy
      · exact h1
      · exact (RepDL.at_map f g l).1 h2 y hy
    · intro hh
      exact ⟨_, _, rfl, hh x List.mem_cons_self, (RepDL.at_map f g l).2 (fun y hy => hh y (List.mem_cons_of_mem _ hy))⟩

/-- Memory is told anew between two pieces of code. -/
def TurnP (G : Gl) (n : Nat) (K : St → Prop) (st : St) : Prop := ∃ st1, (∀ C a w, C.G = G → Rel C n st a w → Rel C n st1 a w) ∧ K st1
theorem turnNo {K : St → Prop} {st : St} (k : K st) : TurnP G n K st := ⟨st, fun _ _ _ _ h => h, k⟩
theorem turnTo {K : St → Prop} {env : Env} {h : Heap} {df : List Deferred} (src : List Src) (val : List (Nat × D)) (h' : Heap) (hh : Heads env h src val h') (k : K ⟨(hav [] env).many val, h', df⟩) : TurnP G n K ⟨env, h, df⟩ := by
  refine ⟨_, ?_, k⟩
  rintro C a w _ ⟨hsz, hdf, β, V, hrel, he⟩
  have hd := (RepDL.at_map (fun p : Nat × D => env p.1) (fun p => a.tmps.getD p.1 undef) val).2 (fun p _ => he p.1)
  obtain ⟨hr', hd'⟩ := hh.use hrel hd
  refine ⟨hsz, hdf, _, _, hr', fun k => ?_⟩
  show RepD h' _ _ w (Env.many (hav [] env) val k) _
  rcases many_at (hav [] env) val k with ⟨x, hx, hxe⟩ | ⟨_, hxe⟩
  · rw [hxe]
    exact (RepDL.at_map (fun p : Nat × D => p.2) (fun p => a.tmps.getD p.1 undef) val).1 hd' (k, x) hx
  · rw [hxe]
    unfold hav
    simp only [inL, cond_false]
    cases hc : closed 4 (env k) with
    | true => simp only [cond_true]; exact closed_rep (fun k hk => ⟨.inl hk, rfl⟩) 4 _ _ hc (he k)
    | false => simp only [cond_false, RepD]

theorem loopR {B : St → Post → Prop} {S : List Nat} {env : Env} {h : Heap} {df : List Deferred} {Q : Post}
    {ι : Type} (val : ι → List (Nat × D)) (hpI : ι → Heap) (Inv : ι → Prop) (μ : ι → Nat)
    (start : ∃ i src, Heads env h src (val i) (hpI i) ∧ Inv i)
    (round : ∀ (Rd : ι → St → Prop), (∀ i env' h', Again val hpI Inv μ (μ i) env' h' → Rd i ⟨env', h', df⟩) → ∀ (i : ι), Inv i →
      B ⟨(hav S env).many (val i), hpI i, df⟩ (fun ex st' => match ex with
      | .normal => Rd i st'
      | ex => Q ex st')) :
    LoopP G n B S ⟨env, h, df⟩ Q := by
  have heads : ∀ (C : Ctx) (a : Act) (w : World) (β : Nat → Value) (V : Nat → Prop) (i : ι) (h' : Heap) (e' : Env) (src : List Src), RelD C h' β V w → (∀ k, RepD h' β V w (e' k) (a.tmps.getD k undef)) → Heads e' h' src (val i) (hpI i) →
      (∀ k, inL S k = false → closed 4 (env k) = true → RepD (hpI i) (turnβ src β) (turnV h' src β V) w (env k) (a.tmps.getD k undef)) →
      RelD C (hpI i) (turnβ src β) (turnV h' src β V) w ∧ EnvOk ⟨(hav S env).many (val i), hpI i, df⟩ (turnβ src β) (turnV h' src β V) w a := by
    intro C a w β V i h' e' src hrel he hh hun
    have hd := (RepDL.at_map (fun p : Nat × D => e' p.1) (fun p => a.tmps.getD p.1 undef) (val i)).2 (fun p _ => he p.1)
    obtain ⟨hr', hd'⟩ := hh.use hrel hd
    refine ⟨hr', fun k => ?_⟩
    show RepD (hpI i) _ _ w (Env.many (hav S env) (val i) k) _
    rcases many_at (hav S env) (val i) k with ⟨x, hx, hxe⟩ | ⟨_, hxe⟩
    · rw [hxe]
      exact (RepDL.at_map (fun p : Nat × D => p.2) (fun p => a.tmps.getD p.1 undef) (val i)).1 hd' (k, x) hx
    · rw [hxe]
      unfold hav
      cases hS : inL S k with
      | true => simp only [cond_true, RepD]
      | false =>
        simp only [cond_false]
        cases hc : closed 4 (env k) with
        | true => simp only [cond_true]; exact hun k hS hc
        | false => simp only [cond_false, RepD]
  refine ⟨ι, fun i st1 => st1 = ⟨(hav S env).many (val i), hpI i, df⟩ ∧ Inv i, μ, ?_, ?_⟩
  · rintro C a w _ ⟨hsz, hdf, β, V, hrel, he⟩
    obtain ⟨i, src, hh, hinv⟩ := start
    obtain ⟨h1, h2⟩ := heads C a w β V i h env src hrel he hh (fun k _ hc => closed_rep (fun k hk => ⟨.inl hk, rfl⟩) 4 _ _ hc (he k))
    exact ⟨i, ⟨(hav S env).many (val i), hpI i, df⟩, ⟨hsz, hdf, _, _, h1, h2⟩, rfl, hinv⟩
  · rintro i st1 ⟨rfl, hinv⟩
    refine round (fun i st' => ∀ C a w, C.G = G → Rel C n st' a w → Base C ⟨env, h, df⟩ S a → ∃ i' st2, Rel C n st2 a w ∧ (st2 = ⟨(hav S env).many (val i'), hpI i', df⟩ ∧ Inv i') ∧ μ i' < μ i) ?_ i hinv
    rintro i env' h' ⟨i', src, hh, hinv', hlt⟩ C a w _ ⟨hsz, hdf, β, V, hrel, he⟩ ⟨hb1, hb2, a0, β0, he0, hout⟩
    have hm : Moved C.V0 C.w0 V w := fun k hk => ⟨hrel.vin k hk, hrel.fr.block k (hb2 k hk) (hb1 k hk)⟩
    obtain ⟨h1, h2⟩ := heads C a w β V i' h' env' src hrel he hh (fun k hS hc => by
      rw [hout k hS]
      exact closed_rep (hm.trans (fun k hk => ⟨.inl hk, rfl⟩)) 4 _ _ hc (he0 k))
    exact ⟨i', ⟨(hav S env).many (val i'), hpI i', df⟩, ⟨hsz, hdf, _, _, h1, h2⟩, ⟨rfl, hinv'⟩, hlt⟩
end
end Go.Dm
