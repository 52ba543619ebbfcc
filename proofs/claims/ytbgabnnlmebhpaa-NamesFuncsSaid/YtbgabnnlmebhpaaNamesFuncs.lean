/-
  names.Func answers what P7.1 says: the law NamesFuncs returns true for every unit and name.
-/
import Derived.Test.YtbgabnnlmebhpaaJNamesFuncs
import Derived.Test.YtbgabnnlmebhpaaSeat
import Derived.Test.YtbgabnnlmebhpaaFind
namespace Go.Proofs.Ytbgabnnlmebhpaa
open Go.Eng Go.RowKit Go.ChangeShapes Go.WideShapes Go.ChangeAt Barb

theorem FuncAt_any (p : List Fun) (name : List UInt8) (nm : List UInt8) (A1 A2 : Option Addr) (n1 n2 c1 c2 : Nat) (v : Value) (w : World) (hR : RepV (fun k => k < w.heap.size) w (.sl 4 (p.map Fun.g)) v) (hlen : p.length ≤ maxLen) :
    Calls Try.prog 38 #[.agg #[.string ⟨⟨nm⟩⟩, .slice A1 n1 c1, .slice A2 n2 c2, v], .string ⟨⟨name⟩⟩] w (Ret w (.int .i64 (placeOf (p.map Fun.name) name))) := by
  obtain ⟨A, cap, rfl, hcap⟩ := hR.shape
  have hR' : RepV (fun k => k < w.heap.size ∧ ¬False) w (.sl 4 (p.map Fun.g)) (.slice A (p.map Fun.g).length cap) := hR.move (fun k hk => ⟨⟨hk, fun h => h⟩, rfl⟩) _ _
  simp only [maxLen] at hlen
  refine enter hT hF Try.func38 rfl 22 rfl (by kernel_rfl) [.tmp 4] rfl [.agg #[.string ⟨⟨nm⟩⟩, .slice A1 n1 c1, .slice A2 n2 c2, .slice A (p.map Fun.g).length cap], .string ⟨⟨name⟩⟩] (by simp) (fun _ => False) _ _ ?_
  intro b hb
  refine loopR (fun k => Nat.ble 4 k && Nat.ble k 21) rfl (ι := Nat) (fun i => [(5, .v (.int .i64 (i : Int)))])
    (fun _ => [⟨b, [.string ⟨⟨nm⟩⟩, .slice A1 n1 c1, .slice A2 n2 c2, .slice A (p.map Fun.g).length cap], 36⟩]) (fun _ => [])
    (fun i A' => RepV A'.V A'.w (.sl 4 (p.map Fun.g)) (.slice A (p.map Fun.g).length cap) ∧ i ≤ p.length ∧ ∀ j (hj : j < p.length), j < i → p[j].name ≠ name) (fun i => p.length - i) ?_ (fun _ => rfl)
    ⟨0, rfl, fun w' hw => ⟨hw.self, hR'.move (hw.moved (fun k hk => hk)) _ _, Nat.zero_le _, fun j _ hj => absurd hj (Nat.not_lt_zero j)⟩⟩ ?_
  · intro i p hp
    simp only [List.mem_cons, List.not_mem_nil, or_false] at hp
    rcases hp with rfl
    exact ⟨rfl, trivial⟩
  · intro Rd hRd i e w1 hI
    obtain ⟨hI, hle, hno⟩ := hI
    refine ⟨fun h1 => ?_, fun h1 => ?_⟩
    · have h2 : i < p.length := by simpa using h1
      have hg : (p.map Fun.g)[i]? = some (p[i].g) := by simp [List.getElem?_eq_getElem h2]
      obtain ⟨a, vs, rfl, hL, _, hld⟩ := hI.at_ hg
      match vs, hL with
      | [v0, v1, v2, v3], hL =>
        have h3 : v0 = .string ⟨⟨p[i].name⟩⟩ := hL.1
        subst h3
        refine ⟨a, i, rfl, rfl, by simpa using h2, ?_⟩
        refine ⟨_, hld _ _ 0 _ rfl, ?_⟩
        refine ⟨fun h5 => ?_, fun h5 => ?_⟩
        · have h6 : p[i].name = name := by simpa using h5
          refine ⟨rfl, fun w' hw => ⟨?_, hw.fr⟩⟩
          have := placeOf_some (l := p.map Fun.name) (name := name) (i := i) (by simpa using h2) (by simpa using h6) (fun j hj => by simpa using hno j (by omega) hj)
          rw [this]; rfl
        · have h6 : p[i].name ≠ name := by simpa using h5
          refine ⟨_, isI64.of (by omega) (by omega), ?_⟩
          refine hRd i _ _ _ _ ⟨i + 1, rfl, ⟨[], [], rfl, rfl⟩, fun w2 hw1 hw2 => ⟨hI.move (hw2.moved (fun k hk => hk)) _ _, h2, fun j hj hj2 => ?_⟩, by omega⟩
          by_cases hji : j = i
          · subst hji; exact h6
          · exact hno j hj (by omega)
    · have h2 : i = p.length := by
        have : ¬ i < p.length := by simpa using h1
        omega
      subst h2
      refine ⟨rfl, fun w' hw => ⟨?_, hw.fr⟩⟩
      have := placeOf_none (l := p.map Fun.name) (name := name) (fun j hj => by simpa using hno j (by simpa using hj) (by simpa using hj))
      rw [this]; rfl

theorem func1_any (name nm : List UInt8) (o : Bool) (A2 A3 : Option Addr) (n2 n3 c2 c3 : Nat) (b : Nat) (w : World) (hb : Cell1 w b (.string ⟨⟨name⟩⟩)) :
    Calls Try.prog 75 #[.agg #[.string ⟨⟨nm⟩⟩, .bool o, .slice A2 n2 c2, .slice A3 n3 c3], .pointer (some ⟨b, 0, none⟩)] w (Ret w (.bool (decide (nm = name)))) := by
  refine enter hT hF Try.func75 rfl 8 rfl (by kernel_rfl) [.tmp 3] rfl [.agg #[.string ⟨⟨nm⟩⟩, .bool o, .slice A2 n2 c2, .slice A3 n3 c3], .pointer (some ⟨b, 0, none⟩)] (by simp) (fun _ => False) _ _ ?_
  intro b' hb'
  refine ⟨_, hb.ld ⟨hb.lt, fun h => h⟩ _ _, ?_⟩
  refine ⟨rfl, fun w' hw => ⟨?_, hw.fr⟩⟩
  simp [oneOr, SV.val, SV.of, Env.set]
theorem IndexFun_any (p : List Fun) (name : List UInt8) (v : Value) (b : Nat) (w : World) (hR : RepV (fun k => k < w.heap.size) w (.sl 4 (p.map Fun.g)) v) (hlen : p.length ≤ maxLen) (hb : Cell1 w b (.string ⟨⟨name⟩⟩)) :
    Calls Try.prog 74 #[v, .func (.func 75) #[] #[.pointer (some ⟨b, 0, none⟩)]] w (Ret w (.int .i64 (placeOf (p.map Fun.name) name))) := by
  obtain ⟨A, cap, rfl, hcap⟩ := hR.shape
  refine enter hT hF Try.func74 rfl 19 rfl (by kernel_rfl) [.tmp 4] rfl [.slice A (p.map Fun.g).length cap, .func (.func 75) #[] #[.pointer (some ⟨b, 0, none⟩)]] (by simp) (fun _ => False) _ _ ?_
  have hR' : RepV (fun k => k < w.heap.size ∧ ¬False) w (.sl 4 (p.map Fun.g)) (.slice A (p.map Fun.g).length cap) := hR.move (fun k hk => ⟨⟨hk, fun h => h⟩, rfl⟩) _ _
  simp only [maxLen] at hlen
  refine loopR (fun k => (Nat.ble 4 k && Nat.ble k 5) || (Nat.ble 8 k && Nat.ble k 18)) rfl (ι := Nat) (fun i => [(8, .v (.int .i64 (i : Int)))])
    (fun _ => []) (fun _ => [])
    (fun i A' => (RepV A'.V A'.w (.sl 4 (p.map Fun.g)) (.slice A (p.map Fun.g).length cap) ∧ Cell1 A'.w b (.string ⟨⟨name⟩⟩) ∧ A'.V b) ∧ i ≤ p.length ∧ ∀ j (hj : j < p.length), j < i → p[j].name ≠ name) (fun i => p.length - i) ?_ (fun _ => rfl)
    ⟨0, rfl, fun w' hw => ⟨hw.self, ⟨hR'.move (hw.moved (fun k hk => hk)) _ _, hb.move (hw.moved (hp' := []) (rows' := []) (fun k hk => hk) b ⟨hb.lt, fun h => h⟩).2, (hw.moved (hp' := []) (rows' := []) (fun k hk => hk) b ⟨hb.lt, fun h => h⟩).1⟩, Nat.zero_le _, fun j _ hj => absurd hj (Nat.not_lt_zero j)⟩⟩ ?_
  · intro i p hp
    simp only [List.mem_cons, List.not_mem_nil, or_false] at hp
    rcases hp with rfl
    exact ⟨rfl, trivial⟩
  · intro Rd hRd i e w1 hI
    obtain ⟨⟨hI, hc, hV⟩, hle, hno⟩ := hI
    refine ⟨fun h1 => ?_, fun h1 => ?_⟩
    · have h2 : i < p.length := by simpa using h1
      have hg : (p.map Fun.g)[i]? = some (p[i].g) := by simp [List.getElem?_eq_getElem h2]
      obtain ⟨a, vs, rfl, hL, hall, hld⟩ := hI.at_ hg
      match vs, hL with
      | [v0, v1, v2, v3], hL =>
        have h3 : v0 = .string ⟨⟨p[i].name⟩⟩ := hL.1
        subst h3
        obtain rfl : v1 = .bool p[i].isOpen := hL.2.1
        obtain ⟨A2, c2, rfl, _⟩ := hL.2.2.1.shape
        obtain ⟨A3, c3, rfl, _⟩ := hL.2.2.2.1.shape
        refine ⟨a, i, rfl, rfl, by simpa using h2, ?_⟩
        refine ⟨_, hall _ _, ?_⟩
        intro w2 hw2
        refine call_ret hw2 (func1_any name p[i].name _ _ _ _ _ _ _ b w2 (hc.move (hw2.agree b hV))) ?_
        refine ⟨fun h5 => ?_, fun h5 => ?_⟩
        · have h6 : p[i].name = name := by simpa using h5
          refine ⟨rfl, fun w' hw => ⟨?_, hw.fr⟩⟩
          have := placeOf_some (l := p.map Fun.name) (name := name) (i := i) (by simpa using h2) (by simpa using h6) (fun j hj => by simpa using hno j (by omega) hj)
          rw [this]; rfl
        · have h6 : p[i].name ≠ name := by simpa using h5
          refine ⟨_, isI64.of (by omega) (by omega), ?_⟩
          refine hRd i _ _ _ _ ⟨i + 1, rfl, ⟨[], [], rfl, rfl⟩, fun w2 hw1 hw2 => ⟨⟨hI.move (hw2.moved (fun k hk => hk)) _ _, hc.move (hw2.agree b hV), (hw2.moved (hp' := []) (rows' := []) (fun k hk => hk) b hV).1⟩, h2, fun j hj hj2 => ?_⟩, by omega⟩
          by_cases hji : j = i
          · subst hji; exact h6
          · exact hno j hj (by omega)
    · have h2 : i = p.length := by
        have : ¬ i < p.length := by simpa using h1
        omega
      subst h2
      refine ⟨rfl, fun w' hw => ⟨?_, hw.fr⟩⟩
      have := placeOf_none (l := p.map Fun.name) (name := name) (fun j hj => by simpa using hno j (by simpa using hj) (by simpa using hj))
      rw [this]; rfl
theorem NFunc_any (p : List Fun) (name : List UInt8) (nm : List UInt8) (A1 A2 : Option Addr) (n1 n2 c1 c2 : Nat) (v : Value) (w : World) (hR : RepV (fun k => k < w.heap.size) w (.sl 4 (p.map Fun.g)) v) (hlen : p.length ≤ maxLen) :
    Calls Try.prog 37 #[.agg #[.string ⟨⟨nm⟩⟩, .slice A1 n1 c1, .slice A2 n2 c2, v], .string ⟨⟨name⟩⟩] w (Ret w (.int .i64 (placeOf (p.map Fun.name) name))) := by
  obtain ⟨A, cap, rfl, hcap⟩ := hR.shape
  refine enter hT hF Try.func37 rfl 9 rfl (by kernel_rfl) [.tmp 4] rfl [.agg #[.string ⟨⟨nm⟩⟩, .slice A1 n1 c1, .slice A2 n2 c2, .slice A (p.map Fun.g).length cap], .string ⟨⟨name⟩⟩] (by simp) (fun _ => False) _ _ ?_
  intro b0 hb0
  intro b hb
  intro w1 hw1
  have hc : Cell1 w1 b (.string ⟨⟨name⟩⟩) := ⟨_, hw1.blk 1 _ rfl⟩
  have m1 := hR.move (V' := fun k => k < w1.heap.size) (fun k hk => ⟨(hw1.movedw k ⟨hk, fun h => h⟩).1, (hw1.movedw k ⟨hk, fun h => h⟩).2⟩)
  have hcall := IndexFun_any p name _ b w1 m1 hlen hc
  refine call_ret hw1 (v := .int .i64 (placeOf (p.map Fun.name) name)) ?_ ?_
  · simp only [List.map_toArray, List.map_cons, List.map_nil, List.cons_append, List.nil_append, List.append_nil]

    exact hcall
  exact ⟨rfl, fun w' hw => ⟨rfl, hw.fr⟩⟩

/-- THE WALK OF THE LAW. -/
theorem NamesFuncs_walk (p : List Fun) (name : List UInt8) (nm : List UInt8) (A1 A2 : Option Addr) (n1 n2 c1 c2 : Nat) (v : Value) (w : World) (hR : RepV (fun k => k < w.heap.size) w (.sl 4 (p.map Fun.g)) v) (hlen : p.length ≤ maxLen) :
    Calls Try.prog 9 #[.agg #[.string ⟨⟨nm⟩⟩, .slice A1 n1 c1, .slice A2 n2 c2, v], .string ⟨⟨name⟩⟩] w (Ret w (.bool true)) := by
  have hh := hR
  obtain ⟨A, cap, rfl, hcap⟩ := hR.shape
  refine enter hT hF Try.func9 rfl 16 rfl (by kernel_rfl) [.tmp 4] rfl [.agg #[.string ⟨⟨nm⟩⟩, .slice A1 n1 c1, .slice A2 n2 c2, .slice A (p.map Fun.g).length cap], .string ⟨⟨name⟩⟩] (by simp) (fun _ => False) _ _ ?_
  intro b hb
  intro w1 hw1
  have m1 := hh.move (V' := fun k => k < w1.heap.size) (fun k hk => ⟨(hw1.movedw k ⟨hk, fun h => h⟩).1, (hw1.movedw k ⟨hk, fun h => h⟩).2⟩)
  refine call_ret hw1 (NFunc_any p name nm A1 A2 n1 n2 c1 c2 _ w1 m1 hlen) ?_
  intro w2 hw2
  have m2 := hh.move (V' := fun k => k < w2.heap.size) (fun k hk => ⟨(hw2.movedw k ⟨hk, fun h => h⟩).1, (hw2.movedw k ⟨hk, fun h => h⟩).2⟩)
  refine call_ret hw2 (FuncAt_any p name nm A1 A2 n1 n2 c1 c2 _ w2 m2 hlen) ?_
  exact ⟨rfl, fun w' hw => ⟨by simp [oneOr, SV.val, SV.of, Env.set], hw.fr⟩⟩

set_option maxRecDepth 100000 in
theorem NamesFuncs_lifted (os : Os) (started : os.Started) (H : Type) (enc : TypeId × Value → H) :
    ReturnsInHanded {} Try.checked os 9 .any (Rows.namesFuncsSpec.pre6 enc Try.prog Try.f9 Rows.namesFuncsRow.domain false) (Rows.namesFuncsSpec.post enc Try.prog Try.f9 false true false false) := by
  refine returnsInHanded_of_change (C := Try.checked) own started (by kernel_rfl) Try.func9
    (ChangeSpec.witness6 (enc := enc) (C := Try.checked) false ⟨#[], #[.agg #[.string ⟨⟨[]⟩⟩, .slice none 0 0, .slice none 0 0, .slice none 0 0], .string ⟨⟨[]⟩⟩], []⟩ 8 (by kernel_rfl) (by kernel_rfl) (by kernel_rfl) (by kernel_rfl)) ?_
  intro W base args ds gs before hval hW _ _
  refine law_contract plainS_ok laidOut rfl ?_ rfl Try.underlying4 (pars_ok (by kernel_rfl)) ?_ W base args ds gs before hval hW
  · intro ds hds
    match ds, hds with
    | [d0, d1], _ => rfl
  · intro W args hargs
    obtain ⟨v0, r0, rfl, h0, hargs⟩ := hargs.inv
    obtain ⟨v1, r1, rfl, h1, hargs⟩ := hargs.inv
    obtain rfl := hargs.inv0
    obtain ⟨f, gs, cs, rfl, hT, hL⟩ := h0.struct Try.underlying36
    obtain ⟨name, rfl, _⟩ := h1.str Try.underlying9
    obtain ⟨u, rfl, hu⟩ := dec_Unit hT
    match cs, hL with
    | [v0, v1, v2, v3], hL =>
      have h3 : v0 = .string ⟨⟨u.name⟩⟩ := hL.1
      subst h3
      obtain ⟨A1, c1, rfl, _⟩ := hL.2.1.shape
      obtain ⟨A2, c2, rfl, _⟩ := hL.2.2.1.shape
      exact NamesFuncs_walk u.funcs name u.name _ _ _ _ _ _ v3 W hL.2.2.2.1 hu.2.2.2.2.2
/-- THE STATEMENT. -/
theorem NamesFuncs_said : Rows.NamesFuncsSaid := NamesFuncs_over NamesFuncs_lifted
#print axioms NamesFuncs_said
end Go.Proofs.Ytbgabnnlmebhpaa
