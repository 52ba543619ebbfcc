/-
  Code of raw things, of a part that nobody is ahead of: the contract.
-/
import Derived.Test.YthbdbjnakknbkaaDoorPk
import Derived.Test.YthbdbjnakknbkaaDoorCk
import Derived.Test.YthbdbjnakknbkaaDoorMd
namespace Go.Dm
open Go Go.Eng Go.RowKit
/-- A row is returned, to be read alone. -/
theorem retSlQ {Q : Out → Prop} {h : Heap} {i k : Nat} {xs ys : List (List GV)} {t : TypeId} (hi : h[i]? = some (.row xs t k)) (hx : xs = ys) (q : Q (.ret (.g (.sl k ys)) [])) : RetTo Q h (.row i) := by
  subst hx
  refine retQ _ (.inl ?_) q
  simp only [conv, kp, hi]
end Go.Dm
namespace Barb
open Go Go.Dm Go.Eng
/-- Code that may be. -/
def okC (l : List Instr) : Prop := ∀ x ∈ l, instrE x = 0
theorem okC_nil : okC [] := fun x h => by simp at h
theorem okC_app {l m : List Instr} (h : okC l) (k : okC m) : okC (l ++ m) := fun x hx => by
  rcases List.mem_append.1 hx with hx | hx
  · exact h x hx
  · exact k x hx
theorem okC_cons {x : Instr} {l : List Instr} (h : instrE x = 0) (k : okC l) : okC (x :: l) := fun y hy => by
  rcases List.mem_cons.1 hy with rfl | hy
  · exact h
  · exact k y hy
theorem instr_ok {op a b c : Int} (h1 : 1 ≤ op ∧ op ≤ 15) (ha : 0 ≤ a ∧ a ≤ bdA op) (hb : 0 ≤ b ∧ b ≤ bdB op) (hc : 0 ≤ c ∧ c ≤ bdC op) (hd : op = 8 → a ≠ 0) : instrE ⟨op, a, b, c⟩ = 0 := by
  unfold instrE
  rw [if_neg (fun h => h h1), if_neg]
  unfold instrBad
  rintro (h | h | h | ⟨h, k⟩)
  · exact h ha
  · exact h hb
  · exact h hc
  · exact hd h k
theorem bd_lo (op : Int) : 0 ≤ bdA op ∧ 0 ≤ bdB op ∧ 0 ≤ bdC op := by
  unfold bdA bdB bdC
  refine ⟨?_, ?_, ?_⟩ <;> (repeat' split) <;> omega
/-- What Code answers. -/
def CodeQ : Out → Prop := fun o => ∃ c : List Instr, okC c ∧ 2 ≤ c.length ∧ c.length ≤ 122 ∧ o = .ret (.g (.sl 4 (c.map Instr.g))) []
theorem pushOk {a : Nat} (h : a < 65536) : instrE ⟨1, a, 0, 0⟩ = 0 := instr_ok (by decide) (by unfold bdA; simp; omega) (by decide) (by decide) (fun h => absurd h (by decide))
theorem putOk {a : Nat} (h : a < 8) : instrE ⟨5, a, 0, 0⟩ = 0 := instr_ok (by decide) (by unfold bdA; simp; omega) (by decide) (by decide) (fun h => absurd h (by decide))
theorem getOk {a : Nat} (h : a < 8) : instrE ⟨4, a, 0, 0⟩ = 0 := instr_ok (by decide) (by unfold bdA; simp; omega) (by decide) (by decide) (fun h => absurd h (by decide))
theorem jzOk {a : Nat} (h : a < 1200) : instrE ⟨10, a, 0, 0⟩ = 0 := instr_ok (by decide) (by unfold bdA; simp; omega) (by decide) (by decide) (fun h => absurd h (by decide))
theorem doOk {a : Nat} (h : a < 10) : instrE ⟨8, ((a + 1 : Nat) : Int), 0, 0⟩ = 0 := instr_ok (by decide) (by unfold bdA; simp; omega) (by decide) (by decide) (fun _ => by omega)
theorem anyOk {x : Nat} (h : x < 15) (h8 : ¬((x + 1 : Nat) : Int) = 8) : instrE ⟨((x + 1 : Nat) : Int), 0, 0, 0⟩ = 0 := by
  obtain ⟨h1, h2, h3⟩ := bd_lo ((x + 1 : Nat) : Int)
  exact instr_ok (by omega) ⟨by omega, h1⟩ ⟨by omega, h2⟩ ⟨by omega, h3⟩ (fun h => absurd h h8)
theorem rowAdd (c n : List Instr) {g : List (List GV)} (h : n.map Instr.g = g) : c.map Instr.g ++ g = (c ++ n).map Instr.g := by rw [List.map_append, h]
theorem lastG (c : List Instr) (g : List GV) : (c.map Instr.g ++ [g])[c.length]? = some g := by simp
theorem lastSet (c : List Instr) (x : Instr) {g s : List GV} (h : Instr.g x = s) : (c.map Instr.g ++ [g]).set c.length s = (c ++ [x]).map Instr.g := by
  rw [List.set_append_right _ _ (by simp), ← h]; simp
theorem doOk' {x z : Nat} (h : z < 10) (e : ((x + 1 : Nat) : Int) = 8) : instrE ⟨((x + 1 : Nat) : Int), ((z + 1 : Nat) : Int), 0, 0⟩ = 0 := by
  rw [e]; exact doOk h
theorem room32 {n : Nat} (h : n ≤ 1000) : n ≤ maxLen ∧ n * 32 ≤ 140737488355328 := by unfold maxLen; omega
end Barb
namespace Go.Proofs.YthbdbjnakknbkaaDoor
open Go Go.Dm Go.Eng Barb
theorem dJ {a b : Int} (h : a = b) : D.g (.int a) = D.g (.int b) := by rw [h]

set_option maxRecDepth 20000 in
set_option maxHeartbeats 1000000 in
theorem Code_any (l : List Barb.Raw) (hI : ∀ r ∈ l, Barb.Raw.I r) : CT Tryd.prog gl 12 [.g (.sl 4 (l.map Raw.g)), .agg [.g (.sl 4 [])], .g (.int 0)] CodeQ := by
  have ll : (l.map Raw.g).length = l.length := by simp
  refine enter hT hF hM Tryd.func12 rfl 204 rfl (by kernel_rfl) [.tmp 6] rfl [.g (.sl 4 (l.map Raw.g)), .agg [.g (.sl 4 [])], .g (.int 0)] rfl _ ?_
  refine loopR (ι := Nat × List Barb.Instr) (fun i => [(8, .g (.int (i.1 : Int))), (7, .row 1), (4, .ptr 0 0)]) (fun i => [.blk [.g (.sl 4 [])] 27, .row (i.2.map Instr.g) 38 4]) (fun i => i.1 ≤ l.length ∧ i.1 ≤ 30 ∧ okC i.2 ∧ i.2.length ≤ 4 * i.1) (fun i => l.length - i.1)
    ⟨(0, []), [.old 0, .nil 38 4], ⟨rfl, .inl rfl, .inr ⟨lk rfl, .inr rfl, lk rfl, trivial⟩, rfl⟩, ⟨Nat.zero_le _, Nat.zero_le _, okC_nil, Nat.zero_le _⟩⟩ ?_
  rintro Rd hRd ⟨i, c⟩ ⟨hi, hi30, hok, hlen⟩
  dsimp only at hi hi30 hok hlen
  have fin : ∀ h : Heap, h[3]? = some (.row (c.map Instr.g ++ [Instr.g ⟨4, 0, 0, 0⟩, Instr.g ⟨13, 0, 0, 0⟩]) 38 4) → RetTo CodeQ h (.row 3) := fun h hh => by
    refine retSlQ hh (ys := (c ++ [Instr.mk 4 0 0 0, Instr.mk 13 0 0 0]).map Instr.g) (by simp) ⟨_, okC_app hok ?_, by simp, by simp; omega, rfl⟩
    exact okC_cons (by decide) (okC_cons (by decide) okC_nil)
  have stop : ∀ h : Heap, h[3]? = some (.row (c.map Instr.g ++ [Instr.g ⟨4, 0, 0, 0⟩, Instr.g ⟨13, 0, 0, 0⟩]) 38 4) → RetTo CodeQ h (.row 3) := fin
  refine ⟨fun b0 => ⟨fun b1 => ?_, fun b1 => ?_⟩, fun b0 => ?_⟩
  rotate_left
  · refine ⟨[Instr.g ⟨4, 0, 0, 0⟩, Instr.g ⟨13, 0, 0, 0⟩], rfl, rfl, ⟨rfl, rfl, rfl, rfl, rfl, rfl, rfl, rfl, trivial⟩, ?_⟩
    exact ⟨room32 (by simp only [List.length_map, List.length_cons, List.length_nil]; omega), rfl, stop _ rfl⟩
  · refine ⟨[Instr.g ⟨4, 0, 0, 0⟩, Instr.g ⟨13, 0, 0, 0⟩], rfl, rfl, ⟨rfl, rfl, rfl, rfl, rfl, rfl, rfl, rfl, trivial⟩, ?_⟩
    exact ⟨room32 (by simp only [List.length_map, List.length_cons, List.length_nil]; omega), rfl, stop _ rfl⟩
  have h1 : i < l.length := by omega
  obtain ⟨rk, ra, rb, rc⟩ := hI _ (List.getElem_mem h1)
  refine ⟨i, _, rfl, gm h1, ?_⟩
  generalize l[i] = r at *
  have inv : ∀ news : List Barb.Instr, okC news → news.length ≤ 4 → i + 1 ≤ l.length ∧ i + 1 ≤ 30 ∧ okC (c ++ news) ∧ (c ++ news).length ≤ 4 * (i + 1) := fun news h2 h3 => ⟨by omega, by omega, okC_app hok h2, by rw [List.length_append]; omega⟩
  obtain ⟨k, hk, p0⟩ := pick_any r.a ra (many := 4) (by decide)
  refine callIs (.inl rfl) p0 ⟨(k : Int), (I64.wrap (by unfold I64; omega)).trans (by omega), ?_⟩
  obtain ⟨b12, _, p1⟩ := pick_any r.b rb (many := 12) (by decide)
  refine callIs (.inl rfl) p1 ⟨fun hb => ?_, fun hb => ?_⟩
  · obtain ⟨k, hk, p2⟩ := pick_any r.a ra (many := 250) (by decide)
    refine callIs (.inl rfl) p2 ?_
    obtain ⟨m, hm, pm⟩ := pick_any r.kind rk (many := 16) (by decide)
    obtain ⟨y, hy, py⟩ := pick_any r.b rb (many := 4) (by decide)
    refine callIs (.inl rfl) pm ⟨fun c1 => ?_, fun c1 => ⟨fun c2 => ?_, fun c2 => ⟨fun c3 => ?_, fun c3 => ?_⟩⟩⟩
    · obtain ⟨x, hx, px⟩ := pick_any r.a ra (many := 9) (by decide)
      refine ⟨none, rfl, _, _, .inl rfl, px, rfl, _, _, .inl rfl, py, rfl, [Instr.g ⟨1, x, 0, 0⟩, Instr.g ⟨5, y, 0, 0⟩], rfl, rfl, ⟨rfl, rfl, rfl, rfl, rfl, rfl, rfl, rfl, trivial⟩, ?_⟩
      refine ⟨room32 (by simp only [List.length_map, List.length_cons, List.length_nil]; omega), ?_⟩
      refine ⟨_, I64.wrap (by unfold I64; omega), ?_⟩
      exact hRd _ _ _ ⟨(i + 1, c ++ [⟨1, x, 0, 0⟩, ⟨5, y, 0, 0⟩]), [.old 0, .old 4], ⟨rfl, .inr ⟨⟨rfl, .inl rfl⟩, ⟨rowAdd c _ rfl, rfl, rfl⟩, trivial⟩, .inr ⟨lk rfl, lk rfl, lk rfl, trivial⟩, rfl⟩, inv _ (okC_cons (pushOk (by omega)) (okC_cons (putOk (by omega)) okC_nil)) (by simp), by dsimp only; omega⟩
    · refine callIs (.inl rfl) py ?_
      refine ⟨[Instr.g ⟨1, k, 0, 0⟩, Instr.g ⟨4, y, 0, 0⟩, Instr.g ⟨7, 0, 0, 0⟩], rfl, rfl, ⟨rfl, rfl, rfl, rfl, rfl, rfl, rfl, rfl, rfl, rfl, rfl, rfl, trivial⟩, ?_⟩
      refine ⟨room32 (by simp only [List.length_map, List.length_cons, List.length_nil]; omega), ?_⟩
      refine ⟨_, I64.wrap (by unfold I64; omega), ?_⟩
      exact hRd _ _ _ ⟨(i + 1, c ++ [⟨1, k, 0, 0⟩, ⟨4, y, 0, 0⟩, ⟨7, 0, 0, 0⟩]), [.old 0, .old 4], ⟨rfl, .inr ⟨⟨rfl, .inl rfl⟩, ⟨rowAdd c _ rfl, rfl, rfl⟩, trivial⟩, .inr ⟨lk rfl, lk rfl, lk rfl, trivial⟩, rfl⟩, inv _ (okC_cons (pushOk (by omega)) (okC_cons (getOk (by omega)) (okC_cons (by decide) okC_nil))) (by simp), by dsimp only; omega⟩
    · refine callIs (.inl rfl) py ?_
      refine ⟨[Instr.g ⟨1, k, 0, 0⟩, Instr.g ⟨6, 0, 0, 0⟩, Instr.g ⟨5, y, 0, 0⟩], rfl, rfl, ⟨rfl, rfl, rfl, rfl, rfl, rfl, rfl, rfl, rfl, rfl, rfl, rfl, trivial⟩, ?_⟩
      refine ⟨room32 (by simp only [List.length_map, List.length_cons, List.length_nil]; omega), ?_⟩
      refine ⟨_, I64.wrap (by unfold I64; omega), ?_⟩
      exact hRd _ _ _ ⟨(i + 1, c ++ [⟨1, k, 0, 0⟩, ⟨6, 0, 0, 0⟩, ⟨5, y, 0, 0⟩]), [.old 0, .old 4], ⟨rfl, .inr ⟨⟨rfl, .inl rfl⟩, ⟨rowAdd c _ rfl, rfl, rfl⟩, trivial⟩, .inr ⟨lk rfl, lk rfl, lk rfl, trivial⟩, rfl⟩, inv _ (okC_cons (pushOk (by omega)) (okC_cons (by decide) (okC_cons (putOk (by omega)) okC_nil))) (by simp), by dsimp only; omega⟩
    refine ⟨fun c4 => ⟨fun z => (by exfalso; simp at z), fun _ => ⟨fun e => (by exfalso; omega), fun _ => ⟨fun e => (by exfalso; omega), fun _ => ?_⟩⟩⟩, fun c4 => ⟨fun c5 => ?_, fun c5 => ⟨fun c6 => ?_, fun c6 => ?_⟩⟩⟩
    · refine ⟨[Instr.g ⟨1, 1, 0, 0⟩, Instr.g ⟨4, 1, 0, 0⟩, Instr.g ⟨8, 1, 0, 0⟩, Instr.g ⟨5, 1, 0, 0⟩], rfl, rfl, ⟨rfl, rfl, rfl, rfl, rfl, rfl, rfl, rfl, rfl, rfl, rfl, rfl, rfl, rfl, rfl, rfl, trivial⟩, ?_⟩
      refine ⟨room32 (by simp only [List.length_map, List.length_cons, List.length_nil]; omega), ?_⟩
      refine ⟨_, I64.wrap (by unfold I64; omega), ?_⟩
      exact hRd _ _ _ ⟨(i + 1, c ++ [⟨1, 1, 0, 0⟩, ⟨4, 1, 0, 0⟩, ⟨8, 1, 0, 0⟩, ⟨5, 1, 0, 0⟩]), [.old 0, .old 4], ⟨rfl, .inr ⟨⟨rfl, .inl rfl⟩, ⟨rowAdd c _ rfl, rfl, rfl⟩, trivial⟩, .inr ⟨lk rfl, lk rfl, lk rfl, trivial⟩, rfl⟩, inv _ (okC_cons (by decide) (okC_cons (by decide) (okC_cons (by decide) (okC_cons (by decide) okC_nil)))) (by simp), by dsimp only; omega⟩
    · obtain ⟨x, hx, px⟩ := pick_any r.a ra (many := 4) (by decide)
      obtain ⟨z, hz, pz⟩ := pick_any r.b rb (many := 60) (by decide)
      refine ⟨none, rfl, _, _, .inl rfl, px, rfl, _, _, .inl rfl, pz, rfl, [Instr.g ⟨4, x, 0, 0⟩, Instr.g ⟨10, z, 0, 0⟩], rfl, rfl, ⟨rfl, rfl, rfl, rfl, rfl, rfl, rfl, rfl, trivial⟩, ?_⟩
      refine ⟨room32 (by simp only [List.length_map, List.length_cons, List.length_nil]; omega), ?_⟩
      refine ⟨_, I64.wrap (by unfold I64; omega), ?_⟩
      exact hRd _ _ _ ⟨(i + 1, c ++ [⟨4, x, 0, 0⟩, ⟨10, z, 0, 0⟩]), [.old 0, .old 4], ⟨rfl, .inr ⟨⟨rfl, .inl rfl⟩, ⟨rowAdd c _ rfl, rfl, rfl⟩, trivial⟩, .inr ⟨lk rfl, lk rfl, lk rfl, trivial⟩, rfl⟩, inv _ (okC_cons (getOk (by omega)) (okC_cons (jzOk (by omega)) okC_nil)) (by simp), by dsimp only; omega⟩
    · obtain ⟨x, hx, px⟩ := pick_any r.a ra (many := 15) (by decide)
      obtain ⟨z, hz, pz⟩ := pick_any r.b rb (many := 10) (by decide)
      refine callIs (.inl rfl) px ⟨((x + 1 : Nat) : Int), (I64.wrap (by unfold I64; omega)).trans (by omega), ?_⟩
      refine ⟨[Instr.g ⟨((x + 1 : Nat) : Int), 0, 0, 0⟩], rfl, rfl, ⟨rfl, rfl, rfl, rfl, trivial⟩, ?_⟩
      refine ⟨room32 (by simp only [List.length_map, List.length_cons, List.length_nil]; omega), ?_⟩
      refine ⟨by unfold I64; simp only [List.length_append, List.length_map, List.length_cons, List.length_nil]; omega, c.length, dJ (by simp only [List.length_append, List.length_map, List.length_cons, List.length_nil]; omega), by simp, ?_⟩
      refine ⟨_, lastG c _, ?_⟩
      refine ⟨fun e => ?_, fun e => ?_⟩
      · refine ⟨by unfold I64; simp only [List.length_append, List.length_map, List.length_cons, List.length_nil]; omega, ?_⟩
        refine callIs (.inl rfl) pz ⟨((z + 1 : Nat) : Int), (I64.wrap (by unfold I64; omega)).trans (by omega), ?_⟩
        refine ⟨c.length, dJ (by simp only [List.length_append, List.length_map, List.length_cons, List.length_nil]; omega), by simp, ?_⟩
        refine ⟨_, [.int ((z + 1 : Nat) : Int)], lastG c _, ⟨rfl, trivial⟩, Nat.le_of_ble_eq_true rfl, (fun h => by cases h), ?_⟩
        refine ⟨_, I64.wrap (by unfold I64; omega), ?_⟩
        exact hRd _ _ _ ⟨(i + 1, c ++ [⟨((x + 1 : Nat) : Int), ((z + 1 : Nat) : Int), 0, 0⟩]), [.old 0, .old 4], ⟨rfl, .inr ⟨⟨rfl, .inl rfl⟩, ⟨lastSet c _ rfl, rfl, rfl⟩, trivial⟩, .inr ⟨lk rfl, lk rfl, lk rfl, trivial⟩, rfl⟩, inv _ (okC_cons (doOk' (by omega) e) okC_nil) (by simp), by dsimp only; omega⟩
      · refine ⟨_, I64.wrap (by unfold I64; omega), ?_⟩
        exact hRd _ _ _ ⟨(i + 1, c ++ [⟨((x + 1 : Nat) : Int), 0, 0, 0⟩]), [.old 0, .old 4], ⟨rfl, .inr ⟨⟨rfl, .inl rfl⟩, ⟨rowAdd c _ rfl, rfl, rfl⟩, trivial⟩, .inr ⟨lk rfl, lk rfl, lk rfl, trivial⟩, rfl⟩, inv _ (okC_cons (anyOk (by omega) e) okC_nil) (by simp), by dsimp only; omega⟩
    · refine ⟨[Instr.g ⟨1, 1, 0, 0⟩, Instr.g ⟨4, 1, 0, 0⟩, Instr.g ⟨8, 1, 0, 0⟩, Instr.g ⟨5, 1, 0, 0⟩], rfl, rfl, ⟨rfl, rfl, rfl, rfl, rfl, rfl, rfl, rfl, rfl, rfl, rfl, rfl, rfl, rfl, rfl, rfl, trivial⟩, ?_⟩
      refine ⟨room32 (by simp only [List.length_map, List.length_cons, List.length_nil]; omega), ?_⟩
      refine ⟨_, I64.wrap (by unfold I64; omega), ?_⟩
      exact hRd _ _ _ ⟨(i + 1, c ++ [⟨1, 1, 0, 0⟩, ⟨4, 1, 0, 0⟩, ⟨8, 1, 0, 0⟩, ⟨5, 1, 0, 0⟩]), [.old 0, .old 4], ⟨rfl, .inr ⟨⟨rfl, .inl rfl⟩, ⟨rowAdd c _ rfl, rfl, rfl⟩, trivial⟩, .inr ⟨lk rfl, lk rfl, lk rfl, trivial⟩, rfl⟩, inv _ (okC_cons (by decide) (okC_cons (by decide) (okC_cons (by decide) (okC_cons (by decide) okC_nil)))) (by simp), by dsimp only; omega⟩
  · have hk : k < 250 := by omega
    obtain ⟨m, hm, pm⟩ := pick_any r.kind rk (many := 16) (by decide)
    obtain ⟨y, hy, py⟩ := pick_any r.b rb (many := 4) (by decide)
    refine callIs (.inl rfl) pm ⟨fun c1 => ?_, fun c1 => ⟨fun c2 => ?_, fun c2 => ⟨fun c3 => ?_, fun c3 => ?_⟩⟩⟩
    · obtain ⟨x, hx, px⟩ := pick_any r.a ra (many := 9) (by decide)
      refine ⟨none, rfl, _, _, .inl rfl, px, rfl, _, _, .inl rfl, py, rfl, [Instr.g ⟨1, x, 0, 0⟩, Instr.g ⟨5, y, 0, 0⟩], rfl, rfl, ⟨rfl, rfl, rfl, rfl, rfl, rfl, rfl, rfl, trivial⟩, ?_⟩
      refine ⟨room32 (by simp only [List.length_map, List.length_cons, List.length_nil]; omega), ?_⟩
      refine ⟨_, I64.wrap (by unfold I64; omega), ?_⟩
      exact hRd _ _ _ ⟨(i + 1, c ++ [⟨1, x, 0, 0⟩, ⟨5, y, 0, 0⟩]), [.old 0, .old 4], ⟨rfl, .inr ⟨⟨rfl, .inl rfl⟩, ⟨rowAdd c _ rfl, rfl, rfl⟩, trivial⟩, .inr ⟨lk rfl, lk rfl, lk rfl, trivial⟩, rfl⟩, inv _ (okC_cons (pushOk (by omega)) (okC_cons (putOk (by omega)) okC_nil)) (by simp), by dsimp only; omega⟩
    · refine callIs (.inl rfl) py ?_
      refine ⟨[Instr.g ⟨1, k, 0, 0⟩, Instr.g ⟨4, y, 0, 0⟩, Instr.g ⟨7, 0, 0, 0⟩], rfl, rfl, ⟨rfl, rfl, rfl, rfl, rfl, rfl, rfl, rfl, rfl, rfl, rfl, rfl, trivial⟩, ?_⟩
      refine ⟨room32 (by simp only [List.length_map, List.length_cons, List.length_nil]; omega), ?_⟩
      refine ⟨_, I64.wrap (by unfold I64; omega), ?_⟩
      exact hRd _ _ _ ⟨(i + 1, c ++ [⟨1, k, 0, 0⟩, ⟨4, y, 0, 0⟩, ⟨7, 0, 0, 0⟩]), [.old 0, .old 4], ⟨rfl, .inr ⟨⟨rfl, .inl rfl⟩, ⟨rowAdd c _ rfl, rfl, rfl⟩, trivial⟩, .inr ⟨lk rfl, lk rfl, lk rfl, trivial⟩, rfl⟩, inv _ (okC_cons (pushOk (by omega)) (okC_cons (getOk (by omega)) (okC_cons (by decide) okC_nil))) (by simp), by dsimp only; omega⟩
    · refine callIs (.inl rfl) py ?_
      refine ⟨[Instr.g ⟨1, k, 0, 0⟩, Instr.g ⟨6, 0, 0, 0⟩, Instr.g ⟨5, y, 0, 0⟩], rfl, rfl, ⟨rfl, rfl, rfl, rfl, rfl, rfl, rfl, rfl, rfl, rfl, rfl, rfl, trivial⟩, ?_⟩
      refine ⟨room32 (by simp only [List.length_map, List.length_cons, List.length_nil]; omega), ?_⟩
      refine ⟨_, I64.wrap (by unfold I64; omega), ?_⟩
      exact hRd _ _ _ ⟨(i + 1, c ++ [⟨1, k, 0, 0⟩, ⟨6, 0, 0, 0⟩, ⟨5, y, 0, 0⟩]), [.old 0, .old 4], ⟨rfl, .inr ⟨⟨rfl, .inl rfl⟩, ⟨rowAdd c _ rfl, rfl, rfl⟩, trivial⟩, .inr ⟨lk rfl, lk rfl, lk rfl, trivial⟩, rfl⟩, inv _ (okC_cons (pushOk (by omega)) (okC_cons (by decide) (okC_cons (putOk (by omega)) okC_nil))) (by simp), by dsimp only; omega⟩
    refine ⟨fun c4 => ⟨fun z => (by exfalso; simp at z), fun _ => ⟨fun e => (by exfalso; omega), fun _ => ⟨fun e => (by exfalso; omega), fun _ => ?_⟩⟩⟩, fun c4 => ⟨fun c5 => ?_, fun c5 => ⟨fun c6 => ?_, fun c6 => ?_⟩⟩⟩
    · refine ⟨[Instr.g ⟨1, 1, 0, 0⟩, Instr.g ⟨4, 1, 0, 0⟩, Instr.g ⟨8, 1, 0, 0⟩, Instr.g ⟨5, 1, 0, 0⟩], rfl, rfl, ⟨rfl, rfl, rfl, rfl, rfl, rfl, rfl, rfl, rfl, rfl, rfl, rfl, rfl, rfl, rfl, rfl, trivial⟩, ?_⟩
      refine ⟨room32 (by simp only [List.length_map, List.length_cons, List.length_nil]; omega), ?_⟩
      refine ⟨_, I64.wrap (by unfold I64; omega), ?_⟩
      exact hRd _ _ _ ⟨(i + 1, c ++ [⟨1, 1, 0, 0⟩, ⟨4, 1, 0, 0⟩, ⟨8, 1, 0, 0⟩, ⟨5, 1, 0, 0⟩]), [.old 0, .old 4], ⟨rfl, .inr ⟨⟨rfl, .inl rfl⟩, ⟨rowAdd c _ rfl, rfl, rfl⟩, trivial⟩, .inr ⟨lk rfl, lk rfl, lk rfl, trivial⟩, rfl⟩, inv _ (okC_cons (by decide) (okC_cons (by decide) (okC_cons (by decide) (okC_cons (by decide) okC_nil)))) (by simp), by dsimp only; omega⟩
    · obtain ⟨x, hx, px⟩ := pick_any r.a ra (many := 4) (by decide)
      obtain ⟨z, hz, pz⟩ := pick_any r.b rb (many := 60) (by decide)
      refine ⟨none, rfl, _, _, .inl rfl, px, rfl, _, _, .inl rfl, pz, rfl, [Instr.g ⟨4, x, 0, 0⟩, Instr.g ⟨10, z, 0, 0⟩], rfl, rfl, ⟨rfl, rfl, rfl, rfl, rfl, rfl, rfl, rfl, trivial⟩, ?_⟩
      refine ⟨room32 (by simp only [List.length_map, List.length_cons, List.length_nil]; omega), ?_⟩
      refine ⟨_, I64.wrap (by unfold I64; omega), ?_⟩
      exact hRd _ _ _ ⟨(i + 1, c ++ [⟨4, x, 0, 0⟩, ⟨10, z, 0, 0⟩]), [.old 0, .old 4], ⟨rfl, .inr ⟨⟨rfl, .inl rfl⟩, ⟨rowAdd c _ rfl, rfl, rfl⟩, trivial⟩, .inr ⟨lk rfl, lk rfl, lk rfl, trivial⟩, rfl⟩, inv _ (okC_cons (getOk (by omega)) (okC_cons (jzOk (by omega)) okC_nil)) (by simp), by dsimp only; omega⟩
    · obtain ⟨x, hx, px⟩ := pick_any r.a ra (many := 15) (by decide)
      obtain ⟨z, hz, pz⟩ := pick_any r.b rb (many := 10) (by decide)
      refine callIs (.inl rfl) px ⟨((x + 1 : Nat) : Int), (I64.wrap (by unfold I64; omega)).trans (by omega), ?_⟩
      refine ⟨[Instr.g ⟨((x + 1 : Nat) : Int), 0, 0, 0⟩], rfl, rfl, ⟨rfl, rfl, rfl, rfl, trivial⟩, ?_⟩
      refine ⟨room32 (by simp only [List.length_map, List.length_cons, List.length_nil]; omega), ?_⟩
      refine ⟨by unfold I64; simp only [List.length_append, List.length_map, List.length_cons, List.length_nil]; omega, c.length, dJ (by simp only [List.length_append, List.length_map, List.length_cons, List.length_nil]; omega), by simp, ?_⟩
      refine ⟨_, lastG c _, ?_⟩
      refine ⟨fun e => ?_, fun e => ?_⟩
      · refine ⟨by unfold I64; simp only [List.length_append, List.length_map, List.length_cons, List.length_nil]; omega, ?_⟩
        refine callIs (.inl rfl) pz ⟨((z + 1 : Nat) : Int), (I64.wrap (by unfold I64; omega)).trans (by omega), ?_⟩
        refine ⟨c.length, dJ (by simp only [List.length_append, List.length_map, List.length_cons, List.length_nil]; omega), by simp, ?_⟩
        refine ⟨_, [.int ((z + 1 : Nat) : Int)], lastG c _, ⟨rfl, trivial⟩, Nat.le_of_ble_eq_true rfl, (fun h => by cases h), ?_⟩
        refine ⟨_, I64.wrap (by unfold I64; omega), ?_⟩
        exact hRd _ _ _ ⟨(i + 1, c ++ [⟨((x + 1 : Nat) : Int), ((z + 1 : Nat) : Int), 0, 0⟩]), [.old 0, .old 4], ⟨rfl, .inr ⟨⟨rfl, .inl rfl⟩, ⟨lastSet c _ rfl, rfl, rfl⟩, trivial⟩, .inr ⟨lk rfl, lk rfl, lk rfl, trivial⟩, rfl⟩, inv _ (okC_cons (doOk' (by omega) e) okC_nil) (by simp), by dsimp only; omega⟩
      · refine ⟨_, I64.wrap (by unfold I64; omega), ?_⟩
        exact hRd _ _ _ ⟨(i + 1, c ++ [⟨((x + 1 : Nat) : Int), 0, 0, 0⟩]), [.old 0, .old 4], ⟨rfl, .inr ⟨⟨rfl, .inl rfl⟩, ⟨rowAdd c _ rfl, rfl, rfl⟩, trivial⟩, .inr ⟨lk rfl, lk rfl, lk rfl, trivial⟩, rfl⟩, inv _ (okC_cons (anyOk (by omega) e) okC_nil) (by simp), by dsimp only; omega⟩
    · refine ⟨[Instr.g ⟨1, 1, 0, 0⟩, Instr.g ⟨4, 1, 0, 0⟩, Instr.g ⟨8, 1, 0, 0⟩, Instr.g ⟨5, 1, 0, 0⟩], rfl, rfl, ⟨rfl, rfl, rfl, rfl, rfl, rfl, rfl, rfl, rfl, rfl, rfl, rfl, rfl, rfl, rfl, rfl, trivial⟩, ?_⟩
      refine ⟨room32 (by simp only [List.length_map, List.length_cons, List.length_nil]; omega), ?_⟩
      refine ⟨_, I64.wrap (by unfold I64; omega), ?_⟩
      exact hRd _ _ _ ⟨(i + 1, c ++ [⟨1, 1, 0, 0⟩, ⟨4, 1, 0, 0⟩, ⟨8, 1, 0, 0⟩, ⟨5, 1, 0, 0⟩]), [.old 0, .old 4], ⟨rfl, .inr ⟨⟨rfl, .inl rfl⟩, ⟨rowAdd c _ rfl, rfl, rfl⟩, trivial⟩, .inr ⟨lk rfl, lk rfl, lk rfl, trivial⟩, rfl⟩, inv _ (okC_cons (by decide) (okC_cons (by decide) (okC_cons (by decide) (okC_cons (by decide) okC_nil)))) (by simp), by dsimp only; omega⟩
end Go.Proofs.YthbdbjnakknbkaaDoor
