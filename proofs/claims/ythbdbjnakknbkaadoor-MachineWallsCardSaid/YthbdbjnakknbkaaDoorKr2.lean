/-
  Code of raw things, of a part that nobody is ahead of: the contract.
-/
import Derived.Test.YthbdbjnakknbkaaDoorPk
import Derived.Test.YthbdbjnakknbkaaDoorCk
import Derived.Test.YthbdbjnakknbkaaDoorMd
import Derived.Test.YthbdbjnakknbkaaDoorEc
import Derived.Test.YthbdbjnakknbkaaDoorDc
import Derived.Test.YthbdbjnakknbkaaDoorCl
import Derived.Test.YthbdbjnakknbkaaDoorMs
import Derived.Test.YthbdbjnakknbkaaDoorMn2
namespace Go.Dm
open Go Go.Eng Go.RowKit
/-- A row is returned, to be read alone. -/
theorem retSlQ {Q : Out → Prop} {h : Heap} {i k : Nat} {xs ys : List (List GV)} {t : TypeId} (hi : h[i]? = some (.row xs t k)) (hx : xs = ys) (q : Q (.ret (.g (.sl k ys)) [])) : RetTo Q h (.row i) := by
  subst hx
  refine retQ _ (.inl ?_) q
  simp only [conv, kp, hi]
end Go.Dm
namespace Barb
open Go Go.Dm Go.Eng
/-- Code that may be. -/
def okC (l : List Instr) : Prop := ∀ x ∈ l, instrE x = 0
theorem okC_nil : okC [] := fun x h => by simp at h
theorem okC_app {l m : List Instr} (h : okC l) (k : okC m) : okC (l ++ m) := fun x hx => by
  rcases List.mem_append.1 hx with hx | hx
  · exact h x hx
  · exact k x hx
theorem okC_cons {x : Instr} {l : List Instr} (h : instrE x = 0) (k : okC l) : okC (x :: l) := fun y hy => by
  rcases List.mem_cons.1 hy with rfl | hy
  · exact h
  · exact k y hy
theorem instr_ok {op a b c : Int} (h1 : 1 ≤ op ∧ op ≤ 15) (ha : 0 ≤ a ∧ a ≤ bdA op) (hb : 0 ≤ b ∧ b ≤ bdB op) (hc : 0 ≤ c ∧ c ≤ bdC op) (hd : op = 8 → a ≠ 0) : instrE ⟨op, a, b, c⟩ = 0 := by
  unfold instrE
  rw [if_neg (fun h => h h1), if_neg]
  unfold instrBad
  rintro (h | h | h | ⟨h, k⟩)
  · exact h ha
  · exact h hb
  · exact h hc
  · exact hd h k
theorem bd_lo (op : Int) : 0 ≤ bdA op ∧ 0 ≤ bdB op ∧ 0 ≤ bdC op := by
  unfold bdA bdB bdC
  refine ⟨?_, ?_, ?_⟩ <;> (repeat' split) <;> omega
/-- What Code answers. -/
def CodeQ : Out → Prop := fun o => ∃ c : List Instr, okC c ∧ 2 ≤ c.length ∧ c.length ≤ 122 ∧ o = .ret (.g (.sl 4 (c.map Instr.g))) []
theorem pushOk {a : Nat} (h : a < 65536) : instrE ⟨1, a, 0, 0⟩ = 0 := instr_ok (by decide) (by unfold bdA; simp; omega) (by decide) (by decide) (fun h => absurd h (by decide))
theorem putOk {a : Nat} (h : a < 8) : instrE ⟨5, a, 0, 0⟩ = 0 := instr_ok (by decide) (by unfold bdA; simp; omega) (by decide) (by decide) (fun h => absurd h (by decide))
theorem getOk {a : Nat} (h : a < 8) : instrE ⟨4, a, 0, 0⟩ = 0 := instr_ok (by decide) (by unfold bdA; simp; omega) (by decide) (by decide) (fun h => absurd h (by decide))
theorem jzOk {a : Nat} (h : a < 1200) : instrE ⟨10, a, 0, 0⟩ = 0 := instr_ok (by decide) (by unfold bdA; simp; omega) (by decide) (by decide) (fun h => absurd h (by decide))
theorem doOk {a : Nat} (h : a < 10) : instrE ⟨8, ((a + 1 : Nat) : Int), 0, 0⟩ = 0 := instr_ok (by decide) (by unfold bdA; simp; omega) (by decide) (by decide) (fun _ => by omega)
theorem anyOk {x : Nat} (h : x < 15) (h8 : ¬((x + 1 : Nat) : Int) = 8) : instrE ⟨((x + 1 : Nat) : Int), 0, 0, 0⟩ = 0 := by
  obtain ⟨h1, h2, h3⟩ := bd_lo ((x + 1 : Nat) : Int)
  exact instr_ok (by omega) ⟨by omega, h1⟩ ⟨by omega, h2⟩ ⟨by omega, h3⟩ (fun h => absurd h h8)
theorem rowAdd (c n : List Instr) {g : List (List GV)} (h : n.map Instr.g = g) : c.map Instr.g ++ g = (c ++ n).map Instr.g := by rw [List.map_append, h]
theorem lastG (c : List Instr) (g : List GV) : (c.map Instr.g ++ [g])[c.length]? = some g := by simp
theorem lastSet (c : List Instr) (x : Instr) {g s : List GV} (h : Instr.g x = s) : (c.map Instr.g ++ [g]).set c.length s = (c ++ [x]).map Instr.g := by
  rw [List.set_append_right _ _ (by simp), ← h]; simp
theorem doOk' {x z : Nat} (h : z < 10) (e : ((x + 1 : Nat) : Int) = 8) : instrE ⟨((x + 1 : Nat) : Int), ((z + 1 : Nat) : Int), 0, 0⟩ = 0 := by
  rw [e]; exact doOk h
theorem room32 {n : Nat} (h : n ≤ 1000) : n ≤ maxLen ∧ n * 32 ≤ 140737488355328 := by unfold maxLen; omega
end Barb
namespace Go.Proofs.YthbdbjnakknbkaaDoor
open Go Go.Dm Go.Eng Barb
theorem dJ {a b : Int} (h : a = b) : D.g (.int a) = D.g (.int b) := by rw [h]

set_option maxRecDepth 20000 in
set_option maxHeartbeats 1000000 in
theorem Code_any (l : List Barb.Raw) (hI : ∀ r ∈ l, Barb.Raw.I r) : CT Tryd.prog gl 12 [.g (.sl 4 (l.map Raw.g)), .agg [.g (.sl 4 [])], .g (.int 0)] CodeQ := by
  have ll : (l.map Raw.g).length = l.length := by simp
  refine enter hT hF hM Tryd.func12 rfl 204 rfl (by kernel_rfl) [.tmp 6] rfl [.g (.sl 4 (l.map Raw.g)), .agg [.g (.sl 4 [])], .g (.int 0)] rfl _ ?_
  refine loopR (ι := Nat × List Barb.Instr) (fun i => [(8, .g (.int (i.1 : Int))), (7, .row 1), (4, .ptr 0 0)]) (fun i => [.blk [.g (.sl 4 [])] 27, .row (i.2.map Instr.g) 38 4]) (fun i => i.1 ≤ l.length ∧ i.1 ≤ 30 ∧ okC i.2 ∧ i.2.length ≤ 4 * i.1) (fun i => l.length - i.1)
    ⟨(0, []), [.old 0, .nil 38 4], ⟨rfl, .inl rfl, .inr ⟨lk rfl, .inr rfl, lk rfl, trivial⟩, rfl⟩, ⟨Nat.zero_le _, Nat.zero_le _, okC_nil, Nat.zero_le _⟩⟩ ?_
  rintro Rd hRd ⟨i, c⟩ ⟨hi, hi30, hok, hlen⟩
  dsimp only at hi hi30 hok hlen
  have fin : ∀ h : Heap, h[3]? = some (.row (c.map Instr.g ++ [Instr.g ⟨4, 0, 0, 0⟩, Instr.g ⟨13, 0, 0, 0⟩]) 38 4) → RetTo CodeQ h (.row 3) := fun h hh => by
    refine retSlQ hh (ys := (c ++ [Instr.mk 4 0 0 0, Instr.mk 13 0 0 0]).map Instr.g) (by simp) ⟨_, okC_app hok ?_, by simp, by simp; omega, rfl⟩
    exact okC_cons (by decide) (okC_cons (by decide) okC_nil)
  have stop : ∀ h : Heap, h[3]? = some (.row (c.map Instr.g ++ [Instr.g ⟨4, 0, 0, 0⟩, Instr.g ⟨13, 0, 0, 0⟩]) 38 4) → RetTo CodeQ h (.row 3) := fin
  refine ⟨fun b0 => ⟨fun b1 => ?_, fun b1 => ?_⟩, fun b0 => ?_⟩
  rotate_left
  · refine ⟨[Instr.g ⟨4, 0, 0, 0⟩, Instr.g ⟨13, 0, 0, 0⟩], rfl, rfl, ⟨rfl, rfl, rfl, rfl, rfl, rfl, rfl, rfl, trivial⟩, ?_⟩
    exact ⟨room32 (by simp only [List.length_map, List.length_cons, List.length_nil]; omega), rfl, stop _ rfl⟩
  · refine ⟨[Instr.g ⟨4, 0, 0, 0⟩, Instr.g ⟨13, 0, 0, 0⟩], rfl, rfl, ⟨rfl, rfl, rfl, rfl, rfl, rfl, rfl, rfl, trivial⟩, ?_⟩
    exact ⟨room32 (by simp only [List.length_map, List.length_cons, List.length_nil]; omega), rfl, stop _ rfl⟩
  have h1 : i < l.length := by omega
  obtain ⟨rk, ra, rb, rc⟩ := hI _ (List.getElem_mem h1)
  refine ⟨i, _, rfl, gm h1, ?_⟩
  generalize l[i] = r at *
  have inv : ∀ news : List Barb.Instr, okC news → news.length ≤ 4 → i + 1 ≤ l.length ∧ i + 1 ≤ 30 ∧ okC (c ++ news) ∧ (c ++ news).length ≤ 4 * (i + 1) := fun news h2 h3 => ⟨by omega, by omega, okC_app hok h2, by rw [List.length_append]; omega⟩
  obtain ⟨k, hk, p0⟩ := pick_any r.a ra (many := 4) (by decide)
  refine callIs (.inl rfl) p0 ⟨(k : Int), (I64.wrap (by unfold I64; omega)).trans (by omega), ?_⟩
  obtain ⟨b12, _, p1⟩ := pick_any r.b rb (many := 12) (by decide)
  refine callIs (.inl rfl) p1 ⟨fun hb => ?_, fun hb => ?_⟩
  · obtain ⟨k, hk, p2⟩ := pick_any r.a ra (many := 250) (by decide)
    refine callIs (.inl rfl) p2 ?_
    obtain ⟨m, hm, pm⟩ := pick_any r.kind rk (many := 16) (by decide)
    obtain ⟨y, hy, py⟩ := pick_any r.b rb (many := 4) (by decide)
    refine callIs (.inl rfl) pm ⟨fun c1 => ?_, fun c1 => ⟨fun c2 => ?_, fun c2 => ⟨fun c3 => ?_, fun c3 => ?_⟩⟩⟩
    · obtain ⟨x, hx, px⟩ := pick_any r.a ra (many := 9) (by decide)
      refine ⟨none, rfl, _, _, .inl rfl, px, rfl, _, _, .inl rfl, py, rfl, [Instr.g ⟨1, x, 0, 0⟩, Instr.g ⟨5, y, 0, 0⟩], rfl, rfl, ⟨rfl, rfl, rfl, rfl, rfl, rfl, rfl, rfl, trivial⟩, ?_⟩
      refine ⟨room32 (by simp only [List.length_map, List.length_cons, List.length_nil]; omega), ?_⟩
      refine ⟨_, I64.wrap (by unfold I64; omega), ?_⟩
      exact hRd _ _ _ ⟨(i + 1, c ++ [⟨1, x, 0, 0⟩, ⟨5, y, 0, 0⟩]), [.old 0, .old 4], ⟨rfl, .inr ⟨⟨rfl, .inl rfl⟩, ⟨rowAdd c _ rfl, rfl, rfl⟩, trivial⟩, .inr ⟨lk rfl, lk rfl, lk rfl, trivial⟩, rfl⟩, inv _ (okC_cons (pushOk (by omega)) (okC_cons (putOk (by omega)) okC_nil)) (by simp), by dsimp only; omega⟩
    · refine callIs (.inl rfl) py ?_
      refine ⟨[Instr.g ⟨1, k, 0, 0⟩, Instr.g ⟨4, y, 0, 0⟩, Instr.g ⟨7, 0, 0, 0⟩], rfl, rfl, ⟨rfl, rfl, rfl, rfl, rfl, rfl, rfl, rfl, rfl, rfl, rfl, rfl, trivial⟩, ?_⟩
      refine ⟨room32 (by simp only [List.length_map, List.length_cons, List.length_nil]; omega), ?_⟩
      refine ⟨_, I64.wrap (by unfold I64; omega), ?_⟩
      exact hRd _ _ _ ⟨(i + 1, c ++ [⟨1, k, 0, 0⟩, ⟨4, y, 0, 0⟩, ⟨7, 0, 0, 0⟩]), [.old 0, .old 4], ⟨rfl, .inr ⟨⟨rfl, .inl rfl⟩, ⟨rowAdd c _ rfl, rfl, rfl⟩, trivial⟩, .inr ⟨lk rfl, lk rfl, lk rfl, trivial⟩, rfl⟩, inv _ (okC_cons (pushOk (by omega)) (okC_cons (getOk (by omega)) (okC_cons (by decide) okC_nil))) (by simp), by dsimp only; omega⟩
    · refine callIs (.inl rfl) py ?_
      refine ⟨[Instr.g ⟨1, k, 0, 0⟩, Instr.g ⟨6, 0, 0, 0⟩, Instr.g ⟨5, y, 0, 0⟩], rfl, rfl, ⟨rfl, rfl, rfl, rfl, rfl, rfl, rfl, rfl, rfl, rfl, rfl, rfl, trivial⟩, ?_⟩
      refine ⟨room32 (by simp only [List.length_map, List.length_cons, List.length_nil]; omega), ?_⟩
      refine ⟨_, I64.wrap (by unfold I64; omega), ?_⟩
      exact hRd _ _ _ ⟨(i + 1, c ++ [⟨1, k, 0, 0⟩, ⟨6, 0, 0, 0⟩, ⟨5, y, 0, 0⟩]), [.old 0, .old 4], ⟨rfl, .inr ⟨⟨rfl, .inl rfl⟩, ⟨rowAdd c _ rfl, rfl, rfl⟩, trivial⟩, .inr ⟨lk rfl, lk rfl, lk rfl, trivial⟩, rfl⟩, inv _ (okC_cons (pushOk (by omega)) (okC_cons (by decide) (okC_cons (putOk (by omega)) okC_nil))) (by simp), by dsimp only; omega⟩
    refine ⟨fun c4 => ⟨fun z => (by exfalso; simp at z), fun _ => ⟨fun e => (by exfalso; omega), fun _ => ⟨fun e => (by exfalso; omega), fun _ => ?_⟩⟩⟩, fun c4 => ⟨fun c5 => ?_, fun c5 => ⟨fun c6 => ?_, fun c6 => ?_⟩⟩⟩
    · refine ⟨[Instr.g ⟨1, 1, 0, 0⟩, Instr.g ⟨4, 1, 0, 0⟩, Instr.g ⟨8, 1, 0, 0⟩, Instr.g ⟨5, 1, 0, 0⟩], rfl, rfl, ⟨rfl, rfl, rfl, rfl, rfl, rfl, rfl, rfl, rfl, rfl, rfl, rfl, rfl, rfl, rfl, rfl, trivial⟩, ?_⟩
      refine ⟨room32 (by simp only [List.length_map, List.length_cons, List.length_nil]; omega), ?_⟩
      refine ⟨_, I64.wrap (by unfold I64; omega), ?_⟩
      exact hRd _ _ _ ⟨(i + 1, c ++ [⟨1, 1, 0, 0⟩, ⟨4, 1, 0, 0⟩, ⟨8, 1, 0, 0⟩, ⟨5, 1, 0, 0⟩]), [.old 0, .old 4], ⟨rfl, .inr ⟨⟨rfl, .inl rfl⟩, ⟨rowAdd c _ rfl, rfl, rfl⟩, trivial⟩, .inr ⟨lk rfl, lk rfl, lk rfl, trivial⟩, rfl⟩, inv _ (okC_cons (by decide) (okC_cons (by decide) (okC_cons (by decide) (okC_cons (by decide) okC_nil)))) (by simp), by dsimp only; omega⟩
    · obtain ⟨x, hx, px⟩ := pick_any r.a ra (many := 4) (by decide)
      obtain ⟨z, hz, pz⟩ := pick_any r.b rb (many := 60) (by decide)
      refine ⟨none, rfl, _, _, .inl rfl, px, rfl, _, _, .inl rfl, pz, rfl, [Instr.g ⟨4, x, 0, 0⟩, Instr.g ⟨10, z, 0, 0⟩], rfl, rfl, ⟨rfl, rfl, rfl, rfl, rfl, rfl, rfl, rfl, trivial⟩, ?_⟩
      refine ⟨room32 (by simp only [List.length_map, List.length_cons, List.length_nil]; omega), ?_⟩
      refine ⟨_, I64.wrap (by unfold I64; omega), ?_⟩
      exact hRd _ _ _ ⟨(i + 1, c ++ [⟨4, x, 0, 0⟩, ⟨10, z, 0, 0⟩]), [.old 0, .old 4], ⟨rfl, .inr ⟨⟨rfl, .inl rfl⟩, ⟨rowAdd c _ rfl, rfl, rfl⟩, trivial⟩, .inr ⟨lk rfl, lk rfl, lk rfl, trivial⟩, rfl⟩, inv _ (okC_cons (getOk (by omega)) (okC_cons (jzOk (by omega)) okC_nil)) (by simp), by dsimp only; omega⟩
    · obtain ⟨x, hx, px⟩ := pick_any r.a ra (many := 15) (by decide)
      obtain ⟨z, hz, pz⟩ := pick_any r.b rb (many := 10) (by decide)
      refine callIs (.inl rfl) px ⟨((x + 1 : Nat) : Int), (I64.wrap (by unfold I64; omega)).trans (by omega), ?_⟩
      refine ⟨[Instr.g ⟨((x + 1 : Nat) : Int), 0, 0, 0⟩], rfl, rfl, ⟨rfl, rfl, rfl, rfl, trivial⟩, ?_⟩
      refine ⟨room32 (by simp only [List.length_map, List.length_cons, List.length_nil]; omega), ?_⟩
      refine ⟨by unfold I64; simp only [List.length_append, List.length_map, List.length_cons, List.length_nil]; omega, c.length, dJ (by simp only [List.length_append, List.length_map, List.length_cons, List.length_nil]; omega), by simp, ?_⟩
      refine ⟨_, lastG c _, ?_⟩
      refine ⟨fun e => ?_, fun e => ?_⟩
      · refine ⟨by unfold I64; simp only [List.length_append, List.length_map, List.length_cons, List.length_nil]; omega, ?_⟩
        refine callIs (.inl rfl) pz ⟨((z + 1 : Nat) : Int), (I64.wrap (by unfold I64; omega)).trans (by omega), ?_⟩
        refine ⟨c.length, dJ (by simp only [List.length_append, List.length_map, List.length_cons, List.length_nil]; omega), by simp, ?_⟩
        refine ⟨_, [.int ((z + 1 : Nat) : Int)], lastG c _, ⟨rfl, trivial⟩, Nat.le_of_ble_eq_true rfl, (fun h => by cases h), ?_⟩
        refine ⟨_, I64.wrap (by unfold I64; omega), ?_⟩
        exact hRd _ _ _ ⟨(i + 1, c ++ [⟨((x + 1 : Nat) : Int), ((z + 1 : Nat) : Int), 0, 0⟩]), [.old 0, .old 4], ⟨rfl, .inr ⟨⟨rfl, .inl rfl⟩, ⟨lastSet c _ rfl, rfl, rfl⟩, trivial⟩, .inr ⟨lk rfl, lk rfl, lk rfl, trivial⟩, rfl⟩, inv _ (okC_cons (doOk' (by omega) e) okC_nil) (by simp), by dsimp only; omega⟩
      · refine ⟨_, I64.wrap (by unfold I64; omega), ?_⟩
        exact hRd _ _ _ ⟨(i + 1, c ++ [⟨((x + 1 : Nat) : Int), 0, 0, 0⟩]), [.old 0, .old 4], ⟨rfl, .inr ⟨⟨rfl, .inl rfl⟩, ⟨rowAdd c _ rfl, rfl, rfl⟩, trivial⟩, .inr ⟨lk rfl, lk rfl, lk rfl, trivial⟩, rfl⟩, inv _ (okC_cons (anyOk (by omega) e) okC_nil) (by simp), by dsimp only; omega⟩
    · refine ⟨[Instr.g ⟨1, 1, 0, 0⟩, Instr.g ⟨4, 1, 0, 0⟩, Instr.g ⟨8, 1, 0, 0⟩, Instr.g ⟨5, 1, 0, 0⟩], rfl, rfl, ⟨rfl, rfl, rfl, rfl, rfl, rfl, rfl, rfl, rfl, rfl, rfl, rfl, rfl, rfl, rfl, rfl, trivial⟩, ?_⟩
      refine ⟨room32 (by simp only [List.length_map, List.length_cons, List.length_nil]; omega), ?_⟩
      refine ⟨_, I64.wrap (by unfold I64; omega), ?_⟩
      exact hRd _ _ _ ⟨(i + 1, c ++ [⟨1, 1, 0, 0⟩, ⟨4, 1, 0, 0⟩, ⟨8, 1, 0, 0⟩, ⟨5, 1, 0, 0⟩]), [.old 0, .old 4], ⟨rfl, .inr ⟨⟨rfl, .inl rfl⟩, ⟨rowAdd c _ rfl, rfl, rfl⟩, trivial⟩, .inr ⟨lk rfl, lk rfl, lk rfl, trivial⟩, rfl⟩, inv _ (okC_cons (by decide) (okC_cons (by decide) (okC_cons (by decide) (okC_cons (by decide) okC_nil)))) (by simp), by dsimp only; omega⟩
  · have hk : k < 250 := by omega
    obtain ⟨m, hm, pm⟩ := pick_any r.kind rk (many := 16) (by decide)
    obtain ⟨y, hy, py⟩ := pick_any r.b rb (many := 4) (by decide)
    refine callIs (.inl rfl) pm ⟨fun c1 => ?_, fun c1 => ⟨fun c2 => ?_, fun c2 => ⟨fun c3 => ?_, fun c3 => ?_⟩⟩⟩
    · obtain ⟨x, hx, px⟩ := pick_any r.a ra (many := 9) (by decide)
      refine ⟨none, rfl, _, _, .inl rfl, px, rfl, _, _, .inl rfl, py, rfl, [Instr.g ⟨1, x, 0, 0⟩, Instr.g ⟨5, y, 0, 0⟩], rfl, rfl, ⟨rfl, rfl, rfl, rfl, rfl, rfl, rfl, rfl, trivial⟩, ?_⟩
      refine ⟨room32 (by simp only [List.length_map, List.length_cons, List.length_nil]; omega), ?_⟩
      refine ⟨_, I64.wrap (by unfold I64; omega), ?_⟩
      exact hRd _ _ _ ⟨(i + 1, c ++ [⟨1, x, 0, 0⟩, ⟨5, y, 0, 0⟩]), [.old 0, .old 4], ⟨rfl, .inr ⟨⟨rfl, .inl rfl⟩, ⟨rowAdd c _ rfl, rfl, rfl⟩, trivial⟩, .inr ⟨lk rfl, lk rfl, lk rfl, trivial⟩, rfl⟩, inv _ (okC_cons (pushOk (by omega)) (okC_cons (putOk (by omega)) okC_nil)) (by simp), by dsimp only; omega⟩
    · refine callIs (.inl rfl) py ?_
      refine ⟨[Instr.g ⟨1, k, 0, 0⟩, Instr.g ⟨4, y, 0, 0⟩, Instr.g ⟨7, 0, 0, 0⟩], rfl, rfl, ⟨rfl, rfl, rfl, rfl, rfl, rfl, rfl, rfl, rfl, rfl, rfl, rfl, trivial⟩, ?_⟩
      refine ⟨room32 (by simp only [List.length_map, List.length_cons, List.length_nil]; omega), ?_⟩
      refine ⟨_, I64.wrap (by unfold I64; omega), ?_⟩
      exact hRd _ _ _ ⟨(i + 1, c ++ [⟨1, k, 0, 0⟩, ⟨4, y, 0, 0⟩, ⟨7, 0, 0, 0⟩]), [.old 0, .old 4], ⟨rfl, .inr ⟨⟨rfl, .inl rfl⟩, ⟨rowAdd c _ rfl, rfl, rfl⟩, trivial⟩, .inr ⟨lk rfl, lk rfl, lk rfl, trivial⟩, rfl⟩, inv _ (okC_cons (pushOk (by omega)) (okC_cons (getOk (by omega)) (okC_cons (by decide) okC_nil))) (by simp), by dsimp only; omega⟩
    · refine callIs (.inl rfl) py ?_
      refine ⟨[Instr.g ⟨1, k, 0, 0⟩, Instr.g ⟨6, 0, 0, 0⟩, Instr.g ⟨5, y, 0, 0⟩], rfl, rfl, ⟨rfl, rfl, rfl, rfl, rfl, rfl, rfl, rfl, rfl, rfl, rfl, rfl, trivial⟩, ?_⟩
      refine ⟨room32 (by simp only [List.length_map, List.length_cons, List.length_nil]; omega), ?_⟩
      refine ⟨_, I64.wrap (by unfold I64; omega), ?_⟩
      exact hRd _ _ _ ⟨(i + 1, c ++ [⟨1, k, 0, 0⟩, ⟨6, 0, 0, 0⟩, ⟨5, y, 0, 0⟩]), [.old 0, .old 4], ⟨rfl, .inr ⟨⟨rfl, .inl rfl⟩, ⟨rowAdd c _ rfl, rfl, rfl⟩, trivial⟩, .inr ⟨lk rfl, lk rfl, lk rfl, trivial⟩, rfl⟩, inv _ (okC_cons (pushOk (by omega)) (okC_cons (by decide) (okC_cons (putOk (by omega)) okC_nil))) (by simp), by dsimp only; omega⟩
    refine ⟨fun c4 => ⟨fun z => (by exfalso; simp at z), fun _ => ⟨fun e => (by exfalso; omega), fun _ => ⟨fun e => (by exfalso; omega), fun _ => ?_⟩⟩⟩, fun c4 => ⟨fun c5 => ?_, fun c5 => ⟨fun c6 => ?_, fun c6 => ?_⟩⟩⟩
    · refine ⟨[Instr.g ⟨1, 1, 0, 0⟩, Instr.g ⟨4, 1, 0, 0⟩, Instr.g ⟨8, 1, 0, 0⟩, Instr.g ⟨5, 1, 0, 0⟩], rfl, rfl, ⟨rfl, rfl, rfl, rfl, rfl, rfl, rfl, rfl, rfl, rfl, rfl, rfl, rfl, rfl, rfl, rfl, trivial⟩, ?_⟩
      refine ⟨room32 (by simp only [List.length_map, List.length_cons, List.length_nil]; omega), ?_⟩
      refine ⟨_, I64.wrap (by unfold I64; omega), ?_⟩
      exact hRd _ _ _ ⟨(i + 1, c ++ [⟨1, 1, 0, 0⟩, ⟨4, 1, 0, 0⟩, ⟨8, 1, 0, 0⟩, ⟨5, 1, 0, 0⟩]), [.old 0, .old 4], ⟨rfl, .inr ⟨⟨rfl, .inl rfl⟩, ⟨rowAdd c _ rfl, rfl, rfl⟩, trivial⟩, .inr ⟨lk rfl, lk rfl, lk rfl, trivial⟩, rfl⟩, inv _ (okC_cons (by decide) (okC_cons (by decide) (okC_cons (by decide) (okC_cons (by decide) okC_nil)))) (by simp), by dsimp only; omega⟩
    · obtain ⟨x, hx, px⟩ := pick_any r.a ra (many := 4) (by decide)
      obtain ⟨z, hz, pz⟩ := pick_any r.b rb (many := 60) (by decide)
      refine ⟨none, rfl, _, _, .inl rfl, px, rfl, _, _, .inl rfl, pz, rfl, [Instr.g ⟨4, x, 0, 0⟩, Instr.g ⟨10, z, 0, 0⟩], rfl, rfl, ⟨rfl, rfl, rfl, rfl, rfl, rfl, rfl, rfl, trivial⟩, ?_⟩
      refine ⟨room32 (by simp only [List.length_map, List.length_cons, List.length_nil]; omega), ?_⟩
      refine ⟨_, I64.wrap (by unfold I64; omega), ?_⟩
      exact hRd _ _ _ ⟨(i + 1, c ++ [⟨4, x, 0, 0⟩, ⟨10, z, 0, 0⟩]), [.old 0, .old 4], ⟨rfl, .inr ⟨⟨rfl, .inl rfl⟩, ⟨rowAdd c _ rfl, rfl, rfl⟩, trivial⟩, .inr ⟨lk rfl, lk rfl, lk rfl, trivial⟩, rfl⟩, inv _ (okC_cons (getOk (by omega)) (okC_cons (jzOk (by omega)) okC_nil)) (by simp), by dsimp only; omega⟩
    · obtain ⟨x, hx, px⟩ := pick_any r.a ra (many := 15) (by decide)
      obtain ⟨z, hz, pz⟩ := pick_any r.b rb (many := 10) (by decide)
      refine callIs (.inl rfl) px ⟨((x + 1 : Nat) : Int), (I64.wrap (by unfold I64; omega)).trans (by omega), ?_⟩
      refine ⟨[Instr.g ⟨((x + 1 : Nat) : Int), 0, 0, 0⟩], rfl, rfl, ⟨rfl, rfl, rfl, rfl, trivial⟩, ?_⟩
      refine ⟨room32 (by simp only [List.length_map, List.length_cons, List.length_nil]; omega), ?_⟩
      refine ⟨by unfold I64; simp only [List.length_append, List.length_map, List.length_cons, List.length_nil]; omega, c.length, dJ (by simp only [List.length_append, List.length_map, List.length_cons, List.length_nil]; omega), by simp, ?_⟩
      refine ⟨_, lastG c _, ?_⟩
      refine ⟨fun e => ?_, fun e => ?_⟩
      · refine ⟨by unfold I64; simp only [List.length_append, List.length_map, List.length_cons, List.length_nil]; omega, ?_⟩
        refine callIs (.inl rfl) pz ⟨((z + 1 : Nat) : Int), (I64.wrap (by unfold I64; omega)).trans (by omega), ?_⟩
        refine ⟨c.length, dJ (by simp only [List.length_append, List.length_map, List.length_cons, List.length_nil]; omega), by simp, ?_⟩
        refine ⟨_, [.int ((z + 1 : Nat) : Int)], lastG c _, ⟨rfl, trivial⟩, Nat.le_of_ble_eq_true rfl, (fun h => by cases h), ?_⟩
        refine ⟨_, I64.wrap (by unfold I64; omega), ?_⟩
        exact hRd _ _ _ ⟨(i + 1, c ++ [⟨((x + 1 : Nat) : Int), ((z + 1 : Nat) : Int), 0, 0⟩]), [.old 0, .old 4], ⟨rfl, .inr ⟨⟨rfl, .inl rfl⟩, ⟨lastSet c _ rfl, rfl, rfl⟩, trivial⟩, .inr ⟨lk rfl, lk rfl, lk rfl, trivial⟩, rfl⟩, inv _ (okC_cons (doOk' (by omega) e) okC_nil) (by simp), by dsimp only; omega⟩
      · refine ⟨_, I64.wrap (by unfold I64; omega), ?_⟩
        exact hRd _ _ _ ⟨(i + 1, c ++ [⟨((x + 1 : Nat) : Int), 0, 0, 0⟩]), [.old 0, .old 4], ⟨rfl, .inr ⟨⟨rfl, .inl rfl⟩, ⟨rowAdd c _ rfl, rfl, rfl⟩, trivial⟩, .inr ⟨lk rfl, lk rfl, lk rfl, trivial⟩, rfl⟩, inv _ (okC_cons (anyOk (by omega) e) okC_nil) (by simp), by dsimp only; omega⟩
    · refine ⟨[Instr.g ⟨1, 1, 0, 0⟩, Instr.g ⟨4, 1, 0, 0⟩, Instr.g ⟨8, 1, 0, 0⟩, Instr.g ⟨5, 1, 0, 0⟩], rfl, rfl, ⟨rfl, rfl, rfl, rfl, rfl, rfl, rfl, rfl, rfl, rfl, rfl, rfl, rfl, rfl, rfl, rfl, trivial⟩, ?_⟩
      refine ⟨room32 (by simp only [List.length_map, List.length_cons, List.length_nil]; omega), ?_⟩
      refine ⟨_, I64.wrap (by unfold I64; omega), ?_⟩
      exact hRd _ _ _ ⟨(i + 1, c ++ [⟨1, 1, 0, 0⟩, ⟨4, 1, 0, 0⟩, ⟨8, 1, 0, 0⟩, ⟨5, 1, 0, 0⟩]), [.old 0, .old 4], ⟨rfl, .inr ⟨⟨rfl, .inl rfl⟩, ⟨rowAdd c _ rfl, rfl, rfl⟩, trivial⟩, .inr ⟨lk rfl, lk rfl, lk rfl, trivial⟩, rfl⟩, inv _ (okC_cons (by decide) (okC_cons (by decide) (okC_cons (by decide) (okC_cons (by decide) okC_nil)))) (by simp), by dsimp only; omega⟩
end Go.Proofs.YthbdbjnakknbkaaDoor
/-
  slices.Equal at lists that are the same; code that was written is read: the contracts and the plain laws.
-/
namespace Barb
open Go Go.Dm Go.Eng
theorem enc_get : ∀ (c : List Instr) (k : Nat) (h : k < c.length) (j : Nat), (encW c).getD (4 * k + j) 0 = (if j < 4 then (Instr.ws c[k]).getD j 0 else (encW c).getD (4 * k + j) 0)
  | [], k, h, _ => by simp at h
  | x :: c, 0, _, j => by
    by_cases hj : j < 4
    · rw [if_pos hj]
      match j, hj with
      | 0, _ => rfl
      | 1, _ => rfl
      | 2, _ => rfl
      | 3, _ => rfl
    · rw [if_neg hj]
  | x :: c, k + 1, h, j => by
    by_cases hj : j < 4
    · rw [if_pos hj]
      have ih := enc_get c k (by simpa using h) j
      rw [if_pos hj] at ih
      rw [show 4 * (k + 1) + j = (4 * k + j) + 4 from by omega]
      show ([x.op, x.a, x.b, x.c] ++ encW c).getD (4 * k + j + 4) 0 = _
      simp only [List.cons_append, List.nil_append, List.getD_cons_succ]
      rw [ih]
      rfl
    · rw [if_neg hj]
theorem enc_at {c : List Instr} {k : Nat} (h : k < c.length) {j : Nat} (hj : j < 4) : (encW c).getD (4 * k + j) 0 = (Instr.ws c[k]).getD j 0 := by
  rw [enc_get c k h j, if_pos hj]
theorem insAt_enc {c : List Instr} {k : Nat} (h : k < c.length) : insAt (encW c) k = c[k] := by
  unfold insAt
  rw [enc_at h (by decide), enc_at h (by decide), enc_at h (by decide), enc_at h (by decide)]
  rfl
theorem bd_hi (op : Int) : bdA op ≤ 65535 ∧ bdB op ≤ 65535 ∧ bdC op ≤ 65535 := by
  unfold bdA bdB bdC
  refine ⟨?_, ?_, ?_⟩ <;> (repeat' split) <;> omega
theorem instr_words {x : Instr} (h : instrE x = 0) : wordI x.op ∧ wordI x.a ∧ wordI x.b ∧ wordI x.c := by
  unfold instrE at h
  by_cases h1 : 1 ≤ x.op ∧ x.op ≤ 15
  · rw [if_neg (fun h' => h' h1)] at h
    by_cases h2 : instrBad x
    · rw [if_pos h2] at h; omega
    · unfold instrBad at h2
      obtain ⟨b1, b2, b3⟩ := bd_hi x.op
      unfold wordI
      refine ⟨by omega, ?_, ?_, ?_⟩ <;> omega
  · rw [if_pos h1] at h; omega
theorem encE_ok {c : List Instr} (h : okC c) (hl : c.length ≤ 122) : encE c = 0 := by
  unfold encE
  rw [if_neg (by omega)]
  exact firstE_zero h
theorem encL_ok {c : List Instr} (h : okC c) (hl : c.length ≤ 122) : encL c = encW c := by
  unfold encL
  rw [if_pos (encE_ok h hl)]
theorem decF_enc {c : List Instr} (h : okC c) {k : Nat} (hk : k < c.length) : decF (encW c) k = 0 := by
  have hz := h _ (List.getElem_mem hk)
  obtain ⟨w1, w2, w3, w4⟩ := instr_words hz
  unfold decF
  rw [insAt_enc hk, enc_at hk (by decide), enc_at hk (by decide), enc_at hk (by decide), enc_at hk (by decide)]
  rw [if_neg (fun h' => h' ⟨w1, w2, w3, w4⟩)]
  exact hz
theorem decE_enc {c : List Instr} (h : okC c) (hl : c.length ≤ 122) : decE (encW c) = 0 := by
  unfold decE
  have e := encW_len c
  rw [if_neg (by omega), if_neg (fun h' => h' (by omega))]
  exact firstN_all (fun k hk => decF_enc h (by omega))
theorem decL_enc {c : List Instr} (h : okC c) (hl : c.length ≤ 122) : decL (encW c) = c := by
  unfold decL
  rw [if_pos (decE_enc h hl)]
  have e : (encW c).length / 4 = c.length := by rw [encW_len]; omega
  rw [e]
  refine List.ext_getElem (insTo_len _ _) (fun i h1 h2 => ?_)
  simp only [insTo, List.getElem_map, List.getElem_range]
  exact insAt_enc h2
theorem decE_odd {c : List Instr} (hl : c.length ≤ 122) : decE (encW c ++ [1]) = 4 := by
  unfold decE
  have e := encW_len c
  rw [if_neg (by simp; omega), if_pos (by simp only [List.length_append, List.length_cons, List.length_nil]; omega)]
theorem decL_no {ws : List Int} {v : Int} (h : decE ws = v) (hv : v ≠ 0) : decL ws = [] := by
  unfold decL
  rw [if_neg (by rw [h]; exact hv)]
theorem decE_bad {c : List Instr} (h : okC c) (hl : c.length ≤ 122) {p q : Nat} (hp : p < c.length) (hq : q < 50) : decE ((encW c).set (4 * p) ((16 + q : Nat) : Int)) = 3 := by
  unfold decE
  have e := encW_len c
  rw [List.length_set, if_neg (by omega), if_neg (fun h' => h' (by omega))]
  have same : ∀ k j : Nat, j < 4 → ¬(k = p ∧ j = 0) → ((encW c).set (4 * p) ((16 + q : Nat) : Int)).getD (4 * k + j) 0 = (encW c).getD (4 * k + j) 0 := fun k j hj hn => by
    rw [List.getD_eq_getElem?_getD, List.getD_eq_getElem?_getD, List.getElem?_set_ne (by omega)]
  have hat : decF ((encW c).set (4 * p) ((16 + q : Nat) : Int)) p = 3 := by
    have h0 : ((encW c).set (4 * p) ((16 + q : Nat) : Int)).getD (4 * p + 0) 0 = ((16 + q : Nat) : Int) := by
      rw [List.getD_eq_getElem?_getD, Nat.add_zero, List.getElem?_set_self (by omega)]; rfl
    obtain ⟨w1, w2, w3, w4⟩ := instr_words (h _ (List.getElem_mem hp))
    unfold decF insAt
    rw [h0, same p 1 (by decide) (by omega), same p 2 (by decide) (by omega), same p 3 (by decide) (by omega), enc_at hp (by decide), enc_at hp (by decide), enc_at hp (by decide)]
    rw [if_neg (fun h' => h' ⟨by unfold wordI; omega, w2, w3, w4⟩)]
    unfold instrE
    exact if_pos (by dsimp only; omega)
  rw [firstN_at (i := p) (by omega) (fun k hk => ?_) (by rw [hat]; decide), hat]
  have := decF_enc h (show k < c.length by omega)
  unfold decF insAt at this ⊢
  rw [same k 0 (by decide) (by omega), same k 1 (by decide) (by omega), same k 2 (by decide) (by omega), same k 3 (by decide) (by omega)]
  exact this
end Barb
namespace Go.Proofs.YthbdbjnakknbkaaDoor
open Go Go.Dm Go.Eng Barb

theorem EqualI_any (l : List Barb.Instr) (hl : l.length ≤ 9223372036854775807) : CT Tryd.prog gl 17 [.g (.sl 4 (l.map Instr.g)), .g (.sl 4 (l.map Instr.g))] (Is (.g (.bool true))) := by
  have ll : (l.map Instr.g).length = l.length := by simp
  refine enter hT hF hM Tryd.func17 rfl 26 rfl (by kernel_rfl) [.tmp 4] rfl [.g (.sl 4 (l.map Instr.g)), .g (.sl 4 (l.map Instr.g))] rfl _ ?_
  refine ⟨fun h => absurd rfl h, fun _ => ?_⟩
  refine loopR (ι := Nat) (fun i => [(13, .g (.int (i : Int)))]) (fun _ => []) (fun i => i ≤ l.length) (fun i => l.length - i)
    ⟨0, [], ⟨rfl, .inl rfl, .inr ⟨lk rfl, trivial⟩, rfl⟩, Nat.zero_le _⟩ ?_
  intro Rd hRd i hi
  refine ⟨fun h1 => ?_, fun h1 => ⟨rfl, retIs (.inl rfl)⟩⟩
  have h2 : i < l.length := by omega
  refine ⟨none, rfl, i, _, rfl, gm h2, i, _, rfl, gm h2, ?_⟩
  refine ⟨stEq_Instr, ?_⟩
  refine ⟨fun h => absurd ⟨rfl, rfl, rfl, rfl, trivial⟩ h, fun _ => ⟨_, I64.wrap (by unfold I64; omega), ?_⟩⟩
  exact hRd _ _ _ ⟨i + 1, [], ⟨rfl, .inl rfl, .inr ⟨lk rfl, trivial⟩, rfl⟩, h2, by omega⟩
theorem EqualN_any (l : List Int) (hl : l.length ≤ 9223372036854775807) : CT Tryd.prog gl 21 [.g (.sl 1 (l.map intG)), .g (.sl 1 (l.map intG))] (Is (.g (.bool true))) := by
  have ll : (l.map intG).length = l.length := by simp
  refine enter hT hF hM Tryd.func21 rfl 26 rfl (by kernel_rfl) [.tmp 4] rfl [.g (.sl 1 (l.map intG)), .g (.sl 1 (l.map intG))] rfl _ ?_
  refine ⟨fun h => absurd rfl h, fun _ => ?_⟩
  refine loopR (ι := Nat) (fun i => [(13, .g (.int (i : Int)))]) (fun _ => []) (fun i => i ≤ l.length) (fun i => l.length - i)
    ⟨0, [], ⟨rfl, .inl rfl, .inr ⟨lk rfl, trivial⟩, rfl⟩, Nat.zero_le _⟩ ?_
  intro Rd hRd i hi
  refine ⟨fun h1 => ?_, fun h1 => ⟨rfl, retIs (.inl rfl)⟩⟩
  have h2 : i < l.length := by omega
  refine ⟨none, rfl, i, _, rfl, gm h2, i, _, rfl, gm h2, ?_⟩
  refine ⟨fun h => absurd rfl h, fun _ => ⟨_, I64.wrap (by unfold I64; omega), ?_⟩⟩
  exact hRd _ _ _ ⟨i + 1, [], ⟨rfl, .inl rfl, .inr ⟨lk rfl, trivial⟩, rfl⟩, h2, by omega⟩
end Go.Proofs.YthbdbjnakknbkaaDoor
/-
  mem.Store where it does what it is told, its words a row of one's own; an image of two parts: the contracts.
-/
namespace Go.Dm
open Go Go.Eng Go.RowKit
theorem retRow2 {Q : Out → Prop} {h : Heap} {i : Nat} {xs ys : List (List GV)} {e sz : Nat} {x : Int} (hi : h[i]? = some (.row xs e sz)) (hx : xs = ys) (q : Q (.ret (.tuple [.row 0, .g (.int x)]) [.row ys e sz])) : RetTo Q h (.tuple [.row i, .g (.int x)]) := by
  subst hx
  have hkp : kp [.old i] 0 i = some 0 := by simp [kp]
  refine ⟨[.old i], .tuple [.row 0, .g (.int x)], [.row xs e sz], ⟨rfl, .inl ?_, .inl ?_, rfl⟩, q⟩
  · simp only [turnH, List.map_cons, List.map_nil, turnO, hi]
  · simp only [List.map_cons, List.map_nil, conv, hkp]
end Go.Dm
namespace Barb
open Go Go.Dm Go.Eng
/-- The image of a part that is handed code, behind another one. -/
def img2 (c : List Instr) (w : Int) : List Part := [⟨[⟨4, 0, 0, 0⟩, ⟨13, 0, 0, 0⟩], [⟨0, 1⟩], 0, 3⟩, ⟨c, [⟨0, 0⟩], 3, 3 + w⟩]
end Barb
namespace Go.Proofs.YthbdbjnakknbkaaDoor
open Go Go.Dm Go.Eng Barb
theorem StoreRow_any (m : Image) (hm : Image.I m) (d : List Int) (hd : d.length * 8 ≤ 140737488351232) (p : Int) (k : Nat) (v : Int) (hk : k < d.length) (h0 : ownE m d p (k : Int) = 0) (h2 : 0 ≤ v ∧ v ≤ 65535) :
    CT Tryd.prog gl 19 [.agg (imgD m), .g (.sl 1 (d.map intG)), .g (.int p), .g (.int (k : Int)), .g (.int v)] (fun o => o = .ret (.tuple [.row 0, .g (.int 0)]) [.row ((d.set k v).map intG) 3 1]) := by
  refine enter hT hF hM Tryd.func19 rfl 31 rfl (by kernel_rfl) [.tmp 10, .tmp 11] rfl [.agg (imgD m), .g (.sl 1 (d.map intG)), .g (.int p), .g (.int (k : Int)), .g (.int v)] rfl _ ?_
  refine callIs (.inl rfl) (own_any m hm d hd p (k : Int)) ⟨fun h => absurd h0 h, fun _ => ?_⟩
  refine callIs (.inl rfl) (Is_any v) ⟨fun h => absurd h2 h, fun _ => ?_⟩
  refine callQ (.inl rfl) (Clone_any (d.map intG) (by rw [List.length_map]; exact hd)) (fun d' h' hq => ?_) (fun d' hq => by cases hq)
  injection hq with e1 e2
  subst e1; subst e2
  refine ⟨k, rfl, by rw [List.length_map]; exact hk, ?_⟩
  refine ⟨_, [.int v], gm hk, ⟨rfl, trivial⟩, Nat.le_refl 1, (fun h => by cases h), ?_⟩
  refine ⟨rfl, retRow2 rfl ?_ rfl⟩
  rw [List.map_set]
  rfl
set_option maxRecDepth 20000 in
theorem image_any (c : List Barb.Instr) (w : Int) (hw : 0 ≤ w ∧ w ≤ 1000) : CT Tryd.prog gl 18 [.g (.sl 4 (c.map Instr.g)), .g (.int w)] (Is (.agg (imgD (img2 c w)))) := by
  refine enter hT hF hM Tryd.func18 rfl 19 rfl (by kernel_rfl) [.cell 4 27] rfl [.g (.sl 4 (c.map Instr.g)), .g (.int w)] rfl _ ?_
  refine ⟨[Instr.g ⟨4, 0, 0, 0⟩, Instr.g ⟨13, 0, 0, 0⟩], rfl, rfl, ⟨rfl, rfl, rfl, rfl, rfl, rfl, rfl, rfl, trivial⟩, ?_⟩
  refine ⟨[Entry.g ⟨0, 1⟩], rfl, rfl, ⟨rfl, rfl, trivial⟩, ?_⟩
  refine ⟨[Entry.g ⟨0, 0⟩], rfl, rfl, ⟨rfl, rfl, trivial⟩, ?_⟩
  refine ⟨3 + w, I64.wrap (by unfold I64; omega), ?_⟩
  refine ⟨[[.sl 4 [Instr.g ⟨4, 0, 0, 0⟩, Instr.g ⟨13, 0, 0, 0⟩], .sl 2 [Entry.g ⟨0, 1⟩], .int 0, .int 3], [.sl 4 (c.map Instr.g), .sl 2 [Entry.g ⟨0, 0⟩], .int 3, .int (3 + w)]], rfl, rfl, ⟨rfl, rfl, rfl, rfl, rfl, rfl, rfl, rfl, trivial⟩, ?_⟩
  exact ⟨rfl, retIs (.inl rfl)⟩
end Go.Proofs.YthbdbjnakknbkaaDoor
/-
  A run of code in the second part of an image: the contract.
-/
namespace Barb
open Go Go.Dm Go.Eng
/-- What is run: code in the second part, with no words of its own, or some. -/
theorem img2_I {c : List Instr} {w : Nat} (hc : ∀ i ∈ c, i.I) (hl : c.length ≤ 100) (hw : w ≤ 200) : Image.I (img2 c w) := by
  refine ⟨fun p hp => ?_, Nat.le_of_ble_eq_true rfl⟩
  simp only [img2, List.mem_cons, List.not_mem_nil, or_false] at hp
  rcases hp with rfl | rfl
  · refine ⟨fun i hi => ?_, fun i hi => ?_, by unfold I64; decide, by unfold I64; decide, by decide, by decide⟩
    · simp only [List.mem_cons, List.not_mem_nil, or_false] at hi
      rcases hi with rfl | rfl <;> (refine ⟨?_, ?_, ?_, ?_⟩ <;> (unfold I64; decide))
    · simp only [List.mem_cons, List.not_mem_nil, or_false] at hi
      subst hi
      refine ⟨?_, ?_⟩ <;> (unfold I64; decide)
  · refine ⟨hc, fun i hi => ?_, by unfold I64; dsimp only; omega, by unfold I64; dsimp only; omega, by dsimp only; omega, Nat.le_of_ble_eq_true rfl⟩
    simp only [List.mem_cons, List.not_mem_nil, or_false] at hi
    subst hi
    refine ⟨?_, ?_⟩ <;> (unfold I64; decide)
theorem img2_E {c : List Instr} {w : Nat} (hc : ∀ i ∈ c, instrE i = 0) (h0 : 0 < c.length) (hl : c.length ≤ 100) (hw : w ≤ 200) : imgE (img2 c w) = 0 := by
  unfold imgE
  rw [if_neg (show ¬(5 < (img2 c w).length) from fun h => absurd (show 5 < 2 from h) (by decide))]
  refine firstN_all (fun j hj => ?_)
  have hj2 : j < 2 := hj
  rw [imgF_at hj]
  match j, hj2 with
  | 0, _ => show partE ⟨[⟨4, 0, 0, 0⟩, ⟨13, 0, 0, 0⟩], [⟨0, 1⟩], 0, 3⟩ 0 = 0; decide
  | 1, _ =>
    show partE ⟨c, [⟨0, 0⟩], 3, 3 + w⟩ 3 = 0
    unfold partE
    rw [if_neg (by dsimp only; rintro (h | h); omega; exact absurd h (by decide)), if_neg (fun h => h (firstE_zero hc))]
    have he : firstE (entE c.length) [⟨0, 0⟩] = 0 := firstE_zero (fun x hx => by
      simp only [List.mem_cons, List.not_mem_nil, or_false] at hx
      subst hx
      unfold entE
      exact if_neg (by unfold entBad; dsimp only; omega))
    rw [if_neg (fun h => h he), if_neg (by dsimp only; omega)]
theorem img2_run {c : List Instr} {w : Nat} (hc : ∀ i ∈ c, instrE i = 0) (h0 : 0 < c.length) (hl : c.length ≤ 100) (hw : w ≤ 200) {fuel : Nat} (hf : fuel ≤ 100000) : runE (img2 c w) (List.replicate (3 + w) 0) 1 0 [] fuel = 0 ∧
    runV (img2 c w) (List.replicate (3 + w) 0) 1 0 [] fuel = outOf (iterS (img2 c w) fuel ⟨[], List.replicate (3 + w) 0, []⟩ [⟨1, 0, p8 [], [], -1⟩]) := by
  have hd : dataE (img2 c w) (List.replicate (3 + w) 0) = 0 := by
    unfold dataE
    have hiw : imgWords (img2 c w) = 3 + w := rfl
    rw [if_neg (fun h => h (img2_E hc h0 hl hw)), if_neg (fun h => h (by rw [List.length_replicate, hiw]; push_cast; rfl))]
    exact wordE_zero (fun n hn => by rw [List.eq_of_mem_replicate hn]; unfold wordN; decide)
  have hE : runE (img2 c w) (List.replicate (3 + w) 0) 1 0 [] fuel = 0 := by
    unfold runE
    rw [if_neg (fun h => h hd), if_neg (by show ¬((1 : Int) < 0 ∨ (1 : Int) ≥ 2 ∨ (0 : Int) < 0 ∨ (0 : Int) ≥ 1); decide), if_neg (by show ¬((0 : Int) ≠ 0); decide), if_neg]
    rintro (h | h | ⟨n, hn, _⟩)
    · omega
    · omega
    · simp at hn
  refine ⟨hE, ?_⟩
  unfold runV
  rw [if_pos hE]
  rfl
end Barb
namespace Go.Proofs.YthbdbjnakknbkaaDoor
open Go Go.Dm Go.Eng Go.RowKit Barb
set_option maxRecDepth 20000 in
theorem runK_any (c : List Barb.Instr) (w : Nat) (hw : w ≤ 1000) (hI : Image.I (img2 c w)) (fuel : Int) :
    CT Tryd.prog gl 27 [.g (.sl 4 (c.map Instr.g)), .g (.int (w : Int)), .g (.int fuel)] (Is (.tuple [.agg (runV (img2 c w) (List.replicate (3 + w) 0) 1 0 [] fuel).d, .pb (runE (img2 c w) (List.replicate (3 + w) 0) 1 0 [] fuel = 0)])) := by
  have hrun := Run_any (img2 c w) hI (List.replicate (3 + w) 0) (by rw [List.length_replicate]; omega) 1 0 [] (by decide) fuel
  revert hrun
  generalize runV (img2 c w) (List.replicate (3 + w) 0) 1 0 [] fuel = ov
  generalize runE (img2 c w) (List.replicate (3 + w) 0) 1 0 [] fuel = oe
  intro hrun
  refine enter hT hF hM Tryd.func27 rfl 24 rfl (by kernel_rfl) [.cell 6 49, .tmp 7] rfl [.g (.sl 4 (c.map Instr.g)), .g (.int (w : Int)), .g (.int fuel)] rfl _ ?_
  refine ⟨some 1500, rfl, ?_⟩
  refine ⟨_, _, .inl rfl, image_any c w ⟨by omega, by omega⟩, rfl, ?_⟩
  refine ⟨3 + w, I64.wrap (by unfold I64; omega), ?_⟩
  refine ⟨3 + w, 3 + w, [.int 0], dI (by push_cast; rfl), dI (by push_cast; rfl), Nat.le_refl _, (by show 8 * (3 + w) ≤ _; omega), by unfold maxLen; omega, ⟨rfl, trivial⟩, ?_⟩
  refine ⟨[.agg (imgD (img2 c w)), .g (.sl 1 ((List.replicate (3 + w) (0 : Int)).map intG)), .g (.int 1), .g (.int 0), .g (.sl 1 (([] : List Int).map intG)), .g (.int fuel)], _, .inr ⟨lk rfl, lkL (by rw [List.map_replicate]; rfl), lk rfl, lk rfl, lkNil, lk rfl, trivial⟩, hrun, rfl, ?_⟩
  exact ⟨rfl, retIs (.inl rfl)⟩
end Go.Proofs.YthbdbjnakknbkaaDoor
