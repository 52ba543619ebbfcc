/-
  The run that the reference tells: a step asks first for the words that it takes off.
-/
import Derived.Test.YthbdbjnakknbkaaDoorMn2
namespace Barb
open Go Go.Dm Go.Eng Go.Proofs.YthbdbjnakknbkaaDoor
/-- How many words a step takes off. -/
def needS (i : Instr) : Int :=
  if i.op = 2 ∨ i.op = 3 ∨ i.op = 5 ∨ i.op = 6 ∨ i.op = 10 ∨ i.op = 13 ∨ i.op = 14 then 1
  else if i.op = 7 ∨ i.op = 8 then 2 else if i.op = 11 then i.b else if i.op = 12 then i.c else 0
/-- What a step does once it is known what stands there. -/
def doS (m : Image) (p : Part) (i : Instr) (o : MO) (pre : List PF) (t : PF) : R :=
  if i.op = 6 ∨ i.op = 7 then memS p i o pre t
  else if i.op = 9 ∨ i.op = 10 ∨ i.op = 11 ∨ i.op = 12 ∨ i.op = 13 ∨ i.op = 15 then ctlS m i o pre t
  else wrdS i o pre t
theorem step_out {m : Image} {o : MO} {pre : List PF} {t : PF} (h : t.at_ ≥ (m.getD t.part.toNat noPart).code.length) : Barb.stepS m o pre t = .stop 4 0 o := by
  unfold Barb.stepS; exact if_pos h
theorem step_in {m : Image} {o : MO} {pre : List PF} {t : PF} (h : ¬t.at_ ≥ (m.getD t.part.toNat noPart).code.length) :
    Barb.stepS m o pre t = doS m (m.getD t.part.toNat noPart) ((m.getD t.part.toNat noPart).code.getD t.at_.toNat noInstr) o pre { t with at_ := t.at_ + 1 } := by
  unfold Barb.stepS; exact if_neg h
theorem doS_few {m : Image} {p : Part} {i : Instr} {o : MO} {pre : List PF} {t : PF} (h1 : 1 ≤ i.op ∧ i.op ≤ 15) (hb : 0 ≤ i.b) (hc : 0 ≤ i.c) (h : (t.ws.length : Int) < needS i) : doS m p i o pre t = .stop 4 0 o := by
  obtain ⟨op, a, b, c⟩ := i
  dsimp only at h1 hb hc
  have : op = 1 ∨ op = 2 ∨ op = 3 ∨ op = 4 ∨ op = 5 ∨ op = 6 ∨ op = 7 ∨ op = 8 ∨ op = 9 ∨ op = 10 ∨ op = 11 ∨ op = 12 ∨ op = 13 ∨ op = 14 ∨ op = 15 := by omega
  rcases this with rfl | rfl | rfl | rfl | rfl | rfl | rfl | rfl | rfl | rfl | rfl | rfl | rfl | rfl | rfl
  · exact absurd h (by show ¬((t.ws.length : Int) < 0); omega)
  · exact if_pos (show t.ws.length < 1 from by have : (t.ws.length : Int) < 1 := h; omega)
  · exact if_pos (show t.ws.length < 1 from by have : (t.ws.length : Int) < 1 := h; omega)
  · exact absurd h (by show ¬((t.ws.length : Int) < 0); omega)
  · exact if_pos (show t.ws.length < 1 from by have : (t.ws.length : Int) < 1 := h; omega)
  · exact if_pos (show t.ws.length < 1 from by have : (t.ws.length : Int) < 1 := h; omega)
  · exact if_pos (show t.ws.length < 2 from by have : (t.ws.length : Int) < 2 := h; omega)
  · exact if_pos (show t.ws.length < 2 from by have : (t.ws.length : Int) < 2 := h; omega)
  · exact absurd h (by show ¬((t.ws.length : Int) < 0); omega)
  · exact if_pos (show t.ws.length < 1 from by have : (t.ws.length : Int) < 1 := h; omega)
  · exact if_pos (show t.ws.length < b.toNat from by have : (t.ws.length : Int) < b := h; omega)
  · exact if_pos (show t.ws.length < c.toNat from by have : (t.ws.length : Int) < c := h; omega)
  · exact if_pos (show t.ws.length < 1 from by have : (t.ws.length : Int) < 1 := h; omega)
  · exact if_pos (show t.ws.length < 1 from by have : (t.ws.length : Int) < 1 := h; omega)
  · exact absurd h (by show ¬((t.ws.length : Int) < 0); omega)
theorem off_k {t : PF} {k n : Nat} (h : t.ws.length = k + n) : t.off n = t.ws.drop k := by unfold PF.off; rw [show t.ws.length - n = k from by omega]
theorem on_k {t : PF} {k n : Nat} (h : t.ws.length = k + n) : t.on n = t.ww (t.ws.take k) := by unfold PF.on; rw [show t.ws.length - n = k from by omega]
section
variable {m : Image} {p : Part} {i : Instr} {o : MO} {pre : List PF} {t : PF} {k : Nat}
theorem doS_1 (h : i.op = 1) : doS m p i o pre t = pushS o pre t i.a := by
  unfold doS wrdS; rw [if_neg (by omega), if_neg (by omega), if_pos h]
theorem doS_4 (h : i.op = 4) : doS m p i o pre t = pushS o pre t (t.locs.getD i.a.toNat 0) := by
  unfold doS wrdS; rw [if_neg (by omega), if_neg (by omega), if_neg (by omega), if_pos h]
theorem wrdS_k {n : Nat} (h1 : ¬i.op = 1) (h4 : ¬i.op = 4) (hn : (if i.op = 8 then 2 else 1 : Nat) = n) (hk : t.ws.length = k + n) : wrdS i o pre t =
    if i.op = 3 then if t.ws.length = 40 then .stop 4 0 o else .go o (pre ++ [t.ww (t.ws ++ [(t.ws.drop k).getD 0 0])])
    else if i.op = 5 then .go o (pre ++ [{ t.on 1 with locs := t.locs.set i.a.toNat ((t.ws.drop k).getD 0 0) }])
    else if i.op = 14 then if o.told.length = 500 then .stop 6 0 o else .go { o with told := o.told ++ [(t.ws.drop k).getD 0 0] } (pre ++ [t.on 1])
    else if i.op = 8 then .go o (pre ++ [t.ww ((t.on 2).ws ++ [doI i.a ((t.ws.drop k).getD 0 0) ((t.off 2).getD 1 0)])])
    else .go o (pre ++ [t.on 1]) := by
  unfold wrdS
  rw [if_neg h1, if_neg h4]
  simp only [hn]
  rw [if_neg (by omega), off_k hk]
theorem doS_2 (h : i.op = 2) (hk : t.ws.length = k + 1) : doS m p i o pre t = .go o (pre ++ [t.ww (t.ws.take k)]) := by
  unfold doS
  rw [if_neg (by omega), if_neg (by omega), wrdS_k (n := 1) (by omega) (by omega) (by rw [h]; rfl) hk, if_neg (by omega), if_neg (by omega), if_neg (by omega), if_neg (by omega), on_k hk]
theorem doS_3 {x : Int} (h : i.op = 3) (hk : t.ws.length = k + 1) (hx : t.ws.drop k = [x]) : doS m p i o pre t = if t.ws.length = 40 then .stop 4 0 o else .go o (pre ++ [t.ww (t.ws ++ [x])]) := by
  unfold doS
  rw [if_neg (by omega), if_neg (by omega), wrdS_k (n := 1) (by omega) (by omega) (by rw [h]; rfl) hk, if_pos h, hx]; rfl
theorem doS_5 {x : Int} (h : i.op = 5) (hk : t.ws.length = k + 1) (hx : t.ws.drop k = [x]) : doS m p i o pre t = .go o (pre ++ [{ t.ww (t.ws.take k) with locs := t.locs.set i.a.toNat x }]) := by
  unfold doS
  rw [if_neg (by omega), if_neg (by omega), wrdS_k (n := 1) (by omega) (by omega) (by rw [h]; rfl) hk, if_neg (by omega), if_pos h, on_k hk, hx]; rfl
theorem doS_14 {x : Int} (h : i.op = 14) (hk : t.ws.length = k + 1) (hx : t.ws.drop k = [x]) : doS m p i o pre t = if o.told.length = 500 then .stop 6 0 o else .go { o with told := o.told ++ [x] } (pre ++ [t.ww (t.ws.take k)]) := by
  unfold doS
  rw [if_neg (by omega), if_neg (by omega), wrdS_k (n := 1) (by omega) (by omega) (by rw [h]; rfl) hk, if_neg (by omega), if_neg (by omega), if_pos h, on_k hk, hx]; rfl
theorem doS_8 {x y : Int} (h : i.op = 8) (hk : t.ws.length = k + 2) (hx : t.ws.drop k = [x, y]) : doS m p i o pre t = .go o (pre ++ [t.ww (t.ws.take k ++ [doI i.a x y])]) := by
  unfold doS
  rw [if_neg (by omega), if_neg (by omega), wrdS_k (n := 2) (by omega) (by omega) (by rw [h]; rfl) hk, if_neg (by omega), if_neg (by omega), if_neg (by omega), if_pos h, off_k hk, on_k hk, hx]; rfl
theorem doS_6 {x : Int} (h : i.op = 6) (hk : t.ws.length = k + 1) (hx : t.ws.drop k = [x]) : doS m p i o pre t = if isOwn p x then .go o (pre ++ [t.ww (t.ws.take k ++ [o.data.getD x.toNat 0])]) else .stop 4 0 o := by
  unfold doS memS
  rw [if_pos (by omega), if_pos h, if_neg (by omega), off_k hk, on_k hk, hx]; rfl
theorem doS_7 {x y : Int} (h : i.op = 7) (hk : t.ws.length = k + 2) (hx : t.ws.drop k = [x, y]) : doS m p i o pre t = if isOwn p x then .go { o with data := o.data.set x.toNat y } (pre ++ [t.ww (t.ws.take k)]) else .stop 4 0 o := by
  unfold doS memS
  rw [if_pos (by omega), if_neg (by omega), if_neg (by omega), off_k hk, on_k hk, hx]; rfl
theorem doS_9 (h : i.op = 9) : doS m p i o pre t = .go o (pre ++ [{ t with at_ := i.a }]) := by
  unfold doS ctlS; rw [if_neg (by omega), if_pos (by omega), if_pos h]
theorem doS_10 {x : Int} (h : i.op = 10) (hk : t.ws.length = k + 1) (hx : t.ws.drop k = [x]) : doS m p i o pre t = .go o (pre ++ [if x = 0 then { t.ww (t.ws.take k) with at_ := i.a } else t.ww (t.ws.take k)]) := by
  unfold doS ctlS
  rw [if_neg (by omega), if_pos (by omega), if_neg (by omega), if_pos h, if_neg (by omega), off_k hk, on_k hk, hx]; rfl
theorem doS_11 {q : Nat} (h : i.op = 11) (hb : i.b = (q : Int)) (hk : t.ws.length = k + q) : doS m p i o pre t = if pre.length + 1 = 20 then .stop 5 0 o else .go o (pre ++ [t.ww (t.ws.take k)] ++ [⟨t.part, i.a, p8 (t.ws.drop k), [], -1⟩]) := by
  unfold doS ctlS
  rw [if_neg (by omega), if_pos (by omega), if_neg (by omega), if_neg (by omega), if_pos h, hb, show ((q : Nat) : Int).toNat = q from rfl, if_neg (by omega), off_k hk, on_k hk]
  unfold enterS
  rw [List.length_append, List.length_singleton]
theorem doS_12 {q : Nat} (h : i.op = 12) (hc : i.c = (q : Int)) (hk : t.ws.length = k + q) : doS m p i o pre t = if gateBad m i then .stop 4 0 o else
    if o.calls.length < 100 then
      if pre.length + 1 = 20 then .stop 5 0 { o with calls := o.calls ++ [⟨t.part, i.a, i.b, t.ws.drop k, (pre.length + 1 : Nat), false, 0⟩] }
      else .go { o with calls := o.calls ++ [⟨t.part, i.a, i.b, t.ws.drop k, (pre.length + 1 : Nat), false, 0⟩] } (pre ++ [t.ww (t.ws.take k)] ++ [⟨i.a, ((m.getD i.a.toNat noPart).entries.getD i.b.toNat noEntry).at_, p8 (t.ws.drop k), [], o.calls.length⟩])
    else if pre.length + 1 = 20 then .stop 5 0 o
      else .go o (pre ++ [t.ww (t.ws.take k)] ++ [⟨i.a, ((m.getD i.a.toNat noPart).entries.getD i.b.toNat noEntry).at_, p8 (t.ws.drop k), [], -1⟩]) := by
  unfold doS ctlS gateS
  rw [if_neg (by omega), if_pos (by omega), if_neg (by omega), if_neg (by omega), if_neg (by omega), if_pos h, hc, show ((q : Nat) : Int).toNat = q from rfl, if_neg (by omega), off_k hk, on_k hk]
  unfold enterS
  rw [List.length_append, List.length_singleton]
theorem doS_13 {x : Int} (h : i.op = 13) (hk : t.ws.length = k + 1) (hx : t.ws.drop k = [x]) : doS m p i o pre t = match pre.getLast? with
    | none => .stop 1 x (noteS o t.noted x)
    | some f => pushS (noteS o t.noted x) pre.dropLast f x := by
  unfold doS ctlS retS
  rw [if_neg (by omega), if_pos (by omega), if_neg (by omega), if_neg (by omega), if_neg (by omega), if_neg (by omega), if_pos h, if_neg (by omega), off_k hk, hx]
  rfl
theorem doS_15 (h : i.op = 15) : doS m p i o pre t = .stop 2 0 o := by
  unfold doS ctlS
  rw [if_neg (by omega), if_pos (by omega), if_neg (by omega), if_neg (by omega), if_neg (by omega), if_neg (by omega), if_neg (by omega)]
end
/-- A room: a frame, its own name, its words' name. -/
structure Rm where
  f : PF
  b : Value
  v : Value
def Rm.g (x : Rm) : List GV := .int x.f.part :: .int x.f.at_ :: (x.f.locs.map .int ++ [.raw x.v, .int x.f.noted])
def Rm.z (tr ti : Nat) (x : Rm) : List (Value × Ob0) := [(x.b, .blk x.g tr), (x.v, .row (x.f.ws.map intG) ti 1)]
def zs (tr ti : Nat) (l : List Rm) : List (Value × Ob0) := (l.map (Rm.z tr ti)).flatten
theorem zs_snoc (tr ti : Nat) (l : List Rm) (x : Rm) : zs tr ti (l ++ [x]) = zs tr ti l ++ x.z tr ti := by simp [zs]
theorem zs_snoc2 (tr ti : Nat) (l : List Rm) (x y : Rm) : zs tr ti (l ++ [x] ++ [y]) = zs tr ti l ++ x.z tr ti ++ y.z tr ti := by simp [zs]
def Rm.r (x : Rm) : List GV := [.raw x.b]
/-- What the run's loop holds: fuel, what has come of it, the rooms. -/
structure RS where
  n : Nat
  o : MO
  gs : List Rm
def RInv (m : Image) (F : Int × Int × MO) (i : RS) : Prop := i.n ≤ 100000 ∧ SOk m i.o (i.gs.map Rm.f) ∧ i.gs ≠ [] ∧ iterS m i.n i.o (i.gs.map Rm.f) = F
theorem loc8 {l : List Int} (h : l.length = 8) : ∃ a b c d e f g i, l = [a, b, c, d, e, f, g, i] := by
  match l, h with
  | [a, b, c, d, e, f, g, i], _ => exact ⟨a, b, c, d, e, f, g, i, rfl⟩
theorem need_rng {i : Instr} (h : instrE i = 0) : 0 ≤ needS i ∧ needS i ≤ 8 := by
  obtain ⟨i1, i2, i3, i4, i5, i6, i7, i8, i9⟩ := instr_rng h
  unfold needS
  by_cases h11 : i.op = 11
  · rw [h11] at i6
    have : bdB 11 = 4 := rfl
    rw [if_neg (by omega), if_neg (by omega), if_pos h11]; omega
  · by_cases h12 : i.op = 12
    · rw [h12] at i8
      have : bdC 12 = 4 := rfl
      rw [if_neg (by omega), if_neg (by omega), if_neg h11, if_pos h12]; omega
    · rw [if_neg h11, if_neg h12]
      split
      · omega
      · split <;> omega
theorem loc_at (a b : GV) (l : List Int) (c : List GV) {j : Nat} (h : j < l.length) : ((a :: b :: (l.map GV.int ++ c)).map D.g)[0 + 2 + j * 1]? = some (.g (.int (l.getD j 0))) := by
  rw [show 0 + 2 + j * 1 = j + 1 + 1 from by omega, List.map_cons, List.map_cons, List.getElem?_cons_succ, List.getElem?_cons_succ, List.map_append, List.getElem?_append_left (by simpa using h)]
  simp [h]
end Barb
