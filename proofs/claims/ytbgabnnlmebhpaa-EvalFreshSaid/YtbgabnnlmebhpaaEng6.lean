/-
  The engine, sixth part: the other operations' clauses suffice for their runs. It holds of every program whose table of types is met.
-/
import Derived.Test.YtbgabnnlmebhpaaEng5
import Derived.Lib.Strings
import Derived.Laws.Concat
import Derived.Laws.Small
namespace Go.Eng
open Go.RowKit

section
variable {P : Program} {T : Tab} {F : FuncId → Bool} {C : Ctx} {n : Nat} {st : St} {A : Anch} {a : Act} {w : World} {K : Cont} {Qp : PCont} {next : Value → World → Prop} {qp : List PanicEntry → World → Prop}

theorem run_v {o : Oper} {ρ : Operand → Value} {x : Sem Value} {v : Value} {w' : World} (he : execOp ρ o = (do pure (.value (← x)))) (h : x.run P w = .ok v w') : (execOp ρ o).run P w = .ok (.value v) w' := by
  rw [he, Sem.run_bind, h]
  rfl

theorem s_load (hT : TabOk P T) {t : TypeId} {x : Operand} {o : Oper} (ho : o.op = .load t x) (h : vcOp P T F C (.load t x) st A K Qp) (hr : Rel C n st A a w) (hN : Nx C st.hp K next) : OpRun P next qp ((execOp a.eval o).run P w) := by
  simp only [vcOp, vcLoad] at h
  have hev := hr.eval x
  have hok := hr.ok x
  cases ht : T t with
  | none => rw [ht] at h; exact h.elim
  | some i =>
    rw [ht] at h
    simp only at h
    have hi := hT t i ht
    have fin : ∀ (b : Addr) (v : Value), a.eval x = .pointer (some b) → (loadVar t b).run P w = .ok v w → K (SV.of v) st.hp st.rows A → OpRun P next qp ((execOp a.eval o).run P w) := by
      intro b v hb hl hk
      have : (execOp a.eval o).run P w = .ok (.value v) w := run_v (x := Instr.loadAt t (a.eval x)) (by simp [execOp, ho]) (by simp [hb, Instr.loadAt, Instr.sureAddr, hl])
      rw [this]
      have := hN.same hr hk (SVok.of_ _ _)
      rwa [SV.val_of] at this
    cases hs : sv st x with
    | sb c => rw [hs] at h; exact h.elim
    | v q =>
      rw [hs] at h hev
      simp only at h
      have hev : a.eval x = q := hev
      have ptr : ∀ {k : Nat} {vs : List Value}, LdAny st.hp st.rows A k q vs → ∃ b, q = .pointer (some b) := by
        intro k vs hl
        rcases hl with hl | hl | hl
        · obtain ⟨b, hb, _⟩ := hl.ex; exact ⟨b, hb⟩
        · obtain ⟨_, _, g, o, _, _, hb, _⟩ := hl.ex; exact ⟨_, hb⟩
        · obtain ⟨_, _, o, _, hb, _⟩ := hl.ex; exact ⟨_, hb⟩
      cases hagg : i.agg with
      | false =>
        rw [hagg] at h
        simp only at h
        obtain ⟨v, hl, hk⟩ := h
        obtain ⟨b, rfl⟩ := ptr hl
        obtain ⟨_, hc⟩ := hl.cells hr.rw
        have hc0 := hc 0 v rfl
        have : b.add 0 = b := rfl
        rw [this] at hc0
        exact fin b v hev (run_loadVar_one hi hagg hc0) hk
      | true =>
        rw [hagg] at h
        simp only at h
        obtain ⟨vs, hl, hk⟩ := h
        obtain ⟨b, rfl⟩ := ptr hl
        obtain ⟨hlen, hc⟩ := hl.cells hr.rw
        exact fin b _ hev (run_loadVar_agg hi hagg hlen hc) hk
    | loc j off =>
      rw [hs] at h hev
      simp only at h
      cases hx : st.hp[j]? with
      | none => rw [hx] at h; exact h.elim
      | some lb =>
        rw [hx] at h
        simp only at h
        have hb : bnum st.hp j = lb.b := by simp [bnum, hx]
        have hev : a.eval x = .pointer (some ⟨lb.b, off, none⟩) := by rw [hev]; simp [SV.val, hb]
        have hblk := hr.rw.blk j lb hx
        cases hagg : i.agg with
        | false =>
          rw [hagg] at h
          simp only at h
          cases hv : lb.cs[off]? with
          | none => rw [hv] at h; exact h.elim
          | some v =>
            rw [hv] at h
            refine fin _ v hev (run_loadVar_one hi hagg ?_) h
            rw [cell_of_row w _ _ _ _ _ hblk]
            simpa using hv
        | true =>
          rw [hagg] at h
          simp only at h
          cases hble : Nat.ble (off + i.size) lb.cs.length with
          | false => rw [hble] at h; exact h.elim
          | true =>
            rw [hble] at h
            have hle := Nat.le_of_ble_eq_true hble
            refine fin _ _ hev (run_loadVar_agg hi hagg (vs := List.take i.size (lb.cs.drop off)) (by simp; omega) ?_) h
            intro k v hk
            rw [add_mk, cell_of_row w _ _ _ _ _ hblk]
            have hkl : k < i.size := by have := (List.getElem?_eq_some_iff.1 hk).1; simp at this; omega
            rw [List.getElem?_take_of_lt hkl, List.getElem?_drop] at hk
            simpa using hk

theorem s_store (hT : TabOk P T) {t : TypeId} {x y : Operand} {o : Oper} (ho : o.op = .store t x y) (h : vcOp P T F C (.store t x y) st A K Qp) (hr : Rel C n st A a w) (hN : Nx C st.hp K next) : OpRun P next qp ((execOp a.eval o).run P w) := by
  simp only [vcOp, vcStore] at h
  have hev := hr.eval x
  have hey := hr.eval y
  cases ht : T t with
  | none => rw [ht] at h; exact h.elim
  | some i =>
    rw [ht] at h
    simp only at h
    have hi := hT t i ht
    generalize hvs : (sv st y).val st.hp = vy at h hey
    cases hg : Nat.beq (cellsL vy).length i.size && flat (cellsL vy) with
    | false => rw [hg] at h; exact h.elim
    | true =>
      rw [hg] at h
      simp only [cond_true] at h
      simp only [Bool.and_eq_true] at hg
      have hlen : (cellsL vy).length = i.size := Nat.eq_of_beq_eq_true hg.1
      have hflat := hg.2
      have fin : ∀ (g off : Nat) (cur : Array Value) (t' : TypeId) (hp' : List LB) (rows' : List Row) (A' : Anch), a.eval x = .pointer (some ⟨g, off, none⟩) → w.heap[g]? = some (.cells cur t' (0, 0)) → off + (cellsL vy).length ≤ cur.size →
          RelW C hp' rows' A' (w.setRow g (cur.toList.take off ++ cellsL vy ++ cur.toList.drop (off + (cellsL vy).length)).toArray) → Ext st.hp hp' → K (.v undef) hp' rows' A' → OpRun P next qp ((execOp a.eval o).run P w) := by
        intro g off cur t' hp' rows' A' hb hcur hfit hrel hext hk
        have hrun := run_storeVar_at (P := P) hi hlen hflat hcur hfit
        have : (execOp a.eval o).run P w = .ok .skip (w.setRow g (cur.toList.take off ++ cellsL vy ++ cur.toList.drop (off + (cellsL vy).length)).toArray) := by
          simp only [execOp, ho, Instr.storeAt, hb, Instr.sureAddr, hey, Sem.run_bind, Sem.run_pure, Result.andThen_ok, hrun]
        rw [this]
        exact hN (.v undef) hp' rows' A' _ hk hrel hext trivial
      cases hs : sv st x with
      | sb c => rw [hs] at h; exact h.elim
      | loc j off =>
        rw [hs] at h hev
        simp only at h
        cases hx : st.hp[j]? with
        | none => rw [hx] at h; exact h.elim
        | some lb =>
          rw [hx] at h
          simp only at h
          cases hble : Nat.ble (off + i.size) lb.cs.length with
          | false => rw [hble] at h; exact h.elim
          | true =>
            rw [hble] at h
            have hle := Nat.le_of_ble_eq_true hble
            have hb : bnum st.hp j = lb.b := by simp [bnum, hx]
            have hset := hr.rw.set_hp hx (setAt lb.cs off (cellsL vy))
            rw [setAt_eq _ _ _ (by omega)] at hset
            refine fin lb.b off lb.cs.toArray lb.t _ _ A (by rw [hev]; simp [SV.val, hb]) (hr.rw.blk j lb hx) (by simp; omega) ?_ (Ext.of_map (map_b_set (y := { lb with cs := setAt lb.cs off (cellsL vy) }) hx rfl)) h
            rw [setAt_eq _ _ _ (by omega)]
            simpa using hset
      | v q =>
        rw [hs] at h hev
        simp only at h
        have hev : a.eval x = q := hev
        rcases h with h | h | h
        · obtain ⟨g, off, cur, t', rfl, hcur, hfit, hv, hm, hk⟩ := h
          exact fin g off cur t' _ _ _ hev ((hr.rw.agree g hv).trans hcur) hfit (hr.rw.set_plain hcur hv hm _) (Ext.refl _) hk
        · obtain ⟨j, r, g, off, hj, hg, rfl, hfit, hk⟩ := h
          obtain ⟨h1, h2⟩ := hr.rw.row j r hj
          rcases h2 with ⟨hv, _⟩ | ⟨g', cap, cur, hv, _, hh, hnc, hcm, hsz, htk⟩
          · rw [hv] at hg; simp [Value.ownBlock] at hg
          · have e : g' = g := by rw [hv] at hg; simpa [Value.ownBlock] using hg
            subst e
            have hxl : r.xs.length ≤ cur.toList.length := by rw [h1]; rw [Array.length_toList, hsz]; exact Nat.mul_le_mul_right _ hnc
            refine fin g' off cur r.e st.hp _ A hev hh (by rw [Array.length_toList] at hxl; omega) (hr.rw.set_row hj hg _ (setAt r.xs off (cellsL vy)) ?_ (length_setAt _ _ _) ?_) (Ext.refl _) hk
            · intro cur2 hh2
              rw [hh] at hh2
              injection hh2 with hh2
              injection hh2 with hh2
              subst hh2
              simp
              rw [Array.length_toList] at hxl
              omega
            · rw [length_setAt]
              have := take_setAt (cellsL vy) cur.toList r.xs.length off hxl hfit
              rw [show cur.toList.take r.xs.length = r.xs from by rw [h1]; exact htk] at this
              simpa using this
        · obtain ⟨j, lb, off, hj, rfl, hfit, hk⟩ := h
          have hset := hr.rw.set_hp hj (setAt lb.cs off (cellsL vy))
          rw [setAt_eq _ _ _ hfit] at hset
          refine fin lb.b off lb.cs.toArray lb.t _ _ A hev (hr.rw.blk j lb hj) (by simpa using hfit) ?_ (Ext.of_map (map_b_set (y := { lb with cs := setAt lb.cs off (cellsL vy) }) hj rfl)) hk
          rw [setAt_eq _ _ _ hfit]
          simpa using hset

theorem str_eq (s t : ByteArray) : (s.toList == t.toList) = decide (s.data.toList = t.data.toList) := by
  rw [ByteArray.toList_eq, ByteArray.toList_eq]
  by_cases hd : s.data.toList = t.data.toList
  · simp [hd]
  · have hd' : ¬ s.data = t.data := fun e => hd (by rw [e])
    simp [hd']
theorem str_add (s t : ByteArray) : s ++ t = ⟨⟨s.data.toList ++ t.data.toList⟩⟩ := by
  have h : (s ++ t).data = (⟨s.data.toList ++ t.data.toList⟩ : Array UInt8) := by
    apply Array.ext'
    simp
  cases hs : s ++ t with
  | mk d => rw [hs] at h; simp only at h; rw [h]

theorem bin_run {op : BinOp} {x y : SV} {k : SV → Prop} (h : vcBin op x y k) (hp : List LB) (t : TypeId) (ox oy : Operand) :
    ∃ s, k s ∧ SVok hp s ∧ ∀ w : World, (do eqGuard op t ox oy (x.val hp) (y.val hp); binOp op t (x.val hp) (y.val hp)).run P w = .ok (s.val hp) w := by
  unfold vcBin at h
  split at h <;> first | exact h.elim | skip
  all_goals first
    | (obtain ⟨c, hc, hk⟩ := h; refine ⟨_, hk, trivial, fun w => ?_⟩; simp [eqGuard, SV.val, binOp, Op.intArith, isI64] at hc ⊢; exact hc)
    | (obtain ⟨c, hc, hk⟩ := h; refine ⟨_, hk, trivial, fun w => ?_⟩; simp only [eqGuard, SV.val, binOp, Sem.run_bind]; simp [hc])
    | (obtain ⟨h0, c, hc, hk⟩ := h; refine ⟨_, hk, trivial, fun w => ?_⟩; simp [eqGuard, SV.val, binOp, Op.intDiv, isI64, h0] at hc ⊢; exact hc)
    | (obtain ⟨h0, c, hc, hk⟩ := h; refine ⟨_, hk, trivial, fun w => ?_⟩; simp [eqGuard, SV.val, binOp, Op.shift, isI64, IntKind.bits] at hc ⊢; rw [if_neg (by omega)]; simp [hc])
    | (obtain ⟨h0, hk⟩ := h; refine ⟨_, hk, trivial, fun w => ?_⟩; simp [eqGuard, SV.val, binOp, Op.intDiv, h0]; done)
    | (obtain ⟨h0, hk⟩ := h; refine ⟨_, hk, trivial, fun w => ?_⟩; have h1 := Int.not_lt.2 h0; simp [eqGuard, SV.val, binOp, Op.shift, IntKind.bits, h1]; done)
    | (obtain ⟨h0, hk⟩ := h; refine ⟨_, hk, trivial, fun w => ?_⟩; have h1 := Nat.not_lt.2 h0; simp [eqGuard, SV.val, binOp, run_string_add_if, h1, str_add]; done)
    | (refine ⟨_, h, trivial, fun w => ?_⟩; simp [eqGuard, SV.val, binOp, Op.intArith]; done)
    | (refine ⟨_, h, trivial, fun w => ?_⟩; simp [eqGuard, SV.val, binOp, Op.intCmp]; done)
    | (refine ⟨_, h, trivial, fun w => ?_⟩; simp [eqGuard, SV.val, binOp, Op.intCmp]; rfl)
    | (refine ⟨_, h, trivial, fun w => ?_⟩; simp [eqGuard, SV.val, binOp, Op.stringOp, str_eq]; done)
    | skip

theorem boolEq_run (hT : TabOk P T) {op : BinOp} {x y : SV} {k : SV → Prop} (h : vcBoolEq op x y k) (hp : List LB) {t : TypeId} {i : TI} (ht : T t = some i) (hk : i.kind = .bool) (ox oy : Operand) :
    ∃ s, k s ∧ SVok hp s ∧ ∀ w : World, (do eqGuard op t ox oy (x.val hp) (y.val hp); binOp op t (x.val hp) (y.val hp)).run P w = .ok (s.val hp) w := by
  obtain ⟨d, hd, hdk, _⟩ := (hT t i ht).d
  rw [hk] at hdk
  have hdk : d = .bool := hdk
  subst hdk
  unfold vcBoolEq at h
  split at h <;> first | exact h.elim | skip
  all_goals (refine ⟨_, h, trivial, fun w => ?_⟩; simp [eqGuard, SV.val, run_eql_bool w t _ _ hd, run_neq_bool w t _ _ hd])

theorem s_bin (hT : TabOk P T) {op : BinOp} {t t' : TypeId} {x y : Operand} {o : Oper} (ho : o.op = .binOp op t x y t') (h : vcOp P T F C (.binOp op t x y t') st A K Qp) (hr : Rel C n st A a w) (hN : Nx C st.hp K next) : OpRun P next qp ((execOp a.eval o).run P w) := by
  have fin : (∃ s, K s st.hp st.rows A ∧ SVok st.hp s ∧ ∀ w : World, (do eqGuard op t x y ((sv st x).val st.hp) ((sv st y).val st.hp); binOp op t ((sv st x).val st.hp) ((sv st y).val st.hp)).run P w = .ok (s.val st.hp) w) → OpRun P next qp ((execOp a.eval o).run P w) := by
    rintro ⟨s, hk, hs, hrun⟩
    have : (execOp a.eval o).run P w = .ok (.value (s.val st.hp)) w := run_v (x := do eqGuard op t x y (a.eval x) (a.eval y); binOp op t (a.eval x) (a.eval y)) (by simp [execOp, ho]) (by rw [hr.eval, hr.eval]; exact hrun w)
    rw [this]
    exact hN.same hr hk hs
  simp only [vcOp] at h
  split at h
  · rename_i ht
    exact fin (boolEq_run hT h st.hp ht rfl x y)
  · exact fin (bin_run h st.hp t x y)

theorem s_un {op : UnOp} {t : TypeId} {x : Operand} {o : Oper} (ho : o.op = .unOp op t x) (h : vcOp P T F C (.unOp op t x) st A K Qp) (hr : Rel C n st A a w) (hN : Nx C st.hp K next) : OpRun P next qp ((execOp a.eval o).run P w) := by
  have fin : ∀ s : SV, K s st.hp st.rows A → SVok st.hp s → (Op.unary op ((sv st x).val st.hp)).run P w = .ok (s.val st.hp) w → OpRun P next qp ((execOp a.eval o).run P w) := by
    intro s hk hs hrun
    have : (execOp a.eval o).run P w = .ok (.value (s.val st.hp)) w := run_v (x := Op.unary op (a.eval x)) (by simp [execOp, ho]) (by rw [hr.eval]; exact hrun)
    rw [this]
    exact hN.same hr hk hs
  simp only [vcOp] at h
  unfold vcUn at h
  split at h
  · rename_i hx; exact fin _ h trivial (by rw [hx]; rfl)
  · rename_i hx; exact fin _ h trivial (by rw [hx]; rfl)
  · rename_i hx; exact fin _ h trivial (by rw [hx]; rfl)
  · rename_i hx
    obtain ⟨c, hc, hk⟩ := h
    refine fin _ hk trivial (by rw [hx]; simp [SV.val, Op.unary, Op.intArith, isI64] at hc ⊢; exact hc)
  · exact h.elim
end
end Go.Eng
