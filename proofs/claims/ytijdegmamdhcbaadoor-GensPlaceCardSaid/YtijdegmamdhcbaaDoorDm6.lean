/-
  The second engine, sixth part: each operation's clause suffices for its run. It holds of every program whose table of types is met.
-/
import Derived.Test.YtijdegmamdhcbaaDoorDm5
namespace Go.Dm
open Go Go.Eng Go.RowKit

def Nx (C : Ctx) (h : Heap) (β : Nat → Value) (V : Nat → Prop) (w : World) (K : KD) (next : Value → World → Prop) : Prop :=
  ∀ d h' v w' β' V', K d h' → RelD C h' β' V' w' → RepD h' β' V' w' d v → LeH h β h' β' → Moved V w V' w' → next v w'
def Px (C : Ctx) (h : Heap) (β : Nat → Value) (V : Nat → Prop) (w : World) (Qp : KD) (qp : List PanicEntry → World → Prop) : Prop :=
  ∀ d h' t u w' β' V', Qp d h' → RelD C h' β' V' w' → RepD h' β' V' w' d (.iface t u) → LeH h β h' β' → Moved V w V' w' → qp [{ v := .iface t u, recovered := false }] w'

section
variable {P : Program} {T : Tab} {F : FuncId → Bool} {C : Ctx} {st : St} {a : Act} {w : World} {β : Nat → Value} {V : Nat → Prop} {K : KD} {Qp : KD} {next : Value → World → Prop} {qp : List PanicEntry → World → Prop}

theorem Nx.same (hN : Nx C st.h β V w K next) (hr : RelD C st.h β V w) {d : D} {v : Value} (hk : K d st.h) (hd : RepD st.h β V w d v) : next v w := hN d st.h v w β V hk hr hd (LeH.refl _ _) (Moved.refl _ _)

theorem fin_v {o : Oper} {x : Sem Value} {v : Value} {d : D} (hN : Nx C st.h β V w K next) (hr : RelD C st.h β V w) (hx : execOp a.eval o = (do pure (.value (← x)))) (hrun : x.run P w = .ok v w) (hk : K d st.h) (hd : RepD st.h β V w d v) :
    OpRun P next qp ((execOp a.eval o).run P w) := by
  rw [Go.Eng.run_v hx hrun]
  exact hN.same hr hk hd

theorem bcase.use {c : D} {A B : Prop} {v : Value} {h : Heap} (hc : bcase c A B) (hd : RepD h β V w c v) : ∃ b : Bool, v = .bool b ∧ (b = true → A) ∧ (b = false → B) := by
  unfold bcase at hc
  split at hc
  · simp only [RepD, RepV] at hd; exact ⟨true, hd, fun _ => hc, fun e => (by cases e)⟩
  · simp only [RepD, RepV] at hd; exact ⟨false, hd, fun e => (by cases e), fun _ => hc⟩
  · simp only [RepD] at hd
    obtain ⟨b, rfl, hb⟩ := hd
    exact ⟨b, rfl, fun e => hc.1 (hb.1 e), fun e => hc.2 (fun hp => by rw [hb.2 hp] at e; cases e)⟩
  · simp only [RepD] at hd
    obtain ⟨b, rfl, hb⟩ := hd
    refine ⟨b, rfl, fun e => hc.1 (hb.1 e), fun e => hc.2 (Classical.not_not.1 (fun hp => ?_))⟩
    rw [hb.2 hp] at e
    cases e
  · exact hc.elim

section
variable (hr : RelD C st.h β V w) (he : EnvOk st β V w a) (hN : Nx C st.h β V w K next)
include hr he hN

theorem s_move {x : Operand} {o : Oper} (ho : o.op = .move x ∨ o.op = .assign x) (h : K (sv C.G st x) st.h) : OpRun P next qp ((execOp a.eval o).run P w) := by
  have : (execOp a.eval o).run P w = .ok (.value (a.eval x)) w := by rcases ho with ho | ho <;> simp [execOp, ho]
  rw [this]
  exact hN.same hr h (he.eval hr.gl x)

theorem s_pick {c x y : Operand} {o : Oper} (ho : o.op = .pick c x y) (h : bcase (sv C.G st c) (K (sv C.G st x) st.h) (K (sv C.G st y) st.h)) : OpRun P next qp ((execOp a.eval o).run P w) := by
  obtain ⟨b, hv, ht, hf⟩ := bcase.use h (he.eval hr.gl c)
  cases b with
  | true =>
    have : (execOp a.eval o).run P w = .ok (.value (a.eval x)) w := by simp [execOp, ho, hv, asBool]
    rw [this]
    exact hN.same hr (ht rfl) (he.eval hr.gl x)
  | false =>
    have : (execOp a.eval o).run P w = .ok (.value (a.eval y)) w := by simp [execOp, ho, hv, asBool]
    rw [this]
    exact hN.same hr (hf rfl) (he.eval hr.gl y)

omit he in
theorem s_new {ds : List D} {vs : List Value} {t : TypeId} (hd : RepDL st.h β V w ds vs) (h : K (.ptr st.h.length 0) (st.h ++ [.blk ds t])) : next (.pointer (some ⟨w.heap.size, 0, none⟩)) (w.alloc (.cells ⟨vs⟩ t)) := by
  have hr' := hr.alloc_blk ds vs t hd
  refine hN _ _ _ _ _ _ h hr' ?_ (le_snoc _ _ _ _) (hr.moved (fr_alloc w _) (fun k hk => hk.elim))
  simp only [RepD]
  rw [List.getElem?_append_right (Nat.le_refl _)]
  simp only [Nat.sub_self, List.getElem?_cons_zero]
  exact ⟨w.heap.size, upf_eq _ _ _, rfl⟩

omit he in
theorem s_alloc (hT : TabOk P T) {t : TypeId} {o : Oper} (ho : o.op = .alloc t) (h : vcOp P T F C.G (.alloc t) st K Qp) : OpRun P next qp ((execOp a.eval o).run P w) := by
  simp only [vcOp] at h
  cases ht : T t with
  | none => rw [ht] at h; exact h.elim
  | some i =>
    rw [ht] at h
    obtain ⟨inf, z, hinf, _, _, hz, hzc⟩ := (hT t i ht).inf
    have hrun : (execOp a.eval o).run P w = .ok (.value (.pointer (some ⟨w.heap.size, 0, none⟩))) (w.alloc (.cells i.zero.toArray t)) := by
      simp [execOp, ho, Instr.alloc, zeroValue, typeInfo, hinf, hz, newVar, newRow, hzc]
    rw [hrun]
    exact s_new hr hN (ofL_rep _) h

theorem s_box {t : TypeId} {x : Operand} {o : Oper} (ho : o.op = .box t x) (h : vcOp P T F C.G (.box t x) st K Qp) : OpRun P next qp ((execOp a.eval o).run P w) := by
  simp only [vcOp] at h
  split at h
  · exact h.elim
  · rename_i ds hds
    have hrun : (execOp a.eval o).run P w = .ok (.value (.pointer (some ⟨w.heap.size, 0, none⟩))) (w.alloc (.cells (cellsL (a.eval x)).toArray t)) := by
      simp [execOp, ho, Instr.box, newVar, newRow, cellsL_eq]
    rw [hrun]
    exact s_new hr hN (cellsD_rep hr.obj hds (he.eval hr.gl x)).1 h

theorem s_build (hT : TabOk P T) {t : TypeId} {parts : Array (Nat × Operand)} {o : Oper} (ho : o.op = .build t parts) (h : vcOp P T F C.G (.build t parts) st K Qp) : OpRun P next qp ((execOp a.eval o).run P w) := by
  simp only [vcOp] at h
  split at h
  · rename_i agg size bytes z fs ht
    split at h
    · exact h.elim
    · rename_i ps hps
      split at h
      · rename_i cs hcs
        obtain ⟨hl, hp⟩ := partsD_rep hr.obj (fun x => he.eval hr.gl x) _ _ hps
        obtain ⟨vout, hfo, hrep⟩ := fillD_rep _ ps _ _ _ _ hcs (ofL_rep (h := st.h) (β := β) (V := V) (w := w) z) hl hp
        have hmap : (parts.toList.map fun (p : Nat × Operand) => (p.1, cellsL (a.eval p.2))) = ((parts.map fun (p : Nat × Operand) => (p.1, a.eval p.2)).toList.map fun p => (p.1, cellsL p.2)) := by
          simp [List.map_map, Function.comp_def]
        rw [hmap] at hfo
        have hrun := run_build_st hT ht rfl (parts.map fun (p : Nat × Operand) => (p.1, a.eval p.2)) vout hfo w
        have : (execOp a.eval o).run P w = .ok (.value (.agg vout.toArray)) w := by simp only [execOp, ho, Sem.run_bind, hrun, Result.andThen_ok, Sem.run_pure]
        rw [this]
        refine hN.same hr h ?_
        simp only [RepD]
        exact ⟨vout, rfl, hrep⟩
      · exact h.elim
  · exact h.elim

theorem s_buildSlice (hT : TabOk P T) {t : TypeId} {len : Nat} {parts : Array (Nat × Operand)} {o : Oper} (ho : o.op = .buildSlice t len parts) (h : vcOp P T F C.G (.buildSlice t len parts) st K Qp) : OpRun P next qp ((execOp a.eval o).run P w) := by
  simp only [vcOp] at h
  split at h
  · rename_i agg size bytes z e ht
    split at h
    · rename_i ei hte
      split at h
      · exact h.elim
      · rename_i ps hps
        split at h
        · rename_i cs hcs
          cases hb : Nat.ble (len * ei.size) 16777216 && Nat.blt 0 ei.size with
          | false => rw [hb] at h; exact h.elim
          | true =>
            rw [hb] at h
            simp only [Bool.and_eq_true] at hb
            have h1 : len * ei.size ≤ 16777216 := Nat.le_of_ble_eq_true hb.1
            have h2 : 0 < ei.size := Nat.le_of_ble_eq_true hb.2
            obtain ⟨xs, hxl, hal, hsees, hk⟩ := h
            obtain ⟨d, hd, hdk, _⟩ := (hT t _ ht).d
            have hdk : d = .slice e := hdk
            subst hdk
            obtain ⟨inf, zv, hinf, hsz, _, hz, hzc⟩ := (hT e ei hte).inf
            have hzl : ei.zero.length = ei.size := (hT e ei hte).zsize
            have hcs := fillS_fill (by simpa using hzl) hcs
            obtain ⟨hl, hp⟩ := partsD_rep hr.obj (fun x => he.eval hr.gl x) _ _ hps
            obtain ⟨vout, hfo, hrep⟩ := fillD_rep _ ps _ _ _ _ hcs (repD_rep _ _ (ofL_rep (h := st.h) (β := β) (V := V) (w := w) ei.zero) len) hl hp
            have hmap : (parts.toList.map fun (p : Nat × Operand) => (p.1, cellsL (a.eval p.2))) = ((parts.map fun (p : Nat × Operand) => (p.1, a.eval p.2)).toList.map fun p => (p.1, cellsL p.2)) := by
              simp [List.map_map, Function.comp_def]
            rw [hmap] at hfo
            have hfe := fill_eq (fun i => some (i * ei.size, ei.size)) _ (repL ei.zero len) vout hfo
            have hcl : vout.length = len * ei.size := by rw [fillO_length _ _ _ _ hfo, length_repL, hzl]
            have hm := made_repL ei.zero (by omega) len
            rw [hzl] at hm
            have hrun : (Instr.buildSlice t len (parts.map fun (p : Nat × Operand) => (p.1, a.eval p.2))).run P w = .ok (.slice (some ⟨w.heap.size, 0, none⟩) len len) (w.alloc (.cells vout.toArray e)) := by
              have n1 : ¬ (len * inf.size > 2 ^ 24) := by rw [hsz]; omega
              simp only [Instr.buildSlice, Sem.run_bind, run_underlying hd, Result.andThen_ok, sizeOf, typeInfo, run_program, hinf, Sem.run_pure, Sem.run_ite]
              rw [if_neg n1]
              by_cases h0 : len * inf.size = 0
              · rw [if_pos h0]
                have hl0 : len * ei.size = 0 := by rw [← hsz]; exact h0
                have hlen0 : len = 0 := by rcases Nat.mul_eq_zero.1 hl0 with h | h <;> omega
                subst hlen0
                simp only [Nat.zero_mul]
                have : (Array.map (fun i => (#[] : Array Value)[i % (#[] : Array Value).size]!) (Array.range 0)) = (repL ei.zero 0).toArray := by simp [repL]
                rw [this, hsz, hfe]
                simp [newRow]
              · rw [if_neg h0]
                simp only [Sem.run_bind, zeroValue, typeInfo, run_program, Result.andThen_ok, hinf, Sem.run_pure, hz, hzc]
                rw [hsz]
                have hm' : Array.map (fun i => ei.zero.toArray[i % ei.zero.toArray.size]!) (Array.range (len * ei.size)) = (repL ei.zero len).toArray := hm
                rw [hm', hfe]
                simp [newRow]
            have hrun2 : (execOp a.eval o).run P w = .ok (.value (.slice (some ⟨w.heap.size, 0, none⟩) len len)) (w.alloc (.cells vout.toArray e)) := by simp only [execOp, ho, Sem.run_bind, hrun, Result.andThen_ok, Sem.run_pure]
            rw [hrun2]
            have hv := seesL_rep hr (l := idsL cs) hsees hrep (fun j hj => hj)
            have hrk := kill_rel hr (idsL cs)
            have hxm := allLen_mem hal
            have hr' := hrk.alloc_row xs vout len vout.toArray e ei.size hxm h2 hv (by omega) (by simp only [maxLen]; have := Nat.le_mul_of_pos_right len h2; omega) (by simpa using hcl) (by rw [hxl, ← hcl]; simp)
            rw [hxl, kills_len] at hr'
            have hle : LeH st.h β (kills st.h (idsL cs) ++ [.row xs e ei.size]) (upf β st.h.length (.slice (some ⟨w.heap.size, 0, none⟩) len len)) := by
              have := le_snoc (kills st.h (idsL cs)) β (.row xs e ei.size) (.slice (some ⟨w.heap.size, 0, none⟩) len len)
              rw [kills_len] at this
              intro i o hi
              obtain ⟨o1, h1, h2, h3⟩ := kills_le (idsL cs) st.h β i o hi
              obtain ⟨o2, h4, h5, h6⟩ := this i o1 h1
              refine ⟨o2, h4, ?_, h6⟩
              have : o2 = o1 := by
                have hil : i < (kills st.h (idsL cs)).length := (List.getElem?_eq_some_iff.1 h1).1
                rw [List.getElem?_append_left hil, h1] at h4
                injection h4 with h4
                exact h4.symm
              rw [this]
              exact h2
            refine hN _ _ _ _ _ _ hk hr' ?_ hle ((kill_moved _ _ _ _ _).trans (hrk.moved (fr_alloc w _) (fun k hk => hk.elim)))
            simp only [RepD]
            rw [List.getElem?_append_right (by rw [kills_len]; exact Nat.le_refl _), kills_len]
            simp only [Nat.sub_self, List.getElem?_cons_zero]
            exact (upf_eq _ _ _).symm
        · exact h.elim
    · exact h.elim
  · exact h.elim

theorem s_makeSlice (hT : TabOk P T) {t : TypeId} {l c : Operand} {o : Oper} (ho : o.op = .makeSlice t l c) (h : vcOp P T F C.G (.makeSlice t l c) st K Qp) : OpRun P next qp ((execOp a.eval o).run P w) := by
  simp only [vcOp] at h
  split at h
  · rename_i agg size bytes z0 e hs
    split at h
    · rename_i ei hte
      cases hpos : Nat.blt 0 ei.size with
      | false => rw [hpos] at h; exact h.elim
      | true =>
        rw [hpos] at h
        have hpos : 0 < ei.size := Nat.le_of_ble_eq_true hpos
        obtain ⟨len, cap, z, hl, hc, hlc, hb, hm, hsees, hk⟩ := h
        obtain ⟨d, hd, hdk, _⟩ := (hT t _ hs).d
        have hdk : d = .slice e := hdk
        subst hdk
        obtain ⟨inf, zv, hinf, hsz, hby, hz, hzc⟩ := (hT e ei hte).inf
        have hzl : ei.zero.length = ei.size := (hT e ei hte).zsize
        have hmm := hm
        simp only [maxLen] at hmm
        have hbI : (inf.bytes : Int) * (cap : Int) ≤ 281474976710656 := by
          have : ((inf.bytes * cap : Nat) : Int) ≤ 281474976710656 := by rw [hby]; omega
          rwa [Int.natCast_mul] at this
        have hrun := run_make (P := P) w t e inf zv hd hinf hz .i64 .i64 (len : Int) (cap : Int) (by omega) (by omega) hbI (by omega)
        simp only [Int.toNat_natCast] at hrun
        have hcells : madeCells zv.cells (cap * inf.size) = (repL ei.zero cap).toArray := by
          rw [hsz, hzc]
          have := made_repL ei.zero (by omega) cap
          rw [hzl] at this
          exact this
        rw [hcells] at hrun
        have hel : a.eval l = .int .i64 (len : Int) := by have := he.eval hr.gl l; rw [hl] at this; simpa [RepD, RepV] using this
        have hec : a.eval c = .int .i64 (cap : Int) := by have := he.eval hr.gl c; rw [hc] at this; simpa [RepD, RepV] using this
        have hrun2 : (execOp a.eval o).run P w = .ok (.value (.slice (some ⟨w.heap.size, 0, none⟩) len cap)) (w.alloc (.cells (repL ei.zero cap).toArray e)) :=
          Go.Eng.run_v (x := Instr.makeSlice t (a.eval l) (a.eval c)) (by simp [execOp, ho]) (by rw [hel, hec]; exact hrun)
        rw [hrun2]
        have htake : ∀ (m k : Nat), k ≤ m → (repL ei.zero m).take (k * ei.size) = repL ei.zero k := by
          intro m
          induction m with
          | zero => intro k hk; have : k = 0 := by omega
                    subst this; simp [repL]
          | succ m ih =>
            intro k hk
            cases k with
            | zero => simp [repL]
            | succ k => simp only [repL]; rw [List.take_append, List.take_of_length_le (by rw [hzl, Nat.succ_mul]; omega), hzl, show (k + 1) * ei.size - ei.size = k * ei.size from by rw [Nat.succ_mul]; omega, ih k (by omega)]
        have hz0 : RepL V w z ei.zero := by
          have h0 : RelD ⟨w, fun _ => False, V, []⟩ [] (fun _ => undef) V w := ⟨fun i o h => by simp at h, fun i j o o' k h => by simp at h, fun i o k h => by simp at h, fun i o k h => by simp at h, hr.vlt, fun k hk => hk, fun k hk => .inl hk, Fr.refl _ _, fun p hp => by simp at hp⟩
          have := seesL_rep h0 (l := idsL (ei.zero.map of1)) hsees (ofL_rep ei.zero) (fun j hj => hj)
          exact RepL.move (fun k hk => ⟨by rcases hk with hk | ⟨i, o, _, h2, _⟩; exact hk; simp at h2, rfl⟩) _ _ this
        have hzlen : z.length = ei.size := by rw [hz0.len, hzl]
        have hrep : ∀ n, RepL V w (List.replicate n z).flatten (repL ei.zero n) := by
          intro n
          induction n with
          | zero => simp [repL, RepL]
          | succ n ih => rw [List.replicate_succ, List.flatten_cons, repL]; exact hz0.append ih
        have hr' := hr.alloc_row (List.replicate len z) (repL ei.zero len) cap (repL ei.zero cap).toArray e ei.size (fun r hr => by rw [List.eq_of_mem_replicate hr]; exact hzlen) hpos (hrep len) (by simpa using hlc) hm (by simp [length_repL, hzl]) (by simpa using htake cap len hlc)
        rw [List.length_replicate] at hr'
        refine hN _ _ _ _ _ _ hk hr' ?_ (le_snoc _ _ _ _) (hr.moved (fr_alloc w _) (fun k hk => hk.elim))
        simp only [RepD]
        rw [List.getElem?_append_right (Nat.le_refl _)]
        simp only [Nat.sub_self, List.getElem?_cons_zero]
        exact (upf_eq _ _ _).symm
    · exact h.elim
  · exact h.elim
end

/-- One load of a row of data. -/
theorem ldG_run {t : TypeId} {i : TI} (hi : InfoOk P t i) {h : Heap} {r : List GV} {off : Nat} {k : D → Prop} (hl : ldG i r off k) {ad : Addr} {vs : List Value} (hv : RepL V w r vs) (hc : ∀ j v, vs[j]? = some v → w.cell? (ad.add j) = some v) :
    ∃ d v, k d ∧ RepD h β V w d v ∧ (loadVar t (ad.add off)).run P w = .ok v w := by
  unfold ldG at hl
  cases hagg : i.agg with
  | false =>
    rw [hagg] at hl
    simp only at hl
    split at hl
    · rename_i x hx
      obtain ⟨v, hv1, hv2⟩ := hv.get hx
      exact ⟨_, v, hl, by simp only [RepD]; exact hv2, run_loadVar_one hi hagg (hc off v hv1)⟩
    · exact hl.elim
  | true =>
    rw [hagg] at hl
    simp only at hl
    cases hb : Nat.ble (off + i.size) r.length with
    | false => rw [hb] at hl; exact hl.elim
    | true =>
      rw [hb] at hl
      have hle := Nat.le_of_ble_eq_true hb
      refine ⟨_, .agg ⟨List.take i.size (vs.drop off)⟩, hl, ?_, run_loadVar_agg hi hagg (vs := List.take i.size (vs.drop off)) (by rw [List.length_take, List.length_drop, ← hv.len]; omega) (fun j v hj => ?_)⟩
      · simp only [RepD]
        exact ⟨_, rfl, (RepDL_g _ _).2 ((hv.drop off).take i.size)⟩
      · rw [add_add]
        have hjl : j < i.size := by have := (List.getElem?_eq_some_iff.1 hj).1; simp at this; omega
        rw [List.getElem?_take_of_lt hjl, List.getElem?_drop] at hj
        exact hc _ v hj

/-- The cells of an element of a row of one's own. -/
theorem el_cells {C : Ctx} {h : Heap} (hr : RelD C h β V w) {j k : Nat} {xs : List (List GV)} {e sz : Nat} (hj : h[j]? = some (.row xs e sz)) {r : List GV} (hk : xs[k]? = some r) {g n c : Nat} (hb : β j = .slice (some ⟨g, 0, none⟩) n c) :
    ∃ vs, RepL V w r vs ∧ r.length = sz ∧ ∀ i v, vs[i]? = some v → w.cell? ((⟨g, k * sz, none⟩ : Addr).add i) = some v := by
  obtain ⟨vs, hown, hv, hx, h0⟩ := hr.obj j _ hj
  have hrl : r.length = sz := hx r (List.mem_of_getElem? hk)
  have hcells := hown.cells (g := g) (by rw [hb]; rfl)
  refine ⟨(vs.drop (k * sz)).take sz, ?_, hrl, fun i v hi => ?_⟩
  · have hd : ((xs.flatten).drop (k * sz)).take sz = r := by
      have key : ∀ (xs : List (List GV)) (k : Nat), (∀ r ∈ xs, r.length = sz) → xs[k]? = some r → ((xs.flatten).drop (k * sz)).take sz = r := by
        intro xs
        induction xs with
        | nil => intro k _ hk; simp at hk
        | cons x xs ih =>
          intro k hx hk
          have hxl := hx x List.mem_cons_self
          cases k with
          | zero =>
            simp at hk
            subst hk
            rw [List.flatten_cons, Nat.zero_mul, List.drop_zero, List.take_append_of_le_length (by omega), List.take_of_length_le (by omega)]
          | succ k =>
            rw [List.flatten_cons, List.drop_append, List.drop_of_length_le (by rw [hxl, Nat.succ_mul]; omega), hxl, Nat.succ_mul, Nat.add_sub_cancel, List.nil_append]
            exact ih k (fun r hr => hx r (List.mem_cons_of_mem _ hr)) (by simpa using hk)
      exact key xs k hx hk
    have := (hv.drop (k * sz)).take sz
    rwa [hd] at this
  · have hil : i < sz := by have := (List.getElem?_eq_some_iff.1 hi).1; simp at this; omega
    rw [List.getElem?_take_of_lt hil, List.getElem?_drop] at hi
    have := hcells (k * sz + i) v hi
    rw [add_mk] at this ⊢
    rwa [Nat.zero_add] at this
end
end Go.Dm
