/-
  The engine, fifth part: each operation's clause suffices for its run. It holds of every program whose table of types is met.
-/
import Derived.Test.YtbgabnnlmebhpaaEng4
namespace Go.Eng
open Go.RowKit

structure Rel (C : Ctx) (n : Nat) (st : St) (A : Anch) (a : Act) (w : World) : Prop where
  size : a.tmps.size = n
  tm : ∀ i, a.tmps.getD i undef = (st.env i).val st.hp
  wf : ∀ i, SVok st.hp (st.env i)
  df : a.defers = st.df
  rw : RelW C st.hp st.rows A w

def OpRun (P : Program) (next : Value → World → Prop) (qp : List PanicEntry → World → Prop) : Result Next → Prop
  | .ok (.value v) w' => next v w'
  | .ok .skip w' => next undef w'
  | .ok (.enter f args) w' => Calls P f args w' fun
      | .returned v, w'' => next v w''
      | .panicked ch, w'' => qp ch w''
      | .outgrown, _ => False
  | .halt (.panic v) w' => qp [{ v, recovered := false }] w'
  | _ => False

theorem OpRun.wp {P : Program} {o : Oper} {a : Act} {w : World} {next : Act → World → Prop} {Q : Exit → Act → World → Prop}
    (h : OpRun P (fun v w' => next (a.put o.dst v) w') (fun ch w' => Q (.panic ch) a w') ((execOp a.eval o).run P w)) : o.wp P a w next Q := by
  unfold Oper.wp
  revert h
  cases (execOp a.eval o).run P w with
  | ok x w' =>
    cases x <;> intro h <;> try exact h.elim
    · exact h
    · exact h
    · refine h.mono fun e w'' he => ?_
      cases e with
      | returned v => exact he
      | panicked ch => exact he
      | outgrown => exact he.elim
  | halt x w' =>
    cases x <;> intro h <;> first | exact h.elim | exact h

section
variable {P : Program} {T : Tab} {F : FuncId → Bool} {C : Ctx} {n : Nat} {st : St} {A : Anch} {a : Act} {w : World} {K : Cont} {Qp : PCont} {next : Value → World → Prop} {qp : List PanicEntry → World → Prop}

theorem Rel.eval (hr : Rel C n st A a w) (x : Operand) : a.eval x = (sv st x).val st.hp := by
  cases x with
  | tmp t => exact hr.tm t
  | const v => exact (SV.val_of st.hp v).symm
  | global g => rfl
  | func f => rfl
theorem Rel.ok (hr : Rel C n st A a w) (x : Operand) : SVok st.hp (sv st x) := by
  cases x with
  | tmp t => exact hr.wf t
  | const v => exact SVok.of_ st.hp v
  | global g => trivial
  | func f => trivial

def Nx (C : Ctx) (hp0 : List LB) (K : Cont) (next : Value → World → Prop) : Prop := ∀ s hp rows A w, K s hp rows A → RelW C hp rows A w → Ext hp0 hp → SVok hp s → next (s.val hp) w
def Px (C : Ctx) (hp0 : List LB) (Qp : PCont) (qp : List PanicEntry → World → Prop) : Prop := ∀ ch hp rows A w, Qp ch hp rows A → RelW C hp rows A w → Ext hp0 hp → qp ch w

theorem Nx.same (hN : Nx C st.hp K next) (hr : Rel C n st A a w) {s : SV} (h : K s st.hp st.rows A) (hs : SVok st.hp s) : next (s.val st.hp) w := hN _ _ _ _ _ h hr.rw (Ext.refl _) hs

theorem bcase.use {c : SV} {A B : Prop} (h : bcase c A B) : ∃ b : Bool, (∀ hp, c.val hp = .bool b) ∧ (b = true → A) ∧ (b = false → B) := by
  unfold bcase at h
  split at h
  · exact ⟨true, fun _ => rfl, fun _ => h, fun h' => (by cases h')⟩
  · exact ⟨false, fun _ => rfl, fun h' => (by cases h'), fun _ => h⟩
  · exact ⟨_, fun _ => rfl, h.1, h.2⟩
  · exact h.elim

theorem s_move {x : Operand} {o : Oper} (ho : o.op = .move x ∨ o.op = .assign x) (h : K (sv st x) st.hp st.rows A) (hr : Rel C n st A a w) (hN : Nx C st.hp K next) : OpRun P next qp ((execOp a.eval o).run P w) := by
  have : (execOp a.eval o).run P w = .ok (.value (a.eval x)) w := by rcases ho with ho | ho <;> simp [execOp, ho]
  rw [this, hr.eval]
  exact hN.same hr h (hr.ok x)

theorem s_pick {c x y : Operand} {o : Oper} (ho : o.op = .pick c x y) (h : bcase (sv st c) (K (sv st x) st.hp st.rows A) (K (sv st y) st.hp st.rows A)) (hr : Rel C n st A a w) (hN : Nx C st.hp K next) : OpRun P next qp ((execOp a.eval o).run P w) := by
  obtain ⟨b, hv, ht, hf⟩ := bcase.use h
  have hc : a.eval c = .bool b := by rw [hr.eval]; exact hv _
  cases b with
  | true =>
    have : (execOp a.eval o).run P w = .ok (.value (a.eval x)) w := by simp [execOp, ho, hc, asBool]
    rw [this, hr.eval]
    exact hN.same hr (ht rfl) (hr.ok x)
  | false =>
    have : (execOp a.eval o).run P w = .ok (.value (a.eval y)) w := by simp [execOp, ho, hc, asBool]
    rw [this, hr.eval]
    exact hN.same hr (hf rfl) (hr.ok y)

theorem s_new {cs : List Value} {t : TypeId} (h : ∀ b, A.w.heap.size ≤ b → K (.loc st.hp.length 0) (st.hp ++ [⟨b, cs, t⟩]) st.rows A) (hr : Rel C n st A a w) (hN : Nx C st.hp K next) :
    next (.pointer (some ⟨w.heap.size, 0, none⟩)) (w.alloc (.cells cs.toArray t)) := by
  have := hN _ _ _ _ _ (h w.heap.size hr.rw.asz) (hr.rw.alloc_hp cs t) (Ext.snoc _ _) (by simp [SVok])
  simpa [SV.val, bnum_snoc] using this

theorem s_alloc (hT : TabOk P T) {t : TypeId} {o : Oper} (ho : o.op = .alloc t) (h : vcOp P T F C (.alloc t) st A K Qp) (hr : Rel C n st A a w) (hN : Nx C st.hp K next) : OpRun P next qp ((execOp a.eval o).run P w) := by
  simp only [vcOp] at h
  cases ht : T t with
  | none => rw [ht] at h; exact h.elim
  | some i =>
    rw [ht] at h
    obtain ⟨inf, z, hinf, _, _, hz, hzc⟩ := (hT t i ht).inf
    have hrun : (execOp a.eval o).run P w = .ok (.value (.pointer (some ⟨w.heap.size, 0, none⟩))) (w.alloc (.cells i.zero.toArray t)) := by
      simp [execOp, ho, Instr.alloc, zeroValue, typeInfo, hinf, hz, newVar, newRow, hzc]
    rw [hrun]
    exact s_new h hr hN

theorem s_box {t : TypeId} {x : Operand} {o : Oper} (ho : o.op = .box t x) (h : vcOp P T F C (.box t x) st A K Qp) (hr : Rel C n st A a w) (hN : Nx C st.hp K next) : OpRun P next qp ((execOp a.eval o).run P w) := by
  have hrun : (execOp a.eval o).run P w = .ok (.value (.pointer (some ⟨w.heap.size, 0, none⟩))) (w.alloc (.cells (cellsL ((sv st x).val st.hp)).toArray t)) := by
    simp [execOp, ho, Instr.box, newVar, newRow, hr.eval, cellsL_eq]
  rw [hrun]
  exact s_new h hr hN

theorem parts_eval (hr : Rel C n st A a w) (parts : Array (Nat × Operand)) :
    ((parts.map fun (p : Nat × Operand) => (p.1, a.eval p.2)).toList.map fun p => (p.1, cellsL p.2)) = parts.toList.map fun p => (p.1, cellsL ((sv st p.2).val st.hp)) := by
  simp only [Array.toList_map, List.map_map]
  apply List.map_congr_left
  intro p _
  simp [Function.comp, hr.eval]

theorem s_build (hT : TabOk P T) {t : TypeId} {parts : Array (Nat × Operand)} {o : Oper} (ho : o.op = .build t parts) (h : vcOp P T F C (.build t parts) st A K Qp) (hr : Rel C n st A a w) (hN : Nx C st.hp K next) : OpRun P next qp ((execOp a.eval o).run P w) := by
  simp only [vcOp] at h
  cases ht : T t with
  | none => rw [ht] at h; exact h.elim
  | some i =>
    obtain ⟨agg, size, bytes, zero, kind⟩ := i
    rw [ht] at h
    cases kind <;> try exact h.elim
    rename_i fs
    simp only at h
    cases hf : fillO (fs[·]?) zero (parts.toList.map fun p => (p.1, cellsL ((sv st p.2).val st.hp))) with
    | none => rw [hf] at h; exact h.elim
    | some cs =>
      rw [hf] at h
      rw [← parts_eval hr] at hf
      have hrun := run_build_st hT ht rfl (parts.map fun (p : Nat × Operand) => (p.1, a.eval p.2)) cs hf w
      have : (execOp a.eval o).run P w = .ok (.value (.agg cs.toArray)) w := by simp only [execOp, ho, Sem.run_bind, hrun, Result.andThen_ok, Sem.run_pure]
      rw [this]
      exact hN.same hr h trivial

theorem s_buildSlice (hT : TabOk P T) {t : TypeId} {len : Nat} {parts : Array (Nat × Operand)} {o : Oper} (ho : o.op = .buildSlice t len parts) (h : vcOp P T F C (.buildSlice t len parts) st A K Qp) (hr : Rel C n st A a w) (hN : Nx C st.hp K next) : OpRun P next qp ((execOp a.eval o).run P w) := by
  simp only [vcOp] at h
  cases ht : T t with
  | none => rw [ht] at h; exact h.elim
  | some i =>
    obtain ⟨agg, size, bytes, zero, kind⟩ := i
    rw [ht] at h
    cases kind <;> try exact h.elim
    rename_i e
    simp only at h
    cases he : T e with
    | none => rw [he] at h; exact h.elim
    | some ei =>
      rw [he] at h
      simp only at h
      cases hf : fillO (fun i => some (i * ei.size, ei.size)) (repL ei.zero len) (parts.toList.map fun p => (p.1, cellsL ((sv st p.2).val st.hp))) with
      | none => rw [hf] at h; exact h.elim
      | some cs =>
        rw [hf] at h
        simp only at h
        cases hb : Nat.ble (len * ei.size) 16777216 && Nat.blt 0 ei.size with
        | false => rw [hb] at h; exact h.elim
        | true =>
          rw [hb] at h
          simp only [Bool.and_eq_true] at hb
          have h1 : len * ei.size ≤ 16777216 := Nat.le_of_ble_eq_true hb.1
          have h2 : 0 < ei.size := Nat.le_of_ble_eq_true hb.2
          obtain ⟨d, hd, hdk, _⟩ := (hT t _ ht).d
          have hdk : d = .slice e := hdk
          subst hdk
          obtain ⟨inf, z, hinf, hsz, _, hz, hzc⟩ := (hT e ei he).inf
          have hzl : ei.zero.length = ei.size := (hT e ei he).zsize
          rw [← parts_eval hr] at hf
          have hfe := fill_eq (fun i => some (i * ei.size, ei.size)) _ (repL ei.zero len) cs hf
          have hcl : cs.length = len * ei.size := by rw [fillO_length _ _ _ _ hf, length_repL, hzl]
          have hm := made_repL ei.zero (by omega) len
          rw [hzl] at hm
          have hrun : (Instr.buildSlice t len (parts.map fun (p : Nat × Operand) => (p.1, a.eval p.2))).run P w = .ok (.slice (some ⟨w.heap.size, 0, none⟩) len len) (w.alloc (.cells cs.toArray e)) := by
            have n1 : ¬ (len * inf.size > 2 ^ 24) := by rw [hsz]; omega
            simp only [Instr.buildSlice, Sem.run_bind, run_underlying hd, Result.andThen_ok, sizeOf, typeInfo, run_program, hinf, Sem.run_pure, Sem.run_ite]
            rw [if_neg n1]
            by_cases h0 : len * inf.size = 0
            · rw [if_pos h0]
              have hl0 : len * ei.size = 0 := by rw [← hsz]; exact h0
              have hlen0 : len = 0 := by rcases Nat.mul_eq_zero.1 hl0 with h | h <;> omega
              subst hlen0
              simp only [Nat.zero_mul]
              have : (Array.map (fun i => (#[] : Array Value)[i % (#[] : Array Value).size]!) (Array.range 0)) = (repL ei.zero 0).toArray := by simp [repL]
              rw [this, hsz, hfe]
              simp [newRow]
            · rw [if_neg h0]
              simp only [Sem.run_bind, zeroValue, typeInfo, run_program, Result.andThen_ok, hinf, Sem.run_pure, hz, hzc]
              rw [hsz]
              have hm' : Array.map (fun i => ei.zero.toArray[i % ei.zero.toArray.size]!) (Array.range (len * ei.size)) = (repL ei.zero len).toArray := hm
              rw [hm', hfe]
              simp [newRow]
          have : (execOp a.eval o).run P w = .ok (.value (.slice (some ⟨w.heap.size, 0, none⟩) len len)) (w.alloc (.cells cs.toArray e)) := by simp only [execOp, ho, Sem.run_bind, hrun, Result.andThen_ok, Sem.run_pure]
          rw [this]
          exact hN _ _ _ _ _ (h w.heap.size hr.rw.asz) (hr.rw.alloc_row len len cs cs.toArray e ei.size hcl (Nat.le_refl _) (by simp only [maxLen]; have := Nat.le_mul_of_pos_right len h2; omega) (by simpa using hcl) (by rw [← hcl]; simp)) (Ext.refl _) trivial
end
end Go.Eng
