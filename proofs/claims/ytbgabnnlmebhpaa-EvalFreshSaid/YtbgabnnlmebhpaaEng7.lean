/-
  The engine, seventh part: what is asked of any operation suffices for its run. It holds of every program whose table of types is met.
-/
import Derived.Test.YtbgabnnlmebhpaaEng6
namespace Go.Eng
open Go.RowKit

section
variable {P : Program} {T : Tab} {F : FuncId → Bool} {C : Ctx} {n : Nat} {st : St} {A : Anch} {a : Act} {w : World} {K : Cont} {Qp : PCont} {next : Value → World → Prop} {qp : List PanicEntry → World → Prop}

theorem fin_v {o : Oper} {x : Sem Value} (he : execOp a.eval o = (do pure (.value (← x)))) (hr : Rel C n st A a w) (hN : Nx C st.hp K next) {s : SV} (hk : K s st.hp st.rows A) (hs : SVok st.hp s) (h : x.run P w = .ok (s.val st.hp) w) :
    OpRun P next qp ((execOp a.eval o).run P w) := by
  rw [run_v he h]
  exact hN.same hr hk hs

theorem s_convert (hT : TabOk P T) {src dst : TypeId} {x : Operand} {o : Oper} (ho : o.op = .convert src dst x) (h : vcOp P T F C (.convert src dst x) st A K Qp) (hr : Rel C n st A a w) (hN : Nx C st.hp K next) : OpRun P next qp ((execOp a.eval o).run P w) := by
  have he : execOp a.eval o = (do pure (.value (← convert src dst (a.eval x)))) := by simp [execOp, ho]
  simp only [vcOp] at h
  split at h
  · rename_i i j hs hd hx
    obtain ⟨c, hc, hk⟩ := h
    obtain ⟨d1, hd1, _⟩ := (hT src _ hs).d
    obtain ⟨d, hd2, hdk, _⟩ := (hT dst _ hd).d
    have hdk : d = .int .i64 := hdk
    subst hdk
    refine fin_v he hr hN hk trivial ?_
    rw [hr.eval, hx]
    simp [SV.val, convert, run_underlying hd1, run_underlying hd2, Conv.intToInt]
    exact hc
  · rename_i i j hs hd hx
    obtain ⟨c, hc, hk⟩ := h
    obtain ⟨d1, hd1, _⟩ := (hT src _ hs).d
    obtain ⟨d, hd2, hdk, _⟩ := (hT dst _ hd).d
    have hdk : d = .int .i64 := hdk
    subst hdk
    refine fin_v he hr hN hk trivial ?_
    rw [hr.eval, hx]
    simp [SV.val, convert, run_underlying hd1, run_underlying hd2, Conv.intToInt]
    exact hc
  · rename_i i j hs hd hx
    obtain ⟨d1, hd1, _⟩ := (hT src _ hs).d
    obtain ⟨d, hd2, hdk, _⟩ := (hT dst _ hd).d
    have hdk : d = .int .u8 := hdk
    subst hdk
    refine fin_v he hr hN h trivial ?_
    rw [hr.eval, hx]
    simp [SV.val, convert, run_underlying hd1, run_underlying hd2, Conv.intToInt]
  · exact h.elim

theorem s_fieldAddr (hT : TabOk P T) {t : TypeId} {x : Operand} {f : Nat} {o : Oper} (ho : o.op = .fieldAddr t x f) (h : vcOp P T F C (.fieldAddr t x f) st A K Qp) (hr : Rel C n st A a w) (hN : Nx C st.hp K next) : OpRun P next qp ((execOp a.eval o).run P w) := by
  have he : execOp a.eval o = (do pure (.value (← Instr.fieldAt t (a.eval x) f))) := by simp [execOp, ho]
  simp only [vcOp] at h
  split at h
  · rename_i fs _ _ _ _ hs
    split at h
    · rename_i off sz hf
      split at h
      · rename_i i o' hx
        have hok := hr.ok x
        rw [hx] at hok
        refine fin_v he hr hN h hok ?_
        rw [hr.eval, hx]
        simp only [SV.val]
        rw [run_fieldAt hT hs rfl hf, add_mk]
      · rename_i b hx
        refine fin_v he hr hN h trivial ?_
        rw [hr.eval, hx]
        exact run_fieldAt hT hs rfl hf b w
      · exact h.elim
    · exact h.elim
  · exact h.elim

theorem s_indexAddr (hT : TabOk P T) {t : TypeId} {x ix : Operand} {o : Oper} (ho : o.op = .indexAddr t x ix) (h : vcOp P T F C (.indexAddr t x ix) st A K Qp) (hr : Rel C n st A a w) (hN : Nx C st.hp K next) : OpRun P next qp ((execOp a.eval o).run P w) := by
  have he : execOp a.eval o = (do pure (.value (← Instr.indexAt t (a.eval x) (a.eval ix)))) := by simp [execOp, ho]
  simp only [vcOp] at h
  split at h
  · rename_i e _ _ _ _ hs
    split at h
    · rename_i ei b m c hte hx
      obtain ⟨b', j, rfl, hi, hj, hk⟩ := h
      refine fin_v he hr hN hk trivial ?_
      rw [hr.eval, hr.eval, hx, hi]
      exact run_indexAt_sl hT hs rfl hte b' m c j hj w
    · exact h.elim
  · rename_i m e _ _ _ _ hs
    split at h
    · rename_i ei i o' hte hx
      obtain ⟨j, hi, hj, hk⟩ := h
      have hok := hr.ok x
      rw [hx] at hok
      refine fin_v he hr hN hk hok ?_
      rw [hr.eval, hr.eval, hx, hi]
      simp only [SV.val]
      rw [run_indexAt_arr hT hs rfl hte _ j hj w, add_mk]
    · rename_i ei b hte hx
      obtain ⟨j, hi, hj, hk⟩ := h
      refine fin_v he hr hN hk trivial ?_
      rw [hr.eval, hr.eval, hx, hi]
      exact run_indexAt_arr hT hs rfl hte b j hj w
    · exact h.elim
  · exact h.elim

theorem s_index (hT : TabOk P T) {t : TypeId} {x ix : Operand} {o : Oper} (ho : o.op = .index t x ix) (h : vcOp P T F C (.index t x ix) st A K Qp) (hr : Rel C n st A a w) (hN : Nx C st.hp K next) : OpRun P next qp ((execOp a.eval o).run P w) := by
  have he : execOp a.eval o = (do pure (.value (← Instr.index t (a.eval x) (a.eval ix)))) := by simp [execOp, ho]
  simp only [vcOp] at h
  split at h
  · rename_i s hs hx
    obtain ⟨j, c, hi, hj, hk⟩ := h
    obtain ⟨d, hd, hdk, _⟩ := (hT t _ hs).d
    have hdk : d = .string := hdk
    subst hdk
    refine fin_v he hr hN hk trivial ?_
    rw [hr.eval, hr.eval, hx, hi]
    have h1 : (0 : Int) ≤ (j : Int) := by omega
    have h2 : s[j]? = some c := by
      have hl := (List.getElem?_eq_some_iff.1 hj)
      obtain ⟨hl, hc⟩ := hl
      have hsz : j < s.size := hl
      rw [getElem?_pos s j hsz]
      exact congrArg some hc
    simp [SV.val, Instr.index, run_underlying hd, asIntOf, h2]
  · exact h.elim

theorem s_slice (hT : TabOk P T) {t : TypeId} {x : Operand} {lo hi : Option Operand} {o : Oper} (ho : o.op = .slice t x lo hi none) (h : vcOp P T F C (.slice t x lo hi none) st A K Qp) (hr : Rel C n st A a w) (hN : Nx C st.hp K next) : OpRun P next qp ((execOp a.eval o).run P w) := by
  have he : execOp a.eval o = (do pure (.value (← Instr.sliceAt t (a.eval x) (lo.map a.eval) (hi.map a.eval) none))) := by simp [execOp, ho]
  simp only [vcOp] at h
  unfold vcSlice at h
  have bnd : ∀ (q : Option Operand) (k m : Nat), (match q.map (sv st) with | none => m = k | some p => p = .v (.int .i64 (m : Int))) → (match q.map a.eval with | none => m = k | some p => p = .int .i64 (m : Int)) := by
    intro q k m hq
    cases q with
    | none => exact hq
    | some p => simp only [Option.map_some] at hq ⊢; rw [hr.eval, hq]; rfl
  split at h
  · rename_i s hs hx
    obtain ⟨l, hh, hlo, hhi, h1, h2, hk⟩ := h
    obtain ⟨d, hd, hdk, _⟩ := (hT t _ hs).d
    have hdk : d = .string := hdk
    subst hdk
    refine fin_v he hr hN hk trivial ?_
    have hb := run_bounds (P := P) (w := w) false s.data.toList.length s.data.toList.length l hh (lo.map a.eval) (hi.map a.eval) (bnd lo 0 l hlo) (bnd hi _ hh hhi) h1 h2
    have hsz : s.size = s.data.toList.length := rfl
    rw [hr.eval, hx]
    simp only [SV.val, Instr.sliceAt, Instr.slice, Sem.run_bind, run_underlying hd, Result.andThen_ok]
    rw [← hsz] at hb
    simp [hb, extract_list s l hh h2]
  · rename_i _ _ _ _ e b len cap hs hx
    split at h
    · exact h.elim
    · rename_i ei hte
      obtain ⟨l, hh, hlo, hhi, h1, h2, hk⟩ := h
      obtain ⟨d, hd, hdk, _⟩ := (hT t _ hs).d
      have hdk : d = .slice e := hdk
      subst hdk
      obtain ⟨inf, z, hinf, hsz, _⟩ := (hT e ei hte).inf
      refine fin_v he hr hN hk trivial ?_
      have hb := run_bounds (P := P) (w := w) true len cap l hh (lo.map a.eval) (hi.map a.eval) (bnd lo 0 l hlo) (bnd hi _ hh hhi) h1 h2
      rw [hr.eval, hx]
      simp only [SV.val, Instr.sliceAt, Instr.slice, Sem.run_bind, run_underlying hd, Result.andThen_ok]
      simp [hb, sizeOf, typeInfo, hinf, hsz]
  · exact h.elim

theorem s_extract {x : Operand} {f : Nat} {o : Oper} (ho : o.op = .extract x f) (h : vcOp P T F C (.extract x f) st A K Qp) (hr : Rel C n st A a w) (hN : Nx C st.hp K next) : OpRun P next qp ((execOp a.eval o).run P w) := by
  have he : execOp a.eval o = (do pure (.value (← Instr.extract (a.eval x) f))) := by simp [execOp, ho]
  simp only [vcOp] at h
  split at h
  · rename_i vs hx
    split at h
    · rename_i v hv
      refine fin_v he hr hN h (SVok.of_ _ _) ?_
      rw [hr.eval, hx, SV.val_of]
      have hv' : vs[f]? = some v := by simpa using hv
      simp [SV.val, Instr.extract, hv']
    · exact h.elim
  · exact h.elim

theorem s_makeFunc {fn : Fn} {first captured : Array Operand} {o : Oper} (ho : o.op = .makeFunc fn first captured) (h : vcOp P T F C (.makeFunc fn first captured) st A K Qp) (hr : Rel C n st A a w) (hN : Nx C st.hp K next) : OpRun P next qp ((execOp a.eval o).run P w) := by
  have he : execOp a.eval o = (do pure (.value (← Instr.makeFunc fn (first.map a.eval) (captured.map a.eval)))) := by simp [execOp, ho]
  have hev : a.eval = fun x => (sv st x).val st.hp := funext hr.eval
  refine fin_v he hr hN (s := .v (.func fn (first.map fun x => (sv st x).val st.hp) (captured.map fun x => (sv st x).val st.hp))) h trivial ?_
  rw [hev]
  rfl

theorem s_makeInterface (hT : TabOk P T) {t : TypeId} {x : Operand} {o : Oper} (ho : o.op = .makeInterface t x) (h : vcOp P T F C (.makeInterface t x) st A K Qp) (hr : Rel C n st A a w) (hN : Nx C st.hp K next) : OpRun P next qp ((execOp a.eval o).run P w) := by
  have he : execOp a.eval o = (do pure (.value (← Instr.makeInterface t (a.eval x)))) := by simp [execOp, ho]
  simp only [vcOp] at h
  split at h
  · exact h.elim
  · rename_i i hne hs
    obtain ⟨d, hd, hdk, _⟩ := (hT t _ hs).d
    have hni : ∀ ms, d ≠ .interface ms := by
      intro ms e
      subst e
      obtain ⟨agg, size, bytes, zero, kind⟩ := i
      cases kind <;> first | exact hne _ _ _ _ rfl | (simp [descOk] at hdk)
    refine fin_v he hr hN h trivial ?_
    rw [hr.eval]
    simp only [Instr.makeInterface, Sem.run_bind, run_underlying hd, Result.andThen_ok]
    cases d <;> first | rfl | exact absurd rfl (hni _)
  · exact h.elim

theorem s_nilCheck {x : Operand} {o : Oper} (ho : o.op = .nilCheck x) (h : vcOp P T F C (.nilCheck x) st A K Qp) (hr : Rel C n st A a w) (hN : Nx C st.hp K next) : OpRun P next qp ((execOp a.eval o).run P w) := by
  simp only [vcOp] at h
  have hev := hr.eval x
  have hok := hr.ok x
  split at h
  · rename_i i off hx
    rw [hx] at hev hok
    have : (execOp a.eval o).run P w = .ok (.value ((SV.loc i off).val st.hp)) w := by simp [execOp, ho, hev, SV.val]
    rw [this]
    exact hN.same hr h hok
  · rename_i b hx
    rw [hx] at hev
    have : (execOp a.eval o).run P w = .ok (.value ((SV.v (.pointer (some b))).val st.hp)) w := by simp [execOp, ho, hev, SV.val]
    rw [this]
    exact hN.same hr h trivial
  · rename_i f first captured hx
    rw [hx] at hev
    have : (execOp a.eval o).run P w = .ok (.value ((SV.v (.func (.func f) first captured)).val st.hp)) w := by simp [execOp, ho, hev, SV.val]
    rw [this]
    exact hN.same hr h trivial
  · exact h.elim

theorem s_panic {x : Operand} {o : Oper} (ho : o.op = .panic x) (h : vcOp P T F C (.panic x) st A K Qp) (hr : Rel C n st A a w) (hP : Px C st.hp Qp qp) : OpRun P next qp ((execOp a.eval o).run P w) := by
  simp only [vcOp] at h
  have hev := hr.eval x
  split at h
  · rename_i t v hx
    rw [hx] at hev
    have hev : a.eval x = .iface t v := hev
    have : (execOp a.eval o).run P w = .halt (.panic (.iface t v)) w := by simp [execOp, ho, hev, run_panic_iface]
    rw [this]
    exact hP _ _ _ _ _ h hr.rw (Ext.refl _)
  · exact h.elim

theorem s_makeSlice (hT : TabOk P T) {t : TypeId} {l c : Operand} {o : Oper} (ho : o.op = .makeSlice t l c) (h : vcOp P T F C (.makeSlice t l c) st A K Qp) (hr : Rel C n st A a w) (hN : Nx C st.hp K next) : OpRun P next qp ((execOp a.eval o).run P w) := by
  simp only [vcOp] at h
  split at h
  · rename_i e hs
    split at h
    · rename_i ei hte
      obtain ⟨len, cap, hl, hc, hlc, hb, hm, hk⟩ := h
      obtain ⟨d, hd, hdk, _⟩ := (hT t _ hs).d
      have hdk : d = .slice e := hdk
      subst hdk
      obtain ⟨inf, z, hinf, hsz, hby, hz, hzc⟩ := (hT e ei hte).inf
      have hzl : ei.zero.length = ei.size := (hT e ei hte).zsize
      have hmm := hm
      simp only [maxLen] at hmm
      have hbI : (inf.bytes : Int) * (cap : Int) ≤ 281474976710656 := by
        have : ((inf.bytes * cap : Nat) : Int) ≤ 281474976710656 := by rw [hby]; omega
        rwa [Int.natCast_mul] at this
      have hrun := run_make (P := P) w t e inf z hd hinf hz .i64 .i64 (len : Int) (cap : Int) (by omega) (by omega) hbI (by omega)
      simp only [Int.toNat_natCast] at hrun
      have hcells : madeCells z.cells (cap * inf.size) = (repL ei.zero cap).toArray := by
        rw [hsz, hzc]
        by_cases h0 : 0 < ei.zero.length
        · have := made_repL ei.zero h0 cap
          rw [hzl] at this
          exact this
        · have h0 : ei.zero = [] := List.eq_nil_of_length_eq_zero (by omega)
          have h1 : ei.size = 0 := by rw [← hzl, h0]; rfl
          have h2 : repL ei.zero cap = [] := List.eq_nil_of_length_eq_zero (by rw [length_repL, h0]; simp)
          rw [h1, h2]
          simp [madeCells]
      rw [hcells] at hrun
      have : (execOp a.eval o).run P w = .ok (.value (.slice (some ⟨w.heap.size, 0, none⟩) len cap)) (w.alloc (.cells (repL ei.zero cap).toArray e)) :=
        run_v (x := Instr.makeSlice t (a.eval l) (a.eval c)) (by simp [execOp, ho]) (by rw [hr.eval, hr.eval, hl, hc]; exact hrun)
      rw [this]
      have htake : ∀ (m k : Nat), k ≤ m → (repL ei.zero m).take (k * ei.size) = repL ei.zero k := by
        intro m
        induction m with
        | zero => intro k hk; have : k = 0 := by omega
                  subst this; simp [repL]
        | succ m ih =>
          intro k hk
          cases k with
          | zero => simp [repL]
          | succ k => simp only [repL]; rw [List.take_append, List.take_of_length_le (by rw [hzl, Nat.succ_mul]; omega), hzl, show (k + 1) * ei.size - ei.size = k * ei.size from by rw [Nat.succ_mul]; omega, ih k (by omega)]
      exact hN _ _ _ _ _ (hk w.heap.size hr.rw.asz) (hr.rw.alloc_row len cap (repL ei.zero len) _ e ei.size (by rw [length_repL, hzl]) hlc hm (by simp [length_repL, hzl]) (htake cap len hlc)) (Ext.refl _) trivial
    · exact h.elim
  · exact h.elim

theorem s_len (hT : TabOk P T) {args : Array Operand} {ts : Array TypeId} {o : Oper} (ho : o.op = .call { callee := .builtin .len, args := args, argTypes := ts }) (h : vcOp P T F C (.call { callee := .builtin .len, args := args, argTypes := ts }) st A K Qp) (hr : Rel C n st A a w) (hN : Nx C st.hp K next) : OpRun P next qp ((execOp a.eval o).run P w) := by
  simp only [vcOp] at h
  split at h
  · rename_i t x hts har
    have hts' : ts = #[t] := by rw [← Array.toArray_toList (xs := ts), hts]
    have har' : args = #[x] := by rw [← Array.toArray_toList (xs := args), har]
    subst hts'
    subst har'
    have key : ∀ v, (Builtin.len_ #[t] o.type #[a.eval x]).run P w = .ok v w → K (.v v) st.hp st.rows A → OpRun P next qp ((execOp a.eval o).run P w) := by
      intro v hv hk
      have : (execOp a.eval o).run P w = .ok (.value v) w := by simp [execOp, ho, resolve, invoke, builtin, hv]
      rw [this]
      exact hN.same hr (s := .v v) hk trivial
    split at h
    · rename_i b m c hs hx
      refine key _ ?_ h
      rw [hr.eval, hx]
      exact run_len_sl hT hs rfl b m c o.type w
    · rename_i s hs hx
      refine key _ ?_ h
      rw [hr.eval, hx]
      exact run_len_str hT hs rfl s o.type w
    · exact h.elim
  · exact h.elim

theorem s_append (hT : TabOk P T) {args : Array Operand} {ts : Array TypeId} {o : Oper} (ho : o.op = .call { callee := .builtin .append, args := args, argTypes := ts }) (h : vcOp P T F C (.call { callee := .builtin .append, args := args, argTypes := ts }) st A K Qp) (hr : Rel C n st A a w) (hN : Nx C st.hp K next) : OpRun P next qp ((execOp a.eval o).run P w) := by
  simp only [vcOp] at h
  split at h
  · rename_i t t' x y hts har
    have hts' : ts = #[t, t'] := by rw [← Array.toArray_toList (xs := ts), hts]
    have har' : args = #[x, y] := by rw [← Array.toArray_toList (xs := args), har]
    subst hts'
    subst har'
    cases hb : Nat.beq t t' with
    | false => rw [hb] at h; exact h.elim
    | true =>
      rw [hb] at h
      have htt : t = t' := Nat.eq_of_beq_eq_true hb
      subst htt
      simp only [cond_true] at h
      unfold vcAppend at h
      split at h
      · rename_i e hs
        split at h
        · exact h.elim
        · rename_i ei hte
          obtain ⟨i, m0, m, xs, news, hx, hsrc, hflat, h63, hbytes, hpos, hk⟩ := h
          obtain ⟨d, hd, hdk, _⟩ := (hT t _ hs).d
          have hdk : d = .slice e := hdk
          subst hdk
          obtain ⟨inf, z, hinf, hsz, hby, hz, hzc⟩ := (hT e ei hte).inf
          have hzl : ei.zero.length = ei.size := (hT e ei hte).zsize
          have hown : w.ownsRow 0 e ei.size ((sv st x).val st.hp) m0 xs := by
            rcases hx with ⟨r, hr1, hr2, hr3, hr4, hr5, hr6⟩ | ⟨_, hnil, h0, hxs⟩
            · have := hr.rw.row i r hr1
              rw [hr2, hr3, hr4, hr5, hr6] at this
              exact this
            · rw [hnil, h0, hxs]
              exact World.ownsRow_nil w 0 e ei.size
          have hx' : (∃ r, st.rows[i]? = some r ∧ r.v = (sv st x).val st.hp) ∨ (i = st.rows.length ∧ (sv st x).val st.hp = .slice none 0 0) := by
            rcases hx with ⟨r, hr1, hr2, _⟩ | ⟨h1, h2, _⟩
            · exact .inl ⟨r, hr1, hr2⟩
            · exact .inr ⟨h1, h2⟩
          have hrun : ∃ v' w', (Builtin.append_ #[t, t] o.type #[(sv st x).val st.hp, (sv st y).val st.hp]).run P w = .ok v' w' ∧ w'.ownsRow 0 e ei.size v' (m0 + m) (xs ++ news) ∧ w.grownBy w' ((sv st x).val st.hp).ownBlock ∧
              (v' = .slice none 0 0 → (sv st x).val st.hp = .slice none 0 0) ∧ (v'.ownBlock = ((sv st x).val st.hp).ownBlock ∨ v'.ownBlock = some w.heap.size) := by
            rcases hsrc with ⟨hy, hm0, hnews⟩ | ⟨b, c, hy, hld⟩
            · subst hm0
              subst hnews
              rw [hy]
              exact ⟨_, w, run_append_owned_none (P := P) w 0 t o.type e inf ei.size hd hinf _ m0 xs hown, by simpa using hown, World.grownBy.refl w _, fun h => h, .inl rfl⟩
            · rw [hy]
              obtain ⟨hl, hc⟩ := hld.cells hr.rw
              obtain ⟨v', w', h1, h2, h3, h4, h5⟩ := run_append_own_at (P := P) w 0 t o.type e inf z ei.size ei.bytes hd hinf hz hsz hby (by rw [hzc]; simpa using hzl) hpos _ m0 xs hown b m c news hl hc (flat_mem hflat) h63 hbytes (Nat.zero_le _)
              exact ⟨v', w', h1, h2, h3, fun h => (h4.1 h).1, h5⟩
          obtain ⟨v', w', hrun, hown', hg, hnil, hblk⟩ := hrun
          have : (execOp a.eval o).run P w = .ok (.value v') w' := by simp [execOp, ho, resolve, invoke, builtin, hr.eval, hrun]
          rw [this]
          exact hN _ _ _ _ _ (hk v' (owns_shape hown') hnil) (hr.rw.grow hx' hown' hg hblk) (Ext.refl _) trivial
      · exact h.elim
  · exact h.elim

theorem s_call (hF : ∀ g, F g = true → fnOk P g = true) {f : Operand} {args : Array Operand} {ts : Array TypeId} {o : Oper} (ho : o.op = .call { callee := .value f, args := args, argTypes := ts }) (h : vcOp P T F C (.call { callee := .value f, args := args, argTypes := ts }) st A K Qp)
    (hr : Rel C n st A a w) (hN : Nx C st.hp K next) (hP : Px C st.hp Qp qp) : OpRun P next qp ((execOp a.eval o).run P w) := by
  simp only [vcOp] at h
  split at h
  · rename_i g first captured hf
    cases hg : F g with
    | false => rw [hg] at h; exact h.elim
    | true =>
      rw [hg] at h
      simp only [cond_true, forceVL_eq] at h
      have harr : (first.toList ++ (args.toList.map (fun x => (sv st x).val st.hp) ++ captured.toList)).toArray = first ++ args.map (fun x => (sv st x).val st.hp) ++ captured := by
        apply Array.ext'
        simp
      rw [harr] at h
      have hfn := hF g hg
      unfold fnOk at hfn
      have hev : a.eval = fun x => (sv st x).val st.hp := funext hr.eval
      have hef : a.eval f = .func (.func g) first captured := by rw [hr.eval, hf]; rfl
      cases hfg : P.funcs[g]? with
      | none => rw [hfg] at hfn; cases hfn
      | some fn =>
        rw [hfg] at hfn
        simp only [Bool.and_eq_true, Bool.not_eq_true'] at hfn
        obtain ⟨hn1, hn2⟩ := hfn
        have hn3 : ¬ fn.name = "runtime.NumGoroutine" := by simpa using hn1
        have hnone : ¬ fn.body = none := by intro hb; rw [hb] at hn2; cases hn2
        have : (execOp a.eval o).run P w = .ok (.enter g (first ++ args.map (fun x => (sv st x).val st.hp) ++ captured)) w := by
          simp [execOp, ho, resolve, invoke, Deferred.ofValue, callFunc, hef, hev, hfg, hn3, hnone]
        rw [this]
        refine (h w hr.rw).mono fun e w' he => ?_
        cases e with
        | returned r =>
          obtain ⟨hp, rows, A', hrel, hmap, hk⟩ := he
          have := hN _ _ _ _ _ hk hrel (Ext.of_map hmap) (SVok.of_ _ _)
          rwa [SV.val_of] at this
        | panicked ch =>
          obtain ⟨hp, rows, A', hrel, hmap, hk⟩ := he
          exact hP _ _ _ _ _ hk hrel (Ext.of_map hmap)
        | outgrown => exact he.elim
  · exact h.elim

/-- WHAT IS ASKED OF AN OPERATION SUFFICES FOR ITS RUN. -/
theorem op_sound (hT : TabOk P T) (hF : ∀ g, F g = true → fnOk P g = true) {o : Oper} (h : vcOp P T F C o.op st A K Qp) (hr : Rel C n st A a w) (hN : Nx C st.hp K next) (hP : Px C st.hp Qp qp) : OpRun P next qp ((execOp a.eval o).run P w) := by
  generalize ho : o.op = op at h
  cases op with
  | move x => exact s_move (.inl ho) h hr hN
  | assign x => exact s_move (.inr ho) h hr hN
  | pick c x y => exact s_pick ho h hr hN
  | alloc t => exact s_alloc hT ho h hr hN
  | box t x => exact s_box ho h hr hN
  | build t parts => exact s_build hT ho h hr hN
  | buildSlice t len parts => exact s_buildSlice hT ho h hr hN
  | makeSlice t l c => exact s_makeSlice hT ho h hr hN
  | load t x => exact s_load hT ho h hr hN
  | store t x y => exact s_store hT ho h hr hN
  | nilCheck x => exact s_nilCheck ho h hr hN
  | binOp op t x y t' => exact s_bin hT ho h hr hN
  | unOp op t x => exact s_un ho h hr hN
  | convert s t x => exact s_convert hT ho h hr hN
  | fieldAddr s x f => exact s_fieldAddr hT ho h hr hN
  | indexAddr t x ix => exact s_indexAddr hT ho h hr hN
  | index t x ix => exact s_index hT ho h hr hN
  | slice t x lo hi mx =>
    cases mx with
    | none => exact s_slice hT ho h hr hN
    | some m => exact h.elim
  | extract x i => exact s_extract ho h hr hN
  | makeFunc fn first captured => exact s_makeFunc ho h hr hN
  | makeInterface t x => exact s_makeInterface hT ho h hr hN
  | panic x => exact s_panic ho h hr hP
  | call c =>
    obtain ⟨callee, args, ts⟩ := c
    cases callee with
    | value f => exact s_call hF ho h hr hN hP
    | invoke r m => exact h.elim
    | builtin b =>
      cases b <;> first | exact s_len hT ho h hr hN | exact s_append hT ho h hr hN | exact h.elim
  | _ => exact h.elim
end
end Go.Eng
