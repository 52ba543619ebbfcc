/-
  The second engine, eighth part: loads, stores, append, calls; and all operations at once. It holds of every program whose table of types is met.
-/
import Derived.Test.YtijdegmamdhcbaaDoorDm7
namespace Go.Dm
open Go Go.Eng Go.RowKit

section
variable {P : Program} {T : Tab} {F : FuncId → Bool} {C : Ctx} {st : St} {a : Act} {w : World} {β : Nat → Value} {V : Nat → Prop} {K : KD} {Qp : KD} {next : Value → World → Prop} {qp : List PanicEntry → World → Prop}

section
variable (hr : RelD C st.h β V w) (he : EnvOk st β V w a) (hN : Nx C st.h β V w K next)
include hr he hN

theorem s_load (hT : TabOk P T) {t : TypeId} {x : Operand} {o : Oper} (ho : o.op = .load t x) (h : vcOp P T F C.G (.load t x) st K Qp) : OpRun P next qp ((execOp a.eval o).run P w) := by
  simp only [vcOp, vcLoad] at h
  have hx := he.eval hr.gl x
  cases ht : T t with
  | none => rw [ht] at h; exact h.elim
  | some i =>
    rw [ht] at h
    simp only at h
    have hi := hT t i ht
    have fin : ∀ (b : Addr) (v : Value) (d : D), a.eval x = .pointer (some b) → (loadVar t b).run P w = .ok v w → K d st.h → RepD st.h β V w d v → OpRun P next qp ((execOp a.eval o).run P w) := by
      intro b v d hb hl hk hd
      exact fin_v hN hr (x := Instr.loadAt t (a.eval x)) (by simp [execOp, ho]) (by simp [hb, Instr.loadAt, Instr.sureAddr, hl]) hk hd
    split at h
    · rename_i j off ex
      rw [ex] at hx
      split at h
      · rename_i cs ty hj
        simp only [RepD, hj] at hx
        obtain ⟨g, hb, hv⟩ := hx
        obtain ⟨g', vs, hb', hg, hcs⟩ := hr.obj j _ hj
        have e : g' = g := by rw [hb] at hb'; injection hb' with hb'; injection hb' with hb'; injection hb' with hb'; exact hb'.symm
        subst e
        cases hagg : i.agg with
        | false =>
          rw [hagg] at h
          simp only at h
          obtain ⟨d, hd, h⟩ := getK_ok h
          obtain ⟨v, hv1, hv2⟩ := hcs.get hd
          refine fin _ v d hv (run_loadVar_one hi hagg ?_) h hv2
          rw [cell_of_row w _ _ _ _ _ hg]
          simpa using hv1
        | true =>
          rw [hagg] at h
          simp only at h
          cases hble : Nat.ble (off + i.size) cs.length with
          | false => rw [hble] at h; exact h.elim
          | true =>
            rw [hble] at h
            have hle := Nat.le_of_ble_eq_true hble
            have hlen := hcs.len
            refine fin _ (.agg ⟨List.take i.size (vs.drop off)⟩) _ hv (run_loadVar_agg hi hagg (vs := List.take i.size (vs.drop off)) (by simp; omega) ?_) h (by simp only [RepD]; exact ⟨_, rfl, (hcs.drop off).take i.size⟩)
            intro k v hk
            rw [add_mk, cell_of_row w _ _ _ _ _ hg]
            have hkl : k < i.size := by have := (List.getElem?_eq_some_iff.1 hk).1; simp at this; omega
            rw [List.getElem?_take_of_lt hkl, List.getElem?_drop] at hk
            simpa using hk
      · exact h.elim
    · rename_i j k off ex
      rw [ex] at hx
      split at h
      · rename_i xs e sz hj
        obtain ⟨r, hk, hld⟩ := h
        simp only [RepD, hj] at hx
        obtain ⟨_, g, n, c, hb, hv⟩ := hx
        obtain ⟨vs, hvs, hrl, hcells⟩ := el_cells hr hj hk hb
        obtain ⟨d, v, hk', hd, hrun⟩ := ldG_run (β := β) (V := V) (h := st.h) hi hld hvs hcells
        rw [add_mk] at hrun
        exact fin _ v d hv hrun hk' hd
      · exact h.elim
    · rename_i r off ex
      rw [ex] at hx
      simp only [RepD] at hx
      obtain ⟨ad, hv, hV, hrow⟩ := hx
      obtain ⟨vs, hvs, hl, hcells⟩ := RepRow.cells r 0 hrow
      obtain ⟨d, v, hk', hd, hrun⟩ := ldG_run (β := β) (V := V) (h := st.h) hi h hvs (fun j v hj => by simpa using hcells j v hj)
      exact fin _ v d hv hrun hk' hd
    · exact h.elim

theorem s_store (hT : TabOk P T) {t : TypeId} {x y : Operand} {o : Oper} (ho : o.op = .store t x y) (h : vcOp P T F C.G (.store t x y) st K Qp) : OpRun P next qp ((execOp a.eval o).run P w) := by
  simp only [vcOp, vcStore] at h
  have hx := he.eval hr.gl x
  have hy := he.eval hr.gl y
  cases ht : T t with
  | none => rw [ht] at h; exact h.elim
  | some i =>
    rw [ht] at h
    simp only at h
    have hi := hT t i ht
    split at h
    · exact h.elim
    · rename_i ds hds
      obtain ⟨hrep, hflat⟩ := cellsD_rep hr.obj hds hy
      cases hbq : Nat.beq ds.length i.size with
      | false => rw [hbq] at h; exact h.elim
      | true =>
        rw [hbq] at h
        simp only [cond_true] at h
        have hlen : (cellsL (a.eval y)).length = i.size := by rw [← hrep.len]; exact Nat.eq_of_beq_eq_true hbq
        have run : ∀ (g off : Nat) (cur : Array Value) (t' : TypeId), a.eval x = .pointer (some ⟨g, off, none⟩) → w.heap[g]? = some (.cells cur t' (0, 0)) → off + (cellsL (a.eval y)).length ≤ cur.size →
            (execOp a.eval o).run P w = .ok .skip (w.setRow g (cur.toList.take off ++ cellsL (a.eval y) ++ cur.toList.drop (off + (cellsL (a.eval y)).length)).toArray) := by
          intro g off cur t' hb hcur hfit
          have hrun := run_storeVar_at (P := P) hi hlen hflat hcur hfit
          simp only [execOp, ho, Instr.storeAt, hb, Instr.sureAddr, Sem.run_bind, Sem.run_pure, Result.andThen_ok, hrun]
        split at h
        · rename_i j off ex
          rw [ex] at hx
          split at h
          · rename_i cs ty hj
            cases hble : Nat.ble (off + i.size) cs.length with
            | false => rw [hble] at h; exact h.elim
            | true =>
              rw [hble] at h
              simp only [cond_true] at h
              have hle := Nat.le_of_ble_eq_true hble
              simp only [RepD, hj] at hx
              obtain ⟨g, hb, hv⟩ := hx
              obtain ⟨g', vs, hb', hg, hcs⟩ := hr.obj j _ hj
              have e : g' = g := by rw [hb] at hb'; injection hb' with hb'; injection hb' with hb'; injection hb' with hb'; exact hb'.symm
              subst e
              have hvl := hcs.len
              rw [run g' off ⟨vs⟩ ty hv hg (by simp; omega)]
              have hset := setL_rep _ _ _ _ off hcs hrep
              rw [setAt_eq _ _ _ (by omega)] at hset
              have hr' := hr.set_blk hj hb (setL cs off ds) _ hset
              refine hN _ _ undef _ _ _ h hr' (by simp only [RepD]) (le_set hj trivial) (hr.moved (Fr.setRow w g' _) (fun k hk => ⟨j, _, hj, rfl, by subst hk; rw [hb]; rfl⟩))
          · exact h.elim
        · rename_i j k off ex
          rw [ex] at hx
          split at h
          · rename_i xs e sz hj
            obtain ⟨r, gs, hk, hsees, hfit, hnot, hK⟩ := h
            simp only [RepD, hj] at hx
            obtain ⟨hkl, g, n, c, hb, hv⟩ := hx
            obtain ⟨vs, hown, hvs, hxs, h0⟩ := hr.obj j _ hj
            have hrl : r.length = sz := hxs r (List.mem_of_getElem? hk)
            rcases hown.2 with ⟨hnil, _⟩ | ⟨g', cap, cur, hv', hb0, hh, hnc, hcm, hsz, htk⟩
            · rw [hnil] at hb; cases hb
            · have eg : g' = g := by rw [hv'] at hb; injection hb with e1 _ _; injection e1 with e1; injection e1
              subst eg
              have hvl : vs.length = xs.length * sz := hown.1
              have hks : k * sz + sz ≤ xs.length * sz := by rw [← Nat.succ_mul]; exact Nat.mul_le_mul_right _ hkl
              have hcl : xs.length * sz ≤ cur.toList.length := by rw [Array.length_toList (xs := cur), hsz]; exact Nat.mul_le_mul_right _ hnc
              have hcl' : cur.toList.length = cur.size := Array.length_toList
              rw [run g' (k * sz + off) cur e hv hh (by omega)]
              -- what is stored is given away first
              have hrk := kill_rel hr (idsL ds)
              have hgs := seesL_rep hr (l := idsL ds) hsees hrep (fun j hj => hj)
              have hjk : (kills st.h (idsL ds))[j]? = some (.row xs e sz) := by
                have hl : j < (kills st.h (idsL ds)).length := by rw [kills_len]; exact (List.getElem?_eq_some_iff.1 hj).1
                rcases kills_get (idsL ds) st.h j _ (List.getElem?_eq_getElem hl) with ⟨e1, _⟩ | ⟨_, e1⟩
                · exfalso
                  have key : ∀ (l : List Nat) (h : Heap) (ob : Go.Dm.Obj), j ∉ l → h[j]? = some ob → (kills h l)[j]? = some ob := by
                    intro l
                    induction l with
                    | nil => intro h ob _ ho; exact ho
                    | cons a l ih =>
                      intro h ob hn ho
                      simp only [List.mem_cons, not_or] at hn
                      exact ih _ _ hn.2 (by rw [List.getElem?_set_ne (fun e => hn.1 e.symm)]; exact ho)
                  have := key _ _ _ hnot hj
                  rw [List.getElem?_eq_getElem hl, e1] at this
                  cases this
                · rw [hj] at e1
                  rw [List.getElem?_eq_getElem hl]
                  exact e1.symm
              have hgl : gs.length = i.size := by rw [hgs.len, hlen]
              have hvsk : RepL (killV st.h (idsL ds) β V) w xs.flatten vs := RepL.move (kill_moved _ _ _ _ _) _ _ hvs
              have hflatset : (xs.set k (setL r off gs)).flatten = setL xs.flatten (k * sz + off) gs := by
                have key : ∀ (xs : List (List GV)) (k : Nat), (∀ r ∈ xs, r.length = sz) → xs[k]? = some r → (xs.set k (setL r off gs)).flatten = setL xs.flatten (k * sz + off) gs := by
                  have sapp : ∀ (gs : List GV) (u l : List GV) (o : Nat), setL (u ++ l) (u.length + o) gs = u ++ setL l o gs := by
                    intro gs
                    induction gs with
                    | nil => intro u l o; rfl
                    | cons g gs ih =>
                      intro u l o
                      simp only [setL]
                      rw [List.set_append_right _ _ (by omega), show u.length + o - u.length = o from by omega, show u.length + o + 1 = u.length + (o + 1) from by omega, ih]
                  have sapl : ∀ (gs : List GV) (u l : List GV) (o : Nat), o + gs.length ≤ u.length → setL (u ++ l) o gs = setL u o gs ++ l := by
                    intro gs
                    induction gs with
                    | nil => intro u l o _; rfl
                    | cons g gs ih =>
                      intro u l o ho
                      simp only [List.length_cons] at ho
                      simp only [setL]
                      rw [List.set_append_left _ _ (by omega), ih _ _ _ (by simp; omega)]
                  intro xs
                  induction xs with
                  | nil => intro k _ hk; simp at hk
                  | cons x xs ih =>
                    intro k hx hk
                    have hxl := hx x List.mem_cons_self
                    cases k with
                    | zero =>
                      simp at hk
                      subst hk
                      rw [List.set_cons_zero, List.flatten_cons, List.flatten_cons, Nat.zero_mul, Nat.zero_add, sapl _ _ _ _ (by omega)]
                    | succ k =>
                      rw [List.set_cons_succ, List.flatten_cons, List.flatten_cons, ih k (fun r hr => hx r (List.mem_cons_of_mem _ hr)) (by simpa using hk), show (k + 1) * sz + off = x.length + (k * sz + off) from by rw [hxl, Nat.succ_mul]; omega, sapp]
                exact key xs k hxs hk
              have hnew := setG_rep gs (cellsL (a.eval y)) _ _ (k * sz + off) hvsk hgs
              rw [← hflatset] at hnew
              have hr' := hrk.set_row hjk hb (xs.set k (setL r off gs)) (setAt vs (k * sz + off) (cellsL (a.eval y))) hnew
                (fun q hq => by
                  rcases List.mem_or_eq_of_mem_set hq with hq | rfl
                  · exact hxs q hq
                  · rw [setL_length]; exact hrl)
                (by simp) (cur.toList.take (k * sz + off) ++ cellsL (a.eval y) ++ cur.toList.drop (k * sz + off + (cellsL (a.eval y)).length)).toArray
                (fun cur2 hh2 => by
                  rw [hh] at hh2
                  injection hh2 with hh2
                  injection hh2 with hh2
                  subst hh2
                  simp
                  omega)
                (by
                  have := take_setAt (cellsL (a.eval y)) cur.toList (xs.length * sz) (k * sz + off) hcl (by omega)
                  rw [htk] at this
                  simpa using this)
              have hcomm : ∀ (l : List Nat) (h : Heap) (ob : Go.Dm.Obj), j ∉ l → kills (h.set j ob) l = (kills h l).set j ob := by
                intro l
                induction l with
                | nil => intro h ob _; rfl
                | cons a l ih =>
                  intro h ob hn
                  simp only [List.mem_cons, not_or] at hn
                  simp only [kills]
                  rw [List.set_comm _ _ hn.1, ih _ _ hn.2]
              rw [hcomm _ _ _ hnot] at hK
              have hle2 : LeH st.h β ((kills st.h (idsL ds)).set j (.row (xs.set k (setL r off gs)) e sz)) β := by
                intro i' o' hi'
                obtain ⟨o1, g1, g2, g3⟩ := kills_le (idsL ds) st.h β i' o' hi'
                by_cases hij : i' = j
                · subst hij
                  rw [hj] at hi'
                  injection hi' with hi'
                  subst hi'
                  exact ⟨_, List.getElem?_set_self (List.getElem?_eq_some_iff.1 g1).1, ⟨by simp, rfl⟩, fun _ => rfl⟩
                · exact ⟨o1, by rw [List.getElem?_set_ne (fun e => hij e.symm)]; exact g1, g2, g3⟩
              refine hN _ _ undef _ _ _ hK hr' (by simp only [RepD]) hle2 ((kill_moved _ _ _ _ _).trans (hrk.moved (Fr.setRow w g' _) (fun q hq => ⟨j, _, hjk, rfl, by subst hq; rw [hb]; rfl⟩)))
          · exact h.elim
        · exact h.elim

theorem s_extract {x : Operand} {f : Nat} {o : Oper} (ho : o.op = .extract x f) (h : vcOp P T F C.G (.extract x f) st K Qp) : OpRun P next qp ((execOp a.eval o).run P w) := by
  have he' : execOp a.eval o = (do pure (.value (← Instr.extract (a.eval x) f))) := by simp [execOp, ho]
  have hx := he.eval hr.gl x
  simp only [vcOp] at h
  split at h
  · rename_i vs ex
    rw [ex] at hx
    simp only [RepD] at hx
    obtain ⟨us, hv, hus⟩ := hx
    split at h
    · rename_i d hd
      obtain ⟨v, hv1, hv2⟩ := hus.get hd
      refine fin_v hN hr he' (v := v) ?_ h hv2
      rw [hv]
      simp [Instr.extract, hv1]
    · exact h.elim
  · exact h.elim

omit hN in
theorem evalL (l : List Operand) : RepDL st.h β V w (l.map (sv C.G st)) (l.map a.eval) := by
  induction l with
  | nil => simp [RepDL]
  | cons x l ih => simp only [List.map_cons, RepDL]; exact ⟨_, _, rfl, he.eval hr.gl x, ih⟩

theorem s_makeFunc {fn : Fn} {first captured : Array Operand} {o : Oper} (ho : o.op = .makeFunc fn first captured) (h : vcOp P T F C.G (.makeFunc fn first captured) st K Qp) : OpRun P next qp ((execOp a.eval o).run P w) := by
  have he' : execOp a.eval o = (do pure (.value (← Instr.makeFunc fn (first.map a.eval) (captured.map a.eval)))) := by simp [execOp, ho]
  cases fn with
  | func f =>
    simp only [vcOp] at h
    refine fin_v hN hr he' (v := .func (.func f) (first.map a.eval) (captured.map a.eval)) rfl h ?_
    simp only [RepD]
    exact ⟨first.toList.map a.eval, captured.toList.map a.eval, by simp [← Array.toList_map], evalL hr he _, evalL hr he _⟩
  | _ => exact h.elim

theorem s_makeInterface (hT : TabOk P T) {t : TypeId} {x : Operand} {o : Oper} (ho : o.op = .makeInterface t x) (h : vcOp P T F C.G (.makeInterface t x) st K Qp) : OpRun P next qp ((execOp a.eval o).run P w) := by
  have he' : execOp a.eval o = (do pure (.value (← Instr.makeInterface t (a.eval x)))) := by simp [execOp, ho]
  simp only [vcOp] at h
  split at h
  · exact h.elim
  · rename_i i hne hs
    obtain ⟨d, hd, hdk, _⟩ := (hT t _ hs).d
    have hni : ∀ ms, d ≠ .interface ms := by
      intro ms e
      subst e
      obtain ⟨agg, size, bytes, zero, kind⟩ := i
      cases kind <;> first | exact hne _ _ _ _ rfl | (simp [descOk] at hdk)
    refine fin_v hN hr he' (v := .iface t (a.eval x)) ?_ h (by simp only [RepD]; exact ⟨_, rfl, he.eval hr.gl x⟩)
    simp only [Instr.makeInterface, Sem.run_bind, run_underlying hd, Result.andThen_ok]
    cases d <;> first | rfl | exact absurd rfl (hni _)
  · exact h.elim

theorem s_nilCheck {x : Operand} {o : Oper} (ho : o.op = .nilCheck x) (h : vcOp P T F C.G (.nilCheck x) st K Qp) : OpRun P next qp ((execOp a.eval o).run P w) := by
  have hx := he.eval hr.gl x
  simp only [vcOp] at h
  have fin : ∀ (d : D), sv C.G st x = d → K d st.h → ((∃ b, a.eval x = .pointer (some b)) ∨ ∃ f y z, a.eval x = .func (.func f) y z) → OpRun P next qp ((execOp a.eval o).run P w) := by
    intro d e hk hv
    have : (execOp a.eval o).run P w = .ok (.value (a.eval x)) w := by
      rcases hv with ⟨b, hv⟩ | ⟨f, y, z, hv⟩ <;> simp [execOp, ho, hv]
    rw [this]
    rw [e] at hx
    exact hN.same hr hk hx
  split at h
  · rename_i i o' e
    split at h
    · rename_i cs ty hi
      refine fin _ e h (.inl ?_)
      rw [e] at hx
      simp only [RepD, hi] at hx
      obtain ⟨g, _, hv⟩ := hx
      exact ⟨_, hv⟩
    · exact h.elim
  · rename_i i j o' e
    split at h
    · rename_i xs ty sz hi
      refine fin _ e h (.inl ?_)
      rw [e] at hx
      simp only [RepD, hi] at hx
      obtain ⟨_, g, _, _, _, hv⟩ := hx
      exact ⟨_, hv⟩
    · exact h.elim
  · rename_i r o' e
    refine fin _ e h (.inl ?_)
    rw [e] at hx
    simp only [RepD] at hx
    obtain ⟨ad, hv, _⟩ := hx
    exact ⟨_, hv⟩
  · rename_i f fs cs e
    refine fin _ e h (.inr ?_)
    rw [e] at hx
    simp only [RepD] at hx
    obtain ⟨us, ts, hv, _⟩ := hx
    exact ⟨_, _, _, hv⟩
  · exact h.elim

omit hN in
theorem s_panic {x : Operand} {o : Oper} (ho : o.op = .panic x) (h : vcOp P T F C.G (.panic x) st K Qp) (hP : Px C st.h β V w Qp qp) : OpRun P next qp ((execOp a.eval o).run P w) := by
  have hx := he.eval hr.gl x
  simp only [vcOp] at h
  split at h
  · rename_i t d e
    rw [e] at hx
    have hx' := hx
    simp only [RepD] at hx'
    obtain ⟨u, hv, _⟩ := hx'
    rw [hv] at hx
    have : (execOp a.eval o).run P w = .halt (.panic (.iface t u)) w := by simp [execOp, ho, hv, run_panic_iface]
    rw [this]
    exact hP _ _ _ _ _ _ _ h hr hx (LeH.refl _ _) (Moved.refl _ _)
  · exact h.elim

theorem s_len (hT : TabOk P T) {args : Array Operand} {ts : Array TypeId} {o : Oper} (ho : o.op = .call { callee := .builtin .len, args := args, argTypes := ts }) (h : vcOp P T F C.G (.call { callee := .builtin .len, args := args, argTypes := ts }) st K Qp) : OpRun P next qp ((execOp a.eval o).run P w) := by
  simp only [vcOp] at h
  split at h
  · rename_i t x hts har
    have hts' : ts = #[t] := by rw [← Array.toArray_toList (xs := ts), hts]
    have har' : args = #[x] := by rw [← Array.toArray_toList (xs := args), har]
    subst hts'
    subst har'
    have hx := he.eval hr.gl x
    split at h
    · rename_i i hti
      have key : ∀ n : Int, (Builtin.len_ #[t] o.type #[a.eval x]).run P w = .ok (.int .i64 n) w → K (.g (.int n)) st.h → OpRun P next qp ((execOp a.eval o).run P w) := by
        intro n hv hk
        have : (execOp a.eval o).run P w = .ok (.value (.int .i64 n)) w := by simp [execOp, ho, resolve, invoke, builtin, hv]
        rw [this]
        exact hN.same hr hk (repI n)
      unfold vcLen at h
      split at h
      · rename_i e k xs hk ex
        rw [ex] at hx
        simp only [RepD, RepV] at hx
        obtain ⟨A, cap, hv, _⟩ := hx
        refine key _ ?_ h
        rw [hv]
        exact run_len_sl hT hti hk A xs.length cap o.type w
      · rename_i e hk ex
        rw [ex] at hx
        simp only [RepD] at hx
        refine key _ ?_ h
        rw [hx]
        exact run_len_sl hT hti hk none 0 0 o.type w
      · rename_i e j hk ex
        rw [ex] at hx
        split at h
        · rename_i xs ty sz hj
          simp only [RepD, hj] at hx
          obtain ⟨vs, hown, _⟩ := hr.obj j _ hj
          refine key _ ?_ h
          rcases hown.2 with ⟨hn, h0⟩ | ⟨g, cap, cur, hbv, _⟩
          · rw [hx, hn, h0]; exact run_len_sl hT hti hk none 0 0 o.type w
          · rw [hx, hbv]; exact run_len_sl hT hti hk _ xs.length cap o.type w
        · exact h.elim
      · rename_i e j lo n hk ex
        rw [ex] at hx
        split at h
        · rename_i xs ty sz hj
          simp only [RepD, hj] at hx
          obtain ⟨_, A, m, cap, _, hv⟩ := hx
          refine key _ ?_ h
          rw [hv]
          exact run_len_sl hT hti hk _ n _ o.type w
        · exact h.elim
      · rename_i s hk ex
        rw [ex] at hx
        simp only [RepD, RepV] at hx
        refine key _ ?_ h
        rw [hx]
        exact run_len_str hT hti hk _ o.type w
      · exact h.elim
    · exact h.elim
  · exact h.elim
theorem s_max {args : Array Operand} {ts : Array TypeId} {o : Oper} (ho : o.op = .call { callee := .builtin .max, args := args, argTypes := ts }) (h : vcOp P T F C.G (.call { callee := .builtin .max, args := args, argTypes := ts }) st K Qp) : OpRun P next qp ((execOp a.eval o).run P w) := by
  simp only [vcOp] at h
  split at h
  · rename_i x y har
    have har' : args = #[x, y] := by rw [← Array.toArray_toList (xs := args), har]
    subst har'
    have hx := he.eval hr.gl x
    have hy := he.eval hr.gl y
    split at h
    · rename_i m n ex ey
      rw [ex] at hx
      rw [ey] at hy
      simp only [RepD, RepV] at hx hy
      have hv : (Builtin.max_ ts o.type #[a.eval x, a.eval y]).run P w = .ok (.int .i64 (if n > m then n else m)) w := by rw [hx, hy]; rfl
      have : (execOp a.eval o).run P w = .ok (.value (.int .i64 (if n > m then n else m))) w := by simp [execOp, ho, resolve, invoke, builtin, hv]
      rw [this]
      exact hN.same hr h (repI _)
    · exact h.elim
  · exact h.elim
theorem s_min {args : Array Operand} {ts : Array TypeId} {o : Oper} (ho : o.op = .call { callee := .builtin .min, args := args, argTypes := ts }) (h : vcOp P T F C.G (.call { callee := .builtin .min, args := args, argTypes := ts }) st K Qp) : OpRun P next qp ((execOp a.eval o).run P w) := by
  simp only [vcOp] at h
  split at h
  · rename_i x y har
    have har' : args = #[x, y] := by rw [← Array.toArray_toList (xs := args), har]
    subst har'
    have hx := he.eval hr.gl x
    have hy := he.eval hr.gl y
    split at h
    · rename_i m n ex ey
      rw [ex] at hx
      rw [ey] at hy
      simp only [RepD, RepV] at hx hy
      have hv : (Builtin.min_ ts o.type #[a.eval x, a.eval y]).run P w = .ok (.int .i64 (if n < m then n else m)) w := by rw [hx, hy]; rfl
      have : (execOp a.eval o).run P w = .ok (.value (.int .i64 (if n < m then n else m))) w := by simp [execOp, ho, resolve, invoke, builtin, hv]
      rw [this]
      exact hN.same hr h (repI _)
    · exact h.elim
  · exact h.elim
end
end
end Go.Dm
