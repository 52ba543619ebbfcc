/-
  The second engine, tenth part: append, calls, and all operations at once. It holds of every program whose table of types is met.
-/
import Derived.Test.YtijdegmamdhcbaaDoorDm9
namespace Go.Dm
open Go Go.Eng Go.RowKit

section
variable {P : Program} {T : Tab} {F : FuncId → Bool} {C : Ctx} {st : St} {a : Act} {w : World} {β : Nat → Value} {V : Nat → Prop} {K : KD} {Qp : KD} {next : Value → World → Prop} {qp : List PanicEntry → World → Prop}

theorem repV_one {V : Nat → Prop} {w : World} {g : GV} {v : Value} (h : RepV V w g v) : v.oneCell' = true := by
  cases g with
  | sl k xs => simp only [RepV] at h; obtain ⟨A, cap, rfl, _⟩ := h; rfl
  | raw u => simp only [RepV] at h; exact h.2.1
  | _ => simp only [RepV] at h; subst h; rfl
theorem repL_flat {V : Nat → Prop} {w : World} : ∀ {gs : List GV} {vs : List Value}, RepL V w gs vs → ∀ v ∈ vs, v.oneCell' = true
  | [], [], _, v, hv => by simp at hv
  | [], _ :: _, h, _, _ => h.elim
  | _ :: _, [], h, _, _ => h.elim
  | _ :: _, u :: vs, h, v, hv => by
    rcases List.mem_cons.1 hv with rfl | hv
    · exact repV_one h.1
    · exact repL_flat h.2 v hv

theorem le_grow (h : Heap) (β : Nat → Value) (i : Nat) (o : Obj) (v : Value) : LeH h β (h.set i .dead ++ [o]) (upf β h.length v) := by
  intro j oj hj
  have hjl : j < h.length := (List.getElem?_eq_some_iff.1 hj).1
  by_cases hji : j = i
  · subst hji
    exact ⟨.dead, by rw [List.getElem?_append_left (by simpa using hjl)]; simp [hjl], by cases oj <;> trivial, fun h => by cases h⟩
  · exact ⟨oj, by rw [List.getElem?_append_left (by simpa using hjl), List.getElem?_set_ne (fun e => hji e.symm)]; exact hj, OLe.refl _, fun _ => upf_ne (by omega)⟩

/-- The run of append, whatever it is given. -/
theorem append_run (hT : TabOk P T) {t e : TypeId} {i ei : TI} (hs : T t = some i) (hk : i.kind = .slice e) (hte : T e = some ei) (h0 : 0 < ei.size) {v y : Value} {n : Nat} {xs : List Value} (hown : w.ownsRow 0 e ei.size v n xs)
    {news : List (List GV)} (hsrc : (news = [] ∧ y = .slice none 0 0) ∨ ∃ ad cap vs, y = .slice (some ad) news.length cap ∧ RepL V w news.flatten vs ∧ (∀ r ∈ news, r.length = ei.size) ∧ (vs.length = news.length * ei.size) ∧ ∀ i u, vs[i]? = some u → w.cell? (ad.add i) = some u)
    (h63 : n + news.length ≤ maxLen) (hby : (n + news.length) * ei.bytes ≤ 140737488355328) (ty : TypeId) :
    ∃ v' w' vs, (Builtin.append_ #[t, t] ty #[v, y]).run P w = .ok v' w' ∧ RepL V w news.flatten vs ∧ (∀ r ∈ news, r.length = ei.size) ∧ w'.ownsRow 0 e ei.size v' (n + news.length) (xs ++ vs) ∧ w.grownBy w' v.ownBlock ∧
      (v'.ownBlock = v.ownBlock ∨ v'.ownBlock = some w.heap.size) := by
  obtain ⟨d, hd, hdk, _⟩ := (hT t _ hs).d
  rw [hk] at hdk
  have hdk : d = .slice e := hdk
  subst hdk
  obtain ⟨inf, z, hinf, hsz, hbyt, hz, hzc⟩ := (hT e ei hte).inf
  have hzl : ei.zero.length = ei.size := (hT e ei hte).zsize
  rcases hsrc with ⟨hn0, hy⟩ | ⟨ad, cap, vs, hy, hv, hx, hl, hc⟩
  · subst hn0
    rw [hy]
    exact ⟨v, w, [], run_append_owned_none (P := P) w 0 t ty e inf ei.size hd hinf v n xs hown, trivial, fun r hr => by simp at hr, by simpa using hown, World.grownBy.refl w _, .inl rfl⟩
  · rw [hy]
    obtain ⟨v', w', h1, h2, h3, _, h5⟩ := run_append_own_at (P := P) w 0 t ty e inf z ei.size ei.bytes hd hinf hz hsz hbyt (by rw [hzc]; simpa using hzl) h0 v n xs hown ad news.length cap vs hl hc (repL_flat hv) h63 hby (Nat.zero_le _)
    exact ⟨v', w', vs, h1, hv, hx, h2, h3, h5⟩

theorem s_append (hr : RelD C st.h β V w) (he : EnvOk st β V w a) (hN : Nx C st.h β V w K next) (hT : TabOk P T) {args : Array Operand} {ts : Array TypeId} {o : Oper} (ho : o.op = .call { callee := .builtin .append, args := args, argTypes := ts }) (h : vcOp P T F C.G (.call { callee := .builtin .append, args := args, argTypes := ts }) st K Qp) : OpRun P next qp ((execOp a.eval o).run P w) := by
  simp only [vcOp] at h
  split at h
  · rename_i t t' x y hts har
    have hts' : ts = #[t, t'] := by rw [← Array.toArray_toList (xs := ts), hts]
    have har' : args = #[x, y] := by rw [← Array.toArray_toList (xs := args), har]
    subst hts'
    subst har'
    cases hb : Nat.beq t t' with
    | false => rw [hb] at h; exact h.elim
    | true =>
      rw [hb] at h
      have htt : t = t' := Nat.eq_of_beq_eq_true hb
      subst htt
      simp only [cond_true] at h
      unfold vcAppend at h
      have hx := he.eval hr.gl x
      have hy := he.eval hr.gl y
      split at h
      · rename_i e hs
        split at h
        · exact h.elim
        · rename_i ei hte
          split at h
          · exact h.elim
          · rename_i news hsrc
            cases hpos : Nat.blt 0 ei.size with
            | false => rw [hpos] at h; exact h.elim
            | true =>
              rw [hpos] at h
              simp only [cond_true] at h
              have h0 : 0 < ei.size := Nat.le_of_ble_eq_true hpos
              have hsrc' := srcD_rep hr hsrc hy h0
              have fin : ∀ (v' : Value) (w' : World), (Builtin.append_ #[t, t] o.type #[a.eval x, a.eval y]).run P w = .ok v' w' → (execOp a.eval o).run P w = .ok (.value v') w' := by
                intro v' w' hrun
                simp [execOp, ho, resolve, invoke, builtin, hrun]
              have lenf : ∀ (xs : List (List GV)), (xs ++ news).flatten = xs.flatten ++ news.flatten := fun xs => List.flatten_append
              split at h
              · rename_i ex
                rw [ex] at hx
                simp only [RepD] at hx
                obtain ⟨hroom, hk⟩ := h
                rw [hx] at fin
                obtain ⟨v', w', vs, hrun, hv, hm, hown, hg, hbk⟩ := append_run hT hs rfl hte h0 (World.ownsRow_nil w 0 e ei.size) hsrc' (by rw [Nat.zero_add]; exact hroom.1) (by rw [Nat.zero_add]; exact hroom.2) o.type
                rw [fin v' w' hrun]
                rw [Nat.zero_add, List.nil_append] at hown
                have hr' := hr.grow_nil news vs v' e ei.size hv hm h0 hown hg hbk
                refine hN _ _ _ _ _ _ hk hr' ?_ (le_snoc _ _ _ _) (hr.moved (G := fun _ => False) ⟨hg.os, hg.tape, hg.output, hg.size, fun k hk hn => hg.block k hk (by simp [Value.ownBlock])⟩ (fun k hk => hk.elim))
                simp only [RepD]
                rw [List.getElem?_append_right (Nat.le_refl _)]
                simp only [Nat.sub_self, List.getElem?_cons_zero]
                exact (upf_eq _ _ _).symm
              · rename_i j ex
                rw [ex] at hx
                split at h
                · rename_i xs e' sz' hj
                  cases hbb : Nat.beq e' e && Nat.beq sz' ei.size with
                  | false => rw [hbb] at h; exact h.elim
                  | true =>
                    rw [hbb] at h
                    simp only [cond_true] at h
                    simp only [Bool.and_eq_true] at hbb
                    have e1 := Nat.eq_of_beq_eq_true hbb.1
                    have e2 := Nat.eq_of_beq_eq_true hbb.2
                    subst e1
                    subst e2
                    obtain ⟨hroom, hk⟩ := h
                    simp only [RepD, hj] at hx
                    rw [hx] at fin
                    obtain ⟨vs0, hown0, hv0, hx0, _⟩ := hr.obj j _ hj
                    obtain ⟨v', w', vs, hrun, hv, hm, hown, hg, hbk⟩ := append_run hT hs rfl hte h0 hown0 hsrc' hroom.1 hroom.2 o.type
                    rw [fin v' w' hrun]
                    have hr' := hr.grow_row hj (xs ++ news) (vs0 ++ vs) v' e' ei.size (by rw [lenf]; exact hv0.append hv) (fun r hr => by rcases List.mem_append.1 hr with hr | hr; exact hx0 r hr; exact hm r hr) h0 (by rw [List.length_append]; exact hown) hg hbk
                    refine hN _ _ _ _ _ _ hk hr' ?_ (le_grow _ _ _ _ _) (hr.moved (G := fun k => some k = (β j).ownBlock) ⟨hg.os, hg.tape, hg.output, hg.size, fun k hk hn => hg.block k hk hn⟩ (fun k hk => ⟨j, _, hj, rfl, bk_owns hown0 hk.symm⟩))
                    simp only [RepD]
                    rw [List.getElem?_append_right (by simp)]
                    simp only [List.length_set, Nat.sub_self, List.getElem?_cons_zero]
                    exact (upf_eq _ _ _).symm
                · exact h.elim
              · rename_i j n ex
                rw [ex] at hx
                split at h
                · rename_i xs e' sz' hj
                  cases hbb : Nat.beq e' e && Nat.beq sz' ei.size with
                  | false => rw [hbb] at h; exact h.elim
                  | true =>
                    rw [hbb] at h
                    simp only [cond_true] at h
                    simp only [Bool.and_eq_true] at hbb
                    have e1 := Nat.eq_of_beq_eq_true hbb.1
                    have e2 := Nat.eq_of_beq_eq_true hbb.2
                    subst e1
                    subst e2
                    obtain ⟨hnl, hroom, hk⟩ := h
                    simp only [RepD, hj] at hx
                    obtain ⟨_, A, m, cap, hb, hxv⟩ := hx
                    obtain ⟨vs0, hown0, hv0, hx0, _⟩ := hr.obj j _ hj
                    have hpre : w.ownsRow 0 e' ei.size (a.eval x) n (vs0.take (n * ei.size)) ∧ (a.eval x).ownBlock = (β j).ownBlock := by
                      rcases hown0.2 with ⟨hn, hl0⟩ | ⟨g, cap', cur, hbv, q1, q2, q3, q4, q5, q6⟩
                      · rw [hn] at hb
                        injection hb with e1 e2 e3
                        subst e1; subst e3
                        have hn0 : n = 0 := by omega
                        subst hn0
                        rw [hxv, hn]
                        exact ⟨by simpa using World.ownsRow_nil w 0 e' ei.size, by simp [Value.ownBlock]⟩
                      · rw [hbv] at hb
                        injection hb with e1 e2 e3
                        subst e1; subst e3
                        have hxv' : a.eval x = .slice (some ⟨g, 0, none⟩) n cap' := by
                          rw [hxv]
                          by_cases hc : cap' = 0
                          · simp [hc]
                          · simp [hc, Addr.add]
                        rw [hxv', hbv]
                        have hl := hown0.1
                        have hmul : n * ei.size ≤ xs.length * ei.size := Nat.mul_le_mul_right _ hnl
                        refine ⟨⟨by rw [List.length_take]; omega, .inr ⟨g, cap', cur, rfl, q1, q2, by omega, q4, q5, ?_⟩⟩, rfl⟩
                        rw [← q6, List.take_take, Nat.min_eq_left hmul]
                    obtain ⟨v', w', vs, hrun, hv, hm, hown, hg, hbk⟩ := append_run hT hs rfl hte h0 hpre.1 hsrc' hroom.1 hroom.2 o.type
                    rw [fin v' w' hrun]
                    rw [hpre.2] at hg hbk
                    have htf : (xs.take n).flatten = xs.flatten.take (n * ei.size) := by
                      have k2 : ∀ (ys : List (List GV)) (n : Nat), (∀ r ∈ ys, r.length = ei.size) → (ys.take n).flatten = ys.flatten.take (n * ei.size) := by
                        intro ys
                        induction ys with
                        | nil => intro n _; simp
                        | cons y ys ih =>
                          intro n hy
                          cases n with
                          | zero => simp
                          | succ n =>
                            have hyl := hy y List.mem_cons_self
                            have hd : y.take ((n + 1) * ei.size) = y := List.take_of_length_le (by rw [hyl, Nat.succ_mul]; omega)
                            rw [List.take_succ_cons, List.flatten_cons, List.flatten_cons, List.take_append, hd, hyl, Nat.succ_mul, Nat.add_sub_cancel, ih n (fun r hr => hy r (List.mem_cons_of_mem _ hr))]
                      exact k2 xs n hx0
                    have hr' := hr.grow_row hj (xs.take n ++ news) (vs0.take (n * ei.size) ++ vs) v' e' ei.size (by rw [lenf, htf]; exact (hv0.take _).append hv) (fun r hr => by rcases List.mem_append.1 hr with hr | hr; exact hx0 r (List.mem_of_mem_take hr); exact hm r hr) h0 (by rw [List.length_append, List.length_take, Nat.min_eq_left hnl]; exact hown) hg hbk
                    refine hN _ _ _ _ _ _ hk hr' ?_ (le_grow _ _ _ _ _) (hr.moved (G := fun k => some k = (β j).ownBlock) ⟨hg.os, hg.tape, hg.output, hg.size, fun k hk hn => hg.block k hk hn⟩ (fun k hk => ⟨j, _, hj, rfl, bk_owns hown0 hk.symm⟩))
                    simp only [RepD]
                    rw [List.getElem?_append_right (by simp)]
                    simp only [List.length_set, Nat.sub_self, List.getElem?_cons_zero]
                    exact (upf_eq _ _ _).symm
                · exact h.elim
              · exact h.elim
      · exact h.elim
  · exact h.elim

theorem s_copy (hr : RelD C st.h β V w) (he : EnvOk st β V w a) (hN : Nx C st.h β V w K next) (hT : TabOk P T) {args : Array Operand} {ts : Array TypeId} {o : Oper} (ho : o.op = .call { callee := .builtin .copy, args := args, argTypes := ts }) (h : vcOp P T F C.G (.call { callee := .builtin .copy, args := args, argTypes := ts }) st K Qp) : OpRun P next qp ((execOp a.eval o).run P w) := by
  simp only [vcOp] at h
  split at h
  · rename_i t t' x y hts har
    have hts' : ts = #[t, t'] := by rw [← Array.toArray_toList (xs := ts), hts]
    have har' : args = #[x, y] := by rw [← Array.toArray_toList (xs := args), har]
    subst hts'
    subst har'
    unfold vcCopy at h
    have hx := he.eval hr.gl x
    have hy := he.eval hr.gl y
    split at h
    · rename_i agg size bytes z e hs
      split at h
      · rename_i ei hte
        cases hb1 : Nat.beq ei.size 1 with
        | false => rw [hb1] at h; exact h.elim
        | true =>
          rw [hb1] at h
          simp only [cond_true] at h
          have hsz1 := Nat.eq_of_beq_eq_true hb1
          split at h
          · rename_i i o' n news ex hsrc
            rw [ex] at hx
            split at h
            · rename_i cs ty hi
              cases hb2 : Nat.ble (o' + n) cs.length with
              | false => rw [hb2] at h; exact h.elim
              | true =>
                rw [hb2] at h
                simp only [cond_true] at h
                have hle := Nat.le_of_ble_eq_true hb2
                obtain ⟨cs', rfl, hk⟩ := h
                simp only [RepD, hi] at hx
                obtain ⟨g, c, hb, hv⟩ := hx
                obtain ⟨g', vs, hb', hg, hcs⟩ := hr.obj i _ hi
                have e : g' = g := by rw [hb] at hb'; injection hb' with hb'; injection hb' with hb'; injection hb' with hb'; exact hb'.symm
                subst e
                obtain ⟨d, hd, hdk, _⟩ := (hT t _ hs).d
                have hdk : d = .slice e := hdk
                subst hdk
                obtain ⟨inf, zv, hinf, hsz, _⟩ := (hT e ei hte).inf
                have hsome : (P.info? e).map (·.size) = some 1 := by rw [hinf]; simp [hsz, hsz1]
                have hvl := hcs.len
                have run : ∀ (us : List Value) (sl : Nat), (Builtin.copy_ #[t, t'] o.type #[a.eval x, a.eval y]).run P w = .ok (goInt (us.length : Int)) (w.setRow g' ((⟨vs⟩ : Array Value).toList.take o' ++ us ++ (⟨vs⟩ : Array Value).toList.drop (o' + us.length)).toArray) → RepL V w ((news.take n).flatten) us → us.length = min news.length n → OpRun P next qp ((execOp a.eval o).run P w) := by
                  intro us sl hrun hrep hul
                  have : (execOp a.eval o).run P w = .ok (.value (goInt (us.length : Int))) (w.setRow g' ((⟨vs⟩ : Array Value).toList.take o' ++ us ++ (⟨vs⟩ : Array Value).toList.drop (o' + us.length)).toArray) := by
                    simp [execOp, ho, resolve, invoke, builtin, hrun]
                  rw [this]
                  have hset := setL_rep _ _ _ _ o' hcs ((RepDL_g (h := st.h) (β := β) _ _).2 hrep)
                  rw [setAt_eq _ _ _ (by omega)] at hset
                  have hr' := hr.set_blk hi hb _ _ hset
                  refine hN _ _ _ _ _ _ hk hr' ?_ (le_set hi trivial) (hr.moved (Fr.setRow w g' _) (fun k hk => ⟨i, _, hi, rfl, by subst hk; show bk (β i) = _; rw [hb]; rfl⟩))
                  rw [← hul]
                  exact repI _
                rcases srcD_rep hr hsrc hy (by omega) with ⟨hn0, hy0⟩ | ⟨ad, cap, us, hyv, hrep, hm, hl, hc⟩
                · subst hn0
                  refine run [] 0 ?_ (by simp [RepL]) (by simp)
                  rw [hv, hy0, run_copy_nil P w t t' o.type e _ n c hd (by rw [hinf]; rfl)]
                  simp only [List.length_nil, List.append_nil, Nat.add_zero, List.take_append_drop]
                  rw [setRow_self w g' _ _ _ hg]
                  rfl
                · have hl1 : us.length = news.length := by rw [hl, Nat.mul_one]
                  have hfl : ∀ (l : List (List GV)) (n : Nat), (∀ r ∈ l, r.length = 1) → (l.take n).flatten = l.flatten.take n := by
                    intro l
                    induction l with
                    | nil => intro n _; simp
                    | cons r l ih =>
                      intro n hr
                      have h1 := hr r List.mem_cons_self
                      cases n with
                      | zero => simp
                      | succ n =>
                        match r, h1 with
                        | [x], _ => simp [ih n (fun r h => hr r (List.mem_cons_of_mem _ h))]
                  have hrun := run_copy_row (P := P) w t t' o.type e g' o' n c ad news.length cap ⟨vs⟩ ty (us.take n) hd hsome hg (by rw [List.length_take, hl1]; exact Nat.min_comm _ _) (fun j v hj => hc j v (by
                    have hjl : j < n := by have := (List.getElem?_eq_some_iff.1 hj).1; simp at this; omega
                    rwa [List.getElem?_take_of_lt hjl] at hj)) (by simp; omega) (fun v hv => repL_flat hrep v (List.mem_of_mem_take hv))
                  refine run (us.take n) 0 ?_ ?_ (by rw [List.length_take, hl1, Nat.min_comm])
                  · rw [hv, hyv]
                    exact hrun
                  · rw [hfl news n (fun r hr => hm r hr)]
                    exact hrep.take n
            · exact h.elim
          · exact h.elim
      · exact h.elim
    · exact h.elim
  · exact h.elim

/-- A value that holds no memory. -/
theorem memFree_rep {h h' : Heap} {β β' : Nat → Value} {V V' : Nat → Prop} {w w' : World} {m : Nat} : ∀ (n : Nat) (d : D) (v : Value), memFree n d = true → RepD h β V w d v → RepD h' β' V' w' (sh m n d) v := by
  intro n
  induction n with
  | zero => intro d v hf; cases hf
  | succ n ih =>
    intro d v hf hd
    have list : ∀ (ds : List D) (vs : List Value), ds.all (memFree n) = true → RepDL h β V w ds vs → RepDL h' β' V' w' (ds.map (sh m n)) vs := by
      intro ds
      induction ds with
      | nil => intro vs _ h; simp only [RepDL, List.map_nil] at h ⊢; exact h
      | cons d ds ihd =>
        intro vs hf h
        simp only [List.all_cons, Bool.and_eq_true] at hf
        simp only [RepDL, List.map_cons] at h ⊢
        obtain ⟨v, us, hv, h1, h2⟩ := h
        exact ⟨v, us, hv, ih d v hf.1 h1, ihd us hf.2 h2⟩
    cases d with
    | g x => cases x <;> simp_all [memFree, sh, RepD, RepV]
    | pb p => simpa only [sh, RepD] using hd
    | pn p => simpa only [sh, RepD] using hd
    | nils => simpa only [sh, RepD] using hd
    | nilP => simpa only [sh, RepD] using hd
    | nilF => simpa only [sh, RepD] using hd
    | nilI => simpa only [sh, RepD] using hd
    | tuple ds =>
      simp only [memFree] at hf
      simp only [sh, RepD] at hd ⊢
      obtain ⟨us, hv, h1⟩ := hd
      exact ⟨us, hv, list ds us hf h1⟩
    | agg ds =>
      simp only [memFree] at hf
      simp only [sh, RepD] at hd ⊢
      obtain ⟨us, hv, h1⟩ := hd
      exact ⟨us, hv, list ds us hf h1⟩
    | iface t x =>
      simp only [memFree] at hf
      simp only [sh, RepD] at hd ⊢
      obtain ⟨u, hv, h1⟩ := hd
      exact ⟨u, hv, ih x u hf h1⟩
    | _ => simp [memFree] at hf

/-- Memory of a call behind memory of the caller. -/
def joinβ (n : Nat) (β β' : Nat → Value) : Nat → Value := fun i => if i < n then β i else β' (i - n)
mutual
theorem sh_rep {h h' : Heap} {β β' : Nat → Value} {V : Nat → Prop} {w : World} : ∀ (n : Nat) (d : D) (v : Value), RepD h' β' V w d v → RepD (h ++ h'.map (shO h.length)) (joinβ h.length β β') V w (sh h.length n d) v
  | 0, d, v, _ => by simp only [sh, RepD]
  | n + 1, .g x, v, hd => by simp only [sh, RepD] at hd ⊢; exact hd
  | n + 1, .pb x, v, hd => by simp only [sh, RepD] at hd ⊢; exact hd
  | n + 1, .pn x, v, hd => by simp only [sh, RepD] at hd ⊢; exact hd
  | n + 1, .nils, v, hd => by simp only [sh, RepD] at hd ⊢; exact hd
  | n + 1, .nilP, v, hd => by simp only [sh, RepD] at hd ⊢; exact hd
  | n + 1, .nilF, v, hd => by simp only [sh, RepD] at hd ⊢; exact hd
  | n + 1, .nilI, v, hd => by simp only [sh, RepD] at hd ⊢; exact hd
  | n + 1, .fp r o, v, hd => by simp only [sh, RepD] at hd ⊢; exact hd
  | n + 1, .any, v, hd => by simp only [sh, RepD]
  | n + 1, .row i, v, hd => by
    simp only [sh, RepD] at hd ⊢
    have hB : joinβ h.length β β' (i + h.length) = β' i := by simp [joinβ, show ¬ (i + h.length < h.length) from by omega]
    rw [List.getElem?_append_right (by omega), Nat.add_sub_cancel, List.getElem?_map, hB]
    cases ho : h'[i]? with
    | none => rw [ho] at hd; exact hd.elim
    | some o => rw [ho] at hd; cases o <;> simp_all [shO]
  | n + 1, .rs i lo k, v, hd => by
    simp only [sh, RepD] at hd ⊢
    have hB : joinβ h.length β β' (i + h.length) = β' i := by simp [joinβ, show ¬ (i + h.length < h.length) from by omega]
    rw [List.getElem?_append_right (by omega), Nat.add_sub_cancel, List.getElem?_map, hB]
    cases ho : h'[i]? with
    | none => rw [ho] at hd; exact hd.elim
    | some o => rw [ho] at hd; cases o <;> simp_all [shO]
  | n + 1, .ptr i off, v, hd => by
    simp only [sh, RepD] at hd ⊢
    have hB : joinβ h.length β β' (i + h.length) = β' i := by simp [joinβ, show ¬ (i + h.length < h.length) from by omega]
    rw [List.getElem?_append_right (by omega), Nat.add_sub_cancel, List.getElem?_map, hB]
    cases ho : h'[i]? with
    | none => rw [ho] at hd; exact hd.elim
    | some o => rw [ho] at hd; cases o <;> simp_all [shO]
  | n + 1, .el i j off, v, hd => by
    simp only [sh, RepD] at hd ⊢
    have hB : joinβ h.length β β' (i + h.length) = β' i := by simp [joinβ, show ¬ (i + h.length < h.length) from by omega]
    rw [List.getElem?_append_right (by omega), Nat.add_sub_cancel, List.getElem?_map, hB]
    cases ho : h'[i]? with
    | none => rw [ho] at hd; exact hd.elim
    | some o => rw [ho] at hd; cases o <;> simp_all [shO]
  | n + 1, .fn f fs cs, v, hd => by
    simp only [sh, RepD] at hd ⊢
    obtain ⟨us, ts, hv, h1, h2⟩ := hd
    exact ⟨us, ts, hv, shL_rep n fs us h1, shL_rep n cs ts h2⟩
  | n + 1, .iface t x, v, hd => by
    simp only [sh, RepD] at hd ⊢
    obtain ⟨u, hv, h1⟩ := hd
    exact ⟨u, hv, sh_rep n x u h1⟩
  | n + 1, .agg cs, v, hd => by
    simp only [sh, RepD] at hd ⊢
    obtain ⟨us, hv, h1⟩ := hd
    exact ⟨us, hv, shL_rep n cs us h1⟩
  | n + 1, .tuple cs, v, hd => by
    simp only [sh, RepD] at hd ⊢
    obtain ⟨us, hv, h1⟩ := hd
    exact ⟨us, hv, shL_rep n cs us h1⟩
theorem shL_rep {h h' : Heap} {β β' : Nat → Value} {V : Nat → Prop} {w : World} : ∀ (n : Nat) (ds : List D) (vs : List Value), RepDL h' β' V w ds vs → RepDL (h ++ h'.map (shO h.length)) (joinβ h.length β β') V w (ds.map (sh h.length n)) vs
  | n, [], vs, hd => by simp only [RepDL, List.map_nil] at hd ⊢; exact hd
  | n, d :: ds, vs, hd => by
    simp only [RepDL, List.map_cons] at hd ⊢
    obtain ⟨v, us, hv, h1, h2⟩ := hd
    exact ⟨v, us, hv, sh_rep n d v h1, shL_rep n ds us h2⟩
end

theorem join_le (h h' : Heap) (β β' : Nat → Value) : LeH h β (h ++ h') (joinβ h.length β β') := by
  intro i o hi
  have hl : i < h.length := (List.getElem?_eq_some_iff.1 hi).1
  exact ⟨o, by rw [List.getElem?_append_left hl]; exact hi, OLe.refl o, fun _ => by simp [joinβ, hl]⟩
theorem shO_live (m : Nat) (o : Obj) : (shO m o).live = o.live := by cases o <;> rfl
theorem shO_Bk (m : Nat) (o : Obj) (v : Value) (k : Nat) : Bk (shO m o) v k ↔ Bk o v k := by cases o <;> exact Iff.rfl
theorem rnT_mem {f : Nat → Nat} : ∀ {ts : List (Value × Nat)} {t : Value × Nat}, t ∈ rnT f ts → ∃ q, (t.1, q) ∈ ts ∧ f q = t.2
  | [], t, h => by simp [rnT] at h
  | (v, q) :: l, t, h => by
    simp only [rnT] at h
    rcases List.mem_cons.1 h with rfl | h
    · exact ⟨q, List.mem_cons_self, rfl⟩
    · obtain ⟨q', h1, h2⟩ := rnT_mem h
      exact ⟨q', List.mem_cons_of_mem _ h1, h2⟩

theorem after_join {h h' : Heap} {β' : Nat → Value} {V V' : Nat → Prop} {w' : World} (hr : RelD C h β V w) (hc : RelD ⟨w, fun _ => False, V, C.G⟩ h' β' V' w') : RelD C (h ++ h'.map (shO h.length)) (joinβ h.length β β') V' w' := by
  have hm : Moved V w V' w' := fun k hk => ⟨hc.vin k hk, hc.fr.block k (hr.vlt k hk) (fun h => h)⟩
  have left : ∀ (i : Nat), i < h.length → joinβ h.length β β' i = β i := fun i hi => by simp [joinβ, hi]
  have right : ∀ (i : Nat), h.length ≤ i → joinβ h.length β β' i = β' (i - h.length) := fun i hi => by simp [joinβ, Nat.not_lt.2 hi]
  have at_ : ∀ (i : Nat) (o : Obj), (h ++ h'.map (shO h.length))[i]? = some o → (i < h.length ∧ h[i]? = some o) ∨ (h.length ≤ i ∧ ∃ o', h'[i - h.length]? = some o' ∧ o = shO h.length o') := by
    intro i o hi
    by_cases hl : i < h.length
    · rw [List.getElem?_append_left hl] at hi; exact .inl ⟨hl, hi⟩
    · rw [List.getElem?_append_right (by omega), List.getElem?_map] at hi
      cases ho : h'[i - h.length]? with
      | none => rw [ho] at hi; cases hi
      | some o' => rw [ho] at hi; simp at hi; exact .inr ⟨by omega, o', rfl, hi.symm⟩
  refine ⟨fun i o hi => ?_, fun i j o o' k hi hl hj hl' hk hk' => ?_, fun i o k hi hl hk => ?_, fun i o k hi hl hk => ?_, hc.vlt, fun k hk => hc.vin k (hr.vin k hk), fun k hk => ?_, ?_, hc.gl⟩
  · rcases at_ i o hi with ⟨hl, h1⟩ | ⟨hl, o', h1, rfl⟩
    · cases hlv : o.live with
      | false => cases o <;> simp_all [Obj.live, ObjOk]
      | true => exact (hr.obj i o h1).keep (join_le h _ β β') hm (left i hl) (fun k hk => hc.fr.block k (hr.lt h1 hlv hk) (fun h => h))
    · have hob := hc.obj _ _ h1
      have hB := right i hl
      cases o' with
      | dead => trivial
      | blk cs t =>
        obtain ⟨g, vs, hb, hg, hcs⟩ := hob
        exact ⟨g, vs, hB.trans hb, hg, shL_rep 4 cs vs hcs⟩
      | row xs e sz =>
        obtain ⟨vs, hown, rest⟩ := hob
        exact ⟨vs, by rw [hB]; exact hown, rest⟩
      | many l ts =>
        refine ⟨hob.1, hob.2.1, fun t ht => ?_⟩
        obtain ⟨q, hq, e⟩ := rnT_mem ht
        obtain ⟨o', ho', hb⟩ := hob.2.2 _ hq
        refine ⟨shO h.length o', ?_, fun hl => ?_⟩
        · rw [← e, List.getElem?_append_right (by omega), Nat.add_sub_cancel, List.getElem?_map, ho']
          rfl
        · rw [← e, right _ (by omega), Nat.add_sub_cancel]
          exact hb (by rwa [shO_live] at hl)
  · rcases at_ i o hi with ⟨hli, h1⟩ | ⟨hli, oi, h1, rfl⟩ <;> rcases at_ j o' hj with ⟨hlj, g1⟩ | ⟨hlj, oj, g1, rfl⟩
    · rw [left i hli] at hk
      rw [left j hlj] at hk'
      exact hr.sep i j o o' k h1 hl g1 hl' hk hk'
    · rw [left i hli] at hk
      rw [right j hlj, shO_Bk] at hk'
      rw [shO_live] at hl'
      have h2 := hr.lt h1 hl hk
      rcases hc.mine _ _ k g1 hl' hk' with h3 | h3
      · exact absurd h2 (Nat.not_lt.2 h3)
      · exact h3.elim
    · rw [right i hli, shO_Bk] at hk
      rw [left j hlj] at hk'
      rw [shO_live] at hl
      have h2 := hr.lt g1 hl' hk'
      rcases hc.mine _ _ k h1 hl hk with h3 | h3
      · exact absurd h2 (Nat.not_lt.2 h3)
      · exact h3.elim
    · rw [right i hli, shO_Bk] at hk
      rw [right j hlj, shO_Bk] at hk'
      rw [shO_live] at hl hl'
      have := hc.sep _ _ oi oj k h1 hl g1 hl' hk hk'
      omega
  · rcases at_ i o hi with ⟨hli, h1⟩ | ⟨hli, oi, h1, rfl⟩
    · rw [left i hli] at hk
      exact hr.mine i o k h1 hl hk
    · rw [right i hli, shO_Bk] at hk
      rw [shO_live] at hl
      rcases hc.mine _ _ k h1 hl hk with h3 | h3
      · exact .inl (Nat.le_trans hr.fr.size h3)
      · exact h3.elim
  · rcases at_ i o hi with ⟨hli, h1⟩ | ⟨hli, oi, h1, rfl⟩
    · rw [left i hli] at hk
      intro hv
      rcases hc.vnew k hv with h2 | h2 | h2
      · exact hr.vout i o k h1 hl hk h2
      · exact absurd (hr.lt h1 hl hk) (Nat.not_lt.2 h2)
      · exact h2
    · rw [right i hli, shO_Bk] at hk
      rw [shO_live] at hl
      exact hc.vout _ _ k h1 hl hk
  · rcases hc.vnew k hk with h2 | h2 | h2
    · exact hr.vnew k h2
    · exact .inr (.inl (Nat.le_trans hr.fr.size h2))
    · exact h2.elim
  · refine ⟨hc.fr.os.trans hr.fr.os, hc.fr.tape.trans hr.fr.tape, hc.fr.output.trans hr.fr.output, Nat.le_trans hr.fr.size hc.fr.size, fun k hk hn => ?_⟩
    rw [hc.fr.block k (Nat.lt_of_lt_of_le hk hr.fr.size) (fun h => h)]
    exact hr.fr.block k hk hn

/-- Behind a call that left nothing. -/
theorem after_keep {h : Heap} {h' : Heap} {β' : Nat → Value} {Vc V' : Nat → Prop} {w' : World} (hr : RelD C h β V w) (hc : RelD ⟨w, fun _ => False, Vc, C.G⟩ h' β' V' w') : RelD C h β V w' ∧ Moved V w V w' := by
  have hm : Moved V w V w' := fun k hk => ⟨hk, hc.fr.block k (hr.vlt k hk) (fun h => h)⟩
  refine ⟨⟨fun i o hi => ?_, hr.sep, hr.mine, hr.vout, fun k hk => Nat.lt_of_lt_of_le (hr.vlt k hk) hc.fr.size, hr.vin, hr.vnew, ?_, hr.gl.move hm⟩, hm⟩
  · cases hlv : o.live with
    | false => cases o <;> simp_all [Obj.live, ObjOk]
    | true => exact (hr.obj i o hi).keep (LeH.refl h β) hm rfl (fun k hk => hc.fr.block k (hr.lt hi hlv hk) (fun h => h))
  · refine ⟨hc.fr.os.trans hr.fr.os, hc.fr.tape.trans hr.fr.tape, hc.fr.output.trans hr.fr.output, Nat.le_trans hr.fr.size hc.fr.size, fun k hk hn => ?_⟩
    rw [hc.fr.block k (Nat.lt_of_lt_of_le hk hr.fr.size) (fun h => h)]
    exact hr.fr.block k hk hn

theorem LeH.trans {h1 h2 h3 : Heap} {β1 β2 β3 : Nat → Value} (a : LeH h1 β1 h2 β2) (b : LeH h2 β2 h3 β3) : LeH h1 β1 h3 β3 := by
  intro i o hi
  obtain ⟨o2, g1, g2, g3⟩ := a i o hi
  obtain ⟨o3, k1, k2, k3⟩ := b i o2 g1
  refine ⟨o3, k1, ?_, fun hl => ?_⟩
  · cases o <;> cases o2 <;> cases o3 <;> simp_all [OLe]
  · have : o2.live = true := by cases o2 <;> cases o3 <;> simp_all [OLe, Obj.live]
    rw [k3 hl, g3 this]

theorem call_sound {all : List D} {vals : List Value} {as : List D} {g : FuncId} {Q : Out → Prop} (hr : RelD C st.h β V w) (hN : Nx C st.h β V w K next) (hP : Px C st.h β V w Qp qp) (hall : RepDL st.h β V w all vals)
    (hl : likeA (all.map (conv st.h [] 4)) as) (hct : CT P C.G g as Q) (hk : ∀ d h', Q (.ret d h') → K (sh st.h.length 4 d) (after st.h (idsL all) d h')) (hp : ∀ d, Q (.pan d) → Qp d (kills st.h (idsL all))) :
    Calls P g ⟨vals⟩ w fun
      | .returned v, w'' => next v w''
      | .panicked ch, w'' => qp ch w''
      | .outgrown, _ => False := by
  have hck := kill_rel hr (idsL all)
  have hargs : RepDL [] (turnβ [] β) (killV st.h (idsL all) β V) w (all.map (conv st.h [] 4)) vals := by
    refine convL_rep (src := []) hr (fun i => i ∈ idsL all) (fun k hk => .inl hk) (fun i o k h1 h2 h3 h4 => .inr ⟨i, o, h1, h2, h3, h4⟩) 4 all vals (fun d hd i hi _ => ids_mem hd i hi (fun j hj => hj)) hall
  have hargs' : RepDL [] (fun _ => undef) (killV st.h (idsL all) β V) w as vals := by
    have := likeA_rep hl hargs
    exact RepDL.mono (h' := []) (fun i o hi => by simp at hi) (Moved.refl _ _) _ _ this
  refine (hct w _ vals hck.vlt hck.gl hargs').mono fun e w' he => ?_
  cases e with
  | returned v =>
    obtain ⟨d, h', β', V', hq, hrel, hd⟩ := he
    have hK := hk d h' hq
    unfold after at hK
    cases hmf : memFree 4 d && isNil h' with
    | true =>
      rw [hmf] at hK
      simp only [cond_true] at hK
      simp only [Bool.and_eq_true] at hmf
      obtain ⟨h1, h2⟩ := after_keep hr hrel
      exact hN _ _ _ _ _ _ hK h1 (memFree_rep 4 d v hmf.1 hd) (LeH.refl _ _) h2
    | false =>
      rw [hmf] at hK
      simp only [cond_false] at hK
      have hj := after_join hck hrel
      rw [kills_len] at hj
      refine hN _ _ _ _ _ _ hK hj ?_ ?_ ?_
      · have := sh_rep (h := kills st.h (idsL all)) (β := β) 4 d v hd
        rw [kills_len] at this
        exact this
      · have := join_le (kills st.h (idsL all)) (h'.map (shO st.h.length)) β β'
        rw [kills_len] at this
        exact (kills_le (idsL all) st.h β).trans this
      · exact (kill_moved _ _ _ _ _).trans (fun k hk => ⟨hrel.vin k hk, hrel.fr.block k (hck.vlt k hk) (fun h => h)⟩)
  | panicked ch =>
    obtain ⟨d, t, u, β', V', rfl, hq, hrel, hd⟩ := he
    have hj := after_join hck hrel
    simp only [List.map_nil, List.append_nil] at hj
    refine hP d _ t u w' _ _ (hp d hq) hj ?_ ?_ ((kill_moved _ _ _ _ _).trans (fun k hk => ⟨hrel.vin k hk, hrel.fr.block k (hck.vlt k hk) (fun h => h)⟩))
    · exact RepD.mono (fun i o hi => by simp at hi) (Moved.refl _ _) _ _ hd
    · have := join_le (kills st.h (idsL all)) [] β β'
      rw [List.append_nil] at this
      exact (kills_le (idsL all) st.h β).trans this
  | outgrown => exact he.elim

/-! Calls that are handed memory of the caller's own. -/
theorem ids_succ : ∀ (n : Nat) (d : D) (i : Nat), i ∈ ids n d → i ∈ ids (n + 1) d := by
  intro n
  induction n with
  | zero => intro d i h; simp [ids] at h
  | succ n ih =>
    intro d i h
    cases d with
    | fn f fs cs =>
      simp only [ids, List.mem_append, List.mem_flatMap] at h ⊢
      rcases h with ⟨a, ha, hi⟩ | ⟨a, ha, hi⟩
      · exact .inl ⟨a, ha, ih a i hi⟩
      · exact .inr ⟨a, ha, ih a i hi⟩
    | iface t x => simp only [ids] at h ⊢; exact ih x i h
    | agg cs =>
      simp only [ids, List.mem_flatMap] at h ⊢
      obtain ⟨a, ha, hi⟩ := h
      exact ⟨a, ha, ih a i hi⟩
    | tuple cs =>
      simp only [ids, List.mem_flatMap] at h ⊢
      obtain ⟨a, ha, hi⟩ := h
      exact ⟨a, ha, ih a i hi⟩
    | _ => first | exact h | (simp [ids] at h)
theorem inσ_iff {i : Nat} : ∀ {l : List Nat}, inσ l i = true ↔ i ∈ l
  | [] => by simp [inσ]
  | a :: l => by
    simp only [inσ, Bool.or_eq_true, inσ_iff (l := l), List.mem_cons]
    constructor
    · rintro (h | h)
      · exact .inl (Nat.eq_of_beq_eq_true h).symm
      · exact .inr h
    · rintro (h | h)
      · exact .inl (by rw [h]; exact Nat.beq_refl a)
      · exact .inr h
theorem mem_src {σ : List Nat} {i : Nat} (h : i ∈ σ) : ∃ k, kp (σ.map .old) 0 i = some k ∧ σ[k]? = some i := by
  obtain ⟨j, hj, rfl⟩ := List.getElem_of_mem h
  obtain ⟨q, hq⟩ := kp_of (src := σ.map .old) (p := 0) (i := σ[j]) (j := j) (by simp [hj])
  refine ⟨q, hq, ?_⟩
  have := (kp_some hq).2
  simp only [Nat.sub_zero, List.getElem?_map, Option.map_eq_some_iff] at this
  obtain ⟨a, ha, e⟩ := this
  injection e with e
  rw [ha, e]
theorem src_at {σ : List Nat} {k i : Nat} (h : kp (σ.map .old) 0 i = some k) : σ[k]? = some i := by
  have := (kp_some h).2
  simp only [Nat.sub_zero, List.getElem?_map, Option.map_eq_some_iff] at this
  obtain ⟨a, ha, e⟩ := this
  injection e with e
  rw [ha, e]
theorem src_inj {σ : List Nat} (hs : srcOk (σ.map .old) = true) {a b i : Nat} (ha : σ[a]? = some i) (hb : σ[b]? = some i) : a = b :=
  kp_inj hs (i := i) (by simp [ha]) (by simp [hb])
/-- What is handed over, alone. -/
theorem sub_rel {h : Heap} {σ : List Nat} (hr : RelD C h β V w) (hs : srcOk (σ.map .old) = true) (hcl : ∀ i ∈ σ, ∃ o, h[i]? = some o ∧ ∀ j ∈ idsO o, j ∈ σ) : RelD C (turnH h (σ.map .old)) (turnβ (σ.map .old) β) V w := by
  have at_ : ∀ (j : Nat) (o : Obj), (turnH h (σ.map .old))[j]? = some o → ∃ i, σ[j]? = some i ∧ o = turnO h (σ.map .old) (.old i) ∧ turnβ (σ.map .old) β j = β i := by
    intro j o hj
    unfold turnH at hj
    rw [List.getElem?_map, List.getElem?_map] at hj
    cases hsj : σ[j]? with
    | none => rw [hsj] at hj; cases hj
    | some i => rw [hsj] at hj; simp at hj; exact ⟨i, rfl, hj.symm, by simp [turnβ, hsj]⟩
  have old : ∀ (j : Nat) (o : Obj) (k : Nat), (turnH h (σ.map .old))[j]? = some o → o.live = true → Bk o (turnβ (σ.map .old) β j) k → ∃ i o', σ[j]? = some i ∧ h[i]? = some o' ∧ o'.live = true ∧ Bk o' (β i) k := by
    intro j o k hj hl hk
    obtain ⟨i, hi, rfl, hB⟩ := at_ j o hj
    rw [hB] at hk
    cases ho : h[i]? with
    | none => simp [turnO, ho, Obj.live] at hl
    | some o' =>
      cases o' with
      | dead => simp [turnO, ho, Obj.live] at hl
      | blk cs t => exact ⟨i, _, hi, ho, rfl, by simpa only [turnO, ho, Bk] using hk⟩
      | row xs e sz => exact ⟨i, _, hi, ho, rfl, by simpa only [turnO, ho, Bk] using hk⟩
      | many l ts => exact ⟨i, _, hi, ho, rfl, by simpa only [turnO, ho, Bk] using hk⟩
  refine ⟨fun j o hj => ?_, fun a b o o' k ha hla hb hlb hka hkb => ?_, fun j o k hj hl hk => ?_, fun j o k hj hl hk => ?_, hr.vlt, hr.vin, hr.vnew, hr.fr, hr.gl⟩
  · obtain ⟨i, hi, rfl, hB⟩ := at_ j o hj
    obtain ⟨o', ho, hids⟩ := hcl i (List.mem_of_getElem? hi)
    have hob := hr.obj i _ ho
    cases o' with
    | dead => simp only [turnO, ho, ObjOk]
    | blk cs t =>
      obtain ⟨g, vs, hb, hg, hc⟩ := hob
      simp only [turnO, ho, ObjOk]
      refine ⟨g, vs, hB.trans hb, hg, convL_rep hr (fun _ => False) (fun _ hk => hk) (fun _ _ _ hz => hz.elim) 3 cs vs (fun d hd i' hi' hn => ?_) hc⟩
      obtain ⟨k, hk, _⟩ := mem_src (hids i' (ids_mem hd i' (ids_succ 3 d i' hi') (fun j hj => hj)))
      rw [hn] at hk
      cases hk
    | row xs e sz =>
      simp only [turnO, ho, ObjOk]
      rw [hB]
      exact hob
    | many l ts =>
      simp only [turnO, ho, ObjOk]
      exact ⟨hob.1, hob.2.1, fun t ht => tagT_ok hob.2.2 ht⟩
  · obtain ⟨i, oi, hi1, hi2, hi3, hi4⟩ := old a o k ha hla hka
    obtain ⟨j, oj, hj1, hj2, hj3, hj4⟩ := old b o' k hb hlb hkb
    have := hr.sep i j oi oj k hi2 hi3 hj2 hj3 hi4 hj4
    subst this
    exact src_inj hs hi1 hj1
  · obtain ⟨i, oi, _, hi2, hi3, hi4⟩ := old j o k hj hl hk
    exact hr.mine i oi k hi2 hi3 hi4
  · obtain ⟨i, oi, _, hi2, hi3, hi4⟩ := old j o k hj hl hk
    exact hr.vout i oi k hi2 hi3 hi4

section
variable {h' H : Heap} {γ β' : Nat → Value} {V' : Nat → Prop} {w' : World} {f : Nat → Nat}
mutual
theorem rn_rep (hf : ∀ (i : Nat) (o : Obj), h'[i]? = some o → H[f i]? = some (rnO f o) ∧ γ (f i) = β' i) : ∀ (n : Nat) (d : D) (v : Value), RepD h' β' V' w' d v → RepD H γ V' w' (rnD f n d) v
  | 0, d, v, _ => by simp only [rnD, RepD]
  | n + 1, .g x, v, hd => by simp only [rnD, RepD] at hd ⊢; exact hd
  | n + 1, .pb x, v, hd => by simp only [rnD, RepD] at hd ⊢; exact hd
  | n + 1, .pn x, v, hd => by simp only [rnD, RepD] at hd ⊢; exact hd
  | n + 1, .nils, v, hd => by simp only [rnD, RepD] at hd ⊢; exact hd
  | n + 1, .nilP, v, hd => by simp only [rnD, RepD] at hd ⊢; exact hd
  | n + 1, .nilF, v, hd => by simp only [rnD, RepD] at hd ⊢; exact hd
  | n + 1, .nilI, v, hd => by simp only [rnD, RepD] at hd ⊢; exact hd
  | n + 1, .fp r o, v, hd => by simp only [rnD, RepD] at hd ⊢; exact hd
  | n + 1, .any, v, hd => by simp only [rnD, RepD]
  | n + 1, .row i, v, hd => by
    simp only [rnD, RepD] at hd ⊢
    cases ho : h'[i]? with
    | none => rw [ho] at hd; exact hd.elim
    | some o =>
      obtain ⟨h1, h2⟩ := hf i o ho
      rw [h1, h2]
      rw [ho] at hd; cases o <;> simp_all [rnO]
  | n + 1, .rs i lo k, v, hd => by
    simp only [rnD, RepD] at hd ⊢
    cases ho : h'[i]? with
    | none => rw [ho] at hd; exact hd.elim
    | some o =>
      obtain ⟨h1, h2⟩ := hf i o ho
      rw [h1, h2]
      rw [ho] at hd; cases o <;> simp_all [rnO]
  | n + 1, .ptr i off, v, hd => by
    simp only [rnD, RepD] at hd ⊢
    cases ho : h'[i]? with
    | none => rw [ho] at hd; exact hd.elim
    | some o =>
      obtain ⟨h1, h2⟩ := hf i o ho
      rw [h1, h2]
      rw [ho] at hd; cases o <;> simp_all [rnO]
  | n + 1, .el i j off, v, hd => by
    simp only [rnD, RepD] at hd ⊢
    cases ho : h'[i]? with
    | none => rw [ho] at hd; exact hd.elim
    | some o =>
      obtain ⟨h1, h2⟩ := hf i o ho
      rw [h1, h2]
      rw [ho] at hd; cases o <;> simp_all [rnO]
  | n + 1, .fn g fs cs, v, hd => by
    simp only [rnD, RepD] at hd ⊢
    obtain ⟨us, ts, hv, h1, h2⟩ := hd
    exact ⟨us, ts, hv, rnL_rep hf n fs us h1, rnL_rep hf n cs ts h2⟩
  | n + 1, .iface t x, v, hd => by
    simp only [rnD, RepD] at hd ⊢
    obtain ⟨u, hv, h1⟩ := hd
    exact ⟨u, hv, rn_rep hf n x u h1⟩
  | n + 1, .agg cs, v, hd => by
    simp only [rnD, RepD] at hd ⊢
    obtain ⟨us, hv, h1⟩ := hd
    exact ⟨us, hv, rnL_rep hf n cs us h1⟩
  | n + 1, .tuple cs, v, hd => by
    simp only [rnD, RepD] at hd ⊢
    obtain ⟨us, hv, h1⟩ := hd
    exact ⟨us, hv, rnL_rep hf n cs us h1⟩
theorem rnL_rep (hf : ∀ (i : Nat) (o : Obj), h'[i]? = some o → H[f i]? = some (rnO f o) ∧ γ (f i) = β' i) : ∀ (n : Nat) (ds : List D) (vs : List Value), RepDL h' β' V' w' ds vs → RepDL H γ V' w' (ds.map (rnD f n)) vs
  | n, [], vs, hd => by simp only [RepDL, List.map_nil] at hd ⊢; exact hd
  | n, d :: ds, vs, hd => by
    simp only [RepDL, List.map_cons] at hd ⊢
    obtain ⟨v, us, hv, h1, h2⟩ := hd
    exact ⟨v, us, hv, rn_rep hf n d v h1, rnL_rep hf n ds us h2⟩
end
end
theorem putO_get {src : List Src} {b : Nat} {f : Nat → Nat} {h' : Heap} : ∀ (l : Heap) (p j : Nat), (putO src b f h' p l)[j]? = (l[j]?).map (putE src b f h' (p + j))
  | [], p, j => by simp [putO]
  | o :: l, p, 0 => by simp [putO]
  | o :: l, p, j + 1 => by
    simp only [putO, List.getElem?_cons_succ]
    rw [putO_get l (p + 1) j, show p + 1 + j = p + (j + 1) from by omega]
theorem putO_len {src : List Src} {b : Nat} {f : Nat → Nat} {h' : Heap} : ∀ (l : Heap) (p : Nat), (putO src b f h' p l).length = l.length
  | [], p => rfl
  | o :: l, p => by simp only [putO, List.length_cons, putO_len l (p + 1)]
theorem atN_eq : ∀ {l : List Nat} {i j : Nat}, l[i]? = some j → atN l i = j
  | [], i, j, h => by simp at h
  | a :: l, 0, j, h => by simpa [atN] using h
  | a :: l, i + 1, j, h => by simp only [atN]; exact atN_eq (by simpa using h)
theorem rnO_live (f : Nat → Nat) (o : Obj) : (rnO f o).live = o.live := by cases o <;> rfl
theorem rnO_Bk (f : Nat → Nat) (o : Obj) (v : Value) (k : Nat) : Bk (rnO f o) v k ↔ Bk o v k := by cases o <;> exact Iff.rfl
theorem isBlk_at {h : Heap} {i : Nat} (hb : isBlk h i = true) : ∃ cs t, h[i]? = some (.blk cs t) := by
  unfold isBlk at hb
  split at hb
  · rename_i cs t e; exact ⟨cs, t, e⟩
  · cases hb

theorem OLe_rn {o o' : Obj} (f : Nat → Nat) (h : OLe o o') : OLe o (rnO f o') := by cases o <;> cases o' <;> simp_all [OLe, rnO]
theorem OLe_turn {h : Heap} {src : List Src} {j : Nat} {o : Obj} (hj : h[j]? = some o) : OLe o (turnO h src (.old j)) := by
  cases o <;> simp [turnO, hj, OLe]
theorem OLe_trans {a b c : Obj} (h : OLe a b) (k : OLe b c) (hl : c.live = true) : OLe a c := by
  cases a <;> cases b <;> cases c <;> simp_all [OLe, Obj.live]
/-- The caller's memory behind such a call stands. -/
theorem put_rel {h : Heap} {σ : List Nat} {b : Nat} {own : Nat → Prop} {h' : Heap} {β' : Nat → Value} {V' : Nat → Prop} {w' : World} (hr : RelD C h β V w) (hs : srcOk (σ.map .old) = true)
    (hcl : ∀ i ∈ σ, ∃ o, h[i]? = some o) (hown : ∀ k, own k → ∃ i o, i ∈ σ ∧ h[i]? = some o ∧ o.live = true ∧ Bk o (β i) k)
    (hc : RelD ⟨w, own, V, C.G⟩ h' β' V' w') (hk : ∀ i, i < b → ∃ j o o', σ[i]? = some j ∧ h[j]? = some o ∧ h'[i]? = some o' ∧ OLe o o' ∧ β' i = β j) :
    RelD C (putH h σ b h') (fun j => if j < h.length then β j else β' (j - h.length + b)) V' w' ∧ LeH h β (putH h σ b h') (fun j => if j < h.length then β j else β' (j - h.length + b)) ∧ Moved V w V' w' ∧
      ∀ (i : Nat) (o : Obj), h'[i]? = some o → (putH h σ b h')[rnI σ b h.length i]? = some (rnO (rnI σ b h.length) o) ∧ (fun j => if j < h.length then β j else β' (j - h.length + b)) (rnI σ b h.length i) = β' i := by
  generalize hγ : (fun j => if j < h.length then β j else β' (j - h.length + b)) = γ
  have left : ∀ j, j < h.length → γ j = β j := fun j hj => by rw [← hγ]; simp [hj]
  have right : ∀ j, h.length ≤ j → γ j = β' (j - h.length + b) := fun j hj => by rw [← hγ]; simp [Nat.not_lt.2 hj]
  have σlt : ∀ {k j : Nat}, σ[k]? = some j → j < h.length := fun {k j} hkj => by
    obtain ⟨o, ho⟩ := hcl j (List.mem_of_getElem? hkj)
    exact (List.getElem?_eq_some_iff.1 ho).1
  have F1 : ∀ (i : Nat) (o : Obj), h'[i]? = some o → (putH h σ b h')[rnI σ b h.length i]? = some (rnO (rnI σ b h.length) o) ∧ γ (rnI σ b h.length i) = β' i := by
    intro i o hi
    by_cases hib : i < b
    · obtain ⟨j, _, _, hj, _, _, _, hβ⟩ := hk i hib
      have e : rnI σ b h.length i = j := by
        unfold rnI
        rw [show Nat.blt i b = true from Nat.ble_eq_true_of_le hib]
        exact atN_eq hj
      have hjl := σlt hj
      obtain ⟨q, hq, hq'⟩ := mem_src (List.mem_of_getElem? hj)
      have := src_inj hs hq' hj
      subst this
      rw [e, left j hjl]
      refine ⟨?_, hβ.symm⟩
      unfold putH
      rw [List.getElem?_append_left (by rw [putO_len]; exact hjl), putO_get, Nat.zero_add, List.getElem?_eq_getElem hjl]
      unfold putE
      rw [hq]
      simp only [Option.map_some, show Nat.blt q b = true from Nat.ble_eq_true_of_le hib, cond_true, hi]
    · have e : rnI σ b h.length i = i - b + h.length := by
        unfold rnI
        rw [show Nat.blt i b = false from by
          cases hx : Nat.blt i b with
          | false => rfl
          | true => exact absurd (Nat.le_of_ble_eq_true hx) hib]
        rfl
      rw [e, right _ (by omega)]
      refine ⟨?_, by congr 1; omega⟩
      unfold putH
      rw [List.getElem?_append_right (by rw [putO_len]; omega), putO_len, Nat.add_sub_cancel, List.getElem?_map, List.getElem?_drop, show b + (i - b) = i from by omega, hi]
      rfl
  have F2 : ∀ (j : Nat) (o : Obj), (putH h σ b h')[j]? = some o → (j < h.length ∧ j ∉ σ ∧ h[j]? = some o) ∨ o = .dead ∨ ∃ i o', h'[i]? = some o' ∧ o = rnO (rnI σ b h.length) o' ∧ j = rnI σ b h.length i ∧ γ j = β' i := by
    intro j o hj
    by_cases hjl : j < h.length
    · have hj' := hj
      unfold putH at hj
      rw [List.getElem?_append_left (by rw [putO_len]; exact hjl), putO_get, Nat.zero_add, List.getElem?_eq_getElem hjl] at hj
      simp only [Option.map_some, Option.some.injEq] at hj
      unfold putE at hj
      cases hq : kp (σ.map .old) 0 j with
      | none =>
        rw [hq] at hj
        refine .inl ⟨hjl, fun hm => ?_, by rw [← hj]; exact List.getElem?_eq_getElem hjl⟩
        obtain ⟨k, hk', _⟩ := mem_src hm
        rw [hq] at hk'
        cases hk'
      | some k =>
        rw [hq] at hj
        simp only at hj
        cases hkb : Nat.blt k b with
        | false => rw [hkb] at hj; exact .inr (.inl hj.symm)
        | true =>
          rw [hkb] at hj
          simp only [cond_true] at hj
          have hkb' : k < b := Nat.le_of_ble_eq_true hkb
          cases ho : h'[k]? with
          | none => rw [ho] at hj; exact .inr (.inl hj.symm)
          | some o' =>
            rw [ho] at hj
            have hσ := src_at hq
            have e : rnI σ b h.length k = j := by
              unfold rnI
              rw [hkb]
              exact atN_eq hσ
            exact .inr (.inr ⟨k, o', ho, hj.symm, e.symm, by rw [← e]; exact (F1 k o' ho).2⟩)
    · unfold putH at hj
      rw [List.getElem?_append_right (by rw [putO_len]; omega), putO_len, List.getElem?_map, List.getElem?_drop] at hj
      cases ho : h'[b + (j - h.length)]? with
      | none => rw [ho] at hj; cases hj
      | some o' =>
        rw [ho] at hj
        simp only [Option.map_some, Option.some.injEq] at hj
        refine .inr (.inr ⟨_, o', ho, hj.symm, ?_, by rw [right j (by omega)]; congr 1; omega⟩)
        unfold rnI
        rw [show Nat.blt (b + (j - h.length)) b = false from by
          cases hx : Nat.blt (b + (j - h.length)) b with
          | false => rfl
          | true => exact absurd (Nat.le_of_ble_eq_true hx) (by omega)]
        show j = b + (j - h.length) - b + h.length
        omega
  have F3 : ∀ (i i' : Nat) (o o' : Obj), h'[i]? = some o → h'[i']? = some o' → rnI σ b h.length i = rnI σ b h.length i' → i = i' := by
    have val : ∀ i, (i < b ∧ ∃ j, σ[i]? = some j ∧ rnI σ b h.length i = j ∧ j < h.length) ∨ (b ≤ i ∧ rnI σ b h.length i = i - b + h.length) := fun i => by
      by_cases hib : i < b
      · obtain ⟨j, _, _, hj, _, _, _, _⟩ := hk i hib
        refine .inl ⟨hib, j, hj, ?_, σlt hj⟩
        unfold rnI
        rw [show Nat.blt i b = true from Nat.ble_eq_true_of_le hib]
        exact atN_eq hj
      · refine .inr ⟨by omega, ?_⟩
        unfold rnI
        rw [show Nat.blt i b = false from by
          cases hx : Nat.blt i b with
          | false => rfl
          | true => exact absurd (Nat.le_of_ble_eq_true hx) hib]
        rfl
    intro i i' o o' _ _ e
    rcases val i with ⟨_, j, hj, e1, hl⟩ | ⟨hb1, e1⟩ <;> rcases val i' with ⟨_, j', hj', e2, hl'⟩ | ⟨hb2, e2⟩
    · rw [e1, e2] at e
      subst e
      exact src_inj hs hj hj'
    · omega
    · omega
    · omega
  have hnot : ∀ (j : Nat) (o : Obj) (k : Nat), j ∉ σ → h[j]? = some o → o.live = true → Bk o (β j) k → ¬own k := fun j o k hj ho hl hk hw => by
    obtain ⟨i, o', hi, h1, h2, h3⟩ := hown k hw
    have := hr.sep j i o o' k ho hl h1 h2 hk h3
    subst this
    exact hj hi
  have hm : Moved V w V' w' := fun k hk' => ⟨hc.vin k hk', hc.fr.block k (hr.vlt k hk') (fun hw => by
    obtain ⟨i, o', _, h1, h2, h3⟩ := hown k hw
    exact hr.vout i o' k h1 h2 h3 hk')⟩
  have hle : LeH h β (putH h σ b h') γ := by
    intro j o hj
    have hjl : j < h.length := (List.getElem?_eq_some_iff.1 hj).1
    have hjp : j < (putH h σ b h').length := by unfold putH; rw [List.length_append, putO_len]; omega
    rcases F2 j _ (List.getElem?_eq_getElem hjp) with ⟨_, _, h1⟩ | h1 | ⟨i, o', hi, h1, e, hg⟩
    · rw [hj] at h1
      injection h1 with h1
      exact ⟨_, List.getElem?_eq_getElem hjp, by rw [← h1]; exact OLe.refl o, fun _ => left j hjl⟩
    · exact ⟨_, List.getElem?_eq_getElem hjp, by rw [h1]; simp [OLe], fun hl => by rw [h1] at hl; cases hl⟩
    · refine ⟨_, List.getElem?_eq_getElem hjp, ?_, fun _ => left j hjl⟩
      rw [h1]
      have hib : i < b := by
        apply Classical.byContradiction
        intro hn
        have : rnI σ b h.length i = i - b + h.length := by
          unfold rnI
          rw [show Nat.blt i b = false from by
            cases hx : Nat.blt i b with
            | false => rfl
            | true => exact absurd (Nat.le_of_ble_eq_true hx) hn]
          rfl
        omega
      obtain ⟨j', o0, o1, hj', hb2, hb1, hole, _⟩ := hk i hib
      have ej : j = j' := by
        rw [e]
        unfold rnI
        rw [show Nat.blt i b = true from Nat.ble_eq_true_of_le hib]
        exact atN_eq hj'
      subst ej
      rw [hi] at hb1
      injection hb1 with hb1
      rw [hj] at hb2
      injection hb2 with hb2
      rw [hb1, hb2]
      exact OLe_rn _ hole
  refine ⟨⟨fun j o hj => ?_, fun j1 j2 o1 o2 k h1 l1 h2 l2 k1 k2 => ?_, fun j o k hj hl hk' => ?_, fun j o k hj hl hk' => ?_, hc.vlt, fun k hk' => hc.vin k (hr.vin k hk'), fun k hk' => ?_, ?_, hc.gl⟩, hle, hm, F1⟩
  · rcases F2 j o hj with ⟨hjl, hjσ, h1⟩ | rfl | ⟨i, o', hi, rfl, e, hg⟩
    · cases hlv : o.live with
      | false => cases o <;> simp_all [Obj.live, ObjOk]
      | true => exact (hr.obj j o h1).keep hle hm (left j hjl) (fun k hk' => hc.fr.block k (hr.lt h1 hlv hk') (hnot j o k hjσ h1 hlv hk'))
    · trivial
    · have hob := hc.obj i o' hi
      cases o' with
      | dead => trivial
      | blk cs t =>
        obtain ⟨g, vs, hb, hg', hcs⟩ := hob
        exact ⟨g, vs, hg.trans hb, hg', rnL_rep F1 4 cs vs hcs⟩
      | row xs e' sz =>
        obtain ⟨vs, hown', rest⟩ := hob
        exact ⟨vs, by rw [hg]; exact hown', rest⟩
      | many l ts =>
        refine ⟨hob.1, hob.2.1, fun t ht => ?_⟩
        obtain ⟨q, hq, e⟩ := rnT_mem ht
        obtain ⟨o', ho', hb⟩ := hob.2.2 _ hq
        obtain ⟨f1, f2⟩ := F1 _ _ ho'
        refine ⟨_, by rw [← e]; exact f1, fun hl => ?_⟩
        rw [← e]
        exact f2.trans (hb (by rwa [rnO_live] at hl))
  · rcases F2 j1 o1 h1 with ⟨a1, a2, a3⟩ | rfl | ⟨i, oi, hi, rfl, e1, g1⟩ <;> rcases F2 j2 o2 h2 with ⟨b1, b2, b3⟩ | rfl | ⟨i', oi', hi', rfl, e2, g2⟩
    · rw [left j1 a1] at k1
      rw [left j2 b1] at k2
      exact hr.sep j1 j2 o1 o2 k a3 l1 b3 l2 k1 k2
    · cases l2
    · rw [left j1 a1] at k1
      rw [g2, rnO_Bk] at k2
      rw [rnO_live] at l2
      rcases hc.mine i' oi' k hi' l2 k2 with h3 | h3
      · exact absurd (hr.lt a3 l1 k1) (Nat.not_lt.2 h3)
      · exact absurd h3 (hnot j1 o1 k a2 a3 l1 k1)
    · cases l1
    · cases l1
    · cases l1
    · rw [left j2 b1] at k2
      rw [g1, rnO_Bk] at k1
      rw [rnO_live] at l1
      rcases hc.mine i oi k hi l1 k1 with h3 | h3
      · exact absurd (hr.lt b3 l2 k2) (Nat.not_lt.2 h3)
      · exact absurd h3 (hnot j2 o2 k b2 b3 l2 k2)
    · cases l2
    · rw [g1, rnO_Bk] at k1
      rw [g2, rnO_Bk] at k2
      rw [rnO_live] at l1 l2
      have := hc.sep i i' oi oi' k hi l1 hi' l2 k1 k2
      subst this
      rw [e1, e2]
  · rcases F2 j o hj with ⟨a1, a2, a3⟩ | rfl | ⟨i, oi, hi, rfl, e1, g1⟩
    · rw [left j a1] at hk'
      exact hr.mine j o k a3 hl hk'
    · cases hl
    · rw [g1, rnO_Bk] at hk'
      rw [rnO_live] at hl
      rcases hc.mine i oi k hi hl hk' with h3 | h3
      · exact .inl (Nat.le_trans hr.fr.size h3)
      · obtain ⟨i', o', _, q1, q2, q3⟩ := hown k h3
        exact hr.mine i' o' k q1 q2 q3
  · rcases F2 j o hj with ⟨a1, a2, a3⟩ | rfl | ⟨i, oi, hi, rfl, e1, g1⟩
    · rw [left j a1] at hk'
      intro hv
      rcases hc.vnew k hv with h3 | h3 | h3
      · exact hr.vout j o k a3 hl hk' h3
      · exact absurd (hr.lt a3 hl hk') (Nat.not_lt.2 h3)
      · exact hnot j o k a2 a3 hl hk' h3
    · cases hl
    · rw [g1, rnO_Bk] at hk'
      rw [rnO_live] at hl
      exact hc.vout i oi k hi hl hk'
  · rcases hc.vnew k hk' with h3 | h3 | h3
    · exact hr.vnew k h3
    · exact .inr (.inl (Nat.le_trans hr.fr.size h3))
    · obtain ⟨i', o', _, q1, q2, q3⟩ := hown k h3
      exact .inr (hr.mine i' o' k q1 q2 q3)
  · refine ⟨hc.fr.os.trans hr.fr.os, hc.fr.tape.trans hr.fr.tape, hc.fr.output.trans hr.fr.output, Nat.le_trans hr.fr.size hc.fr.size, fun k hk' hn => ?_⟩
    rw [hc.fr.block k (Nat.lt_of_lt_of_le hk' hr.fr.size) (fun hw => ?_)]
    · exact hr.fr.block k hk' hn
    · obtain ⟨i', o', _, q1, q2, q3⟩ := hown k hw
      rcases hr.mine i' o' k q1 q2 q3 with h3 | h3
      · omega
      · exact hn h3

theorem own_start {h : Heap} (hr : RelD C h β V w) : RelD ⟨w, ownB h β, V, C.G⟩ h β V w :=
  ⟨hr.obj, hr.sep, fun i o _ hi hl hk => .inr ⟨i, o, hi, hl, hk⟩, hr.vout, hr.vlt, fun _ hk => hk, fun _ hk => .inl hk, Fr.refl _ _, hr.gl⟩
theorem callH_sound {all : List D} {vals : List Value} {g : FuncId} (hr : RelD C st.h β V w) (hN : Nx C st.h β V w K next) (hP : Px C st.h β V w Qp qp) (hall : RepDL st.h β V w all vals) (ho : OwnCall P C.G g all st.h K Qp) :
    Calls P g ⟨vals⟩ w fun
      | .returned v, w'' => next v w''
      | .panicked ch, w'' => qp ch w''
      | .outgrown, _ => False := by
  obtain ⟨σ, b, hin, as, Q, hcl, hbk, ht, hct, hk, hp⟩ := ho
  simp only [closedσ, Bool.and_eq_true, List.all_eq_true] at hcl
  have hall' : ∀ j ∈ idsL all, j ∈ σ := fun j hj => inσ_iff.1 (hcl.1 j hj)
  have hcl' : ∀ i ∈ σ, ∃ o, st.h[i]? = some o ∧ ∀ j ∈ idsO o, j ∈ σ := fun i hi => by
    have := hcl.2 i hi
    cases ho : st.h[i]? with
    | none => rw [ho] at this; cases this
    | some o =>
      rw [ho] at this
      exact ⟨o, rfl, fun j hj => inσ_iff.1 (List.all_eq_true.1 this j hj)⟩
  have hbk := Nat.le_of_ble_eq_true hbk
  have hsub := sub_rel hr ht.ok hcl'
  have hlike : likeH (newN (σ.map .old)) (turnH st.h (σ.map .old)) hin := by
    rcases ht.hp with e | e
    · rw [← e]; exact likeH_refl _ _
    · exact e
  have h3 := likeH_rel hsub hlike (fun j hj => newN_ok hj) (nrOk_at ht.nr)
  have h4 := own_start h3
  have hargs : RepDL (turnH st.h (σ.map .old)) (turnβ (σ.map .old) β) V w (all.map (conv st.h (σ.map .old) 4)) vals :=
    convL_rep hr (fun _ => False) (fun _ hk => hk) (fun _ _ _ hz => hz.elim) 4 all vals (fun d hd i hi hn => by
      obtain ⟨k, hk, _⟩ := mem_src (hall' i (ids_mem hd i hi (fun j hj => hj)))
      rw [hn] at hk
      cases hk) hall
  have h5 := RepDL.mono (likeH_le (β := turnβ (σ.map .old) β) hlike) (Moved.refl _ w) _ _ hargs
  have h6 : RepDL hin (turnβ (σ.map .old) β) V w as vals := by
    rcases ht.dl with h | h
    · rw [← h]; exact h5
    · exact likeL_rep (like_rep (N := newN (σ.map .old)) (fun j hj => ⟨(newN_ok (h := []) hj).1, nrOk_at ht.nr j hj⟩) 4) _ _ _ h h5
  have hβ : ∀ {i j : Nat}, σ[i]? = some j → turnβ (σ.map .old) β i = β j := fun {i j} hij => by simp [turnβ, hij]
  have hown : ∀ k, ownB hin (turnβ (σ.map .old) β) k → ∃ i o, i ∈ σ ∧ st.h[i]? = some o ∧ o.live = true ∧ Bk o (β i) k := by
    rintro k ⟨i, o, hi, hl, hbk'⟩
    obtain ⟨o0, ho0, hlo⟩ := (likeH_at hlike).2 i o hi
    have hl0 := likeO_live hlo hl
    unfold turnH at ho0
    rw [List.getElem?_map, List.getElem?_map] at ho0
    cases hσ : σ[i]? with
    | none => rw [hσ] at ho0; cases ho0
    | some j =>
      rw [hσ] at ho0
      simp only [Option.map_some, Option.some.injEq] at ho0
      subst ho0
      rw [hβ hσ] at hbk'
      have hbk0 := likeO_Bk hlo hl hbk'
      obtain ⟨oj, hoj, _⟩ := hcl' j (List.mem_of_getElem? hσ)
      cases oj with
      | dead => simp [turnO, hoj, Obj.live] at hl0
      | blk cs t => exact ⟨j, _, List.mem_of_getElem? hσ, hoj, rfl, by simpa only [turnO, hoj, Bk] using hbk0⟩
      | row xs e sz => exact ⟨j, _, List.mem_of_getElem? hσ, hoj, rfl, by simpa only [turnO, hoj, Bk] using hbk0⟩
      | many l ts => exact ⟨j, _, List.mem_of_getElem? hσ, hoj, rfl, by simpa only [turnO, hoj, Bk] using hbk0⟩
  have stays : ∀ {h' : Heap} {β' : Nat → Value}, (∀ i, i < b → Stays hin h' (turnβ (σ.map .old) β) β' i) → ∀ i, i < b → ∃ j o o', σ[i]? = some j ∧ st.h[j]? = some o ∧ h'[i]? = some o' ∧ OLe o o' ∧ β' i = β j := fun {h' β'} hkeep i hi => by
    have hil : i < σ.length := by omega
    have hσ : σ[i]? = some σ[i] := List.getElem?_eq_getElem hil
    obtain ⟨o, ho, _⟩ := hcl' σ[i] (List.getElem_mem hil)
    obtain ⟨⟨oi, o', h1, h2, h3, h4⟩, h5⟩ := hkeep i hi
    obtain ⟨o0, ho0, hlo⟩ := (likeH_at hlike).2 i oi h1
    have he : o0 = turnO st.h (σ.map .old) (.old σ[i]) := by
      unfold turnH at ho0
      rw [List.getElem?_map, List.getElem?_map, hσ] at ho0
      simp only [Option.map_some, Option.some.injEq] at ho0
      exact ho0.symm
    refine ⟨σ[i], o, o', hσ, ho, h2, OLe_trans (OLe_turn (src := σ.map .old) ho) (OLe_trans ?_ h3 h4) h4, h5.trans (hβ hσ)⟩
    rw [← he]
    exact likeO_le hlo
  refine (hct w _ V vals h4 h6).mono fun e w' he => ?_
  cases e with
  | returned v =>
    obtain ⟨d, h', β', V', hq, hrel, hd, hkeep⟩ := he
    obtain ⟨q1, q2, q3, q4⟩ := put_rel hr ht.ok (fun i hi => by obtain ⟨o, ho, _⟩ := hcl' i hi; exact ⟨o, ho⟩) hown hrel (stays hkeep)
    exact hN _ _ v w' _ _ (hk d h' hq) q1 (rn_rep q4 4 d v hd) q2 q3
  | panicked ch =>
    obtain ⟨d, h', t, u, β', V', rfl, hq, hrel, hd, hkeep⟩ := he
    obtain ⟨q1, q2, q3, q4⟩ := put_rel hr ht.ok (fun i hi => by obtain ⟨o, ho, _⟩ := hcl' i hi; exact ⟨o, ho⟩) hown hrel (stays hkeep)
    exact hP _ _ t u w' _ _ (hp d h' hq) q1 (rn_rep q4 4 d _ hd) q2 q3
  | outgrown => exact he.elim

theorem s_call (hr : RelD C st.h β V w) (he : EnvOk st β V w a) (hN : Nx C st.h β V w K next) (hP : Px C st.h β V w Qp qp) (hF : ∀ g, F g = true → fnOk P g = true) {f : Operand} {args : Array Operand} {ts : Array TypeId} {o : Oper} (ho : o.op = .call { callee := .value f, args := args, argTypes := ts })
    (h : vcOp P T F C.G (.call { callee := .value f, args := args, argTypes := ts }) st K Qp) : OpRun P next qp ((execOp a.eval o).run P w) := by
  simp only [vcOp] at h
  have hf := he.eval hr.gl f
  split at h
  · rename_i g fs cs ef
    rw [ef] at hf
    simp only [RepD] at hf
    obtain ⟨us, ts', hfv, hus, hts⟩ := hf
    have main : fnOk P g = true → (∀ vals : List Value, RepDL st.h β V w (fs ++ (args.toList.map (sv C.G st) ++ cs)) vals → Calls P g ⟨vals⟩ w fun
        | .returned v, w'' => next v w''
        | .panicked ch, w'' => qp ch w''
        | .outgrown, _ => False) → OpRun P next qp ((execOp a.eval o).run P w) := by
      intro hfn hcalls
      unfold fnOk at hfn
      cases hfg : P.funcs[g]? with
      | none => rw [hfg] at hfn; cases hfn
      | some fn =>
        rw [hfg] at hfn
        simp only [Bool.and_eq_true, Bool.not_eq_true'] at hfn
        obtain ⟨hn1, hn2⟩ := hfn
        have hn3 : ¬ fn.name = "runtime.NumGoroutine" := by simpa using hn1
        have hnone : ¬ fn.body = none := by intro hb; rw [hb] at hn2; cases hn2
        have hall : RepDL st.h β V w (fs ++ (args.toList.map (sv C.G st) ++ cs)) (us ++ (args.toList.map a.eval ++ ts')) := hus.append ((evalL hr he _).append hts)
        have harr : (⟨us⟩ : Array Value) ++ args.map a.eval ++ ⟨ts'⟩ = ⟨us ++ (args.toList.map a.eval ++ ts')⟩ := by
          apply Array.ext'
          simp
        have : (execOp a.eval o).run P w = .ok (.enter g ⟨us ++ (args.toList.map a.eval ++ ts')⟩) w := by
          rw [← harr]
          simp [execOp, ho, resolve, invoke, Deferred.ofValue, callFunc, hfv, hfg, hn3, hnone]
        rw [this]
        exact hcalls _ hall
    cases hg : F g with
    | false =>
      rw [hg] at h
      simp only [cond_false, forceDL_eq] at h
      rcases h with ⟨h1, h2 | h2⟩
      · exact main h1 (fun vals hall => callH_sound hr hN hP hall h2)
      · refine main h1 (fun vals hall => (h2 C w β V vals rfl hr hall).mono fun e w' he => ?_)
        cases e with
        | returned v => obtain ⟨d, h', β', V', q1, q2, q3, q4, q5⟩ := he; exact hN _ _ _ _ _ _ q1 q2 q3 q4 q5
        | panicked ch => obtain ⟨d, h', t, u, β', V', rfl, q1, q2, q3, q4, q5⟩ := he; exact hP _ _ _ _ _ _ _ q1 q2 q3 q4 q5
        | outgrown => exact he.elim
    | true =>
      rw [hg] at h
      simp only [cond_true, forceDL_eq] at h
      rcases orS_get h with ⟨as, Q, hl, hct, hk, hp⟩ | h2
      · exact main (hF g hg) (fun vals hall => call_sound hr hN hP hall hl hct hk hp)
      · refine main (hF g hg) (fun vals hall => (h2 C w β V vals rfl hr hall).mono fun e w' he => ?_)
        cases e with
        | returned v => obtain ⟨d, h', β', V', q1, q2, q3, q4, q5⟩ := he; exact hN _ _ _ _ _ _ q1 q2 q3 q4 q5
        | panicked ch => obtain ⟨d, h', t, u, β', V', rfl, q1, q2, q3, q4, q5⟩ := he; exact hP _ _ _ _ _ _ _ q1 q2 q3 q4 q5
        | outgrown => exact he.elim
  · exact h.elim

/-- WHAT IS ASKED OF AN OPERATION SUFFICES FOR ITS RUN. -/
theorem op_soundD (hT : TabOk P T) (hF : ∀ g, F g = true → fnOk P g = true) {o : Oper} (h : vcOp P T F C.G o.op st K Qp) (hr : RelD C st.h β V w) (he : EnvOk st β V w a) (hN : Nx C st.h β V w K next) (hP : Px C st.h β V w Qp qp) : OpRun P next qp ((execOp a.eval o).run P w) := by
  generalize ho : o.op = op at h
  cases op with
  | move x => exact s_move hr he hN (.inl ho) h
  | assign x => exact s_move hr he hN (.inr ho) h
  | pick c x y => exact s_pick hr he hN ho h
  | alloc t => exact s_alloc hr hN hT ho h
  | box t x => exact s_box hr he hN ho h
  | build t parts => exact s_build hr he hN hT ho h
  | buildSlice t len parts => exact s_buildSlice hr he hN hT ho h
  | makeSlice t l c => exact s_makeSlice hr he hN hT ho h
  | load t x => exact s_load hr he hN hT ho h
  | store t x y => exact s_store hr he hN hT ho h
  | nilCheck x => exact s_nilCheck hr he hN ho h
  | binOp op t x y t' => exact s_bin hr he hN hT ho h
  | unOp op t x => exact s_un hr he hN ho h
  | convert s t x => exact s_convert hr he hN hT ho h
  | fieldAddr s x f => exact s_fieldAddr hr he hN hT ho h
  | indexAddr t x ix => exact s_indexAddr hr he hN hT ho h
  | index t x ix => exact s_index hr he hN hT ho h
  | slice t x lo hi mx =>
    cases mx with
    | none => exact s_slice hr he hN hT ho h
    | some m => exact h.elim
  | extract x i => exact s_extract hr he hN ho h
  | makeFunc fn first captured => exact s_makeFunc hr he hN ho h
  | makeInterface t x => exact s_makeInterface hr he hN hT ho h
  | panic x => exact s_panic hr he ho h hP
  | call c =>
    obtain ⟨callee, args, ts⟩ := c
    cases callee with
    | value f => exact s_call hr he hN hP hF ho h
    | invoke r m => exact h.elim
    | builtin b =>
      cases b <;> first | exact s_len hr he hN hT ho h | exact s_max hr he hN ho h | exact s_min hr he hN ho h | exact s_append hr he hN hT ho h | exact s_copy hr he hN hT ho h | exact h.elim
  | _ => exact h.elim
end
end Go.Dm
