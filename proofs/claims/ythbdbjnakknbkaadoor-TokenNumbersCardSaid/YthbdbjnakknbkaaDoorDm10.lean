/-
  The second engine, tenth part: append, calls, and all operations at once. It holds of every program whose table of types is met.
-/
import Derived.Test.YthbdbjnakknbkaaDoorDm9
namespace Go.Dm
open Go Go.Eng Go.RowKit

section
variable {P : Program} {T : Tab} {F : FuncId → Bool} {C : Ctx} {st : St} {a : Act} {w : World} {β : Nat → Value} {V : Nat → Prop} {K : KD} {Qp : KD} {next : Value → World → Prop} {qp : List PanicEntry → World → Prop}

theorem repV_one {V : Nat → Prop} {w : World} {g : GV} {v : Value} (h : RepV V w g v) : v.oneCell' = true := by
  cases g with
  | sl k xs => simp only [RepV] at h; obtain ⟨A, cap, rfl, _⟩ := h; rfl
  | _ => simp only [RepV] at h; subst h; rfl
theorem repL_flat {V : Nat → Prop} {w : World} : ∀ {gs : List GV} {vs : List Value}, RepL V w gs vs → ∀ v ∈ vs, v.oneCell' = true
  | [], [], _, v, hv => by simp at hv
  | [], _ :: _, h, _, _ => h.elim
  | _ :: _, [], h, _, _ => h.elim
  | _ :: _, u :: vs, h, v, hv => by
    rcases List.mem_cons.1 hv with rfl | hv
    · exact repV_one h.1
    · exact repL_flat h.2 v hv

theorem le_grow (h : Heap) (β : Nat → Value) (i : Nat) (o : Obj) (v : Value) : LeH h β (h.set i .dead ++ [o]) (upf β h.length v) := by
  intro j oj hj
  have hjl : j < h.length := (List.getElem?_eq_some_iff.1 hj).1
  by_cases hji : j = i
  · subst hji
    exact ⟨.dead, by rw [List.getElem?_append_left (by simpa using hjl)]; simp [hjl], by cases oj <;> trivial, fun h => by cases h⟩
  · exact ⟨oj, by rw [List.getElem?_append_left (by simpa using hjl), List.getElem?_set_ne (fun e => hji e.symm)]; exact hj, OLe.refl _, fun _ => upf_ne (by omega)⟩

/-- The run of append, whatever it is given. -/
theorem append_run (hT : TabOk P T) {t e : TypeId} {i ei : TI} (hs : T t = some i) (hk : i.kind = .slice e) (hte : T e = some ei) (h0 : 0 < ei.size) {v y : Value} {n : Nat} {xs : List Value} (hown : w.ownsRow 0 e ei.size v n xs)
    {news : List (List GV)} (hsrc : (news = [] ∧ y = .slice none 0 0) ∨ ∃ ad cap vs, y = .slice (some ad) news.length cap ∧ RepL V w news.flatten vs ∧ (∀ r ∈ news, r.length = ei.size) ∧ (vs.length = news.length * ei.size) ∧ ∀ i u, vs[i]? = some u → w.cell? (ad.add i) = some u)
    (h63 : n + news.length ≤ maxLen) (hby : (n + news.length) * ei.bytes ≤ 140737488355328) (ty : TypeId) :
    ∃ v' w' vs, (Builtin.append_ #[t, t] ty #[v, y]).run P w = .ok v' w' ∧ RepL V w news.flatten vs ∧ (∀ r ∈ news, r.length = ei.size) ∧ w'.ownsRow 0 e ei.size v' (n + news.length) (xs ++ vs) ∧ w.grownBy w' v.ownBlock ∧
      (v'.ownBlock = v.ownBlock ∨ v'.ownBlock = some w.heap.size) := by
  obtain ⟨d, hd, hdk, _⟩ := (hT t _ hs).d
  rw [hk] at hdk
  have hdk : d = .slice e := hdk
  subst hdk
  obtain ⟨inf, z, hinf, hsz, hbyt, hz, hzc⟩ := (hT e ei hte).inf
  have hzl : ei.zero.length = ei.size := (hT e ei hte).zsize
  rcases hsrc with ⟨hn0, hy⟩ | ⟨ad, cap, vs, hy, hv, hx, hl, hc⟩
  · subst hn0
    rw [hy]
    exact ⟨v, w, [], run_append_owned_none (P := P) w 0 t ty e inf ei.size hd hinf v n xs hown, trivial, fun r hr => by simp at hr, by simpa using hown, World.grownBy.refl w _, .inl rfl⟩
  · rw [hy]
    obtain ⟨v', w', h1, h2, h3, _, h5⟩ := run_append_own_at (P := P) w 0 t ty e inf z ei.size ei.bytes hd hinf hz hsz hbyt (by rw [hzc]; simpa using hzl) h0 v n xs hown ad news.length cap vs hl hc (repL_flat hv) h63 hby (Nat.zero_le _)
    exact ⟨v', w', vs, h1, hv, hx, h2, h3, h5⟩

theorem s_append (hr : RelD C st.h β V w) (he : EnvOk st β V w a) (hN : Nx C st.h β V w K next) (hT : TabOk P T) {args : Array Operand} {ts : Array TypeId} {o : Oper} (ho : o.op = .call { callee := .builtin .append, args := args, argTypes := ts }) (h : vcOp P T F C.G (.call { callee := .builtin .append, args := args, argTypes := ts }) st K Qp) : OpRun P next qp ((execOp a.eval o).run P w) := by
  simp only [vcOp] at h
  split at h
  · rename_i t t' x y hts har
    have hts' : ts = #[t, t'] := by rw [← Array.toArray_toList (xs := ts), hts]
    have har' : args = #[x, y] := by rw [← Array.toArray_toList (xs := args), har]
    subst hts'
    subst har'
    cases hb : Nat.beq t t' with
    | false => rw [hb] at h; exact h.elim
    | true =>
      rw [hb] at h
      have htt : t = t' := Nat.eq_of_beq_eq_true hb
      subst htt
      simp only [cond_true] at h
      unfold vcAppend at h
      have hx := he.eval hr.gl x
      have hy := he.eval hr.gl y
      split at h
      · rename_i e hs
        split at h
        · exact h.elim
        · rename_i ei hte
          split at h
          · exact h.elim
          · rename_i news hsrc
            cases hpos : Nat.blt 0 ei.size with
            | false => rw [hpos] at h; exact h.elim
            | true =>
              rw [hpos] at h
              simp only [cond_true] at h
              have h0 : 0 < ei.size := Nat.le_of_ble_eq_true hpos
              have hsrc' := srcD_rep hr hsrc hy h0
              have fin : ∀ (v' : Value) (w' : World), (Builtin.append_ #[t, t] o.type #[a.eval x, a.eval y]).run P w = .ok v' w' → (execOp a.eval o).run P w = .ok (.value v') w' := by
                intro v' w' hrun
                simp [execOp, ho, resolve, invoke, builtin, hrun]
              have lenf : ∀ (xs : List (List GV)), (xs ++ news).flatten = xs.flatten ++ news.flatten := fun xs => List.flatten_append
              split at h
              · rename_i ex
                rw [ex] at hx
                simp only [RepD] at hx
                obtain ⟨hroom, hk⟩ := h
                rw [hx] at fin
                obtain ⟨v', w', vs, hrun, hv, hm, hown, hg, hbk⟩ := append_run hT hs rfl hte h0 (World.ownsRow_nil w 0 e ei.size) hsrc' (by rw [Nat.zero_add]; exact hroom.1) (by rw [Nat.zero_add]; exact hroom.2) o.type
                rw [fin v' w' hrun]
                rw [Nat.zero_add, List.nil_append] at hown
                have hr' := hr.grow_nil news vs v' e ei.size hv hm h0 hown hg hbk
                refine hN _ _ _ _ _ _ hk hr' ?_ (le_snoc _ _ _ _) (hr.moved (G := fun _ => False) ⟨hg.os, hg.tape, hg.output, hg.size, fun k hk hn => hg.block k hk (by simp [Value.ownBlock])⟩ (fun k hk => hk.elim))
                simp only [RepD]
                rw [List.getElem?_append_right (Nat.le_refl _)]
                simp only [Nat.sub_self, List.getElem?_cons_zero]
                exact (upf_eq _ _ _).symm
              · rename_i j ex
                rw [ex] at hx
                split at h
                · rename_i xs e' sz' hj
                  cases hbb : Nat.beq e' e && Nat.beq sz' ei.size with
                  | false => rw [hbb] at h; exact h.elim
                  | true =>
                    rw [hbb] at h
                    simp only [cond_true] at h
                    simp only [Bool.and_eq_true] at hbb
                    have e1 := Nat.eq_of_beq_eq_true hbb.1
                    have e2 := Nat.eq_of_beq_eq_true hbb.2
                    subst e1
                    subst e2
                    obtain ⟨hroom, hk⟩ := h
                    simp only [RepD, hj] at hx
                    rw [hx] at fin
                    obtain ⟨vs0, hown0, hv0, hx0, _⟩ := hr.obj j _ hj
                    obtain ⟨v', w', vs, hrun, hv, hm, hown, hg, hbk⟩ := append_run hT hs rfl hte h0 hown0 hsrc' hroom.1 hroom.2 o.type
                    rw [fin v' w' hrun]
                    have hr' := hr.grow_row hj (xs ++ news) (vs0 ++ vs) v' e' ei.size (by rw [lenf]; exact hv0.append hv) (fun r hr => by rcases List.mem_append.1 hr with hr | hr; exact hx0 r hr; exact hm r hr) h0 (by rw [List.length_append]; exact hown) hg hbk
                    refine hN _ _ _ _ _ _ hk hr' ?_ (le_grow _ _ _ _ _) (hr.moved (G := fun k => some k = (β j).ownBlock) ⟨hg.os, hg.tape, hg.output, hg.size, fun k hk hn => hg.block k hk hn⟩ (fun k hk => ⟨j, _, hj, rfl, bk_owns hown0 hk.symm⟩))
                    simp only [RepD]
                    rw [List.getElem?_append_right (by simp)]
                    simp only [List.length_set, Nat.sub_self, List.getElem?_cons_zero]
                    exact (upf_eq _ _ _).symm
                · exact h.elim
              · rename_i j n ex
                rw [ex] at hx
                split at h
                · rename_i xs e' sz' hj
                  cases hbb : Nat.beq e' e && Nat.beq sz' ei.size with
                  | false => rw [hbb] at h; exact h.elim
                  | true =>
                    rw [hbb] at h
                    simp only [cond_true] at h
                    simp only [Bool.and_eq_true] at hbb
                    have e1 := Nat.eq_of_beq_eq_true hbb.1
                    have e2 := Nat.eq_of_beq_eq_true hbb.2
                    subst e1
                    subst e2
                    obtain ⟨hnl, hroom, hk⟩ := h
                    simp only [RepD, hj] at hx
                    obtain ⟨_, A, m, cap, hb, hxv⟩ := hx
                    obtain ⟨vs0, hown0, hv0, hx0, _⟩ := hr.obj j _ hj
                    have hpre : w.ownsRow 0 e' ei.size (a.eval x) n (vs0.take (n * ei.size)) ∧ (a.eval x).ownBlock = (β j).ownBlock := by
                      rcases hown0.2 with ⟨hn, hl0⟩ | ⟨g, cap', cur, hbv, q1, q2, q3, q4, q5, q6⟩
                      · rw [hn] at hb
                        injection hb with e1 e2 e3
                        subst e1; subst e3
                        have hn0 : n = 0 := by omega
                        subst hn0
                        rw [hxv, hn]
                        exact ⟨by simpa using World.ownsRow_nil w 0 e' ei.size, by simp [Value.ownBlock]⟩
                      · rw [hbv] at hb
                        injection hb with e1 e2 e3
                        subst e1; subst e3
                        have hxv' : a.eval x = .slice (some ⟨g, 0, none⟩) n cap' := by
                          rw [hxv]
                          by_cases hc : cap' = 0
                          · simp [hc]
                          · simp [hc, Addr.add]
                        rw [hxv', hbv]
                        have hl := hown0.1
                        have hmul : n * ei.size ≤ xs.length * ei.size := Nat.mul_le_mul_right _ hnl
                        refine ⟨⟨by rw [List.length_take]; omega, .inr ⟨g, cap', cur, rfl, q1, q2, by omega, q4, q5, ?_⟩⟩, rfl⟩
                        rw [← q6, List.take_take, Nat.min_eq_left hmul]
                    obtain ⟨v', w', vs, hrun, hv, hm, hown, hg, hbk⟩ := append_run hT hs rfl hte h0 hpre.1 hsrc' hroom.1 hroom.2 o.type
                    rw [fin v' w' hrun]
                    rw [hpre.2] at hg hbk
                    have htf : (xs.take n).flatten = xs.flatten.take (n * ei.size) := by
                      have k2 : ∀ (ys : List (List GV)) (n : Nat), (∀ r ∈ ys, r.length = ei.size) → (ys.take n).flatten = ys.flatten.take (n * ei.size) := by
                        intro ys
                        induction ys with
                        | nil => intro n _; simp
                        | cons y ys ih =>
                          intro n hy
                          cases n with
                          | zero => simp
                          | succ n =>
                            have hyl := hy y List.mem_cons_self
                            have hd : y.take ((n + 1) * ei.size) = y := List.take_of_length_le (by rw [hyl, Nat.succ_mul]; omega)
                            rw [List.take_succ_cons, List.flatten_cons, List.flatten_cons, List.take_append, hd, hyl, Nat.succ_mul, Nat.add_sub_cancel, ih n (fun r hr => hy r (List.mem_cons_of_mem _ hr))]
                      exact k2 xs n hx0
                    have hr' := hr.grow_row hj (xs.take n ++ news) (vs0.take (n * ei.size) ++ vs) v' e' ei.size (by rw [lenf, htf]; exact (hv0.take _).append hv) (fun r hr => by rcases List.mem_append.1 hr with hr | hr; exact hx0 r (List.mem_of_mem_take hr); exact hm r hr) h0 (by rw [List.length_append, List.length_take, Nat.min_eq_left hnl]; exact hown) hg hbk
                    refine hN _ _ _ _ _ _ hk hr' ?_ (le_grow _ _ _ _ _) (hr.moved (G := fun k => some k = (β j).ownBlock) ⟨hg.os, hg.tape, hg.output, hg.size, fun k hk hn => hg.block k hk hn⟩ (fun k hk => ⟨j, _, hj, rfl, bk_owns hown0 hk.symm⟩))
                    simp only [RepD]
                    rw [List.getElem?_append_right (by simp)]
                    simp only [List.length_set, Nat.sub_self, List.getElem?_cons_zero]
                    exact (upf_eq _ _ _).symm
                · exact h.elim
              · exact h.elim
      · exact h.elim
  · exact h.elim

/-- A value that holds no memory. -/
theorem memFree_rep {h h' : Heap} {β β' : Nat → Value} {V V' : Nat → Prop} {w w' : World} {m : Nat} : ∀ (n : Nat) (d : D) (v : Value), memFree n d = true → RepD h β V w d v → RepD h' β' V' w' (sh m n d) v := by
  intro n
  induction n with
  | zero => intro d v hf; cases hf
  | succ n ih =>
    intro d v hf hd
    have list : ∀ (ds : List D) (vs : List Value), ds.all (memFree n) = true → RepDL h β V w ds vs → RepDL h' β' V' w' (ds.map (sh m n)) vs := by
      intro ds
      induction ds with
      | nil => intro vs _ h; simp only [RepDL, List.map_nil] at h ⊢; exact h
      | cons d ds ihd =>
        intro vs hf h
        simp only [List.all_cons, Bool.and_eq_true] at hf
        simp only [RepDL, List.map_cons] at h ⊢
        obtain ⟨v, us, hv, h1, h2⟩ := h
        exact ⟨v, us, hv, ih d v hf.1 h1, ihd us hf.2 h2⟩
    cases d with
    | g x => cases x <;> simp_all [memFree, sh, RepD, RepV]
    | pb p => simpa only [sh, RepD] using hd
    | pn p => simpa only [sh, RepD] using hd
    | nils => simpa only [sh, RepD] using hd
    | nilP => simpa only [sh, RepD] using hd
    | nilF => simpa only [sh, RepD] using hd
    | nilI => simpa only [sh, RepD] using hd
    | tuple ds =>
      simp only [memFree] at hf
      simp only [sh, RepD] at hd ⊢
      obtain ⟨us, hv, h1⟩ := hd
      exact ⟨us, hv, list ds us hf h1⟩
    | agg ds =>
      simp only [memFree] at hf
      simp only [sh, RepD] at hd ⊢
      obtain ⟨us, hv, h1⟩ := hd
      exact ⟨us, hv, list ds us hf h1⟩
    | iface t x =>
      simp only [memFree] at hf
      simp only [sh, RepD] at hd ⊢
      obtain ⟨u, hv, h1⟩ := hd
      exact ⟨u, hv, ih x u hf h1⟩
    | _ => simp [memFree] at hf

/-- Memory of a call behind memory of the caller. -/
def joinβ (n : Nat) (β β' : Nat → Value) : Nat → Value := fun i => if i < n then β i else β' (i - n)
mutual
theorem sh_rep {h h' : Heap} {β β' : Nat → Value} {V : Nat → Prop} {w : World} : ∀ (n : Nat) (d : D) (v : Value), RepD h' β' V w d v → RepD (h ++ h'.map (shO h.length)) (joinβ h.length β β') V w (sh h.length n d) v
  | 0, d, v, _ => by simp only [sh, RepD]
  | n + 1, .g x, v, hd => by simp only [sh, RepD] at hd ⊢; exact hd
  | n + 1, .pb x, v, hd => by simp only [sh, RepD] at hd ⊢; exact hd
  | n + 1, .pn x, v, hd => by simp only [sh, RepD] at hd ⊢; exact hd
  | n + 1, .nils, v, hd => by simp only [sh, RepD] at hd ⊢; exact hd
  | n + 1, .nilP, v, hd => by simp only [sh, RepD] at hd ⊢; exact hd
  | n + 1, .nilF, v, hd => by simp only [sh, RepD] at hd ⊢; exact hd
  | n + 1, .nilI, v, hd => by simp only [sh, RepD] at hd ⊢; exact hd
  | n + 1, .fp r o, v, hd => by simp only [sh, RepD] at hd ⊢; exact hd
  | n + 1, .any, v, hd => by simp only [sh, RepD]
  | n + 1, .row i, v, hd => by
    simp only [sh, RepD] at hd ⊢
    have hB : joinβ h.length β β' (i + h.length) = β' i := by simp [joinβ, show ¬ (i + h.length < h.length) from by omega]
    rw [List.getElem?_append_right (by omega), Nat.add_sub_cancel, List.getElem?_map, hB]
    cases ho : h'[i]? with
    | none => rw [ho] at hd; exact hd.elim
    | some o => rw [ho] at hd; cases o <;> simp_all [shO]
  | n + 1, .rs i lo k, v, hd => by
    simp only [sh, RepD] at hd ⊢
    have hB : joinβ h.length β β' (i + h.length) = β' i := by simp [joinβ, show ¬ (i + h.length < h.length) from by omega]
    rw [List.getElem?_append_right (by omega), Nat.add_sub_cancel, List.getElem?_map, hB]
    cases ho : h'[i]? with
    | none => rw [ho] at hd; exact hd.elim
    | some o => rw [ho] at hd; cases o <;> simp_all [shO]
  | n + 1, .ptr i off, v, hd => by
    simp only [sh, RepD] at hd ⊢
    have hB : joinβ h.length β β' (i + h.length) = β' i := by simp [joinβ, show ¬ (i + h.length < h.length) from by omega]
    rw [List.getElem?_append_right (by omega), Nat.add_sub_cancel, List.getElem?_map, hB]
    cases ho : h'[i]? with
    | none => rw [ho] at hd; exact hd.elim
    | some o => rw [ho] at hd; cases o <;> simp_all [shO]
  | n + 1, .el i j off, v, hd => by
    simp only [sh, RepD] at hd ⊢
    have hB : joinβ h.length β β' (i + h.length) = β' i := by simp [joinβ, show ¬ (i + h.length < h.length) from by omega]
    rw [List.getElem?_append_right (by omega), Nat.add_sub_cancel, List.getElem?_map, hB]
    cases ho : h'[i]? with
    | none => rw [ho] at hd; exact hd.elim
    | some o => rw [ho] at hd; cases o <;> simp_all [shO]
  | n + 1, .fn f fs cs, v, hd => by
    simp only [sh, RepD] at hd ⊢
    obtain ⟨us, ts, hv, h1, h2⟩ := hd
    exact ⟨us, ts, hv, shL_rep n fs us h1, shL_rep n cs ts h2⟩
  | n + 1, .iface t x, v, hd => by
    simp only [sh, RepD] at hd ⊢
    obtain ⟨u, hv, h1⟩ := hd
    exact ⟨u, hv, sh_rep n x u h1⟩
  | n + 1, .agg cs, v, hd => by
    simp only [sh, RepD] at hd ⊢
    obtain ⟨us, hv, h1⟩ := hd
    exact ⟨us, hv, shL_rep n cs us h1⟩
  | n + 1, .tuple cs, v, hd => by
    simp only [sh, RepD] at hd ⊢
    obtain ⟨us, hv, h1⟩ := hd
    exact ⟨us, hv, shL_rep n cs us h1⟩
theorem shL_rep {h h' : Heap} {β β' : Nat → Value} {V : Nat → Prop} {w : World} : ∀ (n : Nat) (ds : List D) (vs : List Value), RepDL h' β' V w ds vs → RepDL (h ++ h'.map (shO h.length)) (joinβ h.length β β') V w (ds.map (sh h.length n)) vs
  | n, [], vs, hd => by simp only [RepDL, List.map_nil] at hd ⊢; exact hd
  | n, d :: ds, vs, hd => by
    simp only [RepDL, List.map_cons] at hd ⊢
    obtain ⟨v, us, hv, h1, h2⟩ := hd
    exact ⟨v, us, hv, sh_rep n d v h1, shL_rep n ds us h2⟩
end

theorem join_le (h h' : Heap) (β β' : Nat → Value) : LeH h β (h ++ h') (joinβ h.length β β') := by
  intro i o hi
  have hl : i < h.length := (List.getElem?_eq_some_iff.1 hi).1
  exact ⟨o, by rw [List.getElem?_append_left hl]; exact hi, OLe.refl o, fun _ => by simp [joinβ, hl]⟩
theorem shO_live (m : Nat) (o : Obj) : (shO m o).live = o.live := by cases o <;> rfl

theorem after_join {h h' : Heap} {β' : Nat → Value} {V V' : Nat → Prop} {w' : World} (hr : RelD C h β V w) (hc : RelD ⟨w, fun _ => False, V, C.G⟩ h' β' V' w') : RelD C (h ++ h'.map (shO h.length)) (joinβ h.length β β') V' w' := by
  have hm : Moved V w V' w' := fun k hk => ⟨hc.vin k hk, hc.fr.block k (hr.vlt k hk) (fun h => h)⟩
  have left : ∀ (i : Nat), i < h.length → joinβ h.length β β' i = β i := fun i hi => by simp [joinβ, hi]
  have right : ∀ (i : Nat), h.length ≤ i → joinβ h.length β β' i = β' (i - h.length) := fun i hi => by simp [joinβ, Nat.not_lt.2 hi]
  have at_ : ∀ (i : Nat) (o : Obj), (h ++ h'.map (shO h.length))[i]? = some o → (i < h.length ∧ h[i]? = some o) ∨ (h.length ≤ i ∧ ∃ o', h'[i - h.length]? = some o' ∧ o = shO h.length o') := by
    intro i o hi
    by_cases hl : i < h.length
    · rw [List.getElem?_append_left hl] at hi; exact .inl ⟨hl, hi⟩
    · rw [List.getElem?_append_right (by omega), List.getElem?_map] at hi
      cases ho : h'[i - h.length]? with
      | none => rw [ho] at hi; cases hi
      | some o' => rw [ho] at hi; simp at hi; exact .inr ⟨by omega, o', rfl, hi.symm⟩
  refine ⟨fun i o hi => ?_, fun i j o o' k hi hl hj hl' hk hk' => ?_, fun i o k hi hl hk => ?_, fun i o k hi hl hk => ?_, hc.vlt, fun k hk => hc.vin k (hr.vin k hk), fun k hk => ?_, ?_, hc.gl⟩
  · rcases at_ i o hi with ⟨hl, h1⟩ | ⟨hl, o', h1, rfl⟩
    · cases hlv : o.live with
      | false => cases o <;> simp_all [Obj.live, ObjOk]
      | true => exact (hr.obj i o h1).keep (join_le h _ β β') hm (left i hl) (fun k hk => hc.fr.block k (hr.lt h1 hlv hk) (fun h => h))
    · have hob := hc.obj _ _ h1
      have hB := right i hl
      cases o' with
      | dead => trivial
      | blk cs t =>
        obtain ⟨g, vs, hb, hg, hcs⟩ := hob
        exact ⟨g, vs, hB.trans hb, hg, shL_rep 4 cs vs hcs⟩
      | row xs e sz =>
        obtain ⟨vs, hown, rest⟩ := hob
        exact ⟨vs, by rw [hB]; exact hown, rest⟩
  · rcases at_ i o hi with ⟨hli, h1⟩ | ⟨hli, oi, h1, rfl⟩ <;> rcases at_ j o' hj with ⟨hlj, g1⟩ | ⟨hlj, oj, g1, rfl⟩
    · rw [left i hli] at hk
      rw [left j hlj] at hk'
      exact hr.sep i j o o' k h1 hl g1 hl' hk hk'
    · rw [left i hli] at hk
      rw [right j hlj] at hk'
      rw [shO_live] at hl'
      have h2 := hr.lt h1 hl hk
      rcases hc.mine _ _ k g1 hl' hk' with h3 | h3
      · exact absurd h2 (Nat.not_lt.2 h3)
      · exact h3.elim
    · rw [right i hli] at hk
      rw [left j hlj] at hk'
      rw [shO_live] at hl
      have h2 := hr.lt g1 hl' hk'
      rcases hc.mine _ _ k h1 hl hk with h3 | h3
      · exact absurd h2 (Nat.not_lt.2 h3)
      · exact h3.elim
    · rw [right i hli] at hk
      rw [right j hlj] at hk'
      rw [shO_live] at hl hl'
      have := hc.sep _ _ oi oj k h1 hl g1 hl' hk hk'
      omega
  · rcases at_ i o hi with ⟨hli, h1⟩ | ⟨hli, oi, h1, rfl⟩
    · rw [left i hli] at hk
      exact hr.mine i o k h1 hl hk
    · rw [right i hli] at hk
      rw [shO_live] at hl
      rcases hc.mine _ _ k h1 hl hk with h3 | h3
      · exact .inl (Nat.le_trans hr.fr.size h3)
      · exact h3.elim
  · rcases at_ i o hi with ⟨hli, h1⟩ | ⟨hli, oi, h1, rfl⟩
    · rw [left i hli] at hk
      intro hv
      rcases hc.vnew k hv with h2 | h2 | h2
      · exact hr.vout i o k h1 hl hk h2
      · exact absurd (hr.lt h1 hl hk) (Nat.not_lt.2 h2)
      · exact h2
    · rw [right i hli] at hk
      rw [shO_live] at hl
      exact hc.vout _ _ k h1 hl hk
  · rcases hc.vnew k hk with h2 | h2 | h2
    · exact hr.vnew k h2
    · exact .inr (.inl (Nat.le_trans hr.fr.size h2))
    · exact h2.elim
  · refine ⟨hc.fr.os.trans hr.fr.os, hc.fr.tape.trans hr.fr.tape, hc.fr.output.trans hr.fr.output, Nat.le_trans hr.fr.size hc.fr.size, fun k hk hn => ?_⟩
    rw [hc.fr.block k (Nat.lt_of_lt_of_le hk hr.fr.size) (fun h => h)]
    exact hr.fr.block k hk hn

/-- Behind a call that left nothing. -/
theorem after_keep {h : Heap} {h' : Heap} {β' : Nat → Value} {Vc V' : Nat → Prop} {w' : World} (hr : RelD C h β V w) (hc : RelD ⟨w, fun _ => False, Vc, C.G⟩ h' β' V' w') : RelD C h β V w' ∧ Moved V w V w' := by
  have hm : Moved V w V w' := fun k hk => ⟨hk, hc.fr.block k (hr.vlt k hk) (fun h => h)⟩
  refine ⟨⟨fun i o hi => ?_, hr.sep, hr.mine, hr.vout, fun k hk => Nat.lt_of_lt_of_le (hr.vlt k hk) hc.fr.size, hr.vin, hr.vnew, ?_, hr.gl.move hm⟩, hm⟩
  · cases hlv : o.live with
    | false => cases o <;> simp_all [Obj.live, ObjOk]
    | true => exact (hr.obj i o hi).keep (LeH.refl h β) hm rfl (fun k hk => hc.fr.block k (hr.lt hi hlv hk) (fun h => h))
  · refine ⟨hc.fr.os.trans hr.fr.os, hc.fr.tape.trans hr.fr.tape, hc.fr.output.trans hr.fr.output, Nat.le_trans hr.fr.size hc.fr.size, fun k hk hn => ?_⟩
    rw [hc.fr.block k (Nat.lt_of_lt_of_le hk hr.fr.size) (fun h => h)]
    exact hr.fr.block k hk hn

theorem LeH.trans {h1 h2 h3 : Heap} {β1 β2 β3 : Nat → Value} (a : LeH h1 β1 h2 β2) (b : LeH h2 β2 h3 β3) : LeH h1 β1 h3 β3 := by
  intro i o hi
  obtain ⟨o2, g1, g2, g3⟩ := a i o hi
  obtain ⟨o3, k1, k2, k3⟩ := b i o2 g1
  refine ⟨o3, k1, ?_, fun hl => ?_⟩
  · cases o <;> cases o2 <;> cases o3 <;> simp_all [OLe]
  · have : o2.live = true := by cases o2 <;> cases o3 <;> simp_all [OLe, Obj.live]
    rw [k3 hl, g3 this]

theorem call_sound {all : List D} {vals : List Value} {as : List D} {g : FuncId} {Q : Out → Prop} (hr : RelD C st.h β V w) (hN : Nx C st.h β V w K next) (hP : Px C st.h β V w Qp qp) (hall : RepDL st.h β V w all vals)
    (hl : likeA (all.map (conv st.h [] 4)) as) (hct : CT P C.G g as Q) (hk : ∀ d h', Q (.ret d h') → K (sh st.h.length 4 d) (after st.h (idsL all) d h')) (hp : ∀ d, Q (.pan d) → Qp d (kills st.h (idsL all))) :
    Calls P g ⟨vals⟩ w fun
      | .returned v, w'' => next v w''
      | .panicked ch, w'' => qp ch w''
      | .outgrown, _ => False := by
  have hck := kill_rel hr (idsL all)
  have hargs : RepDL [] (turnβ [] β) (killV st.h (idsL all) β V) w (all.map (conv st.h [] 4)) vals := by
    refine convL_rep (src := []) hr (fun i => i ∈ idsL all) (fun k hk => .inl hk) (fun i o k h1 h2 h3 h4 => .inr ⟨i, o, h1, h2, h3, h4⟩) 4 all vals (fun d hd i hi _ => ids_mem hd i hi (fun j hj => hj)) hall
  have hargs' : RepDL [] (fun _ => undef) (killV st.h (idsL all) β V) w as vals := by
    have := likeA_rep hl hargs
    exact RepDL.mono (h' := []) (fun i o hi => by simp at hi) (Moved.refl _ _) _ _ this
  refine (hct w _ vals hck.vlt hck.gl hargs').mono fun e w' he => ?_
  cases e with
  | returned v =>
    obtain ⟨d, h', β', V', hq, hrel, hd⟩ := he
    have hK := hk d h' hq
    unfold after at hK
    cases hmf : memFree 4 d && isNil h' with
    | true =>
      rw [hmf] at hK
      simp only [cond_true] at hK
      simp only [Bool.and_eq_true] at hmf
      obtain ⟨h1, h2⟩ := after_keep hr hrel
      exact hN _ _ _ _ _ _ hK h1 (memFree_rep 4 d v hmf.1 hd) (LeH.refl _ _) h2
    | false =>
      rw [hmf] at hK
      simp only [cond_false] at hK
      have hj := after_join hck hrel
      rw [kills_len] at hj
      refine hN _ _ _ _ _ _ hK hj ?_ ?_ ?_
      · have := sh_rep (h := kills st.h (idsL all)) (β := β) 4 d v hd
        rw [kills_len] at this
        exact this
      · have := join_le (kills st.h (idsL all)) (h'.map (shO st.h.length)) β β'
        rw [kills_len] at this
        exact (kills_le (idsL all) st.h β).trans this
      · exact (kill_moved _ _ _ _ _).trans (fun k hk => ⟨hrel.vin k hk, hrel.fr.block k (hck.vlt k hk) (fun h => h)⟩)
  | panicked ch =>
    obtain ⟨d, t, u, β', V', rfl, hq, hrel, hd⟩ := he
    have hj := after_join hck hrel
    simp only [List.map_nil, List.append_nil] at hj
    refine hP d _ t u w' _ _ (hp d hq) hj ?_ ?_ ((kill_moved _ _ _ _ _).trans (fun k hk => ⟨hrel.vin k hk, hrel.fr.block k (hck.vlt k hk) (fun h => h)⟩))
    · exact RepD.mono (fun i o hi => by simp at hi) (Moved.refl _ _) _ _ hd
    · have := join_le (kills st.h (idsL all)) [] β β'
      rw [List.append_nil] at this
      exact (kills_le (idsL all) st.h β).trans this
  | outgrown => exact he.elim

theorem s_call (hr : RelD C st.h β V w) (he : EnvOk st β V w a) (hN : Nx C st.h β V w K next) (hP : Px C st.h β V w Qp qp) (hF : ∀ g, F g = true → fnOk P g = true) {f : Operand} {args : Array Operand} {ts : Array TypeId} {o : Oper} (ho : o.op = .call { callee := .value f, args := args, argTypes := ts })
    (h : vcOp P T F C.G (.call { callee := .value f, args := args, argTypes := ts }) st K Qp) : OpRun P next qp ((execOp a.eval o).run P w) := by
  simp only [vcOp] at h
  have hf := he.eval hr.gl f
  split at h
  · rename_i g fs cs ef
    rw [ef] at hf
    simp only [RepD] at hf
    obtain ⟨us, ts', hfv, hus, hts⟩ := hf
    cases hg : F g with
    | false => rw [hg] at h; exact h.elim
    | true =>
      rw [hg] at h
      simp only [cond_true, forceDL_eq] at h
      obtain ⟨as, Q, hl, hct, hk, hp⟩ := h
      have hfn := hF g hg
      unfold fnOk at hfn
      cases hfg : P.funcs[g]? with
      | none => rw [hfg] at hfn; cases hfn
      | some fn =>
        rw [hfg] at hfn
        simp only [Bool.and_eq_true, Bool.not_eq_true'] at hfn
        obtain ⟨hn1, hn2⟩ := hfn
        have hn3 : ¬ fn.name = "runtime.NumGoroutine" := by simpa using hn1
        have hnone : ¬ fn.body = none := by intro hb; rw [hb] at hn2; cases hn2
        have hall : RepDL st.h β V w (fs ++ (args.toList.map (sv C.G st) ++ cs)) (us ++ (args.toList.map a.eval ++ ts')) := hus.append ((evalL hr he _).append hts)
        have harr : (⟨us⟩ : Array Value) ++ args.map a.eval ++ ⟨ts'⟩ = ⟨us ++ (args.toList.map a.eval ++ ts')⟩ := by
          apply Array.ext'
          simp
        have : (execOp a.eval o).run P w = .ok (.enter g ⟨us ++ (args.toList.map a.eval ++ ts')⟩) w := by
          rw [← harr]
          simp [execOp, ho, resolve, invoke, Deferred.ofValue, callFunc, hfv, hfg, hn3, hnone]
        rw [this]
        exact call_sound hr hN hP hall hl hct hk hp
  · exact h.elim

/-- WHAT IS ASKED OF AN OPERATION SUFFICES FOR ITS RUN. -/
theorem op_soundD (hT : TabOk P T) (hF : ∀ g, F g = true → fnOk P g = true) {o : Oper} (h : vcOp P T F C.G o.op st K Qp) (hr : RelD C st.h β V w) (he : EnvOk st β V w a) (hN : Nx C st.h β V w K next) (hP : Px C st.h β V w Qp qp) : OpRun P next qp ((execOp a.eval o).run P w) := by
  generalize ho : o.op = op at h
  cases op with
  | move x => exact s_move hr he hN (.inl ho) h
  | assign x => exact s_move hr he hN (.inr ho) h
  | pick c x y => exact s_pick hr he hN ho h
  | alloc t => exact s_alloc hr hN hT ho h
  | box t x => exact s_box hr he hN ho h
  | build t parts => exact s_build hr he hN hT ho h
  | buildSlice t len parts => exact s_buildSlice hr he hN hT ho h
  | makeSlice t l c => exact s_makeSlice hr he hN hT ho h
  | load t x => exact s_load hr he hN hT ho h
  | store t x y => exact s_store hr he hN hT ho h
  | nilCheck x => exact s_nilCheck hr he hN ho h
  | binOp op t x y t' => exact s_bin hr he hN hT ho h
  | unOp op t x => exact s_un hr he hN ho h
  | convert s t x => exact s_convert hr he hN hT ho h
  | fieldAddr s x f => exact s_fieldAddr hr he hN hT ho h
  | indexAddr t x ix => exact s_indexAddr hr he hN hT ho h
  | index t x ix => exact s_index hr he hN hT ho h
  | slice t x lo hi mx =>
    cases mx with
    | none => exact s_slice hr he hN hT ho h
    | some m => exact h.elim
  | extract x i => exact s_extract hr he hN ho h
  | makeFunc fn first captured => exact s_makeFunc hr he hN ho h
  | makeInterface t x => exact s_makeInterface hr he hN hT ho h
  | panic x => exact s_panic hr he ho h hP
  | call c =>
    obtain ⟨callee, args, ts⟩ := c
    cases callee with
    | value f => exact s_call hr he hN hP hF ho h
    | invoke r m => exact h.elim
    | builtin b =>
      cases b <;> first | exact s_len hr he hN hT ho h | exact s_append hr he hN hT ho h | exact h.elim
  | _ => exact h.elim
end
end Go.Dm
