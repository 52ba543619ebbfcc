/-
  The second engine, seventh part: the other operations' clauses suffice for their runs. It holds of every program whose table of types is met.
-/
import Derived.Test.YtijdegmamdhcbaaDoorDm6
import Derived.Laws.IdiomStrings
namespace Go.Dm
open Go Go.Eng Go.RowKit

section
variable {P : Program} {T : Tab} {F : FuncId → Bool} {C : Ctx} {st : St} {a : Act} {w : World} {β : Nat → Value} {V : Nat → Prop} {K : KD} {Qp : KD} {next : Value → World → Prop} {qp : List PanicEntry → World → Prop}

theorem repI {h : Heap} (n : Int) : RepD h β V w (.g (.int n)) (.int .i64 n) := by simp only [RepD, RepV]
theorem repU {h : Heap} (n : Int) : RepD h β V w (.g (.u8 n)) (.int .u8 n) := by simp only [RepD, RepV]
theorem repS {h : Heap} (n : List UInt8) : RepD h β V w (.g (.str n)) (.string ⟨⟨n⟩⟩) := by simp only [RepD, RepV]
theorem repB {h : Heap} (b : Bool) : RepD h β V w (.g (.bool b)) (.bool b) := by simp only [RepD, RepV]
theorem repP {h : Heap} (p : Prop) [Decidable p] : RepD h β V w (.pb p) (.bool (decide p)) := by simp only [RepD]; exact ⟨_, rfl, decide_eq_true_iff⟩
theorem repN {h : Heap} (p : Prop) [Decidable p] : RepD h β V w (.pn p) (.bool (!decide p)) := by simp only [RepD]; exact ⟨_, rfl, by simp⟩
theorem bin_runD {op : BinOp} {x y : D} {k : D → Prop} {h : Heap} {vx vy : Value} (hv : vcBin op x y k) (hx : RepD h β V w x vx) (hy : RepD h β V w y vy) (t : TypeId) (ox oy : Operand) :
    ∃ d v, k d ∧ RepD h β V w d v ∧ ∀ w : World, (do eqGuard op t ox oy vx vy; binOp op t vx vy).run P w = .ok v w := by
  unfold vcBin at hv
  split at hv <;> first | exact hv.elim | skip
  all_goals (simp only [RepD, RepV] at hx hy; subst hx; subst hy)
  all_goals first
    | (obtain ⟨c, hc, hk⟩ := hv; refine ⟨_, _, hk, repI _, fun w => ?_⟩; simp [eqGuard, binOp, Op.intArith, hc]; done)
    | (obtain ⟨hc, hk⟩ := hv; refine ⟨_, _, hk, repI _, fun w => ?_⟩; have hw := I64.wrap hc; simp [eqGuard, binOp, Op.intArith, hw]; done)
    | (obtain ⟨c, hc, hk⟩ := hv; refine ⟨_, _, hk, repI _, fun w => ?_⟩; simp only [eqGuard, binOp, Sem.run_bind]; simp; done)
    | (obtain ⟨h0, hc, hk⟩ := hv; refine ⟨_, _, hk, repI _, fun w => ?_⟩; have hw := I64.wrap hc; simp [eqGuard, binOp, Op.intDiv, h0, hw]; done)
    | (obtain ⟨h0, hc, hk⟩ := hv; refine ⟨_, _, hk, repI _, fun w => ?_⟩; have hw := I64.wrap hc; simp [eqGuard, binOp, Op.shift, IntKind.bits]; rw [if_neg (by omega)]; simp [hw]; done)
    | (obtain ⟨h0, hk⟩ := hv; refine ⟨_, _, hk, repI _, fun w => ?_⟩; simp [eqGuard, binOp, Op.intDiv, h0]; done)
    | (obtain ⟨h0, hk⟩ := hv; refine ⟨_, _, hk, repI _, fun w => ?_⟩; have h1 := Int.not_lt.2 h0; simp [eqGuard, binOp, Op.shift, IntKind.bits, h1]; done)
    | (obtain ⟨h0, hk⟩ := hv; refine ⟨_, _, hk, repS _, fun w => ?_⟩; have h1 := Nat.not_lt.2 h0; simp [eqGuard, binOp, run_string_add_if, str_add]; exact h0)
    | (refine ⟨_, _, hv, repU _, fun w => ?_⟩; simp [eqGuard, binOp, Op.intArith]; done)
    | (refine ⟨_, .bool (decide _), hv, repP _, fun w => ?_⟩; simp [eqGuard, binOp, Op.intCmp]; done)
    | (refine ⟨_, .bool (decide _), hv, repP _, fun w => ?_⟩; simp [eqGuard, binOp, Op.intCmp]; rfl)
    | (refine ⟨_, .bool (!decide _), hv, repN _, fun w => ?_⟩; simp [eqGuard, binOp, Op.intCmp]; done)
    | (refine ⟨_, .bool (!decide _), hv, repN _, fun w => ?_⟩; simp [eqGuard, binOp, Op.intCmp]; rfl)
    | (refine ⟨_, .bool (decide _), hv, repP _, fun w => ?_⟩; simp only [eqGuard, binOp, Op.stringOp, str_eq]; rfl)
    | (refine ⟨_, .bool (!decide _), hv, repN _, fun w => ?_⟩; simp only [eqGuard, binOp, Op.stringOp, str_eq]; rfl)
    | skip

theorem asP_rep {d : D} {p : Prop} {v : Value} {h : Heap} (ha : asP d = some p) (hd : RepD h β V w d v) : ∃ b, v = .bool b ∧ (b = true ↔ p) := by
  unfold asP at ha
  split at ha
  · injection ha with ha; subst ha; simpa only [RepD] using hd
  · injection ha with ha; subst ha; simpa only [RepD] using hd
  · injection ha with ha; subst ha; simp only [RepD, RepV] at hd; exact ⟨_, hd, Iff.rfl⟩
  · cases ha

theorem boolEq_runD (hT : TabOk P T) {op : BinOp} {x y : D} {k : D → Prop} {h : Heap} {vx vy : Value} (hv : vcBoolEq op x y k) (hx : RepD h β V w x vx) (hy : RepD h β V w y vy) {t : TypeId} {i : TI} (ht : T t = some i) (hk : i.kind = .bool) (ox oy : Operand) :
    ∃ d v, k d ∧ RepD h β V w d v ∧ ∀ w : World, (do eqGuard op t ox oy vx vy; binOp op t vx vy).run P w = .ok v w := by
  obtain ⟨d, hd, hdk, _⟩ := (hT t i ht).d
  rw [hk] at hdk
  have hdk : d = .bool := hdk
  subst hdk
  unfold vcBoolEq at hv
  split at hv
  · rename_i p q hp hq
    obtain ⟨b, rfl, hb⟩ := asP_rep hp hx
    obtain ⟨c, rfl, hc⟩ := asP_rep hq hy
    refine ⟨_, .bool (b == c), hv, by simp only [RepD]; refine ⟨_, rfl, ?_⟩; rw [← hb, ← hc]; cases b <;> cases c <;> simp, fun w => ?_⟩
    simp [eqGuard, run_eql_bool w t _ _ hd]
  · rename_i p q hp hq
    obtain ⟨b, rfl, hb⟩ := asP_rep hp hx
    obtain ⟨c, rfl, hc⟩ := asP_rep hq hy
    refine ⟨_, .bool (!(b == c)), hv, by simp only [RepD]; refine ⟨_, rfl, ?_⟩; rw [← hb, ← hc]; cases b <;> cases c <;> simp, fun w => ?_⟩
    simp [eqGuard, run_neq_bool w t _ _ hd]
  · exact hv.elim

theorem eqlIn_slice_nil0 (w : World) (d : Nat) (t e : TypeId) (a : Option Addr) (l c : Nat) (h : P.underlying t = some (.slice e)) : (Op.equalIn (d + 1) t (.slice a l c) (.slice none 0 0)).run P w = .ok a.isNone w := by
  cases a <;> simp [Op.equalIn, run_underlying h]
theorem eqlIn_slice_nil (w : World) (t e : TypeId) (a : Option Addr) (l c : Nat) (h : P.underlying t = some (.slice e)) : (Op.equal t (.slice a l c) (.slice none 0 0)).run P w = .ok a.isNone w := eqlIn_slice_nil0 w 9999 t e a l c h
theorem bytesG_rep (V : Nat → Prop) (w : World) : ∀ s : List UInt8, RepL V w (bytesG s).flatten (s.map (fun c => Value.int .u8 (c.toNat : Int)))
  | [] => by simp [bytesG, RepL]
  | c :: s => by
    have := bytesG_rep V w s
    simp only [bytesG, List.map_cons, List.flatten_cons, List.singleton_append, RepL, RepV, true_and] at this ⊢
    exact this
theorem nil_runD (hT : TabOk P T) {op : BinOp} {x y : D} {k : D → Prop} {h : Heap} {vx vy : Value} (hv : vcNil op x y k) (hx : RepD h β V w x vx) (hy : RepD h β V w y vy) {t e : TypeId} {i : TI} (ht : T t = some i) (hk : i.kind = .slice e) (ox oy : Operand) :
    ∃ d v, k d ∧ RepD h β V w d v ∧ ∀ w : World, (do eqGuard op t ox oy vx vy; binOp op t vx vy).run P w = .ok v w := by
  obtain ⟨d, hd, hdk, _⟩ := (hT t i ht).d
  rw [hk] at hdk
  have hdk : d = .slice e := hdk
  subst hdk
  unfold vcNil at hv
  split at hv
  · rename_i n xs
    simp only [RepD, RepV] at hx hy
    obtain ⟨A, cap, rfl, h1, h2, h3⟩ := hx
    subst hy
    refine ⟨_, .bool A.isNone, hv (A.isNone = true) (fun hn => ?_), by simp only [RepD]; exact ⟨_, rfl, Iff.rfl⟩, fun w => ?_⟩
    · cases xs with
      | nil => rfl
      | cons r xs => obtain ⟨b, hb, _⟩ := h2 (by simp); rw [hb] at hn; cases hn
    · simp [eqGuard, binOp, eqlIn_slice_nil w t e A _ _ hd]
  · rename_i n xs
    simp only [RepD, RepV] at hx hy
    obtain ⟨A, cap, rfl, h1, h2, h3⟩ := hx
    subst hy
    refine ⟨_, .bool (!A.isNone), hv (A.isNone = true) (fun hn => ?_), by simp only [RepD]; exact ⟨_, rfl, by cases A <;> simp⟩, fun w => ?_⟩
    · cases xs with
      | nil => rfl
      | cons r xs => obtain ⟨b, hb, _⟩ := h2 (by simp); rw [hb] at hn; cases hn
    · simp [eqGuard, binOp, eqlIn_slice_nil w t e A _ _ hd]
  · simp only [RepD] at hx hy
    subst hx; subst hy
    exact ⟨_, .bool true, hv, repB _, fun w => by simp [eqGuard, binOp, eqlIn_slice_nil w t e none _ _ hd]⟩
  · simp only [RepD] at hx hy
    subst hx; subst hy
    exact ⟨_, .bool false, hv, repB _, fun w => by simp [eqGuard, binOp, eqlIn_slice_nil w t e none _ _ hd]⟩
  · exact hv.elim

theorem eqCs_rep {h : Heap} : ∀ {cs ds : List D} {ks : List Nat} {p : Prop} {xs ys : List Value}, eqCs cs ds = some (ks, p) → RepDL h β V w cs xs → RepDL h β V w ds ys → kindL ks xs ∧ kindL ks ys ∧ (xs = ys ↔ p) := by
  intro cs
  induction cs with
  | nil =>
    intro ds ks p xs ys he hx hy
    cases ds with
    | nil =>
      simp only [eqCs] at he
      injection he with he
      injection he with e1 e2
      subst e1; subst e2
      simp only [RepDL] at hx hy
      subst hx; subst hy
      exact ⟨trivial, trivial, by simp⟩
    | cons d ds => simp [eqCs] at he
  | cons c cs ih =>
    intro ds ks p xs ys he hx hy
    cases ds with
    | nil => simp [eqCs] at he
    | cons d ds =>
      simp only [RepDL] at hx hy
      obtain ⟨v, vs, rfl, hv, hvs⟩ := hx
      obtain ⟨u, us, rfl, hu, hus⟩ := hy
      cases c with
      | g x =>
        cases d with
        | g y =>
          cases x with
          | int a => cases y with
            | int b =>
              simp only [eqCs] at he
              cases hrec : eqCs cs ds with
              | none => rw [hrec] at he; cases he
              | some q =>
                obtain ⟨ks', p'⟩ := q
                rw [hrec] at he
                injection he with he
                injection he with k1 k2
                subst k1; subst k2
                obtain ⟨h1, h2, h3⟩ := ih hrec hvs hus
                simp only [RepD, RepV] at hv hu
                subst hv; subst hu
                exact ⟨⟨trivial, h1⟩, ⟨trivial, h2⟩, by simp [h3]⟩
            | _ => simp [eqCs] at he
          | str a => cases y with
            | str b =>
              simp only [eqCs] at he
              cases hrec : eqCs cs ds with
              | none => rw [hrec] at he; cases he
              | some q =>
                obtain ⟨ks', p'⟩ := q
                rw [hrec] at he
                injection he with he
                injection he with k1 k2
                subst k1; subst k2
                obtain ⟨h1, h2, h3⟩ := ih hrec hvs hus
                simp only [RepD, RepV] at hv hu
                subst hv; subst hu
                exact ⟨⟨trivial, h1⟩, ⟨trivial, h2⟩, by simp [h3]⟩
            | _ => simp [eqCs] at he
          | bool a => cases y with
            | bool b =>
              simp only [eqCs] at he
              cases hrec : eqCs cs ds with
              | none => rw [hrec] at he; cases he
              | some q =>
                obtain ⟨ks', p'⟩ := q
                rw [hrec] at he
                injection he with he
                injection he with k1 k2
                subst k1; subst k2
                obtain ⟨h1, h2, h3⟩ := ih hrec hvs hus
                simp only [RepD, RepV] at hv hu
                subst hv; subst hu
                exact ⟨⟨trivial, h1⟩, ⟨trivial, h2⟩, by simp [h3]⟩
            | _ => simp [eqCs] at he
          | _ => cases y <;> simp [eqCs] at he
        | _ => simp [eqCs] at he
      | _ => cases d <;> simp [eqCs] at he
theorem stEq_runD {t : TypeId} {op : BinOp} {x y : D} {k : D → Prop} {h : Heap} {vx vy : Value} (hv : vcStEq P t op x y k) (hx : RepD h β V w x vx) (hy : RepD h β V w y vy) (ox oy : Operand) :
    ∃ d v, k d ∧ RepD h β V w d v ∧ ∀ w : World, (do eqGuard op t ox oy vx vy; binOp op t vx vy).run P w = .ok v w := by
  unfold vcStEq at hv
  split at hv
  · split at hv
    · rename_i ks p he
      simp only [RepD] at hx hy
      obtain ⟨us, rfl, h1⟩ := hx
      obtain ⟨vs, rfl, h2⟩ := hy
      obtain ⟨k1, k2, k3⟩ := eqCs_rep he h1 h2
      obtain ⟨b, hb, e1, _⟩ := hv.1 us vs .eql ox oy w k1 k2 (.inl rfl)
      refine ⟨_, .bool b, hv.2, by simp only [RepD]; exact ⟨b, rfl, (e1 rfl).trans k3⟩, fun w' => ?_⟩
      obtain ⟨b', hb', e1', _⟩ := hv.1 us vs .eql ox oy w' k1 k2 (.inl rfl)
      have : b' = b := by have := (e1' rfl).trans (e1 rfl).symm; cases b <;> cases b' <;> simp_all
      rw [hb', this]
    · exact hv.elim
  · split at hv
    · rename_i ks p he
      simp only [RepD] at hx hy
      obtain ⟨us, rfl, h1⟩ := hx
      obtain ⟨vs, rfl, h2⟩ := hy
      obtain ⟨k1, k2, k3⟩ := eqCs_rep he h1 h2
      obtain ⟨b, hb, _, e1⟩ := hv.1 us vs .neq ox oy w k1 k2 (.inr rfl)
      refine ⟨_, .bool b, hv.2, by simp only [RepD]; exact ⟨b, rfl, (e1 rfl).trans (not_congr k3)⟩, fun w' => ?_⟩
      obtain ⟨b', hb', _, e1'⟩ := hv.1 us vs .neq ox oy w' k1 k2 (.inr rfl)
      have : b' = b := by have := (e1' rfl).trans (e1 rfl).symm; cases b <;> cases b' <;> simp_all
      rw [hb', this]
    · exact hv.elim
  · exact hv.elim

section
variable (hr : RelD C st.h β V w) (he : EnvOk st β V w a) (hN : Nx C st.h β V w K next)
include hr he hN

theorem s_bin (hT : TabOk P T) {op : BinOp} {t t' : TypeId} {x y : Operand} {o : Oper} (ho : o.op = .binOp op t x y t') (h : vcOp P T F C.G (.binOp op t x y t') st K Qp) : OpRun P next qp ((execOp a.eval o).run P w) := by
  have fin : (∃ d v, K d st.h ∧ RepD st.h β V w d v ∧ ∀ w : World, (do eqGuard op t x y (a.eval x) (a.eval y); binOp op t (a.eval x) (a.eval y)).run P w = .ok v w) → OpRun P next qp ((execOp a.eval o).run P w) := by
    rintro ⟨d, v, hk, hd, hrun⟩
    exact fin_v hN hr (x := do eqGuard op t x y (a.eval x) (a.eval y); binOp op t (a.eval x) (a.eval y)) (by simp [execOp, ho]) (hrun w) hk hd
  simp only [vcOp] at h
  split at h
  · rename_i ht
    exact fin (boolEq_runD hT h (he.eval hr.gl x) (he.eval hr.gl y) ht rfl x y)
  · rename_i ht
    exact fin (nil_runD hT h (he.eval hr.gl x) (he.eval hr.gl y) ht rfl x y)
  · exact fin (stEq_runD h (he.eval hr.gl x) (he.eval hr.gl y) x y)
  · exact fin (bin_runD h (he.eval hr.gl x) (he.eval hr.gl y) t x y)

theorem s_un {op : UnOp} {t : TypeId} {x : Operand} {o : Oper} (ho : o.op = .unOp op t x) (h : vcOp P T F C.G (.unOp op t x) st K Qp) : OpRun P next qp ((execOp a.eval o).run P w) := by
  have fin : ∀ (d : D) (v : Value), K d st.h → RepD st.h β V w d v → (Op.unary op (a.eval x)).run P w = .ok v w → OpRun P next qp ((execOp a.eval o).run P w) := fun d v hk hd hrun =>
    fin_v hN hr (x := Op.unary op (a.eval x)) (by simp [execOp, ho]) hrun hk hd
  have hx := he.eval hr.gl x
  simp only [vcOp] at h
  unfold vcUn at h
  split at h
  · rename_i e
    rw [e] at hx
    simp only [RepD] at hx
    obtain ⟨b, hb, hbp⟩ := hx
    refine fin _ (.bool (!b)) h ?_ (by rw [hb]; rfl)
    simp only [RepD]
    exact ⟨!b, rfl, by rw [← hbp]; cases b <;> simp⟩
  · rename_i e
    rw [e] at hx
    simp only [RepD] at hx
    obtain ⟨b, hb, hbp⟩ := hx
    refine fin _ (.bool (!b)) h ?_ (by rw [hb]; rfl)
    simp only [RepD]
    refine ⟨!b, rfl, ?_⟩
    constructor
    · intro hn
      refine Classical.not_not.1 (fun hp => ?_)
      rw [hbp.2 hp] at hn
      cases hn
    · intro hp
      cases b with
      | true => exact absurd hp (hbp.1 rfl)
      | false => rfl
  · rename_i e
    rw [e] at hx
    simp only [RepD, RepV] at hx
    exact fin _ (.bool false) h (by simp only [RepD, RepV]) (by rw [hx]; rfl)
  · rename_i e
    rw [e] at hx
    simp only [RepD, RepV] at hx
    exact fin _ (.bool true) h (by simp only [RepD, RepV]) (by rw [hx]; rfl)
  · rename_i e
    rw [e] at hx
    simp only [RepD, RepV] at hx
    obtain ⟨hc, hk⟩ := h
    have hw := I64.wrap hc
    exact fin _ _ hk (repI _) (by rw [hx]; simp [Op.unary, Op.intArith] at hw ⊢; exact hw)
  · exact h.elim

theorem s_convert (hT : TabOk P T) {src dst : TypeId} {x : Operand} {o : Oper} (ho : o.op = .convert src dst x) (h : vcOp P T F C.G (.convert src dst x) st K Qp) : OpRun P next qp ((execOp a.eval o).run P w) := by
  have he' : execOp a.eval o = (do pure (.value (← convert src dst (a.eval x)))) := by simp [execOp, ho]
  have hx := he.eval hr.gl x
  simp only [vcOp] at h
  split at h
  · rename_i hs hd e
    rw [e] at hx
    simp only [RepD, RepV] at hx
    obtain ⟨hc, hk⟩ := h
    obtain ⟨d1, hd1, _⟩ := (hT src _ hs).d
    obtain ⟨d, hd2, hdk, _⟩ := (hT dst _ hd).d
    have hdk : d = .int .i64 := hdk
    subst hdk
    refine fin_v hN hr he' ?_ hk (repI _)
    rw [hx]
    have hw := I64.wrap hc
    simp [convert, run_underlying hd1, run_underlying hd2, Conv.intToInt, hw]
  · rename_i hs hd e
    rw [e] at hx
    simp only [RepD, RepV] at hx
    obtain ⟨hc, hk⟩ := h
    obtain ⟨d1, hd1, _⟩ := (hT src _ hs).d
    obtain ⟨d, hd2, hdk, _⟩ := (hT dst _ hd).d
    have hdk : d = .int .i64 := hdk
    subst hdk
    refine fin_v hN hr he' ?_ hk (repI _)
    rw [hx]
    have hw := I64.wrap hc
    simp [convert, run_underlying hd1, run_underlying hd2, Conv.intToInt, hw]
  · rename_i hs hd e
    rw [e] at hx
    simp only [RepD, RepV] at hx
    obtain ⟨d1, hd1, _⟩ := (hT src _ hs).d
    obtain ⟨d, hd2, hdk, _⟩ := (hT dst _ hd).d
    have hdk : d = .int .u8 := hdk
    subst hdk
    refine fin_v hN hr he' ?_ h (repU _)
    rw [hx]
    simp [convert, run_underlying hd1, run_underlying hd2, Conv.intToInt]
  · rename_i e s hs hd ex
    split at h
    · rename_i hte
      rw [ex] at hx
      simp only [RepD, RepV] at hx
      obtain ⟨d1, hd1, hk1, _⟩ := (hT src _ hs).d
      have hk1 : d1 = .string := hk1
      subst hk1
      obtain ⟨d2, hd2, hk2, _⟩ := (hT dst _ hd).d
      have hk2 : d2 = .slice e := hk2
      subst hk2
      obtain ⟨d3, hd3, hk3, _⟩ := (hT e _ hte).d
      have hk3 : d3 = .int .u8 := hk3
      subst hk3
      have hrun := run_bytes_of_string (P := P) w src dst e ⟨⟨s⟩⟩ hd1 hd2 hd3
      have hrun2 := Go.Eng.run_v (o := o) (ρ := a.eval) he' (by rw [hx]; exact hrun)
      rw [hrun2]
      generalize hcap : grownCap w (ByteArray.size ⟨⟨s⟩⟩) 0 e = cap
      have hge : s.length ≤ cap := by rw [← hcap]; exact grownCap_ge w _ 0 e
      have hcell : ∀ j v, (s.map (fun c => Value.int .u8 (c.toNat : Int)))[j]? = some v → (w.drew.alloc (.cells (bytesRow ⟨⟨s⟩⟩ cap) e ((bytesRow ⟨⟨s⟩⟩ cap).size, (bytesRow ⟨⟨s⟩⟩ cap).size + 1))).cell? ((⟨w.heap.size, 0, none⟩ : Addr).add (0 * 1 + j)) = some v := by
        intro j v hj
        have hjl : j < s.length := by have := (List.getElem?_eq_some_iff.1 hj).1; simpa using this
        have h1 : (w.drew.alloc (.cells (bytesRow ⟨⟨s⟩⟩ cap) e ((bytesRow ⟨⟨s⟩⟩ cap).size, (bytesRow ⟨⟨s⟩⟩ cap).size + 1))).cell? ((⟨w.heap.size, 0, none⟩ : Addr).add (0 * 1 + j)) = (bytesRow ⟨⟨s⟩⟩ cap)[j]? := by
          have := World.cell?_alloc_mark w.drew (bytesRow ⟨⟨s⟩⟩ cap) e ((bytesRow ⟨⟨s⟩⟩ cap).size, (bytesRow ⟨⟨s⟩⟩ cap).size + 1) j
          have e0 : (⟨w.heap.size, 0, none⟩ : Addr).add (0 * 1 + j) = ⟨w.heap.size, j, none⟩ := by
            simp only [Addr.add]
            split <;> simp_all
          rw [e0]
          exact this
        rw [h1, bytesRow_at ⟨⟨s⟩⟩ cap j (by simpa using hjl)]
        simp [List.getElem?_eq_getElem hjl] at hj
        rw [← hj]
        simp
      have hfr : Fr (fun _ => False) w (w.drew.alloc (.cells (bytesRow ⟨⟨s⟩⟩ cap) e ((bytesRow ⟨⟨s⟩⟩ cap).size, (bytesRow ⟨⟨s⟩⟩ cap).size + 1))) := ⟨rfl, rfl, rfl, by show w.heap.size ≤ (w.heap.push _).size; simp, fun k hk _ => by show (w.heap.push _)[k]? = _; exact Array.getElem?_push_lt hk |>.trans (Array.getElem?_eq_getElem hk).symm⟩
      have hm0 : Moved V w (fun k => V k ∨ k = w.heap.size) (w.drew.alloc (.cells (bytesRow ⟨⟨s⟩⟩ cap) e ((bytesRow ⟨⟨s⟩⟩ cap).size, (bytesRow ⟨⟨s⟩⟩ cap).size + 1))) := fun k hk => ⟨.inl hk, hfr.block k (hr.vlt k hk) (fun h => h)⟩
      refine hN _ _ _ _ β (fun k => V k ∨ k = w.heap.size) h ?_ ?_ (LeH.refl _ _) hm0
      · refine ⟨fun i o hi => ?_, hr.sep, hr.mine, fun i o k hi hlv hb hV => ?_, fun k hk => ?_, fun k hk => .inl (hr.vin k hk), fun k hk => ?_, ?_, hr.gl.move hm0⟩
        · cases hlv : o.live with
          | false => cases o <;> simp_all [Obj.live, ObjOk]
          | true => exact (hr.obj i o hi).keep (LeH.refl _ β) hm0 rfl (fun k hk => hfr.block k (hr.lt hi hlv hk) (fun h => h))
        · rcases hV with hV | hV
          · exact hr.vout i o k hi hlv hb hV
          · have := hr.lt hi hlv hb
            omega
        · rcases hk with hk | hk
          · exact Nat.lt_of_lt_of_le (hr.vlt k hk) hfr.size
          · subst hk
            show _ < (w.heap.push _).size
            simp
        · rcases hk with hk | hk
          · exact hr.vnew k hk
          · subst hk
            exact .inr (.inl hr.fr.size)
        · refine ⟨hfr.os.trans hr.fr.os, hfr.tape.trans hr.fr.tape, hfr.output.trans hr.fr.output, Nat.le_trans hr.fr.size hfr.size, fun k hk hn => ?_⟩
          rw [hfr.block k (Nat.lt_of_lt_of_le hk hr.fr.size) (fun h => h)]
          exact hr.fr.block k hk hn
      · simp only [RepD, RepV]
        refine ⟨some ⟨w.heap.size, 0, none⟩, cap, ?_, by simpa [bytesG] using hge, fun _ => ⟨_, rfl, .inr rfl, ?_⟩, fun h => by cases h⟩
        · simp only [bytesG, List.length_map]; rfl
        · refine RepAll.of_flat _ (s.map (fun c => Value.int .u8 (c.toNat : Int))) 0 (fun r hr => ?_) ?_ hcell
          · obtain ⟨c, _, rfl⟩ := List.mem_map.1 hr
            rfl
          · exact bytesG_rep _ _ s
    · exact h.elim
  · exact h.elim

theorem s_fieldAddr (hT : TabOk P T) {t : TypeId} {x : Operand} {f : Nat} {o : Oper} (ho : o.op = .fieldAddr t x f) (h : vcOp P T F C.G (.fieldAddr t x f) st K Qp) : OpRun P next qp ((execOp a.eval o).run P w) := by
  have he' : execOp a.eval o = (do pure (.value (← Instr.fieldAt t (a.eval x) f))) := by simp [execOp, ho]
  have hx := he.eval hr.gl x
  simp only [vcOp] at h
  split at h
  · rename_i hs
    split at h
    · rename_i off sz hf
      split at h
      · rename_i i o' e
        rw [e] at hx
        split at h
        · rename_i cs ty hi
          simp only [RepD, hi] at hx
          obtain ⟨g, hb, hv⟩ := hx
          refine fin_v hN hr he' (v := .pointer (some ⟨g, o' + off, none⟩)) ?_ h (by simp only [RepD, hi]; exact ⟨g, hb, rfl⟩)
          rw [hv, run_fieldAt hT hs rfl hf, add_mk]
        · exact h.elim
      · rename_i i j o' e
        rw [e] at hx
        split at h
        · rename_i xs ty sz' hi
          simp only [RepD, hi] at hx
          obtain ⟨hj, g, n, c, hb, hv⟩ := hx
          refine fin_v hN hr he' (v := .pointer (some ⟨g, j * sz' + o' + off, none⟩)) ?_ h (by simp only [RepD, hi]; exact ⟨hj, g, n, c, hb, by rw [Nat.add_assoc]⟩)
          rw [hv, run_fieldAt hT hs rfl hf, add_mk]
        · exact h.elim
      · rename_i r o' e
        rw [e] at hx
        simp only [RepD] at hx
        obtain ⟨ad, hv, hV, hrow⟩ := hx
        refine fin_v hN hr he' (v := .pointer (some ((ad.add o').add off))) ?_ h (by simp only [RepD]; exact ⟨ad, by rw [add_add], hV, hrow⟩)
        rw [hv, run_fieldAt hT hs rfl hf]
      · exact h.elim
    · exact h.elim
  · exact h.elim

omit hN in
theorem intv {x : Operand} {n : Int} (e : sv C.G st x = .g (.int n)) : a.eval x = .int .i64 n := by
  have hx := he.eval hr.gl x
  rw [e] at hx
  simpa only [RepD, RepV] using hx

theorem s_indexAddr (hT : TabOk P T) {t : TypeId} {x ix : Operand} {o : Oper} (ho : o.op = .indexAddr t x ix) (h : vcOp P T F C.G (.indexAddr t x ix) st K Qp) : OpRun P next qp ((execOp a.eval o).run P w) := by
  have he' : execOp a.eval o = (do pure (.value (← Instr.indexAt t (a.eval x) (a.eval ix)))) := by simp [execOp, ho]
  have hx := he.eval hr.gl x
  simp only [vcOp] at h
  unfold vcIndexAddr at h
  split at h
  · rename_i e hs
    split at h
    · rename_i ei k xs hte ex
      cases hb : Nat.beq k ei.size with
      | false => rw [hb] at h; exact h.elim
      | true =>
        rw [hb] at h
        have hke := Nat.eq_of_beq_eq_true hb
        subst hke
        obtain ⟨j, r, hj, hxj, hk⟩ := h
        rw [ex] at hx
        simp only [RepD, RepV] at hx
        obtain ⟨A, cap, hv, hc, ha⟩ := hx
        have hl : j < xs.length := (List.getElem?_eq_some_iff.1 hxj).1
        obtain ⟨ad, rfl, hV, hall⟩ := ha.1 (by omega)
        obtain ⟨hlen, hrow⟩ := RepAll.get xs 0 j r hall hxj
        rw [Nat.zero_add] at hrow
        refine fin_v hN hr he' (v := .pointer (some (ad.add (j * ei.size)))) ?_ hk (by simp only [RepD]; exact ⟨ad.add (j * ei.size), by rw [add_add, Nat.add_zero], by rw [add_block]; exact hV, (RepRow.shift r 0 (j * ei.size)).1 (by rwa [Nat.zero_add])⟩)
        rw [hv, intv hr he hj]
        exact run_indexAt_sl hT hs rfl hte ad xs.length cap j hl w
    · rename_i ei i hte ex
      split at h
      · rename_i xs ty sz hi
        cases hb : Nat.beq sz ei.size with
        | false => rw [hb] at h; exact h.elim
        | true =>
          rw [hb] at h
          have hke := Nat.eq_of_beq_eq_true hb
          subst hke
          obtain ⟨j, hj, hl, hk⟩ := h
          rw [ex] at hx
          simp only [RepD, hi] at hx
          obtain ⟨vs, hown, _⟩ := hr.obj i _ hi
          rcases hown.2 with ⟨_, h0⟩ | ⟨g, cap, cur, hbv, _⟩
          · omega
          · refine fin_v hN hr he' (v := .pointer (some ⟨g, 0 + j * ei.size, none⟩)) ?_ hk (by simp only [RepD, hi]; exact ⟨hl, g, _, _, hbv, by rw [Nat.zero_add, Nat.add_zero]⟩)
            rw [hx, hbv, intv hr he hj, run_indexAt_sl hT hs rfl hte _ xs.length cap j hl w, add_mk]
      · exact h.elim
    · rename_i ei i lo n hte ex
      split at h
      · rename_i xs ty sz hi
        cases hb : Nat.beq sz ei.size with
        | false => rw [hb] at h; exact h.elim
        | true =>
          rw [hb] at h
          have hke := Nat.eq_of_beq_eq_true hb
          subst hke
          obtain ⟨j, hj, hl, hk⟩ := h
          rw [ex] at hx
          simp only [RepD, hi] at hx
          obtain ⟨hln, A, m, cap, hbe, hv⟩ := hx
          obtain ⟨vs, hown, _⟩ := hr.obj i _ hi
          rcases hown.2 with ⟨_, h0⟩ | ⟨g, cap', cur, hbv, _, _, hnc, _⟩
          · omega
          · rw [hbv] at hbe
            injection hbe with e1 e2 e3
            subst e1
            subst e3
            have hne : cap' ≠ lo := by omega
            rw [if_neg hne] at hv
            simp only [Option.map_some, add_mk, Nat.zero_add] at hv
            refine fin_v hN hr he' (v := .pointer (some ⟨g, lo * ei.size + j * ei.size, none⟩)) ?_ hk (by simp only [RepD, hi]; exact ⟨by omega, g, _, _, hbv, by rw [Nat.add_zero, Nat.add_mul]⟩)
            rw [hv, intv hr he hj, run_indexAt_sl hT hs rfl hte _ n _ j hl w, add_mk]
      · exact h.elim
    · exact h.elim
  · rename_i n e hs
    split at h
    · rename_i ei i o' hte ex
      rw [ex] at hx
      split at h
      · rename_i cs ty hi
        obtain ⟨j, hj, hl, hk⟩ := h
        simp only [RepD, hi] at hx
        obtain ⟨g, hb, hv⟩ := hx
        refine fin_v hN hr he' (v := .pointer (some ⟨g, o' + j * ei.size, none⟩)) ?_ hk (by simp only [RepD, hi]; exact ⟨g, hb, rfl⟩)
        rw [hv, intv hr he hj, run_indexAt_arr hT hs rfl hte _ j hl w, add_mk]
      · exact h.elim
    · rename_i ei r o' hte ex
      obtain ⟨j, hj, hl, hk⟩ := h
      rw [ex] at hx
      simp only [RepD] at hx
      obtain ⟨ad, hv, hV, hrow⟩ := hx
      refine fin_v hN hr he' (v := .pointer (some ((ad.add o').add (j * ei.size)))) ?_ hk (by simp only [RepD]; exact ⟨ad, by rw [add_add], hV, hrow⟩)
      rw [hv, intv hr he hj]
      exact run_indexAt_arr hT hs rfl hte _ j hl w
    · rename_i ei i k' o' hte ex
      rw [ex] at hx
      split at h
      · rename_i xs ty sz' hi
        obtain ⟨j, hj, hl, hk⟩ := h
        simp only [RepD, hi] at hx
        obtain ⟨hkl, g, nn, c, hb, hv⟩ := hx
        refine fin_v hN hr he' (v := .pointer (some ⟨g, k' * sz' + o' + j * ei.size, none⟩)) ?_ hk (by simp only [RepD, hi]; exact ⟨hkl, g, nn, c, hb, by rw [Nat.add_assoc]⟩)
        rw [hv, intv hr he hj, run_indexAt_arr hT hs rfl hte _ j hl w, add_mk]
      · exact h.elim
    · exact h.elim
  · exact h.elim

theorem s_index (hT : TabOk P T) {t : TypeId} {x ix : Operand} {o : Oper} (ho : o.op = .index t x ix) (h : vcOp P T F C.G (.index t x ix) st K Qp) : OpRun P next qp ((execOp a.eval o).run P w) := by
  have he' : execOp a.eval o = (do pure (.value (← Instr.index t (a.eval x) (a.eval ix)))) := by simp [execOp, ho]
  have hx := he.eval hr.gl x
  simp only [vcOp] at h
  split at h
  · rename_i s hs ex
    obtain ⟨j, c, hi, hj, hk⟩ := h
    rw [ex] at hx
    simp only [RepD, RepV] at hx
    obtain ⟨d, hd, hdk, _⟩ := (hT t _ hs).d
    have hdk : d = .string := hdk
    subst hdk
    refine fin_v hN hr he' ?_ hk (repU _)
    rw [hx, intv hr he hi]
    have h1 : (0 : Int) ≤ (j : Int) := by omega
    have h2 : (⟨⟨s⟩⟩ : ByteArray)[j]? = some c := by
      obtain ⟨hl, hc⟩ := List.getElem?_eq_some_iff.1 hj
      have hsz : j < (⟨⟨s⟩⟩ : ByteArray).size := hl
      rw [getElem?_pos (⟨⟨s⟩⟩ : ByteArray) j hsz]
      exact congrArg some hc
    simp [Instr.index, run_underlying hd, asIntOf, h2]
  · exact h.elim

theorem s_slice (hT : TabOk P T) {t : TypeId} {x : Operand} {lo hi : Option Operand} {o : Oper} (ho : o.op = .slice t x lo hi none) (h : vcOp P T F C.G (.slice t x lo hi none) st K Qp) : OpRun P next qp ((execOp a.eval o).run P w) := by
  have he' : execOp a.eval o = (do pure (.value (← Instr.sliceAt t (a.eval x) (lo.map a.eval) (hi.map a.eval) none))) := by simp [execOp, ho]
  have hx := he.eval hr.gl x
  simp only [vcOp] at h
  unfold vcSlice at h
  split at h
  · rename_i s hs ex
    rw [ex] at hx
    simp only [RepD, RepV] at hx
    obtain ⟨d, hd, hdk, _⟩ := (hT t _ hs).d
    have hdk : d = .string := hdk
    subst hdk
    have fin : ∀ (l hh : Nat) (s' : List UInt8), (match lo.map a.eval with | none => l = 0 | some p => p = .int .i64 (l : Int)) → (match hi.map a.eval with | none => hh = s.length | some p => p = .int .i64 (hh : Int)) → l ≤ hh → hh ≤ s.length → s' = (s.take hh).drop l → K (.g (.str s')) st.h →
        OpRun P next qp ((execOp a.eval o).run P w) := by
      intro l hh s' hlo hhi h1 h2 he2 hk
      subst he2
      refine fin_v hN hr he' ?_ hk (repS _)
      have hb := run_bounds (P := P) (w := w) false s.length s.length l hh (lo.map a.eval) (hi.map a.eval) hlo hhi h1 h2
      rw [hx]
      simp only [Instr.sliceAt, Instr.slice, Sem.run_bind, run_underlying hd, Result.andThen_ok]
      have hsz : (⟨⟨s⟩⟩ : ByteArray).size = s.length := rfl
      rw [hsz]
      simp [hb, extract_list ⟨⟨s⟩⟩ l hh h2]
    split at h
    · rename_i e1 e2
      have e1 : lo = none := by simpa using e1
      have e2 : hi = none := by simpa using e2
      subst e1; subst e2
      exact fin 0 s.length s rfl rfl (by omega) (by omega) (by simp) h
    · rename_i p e1 e2
      have e1 : lo = none := by simpa using e1
      obtain ⟨q, rfl, rfl⟩ := Option.map_eq_some_iff.1 e2
      subst e1
      obtain ⟨hh, hp, hl, hk⟩ := h
      exact fin 0 hh _ rfl (intv hr he hp) (by omega) hl (by simp) hk
    · rename_i p e1 e2
      have e2 : hi = none := by simpa using e2
      obtain ⟨q, rfl, rfl⟩ := Option.map_eq_some_iff.1 e1
      subst e2
      obtain ⟨l, hp, hl, hk⟩ := h
      exact fin l s.length _ (intv hr he hp) rfl hl (by omega) (by simp) hk
    · rename_i p p' e1 e2
      obtain ⟨q, rfl, rfl⟩ := Option.map_eq_some_iff.1 e1
      obtain ⟨q', rfl, rfl⟩ := Option.map_eq_some_iff.1 e2
      obtain ⟨l, hh, hp, hp', h1, h2, hk⟩ := h
      exact fin l hh _ (intv hr he hp) (intv hr he hp') h1 h2 rfl hk
  · rename_i e k xs hs ex
    split at h
    · exact h.elim
    · rename_i ei hte
      cases hb : Nat.beq k ei.size with
      | false => rw [hb] at h; exact h.elim
      | true =>
        rw [hb] at h
        simp only [cond_true] at h
        have hke := Nat.eq_of_beq_eq_true hb
        subst hke
        rw [ex] at hx
        simp only [RepD] at hx
        obtain ⟨d, hd, hdk, _⟩ := (hT t _ hs).d
        have hdk : d = .slice e := hdk
        subst hdk
        obtain ⟨inf, z, hinf, hsz, _⟩ := (hT e ei hte).inf
        have hx' := hx
        simp only [RepV] at hx'
        obtain ⟨A, cap, hv, hc, _⟩ := hx'
        rw [hv] at hx
        have fin : ∀ (l hh : Nat) (xs' : List (List GV)), (match lo.map a.eval with | none => l = 0 | some p => p = .int .i64 (l : Int)) → (match hi.map a.eval with | none => hh = xs.length | some p => p = .int .i64 (hh : Int)) → l ≤ hh → hh ≤ xs.length → xs' = (xs.take hh).drop l → K (.g (.sl ei.size xs')) st.h →
            OpRun P next qp ((execOp a.eval o).run P w) := by
          intro l hh xs' hlo hhi h1 h2 he2 hk
          subst he2
          refine fin_v hN hr he' (v := .slice (if cap = l then A else A.map (·.add (l * ei.size))) (hh - l) (cap - l)) ?_ hk (by simp only [RepD]; exact hx.piece h1 h2)
          have hb := run_bounds (P := P) (w := w) true xs.length cap l hh (lo.map a.eval) (hi.map a.eval) hlo hhi h1 (by omega)
          rw [hv]
          simp only [Instr.sliceAt, Instr.slice, Sem.run_bind, run_underlying hd, Result.andThen_ok]
          simp [hb, sizeOf, typeInfo, hinf, hsz]
        split at h
        · rename_i e1 e2
          have e1 : lo = none := by simpa using e1
          have e2 : hi = none := by simpa using e2
          subst e1; subst e2
          exact fin 0 xs.length xs rfl rfl (by omega) (by omega) (by simp) h
        · rename_i p e1 e2
          have e1 : lo = none := by simpa using e1
          obtain ⟨q, rfl, rfl⟩ := Option.map_eq_some_iff.1 e2
          subst e1
          obtain ⟨hh, hp, hl, hk⟩ := h
          exact fin 0 hh _ rfl (intv hr he hp) (by omega) hl (by simp) hk
        · rename_i p e1 e2
          have e2 : hi = none := by simpa using e2
          obtain ⟨q, rfl, rfl⟩ := Option.map_eq_some_iff.1 e1
          subst e2
          obtain ⟨l, hp, hl, hk⟩ := h
          exact fin l xs.length _ (intv hr he hp) rfl hl (by omega) (by simp) hk
        · rename_i p p' e1 e2
          obtain ⟨q, rfl, rfl⟩ := Option.map_eq_some_iff.1 e1
          obtain ⟨q', rfl, rfl⟩ := Option.map_eq_some_iff.1 e2
          obtain ⟨l, hh, hp, hp', h1, h2, hk⟩ := h
          exact fin l hh _ (intv hr he hp) (intv hr he hp') h1 h2 rfl hk
  · rename_i e i hs ex
    split at h
    · rename_i ei xs ty sz hte hi'
      cases hb : Nat.beq sz ei.size with
      | false => rw [hb] at h; exact h.elim
      | true =>
        rw [hb] at h
        simp only [cond_true] at h
        have hke := Nat.eq_of_beq_eq_true hb
        subst hke
        rw [ex] at hx
        simp only [RepD, hi'] at hx
        obtain ⟨d, hd, hdk, _⟩ := (hT t _ hs).d
        have hdk : d = .slice e := hdk
        subst hdk
        obtain ⟨inf, z, hinf, hsz, _⟩ := (hT e ei hte).inf
        obtain ⟨vs, hown, _⟩ := hr.obj i _ hi'
        have hshape : ∃ A cap, β i = .slice A xs.length cap ∧ xs.length ≤ cap := by
          rcases hown.2 with ⟨hn, h0⟩ | ⟨g, cap, cur, hbv, _, _, hnc, _⟩
          · exact ⟨none, 0, by rw [hn, h0], by omega⟩
          · exact ⟨_, cap, hbv, hnc⟩
        obtain ⟨A, cap, hbe, hnc⟩ := hshape
        have run : ∀ (l hh : Nat), (match lo.map a.eval with | none => l = 0 | some p => p = .int .i64 (l : Int)) → (match hi.map a.eval with | none => hh = xs.length | some p => p = .int .i64 (hh : Int)) → l ≤ hh → hh ≤ xs.length →
            (Instr.sliceAt t (a.eval x) (lo.map a.eval) (hi.map a.eval) none).run P w = .ok (.slice (if cap = l then A else A.map (·.add (l * ei.size))) (hh - l) (cap - l)) w := by
          intro l hh hlo hhi h1 h2
          have hb := run_bounds (P := P) (w := w) true xs.length cap l hh (lo.map a.eval) (hi.map a.eval) hlo hhi h1 (by omega)
          rw [hx, hbe]
          simp only [Instr.sliceAt, Instr.slice, Sem.run_bind, run_underlying hd, Result.andThen_ok]
          simp [hb, sizeOf, typeInfo, hinf, hsz]
        have fin : ∀ (l hh m : Nat), (match lo.map a.eval with | none => l = 0 | some p => p = .int .i64 (l : Int)) → (match hi.map a.eval with | none => hh = xs.length | some p => p = .int .i64 (hh : Int)) → l ≤ hh → hh ≤ xs.length → m = hh - l → K (.rs i l m) st.h →
            OpRun P next qp ((execOp a.eval o).run P w) := by
          intro l hh m hlo hhi h1 h2 hm hk
          subst hm
          refine fin_v hN hr he' (run l hh hlo hhi h1 h2) hk ?_
          simp only [RepD, hi']
          exact ⟨by omega, A, xs.length, cap, hbe, rfl⟩
        split at h
        · rename_i e1 e2
          have e1 : lo = none := by simpa using e1
          have e2 : hi = none := by simpa using e2
          subst e1; subst e2
          refine fin_v hN hr he' (run 0 xs.length rfl rfl (by omega) (by omega)) h ?_
          simp only [RepD, hi', hbe, Nat.sub_zero, Nat.zero_mul]
          by_cases hc0 : cap = 0
          · simp [hc0]
          · cases A <;> simp [hc0, Addr.add]
        · rename_i p e1 e2
          have e1 : lo = none := by simpa using e1
          obtain ⟨q, rfl, rfl⟩ := Option.map_eq_some_iff.1 e2
          subst e1
          obtain ⟨hh, hp, hl, hk⟩ := h
          exact fin 0 hh _ rfl (intv hr he hp) (by omega) hl (by simp) hk
        · rename_i p e1 e2
          have e2 : hi = none := by simpa using e2
          obtain ⟨q, rfl, rfl⟩ := Option.map_eq_some_iff.1 e1
          subst e2
          obtain ⟨l, hp, hl, hk⟩ := h
          exact fin l xs.length _ (intv hr he hp) rfl hl (by omega) rfl hk
        · rename_i p p' e1 e2
          obtain ⟨q, rfl, rfl⟩ := Option.map_eq_some_iff.1 e1
          obtain ⟨q', rfl, rfl⟩ := Option.map_eq_some_iff.1 e2
          obtain ⟨l, hh, hp, hp', h1, h2, hk⟩ := h
          exact fin l hh _ (intv hr he hp) (intv hr he hp') h1 h2 rfl hk
    · exact h.elim
  · rename_i n e i o' hs ex
    rw [ex] at hx
    split at h
    · rename_i ti cs ty e1 e2 e3 hi'
      have e1 : lo = none := by simpa using e1
      have e2 : hi = none := by simpa using e2
      subst e1; subst e2
      cases hb : Nat.ble (o' + n * ti.size) cs.length && Nat.blt 0 n with
      | false => rw [hb] at h; exact h.elim
      | true =>
        rw [hb] at h
        simp only [cond_true] at h
        simp only [Bool.and_eq_true] at hb
        have hn : 0 < n := Nat.le_of_ble_eq_true hb.2
        obtain ⟨d, hd, hdk, _⟩ := (hT t _ hs).d
        have hdk : d = .array n e := hdk
        subst hdk
        obtain ⟨inf, z, hinf, hsz, _⟩ := (hT e ti e3).inf
        simp only [RepD, hi'] at hx
        obtain ⟨g, hb', hv⟩ := hx
        refine fin_v hN hr he' (v := .slice (some ⟨g, o', none⟩) n n) ?_ h (by simp only [RepD, hi']; exact ⟨g, n, hb', rfl⟩)
        have hb := run_bounds (P := P) (w := w) false n n 0 n none none rfl rfl (by omega) (by omega)
        rw [hv]
        simp only [Instr.sliceAt, Sem.run_bind, run_underlying hd, Result.andThen_ok, Option.map_none]
        simp [hb, sizeOf, typeInfo, hinf, Instr.sureAddr, Nat.pos_iff_ne_zero.1 hn, Addr.add]
    · exact h.elim
  · exact h.elim
end
end
end Go.Dm
