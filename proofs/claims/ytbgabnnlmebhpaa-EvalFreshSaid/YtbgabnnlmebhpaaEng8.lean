/-
  The engine, eighth part: regions, code, loops, and the entering of a function. It holds of every program whose table of types is met.
-/
import Derived.Test.YtbgabnnlmebhpaaEng7
import Derived.Orders
namespace Go.Eng
open Go.RowKit

abbrev Post := Exit → St → Anch → Prop

def St.next (st : St) (dst : Option Nat) (s : SV) (hp : List LB) (rows : List Row) : St := { env := st.env.put dst s, hp := hp, rows := rows, df := st.df }
def St.mem (st : St) (hp : List LB) (rows : List Row) : St := { env := st.env, hp := hp, rows := rows, df := st.df }
def St.setE (st : St) (d : Nat) (s : SV) : St := { env := st.env.set d s, hp := st.hp, rows := st.rows, df := st.df }

def forceW (v : Value) (K : Value → Prop) : Prop :=
  match v with
  | .agg ⟨cs⟩ => forceVL cs fun cs => K (.agg ⟨cs⟩)
  | v => forceV v K
theorem forceW_eq (v : Value) (K : Value → Prop) : forceW v K = K v := by
  unfold forceW
  split
  · rw [forceVL_eq]
  · rw [forceV_eq]
def forceSV (s : SV) (K : SV → Prop) : Prop :=
  match s with
  | .v x => forceW x fun x => K (.v x)
  | .sb c => K (.sb c)
  | .loc i o => K (.loc i o)
theorem forceSV_eq (s : SV) (K : SV → Prop) : forceSV s K = K s := by cases s <;> simp only [forceSV, forceW_eq]
def forceHp : List LB → (List LB → Prop) → Prop
  | [], K => K []
  | ⟨b, cs, t⟩ :: l, K => forceVL cs fun cs => forceHp l fun l => K (⟨b, cs, t⟩ :: l)
theorem forceHp_eq : ∀ (l : List LB) (K : List LB → Prop), forceHp l K = K l := by
  intro l
  induction l with
  | nil => intro K; rfl
  | cons v l ih => intro K; simp only [forceHp, forceVL_eq, ih]
def forceRows : List Row → (List Row → Prop) → Prop
  | [], K => K []
  | ⟨v, n, xs, e, sz⟩ :: l, K => forceV v fun v => forceRows l fun l => K (⟨v, n, xs, e, sz⟩ :: l)
theorem forceRows_eq : ∀ (l : List Row) (K : List Row → Prop), forceRows l K = K l := by
  intro l
  induction l with
  | nil => intro K; rfl
  | cons v l ih => intro K; simp only [forceRows, forceV_eq, ih]

def runOp (P : Program) (T : Tab) (F : FuncId → Bool) (C : Ctx) (op : Op) (dst : Option Nat) (st : St) (A : Anch) (K : St → Anch → Prop) (Q : Post) : Prop :=
  match st with
  | ⟨env, hp, rows, df⟩ => vcOp P T F C op ⟨env, hp, rows, df⟩ A
      (fun s hp rows A' => forceSV s fun s => forceHp hp fun hp => forceRows rows fun rows => match dst with | some d => K ⟨env.set d s, hp, rows, df⟩ A' | none => K ⟨env, hp, rows, df⟩ A')
      (fun ch hp rows A' => Q (.panic ch) ⟨env, hp, rows, df⟩ A')
def skipOp (dst : Option Nat) (st : St) (A : Anch) (K : St → Anch → Prop) : Prop :=
  match st with
  | ⟨env, hp, rows, df⟩ => match dst with | some d => K ⟨env.set d (.v undef), hp, rows, df⟩ A | none => K ⟨env, hp, rows, df⟩ A

/-- One operation of a region, run or left out as its guard says. -/
def vcOne (P : Program) (T : Tab) (F : FuncId → Bool) (C : Ctx) (all : Array Oper) (o : Oper) (st : St) (A : Anch) (K : St → Anch → Prop) (Q : Post) : Prop :=
  match o with
  | ⟨dst, op, _, _, _, none⟩ => runOp P T F C op dst st A K Q
  | ⟨dst, op, _, _, _, some (j, b)⟩ =>
    match (all[j]?).bind (·.dst) with
    | none => skipOp dst st A K
    | some d =>
      match st.env d with
      | .v (.bool true) => bif b then runOp P T F C op dst st A K Q else skipOp dst st A K
      | .v (.bool false) => bif b then skipOp dst st A K else runOp P T F C op dst st A K Q
      | .v (.tuple _) => skipOp dst st A K
      | .sb c => match st with
        | ⟨env, hp, rows, df⟩ => (c = b → runOp P T F C op dst ⟨env.set d (.v (.bool b)), hp, rows, df⟩ A K Q) ∧ (c = (!b) → skipOp dst ⟨env.set d (.v (.bool (!b))), hp, rows, df⟩ A K)
      | _ => False

def vcOps (P : Program) (T : Tab) (F : FuncId → Bool) (C : Ctx) (all : Array Oper) (K : St → Anch → Prop) (Q : Post) : List Oper → St → Anch → Prop
  | [], st, A => K st A
  | o :: r, st, A => vcOne P T F C all o st A (fun st' A' => vcOps P T F C all K Q r st' A') Q

theorem runOp_eq (P : Program) (T : Tab) (F : FuncId → Bool) (C : Ctx) (op : Op) (dst : Option Nat) (st : St) (A : Anch) (K : St → Anch → Prop) (Q : Post) :
    runOp P T F C op dst st A K Q = vcOp P T F C op st A (fun s hp rows A' => K (st.next dst s hp rows) A') (fun ch hp rows A' => Q (.panic ch) (st.mem hp rows) A') := by
  obtain ⟨env, hp, rows, df⟩ := st
  unfold runOp
  simp only [forceSV_eq, forceHp_eq, forceRows_eq]
  cases dst <;> rfl
theorem skipOp_eq (dst : Option Nat) (st : St) (A : Anch) (K : St → Anch → Prop) : skipOp dst st A K = K (st.next dst (.v undef) st.hp st.rows) A := by
  obtain ⟨env, hp, rows, df⟩ := st
  cases dst <;> rfl

/-- All that the operations of a piece of code write lies in S. -/
def modsIn (S : Nat → Bool) : Code → Bool
  | .region _ ops _ => ops.toList.all fun o => match o.dst with | some d => S d | none => true
  | .seq a b => modsIn S a && modsIn S b
  | .cond _ a b => modsIn S a && modsIn S b
  | .block _ a => modsIn S a
  | .loop a => modsIn S a
  | .skip | .exit _ | .ret => true
  | _ => false

/-- All that is written is a slot of the frame. -/
def slotsIn (n : Nat) (c : Code) : Bool := modsIn (fun d => Nat.blt d n) c

def LoopP (C : Ctx) (n : Nat) (B : St → Anch → Post → Prop) (M : (Nat → Bool) → Bool) (st : St) (A : Anch) (Q : Post) : Prop :=
  ∃ S : Nat → Bool, M S = true ∧ ∃ (ι : Type) (I : ι → St → Anch → Prop) (μ : ι → Nat),
    (∀ a w, Rel C n st A a w → ∃ i st1 A1, Rel C n st1 A1 a w ∧ I i st1 A1) ∧
    (∀ i st1 A1, I i st1 A1 → B st1 A1 (fun e st' A' => match e with
      | .normal => ∀ a w, Rel C n st' A' a w → (∀ k, S k = false → a.tmps.getD k undef = (st.env k).val st.hp) → ∃ i' st2 A2, Rel C n st2 A2 a w ∧ I i' st2 A2 ∧ μ i' < μ i
      | e => Q e st' A'))

def vc (P : Program) (T : Tab) (F : FuncId → Bool) (C : Ctx) (n : Nat) : Code → St → Anch → Post → Prop
  | .skip, st, A, Q => Q .normal st A
  | .region _ ops false, st, A, Q => vcOps P T F C ops (Q .normal) Q ops.toList st A
  | .seq x y, st, A, Q => vc P T F C n x st A (fun e st' A' => match e with | .normal => vc P T F C n y st' A' Q | e => Q e st' A')
  | .cond c x y, st, A, Q => bcase (sv st c) (vc P T F C n x st A Q) (vc P T F C n y st A Q)
  | .block id x, st, A, Q => vc P T F C n x st A (fun e st' A' => match e with | .exit i => bif Nat.beq i id then Q .normal st' A' else Q (.exit i) st' A' | e => Q e st' A')
  | .loop x, st, A, Q => LoopP C n (vc P T F C n x) (fun S => modsIn S x) st A Q
  | .exit id, st, A, Q => Q (.exit id) st A
  | .ret, st, A, Q => Q .ret st A
  | _, _, _, _ => False

theorem beq_ne {i d : Nat} (h : i ≠ d) : Nat.beq i d = false := by
  cases h' : Nat.beq i d with
  | false => rfl
  | true => exact absurd (Nat.eq_of_beq_eq_true h') h

theorem modsIn_and (S S' : Nat → Bool) : ∀ c : Code, modsIn S c = true → modsIn S' c = true → modsIn (fun k => S k && S' k) c = true := by
  intro c
  induction c with
  | region id ops d =>
    intro h1 h2
    simp only [modsIn, List.all_eq_true] at h1 h2 ⊢
    intro o ho
    have h1 := h1 o ho
    have h2 := h2 o ho
    cases hd : o.dst with
    | none => rfl
    | some d => rw [hd] at h1 h2; simp only at h1 h2 ⊢; rw [h1, h2]; rfl
  | seq x y ihx ihy => intro h1 h2; simp only [modsIn, Bool.and_eq_true] at h1 h2 ⊢; exact ⟨ihx h1.1 h2.1, ihy h1.2 h2.2⟩
  | cond c x y ihx ihy => intro h1 h2; simp only [modsIn, Bool.and_eq_true] at h1 h2 ⊢; exact ⟨ihx h1.1 h2.1, ihy h1.2 h2.2⟩
  | block id x ih => intro h1 h2; exact ih h1 h2
  | loop x ih => intro h1 h2; exact ih h1 h2
  | skip => intro _ _; rfl
  | exit id => intro _ _; rfl
  | ret => intro _ _; rfl
  | _ => intro h1 _; simp [modsIn] at h1

section
variable {P : Program} {T : Tab} {F : FuncId → Bool} {C : Ctx} {n : Nat}

theorem Rel.next {st : St} {A A' : Anch} {a : Act} {w w' : World} (hr : Rel C n st A a w) {dst : Option Nat} (hd : ∀ d, dst = some d → d < n) {s : SV} {hp : List LB} {rows : List Row} (hw : RelW C hp rows A' w') (he : Ext st.hp hp) (hs : SVok hp s) :
    Rel C n (st.next dst s hp rows) A' (a.put dst (s.val hp)) w' := by
  cases dst with
  | none =>
    refine ⟨hr.size, fun i => ?_, fun i => SVok.ext he (hr.wf i), hr.df, hw⟩
    show a.tmps.getD i undef = (st.env i).val hp
    rw [val_ext he (hr.wf i)]
    exact hr.tm i
  | some d =>
    have hdn := hd d rfl
    refine ⟨by simp [Act.put, hr.size], fun i => ?_, fun i => ?_, hr.df, hw⟩
    · show (a.tmps.setIfInBounds d (s.val hp)).getD i undef = ((Env.set st.env d s) i).val hp
      unfold Env.set
      by_cases hi : i = d
      · subst hi
        have h1 : Nat.beq i i = true := Nat.beq_refl i
        rw [h1]
        have hlt : i < a.tmps.size := by rw [hr.size]; exact hdn
        simp [Array.getD, hlt]
      · have h1 : Nat.beq i d = false := beq_ne hi
        rw [h1]
        have h2 : (a.tmps.setIfInBounds d (s.val hp)).getD i undef = a.tmps.getD i undef := by
          simp only [Array.getD_eq_getD_getElem?, Array.getElem?_setIfInBounds]
          rw [if_neg (fun e => hi e.symm)]
        rw [h2, hr.tm i]
        exact (val_ext he (hr.wf i)).symm
    · show SVok hp ((Env.set st.env d s) i)
      unfold Env.set
      cases Nat.beq i d with
      | true => exact hs
      | false => exact SVok.ext he (hr.wf i)

theorem Rel.mem {st : St} {A A' : Anch} {a : Act} {w w' : World} (hr : Rel C n st A a w) {hp : List LB} {rows : List Row} (hw : RelW C hp rows A' w') (he : Ext st.hp hp) : Rel C n (st.mem hp rows) A' a w' :=
  ⟨hr.size, fun i => by show a.tmps.getD i undef = (st.env i).val hp; rw [val_ext he (hr.wf i)]; exact hr.tm i, fun i => SVok.ext he (hr.wf i), hr.df, hw⟩

theorem Rel.setE {st : St} {A : Anch} {a : Act} {w : World} (hr : Rel C n st A a w) {d : Nat} {s : SV} (hs : SVok st.hp s) (hv : s.val st.hp = (st.env d).val st.hp) : Rel C n (st.setE d s) A a w := by
  refine ⟨hr.size, fun i => ?_, fun i => ?_, hr.df, hr.rw⟩
  · show a.tmps.getD i undef = ((Env.set st.env d s) i).val st.hp
    unfold Env.set
    by_cases hi : i = d
    · subst hi
      rw [Nat.beq_refl]
      show _ = s.val st.hp
      rw [hv]
      exact hr.tm i
    · have h1 : Nat.beq i d = false := beq_ne hi
      rw [h1]
      exact hr.tm i
  · show SVok st.hp ((Env.set st.env d s) i)
    unfold Env.set
    cases Nat.beq i d with
    | true => exact hs
    | false => exact hr.wf i

theorem yielded_of {st : St} {A : Anch} {a : Act} {w : World} (hr : Rel C n st A a w) {ops : Array Oper} {j d : Nat} (hj : (ops[j]?).bind (·.dst) = some d) :
    yielded ops a.tmps j = (match (st.env d).val st.hp with | .bool b => some b | _ => none) := by
  unfold yielded
  rw [hj]
  simp only [Option.bind_some]
  have := hr.tm d
  rw [Array.getD_eq_getD_getElem?] at this
  cases hd : a.tmps[d]? with
  | none => rw [hd] at this; simp only [Option.getD_none] at this; rw [← this]; rfl
  | some v => rw [hd] at this; simp only [Option.getD_some] at this; rw [← this]; cases v <;> rfl

/-- What the step of one operation leads to, at the actual frame. -/
def StepW (P : Program) (ops : Array Oper) (o : Oper) (a : Act) (w : World) (next : Act → World → Prop) (Q : Exit → Act → World → Prop) : Prop :=
  if Region.wanted o (yielded ops a.tmps) = true then o.wp P a w next Q else next (a.put o.dst undef) w

theorem one_sound (hT : TabOk P T) (hF : ∀ g, F g = true → fnOk P g = true) {all : Array Oper} {o : Oper} {st : St} {A : Anch} {a : Act} {w : World} {K : St → Anch → Prop} {Q : Post} {next : Act → World → Prop} {Qa : Exit → Act → World → Prop}
    (hr : Rel C n st A a w) (hd : ∀ d, o.dst = some d → d < n) (h : vcOne P T F C all o st A K Q)
    (hK : ∀ st' A' v w', K st' A' → Rel C n st' A' (a.put o.dst v) w' → next (a.put o.dst v) w') (hQ : ∀ ch st' A' w', Q (.panic ch) st' A' → Rel C n st' A' a w' → Qa (.panic ch) a w') :
    StepW P all o a w next Qa := by
  have run : ∀ st0 : St, Rel C n st0 A a w → vcOp P T F C o.op st0 A (fun s hp rows A' => K (st0.next o.dst s hp rows) A') (fun ch hp rows A' => Q (.panic ch) (st0.mem hp rows) A') → o.wp P a w next Qa := by
    intro st0 hr0 h0
    refine OpRun.wp (op_sound hT hF h0 hr0 ?_ ?_)
    · intro s hp rows A' w' hk hw he hs
      exact hK _ _ _ _ hk (hr0.next hd hw he hs)
    · intro ch hp rows A' w' hq hw he
      exact hQ _ _ _ _ hq (hr0.mem hw he)
  have skip : ∀ st0 : St, Rel C n st0 A a w → K (st0.next o.dst (.v undef) st0.hp st0.rows) A → next (a.put o.dst undef) w := by
    intro st0 hr0 hk
    exact hK _ _ undef _ hk (hr0.next hd (s := .v undef) hr0.rw (Ext.refl _) trivial)
  obtain ⟨dst, op, ty, pos, after, guard⟩ := o
  unfold StepW
  cases guard with
  | none =>
    have h : runOp P T F C op dst st A K Q := h
    rw [runOp_eq] at h
    rw [if_pos (by simp [Region.wanted])]
    exact run st hr h
  | some g =>
    obtain ⟨j, b⟩ := g
    simp only [vcOne, runOp_eq, skipOp_eq] at h
    have hwant : Region.wanted ⟨dst, op, ty, pos, after, some (j, b)⟩ (yielded all a.tmps) = (yielded all a.tmps j == some b) := by simp [Region.wanted]
    rw [hwant]
    split at h
    · rename_i hnone
      have : yielded all a.tmps j = none := by unfold yielded; rw [hnone]; rfl
      rw [this, if_neg (by simp)]
      exact skip st hr h
    · rename_i d hsome
      have hy := yielded_of hr hsome
      rw [hy]
      split at h
      · rename_i he
        rw [he]
        cases b with
        | true => rw [if_pos (by simp [SV.val])]; exact run st hr h
        | false => rw [if_neg (by simp [SV.val])]; exact skip st hr h
      · rename_i he
        rw [he]
        cases b with
        | true => rw [if_neg (by simp [SV.val])]; exact skip st hr h
        | false => rw [if_pos (by simp [SV.val])]; exact run st hr h
      · rename_i he
        rw [he, if_neg (by simp [SV.val])]
        exact skip st hr h
      · rename_i c he
        rw [he]
        obtain ⟨env, hp, rows, df⟩ := st
        by_cases hc : c = b
        · subst hc
          rw [if_pos (by simp [SV.val])]
          exact run _ (hr.setE (d := d) (s := .v (.bool c)) trivial (by rw [he]; rfl)) (h.1 rfl)
        · have hc' : c = !b := by cases c <;> cases b <;> simp_all
          rw [if_neg (by simp [SV.val, hc])]
          exact skip _ (hr.setE (d := d) (s := .v (.bool (!b))) trivial (by rw [he]; simp [SV.val, hc'])) (h.2 hc')
      · exact h.elim

/-- The slots outside S hold what they held. -/
def Keeps (S : Nat → Bool) (a a' : Act) : Prop := ∀ k, S k = false → a'.tmps.getD k undef = a.tmps.getD k undef
theorem Keeps.refl (S : Nat → Bool) (a : Act) : Keeps S a a := fun _ _ => rfl
theorem Keeps.trans {S : Nat → Bool} {a b c : Act} (h : Keeps S a b) (k : Keeps S b c) : Keeps S a c := fun i hi => (k i hi).trans (h i hi)
theorem Keeps.put {S : Nat → Bool} {a : Act} {dst : Option Nat} (h : ∀ d, dst = some d → S d = true) (v : Value) : Keeps S a (a.put dst v) := by
  intro k hk
  cases dst with
  | none => rfl
  | some d =>
    have hne : d ≠ k := fun e => by subst e; rw [h d rfl] at hk; cases hk
    show (a.tmps.setIfInBounds d v).getD k undef = _
    simp only [Array.getD_eq_getD_getElem?, Array.getElem?_setIfInBounds]
    rw [if_neg hne]

theorem ops_sound (hT : TabOk P T) (hF : ∀ g, F g = true → fnOk P g = true) {all : Array Oper} {S : Nat → Bool} {K : St → Anch → Prop} {Q : Post} {Qa : Exit → Act → World → Prop} {a0 : Act}
    (hK : ∀ st A a w, K st A → Rel C n st A a w → Keeps S a0 a → Qa .normal a w) (hQ : ∀ e st A a w, Q e st A → Rel C n st A a w → Keeps S a0 a → Qa e a w) :
    ∀ (l : List Oper), (∀ o ∈ l, ∀ d, o.dst = some d → d < n ∧ S d = true) → ∀ (st : St) (A : Anch) (a : Act) (w : World), vcOps P T F C all K Q l st A → Rel C n st A a w → Keeps S a0 a → wpList P all Qa l a w := by
  intro l
  induction l with
  | nil => intro _ st A a w h hr hk; exact hK st A a w h hr hk
  | cons o r ih =>
    intro hl st A a w h hr hk
    have hput : ∀ v, Keeps S a0 (a.put o.dst v) := fun v => hk.trans (Keeps.put (fun d hd => (hl o List.mem_cons_self d hd).2) v)
    have := one_sound (next := wpList P all Qa r) (Qa := Qa) hT hF hr (fun d hd => (hl o List.mem_cons_self d hd).1) h
      (fun st' A' v w' hk' hr' => ih (fun o ho => hl o (List.mem_cons_of_mem _ ho)) st' A' _ w' hk' hr' (hput v)) (fun ch st' A' w' hq hr' => hQ _ st' A' a w' hq hr' hk)
    unfold StepW at this
    unfold wpList
    split
    · rename_i hw
      rw [if_pos hw] at this
      exact .inl this
    · rename_i hw
      rw [if_neg hw] at this
      exact this

theorem vc_sound (hT : TabOk P T) (hF : ∀ g, F g = true → fnOk P g = true) : ∀ (c : Code) (S : Nat → Bool), slotsIn n c = true → modsIn S c = true → ∀ (st : St) (A : Anch) (a : Act) (w : World) (Q : Post), vc P T F C n c st A Q → Rel C n st A a w →
    c.wp P (fun e a' w' => Keeps S a a' ∧ ∃ st' A', Q e st' A' ∧ Rel C n st' A' a' w') a w := by
  intro c
  induction c with
  | skip => intro S _ _ st A a w Q h hr; exact wp_skip ⟨Keeps.refl _ _, st, A, h, hr⟩
  | region id ops draw =>
    intro S hs hm st A a w Q h hr
    cases draw with
    | true => exact h.elim
    | false =>
      refine wp_region_list (ops_sound hT hF (K := Q .normal) (Q := Q) (a0 := a) (S := S) (fun st A a w hq hr hk => ⟨hk, st, A, hq, hr⟩) (fun e st A a w hq hr hk => ⟨hk, st, A, hq, hr⟩) ops.toList (fun o ho d hd => ?_) st A a w h hr (Keeps.refl _ _))
      simp only [slotsIn, modsIn, List.all_eq_true] at hs hm
      have h1 := hs o ho
      have h2 := hm o ho
      rw [hd] at h1 h2
      exact ⟨Nat.le_of_ble_eq_true h1, h2⟩
  | seq x y ihx ihy =>
    intro S hs hm st A a w Q h hr
    simp only [slotsIn, modsIn, Bool.and_eq_true] at hs hm
    refine wp_seq (Code.wp_mono ?_ (ihx S hs.1 hm.1 st A a w _ h hr))
    rintro e a' w' ⟨hk, st', A', hq, hr'⟩
    cases e with
    | normal =>
      refine Code.wp_mono ?_ (ihy S hs.2 hm.2 st' A' a' w' Q hq hr')
      rintro e a'' w'' ⟨hk', rest⟩
      exact ⟨hk.trans hk', rest⟩
    | _ => exact ⟨hk, st', A', hq, hr'⟩
  | cond c x y ihx ihy =>
    intro S hs hm st A a w Q h hr
    simp only [slotsIn, modsIn, Bool.and_eq_true] at hs hm
    obtain ⟨b, hv, ht, hf⟩ := bcase.use h
    have hc : a.eval c = .bool b := by rw [hr.eval]; exact hv _
    refine wp_cond hc ?_
    cases b with
    | true => exact ihx S hs.1 hm.1 st A a w Q (ht rfl) hr
    | false => exact ihy S hs.2 hm.2 st A a w Q (hf rfl) hr
  | block id x ih =>
    intro S hs hm st A a w Q h hr
    refine wp_block (Code.wp_mono ?_ (ih S hs hm st A a w _ h hr))
    rintro e a' w' ⟨hk, st', A', hq, hr'⟩
    cases e with
    | exit i =>
      simp only [Exit.inBlock]
      by_cases hi : i = id
      · subst hi
        rw [if_pos rfl]
        simp only [Nat.beq_refl, cond_true] at hq
        exact ⟨hk, st', A', hq, hr'⟩
      · rw [if_neg hi]
        have : Nat.beq i id = false := beq_ne hi
        simp only [this, cond_false] at hq
        exact ⟨hk, st', A', hq, hr'⟩
    | _ => exact ⟨hk, st', A', hq, hr'⟩
  | loop x ih =>
    intro S hs hm st A a w Q h hr
    obtain ⟨S', hS', ι, I, μ, hstart, hround⟩ := h
    let J : ι → Act → World → Prop := fun i a' w' => ∃ st1 A1, I i st1 A1 ∧ Rel C n st1 A1 a' w' ∧ Keeps S' a a' ∧ Keeps S a a'
    obtain ⟨i0, st0, A0, hr0, hI0⟩ := hstart a w hr
    classical
    have least : ∀ (a' : Act) (w' : World), (∃ i, J i a' w') → ∃ i, J i a' w' ∧ ∀ j, J j a' w' → μ i ≤ μ j := by
      intro a' w' hex
      have wf : ∀ m, ∀ i, μ i = m → J i a' w' → ∃ i, J i a' w' ∧ ∀ j, J j a' w' → μ i ≤ μ j := by
        intro m
        induction m using Nat.strongRecOn with
        | _ m ihm =>
          intro i hi hJ
          by_cases hall : ∀ j, J j a' w' → μ i ≤ μ j
          · exact ⟨i, hJ, hall⟩
          · have ⟨j, hj⟩ := Classical.not_forall.1 hall
            have ⟨hJj, hlt⟩ := Classical.not_imp.1 hj
            exact ihm (μ j) (by omega) j rfl hJj
      obtain ⟨i, hi⟩ := hex
      exact wf _ i rfl hi
    let ν : Act → World → Nat := fun a' w' => if hex : ∃ i, J i a' w' then μ (Classical.choose (least a' w' hex)) else 0
    have hν : ∀ a' w', (∃ i, J i a' w') → ∃ i, J i a' w' ∧ ν a' w' = μ i := by
      intro a' w' hex
      refine ⟨Classical.choose (least a' w' hex), (Classical.choose_spec (least a' w' hex)).1, ?_⟩
      simp only [ν, dif_pos hex]
    have hνle : ∀ a' w' j, J j a' w' → ν a' w' ≤ μ j := by
      intro a' w' j hj
      have hex : ∃ i, J i a' w' := ⟨j, hj⟩
      simp only [ν, dif_pos hex]
      exact (Classical.choose_spec (least a' w' hex)).2 j hj
    refine wp_loop (fun a' w' => ∃ i, J i a' w') ν ⟨i0, st0, A0, hI0, hr0, Keeps.refl _ _, Keeps.refl _ _⟩ ?_
    intro a1 w1 hex
    obtain ⟨i, ⟨st1, A1, hI, hr1, hk1, hk2⟩, hνi⟩ := hν a1 w1 hex
    have hb := ih (fun k => S k && S' k) hs (modsIn_and S S' x hm hS') st1 A1 a1 w1 _ (hround i st1 A1 hI) hr1
    refine Code.wp_mono ?_ hb
    rintro e a2 w2 ⟨hk, st2, A2, hq, hr2⟩
    have hkS : Keeps S a1 a2 := fun k hk' => hk k (by simp [hk'])
    have hkS' : Keeps S' a1 a2 := fun k hk' => hk k (by simp [hk'])
    cases e with
    | normal =>
      obtain ⟨i', st3, A3, hr3, hI3, hlt⟩ := hq a2 w2 hr2 (fun k hk => ((hk1.trans hkS') k hk).trans (hr.tm k))
      have hJ : J i' a2 w2 := ⟨st3, A3, hI3, hr3, hk1.trans hkS', hk2.trans hkS⟩
      refine ⟨⟨i', hJ⟩, ?_⟩
      have := hνle a2 w2 i' hJ
      rw [hνi]
      omega
    | _ => exact ⟨hk2.trans hkS, st2, A2, hq, hr2⟩
  | exit id => intro S _ _ st A a w Q h hr; exact wp_exit ⟨Keeps.refl _ _, st, A, h, hr⟩
  | ret => intro S _ _ st A a w Q h hr; exact wp_ret ⟨Keeps.refl _ _, st, A, h, hr⟩
  | _ => intro S _ _ st A a w Q h hr; exact h.elim
end
end Go.Eng
