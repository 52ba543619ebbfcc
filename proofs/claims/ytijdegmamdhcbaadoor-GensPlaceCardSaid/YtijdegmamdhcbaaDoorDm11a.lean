/-
  The second engine, eleventh part: states, regions in their order, and loops. It holds of every program whose table of types is met.
-/
import Derived.Test.YtijdegmamdhcbaaDoorDq2
namespace Go.Dm
open Go Go.Eng Go.RowKit

inductive X where
  | normal
  | exit (id : Nat)
  | ret
  | pan (d : D)
abbrev Post := X → St → Prop

/-- Memory of one's own is told otherwise, and a value with it. -/
def GhostTo (G : Gl) (d : D) (h : Heap) (K : KD) : Prop :=
  ∀ (C : Ctx) (w : World) (β : Nat → Value) (V : Nat → Prop) (v : Value), C.G = G → RelD C h β V w → RepD h β V w d v → ∃ d' h' β' V', K d' h' ∧ RelD C h' β' V' w ∧ RepD h' β' V' w d' v ∧ LeH h β h' β' ∧ Moved V w V' w
/-- Behind which operations it may be. -/
def hookable (op : Op) (d : D) : Bool :=
  match op with
  | .load _ _ => match d with
    | .g (.raw _) => true
    | _ => false
  | .slice _ _ _ _ _ => match d with
    | .rs _ _ _ => true
    | _ => false
  | .store _ _ _ => true
  | .build _ _ => true
  | .call { callee := .builtin .append, .. } => true
  | _ => false
def preOp (G : Gl) (op : Op) (st : St) (X : St → Prop) : Prop :=
  match op with
  | .buildSlice _ _ parts => match parts.toList with
    | [(_, .tmp s)] => match st.env s with
      | .ptr i o => bif hasMany st.h then GhostTo G (.ptr i o) st.h (fun d' h' => X ⟨st.env.set s d', h', st.df⟩) else X st
      | _ => X st
    | _ => X st
  | _ => X st
def runOp (P : Program) (T : Tab) (F : FuncId → Bool) (G : Gl) (op : Op) (dst : Option Nat) (st : St) (K : St → Prop) (Q : Post) : Prop :=
  preOp G op st fun st => match st with
  | ⟨env, h, df⟩ => vcOp P T F G op ⟨env, h, df⟩
      (fun d h => orS (hookable op d && hasMany h) (forceD d fun d => forceH h fun h => match dst with | some i => K ⟨env.set i d, h, df⟩ | none => K ⟨env, h, df⟩)
        (GhostTo G d h fun d h => forceD d fun d => forceH h fun h => match dst with | some i => K ⟨env.set i d, h, df⟩ | none => K ⟨env, h, df⟩))
      (fun d h => Q (.pan d) ⟨env, h, df⟩)
def skipOp (dst : Option Nat) (st : St) (K : St → Prop) : Prop :=
  match st with
  | ⟨env, h, df⟩ => match dst with | some i => K ⟨env.set i (.tuple []), h, df⟩ | none => K ⟨env, h, df⟩

def vcOne (P : Program) (T : Tab) (F : FuncId → Bool) (G : Gl) (all : Array Oper) (o : Oper) (st : St) (K : St → Prop) (Q : Post) : Prop :=
  match o with
  | ⟨dst, op, _, _, _, none⟩ => runOp P T F G op dst st K Q
  | ⟨dst, op, _, _, _, some (j, b)⟩ =>
    match (all[j]?).bind (·.dst) with
    | none => skipOp dst st K
    | some d =>
      match st.env d with
      | .g (.bool true) => bif b then runOp P T F G op dst st K Q else skipOp dst st K
      | .g (.bool false) => bif b then skipOp dst st K else runOp P T F G op dst st K Q
      | .tuple _ => skipOp dst st K
      | .pb p => match st with
        | ⟨env, h, df⟩ => bif b
          then (p → runOp P T F G op dst ⟨env.set d (.g (.bool true)), h, df⟩ K Q) ∧ (¬p → skipOp dst ⟨env.set d (.g (.bool false)), h, df⟩ K)
          else (p → skipOp dst ⟨env.set d (.g (.bool true)), h, df⟩ K) ∧ (¬p → runOp P T F G op dst ⟨env.set d (.g (.bool false)), h, df⟩ K Q)
      | .pn p => match st with
        | ⟨env, h, df⟩ => bif b
          then (¬p → runOp P T F G op dst ⟨env.set d (.g (.bool true)), h, df⟩ K Q) ∧ (p → skipOp dst ⟨env.set d (.g (.bool false)), h, df⟩ K)
          else (¬p → skipOp dst ⟨env.set d (.g (.bool true)), h, df⟩ K) ∧ (p → runOp P T F G op dst ⟨env.set d (.g (.bool false)), h, df⟩ K Q)
      | _ => False

def vcOps (P : Program) (T : Tab) (F : FuncId → Bool) (G : Gl) (all : Array Oper) (K : St → Prop) (Q : Post) (l : List Oper) : St → Prop :=
  List.rec (motive := fun _ => St → Prop) K (fun o _ next st => vcOne P T F G all o st next Q) l

/-- The slots that a piece of code writes. -/
def mods : Code → List Nat
  | .region _ ops _ => ops.toList.filterMap (·.dst)
  | .seq a b => mods a ++ mods b
  | .cond _ a b => mods a ++ mods b
  | .block _ a => mods a
  | .loop a => mods a
  | _ => []
def okCode : Code → Bool
  | .region _ _ _ => true
  | .seq a b => okCode a && okCode b
  | .cond _ a b => okCode a && okCode b
  | .block _ a => okCode a
  | .loop a => okCode a
  | .skip | .exit _ | .ret => true
  | _ => false
def inL : List Nat → Nat → Bool
  | [], _ => false
  | a :: l, k => bif Nat.beq a k then true else inL l k
def allLt (n : Nat) : List Nat → Bool
  | [] => true
  | a :: l => Nat.blt a n && allLt n l

theorem inL_iff : ∀ {l : List Nat} {k : Nat}, inL l k = true ↔ k ∈ l
  | [], k => by simp [inL]
  | a :: l, k => by
    simp only [inL, List.mem_cons]
    cases h : Nat.beq a k with
    | true => simp [Nat.eq_of_beq_eq_true h]
    | false => simp only [cond_false]; rw [inL_iff]; have : ¬ k = a := fun e => by rw [e, Nat.beq_refl] at h; cases h
               simp [this]

/-- The state stands for an actual frame. -/
def Rel (C : Ctx) (n : Nat) (st : St) (a : Act) (w : World) : Prop :=
  a.tmps.size = n ∧ a.defers = st.df ∧ ∃ β V, RelD C st.h β V w ∧ EnvOk st β V w a

/-- The context begins at the loop: what the slots held there. -/
def Base (C : Ctx) (st : St) (S : List Nat) (a : Act) : Prop :=
  (∀ k, C.V0 k → ¬ C.own k) ∧ (∀ k, C.V0 k → k < C.w0.heap.size) ∧ ∃ a0 β0, EnvOk st β0 C.V0 C.w0 a0 ∧ ∀ k, inL S k = false → a.tmps.getD k undef = a0.tmps.getD k undef

def LoopP (G : Gl) (n : Nat) (B : St → Post → Prop) (S : List Nat) (st : St) (Q : Post) : Prop :=
  ∃ (ι : Type) (I : ι → St → Prop) (μ : ι → Nat),
    (∀ C a w, C.G = G → Rel C n st a w → ∃ i st1, Rel C n st1 a w ∧ I i st1) ∧
    (∀ i st1, I i st1 → B st1 (fun e st' => match e with
      | .normal => ∀ C a w, C.G = G → Rel C n st' a w → Base C st S a → ∃ i' st2, Rel C n st2 a w ∧ I i' st2 ∧ μ i' < μ i
      | e => Q e st'))

/-- From a context that begins later to one that began earlier. -/
theorem rebase {C : Ctx} {h : Heap} {β : Nat → Value} {V : Nat → Prop} {w : World} (hr : RelD C h β V w) {h' : Heap} {β' : Nat → Value} {V' : Nat → Prop} {w' : World}
    (hc : RelD ⟨w, fun k => ∃ i o, h[i]? = some o ∧ o.live = true ∧ Bk o (β i) k, V, C.G⟩ h' β' V' w') : RelD C h' β' V' w' := by
  refine ⟨hc.obj, hc.sep, fun i o k hi hl hk => ?_, hc.vout, hc.vlt, fun k hk => hc.vin k (hr.vin k hk), fun k hk => ?_, ?_, hc.gl⟩
  · rcases hc.mine i o k hi hl hk with h1 | ⟨j, o', g1, g2, g3⟩
    · exact .inl (Nat.le_trans hr.fr.size h1)
    · exact hr.mine j o' k g1 g2 g3
  · rcases hc.vnew k hk with h1 | h1 | ⟨j, o', g1, g2, g3⟩
    · exact hr.vnew k h1
    · exact .inr (.inl (Nat.le_trans hr.fr.size h1))
    · exact .inr (hr.mine j o' k g1 g2 g3)
  · refine ⟨hc.fr.os.trans hr.fr.os, hc.fr.tape.trans hr.fr.tape, hc.fr.output.trans hr.fr.output, Nat.le_trans hr.fr.size hc.fr.size, fun k hk hn => ?_⟩
    rw [hc.fr.block k (Nat.lt_of_lt_of_le hk hr.fr.size) ?_]
    · exact hr.fr.block k hk hn
    · rintro ⟨j, o', g1, g2, g3⟩
      rcases hr.mine j o' k g1 g2 g3 with h1 | h1
      · omega
      · exact hn h1
theorem base_start {C : Ctx} {h : Heap} {β : Nat → Value} {V : Nat → Prop} {w : World} (hr : RelD C h β V w) : RelD ⟨w, fun k => ∃ i o, h[i]? = some o ∧ o.live = true ∧ Bk o (β i) k, V, C.G⟩ h β V w :=
  ⟨hr.obj, hr.sep, fun i o _ hi hl hk => .inr ⟨i, o, hi, hl, hk⟩, hr.vout, hr.vlt, fun _ hk => hk, fun _ hk => .inl hk, Fr.refl _ _, hr.gl⟩

section
variable {P : Program} {T : Tab} {F : FuncId → Bool} {C : Ctx} {n : Nat}

/-- The actual exit that an abstract one stands for. -/
def XOk (e : Exit) (x : X) (st : St) (a : Act) (w : World) (C : Ctx) (n : Nat) : Prop :=
  match e, x with
  | .normal, .normal => Rel C n st a w
  | .exit i, .exit j => i = j ∧ Rel C n st a w
  | .ret, .ret => Rel C n st a w
  | .panic ch, .pan d => ∃ t u, ch = [{ v := .iface t u, recovered := false }] ∧ a.tmps.size = n ∧ a.defers = st.df ∧ ∃ β V, RelD C st.h β V w ∧ EnvOk st β V w a ∧ RepD st.h β V w d (.iface t u)
  | _, _ => False

def Keeps (S : List Nat) (a a' : Act) : Prop := ∀ k, inL S k = false → a'.tmps.getD k undef = a.tmps.getD k undef
theorem Keeps.refl (S : List Nat) (a : Act) : Keeps S a a := fun _ _ => rfl
theorem Keeps.trans {S : List Nat} {a b c : Act} (h : Keeps S a b) (k : Keeps S b c) : Keeps S a c := fun i hi => (k i hi).trans (h i hi)
theorem Keeps.put {S : List Nat} {a : Act} {dst : Option Nat} (h : ∀ d, dst = some d → inL S d = true) (v : Value) : Keeps S a (a.put dst v) := by
  intro k hk
  cases dst with
  | none => rfl
  | some d =>
    have hne : d ≠ k := fun e => by subst e; rw [h d rfl] at hk; cases hk
    show (a.tmps.setIfInBounds d v).getD k undef = _
    simp only [Array.getD_eq_getD_getElem?, Array.getElem?_setIfInBounds]
    rw [if_neg hne]

theorem env_put {st : St} {h' : Heap} {β β' : Nat → Value} {V V' : Nat → Prop} {w w' : World} {a : Act} (he : EnvOk st β V w a) (hsz : a.tmps.size = n) (hle : LeH st.h β h' β') (hm : Moved V w V' w') {i : Nat} (hi : i < n) {d : D} {v : Value} (hd : RepD h' β' V' w' d v) (df : List Deferred) :
    EnvOk ⟨st.env.set i d, h', df⟩ β' V' w' (a.put (some i) v) := by
  intro k
  show RepD h' β' V' w' (bif Nat.beq k i then d else st.env k) ((a.tmps.setIfInBounds i v).getD k undef)
  by_cases hk : k = i
  · subst hk
    rw [Nat.beq_refl]
    have hlt : k < a.tmps.size := by rw [hsz]; exact hi
    simp only [cond_true, Array.getD, Array.size_setIfInBounds, hlt]
    simpa using hd
  · rw [beq_ne hk]
    have h2 : (a.tmps.setIfInBounds i v).getD k undef = a.tmps.getD k undef := by
      simp only [Array.getD_eq_getD_getElem?, Array.getElem?_setIfInBounds]
      rw [if_neg (fun e => hk e.symm)]
    rw [h2]
    exact RepD.mono hle hm _ _ (he k)
theorem env_setE {st : St} {β : Nat → Value} {V : Nat → Prop} {w : World} {a : Act} (he : EnvOk st β V w a) {i : Nat} {d : D} (hd : RepD st.h β V w d (a.tmps.getD i undef)) : EnvOk ⟨st.env.set i d, st.h, st.df⟩ β V w a := by
  intro k
  show RepD st.h β V w (bif Nat.beq k i then d else st.env k) (a.tmps.getD k undef)
  by_cases hk : k = i
  · subst hk
    rw [Nat.beq_refl]
    exact hd
  · rw [beq_ne hk]
    exact he k

theorem pre_sound {op : Op} {st : St} {a : Act} {w : World} {X : St → Prop} {β : Nat → Value} {V : Nat → Prop} (hr : RelD C st.h β V w) (he : EnvOk st β V w a) (h : preOp C.G op st X) :
    ∃ st1 β1 V1, X st1 ∧ st1.df = st.df ∧ RelD C st1.h β1 V1 w ∧ EnvOk st1 β1 V1 w a := by
  have no : X st → ∃ st1 β1 V1, X st1 ∧ st1.df = st.df ∧ RelD C st1.h β1 V1 w ∧ EnvOk st1 β1 V1 w a := fun h => ⟨st, β, V, h, rfl, hr, he⟩
  unfold preOp at h
  split at h
  · split at h
    · rename_i s _
      split at h
      · rename_i i o e
        cases hm : hasMany st.h with
        | false => rw [hm] at h; exact no h
        | true =>
          rw [hm] at h
          have hs := he s
          rw [e] at hs
          obtain ⟨d', h', β', V', k1, k2, k3, k4, k5⟩ := h C w β V _ rfl hr hs
          refine ⟨_, β', V', k1, rfl, k2, fun k => ?_⟩
          show RepD h' β' V' w (bif Nat.beq k s then d' else st.env k) (a.tmps.getD k undef)
          by_cases hk : k = s
          · subst hk; rw [Nat.beq_refl]; exact k3
          · rw [beq_ne hk]; exact RepD.mono k4 k5 _ _ (he k)
      · exact no h
    · exact no h
  · exact no h
theorem run_sound (hT : TabOk P T) (hF : ∀ g, F g = true → fnOk P g = true) {o : Oper} {st : St} {a : Act} {w : World} {K : St → Prop} {Q : Post} {next : Act → World → Prop} {Qa : Exit → Act → World → Prop}
    (hsz : a.tmps.size = n) (hdf : a.defers = st.df) {β : Nat → Value} {V : Nat → Prop} (hr : RelD C st.h β V w) (he : EnvOk st β V w a) (hd : ∀ d, o.dst = some d → d < n) (h : runOp P T F C.G o.op o.dst st K Q)
    (hK : ∀ st' v w', K st' → Rel C n st' (a.put o.dst v) w' → next (a.put o.dst v) w') (hQ : ∀ d st' ch w', Q (.pan d) st' → XOk (.panic ch) (.pan d) st' a w' C n → Qa (.panic ch) a w') : o.wp P a w next Qa := by
  unfold runOp at h
  obtain ⟨st1, β1, V1, h, hdf1, hr, he⟩ := pre_sound hr he h
  rw [← hdf1] at hdf
  obtain ⟨env, hp, df⟩ := st1
  simp only [forceD_eq, forceH_eq] at h
  refine OpRun.wp (op_soundD (st := ⟨env, hp, df⟩) hT hF h hr he ?_ ?_)
  · intro d h' v w' β' V' hk hr' hd' hle hm
    have hszp : (a.put o.dst v).tmps.size = n := by
      cases o.dst with
      | none => exact hsz
      | some i => simp [Act.put, hsz]
    have hdfp : (a.put o.dst v).defers = df := by
      cases o.dst with
      | none => exact hdf
      | some i => exact hdf
    have fin : ∀ (d : D) (h' : Heap) (β' : Nat → Value) (V' : Nat → Prop), (match o.dst with | some i => K ⟨env.set i d, h', df⟩ | none => K ⟨env, h', df⟩) → RelD C h' β' V' w' → RepD h' β' V' w' d v → LeH hp β1 h' β' → Moved V1 w V' w' → next (a.put o.dst v) w' := by
      intro d h' β' V' hk hr' hd' hle hm
      cases hdst : o.dst with
      | none =>
        rw [hdst] at hk hszp hdfp
        refine hdst ▸ hK ⟨env, h', df⟩ v w' hk (by rw [hdst]; exact ⟨hszp, hdfp, β', V', hr', fun k => RepD.mono hle hm _ _ (he k)⟩)
      | some i =>
        rw [hdst] at hk hszp hdfp
        refine hdst ▸ hK ⟨env.set i d, h', df⟩ v w' hk (by rw [hdst]; exact ⟨hszp, hdfp, β', V', hr', env_put he hsz hle hm (hd i hdst) hd' df⟩)
    rcases orS_get hk with hk | hk
    · exact fin d h' β' V' hk hr' hd' hle hm
    · obtain ⟨d2, h2, β2, V2, k1, k2, k3, k4, k5⟩ := hk C w' β' V' v rfl hr' hd'
      exact fin d2 h2 β2 V2 k1 k2 k3 (hle.trans k4) (hm.trans k5)
  · intro d h' t u w' β' V' hq hr' hd' hle hm
    exact hQ d ⟨env, h', df⟩ _ w' hq ⟨t, u, rfl, hsz, hdf, β', V', hr', fun k => RepD.mono hle hm _ _ (he k), hd'⟩

theorem yielded_val {a : Act} {ops : Array Oper} {j d : Nat} (hj : (ops[j]?).bind (·.dst) = some d) :
    yielded ops a.tmps j = (match a.tmps.getD d undef with | .bool b => some b | _ => none) := by
  unfold yielded
  rw [hj]
  simp only [Option.bind_some]
  rw [Array.getD_eq_getD_getElem?]
  cases hd : a.tmps[d]? with
  | none => simp only [Option.getD_none]; rfl
  | some v => simp only [Option.getD_some]; cases v <;> rfl

theorem one_sound (hT : TabOk P T) (hF : ∀ g, F g = true → fnOk P g = true) {all : Array Oper} {o : Oper} {st : St} {a : Act} {w : World} {K : St → Prop} {Q : Post} {next : Act → World → Prop} {Qa : Exit → Act → World → Prop}
    (hr : Rel C n st a w) (hd : ∀ d, o.dst = some d → d < n) (h : vcOne P T F C.G all o st K Q)
    (hK : ∀ st' v w', K st' → Rel C n st' (a.put o.dst v) w' → next (a.put o.dst v) w') (hQ : ∀ d st' ch w', Q (.pan d) st' → XOk (.panic ch) (.pan d) st' a w' C n → Qa (.panic ch) a w') :
    StepW P all o a w next Qa := by
  obtain ⟨hsz, hdf, β, V, hrel, he⟩ := hr
  have run : ∀ st0 : St, st0.df = st.df → st0.h = st.h → EnvOk st0 β V w a → runOp P T F C.G o.op o.dst st0 K Q → o.wp P a w next Qa := by
    intro st0 h1 h2 h3 h4
    exact run_sound hT hF hsz (by rw [h1]; exact hdf) (by rw [h2]; exact hrel) h3 hd h4 hK hQ
  have skip : ∀ st0 : St, st0.df = st.df → st0.h = st.h → EnvOk st0 β V w a → skipOp o.dst st0 K → next (a.put o.dst undef) w := by
    intro st0 h1 h2 h3 h4
    obtain ⟨env, hp, df⟩ := st0
    simp only at h1 h2
    subst h1
    subst h2
    simp only [skipOp] at h4
    have hszp : (a.put o.dst undef).tmps.size = n := by
      cases o.dst with
      | none => exact hsz
      | some i => simp [Act.put, hsz]
    have hdfp : (a.put o.dst undef).defers = st.df := by
      cases o.dst with
      | none => exact hdf
      | some i => exact hdf
    cases hdst : o.dst with
    | none =>
      rw [hdst] at h4 hszp hdfp
      exact hdst ▸ hK _ undef w h4 (by rw [hdst]; exact ⟨hszp, hdfp, β, V, hrel, h3⟩)
    | some i =>
      rw [hdst] at h4 hszp hdfp
      exact hdst ▸ hK _ undef w h4 (by rw [hdst]; exact ⟨hszp, hdfp, β, V, hrel, env_put h3 hsz (LeH.refl _ _) (Moved.refl _ _) (hd i hdst) (by simp only [RepD]; exact ⟨[], rfl, by simp [RepDL]⟩) _⟩)
  obtain ⟨dst, op, ty, pos, aft, guard⟩ := o
  unfold StepW
  cases guard with
  | none =>
    have h : runOp P T F C.G op dst st K Q := h
    rw [if_pos (by simp [Region.wanted])]
    exact run st rfl rfl he h
  | some g =>
    obtain ⟨j, b⟩ := g
    simp only [vcOne] at h
    have hwant : Region.wanted ⟨dst, op, ty, pos, aft, some (j, b)⟩ (yielded all a.tmps) = (yielded all a.tmps j == some b) := by simp [Region.wanted]
    rw [hwant]
    split at h
    · rename_i hnone
      have : yielded all a.tmps j = none := by unfold yielded; rw [hnone]; rfl
      rw [this, if_neg (by simp)]
      exact skip st rfl rfl he h
    · rename_i d hsome
      have hy := yielded_val (a := a) hsome
      rw [hy]
      have hed := he d
      split at h
      · rename_i e
        rw [e] at hed
        simp only [RepD, RepV] at hed
        rw [hed]
        cases b with
        | true => rw [if_pos (by simp)]; exact run st rfl rfl he h
        | false => rw [if_neg (by simp)]; exact skip st rfl rfl he h
      · rename_i e
        rw [e] at hed
        simp only [RepD, RepV] at hed
        rw [hed]
        cases b with
        | true => rw [if_neg (by simp)]; exact skip st rfl rfl he h
        | false => rw [if_pos (by simp)]; exact run st rfl rfl he h
      · rename_i e
        rw [e] at hed
        simp only [RepD] at hed
        obtain ⟨us, hv, _⟩ := hed
        rw [hv, if_neg (by simp)]
        exact skip st rfl rfl he h
      · rename_i p e
        rw [e] at hed
        simp only [RepD] at hed
        obtain ⟨c, hv, hc⟩ := hed
        obtain ⟨env, hp, df⟩ := st
        have hset : ∀ c' : Bool, c' = c → EnvOk ⟨env.set d (.g (.bool c')), hp, df⟩ β V w a := fun c' hcc => env_setE (st := ⟨env, hp, df⟩) he (by simp only [RepD, RepV]; rw [hcc]; exact hv)
        rw [hv]
        cases c with
        | true =>
          have hpp := hc.1 rfl
          cases b with
          | true => rw [if_pos (by simp)]; exact run ⟨env.set d (.g (.bool true)), hp, df⟩ rfl rfl (hset true rfl) (h.1 hpp)
          | false => rw [if_neg (by simp)]; exact skip ⟨env.set d (.g (.bool true)), hp, df⟩ rfl rfl (hset true rfl) (h.1 hpp)
        | false =>
          have hpp : ¬ p := fun hp => by have := hc.2 hp; cases this
          cases b with
          | true => rw [if_neg (by simp)]; exact skip ⟨env.set d (.g (.bool false)), hp, df⟩ rfl rfl (hset false rfl) (h.2 hpp)
          | false => rw [if_pos (by simp)]; exact run ⟨env.set d (.g (.bool false)), hp, df⟩ rfl rfl (hset false rfl) (h.2 hpp)
      · rename_i p e
        rw [e] at hed
        simp only [RepD] at hed
        obtain ⟨c, hv, hc⟩ := hed
        obtain ⟨env, hp, df⟩ := st
        have hset : ∀ c' : Bool, c' = c → EnvOk ⟨env.set d (.g (.bool c')), hp, df⟩ β V w a := fun c' hcc => env_setE (st := ⟨env, hp, df⟩) he (by simp only [RepD, RepV]; rw [hcc]; exact hv)
        rw [hv]
        cases c with
        | true =>
          have hpp := hc.1 rfl
          cases b with
          | true => rw [if_pos (by simp)]; exact run ⟨env.set d (.g (.bool true)), hp, df⟩ rfl rfl (hset true rfl) (h.1 hpp)
          | false => rw [if_neg (by simp)]; exact skip ⟨env.set d (.g (.bool true)), hp, df⟩ rfl rfl (hset true rfl) (h.1 hpp)
        | false =>
          have hpp : p := Classical.not_not.1 (fun hp => by have := hc.2 hp; cases this)
          cases b with
          | true => rw [if_neg (by simp)]; exact skip ⟨env.set d (.g (.bool false)), hp, df⟩ rfl rfl (hset false rfl) (h.2 hpp)
          | false => rw [if_pos (by simp)]; exact run ⟨env.set d (.g (.bool false)), hp, df⟩ rfl rfl (hset false rfl) (h.2 hpp)
      · exact h.elim

theorem ops_sound (hT : TabOk P T) (hF : ∀ g, F g = true → fnOk P g = true) {all : Array Oper} {S : List Nat} {K : St → Prop} {Q : Post} {Qa : Exit → Act → World → Prop} {a0 : Act}
    (hK : ∀ st a w, K st → Rel C n st a w → Keeps S a0 a → Qa .normal a w) (hQ : ∀ d st ch a w, Q (.pan d) st → XOk (.panic ch) (.pan d) st a w C n → Keeps S a0 a → Qa (.panic ch) a w) :
    ∀ (l : List Oper), (∀ o ∈ l, ∀ d, o.dst = some d → d < n ∧ inL S d = true) → ∀ (st : St) (a : Act) (w : World), vcOps P T F C.G all K Q l st → Rel C n st a w → Keeps S a0 a → wpList P all Qa l a w := by
  intro l
  induction l with
  | nil => intro _ st a w h hr hk; exact hK st a w h hr hk
  | cons o r ih =>
    intro hl st a w h hr hk
    have hput : ∀ v, Keeps S a0 (a.put o.dst v) := fun v => hk.trans (Keeps.put (fun d hd => (hl o List.mem_cons_self d hd).2) v)
    have := one_sound (next := wpList P all Qa r) (Qa := Qa) hT hF hr (fun d hd => (hl o List.mem_cons_self d hd).1) h
      (fun st' v w' hk' hr' => ih (fun o ho => hl o (List.mem_cons_of_mem _ ho)) st' _ w' hk' hr' (hput v)) (fun d st' ch w' hq hx => hQ d st' ch a w' hq hx hk)
    unfold StepW at this
    unfold wpList
    split
    · rename_i hw
      rw [if_pos hw] at this
      exact .inl this
    · rename_i hw
      rw [if_neg hw] at this
      exact this

theorem allLt_mem {n : Nat} : ∀ {l : List Nat}, allLt n l = true → ∀ k ∈ l, k < n
  | [], _, k, hk => by simp at hk
  | a :: l, h, k, hk => by
    simp only [allLt, Bool.and_eq_true] at h
    rcases List.mem_cons.1 hk with rfl | hk
    · exact Nat.le_of_ble_eq_true h.1
    · exact allLt_mem h.2 k hk

end
end Go.Dm
