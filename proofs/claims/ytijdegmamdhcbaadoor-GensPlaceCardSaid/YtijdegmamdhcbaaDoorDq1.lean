/-
  The second engine, regions that draw their order, first part: what an operation asks hangs on its operands alone; its value is one; and a quiet one may be done in greater memory. It holds of every program.
-/
import Derived.Test.YtijdegmamdhcbaaDoorDm10
namespace Go.Dm
open Go Go.Eng Go.RowKit

/-- No object of memory of one's own is named. -/
def closed : Nat → D → Bool
  | 0, _ => false
  | n + 1, d => match d with
    | .row _ | .rs _ _ _ | .ptr _ _ | .el _ _ _ => false
    | .fn _ fs cs => fs.all (closed n) && cs.all (closed n)
    | .iface _ x => closed n x
    | .agg cs => cs.all (closed n)
    | .tuple cs => cs.all (closed n)
    | _ => true
theorem closed_rep {h h' : Heap} {β β' : Nat → Value} {V V' : Nat → Prop} {w w' : World} (hV : Moved V w V' w') : ∀ (n : Nat) (d : D) (v : Value), closed n d = true → RepD h β V w d v → RepD h' β' V' w' d v := by
  intro n
  induction n with
  | zero => intro d v hf; cases hf
  | succ n ih =>
    intro d v hf hd
    have list : ∀ (ds : List D) (vs : List Value), ds.all (closed n) = true → RepDL h β V w ds vs → RepDL h' β' V' w' ds vs := by
      intro ds
      induction ds with
      | nil => intro vs _ h; simp only [RepDL] at h ⊢; exact h
      | cons d ds ihd =>
        intro vs hf h
        simp only [List.all_cons, Bool.and_eq_true] at hf
        simp only [RepDL] at h ⊢
        obtain ⟨v, us, hv, h1, h2⟩ := h
        exact ⟨v, us, hv, ih d v hf.1 h1, ihd us hf.2 h2⟩
    cases d with
    | g x => simp only [RepD] at hd ⊢; exact RepV.move hV _ _ hd
    | fp r o => simp only [RepD] at hd ⊢; obtain ⟨a, h1, h2, h3⟩ := hd; exact ⟨a, h1, (hV _ h2).1, RepRow.move hV h2 _ _ h3⟩
    | row i => simp [closed] at hf
    | rs i lo k => simp [closed] at hf
    | ptr i o => simp [closed] at hf
    | el i j o => simp [closed] at hf
    | fn f fs cs =>
      simp only [closed, Bool.and_eq_true] at hf
      simp only [RepD] at hd ⊢
      obtain ⟨us, ts, hv, h1, h2⟩ := hd
      exact ⟨us, ts, hv, list fs us hf.1 h1, list cs ts hf.2 h2⟩
    | iface t x =>
      simp only [closed] at hf
      simp only [RepD] at hd ⊢
      obtain ⟨u, hv, h1⟩ := hd
      exact ⟨u, hv, ih x u hf h1⟩
    | agg cs =>
      simp only [closed] at hf
      simp only [RepD] at hd ⊢
      obtain ⟨us, hv, h1⟩ := hd
      exact ⟨us, hv, list cs us hf h1⟩
    | tuple cs =>
      simp only [closed] at hf
      simp only [RepD] at hd ⊢
      obtain ⟨us, hv, h1⟩ := hd
      exact ⟨us, hv, list cs us hf h1⟩
    | any => simp only [RepD]
    | _ => simp only [RepD] at hd ⊢; exact hd

section
variable {P : Program} {T : Tab} {F : FuncId → Bool} {G : Gl}

/-- It turns memory. -/
def active : Op → Bool
  | .alloc _ | .box _ _ | .buildSlice _ _ _ | .makeSlice _ _ _ | .store _ _ _ => true
  | .call { callee := .builtin .append, .. } => true
  | _ => false
/-- It turns memory that was there. -/
def mutating : Op → Bool
  | .store _ _ _ => true
  | .buildSlice _ _ _ => true
  | .call { callee := .builtin .append, args, .. } => match args.toList with
    | .const (.slice none _ _) :: _ => false
    | _ => true
  | _ => false

/-- Memory goes on: what was there is there. -/
def Ex (h h' : Heap) : Prop := ∀ (i : Nat) (o : Obj), h[i]? = some o → h'[i]? = some o
theorem Ex.refl (h : Heap) : Ex h h := fun _ _ h => h
theorem Ex.trans {a b c : Heap} (h : Ex a b) (k : Ex b c) : Ex a c := fun i o hi => k i o (h i o hi)
theorem Ex.app (h k : Heap) : Ex h (h ++ k) := fun i o hi => by
  have hl : i < h.length := (List.getElem?_eq_some_iff.1 hi).1
  rw [List.getElem?_append_left hl]; exact hi

def alive (h : Heap) : List Nat → Bool
  | [] => true
  | i :: l => (match h[i]? with | some _ => true | none => false) && alive h l

/-- A call that leaves memory as it is. -/
def vcCallQ (P : Program) (F : FuncId → Bool) (G : Gl) (f : Operand) (args : Array Operand) (st : St) (K : D → Prop) : Prop :=
  match sv G st f with
  | .fn g fs cs => bif F g then forceDL (fs ++ (args.toList.map (sv G st) ++ cs)) fun all =>
      ∃ as d, likeA (all.map (conv st.h [] 4)) as ∧ CT P G g as (Is d) ∧ ((closed 4 d && (memFree 4 d || isNil (idsL all)) && alive st.h (idsL all)) = true) ∧ K d
    else forceDL (fs ++ (args.toList.map (sv G st) ++ cs)) fun all => fnOk P g = true ∧ ∃ d, (∀ h', Ex st.h h' → CTR P G g all h' d) ∧ K d
  | _ => False

/-- What a quiet operation asks in a region that draws its order. -/
def vcQ (P : Program) (T : Tab) (F : FuncId → Bool) (G : Gl) (o : Op) (st : St) (K : D → Prop) : Prop :=
  match o with
  | .call { callee := .value f, args, .. } => vcCallQ P F G f args st K
  | .call { callee := .builtin .copy, .. } => False
  | .panic _ => False
  | .binOp op t x y _ => match T t with
    | some { kind := .bool, .. } => vcBoolEq op (sv G st x) (sv G st y) K
    | some { kind := .slice _, .. } => False
    | some { kind := .struct _, .. } => vcStEq P t op (sv G st x) (sv G st y) K
    | _ => vcBin op (sv G st x) (sv G st y) K
  | o => vcOp P T F G o st (fun d _ => K d) (fun _ _ => False)

/-- The operands read the same. -/
def Same (G : Gl) (st st' : St) (l : List Operand) : Prop := ∀ x ∈ l, sv G st x = sv G st' x

theorem alive_mem {h : Heap} : ∀ {l : List Nat}, alive h l = true → ∀ i ∈ l, ∃ o, h[i]? = some o
  | [], _, i, hi => by simp at hi
  | a :: l, ha, i, hi => by
    simp only [alive, Bool.and_eq_true] at ha
    rcases List.mem_cons.1 hi with rfl | hi
    · cases h1 : h[i]? with
      | none => rw [h1] at ha; exact absurd ha.1 (by simp)
      | some o => exact ⟨o, rfl⟩
    · exact alive_mem ha.2 i hi
theorem conv_ex {h h' : Heap} (hx : Ex h h') : ∀ (n : Nat) (d : D), (∀ i ∈ ids n d, ∃ o, h[i]? = some o) → conv h' [] n d = conv h [] n d := by
  intro n
  induction n with
  | zero => intro d _; rfl
  | succ n ih =>
    intro d hi
    have list : ∀ ds : List D, (∀ d ∈ ds, ∀ i ∈ ids n d, ∃ o, h[i]? = some o) → ds.map (conv h' [] n) = ds.map (conv h [] n) := fun ds hd => List.map_congr_left (fun d hm => ih d (hd d hm))
    cases d with
    | row i => obtain ⟨o, ho⟩ := hi i (by simp [ids]); simp only [conv, ho, hx _ _ ho]
    | rs i lo m => obtain ⟨o, ho⟩ := hi i (by simp [ids]); simp only [conv, ho, hx _ _ ho]
    | ptr i off => obtain ⟨o, ho⟩ := hi i (by simp [ids]); simp only [conv, ho, hx _ _ ho]
    | el i j off => simp only [conv]
    | fn f fs cs =>
      simp only [conv]
      rw [list fs (fun d hd i h1 => hi i (by simp only [ids, List.mem_append, List.mem_flatMap]; exact .inl ⟨d, hd, h1⟩)), list cs (fun d hd i h1 => hi i (by simp only [ids, List.mem_append, List.mem_flatMap]; exact .inr ⟨d, hd, h1⟩))]
    | iface t x => simp only [conv]; rw [ih x (fun i h1 => hi i (by simp only [ids]; exact h1))]
    | agg cs => simp only [conv]; rw [list cs (fun d hd i h1 => hi i (by simp only [ids, List.mem_flatMap]; exact ⟨d, hd, h1⟩))]
    | tuple cs => simp only [conv]; rw [list cs (fun d hd i h1 => hi i (by simp only [ids, List.mem_flatMap]; exact ⟨d, hd, h1⟩))]
    | _ => rfl
theorem convL_ex {h h' : Heap} (hx : Ex h h') {all : List D} (ha : alive h (idsL all) = true) : all.map (conv h' [] 4) = all.map (conv h [] 4) :=
  List.map_congr_left (fun d hd => conv_ex hx 4 d (fun i hi => alive_mem ha i (ids_mem hd i hi (fun _ h => h))))
theorem alive_ex {h h' : Heap} (hx : Ex h h') : ∀ {l : List Nat}, alive h l = true → alive h' l = true
  | [], _ => rfl
  | a :: l, ha => by
    simp only [alive, Bool.and_eq_true] at ha ⊢
    refine ⟨?_, alive_ex hx ha.2⟩
    cases h1 : h[a]? with
    | none => rw [h1] at ha; exact absurd ha.1 (by simp)
    | some o => rw [hx _ _ h1]

theorem partsD_congr {h : Heap} {f f' : Operand → D} : ∀ {l : List (Nat × Operand)}, (∀ p ∈ l, f p.2 = f' p.2) → partsD h f l = partsD h f' l
  | [], _ => rfl
  | (i, o) :: l, hl => by
    simp only [partsD]
    rw [hl (i, o) List.mem_cons_self, partsD_congr (fun p hp => hl p (List.mem_cons_of_mem _ hp))]
theorem map_congr' {f f' : Operand → D} {l : List Operand} (hl : ∀ x ∈ l, f x = f' x) : l.map f = l.map f' := List.map_congr_left hl

/-- What an operation asks hangs on its operands alone. -/
theorem vcOp_congr {o : Op} {st st' : St} (hh : st.h = st'.h) (hs : Same G st st' o.operands.toList) {K Qp : KD} (h : vcOp P T F G o st K Qp) : vcOp P T F G o st' K Qp := by
  have one : ∀ x, x ∈ o.operands → sv G st' x = sv G st x := fun x hx => (hs x (by simpa using hx)).symm
  have opt : ∀ q : Option Operand, (∀ x ∈ q.toArray, x ∈ o.operands) → q.map (sv G st') = q.map (sv G st) := by
    intro q hq
    cases q with
    | none => rfl
    | some x => simp only [Option.map_some]; rw [one x (hq x (by simp))]
  cases o with
  | move x => simp only [vcOp] at h ⊢; rw [one x (by simp [Op.operands]), ← hh]; exact h
  | assign x => simp only [vcOp] at h ⊢; rw [one x (by simp [Op.operands]), ← hh]; exact h
  | pick c x y => simp only [vcOp] at h ⊢; rw [one c (by simp [Op.operands]), one x (by simp [Op.operands]), one y (by simp [Op.operands]), ← hh]; exact h
  | alloc t => simp only [vcOp] at h ⊢; rw [← hh]; exact h
  | box t x => simp only [vcOp] at h ⊢; rw [one x (by simp [Op.operands]), ← hh]; exact h
  | build t parts =>
    have hp : partsD st'.h (sv G st') parts.toList = partsD st.h (sv G st) parts.toList := by
      rw [← hh]
      refine partsD_congr (fun p hp => one p.2 ?_)
      simp only [Op.operands]
      rw [List.mem_toArray]
      exact List.mem_map.2 ⟨p, hp, rfl⟩
    simp only [vcOp] at h ⊢
    rw [hp, ← hh]
    exact h
  | buildSlice t len parts =>
    have hp : partsD st'.h (sv G st') parts.toList = partsD st.h (sv G st) parts.toList := by
      rw [← hh]
      refine partsD_congr (fun p hp => one p.2 ?_)
      simp only [Op.operands]
      rw [List.mem_toArray]
      exact List.mem_map.2 ⟨p, hp, rfl⟩
    simp only [vcOp] at h ⊢
    rw [hp, ← hh]
    exact h
  | makeSlice t l c => simp only [vcOp] at h ⊢; rw [one l (by simp [Op.operands]), one c (by simp [Op.operands]), ← hh]; exact h
  | load t x => simp only [vcOp] at h ⊢; rw [one x (by simp [Op.operands]), ← hh]; exact h
  | store t x y => simp only [vcOp] at h ⊢; rw [one x (by simp [Op.operands]), one y (by simp [Op.operands]), ← hh]; exact h
  | nilCheck x => simp only [vcOp] at h ⊢; rw [one x (by simp [Op.operands]), ← hh]; exact h
  | binOp op t x y t' => simp only [vcOp] at h ⊢; rw [one x (by simp [Op.operands]), one y (by simp [Op.operands]), ← hh]; exact h
  | unOp op t x => simp only [vcOp] at h ⊢; rw [one x (by simp [Op.operands]), ← hh]; exact h
  | convert s t x => simp only [vcOp] at h ⊢; rw [one x (by simp [Op.operands]), ← hh]; exact h
  | fieldAddr s x f => simp only [vcOp] at h ⊢; rw [one x (by simp [Op.operands]), ← hh]; exact h
  | indexAddr t x ix => simp only [vcOp] at h ⊢; rw [one x (by simp [Op.operands]), one ix (by simp [Op.operands]), ← hh]; exact h
  | index t x ix => simp only [vcOp] at h ⊢; rw [one x (by simp [Op.operands]), one ix (by simp [Op.operands]), ← hh]; exact h
  | slice t x lo hi mx =>
    cases mx with
    | some m => exact h.elim
    | none => simp only [vcOp] at h ⊢; rw [one x (by simp [Op.operands]), opt lo (fun y hy => by simp [Op.operands]; simp at hy; simp [hy]), opt hi (fun y hy => by simp [Op.operands]; simp at hy; simp [hy]), ← hh]; exact h
  | extract x i => simp only [vcOp] at h ⊢; rw [one x (by simp [Op.operands]), ← hh]; exact h
  | makeFunc fn first captured =>
    cases fn with
    | func f =>
      simp only [vcOp] at h ⊢
      rw [map_congr' (f := sv G st') (f' := sv G st) (l := first.toList) (fun x hx => one x (by simp [Op.operands]; exact .inl (by simpa using hx))), map_congr' (f := sv G st') (f' := sv G st) (l := captured.toList) (fun x hx => one x (by simp [Op.operands]; exact .inr (by simpa using hx))), ← hh]
      exact h
    | _ => exact h.elim
  | makeInterface t x => simp only [vcOp] at h ⊢; rw [one x (by simp [Op.operands]), ← hh]; exact h
  | panic x => simp only [vcOp] at h ⊢; rw [one x (by simp [Op.operands]), ← hh]; exact h
  | call c =>
    obtain ⟨callee, args, ts⟩ := c
    have hargs : ∀ x ∈ args, sv G st' x = sv G st x := fun x hx => one x (by simp [Op.operands, Call.operands, hx])
    cases callee with
    | value f =>
      simp only [vcOp] at h ⊢
      rw [one f (by simp [Op.operands, Call.operands]), map_congr' (f := sv G st') (f' := sv G st) (l := args.toList) (fun x hx => hargs x (by simpa using hx)), ← hh]
      exact h
    | invoke r m => exact h.elim
    | builtin b =>
      cases b with
      | len =>
        simp only [vcOp] at h ⊢
        split at h
        · rename_i t x hts har
          rw [hargs x (by rw [← Array.mem_toList_iff, har]; simp), ← hh]
          exact h
        · exact h.elim
      | max =>
        simp only [vcOp] at h ⊢
        split at h
        · rename_i x y har
          rw [hargs x (by rw [← Array.mem_toList_iff, har]; simp), hargs y (by rw [← Array.mem_toList_iff, har]; simp), ← hh]
          exact h
        · exact h.elim
      | min =>
        simp only [vcOp] at h ⊢
        split at h
        · rename_i x y har
          rw [hargs x (by rw [← Array.mem_toList_iff, har]; simp), hargs y (by rw [← Array.mem_toList_iff, har]; simp), ← hh]
          exact h
        · exact h.elim
      | append =>
        simp only [vcOp] at h ⊢
        split at h
        · rename_i t t' x y hts har
          rw [hargs x (by rw [← Array.mem_toList_iff, har]; simp), hargs y (by rw [← Array.mem_toList_iff, har]; simp), ← hh]
          exact h
        · exact h.elim
      | copy =>
        simp only [vcOp] at h ⊢
        split at h
        · rename_i t t' x y hts har
          rw [hargs x (by rw [← Array.mem_toList_iff, har]; simp), hargs y (by rw [← Array.mem_toList_iff, har]; simp), ← hh]
          exact h
        · exact h.elim
      | _ => exact h.elim
  | _ => exact h.elim

theorem vcBin_one {op : BinOp} {x y : D} {K : D → Prop} (h : vcBin op x y K) : ∃ d, K d ∧ ∀ K' : D → Prop, K' d → vcBin op x y K' := by
  unfold vcBin at h ⊢
  split at h <;> first | exact h.elim | skip
  all_goals first
    | exact ⟨_, h, fun K' hk => hk⟩
    | exact ⟨_, h.2, fun K' hk => ⟨h.1, hk⟩⟩
    | exact ⟨_, h.2.2, fun K' hk => ⟨h.1, h.2.1, hk⟩⟩
    | (obtain ⟨c, hc, hk⟩ := h; exact ⟨_, hk, fun K' hk => ⟨c, hc, hk⟩⟩)
theorem vcBool_one {op : BinOp} {x y : D} {K : D → Prop} (h : vcBoolEq op x y K) : ∃ d, K d ∧ ∀ K' : D → Prop, K' d → vcBoolEq op x y K' := by
  unfold vcBoolEq at h ⊢
  split at h <;> first | exact h.elim | exact ⟨_, h, fun K' hk => hk⟩
theorem vcStEq_one {t : TypeId} {op : BinOp} {x y : D} {K : D → Prop} (h : vcStEq P t op x y K) : ∃ d, K d ∧ ∀ K' : D → Prop, K' d → vcStEq P t op x y K' := by
  unfold vcStEq at h ⊢
  split at h
  · split at h
    · exact ⟨_, h.2, fun K' hk => ⟨h.1, hk⟩⟩
    · exact h.elim
  · split at h
    · exact ⟨_, h.2, fun K' hk => ⟨h.1, hk⟩⟩
    · exact h.elim
  · exact h.elim
theorem vcUn_one {op : UnOp} {x : D} {K : D → Prop} (h : vcUn op x K) : ∃ d, K d ∧ ∀ K' : D → Prop, K' d → vcUn op x K' := by
  unfold vcUn at h ⊢
  split at h <;> first | exact h.elim | exact ⟨_, h, fun K' hk => hk⟩ | exact ⟨_, h.2, fun K' hk => ⟨h.1, hk⟩⟩
theorem ldG_one {i : TI} {r : List GV} {off : Nat} {K : D → Prop} (h : ldG i r off K) : ∃ d, K d ∧ ∀ K' : D → Prop, K' d → ldG i r off K' := by
  unfold ldG at h ⊢
  cases hi : i.agg with
  | false =>
    rw [hi] at h
    simp only at h ⊢
    split at h
    · exact ⟨_, h, fun K' hk => hk⟩
    · exact h.elim
  | true =>
    rw [hi] at h
    simp only at h ⊢
    cases hb : Nat.ble (off + i.size) r.length with
    | false => rw [hb] at h; exact h.elim
    | true => rw [hb] at h; exact ⟨_, h, fun K' hk => hk⟩

theorem sh_closed {m : Nat} : ∀ (n : Nat) (d : D), closed n d = true → sh m n d = d := by
  intro n
  induction n with
  | zero => intro d h; cases h
  | succ n ih =>
    intro d h
    have list : ∀ ds : List D, ds.all (closed n) = true → ds.map (sh m n) = ds := by
      intro ds
      induction ds with
      | nil => intro _; rfl
      | cons d ds ihd => intro h; simp only [List.all_cons, Bool.and_eq_true] at h; rw [List.map_cons, ih d h.1, ihd h.2]
    cases d with
    | row i => cases h
    | rs i lo k => cases h
    | ptr i o => cases h
    | el i j o => cases h
    | fn f fs cs => simp only [closed, Bool.and_eq_true] at h; simp only [sh]; rw [list fs h.1, list cs h.2]
    | iface t x => simp only [closed] at h; simp only [sh]; rw [ih x h]
    | agg cs => simp only [closed] at h; simp only [sh]; rw [list cs h]
    | tuple cs => simp only [closed] at h; simp only [sh]; rw [list cs h]
    | _ => rfl

/-- A quiet operation has one value, and has it in greater memory too. -/
theorem vcQ_one {o : Op} {st : St} {K : D → Prop} (ha : active o = false) (h : vcQ P T F G o st K) : ∃ d, K d ∧ ∀ (h' : Heap) (K' : KD), Ex st.h h' → K' d h' → vcOp P T F G o ⟨st.env, h', st.df⟩ K' (fun _ _ => False) := by
  have svh : ∀ (h' : Heap) (x : Operand), sv G ⟨st.env, h', st.df⟩ x = sv G st x := fun h' x => by cases x <;> rfl
  have svf : ∀ (h' : Heap), sv G ⟨st.env, h', st.df⟩ = sv G st := fun h' => funext (svh h')
  cases o with
  | move x => simp only [vcQ, vcOp] at h ⊢; exact ⟨_, h, fun h' K' _ hk => by rw [svf]; exact hk⟩
  | assign x => simp only [vcQ, vcOp] at h ⊢; exact ⟨_, h, fun h' K' _ hk => by rw [svf]; exact hk⟩
  | pick c x y =>
    simp only [vcQ, vcOp] at h ⊢
    unfold bcase at h
    split at h
    · rename_i e; exact ⟨_, h, fun h' K' _ hk => by simp only [svf, e, bcase]; exact hk⟩
    · rename_i e; exact ⟨_, h, fun h' K' _ hk => by simp only [svf, e, bcase]; exact hk⟩
    · rename_i p e
      by_cases hp : p
      · exact ⟨_, h.1 hp, fun h' K' _ hk => by simp only [svf, e, bcase]; exact ⟨fun _ => hk, fun hn => absurd hp hn⟩⟩
      · exact ⟨_, h.2 hp, fun h' K' _ hk => by simp only [svf, e, bcase]; exact ⟨fun hn => absurd hn hp, fun _ => hk⟩⟩
    · rename_i p e
      by_cases hp : p
      · exact ⟨_, h.2 hp, fun h' K' _ hk => by simp only [svf, e, bcase]; exact ⟨fun hn => absurd hp hn, fun _ => hk⟩⟩
      · exact ⟨_, h.1 hp, fun h' K' _ hk => by simp only [svf, e, bcase]; exact ⟨fun _ => hk, fun hn => absurd hn hp⟩⟩
    · exact h.elim
  | build t parts =>
    simp only [vcQ, vcOp] at h ⊢
    split at h
    · rename_i agg size bytes z fs ht
      split at h
      · exact h.elim
      · rename_i ps hps
        split at h
        · rename_i cs hcs
          refine ⟨_, h, fun h' K' hx hk => ?_⟩
          have key : ∀ (l : List (Nat × Operand)) (ps : List (Nat × List D)), partsD st.h (sv G st) l = some ps → partsD h' (sv G st) l = some ps := by
            have f1 : ∀ d, flat1 st.h d = true → flat1 h' d = true := by
              intro d hd
              cases d with
              | row i => simp only [flat1] at hd ⊢; split at hd; rename_i e; rw [hx _ _ e]; cases hd
              | rs i lo n => simp only [flat1] at hd ⊢; split at hd; rename_i e; rw [hx _ _ e]; cases hd
              | el i j o => simp only [flat1] at hd ⊢; split at hd; rename_i e; rw [hx _ _ e]; cases hd
              | ptr i o => simp only [flat1] at hd ⊢; split at hd; rename_i e; rw [hx _ _ e]; cases hd
              | _ => first | exact hd | rfl
            have fL : ∀ ds, flatD st.h ds = true → flatD h' ds = true := by
              intro ds
              induction ds with
              | nil => intro _; rfl
              | cons d ds ih => intro hd; simp only [flatD, Bool.and_eq_true] at hd ⊢; exact ⟨f1 d hd.1, ih hd.2⟩
            have cD : ∀ d ds, cellsD st.h d = some ds → cellsD h' d = some ds := by
              intro d ds hd
              unfold cellsD at hd ⊢
              split at hd
              · rename_i cs
                cases hf : flatD st.h cs with
                | false => rw [hf] at hd; cases hd
                | true => rw [hf] at hd; simp only [fL cs hf]; exact hd
              · cases hf : flat1 st.h d with
                | false => rw [hf] at hd; cases hd
                | true => rw [hf] at hd; simp only [f1 d hf]; exact hd
            intro l
            induction l with
            | nil => intro ps hp; exact hp
            | cons p l ih =>
              intro ps hp
              obtain ⟨i, o⟩ := p
              simp only [partsD] at hp ⊢
              split at hp
              · rename_i ds r e1 e2
                rw [cD _ _ e1, ih _ e2]
                exact hp
              · cases hp
          simp only [svf, key _ _ hps, hcs]
          exact hk
        · exact h.elim
    · exact h.elim
  | load t x =>
    simp only [vcQ, vcOp, vcLoad] at h ⊢
    split at h
    · exact h.elim
    · rename_i i ht
      split at h
      · rename_i j off e
        split at h
        · rename_i cs ty hj
          cases hagg : i.agg with
          | false =>
            rw [hagg] at h
            simp only at h
            obtain ⟨d, hd, h⟩ := getK_ok h
            exact ⟨d, h, fun h' K' hx hk => by simp only [svf, e, hx _ _ hj]; exact getK_at hd hk⟩
          | true =>
            rw [hagg] at h
            simp only at h
            cases hb : Nat.ble (off + i.size) cs.length with
            | false => rw [hb] at h; exact h.elim
            | true => rw [hb] at h; exact ⟨_, h, fun h' K' hx hk => by simp only [svf, e, hx _ _ hj, hb]; exact hk⟩
        · exact h.elim
      · rename_i j k off e
        split at h
        · rename_i xs ty sz hj
          obtain ⟨r, hr, hl⟩ := h
          obtain ⟨d, h2, h1⟩ := ldG_one hl
          exact ⟨d, h2, fun h' K' hx hk => by simp only [svf, e, hx _ _ hj]; exact ⟨r, hr, h1 _ hk⟩⟩
        · exact h.elim
      · rename_i r off e
        obtain ⟨d, h2, h1⟩ := ldG_one h
        exact ⟨d, h2, fun h' K' hx hk => by simp only [svf, e]; exact h1 _ hk⟩
      · exact h.elim
  | nilCheck x =>
    simp only [vcQ, vcOp] at h ⊢
    split at h
    · rename_i i o e
      split at h
      · rename_i cs ty hj; exact ⟨_, h, fun h' K' hx hk => by simp only [svf, e, hx _ _ hj]; exact hk⟩
      · exact h.elim
    · rename_i i j o e
      split at h
      · rename_i xs ty sz hj; exact ⟨_, h, fun h' K' hx hk => by simp only [svf, e, hx _ _ hj]; exact hk⟩
      · exact h.elim
    · rename_i e; exact ⟨_, h, fun h' K' hx hk => by simp only [svf, e]; exact hk⟩
    · rename_i e; exact ⟨_, h, fun h' K' hx hk => by simp only [svf, e]; exact hk⟩
    · exact h.elim
  | binOp op t x y t' =>
    simp only [vcQ, vcOp] at h ⊢
    split at h
    · rename_i ht
      obtain ⟨d, h2, h1⟩ := vcBool_one h
      exact ⟨d, h2, fun h' K' _ hk => by simp only [svf, ht]; exact h1 (fun v => K' v h') hk⟩
    · exact h.elim
    · rename_i ht
      obtain ⟨d, h2, h1⟩ := vcStEq_one h
      exact ⟨d, h2, fun h' K' _ hk => by simp only [svf, ht]; exact h1 (fun v => K' v h') hk⟩
    · rename_i hb hs hst
      obtain ⟨d, h2, h1⟩ := vcBin_one h
      refine ⟨d, h2, fun h' K' _ hk => ?_⟩
      simp only [svf]
      exact h1 (fun v => K' v h') hk
  | unOp op t x =>
    simp only [vcQ, vcOp] at h ⊢
    obtain ⟨d, h2, h1⟩ := vcUn_one h
    exact ⟨d, h2, fun h' K' _ hk => by simp only [svf]; exact h1 _ hk⟩
  | convert s t x =>
    simp only [vcQ, vcOp] at h ⊢
    split at h
    · rename_i e1 e2 e3; exact ⟨_, h.2, fun h' K' _ hk => by simp only [svf, e1, e2, e3]; exact ⟨h.1, hk⟩⟩
    · rename_i e1 e2 e3; exact ⟨_, h.2, fun h' K' _ hk => by simp only [svf, e1, e2, e3]; exact ⟨h.1, hk⟩⟩
    · rename_i e1 e2 e3; exact ⟨_, h, fun h' K' _ hk => by simp only [svf, e1, e2, e3]; exact hk⟩
    · rename_i e1 e2 e3
      split at h
      · rename_i e4; exact ⟨_, h, fun h' K' _ hk => by simp only [svf, e1, e2, e3, e4]; exact hk⟩
      · exact h.elim
    · exact h.elim
  | fieldAddr s x f =>
    simp only [vcQ, vcOp] at h ⊢
    split at h
    · rename_i ht
      split at h
      · rename_i off sz hf
        split at h
        · rename_i i o e
          split at h
          · rename_i cs ty hj; exact ⟨_, h, fun h' K' hx hk => by simp only [svf, e, hx _ _ hj]; exact hk⟩
          · exact h.elim
        · rename_i i j o e
          split at h
          · rename_i xs ty sz' hj; exact ⟨_, h, fun h' K' hx hk => by simp only [svf, e, hx _ _ hj]; exact hk⟩
          · exact h.elim
        · rename_i e; exact ⟨_, h, fun h' K' hx hk => by simp only [svf, e]; exact hk⟩
        · exact h.elim
      · exact h.elim
    · exact h.elim
  | indexAddr t x ix =>
    simp only [vcQ, vcOp, vcIndexAddr] at h ⊢
    split at h
    · rename_i e ht
      split at h
      · rename_i ei k xs hte ex
        cases hb : Nat.beq k ei.size with
        | false => rw [hb] at h; exact h.elim
        | true =>
          rw [hb] at h
          obtain ⟨j, r, h1, h2, h3⟩ := h
          exact ⟨_, h3, fun h' K' _ hk => by simp only [svf, hte, ex, hb]; exact ⟨j, r, h1, h2, hk⟩⟩
      · rename_i ei i hte ex
        split at h
        · rename_i xs ty sz hi
          cases hb : Nat.beq sz ei.size with
          | false => rw [hb] at h; exact h.elim
          | true =>
            rw [hb] at h
            obtain ⟨j, h1, h2, h3⟩ := h
            exact ⟨_, h3, fun h' K' hx hk => by simp only [svf, hte, ex, hx _ _ hi, hb]; exact ⟨j, h1, h2, hk⟩⟩
        · exact h.elim
      · rename_i ei i lo n hte ex
        split at h
        · rename_i xs ty sz hi
          cases hb : Nat.beq sz ei.size with
          | false => rw [hb] at h; exact h.elim
          | true =>
            rw [hb] at h
            obtain ⟨j, h1, h2, h3⟩ := h
            exact ⟨_, h3, fun h' K' hx hk => by simp only [svf, hte, ex, hx _ _ hi, hb]; exact ⟨j, h1, h2, hk⟩⟩
        · exact h.elim
      · exact h.elim
    · rename_i n e ht
      split at h
      · rename_i ei i o hte ex
        split at h
        · rename_i cs ty hi
          obtain ⟨j, h1, h2, h3⟩ := h
          exact ⟨_, h3, fun h' K' hx hk => by simp only [svf, hte, ex, hx _ _ hi]; exact ⟨j, h1, h2, hk⟩⟩
        · exact h.elim
      · rename_i ei r o hte ex
        obtain ⟨j, h1, h2, h3⟩ := h
        exact ⟨_, h3, fun h' K' hx hk => by simp only [svf, hte, ex]; exact ⟨j, h1, h2, hk⟩⟩
      · rename_i ei i k o hte ex
        split at h
        · rename_i xs ty sz hi
          obtain ⟨j, h1, h2, h3⟩ := h
          exact ⟨_, h3, fun h' K' hx hk => by simp only [svf, hte, ex, hx _ _ hi]; exact ⟨j, h1, h2, hk⟩⟩
        · exact h.elim
      · exact h.elim
    · exact h.elim
  | index t x ix =>
    simp only [vcQ, vcOp] at h ⊢
    split at h
    · rename_i s ht e
      obtain ⟨j, c, h1, h2, h3⟩ := h
      exact ⟨_, h3, fun h' K' _ hk => by simp only [svf, ht, e]; exact ⟨j, c, h1, h2, hk⟩⟩
    · exact h.elim
  | slice t x lo hi mx =>
    cases mx with
    | some m => exact h.elim
    | none =>
      simp only [vcQ, vcOp, vcSlice] at h ⊢
      simp only [svf]
      split at h
      · rename_i s ht e
        split at h
        · rename_i e1 e2; exact ⟨_, h, fun h' K' _ hk => by first | exact hk | (simp only [e1, e2, e]; exact hk)⟩
        · rename_i e1 e2; obtain ⟨a, b, c, d⟩ := h; exact ⟨_, d, fun h' K' _ hk => by first | exact ⟨a, b, c, hk⟩ | (simp only [e1, e2, e]; exact ⟨a, b, c, hk⟩)⟩
        · rename_i e1 e2; obtain ⟨a, b, c, d⟩ := h; exact ⟨_, d, fun h' K' _ hk => by first | exact ⟨a, b, c, hk⟩ | (simp only [e1, e2, e]; exact ⟨a, b, c, hk⟩)⟩
        · rename_i e1 e2; obtain ⟨a, b, c, c2, c3, c4, d⟩ := h; exact ⟨_, d, fun h' K' _ hk => by first | exact ⟨a, b, c, c2, c3, c4, hk⟩ | (simp only [e1, e2, e]; exact ⟨a, b, c, c2, c3, c4, hk⟩)⟩
      · rename_i e k xs ht ex
        split at h
        · exact h.elim
        · rename_i ei hte
          cases hb : Nat.beq k ei.size with
          | false => rw [hb] at h; exact h.elim
          | true =>
            rw [hb] at h
            simp only [cond_true] at h
            split at h
            · rename_i e1 e2; exact ⟨_, h, fun h' K' _ hk => by first | exact hk | (simp only [ex, hte, hb, e1, e2]; exact hk)⟩
            · rename_i e1 e2; obtain ⟨a, b, c, d⟩ := h; exact ⟨_, d, fun h' K' _ hk => by first | exact ⟨a, b, c, hk⟩ | (simp only [ex, hte, hb, e1, e2]; exact ⟨a, b, c, hk⟩)⟩
            · rename_i e1 e2; obtain ⟨a, b, c, d⟩ := h; exact ⟨_, d, fun h' K' _ hk => by first | exact ⟨a, b, c, hk⟩ | (simp only [ex, hte, hb, e1, e2]; exact ⟨a, b, c, hk⟩)⟩
            · rename_i e1 e2; obtain ⟨a, b, c, c2, c3, c4, d⟩ := h; exact ⟨_, d, fun h' K' _ hk => by first | exact ⟨a, b, c, c2, c3, c4, hk⟩ | (simp only [ex, hte, hb, e1, e2]; exact ⟨a, b, c, c2, c3, c4, hk⟩)⟩
      · rename_i e i ht ex
        split at h
        · rename_i ei xs ty sz hte hi'
          cases hb : Nat.beq sz ei.size with
          | false => rw [hb] at h; exact h.elim
          | true =>
            rw [hb] at h
            simp only [cond_true] at h
            split at h
            · rename_i e1 e2; exact ⟨_, h, fun h' K' hx hk => by first | exact hk | (simp only [hte, hx _ _ hi', hb]; exact hk)⟩
            · rename_i e1 e2; obtain ⟨a, b, c, d⟩ := h; exact ⟨_, d, fun h' K' hx hk => by first | exact ⟨a, b, c, hk⟩ | (simp only [hte, hx _ _ hi', hb]; exact ⟨a, b, c, hk⟩)⟩
            · rename_i e1 e2; obtain ⟨a, b, c, d⟩ := h; exact ⟨_, d, fun h' K' hx hk => by first | exact ⟨a, b, c, hk⟩ | (simp only [hte, hx _ _ hi', hb]; exact ⟨a, b, c, hk⟩)⟩
            · rename_i e1 e2; obtain ⟨a, b, c, c2, c3, c4, d⟩ := h; exact ⟨_, d, fun h' K' hx hk => by first | exact ⟨a, b, c, c2, c3, c4, hk⟩ | (simp only [hte, hx _ _ hi', hb]; exact ⟨a, b, c, c2, c3, c4, hk⟩)⟩
        · exact h.elim
      · rename_i n e i o' ht ex
        split at h
        · rename_i ti cs ty e1 e2 e3 hi'
          cases hb : Nat.ble (o' + n * ti.size) cs.length && Nat.blt 0 n with
          | false => rw [hb] at h; exact h.elim
          | true =>
            rw [hb] at h
            exact ⟨_, h, fun h' K' hx hk => by simp only [e1, e2, e3, hx _ _ hi', hb]; exact hk⟩
        · exact h.elim
      · exact h.elim
  | extract x i =>
    simp only [vcQ, vcOp] at h ⊢
    split at h
    · rename_i vs e
      split at h
      · rename_i d hd; exact ⟨d, h, fun h' K' _ hk => by simp only [svf, e, hd]; exact hk⟩
      · exact h.elim
    · exact h.elim
  | makeFunc fn first captured =>
    cases fn with
    | func f => simp only [vcQ, vcOp] at h ⊢; exact ⟨_, h, fun h' K' _ hk => by rw [svf]; exact hk⟩
    | _ => exact h.elim
  | makeInterface t x =>
    simp only [vcQ, vcOp] at h ⊢
    split at h
    · exact h.elim
    · rename_i e1 e2; exact ⟨_, h, fun h' K' _ hk => by simp only [svf]; exact hk⟩
    · exact h.elim
  | call c =>
    obtain ⟨callee, args, ts⟩ := c
    cases callee with
    | value f =>
      simp only [vcQ, vcCallQ] at h ⊢
      split at h
      · rename_i g fs cs ef
        have rd : ∀ (h' : Heap) (K' : KD) (d : D), CTR P G g (fs ++ (args.toList.map (sv G st) ++ cs)) h' d → K' d h' → SemCall P G g (fs ++ (args.toList.map (sv G st) ++ cs)) h' K' (fun _ _ => False) := by
          intro h' K' d hc hk C w β V vals hG hr hd
          refine (hc C w β V vals hG hr hd).mono fun e w' he => ?_
          cases e with
          | returned v => exact ⟨d, h', β, V, hk, he.1, he.2.1, LeH.refl _ _, he.2.2⟩
          | panicked ch => exact he.elim
          | outgrown => exact he.elim
        cases hg : F g with
        | false =>
          rw [hg] at h
          simp only [cond_false, forceDL_eq] at h
          obtain ⟨h0, d, h1, h2⟩ := h
          refine ⟨d, h2, fun h' K' hx hk => ?_⟩
          simp only [vcOp, svf, ef, hg, cond_false, forceDL_eq]
          exact ⟨h0, .inr (rd h' K' d (h1 h' hx) hk)⟩
        | true =>
          rw [hg] at h
          simp only [cond_true, forceDL_eq] at h
          obtain ⟨as, d, h1, h2, h3, h4⟩ := h
          refine ⟨d, h4, fun h' K' hx hk => ?_⟩
          simp only [vcOp, svf, ef, hg, cond_true, forceDL_eq]
          refine orS_l ?_
          simp only [Bool.and_eq_true] at h3
          refine ⟨as, Is d, by rw [convL_ex hx h3.2]; exact h1, h2, fun d' h'' hq => ?_, fun d' hq => by cases hq⟩
          injection hq with e1 e2
          subst e1
          subst e2
          rw [sh_closed 4 d' h3.1.1]
          have haf : after h' (idsL (fs ++ (args.toList.map (sv G st) ++ cs))) d' [] = h' := by
            unfold after
            have h5 := h3.1.2
            cases hm : memFree 4 d' with
            | true => rfl
            | false =>
              rw [hm] at h5
              simp only [Bool.false_or] at h5
              cases hi : idsL (fs ++ (args.toList.map (sv G st) ++ cs)) with
              | nil => simp [kills]
              | cons x l => rw [hi] at h5; cases h5
          rw [haf]
          exact hk
      · exact h.elim
    | invoke r m => exact h.elim
    | builtin b =>
      cases b with
      | len =>
        simp only [vcQ, vcOp] at h ⊢
        split at h
        · rename_i t x hts har
          split at h
          · rename_i i hi
            unfold vcLen at h
            split at h
            · rename_i e1 e2; exact ⟨_, h, fun h' K' _ hk => by simp only [svf, vcLen, e1, e2]; exact hk⟩
            · rename_i e1 e2; exact ⟨_, h, fun h' K' _ hk => by simp only [svf, vcLen, e1, e2]; exact hk⟩
            · rename_i e1 e2
              split at h
              · rename_i hj; exact ⟨_, h, fun h' K' hx hk => by simp only [svf, vcLen, e1, e2, hx _ _ hj]; exact hk⟩
              · exact h.elim
            · rename_i e1 e2
              split at h
              · rename_i hj; exact ⟨_, h, fun h' K' hx hk => by simp only [svf, vcLen, e1, e2, hx _ _ hj]; exact hk⟩
              · exact h.elim
            · rename_i e1 e2; exact ⟨_, h, fun h' K' _ hk => by simp only [svf, vcLen, e1, e2]; exact hk⟩
            · exact h.elim
          · exact h.elim
        · exact h.elim
      | max =>
        simp only [vcQ, vcOp] at h ⊢
        split at h
        · split at h
          · rename_i e1 e2
            exact ⟨_, h, fun h' K' _ hk => by simp only [svf, e1, e2]; exact hk⟩
          · exact h.elim
        · exact h.elim
      | min =>
        simp only [vcQ, vcOp] at h ⊢
        split at h
        · split at h
          · rename_i e1 e2
            exact ⟨_, h, fun h' K' _ hk => by simp only [svf, e1, e2]; exact hk⟩
          · exact h.elim
        · exact h.elim
      | append => cases ha
      | _ => exact h.elim
  | alloc t => cases ha
  | box t x => cases ha
  | buildSlice t l p => cases ha
  | makeSlice t l c => cases ha
  | store t x y => cases ha
  | _ => exact h.elim
end
end Go.Dm
