/-
  The second engine, regions that draw their order, third part: what such a region asks, and that it suffices whatever the order. It holds of every program.
-/
import Derived.Test.YtijdegmamdhcbaaDoorDm11a
namespace Go.Dm
open Go Go.Eng Go.RowKit

def nthD {α : Type} (z : α) : List α → Nat → α
  | [], _ => z
  | a :: _, 0 => a
  | _ :: l, n + 1 => nthD z l n
/-- Do calls turn memory, here? -/
class CA where
  b : Bool
  fl : Bool
  ms : Bool
  bs : Bool
def isCallV : Op → Bool
  | .call { callee := .value _, .. } => true
  | _ => false
def isAl : Op → Bool
  | .alloc _ => true
  | _ => false
def isMk : Op → Bool
  | .makeSlice _ _ _ => true
  | _ => false
def isBl : Op → Bool
  | .buildSlice _ _ _ => true
  | _ => false
/-- A new slice, handed on as it is. -/
def qMk [CA] (o : Op) : Bool := (CA.ms && isMk o) || (CA.bs && isBl o)
def actv [CA] (o : Op) : Bool := (active o && !(CA.fl && isAl o) && !qMk o) || (CA.b && isCallV o)
/-- A new variable that waits for none: it is told where all that stands ahead is done. -/
def isFl [CA] (o : Oper) : Bool := CA.fl && isAl o.op && (match o.guard with | none => true | _ => false)
def uniqD : List Oper → Nat → Nat → Bool
  | [], _, c => Nat.beq c 1
  | o :: l, s, c => uniqD l s (match o.dst with | some d => bif Nat.beq d s then c + 1 else c | none => c)
def hasDst : Option Nat → Bool
  | some _ => true
  | none => false
def allocT (T : Tab) : Op → Bool
  | .alloc t => match T t with | some _ => true | none => false
  | _ => false
def dstU (all : Array Oper) : Option Nat → Bool
  | some s => uniqD all.toList s 0
  | none => false
theorem act_false [CA] {o : Op} (h : actv o = false) (hn : (CA.fl && isAl o) = false) (hm : qMk o = false) : active o = false := by
  unfold actv at h
  cases ha : active o with
  | true => rw [ha, hn, hm] at h; cases h
  | false => rfl
theorem isFl_na [CA] {o : Oper} (h : isFl o = true) : actv o.op = false ∧ o.guard = none ∧ isAl o.op = true := by
  unfold isFl at h
  simp only [Bool.and_eq_true] at h
  obtain ⟨⟨h1, h2⟩, h3⟩ := h
  refine ⟨?_, ?_, h2⟩
  · unfold actv
    rw [h1, h2]
    cases ho : o.op with
    | alloc t => simp [isCallV]
    | _ => rw [ho] at h2; cases h2
  · split at h3
    · assumption
    · cases h3
/-- What makes a new slice that is handed on as it is: told where nothing stands. -/
def frq (z : Bool) (n : Nat) (d : D) (h : Heap) (K : KD) : Prop := bif z then (∃ h0 xs e sz, h = h0 ++ [Obj.row xs e sz] ∧ d = .row h0.length ∧ h0.length = n ∧ K (.g (.sl sz xs)) h0) else K d h
def vcMk (P : Program) (T : Tab) (F : FuncId → Bool) (G : Gl) (o : Op) (st : St) (K : D → Prop) : Prop :=
  vcOp P T F G o ⟨st.env, [], st.df⟩ (fun _ h => match h with
    | [.row xs _ sz] => K (.g (.sl sz xs))
    | _ => False) (fun _ _ => False)
theorem seesN_ids : ∀ {cs : List D} {ys : List GV}, SeesL [] cs ys → idsL cs = []
  | [], _, _ => rfl
  | d :: cs, [], h => by simp only [SeesL] at h
  | d :: cs, y :: ys, h => by
    simp only [SeesL] at h
    have h2 := seesN_ids h.2
    have h1 := h.1
    simp only [idsL, h2, List.append_nil]
    cases d <;> first | rfl | (simp [Sees] at h1)
theorem seesN_mono {h' : Heap} : ∀ {cs : List D} {ys : List GV}, SeesL [] cs ys → SeesL h' cs ys
  | [], [], _ => trivial
  | [], _ :: _, h => by simp only [SeesL] at h
  | d :: cs, [], h => by simp only [SeesL] at h
  | d :: cs, y :: ys, h => by
    simp only [SeesL] at h ⊢
    refine ⟨?_, seesN_mono h.2⟩
    have h1 := h.1
    cases d <;> first | exact h1 | (simp [Sees] at h1)
theorem flat1N_mono {h' : Heap} {d : D} (h : flat1 [] d = true) : flat1 h' d = true := by
  cases d <;> first | exact h | (simp [flat1] at h)
theorem flatDN_mono {h' : Heap} : ∀ {cs : List D}, flatD [] cs = true → flatD h' cs = true
  | [], _ => rfl
  | d :: cs, h => by
    simp only [flatD, Bool.and_eq_true] at h ⊢
    exact ⟨flat1N_mono h.1, flatDN_mono h.2⟩
theorem cellsDN_mono {h' : Heap} {d : D} {ds : List D} (h : cellsD [] d = some ds) : cellsD h' d = some ds := by
  have one : ∀ d : D, (bif flat1 [] d then some [d] else none) = some ds → (bif flat1 h' d then some [d] else none) = some ds := fun d h => by
    cases hf : flat1 [] d with
    | true => rw [hf] at h; rw [flat1N_mono hf]; exact h
    | false => rw [hf] at h; cases h
  cases d with
  | agg cs =>
    simp only [cellsD] at h ⊢
    cases hf : flatD [] cs with
    | true => rw [hf] at h; rw [flatDN_mono hf]; exact h
    | false => rw [hf] at h; cases h
  | _ => (simp only [cellsD] at h ⊢; exact one _ h)
theorem partsDN_mono {h' : Heap} {f : Operand → D} : ∀ {l : List (Nat × Operand)} {ps : List (Nat × List D)}, partsD [] f l = some ps → partsD h' f l = some ps
  | [], _, h => h
  | (i, o) :: l, ps, h => by
    simp only [partsD] at h ⊢
    split at h
    · rename_i ds r e1 e2
      rw [cellsDN_mono e1, partsDN_mono e2]
      exact h
    · cases h
theorem vcMk_one [CA] {P : Program} {T : Tab} {F : FuncId → Bool} {G : Gl} {o : Op} {st : St} {K : D → Prop} (hm : qMk o = true) (h : vcMk P T F G o st K) : ∃ d, K d ∧ ∀ (h' : Heap) (K' : KD), K' d h' → vcOp P T F G o ⟨st.env, h', st.df⟩ (fun d h => frq true h'.length d h K') (fun _ _ => False) := by
  have hmk : isMk o = true ∨ isBl o = true := by
    unfold qMk at hm
    simp only [Bool.or_eq_true, Bool.and_eq_true] at hm
    rcases hm with hm | hm
    · exact .inl hm.2
    · exact .inr hm.2
  unfold vcMk at h
  have svf : ∀ (h' : Heap), sv G ⟨st.env, h', st.df⟩ = sv G st := fun h' => funext (fun x => by cases x <;> rfl)
  cases o with
  | makeSlice t l c =>
    simp only [vcOp, svf] at h ⊢
    split at h
    · split at h
      · rename_i ei hte
        cases hb : Nat.blt 0 ei.size with
        | false => rw [hb] at h; exact h.elim
        | true =>
          rw [hb] at h
          obtain ⟨len, cap, z, h1, h2, h3, h4, h5, h6, h7⟩ := h
          exact ⟨_, h7, fun h' K' hk => ⟨len, cap, z, h1, h2, h3, h4, h5, h6, h', _, _, _, rfl, rfl, rfl, hk⟩⟩
      · exact h.elim
    · exact h.elim
  | buildSlice t len parts =>
    simp only [vcOp, svf] at h ⊢
    split at h
    · rename_i e he
      split at h
      · rename_i ei hte
        split at h
        · cases h
        · rename_i ps hps
          split at h
          · rename_i cs hcs
            cases hb : (Nat.ble (len * ei.size) 16777216 && Nat.blt 0 ei.size) with
            | false => rw [hb] at h; exact h.elim
            | true =>
              rw [hb] at h
              obtain ⟨xs, h1, h2, h3, h4⟩ := h
              have hi := seesN_ids h3
              rw [hi] at h4
              refine ⟨_, h4, fun h' K' hk => ?_⟩
              simp only [partsDN_mono (h' := h') hps, hcs]
              exact ⟨xs, h1, h2, seesN_mono h3, h', xs, _, _, by rw [hi]; rfl, rfl, rfl, hk⟩
          · exact h.elim
      · exact h.elim
    · exact h.elim
  | _ => rcases hmk with hmk | hmk <;> cases hmk
/-- A call that makes memory, of given values. -/
def vcCallA (P : Program) (F : FuncId → Bool) (G : Gl) (f : Operand) (args : Array Operand) (st : St) (K : KD) : Prop :=
  match sv G st f with
  | .fn g fs cs => bif F g then forceDL (fs ++ (args.toList.map (sv G st) ++ cs)) fun all =>
      ∃ es d0 h0, likeA (all.map (conv st.h [] 4)) es ∧ CT P G g es (fun o => o = .ret d0 h0) ∧ (isNil (idsL all) = true) ∧ K (sh st.h.length 4 d0) (after st.h [] d0 h0) else False
  | _ => False
def vcA (P : Program) (T : Tab) (F : FuncId → Bool) (G : Gl) (o : Op) (st : St) (K : KD) : Prop :=
  match o with
  | .call { callee := .value f, args, .. } => vcCallA P F G f args st K
  | o => vcOp P T F G o st K (fun _ _ => False)
theorem act_one [CA] {P : Program} {T : Tab} {F : FuncId → Bool} {G : Gl} {o : Op} {st : St} {K : KD} (ha : actv o = true) (h : vcA P T F G o st K) : ∃ d h1, K d h1 ∧ (∀ K' : KD, K' d h1 → vcOp P T F G o st K' (fun _ _ => False)) ∧ (mutating o = false → Ex st.h h1) := by
  unfold vcA at h
  split at h
  · rename_i f args ts
    unfold vcCallA at h
    split at h
    · rename_i g fs cs ef
      cases hg : F g with
      | false => rw [hg] at h; exact h.elim
      | true =>
        rw [hg] at h
        simp only [cond_true, forceDL_eq] at h
        obtain ⟨es, d0, h0, h1, h2, h3, h4⟩ := h
        have hi : idsL (fs ++ (args.toList.map (sv G st) ++ cs)) = [] := by
          cases hi : idsL (fs ++ (args.toList.map (sv G st) ++ cs)) with
          | nil => rfl
          | cons x l => rw [hi] at h3; cases h3
        refine ⟨_, _, h4, fun K' hk => ?_, fun _ => ?_⟩
        · simp only [vcOp, ef, hg, cond_true, forceDL_eq]
          refine orS_l ⟨es, _, h1, h2, fun d' h'' hq => ?_, fun d' hq => (by cases hq)⟩
          injection hq with e1 e2
          subst e1; subst e2
          rw [hi]
          exact hk
        · unfold after
          cases memFree 4 d0 && isNil h0 with
          | true => exact Ex.refl _
          | false => exact Ex.app _ _
    · exact h.elim
  · rename_i hne
    refine active_one ?_ h
    unfold actv at ha
    cases hac : active o with
    | true => rfl
    | false =>
      rw [hac] at ha
      simp only [Bool.false_and, Bool.false_or, Bool.and_eq_true] at ha
      exfalso
      obtain ⟨_, ha⟩ := ha
      unfold isCallV at ha
      split at ha
      · rename_i f args ts; exact hne f args ts rfl
      · cases ha
def edgesOf (o : Oper) : List Nat := o.after.toList.filterMap fun e => match e.ground with
  | .textOnly _ => none
  | .gcOnly _ => none
  | _ => some e.on
def rowOf (acc : List Nat) : List Nat → Nat
  | [] => 0
  | j :: l => (2 ^ j) ||| (nthD 0 acc j) ||| rowOf acc l
/-- It makes a slice out of values: it turns what was there only if they are rows. -/
def isBld : Op → Bool
  | .buildSlice _ _ _ => true
  | _ => false
/-- Where every slice is made of given values alone. -/
def isLite : Option Nat → Bool
  | some p => Nat.ble 2000 p
  | none => false
/-- Where what turns nothing does not look at memory. -/
def isFree : Option Nat → Bool
  | some p => Nat.ble 5000 p
  | none => false
def mutat (lt : Option Nat) (o : Op) : Bool := mutating o && !(isLite lt && isBld o)
def hpl (lt : Option Nat) (o : Op) : Bool := heapless o || isFree lt
def liteOk (c : Bool) (h0 h : Heap) (X : Prop) : Prop := bif c then (∃ k, h = h0 ++ k) ∧ X else X
theorem liteOk_X {c : Bool} {h0 h : Heap} {X : Prop} (hx : liteOk c h0 h X) : X := by
  cases c with
  | true => exact hx.2
  | false => exact hx
def hplF [CA] (lt : Option Nat) (o : Oper) : Bool := hpl lt o.op || isFl o
def confl [CA] (lt : Option Nat) (all : Array Oper) (o p : Oper) : Bool :=
  (match o.dst with | some d => inL (p.looksAt all) d || (match p.dst with | some e => Nat.beq d e | none => false) | none => false) ||
  (match p.dst with | some d => inL (o.looksAt all) d | none => false) ||
  (actv o.op && actv p.op) || (mutat lt o.op && !hplF lt p) || (mutat lt p.op && !hplF lt o)
def okAt [CA] (lt : Option Nat) (all : Array Oper) (row : Nat) (o : Oper) : Nat → List Oper → Bool
  | _, [] => true
  | j, p :: l => (!confl lt all o p || Nat.testBit row j) && okAt lt all row o (j + 1) l
def drawChk [CA] (lt : Option Nat) (all : Array Oper) : List Oper → List Oper → List Nat → Bool
  | [], _, _ => true
  | o :: r, pre, acc => allLt pre.length (edgesOf o) && okAt lt all (rowOf acc (edgesOf o)) o 0 pre && drawChk lt all r (pre ++ [o]) (acc ++ [rowOf acc (edgesOf o)])

/-- How many that turn memory there are; and of those that come before. -/
def cntA [CA] : List Oper → Nat
  | [] => 0
  | o :: l => bif actv o.op then cntA l + 1 else cntA l
def lastP [CA] (p : Nat → Bool) : Nat → List Oper → Nat → Nat
  | _, [], best => best
  | j, o :: l, best => lastP p (j + 1) l (bif actv o.op && p j then j + 1 else best)
def cntR [CA] (row : Nat) (pre : List Oper) : Nat := cntA (pre.take (lastP (Nat.testBit row) 0 pre 0))

def setO (e : Env) (dst : Option Nat) (d : D) : Env := match dst with
  | some i => e.set i d
  | none => e

/-- A call that panics for certain, whatever comes ahead of it. -/
def vcCallP (P : Program) (F : FuncId → Bool) (G : Gl) (f : Operand) (args : Array Operand) (st : St) (Qp : D → Prop) (K : D → Prop) : Prop :=
  match sv G st f with
  | .fn g fs cs => bif F g then forceDL (fs ++ (args.toList.map (sv G st) ++ cs)) fun all =>
      ∃ as d dp, likeA (all.map (conv [] [] 4)) as ∧ CT P G g as (fun o => o = .pan dp) ∧ (isNil (idsL all) = true) ∧ Qp dp ∧ K d else False
  | _ => False
def vcP (P : Program) (F : FuncId → Bool) (G : Gl) (o : Op) (st : St) (Qp : D → Prop) (K : D → Prop) : Prop :=
  match o with
  | .call { callee := .value f, args, .. } => vcCallP P F G f args st Qp K
  | _ => False
theorem vcP_one {P : Program} {T : Tab} {F : FuncId → Bool} {G : Gl} {o : Op} {st : St} {Qp K : D → Prop} (h : vcP P F G o st Qp K) : ∃ d, K d ∧ ∀ h' : Heap, vcOp P T F G o ⟨st.env, h', st.df⟩ (fun _ _ => False) (fun dp _ => Qp dp) := by
  have svf : ∀ (h' : Heap), sv G ⟨st.env, h', st.df⟩ = sv G st := fun h' => funext (fun x => by cases x <;> rfl)
  unfold vcP at h
  split at h
  · rename_i f args ts
    unfold vcCallP at h
    split at h
    · rename_i g fs cs ef
      cases hg : F g with
      | false => rw [hg] at h; exact h.elim
      | true =>
        rw [hg] at h
        simp only [cond_true, forceDL_eq] at h
        obtain ⟨es, d, dp, h1, h2, h3, h4, h5⟩ := h
        refine ⟨d, h5, fun h' => ?_⟩
        simp only [vcOp, svf, ef, hg, cond_true, forceDL_eq]
        have hi : idsL (fs ++ (args.toList.map (sv G st) ++ cs)) = [] := by
          cases hi : idsL (fs ++ (args.toList.map (sv G st) ++ cs)) with
          | nil => rfl
          | cons x l => rw [hi] at h3; cases h3
        refine orS_l ⟨es, _, by rw [convL_ex (h := []) (h' := h') (fun i o hi => by simp at hi) (by rw [hi]; rfl)]; exact h1, h2, fun d' h'' hq => (by cases hq), fun d' hq => ?_⟩
        injection hq with e1
        subst e1
        exact h4
    · exact h.elim
  · exact h.elim
theorem vcP_quiet0 {P : Program} {F : FuncId → Bool} {G : Gl} {o : Op} {st : St} {Qp K : D → Prop} (h : vcP P F G o st Qp K) : active o = false := by
  unfold vcP at h
  split at h
  · rfl
  · exact h.elim
def isAt : Option Nat → Nat → Bool
  | some p, i => Nat.beq p i
  | none, _ => false
/-- Is the row that it makes handed on as it is? -/
def isFz : Option Nat → Nat → Bool
  | some p, i => Nat.beq p (1000 + i) || Nat.beq p (3000 + i) || Nat.beq p (3500 + i)
  | none, _ => false
/-- A new row that no one writes any more. -/
def frz (z : Bool) (n : Nat) (d : D) (h : Heap) (K : KD) : Prop := bif z then (match d with
  | .row i => match h[i]? with
    | some (.row xs _ sz) => bif Nat.beq i n then K (.g (.sl sz xs)) (kills h [i]) else False
    | _ => False
  | _ => False) else K d h
theorem frz_true {n : Nat} {d : D} {h : Heap} {K : KD} (hk : frz true n d h K) : ∃ xs e sz, d = .row n ∧ h[n]? = some (.row xs e sz) ∧ K (.g (.sl sz xs)) (kills h [n]) := by
  unfold frz at hk
  simp only [cond_true] at hk
  split at hk
  · rename_i i
    split at hk
    · rename_i xs e sz hi
      cases hb : Nat.beq i n with
      | false => rw [hb] at hk; exact hk.elim
      | true =>
        rw [hb] at hk
        have := Nat.eq_of_beq_eq_true hb
        subst this
        exact ⟨xs, e, sz, rfl, hi, hk⟩
    · exact hk.elim
  · exact hk.elim
theorem frz_of {n : Nat} {h : Heap} {K : KD} {xs : List (List GV)} {e : TypeId} {sz : Nat} (hi : h[n]? = some (.row xs e sz)) (hk : K (.g (.sl sz xs)) (kills h [n])) : frz true n (.row n) h K := by
  unfold frz
  simp only [cond_true, hi, Nat.beq_refl]
  exact hk
theorem frz_ex {h h1 : Heap} (hx : Ex h h1) : Ex h (kills h1 [h.length]) := fun i o hi => by
  have hl : i < h.length := (List.getElem?_eq_some_iff.1 hi).1
  simp only [kills]
  rw [List.getElem?_set_ne (by omega)]
  exact hx i o hi
/-- It stands behind one that panics. -/
def deadAt : List Nat → Nat → Bool
  | [], _ => false
  | p :: l, row => Nat.testBit row p || deadAt l row
theorem deadAt_ex : ∀ {l : List Nat} {row : Nat}, deadAt l row = true → ∃ p ∈ l, Nat.testBit row p = true
  | [], _, h => by cases h
  | p :: l, row, h => by
    simp only [deadAt, Bool.or_eq_true] at h
    rcases h with h | h
    · exact ⟨p, List.mem_cons_self, h⟩
    · obtain ⟨q, hq, hb⟩ := deadAt_ex h
      exact ⟨q, List.mem_cons_of_mem _ hq, hb⟩
def vcDrC [CA] (P : Program) (T : Tab) (F : FuncId → Bool) (G : Gl) (pp : Option Nat) (Qp : D → Prop) (all : Array Oper) (o : Oper) (vcr : List Oper → List Nat → List Heap → Env → List Deferred → List Nat → (St → Prop) → Prop)
    (pre : List Oper) (acc : List Nat) (hs : List Heap) (env : Env) (df : List Deferred) (pn : List Nat) (K : St → Prop) : Prop :=
  bif isFl o then (bif hasDst o.dst && dstU all o.dst && allocT T o.op then vcr (pre ++ [o]) (acc ++ [rowOf acc (edgesOf o)]) hs (setO env o.dst .any) df pn K else False)
  else bif CA.fl && isAl o.op then False else
    let run : Env → Prop := fun env =>
      bif actv o.op then vcA P T F G o.op ⟨env, nthD [] hs (cntA pre), df⟩ (fun d h => frz (isFz pp pre.length) (nthD [] hs (cntA pre)).length d h fun d h => liteOk (isLite pp && isBld o.op) (nthD [] hs (cntA pre)) h (forceD d fun d => forceH h fun h => vcr (pre ++ [o]) (acc ++ [rowOf acc (edgesOf o)]) (hs ++ [h]) (setO env o.dst d) df pn K))
      else bif deadAt pn (rowOf acc (edgesOf o)) then ∃ d, vcr (pre ++ [o]) (acc ++ [rowOf acc (edgesOf o)]) hs (setO env o.dst d) df pn K
      else bif isAt pp pre.length then vcP P F G o.op ⟨env, nthD [] hs (cntR (rowOf acc (edgesOf o)) pre), df⟩ Qp (fun d => forceD d fun d => vcr (pre ++ [o]) (acc ++ [rowOf acc (edgesOf o)]) hs (setO env o.dst d) df (pre.length :: pn) K)
      else bif qMk o.op then vcMk P T F G o.op ⟨env, [], df⟩ (fun d => forceD d fun d => vcr (pre ++ [o]) (acc ++ [rowOf acc (edgesOf o)]) hs (setO env o.dst d) df pn K)
      else vcQ P T F G o.op ⟨env, bif isFree pp then [] else nthD [] hs (cntR (rowOf acc (edgesOf o)) pre), df⟩ (fun d => forceD d fun d => vcr (pre ++ [o]) (acc ++ [rowOf acc (edgesOf o)]) hs (setO env o.dst d) df pn K)
    let skip : Env → Prop := fun env => vcr (pre ++ [o]) (acc ++ [rowOf acc (edgesOf o)]) (bif actv o.op then hs ++ [nthD [] hs (cntA pre)] else hs) (setO env o.dst (.tuple [])) df pn K
    match o.guard with
    | none => run env
    | some (j, b) => match (all[j]?).bind (·.dst) with
      | none => skip env
      | some s => match env s with
        | .g (.bool true) => bif b then run env else skip env
        | .g (.bool false) => bif b then skip env else run env
        | .tuple _ => skip env
        | .pb p => bif b then (p → run (env.set s (.g (.bool true)))) ∧ (¬p → skip (env.set s (.g (.bool false))))
          else (p → skip (env.set s (.g (.bool true)))) ∧ (¬p → run (env.set s (.g (.bool false))))
        | .pn p => bif b then (¬p → run (env.set s (.g (.bool true)))) ∧ (p → skip (env.set s (.g (.bool false))))
          else (¬p → skip (env.set s (.g (.bool true)))) ∧ (p → run (env.set s (.g (.bool false))))
        | _ => False
/-- What a region asks: told by the recursor itself, so that all who reduce it come to the same words. -/
def vcDr [CA] (P : Program) (T : Tab) (F : FuncId → Bool) (G : Gl) (pp : Option Nat) (Qp : D → Prop) (all : Array Oper) (l : List Oper) : List Oper → List Nat → List Heap → Env → List Deferred → List Nat → (St → Prop) → Prop :=
  List.rec (motive := fun _ => List Oper → List Nat → List Heap → Env → List Deferred → List Nat → (St → Prop) → Prop)
    (fun pre _ hs env df pn K => match pn with
      | [] => K ⟨env, nthD [] hs (cntA pre), df⟩
      | _ => True)
    (fun o _ vcr => vcDrC P T F G pp Qp all o vcr) l
theorem vcDr_nil [CA] {P : Program} {T : Tab} {F : FuncId → Bool} {G : Gl} {pp : Option Nat} {Qp : D → Prop} {all : Array Oper} {pre : List Oper} {acc : List Nat} {hs : List Heap} {env : Env} {df : List Deferred} {pn : List Nat} {K : St → Prop} :
    vcDr P T F G pp Qp all [] pre acc hs env df pn K = match pn with | [] => K ⟨env, nthD [] hs (cntA pre), df⟩ | _ => True := rfl
theorem vcDr_cons [CA] {P : Program} {T : Tab} {F : FuncId → Bool} {G : Gl} {pp : Option Nat} {Qp : D → Prop} {all : Array Oper} {o : Oper} {r pre : List Oper} {acc : List Nat} {hs : List Heap} {env : Env} {df : List Deferred} {pn : List Nat} {K : St → Prop} :
    vcDr P T F G pp Qp all (o :: r) pre acc hs env df pn K = vcDrC P T F G pp Qp all o (vcDr P T F G pp Qp all r) pre acc hs env df pn K := rfl

/-- What is known of one operation of the region. -/
structure Fact where
  d : D
  L : Env
  run : Bool
  pn : Bool
  dd : Bool

def TB (d : D) (b : Bool) : Prop := (∃ p, d = .pb p ∧ (b = true ↔ p)) ∨ (∃ p, d = .pn p ∧ (b = true ↔ ¬p))
def Ref (E L : Env) : Prop := ∀ s, L s = E s ∨ ∃ b, L s = .g (.bool b) ∧ TB (E s) b
theorem Ref.refl (E : Env) : Ref E E := fun _ => .inl rfl
theorem Ref.set {E L : Env} (h : Ref E L) (dst : Option Nat) (d : D) : Ref (setO E dst d) (setO L dst d) := by
  cases dst with
  | none => exact h
  | some i =>
    intro s
    simp only [setO, Env.set]
    cases Nat.beq s i with
    | true => exact .inl rfl
    | false => exact h s
theorem Ref.bool {E L : Env} (h : Ref E L) {s : Nat} {b : Bool} (ht : TB (L s) b) : Ref E (L.set s (.g (.bool b))) := by
  intro k
  simp only [Env.set]
  by_cases hk : k = s
  · subst hk
    rw [Nat.beq_refl]
    refine .inr ⟨b, rfl, ?_⟩
    rcases h k with e | ⟨c, e, _⟩
    · rw [← e]; exact ht
    · rw [e] at ht
      rcases ht with ⟨p, e, _⟩ | ⟨p, e, _⟩ <;> cases e
  · rw [beq_ne hk]
    exact h k
theorem Ref.rep {E L : Env} (h : Ref E L) {H : Heap} {β : Nat → Value} {V : Nat → Prop} {w : World} {s : Nat} {v : Value} (hr : RepD H β V w (E s) v) : RepD H β V w (L s) v := by
  rcases h s with e | ⟨b, e, ht⟩
  · rw [e]; exact hr
  · rw [e]
    rcases ht with ⟨p, e', hp⟩ | ⟨p, e', hp⟩
    · rw [e'] at hr
      simp only [RepD, RepV] at hr ⊢
      obtain ⟨c, hv, hc⟩ := hr
      have : c = b := by have := hc.trans hp.symm; cases b <;> cases c <;> simp_all
      rw [hv, this]
    · rw [e'] at hr
      simp only [RepD, RepV] at hr ⊢
      obtain ⟨c, hv, hc⟩ := hr
      have : c = b := by have := hc.trans hp.symm; cases b <;> cases c <;> simp_all
      rw [hv, this]

def GuardOk (all : Array Oper) (o : Oper) (f : Fact) : Prop := match o.guard with
  | none => f.run = true
  | some (j, b) => match (all[j]?).bind (·.dst) with
    | none => f.run = false
    | some s => (∃ c, f.L s = .g (.bool c) ∧ f.run = (c == b)) ∨ (∃ l, f.L s = .tuple l ∧ f.run = false)

structure FactAt [CA] (lt : Option Nat) (P : Program) (T : Tab) (F : FuncId → Bool) (G : Gl) (Qp : D → Prop) (all : Array Oper) (o : Oper) (f : Fact) (E : Env) (H : Nat → Heap) (na lo : Nat) (df : List Deferred) : Prop where
  ref : Ref E f.L
  guard : GuardOk all o f
  dead : f.dd = true → f.run = true ∧ actv o.op = false
  skip : f.run = false → f.d = .tuple [] ∧ (actv o.op = true → H (na + 1) = H na)
  act : f.run = true → actv o.op = true → (∃ z : Bool, ∀ K' : KD, K' f.d (H (na + 1)) → vcOp P T F G o.op ⟨f.L, H na, df⟩ (fun d h => frz z (H na).length d h K') (fun _ _ => False)) ∧ (mutat lt o.op = false → Ex (H na) (H (na + 1)))
  pan : f.pn = true → f.run = true ∧ actv o.op = false ∧ ∀ h' : Heap, vcOp P T F G o.op ⟨f.L, h', df⟩ (fun _ _ => False) (fun dp _ => Qp dp)
  quiet : isFl o = false → f.run = true → actv o.op = false → f.pn = false → f.dd = false → ∃ z : Bool, ∀ (h' : Heap) (K' : KD), (Ex (H lo) h' ∨ hpl lt o.op = true) → K' f.d h' → vcOp P T F G o.op ⟨f.L, h', df⟩ (fun d h => frq z h'.length d h K') (fun _ _ => False)
  flt : isFl o = true → f.d = .any ∧ f.run = true ∧ f.pn = false ∧ f.dd = false ∧ (hasDst o.dst && dstU all o.dst && allocT T o.op) = true

def foldE (E : Env) : List Oper → List Fact → Env
  | o :: r, f :: fs => foldE (setO E o.dst f.d) r fs
  | _, _ => E

theorem nthD_app {α : Type} {z : α} : ∀ {l m : List α} {i : Nat}, i < l.length → nthD z (l ++ m) i = nthD z l i
  | [], _, _, h => by simp at h
  | a :: l, m, 0, _ => rfl
  | a :: l, m, i + 1, h => by simp only [List.cons_append, nthD]; exact nthD_app (by simpa using h)
theorem nthD_last {α : Type} {z : α} : ∀ {l : List α} {a : α} {m : List α}, nthD z (l ++ a :: m) l.length = a
  | [], a, m => rfl
  | b :: l, a, m => by simp only [List.cons_append, List.length_cons, nthD]; exact nthD_last
theorem cntA_snoc [CA] : ∀ (pre : List Oper) (o : Oper), cntA (pre ++ [o]) = bif actv o.op then cntA pre + 1 else cntA pre
  | [], o => by simp [cntA]
  | p :: pre, o => by
    simp only [List.cons_append, cntA, cntA_snoc pre o]
    cases actv p.op <;> cases actv o.op <;> rfl
theorem cntA_take_le [CA] : ∀ (l : List Oper) (k : Nat), cntA (l.take k) ≤ cntA l
  | [], k => by simp
  | o :: l, 0 => by simp [cntA]
  | o :: l, k + 1 => by
    have := cntA_take_le l k
    simp only [List.take_succ_cons, cntA]
    cases actv o.op <;> simp <;> omega
theorem cntR_le [CA] (row : Nat) (l : List Oper) : cntR row l ≤ cntA l := cntA_take_le _ _
theorem lastP_of [CA] {p : Nat → Bool} : ∀ (l : List Oper) (j best k : Nat) (o : Oper), l[k]? = some o → actv o.op = true → p (j + k) = true → j + k < lastP p j l best
  | [], _, _, _, _, h, _, _ => by simp at h
  | o :: l, j, best, 0, o', h, ha, hp => by
    simp at h
    subst h
    have mono : ∀ (l : List Oper) (j b : Nat), b ≤ j → b ≤ lastP p j l b := by
      intro l
      induction l with
      | nil => intro j b _; exact Nat.le_refl _
      | cons o l ih =>
        intro j b hb
        simp only [lastP]
        cases actv o.op && p j with
        | true => simp only [cond_true]; exact Nat.le_trans (by omega) (ih (j + 1) (j + 1) (Nat.le_refl _))
        | false => simp only [cond_false]; exact ih (j + 1) b (by omega)
    simp only [lastP, ha, Bool.true_and]
    rw [Nat.add_zero] at hp ⊢
    rw [hp]
    simp only [cond_true]
    exact mono l (j + 1) (j + 1) (Nat.le_refl _)
  | o :: l, j, best, k + 1, o', h, ha, hp => by
    simp only [lastP]
    have := lastP_of l (j + 1) (bif actv o.op && p j then j + 1 else best) k o' (by simpa using h) ha (by rw [show j + 1 + k = j + (k + 1) from by omega]; exact hp)
    omega
theorem lastP_some [CA] {p : Nat → Bool} : ∀ (l : List Oper) (j best : Nat), lastP p j l best = best ∨ ∃ k o, l[k]? = some o ∧ actv o.op = true ∧ p (j + k) = true ∧ lastP p j l best = j + k + 1
  | [], _, _ => .inl rfl
  | o :: l, j, best => by
    simp only [lastP]
    rcases lastP_some l (j + 1) (bif actv o.op && p j then j + 1 else best) with h | ⟨k, o', h1, h2, h3, h4⟩
    · cases hc : actv o.op && p j with
      | true =>
        rw [hc] at h
        simp only [Bool.and_eq_true] at hc
        exact .inr ⟨0, o, rfl, hc.1, hc.2, by simpa using h⟩
      | false => rw [hc] at h; exact .inl h
    · exact .inr ⟨k + 1, o', by simpa using h1, h2, by rw [show j + (k + 1) = j + 1 + k from by omega]; exact h3, by rw [h4]; omega⟩
theorem lastP_congr [CA] {p q : Nat → Bool} : ∀ (l : List Oper) (j best : Nat), (∀ (k : Nat) (o : Oper), l[k]? = some o → actv o.op = true → p (j + k) = q (j + k)) → lastP p j l best = lastP q j l best
  | [], _, _, _ => rfl
  | o :: l, j, best, h => by
    simp only [lastP]
    have h0 : (actv o.op && p j) = (actv o.op && q j) := by
      cases ha : actv o.op with
      | false => rfl
      | true => have := h 0 o rfl ha; simpa using this
    rw [h0]
    exact lastP_congr l (j + 1) _ (fun k o' hk ha => by rw [show j + 1 + k = j + (k + 1) from by omega]; exact h (k + 1) o' (by simpa using hk) ha)

def accOf (l : List Oper) : List Nat := l.foldl (fun acc o => acc ++ [rowOf acc (edgesOf o)]) []
theorem accOf_snoc (l : List Oper) (o : Oper) : accOf (l ++ [o]) = accOf l ++ [rowOf (accOf l) (edgesOf o)] := by simp [accOf, List.foldl_append]

section
variable {P : Program} {T : Tab} {F : FuncId → Bool} {G : Gl} {all : Array Oper}

theorem vcDr_facts [CA] {pp : Option Nat} {Qp : D → Prop} : ∀ (r pre : List Oper) (hs : List Heap) (E env : Env) (df : List Deferred) (pn : List Nat) (K : St → Prop), vcDr P T F G pp Qp all r pre (accOf pre) hs env df pn K → Ref E env → hs.length = cntA pre + 1 →
    ∃ (fs : List Fact) (hs' : List Heap) (L : Env), fs.length = r.length ∧ Ref (foldE E r fs) L ∧ (pn = [] → (∀ f ∈ fs, f.pn = false) → K ⟨L, nthD [] (hs ++ hs') (cntA (pre ++ r)), df⟩) ∧
      ∀ (i : Nat) (o : Oper) (f : Fact), r[i]? = some o → fs[i]? = some f →
        FactAt pp P T F G Qp all o f (foldE E (r.take i) (fs.take i)) (nthD [] (hs ++ hs')) (cntA (pre ++ r.take i)) (cntR (rowOf (accOf (pre ++ r.take i)) (edgesOf o)) (pre ++ r.take i)) df ∧
        (f.dd = true → ∃ p, Nat.testBit (rowOf (accOf (pre ++ r.take i)) (edgesOf o)) p = true ∧ (p ∈ pn ∨ ∃ i' f', p = pre.length + i' ∧ fs[i']? = some f' ∧ f'.pn = true)) := by
  intro r
  induction r with
  | nil =>
    intro pre hs E env df pn K h hr hl
    refine ⟨[], [], env, rfl, hr, fun hp _ => by subst hp; simpa [vcDr_nil] using h, fun i o f hi => by simp at hi⟩
  | cons o r ih =>
    intro pre hs E env df pn K h hr hl
    let Goal : Prop := ∃ (fs : List Fact) (hs' : List Heap) (L : Env), fs.length = (o :: r).length ∧ Ref (foldE E (o :: r) fs) L ∧ (pn = [] → (∀ f ∈ fs, f.pn = false) → K ⟨L, nthD [] (hs ++ hs') (cntA (pre ++ o :: r)), df⟩) ∧
          ∀ (i : Nat) (o' : Oper) (f : Fact), (o :: r)[i]? = some o' → fs[i]? = some f →
            FactAt pp P T F G Qp all o' f (foldE E ((o :: r).take i) (fs.take i)) (nthD [] (hs ++ hs')) (cntA (pre ++ (o :: r).take i)) (cntR (rowOf (accOf (pre ++ (o :: r).take i)) (edgesOf o')) (pre ++ (o :: r).take i)) df ∧
            (f.dd = true → ∃ p, Nat.testBit (rowOf (accOf (pre ++ (o :: r).take i)) (edgesOf o')) p = true ∧ (p ∈ pn ∨ ∃ i' f', p = pre.length + i' ∧ fs[i']? = some f' ∧ f'.pn = true))
    show Goal
    have build : ∀ (d : D) (L : Env) (b fp fd : Bool) (pn' : List Nat) (hsn : List Heap), (pn = [] → fp = false → pn' = []) → (∀ p ∈ pn', p ∈ pn ∨ (p = pre.length ∧ fp = true)) → (fd = true → ∃ p ∈ pn, Nat.testBit (rowOf (accOf pre) (edgesOf o)) p = true) → Ref E L → vcDr P T F G pp Qp all r (pre ++ [o]) (accOf pre ++ [rowOf (accOf pre) (edgesOf o)]) (hs ++ hsn) (setO L o.dst d) df pn' K → (hs ++ hsn).length = cntA (pre ++ [o]) + 1 →
        (∀ H : Nat → Heap, (∀ k, k < (hs ++ hsn).length → H k = nthD [] (hs ++ hsn) k) → FactAt pp P T F G Qp all o ⟨d, L, b, fp, fd⟩ E H (cntA pre) (cntR (rowOf (accOf pre) (edgesOf o)) pre) df) →
        Goal := by
      intro d L b fp fd pn' hsn hpn hpm hfd hrL hv hlen hf
      rw [← accOf_snoc] at hv
      obtain ⟨fs, hs', L', h1, h2, h3, h4⟩ := ih (pre ++ [o]) (hs ++ hsn) (setO E o.dst d) _ df pn' K hv (hrL.set o.dst d) hlen
      refine ⟨⟨d, L, b, fp, fd⟩ :: fs, hsn ++ hs', L', by simp [h1], h2, fun hp hall => by simpa [List.append_assoc] using h3 (hpn hp (hall _ List.mem_cons_self)) (fun f hf => hall f (List.mem_cons_of_mem _ hf)), fun i o' f ho hfi => ?_⟩
      cases i with
      | zero =>
        simp at ho hfi
        subst ho
        subst hfi
        have := hf (nthD [] (hs ++ (hsn ++ hs'))) (fun k hk => by rw [← List.append_assoc]; exact nthD_app hk)
        refine ⟨by simpa [foldE] using this, fun hdd => ?_⟩
        obtain ⟨p, hp, hb⟩ := hfd hdd
        exact ⟨p, by simpa using hb, .inl hp⟩
      | succ i =>
        obtain ⟨this, hdd⟩ := h4 i o' f (by simpa using ho) (by simpa using hfi)
        refine ⟨by simpa [foldE, List.append_assoc] using this, fun hd => ?_⟩
        obtain ⟨p, hb, hp⟩ := hdd hd
        refine ⟨p, by simpa [List.append_assoc] using hb, ?_⟩
        rcases hp with hp | ⟨i', f', hp, hf', hpf⟩
        · rcases hpm p hp with hp | ⟨hp, hfp⟩
          · exact .inl hp
          · exact .inr ⟨0, _, by simpa using hp, rfl, hfp⟩
        · exact .inr ⟨i' + 1, f', by rw [hp]; simp; omega, by simpa using hf', hpf⟩
    cases hfl : isFl o with
    | true =>
      obtain ⟨hact, hgd, _⟩ := isFl_na hfl
      simp only [vcDr_cons, vcDrC, hfl, cond_true] at h
      cases hd : hasDst o.dst && dstU all o.dst && allocT T o.op with
      | false => rw [hd] at h; exact h.elim
      | true =>
        rw [hd] at h
        simp only [cond_true] at h
        refine build .any env true false false pn [] (fun h _ => h) (fun p hp => .inl hp) (fun h => by cases h) hr (by simpa using h) (by simp [cntA_snoc, hact, hl]) (fun H hH => ?_)
        exact ⟨hr, (by unfold GuardOk; rw [hgd]), fun hf => (by cases hf), fun hf => (by cases hf), fun _ hq => (by rw [hact] at hq; cases hq), fun hf => (by cases hf), fun hq => (by rw [hfl] at hq; cases hq), fun _ => ⟨rfl, rfl, rfl, rfl, hd⟩⟩
    | false =>
    cases hal : (CA.fl && isAl o.op) with
    | true => simp only [vcDr_cons, vcDrC, hfl, hal, cond_true, cond_false] at h
    | false =>
    have run : ∀ L : Env, Ref E L → GuardOk all o ⟨.any, L, true, false, false⟩ →
        (bif actv o.op then vcA P T F G o.op ⟨L, nthD [] hs (cntA pre), df⟩ (fun d h => frz (isFz pp pre.length) (nthD [] hs (cntA pre)).length d h fun d h => liteOk (isLite pp && isBld o.op) (nthD [] hs (cntA pre)) h (forceD d fun d => forceH h fun h => vcDr P T F G pp Qp all r (pre ++ [o]) (accOf pre ++ [rowOf (accOf pre) (edgesOf o)]) (hs ++ [h]) (setO L o.dst d) df pn K))
          else bif deadAt pn (rowOf (accOf pre) (edgesOf o)) then ∃ d, vcDr P T F G pp Qp all r (pre ++ [o]) (accOf pre ++ [rowOf (accOf pre) (edgesOf o)]) hs (setO L o.dst d) df pn K
          else bif isAt pp pre.length then vcP P F G o.op ⟨L, nthD [] hs (cntR (rowOf (accOf pre) (edgesOf o)) pre), df⟩ Qp (fun d => forceD d fun d => vcDr P T F G pp Qp all r (pre ++ [o]) (accOf pre ++ [rowOf (accOf pre) (edgesOf o)]) hs (setO L o.dst d) df (pre.length :: pn) K)
          else bif qMk o.op then vcMk P T F G o.op ⟨L, [], df⟩ (fun d => forceD d fun d => vcDr P T F G pp Qp all r (pre ++ [o]) (accOf pre ++ [rowOf (accOf pre) (edgesOf o)]) hs (setO L o.dst d) df pn K)
          else vcQ P T F G o.op ⟨L, bif isFree pp then [] else nthD [] hs (cntR (rowOf (accOf pre) (edgesOf o)) pre), df⟩ (fun d => forceD d fun d => vcDr P T F G pp Qp all r (pre ++ [o]) (accOf pre ++ [rowOf (accOf pre) (edgesOf o)]) hs (setO L o.dst d) df pn K)) → Goal := by
      intro L hrL hg hrun
      have hlo : cntR (rowOf (accOf pre) (edgesOf o)) pre < hs.length := by have := cntR_le (rowOf (accOf pre) (edgesOf o)) pre; omega
      cases hact : actv o.op with
      | true =>
        rw [hact] at hrun
        simp only [cond_true, forceD_eq, forceH_eq] at hrun
        have hone : ∃ z d h1, vcDr P T F G pp Qp all r (pre ++ [o]) (accOf pre ++ [rowOf (accOf pre) (edgesOf o)]) (hs ++ [h1]) (setO L o.dst d) df pn K ∧ (∀ K' : KD, K' d h1 → vcOp P T F G o.op ⟨L, nthD [] hs (cntA pre), df⟩ (fun d h => frz z (nthD [] hs (cntA pre)).length d h K') (fun _ _ => False)) ∧ (mutat pp o.op = false → Ex (nthD [] hs (cntA pre)) h1) := by
          obtain ⟨d, h1, hk, hop, hex⟩ := act_one hact hrun
          have lite : ∀ {h1 : Heap} {X : Prop}, liteOk (isLite pp && isBld o.op) (nthD [] hs (cntA pre)) h1 X → (mutating o.op = false → Ex (nthD [] hs (cntA pre)) h1) → mutat pp o.op = false → Ex (nthD [] hs (cntA pre)) h1 := fun {h1 X} hx hm hmu => by
            cases hl : isLite pp && isBld o.op with
            | true =>
              rw [hl] at hx
              obtain ⟨⟨k, rfl⟩, _⟩ := hx
              exact Ex.app _ _
            | false => exact hm (by simpa [mutat, hl] using hmu)
          cases hz : isFz pp pre.length with
          | false => rw [hz] at hk; exact ⟨false, d, h1, liteOk_X hk, fun K' hk' => hop _ hk', lite hk hex⟩
          | true =>
            rw [hz] at hk
            obtain ⟨xs, e, sz, rfl, hi, hk⟩ := frz_true hk
            exact ⟨true, _, _, liteOk_X hk, fun K' hk' => hop _ (frz_of hi hk'), lite hk (fun hm => frz_ex (hex hm))⟩
        obtain ⟨z, d, h1, hk, hop, hex⟩ := hone
        refine build d L true false false pn [h1] (fun h _ => h) (fun p hp => .inl hp) (fun h => by cases h) hrL hk (by simp [cntA_snoc, hact, hl]) (fun H hH => ?_)
        have e0 : H (cntA pre) = nthD [] hs (cntA pre) := by rw [hH _ (by simp; omega)]; exact nthD_app (by omega)
        have e1 : H (cntA pre + 1) = h1 := by rw [hH _ (by simp; omega), ← hl]; exact nthD_last
        refine ⟨hrL, hg, fun hf => (by cases hf), fun hf => (by cases hf), fun _ _ => ⟨⟨z, fun K' hk' => ?_⟩, fun hm => ?_⟩, fun hf => (by cases hf), fun _ _ hq => (by rw [hact] at hq; cases hq), fun hq => (by rw [hfl] at hq; cases hq)⟩
        · rw [e0]; exact hop K' (by rw [← e1]; exact hk')
        · rw [e0, e1]; exact hex hm
      | false =>
        rw [hact] at hrun
        simp only [cond_false, forceD_eq] at hrun
        cases hdd : deadAt pn (rowOf (accOf pre) (edgesOf o)) with
        | true =>
          rw [hdd] at hrun
          simp only [cond_true] at hrun
          obtain ⟨d, hk⟩ := hrun
          refine build d L true false true pn [] (fun h _ => h) (fun p hp => .inl hp) (fun _ => deadAt_ex hdd) hrL (by simpa using hk) (by simp [cntA_snoc, hact, hl]) (fun H hH => ?_)
          exact ⟨hrL, hg, fun _ => ⟨rfl, hact⟩, fun hf => (by cases hf), fun _ hq => (by rw [hact] at hq; cases hq), fun hf => (by cases hf), fun _ _ _ _ hq => (by cases hq), fun hq => (by rw [hfl] at hq; cases hq)⟩
        | false =>
        rw [hdd] at hrun
        simp only [cond_false] at hrun
        cases hpp : isAt pp pre.length with
        | true =>
          rw [hpp] at hrun
          simp only [cond_true] at hrun
          obtain ⟨d, hk, hop⟩ := vcP_one (T := T) hrun
          refine build d L true true false (pre.length :: pn) [] (fun _ h => by cases h) (fun p hp => by rcases List.mem_cons.1 hp with rfl | hp; exact .inr ⟨rfl, rfl⟩; exact .inl hp) (fun h => by cases h) hrL (by simpa using hk) (by simp [cntA_snoc, hact, hl]) (fun H hH => ?_)
          exact ⟨hrL, hg, fun hf => (by cases hf), fun hf => (by cases hf), fun _ hq => (by rw [hact] at hq; cases hq), fun _ => ⟨rfl, hact, hop⟩, fun _ _ _ hq => (by cases hq), fun hq => (by rw [hfl] at hq; cases hq)⟩
        | false =>
        rw [hpp] at hrun
        simp only [cond_false] at hrun
        have key : ∃ d, vcDr P T F G pp Qp all r (pre ++ [o]) (accOf pre ++ [rowOf (accOf pre) (edgesOf o)]) hs (setO L o.dst d) df pn K ∧ ∃ z : Bool, ∀ (h' : Heap) (K' : KD), (Ex (nthD [] hs (cntR (rowOf (accOf pre) (edgesOf o)) pre)) h' ∨ hpl pp o.op = true) → K' d h' → vcOp P T F G o.op ⟨L, h', df⟩ (fun d h => frq z h'.length d h K') (fun _ _ => False) := by
          cases hqm : qMk o.op with
          | true =>
            rw [hqm] at hrun
            simp only [cond_true] at hrun
            obtain ⟨d, hk, hop⟩ := vcMk_one hqm hrun
            exact ⟨d, hk, true, fun h' K' _ hk' => hop h' K' hk'⟩
          | false =>
          rw [hqm] at hrun
          simp only [cond_false] at hrun
          cases hhl : heapless o.op with
          | true =>
            obtain ⟨d, hk, hop⟩ := vcQ_any hhl hrun
            exact ⟨d, hk, false, fun h' K' _ hk' => hop h' K' hk'⟩
          | false =>
            obtain ⟨d, hk, hop⟩ := vcQ_one (act_false hact hal hqm) hrun
            refine ⟨d, hk, false, fun h' K' hx hk' => hop h' K' ?_ hk'⟩
            cases hfr : isFree pp with
            | true => exact fun i o hi => (by simp at hi)
            | false =>
              rcases hx with hx | hx
              · exact hx
              · simp [hpl, hhl, hfr] at hx
        obtain ⟨d, hk, z, hop⟩ := key
        refine build d L true false false pn [] (fun h _ => h) (fun p hp => .inl hp) (fun h => by cases h) hrL (by simpa using hk) (by simp [cntA_snoc, hact, hl]) (fun H hH => ?_)
        have e0 : H (cntR (rowOf (accOf pre) (edgesOf o)) pre) = nthD [] hs (cntR (rowOf (accOf pre) (edgesOf o)) pre) := by rw [hH _ (by simpa using hlo)]; simp
        exact ⟨hrL, hg, fun hf => (by cases hf), fun hf => (by cases hf), fun _ hq => (by rw [hact] at hq; cases hq), fun hf => (by cases hf), fun _ _ _ _ _ => ⟨z, fun h' K' hx hk' => hop h' K' (by rw [← e0]; exact hx) hk'⟩, fun hq => (by rw [hfl] at hq; cases hq)⟩
    have skip : ∀ L : Env, Ref E L → GuardOk all o ⟨.any, L, false, false, false⟩ →
        vcDr P T F G pp Qp all r (pre ++ [o]) (accOf pre ++ [rowOf (accOf pre) (edgesOf o)]) (bif actv o.op then hs ++ [nthD [] hs (cntA pre)] else hs) (setO L o.dst (.tuple [])) df pn K → Goal := by
      intro L hrL hg hsk
      cases hact : actv o.op with
      | true =>
        rw [hact] at hsk
        refine build (.tuple []) L false false false pn [nthD [] hs (cntA pre)] (fun h _ => h) (fun p hp => .inl hp) (fun h => by cases h) hrL hsk (by simp [cntA_snoc, hact, hl]) (fun H hH => ?_)
        have e0 : H (cntA pre) = nthD [] hs (cntA pre) := by rw [hH _ (by simp; omega)]; exact nthD_app (by omega)
        have e1 : H (cntA pre + 1) = nthD [] hs (cntA pre) := by rw [hH _ (by simp; omega), ← hl]; exact nthD_last
        exact ⟨hrL, hg, fun hf => (by cases hf), fun _ => ⟨rfl, fun _ => by rw [e0, e1]⟩, fun hf => (by cases hf), fun hf => (by cases hf), fun _ hf => (by cases hf), fun hq => (by rw [hfl] at hq; cases hq)⟩
      | false =>
        rw [hact] at hsk
        refine build (.tuple []) L false false false pn [] (fun h _ => h) (fun p hp => .inl hp) (fun h => by cases h) hrL (by simpa using hsk) (by simp [cntA_snoc, hact, hl]) (fun H hH => ?_)
        exact ⟨hrL, hg, fun hf => (by cases hf), fun _ => ⟨rfl, fun hq => (by rw [hact] at hq; cases hq)⟩, fun hf => (by cases hf), fun hf => (by cases hf), fun _ hf => (by cases hf), fun hq => (by rw [hfl] at hq; cases hq)⟩
    simp only [vcDr_cons, vcDrC, hfl, hal, cond_false] at h
    cases hgd : o.guard with
    | none =>
      rw [hgd] at h
      exact run env hr (by simp [GuardOk, hgd]) h
    | some g =>
      obtain ⟨j, b⟩ := g
      rw [hgd] at h
      simp only at h
      cases hs0 : (all[j]?).bind (·.dst) with
      | none =>
        rw [hs0] at h
        exact skip env hr (by simp [GuardOk, hgd, hs0]) h
      | some s =>
        rw [hs0] at h
        simp only at h
        have gd : ∀ (L : Env) (c rb : Bool), L s = .g (.bool c) → rb = (c == b) → GuardOk all o ⟨.any, L, rb, false, false⟩ := fun L c rb e1 e2 => by
          simp only [GuardOk, hgd, hs0]
          exact .inl ⟨c, e1, e2⟩
        have ss : ∀ c : Bool, (env.set s (.g (.bool c))) s = .g (.bool c) := fun c => by simp [Env.set]
        split at h
        · rename_i e
          cases b with
          | true => exact run env hr (gd env true true e rfl) h
          | false => exact skip env hr (gd env true false e rfl) h
        · rename_i e
          cases b with
          | true => exact skip env hr (gd env false false e rfl) h
          | false => exact run env hr (gd env false true e rfl) h
        · rename_i l e
          exact skip env hr (by simp only [GuardOk, hgd, hs0]; exact .inr ⟨l, e, trivial⟩) h
        · rename_i p e
          by_cases hp : p
          · have hrb : Ref E (env.set s (.g (.bool true))) := hr.bool (.inl ⟨p, e, by simp [hp]⟩)
            cases b with
            | true => exact run _ hrb (gd _ true true (ss true) rfl) (h.1 hp)
            | false => exact skip _ hrb (gd _ true false (ss true) rfl) (h.1 hp)
          · have hrb : Ref E (env.set s (.g (.bool false))) := hr.bool (.inl ⟨p, e, by simp [hp]⟩)
            cases b with
            | true => exact skip _ hrb (gd _ false false (ss false) rfl) (h.2 hp)
            | false => exact run _ hrb (gd _ false true (ss false) rfl) (h.2 hp)
        · rename_i p e
          by_cases hp : p
          · have hrb : Ref E (env.set s (.g (.bool false))) := hr.bool (.inr ⟨p, e, by simp [hp]⟩)
            cases b with
            | true => exact skip _ hrb (gd _ false false (ss false) rfl) (h.2 hp)
            | false => exact run _ hrb (gd _ false true (ss false) rfl) (h.2 hp)
          · have hrb : Ref E (env.set s (.g (.bool true))) := hr.bool (.inr ⟨p, e, by simp [hp]⟩)
            cases b with
            | true => exact run _ hrb (gd _ true true (ss true) rfl) (h.1 hp)
            | false => exact skip _ hrb (gd _ true false (ss true) rfl) (h.1 hp)
        · exact h.elim

/-- What the slots hold when these operations are done. -/
def eXr (X : Nat → Bool) : Nat → Env → List Oper → List Fact → Env
  | i, E, o :: r, f :: fs => eXr X (i + 1) (bif X i then setO E o.dst f.d else E) r fs
  | _, E, _, _ => E
theorem setO_ne {E : Env} {dst : Option Nat} {d : D} {s : Nat} (h : dst ≠ some s) : setO E dst d s = E s := by
  cases dst with
  | none => rfl
  | some i =>
    simp only [setO, Env.set]
    rw [beq_ne (fun e => h (by rw [e]))]
    rfl
theorem setO_eq {E : Env} {d : D} {s : Nat} : setO E (some s) d s = d := by simp [setO, Env.set]
theorem eXr_congr {X Y : Nat → Bool} {s : Nat} : ∀ (r : List Oper) (fs : List Fact) (i : Nat) (E E' : Env), (∀ (k : Nat) (o : Oper), r[k]? = some o → o.dst = some s → X (i + k) = Y (i + k)) → E s = E' s → eXr X i E r fs s = eXr Y i E' r fs s
  | [], fs, i, E, E', _, he => by simp only [eXr]; exact he
  | o :: r, [], i, E, E', _, he => by simp only [eXr]; exact he
  | o :: r, f :: fs, i, E, E', h, he => by
    simp only [eXr]
    refine eXr_congr r fs (i + 1) _ _ (fun k o' hk hd => by rw [show i + 1 + k = i + (k + 1) from by omega]; exact h (k + 1) o' (by simpa using hk) hd) ?_
    by_cases hd : o.dst = some s
    · have := h 0 o rfl hd
      rw [Nat.add_zero] at this
      rw [this]
      cases Y i with
      | true => simp only [cond_true]; rw [hd, setO_eq, setO_eq]
      | false => exact he
    · have e1 : ∀ (b : Bool) (E : Env), (bif b then setO E o.dst f.d else E) s = E s := fun b E => by cases b with | true => exact setO_ne hd | false => rfl
      rw [e1, e1]
      exact he
theorem eXr_at {X : Nat → Bool} {s : Nat} : ∀ (r : List Oper) (fs : List Fact) (i : Nat) (E : Env) (k : Nat) (o : Oper) (f : Fact), r[k]? = some o → fs[k]? = some f → o.dst = some s → X (i + k) = true → (∀ (m : Nat) (o' : Oper), k < m → r[m]? = some o' → o'.dst = some s → X (i + m) = false) → eXr X i E r fs s = f.d
  | [], fs, i, E, k, o, f, h, _, _, _, _ => by simp at h
  | o :: r, [], i, E, k, o', f, _, h, _, _, _ => by simp at h
  | o :: r, f :: fs, i, E, 0, o', f', h, hf, hd, hX, hn => by
    simp at h hf
    subst h
    subst hf
    rw [Nat.add_zero] at hX
    simp only [eXr, hX, cond_true]
    rw [eXr_congr (Y := fun _ => false) r fs (i + 1) _ (setO E o.dst f.d) (fun m o' hm hd' => by rw [show i + 1 + m = i + (m + 1) from by omega]; exact hn (m + 1) o' (by omega) (by simpa using hm) hd') rfl]
    have key : ∀ (r : List Oper) (fs : List Fact) (i : Nat) (E : Env), eXr (fun _ => false) i E r fs = E := by
      intro r
      induction r with
      | nil => intro fs i E; rfl
      | cons o r ih =>
        intro fs i E
        cases fs with
        | nil => rfl
        | cons f fs => simp only [eXr, cond_false]; exact ih fs (i + 1) E
    rw [key, hd, setO_eq]
  | o :: r, f :: fs, i, E, k + 1, o', f', h, hf, hd, hX, hn => by
    simp only [eXr]
    exact eXr_at r fs (i + 1) _ k o' f' (by simpa using h) (by simpa using hf) hd (by rw [show i + 1 + k = i + (k + 1) from by omega]; exact hX) (fun m o'' hm h2 hd' => by rw [show i + 1 + m = i + (m + 1) from by omega]; exact hn (m + 1) o'' (by omega) (by simpa using h2) hd')
theorem foldE_eX : ∀ (r : List Oper) (fs : List Fact) (i j : Nat) (E : Env), fs.length = r.length → foldE E (r.take i) (fs.take i) = eXr (fun k => decide (k < j + i)) j E r fs
  | [], fs, i, j, E, _ => by simp [foldE, eXr]
  | o :: r, [], i, j, E, h => by simp at h
  | o :: r, f :: fs, 0, j, E, h => by
    have key : ∀ (r : List Oper) (fs : List Fact) (i : Nat) (E : Env), j ≤ i → eXr (fun k => decide (k < j + 0)) i E r fs = E := by
      intro r
      induction r with
      | nil => intro fs i E _; rfl
      | cons o r ih =>
        intro fs i E hi
        cases fs with
        | nil => rfl
        | cons f fs => simp only [eXr]; rw [show decide (i < j + 0) = false from by simp; omega]; exact ih fs (i + 1) E (by omega)
    rw [key _ _ _ _ (Nat.le_refl _)]
    simp [foldE]
  | o :: r, f :: fs, i + 1, j, E, h => by
    simp only [List.take_succ_cons, foldE, eXr]
    rw [show decide (j < j + (i + 1)) = true from decide_eq_true (by omega), foldE_eX r fs i (j + 1) _ (by simpa using h)]
    simp only [cond_true]
    rw [show j + 1 + i = j + (i + 1) from by omega]
end
end Go.Dm
