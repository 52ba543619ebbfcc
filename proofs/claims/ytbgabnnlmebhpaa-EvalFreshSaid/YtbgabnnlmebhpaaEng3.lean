/-
  The engine, third part: what each operation's run gives, out of what the clauses ask. It holds of every program.
-/
import Derived.Test.YtbgabnnlmebhpaaEng2
import Derived.Maps.AppendAt
import Derived.Laws.MakeOwn
namespace Go.Eng
open Go.RowKit

section
variable {C : Ctx} {hp : List LB} {rows : List Row} {A : Anch} {w w' : World}

theorem add_mk (b o j : Nat) : (⟨b, o, none⟩ : Addr).add j = ⟨b, o + j, none⟩ := by unfold Addr.add; split <;> simp_all
theorem add_block (a : Addr) (j : Nat) : (a.add j).block = a.block := by unfold Addr.add; split <;> rfl

theorem LdAny.cells (h : RelW C hp rows A w) {k : Nat} {a : Addr} {vs : List Value} (hl : LdAny hp rows A k (.pointer (some a)) vs) : vs.length = k ∧ ∀ j v, vs[j]? = some v → w.cell? (a.add j) = some v := by
  rcases hl with hl | hl | hl
  · obtain ⟨b, hb, hc, hv⟩ := hl.ex
    injection hb with hb
    injection hb with hb
    subst hb
    refine ⟨hl.len, fun j v hj => ?_⟩
    rw [World.cell?_of_block (w := A.w) (w' := w) (a := a.add j) (by rw [add_block]; exact h.agree _ hv)]
    exact hc j v hj
  · obtain ⟨i, r, g, o, hi, hg, hb, hc⟩ := hl.ex
    injection hb with hb
    injection hb with hb
    subst hb
    refine ⟨hl.len, fun j v hj => ?_⟩
    have := (h.row i r hi).cells hg (o + j) v (hc j v hj)
    rw [add_mk] at this ⊢
    simpa using this
  · obtain ⟨i, x, o, hi, hb, hc⟩ := hl.ex
    injection hb with hb
    injection hb with hb
    subst hb
    refine ⟨hl.len, fun j v hj => ?_⟩
    rw [add_mk, cell_of_row w _ _ _ _ _ (h.blk i x hi)]
    simpa using hc j v hj

theorem run_loadVar_one {P : Program} {t : TypeId} {i : TI} (hi : InfoOk P t i) (hagg : i.agg = false) {a : Addr} {v : Value} (hc : w.cell? a = some v) : (loadVar t a).run P w = .ok v w := by
  obtain ⟨d, hd, _, hda⟩ := hi.d
  rw [hagg] at hda
  have : (isAgg t).run P w = .ok false w := by
    cases d <;> simp_all [isAgg, run_underlying hd, isAggD]
  simp [loadVar, this, hc]

theorem run_loadVar_agg {P : Program} {t : TypeId} {i : TI} (hi : InfoOk P t i) (hagg : i.agg = true) {a : Addr} {vs : List Value} (hl : vs.length = i.size) (hc : ∀ j v, vs[j]? = some v → w.cell? (a.add j) = some v) :
    (loadVar t a).run P w = .ok (.agg vs.toArray) w := by
  obtain ⟨d, hd, _, hda⟩ := hi.d
  obtain ⟨inf, z, hinf, hsz, _⟩ := hi.inf
  rw [hagg] at hda
  have h1 : (isAgg t).run P w = .ok true w := by
    cases d <;> simp_all [isAgg, run_underlying hd, isAggD]
  have h2 : (sizeOf t).run P w = .ok vs.length w := by simp [sizeOf, typeInfo, hinf, hsz, hl]
  simp [loadVar, h1, h2, run_loadCells_list (P := P) w a vs hc]

theorem length_setAt (vs : List Value) : ∀ (l : List Value) (o : Nat), (setAt l o vs).length = l.length := by
  induction vs with
  | nil => intro l o; rfl
  | cons v vs ih => intro l o; simp [setAt, ih]

theorem setAt_eq (vs : List Value) : ∀ (l : List Value) (o : Nat), o + vs.length ≤ l.length → setAt l o vs = l.take o ++ vs ++ l.drop (o + vs.length) := by
  induction vs with
  | nil => intro l o h; simp [setAt]
  | cons v vs ih =>
    intro l o h
    simp only [List.length_cons] at h
    rw [setAt, ih (l.set o v) (o + 1) (by simp; omega)]
    have h1 : (l.set o v).take (o + 1) = l.take o ++ [v] := by
      rw [List.take_succ_eq_append_getElem (by simp; omega)]
      simp [List.take_set_of_le]
    have h2 : (l.set o v).drop (o + 1 + vs.length) = l.drop (o + (vs.length + 1)) := by
      rw [List.drop_set_of_lt (by omega), show o + 1 + vs.length = o + (vs.length + 1) from by omega]
    rw [h1, h2]
    simp [List.append_assoc, List.length_cons]

theorem take_setAt (vs : List Value) (l : List Value) (m o : Nat) (hm : m ≤ l.length) (ho : o + vs.length ≤ m) : (l.take o ++ vs ++ l.drop (o + vs.length)).take m = setAt (l.take m) o vs := by
  rw [setAt_eq _ _ _ (by rw [List.length_take]; omega)]
  rw [List.take_append, List.take_append, List.take_take, Nat.min_eq_right (by omega)]
  have e1 : (l.take o).length = o := by rw [List.length_take]; omega
  have e2 : vs.take (m - o) = vs := List.take_of_length_le (by omega)
  rw [e1, e2, List.take_take, Nat.min_eq_left (by omega), List.length_append, e1, List.drop_take]

theorem flat_mem : ∀ {l : List Value}, flat l = true → ∀ v ∈ l, v.oneCell' = true := by
  intro l
  induction l with
  | nil => intro _ v hv; simp at hv
  | cons a l ih =>
    intro h v hv
    simp only [flat, Bool.and_eq_true] at h
    rcases List.mem_cons.1 hv with rfl | hv
    · exact h.1
    · exact ih h.2 v hv

theorem run_storeVar_at {P : Program} {t : TypeId} {i : TI} (hi : InfoOk P t i) {y : Value} (hl : (cellsL y).length = i.size) (hf : flat (cellsL y) = true) {g o : Nat} {cur : Array Value} {t' : TypeId}
    (hg : w.heap[g]? = some (.cells cur t' (0, 0))) (hfit : o + (cellsL y).length ≤ cur.size) :
    (storeVar t ⟨g, o, none⟩ y).run P w = .ok () (w.setRow g (cur.toList.take o ++ cellsL y ++ cur.toList.drop (o + (cellsL y).length)).toArray) := by
  obtain ⟨inf, z, hinf, hsz, _⟩ := hi.inf
  have hs : y.cells.size = inf.size := by rw [cellsL_eq] at hl; simpa [hsz] using hl
  have := run_storeCells_at (P := P) g o t' (cellsL y) 0 cur w hg (by simpa using hfit) (flat_mem hf)
  rw [cellsL_eq] at this
  simp only [Nat.add_zero] at this
  rw [cellsL_eq]
  simp [storeVar, sizeOf, typeInfo, hinf, hs, this]

theorem run_fieldAt {P : Program} {T : Tab} (hT : TabOk P T) {s f off sz : Nat} {i : TI} {fs : List (Nat × Nat)} (hs : T s = some i) (hk : i.kind = .struct fs) (hf : fs[f]? = some (off, sz)) (a : Addr) (w : World) :
    (Instr.fieldAt s (.pointer (some a)) f).run P w = .ok (.pointer (some (a.add off))) w := by
  obtain ⟨d, hd, hdk, _⟩ := (hT s i hs).d
  rw [hk] at hdk
  obtain ⟨fields, rfl, _, hfs⟩ := hdk
  obtain ⟨fd, inf, hfd, rfl, hinf, rfl, hne⟩ := hfs f off sz hf
  simp [Instr.fieldAt, run_underlying hd, hfd, Instr.sureAddr, fieldPlace, sizeOf, typeInfo, hinf, hne]

theorem run_indexAt_sl {P : Program} {T : Tab} (hT : TabOk P T) {t e : TypeId} {i ei : TI} (hs : T t = some i) (hk : i.kind = .slice e) (he : T e = some ei) (b : Addr) (n c j : Nat) (hj : j < n) (w : World) :
    (Instr.indexAt t (.slice (some b) n c) (.int .i64 (j : Int))).run P w = .ok (.pointer (some (b.add (j * ei.size)))) w := by
  obtain ⟨d, hd, hdk, _⟩ := (hT t i hs).d
  rw [hk] at hdk
  have hdk : d = .slice e := hdk
  subst hdk
  obtain ⟨inf, z, hinf, hsz, _⟩ := (hT e ei he).inf
  have h1 : (0 : Int) ≤ (j : Int) ∧ (j : Int) < (n : Int) := by omega
  simp [Instr.indexAt, run_underlying hd, asIntOf, sizeOf, typeInfo, hinf, hsz, hj]

theorem run_indexAt_arr {P : Program} {T : Tab} (hT : TabOk P T) {t e : TypeId} {i ei : TI} {n : Nat} (hs : T t = some i) (hk : i.kind = .array n e) (he : T e = some ei) (b : Addr) (j : Nat) (hj : j < n) (w : World) :
    (Instr.indexAt t (.pointer (some b)) (.int .i64 (j : Int))).run P w = .ok (.pointer (some (b.add (j * ei.size)))) w := by
  obtain ⟨d, hd, hdk, _⟩ := (hT t i hs).d
  rw [hk] at hdk
  have hdk : d = .array n e := hdk
  subst hdk
  obtain ⟨inf, z, hinf, hsz, _⟩ := (hT e ei he).inf
  simp [Instr.indexAt, run_underlying hd, asIntOf, Instr.sureAddr, sizeOf, typeInfo, hinf, hsz, hj]

theorem run_len_sl {P : Program} {T : Tab} (hT : TabOk P T) {t e : TypeId} {i : TI} (hs : T t = some i) (hk : i.kind = .slice e) (a : Option Addr) (n c : Nat) (ty : TypeId) (w : World) :
    (Builtin.len_ #[t] ty #[.slice a n c]).run P w = .ok (.int .i64 (n : Int)) w := by
  obtain ⟨d, hd, hdk, _⟩ := (hT t i hs).d
  rw [hk] at hdk
  have hdk : d = .slice e := hdk
  subst hdk
  simp [Builtin.len_, run_underlying hd, goInt]

theorem run_len_str {P : Program} {T : Tab} (hT : TabOk P T) {t : TypeId} {i : TI} (hs : T t = some i) (hk : i.kind = .str) (s : ByteArray) (ty : TypeId) (w : World) :
    (Builtin.len_ #[t] ty #[.string s]).run P w = .ok (.int .i64 (s.data.toList.length : Int)) w := by
  obtain ⟨d, hd, hdk, _⟩ := (hT t i hs).d
  rw [hk] at hdk
  have hdk : d = .string := hdk
  subst hdk
  show _ = Result.ok (Value.int .i64 ((s.size : Nat) : Int)) w
  simp [Builtin.len_, run_underlying hd, goInt]

theorem fill_eq (place : Nat → Option (Nat × Nat)) : ∀ (parts : List (Nat × Value)) (cs out : List Value), fillO place cs (parts.map fun p => (p.1, cellsL p.2)) = some out → Instr.fill place cs.toArray parts = some out.toArray := by
  intro parts
  induction parts with
  | nil => intro cs out h; simp [fillO] at h; subst h; rfl
  | cons p rest ih =>
    intro cs out h
    obtain ⟨k, v⟩ := p
    simp only [List.map_cons, fillO] at h
    cases hp : place k with
    | none => rw [hp] at h; cases h
    | some q =>
      obtain ⟨off, size⟩ := q
      rw [hp] at h
      simp only at h
      cases hb : Nat.beq (cellsL v).length size && Nat.ble (off + size) cs.length with
      | false => rw [hb] at h; cases h
      | true =>
        rw [hb] at h
        simp only [Bool.and_eq_true] at hb
        have h1 : (cellsL v).length = size := Nat.eq_of_beq_eq_true hb.1
        have h2 : off + size ≤ cs.length := Nat.le_of_ble_eq_true hb.2
        have h := ih _ _ h
        simp only [Instr.fill, hp]
        have hsz : v.cells.size = size := by rw [cellsL_eq] at h1; simpa using h1
        rw [if_neg (by simp [hsz]; omega)]
        rw [← h]
        congr 1
        rw [cellsL_eq]
        have key : ∀ (vs : List Value) (o : Nat) (l : List Value), (vs.zipIdx o).foldl (fun (a : Array Value) (x : Value × Nat) => a.setIfInBounds (off + x.2) x.1) l.toArray = (setAt l (off + o) vs).toArray := by
          intro vs
          induction vs with
          | nil => intro o l; rfl
          | cons u us ih2 =>
            intro o l
            simp only [List.zipIdx_cons, List.foldl_cons, List.setIfInBounds_toArray, setAt]
            rw [ih2 (o + 1) (l.set (off + o) u)]
            rfl
        have := key v.cells.toList 0 cs
        rw [← Array.foldl_toList, Array.toList_zipIdx]
        simpa using this

theorem run_build_st {P : Program} {T : Tab} (hT : TabOk P T) {t : TypeId} {i : TI} {fs : List (Nat × Nat)} (hs : T t = some i) (hk : i.kind = .struct fs) (parts : Array (Nat × Value)) (out : List Value)
    (h : fillO (fs[·]?) i.zero (parts.toList.map fun p => (p.1, cellsL p.2)) = some out) (w : World) :
    (Instr.build t parts).run P w = .ok (.agg out.toArray) w := by
  obtain ⟨d, hd, hdk, _⟩ := (hT t i hs).d
  rw [hk] at hdk
  obtain ⟨fields, rfl, hlen, hfs⟩ := hdk
  obtain ⟨inf, z, hinf, _, _, hz, hzc⟩ := (hT t i hs).inf
  have hm : (fields.mapM (m := Sem) fun f => do pure (f.offset, ← sizeOf f.type)).run P w = .ok fs.toArray w := by
    have key : ∀ (l : List Field) (gs : List (Nat × Nat)), l.length = gs.length → (∀ (k off sz : Nat), gs[k]? = some (off, sz) → ∃ (f : Field) (inf : TypeInfo), l[k]? = some f ∧ f.offset = off ∧ P.info? f.type = some inf ∧ inf.size = sz ∧ sz ≠ 0) →
        (l.mapM (m := Sem) fun f => do pure (f.offset, ← sizeOf f.type)).run P w = .ok gs w := by
      intro l
      induction l with
      | nil => intro gs hg _; cases gs with | nil => rfl | cons a b => simp at hg
      | cons f l ih =>
        intro gs hg hh
        cases gs with
        | nil => simp at hg
        | cons a b =>
          obtain ⟨off, sz⟩ := a
          obtain ⟨f', inf', hf', rfl, hinf', rfl, _⟩ := hh 0 off sz rfl
          simp at hf'
          subst hf'
          have := ih b (by simpa using hg) (fun k off sz hk => by simpa using hh (k + 1) off sz (by simpa using hk))
          simp only [List.mapM_cons, Sem.run_bind, sizeOf, typeInfo, run_program, Result.andThen_ok, hinf', Sem.run_pure]
          simp only [sizeOf, typeInfo] at this
          rw [this]
          rfl
    have := key fields.toList fs (by simpa using hlen) (fun k off sz hk => by simpa using hfs k off sz hk)
    rw [Array.mapM_eq_mapM_toList, Sem.run_map, this]
    rfl
  have hfill := fill_eq (fs[·]?) parts.toList i.zero out h
  simp only [Instr.build, Sem.run_bind, zeroValue, typeInfo, run_program, Result.andThen_ok, hinf, Sem.run_pure, hz, run_underlying hd, hm, hzc]
  have hfill' : Instr.fill (fun x => fs.toArray[x]?) i.zero.toArray parts.toList = some out.toArray := by
    rw [← hfill]
    congr 1
    funext x
    simp
  rw [hfill']
  rfl
end
end Go.Eng
