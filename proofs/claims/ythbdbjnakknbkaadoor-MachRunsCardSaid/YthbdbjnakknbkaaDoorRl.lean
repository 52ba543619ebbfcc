/-
  What a run tells is bounded; and it is the same as itself.
-/
import Derived.Test.YthbdbjnakknbkaaDoorMn2
import Derived.Test.YthbdbjnakknbkaaDoorSi
namespace Barb
open Go Go.Dm Go.Eng Go.Proofs.YthbdbjnakknbkaaDoor
def R.mo : R → MO
  | .go o _ => o
  | .stop _ _ o => o
structure OLen (D : Nat) (o : MO) : Prop where
  told : o.told.length ≤ 500
  data : o.data.length = D
  calls : o.calls.length ≤ 100
  args : ∀ n ∈ o.calls, n.args.length ≤ 40
theorem pushS_mo (o : MO) (pre : List PF) (t : PF) (n : Int) : (pushS o pre t n).mo = o := by unfold pushS; split <;> rfl
theorem enterS_mo (o : MO) (fs : List PF) (a b c : Int) (l : List Int) : (enterS o fs a b c l).mo = o := by unfold enterS; split <;> rfl
theorem noteS_ol {D : Nat} {o : MO} (h : OLen D o) (k v : Int) : OLen D (noteS o k v) := by
  unfold noteS
  split
  · refine ⟨h.told, h.data, by show (o.calls.modify _ _).length ≤ 100; rw [List.length_modify]; exact h.calls, fun n hn => ?_⟩
    have hn : n ∈ o.calls.modify k.toNat (fun x => x.fin v) := hn
    obtain ⟨i, hi, rfl⟩ := List.getElem_of_mem hn
    rw [List.length_modify] at hi
    rw [List.getElem_modify]
    split
    · show o.calls[i].args.length ≤ 40
      exact h.args _ (List.getElem_mem hi)
    · exact h.args _ (List.getElem_mem hi)
  · exact h
theorem memS_len {D : Nat} {p : Part} {i : Instr} {o : MO} {pre : List PF} {t : PF} (h : OLen D o) : OLen D (memS p i o pre t).mo := by
  unfold memS
  split
  · split
    · exact h
    · split <;> exact h
  · split
    · exact h
    · split
      · exact ⟨h.told, by show (o.data.set _ _).length = D; rw [List.length_set]; exact h.data, h.calls, h.args⟩
      · exact h
theorem gateS_len {D : Nat} {m : Image} {i : Instr} {o : MO} {pre : List PF} {t : PF} (h : OLen D o) (ht : t.ws.length ≤ 40) : OLen D (gateS m i o pre t).mo := by
  unfold gateS
  split
  · exact h
  · split
    · exact h
    · simp only
      split
      · rename_i hc
        rw [enterS_mo]
        refine ⟨h.told, h.data, by show (o.calls ++ [_]).length ≤ 100; rw [List.length_append, List.length_singleton]; omega, fun n hn => ?_⟩
        rcases List.mem_append.1 hn with hn | hn
        · exact h.args n hn
        · rw [List.mem_singleton] at hn
          subst hn
          show (t.off _).length ≤ 40
          unfold PF.off
          rw [List.length_drop]; omega
      · rw [enterS_mo]; exact h
theorem retS_len {D : Nat} {o : MO} {pre : List PF} {t : PF} (h : OLen D o) : OLen D (Barb.retS o pre t).mo := by
  unfold Barb.retS
  split
  · exact h
  · simp only
    split
    · exact noteS_ol h _ _
    · rw [pushS_mo]; exact noteS_ol h _ _
theorem ctlS_len {D : Nat} {m : Image} {i : Instr} {o : MO} {pre : List PF} {t : PF} (h : OLen D o) (ht : t.ws.length ≤ 40) : OLen D (ctlS m i o pre t).mo := by
  unfold ctlS
  split
  · exact h
  · split
    · split <;> exact h
    · split
      · split
        · exact h
        · rw [enterS_mo]; exact h
      · split
        · exact gateS_len h ht
        · split
          · exact retS_len h
          · exact h
theorem wrdS_len {D : Nat} {i : Instr} {o : MO} {pre : List PF} {t : PF} (h : OLen D o) : OLen D (wrdS i o pre t).mo := by
  unfold wrdS
  split
  · rw [pushS_mo]; exact h
  · split
    · rw [pushS_mo]; exact h
    · simp only
      generalize (if i.op = 8 then 2 else 1 : Nat) = n
      split
      · exact h
      · split
        · split <;> exact h
        · split
          · exact h
          · split
            · split
              · exact h
              · rename_i h5
                exact ⟨by show (o.told ++ [_]).length ≤ 500; have := h.told; rw [List.length_append, List.length_singleton]; omega, h.data, h.calls, h.args⟩
            · split <;> exact h
theorem stepS_len {D : Nat} {m : Image} {o : MO} {pre : List PF} {t : PF} (h : OLen D o) (ht : t.ws.length ≤ 40) : OLen D (Barb.stepS m o pre t).mo := by
  unfold Barb.stepS
  simp only
  split
  · exact h
  · split
    · exact memS_len h
    · split
      · exact ctlS_len h ht
      · exact wrdS_len h
theorem iterS_len {D : Nat} {m : Image} : ∀ (n : Nat) (o : MO) (fs : List PF), SOk m o fs → OLen D o → OLen D (iterS m n o fs).2.2
  | 0, o, fs, _, h => h
  | n + 1, o, fs, ok, h => by
    rcases List.eq_nil_or_concat fs with e | ⟨pre, t, e⟩
    · subst e; exact h
    · rw [List.concat_eq_append] at e
      subst e
      rw [iterS_snoc]
      have h1 := stepS_len (m := m) (pre := pre) (t := t) h (ok.frs t (by simp)).ws
      have h2 := stepS_ok ok
      split
      · rename_i o' fs' e
        rw [e] at h1 h2
        exact iterS_len n o' fs' h2.1 h1
      · rename_i c v o' e
        rw [e] at h1
        exact h1
theorem runV_len (m : Image) (d : List Int) (part entry : Int) (args : List Int) (fuel : Int) : ∃ D : Nat, D ≤ d.length ∧ OLen D ⟨(runV m d part entry args fuel).told, (runV m d part entry args fuel).data, (runV m d part entry args fuel).calls⟩ := by
  unfold runV
  split
  · rename_i h0
    have e := h0
    unfold runE at e
    by_cases h : dataE m d = 0
    · rw [if_neg (fun h' => h' h)] at e
      by_cases h5 : part < 0 ∨ part ≥ m.length ∨ entry < 0 ∨ entry ≥ (Barb.partAt m part).entries.length
      · rw [if_pos h5] at e; cases e
      · obtain ⟨himg, hdw⟩ := dataE_ok h
        obtain ⟨k, hk⟩ : ∃ k : Nat, part = (k : Int) := ⟨part.toNat, by omega⟩
        have hkl : k < m.length := by omega
        have hpk : Barb.partAt m part = m[k] := by rw [hk]; exact Barb.partAt_at hkl
        obtain ⟨q, hq⟩ : ∃ q : Nat, entry = (q : Int) := ⟨entry.toNat, by omega⟩
        have hql : q < m[k].entries.length := by rw [hpk] at h5; omega
        have hent : entAt m part entry = m[k].entries[q] := by unfold entAt; rw [hpk, hq]; exact getD_of hql _
        obtain ⟨hc1, hc2, hc3, hc4⟩ := code_ok himg hkl
        have hat := hc4 _ (List.getElem_mem hql)
        refine ⟨d.length, Nat.le_refl _, ?_⟩
        have := iterS_len (D := d.length) (m := m) fuel.toNat ⟨[], d, []⟩ [⟨part, (entAt m part entry).at_, p8 args, [], -1⟩] ⟨himg, hdw, by simp, by simp, by simp, fun f hf => by
          simp only [List.mem_cons, List.not_mem_nil, or_false] at hf
          subst hf
          rw [hent]
          exact ⟨⟨k, hk, hkl⟩, hat.1, by show m[k].entries[q].at_ ≤ 2000; omega, rfl, by simp, by simp⟩⟩ ⟨by simp, rfl, by simp, fun n hn => by simp at hn⟩
        exact ⟨this.told, this.data, this.calls, this.args⟩
    · rw [if_pos h] at e; exact absurd e h
  · exact ⟨0, Nat.zero_le _, by simp, rfl, by simp, fun n hn => by simp at hn⟩
end Barb
namespace Go.Proofs.YthbdbjnakknbkaaDoor
open Go Go.Dm Go.Eng Go.RowKit Barb
abbrev Nt.d (n : Nt) : List D := [.g (.int n.by_), .g (.int n.part), .g (.int n.entry), .g (.sl 1 (n.args.map intG)), .g (.int n.deep), .g (.bool n.done), .g (.int n.value)]
set_option maxRecDepth 20000 in
theorem sameO_any (o : Outc) (h1 : o.told.length ≤ 9223372036854775807) (h2 : o.data.length ≤ 9223372036854775807) (h3 : o.calls.length ≤ 100) (h4 : ∀ n ∈ o.calls, n.args.length ≤ 40) :
    CT Tryd.prog gl 25 [.agg o.d, .agg o.d] (Is (.g (.bool true))) := by
  have lc : (o.calls.map Nt.g).length = o.calls.length := List.length_map _
  refine enter hT hF hM Tryd.func25 rfl 110 rfl (by kernel_rfl) [.tmp 4] rfl [.agg o.d, .agg o.d] rfl _ ?_
  refine ⟨fun x => absurd rfl x, fun _ => ?_⟩
  refine ⟨fun x => absurd rfl x, fun _ => ?_⟩
  refine callIs (.inl rfl) (sameInts_any o.told o.told h1) ?_
  refine ⟨fun x => absurd rfl x, fun _ => ?_⟩
  refine callIs (.inl rfl) (sameInts_any o.data o.data h2) ?_
  refine ⟨fun x => absurd rfl x, fun _ => ?_⟩
  refine ⟨fun x => absurd rfl x, fun _ => ?_⟩
  refine loopR (ι := Nat) (fun i => [(5, .g (.int (i : Int))), (2, .ptr 0 0), (3, .ptr 1 0)]) (fun _ => [.blk o.d 49, .blk o.d 49]) (fun i => i ≤ o.calls.length) (fun i => o.calls.length - i)
    ⟨0, [.old 0, .old 1], ⟨rfl, .inl rfl, .inr ⟨lk rfl, lk rfl, lk rfl, trivial⟩, rfl⟩, Nat.zero_le _⟩ ?_
  intro Rd hRd i hi
  refine ⟨fun h => ?_, fun h => ?_⟩
  · have hl : i < o.calls.length := by omega
    refine ⟨i, _, rfl, gm hl, ?_⟩
    refine ⟨i, _, rfl, gm hl, ?_⟩
    refine ⟨fun x => absurd rfl x, fun _ => ?_⟩
    refine ⟨fun x => absurd rfl x, fun _ => ?_⟩
    refine ⟨fun x => absurd rfl x, fun _ => ?_⟩
    refine ⟨fun x => absurd rfl x, fun _ => ?_⟩
    refine ⟨fun x => absurd Iff.rfl x, fun _ => ?_⟩
    refine ⟨fun x => absurd rfl x, fun _ => ?_⟩
    have ha := h4 _ (List.getElem_mem hl)
    refine callIs (.inl rfl) (sameInts_any o.calls[i].args o.calls[i].args (by omega)) ?_
    refine ⟨fun x => absurd rfl x, fun _ => ?_⟩
    refine ⟨_, I64.wrap (by unfold I64; omega), ?_⟩
    exact hRd _ _ _ ⟨i + 1, [.old 0, .old 1], ⟨rfl, .inl rfl, .inr ⟨lk rfl, lk rfl, lk rfl, trivial⟩, rfl⟩, hl, by show o.calls.length - (i + 1) < o.calls.length - i; omega⟩
  · exact ⟨rfl, retIs (.inl rfl)⟩
end Go.Proofs.YthbdbjnakknbkaaDoor
