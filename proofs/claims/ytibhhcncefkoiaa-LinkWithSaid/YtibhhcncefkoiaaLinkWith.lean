/-
  link.With answers what P11.3 says: the law LinkWith returns true for every image, code, entries and number.
-/
import Derived.Test.YtibhhcncefkoiaaJLinkWith
import Derived.Test.YtibhhcncefkoiaaLw
namespace Go.Proofs.Ytibhhcncefkoiaa
open Go Go.Dm Go.Eng Go.RowKit Go.ChangeShapes Go.WideShapes Go.ChangeAt Barb

theorem imgE_five {m : List Part} (h : imgE m = 0) : m.length ≤ 5 := by
  unfold imgE at h
  by_cases h5 : 5 < m.length
  · rw [if_pos h5] at h; omega
  · omega
set_option maxRecDepth 20000 in
set_option maxHeartbeats 1000000 in
theorem LinkWith_walk (m : Image) (hm : Image.I m) (l : List Barb.Instr) (_ : ∀ x ∈ l, Instr.I x) (hl : l.length * 32 ≤ 140737488351232) (es : List Entry) (_ : ∀ x ∈ es, Entry.I x) (hes : es.length * 16 ≤ 140737488351232) (n : Int) (_ : I64 n) :
    CT Try.prog [] 3 [.agg (imgD m), .g (.sl 4 (l.map Instr.g)), .g (.sl 2 (es.map Entry.g)), .g (.int n)] (Is (.g (.bool true))) := by
  have lm : (m.map Part.g).length = m.length := by simp
  have le : (es.map Entry.g).length = es.length := by simp
  have lg : ((linkV m l es n).map Part.g).length = m.length + 1 := by simpa using linkV_len m l es n
  refine enter hT hF hM Try.func3 rfl 161 rfl (by kernel_rfl) [.tmp 8] rfl [.agg (imgD m), .g (.sl 4 (l.map Instr.g)), .g (.sl 2 (es.map Entry.g)), .g (.int n)] rfl _ ?_
  refine callIs (.inl rfl) (ImageFault_any m hm) ⟨fun _ => ⟨rfl, retIs (.inl rfl)⟩, fun hE => ?_⟩
  have h5 := imgE_five hE
  refine callIs (.inl rfl) (In_any n 0 1000) ⟨fun _ => ⟨rfl, retIs (.inl rfl)⟩, fun _ => ?_⟩
  refine callIs (.inl rfl) (With_any m h5 l hl es hes n) ?_
  refine ⟨fun h => absurd (by omega) h, fun _ => ⟨_, I64.wrap (by unfold I64; omega), ⟨fun h => absurd (by omega) h, fun _ => ?_⟩⟩⟩
  refine loopR (ι := Nat) (fun i => [(12, .g (.int (i : Int))), (4, .ptr 0 0), (9, .ptr 1 0)]) (fun _ => [.blk (imgD m) 24, .blk (imgD (linkV m l es n)) 24]) (fun i => i ≤ m.length) (fun i => m.length - i)
    ⟨0, [.old 0, .old 1], ⟨rfl, .inl rfl, .inr ⟨lk rfl, lk rfl, lk rfl, trivial⟩, rfl⟩, Nat.zero_le _⟩ ?_
  intro Rd hRd i hi
  refine ⟨fun b0 => ?_, fun b0 => ?_⟩
  · have b1 : i < m.length := by omega
    have gx := linkV_at (l := l) (es := es) (n := n) b1
    have gy := gm (f := Part.g) b1
    have hlc : m[i].code.length ≤ 9223372036854775807 := by
      have := (hm.1 _ (List.getElem_mem b1)).2.2.2.2.1
      omega
    generalize m[i] = p at *
    refine ⟨none, rfl, i, _, rfl, gx, i, _, rfl, gy, ⟨fun h => absurd rfl h, fun _ => ⟨i, _, rfl, gx, i, _, rfl, gy, ⟨fun h => absurd rfl h, fun _ => ⟨i, _, rfl, gx, i, _, rfl, gy, ?_⟩⟩⟩⟩⟩
    refine ⟨_, _, .inl rfl, sameCode_any p.code hlc, rfl, ?_⟩
    refine ⟨i, _, rfl, gx, i, _, rfl, gy, ⟨fun h => absurd rfl h, fun _ => ⟨_, I64.wrap (by unfold I64; omega), ?_⟩⟩⟩
    exact hRd _ _ _ ⟨i + 1, [.old 0, .old 1], ⟨rfl, .inl rfl, .inr ⟨lk rfl, lk rfl, lk rfl, trivial⟩, rfl⟩, b1, by omega⟩
  refine ⟨(m.map Part.g).length, _, rfl, linkV_last, ?_⟩
  refine ⟨none, rfl, _, _, .inl rfl, WordsOf_any m hm, rfl, ⟨fun h => absurd rfl h, fun _ => ⟨_, rfl, ⟨fun h => absurd rfl h, fun _ => ?_⟩⟩⟩⟩
  refine ⟨_, _, .inl rfl, sameCode_any l (by omega), rfl, ⟨fun h => absurd rfl h, fun _ => ?_⟩⟩
  refine loopR (ι := Nat) (fun i => [(14, .g (.int (i : Int))), (13, .ptr 0 0)]) (fun _ => [.blk (newPart m l es n).d 33]) (fun i => i ≤ es.length) (fun i => es.length - i)
    ⟨0, [.old 2], ⟨rfl, .inl rfl, .inr ⟨lk rfl, lk rfl, trivial⟩, rfl⟩, Nat.zero_le _⟩ ?_
  intro Rj hRj j hj
  refine ⟨fun c0 => ?_, fun c0 => ⟨rfl, retIs (.inl rfl)⟩⟩
  have c1 : j < es.length := by omega
  refine ⟨none, rfl, j, _, rfl, gm c1, j, _, rfl, gm c1, stEq_Entry, ⟨fun h => absurd ⟨rfl, rfl, trivial⟩ h, fun _ => ⟨_, I64.wrap (by unfold I64; omega), ?_⟩⟩⟩
  exact hRj _ _ _ ⟨j + 1, [.old 0], ⟨rfl, .inl rfl, .inr ⟨lk rfl, lk rfl, trivial⟩, rfl⟩, c1, by omega⟩

set_option maxRecDepth 100000 in
theorem LinkWith_lifted (os : Os) (started : os.Started) (H : Type) (enc : TypeId × Value → H) :
    ReturnsInHanded {} Try.checked os 3 .any (Rows.linkWithSpec.pre6 enc Try.prog Try.f3 Rows.linkWithRow.domain false) (Rows.linkWithSpec.post enc Try.prog Try.f3 false true false false) := by
  refine handed (C := Try.checked) own started (by kernel_rfl) Try.func3
    (ChangeSpec.witness6 (enc := enc) (C := Try.checked) false ⟨#[], #[.agg #[.slice none 0 0], .slice none 0 0, .slice none 0 0, .int .i64 0], []⟩ 8 (by kernel_rfl) (by kernel_rfl) (by kernel_rfl) (by kernel_rfl)) ?_
  intro W base args ds gs before hval hwt hW
  refine law_contract plainS_ok laidOut rfl ?_ rfl Try.underlying4 (pars_ok (by kernel_rfl)) ?_ W base args ds gs before hval hwt hW
  · intro ds hds
    match ds, hds with
    | [d0, d1, d2, d3], _ => rfl
  · intro W args hargs
    obtain ⟨v0, r0, rfl, h0, hargs⟩ := hargs.inv
    obtain ⟨v1, r1, rfl, h1, hargs⟩ := hargs.inv
    obtain ⟨v2, r2, rfl, h2, hargs⟩ := hargs.inv
    obtain ⟨v3, r3, rfl, h3, hargs⟩ := hargs.inv
    obtain rfl := hargs.inv0
    obtain ⟨f0, g0, c0, rfl, t0, R0⟩ := h0.struct Try.underlying24
    obtain ⟨x0, rfl, b0⟩ := dec_Image t0
    obtain ⟨f1, g1, t1, R1⟩ := h1.slice Try.underlying25
    obtain ⟨x1, rfl, i1, b1⟩ := dec_Code t1
    obtain ⟨f2, g2, t2, R2⟩ := h2.slice Try.underlying26
    obtain ⟨x2, rfl, i2, b2⟩ := dec_Entries t2
    obtain ⟨x3, rfl, b3⟩ := h3.int Try.underlying3
    exact law_of_ct (LinkWith_walk x0 b0 x1 i1 b1 x2 i2 b2 x3 b3) (args_cons (arg_agg R0) (args_cons (arg_g R1) (args_cons (arg_g R2) (args_cons (arg_g (by simp only [RepV])) args_nil))))
/-- THE STATEMENT. -/
theorem LinkWith_said : Rows.LinkWithSaid := LinkWith_over LinkWith_lifted
#print axioms LinkWith_said
end Go.Proofs.Ytibhhcncefkoiaa
