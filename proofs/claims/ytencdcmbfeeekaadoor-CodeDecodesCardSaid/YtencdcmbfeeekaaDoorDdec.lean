/-
  Data of this seat's types are the plain types of package api.
-/
import Derived.Test.YtencdcmbfeeekaaDoorDtypes
import Derived.Test.YtencdcmbfeeekaaDoorDseat
namespace Go.Proofs.YtencdcmbfeeekaaDoor
open Go Go.Dm Barb

theorem dec_int {f : Nat} {g : GV} (h : TypedG Tryd.prog f 3 g) : ∃ n, g = .int n ∧ I64 n := dec_lit Tryd.underlying3 h
theorem dec_str {f : Nat} {g : GV} (h : TypedG Tryd.prog f 9 g) : ∃ n, g = .str n ∧ n.length ≤ maxLen := dec_txt Tryd.underlying9 h
theorem dec_bool {f : Nat} {g : GV} (h : TypedG Tryd.prog f 4 g) : ∃ n, g = .bool n := dec_boo Tryd.underlying4 h

theorem cells_int : Tryd.prog.cellsOf 3 = 1 := by kernel_rfl
theorem bytes_int : Tryd.prog.bytesOf 3 = 8 := by kernel_rfl
theorem dec_intR {f : Nat} {r : List GV} (h : TypedR Tryd.prog f 3 r) : ∃ n, r = intG n ∧ I64 n := by
  obtain ⟨g, rfl, h'⟩ := dec_one Tryd.underlying3 (fun _ e => by cases e) h
  obtain ⟨n, rfl, hn⟩ := dec_int h'
  exact ⟨n, rfl, hn⟩
theorem dec_ints {f : Nat} {g : GV} (h : TypedG Tryd.prog f 28 g) : ∃ l, g = .sl 1 (List.map intG l) ∧ (∀ x ∈ l, I64 x) ∧ l.length * 8 ≤ 140737488351232 :=
  dec_list Tryd.underlying28 cells_int bytes_int h (fun _ _ h => dec_intR h)
theorem cells_Instr : Tryd.prog.cellsOf 23 = 4 := by kernel_rfl
theorem bytes_Instr : Tryd.prog.bytesOf 23 = 32 := by kernel_rfl
theorem dec_Instr {f : Nat} {r : List GV} (h : TypedR Tryd.prog f 23 r) : ∃ i : Instr, r = i.g ∧ i.I := by
  obtain ⟨hl, hf⟩ := dec_fields Tryd.underlying23 h
  match r, hl with
  | [g0, g1, g2, g3], _ =>
    obtain ⟨n0, rfl, h0⟩ := dec_int (hf 0 _ g0 rfl rfl)
    obtain ⟨n1, rfl, h1⟩ := dec_int (hf 1 _ g1 rfl rfl)
    obtain ⟨n2, rfl, h2⟩ := dec_int (hf 2 _ g2 rfl rfl)
    obtain ⟨n3, rfl, h3⟩ := dec_int (hf 3 _ g3 rfl rfl)
    exact ⟨⟨n0, n1, n2, n3⟩, rfl, h0, h1, h2, h3⟩
theorem dec_Code {f : Nat} {g : GV} (h : TypedG Tryd.prog f 27 g) : ∃ l, g = .sl 4 (List.map Instr.g l) ∧ (∀ x ∈ l, Instr.I x) ∧ l.length * 32 ≤ 140737488351232 :=
  dec_list Tryd.underlying27 cells_Instr bytes_Instr h (fun _ _ h => dec_Instr h)
theorem cells_Entry : Tryd.prog.cellsOf 78 = 2 := by kernel_rfl
theorem bytes_Entry : Tryd.prog.bytesOf 78 = 16 := by kernel_rfl
theorem dec_Entry {f : Nat} {r : List GV} (h : TypedR Tryd.prog f 78 r) : ∃ i : Entry, r = i.g ∧ i.I := by
  obtain ⟨hl, hf⟩ := dec_fields Tryd.underlying78 h
  match r, hl with
  | [g0, g1], _ =>
    obtain ⟨n0, rfl, h0⟩ := dec_int (hf 0 _ g0 rfl rfl)
    obtain ⟨n1, rfl, h1⟩ := dec_int (hf 1 _ g1 rfl rfl)
    exact ⟨⟨n0, n1⟩, rfl, h0, h1⟩
theorem dec_Entries {f : Nat} {g : GV} (h : TypedG Tryd.prog f 73 g) : ∃ l, g = .sl 2 (List.map Entry.g l) ∧ (∀ x ∈ l, Entry.I x) ∧ l.length * 16 ≤ 140737488351232 :=
  dec_list Tryd.underlying73 cells_Entry bytes_Entry h (fun _ _ h => dec_Entry h)
theorem cells_Part : Tryd.prog.cellsOf 75 = 4 := by kernel_rfl
theorem bytes_Part : Tryd.prog.bytesOf 75 = 64 := by kernel_rfl
theorem dec_Part {f : Nat} {r : List GV} (h : TypedR Tryd.prog f 75 r) : ∃ i : Part, r = i.g ∧ i.I := by
  obtain ⟨hl, hf⟩ := dec_fields Tryd.underlying75 h
  match r, hl with
  | [g0, g1, g2, g3], _ =>
    obtain ⟨n0, rfl, h0, l0⟩ := dec_Code (hf 0 _ g0 rfl rfl)
    obtain ⟨n1, rfl, h1, l1⟩ := dec_Entries (hf 1 _ g1 rfl rfl)
    obtain ⟨n2, rfl, h2⟩ := dec_int (hf 2 _ g2 rfl rfl)
    obtain ⟨n3, rfl, h3⟩ := dec_int (hf 3 _ g3 rfl rfl)
    exact ⟨⟨n0, n1, n2, n3⟩, rfl, h0, h1, h2, h3, l0, l1⟩
theorem dec_Parts {f : Nat} {g : GV} (h : TypedG Tryd.prog f 37 g) : ∃ l, g = .sl 4 (List.map Part.g l) ∧ (∀ x ∈ l, Part.I x) ∧ l.length * 64 ≤ 140737488351232 :=
  dec_list Tryd.underlying37 cells_Part bytes_Part h (fun _ _ h => dec_Part h)
theorem cells_Image : Tryd.prog.cellsOf 39 = 1 := by kernel_rfl
theorem dec_Image {f : Nat} {r : List GV} (h : TypedR Tryd.prog f 39 r) : ∃ i : Image, r = Image.g i ∧ Image.I i := by
  obtain ⟨hl, hf⟩ := dec_fields Tryd.underlying39 h
  match r, hl with
  | [g0], _ =>
    obtain ⟨n0, rfl, h0, l0⟩ := dec_Parts (hf 0 _ g0 rfl rfl)
    exact ⟨n0, rfl, h0, l0⟩
end Go.Proofs.YtencdcmbfeeekaaDoor
