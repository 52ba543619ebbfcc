/-
  Data of this seat's types are the plain types of package api.
-/
import Derived.Test.YtjlaaanmjaihaaaDoorDtypes
import Derived.Test.YtjlaaanmjaihaaaDoorDseat
namespace Go.Proofs.YtjlaaanmjaihaaaDoor
open Go Go.Dm Barb

theorem dec_int {f:Nat} {g:GV} (h:TypedG Tryd.prog f 3 g):∃ n,g=.int n∧I64 n:=dec_lit Tryd.underlying3 h
theorem dec_str {f:Nat} {g:GV} (h:TypedG Tryd.prog f 9 g):∃ n,g=.str n∧n.length≤maxLen:=dec_txt Tryd.underlying9 h
theorem dec_bool {f:Nat} {g:GV} (h:TypedG Tryd.prog f 4 g):∃ n,g=.bool n:=dec_boo Tryd.underlying4 h

theorem cells_int:Tryd.prog.cellsOf 3=1:=by kernel_rfl
theorem bytes_int:Tryd.prog.bytesOf 3=8:=by kernel_rfl
theorem dec_intR {f:Nat} {r:List GV} (h:TypedR Tryd.prog f 3 r):∃ n,r=intG n∧I64 n:=by
 obtain ⟨g,rfl,h'⟩:=dec_one Tryd.underlying3 (fun _ e=>by cases e) h
 obtain ⟨n,rfl,hn⟩:=dec_int h'
 exact ⟨n,rfl,hn⟩
theorem cells_str:Tryd.prog.cellsOf 9=1:=by kernel_rfl
theorem bytes_str:Tryd.prog.bytesOf 9=16:=by kernel_rfl
theorem dec_strR {f:Nat} {r:List GV} (h:TypedR Tryd.prog f 9 r):∃ n,r=strG n∧List.length n≤maxLen:=by
  obtain ⟨g,rfl,h'⟩:=dec_one Tryd.underlying9 (fun _ e=>by cases e) h
  obtain ⟨n,rfl,hn⟩:=dec_str h'
  exact ⟨n,rfl,hn⟩
theorem dec_strs {f:Nat} {g:GV} (h:TypedG Tryd.prog f 28 g):∃ l,g=.sl 1 (List.map strG l)∧(∀ x∈l,List.length x≤maxLen)∧l.length*16≤140737488351232 :=
  dec_list Tryd.underlying28 cells_str bytes_str h (fun _ _ h=>dec_strR h)
end Go.Proofs.YtjlaaanmjaihaaaDoor
