/-
  Data of this seat's types are the plain types of package api.
-/
import Derived.Test.YtijdegmamdhcbaaDoorDtypes
import Derived.Test.YtijdegmamdhcbaaDoorDseat
namespace Go.Proofs.YtijdegmamdhcbaaDoor
open Go Go.Dm Barb

theorem dec_int {f:Nat} {g:GV} (h:TypedG Tryd.prog f 3 g):∃ n,g=.int n∧I64 n:=dec_lit Tryd.underlying3 h
theorem dec_str {f:Nat} {g:GV} (h:TypedG Tryd.prog f 9 g):∃ n,g=.str n∧n.length≤maxLen:=dec_txt Tryd.underlying9 h
theorem dec_bool {f:Nat} {g:GV} (h:TypedG Tryd.prog f 4 g):∃ n,g=.bool n:=dec_boo Tryd.underlying4 h

theorem cells_int:Tryd.prog.cellsOf 3=1:=by kernel_rfl
theorem bytes_int:Tryd.prog.bytesOf 3=8:=by kernel_rfl
theorem dec_intR {f:Nat} {r:List GV} (h:TypedR Tryd.prog f 3 r):∃ n,r=intG n∧I64 n:=by
 obtain ⟨g,rfl,h'⟩:=dec_one Tryd.underlying3 (fun _ e=>by cases e) h
 obtain ⟨n,rfl,hn⟩:=dec_int h'
 exact ⟨n,rfl,hn⟩
theorem dec_ints {f:Nat} {g:GV} (h:TypedG Tryd.prog f 30 g):∃ l,g=.sl 1 (List.map intG l)∧(∀ x∈l,I64 x)∧l.length*8≤140737488351232 :=
 dec_list Tryd.underlying30 cells_int bytes_int h (fun _ _ h=>dec_intR h)
theorem cells_str:Tryd.prog.cellsOf 9=1:=by kernel_rfl
theorem bytes_str:Tryd.prog.bytesOf 9=16:=by kernel_rfl
theorem dec_strR {f:Nat} {r:List GV} (h:TypedR Tryd.prog f 9 r):∃ n,r=strG n∧List.length n≤maxLen:=by
  obtain ⟨g,rfl,h'⟩:=dec_one Tryd.underlying9 (fun _ e=>by cases e) h
  obtain ⟨n,rfl,hn⟩:=dec_str h'
  exact ⟨n,rfl,hn⟩
theorem dec_strs {f:Nat} {g:GV} (h:TypedG Tryd.prog f 70 g):∃ l,g=.sl 1 (List.map strG l)∧(∀ x∈l,List.length x≤maxLen)∧l.length*16≤140737488351232 :=
  dec_list Tryd.underlying70 cells_str bytes_str h (fun _ _ h=>dec_strR h)
theorem cells_Instr:Tryd.prog.cellsOf 55=4:=by kernel_rfl
theorem bytes_Instr:Tryd.prog.bytesOf 55=32:=by kernel_rfl
theorem dec_Instr {f:Nat} {r:List GV} (h:TypedR Tryd.prog f 55 r):∃ i:Instr,r=i.g∧i.I:=by
  obtain ⟨hl,hf⟩:=dec_fields Tryd.underlying55 h
  match r,hl with
  | [g0,g1,g2,g3],_ =>
    obtain ⟨n0,rfl,h0⟩:=dec_int (hf 0 _ g0 rfl rfl)
    obtain ⟨n1,rfl,h1⟩:=dec_int (hf 1 _ g1 rfl rfl)
    obtain ⟨n2,rfl,h2⟩:=dec_int (hf 2 _ g2 rfl rfl)
    obtain ⟨n3,rfl,h3⟩:=dec_int (hf 3 _ g3 rfl rfl)
    exact ⟨⟨n0,n1,n2,n3⟩,rfl,h0,h1,h2,h3⟩
theorem dec_Code {f:Nat} {g:GV} (h:TypedG Tryd.prog f 43 g):∃ l,g=.sl 4 (List.map Instr.g l)∧(∀ x∈l,Instr.I x)∧l.length*32≤140737488351232 :=
  dec_list Tryd.underlying43 cells_Instr bytes_Instr h (fun _ _ h=>dec_Instr h)
theorem cells_Entry:Tryd.prog.cellsOf 48=2:=by kernel_rfl
theorem bytes_Entry:Tryd.prog.bytesOf 48=16:=by kernel_rfl
theorem dec_Entry {f:Nat} {r:List GV} (h:TypedR Tryd.prog f 48 r):∃ i:Entry,r=i.g∧i.I:=by
  obtain ⟨hl,hf⟩:=dec_fields Tryd.underlying48 h
  match r,hl with
  | [g0,g1],_ =>
    obtain ⟨n0,rfl,h0⟩:=dec_int (hf 0 _ g0 rfl rfl)
    obtain ⟨n1,rfl,h1⟩:=dec_int (hf 1 _ g1 rfl rfl)
    exact ⟨⟨n0,n1⟩,rfl,h0,h1⟩
theorem dec_Entries {f:Nat} {g:GV} (h:TypedG Tryd.prog f 44 g):∃ l,g=.sl 2 (List.map Entry.g l)∧(∀ x∈l,Entry.I x)∧l.length*16≤140737488351232 :=
  dec_list Tryd.underlying44 cells_Entry bytes_Entry h (fun _ _ h=>dec_Entry h)
theorem cells_Part:Tryd.prog.cellsOf 46=4:=by kernel_rfl
theorem bytes_Part:Tryd.prog.bytesOf 46=64:=by kernel_rfl
theorem dec_Part {f:Nat} {r:List GV} (h:TypedR Tryd.prog f 46 r):∃ i:Part,r=i.g∧i.I:=by
  obtain ⟨hl,hf⟩:=dec_fields Tryd.underlying46 h
  match r,hl with
  | [g0,g1,g2,g3],_ =>
    obtain ⟨n0,rfl,h0,l0⟩:=dec_Code (hf 0 _ g0 rfl rfl)
    obtain ⟨n1,rfl,h1,l1⟩:=dec_Entries (hf 1 _ g1 rfl rfl)
    obtain ⟨n2,rfl,h2⟩:=dec_int (hf 2 _ g2 rfl rfl)
    obtain ⟨n3,rfl,h3⟩:=dec_int (hf 3 _ g3 rfl rfl)
    exact ⟨⟨n0,n1,n2,n3⟩,rfl,h0,h1,h2,h3,l0,l1⟩
theorem dec_Parts {f:Nat} {g:GV} (h:TypedG Tryd.prog f 26 g):∃ l,g=.sl 4 (List.map Part.g l)∧(∀ x∈l,Part.I x)∧l.length*64≤140737488351232 :=
  dec_list Tryd.underlying26 cells_Part bytes_Part h (fun _ _ h=>dec_Part h)
theorem cells_Image:Tryd.prog.cellsOf 28=1:=by kernel_rfl
theorem dec_Image {f:Nat} {r:List GV} (h:TypedR Tryd.prog f 28 r):∃ i:Image,r=Image.g i∧Image.I i:=by
  obtain ⟨hl,hf⟩:=dec_fields Tryd.underlying28 h
  match r,hl with
  | [g0],_ =>
    obtain ⟨n0,rfl,h0,l0⟩:=dec_Parts (hf 0 _ g0 rfl rfl)
    exact ⟨n0,rfl,h0,l0⟩
theorem cells_Arr:Tryd.prog.cellsOf 112=2:=by kernel_rfl
theorem bytes_Arr:Tryd.prog.bytesOf 112=24:=by kernel_rfl
theorem dec_Arr {f:Nat} {r:List GV} (h:TypedR Tryd.prog f 112 r):∃ i:Arr,r=i.g∧i.I:=by
  obtain ⟨hl,hf⟩:=dec_fields Tryd.underlying112 h
  match r,hl with
  | [g0,g1],_ =>
    obtain ⟨n0,rfl,h0⟩:=dec_str (hf 0 _ g0 rfl rfl)
    obtain ⟨n1,rfl,h1⟩:=dec_int (hf 1 _ g1 rfl rfl)
    exact ⟨⟨n0,n1⟩,rfl,h0,h1⟩
theorem dec_Arrs {f:Nat} {g:GV} (h:TypedG Tryd.prog f 71 g):∃ l,g=.sl 2 (List.map Arr.g l)∧(∀ x∈l,Arr.I x)∧l.length*24≤140737488351232 :=
  dec_list Tryd.underlying71 cells_Arr bytes_Arr h (fun _ _ h=>dec_Arr h)
theorem cells_ints:Tryd.prog.cellsOf 30=1:=by kernel_rfl
theorem bytes_ints:Tryd.prog.bytesOf 30=24:=by kernel_rfl
theorem dec_intsR {f:Nat} {r:List GV} (h:TypedR Tryd.prog f 30 r):∃ n,r=intsG n∧intsI n:=by
  obtain ⟨g,rfl,h'⟩:=dec_one Tryd.underlying30 (fun _ e=>by cases e) h
  obtain ⟨n,rfl,hn⟩:=dec_ints h'
  exact ⟨n,rfl,hn⟩
theorem dec_intss {f:Nat} {g:GV} (h:TypedG Tryd.prog f 91 g):∃ l,g=.sl 1 (List.map intsG l)∧(∀ x∈l,intsI x)∧l.length*24≤140737488351232 :=
  dec_list Tryd.underlying91 cells_ints bytes_ints h (fun _ _ h=>dec_intsR h)
theorem cells_Cells:Tryd.prog.cellsOf 93=2:=by kernel_rfl
theorem bytes_Cells:Tryd.prog.bytesOf 93=48:=by kernel_rfl
theorem dec_Cells {f:Nat} {r:List GV} (h:TypedR Tryd.prog f 93 r):∃ i:Cells,r=i.g∧i.I:=by
  obtain ⟨hl,hf⟩:=dec_fields Tryd.underlying93 h
  match r,hl with
  | [g0,g1],_ =>
    obtain ⟨n0,rfl,h0,l0⟩:=dec_ints (hf 0 _ g0 rfl rfl)
    obtain ⟨n1,rfl,h1,l1⟩:=dec_intss (hf 1 _ g1 rfl rfl)
    exact ⟨⟨n0,n1⟩,rfl,⟨h0,l0⟩,h1,l1⟩
theorem dec_Cellss {f:Nat} {g:GV} (h:TypedG Tryd.prog f 29 g):∃ l,g=.sl 2 (List.map Cells.g l)∧(∀ x∈l,Cells.I x)∧l.length*48≤140737488351232 :=
  dec_list Tryd.underlying29 cells_Cells bytes_Cells h (fun _ _ h=>dec_Cells h)
theorem cells_Expr:Tryd.prog.cellsOf 85=5:=by kernel_rfl
theorem bytes_Expr:Tryd.prog.bytesOf 85=72:=by kernel_rfl
theorem dec_Expr:∀ (f:Nat) (r:List GV),TypedR Tryd.prog f 85 r→∃ i:Barb.Expr,r=i.g∧i.I:=by
  intro f
  induction f with
  | zero =>
    intro r h
    obtain ⟨hl,hf⟩:=dec_fields Tryd.underlying85 h
    match r,hl with
    | [g0,g1,g2,g3,g4],_ =>
      have h0:=hf 0 _ g0 rfl rfl
      simp only[TypedG] at h0
  | succ f ih =>
    intro r h
    obtain ⟨hl,hf⟩:=dec_fields Tryd.underlying85 h
    match r,hl with
    | [g0,g1,g2,g3,g4],_ =>
      obtain ⟨n0,rfl,h0⟩:=dec_int (hf 0 _ g0 rfl rfl)
      obtain ⟨n1,rfl,h1⟩:=dec_int (hf 1 _ g1 rfl rfl)
      obtain ⟨n2,rfl,h2⟩:=dec_str (hf 2 _ g2 rfl rfl)
      obtain ⟨n3,rfl,h3⟩:=dec_str (hf 3 _ g3 rfl rfl)
      obtain ⟨xs,rfl,hx,hr⟩:=dec_sl' Tryd.underlying83 (hf 4 _ g4 rfl rfl)
      obtain ⟨l,rfl,hok⟩:=list_of (e:=Barb.Expr.g) (ok:=Barb.Expr.I) xs (fun r hr'=>ih r (hr r hr'))
      rw[cells_Expr]
      exact ⟨Barb.Expr.mk n0 n1 n2 n3 l,by rw[Barb.Expr.g,Barb.Expr.gs_map],Barb.Expr.I.mk h0 h1 h2 h3 (by rw[bytes_Expr] at hx;simpa [reachBytes] using hx) hok⟩
theorem dec_Exprs {f:Nat} {g:GV} (h:TypedG Tryd.prog f 83 g):∃ l,g=.sl 5 (List.map Barb.Expr.g l)∧(∀ x∈l,Barb.Expr.I x)∧l.length*72≤140737488351232 :=
  dec_list Tryd.underlying83 cells_Expr bytes_Expr h (fun f r h=>dec_Expr f r h)
theorem cells_Stmt:Tryd.prog.cellsOf 88=5:=by kernel_rfl
theorem bytes_Stmt:Tryd.prog.bytesOf 88=96:=by kernel_rfl
theorem dec_Stmt:∀ (f:Nat) (r:List GV),TypedR Tryd.prog f 88 r→∃ i:Barb.Stmt,r=i.g∧i.I:=by
  intro f
  induction f with
  | zero =>
    intro r h
    obtain ⟨hl,hf⟩:=dec_fields Tryd.underlying88 h
    match r,hl with
    | [g0,g1,g2,g3,g4],_ =>
      have h0:=hf 0 _ g0 rfl rfl
      simp only[TypedG] at h0
  | succ f ih =>
    intro r h
    obtain ⟨hl,hf⟩:=dec_fields Tryd.underlying88 h
    match r,hl with
    | [g0,g1,g2,g3,g4],_ =>
      obtain ⟨n0,rfl,h0⟩:=dec_int (hf 0 _ g0 rfl rfl)
      obtain ⟨n1,rfl,h1⟩:=dec_str (hf 1 _ g1 rfl rfl)
      obtain ⟨xs,rfl,h2,l2⟩:=dec_Exprs (hf 2 _ g2 rfl rfl)
      obtain ⟨bs,rfl,hb,hbr⟩:=dec_sl' Tryd.underlying86 (hf 3 _ g3 rfl rfl)
      obtain ⟨es,rfl,he,her⟩:=dec_sl' Tryd.underlying86 (hf 4 _ g4 rfl rfl)
      obtain ⟨b,rfl,hbok⟩:=list_of (e:=Barb.Stmt.g) (ok:=Barb.Stmt.I) bs (fun r hr'=>ih r (hbr r hr'))
      obtain ⟨e,rfl,heok⟩:=list_of (e:=Barb.Stmt.g) (ok:=Barb.Stmt.I) es (fun r hr'=>ih r (her r hr'))
      rw[cells_Stmt]
      exact ⟨Barb.Stmt.mk n0 n1 xs b e,by rw[Barb.Stmt.g,Barb.Expr.gs_map,Barb.Stmt.gs_map,Barb.Stmt.gs_map],Barb.Stmt.I.mk h0 h1 l2 (by rw[bytes_Stmt] at hb;simpa [reachBytes] using hb) (by rw[bytes_Stmt] at he;simpa [reachBytes] using he) h2 hbok heok⟩
theorem dec_Stmts {f:Nat} {g:GV} (h:TypedG Tryd.prog f 86 g):∃ l,g=.sl 5 (List.map Barb.Stmt.g l)∧(∀ x∈l,Barb.Stmt.I x)∧l.length*96≤140737488351232 :=
  dec_list Tryd.underlying86 cells_Stmt bytes_Stmt h (fun f r h=>dec_Stmt f r h)
theorem cells_Fun:Tryd.prog.cellsOf 90=4:=by kernel_rfl
theorem bytes_Fun:Tryd.prog.bytesOf 90=72:=by kernel_rfl
theorem dec_Fun {f:Nat} {r:List GV} (h:TypedR Tryd.prog f 90 r):∃ i:Fun,r=i.g∧i.I:=by
  obtain ⟨hl,hf⟩:=dec_fields Tryd.underlying90 h
  match r,hl with
  | [g0,g1,g2,g3],_ =>
    obtain ⟨n0,rfl,h0⟩:=dec_str (hf 0 _ g0 rfl rfl)
    obtain ⟨n1,rfl⟩:=dec_bool (hf 1 _ g1 rfl rfl)
    obtain ⟨n2,rfl,h2,l2⟩:=dec_strs (hf 2 _ g2 rfl rfl)
    obtain ⟨n3,rfl,h3,l3⟩:=dec_Stmts (hf 3 _ g3 rfl rfl)
    exact ⟨⟨n0,n1,n2,n3⟩,by rw[Fun.g,Barb.Stmt.gs_map],h0,⟨h2,l2⟩,l3,h3⟩
theorem dec_Funs {f:Nat} {g:GV} (h:TypedG Tryd.prog f 72 g):∃ l,g=.sl 4 (List.map Fun.g l)∧(∀ x∈l,Fun.I x)∧l.length*72≤140737488351232 :=
  dec_list Tryd.underlying72 cells_Fun bytes_Fun h (fun _ _ h=>dec_Fun h)
theorem cells_Unit:Tryd.prog.cellsOf 74=4:=by kernel_rfl
theorem bytes_Unit:Tryd.prog.bytesOf 74=88:=by kernel_rfl
theorem dec_Unit {f:Nat} {r:List GV} (h:TypedR Tryd.prog f 74 r):∃ i:Barb.Unit,r=i.g∧i.I:=by
  obtain ⟨hl,hf⟩:=dec_fields Tryd.underlying74 h
  match r,hl with
  | [g0,g1,g2,g3],_ =>
    obtain ⟨n0,rfl,h0⟩:=dec_str (hf 0 _ g0 rfl rfl)
    obtain ⟨n1,rfl,h1,l1⟩:=dec_strs (hf 1 _ g1 rfl rfl)
    obtain ⟨n2,rfl,h2,l2⟩:=dec_Arrs (hf 2 _ g2 rfl rfl)
    obtain ⟨n3,rfl,h3,l3⟩:=dec_Funs (hf 3 _ g3 rfl rfl)
    exact ⟨⟨n0,n1,n2,n3⟩,rfl,h0,⟨h1,l1⟩,h2,l2,h3,l3⟩
theorem dec_Units {f:Nat} {g:GV} (h:TypedG Tryd.prog f 25 g):∃ l,g=.sl 4 (List.map Unit.g l)∧(∀ x∈l,Unit.I x)∧l.length*88≤140737488351232 :=
  dec_list Tryd.underlying25 cells_Unit bytes_Unit h (fun _ _ h=>dec_Unit h)
end Go.Proofs.YtijdegmamdhcbaaDoor
