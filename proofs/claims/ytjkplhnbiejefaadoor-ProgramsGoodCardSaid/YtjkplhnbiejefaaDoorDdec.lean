/-
  Data of this seat's types are the plain types of package api.
-/
import Derived.Test.YtjkplhnbiejefaaDoorDtypes
import Derived.Test.YtjkplhnbiejefaaDoorDseat
namespace Go.Proofs.YtjkplhnbiejefaaDoor
open Go Go.Dm Barb

theorem dec_int {f:Nat} {g:GV} (h:TypedG Tryd.prog f 3 g):∃ n,g=.int n∧I64 n:=dec_lit Tryd.underlying3 h
theorem dec_str {f:Nat} {g:GV} (h:TypedG Tryd.prog f 9 g):∃ n,g=.str n∧n.length≤maxLen:=dec_txt Tryd.underlying9 h
theorem dec_bool {f:Nat} {g:GV} (h:TypedG Tryd.prog f 4 g):∃ n,g=.bool n:=dec_boo Tryd.underlying4 h

theorem cells_int:Tryd.prog.cellsOf 3=1:=by kernel_rfl
theorem bytes_int:Tryd.prog.bytesOf 3=8:=by kernel_rfl
theorem dec_intR {f:Nat} {r:List GV} (h:TypedR Tryd.prog f 3 r):∃ n,r=intG n∧I64 n:=by
 obtain ⟨g,rfl,h'⟩:=dec_one Tryd.underlying3 (fun _ e=>by cases e) h
 obtain ⟨n,rfl,hn⟩:=dec_int h'
 exact ⟨n,rfl,hn⟩
theorem dec_ints {f:Nat} {g:GV} (h:TypedG Tryd.prog f 66 g):∃ l,g=.sl 1 (List.map intG l)∧(∀ x∈l,I64 x)∧l.length*8≤140737488351232 :=
  dec_list Tryd.underlying66 cells_int bytes_int h (fun _ _ h=>dec_intR h)
theorem cells_str:Tryd.prog.cellsOf 9=1:=by kernel_rfl
theorem bytes_str:Tryd.prog.bytesOf 9=16:=by kernel_rfl
theorem dec_strR {f:Nat} {r:List GV} (h:TypedR Tryd.prog f 9 r):∃ n,r=strG n∧List.length n≤maxLen:=by
  obtain ⟨g,rfl,h'⟩:=dec_one Tryd.underlying9 (fun _ e=>by cases e) h
  obtain ⟨n,rfl,hn⟩:=dec_str h'
  exact ⟨n,rfl,hn⟩
theorem dec_strs {f:Nat} {g:GV} (h:TypedG Tryd.prog f 35 g):∃ l,g=.sl 1 (List.map strG l)∧(∀ x∈l,List.length x≤maxLen)∧l.length*16≤140737488351232 :=
  dec_list Tryd.underlying35 cells_str bytes_str h (fun _ _ h=>dec_strR h)
theorem cells_Arr:Tryd.prog.cellsOf 45=2:=by kernel_rfl
theorem bytes_Arr:Tryd.prog.bytesOf 45=24:=by kernel_rfl
theorem dec_Arr {f:Nat} {r:List GV} (h:TypedR Tryd.prog f 45 r):∃ i:Arr,r=i.g∧i.I:=by
  obtain ⟨hl,hf⟩:=dec_fields Tryd.underlying45 h
  match r,hl with
  | [g0,g1],_ =>
    obtain ⟨n0,rfl,h0⟩:=dec_str (hf 0 _ g0 rfl rfl)
    obtain ⟨n1,rfl,h1⟩:=dec_int (hf 1 _ g1 rfl rfl)
    exact ⟨⟨n0,n1⟩,rfl,h0,h1⟩
theorem dec_Arrs {f:Nat} {g:GV} (h:TypedG Tryd.prog f 38 g):∃ l,g=.sl 2 (List.map Arr.g l)∧(∀ x∈l,Arr.I x)∧l.length*24≤140737488351232 :=
  dec_list Tryd.underlying38 cells_Arr bytes_Arr h (fun _ _ h=>dec_Arr h)
theorem cells_Expr:Tryd.prog.cellsOf 29=5:=by kernel_rfl
theorem bytes_Expr:Tryd.prog.bytesOf 29=72:=by kernel_rfl
theorem dec_Expr:∀ (f:Nat) (r:List GV),TypedR Tryd.prog f 29 r→∃ i:Barb.Expr,r=i.g∧i.I:=by
  intro f
  induction f with
  | zero =>
    intro r h
    obtain ⟨hl,hf⟩:=dec_fields Tryd.underlying29 h
    match r,hl with
    | [g0,g1,g2,g3,g4],_ =>
      have h0:=hf 0 _ g0 rfl rfl
      simp only[TypedG] at h0
  | succ f ih =>
    intro r h
    obtain ⟨hl,hf⟩:=dec_fields Tryd.underlying29 h
    match r,hl with
    | [g0,g1,g2,g3,g4],_ =>
      obtain ⟨n0,rfl,h0⟩:=dec_int (hf 0 _ g0 rfl rfl)
      obtain ⟨n1,rfl,h1⟩:=dec_int (hf 1 _ g1 rfl rfl)
      obtain ⟨n2,rfl,h2⟩:=dec_str (hf 2 _ g2 rfl rfl)
      obtain ⟨n3,rfl,h3⟩:=dec_str (hf 3 _ g3 rfl rfl)
      obtain ⟨xs,rfl,hx,hr⟩:=dec_sl' Tryd.underlying27 (hf 4 _ g4 rfl rfl)
      obtain ⟨l,rfl,hok⟩:=list_of (e:=Barb.Expr.g) (ok:=Barb.Expr.I) xs (fun r hr'=>ih r (hr r hr'))
      rw[cells_Expr]
      exact ⟨Barb.Expr.mk n0 n1 n2 n3 l,by rw[Barb.Expr.g,Barb.Expr.gs_map],Barb.Expr.I.mk h0 h1 h2 h3 (by rw[bytes_Expr] at hx;simpa [reachBytes] using hx) hok⟩
theorem dec_Exprs {f:Nat} {g:GV} (h:TypedG Tryd.prog f 27 g):∃ l,g=.sl 5 (List.map Barb.Expr.g l)∧(∀ x∈l,Barb.Expr.I x)∧l.length*72≤140737488351232 :=
  dec_list Tryd.underlying27 cells_Expr bytes_Expr h (fun f r h=>dec_Expr f r h)
theorem cells_Stmt:Tryd.prog.cellsOf 34=5:=by kernel_rfl
theorem bytes_Stmt:Tryd.prog.bytesOf 34=96:=by kernel_rfl
theorem dec_Stmt:∀ (f:Nat) (r:List GV),TypedR Tryd.prog f 34 r→∃ i:Barb.Stmt,r=i.g∧i.I:=by
  intro f
  induction f with
  | zero =>
    intro r h
    obtain ⟨hl,hf⟩:=dec_fields Tryd.underlying34 h
    match r,hl with
    | [g0,g1,g2,g3,g4],_ =>
      have h0:=hf 0 _ g0 rfl rfl
      simp only[TypedG] at h0
  | succ f ih =>
    intro r h
    obtain ⟨hl,hf⟩:=dec_fields Tryd.underlying34 h
    match r,hl with
    | [g0,g1,g2,g3,g4],_ =>
      obtain ⟨n0,rfl,h0⟩:=dec_int (hf 0 _ g0 rfl rfl)
      obtain ⟨n1,rfl,h1⟩:=dec_str (hf 1 _ g1 rfl rfl)
      obtain ⟨xs,rfl,h2,l2⟩:=dec_Exprs (hf 2 _ g2 rfl rfl)
      obtain ⟨bs,rfl,hb,hbr⟩:=dec_sl' Tryd.underlying32 (hf 3 _ g3 rfl rfl)
      obtain ⟨es,rfl,he,her⟩:=dec_sl' Tryd.underlying32 (hf 4 _ g4 rfl rfl)
      obtain ⟨b,rfl,hbok⟩:=list_of (e:=Barb.Stmt.g) (ok:=Barb.Stmt.I) bs (fun r hr'=>ih r (hbr r hr'))
      obtain ⟨e,rfl,heok⟩:=list_of (e:=Barb.Stmt.g) (ok:=Barb.Stmt.I) es (fun r hr'=>ih r (her r hr'))
      rw[cells_Stmt]
      exact ⟨Barb.Stmt.mk n0 n1 xs b e,by rw[Barb.Stmt.g,Barb.Expr.gs_map,Barb.Stmt.gs_map,Barb.Stmt.gs_map],Barb.Stmt.I.mk h0 h1 l2 (by rw[bytes_Stmt] at hb;simpa [reachBytes] using hb) (by rw[bytes_Stmt] at he;simpa [reachBytes] using he) h2 hbok heok⟩
theorem dec_Stmts {f:Nat} {g:GV} (h:TypedG Tryd.prog f 32 g):∃ l,g=.sl 5 (List.map Barb.Stmt.g l)∧(∀ x∈l,Barb.Stmt.I x)∧l.length*96≤140737488351232 :=
  dec_list Tryd.underlying32 cells_Stmt bytes_Stmt h (fun f r h=>dec_Stmt f r h)
theorem cells_Fun:Tryd.prog.cellsOf 37=4:=by kernel_rfl
theorem bytes_Fun:Tryd.prog.bytesOf 37=72:=by kernel_rfl
theorem dec_Fun {f:Nat} {r:List GV} (h:TypedR Tryd.prog f 37 r):∃ i:Fun,r=i.g∧i.I:=by
  obtain ⟨hl,hf⟩:=dec_fields Tryd.underlying37 h
  match r,hl with
  | [g0,g1,g2,g3],_ =>
    obtain ⟨n0,rfl,h0⟩:=dec_str (hf 0 _ g0 rfl rfl)
    obtain ⟨n1,rfl⟩:=dec_bool (hf 1 _ g1 rfl rfl)
    obtain ⟨n2,rfl,h2,l2⟩:=dec_strs (hf 2 _ g2 rfl rfl)
    obtain ⟨n3,rfl,h3,l3⟩:=dec_Stmts (hf 3 _ g3 rfl rfl)
    exact ⟨⟨n0,n1,n2,n3⟩,by rw[Fun.g,Barb.Stmt.gs_map],h0,⟨h2,l2⟩,l3,h3⟩
theorem dec_Funs {f:Nat} {g:GV} (h:TypedG Tryd.prog f 39 g):∃ l,g=.sl 4 (List.map Fun.g l)∧(∀ x∈l,Fun.I x)∧l.length*72≤140737488351232 :=
  dec_list Tryd.underlying39 cells_Fun bytes_Fun h (fun _ _ h=>dec_Fun h)
theorem cells_Unit:Tryd.prog.cellsOf 41=4:=by kernel_rfl
theorem bytes_Unit:Tryd.prog.bytesOf 41=88:=by kernel_rfl
theorem dec_Unit {f:Nat} {r:List GV} (h:TypedR Tryd.prog f 41 r):∃ i:Barb.Unit,r=i.g∧i.I:=by
  obtain ⟨hl,hf⟩:=dec_fields Tryd.underlying41 h
  match r,hl with
  | [g0,g1,g2,g3],_ =>
    obtain ⟨n0,rfl,h0⟩:=dec_str (hf 0 _ g0 rfl rfl)
    obtain ⟨n1,rfl,h1,l1⟩:=dec_strs (hf 1 _ g1 rfl rfl)
    obtain ⟨n2,rfl,h2,l2⟩:=dec_Arrs (hf 2 _ g2 rfl rfl)
    obtain ⟨n3,rfl,h3,l3⟩:=dec_Funs (hf 3 _ g3 rfl rfl)
    exact ⟨⟨n0,n1,n2,n3⟩,rfl,h0,⟨h1,l1⟩,h2,l2,h3,l3⟩
theorem dec_Units {f:Nat} {g:GV} (h:TypedG Tryd.prog f 23 g):∃ l,g=.sl 4 (List.map Unit.g l)∧(∀ x∈l,Unit.I x)∧l.length*88≤140737488351232 :=
  dec_list Tryd.underlying23 cells_Unit bytes_Unit h (fun _ _ h=>dec_Unit h)
end Go.Proofs.YtjkplhnbiejefaaDoor
