/-
  What the document says is wrong with a unit, and its words: the contracts.
-/
import Derived.Test.YtjkplhnbiejefaaDoorFt
namespace Barb
open Go Go.Dm Go.Eng
abbrev Unit.d (u:Unit):List D:=[.g (.str u.name),.g (.sl 1 (u.vars.map strG)),.g (.sl 2 (u.arrays.map Arr.g)),.g (.sl 4 (u.funcs.map Fun.g))]
theorem Fun.g_eq (f:Fun):f.g=[.str f.name,.bool f.isOpen,.sl 1 (f.params.map strG),.sl 5 (f.body.map Stmt.g)]:=by
 rw[Fun.g,Stmt.gs_map]
abbrev Fun.d (f:Fun):List D:=[.g (.str f.name),.g (.bool f.isOpen),.g (.sl 1 (f.params.map strG)),.g (.sl 5 (f.body.map Stmt.g))]
theorem nameE_ok {s:Str} (h:identP s):nameE s=0:=by unfold nameE;rw[if_pos h]
theorem nameE_no {s:Str} (h:¬identP s):nameE s=4:=by unfold nameE;rw[if_neg h]
theorem manyN_succ {l:List Fun} {i:Nat} (h:i < l.length):manyN (l.take (i+1))=manyN (l.take i)+stmtsN 12 l[i].body:=by
 unfold manyN;rw[take_one h,List.map_append,List.sum_append];simp
end Barb
namespace Go.Proofs.YtjkplhnbiejefaaDoor
open Go Go.Dm Go.Eng Barb


theorem Words_any (u:Barb.Unit) (h1:u.vars.length≤8) (h2:∀ a∈u.arrays,1≤a.size∧a.size≤10) (h3:u.arrays.length≤3):CT Tryd.prog gl 9 [.agg u.d] (Is (.g (.int (unitWords u)))):=by
 refine enter hT hF hM Tryd.func9 rfl 22 rfl (by kernel_rfl) [.tmp 2] rfl [.agg u.d] rfl _ ?_
 refine loopR (ι:=Nat) (fun i=>[(12,.g (.int (i:Int))),(3,.g (.int (u.vars.length+sizes (u.arrays.take i)))),(1,.ptr 0 0)]) (fun _=>[.blk u.d 41]) (fun i=>i≤u.arrays.length) (fun i=>u.arrays.length - i)
  ⟨0,[.old 0],⟨rfl,.inl rfl,.inr ⟨lk rfl,lkI (by simp[sizes]),lk rfl,trivial⟩,rfl⟩,Nat.zero_le _⟩ ?_
 intro Rd hRd i hi
 refine ⟨fun h5=>?_,fun h5=>?_⟩
 ·have h6:i < u.arrays.length:=by simp at h5;omega
  have h7:=sizes_le (l:=u.arrays.take i) (fun a ha=>h2 a (List.mem_of_mem_take ha))
  have h8:=sizes_succ h6
  have h9:=h2 _ (List.getElem_mem h6)
  have h10:(u.arrays.take i).length≤3:=Nat.le_trans (List.length_take_le' _ _) h3
  refine ⟨i,_,rfl,gm h6,?_⟩
  refine ⟨_,I64.wrap (by unfold I64;omega),?_⟩
  refine ⟨_,I64.wrap (by unfold I64;omega),?_⟩
  exact hRd _ _ _ ⟨i+1,[.old 0],⟨rfl,.inl rfl,.inr ⟨lk rfl,lkI (by omega),lk rfl,trivial⟩,rfl⟩,h6,by omega⟩
 ·have h6:i=u.arrays.length:=by simp at h5;omega
  exact ⟨rfl,retI (by rw[h6,List.take_length];rfl)⟩
end Go.Proofs.YtjkplhnbiejefaaDoor
