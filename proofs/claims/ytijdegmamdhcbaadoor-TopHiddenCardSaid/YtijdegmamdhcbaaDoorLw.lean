/-
  link.With: the contract.
-/
import Derived.Test.YtijdegmamdhcbaaDoorMd
import Derived.Test.YtijdegmamdhcbaaDoorSq
namespace Go.Dm
open Go Go.Eng Go.RowKit
theorem turnJoin {G:Gl} {n:Nat} {K:St→Prop} {st:St} (h:TurnP G n (TurnP G n K) st):TurnP G n K st:=by
 obtain ⟨st1,h1,st2,h2,k⟩:=h
 exact ⟨st2,fun C a w e hr=>h2 C a w e (h1 C a w e hr),k⟩
theorem retAggI {h:Heap} {i k:Nat} {xs ys:List (List GV)} {t:TypeId} {a b:Int} (hi:h[i]?=some (.row xs t k)) (hx:xs=ys) (hab:a=b):RetTo (Is (.tuple [.agg [.g (.sl k ys)],.g (.int b)])) h (.tuple [.agg [.row i],.g (.int a)]):=by
 subst hx;subst hab
 refine retIs (.inl ?_)
 simp only[conv,List.map_cons,List.map_nil,kp,hi]
end Go.Dm
namespace Barb
open Go Go.Dm Go.Eng
def newPart (m:List Part) (l:List Instr) (es:List Entry) (n:Int):Part:=⟨l,es,imgWords m,IntKind.i64.wrap (imgWords m+n)⟩
def linkV (m:List Part) (l:List Instr) (es:List Entry) (n:Int):List Part:=m++[newPart m l es n]
theorem linkV_len (m:List Part) (l:List Instr) (es:List Entry) (n:Int):(linkV m l es n).length=m.length+1:=by simp[linkV]
theorem linkV_at {m:List Part} {l:List Instr} {es:List Entry} {n:Int} {i:Nat} (h:i < m.length):((linkV m l es n).map Part.g)[i]?=some (Part.g m[i]):=by
 unfold linkV
 rw[List.map_append,List.getElem?_append_left (by simpa using h)]
 exact gm h
theorem linkV_last {m:List Part} {l:List Instr} {es:List Entry} {n:Int}:((linkV m l es n).map Part.g)[(m.map Part.g).length]?=some (Part.g (newPart m l es n)):=by
 unfold linkV
 rw[List.map_append,List.getElem?_append_right (Nat.le_refl _),Nat.sub_self]
 rfl
theorem roomW {n b:Nat} (h:n*b≤140737488351232) (h':n≤140737488351232):n≤maxLen∧n*b≤140737488355328:=by unfold maxLen;omega
end Barb
namespace Go.Proofs.YtijdegmamdhcbaaDoor
open Go Go.Dm Go.Eng Barb
theorem stEq_Entry:StEq Tryd.prog 48 [0,0] :=
 stEq_ints (n:=2) (by kernel_rfl) (by kernel_rfl) (by kernel_rfl) (by kernel_rfl) (by kernel_rfl)

set_option maxRecDepth 20000 in
theorem With_any (m:Image) (hm:m.length≤5) (l:List Barb.Instr) (hl:l.length*32≤140737488351232) (es:List Entry) (hes:es.length*16≤140737488351232) (n:Int) :
  CT Tryd.prog gl 20 [.agg (imgD m),.g (.sl 4 (l.map Instr.g)),.g (.sl 2 (es.map Entry.g)),.g (.int n)] (Is (.tuple [.agg (imgD (linkV m l es n)),.g (.int (m.length:Int))])):=by
 have lm:(m.map Part.g).length=m.length:=by simp
 have ll:(l.map Instr.g).length=l.length:=by simp
 have le:(es.map Entry.g).length=es.length:=by simp
 have lv:=linkV_len m l es n
 have lg:((linkV m l es n).map Part.g).length=m.length+1:=by simpa using lv
 refine enterT [3] hT hF hM Tryd.func20 rfl 44 rfl (by kernel_rfl) [.cell 8 28,.tmp 9] rfl [.agg (imgD m),.g (.sl 4 (l.map Instr.g)),.g (.sl 2 (es.map Entry.g)),.g (.int n)] rfl _ ?_
 refine ⟨fun h=>?_,fun h=>?_⟩
 ·obtain ⟨k,hk⟩:∃ k,m.length=k+1:=⟨m.length - 1,by omega⟩
  have hkl:k < m.length:=by omega
  have hlo:m[k].hi=imgWords m:=by unfold imgWords;rw[hk,fromAt_succ hkl]
  refine ⟨by unfold I64;omega,k,_,(show D.g (.int (((m.map Part.g).length:Int) - 1))=D.g (.int (k:Int)) by rw[lm,hk];simp),gm hkl,?_⟩
  refine ⟨roomW (b:=64) (by omega) (by omega),roomW (b:=32) (by omega) (by omega),roomW (b:=16) (by omega) (by omega),_,rfl,?_⟩
  refine ⟨[[.sl 4 (l.map Instr.g),.sl 2 (es.map Entry.g),.int m[k].hi,.int (IntKind.i64.wrap (m[k].hi+n))]],rfl,rfl,⟨rfl,rfl,rfl,rfl,trivial⟩,?_⟩
  refine ⟨roomW (by simp only[List.length_cons,List.length_nil];omega) (by simp only[List.length_cons,List.length_nil];omega),?_⟩
  refine turnJoin (turnTo [.old 0,.old 1] [(4,.ptr 0 0),(8,.ptr 1 0)] [.blk [.g (.sl 4 ((linkV m l es n).map Part.g))] 28,.blk [.nils] 28] ⟨rfl,.inr ⟨⟨rfl,.inr ⟨lkL ?_,trivial⟩⟩,⟨rfl,.inl rfl⟩,trivial⟩,.inl rfl,rfl⟩ ?_)
  ·unfold linkV newPart
   rw[List.map_append,← hlo];rfl
  refine turnTo [.old 1] [(4,.fp [.sl 4 ((linkV m l es n).map Part.g)] 0),(8,.ptr 0 0)] [.blk [.nils] 28] ⟨rfl,.inl rfl,.inl rfl,rfl⟩ ?_
  refine ⟨some 5000,rfl,by unfold I64;omega,rfl,retIs (.inr (.inr ⟨lk rfl,lkI (by omega),trivial⟩))⟩
 ·have hz:m.length=0:=by omega
  have hlo:0=imgWords m:=by unfold imgWords;rw[hz];rfl
  refine ⟨roomW (b:=64) (by omega) (by omega),roomW (b:=32) (by omega) (by omega),roomW (b:=16) (by omega) (by omega),_,rfl,?_⟩
  refine ⟨[[.sl 4 (l.map Instr.g),.sl 2 (es.map Entry.g),.int 0,.int (IntKind.i64.wrap (0+n))]],rfl,rfl,⟨rfl,rfl,rfl,rfl,trivial⟩,?_⟩
  refine ⟨roomW (by simp only[List.length_cons,List.length_nil];omega) (by simp only[List.length_cons,List.length_nil];omega),?_⟩
  refine turnJoin (turnTo [.old 0,.old 1] [(4,.ptr 0 0),(8,.ptr 1 0)] [.blk [.g (.sl 4 ((linkV m l es n).map Part.g))] 28,.blk [.nils] 28] ⟨rfl,.inr ⟨⟨rfl,.inr ⟨lkL ?_,trivial⟩⟩,⟨rfl,.inl rfl⟩,trivial⟩,.inl rfl,rfl⟩ ?_)
  ·unfold linkV newPart
   rw[List.map_append,← hlo];rfl
  refine turnTo [.old 1] [(4,.fp [.sl 4 ((linkV m l es n).map Part.g)] 0),(8,.ptr 0 0)] [.blk [.nils] 28] ⟨rfl,.inl rfl,.inl rfl,rfl⟩ ?_
  refine ⟨some 5000,rfl,by unfold I64;omega,rfl,retIs (.inr (.inr ⟨lk rfl,lkI (by omega),trivial⟩))⟩
end Go.Proofs.YtijdegmamdhcbaaDoor
