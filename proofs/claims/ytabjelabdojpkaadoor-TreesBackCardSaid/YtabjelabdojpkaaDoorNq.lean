/-
  The names of a program: the contracts of package names and of what the document says of names.
-/
import Derived.Test.YtabjelabdojpkaaDoorTq
import Derived.Test.YtabjelabdojpkaaDoorSpec2
import Derived.Test.YtabjelabdojpkaaDoorCl
namespace Barb
open Go Go.Dm Go.Eng
abbrev scG (p:List Unit) (u:Unit) (f:Fun):List GV:=[.sl 4 (p.map Unit.g),.str u.name,.sl 1 (u.vars.map strG),.sl 2 (u.arrays.map Arr.g),.sl 4 (u.funcs.map Fun.g),.str f.name,.bool f.isOpen,.sl 1 (f.params.map strG),.sl 5 (f.body.map Stmt.g)]
theorem Fun.g_open {f:Fun} {b:Bool} (h:f.isOpen=b):f.g=[.str f.name,.bool b,.sl 1 (f.params.map strG),.sl 5 (f.body.map Stmt.g)]:=by rw[Fun.g_eq,h]
theorem find_idx {α:Type} (q:α→Prop) [DecidablePred q]:∀ (l:List α),(idx q l=-1∧l.find? (fun x=>decide (q x))=none)∨∃ (i:Nat) (hi:i < l.length),idx q l=(i:Int)∧l.find? (fun x=>decide (q x))=some l[i]:=by
 intro l
 rcases idx_cases q l with ⟨h1,h2⟩ | ⟨i,hi,h1,h2,h3⟩
 ·exact .inl ⟨h1,by rw[List.find?_eq_none];intro x hx;simpa using h2 x hx⟩
 ·refine .inr ⟨i,hi,h1,?_⟩
  rw[List.find?_eq_some_iff_getElem]
  exact ⟨by simpa using h2,i,hi,rfl,fun j hj=>by simpa using h3 j (by omega) hj⟩
theorem calledIn_cases (v:Unit) (of s:Str) (m:Nat):(funIdx v s=-1∧Barb.calledIn v of s m=5)∨∃ (i:Nat) (hi:i < v.funcs.length),funIdx v s=(i:Int)∧Barb.calledIn v of s m=if of≠[]∧v.funcs[i].isOpen=false then 5 else if v.funcs[i].params.length≠m then 7 else 0:=by
 unfold Barb.calledIn
 rcases find_idx (fun g:Fun=>g.name=s) v.funcs with ⟨h1,h2⟩ | ⟨i,hi,h1,h2⟩
 ·exact .inl ⟨h1,by rw[h2]⟩
 ·exact .inr ⟨i,hi,h1,by rw[h2]⟩
theorem calledE_cases (p:List Unit) (u:Unit) (of s:Str) (m:Nat) (ho:of≠[]):(unitIdx p of=-1∧calledE p u of s m=5)∨∃ (i:Nat) (hi:i < p.length),unitIdx p of=(i:Int)∧calledE p u of s m=Barb.calledIn p[i] of s m:=by
 unfold calledE
 rw[if_neg ho]
 rcases find_idx (fun v:Unit=>v.name=of) p with ⟨h1,h2⟩ | ⟨i,hi,h1,h2⟩
 ·exact .inl ⟨h1,by rw[h2]⟩
 ·exact .inr ⟨i,hi,h1,by rw[h2]⟩
end Barb
namespace Go.Proofs.YtabjelabdojpkaaDoor
open Go Go.Dm Go.Eng Barb

end Go.Proofs.YtabjelabdojpkaaDoor
namespace Barb
open Go Go.Dm Go.Eng
theorem exprS_eq (p:List Unit) (u:Unit) (f:Fun) (x:Expr):exprS p u f x=if exprS1 p u f x.k x.of x.s x.args.length≠0 then exprS1 p u f x.k x.of x.s x.args.length else exprsS p u f x.args:=by
 cases x;rw[exprS];rfl
theorem stmtS_eq (p:List Unit) (u:Unit) (f:Fun) (x:Stmt):stmtS p u f x=if (x.k=1∧¬varP u f x.s)∨(x.k=2∧¬arrP u x.s) then 5 else if exprsS p u f x.xs≠0 then exprsS p u f x.xs else if stmtsS p u f x.b≠0 then stmtsS p u f x.b else stmtsS p u f x.e:=by
 cases x;rw[stmtS];rfl
def short (u:Unit):Prop:=u.vars.length≤9223372036854775807∧u.arrays.length≤9223372036854775807∧u.funcs.length≤9223372036854775807
theorem Unit.I.short {u:Unit} (h:u.I):short u:=by
 obtain ⟨_,⟨_,h1⟩,_,h2,_,h3⟩:=h
 exact ⟨by omega,by omega,by omega⟩
end Barb
namespace Go.Proofs.YtabjelabdojpkaaDoor
open Go Go.Dm Go.Eng Barb

end Go.Proofs.YtabjelabdojpkaaDoor
namespace Barb
open Go Go.Dm Go.Eng
theorem Expr.args_lt {x y:Expr} (h:y∈x.args):sizeOf y < sizeOf x:=by
 cases x with
 | mk k n of s args =>
  have:=List.sizeOf_lt_of_mem (show y∈args from h)
  simp only[Expr.mk.sizeOf_spec]
  omega
theorem Stmt.b_lt {l:List Stmt} {x:Stmt} (h:x∈l):sizeOf x.b < sizeOf l∧sizeOf x.e < sizeOf l:=by
 have h1:=List.sizeOf_lt_of_mem h
 cases x with
 | mk k s xs b e =>
  simp only[Stmt.mk.sizeOf_spec] at h1
  show sizeOf b < sizeOf l∧sizeOf e < sizeOf l
  omega
theorem firstE_two {α:Type} (g:α→Int) (a b:α):firstE g [a,b]=if g a≠0 then g a else g b:=by
 by_cases h:g a=0
 ·by_cases h':g b=0
  ·simp[firstE,h,h']
  ·simp[firstE,h,h']
 ·simp[firstE,h]
theorem exprS1_bad {p:List Unit} {u:Unit} {f:Fun} {k:Int} {of s:Str} {m:Nat} (h:(k=2∧¬varP u f s)∨(k=3∧¬arrP u s)):exprS1 p u f k of s m=5:=by unfold exprS1;rw[if_pos h]
theorem exprS1_4 {p:List Unit} {u:Unit} {f:Fun} {k:Int} {of s:Str} {m:Nat} (h:k=4):exprS1 p u f k of s m=calledE p u of s m:=by unfold exprS1;rw[if_neg (by omega),if_pos h]
theorem exprS1_0 {p:List Unit} {u:Unit} {f:Fun} {k:Int} {of s:Str} {m:Nat} (h:¬((k=2∧¬varP u f s)∨(k=3∧¬arrP u s))) (h4:k≠4):exprS1 p u f k of s m=0:=by unfold exprS1;rw[if_neg h,if_neg h4]
end Barb
namespace Go.Proofs.YtabjelabdojpkaaDoor
open Go Go.Dm Go.Eng Barb

end Go.Proofs.YtabjelabdojpkaaDoor
namespace Go.Proofs.YtabjelabdojpkaaDoor
open Go Go.Dm Go.Eng Barb

def stmtsG (l:List Barb.Stmt):List GV:=[.sl 5 (l.map Stmt.g)]
end Go.Proofs.YtabjelabdojpkaaDoor
namespace Barb
open Go Go.Dm Go.Eng
theorem names_succ0 {α:Type} (f:α→Str) {l:List α} {i:Nat} (h:i < l.length):((l.take i).map f).map strG++[[GV.str (f l[i])]]=((l.take (i+1)).map f).map strG:=by
 rw[take_one h,List.map_append (f:=f),List.map_append (f:=strG)];rfl
theorem names_succ {α:Type} (f:α→Str) {l:List α} {i:Nat} (h:i < l.length) (pre:List Str):(pre++(l.take i).map f).map strG++[[GV.str (f l[i])]]=(pre++(l.take (i+1)).map f).map strG:=by
 rw[List.map_append,List.append_assoc,names_succ0 f h,← List.map_append]
theorem progWords_succ {l:List Unit} {i:Nat} (h:i < l.length):progWords (l.take (i+1))=progWords (l.take i)+unitWords l[i]:=by
 unfold progWords;rw[take_one h,List.map_append,List.sum_append];simp
theorem unitWords_le {u:Unit} (h:unitE u=0):0≤unitWords u∧unitWords u≤38:=by
 obtain ⟨h1,h2,_,h4⟩:=unitE_ok h
 have:=sizes_le h4
 unfold unitWords
 omega
theorem progWords_le {l:List Unit} {i:Nat} (hi:i≤l.length) (h:∀ j (hj:j < l.length),j < i→unitE l[j]=0):0≤progWords (l.take i)∧progWords (l.take i)≤38*i:=by
 induction i with
 | zero=>simp[progWords]
 | succ i ih =>
  have h1:=ih (by omega) (fun j hj hji=>h j hj (by omega))
  have h2:=unitWords_le (h i (by omega) (by omega))
  rw[progWords_succ (by omega)]
  omega
end Barb
namespace Go.Proofs.YtabjelabdojpkaaDoor
open Go Go.Dm Go.Eng Barb


end Go.Proofs.YtabjelabdojpkaaDoor
namespace Barb
def progI (p:List Unit):Prop:=(∀ u∈p,u.I)∧p.length≤9223372036854775807
end Barb
namespace Go.Proofs.YtabjelabdojpkaaDoor
open Go Go.Dm Go.Eng Barb

end Go.Proofs.YtabjelabdojpkaaDoor
namespace Go.Proofs.YtabjelabdojpkaaDoor
open Go Go.Dm Go.Eng Barb

theorem arr_neg (u:Barb.Unit) (s:Str):idx (fun a:Arr=>a.name=s) u.arrays < 0↔¬arrP u s:=by
 rcases idx_cases (fun a:Arr=>a.name=s) u.arrays with ⟨h1,h2⟩ | ⟨i,hi,h1,h2,_⟩
 ·rw[h1];exact ⟨fun _ ⟨a,ha,hs⟩=>h2 a ha hs,fun _=>by decide⟩
 ·rw[h1];exact ⟨fun h=>by omega,fun h=>absurd ⟨u.arrays[i],List.getElem_mem _,h2⟩ h⟩
end Go.Proofs.YtabjelabdojpkaaDoor
namespace Go.Proofs.YtabjelabdojpkaaDoor
open Go Go.Dm Go.Eng Barb

abbrev kpX (p:List Barb.Unit) (c:Int):List (Nat × D):=[(0,.g (.sl 4 (p.map Unit.g))),(5,.ptr 0 0),(6,.ptr 1 0),(7,.ptr 2 0),(8,.g (.int c))]
end Go.Proofs.YtabjelabdojpkaaDoor
namespace Go.Proofs.YtabjelabdojpkaaDoor
open Go Go.Dm Go.Eng Barb

end Go.Proofs.YtabjelabdojpkaaDoor
namespace Go.Proofs.YtabjelabdojpkaaDoor
open Go Go.Dm Go.Eng Barb

end Go.Proofs.YtabjelabdojpkaaDoor
