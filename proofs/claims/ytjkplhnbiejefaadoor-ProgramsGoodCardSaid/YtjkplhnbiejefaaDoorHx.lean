/-
  The cells of an expression, of a statement; expressions that are returned.
-/
import Derived.Test.YtjkplhnbiejefaaDoorCl
import Derived.Test.YtjkplhnbiejefaaDoorFt
import Derived.Test.YtjkplhnbiejefaaDoorDjk
namespace Barb
open Go Go.Dm Go.Eng Go.Proofs.YtjkplhnbiejefaaDoor
def gX (x:Expr):List GV:=[.int x.k,.int x.n,.str x.of,.str x.s,.sl 5 (x.args.map Expr.g)]
def gS (x:Stmt):List GV:=[.int x.k,.str x.s,.sl 5 (x.xs.map Expr.g),.sl 5 (x.b.map Stmt.g),.sl 5 (x.e.map Stmt.g)]
theorem gX_eq (x:Expr):gX x=x.g:=(Expr.g_eq x).symm
theorem dJ {a b:Int} (h:a=b):D.g (.int a)=D.g (.int b):=by rw[h]
theorem at_getD' {α:Type} {l:List α} {k:Nat} (h:k < l.length) (z:α):l.getD k z=l[k]:=by simp[h]
theorem gX1 (a:Expr):[gX a]=[a].map Expr.g:=by simp[gX_eq]
theorem gX2 (a b:Expr):[gX a,gX b]=[a,b].map Expr.g:=by simp[gX_eq]
theorem gS_eq (x:Stmt):gS x=x.g:=(Stmt.g_eq x).symm
theorem retE0 {h:Heap} {x:Expr} {k n:Int} {of s:Str} (e:x=.mk k n of s []):RetTo (Is (.agg x.d)) h (.agg [.g (.int k),.g (.int n),.g (.str of),.g (.str s),.nils]):=by
 subst e
 exact retIs (.inr (.inr ⟨lk rfl,lk rfl,lk rfl,lk rfl,lkNil,trivial⟩))
theorem retER {h:Heap} {x:Expr} {k n:Int} {of s:Str} {args:List Expr} {i:Nat} {xs:List (List GV)} {t:TypeId} (e:x=.mk k n of s args) (hi:h[i]?=some (.row xs t 5)) (hx:xs=args.map Expr.g):RetTo (Is (.agg x.d)) h (.agg [.g (.int k),.g (.int n),.g (.str of),.g (.str s),.row i]):=by
 subst e;subst hx
 refine retIs (.inl ?_)
 simp only[conv,List.map_cons,List.map_nil,kp,hi]
 rfl
theorem retEG {h:Heap} {x:Expr} {k n:Int} {of s:Str} {args:List Expr} {xs:List (List GV)} (e:x=.mk k n of s args) (hx:xs=args.map Expr.g):RetTo (Is (.agg x.d)) h (.agg [.g (.int k),.g (.int n),.g (.str of),.g (.str s),.g (.sl 5 xs)]):=by
 subst e;subst hx
 exact retIs (.inl rfl)
end Barb
namespace Go.Proofs.YtjkplhnbiejefaaDoor
open Go Go.Dm Go.Eng Go.RowKit Barb
theorem seesRow {h:Heap} {i:Nat} {xs:List (List GV)} {e:TypeId} {sz:Nat} {y:GV} (hi:h[i]?=some (.row xs e sz)) (hy:GV.sl sz xs=y):Sees h (.row i) y:=by
 unfold Sees
 simp only[hi]
 exact hy
end Go.Proofs.YtjkplhnbiejefaaDoor
