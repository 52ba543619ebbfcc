/-
  The plain types of package api, and how they stand as data. No program in sight.
-/
import Derived.Test.YtjkplhnbiejefaaDoorDa4
namespace Barb
open Go Go.Dm

abbrev Str:=List UInt8
structure Instr where
 op:Int
 a:Int
 b:Int
 c:Int
deriving DecidableEq
structure Entry where
 at_:Int
 params:Int
deriving DecidableEq
structure Part where
 code:List Instr
 entries:List Entry
 lo:Int
 hi:Int
abbrev Image:=List Part
structure Arr where
 name:Str
 size:Int
deriving DecidableEq
inductive Expr where
 | mk (kind n:Int) (of s:Str) (args:List Expr)
inductive Stmt where
 | mk (kind:Int) (s:Str) (exprs:List Expr) (body els:List Stmt)
structure Fun where
 name:Str
 isOpen:Bool
 params:List Str
 body:List Stmt
structure Unit where
 name:Str
 vars:List Str
 arrays:List Arr
 funcs:List Fun
structure Cells where
 vars:List Int
 arrays:List (List Int)

def Instr.g (i:Instr):List GV:=[.int i.op,.int i.a,.int i.b,.int i.c]
def Entry.g (i:Entry):List GV:=[.int i.at_,.int i.params]
def Part.g (p:Part):List GV:=[.sl 4 (p.code.map Instr.g),.sl 2 (p.entries.map Entry.g),.int p.lo,.int p.hi]
def Image.g (m:Image):List GV:=[.sl 4 (m.map Part.g)]
def Arr.g (a:Arr):List GV:=[.str a.name,.int a.size]
def intG (n:Int):List GV:=[.int n]
def strG (l:Str):List GV:=[.str l]
def intsG (l:List Int):List GV:=[.sl 1 (l.map intG)]
def strsG (l:List Str):List GV:=[.sl 1 (l.map strG)]
mutual
def Expr.g:Expr→List GV
 | .mk k n of s args=>[.int k,.int n,.str of,.str s,.sl 5 (Expr.gs args)]
def Expr.gs:List Expr→List (List GV)
 | []=>[]
 | x :: l=>x.g :: Expr.gs l
end
mutual
def Stmt.g:Stmt→List GV
 | .mk k s xs b e=>[.int k,.str s,.sl 5 (Expr.gs xs),.sl 5 (Stmt.gs b),.sl 5 (Stmt.gs e)]
def Stmt.gs:List Stmt→List (List GV)
 | []=>[]
 | x :: l=>x.g :: Stmt.gs l
end
def Fun.g (f:Fun):List GV:=[.str f.name,.bool f.isOpen,.sl 1 (f.params.map strG),.sl 5 (Stmt.gs f.body)]
def Unit.g (u:Unit):List GV:=[.str u.name,.sl 1 (u.vars.map strG),.sl 2 (u.arrays.map Arr.g),.sl 4 (u.funcs.map Fun.g)]
def Cells.g (c:Cells):List GV:=[.sl 1 (c.vars.map intG),.sl 1 (c.arrays.map intsG)]

theorem Expr.gs_map (l:List Expr):Expr.gs l=l.map Expr.g:=by
 induction l with
 | nil=>rfl
 | cons x l ih=>simp[Expr.gs,ih]
theorem Stmt.gs_map (l:List Stmt):Stmt.gs l=l.map Stmt.g:=by
 induction l with
 | nil=>rfl
 | cons x l ih=>simp[Stmt.gs,ih]


theorem list_of {α:Type} {e:α→List GV} {ok:α→Prop}:∀ xs:List (List GV),(∀ r∈xs,∃ x,r=e x∧ok x)→∃ l:List α,xs=l.map e∧∀ x∈l,ok x
 | [],_=>⟨[],rfl,fun x h=>by simp at h⟩
 | r :: xs,h=>by
  obtain ⟨x,rfl,hx⟩:=h r List.mem_cons_self
  obtain ⟨l,rfl,hl⟩:=list_of xs (fun r hr=>h r (List.mem_cons_of_mem _ hr))
  refine ⟨x :: l,rfl,fun y hy=>?_⟩
  rcases List.mem_cons.1 hy with rfl | hy
  ·exact hx
  ·exact hl y hy

def Instr.I (i:Instr):Prop:=I64 i.op∧I64 i.a∧I64 i.b∧I64 i.c
def Entry.I (i:Entry):Prop:=I64 i.at_∧I64 i.params
def Part.I (p:Part):Prop:=(∀ i∈p.code,i.I)∧(∀ i∈p.entries,i.I)∧I64 p.lo∧I64 p.hi∧p.code.length*32≤140737488351232∧p.entries.length*16≤140737488351232
def Image.I (m:Image):Prop:=(∀ p∈m,p.I)∧m.length*64≤140737488351232
def Arr.I (a:Arr):Prop:=a.name.length≤maxLen∧I64 a.size
def strsI (l:List Str):Prop:=(∀ s∈l,s.length≤maxLen)∧l.length*16≤140737488351232
def intsI (l:List Int):Prop:=(∀ s∈l,I64 s)∧l.length*8≤140737488351232
inductive Expr.I:Expr→Prop
 | mk {k n:Int} {of s:Str} {args:List Expr}:I64 k→I64 n→of.length≤maxLen→s.length≤maxLen→args.length*72≤140737488351232→(∀ x∈args,Expr.I x)→Expr.I (.mk k n of s args)
inductive Stmt.I:Stmt→Prop
 | mk {k:Int} {s:Str} {xs:List Expr} {b e:List Stmt}:I64 k→s.length≤maxLen→xs.length*72≤140737488351232→b.length*96≤140737488351232→e.length*96≤140737488351232→(∀ x∈xs,Expr.I x)→(∀ x∈b,Stmt.I x)→(∀ x∈e,Stmt.I x)→Stmt.I (.mk k s xs b e)
def Fun.I (f:Fun):Prop:=f.name.length≤maxLen∧strsI f.params∧f.body.length*96≤140737488351232∧∀ x∈f.body,Stmt.I x
def Unit.I (u:Unit):Prop:=u.name.length≤maxLen∧strsI u.vars∧(∀ a∈u.arrays,a.I)∧u.arrays.length*24≤140737488351232∧(∀ f∈u.funcs,f.I)∧u.funcs.length*72≤140737488351232
def Cells.I (c:Cells):Prop:=intsI c.vars∧(∀ l∈c.arrays,intsI l)∧c.arrays.length*24≤140737488351232
theorem dec_sl {P:Program} {f:Nat} {t e:TypeId} {g:GV} (hu:P.underlying t=some (.slice e)) (h:TypedG P f t g):∃ f' xs,g=.sl (P.cellsOf e) xs∧xs.length*P.bytesOf e≤reachBytes∧∀ r∈xs,TypedR P f' e r:=by
 cases f with
 | zero=>simp only[TypedG] at h
 | succ f =>
  simp only[TypedG,hu] at h
  obtain ⟨xs,h1,h2,h3⟩:=h
  exact ⟨f,xs,h1,h2,fun r hr=>by unfold TypedR;exact h3 r hr⟩
theorem dec_sl' {P:Program} {f:Nat} {t e:TypeId} {g:GV} (hu:P.underlying t=some (.slice e)) (h:TypedG P (f+1) t g):∃ xs,g=.sl (P.cellsOf e) xs∧xs.length*P.bytesOf e≤reachBytes∧∀ r∈xs,TypedR P f e r:=by
 simp only[TypedG,hu] at h
 obtain ⟨xs,h1,h2,h3⟩:=h
 exact ⟨xs,h1,h2,fun r hr=>by unfold TypedR;exact h3 r hr⟩
theorem dec_list {P:Program} {f:Nat} {t e:TypeId} {g:GV} {k:Nat} {α:Type} {enc:α→List GV} {ok:α→Prop} (hu:P.underlying t=some (.slice e)) (hk:P.cellsOf e=k) {b:Nat} (hb:P.bytesOf e=b) (h:TypedG P f t g)
  (hd:∀ f r,TypedR P f e r→∃ x,r=enc x∧ok x):∃ l:List α,g=.sl k (l.map enc)∧(∀ x∈l,ok x)∧l.length*b≤140737488351232:=by
 obtain ⟨f',xs,rfl,hl,hx⟩:=dec_sl hu h
 obtain ⟨l,rfl,hok⟩:=list_of (e:=enc) (ok:=ok) xs (fun r hr=>hd f' r (hx r hr))
 subst hk
 subst hb
 exact ⟨l,rfl,hok,by simpa [reachBytes] using hl⟩
theorem dec_lit {P:Program} {f:Nat} {t:TypeId} {g:GV} (hu:P.underlying t=some (.int .i64)) (h:TypedG P f t g):∃ n,g=.int n∧I64 n:=by
 cases f with
 | zero=>simp only[TypedG] at h
 | succ f=>simp only[TypedG,hu] at h;exact h
theorem dec_txt {P:Program} {f:Nat} {t:TypeId} {g:GV} (hu:P.underlying t=some .string) (h:TypedG P f t g):∃ n,g=.str n∧n.length≤maxLen:=by
 cases f with
 | zero=>simp only[TypedG] at h
 | succ f =>
  simp only[TypedG,hu] at h
  obtain ⟨n,hn,hb⟩:=h
  exact ⟨n,hn,Nat.le_trans hb (by decide)⟩
theorem dec_boo {P:Program} {f:Nat} {t:TypeId} {g:GV} (hu:P.underlying t=some .bool) (h:TypedG P f t g):∃ n,g=.bool n:=by
 cases f with
 | zero=>simp only[TypedG] at h
 | succ f=>simp only[TypedG,hu] at h;exact h
theorem dec_one {P:Program} {f:Nat} {t:TypeId} {r:List GV} {d:TypeDesc} (hu:P.underlying t=some d) (hd:∀ fs,d≠.struct fs) (h:TypedR P f t r):∃ g,r=[g]∧TypedG P f t g:=by
 unfold TypedR at h
 rw[hu] at h
 split at h
 ·rename_i fs he;injection he with he;exact absurd he (hd _)
 ·exact h
theorem dec_fields {P:Program} {f:Nat} {t:TypeId} {r:List GV} {fs:Array Field} (hu:P.underlying t=some (.struct fs)) (h:TypedR P f t r):r.length=fs.size∧∀ (i:Nat) (fd:Field) (g:GV),fs[i]?=some fd→r[i]?=some g→TypedG P f fd.type g:=by
 unfold TypedR at h
 rw[hu] at h
 exact h
end Barb
