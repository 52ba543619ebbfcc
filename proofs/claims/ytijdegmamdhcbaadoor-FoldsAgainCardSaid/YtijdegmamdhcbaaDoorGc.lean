/-
  Cells and code of raw things, plain.
-/
import Derived.Test.YtijdegmamdhcbaaDoorPm
namespace Barb
open Go Go.Dm Go.Eng
def nextV (b n:Int):Int:=(n*3+b) % 50
def nextA (c n:Int):Int:=(n*5+c) % 70
def iterI (f:Int→Int):Nat→Int→Int
 | 0,n=>n
 | k+1,n=>f (iterI f k n)
def rowI (f:Int→Int) (k:Nat) (n:Int):List Int:=(List.range k).map (fun i=>iterI f i n)
theorem rowI_len (f:Int→Int) (k:Nat) (n:Int):(rowI f k n).length=k:=by simp[rowI]
theorem rowI_succ (f:Int→Int) (k:Nat) (n:Int):rowI f (k+1) n=rowI f k n++[iterI f k n]:=by simp[rowI,List.range_succ]
def arrsC (c:Int):List Arr→Int→List (List Int)
 | [],_=>[]
 | a :: l,n=>rowI (nextA c) a.size.toNat n :: arrsC c l (iterI (nextA c) a.size.toNat n)
def endA (c:Int):List Arr→Int→Int
 | [],n=>n
 | a :: l,n=>endA c l (iterI (nextA c) a.size.toNat n)
def cellsU (b c:Int) (u:Unit) (n:Int):Cells:=⟨rowI (nextV b) u.vars.length n,arrsC c u.arrays (iterI (nextV b) u.vars.length n)⟩
def endU (b c:Int) (u:Unit) (n:Int):Int:=endA c u.arrays (iterI (nextV b) u.vars.length n)
def cellsL (b c:Int):List Unit→Int→List Cells
 | [],_=>[]
 | u :: l,n=>cellsU b c u n :: cellsL b c l (endU b c u n)
def endL (b c:Int):List Unit→Int→Int
 | [],n=>n
 | u :: l,n=>endL b c l (endU b c u n)
def cellsP (p:List Unit) (r:Raw):List Cells:=cellsL (pickN r.b 5) (pickN r.c 9) p (pickN r.a 7)
theorem cellsL_snoc (b c:Int) (u:Unit):∀ (l:List Unit) (n:Int),cellsL b c (l++[u]) n=cellsL b c l n++[cellsU b c u (endL b c l n)]
 | [],_=>rfl
 | v :: l,n=>by simp only[List.cons_append,cellsL,endL,cellsL_snoc b c u l]
theorem endL_snoc (b c:Int) (u:Unit):∀ (l:List Unit) (n:Int),endL b c (l++[u]) n=endU b c u (endL b c l n)
 | [],_=>rfl
 | v :: l,n=>by simp only[List.cons_append,endL,endL_snoc b c u l]
theorem arrsC_snoc (c:Int) (a:Arr):∀ (l:List Arr) (n:Int),arrsC c (l++[a]) n=arrsC c l n++[rowI (nextA c) a.size.toNat (endA c l n)]
 | [],_=>rfl
 | v :: l,n=>by simp only[List.cons_append,arrsC,endA,arrsC_snoc c a l]
theorem endA_snoc (c:Int) (a:Arr):∀ (l:List Arr) (n:Int),endA c (l++[a]) n=iterI (nextA c) a.size.toNat (endA c l n)
 | [],_=>rfl
 | v :: l,n=>by simp only[List.cons_append,endA,endA_snoc c a l]
theorem cellsL_len (b c:Int):∀ (l:List Unit) (n:Int),(cellsL b c l n).length=l.length
 | [],_=>rfl
 | v :: l,n=>by simp only[cellsL,List.length_cons,cellsL_len b c l]
theorem iterV_rng {b:Int}:∀ (k:Nat) {n:Int},0≤n∧n < 70→0≤iterI (nextV b) k n∧iterI (nextV b) k n < 70
 | 0,_,h=>h
 | k+1,n,h=>by
  show 0≤nextV b (iterI (nextV b) k n)∧nextV b (iterI (nextV b) k n) < 70
  unfold nextV
  omega
theorem iterA_rng {c:Int}:∀ (k:Nat) {n:Int},0≤n∧n < 70→0≤iterI (nextA c) k n∧iterI (nextA c) k n < 70
 | 0,_,h=>h
 | k+1,n,h=>by
  show 0≤nextA c (iterI (nextA c) k n)∧nextA c (iterI (nextA c) k n) < 70
  unfold nextA
  omega
theorem endA_rng {c:Int}:∀ (l:List Arr) {n:Int},0≤n∧n < 70→0≤endA c l n∧endA c l n < 70
 | [],_,h=>h
 | _ :: l,_,h=>endA_rng l (iterA_rng _ h)
theorem endU_rng {b c:Int} {u:Unit} {n:Int} (h:0≤n∧n < 70):0≤endU b c u n∧endU b c u n < 70:=endA_rng _ (iterV_rng _ h)
theorem endL_rng {b c:Int}:∀ (l:List Unit) {n:Int},0≤n∧n < 70→0≤endL b c l n∧endL b c l n < 70
 | [],_,h=>h
 | _ :: l,_,h=>endL_rng l (endU_rng h)
def codeAt (from_:Int) (r:Raw):Int:=if pickN r.b 12=0 then pickN r.a 250 else from_+pickN r.a 4
def gatesP (p e n:Int) (r:Raw):List Instr:=(List.range n.toNat).map (fun k=>⟨4,(k:Int),0,0⟩)++[⟨12,p,e,n⟩,⟨5,pickN r.c 4,0,0⟩]
def codeG (m:Image) (r:Raw):List Instr :=
 let p:=pickN r.a m.length
 let es:=(m.getD p.toNat ⟨[],[],0,0⟩).entries
 if es.length=0 then [] else gatesP p (pickN r.b es.length) (es.getD (pickN r.b es.length).toNat ⟨0,0⟩).params r
def codeR (m:Image) (from_:Int) (r:Raw):List Instr :=
 let k:=pickN r.kind 16
 if k < 3 then [⟨1,pickN r.a 9,0,0⟩,⟨5,pickN r.b 4,0,0⟩]
 else if k < 5 then [⟨1,codeAt from_ r,0,0⟩,⟨4,pickN r.b 4,0,0⟩,⟨7,0,0,0⟩]
 else if k < 7 then [⟨1,codeAt from_ r,0,0⟩,⟨6,0,0,0⟩,⟨5,pickN r.b 4,0,0⟩]
 else if k < 13∧0 < m.length then codeG m r
 else if k=13 then [⟨4,pickN r.a 4,0,0⟩,⟨10,pickN r.b 60,0,0⟩]
 else if k=14 then [⟨1+pickN r.a 15,if 1+pickN r.a 15=8 then 1+pickN r.b 10 else 0,0,0⟩]
 else [⟨1,1,0,0⟩,⟨4,1,0,0⟩,⟨8,1,0,0⟩,⟨5,1,0,0⟩]
def codeP (l:List Raw) (m:Image) (from_:Int):List Instr:=((l.take 30).map (codeR m from_)).flatten++[⟨4,0,0,0⟩,⟨13,0,0,0⟩]
end Barb
