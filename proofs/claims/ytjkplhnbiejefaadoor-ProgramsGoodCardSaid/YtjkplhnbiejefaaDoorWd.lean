/-
  word.Is, word.Do and what the document says of them: the contracts.
-/
import Derived.Test.YtjkplhnbiejefaaDoorDdec
import Derived.Test.YtjkplhnbiejefaaDoorBits
import Derived.Test.YtjkplhnbiejefaaDoorDlib
import Derived.Test.YtjkplhnbiejefaaDoorDgl
namespace Go.Proofs.YtjkplhnbiejefaaDoor
open Go Go.Dm Go.Eng Barb

theorem Is_any (x:Int):CT Tryd.prog gl 31 [.g (.int x)] (Is (.pb (0≤x∧x≤65535))):=by
 refine enter hT hF hM Tryd.func31 rfl 9 rfl (by kernel_rfl) [.tmp 2] rfl [.g (.int x)] rfl _ ?_
 exact ⟨fun h1=>⟨rfl,retP (by omega)⟩,fun h1=>⟨rfl,retF (by omega)⟩⟩

def doI (op a b:Int):Int:=if op < 1∨10 < op then 0 else if (0≤a∧a≤65535)∧(0≤b∧b≤65535) then (did op.toNat a.toNat b.toNat:Nat) else 0
def doE (op a b:Int):Int:=if op < 1∨10 < op then 3 else if (0≤a∧a≤65535)∧(0≤b∧b≤65535) then 0 else 2
theorem do_ok {op a b:Int} (h:¬(op < 1∨10 < op)) {m n:Nat} (ha:a=(m:Int)) (hb:b=(n:Int)) (hm:m≤65535) (hn:n≤65535) {k:Nat} (ho:op=(k:Int)):doI op a b=(did k m n:Nat)∧doE op a b=0:=by
 subst ha;subst hb;subst ho
 unfold doI doE
 rw[if_neg h,if_neg h,if_pos (by omega),if_pos (by omega)]
 simp


end Go.Proofs.YtjkplhnbiejefaaDoor
