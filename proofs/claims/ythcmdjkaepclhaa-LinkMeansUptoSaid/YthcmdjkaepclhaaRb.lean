import Derived.Test.YthcmdjkaepclhaaEz
import Derived.Test.YthcmdjkaepclhaaPf
import Derived.Test.YthcmdjkaepclhaaLd
import Derived.Test.YthcmdjkaepclhaaGi
namespace Barb
open Go Go.Dm Go.Eng Go.Proofs.Ythcmdjkaepclhaa
def RR.code:RR Int->Int
 | .ok _ _=>1
 | .stop e _=>e
def RR.val:RR Int->Int
 | .ok n _=>n
 | .stop _ _=>0
structure RB (p:List Unit) (r:RR Int):Prop where
 si:SI p r.st
 code:1<=r.code/\r.code<=6
 val:wd r.val
theorem RI.rb {p:List Unit} {s:ES} {r:RR Int} (h:RI p s wd r):RB p r:=by
 cases r with
 | ok n s'=>exact ⟨h.1,by show (1:Int)<=1/\(1:Int)<=6;omega,h.2.2⟩
 | stop e s'=>exact ⟨h.1,by have:=h.2.2;show 1<=e/\e<=6;omega,by show wd 0;exact ⟨by decide,by decide⟩⟩
theorem cells_I {p:List Unit} {cs:List Cells} (hg:progE p=0) (hl:cs.length=p.length) (h:cellsOk p cs):∀ c∈cs,c.I:=by
 intro c hc
 obtain ⟨i,hi,rfl⟩:=List.getElem_of_mem hc
 have hU:=(progE_inv hg).2.1 _ (List.getElem_mem (show i < p.length by omega))
 obtain ⟨s1,s2,s3⟩:=cell_small hU (h i hi (by omega))
 obtain ⟨⟨h1,h2⟩,h3⟩:=h i hi (by omega)
 refine ⟨⟨fun x hx=>by have:=h1.2 x hx;unfold I64;omega,by omega⟩,fun a ha=>⟨fun x hx=>?_,by have:=s3 a ha;omega⟩,by omega⟩
 obtain ⟨k,hk,rfl⟩:=List.getElem_of_mem ha
 have:=(h3 k hk (by omega)).2 x hx
 unfold I64;omega
end Barb
namespace Go.Proofs.Ythcmdjkaepclhaa
open Go Go.Dm Go.Eng Go.RowKit Barb
theorem callD_eq (r:RR Int):callD r=ansD r.code r.val r.st:=by cases r<;>rfl
end Go.Proofs.Ythcmdjkaepclhaa
