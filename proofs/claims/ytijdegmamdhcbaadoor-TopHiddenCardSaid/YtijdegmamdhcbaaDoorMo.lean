/-
  mem.Load and what the document says of it: the contracts.
-/
import Derived.Test.YtijdegmamdhcbaaDoorMd
namespace Barb
open Go Go.Dm Go.Eng
theorem img_ok {m:List Part} (h:imgE m=0):∀ i (hi:i < m.length),m[i].lo=fromAt m i∧m[i].lo≤m[i].hi∧m[i].hi≤250:=by
 intro i hi
 unfold imgE at h
 by_cases h5:5 < m.length
 ·rw[if_pos h5] at h;omega
 ·rw[if_neg h5] at h
  have hF:=firstN_zero h i hi
  rw[imgF_at hi] at hF
  unfold partE at hF
  by_cases h1:1200 < m[i].code.length∨8 < m[i].entries.length
  ·rw[if_pos h1] at hF;omega
  ·rw[if_neg h1] at hF
   by_cases h2:firstE instrE m[i].code≠0
   ·rw[if_pos h2] at hF;exact absurd hF h2
   ·rw[if_neg h2] at hF
    by_cases h3:firstE (entE m[i].code.length) m[i].entries≠0
    ·rw[if_pos h3] at hF;exact absurd hF h3
    ·rw[if_neg h3] at hF
     by_cases h4:¬m[i].lo=fromAt m i∨m[i].hi < m[i].lo∨250 < m[i].hi
     ·rw[if_pos h4] at hF;omega
     ·omega
theorem from_mono {m:List Part} (h:imgE m=0):∀ (k i:Nat),i+k≤m.length→fromAt m i≤fromAt m (i+k)
 | 0,i,_=>Int.le_refl _
 | k+1,i,hk=>by
  have h1:=from_mono h k i (by omega)
  have hl:i+k < m.length:=by omega
  have h2:=img_ok h (i+k) hl
  have h3:=fromAt_succ hl
  rw[show i+(k+1)=i+k+1 from by omega]
  omega
theorem img_in {m:List Part} (h:imgE m=0) {i:Nat} (hi:i < m.length):0≤m[i].lo∧m[i].lo≤m[i].hi∧m[i].hi≤imgWords m∧m[i].hi≤250:=by
 have h1:=img_ok h i hi
 have h2:=from_mono h i 0 (by omega)
 have h3:=from_mono h (m.length - (i+1)) (i+1) (by omega)
 rw[show i+1+(m.length - (i+1))=m.length from by omega,fromAt_succ hi] at h3
 have h4:fromAt m 0=0:=rfl
 rw[Nat.zero_add] at h2
 unfold imgWords
 omega
def partAt (m:List Part) (p:Int):Part:=m.getD p.toNat ⟨[],[],0,0⟩
theorem partAt_at {m:List Part} {k:Nat} (h:k < m.length):partAt m (k:Int)=m[k]:=by simp[partAt,h]
def ownE (m:List Part) (d:List Int) (p at_:Int):Int :=
 if dataE m d≠0 then dataE m d else if ¬(0≤p∧p < m.length) then 5 else if ¬((partAt m p).lo≤at_∧at_ < (partAt m p).hi) then 9 else 0
theorem dataE_ok {m:List Part} {d:List Int} (h:dataE m d=0):imgE m=0∧(d.length:Int)=imgWords m:=by
 unfold dataE at h
 by_cases h1:imgE m≠0
 ·rw[if_pos h1] at h;exact absurd h h1
 ·rw[if_neg h1] at h
  by_cases h2:¬((d.length:Int)=imgWords m)
  ·rw[if_pos h2] at h;omega
  ·exact ⟨Classical.not_not.1 h1,Classical.not_not.1 h2⟩
theorem ownE_ok {m:List Part} {d:List Int} {p at_:Int} (h:ownE m d p at_=0):∃ k:Nat,at_=(k:Int)∧k < d.length:=by
 unfold ownE at h
 by_cases h1:dataE m d≠0
 ·rw[if_pos h1] at h;exact absurd h h1
 ·rw[if_neg h1] at h
  obtain ⟨h5,h6⟩:=dataE_ok (Classical.not_not.1 h1)
  by_cases h2:¬(0≤p∧p < m.length)
  ·rw[if_pos h2] at h;omega
  ·rw[if_neg h2] at h
   obtain ⟨k,hk⟩:∃ k:Nat,p=(k:Int):=⟨p.toNat,by omega⟩
   subst hk
   have hkl:k < m.length:=by omega
   rw[partAt_at hkl] at h
   by_cases h3:¬(m[k].lo≤at_∧at_ < m[k].hi)
   ·rw[if_pos h3] at h;omega
   ·have:=img_in h5 hkl
    exact ⟨at_.toNat,by omega,by omega⟩
def loadV (m:List Part) (d:List Int) (p at_:Int):Int:=if ownE m d p at_=0 then d.getD at_.toNat 0 else 0
end Barb
namespace Go.Proofs.YtijdegmamdhcbaaDoor
open Go Go.Dm Go.Eng Barb

end Go.Proofs.YtijdegmamdhcbaaDoor
