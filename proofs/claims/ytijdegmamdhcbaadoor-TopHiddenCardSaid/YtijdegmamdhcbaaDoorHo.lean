/-
  A part that anybody wrote behind an image, plain: it may be, and may be run.
-/
import Derived.Test.YtijdegmamdhcbaaDoorTb
import Derived.Test.YtijdegmamdhcbaaDoorRu
namespace Barb
open Go Go.Dm Go.Eng Go.Proofs.YtijdegmamdhcbaaDoor
theorem wordE_all {d:List Int} (h:∀ n∈d,wordN n):firstE wordE d=0:=wordE_zero h
theorem linkV_get (m:Image) (l:List Instr) (es:List Entry) (n:Int):(linkV m l es n).getD m.length noPart=newPart m l es n:=by
 unfold linkV
 rw[List.getD_eq_getElem?_getD,List.getElem?_append_right (Nat.le_refl _),Nat.sub_self]
 rfl
theorem fromAt_append (m:Image) (p:Part) (i:Nat) (h:i≤m.length):fromAt (m++[p]) i=fromAt m i:=by
 cases i with
 | zero=>rfl
 | succ i =>
  have h1:i < m.length:=by omega
  rw[fromAt_succ (m:=m) h1,fromAt_succ (m:=m++[p]) (by rw[List.length_append];omega),List.getElem_append_left h1]
structure HostOk (m:Image) (d:List Int) (c:List Instr) (x:Image):Prop where
 img:imgE x=0
 I:Image.I x
 len:x.length=m.length+1
 words:imgWords x=imgWords m+4
 ent:(x.getD m.length noPart).entries=[⟨0,0⟩]
 code:(x.getD m.length noPart).code=c
 lo:(x.getD m.length noPart).lo=imgWords m
 data:((d++[1,2,3,4]).length:Int)=imgWords x
 word:∀ n∈d++[1,2,3,4],wordN n
theorem hostOk {m:Image} (him:imgE m=0) (hI:Image.I m) (h3:m.length≤3) (hw:0≤imgWords m∧imgWords m≤20) {d:List Int} (hd:(d.length:Int)=imgWords m) (hdw:∀ n∈d,wordN n) {c:List Instr} (hc:∀ x∈c,instrE x=0) (hc2:2≤c.length) (hc3:c.length≤1200) :
  HostOk m d c (linkV m c [⟨0,0⟩] 4):=by
 have hwr:IntKind.i64.wrap (imgWords m+4)=imgWords m+4:=I64.wrap (by unfold I64;omega)
 have hlen:=linkV_len m c [⟨0,0⟩] 4
 have hg:=linkV_get m c [⟨0,0⟩] 4
 have hlast:fromAt (linkV m c [⟨0,0⟩] 4) m.length=imgWords m:=fromAt_append m _ _ (Nat.le_refl _)
 have hx:imgWords (linkV m c [⟨0,0⟩] 4)=imgWords m+4:=by
  unfold imgWords
  rw[hlen,fromAt_succ (by rw[hlen];omega)]
  have:(linkV m c [⟨0,0⟩] 4)[m.length]'(by rw[hlen];omega)=newPart m c [⟨0,0⟩] 4:=by
   unfold linkV
   rw[List.getElem_append_right (Nat.le_refl _)]
   simp
  rw[this]
  show IntKind.i64.wrap (imgWords m+4)=_
  rw[hwr];rfl
 refine ⟨?_,⟨fun q hq=>?_,by rw[hlen];omega⟩,hlen,hx,by rw[hg];rfl,by rw[hg];rfl,by rw[hg];rfl,by rw[hx,List.length_append];push_cast;simp only[List.length_cons,List.length_nil];omega,fun n hn=>?_⟩
 ·unfold imgE at him ⊢
  rw[if_neg (by omega)] at him
  rw[if_neg (by rw[hlen];omega)]
  refine firstN_all (fun j hj=>?_)
  rw[hlen] at hj
  by_cases hjm:j < m.length
  ·have h0:=firstN_zero him j hjm
   rw[imgF_at hjm] at h0
   rw[imgF_at (by rw[hlen];omega)]
   have e1:fromAt (linkV m c [⟨0,0⟩] 4) j=fromAt m j:=fromAt_append m _ j (by omega)
   have e2:(linkV m c [⟨0,0⟩] 4)[j]'(by rw[hlen];omega)=m[j]:=by unfold linkV;rw[List.getElem_append_left hjm]
   rw[e1,e2];exact h0
  ·have hje:j=m.length:=by omega
   subst hje
   rw[imgF_at (by rw[hlen];omega),hlast]
   have e2:(linkV m c [⟨0,0⟩] 4)[m.length]'(by rw[hlen];omega)=newPart m c [⟨0,0⟩] 4:=by
    unfold linkV
    rw[List.getElem_append_right (Nat.le_refl _)]
    simp
   rw[e2]
   unfold partE newPart
   dsimp only
   have he:firstE (entE c.length) [⟨0,0⟩]=0:=firstE_zero (fun x hx=>by
    rw[List.mem_singleton.1 hx]
    unfold entE
    rw[if_neg (by unfold entBad;dsimp only;omega)])
   rw[if_neg (by simp;omega),if_neg (fun h=>h (firstE_zero hc)),if_neg (fun h=>h he),hwr,if_neg (by omega)]
 ·unfold linkV at hq
  rcases List.mem_append.1 hq with hq | hq
  ·exact hI.1 q hq
  ·rw[List.mem_singleton.1 hq]
   refine ⟨fun x hx=>instrE_I (hc x hx),fun x hx=>?_,?_,?_,?_,?_⟩
   ·rw[List.mem_singleton.1 hx];exact ⟨by unfold I64;decide,by unfold I64;decide⟩
   ·show I64 (imgWords m);unfold I64;omega
   ·show I64 (IntKind.i64.wrap (imgWords m+4));rw[hwr];unfold I64;omega
   ·show c.length*32≤_;omega
   ·show ([⟨0,0⟩]:List Entry).length*16≤_;decide
 ·rcases List.mem_append.1 hn with hn | hn
  ·exact hdw n hn
  ·unfold wordN
   simp only[List.mem_cons,List.not_mem_nil,or_false] at hn
   omega
def hostF (m:Image):List PF:=[⟨(m.length:Int),0,p8 [],[],-1⟩]
theorem hostRun {m:Image} {d:List Int} {c:List Instr} {x:Image} (h:HostOk m d c x) (n:Nat) (hn:n≤100000):runE x (d++[1,2,3,4]) m.length 0 [] n=0∧runV x (d++[1,2,3,4]) m.length 0 [] n=outOf (iterS x n ⟨[],d++[1,2,3,4],[]⟩ (hostF m))∧SOk x ⟨[],d++[1,2,3,4],[]⟩ (hostF m):=by
 have hpa:Barb.partAt x m.length=x.getD m.length noPart:=by
  have hl:m.length < x.length:=by have:=h.len;omega
  rw[show ((m.length:Nat):Int)=((m.length:Nat):Int) from rfl,Barb.partAt_at hl]
  simp[hl]
 have hen:entAt x m.length 0=⟨0,0⟩:=by
  unfold entAt
  rw[hpa,h.ent];rfl
 have hdE:dataE x (d++[1,2,3,4])=0:=by
  unfold dataE
  rw[if_neg (fun hh=>hh h.img),if_neg (fun hh=>hh h.data)]
  exact wordE_zero h.word
 have hE:runE x (d++[1,2,3,4]) m.length 0 [] n=0:=by
  unfold runE
  rw[if_neg (fun hh=>hh hdE),hpa,h.ent,hen,if_neg (by have:=h.len;simp;omega),if_neg (by simp),if_neg]
  rintro (hh | hh | ⟨_,hh,_⟩)
  ·omega
  ·omega
  ·simp at hh
 refine ⟨hE,?_,⟨h.img,h.data,by simp,by simp,by simp[hostF],fun f hf=>?_⟩⟩
 ·unfold runV
  rw[if_pos hE,hen,Int.toNat_natCast];rfl
 ·unfold hostF at hf
  rw[List.mem_singleton.1 hf]
  exact ⟨⟨m.length,rfl,by have:=h.len;omega⟩,(by decide:(0:Int)≤0),(by decide:(0:Int)≤2000),by simp[p8],by simp,by simp⟩
theorem iterS_lens {m:Image}:∀ (n:Nat) {o:MO} {fs:List PF},SOk m o fs→(iterS m n o fs).2.2.told.length≤501∧(iterS m n o fs).2.2.data.length=o.data.length
 | 0,o,fs,ok=>⟨by have:=ok.told;show o.told.length≤501;omega,rfl⟩
 | n+1,o,fs,ok=>by
  by_cases hne:fs=[]
  ·subst hne
   exact ⟨by have:=ok.told;show o.told.length≤501;omega,rfl⟩
  obtain ⟨pre,t,rfl⟩:=last_split fs hne
  rw[iterS_snoc]
  have hs:=stepS_all (P:=fun o'=>o'.data.length=o.data.length∧o'.told.length≤501) (m:=m) ⟨fun x=>⟨rfl,by have:=ok.told;simp;omega⟩,fun _ _=>⟨by simp,by have:=ok.told;show o.told.length≤501;omega⟩,fun k v=>by have:=ok.told;unfold noteS;split<;>exact ⟨rfl,by show o.told.length≤501;omega⟩⟩ ok ⟨rfl,by have:=ok.told;omega⟩ (fun _ _=>⟨rfl,by have:=ok.told;show o.told.length≤501;omega⟩)
  have ho:=stepS_ok ok
  cases hx:Barb.stepS m o pre t with
  | go o' fs' =>
   rw[hx] at hs ho
   obtain ⟨h1,h2⟩:=iterS_lens n ho.1
   exact ⟨h1,h2.trans hs.1.1⟩
  | stop c v o' =>
   rw[hx] at hs
   exact ⟨hs.1.2,hs.1.1⟩
end Barb
