import Derived.Test.YthcmdjkaepclhaaMc
import Derived.Test.YthcmdjkaepclhaaSpec2
import Derived.Test.YthcmdjkaepclhaaGh
import Derived.Test.YthcmdjkaepclhaaDlib
import Derived.Test.YthcmdjkaepclhaaDseat
import Derived.Test.YthcmdjkaepclhaaWd
import Derived.WalkKit
import Derived.BigCall
import Derived.RegionTactic
import Derived.Test.YthcmdjkaepclhaaCl
namespace Barb
open Go Go.Dm Go.Eng
def imgWords (m:List Part):Int:=fromAt m m.length
def wordN (n:Int):Prop:=0<=n/\n<=65535
instance (n:Int):Decidable (wordN n):=by unfold wordN;infer_instance
def wordE (n:Int):Int:=if wordN n then 0 else 2
def dataE (m:List Part) (d:List Int):Int:=if imgE m≠0 then imgE m else if ¬((d.length:Int)=imgWords m) then 4 else firstE wordE d
end Barb
namespace Go.Proofs.Ythcmdjkaepclhaa
open Go Go.Dm Go.Eng Barb
theorem WordsOf_any (m:Image) (hm:Image.I m):CT Try.prog [] 66 [.agg (imgD m)] (Is (.g (.int (imgWords m)))):=by
 have lm:(m.map Part.g).length=m.length:=by simp
 have hl:=hm.2
 refine enter hT hF hM Try.func66 rfl 19 rfl (by kernel_rfl) [.tmp 2] rfl [.agg (imgD m)] rfl _ ?_
 refine loopR (ι:=Nat) (fun i=>[(4,.g (.int (i:Int))),(3,.g (.int (fromAt m i))),(1,.ptr 0 0)]) (fun _=>[.blk (imgD m) 40]) (fun i=>i<=m.length) (fun i=>m.length - i)
  ⟨0,[.old 0],⟨rfl,.inl rfl,.inr ⟨lk rfl,lk rfl,lk rfl,trivial⟩,rfl⟩,Nat.zero_le _⟩ ?_
 intro Rd hRd i hi
 refine ⟨fun b0=>?_,fun b0=>?_⟩
 ·have b1:i < m.length:=by omega
  refine ⟨i,_,rfl,gm b1,?_⟩
  refine ⟨_,I64.wrap (by unfold I64;omega),?_⟩
  exact hRd _ _ _ ⟨i+1,[.old 0],⟨rfl,.inl rfl,.inr ⟨lk rfl,lkI (fromAt_succ b1).symm,lk rfl,trivial⟩,rfl⟩,b1,by omega⟩
 ·have hil:i=m.length:=by omega
  subst hil
  exact ⟨rfl,retI rfl⟩
theorem DataFault_any (m:Image) (hm:Image.I m) (d:List Int) (hd:d.length*8<=140737488351232):CT Try.prog [] 49 [.agg (imgD m),.g (.sl 1 (d.map intG))] (Is (.g (.int (dataE m d)))):=by
 have ld:(d.map intG).length=d.length:=by simp
 have e:dataE m d=dataE m d:=rfl
 conv at e=>rhs;unfold dataE
 refine enter hT hF hM Try.func49 rfl 29 rfl (by kernel_rfl) [.tmp 4] rfl [.agg (imgD m),.g (.sl 1 (d.map intG))] rfl _ ?_
 refine callIs (.inl rfl) (ImageFault_any m hm) ⟨fun h=>⟨rfl,retI (by rw[e,if_pos h])⟩,fun h=>?_⟩
 rw[if_neg (fun h'=>h' h)] at e
 refine callIs (.inl rfl) (WordsOf_any m hm) ⟨fun h=>⟨rfl,retI (by rw[e,if_pos (by rw[<- ld];exact h)])⟩,fun h=>?_⟩
 rw[if_neg (by rw[<- ld];exact fun h'=>h' h)] at e
 refine loopR (ι:=Nat) (fun i=>[(6,.g (.int (i:Int)))]) (fun _=>[]) (fun i=>i<=d.length/\∀ j (hj:j < d.length),j < i->wordE d[j]=0) (fun i=>d.length - i)
  ⟨0,[],⟨rfl,.inl rfl,.inr ⟨lk rfl,trivial⟩,rfl⟩,Nat.zero_le _,none0⟩ ?_
 intro Rd hRd i ⟨hi,ha⟩
 refine ⟨fun b0=>?_,fun b0=>?_⟩
 ·have b1:i < d.length:=by omega
  refine ⟨i,_,rfl,gm b1,?_⟩
  refine callIs (.inl rfl) (IsWord_any d[i]) ⟨fun b2=>⟨rfl,retI ?_⟩,fun b2=>⟨_,I64.wrap (by unfold I64;omega),?_⟩⟩
  ·have hz:wordE d[i]=2:=by unfold wordE;exact if_neg b2
   rw[e,firstE_at b1 ha (by rw[hz];decide),hz]
  ·exact hRd _ _ _ ⟨i+1,[],⟨rfl,.inl rfl,.inr ⟨lk rfl,trivial⟩,rfl⟩,⟨b1,firstE_step b1 ha (by unfold wordE;exact if_pos b2)⟩,by omega⟩
 ·exact ⟨rfl,retI (by rw[e,firstE_end (by omega) ha])⟩
end Go.Proofs.Ythcmdjkaepclhaa
namespace Barb
open Go Go.Dm Go.Eng
theorem img_ok {m:List Part} (h:imgE m=0):∀ i (hi:i < m.length),m[i].lo=fromAt m i/\m[i].lo<=m[i].hi/\m[i].hi<=250:=by
 intro i hi
 unfold imgE at h
 by_cases h5:5 < m.length
 ·rw[if_pos h5] at h;omega
 ·rw[if_neg h5] at h
  have hF:=firstN_zero h i hi
  rw[imgF_at hi] at hF
  unfold partE at hF
  by_cases h1:1200 < m[i].code.length\/8 < m[i].entries.length
  ·rw[if_pos h1] at hF;omega
  ·rw[if_neg h1] at hF
   by_cases h2:firstE instrE m[i].code≠0
   ·rw[if_pos h2] at hF;exact absurd hF h2
   ·rw[if_neg h2] at hF
    by_cases h3:firstE (entE m[i].code.length) m[i].entries≠0
    ·rw[if_pos h3] at hF;exact absurd hF h3
    ·rw[if_neg h3] at hF
     by_cases h4:¬m[i].lo=fromAt m i\/m[i].hi < m[i].lo\/250 < m[i].hi
     ·rw[if_pos h4] at hF;omega
     ·omega
theorem from_mono {m:List Part} (h:imgE m=0):∀ (k i:Nat),i+k<=m.length->fromAt m i<=fromAt m (i+k)
 | 0,i,_=>Int.le_refl _
 | k+1,i,hk=>by
  have h1:=from_mono h k i (by omega)
  have hl:i+k < m.length:=by omega
  have h2:=img_ok h (i+k) hl
  have h3:=fromAt_succ hl
  rw[show i+(k+1)=i+k+1 from by omega]
  omega
theorem img_in {m:List Part} (h:imgE m=0) {i:Nat} (hi:i < m.length):0<=m[i].lo/\m[i].lo<=m[i].hi/\m[i].hi<=imgWords m/\m[i].hi<=250:=by
 have h1:=img_ok h i hi
 have h2:=from_mono h i 0 (by omega)
 have h3:=from_mono h (m.length - (i+1)) (i+1) (by omega)
 rw[show i+1+(m.length - (i+1))=m.length from by omega,fromAt_succ hi] at h3
 have h4:fromAt m 0=0:=rfl
 rw[Nat.zero_add] at h2
 unfold imgWords
 omega
def partAt (m:List Part) (p:Int):Part:=m.getD p.toNat ⟨[],[],0,0⟩
theorem partAt_at {m:List Part} {k:Nat} (h:k < m.length):partAt m (k:Int)=m[k]:=by simp[partAt,h]
theorem dataE_ok {m:List Part} {d:List Int} (h:dataE m d=0):imgE m=0/\(d.length:Int)=imgWords m:=by
 unfold dataE at h
 by_cases h1:imgE m≠0
 ·rw[if_pos h1] at h;exact absurd h h1
 ·rw[if_neg h1] at h
  by_cases h2:¬((d.length:Int)=imgWords m)
  ·rw[if_pos h2] at h;omega
  ·exact ⟨Classical.not_not.1 h1,Classical.not_not.1 h2⟩
end Barb
namespace Go.Proofs.Ythcmdjkaepclhaa
open Go Go.Dm Go.Eng Barb
end Go.Proofs.Ythcmdjkaepclhaa
namespace Go.Dm
open Go Go.Eng Go.RowKit
end Go.Dm
namespace Go.Proofs.Ythcmdjkaepclhaa
open Go Go.Dm Go.Eng Go.RowKit
end Go.Proofs.Ythcmdjkaepclhaa
namespace Barb
open Go Go.Dm Go.Eng
structure Nt where
 by_:Int
 part:Int
 entry:Int
 args:List Int
 deep:Int
 done:Bool
 value:Int
def Nt.g (n:Nt):List GV:=[.int n.by_,.int n.part,.int n.entry,.sl 1 (n.args.map intG),.int n.deep,.bool n.done,.int n.value]
structure PF where
 part:Int
 at_:Int
 locs:List Int
 ws:List Int
 noted:Int
structure Fr where
 f:PF
 v:Value
structure MO where
 told:List Int
 data:List Int
 calls:List Nt
def Fr.g (x:Fr):List GV:=.int x.f.part :: .int x.f.at_ :: (x.f.locs.map .int++[.raw x.v,.int x.f.noted])
def Fr.z (t:Nat) (x:Fr):Value × Ob0:=(x.v,.row (x.f.ws.map intG) t 1)
def Fr.ww (x:Fr) (ws:List Int) (v:Value):Fr:=⟨{ x.f with ws:=ws },v⟩
def Fr.ok (x:Fr):Prop:=x.f.locs.length=8/\x.f.ws.length<=40
theorem snoc_at {α β:Type} (f:α->β) (pre:List α) (t:α):((pre++[t]).map f)[pre.length]?=some (f t):=by simp
structure Ns where
 d:Value
 t:Value
 c:Value
 f:Value
end Barb
namespace Go.Proofs.Ythcmdjkaepclhaa
open Go Go.Dm Go.Eng Go.RowKit Barb
end Go.Proofs.Ythcmdjkaepclhaa
namespace Go.Proofs.Ythcmdjkaepclhaa
open Go Go.Dm Go.Eng Go.RowKit Barb
end Go.Proofs.Ythcmdjkaepclhaa
namespace Barb
open Go Go.Dm Go.Eng
def p8 (l:List Int):List Int:=[l.getD 0 0,l.getD 1 0,l.getD 2 0,l.getD 3 0,l.getD 4 0,l.getD 5 0,l.getD 6 0,l.getD 7 0]
theorem p8_set (l:List Int) (a b c d:D):setL [a,b,.g (.int 0),.g (.int 0),.g (.int 0),.g (.int 0),.g (.int 0),.g (.int 0),.g (.int 0),.g (.int 0),c,d] 2 ((((l.map intG).take 8).flatten).map .g) =
  [a,b,.g (.int (l.getD 0 0)),.g (.int (l.getD 1 0)),.g (.int (l.getD 2 0)),.g (.int (l.getD 3 0)),.g (.int (l.getD 4 0)),.g (.int (l.getD 5 0)),.g (.int (l.getD 6 0)),.g (.int (l.getD 7 0)),c,d]:=by
 match l with
 | []=>rfl
 | [_]=>rfl
 | [_,_]=>rfl
 | [_,_,_]=>rfl
 | [_,_,_,_]=>rfl
 | [_,_,_,_,_]=>rfl
 | [_,_,_,_,_,_]=>rfl
 | [_,_,_,_,_,_,_]=>rfl
 | _ :: _ :: _ :: _ :: _ :: _ :: _ :: _ :: _=>rfl
def isOwn (p:Part) (at_:Int):Prop:=p.lo<=at_/\at_ < p.hi
instance (p:Part) (at_:Int):Decidable (isOwn p at_):=by unfold isOwn;infer_instance
end Barb
namespace Go.Proofs.Ythcmdjkaepclhaa
open Go Go.Dm Go.Eng Go.RowKit Barb
end Go.Proofs.Ythcmdjkaepclhaa
namespace Barb
open Go Go.Dm Go.Eng Go.Proofs.Ythcmdjkaepclhaa
inductive R where
 | go (o:MO) (fs:List PF)
 | stop (c v:Int) (o:MO)
def PF.ww (t:PF) (ws:List Int):PF:={ t with ws:=ws }
def pushS (o:MO) (pre:List PF) (t:PF) (n:Int):R:=if t.ws.length=40 then .stop 4 0 o else .go o (pre++[t.ww (t.ws++[n])])
def PF.off (t:PF) (n:Nat):List Int:=t.ws.drop (t.ws.length - n)
def PF.on (t:PF) (n:Nat):PF:=t.ww (t.ws.take (t.ws.length - n))
def enterS (o:MO) (fs:List PF) (part at_ noted:Int) (args:List Int):R:=if fs.length=20 then .stop 5 0 o else .go o (fs++[⟨part,at_,p8 args,[],noted⟩])
def memS (p:Part) (i:Instr) (o:MO) (pre:List PF) (t:PF):R :=
 if i.op=6 then
  if t.ws.length < 1 then .stop 4 0 o else
  if isOwn p ((t.off 1).getD 0 0) then .go o (pre++[t.ww ((t.on 1).ws++[o.data.getD ((t.off 1).getD 0 0).toNat 0])]) else .stop 4 0 o
 else
  if t.ws.length < 2 then .stop 4 0 o else
  if isOwn p ((t.off 2).getD 0 0) then .go { o with data:=o.data.set ((t.off 2).getD 0 0).toNat ((t.off 2).getD 1 0) } (pre++[t.on 2]) else .stop 4 0 o
def noPart:Part:=⟨[],[],0,0⟩
def noEntry:Entry:=⟨0,0⟩
def noInstr:Instr:=⟨0,0,0,0⟩
def gateBad (m:Image) (i:Instr):Prop:=i.a >= m.length\/i.b >= (m.getD i.a.toNat noPart).entries.length\/((m.getD i.a.toNat noPart).entries.getD i.b.toNat noEntry).params≠i.c
instance (m:Image) (i:Instr):Decidable (gateBad m i):=by unfold gateBad;infer_instance
def gateS (m:Image) (i:Instr) (o:MO) (pre:List PF) (t:PF):R :=
 if t.ws.length < i.c.toNat then .stop 4 0 o else if gateBad m i then .stop 4 0 o else
 let e:=(m.getD i.a.toNat noPart).entries.getD i.b.toNat noEntry
 let l:=t.off i.c.toNat
 if o.calls.length < 100 then enterS { o with calls:=o.calls++[⟨t.part,i.a,i.b,l,(pre.length+1:Nat),false,0⟩] } (pre++[t.on i.c.toNat]) i.a e.at_ o.calls.length l
 else enterS o (pre++[t.on i.c.toNat]) i.a e.at_ (-1) l
def Nt.fin (n:Nt) (v:Int):Nt:={ n with done:=true,value:=v }
def noteS (o:MO) (k:Int) (v:Int):MO:=if 0<=k then { o with calls:=o.calls.modify k.toNat (·.fin v) } else o
def retS (o:MO) (pre:List PF) (t:PF):R :=
 if t.ws.length < 1 then .stop 4 0 o else
 let v:=(t.off 1).getD 0 0
 match pre.getLast? with
 | none=>.stop 1 v (noteS o t.noted v)
 | some f=>pushS (noteS o t.noted v) pre.dropLast f v
def ctlS (m:Image) (i:Instr) (o:MO) (pre:List PF) (t:PF):R :=
 if i.op=9 then .go o (pre++[{ t with at_:=i.a }])
 else if i.op=10 then if t.ws.length < 1 then .stop 4 0 o else .go o (pre++[if (t.off 1).getD 0 0=0 then { t.on 1 with at_:=i.a } else t.on 1])
 else if i.op=11 then if t.ws.length < i.b.toNat then .stop 4 0 o else enterS o (pre++[t.on i.b.toNat]) t.part i.a (-1) (t.off i.b.toNat)
 else if i.op=12 then gateS m i o pre t
 else if i.op=13 then retS o pre t
 else .stop 2 0 o
def wrdS (i:Instr) (o:MO) (pre:List PF) (t:PF):R :=
 if i.op=1 then pushS o pre t i.a
 else if i.op=4 then pushS o pre t (t.locs.getD i.a.toNat 0)
 else
  let n:Nat:=if i.op=8 then 2 else 1
  if t.ws.length < n then .stop 4 0 o else
  let x:=(t.off n).getD 0 0
  if i.op=3 then if t.ws.length=40 then .stop 4 0 o else .go o (pre++[t.ww (t.ws++[x])])
  else if i.op=5 then .go o (pre++[{ t.on 1 with locs:=t.locs.set i.a.toNat x }])
  else if i.op=14 then if o.told.length=500 then .stop 6 0 o else .go { o with told:=o.told++[x] } (pre++[t.on 1])
  else if i.op=8 then .go o (pre++[t.ww ((t.on 2).ws++[doI i.a x ((t.off 2).getD 1 0)])])
  else .go o (pre++[t.on 1])
def stepS (m:Image) (o:MO) (pre:List PF) (t:PF):R :=
 let p:=m.getD t.part.toNat noPart
 if t.at_ >= p.code.length then .stop 4 0 o else
 let i:=p.code.getD t.at_.toNat noInstr
 let t:={ t with at_:=t.at_+1 }
 if i.op=6\/i.op=7 then memS p i o pre t
 else if i.op=9\/i.op=10\/i.op=11\/i.op=12\/i.op=13\/i.op=15 then ctlS m i o pre t
 else wrdS i o pre t
structure PF.ok (m:Image) (calls:List Nt) (t:PF):Prop where
 part:∃ k:Nat,t.part=(k:Int)/\k < m.length
 at0:0<=t.at_
 at1:t.at_<=2000
 locs:t.locs.length=8
 ws:t.ws.length<=40
 noted:t.noted < calls.length
structure SOk (m:Image) (o:MO) (fs:List PF):Prop where
 img:imgE m=0
 data:(o.data.length:Int)=imgWords m
 told:o.told.length<=500
 calls:o.calls.length<=100
 deep:fs.length<=20
 frs:∀ f∈fs,f.ok m o.calls
end Barb
namespace Barb
open Go Go.Dm Go.Eng
theorem isOwn_at {m:List Part} {d:List Int} (hi:imgE m=0) (hd:(d.length:Int)=imgWords m) {k:Nat} (hk:k < m.length) {a:Int} (ho:isOwn m[k] a):∃ n:Nat,a=(n:Int)/\n < d.length:=by
 obtain ⟨h1,h2,h3,h4⟩:=img_in hi hk
 obtain ⟨h5,h6⟩:=ho
 exact ⟨a.toNat,by omega,by omega⟩
theorem off_one {ws:List Int} {k:Nat} (h:ws.length=k+1):∃ x,ws.drop k=[x]/\ws=ws.take k++[x]:=by
 have h1:(ws.drop k).length=1:=by simp[h]
 match hd:ws.drop k,h1 with
 | [x],_=>exact ⟨x,rfl,by rw[<- hd,List.take_append_drop]⟩
theorem off_two {ws:List Int} {k:Nat} (h:ws.length=k+2):∃ x y,ws.drop k=[x,y]/\ws=ws.take k++[x,y]:=by
 have h1:(ws.drop k).length=2:=by simp[h]
 match hd:ws.drop k,h1 with
 | [x,y],_=>exact ⟨x,y,rfl,by rw[<- hd,List.take_append_drop]⟩
end Barb
namespace Go.Proofs.Ythcmdjkaepclhaa
open Go Go.Dm Go.Eng Go.RowKit Barb
end Go.Proofs.Ythcmdjkaepclhaa
namespace Barb
open Go Go.Dm Go.Eng Go.Proofs.Ythcmdjkaepclhaa
theorem instr_rng {x:Instr} (h:instrE x=0):1<=x.op/\x.op<=15/\0<=x.a/\x.a<=bdA x.op/\0<=x.b/\x.b<=bdB x.op/\0<=x.c/\x.c<=bdC x.op/\(x.op=8->1<=x.a):=by
 unfold instrE at h
 by_cases h1:¬(1<=x.op/\x.op<=15)
 ·rw[if_pos h1] at h;omega
 ·rw[if_neg h1] at h
  by_cases h2:instrBad x
  ·rw[if_pos h2] at h;omega
  ·unfold instrBad at h2
   omega
theorem code_ok {m:List Part} (h:imgE m=0) {k:Nat} (hk:k < m.length):m[k].code.length<=1200/\m[k].entries.length<=8/\(∀ x∈m[k].code,instrE x=0)/\(∀ x∈m[k].entries,0<=x.at_/\x.at_ < m[k].code.length/\0<=x.params/\x.params<=4):=by
 unfold imgE at h
 by_cases h5:5 < m.length
 ·rw[if_pos h5] at h;omega
 ·rw[if_neg h5] at h
  have hF:=firstN_zero h k hk
  rw[imgF_at hk] at hF
  unfold partE at hF
  by_cases h1:1200 < m[k].code.length\/8 < m[k].entries.length
  ·rw[if_pos h1] at hF;omega
  ·rw[if_neg h1] at hF
   by_cases h2:firstE instrE m[k].code≠0
   ·rw[if_pos h2] at hF;exact absurd hF h2
   ·rw[if_neg h2] at hF
    by_cases h3:firstE (entE m[k].code.length) m[k].entries≠0
    ·rw[if_pos h3] at hF;exact absurd hF h3
    ·refine ⟨by omega,by omega,firstE_all (Classical.not_not.1 h2),fun x hx=>?_⟩
     have he:=firstE_all (Classical.not_not.1 h3) x hx
     unfold entE at he
     by_cases h4:entBad m[k].code.length x
     ·rw[if_pos h4] at he;omega
     ·unfold entBad at h4
      omega
theorem img_len {m:List Part} (h:imgE m=0):m.length<=5:=by
 unfold imgE at h
 by_cases h5:5 < m.length
 ·rw[if_pos h5] at h;omega
 ·omega
theorem PF.ok.more {m:Image} {c c':List Nt} {t:PF} (h:t.ok m c) (hc:c.length<=c'.length):t.ok m c':=⟨h.part,h.at0,h.at1,h.locs,h.ws,by have:=h.noted;omega⟩
theorem SOk.init {m:Image} {o:MO} {fs:List PF} {t:PF} (h:SOk m o (fs++[t])):t.ok m o.calls:=h.frs t (by simp)
theorem SOk.rest {m:Image} {o:MO} {fs:List PF} {t:PF} (h:SOk m o (fs++[t])):SOk m o fs:=⟨h.img,h.data,h.told,h.calls,by have:=h.deep;simp at this;omega,fun f hf=>h.frs f (by simp[hf])⟩
theorem SOk.snoc {m:Image} {o o':MO} {fs:List PF} {t:PF} (h:SOk m o fs) (hd:o'.data.length=o.data.length) (ht:o'.told.length<=500) (hc:o.calls.length<=o'.calls.length) (hc':o'.calls.length<=100) (hf:fs.length < 20) (ok:t.ok m o'.calls):SOk m o' (fs++[t]) :=
 ⟨h.img,by rw[hd];exact h.data,ht,hc',by simp;omega,fun f hf=>by
  rcases List.mem_append.1 hf with hf | hf
  ·exact (h.frs f hf).more hc
  ·rcases List.mem_singleton.1 hf with rfl;exact ok⟩
def ROk (m:Image):R->Prop
 | .go o fs=>SOk m o fs/\fs≠[]
 | .stop c _ _=>c≠0
theorem pushS_ok {m:Image} {o:MO} {pre:List PF} {t:PF} (h:SOk m o (pre++[t])) (n:Int):ROk m (pushS o pre t n):=by
 unfold pushS
 have ht:=h.init
 have hw:=ht.ws
 have hl:=h.deep
 simp only[List.length_append,List.length_singleton] at hl
 split
 ·simp[ROk]
 ·refine ⟨h.rest.snoc rfl h.told (Nat.le_refl _) h.calls (by omega) ⟨ht.part,ht.at0,ht.at1,ht.locs,?_,ht.noted⟩,by simp⟩
  show (t.ws++[n]).length<=40
  simp;omega
theorem enterS_ok {m:Image} {o:MO} {fs:List PF} (h:SOk m o fs) {part at_ noted:Int} {args:List Int} (hp:∃ k:Nat,part=(k:Int)/\k < m.length) (ha:0<=at_/\at_<=2000) (hn:noted < o.calls.length):ROk m (enterS o fs part at_ noted args):=by
 unfold enterS
 split
 ·simp[ROk]
 ·exact ⟨h.snoc rfl h.told (Nat.le_refl _) h.calls (by have:=h.deep;omega) ⟨hp,ha.1,ha.2,rfl,Nat.zero_le _,hn⟩,by simp⟩
theorem PF.ok.on {m:Image} {c:List Nt} {t:PF} (h:t.ok m c) (n:Nat):(t.on n).ok m c:=⟨h.part,h.at0,h.at1,h.locs,by have:=h.ws;simp[PF.on,PF.ww];omega,h.noted⟩
theorem PF.ok.at_ {m:Image} {c:List Nt} {t:PF} (h:t.ok m c) {n:Int} (h0:0<=n) (h1:n<=2000):PF.ok m c { t with at_:=n }:=⟨h.part,h0,h1,h.locs,h.ws,h.noted⟩
theorem SOk.top {m:Image} {o:MO} {fs:List PF} {t t':PF} (h:SOk m o (fs++[t])) (ok:t'.ok m o.calls):SOk m o (fs++[t']):=by
 have hl:=h.deep
 simp only[List.length_append,List.length_singleton] at hl
 exact h.rest.snoc rfl h.told (Nat.le_refl _) h.calls (by omega) ok
theorem snoc_ne {α:Type} {l:List α} {x:α}:l++[x]≠[]:=by simp
theorem gateS_ok {m:Image} {i:Instr} {o:MO} {pre:List PF} {t:PF} (h:SOk m o (pre++[t])) (hi:instrE i=0):ROk m (gateS m i o pre t):=by
 unfold gateS
 obtain ⟨_,_,ha,_,hb,_,hc,_⟩:=instr_rng hi
 have hct:=h.calls
 have hl:=h.deep
 simp only[List.length_append,List.length_singleton] at hl
 split
 ·simp[ROk]
 ·split
  ·simp[ROk]
  ·rename_i hg
   unfold gateBad at hg
   obtain ⟨a,hae⟩:∃ a:Nat,i.a=(a:Int):=⟨i.a.toNat,by omega⟩
   obtain ⟨b,hbe⟩:∃ b:Nat,i.b=(b:Int):=⟨i.b.toNat,by omega⟩
   rw[hae,hbe] at hg ⊢
   simp only[Int.toNat_natCast] at hg ⊢
   have hal:a < m.length:=by omega
   have em:m.getD a noPart=m[a]:=by simp[hal]
   rw[em] at hg ⊢
   have hbl:b < m[a].entries.length:=by omega
   have ee:m[a].entries.getD b noEntry=m[a].entries[b]:=by simp[hbl]
   rw[ee]
   obtain ⟨hc1,_,_,hc4⟩:=code_ok h.img hal
   have:=hc4 _ (List.getElem_mem hbl)
   split
   ·refine enterS_ok ?_ ⟨a,rfl,hal⟩ ⟨by omega,by omega⟩ (by simp;omega)
    refine h.rest.snoc rfl h.told (by simp) (by simp;omega) (by omega) ((h.init.on _).more (by simp))
   ·exact enterS_ok (h.top (h.init.on _)) ⟨a,rfl,hal⟩ ⟨by omega,by omega⟩ (by omega)
theorem noteS_len (o:MO) (k v:Int):(noteS o k v).calls.length=o.calls.length/\(noteS o k v).told=o.told/\(noteS o k v).data=o.data:=by
 unfold noteS
 split
 ·exact ⟨List.length_modify _ _ _,rfl,rfl⟩
 ·exact ⟨rfl,rfl,rfl⟩
theorem retS_ok {m:Image} {o:MO} {pre:List PF} {t:PF} (h:SOk m o (pre++[t])):ROk m (retS o pre t):=by
 unfold retS
 split
 ·simp[ROk]
 ·split
  ·simp[ROk]
  ·rename_i f hf
   obtain ⟨n1,n2,n3⟩:=noteS_len o t.noted ((t.off 1).getD 0 0)
   refine pushS_ok ?_ _
   rcases List.eq_nil_or_concat pre with rfl | ⟨l,x,rfl⟩
   ·simp at hf
   ·rw[List.concat_eq_append,List.getLast?_append,List.getLast?_singleton] at hf
    simp at hf
    subst hf
    rw[List.concat_eq_append] at h
    have h2:=h.rest
    rw[List.concat_eq_append,List.dropLast_concat]
    have hl:=h2.deep
    simp only[List.length_append,List.length_singleton] at hl
    exact h2.rest.snoc (by rw[n3]) (by rw[n2];exact h.told) (by omega) (by rw[n1];exact h.calls) (by omega) (h2.init.more (by omega))
theorem stepS_ok {m:Image} {o:MO} {pre:List PF} {t:PF} (h:SOk m o (pre++[t])):ROk m (stepS m o pre t):=by
 have ht:=h.init
 obtain ⟨k,hk,hkl⟩:=ht.part
 have em:m.getD t.part.toNat noPart=m[k]:=by rw[hk];simp[hkl]
 obtain ⟨hc1,hc2,hc3,hc4⟩:=code_ok h.img hkl
 unfold stepS
 simp only
 rw[em]
 split
 ·simp[ROk]
 ·rename_i hlt
  have h0:=ht.at0
  obtain ⟨j,hj⟩:∃ j:Nat,t.at_=(j:Int):=⟨t.at_.toNat,by omega⟩
  have hjl:j < m[k].code.length:=by omega
  have ei:m[k].code.getD t.at_.toNat noInstr=m[k].code[j]:=by rw[hj];simp[hjl]
  rw[ei]
  have hi:=hc3 _ (List.getElem_mem hjl)
  generalize m[k].code[j]=i at hi
  have ht1:PF.ok m o.calls { t with at_:=t.at_+1 }:=ht.at_ (by omega) (by omega)
  have h1:SOk m o (pre++[{ t with at_:=t.at_+1 }]):=h.top ht1
  generalize { t with at_:=t.at_+1 }=u at ht1 h1
  obtain ⟨i1,i2,i3,i4,i5,i6,i7,i8,i9⟩:=instr_rng hi
  have hw:=ht1.ws
  have hl:=h.deep
  simp only[List.length_append,List.length_singleton] at hl
  split
  ·unfold memS
   split
   ·split
    ·simp[ROk]
    ·split
     ·refine ⟨h1.top ⟨ht1.part,ht1.at0,ht1.at1,ht1.locs,?_,ht1.noted⟩,snoc_ne⟩
      simp[PF.ww,PF.on];omega
     ·simp[ROk]
   ·split
    ·simp[ROk]
    ·split
     ·exact ⟨h1.rest.snoc (by simp) h.told (Nat.le_refl _) h.calls (by omega) (ht1.on 2),snoc_ne⟩
     ·simp[ROk]
  ·split
   ·unfold ctlS
    split
    ·rename_i h9
     refine ⟨h1.top (ht1.at_ i3 ?_),snoc_ne⟩
     rw[h9] at i4;have:bdA 9=1199:=rfl
     omega
    ·split
     ·rename_i h9
      rw[h9] at i4;have:bdA 10=1199:=rfl
      split
      ·simp[ROk]
      ·refine ⟨h1.top ?_,snoc_ne⟩
       split
       ·exact (ht1.on 1).at_ i3 (by omega)
       ·exact ht1.on 1
     ·split
      ·rename_i h9
       rw[h9] at i4;have:bdA 11=1199:=rfl
       split
       ·simp[ROk]
       ·exact enterS_ok (h1.top (ht1.on _)) ht1.part ⟨i3,by omega⟩ (by omega)
      ·split
       ·exact gateS_ok h1 hi
       ·split
        ·exact retS_ok h1
        ·simp[ROk]
   ·unfold wrdS
    split
    ·exact pushS_ok h1 _
    ·split
     ·exact pushS_ok h1 _
     ·dsimp only
      generalize hn:(if i.op=8 then 2 else 1:Nat)=n
      split
      ·simp[ROk]
      ·split
       ·split
        ·simp[ROk]
        ·refine ⟨h1.top ⟨ht1.part,ht1.at0,ht1.at1,ht1.locs,?_,ht1.noted⟩,snoc_ne⟩
         simp[PF.ww];omega
       ·split
        ·exact ⟨h1.top ⟨ht1.part,ht1.at0,ht1.at1,by simp[ht1.locs],(ht1.on 1).ws,ht1.noted⟩,snoc_ne⟩
        ·split
         ·split
          ·simp[ROk]
          ·exact ⟨h1.rest.snoc rfl (by have:=h.told;simp;omega) (Nat.le_refl _) h.calls (by omega) (ht1.on 1),snoc_ne⟩
         ·split
          ·refine ⟨h1.top ⟨ht1.part,ht1.at0,ht1.at1,ht1.locs,?_,ht1.noted⟩,snoc_ne⟩
           rename_i h8
           rw[if_pos h8] at hn
           have:2<=u.ws.length:=by omega
           simp[PF.ww,PF.on];omega
          ·exact ⟨h1.top (ht1.on 1),snoc_ne⟩
end Barb
namespace Barb
open Go Go.Dm Go.Eng
end Barb
namespace Go.Proofs.Ythcmdjkaepclhaa
open Go Go.Dm Go.Eng Go.RowKit Barb
end Go.Proofs.Ythcmdjkaepclhaa
namespace Barb
open Go Go.Dm Go.Eng
theorem getD_of {α:Type} {l:List α} {k:Nat} (h:k < l.length) (z:α):l.getD k z=l[k]:=by simp[h]
theorem modify_at {α:Type} {l:List α} {k:Nat} (h:k < l.length) (f:α->α):l.modify k f=l.set k (f l[k]):=by
 apply List.ext_getElem?
 intro i
 rw[List.getElem?_modify,List.getElem?_set]
 by_cases e:k=i
 ·subst e;simp[h]
 ·simp[e]
end Barb
namespace Go.Proofs.Ythcmdjkaepclhaa
open Go Go.Dm Go.Eng Go.RowKit Barb
end Go.Proofs.Ythcmdjkaepclhaa
namespace Go.Dm
open Go Go.Eng Go.RowKit
def kept (src:List Src):Nat->Heap->Bool
 | _,[]=>true
 | i,o :: h=>(!o.live || (match kp src 0 i with | some _=>true | none=>false)) && kept src (i+1) h
end Go.Dm
namespace Barb
open Go Go.Dm Go.Eng
theorem Nt.g_fin (n:Nt) (v:Int):setL (setL n.g (0+5) [.bool true]) (0+6) [.int v]=(n.fin v).g:=rfl
theorem note_g {o:MO} {k:Nat} (hk:k < o.calls.length) (v:Int):((o.calls.map Nt.g).set k (setL o.calls[k].g (0+5) [.bool true])).set k (setL (setL o.calls[k].g (0+5) [.bool true]) (0+6) [.int v])=(noteS o (k:Int) v).calls.map Nt.g:=by
 rw[List.set_set,Nt.g_fin]
 unfold noteS
 rw[if_pos (by omega)]
 simp only[Int.toNat_natCast]
 rw[modify_at hk,List.map_set]
theorem noteS_no {o:MO} {k:Int} (hk:¬0<=k) (v:Int):noteS o k v=o:=by unfold noteS;rw[if_neg hk]
end Barb
namespace Go.Proofs.Ythcmdjkaepclhaa
open Go Go.Dm Go.Eng Go.RowKit Barb
end Go.Proofs.Ythcmdjkaepclhaa
namespace Go.Proofs.Ythcmdjkaepclhaa
open Go Go.Dm Go.Eng Go.RowKit Barb
end Go.Proofs.Ythcmdjkaepclhaa
namespace Barb
open Go Go.Dm Go.Eng
def iterS (m:Image):Nat->MO->List PF->Int × Int × MO
 | 0,o,_=>(3,0,o)
 | n+1,o,fs=>match fs.getLast? with
  | none=>(0,0,o)
  | some t=>match Barb.stepS m o fs.dropLast t with
   | .go o' fs'=>iterS m n o' fs'
   | .stop c v o'=>(c,v,o')
theorem iterS_snoc (m:Image) (n:Nat) (o:MO) (fs:List PF) (t:PF):iterS m (n+1) o (fs++[t])=match Barb.stepS m o fs t with
   | .go o' fs'=>iterS m n o' fs'
   | .stop c v o'=>(c,v,o'):=by
 simp[iterS]
def entAt (m:Image) (part entry:Int):Entry:=(Barb.partAt m part).entries.getD entry.toNat noEntry
def runE (m:Image) (d:List Int) (part entry:Int) (args:List Int) (fuel:Int):Int :=
 if dataE m d≠0 then dataE m d
 else if part < 0\/part >= m.length\/entry < 0\/entry >= (Barb.partAt m part).entries.length then 5
 else if (args.length:Int)≠(entAt m part entry).params then 7
 else if fuel < 0\/fuel > 100000\/∃ n∈args,¬wordN n then 2 else 0
structure Outc where
 end_:Int
 value:Int
 told:List Int
 data:List Int
 calls:List Nt
abbrev Outc.d (o:Outc):List D:=[.g (.int o.end_),.g (.int o.value),.g (.sl 1 (o.told.map intG)),.g (.sl 1 (o.data.map intG)),.g (.sl 7 (o.calls.map Nt.g))]
def outOf (x:Int × Int × MO):Outc:=⟨x.1,x.2.1,x.2.2.told,x.2.2.data,x.2.2.calls⟩
def runV (m:Image) (d:List Int) (part entry:Int) (args:List Int) (fuel:Int):Outc :=
 if runE m d part entry args fuel=0 then outOf (iterS m fuel.toNat ⟨[],d,[]⟩ [⟨part,(entAt m part entry).at_,p8 args,[],-1⟩]) else ⟨0,0,[],[],[]⟩
theorem runV_bad {m:Image} {d:List Int} {part entry:Int} {args:List Int} {fuel e:Int} (h:runE m d part entry args fuel=e) (h0:e≠0):runV m d part entry args fuel=⟨0,0,[],[],[]⟩:=by
 unfold runV;rw[if_neg (by rw[h];exact h0)]
end Barb
namespace Go.Proofs.Ythcmdjkaepclhaa
open Go Go.Dm Go.Eng Go.RowKit Barb
structure LS where
 e:Int
 val:Int
 o:MO
 gs:List Fr
 N:Ns
 n:Nat
theorem retZ {h:Heap} {o:Outc} {e e':Int} (ho:o=⟨0,0,[],[],[]⟩) (he:e=e'):RetTo (Is (.tuple [.agg o.d,.g (.int e')])) h (.tuple [.agg [.g (.int 0),.g (.int 0),.nils,.nils,.nils],.g (.int e)]):=by
 subst ho;subst he
 exact retIs (.inr (.inr ⟨.inr ⟨lk rfl,lk rfl,lkNil,lkNil,lkNil,trivial⟩,lk rfl,trivial⟩))
end Go.Proofs.Ythcmdjkaepclhaa
namespace Barb
open Go Go.Dm Go.Eng Go.Proofs.Ythcmdjkaepclhaa
def needS (i:Instr):Int :=
 if i.op=2\/i.op=3\/i.op=5\/i.op=6\/i.op=10\/i.op=13\/i.op=14 then 1
 else if i.op=7\/i.op=8 then 2 else if i.op=11 then i.b else if i.op=12 then i.c else 0
def doS (m:Image) (p:Part) (i:Instr) (o:MO) (pre:List PF) (t:PF):R :=
 if i.op=6\/i.op=7 then memS p i o pre t
 else if i.op=9\/i.op=10\/i.op=11\/i.op=12\/i.op=13\/i.op=15 then ctlS m i o pre t
 else wrdS i o pre t
theorem step_out {m:Image} {o:MO} {pre:List PF} {t:PF} (h:t.at_ >= (m.getD t.part.toNat noPart).code.length):Barb.stepS m o pre t=.stop 4 0 o:=by
 unfold Barb.stepS;exact if_pos h
theorem step_in {m:Image} {o:MO} {pre:List PF} {t:PF} (h:¬t.at_ >= (m.getD t.part.toNat noPart).code.length) :
  Barb.stepS m o pre t=doS m (m.getD t.part.toNat noPart) ((m.getD t.part.toNat noPart).code.getD t.at_.toNat noInstr) o pre { t with at_:=t.at_+1 }:=by
 unfold Barb.stepS;exact if_neg h
theorem doS_few {m:Image} {p:Part} {i:Instr} {o:MO} {pre:List PF} {t:PF} (h1:1<=i.op/\i.op<=15) (hb:0<=i.b) (hc:0<=i.c) (h:(t.ws.length:Int) < needS i):doS m p i o pre t=.stop 4 0 o:=by
 obtain ⟨op,a,b,c⟩:=i
 dsimp only at h1 hb hc
 have:op=1\/op=2\/op=3\/op=4\/op=5\/op=6\/op=7\/op=8\/op=9\/op=10\/op=11\/op=12\/op=13\/op=14\/op=15:=by omega
 rcases this with rfl | rfl | rfl | rfl | rfl | rfl | rfl | rfl | rfl | rfl | rfl | rfl | rfl | rfl | rfl
 ·exact absurd h (by show ¬((t.ws.length:Int) < 0);omega)
 ·exact if_pos (show t.ws.length < 1 from by have:(t.ws.length:Int) < 1:=h;omega)
 ·exact if_pos (show t.ws.length < 1 from by have:(t.ws.length:Int) < 1:=h;omega)
 ·exact absurd h (by show ¬((t.ws.length:Int) < 0);omega)
 ·exact if_pos (show t.ws.length < 1 from by have:(t.ws.length:Int) < 1:=h;omega)
 ·exact if_pos (show t.ws.length < 1 from by have:(t.ws.length:Int) < 1:=h;omega)
 ·exact if_pos (show t.ws.length < 2 from by have:(t.ws.length:Int) < 2:=h;omega)
 ·exact if_pos (show t.ws.length < 2 from by have:(t.ws.length:Int) < 2:=h;omega)
 ·exact absurd h (by show ¬((t.ws.length:Int) < 0);omega)
 ·exact if_pos (show t.ws.length < 1 from by have:(t.ws.length:Int) < 1:=h;omega)
 ·exact if_pos (show t.ws.length < b.toNat from by have:(t.ws.length:Int) < b:=h;omega)
 ·exact if_pos (show t.ws.length < c.toNat from by have:(t.ws.length:Int) < c:=h;omega)
 ·exact if_pos (show t.ws.length < 1 from by have:(t.ws.length:Int) < 1:=h;omega)
 ·exact if_pos (show t.ws.length < 1 from by have:(t.ws.length:Int) < 1:=h;omega)
 ·exact absurd h (by show ¬((t.ws.length:Int) < 0);omega)
theorem off_k {t:PF} {k n:Nat} (h:t.ws.length=k+n):t.off n=t.ws.drop k:=by unfold PF.off;rw[show t.ws.length - n=k from by omega]
theorem on_k {t:PF} {k n:Nat} (h:t.ws.length=k+n):t.on n=t.ww (t.ws.take k):=by unfold PF.on;rw[show t.ws.length - n=k from by omega]
section
variable {m:Image} {p:Part} {i:Instr} {o:MO} {pre:List PF} {t:PF} {k:Nat}
theorem doS_1 (h:i.op=1):doS m p i o pre t=pushS o pre t i.a:=by
 unfold doS wrdS;rw[if_neg (by omega),if_neg (by omega),if_pos h]
theorem doS_4 (h:i.op=4):doS m p i o pre t=pushS o pre t (t.locs.getD i.a.toNat 0):=by
 unfold doS wrdS;rw[if_neg (by omega),if_neg (by omega),if_neg (by omega),if_pos h]
theorem wrdS_k {n:Nat} (h1:¬i.op=1) (h4:¬i.op=4) (hn:(if i.op=8 then 2 else 1:Nat)=n) (hk:t.ws.length=k+n):wrdS i o pre t =
  if i.op=3 then if t.ws.length=40 then .stop 4 0 o else .go o (pre++[t.ww (t.ws++[(t.ws.drop k).getD 0 0])])
  else if i.op=5 then .go o (pre++[{ t.on 1 with locs:=t.locs.set i.a.toNat ((t.ws.drop k).getD 0 0) }])
  else if i.op=14 then if o.told.length=500 then .stop 6 0 o else .go { o with told:=o.told++[(t.ws.drop k).getD 0 0] } (pre++[t.on 1])
  else if i.op=8 then .go o (pre++[t.ww ((t.on 2).ws++[doI i.a ((t.ws.drop k).getD 0 0) ((t.off 2).getD 1 0)])])
  else .go o (pre++[t.on 1]):=by
 unfold wrdS
 rw[if_neg h1,if_neg h4]
 simp only[hn]
 rw[if_neg (by omega),off_k hk]
theorem doS_2 (h:i.op=2) (hk:t.ws.length=k+1):doS m p i o pre t=.go o (pre++[t.ww (t.ws.take k)]):=by
 unfold doS
 rw[if_neg (by omega),if_neg (by omega),wrdS_k (n:=1) (by omega) (by omega) (by rw[h];rfl) hk,if_neg (by omega),if_neg (by omega),if_neg (by omega),if_neg (by omega),on_k hk]
theorem doS_3 {x:Int} (h:i.op=3) (hk:t.ws.length=k+1) (hx:t.ws.drop k=[x]):doS m p i o pre t=if t.ws.length=40 then .stop 4 0 o else .go o (pre++[t.ww (t.ws++[x])]):=by
 unfold doS
 rw[if_neg (by omega),if_neg (by omega),wrdS_k (n:=1) (by omega) (by omega) (by rw[h];rfl) hk,if_pos h,hx];rfl
theorem doS_5 {x:Int} (h:i.op=5) (hk:t.ws.length=k+1) (hx:t.ws.drop k=[x]):doS m p i o pre t=.go o (pre++[{ t.ww (t.ws.take k) with locs:=t.locs.set i.a.toNat x }]):=by
 unfold doS
 rw[if_neg (by omega),if_neg (by omega),wrdS_k (n:=1) (by omega) (by omega) (by rw[h];rfl) hk,if_neg (by omega),if_pos h,on_k hk,hx];rfl
theorem doS_14 {x:Int} (h:i.op=14) (hk:t.ws.length=k+1) (hx:t.ws.drop k=[x]):doS m p i o pre t=if o.told.length=500 then .stop 6 0 o else .go { o with told:=o.told++[x] } (pre++[t.ww (t.ws.take k)]):=by
 unfold doS
 rw[if_neg (by omega),if_neg (by omega),wrdS_k (n:=1) (by omega) (by omega) (by rw[h];rfl) hk,if_neg (by omega),if_neg (by omega),if_pos h,on_k hk,hx];rfl
theorem doS_8 {x y:Int} (h:i.op=8) (hk:t.ws.length=k+2) (hx:t.ws.drop k=[x,y]):doS m p i o pre t=.go o (pre++[t.ww (t.ws.take k++[doI i.a x y])]):=by
 unfold doS
 rw[if_neg (by omega),if_neg (by omega),wrdS_k (n:=2) (by omega) (by omega) (by rw[h];rfl) hk,if_neg (by omega),if_neg (by omega),if_neg (by omega),if_pos h,off_k hk,on_k hk,hx];rfl
theorem doS_6 {x:Int} (h:i.op=6) (hk:t.ws.length=k+1) (hx:t.ws.drop k=[x]):doS m p i o pre t=if isOwn p x then .go o (pre++[t.ww (t.ws.take k++[o.data.getD x.toNat 0])]) else .stop 4 0 o:=by
 unfold doS memS
 rw[if_pos (by omega),if_pos h,if_neg (by omega),off_k hk,on_k hk,hx];rfl
theorem doS_7 {x y:Int} (h:i.op=7) (hk:t.ws.length=k+2) (hx:t.ws.drop k=[x,y]):doS m p i o pre t=if isOwn p x then .go { o with data:=o.data.set x.toNat y } (pre++[t.ww (t.ws.take k)]) else .stop 4 0 o:=by
 unfold doS memS
 rw[if_pos (by omega),if_neg (by omega),if_neg (by omega),off_k hk,on_k hk,hx];rfl
theorem doS_9 (h:i.op=9):doS m p i o pre t=.go o (pre++[{ t with at_:=i.a }]):=by
 unfold doS ctlS;rw[if_neg (by omega),if_pos (by omega),if_pos h]
theorem doS_10 {x:Int} (h:i.op=10) (hk:t.ws.length=k+1) (hx:t.ws.drop k=[x]):doS m p i o pre t=.go o (pre++[if x=0 then { t.ww (t.ws.take k) with at_:=i.a } else t.ww (t.ws.take k)]):=by
 unfold doS ctlS
 rw[if_neg (by omega),if_pos (by omega),if_neg (by omega),if_pos h,if_neg (by omega),off_k hk,on_k hk,hx];rfl
theorem doS_11 {q:Nat} (h:i.op=11) (hb:i.b=(q:Int)) (hk:t.ws.length=k+q):doS m p i o pre t=if pre.length+1=20 then .stop 5 0 o else .go o (pre++[t.ww (t.ws.take k)]++[⟨t.part,i.a,p8 (t.ws.drop k),[],-1⟩]):=by
 unfold doS ctlS
 rw[if_neg (by omega),if_pos (by omega),if_neg (by omega),if_neg (by omega),if_pos h,hb,show ((q:Nat):Int).toNat=q from rfl,if_neg (by omega),off_k hk,on_k hk]
 unfold enterS
 rw[List.length_append,List.length_singleton]
theorem doS_12 {q:Nat} (h:i.op=12) (hc:i.c=(q:Int)) (hk:t.ws.length=k+q):doS m p i o pre t=if gateBad m i then .stop 4 0 o else
  if o.calls.length < 100 then
   if pre.length+1=20 then .stop 5 0 { o with calls:=o.calls++[⟨t.part,i.a,i.b,t.ws.drop k,(pre.length+1:Nat),false,0⟩] }
   else .go { o with calls:=o.calls++[⟨t.part,i.a,i.b,t.ws.drop k,(pre.length+1:Nat),false,0⟩] } (pre++[t.ww (t.ws.take k)]++[⟨i.a,((m.getD i.a.toNat noPart).entries.getD i.b.toNat noEntry).at_,p8 (t.ws.drop k),[],o.calls.length⟩])
  else if pre.length+1=20 then .stop 5 0 o
   else .go o (pre++[t.ww (t.ws.take k)]++[⟨i.a,((m.getD i.a.toNat noPart).entries.getD i.b.toNat noEntry).at_,p8 (t.ws.drop k),[],-1⟩]):=by
 unfold doS ctlS gateS
 rw[if_neg (by omega),if_pos (by omega),if_neg (by omega),if_neg (by omega),if_neg (by omega),if_pos h,hc,show ((q:Nat):Int).toNat=q from rfl,if_neg (by omega),off_k hk,on_k hk]
 unfold enterS
 rw[List.length_append,List.length_singleton]
theorem doS_13 {x:Int} (h:i.op=13) (hk:t.ws.length=k+1) (hx:t.ws.drop k=[x]):doS m p i o pre t=match pre.getLast? with
  | none=>.stop 1 x (noteS o t.noted x)
  | some f=>pushS (noteS o t.noted x) pre.dropLast f x:=by
 unfold doS ctlS retS
 rw[if_neg (by omega),if_pos (by omega),if_neg (by omega),if_neg (by omega),if_neg (by omega),if_neg (by omega),if_pos h,if_neg (by omega),off_k hk,hx]
 rfl
theorem doS_15 (h:i.op=15):doS m p i o pre t=.stop 2 0 o:=by
 unfold doS ctlS
 rw[if_neg (by omega),if_pos (by omega),if_neg (by omega),if_neg (by omega),if_neg (by omega),if_neg (by omega),if_neg (by omega)]
end
structure Rm where
 f:PF
 b:Value
 v:Value
def Rm.g (x:Rm):List GV:=.int x.f.part :: .int x.f.at_ :: (x.f.locs.map .int++[.raw x.v,.int x.f.noted])
def Rm.z (tr ti:Nat) (x:Rm):List (Value × Ob0):=[(x.b,.blk x.g tr),(x.v,.row (x.f.ws.map intG) ti 1)]
def zs (tr ti:Nat) (l:List Rm):List (Value × Ob0):=(l.map (Rm.z tr ti)).flatten
theorem zs_snoc (tr ti:Nat) (l:List Rm) (x:Rm):zs tr ti (l++[x])=zs tr ti l++x.z tr ti:=by simp[zs]
theorem zs_snoc2 (tr ti:Nat) (l:List Rm) (x y:Rm):zs tr ti (l++[x]++[y])=zs tr ti l++x.z tr ti++y.z tr ti:=by simp[zs]
def Rm.r (x:Rm):List GV:=[.raw x.b]
structure RS where
 n:Nat
 o:MO
 gs:List Rm
def RInv (m:Image) (F:Int × Int × MO) (i:RS):Prop:=i.n<=100000/\SOk m i.o (i.gs.map Rm.f)/\i.gs≠[]/\iterS m i.n i.o (i.gs.map Rm.f)=F
theorem loc8 {l:List Int} (h:l.length=8):∃ a b c d e f g i,l=[a,b,c,d,e,f,g,i]:=by
 match l,h with
 | [a,b,c,d,e,f,g,i],_=>exact ⟨a,b,c,d,e,f,g,i,rfl⟩
theorem need_rng {i:Instr} (h:instrE i=0):0<=needS i/\needS i<=8:=by
 obtain ⟨i1,i2,i3,i4,i5,i6,i7,i8,i9⟩:=instr_rng h
 unfold needS
 by_cases h11:i.op=11
 ·rw[h11] at i6
  have:bdB 11=4:=rfl
  rw[if_neg (by omega),if_neg (by omega),if_pos h11];omega
 ·by_cases h12:i.op=12
  ·rw[h12] at i8
   have:bdC 12=4:=rfl
   rw[if_neg (by omega),if_neg (by omega),if_neg h11,if_pos h12];omega
  ·rw[if_neg h11,if_neg h12]
   split
   ·omega
   ·split<;>omega
end Barb
