import Derived.Test.YthccmffgjchdmaaGreatDoorNWd
import Derived.Test.YthccmffgjchdmaaGreatDoorNGh
import Derived.Test.YthccmffgjchdmaaGreatDoorNB1
import Derived.Test.YthccmffgjchdmaaGreatDoorNDs
import Derived.WalkKit
import Derived.BigCall
import Derived.RegionTactic
open Go Go.Proofs Go.Proofs.YthccmffgjchdmaaGreatDoor
namespace Barb
open Go Go.Dm Go.Eng
def ZbX (m:List Part):Int:=Zea m m.length
def Zgi (n:Int):Prop:=0<=n/\n<=65535
instance (n:Int):Decidable (Zgi n):=by unfold Zgi;infer_instance
def ZmP (n:Int):Int:=if Zgi n then 0 else 2
def ZkH (m:List Part) (d:List Int):Int:=if Zi1 m≠0 then Zi1 m else if ¬((d.length:Int)=ZbX m) then 4 else Zal ZmP d
theorem ZsQ {d:List Int} (h:∃n∈d,¬Zgi n):Zal ZmP d=2:=by
 induction d with
 | nil=>obtain ⟨n,hn,_⟩:=h;simp at hn
 | cons x d ih =>
  simp only[Zal];by_cases hx:Zgi x
  ·have hz:ZmP x=0:=by unfold ZmP;rw[if_pos hx]
   rw[if_pos hz];refine ih ?_;obtain ⟨n,hn,hw⟩:=h;rcases Yav.1 hn with rfl | hn
   ·exact absurd hx hw
   ·exact ⟨n,hn,hw⟩
  ·have hz:ZmP x=2:=by unfold ZmP;rw[if_neg hx]
   rw[if_neg (by rw[hz];decide),hz]
theorem ZkL {d:List Int} (h:∀n∈d,Zgi n):Zal ZmP d=0:=Zap (λx hx=>by unfold ZmP;rw[if_pos (h x hx)])
end Barb
namespace ZN
open Go Go.Dm Go.Eng Barb
variable {L:Lv}
theorem ZoA (m:Zax) (hm:Zax.I m):CT Tryz.prog (gl L) 54 [.agg (ZqF m)] (Is (.g (.int (ZbX m)))):=by
 have lm:(m.map Part.g).length=m.length:=by simp
 have hl:=hm.2;refine enter hT hF hM Tryz.func54 rfl 16 rfl (by kernel_rfl) [.tmp 2] rfl [.agg (ZqF m)] rfl _ ?_;refine ⟨λh=>⟨rfl,Zb2 (by unfold ZbX;rw[show m.length=0 by omega];rfl)⟩,λh=>?_⟩;obtain ⟨k,hk⟩:∃k,m.length=k+1:=⟨m.length - 1,by omega⟩;have aB:k < m.length:=by omega
 refine ⟨by unfold I64;omega,k,_,(show D.g (.int (((m.map Part.g).length:Int) - 1))=D.g (.int (k:Int)) by rw[lm,hk];simp),gm aB,rfl,Zb2 ?_⟩;unfold ZbX;rw[hk,ZdV aB]
def Zzg (n:Int):Prop:=¬Zgi n
theorem Zwu (n:Int):CT Tryz.prog (gl L) 55 [.g (.int n)] (Is (.pb (Zzg n))):=by refine enter hT hF hM Tryz.func55 rfl 6 rfl (by kernel_rfl) [.tmp 2] rfl [.g (.int n)] rfl _ ?_;exact Zad (.inl rfl) (Zln n) ⟨rfl,Zy0 Ya3⟩
theorem ZwL (l:List Int) (hl:l.length<=9223372036854775807):CT Tryz.prog (gl L) 56 [.g (.sl 1 (l.map ZaU)),.fn 55 [] []] (Is (.g (.int (idx Zzg l)))):=by
 have ll:(l.map ZaU).length=l.length:=by simp
 refine enter hT hF hM Tryz.func56 rfl 19 rfl (by kernel_rfl) [.tmp 4] rfl [.g (.sl 1 (l.map ZaU)),.fn 55 [] []] rfl _ ?_;refine ZaO (ι:=Nat) (λi=>[(8,.g (.int (i:Int)))]) (λ_=>[]) (λi=>i<=l.length/\∀j (hj:j < l.length),j < i->¬Zzg l[j]) (λi=>l.length - i)
  ⟨0,[],⟨rfl,.inl rfl,.inr ⟨lk rfl,trivial⟩,rfl⟩,Yat _,Zir⟩ ?_
 intro Rd aj i ⟨hi,ha⟩;refine ⟨λh=>?_,λh=>?_⟩
 ·have h1:i < l.length:=by omega
  refine ⟨i,_,rfl,gm h1,?_⟩;refine Zad (.inl rfl) (Zwu l[i]) ?_;refine ⟨λh2=>⟨rfl,Zb2 (Zin h1 ha h2).symm⟩,λh2=>⟨_,I64.wrap (by unfold I64;omega),?_⟩⟩;exact aj _ _ _ ⟨i+1,[],⟨rfl,.inl rfl,.inr ⟨lk rfl,trivial⟩,rfl⟩,⟨h1,Zdq h1 ha h2⟩,by omega⟩
 ·exact ⟨rfl,Zb2 (Zim (Zed (by omega) ha)).symm⟩
theorem ZwR (l:List Int) (hl:l.length<=9223372036854775807):CT Tryz.prog (gl L) 27 [.g (.sl 1 (l.map ZaU)),.fn 55 [] []] (Is (.pb (∃n∈l,¬Zgi n))):=by
 refine enter hT hF hM Tryz.func27 rfl 9 rfl (by kernel_rfl) [.tmp 4] rfl [.g (.sl 1 (l.map ZaU)),.fn 55 [] []] rfl _ ?_;refine Zad (.inl rfl) (ZwL l hl) ⟨rfl,Zp6 ?_⟩;rcases Zb0 Zzg l with ⟨h1,h2⟩ | ⟨i,hi,h1,h2,h3⟩
 ·rw[h1];exact ⟨λh=>absurd h (by decide),λ⟨c,hc,ho⟩=>absurd ho (h2 c hc)⟩
 ·rw[h1];exact ⟨λ_=>⟨l[i],Yai _,h2⟩,λ_=>by omega⟩
theorem ZmJ (m:Zax) (hm:Zax.I m) (d:List Int) (hd:d.length*8<=140737488351232):CT Tryz.prog (gl L) 26 [.agg (ZqF m),.g (.sl 1 (d.map ZaU))] (Is (.g (.int (ZkH m d)))):=by
 have ld:(d.map ZaU).length=d.length:=by simp
 have e:ZkH m d=ZkH m d:=rfl
 conv at e=>rhs;unfold ZkH
 refine enter hT hF hM Tryz.func26 rfl 18 rfl (by kernel_rfl) [.tmp 4] rfl [.agg (ZqF m),.g (.sl 1 (d.map ZaU))] rfl _ ?_;refine Zad (.inl rfl) (ZoB m hm) ⟨λh=>⟨rfl,Zb2 (by rw[e,if_pos h])⟩,λh=>?_⟩;rw[if_neg (λh'=>h' h)] at e;refine Zad (.inl rfl) (ZoA m hm) ⟨λh=>⟨rfl,Zb2 (by rw[e,if_pos (by rw[<- ld];exact h)])⟩,λh=>?_⟩;rw[if_neg (by rw[<- ld];exact λh'=>h' h)] at e;refine Zad (.inl rfl) (ZwR d (by omega)) ⟨λh=>⟨rfl,Zb2 (by rw[e,ZsQ h])⟩,λh=>⟨rfl,Zb2 (by rw[e,ZkL (λn hn=>Yah.1 (λhw=>h ⟨n,hn,hw⟩))])⟩⟩
end ZN
namespace Barb
open Go Go.Dm Go.Eng
theorem ZxR {m:List Part} (h:Zi1 m=0):∀i (hi:i < m.length),m[i].lo=Zea m i/\m[i].lo<=m[i].hi/\m[i].hi<=250:=by
 intro i hi;unfold Zi1 at h;by_cases h5:5 < m.length
 ·rw[if_pos h5] at h;omega
 ·rw[if_neg h5] at h;have hF:=ZgG h i hi;rw[Zmg hi] at hF;unfold ZjE at hF;by_cases h1:1200 < m[i].code.length\/8 < m[i].entries.length
  ·rw[if_pos h1] at hF;omega
  ·rw[if_neg h1] at hF;by_cases h2:Zal Zbz m[i].code≠0
   ·rw[if_pos h2] at hF;exact absurd hF h2
   ·rw[if_neg h2] at hF;by_cases h3:Zal (ZuX m[i].code.length) m[i].entries≠0
    ·rw[if_pos h3] at hF;exact absurd hF h3
    ·rw[if_neg h3] at hF;by_cases h4:¬m[i].lo=Zea m i\/m[i].hi < m[i].lo\/250 < m[i].hi
     ·rw[if_pos h4] at hF;omega
     ·omega
theorem ZjP {m:List Part} (h:Zi1 m=0):∀(k i:Nat),i+k<=m.length->Zea m i<=Zea m (i+k)
 | 0,i,_=>YbC _
 | k+1,i,hk=>by
  have h1:=ZjP h k i (by omega);have hl:i+k < m.length:=by omega
  have h2:=ZxR h (i+k) hl;have h3:=ZdV hl;rw[show i+(k+1)=i+k+1 from by omega];omega
theorem ZA2 {m:List Part} (h:Zi1 m=0) {i:Nat} (hi:i < m.length):0<=m[i].lo/\m[i].lo<=m[i].hi/\m[i].hi<=ZbX m/\m[i].hi<=250:=by have h1:=ZxR h i hi;have h2:=ZjP h i 0 (by omega);have h3:=ZjP h (m.length - (i+1)) (i+1) (by omega);rw[show i+1+(m.length - (i+1))=m.length from by omega,ZdV hi] at h3;have h4:Zea m 0=0:=rfl;rw[YaA] at h2;unfold ZbX;omega
def partAt (m:List Part) (p:Int):Part:=m.getD p.toNat ⟨[],[],0,0⟩
theorem partAt_at {m:List Part} {k:Nat} (h:k < m.length):partAt m (k:Int)=m[k]:=by simp[partAt,h]
theorem Zxa {m:List Part} {d:List Int} (h:ZkH m d=0):Zi1 m=0/\(d.length:Int)=ZbX m:=by
 unfold ZkH at h;by_cases h1:Zi1 m≠0
 ·rw[if_pos h1] at h;exact absurd h h1
 ·rw[if_neg h1] at h;by_cases h2:¬((d.length:Int)=ZbX m)
  ·rw[if_pos h2] at h;omega
  ·exact ⟨Yah.1 h1,Yah.1 h2⟩
end Barb
namespace ZN
open Go Go.Dm Go.Eng Barb
variable {L:Lv}
end ZN
namespace Go.Dm
open Go Go.Eng Go.RowKit
theorem Zzl {C:Ctx} {h:Zae} {β:Nat->Value} {V:Nat->Prop} {w w':World} (hr:RelD C h β V w) (hf:Fr (λ_=>False) w w'):RelD C h β V w'/\ZaI V w V w':=by
 have hm:ZaI V w V w':=λk hk=>⟨hk,hf.block k (hr.vlt k hk) (λh=>h)⟩;refine ⟨⟨λi o hi=>?_,hr.sep,hr.mine,hr.vout,λk hk=>YaX (hr.vlt k hk) hf.size,hr.vin,hr.vnew,?_,hr.gl.move hm⟩,hm⟩
 ·cases fb:o.live with
  | false=>cases o<;>simp_all [Obj.live,Zco]
  | true=>exact (hr.obj i o hi).keep (LeH.refl h β) hm rfl (λk hk=>hf.block k (hr.lt hi fb hk) (λh=>h))
 ·refine ⟨hf.os.trans hr.fr.os,hf.tape.trans hr.fr.tape,hf.output.trans hr.fr.output,YaC hr.fr.size hf.size,λk hk hn=>?_⟩;rw[hf.block k (YaX hk hr.fr.size) (λh=>h)];exact hr.fr.block k hk hn
end Go.Dm
namespace ZN
open Go Go.Dm Go.Eng Go.RowKit
variable {L:Lv}
end ZN
namespace Barb
open Go Go.Dm Go.Eng
structure Nt where
 by_:Int
 part:Int
 entry:Int
 args:List Int
 deep:Int
 done:Bool
 value:Int
def Nt.g (n:Nt):List GV:=[.int n.by_,.int n.part,.int n.entry,.sl 1 (n.args.map ZaU),.int n.deep,.bool n.done,.int n.value]
structure PF where
 part:Int
 at_:Int
 locs:List Int
 ws:List Int
 noted:Int
structure Fr where
 f:PF
 v:Value
structure MO where
 told:List Int
 data:List Int
 calls:List Nt
def Fr.g (x:Fr):List GV:=.int x.f.part :: .int x.f.at_ :: (x.f.locs.map .int++[.raw x.v,.int x.f.noted])
def Fr.z (t:Nat) (x:Fr):Value × Ob0:=(x.v,.row (x.f.ws.map ZaU) t 1)
def Fr.ww (x:Fr) (ws:List Int) (v:Value):Fr:=⟨{ x.f with ws:=ws },v⟩
def Fr.ok (x:Fr):Prop:=x.f.locs.length=8/\x.f.ws.length<=40
theorem Fr.g_at {x:Fr} (_hx:x.f.locs.length=8) {i:Nat} {n:Int} (hi:x.f.locs[i]?=some n):x.g[2+i]?=some (.int n):=by have hl:i < x.f.locs.length:=(Yac.1 hi).1;unfold Fr.g;rw[show 2+i=i+1+1 from by omega,List.getElem?_cons_succ,List.getElem?_cons_succ,Yal (by simpa using hl)];simp[hi]
theorem Fr.g_words {x:Fr} (hx:x.f.locs.length=8):x.g[10]?=some (.raw x.v):=by unfold Fr.g;rw[List.getElem?_cons_succ,List.getElem?_cons_succ,Yaj (by simp[hx])];simp[hx]
theorem Fr.g_noted {x:Fr} (hx:x.f.locs.length=8):x.g[11]?=some (.int x.f.noted):=by unfold Fr.g;rw[List.getElem?_cons_succ,List.getElem?_cons_succ,Yaj (by simp[hx])];simp[hx]
theorem Fr.g_len {x:Fr} (hx:x.f.locs.length=8):x.g.length=12:=by simp[Fr.g,hx]
theorem Fr.g_set_words {x:Fr} (hx:x.f.locs.length=8) (ws:List Int) (v:Value):ZdI x.g 10 [.raw v]=(x.ww ws v).g:=by simp only[ZdI,Fr.ww,Fr.g,List.set_cons_succ];rw[Yb3 _ _ (by simp[hx])];simp[hx]
theorem Fr.g_set_at {x:Fr} (n:Int):ZdI x.g 1 [.int n]=(Fr.mk { x.f with at_:=n } x.v).g:=rfl
theorem Fr.g_set_loc {x:Fr} (hx:x.f.locs.length=8) {i:Nat} (hi:i < 8) (n:Int):ZdI x.g (2+i) [.int n]=(Fr.mk { x.f with locs:=x.f.locs.set i n } x.v).g:=by simp only[ZdI,Fr.g];rw[show 2+i=i+1+1 from by omega,List.set_cons_succ,List.set_cons_succ,List.set_append_left _ _ (by simp[hx];exact hi),List.map_set]
theorem ZfY {α β:Type} (f:α->β) (pre:List α) (t:α) (y:β) (t':α) (h:f t'=y):((pre++[t]).map f).set pre.length y=(pre++[t']).map f:=by subst h;simp
theorem Zbo {α β:Type} (f:α->β) (pre:List α) (t:α):((pre++[t]).map f)[pre.length]?=some (f t):=by simp
structure Ns where
 d:Value
 t:Value
 c:Value
 f:Value
abbrev Ns.withF (N:Ns) (f:Value):Ns:=⟨N.d,N.t,N.c,f⟩
end Barb
namespace ZN
open Go Go.Dm Go.Eng Go.RowKit Barb
variable {L:Lv}
abbrev fz:Fr->Value × Ob0:=Fr.z 3
abbrev MT (N:Ns):List (Value × Nat):=[(N.d,2),(N.t,3),(N.c,4),(N.f,5)]
abbrev ns5 (N:Ns):List (Option Value):=[none,some N.d,some N.t,some N.c,some N.f]
abbrev ns4 (N:Ns):List (Option Value):=[none,some N.d,some N.t,some N.c]
abbrev Zce (a b c d e f:Nat):List Src:=[.old a,.old b,.old c,.old d,.old e,.old f]
variable {L:Lv}
theorem ZpY {α:Type} (l:List α) (x y:α):(l++[x]).length=(l++[y]).length:=by simp
end ZN
namespace Barb
open Go Go.Dm Go.Eng
def p8 (l:List Int):List Int:=[l.getD 0 0,l.getD 1 0,l.getD 2 0,l.getD 3 0,l.getD 4 0,l.getD 5 0,l.getD 6 0,l.getD 7 0]
theorem ZxJ (l:List Int) (a b c d:D):ZdI [a,b,.g (.int 0),.g (.int 0),.g (.int 0),.g (.int 0),.g (.int 0),.g (.int 0),.g (.int 0),.g (.int 0),c,d] 2 ((((l.map ZaU).take 8).flatten).map .g) =
  [a,b,.g (.int (l.getD 0 0)),.g (.int (l.getD 1 0)),.g (.int (l.getD 2 0)),.g (.int (l.getD 3 0)),.g (.int (l.getD 4 0)),.g (.int (l.getD 5 0)),.g (.int (l.getD 6 0)),.g (.int (l.getD 7 0)),c,d]:=by
 match l with
 | []=>rfl
 | [_]=>rfl
 | [_,_]=>rfl
 | [_,_,_]=>rfl
 | [_,_,_,_]=>rfl
 | [_,_,_,_,_]=>rfl
 | [_,_,_,_,_,_]=>rfl
 | [_,_,_,_,_,_,_]=>rfl
 | _ :: _ :: _ :: _ :: _ :: _ :: _ :: _ :: _=>rfl
theorem ZyM (h:Zae):∀gs:List GV,ZgQ h (gs.map .g) gs
 | []=>trivial
 | _ :: gs=>⟨rfl,ZyM h gs⟩
def Zmd (p:Part) (at_:Int):Prop:=p.lo<=at_/\at_ < p.hi
instance (p:Part) (at_:Int):Decidable (Zmd p at_):=by unfold Zmd;infer_instance
def Znv (part at_ noted:Int) (args:List Int):Fr:=⟨⟨part,at_,p8 args,[],noted⟩,.slice none 0 0⟩
end Barb
namespace ZN
open Go Go.Dm Go.Eng Go.RowKit Barb
variable {L:Lv}
end ZN
namespace Barb
open Go Go.Dm Go.Eng ZN
inductive R where
 | go (o:MO) (fs:List PF)
 | stop (c v:Int) (o:MO)
def PF.ww (t:PF) (ws:List Int):PF:={ t with ws:=ws }
def Zgj (o:MO) (pre:List PF) (t:PF) (n:Int):R:=if t.ws.length=40 then .stop 4 0 o else .go o (pre++[t.ww (t.ws++[n])])
def PF.off (t:PF) (n:Nat):List Int:=t.ws.drop (t.ws.length - n)
def PF.on (t:PF) (n:Nat):PF:=t.ww (t.ws.take (t.ws.length - n))
def ZdB (o:MO) (fs:List PF) (part at_ noted:Int) (args:List Int):R:=if fs.length=20 then .stop 5 0 o else .go o (fs++[⟨part,at_,p8 args,[],noted⟩])
def Zr3 (p:Part) (i:Instr) (o:MO) (pre:List PF) (t:PF):R :=
 if i.op=6 then
  if t.ws.length < 1 then .stop 4 0 o else
  if Zmd p ((t.off 1).getD 0 0) then .go o (pre++[t.ww ((t.on 1).ws++[o.data.getD ((t.off 1).getD 0 0).toNat 0])]) else .stop 4 0 o
 else
  if t.ws.length < 2 then .stop 4 0 o else
  if Zmd p ((t.off 2).getD 0 0) then .go { o with data:=o.data.set ((t.off 2).getD 0 0).toNat ((t.off 2).getD 1 0) } (pre++[t.on 2]) else .stop 4 0 o
def Zc3:Part:=⟨[],[],0,0⟩
def ZeY:Entry:=⟨0,0⟩
def ZeX:Instr:=⟨0,0,0,0⟩
def Zeo (m:Zax) (i:Instr):Prop:=i.a >= m.length\/i.b >= (m.getD i.a.toNat Zc3).entries.length\/((m.getD i.a.toNat Zc3).entries.getD i.b.toNat ZeY).params≠i.c
instance (m:Zax) (i:Instr):Decidable (Zeo m i):=by unfold Zeo;infer_instance
def ZiF (m:Zax) (i:Instr) (o:MO) (pre:List PF) (t:PF):R :=
 if t.ws.length < i.c.toNat then .stop 4 0 o else if Zeo m i then .stop 4 0 o else
 let e:=(m.getD i.a.toNat Zc3).entries.getD i.b.toNat ZeY
 let l:=t.off i.c.toNat
 if o.calls.length < 100 then ZdB { o with calls:=o.calls++[⟨t.part,i.a,i.b,l,(pre.length+1:Nat),false,0⟩] } (pre++[t.on i.c.toNat]) i.a e.at_ o.calls.length l
 else ZdB o (pre++[t.on i.c.toNat]) i.a e.at_ (-1) l
def Nt.fin (n:Nt) (v:Int):Nt:={ n with done:=true,value:=v }
def Zdu (o:MO) (k:Int) (v:Int):MO:=if 0<=k then { o with calls:=o.calls.modify k.toNat (·.fin v) } else o
def retS (o:MO) (pre:List PF) (t:PF):R :=
 if t.ws.length < 1 then .stop 4 0 o else
 let v:=(t.off 1).getD 0 0
 match pre.getLast? with
 | none=>.stop 1 v (Zdu o t.noted v)
 | some f=>Zgj (Zdu o t.noted v) pre.dropLast f v
def Zmx (m:Zax) (i:Instr) (o:MO) (pre:List PF) (t:PF):R :=
 if i.op=9 then .go o (pre++[{ t with at_:=i.a }])
 else if i.op=10 then if t.ws.length < 1 then .stop 4 0 o else .go o (pre++[if (t.off 1).getD 0 0=0 then { t.on 1 with at_:=i.a } else t.on 1])
 else if i.op=11 then if t.ws.length < i.b.toNat then .stop 4 0 o else ZdB o (pre++[t.on i.b.toNat]) t.part i.a (-1) (t.off i.b.toNat)
 else if i.op=12 then ZiF m i o pre t
 else if i.op=13 then retS o pre t
 else .stop 2 0 o
def ZmN (i:Instr) (o:MO) (pre:List PF) (t:PF):R :=
 if i.op=1 then Zgj o pre t i.a
 else if i.op=4 then Zgj o pre t (t.locs.getD i.a.toNat 0)
 else
  let n:Nat:=if i.op=8 then 2 else 1
  if t.ws.length < n then .stop 4 0 o else
  let x:=(t.off n).getD 0 0
  if i.op=3 then if t.ws.length=40 then .stop 4 0 o else .go o (pre++[t.ww (t.ws++[x])])
  else if i.op=5 then .go o (pre++[{ t.on 1 with locs:=t.locs.set i.a.toNat x }])
  else if i.op=14 then if o.told.length=500 then .stop 6 0 o else .go { o with told:=o.told++[x] } (pre++[t.on 1])
  else if i.op=8 then .go o (pre++[t.ww ((t.on 2).ws++[doI i.a x ((t.off 2).getD 1 0)])])
  else .go o (pre++[t.on 1])
def stepS (m:Zax) (o:MO) (pre:List PF) (t:PF):R :=
 let p:=m.getD t.part.toNat Zc3
 if t.at_ >= p.code.length then .stop 4 0 o else
 let i:=p.code.getD t.at_.toNat ZeX
 let t:={ t with at_:=t.at_+1 }
 if i.op=6\/i.op=7 then Zr3 p i o pre t
 else if i.op=9\/i.op=10\/i.op=11\/i.op=12\/i.op=13\/i.op=15 then Zmx m i o pre t
 else ZmN i o pre t
structure PF.ok (m:Zax) (calls:List Nt) (t:PF):Prop where
 part:∃k:Nat,t.part=(k:Int)/\k < m.length
 at0:0<=t.at_
 at1:t.at_<=2000
 locs:t.locs.length=8
 ws:t.ws.length<=40
 noted:t.noted < calls.length
structure SOk (m:Zax) (o:MO) (fs:List PF):Prop where
 img:Zi1 m=0
 data:(o.data.length:Int)=ZbX m
 told:o.told.length<=500
 calls:o.calls.length<=100
 deep:fs.length<=20
 frs:∀f∈fs,f.ok m o.calls
end Barb
namespace Barb
open Go Go.Dm Go.Eng
theorem ZqC {m:List Part} {d:List Int} (hi:Zi1 m=0) (hd:(d.length:Int)=ZbX m) {k:Nat} (hk:k < m.length) {a:Int} (ho:Zmd m[k] a):∃n:Nat,a=(n:Int)/\n < d.length:=by obtain ⟨h1,h2,h3,h4⟩:=ZA2 hi hk;obtain ⟨h5,h6⟩:=ho;exact ⟨a.toNat,by omega,by omega⟩
theorem ZjH {ws:List Int} {k:Nat} (h:ws.length=k+1):∃x,ws.drop k=[x]/\ws=ws.take k++[x]:=by
 have h1:(ws.drop k).length=1:=by simp[h]
 match hd:ws.drop k,h1 with
 | [x],_=>exact ⟨x,rfl,by rw[<- hd,Ya7]⟩
theorem Zt4 {ws:List Int} {k:Nat} (h:ws.length=k+2):∃x y,ws.drop k=[x,y]/\ws=ws.take k++[x,y]:=by
 have h1:(ws.drop k).length=2:=by simp[h]
 match hd:ws.drop k,h1 with
 | [x,y],_=>exact ⟨x,y,rfl,by rw[<- hd,Ya7]⟩
end Barb
namespace ZN
open Go Go.Dm Go.Eng Go.RowKit Barb
variable {L:Lv}
theorem Zg3 (b:Nat) (f:Nat->Nat) (h':Zae):∀(r:Zae) (p:Nat),ZrQ [.old 0,.old 1,.old 2,.old 3,.old 4,.old 5] b f h' (p+6) r=r
 | [],_=>rfl
 | x :: r,p=>by
  simp only[ZrQ];rw[show p+6+1=p+1+6 from by omega,Zg3 b f h' r (p+1)]
  congr 1
end ZN
namespace Barb
open Go Go.Dm Go.Eng ZN
theorem ZeG {x:Instr} (h:Zbz x=0):1<=x.op/\x.op<=15/\0<=x.a/\x.a<=bdA x.op/\0<=x.b/\x.b<=bdB x.op/\0<=x.c/\x.c<=bdC x.op/\(x.op=8->1<=x.a):=by
 unfold Zbz at h;by_cases h1:¬(1<=x.op/\x.op<=15)
 ·rw[if_pos h1] at h;omega
 ·rw[if_neg h1] at h;by_cases h2:Zb6 x
  ·rw[if_pos h2] at h;omega
  ·unfold Zb6 at h2;omega
theorem ZgJ {m:List Part} (h:Zi1 m=0) {k:Nat} (hk:k < m.length):m[k].code.length<=1200/\m[k].entries.length<=8/\(∀x∈m[k].code,Zbz x=0)/\(∀x∈m[k].entries,0<=x.at_/\x.at_ < m[k].code.length/\0<=x.params/\x.params<=4):=by
 unfold Zi1 at h;by_cases h5:5 < m.length
 ·rw[if_pos h5] at h;omega
 ·rw[if_neg h5] at h;have hF:=ZgG h k hk;rw[Zmg hk] at hF;unfold ZjE at hF;by_cases h1:1200 < m[k].code.length\/8 < m[k].entries.length
  ·rw[if_pos h1] at hF;omega
  ·rw[if_neg h1] at hF;by_cases h2:Zal Zbz m[k].code≠0
   ·rw[if_pos h2] at hF;exact absurd hF h2
   ·rw[if_neg h2] at hF;by_cases h3:Zal (ZuX m[k].code.length) m[k].entries≠0
    ·rw[if_pos h3] at hF;exact absurd hF h3
    ·refine ⟨by omega,by omega,Zaf (Yah.1 h2),λx hx=>?_⟩;have he:=Zaf (Yah.1 h3) x hx;unfold ZuX at he;by_cases h4:Zhp m[k].code.length x
     ·rw[if_pos h4] at he;omega
     ·unfold Zhp at h4;omega
theorem PF.ok.more {m:Zax} {c c':List Nt} {t:PF} (h:t.ok m c) (hc:c.length<=c'.length):t.ok m c':=⟨h.part,h.at0,h.at1,h.locs,h.ws,by have:=h.noted;omega⟩
theorem SOk.init {m:Zax} {o:MO} {fs:List PF} {t:PF} (h:SOk m o (fs++[t])):t.ok m o.calls:=h.frs t (by simp)
theorem SOk.rest {m:Zax} {o:MO} {fs:List PF} {t:PF} (h:SOk m o (fs++[t])):SOk m o fs:=⟨h.img,h.data,h.told,h.calls,by have:=h.deep;simp at this;omega,λf hf=>h.frs f (by simp[hf])⟩
theorem SOk.snoc {m:Zax} {o o':MO} {fs:List PF} {t:PF} (h:SOk m o fs) (hd:o'.data.length=o.data.length) (ht:o'.told.length<=500) (hc:o.calls.length<=o'.calls.length) (mo:o'.calls.length<=100) (hf:fs.length < 20) (ok:t.ok m o'.calls):SOk m o' (fs++[t]) :=
 ⟨h.img,by rw[hd];exact h.data,ht,mo,by simp;omega,λf hf=>by
  rcases Yar.1 hf with hf | hf
  ·exact (h.frs f hf).more hc
  ·rcases Yaz.1 hf with rfl;exact ok⟩
def ROk (m:Zax):R->Prop
 | .go o fs=>SOk m o fs/\fs≠[]
 | .stop c _ _=>c≠0
theorem ZlK {m:Zax} {o:MO} {pre:List PF} {t:PF} (h:SOk m o (pre++[t])) (n:Int):ROk m (Zgj o pre t n):=by
 unfold Zgj;have ht:=h.init;have hw:=ht.ws;have hl:=h.deep;simp only[Yab,List.length_singleton] at hl;split
 ·simp[ROk]
 ·refine ⟨h.rest.snoc rfl h.told (Yas _) h.calls (by omega) ⟨ht.part,ht.at0,ht.at1,ht.locs,?_,ht.noted⟩,by simp⟩;show (t.ws++[n]).length<=40;simp;omega
theorem Zj4 {m:Zax} {o:MO} {fs:List PF} (h:SOk m o fs) {part at_ noted:Int} {args:List Int} (hp:∃k:Nat,part=(k:Int)/\k < m.length) (ha:0<=at_/\at_<=2000) (hn:noted < o.calls.length):ROk m (ZdB o fs part at_ noted args):=by
 unfold ZdB;split
 ·simp[ROk]
 ·exact ⟨h.snoc rfl h.told (Yas _) h.calls (by have:=h.deep;omega) ⟨hp,ha.1,ha.2,rfl,Yat _,hn⟩,by simp⟩
theorem PF.ok.on {m:Zax} {c:List Nt} {t:PF} (h:t.ok m c) (n:Nat):(t.on n).ok m c:=⟨h.part,h.at0,h.at1,h.locs,by have:=h.ws;simp[PF.on,PF.ww];omega,h.noted⟩
theorem PF.ok.at_ {m:Zax} {c:List Nt} {t:PF} (h:t.ok m c) {n:Int} (h0:0<=n) (h1:n<=2000):PF.ok m c { t with at_:=n }:=⟨h.part,h0,h1,h.locs,h.ws,h.noted⟩
theorem SOk.top {m:Zax} {o:MO} {fs:List PF} {t t':PF} (h:SOk m o (fs++[t])) (ok:t'.ok m o.calls):SOk m o (fs++[t']):=by have hl:=h.deep;simp only[Yab,List.length_singleton] at hl;exact h.rest.snoc rfl h.told (Yas _) h.calls (by omega) ok
theorem ZeT {α:Type} {l:List α} {x:α}:l++[x]≠[]:=by simp
theorem ZwW {m:Zax} {i:Instr} {o:MO} {pre:List PF} {t:PF} (h:SOk m o (pre++[t])) (hi:Zbz i=0):ROk m (ZiF m i o pre t):=by
 unfold ZiF;obtain ⟨_,_,ha,_,hb,_,hc,_⟩:=ZeG hi;have ff:=h.calls;have hl:=h.deep;simp only[Yab,List.length_singleton] at hl;split
 ·simp[ROk]
 ·split
  ·simp[ROk]
  ·rename_i hg;unfold Zeo at hg;obtain ⟨a,wX⟩:∃a:Nat,i.a=(a:Int):=⟨i.a.toNat,by omega⟩;obtain ⟨b,eW⟩:∃b:Nat,i.b=(b:Int):=⟨i.b.toNat,by omega⟩;rw[wX,eW] at hg ⊢;simp only[Int.toNat_natCast] at hg ⊢;have bn:a < m.length:=by omega
   have em:m.getD a Zc3=m[a]:=by simp[bn]
   rw[em] at hg ⊢;have fQ:b < m[a].entries.length:=by omega
   have ee:m[a].entries.getD b ZeY=m[a].entries[b]:=by simp[fQ]
   rw[ee];obtain ⟨gq,_,_,oX⟩:=ZgJ h.img bn;have:=oX _ (Yai fQ);split
   ·refine Zj4 ?_ ⟨a,rfl,bn⟩ ⟨by omega,by omega⟩ (by simp;omega);refine h.rest.snoc rfl h.told (by simp) (by simp;omega) (by omega) ((h.init.on _).more (by simp))
   ·exact Zj4 (h.top (h.init.on _)) ⟨a,rfl,bn⟩ ⟨by omega,by omega⟩ (by omega)
theorem Zub (o:MO) (k v:Int):(Zdu o k v).calls.length=o.calls.length/\(Zdu o k v).told=o.told/\(Zdu o k v).data=o.data:=by
 unfold Zdu;split
 ·exact ⟨List.length_modify _ _ _,rfl,rfl⟩
 ·exact ⟨rfl,rfl,rfl⟩
theorem ZyY {m:Zax} {o:MO} {pre:List PF} {t:PF} (h:SOk m o (pre++[t])):ROk m (retS o pre t):=by
 unfold retS;split
 ·simp[ROk]
 ·split
  ·simp[ROk]
  ·rename_i f hf;obtain ⟨n1,n2,n3⟩:=Zub o t.noted ((t.off 1).getD 0 0);refine ZlK ?_ _;rcases Yb4 pre with rfl | ⟨l,x,rfl⟩
   ·simp at hf
   ·rw[YbF,List.getLast?_append,List.getLast?_singleton] at hf;simp at hf;subst hf;rw[YbF] at h;have h2:=h.rest;rw[YbF,List.dropLast_concat];have hl:=h2.deep;simp only[Yab,List.length_singleton] at hl;exact h2.rest.snoc (by rw[n3]) (by rw[n2];exact h.told) (by omega) (by rw[n1];exact h.calls) (by omega) (h2.init.more (by omega))
theorem ZlB {m:Zax} {o:MO} {pre:List PF} {t:PF} (h:SOk m o (pre++[t])):ROk m (stepS m o pre t):=by
 have ht:=h.init;obtain ⟨k,hk,aB⟩:=ht.part;have em:m.getD t.part.toNat Zc3=m[k]:=by rw[hk];simp[aB]
 obtain ⟨gq,gM,kj,oX⟩:=ZgJ h.img aB;unfold stepS;simp only;rw[em];split
 ·simp[ROk]
 ·rename_i aG;have h0:=ht.at0;obtain ⟨j,hj⟩:∃j:Nat,t.at_=(j:Int):=⟨t.at_.toNat,by omega⟩;have aD:j < m[k].code.length:=by omega
  have ei:m[k].code.getD t.at_.toNat ZeX=m[k].code[j]:=by rw[hj];simp[aD]
  rw[ei];have hi:=kj _ (Yai aD);generalize m[k].code[j]=i at hi;have bh:PF.ok m o.calls { t with at_:=t.at_+1 }:=ht.at_ (by omega) (by omega);have h1:SOk m o (pre++[{ t with at_:=t.at_+1 }]):=h.top bh;generalize { t with at_:=t.at_+1 }=u at bh h1;obtain ⟨i1,i2,i3,i4,i5,i6,i7,i8,i9⟩:=ZeG hi;have hw:=bh.ws;have hl:=h.deep;simp only[Yab,List.length_singleton] at hl;split
  ·unfold Zr3;split
   ·split
    ·simp[ROk]
    ·split
     ·refine ⟨h1.top ⟨bh.part,bh.at0,bh.at1,bh.locs,?_,bh.noted⟩,ZeT⟩;simp[PF.ww,PF.on];omega
     ·simp[ROk]
   ·split
    ·simp[ROk]
    ·split
     ·exact ⟨h1.rest.snoc (by simp) h.told (Yas _) h.calls (by omega) (bh.on 2),ZeT⟩
     ·simp[ROk]
  ·split
   ·unfold Zmx;split
    ·rename_i h9;refine ⟨h1.top (bh.at_ i3 ?_),ZeT⟩;rw[h9] at i4;have:bdA 9=1199:=rfl;omega
    ·split
     ·rename_i h9;rw[h9] at i4;have:bdA 10=1199:=rfl;split
      ·simp[ROk]
      ·refine ⟨h1.top ?_,ZeT⟩;split
       ·exact (bh.on 1).at_ i3 (by omega)
       ·exact bh.on 1
     ·split
      ·rename_i h9;rw[h9] at i4;have:bdA 11=1199:=rfl;split
       ·simp[ROk]
       ·exact Zj4 (h1.top (bh.on _)) bh.part ⟨i3,by omega⟩ (by omega)
      ·split
       ·exact ZwW h1 hi
       ·split
        ·exact ZyY h1
        ·simp[ROk]
   ·unfold ZmN;split
    ·exact ZlK h1 _
    ·split
     ·exact ZlK h1 _
     ·dsimp only;generalize hn:(if i.op=8 then 2 else 1:Nat)=n;split
      ·simp[ROk]
      ·split
       ·split
        ·simp[ROk]
        ·refine ⟨h1.top ⟨bh.part,bh.at0,bh.at1,bh.locs,?_,bh.noted⟩,ZeT⟩;simp[PF.ww];omega
       ·split
        ·exact ⟨h1.top ⟨bh.part,bh.at0,bh.at1,by simp[bh.locs],(bh.on 1).ws,bh.noted⟩,ZeT⟩
        ·split
         ·split
          ·simp[ROk]
          ·exact ⟨h1.rest.snoc rfl (by have:=h.told;simp;omega) (Yas _) h.calls (by omega) (bh.on 1),ZeT⟩
         ·split
          ·refine ⟨h1.top ⟨bh.part,bh.at0,bh.at1,bh.locs,?_,bh.noted⟩,ZeT⟩;rename_i h8;rw[if_pos h8] at hn;have:2<=u.ws.length:=by omega
           simp[PF.ww,PF.on];omega
          ·exact ⟨h1.top (bh.on 1),ZeT⟩
end Barb
namespace Barb
open Go Go.Dm Go.Eng
theorem Fr.g_at2 {x:Fr} (hx:x.f.locs.length=8) {i:Nat} {n:Int} (hi:x.f.locs[i]?=some n):x.g[0+2+i*1]?=some (.int n):=by rw[show 0+2+i*1=2+i from by omega];exact Fr.g_at hx hi
theorem Fr.g_set_loc2 {x:Fr} (hx:x.f.locs.length=8) {i:Nat} (hi:i < 8) (n:Int):ZdI x.g (0+2+i*1) [.int n]=(Fr.mk { x.f with locs:=x.f.locs.set i n } x.v).g:=by rw[show 0+2+i*1=2+i from by omega];exact Fr.g_set_loc hx hi n
end Barb
namespace ZN
open Go Go.Dm Go.Eng Go.RowKit Barb
variable {L:Lv}
abbrev jx (b:Nat) (r:Zae) (i:Nat):Nat:=rnI [0,1,2,3,4,5] b (r.length+6) i
end ZN
namespace Barb
open Go Go.Dm Go.Eng
theorem Zps {α:Type} {l:List α} {k:Nat} (h:k < l.length) (z:α):l.getD k z=l[k]:=by simp[h]
theorem Zud {α:Type} {l:List α} {k:Nat} (h:k < l.length) (f:α->α):l.modify k f=l.set k (f l[k]):=by
 apply Ybx;intro i;rw[Yb7,List.getElem?_set];by_cases e:k=i
 ·subst e;simp[h]
 ·simp[e]
end Barb
namespace ZN
open Go Go.Dm Go.Eng Go.RowKit Barb
variable {L:Lv}
end ZN
namespace Go.Dm
open Go Go.Eng Go.RowKit
def ZBJ (src:List Src):Nat->Zae->Bool
 | _,[]=>true
 | i,o :: h=>(!o.live || (match kp src 0 i with | some _=>true | none=>false)) && ZBJ src (i+1) h
def Zp4 (src:List Src):Nat->Nat->Bool
 | _,0=>true
 | i,b+1=>(match src[i]? with | some (.old j)=>Nat.beq j i | _=>false) && Zp4 src (i+1) b
theorem Zuq {src:List Src}:∀{h:Zae} {p:Nat},ZBJ src p h=true->∀(i:Nat) (o:Obj),h[i]?=some o->o.live=true->∃q,kp src 0 (p+i)=some q
 | [],p,_,i,o,hi,_=>by simp at hi
 | a :: h,p,hk,i,o,hi,hl=>by
  simp only[ZBJ,Yag,YaZ,YaS] at hk;cases i with
  | zero =>
   simp at hi;subst hi;rcases hk.1 with h1 | h1
   ·rw[hl] at h1;cases h1
   ·cases hq:kp src 0 p with
    | none=>rw[hq] at h1;cases h1
    | some q=>exact ⟨q,rfl⟩
  | succ i =>obtain ⟨q,hq⟩:=Zuq hk.2 i o (by simpa using hi) hl;exact ⟨q,by rw[show p+(i+1)=p+1+i from by omega];exact hq⟩
theorem Zm8 {src:List Src}:∀{b p:Nat},Zp4 src p b=true->∀i,i < b->src[p+i]?=some (.old (p+i))
 | 0,p,_,i,hi=>absurd hi (Ybn i)
 | b+1,p,hs,i,hi=>by
  simp only[Zp4,Yag] at hs;cases i with
  | zero =>
   have h1:=hs.1;cases hp:src[p]? with
   | none=>rw[hp] at h1;cases h1
   | some s =>
    rw[hp] at h1;cases s with
    | old j=>exact (by rw[Yaq h1]:some (Src.old j)=some (Src.old p))
    | nil e sz=>cases h1
    | many0=>cases h1
  | succ i =>have:=Zm8 hs.2 i (by omega);rwa [show p+1+i=p+(i+1) from by omega] at this
theorem RelD.wider {w0:World} {own ny V0:Nat->Prop} {G:Gl} {h:Zae} {β:Nat->Value} {V:Nat->Prop} {w:World} (hr:RelD ⟨w0,own,V0,G⟩ h β V w) (ho:∀k,own k->ny k):RelD ⟨w0,ny,V0,G⟩ h β V w :=
 ⟨hr.obj,hr.sep,λi o k h1 h2 h3=>(hr.mine i o k h1 h2 h3).imp id (ho k),hr.vout,hr.vlt,hr.vin,λk hk=>(hr.vnew k hk).imp id (λh=>h.imp id (ho k)),
  ⟨hr.fr.os,hr.fr.tape,hr.fr.output,hr.fr.size,λk hk hn=>hr.fr.block k hk (λhw=>hn (ho k hw))⟩,hr.gl⟩
theorem Zxc {P:Program} {G:Gl} {g:FuncId} {b:Nat} {hin dT:Zae} {uA uz:List D} {Q:Out->Prop} (src:List Src) (ht:TurnTo dT src uz hin uA) (hk:ZBJ src 0 dT=true) (hb:Zp4 src 0 b=true) (h:CTH P G g b hin uA Q):CTH P G g b dT uz Q:=by
 intro w β V aa ab an;obtain ⟨h1,h2⟩:=ht.use ab an;have hV:Zjk dT src β V=V:=by
  funext k;apply propext;constructor
  ·rintro (hv | ⟨i,o,hn,hi,hl,_⟩)
   ·exact hv
   ·obtain ⟨q,hq⟩:=Zuq hk i o hi hl;rw[YaA,hn] at hq;cases hq
  ·exact .inl
 rw[hV] at h1 h2;have c6:Zky (ZjJ src) (ZbW dT src) hin:=by
  rcases ht.hp with e | e
  ·rw[<- e];exact Zdd _ _
  ·exact e
 have ak:∀k,ZiA hin (Zbd src β) k->ZiA dT β k:=by
  rintro k ⟨i,o,hi,hl,bm⟩;obtain ⟨o0,cU,aT⟩:=(ZcS c6).2 i o hi;have bC:=Zdc aT hl;have cP:=Zf5 aT hl bm;unfold ZbW at cU;rw[YaE] at cU;cases hs:src[i]? with
  | none=>rw[hs] at cU;cases cU
  | some s =>
   rw[hs] at cU;simp only[Option.map_some,Ybg] at cU;subst cU;cases s with
   | nil e sz=>simp[Zbn,Bk,Zbd,hs,bk] at cP
   | many0=>simp[Zbn,Bk] at cP
   | old j =>
    have hβ:Zbd src β i=β j:=by simp[Zbd,hs]
    rw[hβ] at cP;cases hj:dT[j]? with
    | none=>simp[Zbn,hj,Obj.live] at bC
    | some oj =>
     cases oj with
     | dead=>simp[Zbn,hj,Obj.live] at bC
     | blk cs t=>exact ⟨j,_,hj,rfl,by simpa only[Zbn,hj,Bk] using cP⟩
     | row xs e sz=>exact ⟨j,_,hj,rfl,by simpa only[Zbn,hj,Bk] using cP⟩
     | many l ts=>exact ⟨j,_,hj,rfl,by simpa only[Zbn,hj,Bk] using cP⟩
 have stays:∀{h':Zae} {β':Nat->Value},(∀i,i < b->Zox hin h' (Zbd src β) β' i)->∀i,i < b->Zox dT h' β β' i:=fun {h' β'} hs i hi=>by
  obtain ⟨⟨o,o',a1,a2,a3,a4⟩,a5⟩:=hs i hi;have qM:=Zm8 hb i hi;rw[YaA] at qM;obtain ⟨o0,cU,aT⟩:=(ZcS c6).2 i o a1;have bC:=Zdc aT (ZmH a3 a4);unfold ZbW at cU;rw[YaE,qM] at cU;simp only[Option.map_some,Ybg] at cU;subst cU;cases hj:dT[i]? with
  | none=>simp[Zbn,hj,Obj.live] at bC
  | some oj =>exact ⟨⟨oj,o',hj,a2,ZhA (Zrs (src:=src) hj) (ZhA (Zl2 aT) a3 a4) a4,a4⟩,a5.trans (by simp[Zbd,qM])⟩
 refine (h w (Zbd src β) V aa (Zns h1) h2).mono λe w' he=>?_;cases e with
 | returned v =>obtain ⟨d,h',β',V',q1,q2,q3,q4⟩:=he;exact ⟨d,h',β',V',q1,q2.wider ak,q3,stays q4⟩
 | panicked ch =>obtain ⟨d,h',t,u,β',V',q0,q1,q2,q3,q4⟩:=he;exact ⟨d,h',t,u,β',V',q0,q1,q2.wider ak,q3,stays q4⟩
 | outgrown=>exact he.elim
end Go.Dm
namespace Barb
open Go Go.Dm Go.Eng
theorem Nt.g_fin (n:Nt) (v:Int):ZdI (ZdI n.g (0+5) [.bool true]) (0+6) [.int v]=(n.fin v).g:=rfl
theorem ZxN {o:MO} {k:Nat} (hk:k < o.calls.length) (v:Int):((o.calls.map Nt.g).set k (ZdI o.calls[k].g (0+5) [.bool true])).set k (ZdI (ZdI o.calls[k].g (0+5) [.bool true]) (0+6) [.int v])=(Zdu o (k:Int) v).calls.map Nt.g:=by rw[List.set_set,Nt.g_fin];unfold Zdu;rw[if_pos (by omega)];simp only[Int.toNat_natCast];rw[Zud hk,List.map_set]
theorem Zql {o:MO} {k:Int} (hk:¬0<=k) (v:Int):Zdu o k v=o:=by unfold Zdu;rw[if_neg hk]
end Barb
namespace ZN
open Go Go.Dm Go.Eng Go.RowKit Barb
variable {L:Lv}
variable {L:Lv}
theorem Fr.ok_of {m:Zax} {c:List Nt} {x:Fr} (h:x.f.ok m c):x.ok:=⟨h.locs,h.ws⟩
end ZN
namespace Barb
open Go Go.Dm Go.Eng
def ZgB (m:Zax):Nat->MO->List PF->Int × Int × MO
 | 0,o,_=>(3,0,o)
 | n+1,o,fs=>match fs.getLast? with
  | none=>(0,0,o)
  | some t=>match Barb.stepS m o fs.dropLast t with
   | .go o' cQ=>ZgB m n o' cQ
   | .stop c v o'=>(c,v,o')
theorem ZhR (m:Zax) (n:Nat) (o:MO) (fs:List PF) (t:PF):ZgB m (n+1) o (fs++[t])=match Barb.stepS m o fs t with
   | .go o' cQ=>ZgB m n o' cQ
   | .stop c v o'=>(c,v,o'):=by simp[ZgB]
def Zsu (m:Zax) (part entry:Int):Entry:=(Barb.partAt m part).entries.getD entry.toNat ZeY
def ZtF (m:Zax) (d:List Int) (part entry:Int) (args:List Int) (fuel:Int):Int :=
 if ZkH m d≠0 then ZkH m d
 else if part < 0\/part >= m.length\/entry < 0\/entry >= (Barb.partAt m part).entries.length then 5
 else if (args.length:Int)≠(Zsu m part entry).params then 7
 else if fuel < 0\/fuel > 100000\/∃n∈args,¬Zgi n then 2 else 0
structure Outc where
 end_:Int
 value:Int
 told:List Int
 data:List Int
 calls:List Nt
abbrev Outc.d (o:Outc):List D:=[.g (.int o.end_),.g (.int o.value),.g (.sl 1 (o.told.map ZaU)),.g (.sl 1 (o.data.map ZaU)),.g (.sl 7 (o.calls.map Nt.g))]
def Znt (x:Int × Int × MO):Outc:=⟨x.1,x.2.1,x.2.2.told,x.2.2.data,x.2.2.calls⟩
def Zv9 (m:Zax) (d:List Int) (part entry:Int) (args:List Int) (fuel:Int):Outc :=
 if ZtF m d part entry args fuel=0 then Znt (ZgB m fuel.toNat ⟨[],d,[]⟩ [⟨part,(Zsu m part entry).at_,p8 args,[],-1⟩]) else ⟨0,0,[],[],[]⟩
theorem ZiT {m:Zax} {d:List Int} {part entry:Int} {args:List Int} {fuel e:Int} (h:ZtF m d part entry args fuel=e) (h0:e≠0):Zv9 m d part entry args fuel=⟨0,0,[],[],[]⟩:=by unfold Zv9;rw[if_neg (by rw[h];exact h0)]
end Barb
namespace ZN
open Go Go.Dm Go.Eng Go.RowKit Barb
variable {L:Lv}
structure LS where
 e:Int
 val:Int
 o:MO
 gs:List Fr
 N:Ns
 n:Nat
def ZCU (m:Zax) (F:Int × Int × MO) (i:LS):Prop:=i.n<=100000/\(i.e=0->i.val=0/\SOk m i.o (i.gs.map Fr.f)/\i.gs≠[]/\ZgB m i.n i.o (i.gs.map Fr.f)=F)/\(i.e≠0->F=(i.e,i.val,i.o))
theorem ZBE {h:Zae} {o:Outc} {e e':Int} (ho:o=⟨0,0,[],[],[]⟩) (he:e=e'):Zby (Is (.tuple [.agg o.d,.g (.int e')])) h (.tuple [.agg [.g (.int 0),.g (.int 0),.nils,.nils,.nils],.g (.int e)]):=by subst ho;subst he;exact ZbN (.inr (.inr ⟨.inr ⟨lk rfl,lk rfl,Zel,Zel,Zel,trivial⟩,lk rfl,trivial⟩))
end ZN
namespace Barb
open Go Go.Dm Go.Eng ZN
section
variable {m:Zax} {p:Part} {i:Instr} {o:MO} {pre:List PF} {t:PF} {k:Nat}
end
structure Rm where
 f:PF
 b:Value
 v:Value
def Rm.g (x:Rm):List GV:=.int x.f.part :: .int x.f.at_ :: (x.f.locs.map .int++[.raw x.v,.int x.f.noted])
def Rm.z (tr ti:Nat) (x:Rm):List (Value × Ob0):=[(x.b,.blk x.g tr),(x.v,.row (x.f.ws.map ZaU) ti 1)]
def zs (tr ti:Nat) (l:List Rm):List (Value × Ob0):=(l.map (Rm.z tr ti)).flatten
def Rm.r (x:Rm):List GV:=[.raw x.b]
structure RS where
 n:Nat
 o:MO
 gs:List Rm
end Barb
namespace Go.Dm
open Go Go.Eng Go.RowKit
end Go.Dm
namespace ZN
open Go Go.Dm Go.Eng Go.RowKit
variable {L:Lv}
theorem Zyn (w:World) (g g2 n cap:Nat) (hn:n < 1000000) (hc:w.cell? ⟨g,6,none⟩=some (.slice (some ⟨g2,0,none⟩) (n+1) cap)) :
  Calls Tryz.prog 57 #[.pointer (some ⟨g,0,none⟩)] w λe w'=>e=.returned (.pointer (some ⟨g2,n*12,none⟩))/\Fr (λ_=>False) w w':=by
 go_enter Tryz.func57,Tryz.ntmps57
 go_wp2
 go_region
 go_wp2
 go_ret
 exact ⟨rfl,rfl,rfl,rfl,Yas _,λ_ _ _=>rfl⟩
theorem Zgm {h:Zae} {j k n:Nat} {cs:List D} {t e:TypeId} {xs:List (List GV)} (hj:h[j]?=some (.blk cs t)) (hc:cs[6]?=some (.row k)) (hk:h[k]?=some (.row xs e 12)) (hx:xs.length=n+1) (hn:n < 1000000) :
  CTR Tryz.prog (gl L) 57 [.ptr j 0] h (.el k n 0):=by
 intro C w β V aa _ hr hd;simp only[Zaa] at hd;obtain ⟨v,us,rfl,h1,rfl⟩:=hd;simp only[Zab,hj] at h1;obtain ⟨g,hb,rfl⟩:=h1;obtain ⟨g',vs,au,hg,aU⟩:=hr.obj j _ hj;have eg:g'=g:=by rw[hb] at au;injection au with au;injection au with au;injection au with au;exact au.symm
 subst eg;obtain ⟨v6,vu,tf⟩:=aU.get hc;simp only[Zab,hk] at tf;obtain ⟨us,ak,_⟩:=hr.obj k _ hk;rcases ak.2 with ⟨_,h0⟩ | ⟨g2,cap,cur,bm,_⟩
 ·omega
 have eU:w.cell? ⟨g',6,none⟩=some (.slice (some ⟨g2,0,none⟩) (n+1) cap):=by rw[cell_of_row w _ _ _ _ _ hg,<- hx,<- bm,<- tf];simpa using vu
 refine (Zyn w g' g2 n cap hn eU).mono λe w' he=>?_;obtain ⟨rfl,hf⟩:=he;obtain ⟨q1,q2⟩:=Zzl hr hf;refine ⟨q1,?_,q2⟩;simp only[Zab,hk];exact ⟨by omega,g2,_,_,bm,rfl⟩
end ZN
namespace Barb
open Go Go.Dm Go.Eng
end Barb
namespace ZN
open Go Go.Dm Go.Eng Go.RowKit Barb
variable {L:Lv}
abbrev MH (m:Zax) (e val:Int) (o:MO) (fs:List Fr) (N:Ns):Zae :=
 [.blk [.g (.sl 4 (m.map Part.g)),.g (.int e),.g (.int val),.row 3,.row 2,.row 4,.row 5] 97,.many (fs.map fz) (MT N),.row (o.data.map ZaU) 3 1,.row (o.told.map ZaU) 3 1,.row (o.calls.map Nt.g) 199 7,
  .row (fs.map Fr.g) 141 12]
theorem tg5 (m:Zax) (e val:Int) (o:MO) (fs:List Fr) (N:Ns):Ziv (MH m e val o fs N) 1 1 (ns5 N) :=
 ⟨trivial,Yae,Yad _ Yae,Yad _ (Yad _ Yae),Yad _ (Yad _ (Yad _ Yae)),trivial⟩
theorem st5 {m:Zax} {e val e' cR:Int} {o o':MO} {fs cQ:List Fr} {N:Ns} (h1:o.data.length=o'.data.length) (h2:o.told.length=o'.told.length) (h3:o.calls.length=o'.calls.length) (h4:fs.length=cQ.length):Zku (MH m e val o fs N) (MH m e' cR o' cQ N) 1 1 (ns5 N) :=
 ⟨trivial,Yae,⟨⟨by simpa using h1,rfl⟩,rfl⟩,Yad _ Yae,⟨⟨by simpa using h2,rfl⟩,rfl⟩,Yad _ (Yad _ Yae),⟨⟨by simpa using h3,rfl⟩,rfl⟩,
  Yad _ (Yad _ (Yad _ Yae)),⟨⟨by simpa using h4,rfl⟩,rfl⟩,trivial⟩
theorem tg4 (m:Zax) (e val:Int) (o:MO) (fs:List Fr) (N:Ns):Ziv (MH m e val o fs N) 1 1 (ns4 N) :=
 ⟨trivial,Yae,Yad _ Yae,Yad _ (Yad _ Yae),trivial⟩
theorem st4 {m:Zax} {e val e' cR:Int} {o o':MO} {fs cQ:List Fr} {N:Ns} {f:Value} (h1:o.data.length=o'.data.length) (h2:o.told.length=o'.told.length) (h3:o.calls.length=o'.calls.length):Zku (MH m e val o fs N) (MH m e' cR o' cQ (N.withF f)) 1 1 (ns4 N) :=
 ⟨trivial,Yae,⟨⟨by simpa using h1,rfl⟩,rfl⟩,Yad _ Yae,⟨⟨by simpa using h2,rfl⟩,rfl⟩,Yad _ (Yad _ Yae),⟨⟨by simpa using h3,rfl⟩,rfl⟩,trivial⟩
theorem ZaZ {R:D->Zae->Prop} {env:Dm.Env} {m:Zax} {e val:Int} {o:MO} {fs:List Fr} {N:Ns} {h hin:Zae} {ns:List (Option Value)} {xs:List (List GV)} {l:List (Value × Ob0)} {told data calls:List (List GV)} {d0:D} (d:D) (src:List Src) (aR:Zef src=true) (hlen:ZoE src (MH m e val o fs N)=true)
  (h0:conv h src 4 (env 0)=.ptr 0 0) (hd:conv h src 4 d0=d\/ZiI (ZjJ src) 4 (conv h src 4 d0) d)
  (hT:ZbW h src=[.blk [.g (.sl 4 (m.map Part.g)),.g (.int e),.g (.int val),.row 3,.row 2,.row 4,.row 5] 97,.many l (MT N),.row data 3 1,.row told 3 1,.row calls 199 7,.row xs 141 12])
  (e1:data=o.data.map ZaU) (e2:told=o.told.map ZaU) (e3:calls=o.calls.map Nt.g) (e4:xs=fs.map Fr.g) (e5:l.Perm (fs.map fz)) (aZ:Zku hin (MH m e val o fs N) 1 1 ns) (q:R d (MH m e val o fs N)):ToH [0] hin 1 ns R h env d0:=by
 subst e1;subst e2;subst e3;subst e4;refine ⟨src,d,MH m e val o fs N,⟨aR,.inr ?_,.inr ?_,hlen⟩,rfl,aZ,q⟩
 ·rw[hT];exact ⟨⟨rfl,.inl rfl⟩,⟨e5,rfl⟩,⟨rfl,rfl,rfl⟩,⟨rfl,rfl,rfl⟩,⟨rfl,rfl,rfl⟩,⟨rfl,rfl,rfl⟩,trivial⟩
 ·rw[Yan,Yan,Yan,h0];exact ⟨by rcases hd with hd | hd;exact lk hd;exact hd,lk rfl,trivial⟩
variable {L:Lv}
theorem Zgn:fnOk Tryz.prog 57=true:=by kernel_rfl
def Zo9 (m:Zax) (e val:Int) (o:MO) (pre:List Fr) (t:Fr) (N:Ns) (n:Int):Out->Prop:=λout=>if t.f.ws.length=40 then out=.ret (.g (.bool false)) (MH m e val o (pre++[t]) N) else
 ∃v',out=.ret (.g (.bool true)) (MH m e val o (pre++[t.ww (t.f.ws++[n]) v']) N)
theorem Zqb (m:Zax) (e val:Int) (o:MO) (pre:List Fr) (t:Fr) (N:Ns) (n:Int) (ht:t.ok) (hp:pre.length < 1000) :
  CTH Tryz.prog (gl L) 90 6 (MH m e val o (pre++[t]) N) [.ptr 0 0,.g (.int n)] (Zo9 m e val o pre t N n):=by
 refine Za4 [] hT hF hM Tryz.func90 rfl 24 rfl (by kernel_rfl) [.tmp 4] rfl [.ptr 0 0,.g (.int n)] rfl (MH m e val o (pre++[t]) N) [0] rfl rfl rfl 1 (ns5 N) (tg5 _ _ _ _ _ _) _ ?_;refine ⟨Zgn,.inr (ZrL (Zgm rfl rfl rfl (n:=pre.length) (by simp) (by omega)) ?_)⟩;refine ⟨_,Zbo Fr.g pre t,ZcI rfl (Fr.g_words ht.1) ?_⟩;refine .inr (ZxU 1 (pre.map fz) [] (.row (t.f.ws.map ZaU) 3 1) rfl (by rw[Yaf];rfl) (ZiC ?_));have hw:=ht.2;have qy:(t.f.ws.map ZaU).length=t.f.ws.length:=Yaa _;refine ⟨λh=>?_,λh=>?_⟩
 ·refine ⟨rfl,.inr (ZqI 1 6 t.v (.row (t.f.ws.map ZaU) 3 1) rfl (.head _) rfl ⟨rfl,rfl,rfl⟩ (ZiC (ZaZ (.g (.bool false)) (Zce 0 1 2 3 4 5) rfl rfl rfl (.inl rfl) rfl rfl rfl rfl rfl ?_ (st5 rfl rfl rfl rfl) ?_)))⟩
  ·simp[fz,Fr.z]
  ·unfold Zo9;rw[if_pos (by omega)]
 ·refine ⟨_,Zbo Fr.g pre t,ZcI rfl (Fr.g_words ht.1) (.inr (Zzr 1 6 rfl (.head _) rfl (ZiC ?_)))⟩;refine ⟨[[.int n]],rfl,rfl,⟨rfl,trivial⟩,?_⟩;refine ⟨⟨by simp[maxLen];omega,by simp;omega⟩,?_⟩;refine .inr (ZxT 1 8 rfl rfl (λv'=>ZiC ?_));refine ⟨_,[.raw v'],Zbo Fr.g pre t,⟨rfl,trivial⟩,by rw[Fr.g_len ht.1];decide,(λh=>by cases h),.inl ?_⟩;refine ⟨rfl,.inr (ZqI 1 8 v' (.row ((t.f.ws++[n]).map ZaU) 3 1) rfl (.head _) rfl ⟨by simp[ZaU],rfl,rfl⟩ (ZiC (ZaZ (fs:=pre++[t.ww (t.f.ws++[n]) v']) (.g (.bool true)) (Zce 0 1 2 3 4 5) rfl rfl rfl (.inl rfl) rfl rfl rfl rfl (ZfY Fr.g pre t _ _ (Fr.g_set_words ht.1 _ _).symm) ?_ (st5 rfl rfl rfl (ZpY _ _ _)) ?_)))⟩
  ·simp[fz,Fr.z,Fr.ww]
  ·unfold Zo9;rw[if_neg (by omega)];exact ⟨v',rfl⟩
def ZAI (m:Zax) (e val:Int) (o:MO) (pre:List Fr) (t:Fr) (N:Ns) (n:Nat):Out->Prop:=λout =>
 if t.f.ws.length < n then out=.ret (.tuple [.nils,.g (.bool false)]) (MH m e val o (pre++[t]) N) else
  ∃v',out=.ret (.tuple [.g (.sl 1 ((t.f.ws.drop (t.f.ws.length - n)).map ZaU)),.g (.bool true)]) (MH m e val o (pre++[t.ww (t.f.ws.take (t.f.ws.length - n)) v']) N)
theorem Zy5 (m:Zax) (e val:Int) (o:MO) (pre:List Fr) (t:Fr) (N:Ns) (n:Nat) (ht:t.ok) (hp:pre.length < 1000) (hn:n < 1000) :
  CTH Tryz.prog (gl L) 88 6 (MH m e val o (pre++[t]) N) [.ptr 0 0,.g (.int (n:Int))] (ZAI m e val o pre t N n):=by
 refine Za4 [] hT hF hM Tryz.func88 rfl 37 rfl (by kernel_rfl) [.tmp 4,.tmp 5] rfl [.ptr 0 0,.g (.int (n:Int))] rfl (MH m e val o (pre++[t]) N) [0] rfl rfl rfl 1 (ns5 N) (tg5 _ _ _ _ _ _) _ ?_;have hw:=ht.2;have qy:(t.f.ws.map ZaU).length=t.f.ws.length:=Yaa _;refine ⟨Zgn,.inr (ZrL (Zgm rfl rfl rfl (n:=pre.length) (by simp) (by omega)) ?_)⟩;refine ⟨_,Zbo Fr.g pre t,ZcI rfl (Fr.g_words ht.1) ?_⟩;refine .inr (ZxU 1 (pre.map fz) [] (.row (t.f.ws.map ZaU) 3 1) rfl (by rw[Yaf];rfl) (ZiC ?_));refine ⟨by unfold I64;omega,?_⟩;refine ⟨λh=>?_,λh=>?_⟩
 ·refine ⟨rfl,.inr (ZqI 1 6 t.v (.row (t.f.ws.map ZaU) 3 1) rfl (.head _) rfl ⟨rfl,rfl,rfl⟩ (ZiC (ZaZ (.tuple [.nils,.g (.bool false)]) (Zce 0 1 2 3 4 5) rfl rfl rfl (.inl rfl) rfl rfl rfl rfl rfl ?_ (st5 rfl rfl rfl rfl) ?_)))⟩
  ·simp[fz,Fr.z]
  ·unfold ZAI;rw[if_pos (by omega)]
 ·obtain ⟨k,hk⟩:∃k:Nat,t.f.ws.length=k+n:=⟨t.f.ws.length - n,by omega⟩;have eC:D.g (.int (((t.f.ws.map ZaU).length:Int) - (n:Int)))=D.g (.int (k:Int)):=by rw[qy,hk];congr 2;omega
  refine ⟨_,Zbo Fr.g pre t,ZcI rfl (Fr.g_words ht.1) (.inr (Zzr 1 6 rfl (.head _) rfl (ZiC ?_)))⟩;refine ⟨k,eC,by omega,.inl ?_⟩;refine .inr (ZAu (.inl rfl) (ZoC _ ?_) ?_ ?_)
  ·simp;omega
  ·intro r hr g hg;obtain ⟨x,_,rfl⟩:=YaU.1 (Ya5 (YaK hr));rcases Yaz.1 hg with rfl;trivial
  refine ⟨_,Zbo Fr.g pre t,ZcI rfl (Fr.g_words ht.1) (.inr (Zzr 1 6 rfl (.head _) rfl (ZiC ?_)))⟩;refine ⟨k,eC,by omega,.inr (ZBa rfl (by omega) (ZxT 1 8 rfl rfl (λv'=>ZiC ?_)))⟩;refine ⟨_,[.raw v'],Zbo Fr.g pre t,⟨rfl,trivial⟩,by rw[Fr.g_len ht.1];decide,(λh=>by cases h),.inl ?_⟩;refine ⟨rfl,.inr (ZqI 1 8 v' (.row ((t.f.ws.take k).map ZaU) 3 1) rfl (.head _) rfl ⟨by rw[YbH],rfl,rfl⟩ (ZiC (ZaZ (fs:=pre++[t.ww (t.f.ws.take k) v']) (.tuple [.g (.sl 1 ((t.f.ws.drop k).map ZaU)),.g (.bool true)]) (Zce 0 1 2 3 4 5) rfl rfl rfl (.inl ?_) rfl rfl rfl rfl (ZfY Fr.g pre t _ _ (Fr.g_set_words ht.1 _ _).symm) ?_ (st5 rfl rfl rfl (ZpY _ _ _)) ?_)))⟩
  ·show D.tuple [.g (.sl 1 (((t.f.ws.map ZaU).drop k).take _)),_]=_;rw[Yay (by simp),YbI];rfl
  ·simp[fz,Fr.z,Fr.ww]
  ·unfold ZAI;rw[if_neg (by omega),show t.f.ws.length - n=k from by omega];exact ⟨v',rfl⟩
end ZN
namespace Barb
open Go Go.Dm Go.Eng
end Barb
namespace ZN
open Go Go.Dm Go.Eng Go.RowKit Barb
variable {L:Lv}
def Zj5 (m:Zax) (e val:Int) (o:MO) (fs:List Fr) (N:Ns) (part at_ noted:Int) (args:List Int):Out->Prop:=λout =>
 if fs.length=20 then out=.ret (.g (.int 5)) (MH m e val o fs N) else ∃f,out=.ret (.g (.int 0)) (MH m e val o (fs++[Znv part at_ noted args]) (N.withF f))
theorem Zn8 (m:Zax) (e val:Int) (o:MO) (fs:List Fr) (N:Ns) (part at_ noted:Int) (args:List Int) (hf:fs.length<=20) :
  CTH Tryz.prog (gl L) 31 5 (MH m e val o fs N) [.ptr 0 0,.g (.int part),.g (.int at_),.g (.int noted),.g (.sl 1 (args.map ZaU))] (Zj5 m e val o fs N part at_ noted args):=by
 refine Za4 [] hT hF hM Tryz.func31 rfl 36 rfl (by kernel_rfl) [.tmp 10] rfl [.ptr 0 0,.g (.int part),.g (.int at_),.g (.int noted),.g (.sl 1 (args.map ZaU))] rfl (MH m e val o fs N) [0] rfl rfl rfl 1 (ns4 N) (tg4 _ _ _ _ _ _) _ ?_;have hl:(fs.map Fr.g).length=fs.length:=Yaa _;refine ⟨λh=>?_,λh=>?_⟩
 ·refine ⟨rfl,.inl (ZaZ (.g (.int 5)) (Zce 0 1 2 3 4 5) rfl rfl rfl (.inl rfl) rfl rfl rfl rfl rfl (Yap _) (st4 rfl rfl rfl) ?_)⟩;unfold Zj5;rw[if_pos (by omega)]
 ·refine .inr (ZA6 (ZiC ?_));refine .inl ?_;refine .inl ?_;refine ⟨_,(ZxJ args _ _ _ _).symm,?_⟩;refine ⟨some 9998,[10],rfl,?_⟩;refine ⟨[(Znv part at_ noted args).g],rfl,rfl,ZyM _ (Znv part at_ noted args).g,⟨_,rfl⟩,?_⟩;refine ⟨⟨by simp[maxLen];omega,by simp;omega⟩,?_⟩;refine .inr (ZdU 1 8 (λv=>[(N.d,2),(N.t,3),(N.c,4),(v,8)]) rfl rfl (λv t ht=>?_) (λv'=>ZiC ?_))
  ·simp only[Yav,Ya4,or_false] at ht ⊢;rcases ht with rfl | rfl | rfl | rfl<;>simp
  refine ⟨rfl,.inr (ZA7 1 3 1 (by decide) rfl (ZiC (ZaZ (fs:=fs++[Znv part at_ noted args]) (N:=N.withF v') (.g (.int 0)) (Zce 0 1 2 3 4 8) rfl rfl rfl (.inl rfl) rfl rfl rfl rfl ?_ ?_ (st4 rfl rfl rfl) ?_)))⟩
  ·simp
  ·simp[fz,Fr.z,Znv]
  ·unfold Zj5;rw[if_neg (by omega)];exact ⟨v',rfl⟩
theorem ZAJ:fnOk Tryz.prog 89=true:=by kernel_rfl
theorem Zwm (m:Zax) (e val:Int) (o:MO) (pre:List Fr) (t:Fr) (N:Ns) (k:Nat) (hk:k < m.length) (dn:t.f.part=(k:Int)) (at_:Int) (hp:pre.length < 1000) :
  CTH Tryz.prog (gl L) 89 6 (MH m e val o (pre++[t]) N) [.ptr 0 0,.g (.int at_)] (λout=>out=.ret (.pb (Zmd m[k] at_)) (MH m e val o (pre++[t]) N)):=by
 refine Za4 [] hT hF hM Tryz.func89 rfl 28 rfl (by kernel_rfl) [.tmp 4] rfl [.ptr 0 0,.g (.int at_)] rfl (MH m e val o (pre++[t]) N) [0] rfl rfl rfl 1 (ns5 N) (tg5 _ _ _ _ _ _) _ ?_;refine ⟨none,rfl,?_⟩;refine ⟨Zgn,_,λh' hx=>Zgm (hx _ _ rfl) rfl (hx _ _ rfl) (n:=pre.length) (by simp) (by omega),?_⟩;refine ⟨_,Zbo Fr.g pre t,?_⟩;refine ⟨k,_,(show D.g (.int t.f.part)=D.g (.int (k:Int)) by rw[dn]),gm hk,?_⟩;refine ⟨λh=>?_,λh=>?_⟩
 ·exact ⟨rfl,.inl (ZaZ _ (Zce 0 1 2 3 4 5) rfl rfl rfl (.inr (lkP ⟨λh2=>⟨h,h2⟩,λh2=>h2.2⟩)) rfl rfl rfl rfl rfl (Yap _) (st5 rfl rfl rfl rfl) rfl)⟩
 ·exact ⟨rfl,.inl (ZaZ _ (Zce 0 1 2 3 4 5) rfl rfl rfl (.inr (Zqt ⟨λh2=>(by cases h2),λh2=>absurd h2.1 h⟩)) rfl rfl rfl rfl rfl (Yap _) (st5 rfl rfl rfl rfl) rfl)⟩
end ZN
namespace Barb
open Go Go.Dm Go.Eng ZN
end Barb
namespace Barb
open Go Go.Dm Go.Eng
end Barb
namespace ZN
open Go Go.Dm Go.Eng Go.RowKit Barb
variable {L:Lv}
theorem ZAH:fnOk Tryz.prog 88=true:=by kernel_rfl
theorem ZtS:fnOk Tryz.prog 90=true:=by kernel_rfl
theorem Zms:fnOk Tryz.prog 31=true:=by kernel_rfl
def RQ (m:Zax):R->Out->Prop
 | .go o fs,out=>∃(gs:List Fr) (N:Ns),gs.map Fr.f=fs/\out=.ret (.g (.int 0)) (MH m 0 0 o gs N)
 | .stop c v o,out=>∃(gs:List Fr) (N:Ns),out=.ret (.g (.int c)) (MH m 0 v o gs N)
theorem Zqd {m:Zax} {e val:Int} {o:MO} {pre:List Fr} {t:Fr} {N:Ns} {n:Nat} {out:Out} (h:ZAI m e val o pre t N n out):(t.f.ws.length < n/\out=.ret (.tuple [.nils,.g (.bool false)]) (MH m e val o (pre++[t]) N)) \/
  (n<=t.f.ws.length/\∃v',out=.ret (.tuple [.g (.sl 1 ((t.f.ws.drop (t.f.ws.length - n)).map ZaU)),.g (.bool true)]) (MH m e val o (pre++[t.ww (t.f.ws.take (t.f.ws.length - n)) v']) N)):=by
 unfold ZAI at h;split at h
 ·exact .inl ⟨by assumption,h⟩
 ·exact .inr ⟨by omega,h⟩
abbrev MHr (m:Zax) (e val:Int) (o:MO) (fs:List Fr) (N:Ns) (r:Zae):Zae :=
 .blk [.g (.sl 4 (m.map Part.g)),.g (.int e),.g (.int val),.row 3,.row 2,.row 4,.row 5] 97 :: .many (fs.map fz) (MT N) :: .row (o.data.map ZaU) 3 1 :: .row (o.told.map ZaU) 3 1 :: .row (o.calls.map Nt.g) 199 7 ::
  .row (fs.map Fr.g) 141 12 :: r
theorem ZAG (m m':Zax) (e e' val cR:Int) (o o':MO) (fs cQ:List Fr) (N N':Ns) (r:Zae):Ziy (MHr m e val o fs N r) [0,1,2,3,4,5] 6 (MH m' e' cR o' cQ N')=MHr m' e' cR o' cQ N' r:=by unfold Ziy;simp only[Yan,YaI,ZrQ];rw[show (0+1+1+1+1+1+1:Nat)=0+6 from rfl,Zg3];show _++[]=_;rw[YaF];rfl
theorem Zym (m:Zax) (e val:Int) (o:MO) (fs:List Fr) (N:Ns) (r:Zae) (n:D) (hn:conv (MHr m e val o fs N r) (Zce 0 1 2 3 4 5) 4 n=n):TurnTo (MHr m e val o fs N r) (Zce 0 1 2 3 4 5) [.ptr 0 0,n] (MH m e val o fs N) [.ptr 0 0,n] :=
 ⟨rfl,.inl rfl,.inl (by rw[Yan,Yan,YaI,hn];rfl),rfl⟩
theorem Ze9 {all:List D} {h:Zae} {K Qp:KD} {m:Zax} {e val:Int} {o:MO} {pre:List Fr} {t:Fr} {N:Ns} {n:Nat} (r:Zae) (ht:t.ok) (hp:pre.length < 1000) (hn:n < 1000)
  (hh:h=MHr m e val o (pre++[t]) N r) (ha:all=[.ptr 0 0,.g (.int (n:Int))])
  (bK:t.f.ws.length < n->K (.tuple [.nils,.g (.bool false)]) (MHr m e val o (pre++[t]) N r))
  (cl:∀v',n<=t.f.ws.length->K (.tuple [.g (.sl 1 ((t.f.ws.drop (t.f.ws.length - n)).map ZaU)),.g (.bool true)]) (MHr m e val o (pre++[t.ww (t.f.ws.take (t.f.ws.length - n)) v']) N r)) :
  fnOk Tryz.prog 88=true/\(Zdh Tryz.prog (gl L) 88 all h K Qp\/ZcH Tryz.prog (gl L) 88 all h K Qp):=by
 subst hh;subst ha;refine Zag [0,1,2,3,4,5] ZAH rfl rfl (Zym _ _ _ _ _ _ _ _ rfl) (Zy5 m e val o pre t N n ht hp hn) (λd' h' hq=>?_) (λd' h' hq=>?_)
 ·rcases Zqd hq with ⟨h1,h2⟩ | ⟨h1,v',h2⟩
  ·injection h2 with e1 e2;subst e1;subst e2;rw[ZAG];exact bK h1
  ·injection h2 with e1 e2;subst e1;subst e2;rw[ZAG];exact cl v' h1
 ·rcases Zqd hq with ⟨_,h2⟩ | ⟨_,v',h2⟩<;>cases h2
theorem Zge {all:List D} {h:Zae} {K Qp:KD} {m:Zax} {e val:Int} {o:MO} {pre:List Fr} {t:Fr} {N:Ns} {n:Int} (r:Zae) (ht:t.ok) (hp:pre.length < 1000)
  (hh:h=MHr m e val o (pre++[t]) N r) (ha:all=[.ptr 0 0,.g (.int n)])
  (bK:t.f.ws.length=40->K (.g (.bool false)) (MHr m e val o (pre++[t]) N r))
  (cl:∀v',¬t.f.ws.length=40->K (.g (.bool true)) (MHr m e val o (pre++[t.ww (t.f.ws++[n]) v']) N r)) :
  fnOk Tryz.prog 90=true/\(Zdh Tryz.prog (gl L) 90 all h K Qp\/ZcH Tryz.prog (gl L) 90 all h K Qp):=by
 subst hh;subst ha;refine Zag [0,1,2,3,4,5] ZtS rfl rfl (Zym _ _ _ _ _ _ _ _ rfl) (Zqb m e val o pre t N n ht hp) (λd' h' hq=>?_) (λd' h' hq=>?_)
 ·unfold Zo9 at hq;split at hq
  ·injection hq with e1 e2;subst e1;subst e2;rw[ZAG];exact bK (by assumption)
  ·obtain ⟨v',hq⟩:=hq;injection hq with e1 e2;subst e1;subst e2;rw[ZAG];exact cl v' (by assumption)
 ·unfold Zo9 at hq;split at hq
  ·cases hq
  ·obtain ⟨v',hq⟩:=hq;cases hq
theorem Zu8 {all:List D} {h:Zae} {K Qp:KD} {m:Zax} {e val:Int} {o:MO} {pre:List Fr} {t:Fr} {N:Ns} {k:Nat} (r:Zae) (hk:k < m.length) (dn:t.f.part=(k:Int)) {at_:Int} (hp:pre.length < 1000)
  (hh:h=MHr m e val o (pre++[t]) N r) (ha:all=[.ptr 0 0,.g (.int at_)])
  (cl:K (.pb (Zmd m[k] at_)) (MHr m e val o (pre++[t]) N r)) :
  fnOk Tryz.prog 89=true/\(Zdh Tryz.prog (gl L) 89 all h K Qp\/ZcH Tryz.prog (gl L) 89 all h K Qp):=by subst hh;subst ha;refine Zag [0,1,2,3,4,5] ZAJ rfl rfl (Zym _ _ _ _ _ _ _ _ rfl) (Zwm m e val o pre t N k hk dn at_ hp) (λd' h' hq=>?_) (λd' h' hq=>by cases hq);injection hq with e1 e2;subst e1;subst e2;rw[ZAG];exact cl
theorem ZkY (m:Zax) (o:MO) (pre:List Fr) (t:Fr) (N:Ns) (i:Instr) (k:Nat) (hk:k < m.length) (dn:t.f.part=(k:Int)) (fH:Zi1 m=0) (hd:(o.data.length:Int)=ZbX m) (ht:t.ok) (hp:pre.length < 1000) :
  CTH Tryz.prog (gl L) 58 1 (MH m 0 0 o (pre++[t]) N) [.ptr 0 0,.agg i.d] (RQ m (Zr3 m[k] i o (pre.map Fr.f) t.f)):=by
 have hw:=ht.2
 suffices H:∀r:R,Zr3 m[k] i o (pre.map Fr.f) t.f=r->CTH Tryz.prog (gl L) 58 1 (MH m 0 0 o (pre++[t]) N) [.ptr 0 0,.agg i.d] (RQ m r) from H _ rfl
 intro r hr;have uT:∀(ws:List Int) (v:Value),ws.length<=40->(t.ww ws v).ok:=λws v h=>⟨ht.1,h⟩;refine Za4 [] hT hF hM Tryz.func58 rfl 69 rfl (by kernel_rfl) [.tmp 4] rfl [.ptr 0 0,.agg i.d] rfl (MH m 0 0 o (pre++[t]) N) [0] rfl rfl rfl 1 [] trivial _ ?_;refine ⟨λh6=>?_,λh6=>?_⟩
 ·refine Ze9 (n:=1) [.blk i.d 135] ht hp (by decide) rfl rfl (λhl=>?_) (λv' hl=>?_)
  ·refine ⟨some 9999,[7,14],rfl,?_⟩;refine ⟨rfl,.inl (ZaZ (.g (.int 4)) (Zce 0 1 2 3 4 5) rfl rfl rfl (.inl rfl) rfl rfl rfl rfl rfl (Yap _) trivial ?_)⟩;rw[<- hr];unfold Zr3;rw[if_pos h6,if_pos hl];exact ⟨_,_,rfl⟩
  ·obtain ⟨q,hlen⟩:∃q,t.f.ws.length=q+1:=⟨t.f.ws.length - 1,by omega⟩;obtain ⟨x,hx,k7⟩:=ZjH hlen;have cm:t.f.off 1=[x]:=by unfold PF.off;rw[hlen];exact hx
   rw[show t.f.ws.length - 1=q from by omega,hx];have ax:Zr3 m[k] i o (pre.map Fr.f) t.f=if Zmd m[k] x then .go o (pre.map Fr.f++[t.f.ww ((t.f.on 1).ws++[o.data.getD x.toNat 0])]) else .stop 4 0 o:=by unfold Zr3;rw[if_pos h6,if_neg (by omega),cm];rfl
   rw[ax] at hr;refine ⟨some 9999,[7,14],rfl,?_⟩;refine ⟨0,[.int x],rfl,rfl,?_⟩;refine Zu8 (t:=t.ww (t.f.ws.take q) v') [.blk i.d 135] hk dn hp rfl rfl ?_;refine ⟨λho=>?_,λho=>?_⟩
   ·refine ⟨rfl,.inl (ZaZ (.g (.int 4)) (Zce 0 1 2 3 4 5) rfl rfl rfl (.inl rfl) rfl rfl rfl rfl rfl (Yap _) trivial ?_)⟩;rw[<- hr,if_neg ho];exact ⟨_,_,rfl⟩
   ·obtain ⟨n,nH,hn⟩:=ZqC fH hd hk ho;have dx:D.g (.int x)=D.g (.int (n:Int)):=by rw[nH]
    rw[if_pos ho] at hr;have mP:(o.data.map ZaU).length=o.data.length:=Yaa _;refine ⟨0,[.int x],rfl,rfl,?_⟩;refine ⟨n,dx,by omega,?_⟩;refine ⟨_,gm hn,?_⟩;refine Zge (t:=t.ww (t.f.ws.take q) v') [.blk i.d 135] (uT _ _ (by simp;omega)) hp rfl rfl (λcI=>?_) (λv2 cI=>?_)
    ·exfalso;simp[Fr.ww] at cI;omega
    refine ⟨rfl,.inl (ZaZ (.g (.int 0)) (Zce 0 1 2 3 4 5) rfl rfl rfl (.inl rfl) rfl rfl rfl rfl rfl (Yap _) trivial ?_)⟩;rw[<- hr];refine ⟨_,_,?_,rfl⟩;rw[Yaf];show _++[t.f.ww (t.f.ws.take q++[o.data[n]])]=_++[t.f.ww (t.f.ws.take (t.f.ws.length - 1)++[_])];rw[show t.f.ws.length - 1=q from by omega];simp[hn,nH]
 ·refine Ze9 (n:=2) [.blk i.d 135] ht hp (by decide) rfl rfl (λhl=>?_) (λv' hl=>?_)
  ·refine ⟨rfl,.inl (ZaZ (.g (.int 4)) (Zce 0 1 2 3 4 5) rfl rfl rfl (.inl rfl) rfl rfl rfl rfl rfl (Yap _) trivial ?_)⟩;rw[<- hr];unfold Zr3;rw[if_neg h6,if_pos hl];exact ⟨_,_,rfl⟩
  ·obtain ⟨q,hlen⟩:∃q,t.f.ws.length=q+2:=⟨t.f.ws.length - 2,by omega⟩;obtain ⟨x,y,hx,k7⟩:=Zt4 hlen;have cm:t.f.off 2=[x,y]:=by unfold PF.off;rw[hlen];exact hx
   rw[show t.f.ws.length - 2=q from by omega,hx];have ax:Zr3 m[k] i o (pre.map Fr.f) t.f=if Zmd m[k] x then .go { o with data:=o.data.set x.toNat y } (pre.map Fr.f++[t.f.on 2]) else .stop 4 0 o:=by unfold Zr3;rw[if_neg h6,if_neg (by omega),cm];rfl
   rw[ax] at hr;refine ⟨0,[.int x],rfl,rfl,?_⟩;refine Zu8 (t:=t.ww (t.f.ws.take q) v') [.blk i.d 135] hk dn hp rfl rfl ?_;refine ⟨λho=>?_,λho=>?_⟩
   ·refine ⟨rfl,.inl (ZaZ (.g (.int 4)) (Zce 0 1 2 3 4 5) rfl rfl rfl (.inl rfl) rfl rfl rfl rfl rfl (Yap _) trivial ?_)⟩;rw[<- hr,if_neg ho];exact ⟨_,_,rfl⟩
   ·obtain ⟨n,nH,hn⟩:=ZqC fH hd hk ho;have dx:D.g (.int x)=D.g (.int (n:Int)):=by rw[nH]
    rw[if_pos ho] at hr;have mP:(o.data.map ZaU).length=o.data.length:=Yaa _;refine ⟨none,rfl,?_⟩;refine ⟨0,[.int x],rfl,rfl,?_⟩;refine ⟨1,[.int y],rfl,rfl,?_⟩;refine ⟨n,dx,by omega,?_⟩;refine ⟨_,[.int y],gm hn,⟨rfl,trivial⟩,Yas 1,(λh=>by cases h),?_⟩;refine ⟨rfl,.inl (ZaZ (o:={ o with data:=o.data.set n y }) (.g (.int 0)) (Zce 0 1 2 3 4 5) rfl rfl rfl (.inl rfl) rfl ?_ rfl rfl rfl (Yap _) trivial ?_)⟩
    ·rw[List.map_set];rfl
    rw[<- hr,nH];refine ⟨_,_,?_,rfl⟩;rw[Yaf];show _++[t.f.ww (t.f.ws.take q)]=_++[t.f.ww (t.f.ws.take (t.f.ws.length - 2))];rw[show t.f.ws.length - 2=q from by omega]
end ZN
namespace Barb
open Go Go.Dm Go.Eng ZN
end Barb
namespace Barb
open Go Go.Dm Go.Eng
end Barb
namespace ZN
open Go Go.Dm Go.Eng Go.RowKit Barb
variable {L:Lv}
abbrev MHf (m:Zax) (e val:Int) (o:MO) (fs:List Fr) (N:Ns) (r:Zae):Zae :=
 .blk [.g (.sl 4 (m.map Part.g)),.g (.int e),.g (.int val),.row 3,.row 2,.row 4,.row (jx 5 r 5)] 97 :: .many (fs.map fz) [(N.d,2),(N.t,3),(N.c,4),(N.f,jx 5 r 5)] :: .row (o.data.map ZaU) 3 1 :: .row (o.told.map ZaU) 3 1 :: .row (o.calls.map Nt.g) 199 7 ::
  .dead :: (r++[.row (fs.map Fr.g) 141 12])
theorem ZCG (m m':Zax) (e e' val cR:Int) (o o':MO) (fs cQ:List Fr) (N N':Ns) (r:Zae):Ziy (MHr m e val o fs N r) [0,1,2,3,4,5] 5 (MH m' e' cR o' cQ N')=MHf m' e' cR o' cQ N' r:=by unfold Ziy;simp only[Yan,YaI,ZrQ];rw[show (0+1+1+1+1+1+1:Nat)=0+6 from rfl,Zg3];rfl
abbrev MHt (m:Zax) (e val:Int) (o:MO) (fs:List Fr) (N:Ns) (r:Zae):Zae :=
 .blk [.g (.sl 4 (m.map Part.g)),.g (.int e),.g (.int val),.row (jx 1 r 3),.row (jx 1 r 2),.row (jx 1 r 4),.row (jx 1 r 5)] 97 :: .dead :: .dead :: .dead :: .dead :: .dead ::
  (r++[.many (fs.map fz) [(N.d,jx 1 r 2),(N.t,jx 1 r 3),(N.c,jx 1 r 4),(N.f,jx 1 r 5)],.row (o.data.map ZaU) 3 1,.row (o.told.map ZaU) 3 1,.row (o.calls.map Nt.g) 199 7,.row (fs.map Fr.g) 141 12])
theorem ZB6 (m m':Zax) (e e' val cR:Int) (o o':MO) (fs cQ:List Fr) (N N':Ns) (r:Zae):Ziy (MHr m e val o fs N r) [0,1,2,3,4,5] 1 (MH m' e' cR o' cQ N')=MHt m' e' cR o' cQ N' r:=by unfold Ziy;simp only[Yan,YaI,ZrQ];rw[show (0+1+1+1+1+1+1:Nat)=0+6 from rfl,Zg3];rfl
theorem Ztf (m:Zax) (e val:Int) (o:MO) (fs:List Fr) (N:Ns) (r:Zae) (l:List D) (hn:l.map (conv (MHr m e val o fs N r) (Zce 0 1 2 3 4 5) 4)=l):TurnTo (MHr m e val o fs N r) (Zce 0 1 2 3 4 5) (.ptr 0 0 :: l) (MH m e val o fs N) (.ptr 0 0 :: l) :=
 ⟨rfl,.inl rfl,.inl (by rw[Yan,hn];rfl),rfl⟩
theorem Zok {all:List D} {h:Zae} {K Qp:KD} {m:Zax} {e val:Int} {o:MO} {fs:List Fr} {N:Ns} {part at_ noted:Int} {args:List Int} (r:Zae) (hf:fs.length<=20)
  (hh:h=MHr m e val o fs N r) (ha:all=[.ptr 0 0,.g (.int part),.g (.int at_),.g (.int noted),.g (.sl 1 (args.map ZaU))])
  (bK:fs.length=20->K (.g (.int 5)) (MHf m e val o fs N r))
  (cl:∀f,¬fs.length=20->K (.g (.int 0)) (MHf m e val o (fs++[Znv part at_ noted args]) (N.withF f) r)) :
  fnOk Tryz.prog 31=true/\(Zdh Tryz.prog (gl L) 31 all h K Qp\/ZcH Tryz.prog (gl L) 31 all h K Qp):=by
 subst hh;subst ha;refine Zag [0,1,2,3,4,5] Zms rfl rfl (Ztf _ _ _ _ _ _ _ _ rfl) (Zn8 m e val o fs N part at_ noted args hf) (λd' h' hq=>?_) (λd' h' hq=>?_)
 ·unfold Zj5 at hq;split at hq
  ·injection hq with e1 e2;subst e1;subst e2;rw[ZCG];exact bK (by assumption)
  ·obtain ⟨v',hq⟩:=hq;injection hq with e1 e2;subst e1;subst e2;rw[ZCG];exact cl v' (by assumption)
 ·unfold Zj5 at hq;split at hq
  ·cases hq
  ·obtain ⟨v',hq⟩:=hq;cases hq
theorem Zvo {m:Zax} {x:R} {out:Out} (h:RQ m x out):∃c v o gs N,out=.ret (.g (.int c)) (MH m 0 v o gs N):=by
 cases x with
 | go o fs=>obtain ⟨gs,N,_,h⟩:=h;exact ⟨_,_,_,_,_,h⟩
 | stop c v o=>obtain ⟨gs,N,h⟩:=h;exact ⟨_,_,_,_,_,h⟩
theorem ZfO {g:FuncId} (hg:fnOk Tryz.prog g=true) {l all:List D} {h:Zae} {K Qp:KD} {m:Zax} {e val:Int} {o:MO} {fs:List Fr} {N:Ns} {x:R} (r:Zae)
  (ff:CTH Tryz.prog (gl L) g 1 (MH m e val o fs N) (.ptr 0 0 :: l) (RQ m x)) (hn:l.map (conv (MHr m e val o fs N r) (Zce 0 1 2 3 4 5) 4)=l) (hl:ZgK (MHr m e val o fs N r) [0,1,2,3,4,5] (.ptr 0 0 :: l)=true)
  (hh:h=MHr m e val o fs N r) (ha:all=.ptr 0 0 :: l)
  (cl:∀c v o' gs N',RQ m x (.ret (.g (.int c)) (MH m 0 v o' gs N'))->K (.g (.int c)) (MHt m 0 v o' gs N' r)) :
  fnOk Tryz.prog g=true/\(Zdh Tryz.prog (gl L) g all h K Qp\/ZcH Tryz.prog (gl L) g all h K Qp):=by
 subst hh;subst ha;refine Zag [0,1,2,3,4,5] hg hl rfl (Ztf _ _ _ _ _ _ _ _ hn) ff (λd' h' hq=>?_) (λd' h' hq=>?_)
 ·obtain ⟨c,v,o',gs,N',he⟩:=Zvo hq;injection he with e1 e2;subst e1;subst e2;rw[ZB6];exact cl c v o' gs N' hq
 ·obtain ⟨c,v,o',gs,N',he⟩:=Zvo hq;cases he
set_option maxRecDepth 20000 in
theorem Zr1 (m:Zax) (o:MO) (pre:List Fr) (t:Fr) (N:Ns) (i:Instr) (hi:Zbz i=0) (_hop:i.op=1\/i.op=2\/i.op=3\/i.op=4\/i.op=5\/i.op=8\/i.op=14) (yj:o.told.length<=500) (ht:t.ok) (hp:pre.length < 1000) :
  CTH Tryz.prog (gl L) 60 1 (MH m 0 0 o (pre++[t]) N) [.ptr 0 0,.agg i.d] (RQ m (ZmN i o (pre.map Fr.f) t.f)):=by
 have hw:=ht.2;obtain ⟨i1,i2,i3,i4,i5,i6,i7,i8,i9⟩:=ZeG hi
 suffices H:∀r:R,ZmN i o (pre.map Fr.f) t.f=r->CTH Tryz.prog (gl L) 60 1 (MH m 0 0 o (pre++[t]) N) [.ptr 0 0,.agg i.d] (RQ m r) from H _ rfl
 intro r hr;have js:∀{d:D} {gs:List Fr} {N':Ns} {o':MO} {fs:List PF},ZmN i o (pre.map Fr.f) t.f=.go o' fs->gs.map Fr.f=fs->d=.g (.int 0)->RQ m r (.ret d (MH m 0 0 o' gs N')):=λh1 h2 h3=>by subst h3;rw[<- hr,h1];exact ⟨_,_,h2,rfl⟩
 have bad:∀{c v:Int} {gs:List Fr} {N':Ns},ZmN i o (pre.map Fr.f) t.f=.stop c v o->RQ m r (.ret (.g (.int c)) (MH m 0 v o gs N')):=λh1=>by rw[<- hr,h1];exact ⟨_,_,rfl⟩
 have b9:∀(x:Fr),(pre++[x]).map Fr.f=pre.map Fr.f++[x.f]:=λx=>by rw[Yaf];rfl
 refine Za4 [] hT hF hM Tryz.func60 rfl 117 rfl (by kernel_rfl) [.tmp 4] rfl [.ptr 0 0,.agg i.d] rfl (MH m 0 0 o (pre++[t]) N) [0] rfl rfl rfl 1 [] trivial _ ?_;refine ⟨λh1=>?_,λh1=>?_⟩
 ·refine ⟨λh4=>absurd h4 (by omega),λ_=>?_⟩;refine Zge [.blk i.d 135] ht hp rfl rfl (λcI=>?_) (λv' cI=>?_)
  ·refine ⟨rfl,.inl (ZaZ (.g (.int 4)) (Zce 0 1 2 3 4 5) rfl rfl rfl (.inl rfl) rfl rfl rfl rfl rfl (Yap _) trivial (bad ?_))⟩;unfold ZmN Zgj;rw[if_pos h1,if_pos cI]
  ·refine ⟨rfl,.inl (ZaZ (.g (.int 0)) (Zce 0 1 2 3 4 5) rfl rfl rfl (.inl rfl) rfl rfl rfl rfl rfl (Yap _) trivial (js ?_ (b9 _) rfl))⟩;unfold ZmN Zgj;rw[if_pos h1,if_neg cI];rfl
 refine ⟨λh4=>?_,λh4=>?_⟩
 ·refine ⟨λ_=>?_,λh=>absurd h4 h⟩;obtain ⟨a,ha⟩:∃a:Nat,i.a=(a:Int):=⟨i.a.toNat,by omega⟩;have o8:a < 8:=by have:bdA 4=7:=rfl;rw[h4] at i4;omega
  have bn:a < t.f.locs.length:=by rw[ht.1];exact o8
  refine ⟨none,rfl,?_⟩;refine ⟨Zgn,_,λh' hx=>Zgm (hx _ _ rfl) rfl (hx _ _ rfl) (n:=pre.length) (by simp) (by omega),?_⟩;refine ⟨a,congrArg (λz=>D.g (.int z)) ha,o8,?_⟩;refine ⟨_,Zbo Fr.g pre t,ZcI rfl (Fr.g_at2 ht.1 (Yak bn)) ?_⟩;have hg:t.f.locs.getD i.a.toNat 0=t.f.locs[a]:=by rw[ha];simp[bn]
  refine Zge [.blk i.d 135] ht hp rfl rfl (λcI=>?_) (λv' cI=>?_)
  ·refine ⟨rfl,.inl (ZaZ (.g (.int 4)) (Zce 0 1 2 3 4 5) rfl rfl rfl (.inl rfl) rfl rfl rfl rfl rfl (Yap _) trivial (bad ?_))⟩;unfold ZmN Zgj;rw[if_neg h1,if_pos h4,if_pos cI]
  ·refine ⟨rfl,.inl (ZaZ (.g (.int 0)) (Zce 0 1 2 3 4 5) rfl rfl rfl (.inl rfl) rfl rfl rfl rfl rfl (Yap _) trivial (js ?_ (b9 _) rfl))⟩;unfold ZmN Zgj;rw[if_neg h1,if_pos h4,if_neg cI,hg];rfl
 refine ⟨λh8=>?_,λh8=>?_⟩
 ·have e:ZmN i o (pre.map Fr.f) t.f=if t.f.ws.length < 2 then .stop 4 0 o else .go o (pre.map Fr.f++[t.f.ww ((t.f.on 2).ws++[doI i.a ((t.f.off 2).getD 0 0) ((t.f.off 2).getD 1 0)])]):=by unfold ZmN;rw[if_neg h1,if_neg h4];simp only[h8,if_true];rfl
  refine Ze9 (n:=2) [.blk i.d 135] ht hp (by decide) rfl rfl (λhl=>?_) (λv' hl=>?_)
  ·refine ⟨rfl,.inl (ZaZ (.g (.int 4)) (Zce 0 1 2 3 4 5) rfl rfl rfl (.inl rfl) rfl rfl rfl rfl rfl (Yap _) trivial (bad ?_))⟩;rw[e,if_pos hl]
  ·obtain ⟨q,hlen⟩:∃q,t.f.ws.length=q+2:=⟨t.f.ws.length - 2,by omega⟩;obtain ⟨x,y,hx,k7⟩:=Zt4 hlen;have cm:t.f.off 2=[x,y]:=by unfold PF.off;rw[hlen];exact hx
   rw[if_neg (by omega),cm] at e;rw[show t.f.ws.length - 2=q from by omega,hx];refine ⟨λh=>absurd h (by omega),λ_=>?_⟩;refine ⟨λh=>absurd h (by omega),λ_=>?_⟩;refine ⟨λh=>absurd h (by omega),λ_=>?_⟩;refine ⟨λ_=>?_,λh=>absurd h8 h⟩;refine ⟨none,rfl,?_⟩;refine ⟨0,[.int x],rfl,rfl,?_⟩;refine ⟨1,[.int y],rfl,rfl,?_⟩;refine ⟨_,_,.inl rfl,Zx8 i.a x y,rfl,?_⟩;refine Zge (t:=t.ww (t.f.ws.take q) v') [.blk i.d 135] ⟨ht.1,by simp[Fr.ww];omega⟩ hp rfl rfl (λcI=>?_) (λv2 cI=>?_)
   ·exfalso;simp[Fr.ww] at cI;omega
   refine ⟨rfl,.inl (ZaZ (.g (.int 0)) (Zce 0 1 2 3 4 5) rfl rfl rfl (.inl rfl) rfl rfl rfl rfl rfl (Yap _) trivial (js e ?_ rfl))⟩;rw[b9];show _++[t.f.ww (t.f.ws.take q++[_])]=_++[t.f.ww (t.f.ws.take (t.f.ws.length - 2)++[_])];rw[show t.f.ws.length - 2=q from by omega];rfl
 have e:ZmN i o (pre.map Fr.f) t.f=if t.f.ws.length < 1 then .stop 4 0 o else
   if i.op=3 then if t.f.ws.length=40 then .stop 4 0 o else .go o (pre.map Fr.f++[t.f.ww (t.f.ws++[(t.f.off 1).getD 0 0])])
   else if i.op=5 then .go o (pre.map Fr.f++[{ t.f.on 1 with locs:=t.f.locs.set i.a.toNat ((t.f.off 1).getD 0 0) }])
   else if i.op=14 then if o.told.length=500 then .stop 6 0 o else .go { o with told:=o.told++[(t.f.off 1).getD 0 0] } (pre.map Fr.f++[t.f.on 1])
   else .go o (pre.map Fr.f++[t.f.on 1]):=by unfold ZmN;rw[if_neg h1,if_neg h4];simp only[h8,if_false]
 refine Ze9 (n:=1) [.blk i.d 135] ht hp (by decide) rfl rfl (λhl=>?_) (λv' hl=>?_)
 ·refine ⟨rfl,.inl (ZaZ (.g (.int 4)) (Zce 0 1 2 3 4 5) rfl rfl rfl (.inl rfl) rfl rfl rfl rfl rfl (Yap _) trivial (bad ?_))⟩;rw[e,if_pos hl]
 obtain ⟨q,hlen⟩:∃q,t.f.ws.length=q+1:=⟨t.f.ws.length - 1,by omega⟩;obtain ⟨x,hx,k7⟩:=ZjH hlen;have cm:t.f.off 1=[x]:=by unfold PF.off;rw[hlen];exact hx
 have oa:t.f.on 1=t.f.ww (t.f.ws.take q):=by unfold PF.on;rw[show t.f.ws.length - 1=q from by omega]
 rw[if_neg (by omega),cm,oa] at e;rw[show t.f.ws.length - 1=q from by omega,hx];refine ⟨λh3=>?_,λh3=>?_⟩
 ·rw[if_pos h3] at e;refine ⟨0,[.int x],rfl,rfl,?_⟩;refine Zge (t:=t.ww (t.f.ws.take q) v') [.blk i.d 135] ⟨ht.1,by simp[Fr.ww];omega⟩ hp rfl rfl (λcI=>?_) (λv2 cI=>?_)
  ·exfalso;simp[Fr.ww] at cI;omega
  refine ⟨0,[.int x],rfl,rfl,?_⟩;have mS:(t.f.ws.take q++[x]).length=t.f.ws.length:=by simp;omega
  refine Zge (t:=(t.ww (t.f.ws.take q) v').ww (t.f.ws.take q++[x]) v2) [.blk i.d 135] ⟨ht.1,by show (t.f.ws.take q++[x]).length<=40;omega⟩ hp rfl rfl (λcI=>?_) (λv3 cI=>?_)
  ·refine ⟨rfl,.inl (ZaZ (.g (.int 4)) (Zce 0 1 2 3 4 5) rfl rfl rfl (.inl rfl) rfl rfl rfl rfl rfl (Yap _) trivial (bad ?_))⟩;rw[e,if_pos (by rw[<- mS];exact cI)]
  ·refine ⟨rfl,.inl (ZaZ (.g (.int 0)) (Zce 0 1 2 3 4 5) rfl rfl rfl (.inl rfl) rfl rfl rfl rfl rfl (Yap _) trivial (js (e.trans (if_neg (by rw[<- mS];exact cI))) ?_ rfl))⟩;rw[b9];show _++[t.f.ww (t.f.ws.take q++[x]++[x])]=_++[t.f.ww (t.f.ws++[x])];rw[<- k7]
 refine ⟨λh5=>?_,λh5=>?_⟩
 ·rw[if_neg h3,if_pos h5] at e;obtain ⟨a,ha⟩:∃a:Nat,i.a=(a:Int):=⟨i.a.toNat,by omega⟩;have o8:a < 8:=by have:bdA 5=7:=rfl;rw[h5] at i4;omega
  refine ⟨none,rfl,?_⟩;refine ⟨Zgn,_,λh' hx=>Zgm (hx _ _ rfl) rfl (hx _ _ rfl) (n:=pre.length) (by simp) (by omega),?_⟩;refine ⟨0,[.int x],rfl,rfl,?_⟩;refine ⟨a,congrArg (λz=>D.g (.int z)) ha,o8,?_⟩;refine ⟨_,[.int x],Zbo Fr.g pre _,⟨rfl,trivial⟩,?_,(λh=>by cases h),?_⟩
  ·rw[Fr.g_len (x:=t.ww (t.f.ws.take q) v') ht.1];show 0+2+a*1+1<=12;omega
  refine ⟨rfl,.inl (ZaZ (fs:=pre++[Fr.mk { t.f.ww (t.f.ws.take q) with locs:=t.f.locs.set a x } v']) (.g (.int 0)) (Zce 0 1 2 3 4 5) rfl rfl rfl (.inl rfl) rfl rfl rfl rfl (ZfY Fr.g pre _ _ _ (Fr.g_set_loc2 (x:=t.ww (t.f.ws.take q) v') ht.1 o8 x).symm) ?_ trivial (js e ?_ rfl))⟩
  ·rw[Yaf,Yaf];exact Yap _
  ·rw[b9,ha];rfl
 refine ⟨λsL=>?_,λsL=>?_⟩
 ·rw[if_neg h3,if_neg h5,if_pos sL] at e;have aG:(o.told.map ZaU).length=o.told.length:=Yaa _;refine ⟨λsJ=>?_,λsJ=>?_⟩
  ·refine ⟨rfl,.inl (ZaZ (.g (.int 6)) (Zce 0 1 2 3 4 5) rfl rfl rfl (.inl rfl) rfl rfl rfl rfl rfl (Yap _) trivial (bad ?_))⟩;rw[e,if_pos (by omega)]
  ·refine ⟨some 9998,[14],rfl,?_⟩;refine ⟨0,[.int x],rfl,rfl,?_⟩;refine ⟨[[.int x]],rfl,rfl,⟨rfl,trivial⟩,⟨_,rfl⟩,?_⟩;refine ⟨⟨by simp[maxLen];omega,by simp;omega⟩,?_⟩;refine .inr (ZdU 1 8 (λv=>[(N.d,2),(v,8),(N.c,4),(N.f,5)]) rfl rfl (λv t ht=>?_) (λv2=>ZiC ?_))
   ·simp only[Yav,Ya4,or_false] at ht ⊢;rcases ht with rfl | rfl | rfl | rfl<;>simp
   refine ⟨rfl,.inl (ZaZ (o:={ o with told:=o.told++[x] }) (N:=⟨N.d,v2,N.c,N.f⟩) (.g (.int 0)) (Zce 0 1 2 8 4 5) rfl rfl rfl (.inl rfl) rfl rfl ?_ rfl rfl (Yap _) trivial (js (e.trans (if_neg (by omega))) (b9 _) rfl))⟩;rw[Yaf];rfl
 ·rw[if_neg h3,if_neg h5,if_neg sL] at e;refine ⟨λh=>absurd h h8,λ_=>?_⟩;exact ⟨rfl,.inl (ZaZ (.g (.int 0)) (Zce 0 1 2 3 4 5) rfl rfl rfl (.inl rfl) rfl rfl rfl rfl rfl (Yap _) trivial (js e (b9 _) rfl))⟩
end ZN
namespace Barb
open Go Go.Dm Go.Eng
end Barb
namespace ZN
open Go Go.Dm Go.Eng Go.RowKit Barb
variable {L:Lv}
theorem ZsA {all:List D} {h:Zae} {K Qp:KD} {m:Zax} {o:MO} {nt:Nt} {fs:List Fr} {N:Ns} {part at_:Int} {args:List Int} (x6 x7:Dm.Obj) (hf:fs.length<=20)
  (hh:h=[.blk [.g (.sl 4 (m.map Part.g)),.g (.int 0),.g (.int 0),.row 3,.row 2,.row 8,.row 5] 97,.many (fs.map fz) [(N.d,2),(N.t,3),(N.c,8),(N.f,5)],.row (o.data.map ZaU) 3 1,.row (o.told.map ZaU) 3 1,.dead,.row (fs.map Fr.g) 141 12,x6,x7,.row (o.calls.map Nt.g++[Nt.g nt]) 199 7])
  (ha:all=[.ptr 0 0,.g (.int part),.g (.int at_),.g (.int ((o.calls.map Nt.g).length:Nat)),.g (.sl 1 (args.map ZaU))])
  (bK:fs.length=20->K (.g (.int 5)) [.blk [.g (.sl 4 (m.map Part.g)),.g (.int 0),.g (.int 0),.row 3,.row 2,.row 8,.row 9] 97,.many (fs.map fz) [(N.d,2),(N.t,3),(N.c,8),(N.f,9)],.row (o.data.map ZaU) 3 1,.row (o.told.map ZaU) 3 1,.dead,.dead,x6,x7,.row (({ o with calls:=o.calls++[nt] }:MO).calls.map Nt.g) 199 7,.row (fs.map Fr.g) 141 12])
  (cl:∀f,¬fs.length=20->K (.g (.int 0)) [.blk [.g (.sl 4 (m.map Part.g)),.g (.int 0),.g (.int 0),.row 3,.row 2,.row 8,.row 9] 97,.many ((fs++[Znv part at_ ((o.calls.map Nt.g).length:Nat) args]).map fz) [(N.d,2),(N.t,3),(N.c,8),(f,9)],.row (o.data.map ZaU) 3 1,.row (o.told.map ZaU) 3 1,.dead,.dead,x6,x7,.row (({ o with calls:=o.calls++[nt] }:MO).calls.map Nt.g) 199 7,.row ((fs++[Znv part at_ ((o.calls.map Nt.g).length:Nat) args]).map Fr.g) 141 12]) :
  fnOk Tryz.prog 31=true/\(Zdh Tryz.prog (gl L) 31 all h K Qp\/ZcH Tryz.prog (gl L) 31 all h K Qp):=by
 have ec:o.calls.map Nt.g++[Nt.g nt]=({ o with calls:=o.calls++[nt] }:MO).calls.map Nt.g:=by rw[Yaf];rfl
 rw[ec] at hh;subst hh;subst ha;refine Zag [0,1,2,3,8,5] Zms rfl rfl ⟨rfl,.inl rfl,.inl rfl,rfl⟩ (Zn8 m 0 0 { o with calls:=o.calls++[nt] } fs N part at_ ((o.calls.map Nt.g).length:Nat) args hf) (λd' h' hq=>?_) (λd' h' hq=>?_)
 ·unfold Zj5 at hq;split at hq
  ·injection hq with e1 e2;subst e1;subst e2;exact bK (by assumption)
  ·obtain ⟨v',hq⟩:=hq;injection hq with e1 e2;subst e1;subst e2;exact cl v' (by assumption)
 ·unfold Zj5 at hq;split at hq
  ·cases hq
  ·obtain ⟨v',hq⟩:=hq;cases hq
set_option maxRecDepth 20000 in
set_option maxHeartbeats 1000000 in
theorem ZwV (m:Zax) (o:MO) (pre:List Fr) (t:Fr) (N:Ns) (i:Instr) (hi:Zbz i=0) (bj:i.op=12) (_himg:Zi1 m=0) (hc:o.calls.length<=100) (ht:t.ok) (hp:pre.length < 20) :
  CTH Tryz.prog (gl L) 91 1 (MH m 0 0 o (pre++[t]) N) [.ptr 0 0,.agg i.d] (RQ m (ZiF m i o (pre.map Fr.f) t.f)):=by
 have hw:=ht.2;obtain ⟨i1,i2,i3,i4,i5,i6,i7,i8,i9⟩:=ZeG hi
 suffices H:∀r:R,ZiF m i o (pre.map Fr.f) t.f=r->CTH Tryz.prog (gl L) 91 1 (MH m 0 0 o (pre++[t]) N) [.ptr 0 0,.agg i.d] (RQ m r) from H _ rfl
 intro r hr;have bad:∀{c v:Int} {o':MO} {gs:List Fr} {N':Ns},ZiF m i o (pre.map Fr.f) t.f=.stop c v o'->RQ m r (.ret (.g (.int c)) (MH m 0 v o' gs N')):=λh1=>by rw[<- hr,h1];exact ⟨_,_,rfl⟩
 have wU:bdA 12=4:=rfl;have wS:bdC 12=4:=rfl;have xC:bdB 12=7:=rfl;rw[bj] at i4 i6 i8;obtain ⟨a,ha⟩:∃a:Nat,i.a=(a:Int):=⟨i.a.toNat,by omega⟩;obtain ⟨b,hb⟩:∃b:Nat,i.b=(b:Int):=⟨i.b.toNat,by omega⟩;obtain ⟨c,gL⟩:∃c:Nat,i.c=(c:Int):=⟨i.c.toNat,by omega⟩;have lm:(m.map Part.g).length=m.length:=Yaa _;refine Za4 [] hT hF hM Tryz.func91 rfl 125 rfl (by kernel_rfl) [.tmp 4] rfl [.ptr 0 0,.agg i.d] rfl (MH m 0 0 o (pre++[t]) N) [0] rfl rfl rfl 1 [] trivial _ ?_;refine Ze9 (n:=c) [.blk i.d 135] ht (by omega) (by omega) rfl (congrArg (λz=>[D.ptr 0 0,D.g (.int z)]) gL) (λhl=>?_) (λv' hl=>?_)
 ·refine ⟨none,rfl,?_⟩;refine ⟨rfl,.inl (ZaZ (.g (.int 4)) (Zce 0 1 2 3 4 5) rfl rfl rfl (.inl rfl) rfl rfl rfl rfl rfl (Yap _) trivial (bad ?_))⟩;unfold ZiF;rw[if_pos (by rw[gL];exact hl)]
 have e0:ZiF m i o (pre.map Fr.f) t.f=if Zeo m i then .stop 4 0 o else
   let e:=(m.getD i.a.toNat Zc3).entries.getD i.b.toNat ZeY
   let l:=t.f.off i.c.toNat
   if o.calls.length < 100 then ZdB { o with calls:=o.calls++[⟨t.f.part,i.a,i.b,l,((pre.map Fr.f).length+1:Nat),false,0⟩] } (pre.map Fr.f++[t.f.on i.c.toNat]) i.a e.at_ o.calls.length l
   else ZdB o (pre.map Fr.f++[t.f.on i.c.toNat]) i.a e.at_ (-1) l:=by unfold ZiF;rw[if_neg (by rw[gL];show ¬t.f.ws.length < c;omega)]
 refine ⟨none,rfl,?_⟩;refine ⟨λg1=>?_,λg1=>?_⟩
 ·refine ⟨rfl,.inl (ZaZ (.g (.int 4)) (Zce 0 1 2 3 4 5) rfl rfl rfl (.inl rfl) rfl rfl rfl rfl rfl (Yap _) trivial (bad ?_))⟩;rw[e0,if_pos (by unfold Zeo;left;omega)]
 have bn:a < m.length:=by omega
 have pO:m.getD i.a.toNat Zc3=m[a]:=by rw[ha];exact Zps bn _
 refine ⟨a,_,dI ha,gm bn,?_⟩;have le:(m[a].entries.map Entry.g).length=m[a].entries.length:=Yaa _;refine ⟨λg2=>?_,λg2=>?_⟩
 ·refine ⟨rfl,.inl (ZaZ (.g (.int 4)) (Zce 0 1 2 3 4 5) rfl rfl rfl (.inl rfl) rfl rfl rfl rfl rfl (Yap _) trivial (bad ?_))⟩;rw[e0,if_pos (by unfold Zeo;rw[pO];right;left;omega)]
 have fQ:b < m[a].entries.length:=by omega
 have rh:m[a].entries.getD i.b.toNat ZeY=m[a].entries[b]:=by rw[hb];exact Zps fQ _
 refine ⟨a,_,dI ha,gm bn,?_⟩;refine ⟨b,_,dI hb,gm fQ,?_⟩;refine ⟨λg3=>?_,λg3=>?_⟩
 ·refine ⟨rfl,.inl (ZaZ (.g (.int 4)) (Zce 0 1 2 3 4 5) rfl rfl rfl (.inl rfl) rfl rfl rfl rfl rfl (Yap _) trivial (bad ?_))⟩;rw[e0,if_pos (by unfold Zeo;rw[pO,rh];right;right;exact g3)]
 rw[if_neg (by unfold Zeo;rw[pO,rh];omega),pO,rh] at e0;have cm:t.f.off i.c.toNat=t.f.ws.drop (t.f.ws.length - c):=by unfold PF.off;rw[gL];rfl
 have oa:t.f.on i.c.toNat=t.f.ww (t.f.ws.take (t.f.ws.length - c)):=by unfold PF.on;rw[gL];rfl
 rw[cm,oa] at e0;dsimp only at e0;have lc:(o.calls.map Nt.g).length=o.calls.length:=Yaa _;have lf:∀x:Fr,(pre.map Fr.f++[t.f.ww (t.f.ws.take (t.f.ws.length - c))]).length=(pre++[x]).length:=λx=>by simp
 have b9:∀(x y:Fr),(pre++[x]++[y]).map Fr.f=pre.map Fr.f++[x.f]++[y.f]:=λx y=>by simp
 have uV:∀x:Fr,((((pre++[x]).map Fr.g).length:Nat):Int)=(((pre.map Fr.f).length+1:Nat):Int):=λx=>by simp
 have fh:∀(a b c d:Value × Nat) (t:Value × Nat),t∈[a,b,c,d]->t=a\/t=b\/t=c\/t=d:=λa b c d t ht=>by simpa using ht
 refine ⟨λg4=>?_,λg4=>?_⟩
 ·rw[if_pos (by omega),<- uV (t.ww (t.f.ws.take (t.f.ws.length - c)) v'),<- lc] at e0;refine ⟨some 9998,[27],rfl,?_⟩;refine ⟨Zgn,_,λh' hx=>Zgm (hx _ _ rfl) rfl (hx _ _ rfl) (n:=pre.length) (by simp) (by omega),?_⟩;refine ⟨_,Zbo Fr.g pre _,?_⟩;refine ⟨[Nt.g ⟨t.f.part,i.a,i.b,t.f.ws.drop (t.f.ws.length - c),(((pre++[t.ww (t.f.ws.take (t.f.ws.length - c)) v']).map Fr.g).length:Nat),false,0⟩],rfl,rfl,⟨rfl,rfl,rfl,rfl,rfl,rfl,rfl,trivial⟩,⟨_,rfl⟩,?_⟩;refine ⟨⟨by simp[maxLen];omega,by simp;omega⟩,?_⟩;refine .inr (ZdU 1 8 (λv=>[(N.d,2),(N.t,3),(v,8),(N.f,5)]) rfl rfl (λv t ht=>?_) (λv2=>ZiC ?_))
  ·rcases fh _ _ _ _ _ ht with rfl | rfl | rfl | rfl<;>simp
  refine ⟨some 9999,[20],rfl,?_⟩;refine ⟨a,_,dI ha,gm bn,?_⟩;refine ⟨b,_,dI hb,gm fQ,?_⟩;refine ZsA (o:=o) (nt:=⟨t.f.part,i.a,i.b,t.f.ws.drop (t.f.ws.length - c),(((pre++[t.ww (t.f.ws.take (t.f.ws.length - c)) v']).map Fr.g).length:Nat),false,0⟩) (fs:=pre++[(t.ww (t.f.ws.take (t.f.ws.length - c)) v')]) (N:=⟨N.d,N.t,v2,N.f⟩) (args:=t.f.ws.drop (t.f.ws.length - c)) (.blk i.d 135) (.row [Nt.g ⟨t.f.part,i.a,i.b,t.f.ws.drop (t.f.ws.length - c),(((pre++[t.ww (t.f.ws.take (t.f.ws.length - c)) v']).map Fr.g).length:Nat),false,0⟩] 199 7) (by simp;omega) rfl rfl (λjr=>?_) (λf2 jr=>?_)
  ·refine ⟨rfl,.inl (ZaZ (o:={ o with calls:=o.calls++[⟨t.f.part,i.a,i.b,t.f.ws.drop (t.f.ws.length - c),(((pre++[t.ww (t.f.ws.take (t.f.ws.length - c)) v']).map Fr.g).length:Nat),false,0⟩] }) (N:=⟨N.d,N.t,v2,N.f⟩) (.g (.int 5)) (Zce 0 1 2 3 8 9) rfl rfl rfl (.inl rfl) rfl rfl rfl rfl rfl (Yap _) trivial (bad ?_))⟩;rw[e0];unfold ZdB;rw[if_pos ((lf _).trans jr)]
  ·refine ⟨rfl,.inl (ZaZ (o:={ o with calls:=o.calls++[⟨t.f.part,i.a,i.b,t.f.ws.drop (t.f.ws.length - c),(((pre++[t.ww (t.f.ws.take (t.f.ws.length - c)) v']).map Fr.g).length:Nat),false,0⟩] }) (N:=⟨N.d,N.t,v2,f2⟩) (.g (.int 0)) (Zce 0 1 2 3 8 9) rfl rfl rfl (.inl rfl) rfl rfl rfl rfl rfl (Yap _) trivial ?_)⟩;rw[<- hr,e0];unfold ZdB;rw[if_neg (λh=>jr ((lf _).symm.trans h))];exact ⟨_,_,b9 _ _,rfl⟩
 ·rw[if_neg (by omega)] at e0;refine ⟨some 9999,[20],rfl,?_⟩;refine ⟨a,_,dI ha,gm bn,?_⟩;refine ⟨b,_,dI hb,gm fQ,?_⟩;refine Zok (fs:=pre++[t.ww (t.f.ws.take (t.f.ws.length - c)) v']) (args:=t.f.ws.drop (t.f.ws.length - c)) [.blk i.d 135] (by simp;omega) rfl rfl (λjr=>?_) (λf2 jr=>?_)
  ·refine ⟨rfl,.inl (ZaZ (.g (.int 5)) (Zce 0 1 2 3 4 7) rfl rfl rfl (.inl rfl) rfl rfl rfl rfl rfl (Yap _) trivial (bad ?_))⟩;rw[e0];unfold ZdB;rw[if_pos ((lf _).trans jr)]
  ·refine ⟨rfl,.inl (ZaZ (N:=N.withF f2) (.g (.int 0)) (Zce 0 1 2 3 4 7) rfl rfl rfl (.inl rfl) rfl rfl rfl rfl rfl (Yap _) trivial ?_)⟩;rw[<- hr,e0];unfold ZdB;rw[if_neg (λh=>jr ((lf _).symm.trans h))];exact ⟨_,_,b9 _ _,rfl⟩
end ZN
namespace Go.Dm
open Go Go.Eng Go.RowKit
end Go.Dm
namespace Barb
open Go Go.Dm Go.Eng
end Barb
namespace ZN
open Go Go.Dm Go.Eng Go.RowKit Barb
variable {L:Lv}
theorem Zoh {all:List D} {h:Zae} {K Qp:KD} {m:Zax} {e val:Int} {o:MO} {pre:List Fr} {t:Fr} {N:Ns} {n:Int} (ht:t.ok) (hp:pre.length < 1000)
  (hh:h=MHf m e val o (pre++[t]) N []) (ha:all=[.ptr 0 0,.g (.int n)])
  (bK:t.f.ws.length=40->K (.g (.bool false)) (MHf m e val o (pre++[t]) N []))
  (cl:∀v',¬t.f.ws.length=40->K (.g (.bool true)) (MHf m e val o (pre++[t.ww (t.f.ws++[n]) v']) N [])) :
  fnOk Tryz.prog 90=true/\(Zdh Tryz.prog (gl L) 90 all h K Qp\/ZcH Tryz.prog (gl L) 90 all h K Qp):=by
 subst hh;subst ha;refine Zag [0,1,2,3,4,6] ZtS rfl rfl ⟨rfl,.inl rfl,.inl rfl,rfl⟩ (Zqb m e val o pre t N n ht hp) (λd' h' hq=>?_) (λd' h' hq=>?_)
 ·unfold Zo9 at hq;split at hq
  ·injection hq with e1 e2;subst e1;subst e2;exact bK (by assumption)
  ·obtain ⟨v',hq⟩:=hq;injection hq with e1 e2;subst e1;subst e2;exact cl v' (by assumption)
 ·unfold Zo9 at hq;split at hq
  ·cases hq
  ·obtain ⟨v',hq⟩:=hq;cases hq
set_option maxRecDepth 20000 in
set_option maxHeartbeats 1000000 in
theorem ZyW (m:Zax) (o:MO) (t:Fr) (N:Ns) (ht:t.ok)  (hn:t.f.noted < o.calls.length) :
  CTH Tryz.prog (gl L) 92 1 (MH m 0 0 o (([]:List Fr)++[t]) N) [.ptr 0 0] (RQ m (Barb.retS o (([]:List Fr).map Fr.f) t.f)):=by
 have hw:=ht.2
 suffices H:∀r:R,Barb.retS o (([]:List Fr).map Fr.f) t.f=r->CTH Tryz.prog (gl L) 92 1 (MH m 0 0 o (([]:List Fr)++[t]) N) [.ptr 0 0] (RQ m r) from H _ rfl
 intro r hr;have bad:∀{c v:Int} {o':MO} {gs:List Fr} {N':Ns},Barb.retS o (([]:List Fr).map Fr.f) t.f=.stop c v o'->RQ m r (.ret (.g (.int c)) (MH m 0 v o' gs N')):=λh1=>by rw[<- hr,h1];exact ⟨_,_,rfl⟩
 refine Za4 [] hT hF hM Tryz.func92 rfl 72 rfl (by kernel_rfl) [.tmp 2] rfl [.ptr 0 0] rfl (MH m 0 0 o (([]:List Fr)++[t]) N) [0] rfl rfl rfl 1 [] trivial _ ?_;refine Ze9 (n:=1) (pre:=([]:List Fr)) [] ht (by decide) (by decide) rfl rfl (λhl=>?_) (λv' hl=>?_)
 ·refine ⟨rfl,.inl (ZaZ (.g (.int 4)) (Zce 0 1 2 3 4 5) rfl rfl rfl (.inl rfl) rfl rfl rfl rfl rfl (Yap _) trivial (bad ?_))⟩;unfold Barb.retS;rw[if_pos hl]
 obtain ⟨q,hlen⟩:∃q,t.f.ws.length=q+1:=⟨t.f.ws.length - 1,by omega⟩;obtain ⟨x,hx,k7⟩:=ZjH hlen;have cm:t.f.off 1=[x]:=by unfold PF.off;rw[hlen];exact hx
 have e0:Barb.retS o (([]:List Fr).map Fr.f) t.f=.stop 1 x (Zdu o t.f.noted x):=by unfold Barb.retS;rw[if_neg (by omega),cm];rfl
 rw[show t.f.ws.length - 1=q from by omega,hx];have lf:∀y:Fr,((([]:List Fr)++[y]).map Fr.g).length=([]:List Fr).length+1:=λy=>by simp
 have jO:∀y:Fr,(((([]:List Fr)++[y]).map Fr.g).length:Int) - 1=(([]:List Fr).length:Int):=λy=>by rw[lf];omega
 have hpl:([]:List Fr).length < 20:=by decide
 have ef:((([]:List Fr)++[(t.ww (t.f.ws.take q) v')]).map Fr.g).take ([]:List Fr).length=([]:List Fr).map Fr.g:=by rw[Yaf,Ybp (by simp),Yay (by simp)]
 have fh:∀(a b c d:Value × Nat) (t:Value × Nat),t∈[a,b,c,d]->t=a\/t=b\/t=c\/t=d:=λa b c d t ht=>by simpa using ht
 refine ⟨Zgn,.inr (ZrL (Zgm rfl rfl rfl (n:=([]:List Fr).length) (by simp) (by decide)) ?_)⟩;refine ⟨_,Zbo Fr.g ([]:List Fr) _,ZcI rfl (Fr.g_noted (x:=(t.ww (t.f.ws.take q) v')) ht.1) ?_⟩;refine ⟨λhk=>?_,λhk=>?_⟩
 ·obtain ⟨k,lX⟩:∃k:Nat,t.f.noted=(k:Int):=⟨t.f.noted.toNat,by have:(0:Int)<=t.f.noted:=hk;omega⟩;have aB:k < o.calls.length:=by omega
  have fG:k < (o.calls.map Nt.g).length:=by rw[Yaa];exact aB
  have kq:Zdu o t.f.noted x=Zdu o (k:Int) x:=by rw[lX]
  refine ⟨none,rfl,?_⟩;refine ⟨0,[.int x],rfl,rfl,?_⟩;refine ⟨k,dI lX,fG,?_⟩;refine ⟨_,[.bool true],gm aB,⟨rfl,trivial⟩,Nat.le_add_left 6 1,(λh=>by cases h),?_⟩;refine ⟨k,dI lX,by rw[Ybw];exact fG,?_⟩;refine ⟨_,[.int x],YbA fG,⟨rfl,trivial⟩,Yas 7,(λh=>by cases h),?_⟩;refine ⟨some 9999,[14],rfl,?_⟩;refine ⟨by unfold I64;rw[jO];omega,?_⟩;refine ⟨([]:List Fr).length,dI (jO _),by rw[lf];omega,?_⟩;refine .inr (ZqJ 0 6 5 ([]:List Fr).length rfl rfl rfl (by rw[lf];omega) (Zi2 1 (([]:List Fr).map fz) [] (fz (t.ww (t.f.ws.take q) v')) rfl (by rw[Yaf];rfl) (ZdU 1 6 (λv=>[(N.d,2),(N.t,3),(N.c,4),(v,6)]) rfl rfl (λv t ht=>?_) (λf2=>ZA9 (h2:=MHf m 0 0 (Zdu o (k:Int) x) ([]:List Fr) (N.withF f2) []) ?_ (ZiC ?_)))))
  ·rcases fh _ _ _ _ _ ht with rfl | rfl | rfl | rfl<;>simp
  ·show [Obj.blk _ _,Obj.many (([]:List Fr).map fz++[]) _,_,_,Obj.row (((o.calls.map Nt.g).set k (ZdI o.calls[k].g (0+5) [.bool true])).set k (ZdI (ZdI o.calls[k].g (0+5) [.bool true]) (0+6) [.int x])) _ _,Obj.dead,Obj.row (((([]:List Fr)++[(t.ww (t.f.ws.take q) v')]).map Fr.g).take ([]:List Fr).length) _ _]=_;rw[ef,YaF,ZxN aB];rfl
  refine ⟨λ_=>?_,λhz=>absurd rfl hz⟩;refine ⟨0,[.int x],rfl,rfl,.inl ?_⟩;refine ⟨rfl,.inl (ZaZ (o:=(Zdu o (k:Int) x)) (val:=x) (fs:=[]) (N:=N.withF f2) (.g (.int 1)) (Zce 0 1 2 3 4 6) rfl rfl rfl (.inl rfl) rfl rfl rfl rfl rfl (Yap _) trivial (bad ?_))⟩;rw[e0,kq]
 ·have kq:Zdu o t.f.noted x=o:=Zql hk x;refine ⟨some 9999,[14],rfl,?_⟩;refine ⟨by unfold I64;rw[jO];omega,?_⟩;refine ⟨([]:List Fr).length,dI (jO _),by rw[lf];omega,?_⟩;refine .inr (ZqJ 0 6 5 ([]:List Fr).length rfl rfl rfl (by rw[lf];omega) (Zi2 1 (([]:List Fr).map fz) [] (fz (t.ww (t.f.ws.take q) v')) rfl (by rw[Yaf];rfl) (ZdU 1 6 (λv=>[(N.d,2),(N.t,3),(N.c,4),(v,6)]) rfl rfl (λv t ht=>?_) (λf2=>ZA9 (h2:=MHf m 0 0 o ([]:List Fr) (N.withF f2) []) ?_ (ZiC ?_)))))
  ·rcases fh _ _ _ _ _ ht with rfl | rfl | rfl | rfl<;>simp
  ·show [Obj.blk _ _,Obj.many (([]:List Fr).map fz++[]) _,_,_,Obj.row (o.calls.map Nt.g) _ _,Obj.dead,Obj.row (((([]:List Fr)++[(t.ww (t.f.ws.take q) v')]).map Fr.g).take ([]:List Fr).length) _ _]=_;rw[ef,YaF];rfl
  refine ⟨λ_=>?_,λhz=>absurd rfl hz⟩;refine ⟨0,[.int x],rfl,rfl,.inl ?_⟩;refine ⟨rfl,.inl (ZaZ (o:=o) (val:=x) (fs:=[]) (N:=N.withF f2) (.g (.int 1)) (Zce 0 1 2 3 4 6) rfl rfl rfl (.inl rfl) rfl rfl rfl rfl rfl (Yap _) trivial (bad ?_))⟩;rw[e0,kq]
set_option maxRecDepth 20000 in
set_option maxHeartbeats 1000000 in
theorem Zwb (m:Zax) (o:MO) (p':List Fr) (f t:Fr) (N:Ns) (ht:t.ok) (aS:∀g∈p'++[f],g.ok) (hp:(p'++[f]).length < 20) (hn:t.f.noted < o.calls.length) :
  CTH Tryz.prog (gl L) 92 1 (MH m 0 0 o ((p'++[f])++[t]) N) [.ptr 0 0] (RQ m (Barb.retS o ((p'++[f]).map Fr.f) t.f)):=by
 have hw:=ht.2
 suffices H:∀r:R,Barb.retS o ((p'++[f]).map Fr.f) t.f=r->CTH Tryz.prog (gl L) 92 1 (MH m 0 0 o ((p'++[f])++[t]) N) [.ptr 0 0] (RQ m r) from H _ rfl
 intro r hr;have bad:∀{c v:Int} {o':MO} {gs:List Fr} {N':Ns},Barb.retS o ((p'++[f]).map Fr.f) t.f=.stop c v o'->RQ m r (.ret (.g (.int c)) (MH m 0 v o' gs N')):=λh1=>by rw[<- hr,h1];exact ⟨_,_,rfl⟩
 refine Za4 [] hT hF hM Tryz.func92 rfl 72 rfl (by kernel_rfl) [.tmp 2] rfl [.ptr 0 0] rfl (MH m 0 0 o ((p'++[f])++[t]) N) [0] rfl rfl rfl 1 [] trivial _ ?_;refine Ze9 (n:=1) (pre:=(p'++[f])) [] ht (by simp at hp ⊢;omega) (by decide) rfl rfl (λhl=>?_) (λv' hl=>?_)
 ·refine ⟨rfl,.inl (ZaZ (.g (.int 4)) (Zce 0 1 2 3 4 5) rfl rfl rfl (.inl rfl) rfl rfl rfl rfl rfl (Yap _) trivial (bad ?_))⟩;unfold Barb.retS;rw[if_pos hl]
 obtain ⟨q,hlen⟩:∃q,t.f.ws.length=q+1:=⟨t.f.ws.length - 1,by omega⟩;obtain ⟨x,hx,k7⟩:=ZjH hlen;have cm:t.f.off 1=[x]:=by unfold PF.off;rw[hlen];exact hx
 have e0:Barb.retS o ((p'++[f]).map Fr.f) t.f=Zgj (Zdu o t.f.noted x) (p'.map Fr.f) f.f x:=by unfold Barb.retS;rw[if_neg (by omega),cm];simp
 rw[show t.f.ws.length - 1=q from by omega,hx];have lf:∀y:Fr,(((p'++[f])++[y]).map Fr.g).length=(p'++[f]).length+1:=λy=>by simp
 have jO:∀y:Fr,((((p'++[f])++[y]).map Fr.g).length:Int) - 1=((p'++[f]).length:Int):=λy=>by rw[lf];omega
 have hpl:(p'++[f]).length < 20:=hp;have ef:(((p'++[f])++[(t.ww (t.f.ws.take q) v')]).map Fr.g).take (p'++[f]).length=(p'++[f]).map Fr.g:=by rw[Yaf,Ybp (by simp),Yay (by simp)]
 have fh:∀(a b c d:Value × Nat) (t:Value × Nat),t∈[a,b,c,d]->t=a\/t=b\/t=c\/t=d:=λa b c d t ht=>by simpa using ht
 refine ⟨Zgn,.inr (ZrL (Zgm rfl rfl rfl (n:=(p'++[f]).length) (by simp) (by simp at hp ⊢;omega)) ?_)⟩;refine ⟨_,Zbo Fr.g (p'++[f]) _,ZcI rfl (Fr.g_noted (x:=(t.ww (t.f.ws.take q) v')) ht.1) ?_⟩;refine ⟨λhk=>?_,λhk=>?_⟩
 ·obtain ⟨k,lX⟩:∃k:Nat,t.f.noted=(k:Int):=⟨t.f.noted.toNat,by have:(0:Int)<=t.f.noted:=hk;omega⟩;have aB:k < o.calls.length:=by omega
  have fG:k < (o.calls.map Nt.g).length:=by rw[Yaa];exact aB
  have kq:Zdu o t.f.noted x=Zdu o (k:Int) x:=by rw[lX]
  refine ⟨none,rfl,?_⟩;refine ⟨0,[.int x],rfl,rfl,?_⟩;refine ⟨k,dI lX,fG,?_⟩;refine ⟨_,[.bool true],gm aB,⟨rfl,trivial⟩,Nat.le_add_left 6 1,(λh=>by cases h),?_⟩;refine ⟨k,dI lX,by rw[Ybw];exact fG,?_⟩;refine ⟨_,[.int x],YbA fG,⟨rfl,trivial⟩,Yas 7,(λh=>by cases h),?_⟩;refine ⟨some 9999,[14],rfl,?_⟩;refine ⟨by unfold I64;rw[jO];omega,?_⟩;refine ⟨(p'++[f]).length,dI (jO _),by rw[lf];omega,?_⟩;refine .inr (ZqJ 0 6 5 (p'++[f]).length rfl rfl rfl (by rw[lf];omega) (Zi2 1 ((p'++[f]).map fz) [] (fz (t.ww (t.f.ws.take q) v')) rfl (by rw[Yaf];rfl) (ZdU 1 6 (λv=>[(N.d,2),(N.t,3),(N.c,4),(v,6)]) rfl rfl (λv t ht=>?_) (λf2=>ZA9 (h2:=MHf m 0 0 (Zdu o (k:Int) x) (p'++[f]) (N.withF f2) []) ?_ (ZiC ?_)))))
  ·rcases fh _ _ _ _ _ ht with rfl | rfl | rfl | rfl<;>simp
  ·show [Obj.blk _ _,Obj.many ((p'++[f]).map fz++[]) _,_,_,Obj.row (((o.calls.map Nt.g).set k (ZdI o.calls[k].g (0+5) [.bool true])).set k (ZdI (ZdI o.calls[k].g (0+5) [.bool true]) (0+6) [.int x])) _ _,Obj.dead,Obj.row ((((p'++[f])++[(t.ww (t.f.ws.take q) v')]).map Fr.g).take (p'++[f]).length) _ _]=_;rw[ef,YaF,ZxN aB];rfl
  refine ⟨λhz=>absurd hz (by simp;omega),λ_=>?_⟩;refine ⟨0,[.int x],rfl,rfl,?_⟩;refine Zoh (pre:=p') (t:=f) (aS f (by simp)) (by simp at hp;omega) rfl rfl (λcI=>?_) (λv2 cI=>?_)
  ·refine ⟨rfl,.inl (ZaZ (o:=(Zdu o (k:Int) x)) (N:=N.withF f2) (.g (.int 4)) (Zce 0 1 2 3 4 6) rfl rfl rfl (.inl rfl) rfl rfl rfl rfl rfl (Yap _) trivial (bad ?_))⟩;rw[e0,kq];unfold Zgj;rw[if_pos cI]
  ·refine ⟨rfl,.inl (ZaZ (o:=(Zdu o (k:Int) x)) (N:=N.withF f2) (.g (.int 0)) (Zce 0 1 2 3 4 6) rfl rfl rfl (.inl rfl) rfl rfl rfl rfl rfl (Yap _) trivial ?_)⟩;rw[<- hr,e0,kq];unfold Zgj;rw[if_neg cI];exact ⟨_,_,by rw[Yaf];rfl,rfl⟩
 ·have kq:Zdu o t.f.noted x=o:=Zql hk x;refine ⟨some 9999,[14],rfl,?_⟩;refine ⟨by unfold I64;rw[jO];omega,?_⟩;refine ⟨(p'++[f]).length,dI (jO _),by rw[lf];omega,?_⟩;refine .inr (ZqJ 0 6 5 (p'++[f]).length rfl rfl rfl (by rw[lf];omega) (Zi2 1 ((p'++[f]).map fz) [] (fz (t.ww (t.f.ws.take q) v')) rfl (by rw[Yaf];rfl) (ZdU 1 6 (λv=>[(N.d,2),(N.t,3),(N.c,4),(v,6)]) rfl rfl (λv t ht=>?_) (λf2=>ZA9 (h2:=MHf m 0 0 o (p'++[f]) (N.withF f2) []) ?_ (ZiC ?_)))))
  ·rcases fh _ _ _ _ _ ht with rfl | rfl | rfl | rfl<;>simp
  ·show [Obj.blk _ _,Obj.many ((p'++[f]).map fz++[]) _,_,_,Obj.row (o.calls.map Nt.g) _ _,Obj.dead,Obj.row ((((p'++[f])++[(t.ww (t.f.ws.take q) v')]).map Fr.g).take (p'++[f]).length) _ _]=_;rw[ef,YaF];rfl
  refine ⟨λhz=>absurd hz (by simp;omega),λ_=>?_⟩;refine ⟨0,[.int x],rfl,rfl,?_⟩;refine Zoh (pre:=p') (t:=f) (aS f (by simp)) (by simp at hp;omega) rfl rfl (λcI=>?_) (λv2 cI=>?_)
  ·refine ⟨rfl,.inl (ZaZ (o:=o) (N:=N.withF f2) (.g (.int 4)) (Zce 0 1 2 3 4 6) rfl rfl rfl (.inl rfl) rfl rfl rfl rfl rfl (Yap _) trivial (bad ?_))⟩;rw[e0,kq];unfold Zgj;rw[if_pos cI]
  ·refine ⟨rfl,.inl (ZaZ (o:=o) (N:=N.withF f2) (.g (.int 0)) (Zce 0 1 2 3 4 6) rfl rfl rfl (.inl rfl) rfl rfl rfl rfl rfl (Yap _) trivial ?_)⟩;rw[<- hr,e0,kq];unfold Zgj;rw[if_neg cI];exact ⟨_,_,by rw[Yaf];rfl,rfl⟩
theorem ZyX (m:Zax) (o:MO) (pre:List Fr) (t:Fr) (N:Ns) (ht:t.ok) (aS:∀f∈pre,f.ok) (hp:pre.length < 20) (hn:t.f.noted < o.calls.length) :
  CTH Tryz.prog (gl L) 92 1 (MH m 0 0 o (pre++[t]) N) [.ptr 0 0] (RQ m (Barb.retS o (pre.map Fr.f) t.f)):=by
 rcases Yb4 pre with rfl | ⟨p',f,rfl⟩
 ·exact ZyW m o t N ht hn
 ·rw[YbF] at aS hp ⊢;exact Zwb m o p' f t N ht aS hp hn
variable {L:Lv}
theorem Zzt:fnOk Tryz.prog 91=true:=by kernel_rfl
theorem ZAF:fnOk Tryz.prog 92=true:=by kernel_rfl
set_option maxRecDepth 20000 in
set_option maxHeartbeats 1000000 in
theorem Zdg (m:Zax) (o:MO) (pre:List Fr) (t:Fr) (N:Ns) (i:Instr) (hi:Zbz i=0) (_hop:i.op=9\/i.op=10\/i.op=11\/i.op=12\/i.op=13\/i.op=15) (fH:Zi1 m=0) (hc:o.calls.length<=100) (ht:t.ok) (aS:∀f∈pre,f.ok) (hp:pre.length < 20) (hn:t.f.noted < o.calls.length) :
  CTH Tryz.prog (gl L) 59 1 (MH m 0 0 o (pre++[t]) N) [.ptr 0 0,.agg i.d] (RQ m (Zmx m i o (pre.map Fr.f) t.f)):=by
 have hw:=ht.2;obtain ⟨i1,i2,i3,i4,i5,i6,i7,i8,i9⟩:=ZeG hi
 suffices H:∀r:R,Zmx m i o (pre.map Fr.f) t.f=r->CTH Tryz.prog (gl L) 59 1 (MH m 0 0 o (pre++[t]) N) [.ptr 0 0,.agg i.d] (RQ m r) from H _ rfl
 intro r hr;have js:∀{d:D} {gs:List Fr} {N':Ns} {o':MO} {fs:List PF},Zmx m i o (pre.map Fr.f) t.f=.go o' fs->gs.map Fr.f=fs->d=.g (.int 0)->RQ m r (.ret d (MH m 0 0 o' gs N')):=λh1 h2 h3=>by subst h3;rw[<- hr,h1];exact ⟨_,_,h2,rfl⟩
 have bad:∀{c v:Int} {o':MO} {gs:List Fr} {N':Ns},Zmx m i o (pre.map Fr.f) t.f=.stop c v o'->RQ m r (.ret (.g (.int c)) (MH m 0 v o' gs N')):=λh1=>by rw[<- hr,h1];exact ⟨_,_,rfl⟩
 have b9:∀(x:Fr),(pre++[x]).map Fr.f=pre.map Fr.f++[x.f]:=λx=>by rw[Yaf];rfl
 refine Za4 [] hT hF hM Tryz.func59 rfl 68 rfl (by kernel_rfl) [.tmp 4] rfl [.ptr 0 0,.agg i.d] rfl (MH m 0 0 o (pre++[t]) N) [0] rfl rfl rfl 1 [] trivial _ ?_;refine ⟨Zgn,.inr (ZrL (Zgm rfl rfl rfl (n:=pre.length) (by simp) (by omega)) ?_)⟩;refine ⟨λh9=>?_,λh9=>?_⟩
 ·refine ⟨_,[.int i.a],Zbo Fr.g pre t,⟨rfl,trivial⟩,by rw[Fr.g_len ht.1];exact (by decide:0+1+1<=12),(λh=>by cases h),.inl ?_⟩;refine ⟨rfl,.inl (ZaZ (fs:=pre++[Fr.mk { t.f with at_:=i.a } t.v]) (.g (.int 0)) (Zce 0 1 2 3 4 5) rfl rfl rfl (.inl rfl) rfl rfl rfl rfl (ZfY Fr.g pre t _ _ (Fr.g_set_at _).symm) ?_ trivial (js ?_ (b9 _) rfl))⟩
  ·rw[Yaf,Yaf];exact Yap _
  ·unfold Zmx;rw[if_pos h9]
 refine ⟨λjJ=>?_,λjJ=>?_⟩
 ·have e0:Zmx m i o (pre.map Fr.f) t.f=if t.f.ws.length < 1 then .stop 4 0 o else .go o (pre.map Fr.f++[if (t.f.off 1).getD 0 0=0 then { t.f.on 1 with at_:=i.a } else t.f.on 1]):=by unfold Zmx;rw[if_neg h9,if_pos jJ]
  refine Ze9 (n:=1) [.blk i.d 135] ht (by omega) (by decide) rfl rfl (λhl=>?_) (λv' hl=>?_)
  ·refine ⟨rfl,.inl (ZaZ (.g (.int 4)) (Zce 0 1 2 3 4 5) rfl rfl rfl (.inl rfl) rfl rfl rfl rfl rfl (Yap _) trivial (bad ?_))⟩;rw[e0,if_pos hl]
  obtain ⟨q,hlen⟩:∃q,t.f.ws.length=q+1:=⟨t.f.ws.length - 1,by omega⟩;obtain ⟨x,hx,k7⟩:=ZjH hlen;have cm:t.f.off 1=[x]:=by unfold PF.off;rw[hlen];exact hx
  have oa:t.f.on 1=t.f.ww (t.f.ws.take q):=by unfold PF.on;rw[show t.f.ws.length - 1=q from by omega]
  rw[if_neg (by omega),cm,oa] at e0;rw[show t.f.ws.length - 1=q from by omega,hx];refine ⟨0,[.int x],rfl,rfl,?_⟩;refine ⟨λhz=>?_,λhz=>?_⟩
  ·refine ⟨_,[.int i.a],Zbo Fr.g pre _,⟨rfl,trivial⟩,by rw[Fr.g_len (x:=t.ww (t.f.ws.take q) v') ht.1];exact (by decide:0+1+1<=12),(λh=>by cases h),.inl ?_⟩;refine ⟨rfl,.inl (ZaZ (fs:=pre++[Fr.mk { t.f.ww (t.f.ws.take q) with at_:=i.a } v']) (.g (.int 0)) (Zce 0 1 2 3 4 5) rfl rfl rfl (.inl rfl) rfl rfl rfl rfl (ZfY Fr.g pre _ _ _ (Fr.g_set_at (x:=t.ww (t.f.ws.take q) v') _).symm) ?_ trivial (js e0 ?_ rfl))⟩
   ·rw[Yaf,Yaf];exact Yap _
   ·rw[b9];show _=_++[if x=0 then _ else _];rw[if_pos hz]
  ·refine ⟨rfl,.inl (ZaZ (.g (.int 0)) (Zce 0 1 2 3 4 5) rfl rfl rfl (.inl rfl) rfl rfl rfl rfl rfl (Yap _) trivial (js e0 ?_ rfl))⟩;rw[b9];show _=_++[if x=0 then _ else _];rw[if_neg hz];rfl
 refine ⟨λjI=>?_,λjI=>?_⟩
 ·have wV:bdB 11=4:=rfl;rw[jI] at i6;obtain ⟨b,hb⟩:∃b:Nat,i.b=(b:Int):=⟨i.b.toNat,by omega⟩;have e0:Zmx m i o (pre.map Fr.f) t.f=if t.f.ws.length < b then .stop 4 0 o else ZdB o (pre.map Fr.f++[t.f.on b]) t.f.part i.a (-1) (t.f.off b):=by unfold Zmx;rw[if_neg h9,if_neg jJ,if_pos jI,hb];rfl
  refine Ze9 (n:=b) [.blk i.d 135] ht (by omega) (by omega) rfl (congrArg (λz=>[D.ptr 0 0,D.g (.int z)]) hb) (λhl=>?_) (λv' hl=>?_)
  ·refine ⟨rfl,.inl (ZaZ (.g (.int 4)) (Zce 0 1 2 3 4 5) rfl rfl rfl (.inl rfl) rfl rfl rfl rfl rfl (Yap _) trivial (bad ?_))⟩;rw[e0,if_pos hl]
  rw[if_neg (by omega)] at e0;refine ⟨some 9999,[8],rfl,?_⟩;refine ⟨_,Zbo Fr.g pre _,?_⟩;refine Zok (fs:=pre++[t.ww (t.f.ws.take (t.f.ws.length - b)) v']) (args:=t.f.ws.drop (t.f.ws.length - b)) [.blk i.d 135] (by simp;omega) rfl rfl (λjr=>?_) (λf2 jr=>?_)
  ·refine ⟨rfl,.inl (ZaZ (.g (.int 5)) (Zce 0 1 2 3 4 7) rfl rfl rfl (.inl rfl) rfl rfl rfl rfl rfl (Yap _) trivial (bad ?_))⟩;have sK:pre.length+1=20:=by simpa using jr
   rw[e0];unfold ZdB;rw[if_pos (by simp;omega)]
  ·refine ⟨rfl,.inl (ZaZ (N:=N.withF f2) (.g (.int 0)) (Zce 0 1 2 3 4 7) rfl rfl rfl (.inl rfl) rfl rfl rfl rfl rfl (Yap _) trivial ?_)⟩;have sK:¬pre.length+1=20:=by simpa using jr
   rw[<- hr,e0];unfold ZdB;rw[if_neg (by simp;omega)];exact ⟨_,_,by rw[Yaf,b9];rfl,rfl⟩
 refine ⟨λkU=>?_,λkU=>?_⟩
 ·have e0:Zmx m i o (pre.map Fr.f) t.f=ZiF m i o (pre.map Fr.f) t.f:=by unfold Zmx;rw[if_neg h9,if_neg jJ,if_neg jI,if_pos kU]
  refine ZfO Zzt [.blk i.d 135] (ZwV m o pre t N i hi kU fH hc ht hp) rfl rfl rfl rfl (λc v o' gs N' hq=>?_);refine ⟨rfl,.inl (ZaZ (.g (.int c)) (Zce 0 7 8 9 10 11) rfl rfl rfl (.inl rfl) rfl rfl rfl rfl rfl (Yap _) trivial ?_)⟩;rw[<- hr,e0];exact hq
 refine ⟨λnk=>?_,λnk=>?_⟩
 ·have e0:Zmx m i o (pre.map Fr.f) t.f=Barb.retS o (pre.map Fr.f) t.f:=by unfold Zmx;rw[if_neg h9,if_neg jJ,if_neg jI,if_neg kU,if_pos nk]
  refine ZfO ZAF [.blk i.d 135] (ZyX m o pre t N ht aS hp hn) rfl rfl rfl rfl (λc v o' gs N' hq=>?_);refine ⟨rfl,.inl (ZaZ (.g (.int c)) (Zce 0 7 8 9 10 11) rfl rfl rfl (.inl rfl) rfl rfl rfl rfl rfl (Yap _) trivial ?_)⟩;rw[<- hr,e0];exact hq
 ·refine ⟨rfl,.inl (ZaZ (.g (.int 2)) (Zce 0 1 2 3 4 5) rfl rfl rfl (.inl rfl) rfl rfl rfl rfl rfl (Yap _) trivial (bad ?_))⟩;unfold Zmx;rw[if_neg h9,if_neg jJ,if_neg jI,if_neg kU,if_neg nk]
theorem Znw:fnOk Tryz.prog 58=true:=by kernel_rfl
theorem ZdK:fnOk Tryz.prog 59=true:=by kernel_rfl
theorem ZvC:fnOk Tryz.prog 60=true:=by kernel_rfl
set_option maxRecDepth 20000 in
set_option maxHeartbeats 1000000 in
theorem ZvW (m:Zax) (o:MO) (pre:List Fr) (t:Fr) (N:Ns) (ok:SOk m o ((pre++[t]).map Fr.f)) :
  CTH Tryz.prog (gl L) 32 1 (MH m 0 0 o (pre++[t]) N) [.ptr 0 0] (RQ m (Barb.stepS m o (pre.map Fr.f) t.f)):=by
 have tok:t.f.ok m o.calls:=ok.frs _ (by simp);have ht:t.ok:=Fr.ok_of tok;have aS:∀f∈pre,f.ok:=λf hf=>Fr.ok_of (ok.frs f.f (YaU.2 ⟨f,by simp[hf],rfl⟩));have oN:=ok.deep;rw[Yaa,Yab,List.length_singleton] at oN;have b7:=ok.calls;obtain ⟨k,hk,aB⟩:=tok.part;have em:m.getD t.f.part.toNat Zc3=m[k]:=by rw[hk];simp[aB]
 obtain ⟨gq,gM,kj,oX⟩:=ZgJ ok.img aB;have h0:=tok.at0;have h1:=tok.at1;obtain ⟨j,hj⟩:∃j:Nat,t.f.at_=(j:Int):=⟨t.f.at_.toNat,by omega⟩
 suffices H:∀r:R,Barb.stepS m o (pre.map Fr.f) t.f=r->CTH Tryz.prog (gl L) 32 1 (MH m 0 0 o (pre++[t]) N) [.ptr 0 0] (RQ m r) from H _ rfl
 intro r hr;have lc:(m[k].code.map Instr.g).length=m[k].code.length:=Yaa _;have b9:∀(x:Fr),(pre++[x]).map Fr.f=pre.map Fr.f++[x.f]:=λx=>by rw[Yaf];rfl
 refine Za4 [] hT hF hM Tryz.func32 rfl 71 rfl (by kernel_rfl) [.tmp 2] rfl [.ptr 0 0] rfl (MH m 0 0 o (pre++[t]) N) [0] rfl rfl rfl 1 [] trivial _ ?_;refine ⟨Zgn,.inr (ZrL (Zgm rfl rfl rfl (n:=pre.length) (by simp) (by omega)) ?_)⟩;refine ⟨none,rfl,?_⟩;refine ⟨_,Zbo Fr.g pre t,?_⟩;refine ⟨_,Zbo Fr.g pre t,?_⟩;refine ⟨k,_,dI hk,gm aB,?_⟩;refine ⟨λig=>?_,λaG=>?_⟩
 ·refine ⟨rfl,.inl (ZaZ (.g (.int 4)) (Zce 0 1 2 3 4 5) rfl rfl rfl (.inl rfl) rfl rfl rfl rfl rfl (Yap _) trivial ?_)⟩;rw[<- hr];unfold Barb.stepS;simp only;rw[em,if_pos (by omega)];exact ⟨_,_,rfl⟩
 have aD:j < m[k].code.length:=by omega
 have ei:m[k].code.getD t.f.at_.toNat ZeX=m[k].code[j]:=by rw[hj];simp[aD]
 have hi:=kj _ (Yai aD);have e0:Barb.stepS m o (pre.map Fr.f) t.f=(if m[k].code[j].op=6\/m[k].code[j].op=7 then Zr3 m[k] m[k].code[j] o (pre.map Fr.f) { t.f with at_:=t.f.at_+1 }
   else if m[k].code[j].op=9\/m[k].code[j].op=10\/m[k].code[j].op=11\/m[k].code[j].op=12\/m[k].code[j].op=13\/m[k].code[j].op=15 then Zmx m m[k].code[j] o (pre.map Fr.f) { t.f with at_:=t.f.at_+1 } else ZmN m[k].code[j] o (pre.map Fr.f) { t.f with at_:=t.f.at_+1 }):=by unfold Barb.stepS;simp only;rw[em,if_neg (by omega),ei]
 have bh:(Fr.mk { t.f with at_:=t.f.at_+1 } t.v).ok:=ht;refine ⟨none,rfl,?_⟩;refine ⟨_,Zbo Fr.g pre t,?_⟩;refine ⟨k,_,dI hk,gm aB,?_⟩;refine ⟨_,Zbo Fr.g pre t,?_⟩;refine ⟨j,_,dI hj,gm aD,?_⟩;refine ⟨_,Zbo Fr.g pre t,?_⟩;refine ⟨_,I64.wrap (by unfold I64;omega),?_⟩;refine ⟨_,[.int (t.f.at_+1)],Zbo Fr.g pre t,⟨rfl,trivial⟩,by rw[Fr.g_len ht.1];exact (by decide:0+1+1<=12),(λh=>by cases h),.inr (ZA9 (h2:=MHr m 0 0 o (pre++[(Fr.mk { t.f with at_:=t.f.at_+1 } t.v)]) N [.blk m[k].code[j].d 135]) ?_ (ZiC ?_))⟩
 ·show [Obj.blk _ _,Obj.many ((pre++[t]).map fz) _,_,_,_,Obj.row (((pre++[t]).map Fr.g).set pre.length _) _ _,_]=_;rw[ZfY Fr.g pre t _ _ (Fr.g_set_at (t.f.at_+1)).symm,show (pre++[t]).map fz=(pre++[(Fr.mk { t.f with at_:=t.f.at_+1 } t.v)]).map fz from by rw[Yaf,Yaf];rfl]
 refine ⟨λh6=>⟨λ_=>?_,λh=>absurd h6 h⟩,λh6=>?_⟩
 ·refine ZfO Znw [.blk m[k].code[j].d 135] (ZkY m o pre (Fr.mk { t.f with at_:=t.f.at_+1 } t.v) N m[k].code[j] k aB hk ok.img ok.data bh (by omega)) rfl rfl rfl rfl (λc v o' gs N' hq=>?_);refine ⟨rfl,.inl (ZaZ (.g (.int c)) (Zce 0 7 8 9 10 11) rfl rfl rfl (.inl rfl) rfl rfl rfl rfl rfl (Yap _) trivial ?_)⟩;rw[<- hr,e0,if_pos (.inl h6)];exact hq
 refine ⟨λh7=>?_,λh7=>?_⟩
 ·refine ZfO Znw [.blk m[k].code[j].d 135] (ZkY m o pre (Fr.mk { t.f with at_:=t.f.at_+1 } t.v) N m[k].code[j] k aB hk ok.img ok.data bh (by omega)) rfl rfl rfl rfl (λc v o' gs N' hq=>?_);refine ⟨rfl,.inl (ZaZ (.g (.int c)) (Zce 0 7 8 9 10 11) rfl rfl rfl (.inl rfl) rfl rfl rfl rfl rfl (Yap _) trivial ?_)⟩;rw[<- hr,e0,if_pos (.inr h7)];exact hq
 refine ⟨λh9=>⟨λ_=>?_,λh=>absurd h9 h⟩,λh9=>?_⟩
 ·refine ZfO ZdK [.blk m[k].code[j].d 135] (Zdg m o pre (Fr.mk { t.f with at_:=t.f.at_+1 } t.v) N m[k].code[j] hi (by omega) ok.img b7 bh aS (by omega) tok.noted) rfl rfl rfl rfl (λc v o' gs N' hq=>?_);refine ⟨rfl,.inl (ZaZ (.g (.int c)) (Zce 0 7 8 9 10 11) rfl rfl rfl (.inl rfl) rfl rfl rfl rfl rfl (Yap _) trivial ?_)⟩;rw[<- hr,e0,if_neg (by omega),if_pos (by omega)];exact hq
 refine ⟨λjJ=>⟨λ_=>?_,λh=>absurd jJ h⟩,λjJ=>?_⟩
 ·refine ZfO ZdK [.blk m[k].code[j].d 135] (Zdg m o pre (Fr.mk { t.f with at_:=t.f.at_+1 } t.v) N m[k].code[j] hi (by omega) ok.img b7 bh aS (by omega) tok.noted) rfl rfl rfl rfl (λc v o' gs N' hq=>?_);refine ⟨rfl,.inl (ZaZ (.g (.int c)) (Zce 0 7 8 9 10 11) rfl rfl rfl (.inl rfl) rfl rfl rfl rfl rfl (Yap _) trivial ?_)⟩;rw[<- hr,e0,if_neg (by omega),if_pos (by omega)];exact hq
 refine ⟨λjI=>⟨λ_=>?_,λh=>absurd jI h⟩,λjI=>?_⟩
 ·refine ZfO ZdK [.blk m[k].code[j].d 135] (Zdg m o pre (Fr.mk { t.f with at_:=t.f.at_+1 } t.v) N m[k].code[j] hi (by omega) ok.img b7 bh aS (by omega) tok.noted) rfl rfl rfl rfl (λc v o' gs N' hq=>?_);refine ⟨rfl,.inl (ZaZ (.g (.int c)) (Zce 0 7 8 9 10 11) rfl rfl rfl (.inl rfl) rfl rfl rfl rfl rfl (Yap _) trivial ?_)⟩;rw[<- hr,e0,if_neg (by omega),if_pos (by omega)];exact hq
 refine ⟨λkU=>⟨λ_=>?_,λh=>absurd kU h⟩,λkU=>?_⟩
 ·refine ZfO ZdK [.blk m[k].code[j].d 135] (Zdg m o pre (Fr.mk { t.f with at_:=t.f.at_+1 } t.v) N m[k].code[j] hi (by omega) ok.img b7 bh aS (by omega) tok.noted) rfl rfl rfl rfl (λc v o' gs N' hq=>?_);refine ⟨rfl,.inl (ZaZ (.g (.int c)) (Zce 0 7 8 9 10 11) rfl rfl rfl (.inl rfl) rfl rfl rfl rfl rfl (Yap _) trivial ?_)⟩;rw[<- hr,e0,if_neg (by omega),if_pos (by omega)];exact hq
 refine ⟨λnk=>⟨λ_=>?_,λh=>absurd nk h⟩,λnk=>?_⟩
 ·refine ZfO ZdK [.blk m[k].code[j].d 135] (Zdg m o pre (Fr.mk { t.f with at_:=t.f.at_+1 } t.v) N m[k].code[j] hi (by omega) ok.img b7 bh aS (by omega) tok.noted) rfl rfl rfl rfl (λc v o' gs N' hq=>?_);refine ⟨rfl,.inl (ZaZ (.g (.int c)) (Zce 0 7 8 9 10 11) rfl rfl rfl (.inl rfl) rfl rfl rfl rfl rfl (Yap _) trivial ?_)⟩;rw[<- hr,e0,if_neg (by omega),if_pos (by omega)];exact hq
 refine ⟨λxG=>?_,λxG=>?_⟩
 ·refine ZfO ZdK [.blk m[k].code[j].d 135] (Zdg m o pre (Fr.mk { t.f with at_:=t.f.at_+1 } t.v) N m[k].code[j] hi (by omega) ok.img b7 bh aS (by omega) tok.noted) rfl rfl rfl rfl (λc v o' gs N' hq=>?_);refine ⟨rfl,.inl (ZaZ (.g (.int c)) (Zce 0 7 8 9 10 11) rfl rfl rfl (.inl rfl) rfl rfl rfl rfl rfl (Yap _) trivial ?_)⟩;rw[<- hr,e0,if_neg (by omega),if_pos (by omega)];exact hq
 have yu:=ZeG hi;refine ZfO ZvC [.blk m[k].code[j].d 135] (Zr1 m o pre (Fr.mk { t.f with at_:=t.f.at_+1 } t.v) N m[k].code[j] hi (by omega) ok.told bh (by omega)) rfl rfl rfl rfl (λc v o' gs N' hq=>?_);refine ⟨rfl,.inl (ZaZ (.g (.int c)) (Zce 0 7 8 9 10 11) rfl rfl rfl (.inl rfl) rfl rfl rfl rfl rfl (Yap _) trivial ?_)⟩;rw[<- hr,e0,if_neg (by omega),if_neg (by omega)];exact hq
end ZN
namespace Barb
open Go Go.Dm Go.Eng
end Barb
namespace ZN
open Go Go.Dm Go.Eng Go.RowKit Barb
variable {L:Lv}
theorem Zst (m:Zax) (d:List Int) (part at_ noted:Int) (args:List Int) :
  CTH Tryz.prog (gl L) 31 1 [.blk [.g (.sl 4 (m.map Part.g)),.g (.int 0),.g (.int 0),.row 3,.row 2,.row 4,.row 5] 97,.many [] [],.row (d.map ZaU) 3 1,.row [] 3 1,.row [] 199 7,.row [] 141 12] [.ptr 0 0,.g (.int part),.g (.int at_),.g (.int noted),.g (.sl 1 (args.map ZaU))]
   (λout=>∃N,out=.ret (.g (.int 0)) (MH m 0 0 ⟨[],d,[]⟩ [Znv part at_ noted args] N)):=by refine Za4 [] hT hF hM Tryz.func31 rfl 36 rfl (by kernel_rfl) [.tmp 10] rfl [.ptr 0 0,.g (.int part),.g (.int at_),.g (.int noted),.g (.sl 1 (args.map ZaU))] rfl ([.blk [.g (.sl 4 (m.map Part.g)),.g (.int 0),.g (.int 0),.row 3,.row 2,.row 4,.row 5] 97,.many [] [],.row (d.map ZaU) 3 1,.row [] 3 1,.row [] 199 7,.row [] 141 12]) [0] rfl rfl rfl 1 [] trivial _ ?_;refine ⟨λh=>absurd h (by decide),λ_=>?_⟩;refine .inr (ZA6 (ZiC ?_));refine .inl ?_;refine .inl ?_;refine ⟨_,(ZxJ args _ _ _ _).symm,?_⟩;refine ⟨some 9998,[10],rfl,?_⟩;refine ⟨[(Znv part at_ noted args).g],rfl,rfl,ZyM _ (Znv part at_ noted args).g,⟨_,rfl⟩,?_⟩;refine ⟨⟨by simp[maxLen],by simp⟩,?_⟩;refine .inr (ZdU 1 8 (λv=>[(v,8)]) rfl rfl (λv t ht=>ht) (λv4=>ZdU 1 4 (λv=>[(v,4),(v4,8)]) rfl rfl (λv t ht=>ht) (λv3=>ZdU 1 3 (λv=>[(v,3),(v3,4),(v4,8)]) rfl rfl (λv t ht=>ht) (λv2=>ZdU 1 2 (λv=>[(v,2),(v2,3),(v3,4),(v4,8)]) rfl rfl (λv t ht=>ht) (λv1=>ZiC ?_)))));exact ⟨rfl,.inr (ZA7 1 3 1 (by decide) rfl (ZiC (ZaZ (o:=⟨[],d,[]⟩) (fs:=[Znv part at_ noted args]) (N:=⟨v1,v2,v3,v4⟩) (.g (.int 0)) (Zce 0 1 2 3 4 8) rfl rfl rfl (.inl rfl) rfl rfl rfl rfl rfl (Yap _) trivial ⟨_,rfl⟩)))⟩
theorem Zss (m:Zax) (d:List Int) (part at_ noted:Int) (args:List Int) :
  CTH Tryz.prog (gl L) 31 1 [.blk [.g (.sl 4 (m.map Part.g)),.g (.int 0),.g (.int 0),.nils,.row 1,.nils,.nils] 97,.row (d.map ZaU) 3 1] [.ptr 0 0,.g (.int part),.g (.int at_),.g (.int noted),.g (.sl 1 (args.map ZaU))]
   (λout=>∃N,out=.ret (.g (.int 0)) (MH m 0 0 ⟨[],d,[]⟩ [Znv part at_ noted args] N)):=by
 have hT:ZbW [.blk [.g (.sl 4 (m.map Part.g)),.g (.int 0),.g (.int 0),.nils,.row 1,.nils,.nils] 97,.row (d.map ZaU) 3 1] [.old 0,.many0,.old 1,.nil 3 1,.nil 199 7,.nil 141 12] =
  [.blk [.g (.sl 4 (m.map Part.g)),.g (.int 0),.g (.int 0),.nils,.row 2,.nils,.nils] 97,.many [] [],.row (d.map ZaU) 3 1,.row [] 3 1,.row [] 199 7,.row [] 141 12]:=rfl
 refine Zxc (hin:=[.blk [.g (.sl 4 (m.map Part.g)),.g (.int 0),.g (.int 0),.row 3,.row 2,.row 4,.row 5] 97,.many [] [],.row (d.map ZaU) 3 1,.row [] 3 1,.row [] 199 7,.row [] 141 12]) [.old 0,.many0,.old 1,.nil 3 1,.nil 199 7,.nil 141 12] ⟨rfl,.inr ?_,.inl rfl,rfl⟩ rfl rfl (Zst m d part at_ noted args);rw[hT];exact ⟨⟨rfl,.inr ⟨lk rfl,lk rfl,lk rfl,.inr rfl,lk rfl,.inr rfl,.inr rfl,trivial⟩⟩,⟨Yap _,rfl⟩,⟨rfl,rfl,rfl⟩,⟨rfl,rfl,rfl⟩,⟨rfl,rfl,rfl⟩,⟨rfl,rfl,rfl⟩,trivial⟩
theorem Zwt (n:Int):CT Tryz.prog (gl L) 28 [.g (.int n)] (Is (.pb (¬Zgi n))):=by refine enter hT hF hM Tryz.func28 rfl 6 rfl (by kernel_rfl) [.tmp 2] rfl [.g (.int n)] rfl _ ?_;exact Zad (.inl rfl) (Zln n) ⟨rfl,Zy0 Ya3⟩
theorem ZwK (l:List Int) (hl:l.length<=9223372036854775807):CT Tryz.prog (gl L) 56 [.g (.sl 1 (l.map ZaU)),.fn 28 [] []] (Is (.g (.int (idx Zzg l)))):=by
 have ll:(l.map ZaU).length=l.length:=by simp
 refine enter hT hF hM Tryz.func56 rfl 19 rfl (by kernel_rfl) [.tmp 4] rfl [.g (.sl 1 (l.map ZaU)),.fn 28 [] []] rfl _ ?_;refine ZaO (ι:=Nat) (λi=>[(8,.g (.int (i:Int)))]) (λ_=>[]) (λi=>i<=l.length/\∀j (hj:j < l.length),j < i->¬Zzg l[j]) (λi=>l.length - i)
  ⟨0,[],⟨rfl,.inl rfl,.inr ⟨lk rfl,trivial⟩,rfl⟩,Yat _,Zir⟩ ?_
 intro Rd aj i ⟨hi,ha⟩;refine ⟨λh=>?_,λh=>?_⟩
 ·have h1:i < l.length:=by omega
  refine ⟨i,_,rfl,gm h1,?_⟩;refine Zad (.inl rfl) (Zwt l[i]) ?_;refine ⟨λh2=>⟨rfl,Zb2 (Zin h1 ha h2).symm⟩,λh2=>⟨_,I64.wrap (by unfold I64;omega),?_⟩⟩;exact aj _ _ _ ⟨i+1,[],⟨rfl,.inl rfl,.inr ⟨lk rfl,trivial⟩,rfl⟩,⟨h1,Zdq h1 ha h2⟩,by omega⟩
 ·exact ⟨rfl,Zb2 (Zim (Zed (by omega) ha)).symm⟩
theorem ZwQ (l:List Int) (hl:l.length<=9223372036854775807):CT Tryz.prog (gl L) 27 [.g (.sl 1 (l.map ZaU)),.fn 28 [] []] (Is (.pb (∃n∈l,¬Zgi n))):=by
 refine enter hT hF hM Tryz.func27 rfl 9 rfl (by kernel_rfl) [.tmp 4] rfl [.g (.sl 1 (l.map ZaU)),.fn 28 [] []] rfl _ ?_;refine Zad (.inl rfl) (ZwK l hl) ⟨rfl,Zp6 ?_⟩;rcases Zb0 Zzg l with ⟨h1,h2⟩ | ⟨i,hi,h1,h2,h3⟩
 ·rw[h1];exact ⟨λh=>absurd h (by decide),λ⟨c,hc,ho⟩=>absurd ho (h2 c hc)⟩
 ·rw[h1];exact ⟨λ_=>⟨l[i],Yai _,h2⟩,λ_=>by omega⟩
theorem ZBq {g:FuncId} (hg:fnOk Tryz.prog g=true) {l all:List D} {h:Zae} {K Qp:KD} {m:Zax} {e val:Int} {o:MO} {fs:List Fr} {N:Ns} {x:R} (r:Zae)
  (ff:CTH Tryz.prog (gl L) g 1 (MH m e val o fs N) (.ptr 0 0 :: l) (RQ m x)) (hn:l.map (conv (MHr m e val o fs N r) (Zce 0 1 2 3 4 5) 4)=l) (hl:ZgK (MHr m e val o fs N r) [0,1,2,3,4,5] (.ptr 0 0 :: l)=true)
  (hh:h=MHr m e val o fs N r) (ha:all=.ptr 0 0 :: l)
  (wy:∀o' gs N',x=.go o' (gs.map Fr.f)->K (.g (.int 0)) (MHt m 0 0 o' gs N' r)) (iL:∀c v o' gs N',x=.stop c v o'->K (.g (.int c)) (MHt m 0 v o' gs N' r)) :
  fnOk Tryz.prog g=true/\(Zdh Tryz.prog (gl L) g all h K Qp\/ZcH Tryz.prog (gl L) g all h K Qp):=by
 subst hh;subst ha;refine Zag [0,1,2,3,4,5] hg hl rfl (Ztf _ _ _ _ _ _ _ _ hn) ff (λd' h' hq=>?_) (λd' h' hq=>?_)
 ·cases x with
  | go o' cQ =>obtain ⟨gs,N',hm,he⟩:=hq;injection he with e1 e2;subst e1;subst e2;rw[ZB6];exact wy o' gs N' (by rw[hm])
  | stop c v o' =>obtain ⟨gs,N',he⟩:=hq;injection he with e1 e2;subst e1;subst e2;rw[ZB6];exact iL c v o' gs N' rfl
 ·obtain ⟨c,v,o',gs,N',he⟩:=Zvo hq;cases he
theorem Zyy:fnOk Tryz.prog 32=true:=by kernel_rfl
set_option maxRecDepth 20000 in
set_option maxHeartbeats 1000000 in
theorem Zz2 (m:Zax) (hm:Zax.I m) (d:List Int) (hd:d.length*8<=140737488351232) (part entry:Int) (args:List Int) (an:args.length*8<=140737488351232) (fuel:Int) :
  CT Tryz.prog (gl L) 9 [.agg (ZqF m),.g (.sl 1 (d.map ZaU)),.g (.int part),.g (.int entry),.g (.sl 1 (args.map ZaU)),.g (.int fuel)] (Is (.tuple [.agg (Zv9 m d part entry args fuel).d,.g (.int (ZtF m d part entry args fuel))])):=by
 have lm:(m.map Part.g).length=m.length:=Yaa _;have la:(args.map ZaU).length=args.length:=Yaa _;have e:ZtF m d part entry args fuel=ZtF m d part entry args fuel:=rfl
 conv at e=>rhs;unfold ZtF
 refine enter hT hF hM Tryz.func9 rfl 115 rfl (by kernel_rfl) [.cell 12 48,.tmp 13] rfl [.agg (ZqF m),.g (.sl 1 (d.map ZaU)),.g (.int part),.g (.int entry),.g (.sl 1 (args.map ZaU)),.g (.int fuel)] rfl _ ?_;refine Zad (.inl rfl) (ZmJ m hm d hd) ⟨λh=>⟨rfl,ZBE (ZiT (e.trans (if_pos h)) h) (by rw[e,if_pos h])⟩,λh=>?_⟩;rw[if_neg (λh'=>h' h)] at e;have r5:(part < 0\/part >= m.length\/entry < 0\/entry >= (Barb.partAt m part).entries.length)->∀h:Zae,Zby (Is (.tuple [.agg (Zv9 m d part entry args fuel).d,.g (.int (ZtF m d part entry args fuel))])) h (.tuple [.agg [.g (.int 0),.g (.int 0),.nils,.nils,.nils],.g (.int 5)]):=λhb h=>by rw[if_pos hb] at e;exact ZBE (ZiT e (by decide)) e.symm
 refine ⟨λa1=>⟨rfl,r5 (.inl a1) _⟩,λa1=>⟨λa2=>⟨rfl,r5 (.inr (.inl (by omega))) _⟩,λa2=>⟨λa3=>⟨rfl,r5 (.inr (.inr (.inl a3))) _⟩,λa3=>?_⟩⟩⟩;obtain ⟨k,hk⟩:∃k:Nat,part=(k:Int):=⟨part.toNat,by omega⟩;have aB:k < m.length:=by omega
 have iU:Barb.partAt m part=m[k]:=by rw[hk];exact Barb.partAt_at aB
 have le:(m[k].entries.map Entry.g).length=m[k].entries.length:=Yaa _;refine ⟨k,_,dI hk,gm aB,?_⟩;refine ⟨λa4=>⟨rfl,r5 (.inr (.inr (.inr (by rw[iU];omega)))) _⟩,λa4=>?_⟩;obtain ⟨q,hq⟩:∃q:Nat,entry=(q:Int):=⟨entry.toNat,by omega⟩;have gT:q < m[k].entries.length:=by omega
 have eO:Zsu m part entry=m[k].entries[q]:=by unfold Zsu;rw[iU,hq];exact Zps gT _
 rw[if_neg (by rw[iU];omega),eO] at e;clear r5;refine ⟨k,_,dI hk,gm aB,?_⟩;refine ⟨q,_,dI hq,gm gT,?_⟩;refine ⟨λb1=>⟨rfl,?_⟩,λb1=>?_⟩
 ·rw[if_pos (by rw[<- la];exact b1)] at e;exact ZBE (ZiT e (by decide)) e.symm
 rw[if_neg (by rw[<- la];exact λh'=>h' b1)] at e;have r2:(fuel < 0\/fuel > 100000\/∃n∈args,¬Zgi n)->∀h:Zae,Zby (Is (.tuple [.agg (Zv9 m d part entry args fuel).d,.g (.int (ZtF m d part entry args fuel))])) h (.tuple [.agg [.g (.int 0),.g (.int 0),.nils,.nils,.nils],.g (.int 2)]):=λhb h=>by rw[if_pos hb] at e;exact ZBE (ZiT e (by decide)) e.symm
 refine ⟨λc1=>⟨rfl,r2 (.inl c1) _⟩,λc1=>⟨λc2=>⟨rfl,r2 (.inr (.inl c2)) _⟩,λc2=>?_⟩⟩;refine Zad (.inl rfl) (ZwQ args (by omega)) ⟨λc3=>⟨rfl,r2 (.inr (.inr c3)) _⟩,λc3=>?_⟩;rw[if_neg (by intro hh;rcases hh with hh | hh | hh;exact c1 hh;exact c2 hh;exact c3 hh)] at e;clear r2;obtain ⟨n0,fC⟩:∃n0:Nat,fuel=(n0:Int):=⟨fuel.toNat,by omega⟩;have hV:Zv9 m d part entry args fuel=Znt (ZgB m n0 ⟨[],d,[]⟩ [⟨part,m[k].entries[q].at_,p8 args,[],-1⟩]):=by unfold Zv9;rw[if_pos e,eO,fC];rfl
 generalize hF:ZgB m n0 ⟨[],d,[]⟩ [⟨part,m[k].entries[q].at_,p8 args,[],-1⟩]=R0 at hV;obtain ⟨fH,fM⟩:=Zxa h;obtain ⟨gq,gM,kj,oX⟩:=ZgJ fH aB;have ek:=oX _ (Yai gT);refine ⟨some 1999,rfl,?_⟩;refine ⟨_,_,_,.inl rfl,ZoC (d.map ZaU) (by rw[Yaa];exact hd),rfl,?_⟩;refine Zag [4,3] Zms rfl rfl ⟨rfl,.inl rfl,.inl rfl,rfl⟩ (Zss m d part m[k].entries[q].at_ (-1) args) (λd' h' hq=>?_) (λd' h' hq=>?_)
 rotate_left
 ·obtain ⟨N,hq⟩:=hq;cases hq
 obtain ⟨N,hq⟩:=hq;injection hq with e1 e2;subst e1;subst e2;refine .inl ?_;have start:ZCU m R0 ⟨0,0,⟨[],d,[]⟩,[Znv part m[k].entries[q].at_ (-1) args],N,n0⟩:=by refine ⟨by show n0<=100000;omega,λ_=>⟨rfl,⟨fH,fM,by simp,by simp,by simp,λf hf=>?_⟩,by simp,hF⟩,λaC=>absurd rfl aC⟩;simp only[Yan,YaI,Yav,Ya4,or_false] at hf;subst hf;exact ⟨⟨k,hk,aB⟩,ek.1,by show m[k].entries[q].at_<=2000;omega,rfl,by simp[Znv],by simp[Znv]⟩
 refine ZaO (ι:=LS) (λi=>[(5,.g (.int (i.n:Int))),(16,.ptr 0 0),(12,.ptr 6 0)]) (λi=>MHr m i.e i.val i.o i.gs i.N [.blk [.g (.int 0),.g (.int 0),.nils,.nils,.nils] 48]) (ZCU m R0) (λi=>i.n)
  ⟨⟨0,0,⟨[],d,[]⟩,[Znv part m[k].entries[q].at_ (-1) args],N,n0⟩,[.old 4,.old 5,.old 6,.old 7,.old 8,.old 9,.old 1],⟨rfl,.inl rfl,.inr ⟨lkI fC,lk rfl,lk rfl,trivial⟩,rfl⟩,start⟩ ?_
 rintro Rd aj ⟨e1,kW,o1,pt,N1,n1⟩ hinv;have ql:∀{n:Nat},¬((n:Int)=0)->∃n',n=n'+1:=fun {n} h=>⟨n - 1,by omega⟩;have ym:n1<=100000:=hinv.1;by_cases h0:e1=0
 ·obtain ⟨hv,ok,aC,hit⟩:kW=0/\SOk m o1 (pt.map Fr.f)/\pt≠[]/\ZgB m n1 o1 (pt.map Fr.f)=R0:=hinv.2.1 h0;obtain ⟨pre,t,pW⟩:∃pre t,pt=pre++[t]:=by
   rcases Yb4 pt with h | ⟨pre,t,h⟩
   ·exact absurd h aC
   ·exact ⟨pre,t,by rw[h,YbF]⟩
  subst h0;subst hv;subst pW;refine ⟨λ_=>?_,λhx=>absurd rfl hx⟩;refine ⟨λhz=>?_,λhz=>?_⟩
  ·refine .inl ?_;refine .inl ?_;refine ⟨rfl,ZbN (.inl ?_)⟩;show D.tuple [.agg [.g (.int 3),.g (.int 0),.g (.sl 1 (o1.told.map ZaU)),.g (.sl 1 (o1.data.map ZaU)),.g (.sl 7 (o1.calls.map Nt.g))],.g (.int 0)]=_;have k6:(n1:Int)=0:=hz;have jw:n1=0:=by omega
   rw[e,hV,<- hit,jw];rfl
  ·obtain ⟨n2,iY⟩:=ql hz;subst iY;rw[Yaf,Yan,YaI,ZhR] at hit;have iQ:=ZlB (m:=m) (o:=o1) (pre:=pre.map Fr.f) (t:=t.f) (by rw[Yaf] at ok;exact ok);refine ZBq Zyy [.blk [.g (.int 0),.g (.int 0),.nils,.nils,.nils] 48] (ZvW m o1 pre t N1 ok) rfl rfl rfl rfl (λo2 qg N2 hx=>?_) (λc v o2 qg N2 hx=>?_)
   ·rw[hx] at hit iQ;refine .inl ?_;refine ⟨(by unfold I64;omega:I64 (((n2+1:Nat):Int) - 1)),?_⟩;exact aj _ _ _ ⟨⟨0,0,o2,qg,N2,n2⟩,[.old 0,.old 7,.old 8,.old 9,.old 10,.old 11,.old 6],⟨rfl,.inl rfl,.inr ⟨lkI (by push_cast;omega),lk rfl,lk rfl,trivial⟩,rfl⟩,⟨by show n2<=100000;omega,λ_=>⟨rfl,iQ.1,λhq=>iQ.2 (by rw[show qg=[] from hq];rfl),hit⟩,λhq=>absurd rfl hq⟩,YbR n2⟩
   ·rw[hx] at hit iQ;refine .inl ?_;refine ⟨(by unfold I64;omega:I64 (((n2+1:Nat):Int) - 1)),?_⟩;exact aj _ _ _ ⟨⟨c,v,o2,qg,N2,n2⟩,[.old 0,.old 7,.old 8,.old 9,.old 10,.old 11,.old 6],⟨rfl,.inl rfl,.inr ⟨lkI (by push_cast;omega),lk rfl,lk rfl,trivial⟩,rfl⟩,⟨by show n2<=100000;omega,λhq=>absurd hq iQ,λ_=>hit.symm⟩,YbR n2⟩
 ·have hR:R0=(e1,kW,o1):=hinv.2.2 h0;refine ⟨λhx=>absurd hx h0,λ_=>?_⟩;refine .inl ?_;refine ⟨rfl,ZbN (.inl ?_)⟩;show D.tuple [.agg [.g (.int e1),.g (.int kW),.g (.sl 1 (o1.told.map ZaU)),.g (.sl 1 (o1.data.map ZaU)),.g (.sl 7 (o1.calls.map Nt.g))],.g (.int 0)]=_;rw[e,hV,hR];rfl
end ZN
namespace Barb
open Go Go.Dm Go.Eng ZN
structure NoteOk (m:Zax) (n:Nt):Prop where
 part:0<=n.part/\n.part < m.length
 entry:0<=n.entry/\n.entry < (m.getD n.part.toNat Zc3).entries.length
 args:((m.getD n.part.toNat Zc3).entries.getD n.entry.toNat ZeY).params=n.args.length
 deep:1<=n.deep/\n.deep<=20
 val:n.done=false->n.value=0
def R.all (P:MO->Prop):R->Prop
 | .go o fs=>P o/\fs≠[]
 | .stop c _ o=>P o/\1<=c/\c<=6/\c≠3
theorem Znl {P:MO->Prop} {o:MO} (h:P o) (pre:List PF) (t:PF) (n:Int):(Zgj o pre t n).all P:=by
 unfold Zgj;split
 ·exact ⟨h,by decide,by decide,by decide⟩
 ·exact ⟨h,by simp⟩
theorem Zh3 {P:MO->Prop} {o:MO} (h:P o) (fs:List PF) (part at_ noted:Int) (args:List Int):(ZdB o fs part at_ noted args).all P:=by
 unfold ZdB;split
 ·exact ⟨h,by decide,by decide,by decide⟩
 ·exact ⟨h,by simp⟩
structure KeepAt (P:MO->Prop) (o:MO):Prop where
 told:∀x,P { o with told:=o.told++[x] }
 data:∀i v,P { o with data:=o.data.set i v }
 note:∀k v,P (Zdu o k v)
def ZDb (P:MO->Prop):Prop:=∀o,P o->KeepAt P o
theorem Zwz {P:MO->Prop} {o:MO} (hk:KeepAt P o) (h:P o) (p:Part) (i:Instr) (pre:List PF) (t:PF):(Zr3 p i o pre t).all P:=by
 unfold Zr3
 (repeat' split)
 ·exact ⟨h,by decide,by decide,by decide⟩
 ·exact ⟨h,by simp⟩
 ·exact ⟨h,by decide,by decide,by decide⟩
 ·exact ⟨h,by decide,by decide,by decide⟩
 ·exact ⟨hk.data _ _,by simp⟩
 ·exact ⟨h,by decide,by decide,by decide⟩
theorem Zwc {P:MO->Prop} {o:MO} (hk:KeepAt P o) (h:P o) (pre:List PF) (t:PF):(retS o pre t).all P:=by
 unfold retS;split
 ·exact ⟨h,by decide,by decide,by decide⟩
 ·dsimp only;split
  ·exact ⟨hk.note _ _,by decide,by decide,by decide⟩
  ·exact Znl (hk.note _ _) _ _ _
theorem ZvB {P:MO->Prop} {o:MO} (hk:KeepAt P o) (h:P o) (i:Instr) (pre:List PF) (t:PF):(ZmN i o pre t).all P:=by
 unfold ZmN;dsimp only
 (repeat' split)
 all_goals first
  | exact Znl h _ _ _
  | exact ⟨h,by decide,by decide,by decide⟩
  | exact ⟨h,by simp⟩
  | exact ⟨hk.told _,by simp⟩
theorem ZuA {m:Zax} {P:MO->Prop} {o:MO} (h:P o) (i:Instr) (pre:List PF) (t:PF) (ha:0<=i.a/\0<=i.b/\0<=i.c) (hd:pre.length+1<=20)
  (hc:∀n:Nt,NoteOk m n->P { o with calls:=o.calls++[n] }):(ZiF m i o pre t).all P:=by
 unfold ZiF;split
 ·exact ⟨h,by decide,by decide,by decide⟩
 ·rename_i hw;split
  ·exact ⟨h,by decide,by decide,by decide⟩
  ·rename_i hb;dsimp only;split
   ·refine Zh3 (hc _ ?_) _ _ _ _ _;unfold Zeo at hb;have hp:i.a < m.length:=by omega
    have he:i.b < ((m.getD i.a.toNat Zc3).entries.length:Nat):=by omega
    have hq:((m.getD i.a.toNat Zc3).entries.getD i.b.toNat ZeY).params=i.c:=YaN λhh=>hb (.inr (.inr hh));refine ⟨⟨ha.1,hp⟩,⟨ha.2.1,he⟩,?_,⟨by show (1:Int)<=((pre.length+1:Nat):Int);omega,by show ((pre.length+1:Nat):Int)<=20;omega⟩,λ_=>rfl⟩;show ((m.getD i.a.toNat Zc3).entries.getD i.b.toNat ZeY).params=((t.off i.c.toNat).length:Int);rw[hq];unfold PF.off;rw[YaM];omega
   ·exact Zh3 h _ _ _ _ _
theorem Zxb {m:Zax} {P:MO->Prop} {o:MO} (hk:KeepAt P o) (h:P o) (i:Instr) (pre:List PF) (t:PF) (ha:0<=i.a/\0<=i.b/\0<=i.c) (hd:pre.length+1<=20)
  (hc:∀n:Nt,NoteOk m n->P { o with calls:=o.calls++[n] }):(Zmx m i o pre t).all P:=by
 unfold Zmx
 (repeat' split)
 all_goals first
  | exact ZuA h i pre t ha hd hc
  | exact Zwc hk h pre t
  | exact Zh3 h _ _ _ _ _
  | exact ⟨h,by decide,by decide,by decide⟩
  | exact ⟨h,by simp⟩
theorem Zsg {m:Zax} (hi:Zi1 m=0) (k at_:Nat) (hk:k < m.length):0<=((m.getD k Zc3).code.getD at_ ZeX).a/\0<=((m.getD k Zc3).code.getD at_ ZeX).b/\0<=((m.getD k Zc3).code.getD at_ ZeX).c:=by
 obtain ⟨_,_,h2,_⟩:=ZgJ hi hk;rw[show m.getD k Zc3=m[k] by simp[hk]];by_cases ha:at_ < m[k].code.length
 ·rw[show m[k].code.getD at_ ZeX=m[k].code[at_] by simp[ha]];have:=h2 _ (Yai ha);unfold Zbz at this;by_cases h1:¬(1<=m[k].code[at_].op/\m[k].code[at_].op<=15)
  ·rw[if_pos h1] at this;omega
  rw[if_neg h1] at this;by_cases h3:Zb6 m[k].code[at_]
  ·rw[if_pos h3] at this;omega
  unfold Zb6 at h3;omega
 ·rw[show m[k].code.getD at_ ZeX=ZeX by rw[YaG,Ya9 (by omega)];rfl];decide
theorem Zm2 {m:Zax} {P:MO->Prop} {o:MO} (hk:KeepAt P o) {pre:List PF} {t:PF} (ok:SOk m o (pre++[t])) (h:P o) (hc:∀n,NoteOk m n->P { o with calls:=o.calls++[n] }):(Barb.stepS m o pre t).all P:=by
 have hd:=ok.deep;rw[Yab,List.length_singleton] at hd;obtain ⟨⟨k,iU,aB⟩,_,_,_,_,_⟩:=ok.frs t (by simp);unfold Barb.stepS;dsimp only;split
 ·exact ⟨h,by decide,by decide,by decide⟩
 ·have hz:=Zsg ok.img k t.at_.toNat aB;rw[iU,Int.toNat_natCast];split
  ·exact Zwz hk h _ _ _ _
  ·split
   ·exact Zxb hk h _ _ _ hz hd hc
   ·exact ZvB hk h _ _ _
theorem Zk2 {α:Type} (l:List α) (h:l≠[]):∃pre t,l=pre++[t]:=⟨l.dropLast,l.getLast h,(List.dropLast_concat_getLast h).symm⟩
theorem ZnF {m:Zax} {P:MO->Prop} (hk:ZDb P) (hc:∀o n,P o->NoteOk m n->P { o with calls:=o.calls++[n] }):∀(n:Nat) (o:MO) (fs:List PF),SOk m o fs->fs≠[]->P o->P (ZgB m n o fs).2.2/\1<=(ZgB m n o fs).1
 | 0,o,fs,_,_,h=>⟨h,(by decide:(1:Int)<=3)⟩
 | n+1,o,fs,ok,aC,h=>by
  obtain ⟨pre,t,rfl⟩:=Zk2 fs aC;rw[ZhR];have hs:=Zm2 (hk o h) ok h (λn hn=>hc o n h hn);have ho:=ZlB ok;cases hx:Barb.stepS m o pre t with
  | go o' cQ =>rw[hx] at hs ho;exact ZnF hk hc n o' cQ ho.1 hs.2 hs.1
  | stop c v o' =>rw[hx] at hs;exact ⟨hs.1,hs.2.1⟩
structure Hid (n:Nat) (d1 d2:List Int) (a b:MO):Prop where
 told:a.told=b.told
 one:a.data.take n=d1
 two:b.data.take n=d2
 own:a.data.drop n=b.data.drop n
def RH (n:Nat) (d1 d2:List Int) (K:Int):R->R->Prop
 | .go a fs,.go b gs=>Hid n d1 d2 a b/\fs=gs/\∀f∈fs,f.part=K
 | .stop c v a,.stop c' v' b=>c=c'/\v=v'/\Hid n d1 d2 a b
 | _,_=>False
section
variable {n:Nat} {d1 d2:List Int} {K:Int} {a b:MO}
theorem Hid.at_ (h:Hid n d1 d2 a b) {i:Nat} (hi:n<=i):a.data.getD i 0=b.data.getD i 0:=by
 have e:∀l:List Int,l.getD i 0=(l.drop n).getD (i - n) 0:=λl=>by rw[YaG,YaG,YaT,show n+(i - n)=i by omega]
 rw[e,e,h.own]
theorem Hid.set (h:Hid n d1 d2 a b) {i:Nat} (hi:n<=i) (v:Int):Hid n d1 d2 { a with data:=a.data.set i v } { b with data:=b.data.set i v }:=by
 have e1:∀l:List Int,(l.set i v).take n=l.take n:=λl=>by
  apply Ybx;intro j;rw[Ybh,Ybh];split
  ·rw[YaV (by omega)]
  ·rfl
 have e2:∀l:List Int,(l.set i v).drop n=(l.drop n).set (i - n) v:=λl=>by rw[List.drop_set,if_neg (by omega)]
 exact ⟨h.told,(e1 _).trans h.one,(e1 _).trans h.two,by rw[e2,e2,h.own]⟩
end
theorem Zk3 {m:Zax}:∀(n:Nat) {o:MO} {fs:List PF},SOk m o fs->(ZgB m n o fs).2.2.told.length<=501/\(ZgB m n o fs).2.2.data.length=o.data.length
 | 0,o,fs,ok=>⟨by have:=ok.told;show o.told.length<=501;omega,rfl⟩
 | n+1,o,fs,ok=>by
  by_cases aC:fs=[]
  ·subst aC;exact ⟨by have:=ok.told;show o.told.length<=501;omega,rfl⟩
  obtain ⟨pre,t,rfl⟩:=Zk2 fs aC;rw[ZhR];have hs:=Zm2 (P:=λo'=>o'.data.length=o.data.length/\o'.told.length<=501) (m:=m) ⟨λx=>⟨rfl,by have:=ok.told;simp;omega⟩,λ_ _=>⟨by simp,by have:=ok.told;show o.told.length<=501;omega⟩,λk v=>by have:=ok.told;unfold Zdu;split<;>exact ⟨rfl,by show o.told.length<=501;omega⟩⟩ ok ⟨rfl,by have:=ok.told;omega⟩ (λ_ _=>⟨rfl,by have:=ok.told;show o.told.length<=501;omega⟩);have ho:=ZlB ok;cases hx:Barb.stepS m o pre t with
  | go o' cQ =>rw[hx] at hs ho;obtain ⟨h1,h2⟩:=Zk3 n ho.1;exact ⟨h1,h2.trans hs.1.1⟩
  | stop c v o' =>rw[hx] at hs;exact ⟨hs.1.2,hs.1.1⟩
end Barb
