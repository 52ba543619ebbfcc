import Derived.Test.YthccmffgjchdmaaGreatDoorNFl
import Derived.Test.YthccmffgjchdmaaGreatDoorNPe
import Derived.Test.YthccmffgjchdmaaGreatDoorNPm
import Derived.Test.YthccmffgjchdmaaGreatDoorNQm
open Go Go.Proofs Go.Proofs.YthccmffgjchdmaaGreatDoor
namespace Barb
open Go Go.Dm Go.Eng ZN
structure Built (p:List Unit) (r:Raw):Prop where
 data:ZgI p (ZcL p r)=ZeL (ZcL p r)
 words:((ZeL (ZcL p r)).length:Int)=Zar p
 word:∀x∈ZeL (ZcL p r),Zgi x
theorem Zxf {p:List Unit} (hg:ZbC p=0) (r:Raw):Built p r:=by have h0:=Zkb hg r;obtain ⟨_,hl,hc⟩:=Zkd h0;exact ⟨by unfold ZgI;rw[if_pos h0],ZjV p _ hl hc,Zsm hl hc⟩
end Barb
namespace ZN
open Go Go.Dm Go.Eng Go.RowKit Barb
variable {L:Lv}
structure BuiltOk (p:List Barb.Unit) (r:Raw):Prop where
 good:ZbC p=0
 few:ZuS p
 len:p.length<=3
 data:ZgI p (ZcL p r)=ZeL (ZcL p r)
 words:((ZgI p (ZcL p r)).length:Int)=Zar p
 word:∀x∈ZgI p (ZcL p r),Zgi x
 dlen:(ZgI p (ZcL p r)).length<=190
 wlen:Zar p<=18
theorem Zvd (l:List Raw) (r:Raw):BuiltOk (Zbw l) r:=by have hP:=Zg4 l;have aE:=Znn hP;obtain ⟨d1,d2,d3⟩:=Zxf aE r;exact ⟨aE,Zqc hP,by rw[Zg5 hP];exact hP.m.2,d1,by rw[d1];exact d2,by rw[d1];exact d3,Zu1 _ _,by have h1:=(Zje hP.shape).2;have h2:=hP.m.2;have h3:=Zg5 hP;omega⟩
theorem Zvb (l:List Raw) (hI:∀r∈l,r.I) (hl:l.length*32<=140737488351232) (r:Raw) (hr:r.I) :
  CT Tryz.prog (gl L) 4 [.g (.sl 4 (l.map Raw.g)),.agg r.d] (Is (.tuple [.g (.sl 4 ((Zbw l).map Unit.g)),.agg (ZqF (Zcl (Zbw l))),.g (.sl 2 ((ZcL (Zbw l) r).map Cells.g)),.g (.sl 1 ((ZgI (Zbw l) (ZcL (Zbw l) r)).map ZaU)),.pb (ZfD (Zbw l)=0)])):=by
 obtain ⟨aE,fJ,_,_,_,_,wN,_⟩:=Zvd l r;have nZ:=Zpb aE fJ;have xk:=ZpN (L:=L) l hl hI;generalize Zbw l=p at *;have hC:=Zvu (L:=L) p (Zwj aE) r hr;have iv:=Zkb aE r;obtain ⟨_,bt,gL⟩:=Zkd iv;have h5:=(Zbk aE).1;have hD:=Zxr (L:=L) p nZ (ZcL p r) (ZzO aE bt gL) (by omega);rw[iv] at hD;have hL:=ZfC (L:=L) p nZ fJ;generalize ZcL p r=cs at *;generalize ZgI p cs=d at *;generalize Zcl p=m at *;generalize ZfD p=e at *;refine enter hT hF hM Tryz.func4 rfl 41 rfl (by kernel_rfl) [.tmp 4,.cell 5 28,.tmp 6,.tmp 7,.tmp 8] rfl [.g (.sl 4 (l.map Raw.g)),.agg r.d] rfl _ ?_;refine Zad (.inl rfl) xk ?_;refine Zad (.inl rfl) hC ?_;refine Zad (.inl rfl) hL ?_;refine Zad (.inl rfl) hD ?_;refine ⟨none,rfl,?_⟩;refine ⟨λg1=>?_,λg1=>?_⟩
 ·exact ⟨rfl,ZbN (.inr (.inr ⟨lk rfl,lk rfl,lk rfl,lk rfl,lkP ⟨λ_=>g1,λ_=>rfl⟩,trivial⟩))⟩
 ·exact ⟨rfl,ZbN (.inr (.inr ⟨lk rfl,lk rfl,lk rfl,lk rfl,Zqt ⟨λh=>absurd h (by decide),λh=>absurd h g1⟩,trivial⟩))⟩
end ZN
namespace Barb
open Go Go.Dm Go.Eng ZN
theorem Zom {many:Nat} {p:List Unit} (hP:Prog many p) (h:ZfD p=0):∃a,Zsu (Zcl p) 0 0=⟨a,2⟩/\(⟨a,2⟩:Entry)∈(Barb.partAt (Zcl p) 0).entries:=by
 have hg:=Znn hP;have pX:=(ZhX hg (Zqc hP)).1;have h1:Zk1 (Zb5 p)=0:=by unfold ZfD at h;rw[if_neg (λh'=>h' hg)] at h;exact h
 have e:Zcl p=Zcp (Zb5 p) (Zb5 p).length:=by unfold Zcl;rw[if_pos h,ZeJ]
 have bC:0 < p.length:=by have h1:=hP.m;have h2:=Zg5 hP;omega
 have hl:0 < (Zb5 p).length:=by rw[ZeJ];exact bC
 have hb:=Zrh pX hl;have hm:=(ZqK pX hl ⟨hb.1,hb.2.1⟩ (Zqz h1 hl)).many;have kJ:0 < (Zcp (Zb5 p) (Zb5 p).length).length:=by rw[ZeE];exact hl
 have bP:Barb.partAt (Zcl p) 0=Zkx (Zb5 p) 0:=by rw[e];exact (Barb.partAt_at kJ).trans (Zhe _ _ _ kJ)
 obtain ⟨i,l1,l2,l3,_,hs⟩:=(hP.shape _ (Yai bC)).ex;have vM:(Zb5 p)[0]=ZcE p[0]:=by simp[Zb5]
 have nY:(Zb5 p).getD 0 noU=ZcE p[0]:=by simp[Zb5,bC]
 rw[vM] at hm;have he:(Barb.partAt (Zcl p) 0).entries=ZdW (ZcE p[0]).funcs (ZiE (Zb5 p) (0:Nat) (ZaR (Zb5 p) 0)):=by rw[bP];unfold Zkx;rw[nY]
 rw[hs] at he hm;cases hA:ZiE (Zb5 p) (0:Nat) (ZaR (Zb5 p) 0) with
 | nil=>rw[hA] at hm;simp[ZcE] at hm
 | cons a rest =>rw[hA] at he;obtain ⟨es,wH⟩:∃es,(Barb.partAt (Zcl p) 0).entries=⟨a,2⟩ :: es:=⟨_,he⟩;have cz:=wH;refine ⟨a,?_,by rw[cz];exact Yae⟩;unfold Zsu;rw[cz];rfl
theorem Zvc {many:Nat} {p:List Unit} (hP:Prog many p) (h:ZfD p=0) (pU:Zi1 (Zcl p)=0) {d:List Int} (hd:(d.length:Int)=ZbX (Zcl p)) (hw:∀x∈d,Zgi x) (hl:0 < (Zcl p).length) {w:Int} (gz:0<=w/\w < 20) :
  ∃a,ZtF (Zcl p) d 0 0 [w,1] 20000=0/\Zv9 (Zcl p) d 0 0 [w,1] 20000=Znt (ZgB (Zcl p) 20000 ⟨[],d,[]⟩ [⟨0,a,p8 [w,1],[],-1⟩])/\SOk (Zcl p) ⟨[],d,[]⟩ [⟨0,a,p8 [w,1],[],-1⟩]:=by
 obtain ⟨a,eO,ax⟩:=Zom hP h;have wO:ZkH (Zcl p) d=0:=by unfold ZkH;rw[if_neg (λhh=>hh pU),if_neg (λhh=>hh hd)];exact ZkL hw
 have hE:ZtF (Zcl p) d 0 0 [w,1] 20000=0:=by
  have gn:0 < (Barb.partAt (Zcl p) 0).entries.length:=List.length_pos_of_mem ax;unfold ZtF;rw[if_neg (λhh=>hh wO),eO,if_neg (by omega),if_neg (by simp),if_neg];rintro (hh | hh | ⟨n,hn,hh⟩)
  ·omega
  ·omega
  ·refine hh ?_;simp only[Yav,Ya4,or_false] at hn;rcases hn with rfl | rfl
   ·exact ⟨by omega,by omega⟩
   ·exact ⟨by decide,by decide⟩
 have oL:=(ZgJ pU hl).2.2.2 ⟨a,2⟩ (by rw[<- Barb.partAt_at hl];exact ax);have bt:=(ZgJ pU hl).1;refine ⟨a,hE,?_,⟨pU,hd,by simp,by simp,by simp,λf hf=>?_⟩⟩
 ·unfold Zv9;rw[if_pos hE,eO];rfl
 ·rw[Yaz.1 hf];exact ⟨⟨0,rfl,hl⟩,oL.1,by have:=oL.2.1;show a<=2000;dsimp only at this;omega,by simp[p8],by simp,by show (-1:Int) < _;simp⟩
end Barb
