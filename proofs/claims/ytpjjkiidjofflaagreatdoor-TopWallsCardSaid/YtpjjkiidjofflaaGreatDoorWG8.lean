import Derived.Test.YtpjjkiidjofflaaGreatDoorWG7
import Derived.Test.YtpjjkiidjofflaaGreatDoorWGh
import Derived.Test.YtpjjkiidjofflaaGreatDoorWB1
import Derived.Test.YtpjjkiidjofflaaGreatDoorWWd
import Derived.WalkKit
import Derived.BigCall
import Derived.RegionTactic
import Derived.Test.YtpjjkiidjofflaaGreatDoorWG6
import Derived.Test.YtpjjkiidjofflaaGreatDoorWG1
import Derived.Test.YtpjjkiidjofflaaGreatDoorWG2
open Go Go.Proofs Go.Proofs.YtpjjkiidjofflaaGreatDoor
namespace Go.Dm
open Go Go.Eng Go.RowKit
end Go.Dm
namespace ZN
open Go Go.Dm Go.Eng Go.RowKit
theorem Zx5 (w:World) (g g2 n cap:Nat) (hn:n < 1000000) (hc:w.cell? ⟨g,6,none⟩=some (.slice (some ⟨g2,0,none⟩) (n+1) cap)) :
  Calls Tryz.prog 51 #[.pointer (some ⟨g,0,none⟩)] w λe w'=>e=.returned (.pointer (some ⟨g2,n*12,none⟩))/\Fr (λ_=>False) w w':=by
 go_enter Tryz.func51,Tryz.ntmps51
 go_wp2
 go_region
 go_wp2
 go_ret
 exact ⟨rfl,rfl,rfl,rfl,Yax _,λ_ _ _=>rfl⟩
theorem ZfY {h:Zad} {j k n:Nat} {cs:List D} {t e:TypeId} {xs:List (List GV)} (hj:h[j]?=some (.blk cs t)) (hc:cs[6]?=some (.row k)) (hk:h[k]?=some (.row xs e 12)) (hx:xs.length=n+1) (hn:n < 1000000) :
  CTR Tryz.prog gl 51 [.ptr j 0] h (.el k n 0):=by
 intro C w β V vals _ hr hd;simp only[Zac] at hd;obtain ⟨v,us,rfl,h1,rfl⟩:=hd;simp only[Zaa,hj] at h1;obtain ⟨g,hb,rfl⟩:=h1;obtain ⟨g',vs,hb',hg,hcs⟩:=hr.obj j _ hj;have eg:g'=g:=by rw[hb] at hb';injection hb' with hb';injection hb' with hb';injection hb' with hb';exact hb'.symm
 subst eg;obtain ⟨v6,hv6,hr6⟩:=hcs.get hc;simp only[Zaa,hk] at hr6;obtain ⟨us,hown,_⟩:=hr.obj k _ hk;rcases hown.2 with ⟨_,h0⟩ | ⟨g2,cap,cur,hbk,_⟩
 ·omega
 have hcell:w.cell? ⟨g',6,none⟩=some (.slice (some ⟨g2,0,none⟩) (n+1) cap):=by rw[cell_of_row w _ _ _ _ _ hg,<- hx,<- hbk,<- hr6];simpa using hv6
 refine (Zx5 w g' g2 n cap hn hcell).mono λe w' he=>?_;obtain ⟨rfl,hf⟩:=he;obtain ⟨q1,q2⟩:=ZyS hr hf;refine ⟨q1,?_,q2⟩;simp only[Zaa,hk];exact ⟨by omega,g2,_,_,hbk,rfl⟩
end ZN
namespace Barb
open Go Go.Dm Go.Eng
end Barb
namespace ZN
open Go Go.Dm Go.Eng Go.RowKit Barb
abbrev MH (m:Zaf) (e val:Int) (o:MO) (fs:List Fr) (N:Ns):Zad :=
 [.blk [.g (.sl 4 (m.map Part.g)),.g (.int e),.g (.int val),.row 3,.row 2,.row 4,.row 5] 87,.many (fs.map fz) (MT N),.row (o.data.map Zat) 3 1,.row (o.told.map Zat) 3 1,.row (o.calls.map Nt.g) 98 7,
  .row (fs.map Fr.g) 123 12]
theorem tg5 (m:Zaf) (e val:Int) (o:MO) (fs:List Fr) (N:Ns):Zgd (MH m e val o fs N) 1 1 (ns5 N) :=
 ⟨trivial,Yac,Yad _ Yac,Yad _ (Yad _ Yac),Yad _ (Yad _ (Yad _ Yac)),trivial⟩
theorem st5 {m:Zaf} {e val e' val':Int} {o o':MO} {fs fs':List Fr} {N:Ns} (h1:o.data.length=o'.data.length) (h2:o.told.length=o'.told.length) (h3:o.calls.length=o'.calls.length) (h4:fs.length=fs'.length):Zhp (MH m e val o fs N) (MH m e' val' o' fs' N) 1 1 (ns5 N) :=
 ⟨trivial,Yac,⟨⟨by simpa using h1,rfl⟩,rfl⟩,Yad _ Yac,⟨⟨by simpa using h2,rfl⟩,rfl⟩,Yad _ (Yad _ Yac),⟨⟨by simpa using h3,rfl⟩,rfl⟩,
  Yad _ (Yad _ (Yad _ Yac)),⟨⟨by simpa using h4,rfl⟩,rfl⟩,trivial⟩
theorem tg4 (m:Zaf) (e val:Int) (o:MO) (fs:List Fr) (N:Ns):Zgd (MH m e val o fs N) 1 1 (ns4 N) :=
 ⟨trivial,Yac,Yad _ Yac,Yad _ (Yad _ Yac),trivial⟩
theorem st4 {m:Zaf} {e val e' val':Int} {o o':MO} {fs fs':List Fr} {N:Ns} {f:Value} (h1:o.data.length=o'.data.length) (h2:o.told.length=o'.told.length) (h3:o.calls.length=o'.calls.length):Zhp (MH m e val o fs N) (MH m e' val' o' fs' (N.withF f)) 1 1 (ns4 N) :=
 ⟨trivial,Yac,⟨⟨by simpa using h1,rfl⟩,rfl⟩,Yad _ Yac,⟨⟨by simpa using h2,rfl⟩,rfl⟩,Yad _ (Yad _ Yac),⟨⟨by simpa using h3,rfl⟩,rfl⟩,trivial⟩
theorem ZaQ {R:D->Zad->Prop} {env:Dm.Env} {m:Zaf} {e val:Int} {o:MO} {fs:List Fr} {N:Ns} {h hin:Zad} {ns:List (Option Value)} {xs:List (List GV)} {l:List (Value × Ob0)} {told data calls:List (List GV)} {d0:D} (d:D) (src:List Src) (hok:ZdG src=true) (hlen:Zmt src (MH m e val o fs N)=true)
  (h0:conv h src 4 (env 0)=.ptr 0 0) (hd:conv h src 4 d0=d\/ZiV (Zjs src) 4 (conv h src 4 d0) d)
  (hT:Zbu h src=[.blk [.g (.sl 4 (m.map Part.g)),.g (.int e),.g (.int val),.row 3,.row 2,.row 4,.row 5] 87,.many l (MT N),.row data 3 1,.row told 3 1,.row calls 98 7,.row xs 123 12])
  (e1:data=o.data.map Zat) (e2:told=o.told.map Zat) (e3:calls=o.calls.map Nt.g) (e4:xs=fs.map Fr.g) (e5:l.Perm (fs.map fz)) (hst:Zhp hin (MH m e val o fs N) 1 1 ns) (q:R d (MH m e val o fs N)):ToH [0] hin 1 ns R h env d0:=by
 subst e1;subst e2;subst e3;subst e4;refine ⟨src,d,MH m e val o fs N,⟨hok,.inr ?_,.inr ?_,hlen⟩,rfl,hst,q⟩
 ·rw[hT];exact ⟨⟨rfl,.inl rfl⟩,⟨e5,rfl⟩,⟨rfl,rfl,rfl⟩,⟨rfl,rfl,rfl⟩,⟨rfl,rfl,rfl⟩,⟨rfl,rfl,rfl⟩,trivial⟩
 ·rw[Yar,Yar,Yar,h0];exact ⟨by rcases hd with hd | hd;exact lk hd;exact hd,lk rfl,trivial⟩
theorem ZfZ:fnOk Tryz.prog 51=true:=by kernel_rfl
def ZoQ (m:Zaf) (e val:Int) (o:MO) (pre:List Fr) (t:Fr) (N:Ns) (n:Int):Out->Prop:=λout=>if t.f.ws.length=40 then out=.ret (.g (.bool false)) (MH m e val o (pre++[t]) N) else
 ∃v',out=.ret (.g (.bool true)) (MH m e val o (pre++[t.ww (t.f.ws++[n]) v']) N)
theorem Zp3 (m:Zaf) (e val:Int) (o:MO) (pre:List Fr) (t:Fr) (N:Ns) (n:Int) (ht:t.ok) (hp:pre.length < 1000) :
  CTH Tryz.prog gl 68 6 (MH m e val o (pre++[t]) N) [.ptr 0 0,.g (.int n)] (ZoQ m e val o pre t N n):=by
 refine ZbT [] hT hF hM Tryz.func68 rfl 24 rfl (by kernel_rfl) [.tmp 4] rfl [.ptr 0 0,.g (.int n)] rfl (MH m e val o (pre++[t]) N) [0] rfl rfl rfl 1 (ns5 N) (tg5 _ _ _ _ _ _) _ ?_;refine ⟨ZfZ,.inr (Zru (ZfY rfl rfl rfl (n:=pre.length) (by simp) (by omega)) ?_)⟩;refine ⟨_,Zbb Fr.g pre t,Zh8 rfl (Fr.g_words ht.1) ?_⟩;refine .inr (ZxB 1 (pre.map fz) [] (.row (t.f.ws.map Zat) 3 1) rfl (by rw[Yai];rfl) (Ze2 ?_));have hw:=ht.2;have hwl:(t.f.ws.map Zat).length=t.f.ws.length:=Yab _;refine ⟨λh=>?_,λh=>?_⟩
 ·refine ⟨rfl,.inr (Zd2 1 6 t.v (.row (t.f.ws.map Zat) 3 1) rfl (.head _) rfl ⟨rfl,rfl,rfl⟩ (Ze2 (ZaQ (.g (.bool false)) (Zb9 0 1 2 3 4 5) rfl rfl rfl (.inl rfl) rfl rfl rfl rfl rfl ?_ (st5 rfl rfl rfl rfl) ?_)))⟩
  ·simp[fz,Fr.z]
  ·unfold ZoQ;rw[if_pos (by omega)]
 ·refine ⟨_,Zbb Fr.g pre t,Zh8 rfl (Fr.g_words ht.1) (.inr (Zy1 1 6 rfl (.head _) rfl (Ze2 ?_)))⟩;refine ⟨[[.int n]],rfl,rfl,⟨rfl,trivial⟩,?_⟩;refine ⟨⟨by simp[maxLen];omega,by simp;omega⟩,?_⟩;refine .inr (ZkQ 1 8 rfl rfl (λv'=>Ze2 ?_));refine ⟨_,[.raw v'],Zbb Fr.g pre t,⟨rfl,trivial⟩,by rw[Fr.g_len ht.1];decide,(λh=>by cases h),.inl ?_⟩;refine ⟨rfl,.inr (Zd2 1 8 v' (.row ((t.f.ws++[n]).map Zat) 3 1) rfl (.head _) rfl ⟨by simp[Zat],rfl,rfl⟩ (Ze2 (ZaQ (fs:=pre++[t.ww (t.f.ws++[n]) v']) (.g (.bool true)) (Zb9 0 1 2 3 4 5) rfl rfl rfl (.inl rfl) rfl rfl rfl rfl (ZfD Fr.g pre t _ _ (Fr.g_set_words ht.1 _ _).symm) ?_ (st5 rfl rfl rfl (ZpR _ _ _)) ?_)))⟩
  ·simp[fz,Fr.z,Fr.ww]
  ·unfold ZoQ;rw[if_neg (by omega)];exact ⟨v',rfl⟩
def ZAu (m:Zaf) (e val:Int) (o:MO) (pre:List Fr) (t:Fr) (N:Ns) (n:Nat):Out->Prop:=λout =>
 if t.f.ws.length < n then out=.ret (.tuple [.nils,.g (.bool false)]) (MH m e val o (pre++[t]) N) else
  ∃v',out=.ret (.tuple [.g (.sl 1 ((t.f.ws.drop (t.f.ws.length - n)).map Zat)),.g (.bool true)]) (MH m e val o (pre++[t.ww (t.f.ws.take (t.f.ws.length - n)) v']) N)
theorem ZyC (m:Zaf) (e val:Int) (o:MO) (pre:List Fr) (t:Fr) (N:Ns) (n:Nat) (ht:t.ok) (hp:pre.length < 1000) (hn:n < 1000) :
  CTH Tryz.prog gl 66 6 (MH m e val o (pre++[t]) N) [.ptr 0 0,.g (.int (n:Int))] (ZAu m e val o pre t N n):=by
 refine ZbT [] hT hF hM Tryz.func66 rfl 37 rfl (by kernel_rfl) [.tmp 4,.tmp 5] rfl [.ptr 0 0,.g (.int (n:Int))] rfl (MH m e val o (pre++[t]) N) [0] rfl rfl rfl 1 (ns5 N) (tg5 _ _ _ _ _ _) _ ?_;have hw:=ht.2;have hwl:(t.f.ws.map Zat).length=t.f.ws.length:=Yab _;refine ⟨ZfZ,.inr (Zru (ZfY rfl rfl rfl (n:=pre.length) (by simp) (by omega)) ?_)⟩;refine ⟨_,Zbb Fr.g pre t,Zh8 rfl (Fr.g_words ht.1) ?_⟩;refine .inr (ZxB 1 (pre.map fz) [] (.row (t.f.ws.map Zat) 3 1) rfl (by rw[Yai];rfl) (Ze2 ?_));refine ⟨by unfold I64;omega,?_⟩;refine ⟨λh=>?_,λh=>?_⟩
 ·refine ⟨rfl,.inr (Zd2 1 6 t.v (.row (t.f.ws.map Zat) 3 1) rfl (.head _) rfl ⟨rfl,rfl,rfl⟩ (Ze2 (ZaQ (.tuple [.nils,.g (.bool false)]) (Zb9 0 1 2 3 4 5) rfl rfl rfl (.inl rfl) rfl rfl rfl rfl rfl ?_ (st5 rfl rfl rfl rfl) ?_)))⟩
  ·simp[fz,Fr.z]
  ·unfold ZAu;rw[if_pos (by omega)]
 ·obtain ⟨k,hk⟩:∃k:Nat,t.f.ws.length=k+n:=⟨t.f.ws.length - n,by omega⟩;have hsub:D.g (.int (((t.f.ws.map Zat).length:Int) - (n:Int)))=D.g (.int (k:Int)):=by rw[hwl,hk];congr 2;omega
  refine ⟨_,Zbb Fr.g pre t,Zh8 rfl (Fr.g_words ht.1) (.inr (Zy1 1 6 rfl (.head _) rfl (Ze2 ?_)))⟩;refine ⟨k,hsub,by omega,.inl ?_⟩;refine .inr (ZmL (.inl rfl) (Zeu _ ?_) ?_ ?_)
  ·simp;omega
  ·intro r hr g hg;obtain ⟨x,_,rfl⟩:=YaW.1 (YaU (YaH hr));rcases Yay.1 hg with rfl;trivial
  refine ⟨_,Zbb Fr.g pre t,Zh8 rfl (Fr.g_words ht.1) (.inr (Zy1 1 6 rfl (.head _) rfl (Ze2 ?_)))⟩;refine ⟨k,hsub,by omega,.inr (ZAY rfl (by omega) (ZkQ 1 8 rfl rfl (λv'=>Ze2 ?_)))⟩;refine ⟨_,[.raw v'],Zbb Fr.g pre t,⟨rfl,trivial⟩,by rw[Fr.g_len ht.1];decide,(λh=>by cases h),.inl ?_⟩;refine ⟨rfl,.inr (Zd2 1 8 v' (.row ((t.f.ws.take k).map Zat) 3 1) rfl (.head _) rfl ⟨by rw[YbE],rfl,rfl⟩ (Ze2 (ZaQ (fs:=pre++[t.ww (t.f.ws.take k) v']) (.tuple [.g (.sl 1 ((t.f.ws.drop k).map Zat)),.g (.bool true)]) (Zb9 0 1 2 3 4 5) rfl rfl rfl (.inl ?_) rfl rfl rfl rfl (ZfD Fr.g pre t _ _ (Fr.g_set_words ht.1 _ _).symm) ?_ (st5 rfl rfl rfl (ZpR _ _ _)) ?_)))⟩
  ·show D.tuple [.g (.sl 1 (((t.f.ws.map Zat).drop k).take _)),_]=_;rw[YaJ (by simp),YbF];rfl
  ·simp[fz,Fr.z,Fr.ww]
  ·unfold ZAu;rw[if_neg (by omega),show t.f.ws.length - n=k from by omega];exact ⟨v',rfl⟩
end ZN
namespace Barb
open Go Go.Dm Go.Eng
end Barb
namespace ZN
open Go Go.Dm Go.Eng Go.RowKit Barb
def ZjR (m:Zaf) (e val:Int) (o:MO) (fs:List Fr) (N:Ns) (part at_ noted:Int) (args:List Int):Out->Prop:=λout =>
 if fs.length=20 then out=.ret (.g (.int 5)) (MH m e val o fs N) else ∃f,out=.ret (.g (.int 0)) (MH m e val o (fs++[Znd part at_ noted args]) (N.withF f))
theorem ZnP (m:Zaf) (e val:Int) (o:MO) (fs:List Fr) (N:Ns) (part at_ noted:Int) (args:List Int) (hf:fs.length<=20) :
  CTH Tryz.prog gl 29 5 (MH m e val o fs N) [.ptr 0 0,.g (.int part),.g (.int at_),.g (.int noted),.g (.sl 1 (args.map Zat))] (ZjR m e val o fs N part at_ noted args):=by
 refine ZbT [] hT hF hM Tryz.func29 rfl 36 rfl (by kernel_rfl) [.tmp 10] rfl [.ptr 0 0,.g (.int part),.g (.int at_),.g (.int noted),.g (.sl 1 (args.map Zat))] rfl (MH m e val o fs N) [0] rfl rfl rfl 1 (ns4 N) (tg4 _ _ _ _ _ _) _ ?_;have hl:(fs.map Fr.g).length=fs.length:=Yab _;refine ⟨λh=>?_,λh=>?_⟩
 ·refine ⟨rfl,.inl (ZaQ (.g (.int 5)) (Zb9 0 1 2 3 4 5) rfl rfl rfl (.inl rfl) rfl rfl rfl rfl rfl (Yag _) (st4 rfl rfl rfl) ?_)⟩;unfold ZjR;rw[if_pos (by omega)]
 ·refine .inr (ZAU (Ze2 ?_));refine .inl ?_;refine .inl ?_;refine ⟨_,(Zxs args _ _ _ _).symm,?_⟩;refine ⟨some 9998,[10],rfl,?_⟩;refine ⟨[(Znd part at_ noted args).g],rfl,rfl,Zyk _ (Znd part at_ noted args).g,⟨_,rfl⟩,?_⟩;refine ⟨⟨by simp[maxLen];omega,by simp;omega⟩,?_⟩;refine .inr (ZdP 1 8 (λv=>[(N.d,2),(N.t,3),(N.c,4),(v,8)]) rfl rfl (λv t ht=>?_) (λv'=>Ze2 ?_))
  ·simp only[Yav,YaT,or_false] at ht ⊢;rcases ht with rfl | rfl | rfl | rfl<;>simp
  refine ⟨rfl,.inr (ZAV 1 3 1 (by decide) rfl (Ze2 (ZaQ (fs:=fs++[Znd part at_ noted args]) (N:=N.withF v') (.g (.int 0)) (Zb9 0 1 2 3 4 8) rfl rfl rfl (.inl rfl) rfl rfl rfl rfl ?_ ?_ (st4 rfl rfl rfl) ?_)))⟩
  ·simp
  ·simp[fz,Fr.z,Znd]
  ·unfold ZjR;rw[if_neg (by omega)];exact ⟨v',rfl⟩
theorem ZAv:fnOk Tryz.prog 67=true:=by kernel_rfl
theorem ZvY (m:Zaf) (e val:Int) (o:MO) (pre:List Fr) (t:Fr) (N:Ns) (k:Nat) (hk:k < m.length) (htk:t.f.part=(k:Int)) (at_:Int) (hp:pre.length < 1000) :
  CTH Tryz.prog gl 67 6 (MH m e val o (pre++[t]) N) [.ptr 0 0,.g (.int at_)] (λout=>out=.ret (.pb (ZfX m[k] at_)) (MH m e val o (pre++[t]) N)):=by
 refine ZbT [] hT hF hM Tryz.func67 rfl 28 rfl (by kernel_rfl) [.tmp 4] rfl [.ptr 0 0,.g (.int at_)] rfl (MH m e val o (pre++[t]) N) [0] rfl rfl rfl 1 (ns5 N) (tg5 _ _ _ _ _ _) _ ?_;refine ⟨none,rfl,?_⟩;refine ⟨ZfZ,_,λh' hx=>ZfY (hx _ _ rfl) rfl (hx _ _ rfl) (n:=pre.length) (by simp) (by omega),?_⟩;refine ⟨_,Zbb Fr.g pre t,?_⟩;refine ⟨k,_,(show D.g (.int t.f.part)=D.g (.int (k:Int)) by rw[htk]),gm hk,?_⟩;refine ⟨λh=>?_,λh=>?_⟩
 ·exact ⟨rfl,.inl (ZaQ _ (Zb9 0 1 2 3 4 5) rfl rfl rfl (.inr (lkP ⟨λh2=>⟨h,h2⟩,λh2=>h2.2⟩)) rfl rfl rfl rfl rfl (Yag _) (st5 rfl rfl rfl rfl) rfl)⟩
 ·exact ⟨rfl,.inl (ZaQ _ (Zb9 0 1 2 3 4 5) rfl rfl rfl (.inr (Zst ⟨λh2=>(by cases h2),λh2=>absurd h2.1 h⟩)) rfl rfl rfl rfl rfl (Yag _) (st5 rfl rfl rfl rfl) rfl)⟩
end ZN
namespace Barb
open Go Go.Dm Go.Eng ZN
end Barb
namespace Barb
open Go Go.Dm Go.Eng
end Barb
namespace ZN
open Go Go.Dm Go.Eng Go.RowKit Barb
theorem ZAt:fnOk Tryz.prog 66=true:=by kernel_rfl
theorem Ztv:fnOk Tryz.prog 68=true:=by kernel_rfl
theorem Zl5:fnOk Tryz.prog 29=true:=by kernel_rfl
def RQ (m:Zaf):R->Out->Prop
 | .go o fs,out=>∃(gs:List Fr) (N:Ns),gs.map Fr.f=fs/\out=.ret (.g (.int 0)) (MH m 0 0 o gs N)
 | .stop c v o,out=>∃(gs:List Fr) (N:Ns),out=.ret (.g (.int c)) (MH m 0 v o gs N)
theorem Zp5 {m:Zaf} {e val:Int} {o:MO} {pre:List Fr} {t:Fr} {N:Ns} {n:Nat} {out:Out} (h:ZAu m e val o pre t N n out):(t.f.ws.length < n/\out=.ret (.tuple [.nils,.g (.bool false)]) (MH m e val o (pre++[t]) N)) \/
  (n<=t.f.ws.length/\∃v',out=.ret (.tuple [.g (.sl 1 ((t.f.ws.drop (t.f.ws.length - n)).map Zat)),.g (.bool true)]) (MH m e val o (pre++[t.ww (t.f.ws.take (t.f.ws.length - n)) v']) N)):=by
 unfold ZAu at h;split at h
 ·exact .inl ⟨by assumption,h⟩
 ·exact .inr ⟨by omega,h⟩
abbrev MHr (m:Zaf) (e val:Int) (o:MO) (fs:List Fr) (N:Ns) (r:Zad):Zad :=
 .blk [.g (.sl 4 (m.map Part.g)),.g (.int e),.g (.int val),.row 3,.row 2,.row 4,.row 5] 87 :: .many (fs.map fz) (MT N) :: .row (o.data.map Zat) 3 1 :: .row (o.told.map Zat) 3 1 :: .row (o.calls.map Nt.g) 98 7 ::
  .row (fs.map Fr.g) 123 12 :: r
theorem ZAr (m m':Zaf) (e e' val val':Int) (o o':MO) (fs fs':List Fr) (N N':Ns) (r:Zad):Zhv (MHr m e val o fs N r) [0,1,2,3,4,5] 6 (MH m' e' val' o' fs' N')=MHr m' e' val' o' fs' N' r:=by unfold Zhv;simp only[Yar,YaS,Zlu];rw[show (0+1+1+1+1+1+1:Nat)=0+6 from rfl,ZgP];show _++[]=_;rw[YaF];rfl
theorem Zx4 (m:Zaf) (e val:Int) (o:MO) (fs:List Fr) (N:Ns) (r:Zad) (n:D) (hn:conv (MHr m e val o fs N r) (Zb9 0 1 2 3 4 5) 4 n=n):TurnTo (MHr m e val o fs N r) (Zb9 0 1 2 3 4 5) [.ptr 0 0,n] (MH m e val o fs N) [.ptr 0 0,n] :=
 ⟨rfl,.inl rfl,.inl (by rw[Yar,Yar,YaS,hn];rfl),rfl⟩
theorem ZeR {all:List D} {h:Zad} {K Qp:KD} {m:Zaf} {e val:Int} {o:MO} {pre:List Fr} {t:Fr} {N:Ns} {n:Nat} (r:Zad) (ht:t.ok) (hp:pre.length < 1000) (hn:n < 1000)
  (hh:h=MHr m e val o (pre++[t]) N r) (ha:all=[.ptr 0 0,.g (.int (n:Int))])
  (hno:t.f.ws.length < n->K (.tuple [.nils,.g (.bool false)]) (MHr m e val o (pre++[t]) N r))
  (hyes:∀v',n<=t.f.ws.length->K (.tuple [.g (.sl 1 ((t.f.ws.drop (t.f.ws.length - n)).map Zat)),.g (.bool true)]) (MHr m e val o (pre++[t.ww (t.f.ws.take (t.f.ws.length - n)) v']) N r)) :
  fnOk Tryz.prog 66=true/\(Zb7 Tryz.prog gl 66 all h K Qp\/ZbB Tryz.prog gl 66 all h K Qp):=by
 subst hh;subst ha;refine Zee [0,1,2,3,4,5] ZAt rfl rfl (Zx4 _ _ _ _ _ _ _ _ rfl) (ZyC m e val o pre t N n ht hp hn) (λd' h' hq=>?_) (λd' h' hq=>?_)
 ·rcases Zp5 hq with ⟨h1,h2⟩ | ⟨h1,v',h2⟩
  ·injection h2 with e1 e2;subst e1;subst e2;rw[ZAr];exact hno h1
  ·injection h2 with e1 e2;subst e1;subst e2;rw[ZAr];exact hyes v' h1
 ·rcases Zp5 hq with ⟨_,h2⟩ | ⟨_,v',h2⟩<;>cases h2
theorem ZfN {all:List D} {h:Zad} {K Qp:KD} {m:Zaf} {e val:Int} {o:MO} {pre:List Fr} {t:Fr} {N:Ns} {n:Int} (r:Zad) (ht:t.ok) (hp:pre.length < 1000)
  (hh:h=MHr m e val o (pre++[t]) N r) (ha:all=[.ptr 0 0,.g (.int n)])
  (hno:t.f.ws.length=40->K (.g (.bool false)) (MHr m e val o (pre++[t]) N r))
  (hyes:∀v',¬t.f.ws.length=40->K (.g (.bool true)) (MHr m e val o (pre++[t.ww (t.f.ws++[n]) v']) N r)) :
  fnOk Tryz.prog 68=true/\(Zb7 Tryz.prog gl 68 all h K Qp\/ZbB Tryz.prog gl 68 all h K Qp):=by
 subst hh;subst ha;refine Zee [0,1,2,3,4,5] Ztv rfl rfl (Zx4 _ _ _ _ _ _ _ _ rfl) (Zp3 m e val o pre t N n ht hp) (λd' h' hq=>?_) (λd' h' hq=>?_)
 ·unfold ZoQ at hq;split at hq
  ·injection hq with e1 e2;subst e1;subst e2;rw[ZAr];exact hno (by assumption)
  ·obtain ⟨v',hq⟩:=hq;injection hq with e1 e2;subst e1;subst e2;rw[ZAr];exact hyes v' (by assumption)
 ·unfold ZoQ at hq;split at hq
  ·cases hq
  ·obtain ⟨v',hq⟩:=hq;cases hq
theorem ZuQ {all:List D} {h:Zad} {K Qp:KD} {m:Zaf} {e val:Int} {o:MO} {pre:List Fr} {t:Fr} {N:Ns} {k:Nat} (r:Zad) (hk:k < m.length) (htk:t.f.part=(k:Int)) {at_:Int} (hp:pre.length < 1000)
  (hh:h=MHr m e val o (pre++[t]) N r) (ha:all=[.ptr 0 0,.g (.int at_)])
  (hyes:K (.pb (ZfX m[k] at_)) (MHr m e val o (pre++[t]) N r)) :
  fnOk Tryz.prog 67=true/\(Zb7 Tryz.prog gl 67 all h K Qp\/ZbB Tryz.prog gl 67 all h K Qp):=by subst hh;subst ha;refine Zee [0,1,2,3,4,5] ZAv rfl rfl (Zx4 _ _ _ _ _ _ _ _ rfl) (ZvY m e val o pre t N k hk htk at_ hp) (λd' h' hq=>?_) (λd' h' hq=>by cases hq);injection hq with e1 e2;subst e1;subst e2;rw[ZAr];exact hyes
theorem ZkG (m:Zaf) (o:MO) (pre:List Fr) (t:Fr) (N:Ns) (i:Instr) (k:Nat) (hk:k < m.length) (htk:t.f.part=(k:Int)) (himg:Zg5 m=0) (hd:(o.data.length:Int)=Zao m) (ht:t.ok) (hp:pre.length < 1000) :
  CTH Tryz.prog gl 52 1 (MH m 0 0 o (pre++[t]) N) [.ptr 0 0,.agg i.d] (RQ m (Zmu m[k] i o (pre.map Fr.f) t.f)):=by
 have hw:=ht.2
 suffices H:∀r:R,Zmu m[k] i o (pre.map Fr.f) t.f=r->CTH Tryz.prog gl 52 1 (MH m 0 0 o (pre++[t]) N) [.ptr 0 0,.agg i.d] (RQ m r) from H _ rfl
 intro r hr;have ok':∀(ws:List Int) (v:Value),ws.length<=40->(t.ww ws v).ok:=λws v h=>⟨ht.1,h⟩;refine ZbT [] hT hF hM Tryz.func52 rfl 69 rfl (by kernel_rfl) [.tmp 4] rfl [.ptr 0 0,.agg i.d] rfl (MH m 0 0 o (pre++[t]) N) [0] rfl rfl rfl 1 [] trivial _ ?_;refine ⟨λh6=>?_,λh6=>?_⟩
 ·refine ZeR (n:=1) [.blk i.d 127] ht hp (by decide) rfl rfl (λhl=>?_) (λv' hl=>?_)
  ·refine ⟨some 9999,[7,14],rfl,?_⟩;refine ⟨rfl,.inl (ZaQ (.g (.int 4)) (Zb9 0 1 2 3 4 5) rfl rfl rfl (.inl rfl) rfl rfl rfl rfl rfl (Yag _) trivial ?_)⟩;rw[<- hr];unfold Zmu;rw[if_pos h6,if_pos hl];exact ⟨_,_,rfl⟩
  ·obtain ⟨q,hlen⟩:∃q,t.f.ws.length=q+1:=⟨t.f.ws.length - 1,by omega⟩;obtain ⟨x,hx,hws⟩:=ZhB hlen;have hoff:t.f.off 1=[x]:=by unfold PF.off;rw[hlen];exact hx
   rw[show t.f.ws.length - 1=q from by omega,hx];have hmem:Zmu m[k] i o (pre.map Fr.f) t.f=if ZfX m[k] x then .go o (pre.map Fr.f++[t.f.ww ((t.f.on 1).ws++[o.data.getD x.toNat 0])]) else .stop 4 0 o:=by unfold Zmu;rw[if_pos h6,if_neg (by omega),hoff];rfl
   rw[hmem] at hr;refine ⟨some 9999,[7,14],rfl,?_⟩;refine ⟨0,[.int x],rfl,rfl,?_⟩;refine ZuQ (t:=t.ww (t.f.ws.take q) v') [.blk i.d 127] hk htk hp rfl rfl ?_;refine ⟨λho=>?_,λho=>?_⟩
   ·refine ⟨rfl,.inl (ZaQ (.g (.int 4)) (Zb9 0 1 2 3 4 5) rfl rfl rfl (.inl rfl) rfl rfl rfl rfl rfl (Yag _) trivial ?_)⟩;rw[<- hr,if_neg ho];exact ⟨_,_,rfl⟩
   ·obtain ⟨n,hxn,hn⟩:=Zqm himg hd hk ho;have dx:D.g (.int x)=D.g (.int (n:Int)):=by rw[hxn]
    rw[if_pos ho] at hr;have hln:(o.data.map Zat).length=o.data.length:=Yab _;refine ⟨0,[.int x],rfl,rfl,?_⟩;refine ⟨n,dx,by omega,?_⟩;refine ⟨_,gm hn,?_⟩;refine ZfN (t:=t.ww (t.f.ws.take q) v') [.blk i.d 127] (ok' _ _ (by simp;omega)) hp rfl rfl (λh40=>?_) (λv2 h40=>?_)
    ·exfalso;simp[Fr.ww] at h40;omega
    refine ⟨rfl,.inl (ZaQ (.g (.int 0)) (Zb9 0 1 2 3 4 5) rfl rfl rfl (.inl rfl) rfl rfl rfl rfl rfl (Yag _) trivial ?_)⟩;rw[<- hr];refine ⟨_,_,?_,rfl⟩;rw[Yai];show _++[t.f.ww (t.f.ws.take q++[o.data[n]])]=_++[t.f.ww (t.f.ws.take (t.f.ws.length - 1)++[_])];rw[show t.f.ws.length - 1=q from by omega];simp[hn,hxn]
 ·refine ZeR (n:=2) [.blk i.d 127] ht hp (by decide) rfl rfl (λhl=>?_) (λv' hl=>?_)
  ·refine ⟨rfl,.inl (ZaQ (.g (.int 4)) (Zb9 0 1 2 3 4 5) rfl rfl rfl (.inl rfl) rfl rfl rfl rfl rfl (Yag _) trivial ?_)⟩;rw[<- hr];unfold Zmu;rw[if_neg h6,if_pos hl];exact ⟨_,_,rfl⟩
  ·obtain ⟨q,hlen⟩:∃q,t.f.ws.length=q+2:=⟨t.f.ws.length - 2,by omega⟩;obtain ⟨x,y,hx,hws⟩:=ZoW hlen;have hoff:t.f.off 2=[x,y]:=by unfold PF.off;rw[hlen];exact hx
   rw[show t.f.ws.length - 2=q from by omega,hx];have hmem:Zmu m[k] i o (pre.map Fr.f) t.f=if ZfX m[k] x then .go { o with data:=o.data.set x.toNat y } (pre.map Fr.f++[t.f.on 2]) else .stop 4 0 o:=by unfold Zmu;rw[if_neg h6,if_neg (by omega),hoff];rfl
   rw[hmem] at hr;refine ⟨0,[.int x],rfl,rfl,?_⟩;refine ZuQ (t:=t.ww (t.f.ws.take q) v') [.blk i.d 127] hk htk hp rfl rfl ?_;refine ⟨λho=>?_,λho=>?_⟩
   ·refine ⟨rfl,.inl (ZaQ (.g (.int 4)) (Zb9 0 1 2 3 4 5) rfl rfl rfl (.inl rfl) rfl rfl rfl rfl rfl (Yag _) trivial ?_)⟩;rw[<- hr,if_neg ho];exact ⟨_,_,rfl⟩
   ·obtain ⟨n,hxn,hn⟩:=Zqm himg hd hk ho;have dx:D.g (.int x)=D.g (.int (n:Int)):=by rw[hxn]
    rw[if_pos ho] at hr;have hln:(o.data.map Zat).length=o.data.length:=Yab _;refine ⟨none,rfl,?_⟩;refine ⟨0,[.int x],rfl,rfl,?_⟩;refine ⟨1,[.int y],rfl,rfl,?_⟩;refine ⟨n,dx,by omega,?_⟩;refine ⟨_,[.int y],gm hn,⟨rfl,trivial⟩,Yax 1,(λh=>by cases h),?_⟩;refine ⟨rfl,.inl (ZaQ (o:={ o with data:=o.data.set n y }) (.g (.int 0)) (Zb9 0 1 2 3 4 5) rfl rfl rfl (.inl rfl) rfl ?_ rfl rfl rfl (Yag _) trivial ?_)⟩
    ·rw[Yb7];rfl
    rw[<- hr,hxn];refine ⟨_,_,?_,rfl⟩;rw[Yai];show _++[t.f.ww (t.f.ws.take q)]=_++[t.f.ww (t.f.ws.take (t.f.ws.length - 2))];rw[show t.f.ws.length - 2=q from by omega]
end ZN
namespace Barb
open Go Go.Dm Go.Eng ZN
end Barb
namespace Barb
open Go Go.Dm Go.Eng
end Barb
namespace ZN
open Go Go.Dm Go.Eng Go.RowKit Barb
abbrev MHf (m:Zaf) (e val:Int) (o:MO) (fs:List Fr) (N:Ns) (r:Zad):Zad :=
 .blk [.g (.sl 4 (m.map Part.g)),.g (.int e),.g (.int val),.row 3,.row 2,.row 4,.row (jx 5 r 5)] 87 :: .many (fs.map fz) [(N.d,2),(N.t,3),(N.c,4),(N.f,jx 5 r 5)] :: .row (o.data.map Zat) 3 1 :: .row (o.told.map Zat) 3 1 :: .row (o.calls.map Nt.g) 98 7 ::
  .dead :: (r++[.row (fs.map Fr.g) 123 12])
theorem ZCu (m m':Zaf) (e e' val val':Int) (o o':MO) (fs fs':List Fr) (N N':Ns) (r:Zad):Zhv (MHr m e val o fs N r) [0,1,2,3,4,5] 5 (MH m' e' val' o' fs' N')=MHf m' e' val' o' fs' N' r:=by unfold Zhv;simp only[Yar,YaS,Zlu];rw[show (0+1+1+1+1+1+1:Nat)=0+6 from rfl,ZgP];rfl
abbrev MHt (m:Zaf) (e val:Int) (o:MO) (fs:List Fr) (N:Ns) (r:Zad):Zad :=
 .blk [.g (.sl 4 (m.map Part.g)),.g (.int e),.g (.int val),.row (jx 1 r 3),.row (jx 1 r 2),.row (jx 1 r 4),.row (jx 1 r 5)] 87 :: .dead :: .dead :: .dead :: .dead :: .dead ::
  (r++[.many (fs.map fz) [(N.d,jx 1 r 2),(N.t,jx 1 r 3),(N.c,jx 1 r 4),(N.f,jx 1 r 5)],.row (o.data.map Zat) 3 1,.row (o.told.map Zat) 3 1,.row (o.calls.map Nt.g) 98 7,.row (fs.map Fr.g) 123 12])
theorem ZB0 (m m':Zaf) (e e' val val':Int) (o o':MO) (fs fs':List Fr) (N N':Ns) (r:Zad):Zhv (MHr m e val o fs N r) [0,1,2,3,4,5] 1 (MH m' e' val' o' fs' N')=MHt m' e' val' o' fs' N' r:=by unfold Zhv;simp only[Yar,YaS,Zlu];rw[show (0+1+1+1+1+1+1:Nat)=0+6 from rfl,ZgP];rfl
theorem ZsR (m:Zaf) (e val:Int) (o:MO) (fs:List Fr) (N:Ns) (r:Zad) (l:List D) (hn:l.map (conv (MHr m e val o fs N r) (Zb9 0 1 2 3 4 5) 4)=l):TurnTo (MHr m e val o fs N r) (Zb9 0 1 2 3 4 5) (.ptr 0 0 :: l) (MH m e val o fs N) (.ptr 0 0 :: l) :=
 ⟨rfl,.inl rfl,.inl (by rw[Yar,hn];rfl),rfl⟩
theorem Zn4 {all:List D} {h:Zad} {K Qp:KD} {m:Zaf} {e val:Int} {o:MO} {fs:List Fr} {N:Ns} {part at_ noted:Int} {args:List Int} (r:Zad) (hf:fs.length<=20)
  (hh:h=MHr m e val o fs N r) (ha:all=[.ptr 0 0,.g (.int part),.g (.int at_),.g (.int noted),.g (.sl 1 (args.map Zat))])
  (hno:fs.length=20->K (.g (.int 5)) (MHf m e val o fs N r))
  (hyes:∀f,¬fs.length=20->K (.g (.int 0)) (MHf m e val o (fs++[Znd part at_ noted args]) (N.withF f) r)) :
  fnOk Tryz.prog 29=true/\(Zb7 Tryz.prog gl 29 all h K Qp\/ZbB Tryz.prog gl 29 all h K Qp):=by
 subst hh;subst ha;refine Zee [0,1,2,3,4,5] Zl5 rfl rfl (ZsR _ _ _ _ _ _ _ _ rfl) (ZnP m e val o fs N part at_ noted args hf) (λd' h' hq=>?_) (λd' h' hq=>?_)
 ·unfold ZjR at hq;split at hq
  ·injection hq with e1 e2;subst e1;subst e2;rw[ZCu];exact hno (by assumption)
  ·obtain ⟨v',hq⟩:=hq;injection hq with e1 e2;subst e1;subst e2;rw[ZCu];exact hyes v' (by assumption)
 ·unfold ZjR at hq;split at hq
  ·cases hq
  ·obtain ⟨v',hq⟩:=hq;cases hq
theorem Zu8 {m:Zaf} {x:R} {out:Out} (h:RQ m x out):∃c v o gs N,out=.ret (.g (.int c)) (MH m 0 v o gs N):=by
 cases x with
 | go o fs=>obtain ⟨gs,N,_,h⟩:=h;exact ⟨_,_,_,_,_,h⟩
 | stop c v o=>obtain ⟨gs,N,h⟩:=h;exact ⟨_,_,_,_,_,h⟩
theorem Zfr {g:FuncId} (hg:fnOk Tryz.prog g=true) {l all:List D} {h:Zad} {K Qp:KD} {m:Zaf} {e val:Int} {o:MO} {fs:List Fr} {N:Ns} {x:R} (r:Zad)
  (hct:CTH Tryz.prog gl g 1 (MH m e val o fs N) (.ptr 0 0 :: l) (RQ m x)) (hn:l.map (conv (MHr m e val o fs N r) (Zb9 0 1 2 3 4 5) 4)=l) (hl:Zgw (MHr m e val o fs N r) [0,1,2,3,4,5] (.ptr 0 0 :: l)=true)
  (hh:h=MHr m e val o fs N r) (ha:all=.ptr 0 0 :: l)
  (hyes:∀c v o' gs N',RQ m x (.ret (.g (.int c)) (MH m 0 v o' gs N'))->K (.g (.int c)) (MHt m 0 v o' gs N' r)) :
  fnOk Tryz.prog g=true/\(Zb7 Tryz.prog gl g all h K Qp\/ZbB Tryz.prog gl g all h K Qp):=by
 subst hh;subst ha;refine Zee [0,1,2,3,4,5] hg hl rfl (ZsR _ _ _ _ _ _ _ _ hn) hct (λd' h' hq=>?_) (λd' h' hq=>?_)
 ·obtain ⟨c,v,o',gs,N',he⟩:=Zu8 hq;injection he with e1 e2;subst e1;subst e2;rw[ZB0];exact hyes c v o' gs N' hq
 ·obtain ⟨c,v,o',gs,N',he⟩:=Zu8 hq;cases he
set_option maxRecDepth 20000 in
theorem ZrH (m:Zaf) (o:MO) (pre:List Fr) (t:Fr) (N:Ns) (i:Instr) (hi:ZaM i=0) (_hop:i.op=1\/i.op=2\/i.op=3\/i.op=4\/i.op=5\/i.op=8\/i.op=14) (hto:o.told.length<=500) (ht:t.ok) (hp:pre.length < 1000) :
  CTH Tryz.prog gl 54 1 (MH m 0 0 o (pre++[t]) N) [.ptr 0 0,.agg i.d] (RQ m (Zis i o (pre.map Fr.f) t.f)):=by
 have hw:=ht.2;obtain ⟨i1,i2,i3,i4,i5,i6,i7,i8,i9⟩:=ZdM hi
 suffices H:∀r:R,Zis i o (pre.map Fr.f) t.f=r->CTH Tryz.prog gl 54 1 (MH m 0 0 o (pre++[t]) N) [.ptr 0 0,.agg i.d] (RQ m r) from H _ rfl
 intro r hr;have got:∀{d:D} {gs:List Fr} {N':Ns} {o':MO} {fs:List PF},Zis i o (pre.map Fr.f) t.f=.go o' fs->gs.map Fr.f=fs->d=.g (.int 0)->RQ m r (.ret d (MH m 0 0 o' gs N')):=λh1 h2 h3=>by subst h3;rw[<- hr,h1];exact ⟨_,_,h2,rfl⟩
 have bad:∀{c v:Int} {gs:List Fr} {N':Ns},Zis i o (pre.map Fr.f) t.f=.stop c v o->RQ m r (.ret (.g (.int c)) (MH m 0 v o gs N')):=λh1=>by rw[<- hr,h1];exact ⟨_,_,rfl⟩
 have mapz:∀(x:Fr),(pre++[x]).map Fr.f=pre.map Fr.f++[x.f]:=λx=>by rw[Yai];rfl
 refine ZbT [] hT hF hM Tryz.func54 rfl 117 rfl (by kernel_rfl) [.tmp 4] rfl [.ptr 0 0,.agg i.d] rfl (MH m 0 0 o (pre++[t]) N) [0] rfl rfl rfl 1 [] trivial _ ?_;refine ⟨λh1=>?_,λh1=>?_⟩
 ·refine ⟨λh4=>absurd h4 (by omega),λ_=>?_⟩;refine ZfN [.blk i.d 127] ht hp rfl rfl (λh40=>?_) (λv' h40=>?_)
  ·refine ⟨rfl,.inl (ZaQ (.g (.int 4)) (Zb9 0 1 2 3 4 5) rfl rfl rfl (.inl rfl) rfl rfl rfl rfl rfl (Yag _) trivial (bad ?_))⟩;unfold Zis ZcV;rw[if_pos h1,if_pos h40]
  ·refine ⟨rfl,.inl (ZaQ (.g (.int 0)) (Zb9 0 1 2 3 4 5) rfl rfl rfl (.inl rfl) rfl rfl rfl rfl rfl (Yag _) trivial (got ?_ (mapz _) rfl))⟩;unfold Zis ZcV;rw[if_pos h1,if_neg h40];rfl
 refine ⟨λh4=>?_,λh4=>?_⟩
 ·refine ⟨λ_=>?_,λh=>absurd h4 h⟩;obtain ⟨a,ha⟩:∃a:Nat,i.a=(a:Int):=⟨i.a.toNat,by omega⟩;have ha8:a < 8:=by have:bdA 4=7:=rfl;rw[h4] at i4;omega
  have hal:a < t.f.locs.length:=by rw[ht.1];exact ha8
  refine ⟨none,rfl,?_⟩;refine ⟨ZfZ,_,λh' hx=>ZfY (hx _ _ rfl) rfl (hx _ _ rfl) (n:=pre.length) (by simp) (by omega),?_⟩;refine ⟨a,congrArg (λz=>D.g (.int z)) ha,ha8,?_⟩;refine ⟨_,Zbb Fr.g pre t,Zh8 rfl (Fr.g_at2 ht.1 (Yaq hal)) ?_⟩;have hg:t.f.locs.getD i.a.toNat 0=t.f.locs[a]:=by rw[ha];simp[hal]
  refine ZfN [.blk i.d 127] ht hp rfl rfl (λh40=>?_) (λv' h40=>?_)
  ·refine ⟨rfl,.inl (ZaQ (.g (.int 4)) (Zb9 0 1 2 3 4 5) rfl rfl rfl (.inl rfl) rfl rfl rfl rfl rfl (Yag _) trivial (bad ?_))⟩;unfold Zis ZcV;rw[if_neg h1,if_pos h4,if_pos h40]
  ·refine ⟨rfl,.inl (ZaQ (.g (.int 0)) (Zb9 0 1 2 3 4 5) rfl rfl rfl (.inl rfl) rfl rfl rfl rfl rfl (Yag _) trivial (got ?_ (mapz _) rfl))⟩;unfold Zis ZcV;rw[if_neg h1,if_pos h4,if_neg h40,hg];rfl
 refine ⟨λh8=>?_,λh8=>?_⟩
 ·have e:Zis i o (pre.map Fr.f) t.f=if t.f.ws.length < 2 then .stop 4 0 o else .go o (pre.map Fr.f++[t.f.ww ((t.f.on 2).ws++[doI i.a ((t.f.off 2).getD 0 0) ((t.f.off 2).getD 1 0)])]):=by unfold Zis;rw[if_neg h1,if_neg h4];simp only[h8,if_true];rfl
  refine ZeR (n:=2) [.blk i.d 127] ht hp (by decide) rfl rfl (λhl=>?_) (λv' hl=>?_)
  ·refine ⟨rfl,.inl (ZaQ (.g (.int 4)) (Zb9 0 1 2 3 4 5) rfl rfl rfl (.inl rfl) rfl rfl rfl rfl rfl (Yag _) trivial (bad ?_))⟩;rw[e,if_pos hl]
  ·obtain ⟨q,hlen⟩:∃q,t.f.ws.length=q+2:=⟨t.f.ws.length - 2,by omega⟩;obtain ⟨x,y,hx,hws⟩:=ZoW hlen;have hoff:t.f.off 2=[x,y]:=by unfold PF.off;rw[hlen];exact hx
   rw[if_neg (by omega),hoff] at e;rw[show t.f.ws.length - 2=q from by omega,hx];refine ⟨λh=>absurd h (by omega),λ_=>?_⟩;refine ⟨λh=>absurd h (by omega),λ_=>?_⟩;refine ⟨λh=>absurd h (by omega),λ_=>?_⟩;refine ⟨λ_=>?_,λh=>absurd h8 h⟩;refine ⟨none,rfl,?_⟩;refine ⟨0,[.int x],rfl,rfl,?_⟩;refine ⟨1,[.int y],rfl,rfl,?_⟩;refine ⟨_,_,.inl rfl,Zvc i.a x y,rfl,?_⟩;refine ZfN (t:=t.ww (t.f.ws.take q) v') [.blk i.d 127] ⟨ht.1,by simp[Fr.ww];omega⟩ hp rfl rfl (λh40=>?_) (λv2 h40=>?_)
   ·exfalso;simp[Fr.ww] at h40;omega
   refine ⟨rfl,.inl (ZaQ (.g (.int 0)) (Zb9 0 1 2 3 4 5) rfl rfl rfl (.inl rfl) rfl rfl rfl rfl rfl (Yag _) trivial (got e ?_ rfl))⟩;rw[mapz];show _++[t.f.ww (t.f.ws.take q++[_])]=_++[t.f.ww (t.f.ws.take (t.f.ws.length - 2)++[_])];rw[show t.f.ws.length - 2=q from by omega];rfl
 have e:Zis i o (pre.map Fr.f) t.f=if t.f.ws.length < 1 then .stop 4 0 o else
   if i.op=3 then if t.f.ws.length=40 then .stop 4 0 o else .go o (pre.map Fr.f++[t.f.ww (t.f.ws++[(t.f.off 1).getD 0 0])])
   else if i.op=5 then .go o (pre.map Fr.f++[{ t.f.on 1 with locs:=t.f.locs.set i.a.toNat ((t.f.off 1).getD 0 0) }])
   else if i.op=14 then if o.told.length=500 then .stop 6 0 o else .go { o with told:=o.told++[(t.f.off 1).getD 0 0] } (pre.map Fr.f++[t.f.on 1])
   else .go o (pre.map Fr.f++[t.f.on 1]):=by unfold Zis;rw[if_neg h1,if_neg h4];simp only[h8,if_false]
 refine ZeR (n:=1) [.blk i.d 127] ht hp (by decide) rfl rfl (λhl=>?_) (λv' hl=>?_)
 ·refine ⟨rfl,.inl (ZaQ (.g (.int 4)) (Zb9 0 1 2 3 4 5) rfl rfl rfl (.inl rfl) rfl rfl rfl rfl rfl (Yag _) trivial (bad ?_))⟩;rw[e,if_pos hl]
 obtain ⟨q,hlen⟩:∃q,t.f.ws.length=q+1:=⟨t.f.ws.length - 1,by omega⟩;obtain ⟨x,hx,hws⟩:=ZhB hlen;have hoff:t.f.off 1=[x]:=by unfold PF.off;rw[hlen];exact hx
 have hon:t.f.on 1=t.f.ww (t.f.ws.take q):=by unfold PF.on;rw[show t.f.ws.length - 1=q from by omega]
 rw[if_neg (by omega),hoff,hon] at e;rw[show t.f.ws.length - 1=q from by omega,hx];refine ⟨λh3=>?_,λh3=>?_⟩
 ·rw[if_pos h3] at e;refine ⟨0,[.int x],rfl,rfl,?_⟩;refine ZfN (t:=t.ww (t.f.ws.take q) v') [.blk i.d 127] ⟨ht.1,by simp[Fr.ww];omega⟩ hp rfl rfl (λh40=>?_) (λv2 h40=>?_)
  ·exfalso;simp[Fr.ww] at h40;omega
  refine ⟨0,[.int x],rfl,rfl,?_⟩;have hl2:(t.f.ws.take q++[x]).length=t.f.ws.length:=by simp;omega
  refine ZfN (t:=(t.ww (t.f.ws.take q) v').ww (t.f.ws.take q++[x]) v2) [.blk i.d 127] ⟨ht.1,by show (t.f.ws.take q++[x]).length<=40;omega⟩ hp rfl rfl (λh40=>?_) (λv3 h40=>?_)
  ·refine ⟨rfl,.inl (ZaQ (.g (.int 4)) (Zb9 0 1 2 3 4 5) rfl rfl rfl (.inl rfl) rfl rfl rfl rfl rfl (Yag _) trivial (bad ?_))⟩;rw[e,if_pos (by rw[<- hl2];exact h40)]
  ·refine ⟨rfl,.inl (ZaQ (.g (.int 0)) (Zb9 0 1 2 3 4 5) rfl rfl rfl (.inl rfl) rfl rfl rfl rfl rfl (Yag _) trivial (got (e.trans (if_neg (by rw[<- hl2];exact h40))) ?_ rfl))⟩;rw[mapz];show _++[t.f.ww (t.f.ws.take q++[x]++[x])]=_++[t.f.ww (t.f.ws++[x])];rw[<- hws]
 refine ⟨λh5=>?_,λh5=>?_⟩
 ·rw[if_neg h3,if_pos h5] at e;obtain ⟨a,ha⟩:∃a:Nat,i.a=(a:Int):=⟨i.a.toNat,by omega⟩;have ha8:a < 8:=by have:bdA 5=7:=rfl;rw[h5] at i4;omega
  refine ⟨none,rfl,?_⟩;refine ⟨ZfZ,_,λh' hx=>ZfY (hx _ _ rfl) rfl (hx _ _ rfl) (n:=pre.length) (by simp) (by omega),?_⟩;refine ⟨0,[.int x],rfl,rfl,?_⟩;refine ⟨a,congrArg (λz=>D.g (.int z)) ha,ha8,?_⟩;refine ⟨_,[.int x],Zbb Fr.g pre _,⟨rfl,trivial⟩,?_,(λh=>by cases h),?_⟩
  ·rw[Fr.g_len (x:=t.ww (t.f.ws.take q) v') ht.1];show 0+2+a*1+1<=12;omega
  refine ⟨rfl,.inl (ZaQ (fs:=pre++[Fr.mk { t.f.ww (t.f.ws.take q) with locs:=t.f.locs.set a x } v']) (.g (.int 0)) (Zb9 0 1 2 3 4 5) rfl rfl rfl (.inl rfl) rfl rfl rfl rfl (ZfD Fr.g pre _ _ _ (Fr.g_set_loc2 (x:=t.ww (t.f.ws.take q) v') ht.1 ha8 x).symm) ?_ trivial (got e ?_ rfl))⟩
  ·rw[Yai,Yai];exact Yag _
  ·rw[mapz,ha];rfl
 refine ⟨λh14=>?_,λh14=>?_⟩
 ·rw[if_neg h3,if_neg h5,if_pos h14] at e;have hlt:(o.told.map Zat).length=o.told.length:=Yab _;refine ⟨λh500=>?_,λh500=>?_⟩
  ·refine ⟨rfl,.inl (ZaQ (.g (.int 6)) (Zb9 0 1 2 3 4 5) rfl rfl rfl (.inl rfl) rfl rfl rfl rfl rfl (Yag _) trivial (bad ?_))⟩;rw[e,if_pos (by omega)]
  ·refine ⟨some 9998,[14],rfl,?_⟩;refine ⟨0,[.int x],rfl,rfl,?_⟩;refine ⟨[[.int x]],rfl,rfl,⟨rfl,trivial⟩,⟨_,rfl⟩,?_⟩;refine ⟨⟨by simp[maxLen];omega,by simp;omega⟩,?_⟩;refine .inr (ZdP 1 8 (λv=>[(N.d,2),(v,8),(N.c,4),(N.f,5)]) rfl rfl (λv t ht=>?_) (λv2=>Ze2 ?_))
   ·simp only[Yav,YaT,or_false] at ht ⊢;rcases ht with rfl | rfl | rfl | rfl<;>simp
   refine ⟨rfl,.inl (ZaQ (o:={ o with told:=o.told++[x] }) (N:=⟨N.d,v2,N.c,N.f⟩) (.g (.int 0)) (Zb9 0 1 2 8 4 5) rfl rfl rfl (.inl rfl) rfl rfl ?_ rfl rfl (Yag _) trivial (got (e.trans (if_neg (by omega))) (mapz _) rfl))⟩;rw[Yai];rfl
 ·rw[if_neg h3,if_neg h5,if_neg h14] at e;refine ⟨λh=>absurd h h8,λ_=>?_⟩;exact ⟨rfl,.inl (ZaQ (.g (.int 0)) (Zb9 0 1 2 3 4 5) rfl rfl rfl (.inl rfl) rfl rfl rfl rfl rfl (Yag _) trivial (got e (mapz _) rfl))⟩
end ZN
namespace Barb
open Go Go.Dm Go.Eng
end Barb
namespace ZN
open Go Go.Dm Go.Eng Go.RowKit Barb
theorem Zsh {all:List D} {h:Zad} {K Qp:KD} {m:Zaf} {o:MO} {nt:Nt} {fs:List Fr} {N:Ns} {part at_:Int} {args:List Int} (x6 x7:Dm.Obj) (hf:fs.length<=20)
  (hh:h=[.blk [.g (.sl 4 (m.map Part.g)),.g (.int 0),.g (.int 0),.row 3,.row 2,.row 8,.row 5] 87,.many (fs.map fz) [(N.d,2),(N.t,3),(N.c,8),(N.f,5)],.row (o.data.map Zat) 3 1,.row (o.told.map Zat) 3 1,.dead,.row (fs.map Fr.g) 123 12,x6,x7,.row (o.calls.map Nt.g++[Nt.g nt]) 98 7])
  (ha:all=[.ptr 0 0,.g (.int part),.g (.int at_),.g (.int ((o.calls.map Nt.g).length:Nat)),.g (.sl 1 (args.map Zat))])
  (hno:fs.length=20->K (.g (.int 5)) [.blk [.g (.sl 4 (m.map Part.g)),.g (.int 0),.g (.int 0),.row 3,.row 2,.row 8,.row 9] 87,.many (fs.map fz) [(N.d,2),(N.t,3),(N.c,8),(N.f,9)],.row (o.data.map Zat) 3 1,.row (o.told.map Zat) 3 1,.dead,.dead,x6,x7,.row (({ o with calls:=o.calls++[nt] }:MO).calls.map Nt.g) 98 7,.row (fs.map Fr.g) 123 12])
  (hyes:∀f,¬fs.length=20->K (.g (.int 0)) [.blk [.g (.sl 4 (m.map Part.g)),.g (.int 0),.g (.int 0),.row 3,.row 2,.row 8,.row 9] 87,.many ((fs++[Znd part at_ ((o.calls.map Nt.g).length:Nat) args]).map fz) [(N.d,2),(N.t,3),(N.c,8),(f,9)],.row (o.data.map Zat) 3 1,.row (o.told.map Zat) 3 1,.dead,.dead,x6,x7,.row (({ o with calls:=o.calls++[nt] }:MO).calls.map Nt.g) 98 7,.row ((fs++[Znd part at_ ((o.calls.map Nt.g).length:Nat) args]).map Fr.g) 123 12]) :
  fnOk Tryz.prog 29=true/\(Zb7 Tryz.prog gl 29 all h K Qp\/ZbB Tryz.prog gl 29 all h K Qp):=by
 have ec:o.calls.map Nt.g++[Nt.g nt]=({ o with calls:=o.calls++[nt] }:MO).calls.map Nt.g:=by rw[Yai];rfl
 rw[ec] at hh;subst hh;subst ha;refine Zee [0,1,2,3,8,5] Zl5 rfl rfl ⟨rfl,.inl rfl,.inl rfl,rfl⟩ (ZnP m 0 0 { o with calls:=o.calls++[nt] } fs N part at_ ((o.calls.map Nt.g).length:Nat) args hf) (λd' h' hq=>?_) (λd' h' hq=>?_)
 ·unfold ZjR at hq;split at hq
  ·injection hq with e1 e2;subst e1;subst e2;exact hno (by assumption)
  ·obtain ⟨v',hq⟩:=hq;injection hq with e1 e2;subst e1;subst e2;exact hyes v' (by assumption)
 ·unfold ZjR at hq;split at hq
  ·cases hq
  ·obtain ⟨v',hq⟩:=hq;cases hq
set_option maxRecDepth 20000 in
set_option maxHeartbeats 1000000 in
theorem Zwz (m:Zaf) (o:MO) (pre:List Fr) (t:Fr) (N:Ns) (i:Instr) (hi:ZaM i=0) (hop:i.op=12) (_himg:Zg5 m=0) (hc:o.calls.length<=100) (ht:t.ok) (hp:pre.length < 20) :
  CTH Tryz.prog gl 69 1 (MH m 0 0 o (pre++[t]) N) [.ptr 0 0,.agg i.d] (RQ m (Zgo m i o (pre.map Fr.f) t.f)):=by
 have hw:=ht.2;obtain ⟨i1,i2,i3,i4,i5,i6,i7,i8,i9⟩:=ZdM hi
 suffices H:∀r:R,Zgo m i o (pre.map Fr.f) t.f=r->CTH Tryz.prog gl 69 1 (MH m 0 0 o (pre++[t]) N) [.ptr 0 0,.agg i.d] (RQ m r) from H _ rfl
 intro r hr;have bad:∀{c v:Int} {o':MO} {gs:List Fr} {N':Ns},Zgo m i o (pre.map Fr.f) t.f=.stop c v o'->RQ m r (.ret (.g (.int c)) (MH m 0 v o' gs N')):=λh1=>by rw[<- hr,h1];exact ⟨_,_,rfl⟩
 have hb12:bdA 12=4:=rfl;have hc12:bdC 12=4:=rfl;have hB12:bdB 12=7:=rfl;rw[hop] at i4 i6 i8;obtain ⟨a,ha⟩:∃a:Nat,i.a=(a:Int):=⟨i.a.toNat,by omega⟩;obtain ⟨b,hb⟩:∃b:Nat,i.b=(b:Int):=⟨i.b.toNat,by omega⟩;obtain ⟨c,hcc⟩:∃c:Nat,i.c=(c:Int):=⟨i.c.toNat,by omega⟩;have lm:(m.map Part.g).length=m.length:=Yab _;refine ZbT [] hT hF hM Tryz.func69 rfl 125 rfl (by kernel_rfl) [.tmp 4] rfl [.ptr 0 0,.agg i.d] rfl (MH m 0 0 o (pre++[t]) N) [0] rfl rfl rfl 1 [] trivial _ ?_;refine ZeR (n:=c) [.blk i.d 127] ht (by omega) (by omega) rfl (congrArg (λz=>[D.ptr 0 0,D.g (.int z)]) hcc) (λhl=>?_) (λv' hl=>?_)
 ·refine ⟨none,rfl,?_⟩;refine ⟨rfl,.inl (ZaQ (.g (.int 4)) (Zb9 0 1 2 3 4 5) rfl rfl rfl (.inl rfl) rfl rfl rfl rfl rfl (Yag _) trivial (bad ?_))⟩;unfold Zgo;rw[if_pos (by rw[hcc];exact hl)]
 have e0:Zgo m i o (pre.map Fr.f) t.f=if ZcJ m i then .stop 4 0 o else
   let e:=(m.getD i.a.toNat Zas).entries.getD i.b.toNat ZbJ
   let l:=t.f.off i.c.toNat
   if o.calls.length < 100 then Zcz { o with calls:=o.calls++[⟨t.f.part,i.a,i.b,l,((pre.map Fr.f).length+1:Nat),false,0⟩] } (pre.map Fr.f++[t.f.on i.c.toNat]) i.a e.at_ o.calls.length l
   else Zcz o (pre.map Fr.f++[t.f.on i.c.toNat]) i.a e.at_ (-1) l:=by unfold Zgo;rw[if_neg (by rw[hcc];show ¬t.f.ws.length < c;omega)]
 refine ⟨none,rfl,?_⟩;refine ⟨λg1=>?_,λg1=>?_⟩
 ·refine ⟨rfl,.inl (ZaQ (.g (.int 4)) (Zb9 0 1 2 3 4 5) rfl rfl rfl (.inl rfl) rfl rfl rfl rfl rfl (Yag _) trivial (bad ?_))⟩;rw[e0,if_pos (by unfold ZcJ;left;omega)]
 have hal:a < m.length:=by omega
 have hma:m.getD i.a.toNat Zas=m[a]:=by rw[ha];exact Zpe hal _
 refine ⟨a,_,dI ha,gm hal,?_⟩;have le:(m[a].entries.map Entry.g).length=m[a].entries.length:=Yab _;refine ⟨λg2=>?_,λg2=>?_⟩
 ·refine ⟨rfl,.inl (ZaQ (.g (.int 4)) (Zb9 0 1 2 3 4 5) rfl rfl rfl (.inl rfl) rfl rfl rfl rfl rfl (Yag _) trivial (bad ?_))⟩;rw[e0,if_pos (by unfold ZcJ;rw[hma];right;left;omega)]
 have hbl:b < m[a].entries.length:=by omega
 have hmb:m[a].entries.getD i.b.toNat ZbJ=m[a].entries[b]:=by rw[hb];exact Zpe hbl _
 refine ⟨a,_,dI ha,gm hal,?_⟩;refine ⟨b,_,dI hb,gm hbl,?_⟩;refine ⟨λg3=>?_,λg3=>?_⟩
 ·refine ⟨rfl,.inl (ZaQ (.g (.int 4)) (Zb9 0 1 2 3 4 5) rfl rfl rfl (.inl rfl) rfl rfl rfl rfl rfl (Yag _) trivial (bad ?_))⟩;rw[e0,if_pos (by unfold ZcJ;rw[hma,hmb];right;right;exact g3)]
 rw[if_neg (by unfold ZcJ;rw[hma,hmb];omega),hma,hmb] at e0;have hoff:t.f.off i.c.toNat=t.f.ws.drop (t.f.ws.length - c):=by unfold PF.off;rw[hcc];rfl
 have hon:t.f.on i.c.toNat=t.f.ww (t.f.ws.take (t.f.ws.length - c)):=by unfold PF.on;rw[hcc];rfl
 rw[hoff,hon] at e0;dsimp only at e0;have lc:(o.calls.map Nt.g).length=o.calls.length:=Yab _;have lf:∀x:Fr,(pre.map Fr.f++[t.f.ww (t.f.ws.take (t.f.ws.length - c))]).length=(pre++[x]).length:=λx=>by simp
 have mapz:∀(x y:Fr),(pre++[x]++[y]).map Fr.f=pre.map Fr.f++[x.f]++[y.f]:=λx y=>by simp
 have lfe:∀x:Fr,((((pre++[x]).map Fr.g).length:Nat):Int)=(((pre.map Fr.f).length+1:Nat):Int):=λx=>by simp
 have mem5:∀(a b c d:Value × Nat) (t:Value × Nat),t∈[a,b,c,d]->t=a\/t=b\/t=c\/t=d:=λa b c d t ht=>by simpa using ht
 refine ⟨λg4=>?_,λg4=>?_⟩
 ·rw[if_pos (by omega),<- lfe (t.ww (t.f.ws.take (t.f.ws.length - c)) v'),<- lc] at e0;refine ⟨some 9998,[27],rfl,?_⟩;refine ⟨ZfZ,_,λh' hx=>ZfY (hx _ _ rfl) rfl (hx _ _ rfl) (n:=pre.length) (by simp) (by omega),?_⟩;refine ⟨_,Zbb Fr.g pre _,?_⟩;refine ⟨[Nt.g ⟨t.f.part,i.a,i.b,t.f.ws.drop (t.f.ws.length - c),(((pre++[t.ww (t.f.ws.take (t.f.ws.length - c)) v']).map Fr.g).length:Nat),false,0⟩],rfl,rfl,⟨rfl,rfl,rfl,rfl,rfl,rfl,rfl,trivial⟩,⟨_,rfl⟩,?_⟩;refine ⟨⟨by simp[maxLen];omega,by simp;omega⟩,?_⟩;refine .inr (ZdP 1 8 (λv=>[(N.d,2),(N.t,3),(v,8),(N.f,5)]) rfl rfl (λv t ht=>?_) (λv2=>Ze2 ?_))
  ·rcases mem5 _ _ _ _ _ ht with rfl | rfl | rfl | rfl<;>simp
  refine ⟨some 9999,[20],rfl,?_⟩;refine ⟨a,_,dI ha,gm hal,?_⟩;refine ⟨b,_,dI hb,gm hbl,?_⟩;refine Zsh (o:=o) (nt:=⟨t.f.part,i.a,i.b,t.f.ws.drop (t.f.ws.length - c),(((pre++[t.ww (t.f.ws.take (t.f.ws.length - c)) v']).map Fr.g).length:Nat),false,0⟩) (fs:=pre++[(t.ww (t.f.ws.take (t.f.ws.length - c)) v')]) (N:=⟨N.d,N.t,v2,N.f⟩) (args:=t.f.ws.drop (t.f.ws.length - c)) (.blk i.d 127) (.row [Nt.g ⟨t.f.part,i.a,i.b,t.f.ws.drop (t.f.ws.length - c),(((pre++[t.ww (t.f.ws.take (t.f.ws.length - c)) v']).map Fr.g).length:Nat),false,0⟩] 98 7) (by simp;omega) rfl rfl (λh20=>?_) (λf2 h20=>?_)
  ·refine ⟨rfl,.inl (ZaQ (o:={ o with calls:=o.calls++[⟨t.f.part,i.a,i.b,t.f.ws.drop (t.f.ws.length - c),(((pre++[t.ww (t.f.ws.take (t.f.ws.length - c)) v']).map Fr.g).length:Nat),false,0⟩] }) (N:=⟨N.d,N.t,v2,N.f⟩) (.g (.int 5)) (Zb9 0 1 2 3 8 9) rfl rfl rfl (.inl rfl) rfl rfl rfl rfl rfl (Yag _) trivial (bad ?_))⟩;rw[e0];unfold Zcz;rw[if_pos ((lf _).trans h20)]
  ·refine ⟨rfl,.inl (ZaQ (o:={ o with calls:=o.calls++[⟨t.f.part,i.a,i.b,t.f.ws.drop (t.f.ws.length - c),(((pre++[t.ww (t.f.ws.take (t.f.ws.length - c)) v']).map Fr.g).length:Nat),false,0⟩] }) (N:=⟨N.d,N.t,v2,f2⟩) (.g (.int 0)) (Zb9 0 1 2 3 8 9) rfl rfl rfl (.inl rfl) rfl rfl rfl rfl rfl (Yag _) trivial ?_)⟩;rw[<- hr,e0];unfold Zcz;rw[if_neg (λh=>h20 ((lf _).symm.trans h))];exact ⟨_,_,mapz _ _,rfl⟩
 ·rw[if_neg (by omega)] at e0;refine ⟨some 9999,[20],rfl,?_⟩;refine ⟨a,_,dI ha,gm hal,?_⟩;refine ⟨b,_,dI hb,gm hbl,?_⟩;refine Zn4 (fs:=pre++[t.ww (t.f.ws.take (t.f.ws.length - c)) v']) (args:=t.f.ws.drop (t.f.ws.length - c)) [.blk i.d 127] (by simp;omega) rfl rfl (λh20=>?_) (λf2 h20=>?_)
  ·refine ⟨rfl,.inl (ZaQ (.g (.int 5)) (Zb9 0 1 2 3 4 7) rfl rfl rfl (.inl rfl) rfl rfl rfl rfl rfl (Yag _) trivial (bad ?_))⟩;rw[e0];unfold Zcz;rw[if_pos ((lf _).trans h20)]
  ·refine ⟨rfl,.inl (ZaQ (N:=N.withF f2) (.g (.int 0)) (Zb9 0 1 2 3 4 7) rfl rfl rfl (.inl rfl) rfl rfl rfl rfl rfl (Yag _) trivial ?_)⟩;rw[<- hr,e0];unfold Zcz;rw[if_neg (λh=>h20 ((lf _).symm.trans h))];exact ⟨_,_,mapz _ _,rfl⟩
end ZN
namespace Go.Dm
open Go Go.Eng Go.RowKit
end Go.Dm
namespace Barb
open Go Go.Dm Go.Eng
end Barb
namespace ZN
open Go Go.Dm Go.Eng Go.RowKit Barb
theorem Zn2 {all:List D} {h:Zad} {K Qp:KD} {m:Zaf} {e val:Int} {o:MO} {pre:List Fr} {t:Fr} {N:Ns} {n:Int} (ht:t.ok) (hp:pre.length < 1000)
  (hh:h=MHf m e val o (pre++[t]) N []) (ha:all=[.ptr 0 0,.g (.int n)])
  (hno:t.f.ws.length=40->K (.g (.bool false)) (MHf m e val o (pre++[t]) N []))
  (hyes:∀v',¬t.f.ws.length=40->K (.g (.bool true)) (MHf m e val o (pre++[t.ww (t.f.ws++[n]) v']) N [])) :
  fnOk Tryz.prog 68=true/\(Zb7 Tryz.prog gl 68 all h K Qp\/ZbB Tryz.prog gl 68 all h K Qp):=by
 subst hh;subst ha;refine Zee [0,1,2,3,4,6] Ztv rfl rfl ⟨rfl,.inl rfl,.inl rfl,rfl⟩ (Zp3 m e val o pre t N n ht hp) (λd' h' hq=>?_) (λd' h' hq=>?_)
 ·unfold ZoQ at hq;split at hq
  ·injection hq with e1 e2;subst e1;subst e2;exact hno (by assumption)
  ·obtain ⟨v',hq⟩:=hq;injection hq with e1 e2;subst e1;subst e2;exact hyes v' (by assumption)
 ·unfold ZoQ at hq;split at hq
  ·cases hq
  ·obtain ⟨v',hq⟩:=hq;cases hq
set_option maxRecDepth 20000 in
set_option maxHeartbeats 1000000 in
theorem Zyv (m:Zaf) (o:MO) (t:Fr) (N:Ns) (ht:t.ok)  (hn:t.f.noted < o.calls.length) :
  CTH Tryz.prog gl 70 1 (MH m 0 0 o (([]:List Fr)++[t]) N) [.ptr 0 0] (RQ m (Barb.retS o (([]:List Fr).map Fr.f) t.f)):=by
 have hw:=ht.2
 suffices H:∀r:R,Barb.retS o (([]:List Fr).map Fr.f) t.f=r->CTH Tryz.prog gl 70 1 (MH m 0 0 o (([]:List Fr)++[t]) N) [.ptr 0 0] (RQ m r) from H _ rfl
 intro r hr;have bad:∀{c v:Int} {o':MO} {gs:List Fr} {N':Ns},Barb.retS o (([]:List Fr).map Fr.f) t.f=.stop c v o'->RQ m r (.ret (.g (.int c)) (MH m 0 v o' gs N')):=λh1=>by rw[<- hr,h1];exact ⟨_,_,rfl⟩
 refine ZbT [] hT hF hM Tryz.func70 rfl 72 rfl (by kernel_rfl) [.tmp 2] rfl [.ptr 0 0] rfl (MH m 0 0 o (([]:List Fr)++[t]) N) [0] rfl rfl rfl 1 [] trivial _ ?_;refine ZeR (n:=1) (pre:=([]:List Fr)) [] ht (by decide) (by decide) rfl rfl (λhl=>?_) (λv' hl=>?_)
 ·refine ⟨rfl,.inl (ZaQ (.g (.int 4)) (Zb9 0 1 2 3 4 5) rfl rfl rfl (.inl rfl) rfl rfl rfl rfl rfl (Yag _) trivial (bad ?_))⟩;unfold Barb.retS;rw[if_pos hl]
 obtain ⟨q,hlen⟩:∃q,t.f.ws.length=q+1:=⟨t.f.ws.length - 1,by omega⟩;obtain ⟨x,hx,hws⟩:=ZhB hlen;have hoff:t.f.off 1=[x]:=by unfold PF.off;rw[hlen];exact hx
 have e0:Barb.retS o (([]:List Fr).map Fr.f) t.f=.stop 1 x (Zbe o t.f.noted x):=by unfold Barb.retS;rw[if_neg (by omega),hoff];rfl
 rw[show t.f.ws.length - 1=q from by omega,hx];have lf:∀y:Fr,((([]:List Fr)++[y]).map Fr.g).length=([]:List Fr).length+1:=λy=>by simp
 have lf':∀y:Fr,(((([]:List Fr)++[y]).map Fr.g).length:Int) - 1=(([]:List Fr).length:Int):=λy=>by rw[lf];omega
 have hpl:([]:List Fr).length < 20:=by decide
 have ef:((([]:List Fr)++[(t.ww (t.f.ws.take q) v')]).map Fr.g).take ([]:List Fr).length=([]:List Fr).map Fr.g:=by rw[Yai,Ya9 (by simp),YaJ (by simp)]
 have mem5:∀(a b c d:Value × Nat) (t:Value × Nat),t∈[a,b,c,d]->t=a\/t=b\/t=c\/t=d:=λa b c d t ht=>by simpa using ht
 refine ⟨ZfZ,.inr (Zru (ZfY rfl rfl rfl (n:=([]:List Fr).length) (by simp) (by decide)) ?_)⟩;refine ⟨_,Zbb Fr.g ([]:List Fr) _,Zh8 rfl (Fr.g_noted (x:=(t.ww (t.f.ws.take q) v')) ht.1) ?_⟩;refine ⟨λhk=>?_,λhk=>?_⟩
 ·obtain ⟨k,hkn⟩:∃k:Nat,t.f.noted=(k:Int):=⟨t.f.noted.toNat,by have:(0:Int)<=t.f.noted:=hk;omega⟩;have hkl:k < o.calls.length:=by omega
  have hklm:k < (o.calls.map Nt.g).length:=by rw[Yab];exact hkl
  have eno:Zbe o t.f.noted x=Zbe o (k:Int) x:=by rw[hkn]
  refine ⟨none,rfl,?_⟩;refine ⟨0,[.int x],rfl,rfl,?_⟩;refine ⟨k,dI hkn,hklm,?_⟩;refine ⟨_,[.bool true],gm hkl,⟨rfl,trivial⟩,Nat.le_add_left 6 1,(λh=>by cases h),?_⟩;refine ⟨k,dI hkn,by rw[Ybd];exact hklm,?_⟩;refine ⟨_,[.int x],YbH hklm,⟨rfl,trivial⟩,Yax 7,(λh=>by cases h),?_⟩;refine ⟨some 9999,[14],rfl,?_⟩;refine ⟨by unfold I64;rw[lf'];omega,?_⟩;refine ⟨([]:List Fr).length,dI (lf' _),by rw[lf];omega,?_⟩;refine .inr (Zqs 0 6 5 ([]:List Fr).length rfl rfl rfl (by rw[lf];omega) (ZiO 1 (([]:List Fr).map fz) [] (fz (t.ww (t.f.ws.take q) v')) rfl (by rw[Yai];rfl) (ZdP 1 6 (λv=>[(N.d,2),(N.t,3),(N.c,4),(v,6)]) rfl rfl (λv t ht=>?_) (λf2=>ZAX (h2:=MHf m 0 0 (Zbe o (k:Int) x) ([]:List Fr) (N.withF f2) []) ?_ (Ze2 ?_)))))
  ·rcases mem5 _ _ _ _ _ ht with rfl | rfl | rfl | rfl<;>simp
  ·show [Obj.blk _ _,Obj.many (([]:List Fr).map fz++[]) _,_,_,Obj.row (((o.calls.map Nt.g).set k (Zdy o.calls[k].g (0+5) [.bool true])).set k (Zdy (Zdy o.calls[k].g (0+5) [.bool true]) (0+6) [.int x])) _ _,Obj.dead,Obj.row (((([]:List Fr)++[(t.ww (t.f.ws.take q) v')]).map Fr.g).take ([]:List Fr).length) _ _]=_;rw[ef,YaF,Zxu hkl];rfl
  refine ⟨λ_=>?_,λhz=>absurd rfl hz⟩;refine ⟨0,[.int x],rfl,rfl,.inl ?_⟩;refine ⟨rfl,.inl (ZaQ (o:=(Zbe o (k:Int) x)) (val:=x) (fs:=[]) (N:=N.withF f2) (.g (.int 1)) (Zb9 0 1 2 3 4 6) rfl rfl rfl (.inl rfl) rfl rfl rfl rfl rfl (Yag _) trivial (bad ?_))⟩;rw[e0,eno]
 ·have eno:Zbe o t.f.noted x=o:=Zqb hk x;refine ⟨some 9999,[14],rfl,?_⟩;refine ⟨by unfold I64;rw[lf'];omega,?_⟩;refine ⟨([]:List Fr).length,dI (lf' _),by rw[lf];omega,?_⟩;refine .inr (Zqs 0 6 5 ([]:List Fr).length rfl rfl rfl (by rw[lf];omega) (ZiO 1 (([]:List Fr).map fz) [] (fz (t.ww (t.f.ws.take q) v')) rfl (by rw[Yai];rfl) (ZdP 1 6 (λv=>[(N.d,2),(N.t,3),(N.c,4),(v,6)]) rfl rfl (λv t ht=>?_) (λf2=>ZAX (h2:=MHf m 0 0 o ([]:List Fr) (N.withF f2) []) ?_ (Ze2 ?_)))))
  ·rcases mem5 _ _ _ _ _ ht with rfl | rfl | rfl | rfl<;>simp
  ·show [Obj.blk _ _,Obj.many (([]:List Fr).map fz++[]) _,_,_,Obj.row (o.calls.map Nt.g) _ _,Obj.dead,Obj.row (((([]:List Fr)++[(t.ww (t.f.ws.take q) v')]).map Fr.g).take ([]:List Fr).length) _ _]=_;rw[ef,YaF];rfl
  refine ⟨λ_=>?_,λhz=>absurd rfl hz⟩;refine ⟨0,[.int x],rfl,rfl,.inl ?_⟩;refine ⟨rfl,.inl (ZaQ (o:=o) (val:=x) (fs:=[]) (N:=N.withF f2) (.g (.int 1)) (Zb9 0 1 2 3 4 6) rfl rfl rfl (.inl rfl) rfl rfl rfl rfl rfl (Yag _) trivial (bad ?_))⟩;rw[e0,eno]
set_option maxRecDepth 20000 in
set_option maxHeartbeats 1000000 in
theorem ZvO (m:Zaf) (o:MO) (p':List Fr) (f t:Fr) (N:Ns) (ht:t.ok) (hpre:∀g∈p'++[f],g.ok) (hp:(p'++[f]).length < 20) (hn:t.f.noted < o.calls.length) :
  CTH Tryz.prog gl 70 1 (MH m 0 0 o ((p'++[f])++[t]) N) [.ptr 0 0] (RQ m (Barb.retS o ((p'++[f]).map Fr.f) t.f)):=by
 have hw:=ht.2
 suffices H:∀r:R,Barb.retS o ((p'++[f]).map Fr.f) t.f=r->CTH Tryz.prog gl 70 1 (MH m 0 0 o ((p'++[f])++[t]) N) [.ptr 0 0] (RQ m r) from H _ rfl
 intro r hr;have bad:∀{c v:Int} {o':MO} {gs:List Fr} {N':Ns},Barb.retS o ((p'++[f]).map Fr.f) t.f=.stop c v o'->RQ m r (.ret (.g (.int c)) (MH m 0 v o' gs N')):=λh1=>by rw[<- hr,h1];exact ⟨_,_,rfl⟩
 refine ZbT [] hT hF hM Tryz.func70 rfl 72 rfl (by kernel_rfl) [.tmp 2] rfl [.ptr 0 0] rfl (MH m 0 0 o ((p'++[f])++[t]) N) [0] rfl rfl rfl 1 [] trivial _ ?_;refine ZeR (n:=1) (pre:=(p'++[f])) [] ht (by simp at hp ⊢;omega) (by decide) rfl rfl (λhl=>?_) (λv' hl=>?_)
 ·refine ⟨rfl,.inl (ZaQ (.g (.int 4)) (Zb9 0 1 2 3 4 5) rfl rfl rfl (.inl rfl) rfl rfl rfl rfl rfl (Yag _) trivial (bad ?_))⟩;unfold Barb.retS;rw[if_pos hl]
 obtain ⟨q,hlen⟩:∃q,t.f.ws.length=q+1:=⟨t.f.ws.length - 1,by omega⟩;obtain ⟨x,hx,hws⟩:=ZhB hlen;have hoff:t.f.off 1=[x]:=by unfold PF.off;rw[hlen];exact hx
 have e0:Barb.retS o ((p'++[f]).map Fr.f) t.f=ZcV (Zbe o t.f.noted x) (p'.map Fr.f) f.f x:=by unfold Barb.retS;rw[if_neg (by omega),hoff];simp
 rw[show t.f.ws.length - 1=q from by omega,hx];have lf:∀y:Fr,(((p'++[f])++[y]).map Fr.g).length=(p'++[f]).length+1:=λy=>by simp
 have lf':∀y:Fr,((((p'++[f])++[y]).map Fr.g).length:Int) - 1=((p'++[f]).length:Int):=λy=>by rw[lf];omega
 have hpl:(p'++[f]).length < 20:=hp;have ef:(((p'++[f])++[(t.ww (t.f.ws.take q) v')]).map Fr.g).take (p'++[f]).length=(p'++[f]).map Fr.g:=by rw[Yai,Ya9 (by simp),YaJ (by simp)]
 have mem5:∀(a b c d:Value × Nat) (t:Value × Nat),t∈[a,b,c,d]->t=a\/t=b\/t=c\/t=d:=λa b c d t ht=>by simpa using ht
 refine ⟨ZfZ,.inr (Zru (ZfY rfl rfl rfl (n:=(p'++[f]).length) (by simp) (by simp at hp ⊢;omega)) ?_)⟩;refine ⟨_,Zbb Fr.g (p'++[f]) _,Zh8 rfl (Fr.g_noted (x:=(t.ww (t.f.ws.take q) v')) ht.1) ?_⟩;refine ⟨λhk=>?_,λhk=>?_⟩
 ·obtain ⟨k,hkn⟩:∃k:Nat,t.f.noted=(k:Int):=⟨t.f.noted.toNat,by have:(0:Int)<=t.f.noted:=hk;omega⟩;have hkl:k < o.calls.length:=by omega
  have hklm:k < (o.calls.map Nt.g).length:=by rw[Yab];exact hkl
  have eno:Zbe o t.f.noted x=Zbe o (k:Int) x:=by rw[hkn]
  refine ⟨none,rfl,?_⟩;refine ⟨0,[.int x],rfl,rfl,?_⟩;refine ⟨k,dI hkn,hklm,?_⟩;refine ⟨_,[.bool true],gm hkl,⟨rfl,trivial⟩,Nat.le_add_left 6 1,(λh=>by cases h),?_⟩;refine ⟨k,dI hkn,by rw[Ybd];exact hklm,?_⟩;refine ⟨_,[.int x],YbH hklm,⟨rfl,trivial⟩,Yax 7,(λh=>by cases h),?_⟩;refine ⟨some 9999,[14],rfl,?_⟩;refine ⟨by unfold I64;rw[lf'];omega,?_⟩;refine ⟨(p'++[f]).length,dI (lf' _),by rw[lf];omega,?_⟩;refine .inr (Zqs 0 6 5 (p'++[f]).length rfl rfl rfl (by rw[lf];omega) (ZiO 1 ((p'++[f]).map fz) [] (fz (t.ww (t.f.ws.take q) v')) rfl (by rw[Yai];rfl) (ZdP 1 6 (λv=>[(N.d,2),(N.t,3),(N.c,4),(v,6)]) rfl rfl (λv t ht=>?_) (λf2=>ZAX (h2:=MHf m 0 0 (Zbe o (k:Int) x) (p'++[f]) (N.withF f2) []) ?_ (Ze2 ?_)))))
  ·rcases mem5 _ _ _ _ _ ht with rfl | rfl | rfl | rfl<;>simp
  ·show [Obj.blk _ _,Obj.many ((p'++[f]).map fz++[]) _,_,_,Obj.row (((o.calls.map Nt.g).set k (Zdy o.calls[k].g (0+5) [.bool true])).set k (Zdy (Zdy o.calls[k].g (0+5) [.bool true]) (0+6) [.int x])) _ _,Obj.dead,Obj.row ((((p'++[f])++[(t.ww (t.f.ws.take q) v')]).map Fr.g).take (p'++[f]).length) _ _]=_;rw[ef,YaF,Zxu hkl];rfl
  refine ⟨λhz=>absurd hz (by simp;omega),λ_=>?_⟩;refine ⟨0,[.int x],rfl,rfl,?_⟩;refine Zn2 (pre:=p') (t:=f) (hpre f (by simp)) (by simp at hp;omega) rfl rfl (λh40=>?_) (λv2 h40=>?_)
  ·refine ⟨rfl,.inl (ZaQ (o:=(Zbe o (k:Int) x)) (N:=N.withF f2) (.g (.int 4)) (Zb9 0 1 2 3 4 6) rfl rfl rfl (.inl rfl) rfl rfl rfl rfl rfl (Yag _) trivial (bad ?_))⟩;rw[e0,eno];unfold ZcV;rw[if_pos h40]
  ·refine ⟨rfl,.inl (ZaQ (o:=(Zbe o (k:Int) x)) (N:=N.withF f2) (.g (.int 0)) (Zb9 0 1 2 3 4 6) rfl rfl rfl (.inl rfl) rfl rfl rfl rfl rfl (Yag _) trivial ?_)⟩;rw[<- hr,e0,eno];unfold ZcV;rw[if_neg h40];exact ⟨_,_,by rw[Yai];rfl,rfl⟩
 ·have eno:Zbe o t.f.noted x=o:=Zqb hk x;refine ⟨some 9999,[14],rfl,?_⟩;refine ⟨by unfold I64;rw[lf'];omega,?_⟩;refine ⟨(p'++[f]).length,dI (lf' _),by rw[lf];omega,?_⟩;refine .inr (Zqs 0 6 5 (p'++[f]).length rfl rfl rfl (by rw[lf];omega) (ZiO 1 ((p'++[f]).map fz) [] (fz (t.ww (t.f.ws.take q) v')) rfl (by rw[Yai];rfl) (ZdP 1 6 (λv=>[(N.d,2),(N.t,3),(N.c,4),(v,6)]) rfl rfl (λv t ht=>?_) (λf2=>ZAX (h2:=MHf m 0 0 o (p'++[f]) (N.withF f2) []) ?_ (Ze2 ?_)))))
  ·rcases mem5 _ _ _ _ _ ht with rfl | rfl | rfl | rfl<;>simp
  ·show [Obj.blk _ _,Obj.many ((p'++[f]).map fz++[]) _,_,_,Obj.row (o.calls.map Nt.g) _ _,Obj.dead,Obj.row ((((p'++[f])++[(t.ww (t.f.ws.take q) v')]).map Fr.g).take (p'++[f]).length) _ _]=_;rw[ef,YaF];rfl
  refine ⟨λhz=>absurd hz (by simp;omega),λ_=>?_⟩;refine ⟨0,[.int x],rfl,rfl,?_⟩;refine Zn2 (pre:=p') (t:=f) (hpre f (by simp)) (by simp at hp;omega) rfl rfl (λh40=>?_) (λv2 h40=>?_)
  ·refine ⟨rfl,.inl (ZaQ (o:=o) (N:=N.withF f2) (.g (.int 4)) (Zb9 0 1 2 3 4 6) rfl rfl rfl (.inl rfl) rfl rfl rfl rfl rfl (Yag _) trivial (bad ?_))⟩;rw[e0,eno];unfold ZcV;rw[if_pos h40]
  ·refine ⟨rfl,.inl (ZaQ (o:=o) (N:=N.withF f2) (.g (.int 0)) (Zb9 0 1 2 3 4 6) rfl rfl rfl (.inl rfl) rfl rfl rfl rfl rfl (Yag _) trivial ?_)⟩;rw[<- hr,e0,eno];unfold ZcV;rw[if_neg h40];exact ⟨_,_,by rw[Yai];rfl,rfl⟩
theorem Zyw (m:Zaf) (o:MO) (pre:List Fr) (t:Fr) (N:Ns) (ht:t.ok) (hpre:∀f∈pre,f.ok) (hp:pre.length < 20) (hn:t.f.noted < o.calls.length) :
  CTH Tryz.prog gl 70 1 (MH m 0 0 o (pre++[t]) N) [.ptr 0 0] (RQ m (Barb.retS o (pre.map Fr.f) t.f)):=by
 rcases YbM pre with rfl | ⟨p',f,rfl⟩
 ·exact Zyv m o t N ht hn
 ·rw[Ybt] at hpre hp ⊢;exact ZvO m o p' f t N ht hpre hp hn
theorem Zy5:fnOk Tryz.prog 69=true:=by kernel_rfl
theorem ZAl:fnOk Tryz.prog 70=true:=by kernel_rfl
set_option maxRecDepth 20000 in
set_option maxHeartbeats 1000000 in
theorem Zc9 (m:Zaf) (o:MO) (pre:List Fr) (t:Fr) (N:Ns) (i:Instr) (hi:ZaM i=0) (_hop:i.op=9\/i.op=10\/i.op=11\/i.op=12\/i.op=13\/i.op=15) (himg:Zg5 m=0) (hc:o.calls.length<=100) (ht:t.ok) (hpre:∀f∈pre,f.ok) (hp:pre.length < 20) (hn:t.f.noted < o.calls.length) :
  CTH Tryz.prog gl 53 1 (MH m 0 0 o (pre++[t]) N) [.ptr 0 0,.agg i.d] (RQ m (Zhk m i o (pre.map Fr.f) t.f)):=by
 have hw:=ht.2;obtain ⟨i1,i2,i3,i4,i5,i6,i7,i8,i9⟩:=ZdM hi
 suffices H:∀r:R,Zhk m i o (pre.map Fr.f) t.f=r->CTH Tryz.prog gl 53 1 (MH m 0 0 o (pre++[t]) N) [.ptr 0 0,.agg i.d] (RQ m r) from H _ rfl
 intro r hr;have got:∀{d:D} {gs:List Fr} {N':Ns} {o':MO} {fs:List PF},Zhk m i o (pre.map Fr.f) t.f=.go o' fs->gs.map Fr.f=fs->d=.g (.int 0)->RQ m r (.ret d (MH m 0 0 o' gs N')):=λh1 h2 h3=>by subst h3;rw[<- hr,h1];exact ⟨_,_,h2,rfl⟩
 have bad:∀{c v:Int} {o':MO} {gs:List Fr} {N':Ns},Zhk m i o (pre.map Fr.f) t.f=.stop c v o'->RQ m r (.ret (.g (.int c)) (MH m 0 v o' gs N')):=λh1=>by rw[<- hr,h1];exact ⟨_,_,rfl⟩
 have mapz:∀(x:Fr),(pre++[x]).map Fr.f=pre.map Fr.f++[x.f]:=λx=>by rw[Yai];rfl
 refine ZbT [] hT hF hM Tryz.func53 rfl 68 rfl (by kernel_rfl) [.tmp 4] rfl [.ptr 0 0,.agg i.d] rfl (MH m 0 0 o (pre++[t]) N) [0] rfl rfl rfl 1 [] trivial _ ?_;refine ⟨ZfZ,.inr (Zru (ZfY rfl rfl rfl (n:=pre.length) (by simp) (by omega)) ?_)⟩;refine ⟨λh9=>?_,λh9=>?_⟩
 ·refine ⟨_,[.int i.a],Zbb Fr.g pre t,⟨rfl,trivial⟩,by rw[Fr.g_len ht.1];exact (by decide:0+1+1<=12),(λh=>by cases h),.inl ?_⟩;refine ⟨rfl,.inl (ZaQ (fs:=pre++[Fr.mk { t.f with at_:=i.a } t.v]) (.g (.int 0)) (Zb9 0 1 2 3 4 5) rfl rfl rfl (.inl rfl) rfl rfl rfl rfl (ZfD Fr.g pre t _ _ (Fr.g_set_at _).symm) ?_ trivial (got ?_ (mapz _) rfl))⟩
  ·rw[Yai,Yai];exact Yag _
  ·unfold Zhk;rw[if_pos h9]
 refine ⟨λh10=>?_,λh10=>?_⟩
 ·have e0:Zhk m i o (pre.map Fr.f) t.f=if t.f.ws.length < 1 then .stop 4 0 o else .go o (pre.map Fr.f++[if (t.f.off 1).getD 0 0=0 then { t.f.on 1 with at_:=i.a } else t.f.on 1]):=by unfold Zhk;rw[if_neg h9,if_pos h10]
  refine ZeR (n:=1) [.blk i.d 127] ht (by omega) (by decide) rfl rfl (λhl=>?_) (λv' hl=>?_)
  ·refine ⟨rfl,.inl (ZaQ (.g (.int 4)) (Zb9 0 1 2 3 4 5) rfl rfl rfl (.inl rfl) rfl rfl rfl rfl rfl (Yag _) trivial (bad ?_))⟩;rw[e0,if_pos hl]
  obtain ⟨q,hlen⟩:∃q,t.f.ws.length=q+1:=⟨t.f.ws.length - 1,by omega⟩;obtain ⟨x,hx,hws⟩:=ZhB hlen;have hoff:t.f.off 1=[x]:=by unfold PF.off;rw[hlen];exact hx
  have hon:t.f.on 1=t.f.ww (t.f.ws.take q):=by unfold PF.on;rw[show t.f.ws.length - 1=q from by omega]
  rw[if_neg (by omega),hoff,hon] at e0;rw[show t.f.ws.length - 1=q from by omega,hx];refine ⟨0,[.int x],rfl,rfl,?_⟩;refine ⟨λhz=>?_,λhz=>?_⟩
  ·refine ⟨_,[.int i.a],Zbb Fr.g pre _,⟨rfl,trivial⟩,by rw[Fr.g_len (x:=t.ww (t.f.ws.take q) v') ht.1];exact (by decide:0+1+1<=12),(λh=>by cases h),.inl ?_⟩;refine ⟨rfl,.inl (ZaQ (fs:=pre++[Fr.mk { t.f.ww (t.f.ws.take q) with at_:=i.a } v']) (.g (.int 0)) (Zb9 0 1 2 3 4 5) rfl rfl rfl (.inl rfl) rfl rfl rfl rfl (ZfD Fr.g pre _ _ _ (Fr.g_set_at (x:=t.ww (t.f.ws.take q) v') _).symm) ?_ trivial (got e0 ?_ rfl))⟩
   ·rw[Yai,Yai];exact Yag _
   ·rw[mapz];show _=_++[if x=0 then _ else _];rw[if_pos hz]
  ·refine ⟨rfl,.inl (ZaQ (.g (.int 0)) (Zb9 0 1 2 3 4 5) rfl rfl rfl (.inl rfl) rfl rfl rfl rfl rfl (Yag _) trivial (got e0 ?_ rfl))⟩;rw[mapz];show _=_++[if x=0 then _ else _];rw[if_neg hz];rfl
 refine ⟨λh11=>?_,λh11=>?_⟩
 ·have hb11:bdB 11=4:=rfl;rw[h11] at i6;obtain ⟨b,hb⟩:∃b:Nat,i.b=(b:Int):=⟨i.b.toNat,by omega⟩;have e0:Zhk m i o (pre.map Fr.f) t.f=if t.f.ws.length < b then .stop 4 0 o else Zcz o (pre.map Fr.f++[t.f.on b]) t.f.part i.a (-1) (t.f.off b):=by unfold Zhk;rw[if_neg h9,if_neg h10,if_pos h11,hb];rfl
  refine ZeR (n:=b) [.blk i.d 127] ht (by omega) (by omega) rfl (congrArg (λz=>[D.ptr 0 0,D.g (.int z)]) hb) (λhl=>?_) (λv' hl=>?_)
  ·refine ⟨rfl,.inl (ZaQ (.g (.int 4)) (Zb9 0 1 2 3 4 5) rfl rfl rfl (.inl rfl) rfl rfl rfl rfl rfl (Yag _) trivial (bad ?_))⟩;rw[e0,if_pos hl]
  rw[if_neg (by omega)] at e0;refine ⟨some 9999,[8],rfl,?_⟩;refine ⟨_,Zbb Fr.g pre _,?_⟩;refine Zn4 (fs:=pre++[t.ww (t.f.ws.take (t.f.ws.length - b)) v']) (args:=t.f.ws.drop (t.f.ws.length - b)) [.blk i.d 127] (by simp;omega) rfl rfl (λh20=>?_) (λf2 h20=>?_)
  ·refine ⟨rfl,.inl (ZaQ (.g (.int 5)) (Zb9 0 1 2 3 4 7) rfl rfl rfl (.inl rfl) rfl rfl rfl rfl rfl (Yag _) trivial (bad ?_))⟩;have h20':pre.length+1=20:=by simpa using h20
   rw[e0];unfold Zcz;rw[if_pos (by simp;omega)]
  ·refine ⟨rfl,.inl (ZaQ (N:=N.withF f2) (.g (.int 0)) (Zb9 0 1 2 3 4 7) rfl rfl rfl (.inl rfl) rfl rfl rfl rfl rfl (Yag _) trivial ?_)⟩;have h20':¬pre.length+1=20:=by simpa using h20
   rw[<- hr,e0];unfold Zcz;rw[if_neg (by simp;omega)];exact ⟨_,_,by rw[Yai,mapz];rfl,rfl⟩
 refine ⟨λh12=>?_,λh12=>?_⟩
 ·have e0:Zhk m i o (pre.map Fr.f) t.f=Zgo m i o (pre.map Fr.f) t.f:=by unfold Zhk;rw[if_neg h9,if_neg h10,if_neg h11,if_pos h12]
  refine Zfr Zy5 [.blk i.d 127] (Zwz m o pre t N i hi h12 himg hc ht hp) rfl rfl rfl rfl (λc v o' gs N' hq=>?_);refine ⟨rfl,.inl (ZaQ (.g (.int c)) (Zb9 0 7 8 9 10 11) rfl rfl rfl (.inl rfl) rfl rfl rfl rfl rfl (Yag _) trivial ?_)⟩;rw[<- hr,e0];exact hq
 refine ⟨λh13=>?_,λh13=>?_⟩
 ·have e0:Zhk m i o (pre.map Fr.f) t.f=Barb.retS o (pre.map Fr.f) t.f:=by unfold Zhk;rw[if_neg h9,if_neg h10,if_neg h11,if_neg h12,if_pos h13]
  refine Zfr ZAl [.blk i.d 127] (Zyw m o pre t N ht hpre hp hn) rfl rfl rfl rfl (λc v o' gs N' hq=>?_);refine ⟨rfl,.inl (ZaQ (.g (.int c)) (Zb9 0 7 8 9 10 11) rfl rfl rfl (.inl rfl) rfl rfl rfl rfl rfl (Yag _) trivial ?_)⟩;rw[<- hr,e0];exact hq
 ·refine ⟨rfl,.inl (ZaQ (.g (.int 2)) (Zb9 0 1 2 3 4 5) rfl rfl rfl (.inl rfl) rfl rfl rfl rfl rfl (Yag _) trivial (bad ?_))⟩;unfold Zhk;rw[if_neg h9,if_neg h10,if_neg h11,if_neg h12,if_neg h13]
theorem Znf:fnOk Tryz.prog 52=true:=by kernel_rfl
theorem ZdB:fnOk Tryz.prog 53=true:=by kernel_rfl
theorem Zvl:fnOk Tryz.prog 54=true:=by kernel_rfl
set_option maxRecDepth 20000 in
set_option maxHeartbeats 1000000 in
theorem ZvD (m:Zaf) (o:MO) (pre:List Fr) (t:Fr) (N:Ns) (ok:SOk m o ((pre++[t]).map Fr.f)) :
  CTH Tryz.prog gl 30 1 (MH m 0 0 o (pre++[t]) N) [.ptr 0 0] (RQ m (Barb.stepS m o (pre.map Fr.f) t.f)):=by
 have tok:t.f.ok m o.calls:=ok.frs _ (by simp);have ht:t.ok:=Fr.ok_of tok;have hpre:∀f∈pre,f.ok:=λf hf=>Fr.ok_of (ok.frs f.f (YaW.2 ⟨f,by simp[hf],rfl⟩));have hdeep:=ok.deep;rw[Yab,Yae,List.length_singleton] at hdeep;have hcalls:=ok.calls;obtain ⟨k,hk,hkl⟩:=tok.part;have em:m.getD t.f.part.toNat Zas=m[k]:=by rw[hk];simp[hkl]
 obtain ⟨hc1,hc2,hc3,hc4⟩:=Zgv ok.img hkl;have h0:=tok.at0;have h1:=tok.at1;obtain ⟨j,hj⟩:∃j:Nat,t.f.at_=(j:Int):=⟨t.f.at_.toNat,by omega⟩
 suffices H:∀r:R,Barb.stepS m o (pre.map Fr.f) t.f=r->CTH Tryz.prog gl 30 1 (MH m 0 0 o (pre++[t]) N) [.ptr 0 0] (RQ m r) from H _ rfl
 intro r hr;have lc:(m[k].code.map Instr.g).length=m[k].code.length:=Yab _;have mapz:∀(x:Fr),(pre++[x]).map Fr.f=pre.map Fr.f++[x.f]:=λx=>by rw[Yai];rfl
 refine ZbT [] hT hF hM Tryz.func30 rfl 71 rfl (by kernel_rfl) [.tmp 2] rfl [.ptr 0 0] rfl (MH m 0 0 o (pre++[t]) N) [0] rfl rfl rfl 1 [] trivial _ ?_;refine ⟨ZfZ,.inr (Zru (ZfY rfl rfl rfl (n:=pre.length) (by simp) (by omega)) ?_)⟩;refine ⟨none,rfl,?_⟩;refine ⟨_,Zbb Fr.g pre t,?_⟩;refine ⟨_,Zbb Fr.g pre t,?_⟩;refine ⟨k,_,dI hk,gm hkl,?_⟩;refine ⟨λhge=>?_,λhlt=>?_⟩
 ·refine ⟨rfl,.inl (ZaQ (.g (.int 4)) (Zb9 0 1 2 3 4 5) rfl rfl rfl (.inl rfl) rfl rfl rfl rfl rfl (Yag _) trivial ?_)⟩;rw[<- hr];unfold Barb.stepS;simp only;rw[em,if_pos (by omega)];exact ⟨_,_,rfl⟩
 have hjl:j < m[k].code.length:=by omega
 have ei:m[k].code.getD t.f.at_.toNat Zcp=m[k].code[j]:=by rw[hj];simp[hjl]
 have hi:=hc3 _ (Yah hjl);have e0:Barb.stepS m o (pre.map Fr.f) t.f=(if m[k].code[j].op=6\/m[k].code[j].op=7 then Zmu m[k] m[k].code[j] o (pre.map Fr.f) { t.f with at_:=t.f.at_+1 }
   else if m[k].code[j].op=9\/m[k].code[j].op=10\/m[k].code[j].op=11\/m[k].code[j].op=12\/m[k].code[j].op=13\/m[k].code[j].op=15 then Zhk m m[k].code[j] o (pre.map Fr.f) { t.f with at_:=t.f.at_+1 } else Zis m[k].code[j] o (pre.map Fr.f) { t.f with at_:=t.f.at_+1 }):=by unfold Barb.stepS;simp only;rw[em,if_neg (by omega),ei]
 have ht1:(Fr.mk { t.f with at_:=t.f.at_+1 } t.v).ok:=ht;refine ⟨none,rfl,?_⟩;refine ⟨_,Zbb Fr.g pre t,?_⟩;refine ⟨k,_,dI hk,gm hkl,?_⟩;refine ⟨_,Zbb Fr.g pre t,?_⟩;refine ⟨j,_,dI hj,gm hjl,?_⟩;refine ⟨_,Zbb Fr.g pre t,?_⟩;refine ⟨_,I64.wrap (by unfold I64;omega),?_⟩;refine ⟨_,[.int (t.f.at_+1)],Zbb Fr.g pre t,⟨rfl,trivial⟩,by rw[Fr.g_len ht.1];exact (by decide:0+1+1<=12),(λh=>by cases h),.inr (ZAX (h2:=MHr m 0 0 o (pre++[(Fr.mk { t.f with at_:=t.f.at_+1 } t.v)]) N [.blk m[k].code[j].d 127]) ?_ (Ze2 ?_))⟩
 ·show [Obj.blk _ _,Obj.many ((pre++[t]).map fz) _,_,_,_,Obj.row (((pre++[t]).map Fr.g).set pre.length _) _ _,_]=_;rw[ZfD Fr.g pre t _ _ (Fr.g_set_at (t.f.at_+1)).symm,show (pre++[t]).map fz=(pre++[(Fr.mk { t.f with at_:=t.f.at_+1 } t.v)]).map fz from by rw[Yai,Yai];rfl]
 refine ⟨λh6=>⟨λ_=>?_,λh=>absurd h6 h⟩,λh6=>?_⟩
 ·refine Zfr Znf [.blk m[k].code[j].d 127] (ZkG m o pre (Fr.mk { t.f with at_:=t.f.at_+1 } t.v) N m[k].code[j] k hkl hk ok.img ok.data ht1 (by omega)) rfl rfl rfl rfl (λc v o' gs N' hq=>?_);refine ⟨rfl,.inl (ZaQ (.g (.int c)) (Zb9 0 7 8 9 10 11) rfl rfl rfl (.inl rfl) rfl rfl rfl rfl rfl (Yag _) trivial ?_)⟩;rw[<- hr,e0,if_pos (.inl h6)];exact hq
 refine ⟨λh7=>?_,λh7=>?_⟩
 ·refine Zfr Znf [.blk m[k].code[j].d 127] (ZkG m o pre (Fr.mk { t.f with at_:=t.f.at_+1 } t.v) N m[k].code[j] k hkl hk ok.img ok.data ht1 (by omega)) rfl rfl rfl rfl (λc v o' gs N' hq=>?_);refine ⟨rfl,.inl (ZaQ (.g (.int c)) (Zb9 0 7 8 9 10 11) rfl rfl rfl (.inl rfl) rfl rfl rfl rfl rfl (Yag _) trivial ?_)⟩;rw[<- hr,e0,if_pos (.inr h7)];exact hq
 refine ⟨λh9=>⟨λ_=>?_,λh=>absurd h9 h⟩,λh9=>?_⟩
 ·refine Zfr ZdB [.blk m[k].code[j].d 127] (Zc9 m o pre (Fr.mk { t.f with at_:=t.f.at_+1 } t.v) N m[k].code[j] hi (by omega) ok.img hcalls ht1 hpre (by omega) tok.noted) rfl rfl rfl rfl (λc v o' gs N' hq=>?_);refine ⟨rfl,.inl (ZaQ (.g (.int c)) (Zb9 0 7 8 9 10 11) rfl rfl rfl (.inl rfl) rfl rfl rfl rfl rfl (Yag _) trivial ?_)⟩;rw[<- hr,e0,if_neg (by omega),if_pos (by omega)];exact hq
 refine ⟨λh10=>⟨λ_=>?_,λh=>absurd h10 h⟩,λh10=>?_⟩
 ·refine Zfr ZdB [.blk m[k].code[j].d 127] (Zc9 m o pre (Fr.mk { t.f with at_:=t.f.at_+1 } t.v) N m[k].code[j] hi (by omega) ok.img hcalls ht1 hpre (by omega) tok.noted) rfl rfl rfl rfl (λc v o' gs N' hq=>?_);refine ⟨rfl,.inl (ZaQ (.g (.int c)) (Zb9 0 7 8 9 10 11) rfl rfl rfl (.inl rfl) rfl rfl rfl rfl rfl (Yag _) trivial ?_)⟩;rw[<- hr,e0,if_neg (by omega),if_pos (by omega)];exact hq
 refine ⟨λh11=>⟨λ_=>?_,λh=>absurd h11 h⟩,λh11=>?_⟩
 ·refine Zfr ZdB [.blk m[k].code[j].d 127] (Zc9 m o pre (Fr.mk { t.f with at_:=t.f.at_+1 } t.v) N m[k].code[j] hi (by omega) ok.img hcalls ht1 hpre (by omega) tok.noted) rfl rfl rfl rfl (λc v o' gs N' hq=>?_);refine ⟨rfl,.inl (ZaQ (.g (.int c)) (Zb9 0 7 8 9 10 11) rfl rfl rfl (.inl rfl) rfl rfl rfl rfl rfl (Yag _) trivial ?_)⟩;rw[<- hr,e0,if_neg (by omega),if_pos (by omega)];exact hq
 refine ⟨λh12=>⟨λ_=>?_,λh=>absurd h12 h⟩,λh12=>?_⟩
 ·refine Zfr ZdB [.blk m[k].code[j].d 127] (Zc9 m o pre (Fr.mk { t.f with at_:=t.f.at_+1 } t.v) N m[k].code[j] hi (by omega) ok.img hcalls ht1 hpre (by omega) tok.noted) rfl rfl rfl rfl (λc v o' gs N' hq=>?_);refine ⟨rfl,.inl (ZaQ (.g (.int c)) (Zb9 0 7 8 9 10 11) rfl rfl rfl (.inl rfl) rfl rfl rfl rfl rfl (Yag _) trivial ?_)⟩;rw[<- hr,e0,if_neg (by omega),if_pos (by omega)];exact hq
 refine ⟨λh13=>⟨λ_=>?_,λh=>absurd h13 h⟩,λh13=>?_⟩
 ·refine Zfr ZdB [.blk m[k].code[j].d 127] (Zc9 m o pre (Fr.mk { t.f with at_:=t.f.at_+1 } t.v) N m[k].code[j] hi (by omega) ok.img hcalls ht1 hpre (by omega) tok.noted) rfl rfl rfl rfl (λc v o' gs N' hq=>?_);refine ⟨rfl,.inl (ZaQ (.g (.int c)) (Zb9 0 7 8 9 10 11) rfl rfl rfl (.inl rfl) rfl rfl rfl rfl rfl (Yag _) trivial ?_)⟩;rw[<- hr,e0,if_neg (by omega),if_pos (by omega)];exact hq
 refine ⟨λh15=>?_,λh15=>?_⟩
 ·refine Zfr ZdB [.blk m[k].code[j].d 127] (Zc9 m o pre (Fr.mk { t.f with at_:=t.f.at_+1 } t.v) N m[k].code[j] hi (by omega) ok.img hcalls ht1 hpre (by omega) tok.noted) rfl rfl rfl rfl (λc v o' gs N' hq=>?_);refine ⟨rfl,.inl (ZaQ (.g (.int c)) (Zb9 0 7 8 9 10 11) rfl rfl rfl (.inl rfl) rfl rfl rfl rfl rfl (Yag _) trivial ?_)⟩;rw[<- hr,e0,if_neg (by omega),if_pos (by omega)];exact hq
 have hio:=ZdM hi;refine Zfr Zvl [.blk m[k].code[j].d 127] (ZrH m o pre (Fr.mk { t.f with at_:=t.f.at_+1 } t.v) N m[k].code[j] hi (by omega) ok.told ht1 (by omega)) rfl rfl rfl rfl (λc v o' gs N' hq=>?_);refine ⟨rfl,.inl (ZaQ (.g (.int c)) (Zb9 0 7 8 9 10 11) rfl rfl rfl (.inl rfl) rfl rfl rfl rfl rfl (Yag _) trivial ?_)⟩;rw[<- hr,e0,if_neg (by omega),if_neg (by omega)];exact hq
end ZN
namespace Barb
open Go Go.Dm Go.Eng
end Barb
namespace ZN
open Go Go.Dm Go.Eng Go.RowKit Barb
theorem Zr7 (m:Zaf) (d:List Int) (part at_ noted:Int) (args:List Int) :
  CTH Tryz.prog gl 29 1 [.blk [.g (.sl 4 (m.map Part.g)),.g (.int 0),.g (.int 0),.row 3,.row 2,.row 4,.row 5] 87,.many [] [],.row (d.map Zat) 3 1,.row [] 3 1,.row [] 98 7,.row [] 123 12] [.ptr 0 0,.g (.int part),.g (.int at_),.g (.int noted),.g (.sl 1 (args.map Zat))]
   (λout=>∃N,out=.ret (.g (.int 0)) (MH m 0 0 ⟨[],d,[]⟩ [Znd part at_ noted args] N)):=by refine ZbT [] hT hF hM Tryz.func29 rfl 36 rfl (by kernel_rfl) [.tmp 10] rfl [.ptr 0 0,.g (.int part),.g (.int at_),.g (.int noted),.g (.sl 1 (args.map Zat))] rfl ([.blk [.g (.sl 4 (m.map Part.g)),.g (.int 0),.g (.int 0),.row 3,.row 2,.row 4,.row 5] 87,.many [] [],.row (d.map Zat) 3 1,.row [] 3 1,.row [] 98 7,.row [] 123 12]) [0] rfl rfl rfl 1 [] trivial _ ?_;refine ⟨λh=>absurd h (by decide),λ_=>?_⟩;refine .inr (ZAU (Ze2 ?_));refine .inl ?_;refine .inl ?_;refine ⟨_,(Zxs args _ _ _ _).symm,?_⟩;refine ⟨some 9998,[10],rfl,?_⟩;refine ⟨[(Znd part at_ noted args).g],rfl,rfl,Zyk _ (Znd part at_ noted args).g,⟨_,rfl⟩,?_⟩;refine ⟨⟨by simp[maxLen],by simp⟩,?_⟩;refine .inr (ZdP 1 8 (λv=>[(v,8)]) rfl rfl (λv t ht=>ht) (λv4=>ZdP 1 4 (λv=>[(v,4),(v4,8)]) rfl rfl (λv t ht=>ht) (λv3=>ZdP 1 3 (λv=>[(v,3),(v3,4),(v4,8)]) rfl rfl (λv t ht=>ht) (λv2=>ZdP 1 2 (λv=>[(v,2),(v2,3),(v3,4),(v4,8)]) rfl rfl (λv t ht=>ht) (λv1=>Ze2 ?_)))));exact ⟨rfl,.inr (ZAV 1 3 1 (by decide) rfl (Ze2 (ZaQ (o:=⟨[],d,[]⟩) (fs:=[Znd part at_ noted args]) (N:=⟨v1,v2,v3,v4⟩) (.g (.int 0)) (Zb9 0 1 2 3 4 8) rfl rfl rfl (.inl rfl) rfl rfl rfl rfl rfl (Yag _) trivial ⟨_,rfl⟩)))⟩
theorem Zr6 (m:Zaf) (d:List Int) (part at_ noted:Int) (args:List Int) :
  CTH Tryz.prog gl 29 1 [.blk [.g (.sl 4 (m.map Part.g)),.g (.int 0),.g (.int 0),.nils,.row 1,.nils,.nils] 87,.row (d.map Zat) 3 1] [.ptr 0 0,.g (.int part),.g (.int at_),.g (.int noted),.g (.sl 1 (args.map Zat))]
   (λout=>∃N,out=.ret (.g (.int 0)) (MH m 0 0 ⟨[],d,[]⟩ [Znd part at_ noted args] N)):=by
 have hT:Zbu [.blk [.g (.sl 4 (m.map Part.g)),.g (.int 0),.g (.int 0),.nils,.row 1,.nils,.nils] 87,.row (d.map Zat) 3 1] [.old 0,.many0,.old 1,.nil 3 1,.nil 98 7,.nil 123 12] =
  [.blk [.g (.sl 4 (m.map Part.g)),.g (.int 0),.g (.int 0),.nils,.row 2,.nils,.nils] 87,.many [] [],.row (d.map Zat) 3 1,.row [] 3 1,.row [] 98 7,.row [] 123 12]:=rfl
 refine ZwR (hin:=[.blk [.g (.sl 4 (m.map Part.g)),.g (.int 0),.g (.int 0),.row 3,.row 2,.row 4,.row 5] 87,.many [] [],.row (d.map Zat) 3 1,.row [] 3 1,.row [] 98 7,.row [] 123 12]) [.old 0,.many0,.old 1,.nil 3 1,.nil 98 7,.nil 123 12] ⟨rfl,.inr ?_,.inl rfl,rfl⟩ rfl rfl (Zr7 m d part at_ noted args);rw[hT];exact ⟨⟨rfl,.inr ⟨lk rfl,lk rfl,lk rfl,.inr rfl,lk rfl,.inr rfl,.inr rfl,trivial⟩⟩,⟨Yag _,rfl⟩,⟨rfl,rfl,rfl⟩,⟨rfl,rfl,rfl⟩,⟨rfl,rfl,rfl⟩,⟨rfl,rfl,rfl⟩,trivial⟩
theorem Zv8 (n:Int):CT Tryz.prog gl 27 [.g (.int n)] (Is (.pb (¬ZeZ n))):=by refine enter hT hF hM Tryz.func27 rfl 6 rfl (by kernel_rfl) [.tmp 2] rfl [.g (.int n)] rfl _ ?_;exact Zae (.inl rfl) (Zlb n) ⟨rfl,Zyz Ybg⟩
theorem Zwm (l:List Int) (hl:l.length<=9223372036854775807):CT Tryz.prog gl 50 [.g (.sl 1 (l.map Zat)),.fn 27 [] []] (Is (.g (.int (idx ZyK l)))):=by
 have ll:(l.map Zat).length=l.length:=by simp
 refine enter hT hF hM Tryz.func50 rfl 19 rfl (by kernel_rfl) [.tmp 4] rfl [.g (.sl 1 (l.map Zat)),.fn 27 [] []] rfl _ ?_;refine ZaL (ι:=Nat) (λi=>[(8,.g (.int (i:Int)))]) (λ_=>[]) (λi=>i<=l.length/\∀j (hj:j < l.length),j < i->¬ZyK l[j]) (λi=>l.length - i)
  ⟨0,[],⟨rfl,.inl rfl,.inr ⟨lk rfl,trivial⟩,rfl⟩,Yau _,Zhg⟩ ?_
 intro Rd hRd i ⟨hi,ha⟩;refine ⟨λh=>?_,λh=>?_⟩
 ·have h1:i < l.length:=by omega
  refine ⟨i,_,rfl,gm h1,?_⟩;refine Zae (.inl rfl) (Zv8 l[i]) ?_;refine ⟨λh2=>⟨rfl,ZbQ (Zf6 h1 ha h2).symm⟩,λh2=>⟨_,I64.wrap (by unfold I64;omega),?_⟩⟩;exact hRd _ _ _ ⟨i+1,[],⟨rfl,.inl rfl,.inr ⟨lk rfl,trivial⟩,rfl⟩,⟨h1,ZcS h1 ha h2⟩,by omega⟩
 ·exact ⟨rfl,ZbQ (Zf5 (Zdw (by omega) ha)).symm⟩
theorem Zws (l:List Int) (hl:l.length<=9223372036854775807):CT Tryz.prog gl 26 [.g (.sl 1 (l.map Zat)),.fn 27 [] []] (Is (.pb (∃n∈l,¬ZeZ n))):=by
 refine enter hT hF hM Tryz.func26 rfl 9 rfl (by kernel_rfl) [.tmp 4] rfl [.g (.sl 1 (l.map Zat)),.fn 27 [] []] rfl _ ?_;refine Zae (.inl rfl) (Zwm l hl) ⟨rfl,ZmY ?_⟩;rcases Zbx ZyK l with ⟨h1,h2⟩ | ⟨i,hi,h1,h2,h3⟩
 ·rw[h1];exact ⟨λh=>absurd h (by decide),λ⟨c,hc,ho⟩=>absurd ho (h2 c hc)⟩
 ·rw[h1];exact ⟨λ_=>⟨l[i],Yah _,h2⟩,λ_=>by omega⟩
theorem ZBl {g:FuncId} (hg:fnOk Tryz.prog g=true) {l all:List D} {h:Zad} {K Qp:KD} {m:Zaf} {e val:Int} {o:MO} {fs:List Fr} {N:Ns} {x:R} (r:Zad)
  (hct:CTH Tryz.prog gl g 1 (MH m e val o fs N) (.ptr 0 0 :: l) (RQ m x)) (hn:l.map (conv (MHr m e val o fs N r) (Zb9 0 1 2 3 4 5) 4)=l) (hl:Zgw (MHr m e val o fs N r) [0,1,2,3,4,5] (.ptr 0 0 :: l)=true)
  (hh:h=MHr m e val o fs N r) (ha:all=.ptr 0 0 :: l)
  (hgo:∀o' gs N',x=.go o' (gs.map Fr.f)->K (.g (.int 0)) (MHt m 0 0 o' gs N' r)) (hstop:∀c v o' gs N',x=.stop c v o'->K (.g (.int c)) (MHt m 0 v o' gs N' r)) :
  fnOk Tryz.prog g=true/\(Zb7 Tryz.prog gl g all h K Qp\/ZbB Tryz.prog gl g all h K Qp):=by
 subst hh;subst ha;refine Zee [0,1,2,3,4,5] hg hl rfl (ZsR _ _ _ _ _ _ _ _ hn) hct (λd' h' hq=>?_) (λd' h' hq=>?_)
 ·cases x with
  | go o' fs' =>obtain ⟨gs,N',hm,he⟩:=hq;injection he with e1 e2;subst e1;subst e2;rw[ZB0];exact hgo o' gs N' (by rw[hm])
  | stop c v o' =>obtain ⟨gs,N',he⟩:=hq;injection he with e1 e2;subst e1;subst e2;rw[ZB0];exact hstop c v o' gs N' rfl
 ·obtain ⟨c,v,o',gs,N',he⟩:=Zu8 hq;cases he
theorem Zyb:fnOk Tryz.prog 30=true:=by kernel_rfl
set_option maxRecDepth 20000 in
set_option maxHeartbeats 1000000 in
theorem ZzK (m:Zaf) (hm:Zaf.I m) (d:List Int) (hd:d.length*8<=140737488351232) (part entry:Int) (args:List Int) (hargs:args.length*8<=140737488351232) (fuel:Int) :
  CT Tryz.prog gl 9 [.agg (ZlS m),.g (.sl 1 (d.map Zat)),.g (.int part),.g (.int entry),.g (.sl 1 (args.map Zat)),.g (.int fuel)] (Is (.tuple [.agg (ZvM m d part entry args fuel).d,.g (.int (Zte m d part entry args fuel))])):=by
 have lm:(m.map Part.g).length=m.length:=Yab _;have la:(args.map Zat).length=args.length:=Yab _;have e:Zte m d part entry args fuel=Zte m d part entry args fuel:=rfl
 conv at e=>rhs;unfold Zte
 refine enter hT hF hM Tryz.func9 rfl 115 rfl (by kernel_rfl) [.cell 12 36,.tmp 13] rfl [.agg (ZlS m),.g (.sl 1 (d.map Zat)),.g (.int part),.g (.int entry),.g (.sl 1 (args.map Zat)),.g (.int fuel)] rfl _ ?_;refine Zae (.inl rfl) (Zmo m hm d hd) ⟨λh=>⟨rfl,ZBA (ZiF (e.trans (if_pos h)) h) (by rw[e,if_pos h])⟩,λh=>?_⟩;rw[if_neg (λh'=>h' h)] at e;have r5:(part < 0\/part >= m.length\/entry < 0\/entry >= (Barb.partAt m part).entries.length)->∀h:Zad,Zbk (Is (.tuple [.agg (ZvM m d part entry args fuel).d,.g (.int (Zte m d part entry args fuel))])) h (.tuple [.agg [.g (.int 0),.g (.int 0),.nils,.nils,.nils],.g (.int 5)]):=λhb h=>by rw[if_pos hb] at e;exact ZBA (ZiF e (by decide)) e.symm
 refine ⟨λa1=>⟨rfl,r5 (.inl a1) _⟩,λa1=>⟨λa2=>⟨rfl,r5 (.inr (.inl (by omega))) _⟩,λa2=>⟨λa3=>⟨rfl,r5 (.inr (.inr (.inl a3))) _⟩,λa3=>?_⟩⟩⟩;obtain ⟨k,hk⟩:∃k:Nat,part=(k:Int):=⟨part.toNat,by omega⟩;have hkl:k < m.length:=by omega
 have hpk:Barb.partAt m part=m[k]:=by rw[hk];exact Barb.partAt_at hkl
 have le:(m[k].entries.map Entry.g).length=m[k].entries.length:=Yab _;refine ⟨k,_,dI hk,gm hkl,?_⟩;refine ⟨λa4=>⟨rfl,r5 (.inr (.inr (.inr (by rw[hpk];omega)))) _⟩,λa4=>?_⟩;obtain ⟨q,hq⟩:∃q:Nat,entry=(q:Int):=⟨entry.toNat,by omega⟩;have hql:q < m[k].entries.length:=by omega
 have hent:Zr9 m part entry=m[k].entries[q]:=by unfold Zr9;rw[hpk,hq];exact Zpe hql _
 rw[if_neg (by rw[hpk];omega),hent] at e;clear r5;refine ⟨k,_,dI hk,gm hkl,?_⟩;refine ⟨q,_,dI hq,gm hql,?_⟩;refine ⟨λb1=>⟨rfl,?_⟩,λb1=>?_⟩
 ·rw[if_pos (by rw[<- la];exact b1)] at e;exact ZBA (ZiF e (by decide)) e.symm
 rw[if_neg (by rw[<- la];exact λh'=>h' b1)] at e;have r2:(fuel < 0\/fuel > 100000\/∃n∈args,¬ZeZ n)->∀h:Zad,Zbk (Is (.tuple [.agg (ZvM m d part entry args fuel).d,.g (.int (Zte m d part entry args fuel))])) h (.tuple [.agg [.g (.int 0),.g (.int 0),.nils,.nils,.nils],.g (.int 2)]):=λhb h=>by rw[if_pos hb] at e;exact ZBA (ZiF e (by decide)) e.symm
 refine ⟨λc1=>⟨rfl,r2 (.inl c1) _⟩,λc1=>⟨λc2=>⟨rfl,r2 (.inr (.inl c2)) _⟩,λc2=>?_⟩⟩;refine Zae (.inl rfl) (Zws args (by omega)) ⟨λc3=>⟨rfl,r2 (.inr (.inr c3)) _⟩,λc3=>?_⟩;rw[if_neg (by intro hh;rcases hh with hh | hh | hh;exact c1 hh;exact c2 hh;exact c3 hh)] at e;clear r2;obtain ⟨n0,hn0⟩:∃n0:Nat,fuel=(n0:Int):=⟨fuel.toNat,by omega⟩;have hV:ZvM m d part entry args fuel=ZrD (Zcq m n0 ⟨[],d,[]⟩ [⟨part,m[k].entries[q].at_,p8 args,[],-1⟩]):=by unfold ZvM;rw[if_pos e,hent,hn0];rfl
 generalize hF:Zcq m n0 ⟨[],d,[]⟩ [⟨part,m[k].entries[q].at_,p8 args,[],-1⟩]=R0 at hV;obtain ⟨himg,hdw⟩:=ZwP h;obtain ⟨hc1,hc2,hc3,hc4⟩:=Zgv himg hkl;have hat:=hc4 _ (Yah hql);refine ⟨some 1999,rfl,?_⟩;refine ⟨_,_,_,.inl rfl,Zeu (d.map Zat) (by rw[Yab];exact hd),rfl,?_⟩;refine Zee [4,3] Zl5 rfl rfl ⟨rfl,.inl rfl,.inl rfl,rfl⟩ (Zr6 m d part m[k].entries[q].at_ (-1) args) (λd' h' hq=>?_) (λd' h' hq=>?_)
 rotate_left
 ·obtain ⟨N,hq⟩:=hq;cases hq
 obtain ⟨N,hq⟩:=hq;injection hq with e1 e2;subst e1;subst e2;refine .inl ?_;have start:ZCL m R0 ⟨0,0,⟨[],d,[]⟩,[Znd part m[k].entries[q].at_ (-1) args],N,n0⟩:=by refine ⟨by show n0<=100000;omega,λ_=>⟨rfl,⟨himg,hdw,by simp,by simp,by simp,λf hf=>?_⟩,by simp,hF⟩,λhne=>absurd rfl hne⟩;simp only[Yar,YaS,Yav,YaT,or_false] at hf;subst hf;exact ⟨⟨k,hk,hkl⟩,hat.1,by show m[k].entries[q].at_<=2000;omega,rfl,by simp[Znd],by simp[Znd]⟩
 refine ZaL (ι:=LS) (λi=>[(5,.g (.int (i.n:Int))),(16,.ptr 0 0),(12,.ptr 6 0)]) (λi=>MHr m i.e i.val i.o i.gs i.N [.blk [.g (.int 0),.g (.int 0),.nils,.nils,.nils] 36]) (ZCL m R0) (λi=>i.n)
  ⟨⟨0,0,⟨[],d,[]⟩,[Znd part m[k].entries[q].at_ (-1) args],N,n0⟩,[.old 4,.old 5,.old 6,.old 7,.old 8,.old 9,.old 1],⟨rfl,.inl rfl,.inr ⟨lkI hn0,lk rfl,lk rfl,trivial⟩,rfl⟩,start⟩ ?_
 rintro Rd hRd ⟨e1,val1,o1,gs1,N1,n1⟩ hinv;have sub1:∀{n:Nat},¬((n:Int)=0)->∃n',n=n'+1:=fun {n} h=>⟨n - 1,by omega⟩;have hn5:n1<=100000:=hinv.1;by_cases h0:e1=0
 ·obtain ⟨hv,ok,hne,hit⟩:val1=0/\SOk m o1 (gs1.map Fr.f)/\gs1≠[]/\Zcq m n1 o1 (gs1.map Fr.f)=R0:=hinv.2.1 h0;obtain ⟨pre,t,hgs⟩:∃pre t,gs1=pre++[t]:=by
   rcases YbM gs1 with h | ⟨pre,t,h⟩
   ·exact absurd h hne
   ·exact ⟨pre,t,by rw[h,Ybt]⟩
  subst h0;subst hv;subst hgs;refine ⟨λ_=>?_,λhx=>absurd rfl hx⟩;refine ⟨λhz=>?_,λhz=>?_⟩
  ·refine .inl ?_;refine .inl ?_;refine ⟨rfl,Zbl (.inl ?_)⟩;show D.tuple [.agg [.g (.int 3),.g (.int 0),.g (.sl 1 (o1.told.map Zat)),.g (.sl 1 (o1.data.map Zat)),.g (.sl 7 (o1.calls.map Nt.g))],.g (.int 0)]=_;have hz':(n1:Int)=0:=hz;have hn1:n1=0:=by omega
   rw[e,hV,<- hit,hn1];rfl
  ·obtain ⟨n2,hn2⟩:=sub1 hz;subst hn2;rw[Yai,Yar,YaS,Zcx] at hit;have hrok:=ZfC (m:=m) (o:=o1) (pre:=pre.map Fr.f) (t:=t.f) (by rw[Yai] at ok;exact ok);refine ZBl Zyb [.blk [.g (.int 0),.g (.int 0),.nils,.nils,.nils] 36] (ZvD m o1 pre t N1 ok) rfl rfl rfl rfl (λo2 gs2 N2 hx=>?_) (λc v o2 gs2 N2 hx=>?_)
   ·rw[hx] at hit hrok;refine .inl ?_;refine ⟨(by unfold I64;omega:I64 (((n2+1:Nat):Int) - 1)),?_⟩;exact hRd _ _ _ ⟨⟨0,0,o2,gs2,N2,n2⟩,[.old 0,.old 7,.old 8,.old 9,.old 10,.old 11,.old 6],⟨rfl,.inl rfl,.inr ⟨lkI (by push_cast;omega),lk rfl,lk rfl,trivial⟩,rfl⟩,⟨by show n2<=100000;omega,λ_=>⟨rfl,hrok.1,λhq=>hrok.2 (by rw[show gs2=[] from hq];rfl),hit⟩,λhq=>absurd rfl hq⟩,Yb0 n2⟩
   ·rw[hx] at hit hrok;refine .inl ?_;refine ⟨(by unfold I64;omega:I64 (((n2+1:Nat):Int) - 1)),?_⟩;exact hRd _ _ _ ⟨⟨c,v,o2,gs2,N2,n2⟩,[.old 0,.old 7,.old 8,.old 9,.old 10,.old 11,.old 6],⟨rfl,.inl rfl,.inr ⟨lkI (by push_cast;omega),lk rfl,lk rfl,trivial⟩,rfl⟩,⟨by show n2<=100000;omega,λhq=>absurd hq hrok,λ_=>hit.symm⟩,Yb0 n2⟩
 ·have hR:R0=(e1,val1,o1):=hinv.2.2 h0;refine ⟨λhx=>absurd hx h0,λ_=>?_⟩;refine .inl ?_;refine ⟨rfl,Zbl (.inl ?_)⟩;show D.tuple [.agg [.g (.int e1),.g (.int val1),.g (.sl 1 (o1.told.map Zat)),.g (.sl 1 (o1.data.map Zat)),.g (.sl 7 (o1.calls.map Nt.g))],.g (.int 0)]=_;rw[e,hV,hR];rfl
end ZN
namespace Barb
open Go Go.Dm Go.Eng ZN
structure NoteOk (m:Zaf) (n:Nt):Prop where
 part:0<=n.part/\n.part < m.length
 entry:0<=n.entry/\n.entry < (m.getD n.part.toNat Zas).entries.length
 args:((m.getD n.part.toNat Zas).entries.getD n.entry.toNat ZbJ).params=n.args.length
 deep:1<=n.deep/\n.deep<=20
 val:n.done=false->n.value=0
def R.all (P:MO->Prop):R->Prop
 | .go o fs=>P o/\fs≠[]
 | .stop c _ o=>P o/\1<=c/\c<=6/\c≠3
theorem Zm3 {P:MO->Prop} {o:MO} (h:P o) (pre:List PF) (t:PF) (n:Int):(ZcV o pre t n).all P:=by
 unfold ZcV;split
 ·exact ⟨h,by decide,by decide,by decide⟩
 ·exact ⟨h,by simp⟩
theorem ZhP {P:MO->Prop} {o:MO} (h:P o) (fs:List PF) (part at_ noted:Int) (args:List Int):(Zcz o fs part at_ noted args).all P:=by
 unfold Zcz;split
 ·exact ⟨h,by decide,by decide,by decide⟩
 ·exact ⟨h,by simp⟩
structure KeepAt (P:MO->Prop) (o:MO):Prop where
 told:∀x,P { o with told:=o.told++[x] }
 data:∀i v,P { o with data:=o.data.set i v }
 note:∀k v,P (Zbe o k v)
def ZCU (P:MO->Prop):Prop:=∀o,P o->KeepAt P o
theorem Zwd {P:MO->Prop} {o:MO} (hk:KeepAt P o) (h:P o) (p:Part) (i:Instr) (pre:List PF) (t:PF):(Zmu p i o pre t).all P:=by
 unfold Zmu
 (repeat' split)
 ·exact ⟨h,by decide,by decide,by decide⟩
 ·exact ⟨h,by simp⟩
 ·exact ⟨h,by decide,by decide,by decide⟩
 ·exact ⟨h,by decide,by decide,by decide⟩
 ·exact ⟨hk.data _ _,by simp⟩
 ·exact ⟨h,by decide,by decide,by decide⟩
theorem ZvP {P:MO->Prop} {o:MO} (hk:KeepAt P o) (h:P o) (pre:List PF) (t:PF):(retS o pre t).all P:=by
 unfold retS;split
 ·exact ⟨h,by decide,by decide,by decide⟩
 ·dsimp only;split
  ·exact ⟨hk.note _ _,by decide,by decide,by decide⟩
  ·exact Zm3 (hk.note _ _) _ _ _
theorem Zvk {P:MO->Prop} {o:MO} (hk:KeepAt P o) (h:P o) (i:Instr) (pre:List PF) (t:PF):(Zis i o pre t).all P:=by
 unfold Zis;dsimp only
 (repeat' split)
 all_goals first
  | exact Zm3 h _ _ _
  | exact ⟨h,by decide,by decide,by decide⟩
  | exact ⟨h,by simp⟩
  | exact ⟨hk.told _,by simp⟩
theorem Zui {m:Zaf} {P:MO->Prop} {o:MO} (h:P o) (i:Instr) (pre:List PF) (t:PF) (ha:0<=i.a/\0<=i.b/\0<=i.c) (hd:pre.length+1<=20)
  (hc:∀n:Nt,NoteOk m n->P { o with calls:=o.calls++[n] }):(Zgo m i o pre t).all P:=by
 unfold Zgo;split
 ·exact ⟨h,by decide,by decide,by decide⟩
 ·rename_i hw;split
  ·exact ⟨h,by decide,by decide,by decide⟩
  ·rename_i hb;dsimp only;split
   ·refine ZhP (hc _ ?_) _ _ _ _ _;unfold ZcJ at hb;have hp:i.a < m.length:=by omega
    have he:i.b < ((m.getD i.a.toNat Zas).entries.length:Nat):=by omega
    have hq:((m.getD i.a.toNat Zas).entries.getD i.b.toNat ZbJ).params=i.c:=YaG λhh=>hb (.inr (.inr hh));refine ⟨⟨ha.1,hp⟩,⟨ha.2.1,he⟩,?_,⟨by show (1:Int)<=((pre.length+1:Nat):Int);omega,by show ((pre.length+1:Nat):Int)<=20;omega⟩,λ_=>rfl⟩;show ((m.getD i.a.toNat Zas).entries.getD i.b.toNat ZbJ).params=((t.off i.c.toNat).length:Int);rw[hq];unfold PF.off;rw[Ya6];omega
   ·exact ZhP h _ _ _ _ _
theorem ZwQ {m:Zaf} {P:MO->Prop} {o:MO} (hk:KeepAt P o) (h:P o) (i:Instr) (pre:List PF) (t:PF) (ha:0<=i.a/\0<=i.b/\0<=i.c) (hd:pre.length+1<=20)
  (hc:∀n:Nt,NoteOk m n->P { o with calls:=o.calls++[n] }):(Zhk m i o pre t).all P:=by
 unfold Zhk
 (repeat' split)
 all_goals first
  | exact Zui h i pre t ha hd hc
  | exact ZvP hk h pre t
  | exact ZhP h _ _ _ _ _
  | exact ⟨h,by decide,by decide,by decide⟩
  | exact ⟨h,by simp⟩
theorem ZrX {m:Zaf} (hi:Zg5 m=0) (k at_:Nat) (hk:k < m.length):0<=((m.getD k Zas).code.getD at_ Zcp).a/\0<=((m.getD k Zas).code.getD at_ Zcp).b/\0<=((m.getD k Zas).code.getD at_ Zcp).c:=by
 obtain ⟨_,_,h2,_⟩:=Zgv hi hk;rw[show m.getD k Zas=m[k] by simp[hk]];by_cases ha:at_ < m[k].code.length
 ·rw[show m[k].code.getD at_ Zcp=m[k].code[at_] by simp[ha]];have:=h2 _ (Yah ha);unfold ZaM at this;by_cases h1:¬(1<=m[k].code[at_].op/\m[k].code[at_].op<=15)
  ·rw[if_pos h1] at this;omega
  rw[if_neg h1] at this;by_cases h3:ZbK m[k].code[at_]
  ·rw[if_pos h3] at this;omega
  unfold ZbK at h3;omega
 ·rw[show m[k].code.getD at_ Zcp=Zcp by rw[Yal,Ybs (by omega)];rfl];decide
theorem ZmJ {m:Zaf} {P:MO->Prop} {o:MO} (hk:KeepAt P o) {pre:List PF} {t:PF} (ok:SOk m o (pre++[t])) (h:P o) (hc:∀n,NoteOk m n->P { o with calls:=o.calls++[n] }):(Barb.stepS m o pre t).all P:=by
 have hd:=ok.deep;rw[Yae,List.length_singleton] at hd;obtain ⟨⟨k,hpk,hkl⟩,_,_,_,_,_⟩:=ok.frs t (by simp);unfold Barb.stepS;dsimp only;split
 ·exact ⟨h,by decide,by decide,by decide⟩
 ·have hz:=ZrX ok.img k t.at_.toNat hkl;rw[hpk,Int.toNat_natCast];split
  ·exact Zwd hk h _ _ _ _
  ·split
   ·exact ZwQ hk h _ _ _ hz hd hc
   ·exact Zvk hk h _ _ _
theorem ZhE {α:Type} (l:List α) (h:l≠[]):∃pre t,l=pre++[t]:=⟨l.dropLast,l.getLast h,(List.dropLast_concat_getLast h).symm⟩
theorem Znq {m:Zaf} {P:MO->Prop} (hk:ZCU P) (hc:∀o n,P o->NoteOk m n->P { o with calls:=o.calls++[n] }):∀(n:Nat) (o:MO) (fs:List PF),SOk m o fs->fs≠[]->P o->P (Zcq m n o fs).2.2/\1<=(Zcq m n o fs).1
 | 0,o,fs,_,_,h=>⟨h,(by decide:(1:Int)<=3)⟩
 | n+1,o,fs,ok,hne,h=>by
  obtain ⟨pre,t,rfl⟩:=ZhE fs hne;rw[Zcx];have hs:=ZmJ (hk o h) ok h (λn hn=>hc o n h hn);have ho:=ZfC ok;cases hx:Barb.stepS m o pre t with
  | go o' fs' =>rw[hx] at hs ho;exact Znq hk hc n o' fs' ho.1 hs.2 hs.1
  | stop c v o' =>rw[hx] at hs;exact ⟨hs.1,hs.2.1⟩
structure Hid (n:Nat) (d1 d2:List Int) (a b:MO):Prop where
 told:a.told=b.told
 one:a.data.take n=d1
 two:b.data.take n=d2
 own:a.data.drop n=b.data.drop n
def RH (n:Nat) (d1 d2:List Int) (K:Int):R->R->Prop
 | .go a fs,.go b gs=>Hid n d1 d2 a b/\fs=gs/\∀f∈fs,f.part=K
 | .stop c v a,.stop c' v' b=>c=c'/\v=v'/\Hid n d1 d2 a b
 | _,_=>False
section
variable {n:Nat} {d1 d2:List Int} {K:Int} {a b:MO}
theorem Hid.at_ (h:Hid n d1 d2 a b) {i:Nat} (hi:n<=i):a.data.getD i 0=b.data.getD i 0:=by
 have e:∀l:List Int,l.getD i 0=(l.drop n).getD (i - n) 0:=λl=>by rw[Yal,Yal,YaX,show n+(i - n)=i by omega]
 rw[e,e,h.own]
theorem Hid.set (h:Hid n d1 d2 a b) {i:Nat} (hi:n<=i) (v:Int):Hid n d1 d2 { a with data:=a.data.set i v } { b with data:=b.data.set i v }:=by
 have e1:∀l:List Int,(l.set i v).take n=l.take n:=λl=>by
  apply YbD;intro j;rw[Ya3,Ya3];split
  ·rw[YaR (by omega)]
  ·rfl
 have e2:∀l:List Int,(l.set i v).drop n=(l.drop n).set (i - n) v:=λl=>by rw[List.drop_set,if_neg (by omega)]
 exact ⟨h.told,(e1 _).trans h.one,(e1 _).trans h.two,by rw[e2,e2,h.own]⟩
end
theorem ZkL {m:Zaf}:∀(n:Nat) {o:MO} {fs:List PF},SOk m o fs->(Zcq m n o fs).2.2.told.length<=501/\(Zcq m n o fs).2.2.data.length=o.data.length
 | 0,o,fs,ok=>⟨by have:=ok.told;show o.told.length<=501;omega,rfl⟩
 | n+1,o,fs,ok=>by
  by_cases hne:fs=[]
  ·subst hne;exact ⟨by have:=ok.told;show o.told.length<=501;omega,rfl⟩
  obtain ⟨pre,t,rfl⟩:=ZhE fs hne;rw[Zcx];have hs:=ZmJ (P:=λo'=>o'.data.length=o.data.length/\o'.told.length<=501) (m:=m) ⟨λx=>⟨rfl,by have:=ok.told;simp;omega⟩,λ_ _=>⟨by simp,by have:=ok.told;show o.told.length<=501;omega⟩,λk v=>by have:=ok.told;unfold Zbe;split<;>exact ⟨rfl,by show o.told.length<=501;omega⟩⟩ ok ⟨rfl,by have:=ok.told;omega⟩ (λ_ _=>⟨rfl,by have:=ok.told;show o.told.length<=501;omega⟩);have ho:=ZfC ok;cases hx:Barb.stepS m o pre t with
  | go o' fs' =>rw[hx] at hs ho;obtain ⟨h1,h2⟩:=ZkL n ho.1;exact ⟨h1,h2.trans hs.1.1⟩
  | stop c v o' =>rw[hx] at hs;exact ⟨hs.1.2,hs.1.1⟩
end Barb
namespace Go.Dm
open Go Go.Eng Go.RowKit
section
variable {P:Program}
end
end Go.Dm
namespace ZN
open Go Go.Dm Go.Eng Barb
end ZN
namespace Go.Dm
open Go Go.Eng Go.RowKit
theorem ZpN {G:Gl} {n:Nat} {K:St->Prop} {st:St} (h:ZcY G n (ZcY G n K) st):ZcY G n K st:=by obtain ⟨st1,h1,st2,h2,k⟩:=h;exact ⟨st2,λC a w e hr=>h2 C a w e (h1 C a w e hr),k⟩
end Go.Dm
namespace Barb
open Go Go.Dm Go.Eng
def Zgj (m:List Part) (l:List Instr) (es:List Entry) (n:Int):Part:=⟨l,es,Zao m,IntKind.i64.wrap (Zao m+n)⟩
def Zdh (m:List Part) (l:List Instr) (es:List Entry) (n:Int):List Part:=m++[Zgj m l es n]
theorem Zni (m:List Part) (l:List Instr) (es:List Entry) (n:Int):(Zdh m l es n).length=m.length+1:=by simp[Zdh]
theorem ZmX {n b:Nat} (h:n*b<=140737488351232) (h':n<=140737488351232):n<=maxLen/\n*b<=140737488355328:=by unfold maxLen;omega
end Barb
namespace ZN
open Go Go.Dm Go.Eng Barb
set_option maxRecDepth 20000 in
theorem Zw9 (m:Zaf) (hm:m.length<=5) (l:List Barb.Instr) (hl:l.length*32<=140737488351232) (es:List Entry) (hes:es.length*16<=140737488351232) (n:Int) :
  CT Tryz.prog gl 32 [.agg (ZlS m),.g (.sl 4 (l.map Instr.g)),.g (.sl 2 (es.map Entry.g)),.g (.int n)] (Is (.tuple [.agg (ZlS (Zdh m l es n)),.g (.int (m.length:Int))])):=by
 have lm:(m.map Part.g).length=m.length:=by simp
 have ll:(l.map Instr.g).length=l.length:=by simp
 have le:(es.map Entry.g).length=es.length:=by simp
 have lv:=Zni m l es n;have lg:((Zdh m l es n).map Part.g).length=m.length+1:=by simpa using lv
 refine Zuv [3] hT hF hM Tryz.func32 rfl 44 rfl (by kernel_rfl) [.cell 8 28,.tmp 9] rfl [.agg (ZlS m),.g (.sl 4 (l.map Instr.g)),.g (.sl 2 (es.map Entry.g)),.g (.int n)] rfl _ ?_;refine ⟨λh=>?_,λh=>?_⟩
 ·obtain ⟨k,hk⟩:∃k,m.length=k+1:=⟨m.length - 1,by omega⟩;have hkl:k < m.length:=by omega
  have hlo:m[k].hi=Zao m:=by unfold Zao;rw[hk,ZbM hkl]
  refine ⟨by unfold I64;omega,k,_,(show D.g (.int (((m.map Part.g).length:Int) - 1))=D.g (.int (k:Int)) by rw[lm,hk];simp),gm hkl,?_⟩;refine ⟨ZmX (b:=64) (by omega) (by omega),ZmX (b:=32) (by omega) (by omega),ZmX (b:=16) (by omega) (by omega),_,rfl,?_⟩;refine ⟨[[.sl 4 (l.map Instr.g),.sl 2 (es.map Entry.g),.int m[k].hi,.int (IntKind.i64.wrap (m[k].hi+n))]],rfl,rfl,⟨rfl,rfl,rfl,rfl,trivial⟩,?_⟩;refine ⟨ZmX (by simp only[List.length_cons,List.length_nil];omega) (by simp only[List.length_cons,List.length_nil];omega),?_⟩;refine ZpN (Zcu [.old 0,.old 1] [(4,.ptr 0 0),(8,.ptr 1 0)] [.blk [.g (.sl 4 ((Zdh m l es n).map Part.g))] 28,.blk [.nils] 28] ⟨rfl,.inr ⟨⟨rfl,.inr ⟨lkL ?_,trivial⟩⟩,⟨rfl,.inl rfl⟩,trivial⟩,.inl rfl,rfl⟩ ?_)
  ·unfold Zdh Zgj;rw[Yai,<- hlo];rfl
  refine Zcu [.old 1] [(4,.fp [.sl 4 ((Zdh m l es n).map Part.g)] 0),(8,.ptr 0 0)] [.blk [.nils] 28] ⟨rfl,.inl rfl,.inl rfl,rfl⟩ ?_;refine ⟨some 5000,rfl,by unfold I64;omega,rfl,Zbl (.inr (.inr ⟨lk rfl,lkI (by omega),trivial⟩))⟩
 ·have hz:m.length=0:=by omega
  have hlo:0=Zao m:=by unfold Zao;rw[hz];rfl
  refine ⟨ZmX (b:=64) (by omega) (by omega),ZmX (b:=32) (by omega) (by omega),ZmX (b:=16) (by omega) (by omega),_,rfl,?_⟩;refine ⟨[[.sl 4 (l.map Instr.g),.sl 2 (es.map Entry.g),.int 0,.int (IntKind.i64.wrap (0+n))]],rfl,rfl,⟨rfl,rfl,rfl,rfl,trivial⟩,?_⟩;refine ⟨ZmX (by simp only[List.length_cons,List.length_nil];omega) (by simp only[List.length_cons,List.length_nil];omega),?_⟩;refine ZpN (Zcu [.old 0,.old 1] [(4,.ptr 0 0),(8,.ptr 1 0)] [.blk [.g (.sl 4 ((Zdh m l es n).map Part.g))] 28,.blk [.nils] 28] ⟨rfl,.inr ⟨⟨rfl,.inr ⟨lkL ?_,trivial⟩⟩,⟨rfl,.inl rfl⟩,trivial⟩,.inl rfl,rfl⟩ ?_)
  ·unfold Zdh Zgj;rw[Yai,<- hlo];rfl
  refine Zcu [.old 1] [(4,.fp [.sl 4 ((Zdh m l es n).map Part.g)] 0),(8,.ptr 0 0)] [.blk [.nils] 28] ⟨rfl,.inl rfl,.inl rfl,rfl⟩ ?_;refine ⟨some 5000,rfl,by unfold I64;omega,rfl,Zbl (.inr (.inr ⟨lk rfl,lkI (by omega),trivial⟩))⟩
end ZN
