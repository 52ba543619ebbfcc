import Derived.Test.YtpjjkiidjofflaaGreatDoorRG7
import Derived.Test.YtpjjkiidjofflaaGreatDoorRGh
import Derived.Test.YtpjjkiidjofflaaGreatDoorRDlib
import Derived.Test.YtpjjkiidjofflaaGreatDoorRDseat
import Derived.Test.YtpjjkiidjofflaaGreatDoorRWd
import Derived.WalkKit
import Derived.BigCall
import Derived.RegionTactic
import Derived.Test.YtpjjkiidjofflaaGreatDoorRG6
import Derived.Test.YtpjjkiidjofflaaGreatDoorRG1
namespace Go.Dm
open Go Go.Eng Go.RowKit
end Go.Dm
namespace Go.Proofs.YtpjjkiidjofflaaGreatDoor
open Go Go.Dm Go.Eng Go.RowKit
theorem top_raw (w:World) (g g2 n cap:Nat) (hn:n < 1000000) (hc:w.cell? ⟨g,6,none⟩=some (.slice (some ⟨g2,0,none⟩) (n+1) cap)) :
  Calls Tryz.prog 51 #[.pointer (some ⟨g,0,none⟩)] w λe w'=>e=.returned (.pointer (some ⟨g2,n*12,none⟩))/\Fr (λ_=>False) w w':=by
 go_enter Tryz.func51,Tryz.ntmps51
 go_wp2
 go_region
 go_wp2
 go_ret
 exact ⟨rfl,rfl,rfl,rfl,Nat.le_refl _,λ_ _ _=>rfl⟩
theorem ZfF {h:Zad} {j k n:Nat} {cs:List D} {t e:TypeId} {xs:List (List GV)} (hj:h[j]?=some (.blk cs t)) (hc:cs[6]?=some (.row k)) (hk:h[k]?=some (.row xs e 12)) (hx:xs.length=n+1) (hn:n < 1000000) :
  CTR Tryz.prog gl 51 [.ptr j 0] h (.el k n 0):=by
 intro C w β V vals _ hr hd;simp only[Zac] at hd;obtain ⟨v,us,rfl,h1,rfl⟩:=hd;simp only[Zaa,hj] at h1;obtain ⟨g,hb,rfl⟩:=h1;obtain ⟨g',vs,hb',hg,hcs⟩:=hr.obj j _ hj;have eg:g'=g:=by rw[hb] at hb';injection hb' with hb';injection hb' with hb';injection hb' with hb';exact hb'.symm
 subst eg;obtain ⟨v6,hv6,hr6⟩:=hcs.get hc;simp only[Zaa,hk] at hr6;obtain ⟨us,hown,_⟩:=hr.obj k _ hk
 rcases hown.2 with ⟨_,h0⟩ | ⟨g2,cap,cur,hbk,_⟩
 ·omega
 have hcell:w.cell? ⟨g',6,none⟩=some (.slice (some ⟨g2,0,none⟩) (n+1) cap):=by
  rw[cell_of_row w _ _ _ _ _ hg,<- hx,<- hbk,<- hr6]
  simpa using hv6
 refine (top_raw w g' g2 n cap hn hcell).mono λe w' he=>?_;obtain ⟨rfl,hf⟩:=he;obtain ⟨q1,q2⟩:=keep_fr hr hf;refine ⟨q1,?_,q2⟩;simp only[Zaa,hk];exact ⟨by omega,g2,_,_,hbk,rfl⟩
end Go.Proofs.YtpjjkiidjofflaaGreatDoor
namespace Barb
open Go Go.Dm Go.Eng
end Barb
namespace Go.Proofs.YtpjjkiidjofflaaGreatDoor
open Go Go.Dm Go.Eng Go.RowKit Barb
abbrev MH (m:Zal) (e val:Int) (o:MO) (fs:List Fr) (N:Ns):Zad :=
 [.blk [.g (.sl 4 (m.map Part.g)),.g (.int e),.g (.int val),.row 3,.row 2,.row 4,.row 5] 87,.many (fs.map fz) (MT N),.row (o.data.map Zat) 3 1,.row (o.told.map Zat) 3 1,.row (o.calls.map Nt.g) 98 7,
  .row (fs.map Fr.g) 123 12]
theorem tg5 (m:Zal) (e val:Int) (o:MO) (fs:List Fr) (N:Ns):ZfS (MH m e val o fs N) 1 1 (ns5 N) :=
 ⟨trivial,List.mem_cons_self,List.mem_cons_of_mem _ List.mem_cons_self,List.mem_cons_of_mem _ (List.mem_cons_of_mem _ List.mem_cons_self),List.mem_cons_of_mem _ (List.mem_cons_of_mem _ (List.mem_cons_of_mem _ List.mem_cons_self)),trivial⟩
theorem st5 {m:Zal} {e val e' val':Int} {o o':MO} {fs fs':List Fr} {N:Ns} (h1:o.data.length=o'.data.length) (h2:o.told.length=o'.told.length) (h3:o.calls.length=o'.calls.length) (h4:fs.length=fs'.length):ZgU (MH m e val o fs N) (MH m e' val' o' fs' N) 1 1 (ns5 N) :=
 ⟨trivial,List.mem_cons_self,⟨⟨by simpa using h1,rfl⟩,rfl⟩,List.mem_cons_of_mem _ List.mem_cons_self,⟨⟨by simpa using h2,rfl⟩,rfl⟩,List.mem_cons_of_mem _ (List.mem_cons_of_mem _ List.mem_cons_self),⟨⟨by simpa using h3,rfl⟩,rfl⟩,
  List.mem_cons_of_mem _ (List.mem_cons_of_mem _ (List.mem_cons_of_mem _ List.mem_cons_self)),⟨⟨by simpa using h4,rfl⟩,rfl⟩,trivial⟩
theorem tg4 (m:Zal) (e val:Int) (o:MO) (fs:List Fr) (N:Ns):ZfS (MH m e val o fs N) 1 1 (ns4 N) :=
 ⟨trivial,List.mem_cons_self,List.mem_cons_of_mem _ List.mem_cons_self,List.mem_cons_of_mem _ (List.mem_cons_of_mem _ List.mem_cons_self),trivial⟩
theorem st4 {m:Zal} {e val e' val':Int} {o o':MO} {fs fs':List Fr} {N:Ns} {f:Value} (h1:o.data.length=o'.data.length) (h2:o.told.length=o'.told.length) (h3:o.calls.length=o'.calls.length):ZgU (MH m e val o fs N) (MH m e' val' o' fs' (N.withF f)) 1 1 (ns4 N) :=
 ⟨trivial,List.mem_cons_self,⟨⟨by simpa using h1,rfl⟩,rfl⟩,List.mem_cons_of_mem _ List.mem_cons_self,⟨⟨by simpa using h2,rfl⟩,rfl⟩,List.mem_cons_of_mem _ (List.mem_cons_of_mem _ List.mem_cons_self),⟨⟨by simpa using h3,rfl⟩,rfl⟩,trivial⟩
theorem ZaL {R:D->Zad->Prop} {env:Dm.Env} {m:Zal} {e val:Int} {o:MO} {fs:List Fr} {N:Ns} {h hin:Zad} {ns:List (Option Value)} {xs:List (List GV)} {l:List (Value × Ob0)} {told data calls:List (List GV)} {d0:D} (d:D) (src:List Src) (hok:Zdt src=true) (hlen:nrOk src (MH m e val o fs N)=true)
  (h0:conv h src 4 (env 0)=.ptr 0 0) (hd:conv h src 4 d0=d\/Zjt (ZiP src) 4 (conv h src 4 d0) d)
  (hT:Zbo h src=[.blk [.g (.sl 4 (m.map Part.g)),.g (.int e),.g (.int val),.row 3,.row 2,.row 4,.row 5] 87,.many l (MT N),.row data 3 1,.row told 3 1,.row calls 98 7,.row xs 123 12])
  (e1:data=o.data.map Zat) (e2:told=o.told.map Zat) (e3:calls=o.calls.map Nt.g) (e4:xs=fs.map Fr.g) (e5:l.Perm (fs.map fz)) (hst:ZgU hin (MH m e val o fs N) 1 1 ns) (q:R d (MH m e val o fs N)):ToH [0] hin 1 ns R h env d0:=by
 subst e1;subst e2;subst e3;subst e4;refine ⟨src,d,MH m e val o fs N,⟨hok,.inr ?_,.inr ?_,hlen⟩,rfl,hst,q⟩
 ·rw[hT];exact ⟨⟨rfl,.inl rfl⟩,⟨e5,rfl⟩,⟨rfl,rfl,rfl⟩,⟨rfl,rfl,rfl⟩,⟨rfl,rfl,rfl⟩,⟨rfl,rfl,rfl⟩,trivial⟩
 ·rw[List.map_cons,List.map_cons,List.map_cons,h0];exact ⟨by rcases hd with hd | hd;exact lk hd;exact hd,lk rfl,trivial⟩
end Go.Proofs.YtpjjkiidjofflaaGreatDoor
namespace Go.Proofs.YtpjjkiidjofflaaGreatDoor
open Go Go.Dm Go.Eng Go.RowKit Barb
theorem ZfG:fnOk Tryz.prog 51=true:=by kernel_rfl
def pushQ (m:Zal) (e val:Int) (o:MO) (pre:List Fr) (t:Fr) (N:Ns) (n:Int):Out->Prop:=λout=>if t.f.ws.length=40 then out=.ret (.g (.bool false)) (MH m e val o (pre++[t]) N) else
 ∃v',out=.ret (.g (.bool true)) (MH m e val o (pre++[t.ww (t.f.ws++[n]) v']) N)
theorem push_any (m:Zal) (e val:Int) (o:MO) (pre:List Fr) (t:Fr) (N:Ns) (n:Int) (ht:t.ok) (hp:pre.length < 1000) :
  CTH Tryz.prog gl 68 6 (MH m e val o (pre++[t]) N) [.ptr 0 0,.g (.int n)] (pushQ m e val o pre t N n):=by
 refine ZbJ [] hT hF hM Tryz.func68 rfl 24 rfl (by kernel_rfl) [.tmp 4] rfl [.ptr 0 0,.g (.int n)] rfl (MH m e val o (pre++[t]) N) [0] rfl rfl rfl 1 (ns5 N) (tg5 _ _ _ _ _ _) _ ?_;refine ⟨ZfG,.inr (semRd (ZfF rfl rfl rfl (n:=pre.length) (by simp) (by omega)) ?_)⟩;refine ⟨_,Za6 Fr.g pre t,ZhC rfl (Fr.g_words ht.1) ?_⟩;refine .inr (ghLend 1 (pre.map fz) [] (.row (t.f.ws.map Zat) 3 1) rfl (by rw[List.map_append];rfl) (ZeM ?_));have hw:=ht.2;have hwl:(t.f.ws.map Zat).length=t.f.ws.length:=List.length_map _;refine ⟨λh=>?_,λh=>?_⟩
 ·refine ⟨rfl,.inr (ZdL 1 6 t.v (.row (t.f.ws.map Zat) 3 1) rfl (.head _) rfl ⟨rfl,rfl,rfl⟩ (ZeM (ZaL (.g (.bool false)) (Zb0 0 1 2 3 4 5) rfl rfl rfl (.inl rfl) rfl rfl rfl rfl rfl ?_ (st5 rfl rfl rfl rfl) ?_)))⟩
  ·simp[fz,Fr.z]
  ·unfold pushQ;rw[if_pos (by omega)]
 ·refine ⟨_,Za6 Fr.g pre t,ZhC rfl (Fr.g_words ht.1) (.inr (ghTag 1 6 rfl (.head _) rfl (ZeM ?_)))⟩;refine ⟨[[.int n]],rfl,rfl,⟨rfl,trivial⟩,?_⟩;refine ⟨⟨by simp[maxLen];omega,by simp;omega⟩,?_⟩;refine .inr (ghName 1 8 rfl rfl (λv'=>ZeM ?_));refine ⟨_,[.raw v'],Za6 Fr.g pre t,⟨rfl,trivial⟩,by rw[Fr.g_len ht.1];decide,(λh=>by cases h),.inl ?_⟩;refine ⟨rfl,.inr (ZdL 1 8 v' (.row ((t.f.ws++[n]).map Zat) 3 1) rfl (.head _) rfl ⟨by simp[Zat],rfl,rfl⟩ (ZeM (ZaL (fs:=pre++[t.ww (t.f.ws++[n]) v']) (.g (.bool true)) (Zb0 0 1 2 3 4 5) rfl rfl rfl (.inl rfl) rfl rfl rfl rfl (Zfl Fr.g pre t _ _ (Fr.g_set_words ht.1 _ _).symm) ?_ (st5 rfl rfl rfl (snoc_len _ _ _)) ?_)))⟩
  ·simp[fz,Fr.z,Fr.ww]
  ·unfold pushQ;rw[if_neg (by omega)];exact ⟨v',rfl⟩
def popQ (m:Zal) (e val:Int) (o:MO) (pre:List Fr) (t:Fr) (N:Ns) (n:Nat):Out->Prop:=λout =>
 if t.f.ws.length < n then out=.ret (.tuple [.nils,.g (.bool false)]) (MH m e val o (pre++[t]) N) else
  ∃v',out=.ret (.tuple [.g (.sl 1 ((t.f.ws.drop (t.f.ws.length - n)).map Zat)),.g (.bool true)]) (MH m e val o (pre++[t.ww (t.f.ws.take (t.f.ws.length - n)) v']) N)
theorem pop_any (m:Zal) (e val:Int) (o:MO) (pre:List Fr) (t:Fr) (N:Ns) (n:Nat) (ht:t.ok) (hp:pre.length < 1000) (hn:n < 1000) :
  CTH Tryz.prog gl 66 6 (MH m e val o (pre++[t]) N) [.ptr 0 0,.g (.int (n:Int))] (popQ m e val o pre t N n):=by
 refine ZbJ [] hT hF hM Tryz.func66 rfl 37 rfl (by kernel_rfl) [.tmp 4,.tmp 5] rfl [.ptr 0 0,.g (.int (n:Int))] rfl (MH m e val o (pre++[t]) N) [0] rfl rfl rfl 1 (ns5 N) (tg5 _ _ _ _ _ _) _ ?_;have hw:=ht.2;have hwl:(t.f.ws.map Zat).length=t.f.ws.length:=List.length_map _;refine ⟨ZfG,.inr (semRd (ZfF rfl rfl rfl (n:=pre.length) (by simp) (by omega)) ?_)⟩;refine ⟨_,Za6 Fr.g pre t,ZhC rfl (Fr.g_words ht.1) ?_⟩;refine .inr (ghLend 1 (pre.map fz) [] (.row (t.f.ws.map Zat) 3 1) rfl (by rw[List.map_append];rfl) (ZeM ?_));refine ⟨by unfold I64;omega,?_⟩;refine ⟨λh=>?_,λh=>?_⟩
 ·refine ⟨rfl,.inr (ZdL 1 6 t.v (.row (t.f.ws.map Zat) 3 1) rfl (.head _) rfl ⟨rfl,rfl,rfl⟩ (ZeM (ZaL (.tuple [.nils,.g (.bool false)]) (Zb0 0 1 2 3 4 5) rfl rfl rfl (.inl rfl) rfl rfl rfl rfl rfl ?_ (st5 rfl rfl rfl rfl) ?_)))⟩
  ·simp[fz,Fr.z]
  ·unfold popQ;rw[if_pos (by omega)]
 ·obtain ⟨k,hk⟩:∃k:Nat,t.f.ws.length=k+n:=⟨t.f.ws.length - n,by omega⟩;have hsub:D.g (.int (((t.f.ws.map Zat).length:Int) - (n:Int)))=D.g (.int (k:Int)):=by rw[hwl,hk];congr 2;omega
  refine ⟨_,Za6 Fr.g pre t,ZhC rfl (Fr.g_words ht.1) (.inr (ghTag 1 6 rfl (.head _) rfl (ZeM ?_)))⟩;refine ⟨k,hsub,by omega,.inl ?_⟩;refine .inr (semRow (.inl rfl) (Zfh _ ?_) ?_ ?_)
  ·simp;omega
  ·intro r hr g hg;obtain ⟨x,_,rfl⟩:=List.mem_map.1 (List.mem_of_mem_drop (List.mem_of_mem_take hr))
   rcases List.mem_singleton.1 hg with rfl
   trivial
  refine ⟨_,Za6 Fr.g pre t,ZhC rfl (Fr.g_words ht.1) (.inr (ghTag 1 6 rfl (.head _) rfl (ZeM ?_)))⟩;refine ⟨k,hsub,by omega,.inr (ghCut rfl (by omega) (ghName 1 8 rfl rfl (λv'=>ZeM ?_)))⟩;refine ⟨_,[.raw v'],Za6 Fr.g pre t,⟨rfl,trivial⟩,by rw[Fr.g_len ht.1];decide,(λh=>by cases h),.inl ?_⟩;refine ⟨rfl,.inr (ZdL 1 8 v' (.row ((t.f.ws.take k).map Zat) 3 1) rfl (.head _) rfl ⟨by rw[List.map_take],rfl,rfl⟩ (ZeM (ZaL (fs:=pre++[t.ww (t.f.ws.take k) v']) (.tuple [.g (.sl 1 ((t.f.ws.drop k).map Zat)),.g (.bool true)]) (Zb0 0 1 2 3 4 5) rfl rfl rfl (.inl ?_) rfl rfl rfl rfl (Zfl Fr.g pre t _ _ (Fr.g_set_words ht.1 _ _).symm) ?_ (st5 rfl rfl rfl (snoc_len _ _ _)) ?_)))⟩
  ·show D.tuple [.g (.sl 1 (((t.f.ws.map Zat).drop k).take _)),_]=_;rw[List.take_of_length_le (by simp),List.map_drop];rfl
  ·simp[fz,Fr.z,Fr.ww]
  ·unfold popQ;rw[if_neg (by omega),show t.f.ws.length - n=k from by omega];exact ⟨v',rfl⟩
end Go.Proofs.YtpjjkiidjofflaaGreatDoor
namespace Barb
open Go Go.Dm Go.Eng
end Barb
namespace Go.Proofs.YtpjjkiidjofflaaGreatDoor
open Go Go.Dm Go.Eng Go.RowKit Barb
def Zjd (m:Zal) (e val:Int) (o:MO) (fs:List Fr) (N:Ns) (part at_ noted:Int) (args:List Int):Out->Prop:=λout =>
 if fs.length=20 then out=.ret (.g (.int 5)) (MH m e val o fs N) else ∃f,out=.ret (.g (.int 0)) (MH m e val o (fs++[newF part at_ noted args]) (N.withF f))
theorem enter_any (m:Zal) (e val:Int) (o:MO) (fs:List Fr) (N:Ns) (part at_ noted:Int) (args:List Int) (hf:fs.length<=20) :
  CTH Tryz.prog gl 29 5 (MH m e val o fs N) [.ptr 0 0,.g (.int part),.g (.int at_),.g (.int noted),.g (.sl 1 (args.map Zat))] (Zjd m e val o fs N part at_ noted args):=by
 refine ZbJ [] hT hF hM Tryz.func29 rfl 36 rfl (by kernel_rfl) [.tmp 10] rfl [.ptr 0 0,.g (.int part),.g (.int at_),.g (.int noted),.g (.sl 1 (args.map Zat))] rfl (MH m e val o fs N) [0] rfl rfl rfl 1 (ns4 N) (tg4 _ _ _ _ _ _) _ ?_;have hl:(fs.map Fr.g).length=fs.length:=List.length_map _;refine ⟨λh=>?_,λh=>?_⟩
 ·refine ⟨rfl,.inl (ZaL (.g (.int 5)) (Zb0 0 1 2 3 4 5) rfl rfl rfl (.inl rfl) rfl rfl rfl rfl rfl (List.Perm.refl _) (st4 rfl rfl rfl) ?_)⟩;unfold Zjd;rw[if_pos (by omega)]
 ·refine .inr (ghRaw (ZeM ?_));refine .inl ?_;refine .inl ?_;refine ⟨_,(p8_set args _ _ _ _).symm,?_⟩;refine ⟨some 9998,[10],rfl,?_⟩;refine ⟨[(newF part at_ noted args).g],rfl,rfl,seesG _ (newF part at_ noted args).g,⟨_,rfl⟩,?_⟩;refine ⟨⟨by simp[maxLen];omega,by simp;omega⟩,?_⟩;refine .inr (Zdz 1 8 (λv=>[(N.d,2),(N.t,3),(N.c,4),(v,8)]) rfl rfl (λv t ht=>?_) (λv'=>ZeM ?_))
  ·simp only[List.mem_cons,List.not_mem_nil,or_false] at ht ⊢
   rcases ht with rfl | rfl | rfl | rfl<;>simp
  refine ⟨rfl,.inr (ghNil 1 3 1 (by decide) rfl (ZeM (ZaL (fs:=fs++[newF part at_ noted args]) (N:=N.withF v') (.g (.int 0)) (Zb0 0 1 2 3 4 8) rfl rfl rfl (.inl rfl) rfl rfl rfl rfl ?_ ?_ (st4 rfl rfl rfl) ?_)))⟩
  ·simp
  ·simp[fz,Fr.z,newF]
  ·unfold Zjd;rw[if_neg (by omega)];exact ⟨v',rfl⟩
theorem own_fn:fnOk Tryz.prog 67=true:=by kernel_rfl
theorem ownM_any (m:Zal) (e val:Int) (o:MO) (pre:List Fr) (t:Fr) (N:Ns) (k:Nat) (hk:k < m.length) (htk:t.f.part=(k:Int)) (at_:Int) (hp:pre.length < 1000) :
  CTH Tryz.prog gl 67 6 (MH m e val o (pre++[t]) N) [.ptr 0 0,.g (.int at_)] (λout=>out=.ret (.pb (ZfY m[k] at_)) (MH m e val o (pre++[t]) N)):=by
 refine ZbJ [] hT hF hM Tryz.func67 rfl 28 rfl (by kernel_rfl) [.tmp 4] rfl [.ptr 0 0,.g (.int at_)] rfl (MH m e val o (pre++[t]) N) [0] rfl rfl rfl 1 (ns5 N) (tg5 _ _ _ _ _ _) _ ?_;refine ⟨none,rfl,?_⟩;refine ⟨ZfG,_,λh' hx=>ZfF (hx _ _ rfl) rfl (hx _ _ rfl) (n:=pre.length) (by simp) (by omega),?_⟩;refine ⟨_,Za6 Fr.g pre t,?_⟩;refine ⟨k,_,(show D.g (.int t.f.part)=D.g (.int (k:Int)) by rw[htk]),gm hk,?_⟩;refine ⟨λh=>?_,λh=>?_⟩
 ·exact ⟨rfl,.inl (ZaL _ (Zb0 0 1 2 3 4 5) rfl rfl rfl (.inr (lkP ⟨λh2=>⟨h,h2⟩,λh2=>h2.2⟩)) rfl rfl rfl rfl rfl (List.Perm.refl _) (st5 rfl rfl rfl rfl) rfl)⟩
 ·exact ⟨rfl,.inl (ZaL _ (Zb0 0 1 2 3 4 5) rfl rfl rfl (.inr (lkBP ⟨λh2=>(by cases h2),λh2=>absurd h2.1 h⟩)) rfl rfl rfl rfl rfl (List.Perm.refl _) (st5 rfl rfl rfl rfl) rfl)⟩
end Go.Proofs.YtpjjkiidjofflaaGreatDoor
namespace Barb
open Go Go.Dm Go.Eng Go.Proofs.YtpjjkiidjofflaaGreatDoor
end Barb
namespace Barb
open Go Go.Dm Go.Eng
end Barb
namespace Go.Proofs.YtpjjkiidjofflaaGreatDoor
open Go Go.Dm Go.Eng Go.RowKit Barb
theorem pop_fn:fnOk Tryz.prog 66=true:=by kernel_rfl
theorem push_fn:fnOk Tryz.prog 68=true:=by kernel_rfl
theorem enter_fn:fnOk Tryz.prog 29=true:=by kernel_rfl
def RQ (m:Zal):R->Out->Prop
 | .go o fs,out=>∃(gs:List Fr) (N:Ns),gs.map Fr.f=fs/\out=.ret (.g (.int 0)) (MH m 0 0 o gs N)
 | .stop c v o,out=>∃(gs:List Fr) (N:Ns),out=.ret (.g (.int c)) (MH m 0 v o gs N)
theorem popQ_ret {m:Zal} {e val:Int} {o:MO} {pre:List Fr} {t:Fr} {N:Ns} {n:Nat} {out:Out} (h:popQ m e val o pre t N n out):(t.f.ws.length < n/\out=.ret (.tuple [.nils,.g (.bool false)]) (MH m e val o (pre++[t]) N)) \/
  (n<=t.f.ws.length/\∃v',out=.ret (.tuple [.g (.sl 1 ((t.f.ws.drop (t.f.ws.length - n)).map Zat)),.g (.bool true)]) (MH m e val o (pre++[t.ww (t.f.ws.take (t.f.ws.length - n)) v']) N)):=by
 unfold popQ at h
 split at h
 ·exact .inl ⟨by assumption,h⟩
 ·exact .inr ⟨by omega,h⟩
abbrev MHr (m:Zal) (e val:Int) (o:MO) (fs:List Fr) (N:Ns) (r:Zad):Zad :=
 .blk [.g (.sl 4 (m.map Part.g)),.g (.int e),.g (.int val),.row 3,.row 2,.row 4,.row 5] 87 :: .many (fs.map fz) (MT N) :: .row (o.data.map Zat) 3 1 :: .row (o.told.map Zat) 3 1 :: .row (o.calls.map Nt.g) 98 7 ::
  .row (fs.map Fr.g) 123 12 :: r
theorem putM (m m':Zal) (e e' val val':Int) (o o':MO) (fs fs':List Fr) (N N':Ns) (r:Zad):Zg0 (MHr m e val o fs N r) [0,1,2,3,4,5] 6 (MH m' e' val' o' fs' N')=MHr m' e' val' o' fs' N' r:=by unfold Zg0;simp only[List.map_cons,List.map_nil,putO];rw[show (0+1+1+1+1+1+1:Nat)=0+6 from rfl,Zgr];show _++[]=_;rw[List.append_nil];rfl
theorem turnM (m:Zal) (e val:Int) (o:MO) (fs:List Fr) (N:Ns) (r:Zad) (n:D) (hn:conv (MHr m e val o fs N r) (Zb0 0 1 2 3 4 5) 4 n=n):TurnTo (MHr m e val o fs N r) (Zb0 0 1 2 3 4 5) [.ptr 0 0,n] (MH m e val o fs N) [.ptr 0 0,n] :=
 ⟨rfl,.inl rfl,.inl (by rw[List.map_cons,List.map_cons,List.map_nil,hn];rfl),rfl⟩
theorem ZeE {all:List D} {h:Zad} {K Qp:KD} {m:Zal} {e val:Int} {o:MO} {pre:List Fr} {t:Fr} {N:Ns} {n:Nat} (r:Zad) (ht:t.ok) (hp:pre.length < 1000) (hn:n < 1000)
  (hh:h=MHr m e val o (pre++[t]) N r) (ha:all=[.ptr 0 0,.g (.int (n:Int))])
  (hno:t.f.ws.length < n->K (.tuple [.nils,.g (.bool false)]) (MHr m e val o (pre++[t]) N r))
  (hyes:∀v',n<=t.f.ws.length->K (.tuple [.g (.sl 1 ((t.f.ws.drop (t.f.ws.length - n)).map Zat)),.g (.bool true)]) (MHr m e val o (pre++[t.ww (t.f.ws.take (t.f.ws.length - n)) v']) N r)) :
  fnOk Tryz.prog 66=true/\(ZbY Tryz.prog gl 66 all h K Qp\/Zbu Tryz.prog gl 66 all h K Qp):=by
 subst hh;subst ha;refine ZdZ [0,1,2,3,4,5] pop_fn rfl rfl (turnM _ _ _ _ _ _ _ _ rfl) (pop_any m e val o pre t N n ht hp hn) (λd' h' hq=>?_) (λd' h' hq=>?_)
 ·rcases popQ_ret hq with ⟨h1,h2⟩ | ⟨h1,v',h2⟩
  ·injection h2 with e1 e2;subst e1;subst e2;rw[putM];exact hno h1
  ·injection h2 with e1 e2;subst e1;subst e2;rw[putM];exact hyes v' h1
 ·rcases popQ_ret hq with ⟨_,h2⟩ | ⟨_,v',h2⟩<;>cases h2
theorem Zfx {all:List D} {h:Zad} {K Qp:KD} {m:Zal} {e val:Int} {o:MO} {pre:List Fr} {t:Fr} {N:Ns} {n:Int} (r:Zad) (ht:t.ok) (hp:pre.length < 1000)
  (hh:h=MHr m e val o (pre++[t]) N r) (ha:all=[.ptr 0 0,.g (.int n)])
  (hno:t.f.ws.length=40->K (.g (.bool false)) (MHr m e val o (pre++[t]) N r))
  (hyes:∀v',¬t.f.ws.length=40->K (.g (.bool true)) (MHr m e val o (pre++[t.ww (t.f.ws++[n]) v']) N r)) :
  fnOk Tryz.prog 68=true/\(ZbY Tryz.prog gl 68 all h K Qp\/Zbu Tryz.prog gl 68 all h K Qp):=by
 subst hh;subst ha;refine ZdZ [0,1,2,3,4,5] push_fn rfl rfl (turnM _ _ _ _ _ _ _ _ rfl) (push_any m e val o pre t N n ht hp) (λd' h' hq=>?_) (λd' h' hq=>?_)
 ·unfold pushQ at hq
  split at hq
  ·injection hq with e1 e2;subst e1;subst e2;rw[putM];exact hno (by assumption)
  ·obtain ⟨v',hq⟩:=hq;injection hq with e1 e2;subst e1;subst e2;rw[putM];exact hyes v' (by assumption)
 ·unfold pushQ at hq
  split at hq
  ·cases hq
  ·obtain ⟨v',hq⟩:=hq;cases hq
theorem callOwn {all:List D} {h:Zad} {K Qp:KD} {m:Zal} {e val:Int} {o:MO} {pre:List Fr} {t:Fr} {N:Ns} {k:Nat} (r:Zad) (hk:k < m.length) (htk:t.f.part=(k:Int)) {at_:Int} (hp:pre.length < 1000)
  (hh:h=MHr m e val o (pre++[t]) N r) (ha:all=[.ptr 0 0,.g (.int at_)])
  (hyes:K (.pb (ZfY m[k] at_)) (MHr m e val o (pre++[t]) N r)) :
  fnOk Tryz.prog 67=true/\(ZbY Tryz.prog gl 67 all h K Qp\/Zbu Tryz.prog gl 67 all h K Qp):=by subst hh;subst ha;refine ZdZ [0,1,2,3,4,5] own_fn rfl rfl (turnM _ _ _ _ _ _ _ _ rfl) (ownM_any m e val o pre t N k hk htk at_ hp) (λd' h' hq=>?_) (λd' h' hq=>by cases hq);injection hq with e1 e2;subst e1;subst e2;rw[putM];exact hyes
theorem memory_any (m:Zal) (o:MO) (pre:List Fr) (t:Fr) (N:Ns) (i:Instr) (k:Nat) (hk:k < m.length) (htk:t.f.part=(k:Int)) (himg:Zju m=0) (hd:(o.data.length:Int)=ZbS m) (ht:t.ok) (hp:pre.length < 1000) :
  CTH Tryz.prog gl 52 1 (MH m 0 0 o (pre++[t]) N) [.ptr 0 0,.agg i.d] (RQ m (memS m[k] i o (pre.map Fr.f) t.f)):=by
 have hw:=ht.2
 suffices H:∀r:R,memS m[k] i o (pre.map Fr.f) t.f=r->CTH Tryz.prog gl 52 1 (MH m 0 0 o (pre++[t]) N) [.ptr 0 0,.agg i.d] (RQ m r) from H _ rfl
 intro r hr;have ok':∀(ws:List Int) (v:Value),ws.length<=40->(t.ww ws v).ok:=λws v h=>⟨ht.1,h⟩;refine ZbJ [] hT hF hM Tryz.func52 rfl 69 rfl (by kernel_rfl) [.tmp 4] rfl [.ptr 0 0,.agg i.d] rfl (MH m 0 0 o (pre++[t]) N) [0] rfl rfl rfl 1 [] trivial _ ?_;refine ⟨λh6=>?_,λh6=>?_⟩
 ·refine ZeE (n:=1) [.blk i.d 127] ht hp (by decide) rfl rfl (λhl=>?_) (λv' hl=>?_)
  ·refine ⟨some 9999,[7,14],rfl,?_⟩;refine ⟨rfl,.inl (ZaL (.g (.int 4)) (Zb0 0 1 2 3 4 5) rfl rfl rfl (.inl rfl) rfl rfl rfl rfl rfl (List.Perm.refl _) trivial ?_)⟩;rw[<- hr];unfold memS;rw[if_pos h6,if_pos hl];exact ⟨_,_,rfl⟩
  ·obtain ⟨q,hlen⟩:∃q,t.f.ws.length=q+1:=⟨t.f.ws.length - 1,by omega⟩;obtain ⟨x,hx,hws⟩:=ZiN hlen;have hoff:t.f.off 1=[x]:=by unfold PF.off;rw[hlen];exact hx
   rw[show t.f.ws.length - 1=q from by omega,hx];have hmem:memS m[k] i o (pre.map Fr.f) t.f=if ZfY m[k] x then .go o (pre.map Fr.f++[t.f.ww ((t.f.on 1).ws++[o.data.getD x.toNat 0])]) else .stop 4 0 o:=by unfold memS;rw[if_pos h6,if_neg (by omega),hoff];rfl
   rw[hmem] at hr;refine ⟨some 9999,[7,14],rfl,?_⟩;refine ⟨0,[.int x],rfl,rfl,?_⟩;refine callOwn (t:=t.ww (t.f.ws.take q) v') [.blk i.d 127] hk htk hp rfl rfl ?_;refine ⟨λho=>?_,λho=>?_⟩
   ·refine ⟨rfl,.inl (ZaL (.g (.int 4)) (Zb0 0 1 2 3 4 5) rfl rfl rfl (.inl rfl) rfl rfl rfl rfl rfl (List.Perm.refl _) trivial ?_)⟩;rw[<- hr,if_neg ho];exact ⟨_,_,rfl⟩
   ·obtain ⟨n,hxn,hn⟩:=isOwn_at himg hd hk ho;have dx:D.g (.int x)=D.g (.int (n:Int)):=by rw[hxn]
    rw[if_pos ho] at hr;have hln:(o.data.map Zat).length=o.data.length:=List.length_map _;refine ⟨0,[.int x],rfl,rfl,?_⟩;refine ⟨n,dx,by omega,?_⟩;refine ⟨_,gm hn,?_⟩;refine Zfx (t:=t.ww (t.f.ws.take q) v') [.blk i.d 127] (ok' _ _ (by simp;omega)) hp rfl rfl (λh40=>?_) (λv2 h40=>?_)
    ·exfalso
     simp[Fr.ww] at h40;omega
    refine ⟨rfl,.inl (ZaL (.g (.int 0)) (Zb0 0 1 2 3 4 5) rfl rfl rfl (.inl rfl) rfl rfl rfl rfl rfl (List.Perm.refl _) trivial ?_)⟩;rw[<- hr];refine ⟨_,_,?_,rfl⟩;rw[List.map_append];show _++[t.f.ww (t.f.ws.take q++[o.data[n]])]=_++[t.f.ww (t.f.ws.take (t.f.ws.length - 1)++[_])];rw[show t.f.ws.length - 1=q from by omega];simp[hn,hxn]
 ·refine ZeE (n:=2) [.blk i.d 127] ht hp (by decide) rfl rfl (λhl=>?_) (λv' hl=>?_)
  ·refine ⟨rfl,.inl (ZaL (.g (.int 4)) (Zb0 0 1 2 3 4 5) rfl rfl rfl (.inl rfl) rfl rfl rfl rfl rfl (List.Perm.refl _) trivial ?_)⟩;rw[<- hr];unfold memS;rw[if_neg h6,if_pos hl];exact ⟨_,_,rfl⟩
  ·obtain ⟨q,hlen⟩:∃q,t.f.ws.length=q+2:=⟨t.f.ws.length - 2,by omega⟩;obtain ⟨x,y,hx,hws⟩:=off_two hlen;have hoff:t.f.off 2=[x,y]:=by unfold PF.off;rw[hlen];exact hx
   rw[show t.f.ws.length - 2=q from by omega,hx];have hmem:memS m[k] i o (pre.map Fr.f) t.f=if ZfY m[k] x then .go { o with data:=o.data.set x.toNat y } (pre.map Fr.f++[t.f.on 2]) else .stop 4 0 o:=by unfold memS;rw[if_neg h6,if_neg (by omega),hoff];rfl
   rw[hmem] at hr;refine ⟨0,[.int x],rfl,rfl,?_⟩;refine callOwn (t:=t.ww (t.f.ws.take q) v') [.blk i.d 127] hk htk hp rfl rfl ?_;refine ⟨λho=>?_,λho=>?_⟩
   ·refine ⟨rfl,.inl (ZaL (.g (.int 4)) (Zb0 0 1 2 3 4 5) rfl rfl rfl (.inl rfl) rfl rfl rfl rfl rfl (List.Perm.refl _) trivial ?_)⟩;rw[<- hr,if_neg ho];exact ⟨_,_,rfl⟩
   ·obtain ⟨n,hxn,hn⟩:=isOwn_at himg hd hk ho;have dx:D.g (.int x)=D.g (.int (n:Int)):=by rw[hxn]
    rw[if_pos ho] at hr;have hln:(o.data.map Zat).length=o.data.length:=List.length_map _;refine ⟨none,rfl,?_⟩;refine ⟨0,[.int x],rfl,rfl,?_⟩;refine ⟨1,[.int y],rfl,rfl,?_⟩;refine ⟨n,dx,by omega,?_⟩;refine ⟨_,[.int y],gm hn,⟨rfl,trivial⟩,Nat.le_refl 1,(λh=>by cases h),?_⟩;refine ⟨rfl,.inl (ZaL (o:={ o with data:=o.data.set n y }) (.g (.int 0)) (Zb0 0 1 2 3 4 5) rfl rfl rfl (.inl rfl) rfl ?_ rfl rfl rfl (List.Perm.refl _) trivial ?_)⟩
    ·rw[List.map_set];rfl
    rw[<- hr,hxn];refine ⟨_,_,?_,rfl⟩;rw[List.map_append];show _++[t.f.ww (t.f.ws.take q)]=_++[t.f.ww (t.f.ws.take (t.f.ws.length - 2))];rw[show t.f.ws.length - 2=q from by omega]
end Go.Proofs.YtpjjkiidjofflaaGreatDoor
namespace Barb
open Go Go.Dm Go.Eng Go.Proofs.YtpjjkiidjofflaaGreatDoor
end Barb
namespace Barb
open Go Go.Dm Go.Eng
end Barb
namespace Go.Proofs.YtpjjkiidjofflaaGreatDoor
open Go Go.Dm Go.Eng Go.RowKit Barb
abbrev MHf (m:Zal) (e val:Int) (o:MO) (fs:List Fr) (N:Ns) (r:Zad):Zad :=
 .blk [.g (.sl 4 (m.map Part.g)),.g (.int e),.g (.int val),.row 3,.row 2,.row 4,.row (jx 5 r 5)] 87 :: .many (fs.map fz) [(N.d,2),(N.t,3),(N.c,4),(N.f,jx 5 r 5)] :: .row (o.data.map Zat) 3 1 :: .row (o.told.map Zat) 3 1 :: .row (o.calls.map Nt.g) 98 7 ::
  .dead :: (r++[.row (fs.map Fr.g) 123 12])
theorem putF (m m':Zal) (e e' val val':Int) (o o':MO) (fs fs':List Fr) (N N':Ns) (r:Zad):Zg0 (MHr m e val o fs N r) [0,1,2,3,4,5] 5 (MH m' e' val' o' fs' N')=MHf m' e' val' o' fs' N' r:=by unfold Zg0;simp only[List.map_cons,List.map_nil,putO];rw[show (0+1+1+1+1+1+1:Nat)=0+6 from rfl,Zgr];rfl
abbrev MHt (m:Zal) (e val:Int) (o:MO) (fs:List Fr) (N:Ns) (r:Zad):Zad :=
 .blk [.g (.sl 4 (m.map Part.g)),.g (.int e),.g (.int val),.row (jx 1 r 3),.row (jx 1 r 2),.row (jx 1 r 4),.row (jx 1 r 5)] 87 :: .dead :: .dead :: .dead :: .dead :: .dead ::
  (r++[.many (fs.map fz) [(N.d,jx 1 r 2),(N.t,jx 1 r 3),(N.c,jx 1 r 4),(N.f,jx 1 r 5)],.row (o.data.map Zat) 3 1,.row (o.told.map Zat) 3 1,.row (o.calls.map Nt.g) 98 7,.row (fs.map Fr.g) 123 12])
theorem putT (m m':Zal) (e e' val val':Int) (o o':MO) (fs fs':List Fr) (N N':Ns) (r:Zad):Zg0 (MHr m e val o fs N r) [0,1,2,3,4,5] 1 (MH m' e' val' o' fs' N')=MHt m' e' val' o' fs' N' r:=by unfold Zg0;simp only[List.map_cons,List.map_nil,putO];rw[show (0+1+1+1+1+1+1:Nat)=0+6 from rfl,Zgr];rfl
theorem turnM2 (m:Zal) (e val:Int) (o:MO) (fs:List Fr) (N:Ns) (r:Zad) (l:List D) (hn:l.map (conv (MHr m e val o fs N r) (Zb0 0 1 2 3 4 5) 4)=l):TurnTo (MHr m e val o fs N r) (Zb0 0 1 2 3 4 5) (.ptr 0 0 :: l) (MH m e val o fs N) (.ptr 0 0 :: l) :=
 ⟨rfl,.inl rfl,.inl (by rw[List.map_cons,hn];rfl),rfl⟩
theorem callEnter {all:List D} {h:Zad} {K Qp:KD} {m:Zal} {e val:Int} {o:MO} {fs:List Fr} {N:Ns} {part at_ noted:Int} {args:List Int} (r:Zad) (hf:fs.length<=20)
  (hh:h=MHr m e val o fs N r) (ha:all=[.ptr 0 0,.g (.int part),.g (.int at_),.g (.int noted),.g (.sl 1 (args.map Zat))])
  (hno:fs.length=20->K (.g (.int 5)) (MHf m e val o fs N r))
  (hyes:∀f,¬fs.length=20->K (.g (.int 0)) (MHf m e val o (fs++[newF part at_ noted args]) (N.withF f) r)) :
  fnOk Tryz.prog 29=true/\(ZbY Tryz.prog gl 29 all h K Qp\/Zbu Tryz.prog gl 29 all h K Qp):=by
 subst hh;subst ha;refine ZdZ [0,1,2,3,4,5] enter_fn rfl rfl (turnM2 _ _ _ _ _ _ _ _ rfl) (enter_any m e val o fs N part at_ noted args hf) (λd' h' hq=>?_) (λd' h' hq=>?_)
 ·unfold Zjd at hq
  split at hq
  ·injection hq with e1 e2;subst e1;subst e2;rw[putF];exact hno (by assumption)
  ·obtain ⟨v',hq⟩:=hq;injection hq with e1 e2;subst e1;subst e2;rw[putF];exact hyes v' (by assumption)
 ·unfold Zjd at hq
  split at hq
  ·cases hq
  ·obtain ⟨v',hq⟩:=hq;cases hq
theorem RQ_ret {m:Zal} {x:R} {out:Out} (h:RQ m x out):∃c v o gs N,out=.ret (.g (.int c)) (MH m 0 v o gs N):=by
 cases x with
 | go o fs=>obtain ⟨gs,N,_,h⟩:=h;exact ⟨_,_,_,_,_,h⟩
 | stop c v o=>obtain ⟨gs,N,h⟩:=h;exact ⟨_,_,_,_,_,h⟩
theorem Zfb {g:FuncId} (hg:fnOk Tryz.prog g=true) {l all:List D} {h:Zad} {K Qp:KD} {m:Zal} {e val:Int} {o:MO} {fs:List Fr} {N:Ns} {x:R} (r:Zad)
  (hct:CTH Tryz.prog gl g 1 (MH m e val o fs N) (.ptr 0 0 :: l) (RQ m x)) (hn:l.map (conv (MHr m e val o fs N r) (Zb0 0 1 2 3 4 5) 4)=l) (hl:Zf7 (MHr m e val o fs N r) [0,1,2,3,4,5] (.ptr 0 0 :: l)=true)
  (hh:h=MHr m e val o fs N r) (ha:all=.ptr 0 0 :: l)
  (hyes:∀c v o' gs N',RQ m x (.ret (.g (.int c)) (MH m 0 v o' gs N'))->K (.g (.int c)) (MHt m 0 v o' gs N' r)) :
  fnOk Tryz.prog g=true/\(ZbY Tryz.prog gl g all h K Qp\/Zbu Tryz.prog gl g all h K Qp):=by
 subst hh;subst ha;refine ZdZ [0,1,2,3,4,5] hg hl rfl (turnM2 _ _ _ _ _ _ _ _ hn) hct (λd' h' hq=>?_) (λd' h' hq=>?_)
 ·obtain ⟨c,v,o',gs,N',he⟩:=RQ_ret hq;injection he with e1 e2;subst e1;subst e2;rw[putT];exact hyes c v o' gs N' hq
 ·obtain ⟨c,v,o',gs,N',he⟩:=RQ_ret hq
  cases he
set_option maxRecDepth 20000 in
theorem mwords_any (m:Zal) (o:MO) (pre:List Fr) (t:Fr) (N:Ns) (i:Instr) (hi:Zbi i=0) (_hop:i.op=1\/i.op=2\/i.op=3\/i.op=4\/i.op=5\/i.op=8\/i.op=14) (hto:o.told.length<=500) (ht:t.ok) (hp:pre.length < 1000) :
  CTH Tryz.prog gl 54 1 (MH m 0 0 o (pre++[t]) N) [.ptr 0 0,.agg i.d] (RQ m (ZjK i o (pre.map Fr.f) t.f)):=by
 have hw:=ht.2;obtain ⟨i1,i2,i3,i4,i5,i6,i7,i8,i9⟩:=Zeb hi
 suffices H:∀r:R,ZjK i o (pre.map Fr.f) t.f=r->CTH Tryz.prog gl 54 1 (MH m 0 0 o (pre++[t]) N) [.ptr 0 0,.agg i.d] (RQ m r) from H _ rfl
 intro r hr;have got:∀{d:D} {gs:List Fr} {N':Ns} {o':MO} {fs:List PF},ZjK i o (pre.map Fr.f) t.f=.go o' fs->gs.map Fr.f=fs->d=.g (.int 0)->RQ m r (.ret d (MH m 0 0 o' gs N')):=λh1 h2 h3=>by subst h3;rw[<- hr,h1];exact ⟨_,_,h2,rfl⟩
 have bad:∀{c v:Int} {gs:List Fr} {N':Ns},ZjK i o (pre.map Fr.f) t.f=.stop c v o->RQ m r (.ret (.g (.int c)) (MH m 0 v o gs N')):=λh1=>by rw[<- hr,h1];exact ⟨_,_,rfl⟩
 have mapz:∀(x:Fr),(pre++[x]).map Fr.f=pre.map Fr.f++[x.f]:=λx=>by rw[List.map_append];rfl
 refine ZbJ [] hT hF hM Tryz.func54 rfl 117 rfl (by kernel_rfl) [.tmp 4] rfl [.ptr 0 0,.agg i.d] rfl (MH m 0 0 o (pre++[t]) N) [0] rfl rfl rfl 1 [] trivial _ ?_;refine ⟨λh1=>?_,λh1=>?_⟩
 ·refine ⟨λh4=>absurd h4 (by omega),λ_=>?_⟩;refine Zfx [.blk i.d 127] ht hp rfl rfl (λh40=>?_) (λv' h40=>?_)
  ·refine ⟨rfl,.inl (ZaL (.g (.int 4)) (Zb0 0 1 2 3 4 5) rfl rfl rfl (.inl rfl) rfl rfl rfl rfl rfl (List.Perm.refl _) trivial (bad ?_))⟩;unfold ZjK Zd7;rw[if_pos h1,if_pos h40]
  ·refine ⟨rfl,.inl (ZaL (.g (.int 0)) (Zb0 0 1 2 3 4 5) rfl rfl rfl (.inl rfl) rfl rfl rfl rfl rfl (List.Perm.refl _) trivial (got ?_ (mapz _) rfl))⟩;unfold ZjK Zd7;rw[if_pos h1,if_neg h40];rfl
 refine ⟨λh4=>?_,λh4=>?_⟩
 ·refine ⟨λ_=>?_,λh=>absurd h4 h⟩;obtain ⟨a,ha⟩:∃a:Nat,i.a=(a:Int):=⟨i.a.toNat,by omega⟩;have ha8:a < 8:=by have:bdA 4=7:=rfl;rw[h4] at i4;omega
  have hal:a < t.f.locs.length:=by rw[ht.1];exact ha8
  refine ⟨none,rfl,?_⟩;refine ⟨ZfG,_,λh' hx=>ZfF (hx _ _ rfl) rfl (hx _ _ rfl) (n:=pre.length) (by simp) (by omega),?_⟩;refine ⟨a,congrArg (λz=>D.g (.int z)) ha,ha8,?_⟩;refine ⟨_,Za6 Fr.g pre t,ZhC rfl (Fr.g_at2 ht.1 (List.getElem?_eq_getElem hal)) ?_⟩;have hg:t.f.locs.getD i.a.toNat 0=t.f.locs[a]:=by rw[ha];simp[hal]
  refine Zfx [.blk i.d 127] ht hp rfl rfl (λh40=>?_) (λv' h40=>?_)
  ·refine ⟨rfl,.inl (ZaL (.g (.int 4)) (Zb0 0 1 2 3 4 5) rfl rfl rfl (.inl rfl) rfl rfl rfl rfl rfl (List.Perm.refl _) trivial (bad ?_))⟩;unfold ZjK Zd7;rw[if_neg h1,if_pos h4,if_pos h40]
  ·refine ⟨rfl,.inl (ZaL (.g (.int 0)) (Zb0 0 1 2 3 4 5) rfl rfl rfl (.inl rfl) rfl rfl rfl rfl rfl (List.Perm.refl _) trivial (got ?_ (mapz _) rfl))⟩;unfold ZjK Zd7;rw[if_neg h1,if_pos h4,if_neg h40,hg];rfl
 refine ⟨λh8=>?_,λh8=>?_⟩
 ·have e:ZjK i o (pre.map Fr.f) t.f=if t.f.ws.length < 2 then .stop 4 0 o else .go o (pre.map Fr.f++[t.f.ww ((t.f.on 2).ws++[doI i.a ((t.f.off 2).getD 0 0) ((t.f.off 2).getD 1 0)])]):=by unfold ZjK;rw[if_neg h1,if_neg h4];simp only[h8,if_true];rfl
  refine ZeE (n:=2) [.blk i.d 127] ht hp (by decide) rfl rfl (λhl=>?_) (λv' hl=>?_)
  ·refine ⟨rfl,.inl (ZaL (.g (.int 4)) (Zb0 0 1 2 3 4 5) rfl rfl rfl (.inl rfl) rfl rfl rfl rfl rfl (List.Perm.refl _) trivial (bad ?_))⟩;rw[e,if_pos hl]
  ·obtain ⟨q,hlen⟩:∃q,t.f.ws.length=q+2:=⟨t.f.ws.length - 2,by omega⟩;obtain ⟨x,y,hx,hws⟩:=off_two hlen;have hoff:t.f.off 2=[x,y]:=by unfold PF.off;rw[hlen];exact hx
   rw[if_neg (by omega),hoff] at e;rw[show t.f.ws.length - 2=q from by omega,hx];refine ⟨λh=>absurd h (by omega),λ_=>?_⟩;refine ⟨λh=>absurd h (by omega),λ_=>?_⟩;refine ⟨λh=>absurd h (by omega),λ_=>?_⟩;refine ⟨λ_=>?_,λh=>absurd h8 h⟩;refine ⟨none,rfl,?_⟩;refine ⟨0,[.int x],rfl,rfl,?_⟩;refine ⟨1,[.int y],rfl,rfl,?_⟩;refine ⟨_,_,.inl rfl,Do_any i.a x y,rfl,?_⟩;refine Zfx (t:=t.ww (t.f.ws.take q) v') [.blk i.d 127] ⟨ht.1,by simp[Fr.ww];omega⟩ hp rfl rfl (λh40=>?_) (λv2 h40=>?_)
   ·exfalso
    simp[Fr.ww] at h40;omega
   refine ⟨rfl,.inl (ZaL (.g (.int 0)) (Zb0 0 1 2 3 4 5) rfl rfl rfl (.inl rfl) rfl rfl rfl rfl rfl (List.Perm.refl _) trivial (got e ?_ rfl))⟩;rw[mapz];show _++[t.f.ww (t.f.ws.take q++[_])]=_++[t.f.ww (t.f.ws.take (t.f.ws.length - 2)++[_])];rw[show t.f.ws.length - 2=q from by omega];rfl
 have e:ZjK i o (pre.map Fr.f) t.f=if t.f.ws.length < 1 then .stop 4 0 o else
   if i.op=3 then if t.f.ws.length=40 then .stop 4 0 o else .go o (pre.map Fr.f++[t.f.ww (t.f.ws++[(t.f.off 1).getD 0 0])])
   else if i.op=5 then .go o (pre.map Fr.f++[{ t.f.on 1 with locs:=t.f.locs.set i.a.toNat ((t.f.off 1).getD 0 0) }])
   else if i.op=14 then if o.told.length=500 then .stop 6 0 o else .go { o with told:=o.told++[(t.f.off 1).getD 0 0] } (pre.map Fr.f++[t.f.on 1])
   else .go o (pre.map Fr.f++[t.f.on 1]):=by unfold ZjK;rw[if_neg h1,if_neg h4];simp only[h8,if_false]
 refine ZeE (n:=1) [.blk i.d 127] ht hp (by decide) rfl rfl (λhl=>?_) (λv' hl=>?_)
 ·refine ⟨rfl,.inl (ZaL (.g (.int 4)) (Zb0 0 1 2 3 4 5) rfl rfl rfl (.inl rfl) rfl rfl rfl rfl rfl (List.Perm.refl _) trivial (bad ?_))⟩;rw[e,if_pos hl]
 obtain ⟨q,hlen⟩:∃q,t.f.ws.length=q+1:=⟨t.f.ws.length - 1,by omega⟩;obtain ⟨x,hx,hws⟩:=ZiN hlen;have hoff:t.f.off 1=[x]:=by unfold PF.off;rw[hlen];exact hx
 have hon:t.f.on 1=t.f.ww (t.f.ws.take q):=by unfold PF.on;rw[show t.f.ws.length - 1=q from by omega]
 rw[if_neg (by omega),hoff,hon] at e;rw[show t.f.ws.length - 1=q from by omega,hx];refine ⟨λh3=>?_,λh3=>?_⟩
 ·rw[if_pos h3] at e;refine ⟨0,[.int x],rfl,rfl,?_⟩;refine Zfx (t:=t.ww (t.f.ws.take q) v') [.blk i.d 127] ⟨ht.1,by simp[Fr.ww];omega⟩ hp rfl rfl (λh40=>?_) (λv2 h40=>?_)
  ·exfalso
   simp[Fr.ww] at h40;omega
  refine ⟨0,[.int x],rfl,rfl,?_⟩;have hl2:(t.f.ws.take q++[x]).length=t.f.ws.length:=by simp;omega
  refine Zfx (t:=(t.ww (t.f.ws.take q) v').ww (t.f.ws.take q++[x]) v2) [.blk i.d 127] ⟨ht.1,by show (t.f.ws.take q++[x]).length<=40;omega⟩ hp rfl rfl (λh40=>?_) (λv3 h40=>?_)
  ·refine ⟨rfl,.inl (ZaL (.g (.int 4)) (Zb0 0 1 2 3 4 5) rfl rfl rfl (.inl rfl) rfl rfl rfl rfl rfl (List.Perm.refl _) trivial (bad ?_))⟩;rw[e,if_pos (by rw[<- hl2];exact h40)]
  ·refine ⟨rfl,.inl (ZaL (.g (.int 0)) (Zb0 0 1 2 3 4 5) rfl rfl rfl (.inl rfl) rfl rfl rfl rfl rfl (List.Perm.refl _) trivial (got (e.trans (if_neg (by rw[<- hl2];exact h40))) ?_ rfl))⟩;rw[mapz];show _++[t.f.ww (t.f.ws.take q++[x]++[x])]=_++[t.f.ww (t.f.ws++[x])];rw[<- hws]
 refine ⟨λh5=>?_,λh5=>?_⟩
 ·rw[if_neg h3,if_pos h5] at e;obtain ⟨a,ha⟩:∃a:Nat,i.a=(a:Int):=⟨i.a.toNat,by omega⟩;have ha8:a < 8:=by have:bdA 5=7:=rfl;rw[h5] at i4;omega
  refine ⟨none,rfl,?_⟩;refine ⟨ZfG,_,λh' hx=>ZfF (hx _ _ rfl) rfl (hx _ _ rfl) (n:=pre.length) (by simp) (by omega),?_⟩;refine ⟨0,[.int x],rfl,rfl,?_⟩;refine ⟨a,congrArg (λz=>D.g (.int z)) ha,ha8,?_⟩;refine ⟨_,[.int x],Za6 Fr.g pre _,⟨rfl,trivial⟩,?_,(λh=>by cases h),?_⟩
  ·rw[Fr.g_len (x:=t.ww (t.f.ws.take q) v') ht.1];show 0+2+a*1+1<=12;omega
  refine ⟨rfl,.inl (ZaL (fs:=pre++[Fr.mk { t.f.ww (t.f.ws.take q) with locs:=t.f.locs.set a x } v']) (.g (.int 0)) (Zb0 0 1 2 3 4 5) rfl rfl rfl (.inl rfl) rfl rfl rfl rfl (Zfl Fr.g pre _ _ _ (Fr.g_set_loc2 (x:=t.ww (t.f.ws.take q) v') ht.1 ha8 x).symm) ?_ trivial (got e ?_ rfl))⟩
  ·rw[List.map_append,List.map_append];exact List.Perm.refl _
  ·rw[mapz,ha];rfl
 refine ⟨λh14=>?_,λh14=>?_⟩
 ·rw[if_neg h3,if_neg h5,if_pos h14] at e;have hlt:(o.told.map Zat).length=o.told.length:=List.length_map _;refine ⟨λh500=>?_,λh500=>?_⟩
  ·refine ⟨rfl,.inl (ZaL (.g (.int 6)) (Zb0 0 1 2 3 4 5) rfl rfl rfl (.inl rfl) rfl rfl rfl rfl rfl (List.Perm.refl _) trivial (bad ?_))⟩;rw[e,if_pos (by omega)]
  ·refine ⟨some 9998,[14],rfl,?_⟩;refine ⟨0,[.int x],rfl,rfl,?_⟩;refine ⟨[[.int x]],rfl,rfl,⟨rfl,trivial⟩,⟨_,rfl⟩,?_⟩;refine ⟨⟨by simp[maxLen];omega,by simp;omega⟩,?_⟩;refine .inr (Zdz 1 8 (λv=>[(N.d,2),(v,8),(N.c,4),(N.f,5)]) rfl rfl (λv t ht=>?_) (λv2=>ZeM ?_))
   ·simp only[List.mem_cons,List.not_mem_nil,or_false] at ht ⊢
    rcases ht with rfl | rfl | rfl | rfl<;>simp
   refine ⟨rfl,.inl (ZaL (o:={ o with told:=o.told++[x] }) (N:=⟨N.d,v2,N.c,N.f⟩) (.g (.int 0)) (Zb0 0 1 2 8 4 5) rfl rfl rfl (.inl rfl) rfl rfl ?_ rfl rfl (List.Perm.refl _) trivial (got (e.trans (if_neg (by omega))) (mapz _) rfl))⟩;rw[List.map_append];rfl
 ·rw[if_neg h3,if_neg h5,if_neg h14] at e;refine ⟨λh=>absurd h h8,λ_=>?_⟩;exact ⟨rfl,.inl (ZaL (.g (.int 0)) (Zb0 0 1 2 3 4 5) rfl rfl rfl (.inl rfl) rfl rfl rfl rfl rfl (List.Perm.refl _) trivial (got e (mapz _) rfl))⟩
end Go.Proofs.YtpjjkiidjofflaaGreatDoor
namespace Barb
open Go Go.Dm Go.Eng
end Barb
namespace Go.Proofs.YtpjjkiidjofflaaGreatDoor
open Go Go.Dm Go.Eng Go.RowKit Barb
theorem callEnterC {all:List D} {h:Zad} {K Qp:KD} {m:Zal} {o:MO} {nt:Nt} {fs:List Fr} {N:Ns} {part at_:Int} {args:List Int} (x6 x7:Dm.Obj) (hf:fs.length<=20)
  (hh:h=[.blk [.g (.sl 4 (m.map Part.g)),.g (.int 0),.g (.int 0),.row 3,.row 2,.row 8,.row 5] 87,.many (fs.map fz) [(N.d,2),(N.t,3),(N.c,8),(N.f,5)],.row (o.data.map Zat) 3 1,.row (o.told.map Zat) 3 1,.dead,.row (fs.map Fr.g) 123 12,x6,x7,.row (o.calls.map Nt.g++[Nt.g nt]) 98 7])
  (ha:all=[.ptr 0 0,.g (.int part),.g (.int at_),.g (.int ((o.calls.map Nt.g).length:Nat)),.g (.sl 1 (args.map Zat))])
  (hno:fs.length=20->K (.g (.int 5)) [.blk [.g (.sl 4 (m.map Part.g)),.g (.int 0),.g (.int 0),.row 3,.row 2,.row 8,.row 9] 87,.many (fs.map fz) [(N.d,2),(N.t,3),(N.c,8),(N.f,9)],.row (o.data.map Zat) 3 1,.row (o.told.map Zat) 3 1,.dead,.dead,x6,x7,.row (({ o with calls:=o.calls++[nt] }:MO).calls.map Nt.g) 98 7,.row (fs.map Fr.g) 123 12])
  (hyes:∀f,¬fs.length=20->K (.g (.int 0)) [.blk [.g (.sl 4 (m.map Part.g)),.g (.int 0),.g (.int 0),.row 3,.row 2,.row 8,.row 9] 87,.many ((fs++[newF part at_ ((o.calls.map Nt.g).length:Nat) args]).map fz) [(N.d,2),(N.t,3),(N.c,8),(f,9)],.row (o.data.map Zat) 3 1,.row (o.told.map Zat) 3 1,.dead,.dead,x6,x7,.row (({ o with calls:=o.calls++[nt] }:MO).calls.map Nt.g) 98 7,.row ((fs++[newF part at_ ((o.calls.map Nt.g).length:Nat) args]).map Fr.g) 123 12]) :
  fnOk Tryz.prog 29=true/\(ZbY Tryz.prog gl 29 all h K Qp\/Zbu Tryz.prog gl 29 all h K Qp):=by
 have ec:o.calls.map Nt.g++[Nt.g nt]=({ o with calls:=o.calls++[nt] }:MO).calls.map Nt.g:=by rw[List.map_append];rfl
 rw[ec] at hh;subst hh;subst ha;refine ZdZ [0,1,2,3,8,5] enter_fn rfl rfl ⟨rfl,.inl rfl,.inl rfl,rfl⟩ (enter_any m 0 0 { o with calls:=o.calls++[nt] } fs N part at_ ((o.calls.map Nt.g).length:Nat) args hf) (λd' h' hq=>?_) (λd' h' hq=>?_)
 ·unfold Zjd at hq
  split at hq
  ·injection hq with e1 e2;subst e1;subst e2;exact hno (by assumption)
  ·obtain ⟨v',hq⟩:=hq;injection hq with e1 e2;subst e1;subst e2;exact hyes v' (by assumption)
 ·unfold Zjd at hq
  split at hq
  ·cases hq
  ·obtain ⟨v',hq⟩:=hq;cases hq
set_option maxRecDepth 20000 in
set_option maxHeartbeats 1000000 in
theorem gate_any (m:Zal) (o:MO) (pre:List Fr) (t:Fr) (N:Ns) (i:Instr) (hi:Zbi i=0) (hop:i.op=12) (_himg:Zju m=0) (hc:o.calls.length<=100) (ht:t.ok) (hp:pre.length < 20) :
  CTH Tryz.prog gl 69 1 (MH m 0 0 o (pre++[t]) N) [.ptr 0 0,.agg i.d] (RQ m (ZiX m i o (pre.map Fr.f) t.f)):=by
 have hw:=ht.2;obtain ⟨i1,i2,i3,i4,i5,i6,i7,i8,i9⟩:=Zeb hi
 suffices H:∀r:R,ZiX m i o (pre.map Fr.f) t.f=r->CTH Tryz.prog gl 69 1 (MH m 0 0 o (pre++[t]) N) [.ptr 0 0,.agg i.d] (RQ m r) from H _ rfl
 intro r hr;have bad:∀{c v:Int} {o':MO} {gs:List Fr} {N':Ns},ZiX m i o (pre.map Fr.f) t.f=.stop c v o'->RQ m r (.ret (.g (.int c)) (MH m 0 v o' gs N')):=λh1=>by rw[<- hr,h1];exact ⟨_,_,rfl⟩
 have hb12:bdA 12=4:=rfl;have hc12:bdC 12=4:=rfl;have hB12:bdB 12=7:=rfl;rw[hop] at i4 i6 i8;obtain ⟨a,ha⟩:∃a:Nat,i.a=(a:Int):=⟨i.a.toNat,by omega⟩;obtain ⟨b,hb⟩:∃b:Nat,i.b=(b:Int):=⟨i.b.toNat,by omega⟩;obtain ⟨c,hcc⟩:∃c:Nat,i.c=(c:Int):=⟨i.c.toNat,by omega⟩;have lm:(m.map Part.g).length=m.length:=List.length_map _;refine ZbJ [] hT hF hM Tryz.func69 rfl 125 rfl (by kernel_rfl) [.tmp 4] rfl [.ptr 0 0,.agg i.d] rfl (MH m 0 0 o (pre++[t]) N) [0] rfl rfl rfl 1 [] trivial _ ?_;refine ZeE (n:=c) [.blk i.d 127] ht (by omega) (by omega) rfl (congrArg (λz=>[D.ptr 0 0,D.g (.int z)]) hcc) (λhl=>?_) (λv' hl=>?_)
 ·refine ⟨none,rfl,?_⟩;refine ⟨rfl,.inl (ZaL (.g (.int 4)) (Zb0 0 1 2 3 4 5) rfl rfl rfl (.inl rfl) rfl rfl rfl rfl rfl (List.Perm.refl _) trivial (bad ?_))⟩;unfold ZiX;rw[if_pos (by rw[hcc];exact hl)]
 have e0:ZiX m i o (pre.map Fr.f) t.f=if Zc9 m i then .stop 4 0 o else
   let e:=(m.getD i.a.toNat ZaY).entries.getD i.b.toNat Zcs
   let l:=t.f.off i.c.toNat
   if o.calls.length < 100 then Zde { o with calls:=o.calls++[⟨t.f.part,i.a,i.b,l,((pre.map Fr.f).length+1:Nat),false,0⟩] } (pre.map Fr.f++[t.f.on i.c.toNat]) i.a e.at_ o.calls.length l
   else Zde o (pre.map Fr.f++[t.f.on i.c.toNat]) i.a e.at_ (-1) l:=by unfold ZiX;rw[if_neg (by rw[hcc];show ¬t.f.ws.length < c;omega)]
 refine ⟨none,rfl,?_⟩;refine ⟨λg1=>?_,λg1=>?_⟩
 ·refine ⟨rfl,.inl (ZaL (.g (.int 4)) (Zb0 0 1 2 3 4 5) rfl rfl rfl (.inl rfl) rfl rfl rfl rfl rfl (List.Perm.refl _) trivial (bad ?_))⟩;rw[e0,if_pos (by unfold Zc9;left;omega)]
 have hal:a < m.length:=by omega
 have hma:m.getD i.a.toNat ZaY=m[a]:=by rw[ha];exact getD_of hal _
 refine ⟨a,_,dI ha,gm hal,?_⟩;have le:(m[a].entries.map Entry.g).length=m[a].entries.length:=List.length_map _;refine ⟨λg2=>?_,λg2=>?_⟩
 ·refine ⟨rfl,.inl (ZaL (.g (.int 4)) (Zb0 0 1 2 3 4 5) rfl rfl rfl (.inl rfl) rfl rfl rfl rfl rfl (List.Perm.refl _) trivial (bad ?_))⟩;rw[e0,if_pos (by unfold Zc9;rw[hma];right;left;omega)]
 have hbl:b < m[a].entries.length:=by omega
 have hmb:m[a].entries.getD i.b.toNat Zcs=m[a].entries[b]:=by rw[hb];exact getD_of hbl _
 refine ⟨a,_,dI ha,gm hal,?_⟩;refine ⟨b,_,dI hb,gm hbl,?_⟩;refine ⟨λg3=>?_,λg3=>?_⟩
 ·refine ⟨rfl,.inl (ZaL (.g (.int 4)) (Zb0 0 1 2 3 4 5) rfl rfl rfl (.inl rfl) rfl rfl rfl rfl rfl (List.Perm.refl _) trivial (bad ?_))⟩;rw[e0,if_pos (by unfold Zc9;rw[hma,hmb];right;right;exact g3)]
 rw[if_neg (by unfold Zc9;rw[hma,hmb];omega),hma,hmb] at e0;have hoff:t.f.off i.c.toNat=t.f.ws.drop (t.f.ws.length - c):=by unfold PF.off;rw[hcc];rfl
 have hon:t.f.on i.c.toNat=t.f.ww (t.f.ws.take (t.f.ws.length - c)):=by unfold PF.on;rw[hcc];rfl
 rw[hoff,hon] at e0;dsimp only at e0;have lc:(o.calls.map Nt.g).length=o.calls.length:=List.length_map _;have lf:∀x:Fr,(pre.map Fr.f++[t.f.ww (t.f.ws.take (t.f.ws.length - c))]).length=(pre++[x]).length:=λx=>by simp
 have mapz:∀(x y:Fr),(pre++[x]++[y]).map Fr.f=pre.map Fr.f++[x.f]++[y.f]:=λx y=>by simp
 have lfe:∀x:Fr,((((pre++[x]).map Fr.g).length:Nat):Int)=(((pre.map Fr.f).length+1:Nat):Int):=λx=>by simp
 have mem5:∀(a b c d:Value × Nat) (t:Value × Nat),t∈[a,b,c,d]->t=a\/t=b\/t=c\/t=d:=λa b c d t ht=>by simpa using ht
 refine ⟨λg4=>?_,λg4=>?_⟩
 ·rw[if_pos (by omega),<- lfe (t.ww (t.f.ws.take (t.f.ws.length - c)) v'),<- lc] at e0;refine ⟨some 9998,[27],rfl,?_⟩;refine ⟨ZfG,_,λh' hx=>ZfF (hx _ _ rfl) rfl (hx _ _ rfl) (n:=pre.length) (by simp) (by omega),?_⟩;refine ⟨_,Za6 Fr.g pre _,?_⟩;refine ⟨[Nt.g ⟨t.f.part,i.a,i.b,t.f.ws.drop (t.f.ws.length - c),(((pre++[t.ww (t.f.ws.take (t.f.ws.length - c)) v']).map Fr.g).length:Nat),false,0⟩],rfl,rfl,⟨rfl,rfl,rfl,rfl,rfl,rfl,rfl,trivial⟩,⟨_,rfl⟩,?_⟩;refine ⟨⟨by simp[maxLen];omega,by simp;omega⟩,?_⟩;refine .inr (Zdz 1 8 (λv=>[(N.d,2),(N.t,3),(v,8),(N.f,5)]) rfl rfl (λv t ht=>?_) (λv2=>ZeM ?_))
  ·rcases mem5 _ _ _ _ _ ht with rfl | rfl | rfl | rfl<;>simp
  refine ⟨some 9999,[20],rfl,?_⟩;refine ⟨a,_,dI ha,gm hal,?_⟩;refine ⟨b,_,dI hb,gm hbl,?_⟩;refine callEnterC (o:=o) (nt:=⟨t.f.part,i.a,i.b,t.f.ws.drop (t.f.ws.length - c),(((pre++[t.ww (t.f.ws.take (t.f.ws.length - c)) v']).map Fr.g).length:Nat),false,0⟩) (fs:=pre++[(t.ww (t.f.ws.take (t.f.ws.length - c)) v')]) (N:=⟨N.d,N.t,v2,N.f⟩) (args:=t.f.ws.drop (t.f.ws.length - c)) (.blk i.d 127) (.row [Nt.g ⟨t.f.part,i.a,i.b,t.f.ws.drop (t.f.ws.length - c),(((pre++[t.ww (t.f.ws.take (t.f.ws.length - c)) v']).map Fr.g).length:Nat),false,0⟩] 98 7) (by simp;omega) rfl rfl (λh20=>?_) (λf2 h20=>?_)
  ·refine ⟨rfl,.inl (ZaL (o:={ o with calls:=o.calls++[⟨t.f.part,i.a,i.b,t.f.ws.drop (t.f.ws.length - c),(((pre++[t.ww (t.f.ws.take (t.f.ws.length - c)) v']).map Fr.g).length:Nat),false,0⟩] }) (N:=⟨N.d,N.t,v2,N.f⟩) (.g (.int 5)) (Zb0 0 1 2 3 8 9) rfl rfl rfl (.inl rfl) rfl rfl rfl rfl rfl (List.Perm.refl _) trivial (bad ?_))⟩;rw[e0];unfold Zde;rw[if_pos ((lf _).trans h20)]
  ·refine ⟨rfl,.inl (ZaL (o:={ o with calls:=o.calls++[⟨t.f.part,i.a,i.b,t.f.ws.drop (t.f.ws.length - c),(((pre++[t.ww (t.f.ws.take (t.f.ws.length - c)) v']).map Fr.g).length:Nat),false,0⟩] }) (N:=⟨N.d,N.t,v2,f2⟩) (.g (.int 0)) (Zb0 0 1 2 3 8 9) rfl rfl rfl (.inl rfl) rfl rfl rfl rfl rfl (List.Perm.refl _) trivial ?_)⟩;rw[<- hr,e0];unfold Zde;rw[if_neg (λh=>h20 ((lf _).symm.trans h))];exact ⟨_,_,mapz _ _,rfl⟩
 ·rw[if_neg (by omega)] at e0;refine ⟨some 9999,[20],rfl,?_⟩;refine ⟨a,_,dI ha,gm hal,?_⟩;refine ⟨b,_,dI hb,gm hbl,?_⟩;refine callEnter (fs:=pre++[t.ww (t.f.ws.take (t.f.ws.length - c)) v']) (args:=t.f.ws.drop (t.f.ws.length - c)) [.blk i.d 127] (by simp;omega) rfl rfl (λh20=>?_) (λf2 h20=>?_)
  ·refine ⟨rfl,.inl (ZaL (.g (.int 5)) (Zb0 0 1 2 3 4 7) rfl rfl rfl (.inl rfl) rfl rfl rfl rfl rfl (List.Perm.refl _) trivial (bad ?_))⟩;rw[e0];unfold Zde;rw[if_pos ((lf _).trans h20)]
  ·refine ⟨rfl,.inl (ZaL (N:=N.withF f2) (.g (.int 0)) (Zb0 0 1 2 3 4 7) rfl rfl rfl (.inl rfl) rfl rfl rfl rfl rfl (List.Perm.refl _) trivial ?_)⟩;rw[<- hr,e0];unfold Zde;rw[if_neg (λh=>h20 ((lf _).symm.trans h))];exact ⟨_,_,mapz _ _,rfl⟩
end Go.Proofs.YtpjjkiidjofflaaGreatDoor
namespace Go.Dm
open Go Go.Eng Go.RowKit
end Go.Dm
namespace Barb
open Go Go.Dm Go.Eng
end Barb
namespace Go.Proofs.YtpjjkiidjofflaaGreatDoor
open Go Go.Dm Go.Eng Go.RowKit Barb
theorem callPushF {all:List D} {h:Zad} {K Qp:KD} {m:Zal} {e val:Int} {o:MO} {pre:List Fr} {t:Fr} {N:Ns} {n:Int} (ht:t.ok) (hp:pre.length < 1000)
  (hh:h=MHf m e val o (pre++[t]) N []) (ha:all=[.ptr 0 0,.g (.int n)])
  (hno:t.f.ws.length=40->K (.g (.bool false)) (MHf m e val o (pre++[t]) N []))
  (hyes:∀v',¬t.f.ws.length=40->K (.g (.bool true)) (MHf m e val o (pre++[t.ww (t.f.ws++[n]) v']) N [])) :
  fnOk Tryz.prog 68=true/\(ZbY Tryz.prog gl 68 all h K Qp\/Zbu Tryz.prog gl 68 all h K Qp):=by
 subst hh;subst ha;refine ZdZ [0,1,2,3,4,6] push_fn rfl rfl ⟨rfl,.inl rfl,.inl rfl,rfl⟩ (push_any m e val o pre t N n ht hp) (λd' h' hq=>?_) (λd' h' hq=>?_)
 ·unfold pushQ at hq
  split at hq
  ·injection hq with e1 e2;subst e1;subst e2;exact hno (by assumption)
  ·obtain ⟨v',hq⟩:=hq;injection hq with e1 e2;subst e1;subst e2;exact hyes v' (by assumption)
 ·unfold pushQ at hq
  split at hq
  ·cases hq
  ·obtain ⟨v',hq⟩:=hq;cases hq
set_option maxRecDepth 20000 in
set_option maxHeartbeats 1000000 in
theorem ret_nil (m:Zal) (o:MO) (t:Fr) (N:Ns) (ht:t.ok)  (hn:t.f.noted < o.calls.length) :
  CTH Tryz.prog gl 70 1 (MH m 0 0 o (([]:List Fr)++[t]) N) [.ptr 0 0] (RQ m (Barb.retS o (([]:List Fr).map Fr.f) t.f)):=by
 have hw:=ht.2
 suffices H:∀r:R,Barb.retS o (([]:List Fr).map Fr.f) t.f=r->CTH Tryz.prog gl 70 1 (MH m 0 0 o (([]:List Fr)++[t]) N) [.ptr 0 0] (RQ m r) from H _ rfl
 intro r hr;have bad:∀{c v:Int} {o':MO} {gs:List Fr} {N':Ns},Barb.retS o (([]:List Fr).map Fr.f) t.f=.stop c v o'->RQ m r (.ret (.g (.int c)) (MH m 0 v o' gs N')):=λh1=>by rw[<- hr,h1];exact ⟨_,_,rfl⟩
 refine ZbJ [] hT hF hM Tryz.func70 rfl 72 rfl (by kernel_rfl) [.tmp 2] rfl [.ptr 0 0] rfl (MH m 0 0 o (([]:List Fr)++[t]) N) [0] rfl rfl rfl 1 [] trivial _ ?_;refine ZeE (n:=1) (pre:=([]:List Fr)) [] ht (by decide) (by decide) rfl rfl (λhl=>?_) (λv' hl=>?_)
 ·refine ⟨rfl,.inl (ZaL (.g (.int 4)) (Zb0 0 1 2 3 4 5) rfl rfl rfl (.inl rfl) rfl rfl rfl rfl rfl (List.Perm.refl _) trivial (bad ?_))⟩;unfold Barb.retS;rw[if_pos hl]
 obtain ⟨q,hlen⟩:∃q,t.f.ws.length=q+1:=⟨t.f.ws.length - 1,by omega⟩;obtain ⟨x,hx,hws⟩:=ZiN hlen;have hoff:t.f.off 1=[x]:=by unfold PF.off;rw[hlen];exact hx
 have e0:Barb.retS o (([]:List Fr).map Fr.f) t.f=.stop 1 x (Zb2 o t.f.noted x):=by unfold Barb.retS;rw[if_neg (by omega),hoff];rfl
 rw[show t.f.ws.length - 1=q from by omega,hx];have lf:∀y:Fr,((([]:List Fr)++[y]).map Fr.g).length=([]:List Fr).length+1:=λy=>by simp
 have lf':∀y:Fr,(((([]:List Fr)++[y]).map Fr.g).length:Int) - 1=(([]:List Fr).length:Int):=λy=>by rw[lf];omega
 have hpl:([]:List Fr).length < 20:=by decide
 have ef:((([]:List Fr)++[(t.ww (t.f.ws.take q) v')]).map Fr.g).take ([]:List Fr).length=([]:List Fr).map Fr.g:=by rw[List.map_append,List.take_append_of_le_length (by simp),List.take_of_length_le (by simp)]
 have mem5:∀(a b c d:Value × Nat) (t:Value × Nat),t∈[a,b,c,d]->t=a\/t=b\/t=c\/t=d:=λa b c d t ht=>by simpa using ht
 refine ⟨ZfG,.inr (semRd (ZfF rfl rfl rfl (n:=([]:List Fr).length) (by simp) (by decide)) ?_)⟩;refine ⟨_,Za6 Fr.g ([]:List Fr) _,ZhC rfl (Fr.g_noted (x:=(t.ww (t.f.ws.take q) v')) ht.1) ?_⟩;refine ⟨λhk=>?_,λhk=>?_⟩
 ·obtain ⟨k,hkn⟩:∃k:Nat,t.f.noted=(k:Int):=⟨t.f.noted.toNat,by have:(0:Int)<=t.f.noted:=hk;omega⟩;have hkl:k < o.calls.length:=by omega
  have hklm:k < (o.calls.map Nt.g).length:=by rw[List.length_map];exact hkl
  have eno:Zb2 o t.f.noted x=Zb2 o (k:Int) x:=by rw[hkn]
  refine ⟨none,rfl,?_⟩;refine ⟨0,[.int x],rfl,rfl,?_⟩;refine ⟨k,dI hkn,hklm,?_⟩;refine ⟨_,[.bool true],gm hkl,⟨rfl,trivial⟩,Nat.le_add_left 6 1,(λh=>by cases h),?_⟩;refine ⟨k,dI hkn,by rw[List.length_set];exact hklm,?_⟩;refine ⟨_,[.int x],List.getElem?_set_self hklm,⟨rfl,trivial⟩,Nat.le_refl 7,(λh=>by cases h),?_⟩;refine ⟨some 9999,[14],rfl,?_⟩;refine ⟨by unfold I64;rw[lf'];omega,?_⟩;refine ⟨([]:List Fr).length,dI (lf' _),by rw[lf];omega,?_⟩;refine .inr (ghCutB 0 6 5 ([]:List Fr).length rfl rfl rfl (by rw[lf];omega) (Zid 1 (([]:List Fr).map fz) [] (fz (t.ww (t.f.ws.take q) v')) rfl (by rw[List.map_append];rfl) (Zdz 1 6 (λv=>[(N.d,2),(N.t,3),(N.c,4),(v,6)]) rfl rfl (λv t ht=>?_) (λf2=>ghEq (h2:=MHf m 0 0 (Zb2 o (k:Int) x) ([]:List Fr) (N.withF f2) []) ?_ (ZeM ?_)))))
  ·rcases mem5 _ _ _ _ _ ht with rfl | rfl | rfl | rfl<;>simp
  ·show [Obj.blk _ _,Obj.many (([]:List Fr).map fz++[]) _,_,_,Obj.row (((o.calls.map Nt.g).set k (Zdl o.calls[k].g (0+5) [.bool true])).set k (Zdl (Zdl o.calls[k].g (0+5) [.bool true]) (0+6) [.int x])) _ _,Obj.dead,Obj.row (((([]:List Fr)++[(t.ww (t.f.ws.take q) v')]).map Fr.g).take ([]:List Fr).length) _ _]=_;rw[ef,List.append_nil,note_g hkl];rfl
  refine ⟨λ_=>?_,λhz=>absurd rfl hz⟩;refine ⟨0,[.int x],rfl,rfl,.inl ?_⟩;refine ⟨rfl,.inl (ZaL (o:=(Zb2 o (k:Int) x)) (val:=x) (fs:=[]) (N:=N.withF f2) (.g (.int 1)) (Zb0 0 1 2 3 4 6) rfl rfl rfl (.inl rfl) rfl rfl rfl rfl rfl (List.Perm.refl _) trivial (bad ?_))⟩;rw[e0,eno]
 ·have eno:Zb2 o t.f.noted x=o:=noteS_no hk x;refine ⟨some 9999,[14],rfl,?_⟩;refine ⟨by unfold I64;rw[lf'];omega,?_⟩;refine ⟨([]:List Fr).length,dI (lf' _),by rw[lf];omega,?_⟩;refine .inr (ghCutB 0 6 5 ([]:List Fr).length rfl rfl rfl (by rw[lf];omega) (Zid 1 (([]:List Fr).map fz) [] (fz (t.ww (t.f.ws.take q) v')) rfl (by rw[List.map_append];rfl) (Zdz 1 6 (λv=>[(N.d,2),(N.t,3),(N.c,4),(v,6)]) rfl rfl (λv t ht=>?_) (λf2=>ghEq (h2:=MHf m 0 0 o ([]:List Fr) (N.withF f2) []) ?_ (ZeM ?_)))))
  ·rcases mem5 _ _ _ _ _ ht with rfl | rfl | rfl | rfl<;>simp
  ·show [Obj.blk _ _,Obj.many (([]:List Fr).map fz++[]) _,_,_,Obj.row (o.calls.map Nt.g) _ _,Obj.dead,Obj.row (((([]:List Fr)++[(t.ww (t.f.ws.take q) v')]).map Fr.g).take ([]:List Fr).length) _ _]=_;rw[ef,List.append_nil];rfl
  refine ⟨λ_=>?_,λhz=>absurd rfl hz⟩;refine ⟨0,[.int x],rfl,rfl,.inl ?_⟩;refine ⟨rfl,.inl (ZaL (o:=o) (val:=x) (fs:=[]) (N:=N.withF f2) (.g (.int 1)) (Zb0 0 1 2 3 4 6) rfl rfl rfl (.inl rfl) rfl rfl rfl rfl rfl (List.Perm.refl _) trivial (bad ?_))⟩;rw[e0,eno]
set_option maxRecDepth 20000 in
set_option maxHeartbeats 1000000 in
theorem ret_cons (m:Zal) (o:MO) (p':List Fr) (f t:Fr) (N:Ns) (ht:t.ok) (hpre:∀g∈p'++[f],g.ok) (hp:(p'++[f]).length < 20) (hn:t.f.noted < o.calls.length) :
  CTH Tryz.prog gl 70 1 (MH m 0 0 o ((p'++[f])++[t]) N) [.ptr 0 0] (RQ m (Barb.retS o ((p'++[f]).map Fr.f) t.f)):=by
 have hw:=ht.2
 suffices H:∀r:R,Barb.retS o ((p'++[f]).map Fr.f) t.f=r->CTH Tryz.prog gl 70 1 (MH m 0 0 o ((p'++[f])++[t]) N) [.ptr 0 0] (RQ m r) from H _ rfl
 intro r hr;have bad:∀{c v:Int} {o':MO} {gs:List Fr} {N':Ns},Barb.retS o ((p'++[f]).map Fr.f) t.f=.stop c v o'->RQ m r (.ret (.g (.int c)) (MH m 0 v o' gs N')):=λh1=>by rw[<- hr,h1];exact ⟨_,_,rfl⟩
 refine ZbJ [] hT hF hM Tryz.func70 rfl 72 rfl (by kernel_rfl) [.tmp 2] rfl [.ptr 0 0] rfl (MH m 0 0 o ((p'++[f])++[t]) N) [0] rfl rfl rfl 1 [] trivial _ ?_;refine ZeE (n:=1) (pre:=(p'++[f])) [] ht (by simp at hp ⊢;omega) (by decide) rfl rfl (λhl=>?_) (λv' hl=>?_)
 ·refine ⟨rfl,.inl (ZaL (.g (.int 4)) (Zb0 0 1 2 3 4 5) rfl rfl rfl (.inl rfl) rfl rfl rfl rfl rfl (List.Perm.refl _) trivial (bad ?_))⟩;unfold Barb.retS;rw[if_pos hl]
 obtain ⟨q,hlen⟩:∃q,t.f.ws.length=q+1:=⟨t.f.ws.length - 1,by omega⟩;obtain ⟨x,hx,hws⟩:=ZiN hlen;have hoff:t.f.off 1=[x]:=by unfold PF.off;rw[hlen];exact hx
 have e0:Barb.retS o ((p'++[f]).map Fr.f) t.f=Zd7 (Zb2 o t.f.noted x) (p'.map Fr.f) f.f x:=by unfold Barb.retS;rw[if_neg (by omega),hoff];simp
 rw[show t.f.ws.length - 1=q from by omega,hx];have lf:∀y:Fr,(((p'++[f])++[y]).map Fr.g).length=(p'++[f]).length+1:=λy=>by simp
 have lf':∀y:Fr,((((p'++[f])++[y]).map Fr.g).length:Int) - 1=((p'++[f]).length:Int):=λy=>by rw[lf];omega
 have hpl:(p'++[f]).length < 20:=hp;have ef:(((p'++[f])++[(t.ww (t.f.ws.take q) v')]).map Fr.g).take (p'++[f]).length=(p'++[f]).map Fr.g:=by rw[List.map_append,List.take_append_of_le_length (by simp),List.take_of_length_le (by simp)]
 have mem5:∀(a b c d:Value × Nat) (t:Value × Nat),t∈[a,b,c,d]->t=a\/t=b\/t=c\/t=d:=λa b c d t ht=>by simpa using ht
 refine ⟨ZfG,.inr (semRd (ZfF rfl rfl rfl (n:=(p'++[f]).length) (by simp) (by simp at hp ⊢;omega)) ?_)⟩;refine ⟨_,Za6 Fr.g (p'++[f]) _,ZhC rfl (Fr.g_noted (x:=(t.ww (t.f.ws.take q) v')) ht.1) ?_⟩;refine ⟨λhk=>?_,λhk=>?_⟩
 ·obtain ⟨k,hkn⟩:∃k:Nat,t.f.noted=(k:Int):=⟨t.f.noted.toNat,by have:(0:Int)<=t.f.noted:=hk;omega⟩;have hkl:k < o.calls.length:=by omega
  have hklm:k < (o.calls.map Nt.g).length:=by rw[List.length_map];exact hkl
  have eno:Zb2 o t.f.noted x=Zb2 o (k:Int) x:=by rw[hkn]
  refine ⟨none,rfl,?_⟩;refine ⟨0,[.int x],rfl,rfl,?_⟩;refine ⟨k,dI hkn,hklm,?_⟩;refine ⟨_,[.bool true],gm hkl,⟨rfl,trivial⟩,Nat.le_add_left 6 1,(λh=>by cases h),?_⟩;refine ⟨k,dI hkn,by rw[List.length_set];exact hklm,?_⟩;refine ⟨_,[.int x],List.getElem?_set_self hklm,⟨rfl,trivial⟩,Nat.le_refl 7,(λh=>by cases h),?_⟩;refine ⟨some 9999,[14],rfl,?_⟩;refine ⟨by unfold I64;rw[lf'];omega,?_⟩;refine ⟨(p'++[f]).length,dI (lf' _),by rw[lf];omega,?_⟩;refine .inr (ghCutB 0 6 5 (p'++[f]).length rfl rfl rfl (by rw[lf];omega) (Zid 1 ((p'++[f]).map fz) [] (fz (t.ww (t.f.ws.take q) v')) rfl (by rw[List.map_append];rfl) (Zdz 1 6 (λv=>[(N.d,2),(N.t,3),(N.c,4),(v,6)]) rfl rfl (λv t ht=>?_) (λf2=>ghEq (h2:=MHf m 0 0 (Zb2 o (k:Int) x) (p'++[f]) (N.withF f2) []) ?_ (ZeM ?_)))))
  ·rcases mem5 _ _ _ _ _ ht with rfl | rfl | rfl | rfl<;>simp
  ·show [Obj.blk _ _,Obj.many ((p'++[f]).map fz++[]) _,_,_,Obj.row (((o.calls.map Nt.g).set k (Zdl o.calls[k].g (0+5) [.bool true])).set k (Zdl (Zdl o.calls[k].g (0+5) [.bool true]) (0+6) [.int x])) _ _,Obj.dead,Obj.row ((((p'++[f])++[(t.ww (t.f.ws.take q) v')]).map Fr.g).take (p'++[f]).length) _ _]=_;rw[ef,List.append_nil,note_g hkl];rfl
  refine ⟨λhz=>absurd hz (by simp;omega),λ_=>?_⟩;refine ⟨0,[.int x],rfl,rfl,?_⟩;refine callPushF (pre:=p') (t:=f) (hpre f (by simp)) (by simp at hp;omega) rfl rfl (λh40=>?_) (λv2 h40=>?_)
  ·refine ⟨rfl,.inl (ZaL (o:=(Zb2 o (k:Int) x)) (N:=N.withF f2) (.g (.int 4)) (Zb0 0 1 2 3 4 6) rfl rfl rfl (.inl rfl) rfl rfl rfl rfl rfl (List.Perm.refl _) trivial (bad ?_))⟩;rw[e0,eno];unfold Zd7;rw[if_pos h40]
  ·refine ⟨rfl,.inl (ZaL (o:=(Zb2 o (k:Int) x)) (N:=N.withF f2) (.g (.int 0)) (Zb0 0 1 2 3 4 6) rfl rfl rfl (.inl rfl) rfl rfl rfl rfl rfl (List.Perm.refl _) trivial ?_)⟩;rw[<- hr,e0,eno];unfold Zd7;rw[if_neg h40];exact ⟨_,_,by rw[List.map_append];rfl,rfl⟩
 ·have eno:Zb2 o t.f.noted x=o:=noteS_no hk x;refine ⟨some 9999,[14],rfl,?_⟩;refine ⟨by unfold I64;rw[lf'];omega,?_⟩;refine ⟨(p'++[f]).length,dI (lf' _),by rw[lf];omega,?_⟩;refine .inr (ghCutB 0 6 5 (p'++[f]).length rfl rfl rfl (by rw[lf];omega) (Zid 1 ((p'++[f]).map fz) [] (fz (t.ww (t.f.ws.take q) v')) rfl (by rw[List.map_append];rfl) (Zdz 1 6 (λv=>[(N.d,2),(N.t,3),(N.c,4),(v,6)]) rfl rfl (λv t ht=>?_) (λf2=>ghEq (h2:=MHf m 0 0 o (p'++[f]) (N.withF f2) []) ?_ (ZeM ?_)))))
  ·rcases mem5 _ _ _ _ _ ht with rfl | rfl | rfl | rfl<;>simp
  ·show [Obj.blk _ _,Obj.many ((p'++[f]).map fz++[]) _,_,_,Obj.row (o.calls.map Nt.g) _ _,Obj.dead,Obj.row ((((p'++[f])++[(t.ww (t.f.ws.take q) v')]).map Fr.g).take (p'++[f]).length) _ _]=_;rw[ef,List.append_nil];rfl
  refine ⟨λhz=>absurd hz (by simp;omega),λ_=>?_⟩;refine ⟨0,[.int x],rfl,rfl,?_⟩;refine callPushF (pre:=p') (t:=f) (hpre f (by simp)) (by simp at hp;omega) rfl rfl (λh40=>?_) (λv2 h40=>?_)
  ·refine ⟨rfl,.inl (ZaL (o:=o) (N:=N.withF f2) (.g (.int 4)) (Zb0 0 1 2 3 4 6) rfl rfl rfl (.inl rfl) rfl rfl rfl rfl rfl (List.Perm.refl _) trivial (bad ?_))⟩;rw[e0,eno];unfold Zd7;rw[if_pos h40]
  ·refine ⟨rfl,.inl (ZaL (o:=o) (N:=N.withF f2) (.g (.int 0)) (Zb0 0 1 2 3 4 6) rfl rfl rfl (.inl rfl) rfl rfl rfl rfl rfl (List.Perm.refl _) trivial ?_)⟩;rw[<- hr,e0,eno];unfold Zd7;rw[if_neg h40];exact ⟨_,_,by rw[List.map_append];rfl,rfl⟩
theorem ret_any (m:Zal) (o:MO) (pre:List Fr) (t:Fr) (N:Ns) (ht:t.ok) (hpre:∀f∈pre,f.ok) (hp:pre.length < 20) (hn:t.f.noted < o.calls.length) :
  CTH Tryz.prog gl 70 1 (MH m 0 0 o (pre++[t]) N) [.ptr 0 0] (RQ m (Barb.retS o (pre.map Fr.f) t.f)):=by
 rcases List.eq_nil_or_concat pre with rfl | ⟨p',f,rfl⟩
 ·exact ret_nil m o t N ht hn
 ·rw[List.concat_eq_append] at hpre hp ⊢;exact ret_cons m o p' f t N ht hpre hp hn
end Go.Proofs.YtpjjkiidjofflaaGreatDoor
namespace Go.Proofs.YtpjjkiidjofflaaGreatDoor
open Go Go.Dm Go.Eng Go.RowKit Barb
theorem gate_fn:fnOk Tryz.prog 69=true:=by kernel_rfl
theorem ret_fn:fnOk Tryz.prog 70=true:=by kernel_rfl
set_option maxRecDepth 20000 in
set_option maxHeartbeats 1000000 in
theorem ZcU (m:Zal) (o:MO) (pre:List Fr) (t:Fr) (N:Ns) (i:Instr) (hi:Zbi i=0) (_hop:i.op=9\/i.op=10\/i.op=11\/i.op=12\/i.op=13\/i.op=15) (himg:Zju m=0) (hc:o.calls.length<=100) (ht:t.ok) (hpre:∀f∈pre,f.ok) (hp:pre.length < 20) (hn:t.f.noted < o.calls.length) :
  CTH Tryz.prog gl 53 1 (MH m 0 0 o (pre++[t]) N) [.ptr 0 0,.agg i.d] (RQ m (Zii m i o (pre.map Fr.f) t.f)):=by
 have hw:=ht.2;obtain ⟨i1,i2,i3,i4,i5,i6,i7,i8,i9⟩:=Zeb hi
 suffices H:∀r:R,Zii m i o (pre.map Fr.f) t.f=r->CTH Tryz.prog gl 53 1 (MH m 0 0 o (pre++[t]) N) [.ptr 0 0,.agg i.d] (RQ m r) from H _ rfl
 intro r hr;have got:∀{d:D} {gs:List Fr} {N':Ns} {o':MO} {fs:List PF},Zii m i o (pre.map Fr.f) t.f=.go o' fs->gs.map Fr.f=fs->d=.g (.int 0)->RQ m r (.ret d (MH m 0 0 o' gs N')):=λh1 h2 h3=>by subst h3;rw[<- hr,h1];exact ⟨_,_,h2,rfl⟩
 have bad:∀{c v:Int} {o':MO} {gs:List Fr} {N':Ns},Zii m i o (pre.map Fr.f) t.f=.stop c v o'->RQ m r (.ret (.g (.int c)) (MH m 0 v o' gs N')):=λh1=>by rw[<- hr,h1];exact ⟨_,_,rfl⟩
 have mapz:∀(x:Fr),(pre++[x]).map Fr.f=pre.map Fr.f++[x.f]:=λx=>by rw[List.map_append];rfl
 refine ZbJ [] hT hF hM Tryz.func53 rfl 68 rfl (by kernel_rfl) [.tmp 4] rfl [.ptr 0 0,.agg i.d] rfl (MH m 0 0 o (pre++[t]) N) [0] rfl rfl rfl 1 [] trivial _ ?_;refine ⟨ZfG,.inr (semRd (ZfF rfl rfl rfl (n:=pre.length) (by simp) (by omega)) ?_)⟩;refine ⟨λh9=>?_,λh9=>?_⟩
 ·refine ⟨_,[.int i.a],Za6 Fr.g pre t,⟨rfl,trivial⟩,by rw[Fr.g_len ht.1];exact (by decide:0+1+1<=12),(λh=>by cases h),.inl ?_⟩;refine ⟨rfl,.inl (ZaL (fs:=pre++[Fr.mk { t.f with at_:=i.a } t.v]) (.g (.int 0)) (Zb0 0 1 2 3 4 5) rfl rfl rfl (.inl rfl) rfl rfl rfl rfl (Zfl Fr.g pre t _ _ (Fr.g_set_at _).symm) ?_ trivial (got ?_ (mapz _) rfl))⟩
  ·rw[List.map_append,List.map_append];exact List.Perm.refl _
  ·unfold Zii;rw[if_pos h9]
 refine ⟨λh10=>?_,λh10=>?_⟩
 ·have e0:Zii m i o (pre.map Fr.f) t.f=if t.f.ws.length < 1 then .stop 4 0 o else .go o (pre.map Fr.f++[if (t.f.off 1).getD 0 0=0 then { t.f.on 1 with at_:=i.a } else t.f.on 1]):=by unfold Zii;rw[if_neg h9,if_pos h10]
  refine ZeE (n:=1) [.blk i.d 127] ht (by omega) (by decide) rfl rfl (λhl=>?_) (λv' hl=>?_)
  ·refine ⟨rfl,.inl (ZaL (.g (.int 4)) (Zb0 0 1 2 3 4 5) rfl rfl rfl (.inl rfl) rfl rfl rfl rfl rfl (List.Perm.refl _) trivial (bad ?_))⟩;rw[e0,if_pos hl]
  obtain ⟨q,hlen⟩:∃q,t.f.ws.length=q+1:=⟨t.f.ws.length - 1,by omega⟩;obtain ⟨x,hx,hws⟩:=ZiN hlen;have hoff:t.f.off 1=[x]:=by unfold PF.off;rw[hlen];exact hx
  have hon:t.f.on 1=t.f.ww (t.f.ws.take q):=by unfold PF.on;rw[show t.f.ws.length - 1=q from by omega]
  rw[if_neg (by omega),hoff,hon] at e0;rw[show t.f.ws.length - 1=q from by omega,hx];refine ⟨0,[.int x],rfl,rfl,?_⟩;refine ⟨λhz=>?_,λhz=>?_⟩
  ·refine ⟨_,[.int i.a],Za6 Fr.g pre _,⟨rfl,trivial⟩,by rw[Fr.g_len (x:=t.ww (t.f.ws.take q) v') ht.1];exact (by decide:0+1+1<=12),(λh=>by cases h),.inl ?_⟩;refine ⟨rfl,.inl (ZaL (fs:=pre++[Fr.mk { t.f.ww (t.f.ws.take q) with at_:=i.a } v']) (.g (.int 0)) (Zb0 0 1 2 3 4 5) rfl rfl rfl (.inl rfl) rfl rfl rfl rfl (Zfl Fr.g pre _ _ _ (Fr.g_set_at (x:=t.ww (t.f.ws.take q) v') _).symm) ?_ trivial (got e0 ?_ rfl))⟩
   ·rw[List.map_append,List.map_append];exact List.Perm.refl _
   ·rw[mapz];show _=_++[if x=0 then _ else _];rw[if_pos hz]
  ·refine ⟨rfl,.inl (ZaL (.g (.int 0)) (Zb0 0 1 2 3 4 5) rfl rfl rfl (.inl rfl) rfl rfl rfl rfl rfl (List.Perm.refl _) trivial (got e0 ?_ rfl))⟩;rw[mapz];show _=_++[if x=0 then _ else _];rw[if_neg hz];rfl
 refine ⟨λh11=>?_,λh11=>?_⟩
 ·have hb11:bdB 11=4:=rfl;rw[h11] at i6;obtain ⟨b,hb⟩:∃b:Nat,i.b=(b:Int):=⟨i.b.toNat,by omega⟩;have e0:Zii m i o (pre.map Fr.f) t.f=if t.f.ws.length < b then .stop 4 0 o else Zde o (pre.map Fr.f++[t.f.on b]) t.f.part i.a (-1) (t.f.off b):=by unfold Zii;rw[if_neg h9,if_neg h10,if_pos h11,hb];rfl
  refine ZeE (n:=b) [.blk i.d 127] ht (by omega) (by omega) rfl (congrArg (λz=>[D.ptr 0 0,D.g (.int z)]) hb) (λhl=>?_) (λv' hl=>?_)
  ·refine ⟨rfl,.inl (ZaL (.g (.int 4)) (Zb0 0 1 2 3 4 5) rfl rfl rfl (.inl rfl) rfl rfl rfl rfl rfl (List.Perm.refl _) trivial (bad ?_))⟩;rw[e0,if_pos hl]
  rw[if_neg (by omega)] at e0;refine ⟨some 9999,[8],rfl,?_⟩;refine ⟨_,Za6 Fr.g pre _,?_⟩;refine callEnter (fs:=pre++[t.ww (t.f.ws.take (t.f.ws.length - b)) v']) (args:=t.f.ws.drop (t.f.ws.length - b)) [.blk i.d 127] (by simp;omega) rfl rfl (λh20=>?_) (λf2 h20=>?_)
  ·refine ⟨rfl,.inl (ZaL (.g (.int 5)) (Zb0 0 1 2 3 4 7) rfl rfl rfl (.inl rfl) rfl rfl rfl rfl rfl (List.Perm.refl _) trivial (bad ?_))⟩;have h20':pre.length+1=20:=by simpa using h20
   rw[e0];unfold Zde;rw[if_pos (by simp;omega)]
  ·refine ⟨rfl,.inl (ZaL (N:=N.withF f2) (.g (.int 0)) (Zb0 0 1 2 3 4 7) rfl rfl rfl (.inl rfl) rfl rfl rfl rfl rfl (List.Perm.refl _) trivial ?_)⟩;have h20':¬pre.length+1=20:=by simpa using h20
   rw[<- hr,e0];unfold Zde;rw[if_neg (by simp;omega)];exact ⟨_,_,by rw[List.map_append,mapz];rfl,rfl⟩
 refine ⟨λh12=>?_,λh12=>?_⟩
 ·have e0:Zii m i o (pre.map Fr.f) t.f=ZiX m i o (pre.map Fr.f) t.f:=by unfold Zii;rw[if_neg h9,if_neg h10,if_neg h11,if_pos h12]
  refine Zfb gate_fn [.blk i.d 127] (gate_any m o pre t N i hi h12 himg hc ht hp) rfl rfl rfl rfl (λc v o' gs N' hq=>?_);refine ⟨rfl,.inl (ZaL (.g (.int c)) (Zb0 0 7 8 9 10 11) rfl rfl rfl (.inl rfl) rfl rfl rfl rfl rfl (List.Perm.refl _) trivial ?_)⟩;rw[<- hr,e0];exact hq
 refine ⟨λh13=>?_,λh13=>?_⟩
 ·have e0:Zii m i o (pre.map Fr.f) t.f=Barb.retS o (pre.map Fr.f) t.f:=by unfold Zii;rw[if_neg h9,if_neg h10,if_neg h11,if_neg h12,if_pos h13]
  refine Zfb ret_fn [.blk i.d 127] (ret_any m o pre t N ht hpre hp hn) rfl rfl rfl rfl (λc v o' gs N' hq=>?_);refine ⟨rfl,.inl (ZaL (.g (.int c)) (Zb0 0 7 8 9 10 11) rfl rfl rfl (.inl rfl) rfl rfl rfl rfl rfl (List.Perm.refl _) trivial ?_)⟩;rw[<- hr,e0];exact hq
 ·refine ⟨rfl,.inl (ZaL (.g (.int 2)) (Zb0 0 1 2 3 4 5) rfl rfl rfl (.inl rfl) rfl rfl rfl rfl rfl (List.Perm.refl _) trivial (bad ?_))⟩;unfold Zii;rw[if_neg h9,if_neg h10,if_neg h11,if_neg h12,if_neg h13]
theorem memory_fn:fnOk Tryz.prog 52=true:=by kernel_rfl
theorem Zdo:fnOk Tryz.prog 53=true:=by kernel_rfl
theorem words_fn:fnOk Tryz.prog 54=true:=by kernel_rfl
set_option maxRecDepth 20000 in
set_option maxHeartbeats 1000000 in
theorem step_any (m:Zal) (o:MO) (pre:List Fr) (t:Fr) (N:Ns) (ok:SOk m o ((pre++[t]).map Fr.f)) :
  CTH Tryz.prog gl 30 1 (MH m 0 0 o (pre++[t]) N) [.ptr 0 0] (RQ m (Barb.stepS m o (pre.map Fr.f) t.f)):=by
 have tok:t.f.ok m o.calls:=ok.frs _ (by simp);have ht:t.ok:=Fr.ok_of tok;have hpre:∀f∈pre,f.ok:=λf hf=>Fr.ok_of (ok.frs f.f (List.mem_map.2 ⟨f,by simp[hf],rfl⟩));have hdeep:=ok.deep;rw[List.length_map,List.length_append,List.length_singleton] at hdeep;have hcalls:=ok.calls;obtain ⟨k,hk,hkl⟩:=tok.part;have em:m.getD t.f.part.toNat ZaY=m[k]:=by rw[hk];simp[hkl]
 obtain ⟨hc1,hc2,hc3,hc4⟩:=code_ok ok.img hkl;have h0:=tok.at0;have h1:=tok.at1;obtain ⟨j,hj⟩:∃j:Nat,t.f.at_=(j:Int):=⟨t.f.at_.toNat,by omega⟩
 suffices H:∀r:R,Barb.stepS m o (pre.map Fr.f) t.f=r->CTH Tryz.prog gl 30 1 (MH m 0 0 o (pre++[t]) N) [.ptr 0 0] (RQ m r) from H _ rfl
 intro r hr;have lc:(m[k].code.map Instr.g).length=m[k].code.length:=List.length_map _;have mapz:∀(x:Fr),(pre++[x]).map Fr.f=pre.map Fr.f++[x.f]:=λx=>by rw[List.map_append];rfl
 refine ZbJ [] hT hF hM Tryz.func30 rfl 71 rfl (by kernel_rfl) [.tmp 2] rfl [.ptr 0 0] rfl (MH m 0 0 o (pre++[t]) N) [0] rfl rfl rfl 1 [] trivial _ ?_;refine ⟨ZfG,.inr (semRd (ZfF rfl rfl rfl (n:=pre.length) (by simp) (by omega)) ?_)⟩;refine ⟨none,rfl,?_⟩;refine ⟨_,Za6 Fr.g pre t,?_⟩;refine ⟨_,Za6 Fr.g pre t,?_⟩;refine ⟨k,_,dI hk,gm hkl,?_⟩;refine ⟨λhge=>?_,λhlt=>?_⟩
 ·refine ⟨rfl,.inl (ZaL (.g (.int 4)) (Zb0 0 1 2 3 4 5) rfl rfl rfl (.inl rfl) rfl rfl rfl rfl rfl (List.Perm.refl _) trivial ?_)⟩;rw[<- hr];unfold Barb.stepS;simp only;rw[em,if_pos (by omega)];exact ⟨_,_,rfl⟩
 have hjl:j < m[k].code.length:=by omega
 have ei:m[k].code.getD t.f.at_.toNat Zg6=m[k].code[j]:=by rw[hj];simp[hjl]
 have hi:=hc3 _ (List.getElem_mem hjl);have e0:Barb.stepS m o (pre.map Fr.f) t.f=(if m[k].code[j].op=6\/m[k].code[j].op=7 then memS m[k] m[k].code[j] o (pre.map Fr.f) { t.f with at_:=t.f.at_+1 }
   else if m[k].code[j].op=9\/m[k].code[j].op=10\/m[k].code[j].op=11\/m[k].code[j].op=12\/m[k].code[j].op=13\/m[k].code[j].op=15 then Zii m m[k].code[j] o (pre.map Fr.f) { t.f with at_:=t.f.at_+1 } else ZjK m[k].code[j] o (pre.map Fr.f) { t.f with at_:=t.f.at_+1 }):=by unfold Barb.stepS;simp only;rw[em,if_neg (by omega),ei]
 have ht1:(Fr.mk { t.f with at_:=t.f.at_+1 } t.v).ok:=ht;refine ⟨none,rfl,?_⟩;refine ⟨_,Za6 Fr.g pre t,?_⟩;refine ⟨k,_,dI hk,gm hkl,?_⟩;refine ⟨_,Za6 Fr.g pre t,?_⟩;refine ⟨j,_,dI hj,gm hjl,?_⟩;refine ⟨_,Za6 Fr.g pre t,?_⟩;refine ⟨_,I64.wrap (by unfold I64;omega),?_⟩;refine ⟨_,[.int (t.f.at_+1)],Za6 Fr.g pre t,⟨rfl,trivial⟩,by rw[Fr.g_len ht.1];exact (by decide:0+1+1<=12),(λh=>by cases h),.inr (ghEq (h2:=MHr m 0 0 o (pre++[(Fr.mk { t.f with at_:=t.f.at_+1 } t.v)]) N [.blk m[k].code[j].d 127]) ?_ (ZeM ?_))⟩
 ·show [Obj.blk _ _,Obj.many ((pre++[t]).map fz) _,_,_,_,Obj.row (((pre++[t]).map Fr.g).set pre.length _) _ _,_]=_;rw[Zfl Fr.g pre t _ _ (Fr.g_set_at (t.f.at_+1)).symm,show (pre++[t]).map fz=(pre++[(Fr.mk { t.f with at_:=t.f.at_+1 } t.v)]).map fz from by rw[List.map_append,List.map_append];rfl]
 refine ⟨λh6=>⟨λ_=>?_,λh=>absurd h6 h⟩,λh6=>?_⟩
 ·refine Zfb memory_fn [.blk m[k].code[j].d 127] (memory_any m o pre (Fr.mk { t.f with at_:=t.f.at_+1 } t.v) N m[k].code[j] k hkl hk ok.img ok.data ht1 (by omega)) rfl rfl rfl rfl (λc v o' gs N' hq=>?_);refine ⟨rfl,.inl (ZaL (.g (.int c)) (Zb0 0 7 8 9 10 11) rfl rfl rfl (.inl rfl) rfl rfl rfl rfl rfl (List.Perm.refl _) trivial ?_)⟩;rw[<- hr,e0,if_pos (.inl h6)];exact hq
 refine ⟨λh7=>?_,λh7=>?_⟩
 ·refine Zfb memory_fn [.blk m[k].code[j].d 127] (memory_any m o pre (Fr.mk { t.f with at_:=t.f.at_+1 } t.v) N m[k].code[j] k hkl hk ok.img ok.data ht1 (by omega)) rfl rfl rfl rfl (λc v o' gs N' hq=>?_);refine ⟨rfl,.inl (ZaL (.g (.int c)) (Zb0 0 7 8 9 10 11) rfl rfl rfl (.inl rfl) rfl rfl rfl rfl rfl (List.Perm.refl _) trivial ?_)⟩;rw[<- hr,e0,if_pos (.inr h7)];exact hq
 refine ⟨λh9=>⟨λ_=>?_,λh=>absurd h9 h⟩,λh9=>?_⟩
 ·refine Zfb Zdo [.blk m[k].code[j].d 127] (ZcU m o pre (Fr.mk { t.f with at_:=t.f.at_+1 } t.v) N m[k].code[j] hi (by omega) ok.img hcalls ht1 hpre (by omega) tok.noted) rfl rfl rfl rfl (λc v o' gs N' hq=>?_);refine ⟨rfl,.inl (ZaL (.g (.int c)) (Zb0 0 7 8 9 10 11) rfl rfl rfl (.inl rfl) rfl rfl rfl rfl rfl (List.Perm.refl _) trivial ?_)⟩;rw[<- hr,e0,if_neg (by omega),if_pos (by omega)];exact hq
 refine ⟨λh10=>⟨λ_=>?_,λh=>absurd h10 h⟩,λh10=>?_⟩
 ·refine Zfb Zdo [.blk m[k].code[j].d 127] (ZcU m o pre (Fr.mk { t.f with at_:=t.f.at_+1 } t.v) N m[k].code[j] hi (by omega) ok.img hcalls ht1 hpre (by omega) tok.noted) rfl rfl rfl rfl (λc v o' gs N' hq=>?_);refine ⟨rfl,.inl (ZaL (.g (.int c)) (Zb0 0 7 8 9 10 11) rfl rfl rfl (.inl rfl) rfl rfl rfl rfl rfl (List.Perm.refl _) trivial ?_)⟩;rw[<- hr,e0,if_neg (by omega),if_pos (by omega)];exact hq
 refine ⟨λh11=>⟨λ_=>?_,λh=>absurd h11 h⟩,λh11=>?_⟩
 ·refine Zfb Zdo [.blk m[k].code[j].d 127] (ZcU m o pre (Fr.mk { t.f with at_:=t.f.at_+1 } t.v) N m[k].code[j] hi (by omega) ok.img hcalls ht1 hpre (by omega) tok.noted) rfl rfl rfl rfl (λc v o' gs N' hq=>?_);refine ⟨rfl,.inl (ZaL (.g (.int c)) (Zb0 0 7 8 9 10 11) rfl rfl rfl (.inl rfl) rfl rfl rfl rfl rfl (List.Perm.refl _) trivial ?_)⟩;rw[<- hr,e0,if_neg (by omega),if_pos (by omega)];exact hq
 refine ⟨λh12=>⟨λ_=>?_,λh=>absurd h12 h⟩,λh12=>?_⟩
 ·refine Zfb Zdo [.blk m[k].code[j].d 127] (ZcU m o pre (Fr.mk { t.f with at_:=t.f.at_+1 } t.v) N m[k].code[j] hi (by omega) ok.img hcalls ht1 hpre (by omega) tok.noted) rfl rfl rfl rfl (λc v o' gs N' hq=>?_);refine ⟨rfl,.inl (ZaL (.g (.int c)) (Zb0 0 7 8 9 10 11) rfl rfl rfl (.inl rfl) rfl rfl rfl rfl rfl (List.Perm.refl _) trivial ?_)⟩;rw[<- hr,e0,if_neg (by omega),if_pos (by omega)];exact hq
 refine ⟨λh13=>⟨λ_=>?_,λh=>absurd h13 h⟩,λh13=>?_⟩
 ·refine Zfb Zdo [.blk m[k].code[j].d 127] (ZcU m o pre (Fr.mk { t.f with at_:=t.f.at_+1 } t.v) N m[k].code[j] hi (by omega) ok.img hcalls ht1 hpre (by omega) tok.noted) rfl rfl rfl rfl (λc v o' gs N' hq=>?_);refine ⟨rfl,.inl (ZaL (.g (.int c)) (Zb0 0 7 8 9 10 11) rfl rfl rfl (.inl rfl) rfl rfl rfl rfl rfl (List.Perm.refl _) trivial ?_)⟩;rw[<- hr,e0,if_neg (by omega),if_pos (by omega)];exact hq
 refine ⟨λh15=>?_,λh15=>?_⟩
 ·refine Zfb Zdo [.blk m[k].code[j].d 127] (ZcU m o pre (Fr.mk { t.f with at_:=t.f.at_+1 } t.v) N m[k].code[j] hi (by omega) ok.img hcalls ht1 hpre (by omega) tok.noted) rfl rfl rfl rfl (λc v o' gs N' hq=>?_);refine ⟨rfl,.inl (ZaL (.g (.int c)) (Zb0 0 7 8 9 10 11) rfl rfl rfl (.inl rfl) rfl rfl rfl rfl rfl (List.Perm.refl _) trivial ?_)⟩;rw[<- hr,e0,if_neg (by omega),if_pos (by omega)];exact hq
 have hio:=Zeb hi;refine Zfb words_fn [.blk m[k].code[j].d 127] (mwords_any m o pre (Fr.mk { t.f with at_:=t.f.at_+1 } t.v) N m[k].code[j] hi (by omega) ok.told ht1 (by omega)) rfl rfl rfl rfl (λc v o' gs N' hq=>?_);refine ⟨rfl,.inl (ZaL (.g (.int c)) (Zb0 0 7 8 9 10 11) rfl rfl rfl (.inl rfl) rfl rfl rfl rfl rfl (List.Perm.refl _) trivial ?_)⟩;rw[<- hr,e0,if_neg (by omega),if_neg (by omega)];exact hq
end Go.Proofs.YtpjjkiidjofflaaGreatDoor
namespace Barb
open Go Go.Dm Go.Eng
end Barb
namespace Go.Proofs.YtpjjkiidjofflaaGreatDoor
open Go Go.Dm Go.Eng Go.RowKit Barb
theorem enter0_any (m:Zal) (d:List Int) (part at_ noted:Int) (args:List Int) :
  CTH Tryz.prog gl 29 1 [.blk [.g (.sl 4 (m.map Part.g)),.g (.int 0),.g (.int 0),.row 3,.row 2,.row 4,.row 5] 87,.many [] [],.row (d.map Zat) 3 1,.row [] 3 1,.row [] 98 7,.row [] 123 12] [.ptr 0 0,.g (.int part),.g (.int at_),.g (.int noted),.g (.sl 1 (args.map Zat))]
   (λout=>∃N,out=.ret (.g (.int 0)) (MH m 0 0 ⟨[],d,[]⟩ [newF part at_ noted args] N)):=by refine ZbJ [] hT hF hM Tryz.func29 rfl 36 rfl (by kernel_rfl) [.tmp 10] rfl [.ptr 0 0,.g (.int part),.g (.int at_),.g (.int noted),.g (.sl 1 (args.map Zat))] rfl ([.blk [.g (.sl 4 (m.map Part.g)),.g (.int 0),.g (.int 0),.row 3,.row 2,.row 4,.row 5] 87,.many [] [],.row (d.map Zat) 3 1,.row [] 3 1,.row [] 98 7,.row [] 123 12]) [0] rfl rfl rfl 1 [] trivial _ ?_;refine ⟨λh=>absurd h (by decide),λ_=>?_⟩;refine .inr (ghRaw (ZeM ?_));refine .inl ?_;refine .inl ?_;refine ⟨_,(p8_set args _ _ _ _).symm,?_⟩;refine ⟨some 9998,[10],rfl,?_⟩;refine ⟨[(newF part at_ noted args).g],rfl,rfl,seesG _ (newF part at_ noted args).g,⟨_,rfl⟩,?_⟩;refine ⟨⟨by simp[maxLen],by simp⟩,?_⟩;refine .inr (Zdz 1 8 (λv=>[(v,8)]) rfl rfl (λv t ht=>ht) (λv4=>Zdz 1 4 (λv=>[(v,4),(v4,8)]) rfl rfl (λv t ht=>ht) (λv3=>Zdz 1 3 (λv=>[(v,3),(v3,4),(v4,8)]) rfl rfl (λv t ht=>ht) (λv2=>Zdz 1 2 (λv=>[(v,2),(v2,3),(v3,4),(v4,8)]) rfl rfl (λv t ht=>ht) (λv1=>ZeM ?_)))));exact ⟨rfl,.inr (ghNil 1 3 1 (by decide) rfl (ZeM (ZaL (o:=⟨[],d,[]⟩) (fs:=[newF part at_ noted args]) (N:=⟨v1,v2,v3,v4⟩) (.g (.int 0)) (Zb0 0 1 2 3 4 8) rfl rfl rfl (.inl rfl) rfl rfl rfl rfl rfl (List.Perm.refl _) trivial ⟨_,rfl⟩)))⟩
theorem enter1_any (m:Zal) (d:List Int) (part at_ noted:Int) (args:List Int) :
  CTH Tryz.prog gl 29 1 [.blk [.g (.sl 4 (m.map Part.g)),.g (.int 0),.g (.int 0),.nils,.row 1,.nils,.nils] 87,.row (d.map Zat) 3 1] [.ptr 0 0,.g (.int part),.g (.int at_),.g (.int noted),.g (.sl 1 (args.map Zat))]
   (λout=>∃N,out=.ret (.g (.int 0)) (MH m 0 0 ⟨[],d,[]⟩ [newF part at_ noted args] N)):=by
 have hT:Zbo [.blk [.g (.sl 4 (m.map Part.g)),.g (.int 0),.g (.int 0),.nils,.row 1,.nils,.nils] 87,.row (d.map Zat) 3 1] [.old 0,.many0,.old 1,.nil 3 1,.nil 98 7,.nil 123 12] =
  [.blk [.g (.sl 4 (m.map Part.g)),.g (.int 0),.g (.int 0),.nils,.row 2,.nils,.nils] 87,.many [] [],.row (d.map Zat) 3 1,.row [] 3 1,.row [] 98 7,.row [] 123 12]:=rfl
 refine cth_turn (hin:=[.blk [.g (.sl 4 (m.map Part.g)),.g (.int 0),.g (.int 0),.row 3,.row 2,.row 4,.row 5] 87,.many [] [],.row (d.map Zat) 3 1,.row [] 3 1,.row [] 98 7,.row [] 123 12]) [.old 0,.many0,.old 1,.nil 3 1,.nil 98 7,.nil 123 12] ⟨rfl,.inr ?_,.inl rfl,rfl⟩ rfl rfl (enter0_any m d part at_ noted args);rw[hT];exact ⟨⟨rfl,.inr ⟨lk rfl,lk rfl,lk rfl,.inr rfl,lk rfl,.inr rfl,.inr rfl,trivial⟩⟩,⟨List.Perm.refl _,rfl⟩,⟨rfl,rfl,rfl⟩,⟨rfl,rfl,rfl⟩,⟨rfl,rfl,rfl⟩,⟨rfl,rfl,rfl⟩,trivial⟩
theorem oddR_any (n:Int):CT Tryz.prog gl 27 [.g (.int n)] (Is (.pb (¬ZfP n))):=by refine enter hT hF hM Tryz.func27 rfl 6 rfl (by kernel_rfl) [.tmp 2] rfl [.g (.int n)] rfl _ ?_;exact Zae (.inl rfl) (Is_any n) ⟨rfl,retN Iff.rfl⟩
theorem idxR_any (l:List Int) (hl:l.length<=9223372036854775807):CT Tryz.prog gl 50 [.g (.sl 1 (l.map Zat)),.fn 27 [] []] (Is (.g (.int (idx oddN l)))):=by
 have ll:(l.map Zat).length=l.length:=by simp
 refine enter hT hF hM Tryz.func50 rfl 19 rfl (by kernel_rfl) [.tmp 4] rfl [.g (.sl 1 (l.map Zat)),.fn 27 [] []] rfl _ ?_;refine ZaM (ι:=Nat) (λi=>[(8,.g (.int (i:Int)))]) (λ_=>[]) (λi=>i<=l.length/\∀j (hj:j < l.length),j < i->¬oddN l[j]) (λi=>l.length - i)
  ⟨0,[],⟨rfl,.inl rfl,.inr ⟨lk rfl,trivial⟩,rfl⟩,Nat.zero_le _,ZgN⟩ ?_
 intro Rd hRd i ⟨hi,ha⟩;refine ⟨λh=>?_,λh=>?_⟩
 ·have h1:i < l.length:=by omega
  refine ⟨i,_,rfl,gm h1,?_⟩;refine Zae (.inl rfl) (oddR_any l[i]) ?_;refine ⟨λh2=>⟨rfl,ZbH (ZfN h1 ha h2).symm⟩,λh2=>⟨_,I64.wrap (by unfold I64;omega),?_⟩⟩;exact hRd _ _ _ ⟨i+1,[],⟨rfl,.inl rfl,.inr ⟨lk rfl,trivial⟩,rfl⟩,⟨h1,ZcE h1 ha h2⟩,by omega⟩
 ·exact ⟨rfl,ZbH (ZfM (Zdj (by omega) ha)).symm⟩
theorem hasR_any (l:List Int) (hl:l.length<=9223372036854775807):CT Tryz.prog gl 26 [.g (.sl 1 (l.map Zat)),.fn 27 [] []] (Is (.pb (∃n∈l,¬ZfP n))):=by
 refine enter hT hF hM Tryz.func26 rfl 9 rfl (by kernel_rfl) [.tmp 4] rfl [.g (.sl 1 (l.map Zat)),.fn 27 [] []] rfl _ ?_;refine Zae (.inl rfl) (idxR_any l hl) ⟨rfl,retP ?_⟩
 rcases Zbr oddN l with ⟨h1,h2⟩ | ⟨i,hi,h1,h2,h3⟩
 ·rw[h1];exact ⟨λh=>absurd h (by decide),λ⟨c,hc,ho⟩=>absurd ho (h2 c hc)⟩
 ·rw[h1];exact ⟨λ_=>⟨l[i],List.getElem_mem _,h2⟩,λ_=>by omega⟩
theorem callR2 {g:FuncId} (hg:fnOk Tryz.prog g=true) {l all:List D} {h:Zad} {K Qp:KD} {m:Zal} {e val:Int} {o:MO} {fs:List Fr} {N:Ns} {x:R} (r:Zad)
  (hct:CTH Tryz.prog gl g 1 (MH m e val o fs N) (.ptr 0 0 :: l) (RQ m x)) (hn:l.map (conv (MHr m e val o fs N r) (Zb0 0 1 2 3 4 5) 4)=l) (hl:Zf7 (MHr m e val o fs N r) [0,1,2,3,4,5] (.ptr 0 0 :: l)=true)
  (hh:h=MHr m e val o fs N r) (ha:all=.ptr 0 0 :: l)
  (hgo:∀o' gs N',x=.go o' (gs.map Fr.f)->K (.g (.int 0)) (MHt m 0 0 o' gs N' r)) (hstop:∀c v o' gs N',x=.stop c v o'->K (.g (.int c)) (MHt m 0 v o' gs N' r)) :
  fnOk Tryz.prog g=true/\(ZbY Tryz.prog gl g all h K Qp\/Zbu Tryz.prog gl g all h K Qp):=by
 subst hh;subst ha;refine ZdZ [0,1,2,3,4,5] hg hl rfl (turnM2 _ _ _ _ _ _ _ _ hn) hct (λd' h' hq=>?_) (λd' h' hq=>?_)
 ·cases x with
  | go o' fs' =>obtain ⟨gs,N',hm,he⟩:=hq;injection he with e1 e2;subst e1;subst e2;rw[putT];exact hgo o' gs N' (by rw[hm])
  | stop c v o' =>obtain ⟨gs,N',he⟩:=hq;injection he with e1 e2;subst e1;subst e2;rw[putT];exact hstop c v o' gs N' rfl
 ·obtain ⟨c,v,o',gs,N',he⟩:=RQ_ret hq
  cases he
theorem step_fn:fnOk Tryz.prog 30=true:=by kernel_rfl
set_option maxRecDepth 20000 in
set_option maxHeartbeats 1000000 in
theorem Run_any (m:Zal) (hm:Zal.I m) (d:List Int) (hd:d.length*8<=140737488351232) (part entry:Int) (args:List Int) (hargs:args.length*8<=140737488351232) (fuel:Int) :
  CT Tryz.prog gl 9 [.agg (imgD m),.g (.sl 1 (d.map Zat)),.g (.int part),.g (.int entry),.g (.sl 1 (args.map Zat)),.g (.int fuel)] (Is (.tuple [.agg (runV m d part entry args fuel).d,.g (.int (runE m d part entry args fuel))])):=by
 have lm:(m.map Part.g).length=m.length:=List.length_map _;have la:(args.map Zat).length=args.length:=List.length_map _;have e:runE m d part entry args fuel=runE m d part entry args fuel:=rfl
 conv at e=>rhs;unfold runE
 refine enter hT hF hM Tryz.func9 rfl 115 rfl (by kernel_rfl) [.cell 12 36,.tmp 13] rfl [.agg (imgD m),.g (.sl 1 (d.map Zat)),.g (.int part),.g (.int entry),.g (.sl 1 (args.map Zat)),.g (.int fuel)] rfl _ ?_;refine Zae (.inl rfl) (CheckData_any m hm d hd) ⟨λh=>⟨rfl,retZ (Zh4 (e.trans (if_pos h)) h) (by rw[e,if_pos h])⟩,λh=>?_⟩;rw[if_neg (λh'=>h' h)] at e;have r5:(part < 0\/part >= m.length\/entry < 0\/entry >= (Barb.partAt m part).entries.length)->∀h:Zad,Zbv (Is (.tuple [.agg (runV m d part entry args fuel).d,.g (.int (runE m d part entry args fuel))])) h (.tuple [.agg [.g (.int 0),.g (.int 0),.nils,.nils,.nils],.g (.int 5)]):=λhb h=>by rw[if_pos hb] at e;exact retZ (Zh4 e (by decide)) e.symm
 refine ⟨λa1=>⟨rfl,r5 (.inl a1) _⟩,λa1=>⟨λa2=>⟨rfl,r5 (.inr (.inl (by omega))) _⟩,λa2=>⟨λa3=>⟨rfl,r5 (.inr (.inr (.inl a3))) _⟩,λa3=>?_⟩⟩⟩;obtain ⟨k,hk⟩:∃k:Nat,part=(k:Int):=⟨part.toNat,by omega⟩;have hkl:k < m.length:=by omega
 have hpk:Barb.partAt m part=m[k]:=by rw[hk];exact Barb.partAt_at hkl
 have le:(m[k].entries.map Entry.g).length=m[k].entries.length:=List.length_map _;refine ⟨k,_,dI hk,gm hkl,?_⟩;refine ⟨λa4=>⟨rfl,r5 (.inr (.inr (.inr (by rw[hpk];omega)))) _⟩,λa4=>?_⟩;obtain ⟨q,hq⟩:∃q:Nat,entry=(q:Int):=⟨entry.toNat,by omega⟩;have hql:q < m[k].entries.length:=by omega
 have hent:entAt m part entry=m[k].entries[q]:=by unfold entAt;rw[hpk,hq];exact getD_of hql _
 rw[if_neg (by rw[hpk];omega),hent] at e;clear r5;refine ⟨k,_,dI hk,gm hkl,?_⟩;refine ⟨q,_,dI hq,gm hql,?_⟩;refine ⟨λb1=>⟨rfl,?_⟩,λb1=>?_⟩
 ·rw[if_pos (by rw[<- la];exact b1)] at e;exact retZ (Zh4 e (by decide)) e.symm
 rw[if_neg (by rw[<- la];exact λh'=>h' b1)] at e;have r2:(fuel < 0\/fuel > 100000\/∃n∈args,¬ZfP n)->∀h:Zad,Zbv (Is (.tuple [.agg (runV m d part entry args fuel).d,.g (.int (runE m d part entry args fuel))])) h (.tuple [.agg [.g (.int 0),.g (.int 0),.nils,.nils,.nils],.g (.int 2)]):=λhb h=>by rw[if_pos hb] at e;exact retZ (Zh4 e (by decide)) e.symm
 refine ⟨λc1=>⟨rfl,r2 (.inl c1) _⟩,λc1=>⟨λc2=>⟨rfl,r2 (.inr (.inl c2)) _⟩,λc2=>?_⟩⟩;refine Zae (.inl rfl) (hasR_any args (by omega)) ⟨λc3=>⟨rfl,r2 (.inr (.inr c3)) _⟩,λc3=>?_⟩;rw[if_neg (by intro hh;rcases hh with hh | hh | hh;exact c1 hh;exact c2 hh;exact c3 hh)] at e;clear r2;obtain ⟨n0,hn0⟩:∃n0:Nat,fuel=(n0:Int):=⟨fuel.toNat,by omega⟩;have hV:runV m d part entry args fuel=outOf (Zex m n0 ⟨[],d,[]⟩ [⟨part,m[k].entries[q].at_,p8 args,[],-1⟩]):=by unfold runV;rw[if_pos e,hent,hn0];rfl
 generalize hF:Zex m n0 ⟨[],d,[]⟩ [⟨part,m[k].entries[q].at_,p8 args,[],-1⟩]=R0 at hV;obtain ⟨himg,hdw⟩:=dataE_ok h;obtain ⟨hc1,hc2,hc3,hc4⟩:=code_ok himg hkl;have hat:=hc4 _ (List.getElem_mem hql);refine ⟨some 1999,rfl,?_⟩;refine ⟨_,_,_,.inl rfl,Zfh (d.map Zat) (by rw[List.length_map];exact hd),rfl,?_⟩;refine ZdZ [4,3] enter_fn rfl rfl ⟨rfl,.inl rfl,.inl rfl,rfl⟩ (enter1_any m d part m[k].entries[q].at_ (-1) args) (λd' h' hq=>?_) (λd' h' hq=>?_)
 rotate_left
 ·obtain ⟨N,hq⟩:=hq;cases hq
 obtain ⟨N,hq⟩:=hq;injection hq with e1 e2;subst e1;subst e2;refine .inl ?_;have start:LInv m R0 ⟨0,0,⟨[],d,[]⟩,[newF part m[k].entries[q].at_ (-1) args],N,n0⟩:=by refine ⟨by show n0<=100000;omega,λ_=>⟨rfl,⟨himg,hdw,by simp,by simp,by simp,λf hf=>?_⟩,by simp,hF⟩,λhne=>absurd rfl hne⟩;simp only[List.map_cons,List.map_nil,List.mem_cons,List.not_mem_nil,or_false] at hf;subst hf;exact ⟨⟨k,hk,hkl⟩,hat.1,by show m[k].entries[q].at_<=2000;omega,rfl,by simp[newF],by simp[newF]⟩
 refine ZaM (ι:=LS) (λi=>[(5,.g (.int (i.n:Int))),(16,.ptr 0 0),(12,.ptr 6 0)]) (λi=>MHr m i.e i.val i.o i.gs i.N [.blk [.g (.int 0),.g (.int 0),.nils,.nils,.nils] 36]) (LInv m R0) (λi=>i.n)
  ⟨⟨0,0,⟨[],d,[]⟩,[newF part m[k].entries[q].at_ (-1) args],N,n0⟩,[.old 4,.old 5,.old 6,.old 7,.old 8,.old 9,.old 1],⟨rfl,.inl rfl,.inr ⟨lkI hn0,lk rfl,lk rfl,trivial⟩,rfl⟩,start⟩ ?_
 rintro Rd hRd ⟨e1,val1,o1,gs1,N1,n1⟩ hinv
 have sub1:∀{n:Nat},¬((n:Int)=0)->∃n',n=n'+1:=fun {n} h=>⟨n - 1,by omega⟩;have hn5:n1<=100000:=hinv.1
 by_cases h0:e1=0
 ·obtain ⟨hv,ok,hne,hit⟩:val1=0/\SOk m o1 (gs1.map Fr.f)/\gs1≠[]/\Zex m n1 o1 (gs1.map Fr.f)=R0:=hinv.2.1 h0;obtain ⟨pre,t,hgs⟩:∃pre t,gs1=pre++[t]:=by
   rcases List.eq_nil_or_concat gs1 with h | ⟨pre,t,h⟩
   ·exact absurd h hne
   ·exact ⟨pre,t,by rw[h,List.concat_eq_append]⟩
  subst h0;subst hv;subst hgs;refine ⟨λ_=>?_,λhx=>absurd rfl hx⟩;refine ⟨λhz=>?_,λhz=>?_⟩
  ·refine .inl ?_;refine .inl ?_;refine ⟨rfl,ZbN (.inl ?_)⟩;show D.tuple [.agg [.g (.int 3),.g (.int 0),.g (.sl 1 (o1.told.map Zat)),.g (.sl 1 (o1.data.map Zat)),.g (.sl 7 (o1.calls.map Nt.g))],.g (.int 0)]=_;have hz':(n1:Int)=0:=hz;have hn1:n1=0:=by omega
   rw[e,hV,<- hit,hn1];rfl
  ·obtain ⟨n2,hn2⟩:=sub1 hz;subst hn2;rw[List.map_append,List.map_cons,List.map_nil,Zha] at hit;have hrok:=stepS_ok (m:=m) (o:=o1) (pre:=pre.map Fr.f) (t:=t.f) (by rw[List.map_append] at ok;exact ok);refine callR2 step_fn [.blk [.g (.int 0),.g (.int 0),.nils,.nils,.nils] 36] (step_any m o1 pre t N1 ok) rfl rfl rfl rfl (λo2 gs2 N2 hx=>?_) (λc v o2 gs2 N2 hx=>?_)
   ·rw[hx] at hit hrok;refine .inl ?_;refine ⟨(by unfold I64;omega:I64 (((n2+1:Nat):Int) - 1)),?_⟩;exact hRd _ _ _ ⟨⟨0,0,o2,gs2,N2,n2⟩,[.old 0,.old 7,.old 8,.old 9,.old 10,.old 11,.old 6],⟨rfl,.inl rfl,.inr ⟨lkI (by push_cast;omega),lk rfl,lk rfl,trivial⟩,rfl⟩,⟨by show n2<=100000;omega,λ_=>⟨rfl,hrok.1,λhq=>hrok.2 (by rw[show gs2=[] from hq];rfl),hit⟩,λhq=>absurd rfl hq⟩,Nat.lt_succ_self n2⟩
   ·rw[hx] at hit hrok;refine .inl ?_;refine ⟨(by unfold I64;omega:I64 (((n2+1:Nat):Int) - 1)),?_⟩;exact hRd _ _ _ ⟨⟨c,v,o2,gs2,N2,n2⟩,[.old 0,.old 7,.old 8,.old 9,.old 10,.old 11,.old 6],⟨rfl,.inl rfl,.inr ⟨lkI (by push_cast;omega),lk rfl,lk rfl,trivial⟩,rfl⟩,⟨by show n2<=100000;omega,λhq=>absurd hq hrok,λ_=>hit.symm⟩,Nat.lt_succ_self n2⟩
 ·have hR:R0=(e1,val1,o1):=hinv.2.2 h0;refine ⟨λhx=>absurd hx h0,λ_=>?_⟩;refine .inl ?_;refine ⟨rfl,ZbN (.inl ?_)⟩;show D.tuple [.agg [.g (.int e1),.g (.int val1),.g (.sl 1 (o1.told.map Zat)),.g (.sl 1 (o1.data.map Zat)),.g (.sl 7 (o1.calls.map Nt.g))],.g (.int 0)]=_;rw[e,hV,hR];rfl
end Go.Proofs.YtpjjkiidjofflaaGreatDoor
