import Derived.Test.YthccmffgjchdmaaGreatDoorNTk
import Derived.Test.YthccmffgjchdmaaGreatDoorNTq
import Derived.Test.YthccmffgjchdmaaGreatDoorNGh
import Derived.WalkKit
import Derived.Test.YthccmffgjchdmaaGreatDoorNDjk
open Go Go.Proofs Go.Proofs.YthccmffgjchdmaaGreatDoor
namespace ZN
open Go Go.Dm Go.Eng Go.RowKit Barb
variable {L:Lv}
abbrev RB (l:List Tok) (k:Int):List D:=[.g (.sl 2 (l.map Tok.g)),.g (.int k)]
abbrev RH (l:List Tok) (k:Int):Zae:=[.blk (RB l k) 125]
theorem ZbE {R:D->Zae->Prop} {env:Dm.Env} {h hin:Zae} {rows:List (List GV)} {n:Int} {d0:D} (d:D) (l:List Tok) (k:Int) (src:List Src) (aR:Zef src=true) (hlen:ZoE src (RH l k)=true)
  (h0:conv h src 4 (env 0)=.ptr 0 0) (hd:conv h src 4 d0=d\/ZiI (ZjJ src) 4 (conv h src 4 d0) d) (r9:ZbW h src=[.blk [.g (.sl 2 rows),.g (.int n)] 125]) (e1:rows=l.map Tok.g) (e2:n=k) (q:R d (RH l k)):ToH [0] hin 1 [] R h env d0:=by
 subst e1;subst e2;refine ⟨src,d,RH l n,⟨aR,.inr ?_,.inr ?_,hlen⟩,rfl,trivial,q⟩
 ·rw[r9];exact ⟨⟨rfl,.inl rfl⟩,trivial⟩
 ·rw[Yan,Yan,Yan,h0];exact ⟨by rcases hd with hd | hd;exact lk hd;exact hd,lk rfl,trivial⟩
theorem ZvN {s:Str} {t:Tok} {r:List Tok} (h:t.text=s):ZaE s (t :: r)=some r:=by unfold ZaE;rw[if_pos ⟨by simp,h⟩];rfl
theorem Zyp {s:Str} {t:Tok} {r:List Tok} (h:¬t.text=s):ZaE s (t :: r)=none:=by unfold ZaE;rw[if_neg (λhc=>h hc.2)]
theorem ZvO (s:Str):ZaE s []=none:=by unfold ZaE;rw[if_neg (λhc=>hc.1 rfl)]
theorem Zbv (l:List Tok) (k:Int) (s:Str) (hl:l.length<=1048576):CTH Tryz.prog (gl L) 77 1 (RH l k) [.ptr 0 0,.g (.str s)] (λout=>out=.ret (.g (.bool (ZaE s l).isSome)) (RH ((ZaE s l).getD l) k)):=by
 cases l with
 | nil =>rw[ZvO];refine Za4 [] hT hF hM Tryz.func77 rfl 30 rfl (by kernel_rfl) [.tmp 4] rfl [.ptr 0 0,.g (.str s)] rfl (RH [] k) [0] rfl rfl rfl 1 [] trivial _ ?_;refine ⟨λ_=>?_,λh=>absurd rfl h⟩;exact ⟨rfl,ZbE (.g (.bool false)) [] k [.old 0] rfl rfl rfl (.inl rfl) rfl rfl rfl rfl⟩
 | cons t r =>
  have lr:((t :: r).map Tok.g).length=r.length+1:=by simp
  simp only[List.length_cons] at hl;by_cases ht:t.text=s
  ·rw[ZvN ht];refine Za4 [] hT hF hM Tryz.func77 rfl 30 rfl (by kernel_rfl) [.tmp 4] rfl [.ptr 0 0,.g (.str s)] rfl (RH (t :: r) k) [0] rfl rfl rfl 1 [] trivial _ ?_;refine ⟨λh=>absurd h (by omega),λ_=>?_⟩;refine ⟨0,_,rfl,rfl,?_⟩;refine ⟨λh=>absurd ht h,λ_=>?_⟩;refine ⟨1,rfl,by omega,?_⟩;exact ⟨rfl,ZbE (.g (.bool true)) r k [.old 0] rfl rfl rfl (.inl rfl) rfl rfl rfl rfl⟩
  ·rw[Zyp ht];refine Za4 [] hT hF hM Tryz.func77 rfl 30 rfl (by kernel_rfl) [.tmp 4] rfl [.ptr 0 0,.g (.str s)] rfl (RH (t :: r) k) [0] rfl rfl rfl 1 [] trivial _ ?_;refine ⟨λh=>absurd h (by omega),λ_=>?_⟩;refine ⟨0,_,rfl,rfl,?_⟩;refine ⟨λ_=>?_,λh=>absurd h ht⟩;exact ⟨rfl,ZbE (.g (.bool false)) (t :: r) k [.old 0] rfl rfl rfl (.inl rfl) rfl rfl rfl rfl⟩
def ZBT (t:Tok):List D:=[.g (.int t.kind),.g (.str t.text)]
def ZA4 (l:List Tok):Tok:=⟨Zgl l,Zbi l⟩
theorem ZlT (l:List Tok) (k:Int) (hl:l.length<=1048576):CTH Tryz.prog (gl L) 106 1 (RH l k) [.ptr 0 0] (λout=>out=.ret (.agg (ZBT (ZA4 l))) (RH l.tail k)):=by
 cases l with
 | nil =>refine Za4 [] hT hF hM Tryz.func106 rfl 26 rfl (by kernel_rfl) [.cell 2 119] rfl [.ptr 0 0] rfl (RH [] k) [0] rfl rfl rfl 1 [] trivial _ ?_;refine ⟨λ_=>?_,λh=>absurd rfl h⟩;exact ⟨rfl,ZbE (.agg (ZBT (ZA4 []))) [] k [.old 0] rfl rfl rfl (.inl rfl) rfl rfl rfl rfl⟩
 | cons t r =>
  have lr:((t :: r).map Tok.g).length=r.length+1:=by simp
  simp only[List.length_cons] at hl;refine Za4 [] hT hF hM Tryz.func106 rfl 26 rfl (by kernel_rfl) [.cell 2 119] rfl [.ptr 0 0] rfl (RH (t :: r) k) [0] rfl rfl rfl 1 [] trivial _ ?_;refine ⟨λh=>absurd h (by omega),λ_=>?_⟩;refine ⟨0,_,rfl,rfl,?_⟩;refine ⟨1,rfl,by omega,?_⟩;exact ⟨rfl,ZbE (.agg (ZBT t)) r k [.old 0] rfl rfl rfl (.inl rfl) rfl rfl rfl rfl⟩
variable {L:Lv}
def rdQ {α:Type} (enc:α->D) (k:Int):PR α->Out->Prop
 | .ok a l,out=>out=.ret (enc a) (RH l k)
 | .bad e,out=>∃l' k',(k<=k'/\k'<=k+1)/\out=.panH (Zcu e) (RH l' k')
theorem Zaq {α:Type} {enc:α->D} {k:Int} {r:PR α} {d:D} {h:Zae} (hq:rdQ enc k r (.ret d h)):∃a l,r=.ok a l/\d=enc a/\h=RH l k:=by
 cases r with
 | ok a l=>injection hq with e1 e2;exact ⟨a,l,rfl,e1,e2⟩
 | bad e=>obtain ⟨_,_,_,hq⟩:=hq;cases hq
theorem ZaM {α:Type} {enc:α->D} {k:Int} {r:PR α} {d:D} {h:Zae} (hq:rdQ enc k r (.panH d h)):∃e l' k',r=.bad e/\(k<=k'/\k'<=k+1)/\d=Zcu e/\h=RH l' k':=by
 cases r with
 | ok a l=>cases hq
 | bad e=>obtain ⟨l',k',h1,hq⟩:=hq;injection hq with e1 e2;exact ⟨e,l',k',rfl,h1,e1,e2⟩
def ZBP:PUnit->D:=λ_=>.tuple []
theorem Zas:fnOk Tryz.prog 77=true:=by kernel_rfl
theorem ZhO:fnOk Tryz.prog 106=true:=by kernel_rfl
theorem Zdb:fnOk Tryz.prog 75=true:=by kernel_rfl
theorem Zb3:fnOk Tryz.prog 76=true:=by kernel_rfl
theorem Zg9:fnOk Tryz.prog 78=true:=by kernel_rfl
theorem Zck (l:List Tok) (k:Int) (s:Str) (hl:l.length<=1048576):CTH Tryz.prog (gl L) 75 1 (RH l k) [.ptr 0 0,.g (.str s)] (rdQ ZBP k (ZaH s l)):=by
 have bo:=Zbv (L:=L) l k s hl;unfold ZaH;cases ht:ZaE s l with
 | none =>rw[ht] at bo;refine Za4 [] hT hF hM Tryz.func75 rfl 8 rfl (by kernel_rfl) [] rfl [.ptr 0 0,.g (.str s)] rfl (RH l k) [0] rfl rfl rfl 1 [] trivial _ ?_;refine Zag [0] Zas rfl rfl ⟨rfl,.inl rfl,.inl rfl,rfl⟩ bo (λd' h' hq=>?_) (λd' h' hq=>by cases hq);injection hq with e1 e2;subst e1;subst e2;refine Zao (p:=False) (by decide) (Zqt ⟨λh=>(by cases h),λh=>h.elim⟩) (λh=>h.elim) (λ_=>?_);exact ⟨rfl,ZbE (Zcu 4) l k [.old 0] rfl rfl rfl (.inl rfl) rfl rfl rfl ⟨l,k,by omega,rfl⟩⟩
 | some l' =>rw[ht] at bo;refine Za4 [] hT hF hM Tryz.func75 rfl 8 rfl (by kernel_rfl) [] rfl [.ptr 0 0,.g (.str s)] rfl (RH l k) [0] rfl rfl rfl 1 [] trivial _ ?_;refine Zag [0] Zas rfl rfl ⟨rfl,.inl rfl,.inl rfl,rfl⟩ bo (λd' h' hq=>?_) (λd' h' hq=>by cases hq);injection hq with e1 e2;subst e1;subst e2;refine Zao (p:=True) (by decide) (Zqt ⟨λ_=>trivial,λ_=>rfl⟩) (λ_=>?_) (λh=>absurd trivial h);exact ⟨rfl,ZbE (.tuple []) l' k [.old 0] rfl rfl rfl (.inl rfl) rfl rfl rfl rfl⟩
theorem ZdE (l:List Tok) (k:Int) (hl:l.length<=1048576) (hs:(Zbi l).length<=9223372036854775807):CTH Tryz.prog (gl L) 76 1 (RH l k) [.ptr 0 0] (rdQ (λs=>.g (.str s)) k (Zbc l)):=by
 have bo:=ZlT (L:=L) l k hl;unfold Zbc;by_cases hi:Zan (Zbi l)
 ·rw[if_pos hi];refine Za4 [] hT hF hM Tryz.func76 rfl 12 rfl (by kernel_rfl) [.tmp 2] rfl [.ptr 0 0] rfl (RH l k) [0] rfl rfl rfl 1 [] trivial _ ?_;refine Zag [0] ZhO rfl rfl ⟨rfl,.inl rfl,.inl rfl,rfl⟩ bo (λd' h' hq=>?_) (λd' h' hq=>by cases hq);injection hq with e1 e2;subst e1;subst e2;refine Zad (.inl rfl) (ZbQ (Zbi l) hs) ?_;refine Zao (p:=Zan (Zbi l)) (by decide) (lkP Ya3) (λ_=>?_) (λh=>absurd hi h);exact ⟨rfl,ZbE (.g (.str (Zbi l))) l.tail k [.old 0] rfl rfl rfl (.inl rfl) rfl rfl rfl rfl⟩
 ·rw[if_neg hi];refine Za4 [] hT hF hM Tryz.func76 rfl 12 rfl (by kernel_rfl) [.tmp 2] rfl [.ptr 0 0] rfl (RH l k) [0] rfl rfl rfl 1 [] trivial _ ?_;refine Zag [0] ZhO rfl rfl ⟨rfl,.inl rfl,.inl rfl,rfl⟩ bo (λd' h' hq=>?_) (λd' h' hq=>by cases hq);injection hq with e1 e2;subst e1;subst e2;refine Zad (.inl rfl) (ZbQ (Zbi l) hs) ?_;refine Zao (p:=Zan (Zbi l)) (by decide) (lkP Ya3) (λh=>absurd h hi) (λ_=>?_);exact ⟨rfl,ZbE (Zcu 4) l.tail k [.old 0] rfl rfl rfl (.inl rfl) rfl rfl rfl ⟨l.tail,k,by omega,rfl⟩⟩
theorem ZhN (l:List Tok) (k:Int) (hl:l.length<=1048576) (hs:(Zbi l).length<=140737488351232):CTH Tryz.prog (gl L) 78 1 (RH l k) [.ptr 0 0] (rdQ (λn=>.g (.int n)) k (Zff l)):=by
 have bo:=ZlT (L:=L) l k hl;unfold Zff;by_cases hi:Zgl l=2
 ·rw[if_pos hi];refine Za4 [] hT hF hM Tryz.func78 rfl 19 rfl (by kernel_rfl) [.tmp 2] rfl [.ptr 0 0] rfl (RH l k) [0] rfl rfl rfl 1 [] trivial _ ?_;refine Zag [0] ZhO rfl rfl ⟨rfl,.inl rfl,.inl rfl,rfl⟩ bo (λd' h' hq=>?_) (λd' h' hq=>by cases hq);injection hq with e1 e2;subst e1;subst e2;refine Zao (p:=Zgl l=2) (by decide) (lkP Ya3) (λ_=>?_) (λh=>absurd hi h);refine Zad (.inl rfl) (Zlm (Zbi l) hs) ?_;exact ⟨rfl,ZbE (.g (.int (Zt9 (Zbi l)))) l.tail k [.old 0] rfl rfl rfl (.inl rfl) rfl rfl rfl rfl⟩
 ·rw[if_neg hi];refine Za4 [] hT hF hM Tryz.func78 rfl 19 rfl (by kernel_rfl) [.tmp 2] rfl [.ptr 0 0] rfl (RH l k) [0] rfl rfl rfl 1 [] trivial _ ?_;refine Zag [0] ZhO rfl rfl ⟨rfl,.inl rfl,.inl rfl,rfl⟩ bo (λd' h' hq=>?_) (λd' h' hq=>by cases hq);injection hq with e1 e2;subst e1;subst e2;refine Zao (p:=Zgl l=2) (by decide) (lkP Ya3) (λh=>absurd h hi) (λ_=>?_);exact ⟨rfl,ZbE (Zcu 4) l.tail k [.old 0] rfl rfl rfl (.inl rfl) rfl rfl rfl ⟨l.tail,k,by omega,rfl⟩⟩
variable {L:Lv}
abbrev Zd3 (i:Nat):D:=.fn 157 [] [.ptr i 0]
abbrev BH (l:List Tok) (k:Int):Zae:=[.blk (RB l k) 125,.blk [.ptr 0 0] 123]
def ZpC (l:List Tok) (k:Int):Out->Prop:=λout=>if k+1<=48 then out=.ret (Zd3 1) (BH l (k+1)) else out=.panH (Zcu 1) (RH l (k+1))
theorem ZuZ:fnOk Tryz.prog 142=true:=by kernel_rfl
theorem Zsw (l:List Tok) (k:Int) (hk:I64 (k+1)):CTH Tryz.prog (gl L) 142 1 (RH l k) [.ptr 0 0] (ZpC l k):=by
 by_cases dk:k+1<=48
 ·have hQ:ZpC l k (.ret (Zd3 1) (BH l (k+1))):=by unfold ZpC;rw[if_pos dk]
  refine Za4 [] hT hF hM Tryz.func142 rfl 17 rfl (by kernel_rfl) [.tmp 2] rfl [.ptr 0 0] rfl (RH l k) [0] rfl rfl rfl 1 [] trivial _ ?_;refine ⟨_,I64.wrap hk,?_⟩;refine Zao (p:=k+1<=48) (by decide) (lkP Ya3) (λ_=>?_) (λh=>absurd dk h);exact ⟨rfl,[.old 0,.old 1],Zd3 1,BH l (k+1),⟨rfl,.inl rfl,.inl rfl,rfl⟩,rfl,trivial,hQ⟩
 ·have hQ:ZpC l k (.panH (Zcu 1) (RH l (k+1))):=by unfold ZpC;rw[if_neg dk]
  refine Za4 [] hT hF hM Tryz.func142 rfl 17 rfl (by kernel_rfl) [.tmp 2] rfl [.ptr 0 0] rfl (RH l k) [0] rfl rfl rfl 1 [] trivial _ ?_;refine ⟨_,I64.wrap hk,?_⟩;refine Zao (p:=k+1<=48) (by decide) (lkP Ya3) (λh=>absurd h dk) (λ_=>?_);exact ⟨rfl,ZbE (Zcu 1) l (k+1) [.old 0] rfl rfl rfl (.inl rfl) rfl rfl rfl hQ⟩
set_option maxRecDepth 100000 in
theorem Zxh (bx rd:Nat) (k:Int) (hk:I64 (k - 1)) (u:FrameMode) (w:World) (hb:w.cell? ⟨bx,0,none⟩=some (.pointer (some ⟨rd,0,none⟩))) (hc:w.cell? ⟨rd,1,none⟩=some (.int .i64 k)) (hf:w.frozen? ⟨rd,1,none⟩=false) :
  CallsD Tryz.prog 157 #[.pointer (some ⟨bx,0,none⟩)] u w λe u' w'=>u'=u/\e=.returned (.tuple #[])/\w'=w.setCell ⟨rd,1,none⟩ (.int .i64 (k - 1)):=by
 refine callsD_of_wp Tryz.func157 rfl ?_;simp only[Tryz.ntmps157,List.size_toArray,List.length_cons,List.length_nil,Nat.reduceAdd,Nat.reduceSub,Array.replicate_succ,Array.replicate_zero,List.push_toArray,List.append_toArray,List.nil_append,List.cons_append]
 go_wp2
 have e:wrap64 (k - 1)=k - 1:=by unfold I64 at hk;unfold wrap64;omega
 rw[e];exact ⟨rfl,_,results_none rfl _ _ _,rfl,rfl⟩
theorem Zv4 {w:World} {g:Nat} {v0 v1 v:Value} {t:TypeId} (h:w.heap[g]?=some (.cells ⟨[v0,v1]⟩ t (0,0))):w.setCell ⟨g,1,none⟩ v=w.setRow g ⟨[v0,v]⟩:=by
 unfold World.setCell World.setRow;refine congrArg (λhp=>({ w with heap:=hp }:World)) (Array.ext_getElem? λi=>?_);rw[Array.getElem?_modify,Array.getElem?_modify];by_cases e:g=i
 ·subst e;simp[h]
 ·simp[e]
theorem Zzj {h:Zae} {β:Nat->Value} {V:Nat->Prop} {w:World} (ds:List D) (vs:List Value) (hd:Zaa h β V w ds vs) (n i:Nat):Zab h β V w (Zdz ds i) (((⟨vs⟩:Array Value)++Array.replicate n undef).getD i undef):=by
 have hn:∀(ds:List D) (vs:List Value),Zaa h β V w ds vs->∀i,Zab h β V w (nth .any ds i) (vs.getD i undef):=by
  intro ds
  induction ds with
  | nil=>intro vs _ i;simp only[nth,Zab]
  | cons d ds ih =>
   intro vs h i;simp only[Zaa] at h;obtain ⟨v,us,rfl,h1,h2⟩:=h;cases i with
   | zero=>simpa [nth] using h1
   | succ i=>simpa [nth] using ih us h2 i
 have e:((⟨vs⟩:Array Value)++Array.replicate n undef).getD i undef=vs.getD i undef:=by
  rw[Yao,YaG];by_cases hi:i < vs.length
  ·rw[Yba (by simpa using hi)];simp
  ·rw[Ybk (by simp;omega),Ya9 (by omega)];rw[Ya0];split<;>rfl
 rw[e];exact hn ds vs hd i
abbrev DH (l:List Tok) (k:Int) (cs:List D) (tR:TypeId):Zae:=[.blk (RB l k) 125,.blk cs tR,.blk [.ptr 0 0] 123]
abbrev AH (l:List Tok) (k:Int) (cs:List D) (tR:TypeId):Zae:=[.blk (RB l k) 125,.blk cs tR]
def ZCq {α:Type} (enc:α->List D) (tR:TypeId) (jC:Nat) (k:Int) (r:PR α) (d:Deferred):Dm.Post:=λy st=>match y with
 | .ret=>st.df=[d]/\∃a l,r=.ok a l/\∃src,TurnTo st.h src [st.env 0,st.env 2,st.env jC] (DH l (k+1) (enc a) tR) [.ptr 0 0,.ptr 1 0,Zd3 2]
 | .pan x=>st.df=[d]/\∃e l k',r=.bad e/\x=Zcu e/\(k+1<=k'/\k'<=k+2)/\∃src,TurnTo st.h src [st.env 0,st.env jC] (BH l k') [.ptr 0 0,Zd3 1]
 | _=>False
def ZCn:Dm.Env:=λk=>bif Nat.beq k 0 then .ptr 0 0 else bif Nat.beq k 2 then .ptr 1 0 else .any
theorem ZmC {C:Dm.Ctx} {h:Zae} {β:Nat->Value} {V:Nat->Prop} {w:World} {i:Nat} {v:Value} (hd:Zab h β V w (Zd3 i) v) {cs:List D} {t:TypeId} (hi:h[i]?=some (.blk cs t)) (_:RelD C h β V w):∃g,β i=.pointer (some ⟨g,0,none⟩)/\v=.func (.func 157) #[] #[.pointer (some ⟨g,0,none⟩)]:=by simp only[Zab,Zaa,hi] at hd;obtain ⟨us,ts,rfl,rfl,v1,gw,rfl,⟨g,h1,rfl⟩,rfl⟩:=hd;exact ⟨g,h1,rfl⟩
theorem Zrk {C:Dm.Ctx} {l:List Tok} {k:Int} {h:Zae} {β:Nat->Value} {V:Nat->Prop} {w:World} {i g:Nat} (hr:RelD C h β V w) (h0:h[0]?=some (.blk (RB l k) 125)) (hi:h[i]?=some (.blk [.ptr 0 0] 123)) (hb:β i=.pointer (some ⟨g,0,none⟩)) (hk:I64 (k - 1)) (u:FrameMode) :
  CallsD Tryz.prog 157 #[.pointer (some ⟨g,0,none⟩)] u w λe u' w'=>u'=u/\e=.returned (.tuple #[])/\RelD C (h.set 0 (.blk (RB l (k - 1)) 125)) β V w':=by
 obtain ⟨g',vs,au,hg,hv⟩:=hr.obj i _ hi;obtain rfl:g'=g:=by rw[hb] at au;simpa using au.symm
 obtain ⟨r0,mF,dR,eK,dN⟩:=hr.obj 0 _ h0;simp only[Zaa,Zab,h0] at hv;obtain ⟨v1,gw,rfl,⟨g1,bG,rfl⟩,rfl⟩:=hv;obtain rfl:g1=r0:=by rw[dR] at bG;simpa using bG.symm
 simp only[Zaa] at dN;obtain ⟨x0,x9,rfl,dc,x1,uF,rfl,cS,rfl⟩:=dN;have qx:x1=.int .i64 k:=by simpa only[Zab,ZaS] using cS
 subst qx;refine (Zxh g' g1 k hk u w (by simp[World.cell?,hg]) (by simp[World.cell?,eK]) (by simp[World.frozen?,eK])).mono ?_;rintro e u' w' ⟨rfl,rfl,rfl⟩;refine ⟨rfl,rfl,?_⟩;rw[Zv4 eK];refine hr.set_blk h0 dR _ _ ?_;simp only[Zaa];exact ⟨x0,_,rfl,dc,_,_,rfl,by simp only[Zab,ZaS],rfl⟩
theorem ZxY {env:Dm.Env} {i:Nat} {d:D} (k:Nat):(env.set i d) k=if k=i then d else env k:=by
 show (bif Nat.beq k i then d else env k)=_;cases h:Nat.beq k i with
 | true=>rw[if_pos (Yaq h)];rfl
 | false=>rw[if_neg (λe=>by rw[e] at h;simp at h)];rfl
set_option maxHeartbeats 1000000 in
theorem Zi7 {α:Type} {f:FuncId} {fn:Func} {c0 c1 c2:Code} {nt jA jC:Nat} {S0 S2:List Nat} {tR:TypeId} {zero:List D} {enc:α->List D} {r:PR α} {l:List Tok} {k:Int}
  (hf:Tryz.prog.funcs[f]?=some fn) (hb:fn.body=some (.seq c0 (.seq c1 c2))) (hn:fn.ntmps=nt) (jw:1<=nt) (hk:0<=k/\k<=1000)
  (hj:jA < nt/\jC < nt/\jA≠jC/\jA≠0/\jC≠0/\jA≠2/\jC≠2)
  (k0:inL S0 0=false) (k2:inL S2 0=false/\inL S2 2=false/\inL S2 jC=false)
  (w0:∀(C:Dm.Ctx) (a:Act) (w:World),C.G=(gl L)->Rel C nt ⟨Zdz [.ptr 0 0],RH l k,[]⟩ a w->c0.wp Tryz.prog (λe a' w'=>ZaL S0 a a'/\∃x st',(x=.normal/\st'=⟨(Zdz [.ptr 0 0]).set 2 (.ptr 1 0),AH l k zero tR,[]⟩)/\XOk e x st' a' w' C nt) a w)
  (w1:∀(Q:Exit->Act->World->Prop) (a:Act) (w:World),a.tmps.size=nt->a.defers=[] ->
   Calls Tryz.prog 142 #[a.tmps.getD 0 undef] w (λe w'=>match e with
    | .returned v=>∃b,v=.func (.func 157) #[] #[b]/\Q .normal { tmps:=(a.tmps.setIfInBounds jA (a.tmps.getD 0 undef)).setIfInBounds jC v,defers:=[{ target:=.fn (.func 157) #[b],args:=#[] }] } w'
    | .panicked ch=>Q (.panic ch) { tmps:=a.tmps.setIfInBounds jA (a.tmps.getD 0 undef),defers:=[] } w'
    | .outgrown=>False)->c1.wp Tryz.prog Q a w)
  (w2:∀(d:Deferred) (C:Dm.Ctx) (a:Act) (w:World),k+1<=48->C.G=(gl L)->Rel C nt ⟨(((Zdz [.ptr 0 0]).set 2 (.ptr 1 0)).set jA .any).set jC (Zd3 2),DH l (k+1) zero tR,[d]⟩ a w ->
   c2.wp Tryz.prog (λe a' w'=>ZaL S2 a a'/\∃x st',ZCq enc tR jC k r d x st'/\XOk e x st' a' w' C nt) a w)
  (c8:¬k+1<=48->r=.bad 1) (nX:∀l' k' a,ZiU T ⟨ZCn,DH l' k' (enc a) tR,[]⟩ fn.results.toList=some [.agg (enc a)])
  (oS:∀(h:Zae) (src:List Src) (a:α),conv h src 4 (.agg (enc a))=.agg (enc a)) :
  CTH Tryz.prog (gl L) f 1 (RH l k) [.ptr 0 0] (rdQ (λa=>.agg (enc a)) k r):=by
 intro w β V aa ab fZ;have hlen:aa.length=1:=by rw[<- fZ.len];rfl
 refine calls_of_wp_defers hf hb ?_;have dR:Rel ⟨w,ZiA (RH l k) β,V,(gl L)⟩ nt ⟨Zdz [.ptr 0 0],RH l k,[]⟩ { tmps:=(⟨aa⟩:Array Value)++Array.replicate (fn.ntmps - (⟨aa⟩:Array Value).size) undef,defers:=[] } w :=
  ⟨by simp[hlen,hn];omega,rfl,β,V,ab,λj=>Zzj _ _ fZ _ j⟩
 refine wp_seq (Code.wp_mono ?_ (w0 _ _ w rfl dR));rintro e a1 py ⟨bJ,y,aw,⟨rfl,rfl⟩,hx⟩;cases e<;>try exact hx.elim
 obtain ⟨iJ,mh,β1,V1,r1,r2⟩:=hx;refine wp_seq (w1 _ a1 py iJ mh ?_);have n7:=r2 0;have av:Zaa (AH l k zero tR) β1 V1 py [.ptr 0 0] [a1.tmps.getD 0 undef]:=by simp only[Zaa];exact ⟨_,_,rfl,n7,rfl⟩
 have cV:∀(w':World) (a':Act),a'.tmps.getD 0 undef=aa.getD 0 undef->Zaa (RH l k) β V w (Ziz 0 [0]) ([0].map λk=>a'.tmps.getD k undef):=λw' a' h=>by simp only[Ziz,Yan,YaI,Zaa];refine ⟨_,_,rfl,?_,rfl⟩;rw[h];simp only[Zaa] at fZ;obtain ⟨v,us,rfl,h1,rfl⟩:=fZ;exact h1
 have ou:a1.tmps.getD 0 undef=aa.getD 0 undef:=by
  rw[bJ 0 k0];have:0 < aa.length:=by omega
  rw[Yao,YaG,Yba (by simpa using this)];simp
 have hO:=(ZCt (all:=[.ptr 0 0]) (h:=AH l k zero tR) (K:=λd h=>k+1<=48/\d=Zd3 2/\h=DH l (k+1) zero tR) (Qp:=λd h=>¬k+1<=48/\d=Zcu 1/\h=AH l (k+1) zero tR)
  [0] ZuZ rfl rfl ⟨rfl,.inl rfl,.inl rfl,rfl⟩ (Zsw (L:=L) l k (by unfold I64;omega)) (λd' h' hq=>by
   unfold ZpC at hq;split at hq
   ·rename_i dk;injection hq with e1 e2;subst e1;subst e2;exact ⟨dk,rfl,rfl⟩
   ·cases hq) (λd' h' hq=>by
   unfold ZpC at hq;split at hq
   ·cases hq
   ·rename_i dk;injection hq with e1 e2;subst e1;subst e2;exact ⟨dk,rfl,rfl⟩)).2
 refine (Zkg (st:=⟨λ_=>.any,AH l k zero tR,[]⟩) (next:=λv w'=>k+1<=48/\∃β' V',RelD ⟨w,ZiA (RH l k) β,V,(gl L)⟩ (DH l (k+1) zero tR) β' V' w'/\Zab (DH l (k+1) zero tR) β' V' w' (Zd3 2) v/\LeH (AH l k zero tR) β1 (DH l (k+1) zero tR) β'/\ZaI V1 py V' w')
  (qp:=λch w'=>¬k+1<=48/\∃u β' V',ch=[{ v:=.iface 151 u,recovered:=false }]/\RelD ⟨w,ZiA (RH l k) β,V,(gl L)⟩ (AH l (k+1) zero tR) β' V' w'/\Zab (AH l (k+1) zero tR) β' V' w' (Zcu 1) (.iface 151 u)/\LeH (AH l k zero tR) β1 (AH l (k+1) zero tR) β'/\ZaI V1 py V' w') r1 ?_ ?_ av hO).mono ?_
 ·rintro d h' v w' β' V' ⟨dk,rfl,rfl⟩ q1 q2 q3 q4;exact ⟨dk,β',V',q1,q2,q3,q4⟩
 ·rintro d h' t u w' β' V' ⟨dk,rfl,rfl⟩ q1 q2 q3 q4;obtain ⟨u',e1,e2⟩:∃u',Value.iface t u=.iface 151 u'/\Zab (AH l (k+1) zero tR) β' V' w' (.agg [.g (.int 1)]) u':=by simpa only[Zcu,Zab] using q2
  injection e1 with e1 e3;subst e1;subst e3;exact ⟨dk,u,β',V',rfl,q1,q2,q3,q4⟩
 rintro e mD he;cases e with
 | outgrown=>exact he.elim
 | panicked ch =>
  obtain ⟨dk,u,β',V',rfl,q1,q2,q3,q4⟩:=he;show Zxo (gl L) (rdQ (λa=>.agg (enc a)) k r) 1 (RH l k) β V w (.panicked _) mD;have hA:(a1.tmps.setIfInBounds jA (a1.tmps.getD 0 undef)).getD 0 undef=a1.tmps.getD 0 undef:=by rw[Yao,Yao,Ybv hj.2.2.2.1]
  have hE:=@Zly (gl L) w mD (RH l k) β V [0] 1 [] ⟨a1.tmps.setIfInBounds jA (a1.tmps.getD 0 undef),[]⟩ ab trivial rfl (cV mD _ (hA.trans ou))
   ⟨λi=>bif Nat.beq i 0 then .ptr 0 0 else .any,AH l (k+1) zero tR,[]⟩ β' V' (λd h=>rdQ (λa=>.agg (enc a)) k r (.panH d h)) (Zcu 1) (.iface 151 u) q1 (λi=>by
    show Zab _ _ _ _ (bif Nat.beq i 0 then .ptr 0 0 else .any) _;cases hi:Nat.beq i 0 with
    | true =>rw[Yaq hi];show Zab (AH l (k+1) zero tR) β' V' mD (.ptr 0 0) ((a1.tmps.setIfInBounds jA (a1.tmps.getD 0 undef)).getD 0 undef);rw[hA];exact Zab.mono q3 q4 _ _ n7
    | false=>simp only[cond_false,Zab]) q2
   (ZrX ⟨[.old 0],Zcu 1,RH l (k+1),⟨rfl,.inl rfl,.inl rfl,rfl⟩,rfl,trivial,by rw[c8 dk];exact ⟨l,k+1,by omega,rfl⟩⟩)
  obtain ⟨d',h',β'',V'',z1,z2,z3,z4⟩:=hE;exact ⟨d',h',_,u,β'',V'',rfl,z1,z2,z3,z4⟩
 | returned v =>
  obtain ⟨dk,β',V',q1,q2,q3,q4⟩:=he;obtain ⟨g,b1,rfl⟩:=ZmC q2 rfl q1;refine ⟨_,rfl,?_⟩;obtain ⟨v,hv⟩:∃v,Value.func (.func 157) #[] #[.pointer (some ⟨g,0,none⟩)]=v:=⟨_,rfl⟩;rw[hv] at q2 ⊢;obtain ⟨tm,mJ⟩:∃tm,(a1.tmps.setIfInBounds jA (a1.tmps.getD 0 undef)).setIfInBounds jC v=tm:=⟨_,rfl⟩;have bT:∀i,i≠jA->i≠jC->tm.getD i undef=a1.tmps.getD i undef:=λi h1 h2=>by rw[<- mJ,Yao,Ybv (Ne.symm h2),Ybv (Ne.symm h1),Yao]
  have kR:tm.getD jC undef=v:=by rw[<- mJ,Yao,Array.getElem?_setIfInBounds_self_of_lt (by rw[Array.size_setIfInBounds,iJ];exact hj.2.1),Option.getD_some]
  have qI:tm.size=nt:=by rw[<- mJ];simpa using iJ
  rw[mJ];have gR:Rel ⟨w,ZiA (RH l k) β,V,(gl L)⟩ nt ⟨(((Zdz [.ptr 0 0]).set 2 (.ptr 1 0)).set jA .any).set jC (Zd3 2),DH l (k+1) zero tR,[{ target:=.fn (.func 157) #[.pointer (some ⟨g,0,none⟩)],args:=#[] }]⟩ ⟨tm,[{ target:=.fn (.func 157) #[.pointer (some ⟨g,0,none⟩)],args:=#[] }]⟩ mD:=by
   refine ⟨qI,rfl,β',V',q1,λi=>?_⟩;show Zab _ _ _ _ (((((Zdz [.ptr 0 0]).set 2 (.ptr 1 0)).set jA .any).set jC (Zd3 2)) i) (tm.getD i undef);rw[ZxY];by_cases hC:i=jC
   ·rw[if_pos hC,hC,kR];exact q2
   ·rw[if_neg hC,ZxY];by_cases hA:i=jA
    ·rw[if_pos hA];simp only[Zab]
    ·rw[if_neg hA,bT i hA hC];exact Zab.mono q3 q4 _ _ (r2 i)
  refine Code.wp_mono ?_ (w2 _ _ _ mD dk rfl gR);rintro e a3 w3 ⟨j8,x,⟨env3,h3,df3⟩,hq,hx⟩;have t0:a3.tmps.getD 0 undef=aa.getD 0 undef:=(j8 0 k2.1).trans ((bT 0 (Ne.symm hj.2.2.2.1) (Ne.symm hj.2.2.2.2.1)).trans ou);have tC:a3.tmps.getD jC undef=v:=(j8 jC k2.2.2).trans kR;have hinv:∀w',(invoke (.fn (.func 157) #[.pointer (some ⟨g,0,none⟩)]) #[]).run Tryz.prog w'=.ok (.enter 157 #[.pointer (some ⟨g,0,none⟩)]) w':=λw'=>by have sP:∀args w,(callFunc 157 args).run Tryz.prog w=.ok (.enter 157 args) w:=enters_of Tryz.func157 (by kernel_rfl) rfl;simp[invoke,go_sem,sP]
  cases x with
  | normal=>exact hq.elim
  | exit _=>exact hq.elim
  | ret =>
   cases e<;>try exact hx.elim
   obtain ⟨bf,a,l',aL,src,ht⟩:=hq;dsimp only at bf ht;subst bf;obtain ⟨_,fN,β3,V3,iR,ay⟩:=hx;have fN:a3.defers=[{ target:=.fn (.func 157) #[.pointer (some ⟨g,0,none⟩)],args:=#[] }]:=fN;obtain ⟨y1,y2⟩:=ht.use iR (vs:=[a3.tmps.getD 0 undef,a3.tmps.getD 2 undef,a3.tmps.getD jC undef]) (by
    simp only[Zaa];exact ⟨_,_,rfl,ay 0,_,_,rfl,ay 2,_,_,rfl,ay jC,rfl⟩)
   simp only[Zaa] at y2;obtain ⟨_,_,ez,z0,_,_,xN,z2,_,_,sO,zC,xM⟩:=y2;injection ez with e1 e2;subst e1;subst e2;injection xN with e1 e2;subst e1;subst e2;injection sO with e1 e2;subst e1;subst e2;rw[tC] at zC;obtain ⟨g2,b2,cu⟩:=ZmC zC rfl y1;obtain rfl:g2=g:=by rw[<- hv] at cu;simpa using cu.symm
   show Leaves Tryz.prog fn a3.tmps _ a3.defers .returning w3;rw[fN];refine leaves_cons (by simp) (hinv _) ((Zrk y1 rfl rfl b2 (by unfold I64;omega) .returning).mono ?_);rintro _ _ w4 ⟨rfl,rfl,y4⟩;rw[show k+1 - 1=k from by omega] at y4;have y4:RelD ⟨w,ZiA (RH l k) β,V,(gl L)⟩ (DH l' k (enc a) tR) (Zbd src β3) (Zjk h3 src β3 V3) w4:=y4;have eh:ZbS ⟨ZCn,DH l' k (enc a) tR,[]⟩ (Zbd src β3) (Zjk h3 src β3 V3) w4 a3:=λi=>by
    show Zab _ _ _ _ (bif Nat.beq i 0 then .ptr 0 0 else bif Nat.beq i 2 then .ptr 1 0 else .any) _;cases hi:Nat.beq i 0 with
    | true=>rw[Yaq hi];exact z0
    | false =>
     cases dK:Nat.beq i 2 with
     | true=>rw[Yaq dK];exact z2
     | false=>simp only[cond_false,Zab]
   obtain ⟨v',cF,mI⟩:=Zcg (fn:=fn) hT y4 eh (nX l' k a);simp only[Zaa] at mI;obtain ⟨_,_,ev,mI,_⟩:=mI;injection ev with xO _;subst xO;obtain ⟨d',h',β5,V5,x1,x2,x3,x4⟩:=@Zly (gl L) w w4 (RH l k) β V [0] 1 [] a3 ab trivial rfl (cV w4 _ t0) ⟨ZCn,DH l' k (enc a) tR,[]⟩ _ _ (λd h=>rdQ (λa=>.agg (enc a)) k r (.ret d h)) _ _ y4 eh mI
    (ZrX ⟨[.old 0],.agg (enc a),RH l' k,⟨rfl,.inl rfl,.inl (by show [conv (DH l' k (enc a) tR) [.old 0] 4 (.agg (enc a)),.ptr 0 0]=_;rw[oS];rfl),rfl⟩,rfl,trivial,by rw[aL];rfl⟩)
   exact ⟨_,cF,d',h',β5,V5,x1,x2,x3,x4⟩
  | pan x =>
   cases e<;>try exact hx.elim
   obtain ⟨bf,ec,l',k',aL,rfl,yq,src,ht⟩:=hq;dsimp only at bf ht;subst bf;obtain ⟨t,u',rfl,_,fN,β3,V3,iR,ay,jh⟩:=hx;have fN:a3.defers=[{ target:=.fn (.func 157) #[.pointer (some ⟨g,0,none⟩)],args:=#[] }]:=fN;obtain ⟨y1,y2⟩:=ht.use iR (vs:=[a3.tmps.getD 0 undef,a3.tmps.getD jC undef]) (by
    simp only[Zaa];exact ⟨_,_,rfl,ay 0,_,_,rfl,ay jC,rfl⟩)
   simp only[Zaa] at y2;obtain ⟨_,_,ez,z0,_,_,sO,zC,xM⟩:=y2;injection ez with e1 e2;subst e1;subst e2;injection sO with e1 e2;subst e1;subst e2;rw[tC] at zC;obtain ⟨g2,b2,cu⟩:=ZmC zC rfl y1;obtain rfl:g2=g:=by rw[<- hv] at cu;simpa using cu.symm
   have vN:Value.iface t u'=.iface 151 (.agg #[.int .i64 ec]):=by simp only[Zcu,Zab,Zaa,ZaS] at jh;obtain ⟨u2,e1,us,rfl,v1,gw,rfl,rfl,rfl⟩:=jh;exact e1
   injection vN with p1 p2;subst p1;subst p2;show Leaves Tryz.prog fn a3.tmps _ a3.defers (.panicking _) w3;rw[fN];refine leaves_cons (by simp) (hinv _) ((Zrk y1 rfl rfl b2 (by unfold I64;omega) (.panicking _)).mono ?_);rintro _ _ w4 ⟨rfl,rfl,y4⟩;have y4:RelD ⟨w,ZiA (RH l k) β,V,(gl L)⟩ (BH l' (k' - 1)) (Zbd src β3) (Zjk h3 src β3 V3) w4:=y4;obtain ⟨d',h',β5,V5,x1,x2,x3,x4⟩:=@Zly (gl L) w w4 (RH l k) β V [0] 1 [] a3 ab trivial rfl (cV w4 _ t0) ⟨λi=>bif Nat.beq i 0 then .ptr 0 0 else .any,BH l' (k' - 1),[]⟩ _ _ (λd h=>rdQ (λa=>.agg (enc a)) k r (.panH d h)) (Zcu ec) (.iface 151 (.agg #[.int .i64 ec])) y4 (λi=>by
     show Zab _ _ _ _ (bif Nat.beq i 0 then .ptr 0 0 else .any) _;cases hi:Nat.beq i 0 with
     | true=>rw[Yaq hi];exact z0
     | false=>simp only[cond_false,Zab]) (by simp only[Zcu,Zab,Zaa,ZaS];exact ⟨_,rfl,_,rfl,_,_,rfl,rfl,rfl⟩)
    (ZrX ⟨[.old 0],Zcu ec,RH l' (k' - 1),⟨rfl,.inl rfl,.inl rfl,rfl⟩,rfl,trivial,by rw[aL];exact ⟨l',k' - 1,by omega,rfl⟩⟩)
   exact ⟨d',h',_,_,β5,V5,rfl,x1,x2,x3,x4⟩
variable {L:Lv}
def Zcb (l:List Tok):Prop:=l.length<=3000/\∀t∈l,t.text.length<=3000
theorem Zcb.step {l l':List Tok} (h:Zcb l) (hs:l'.length<=l.length) (hm:∀t∈l',t∈l):Zcb l':=⟨YaC hs h.1,λt ht=>h.2 t (hm t ht)⟩
theorem Zcb.take {s:Str} {l l':List Tok} (h:Zcb l) (ht:ZaE s l=some l'):Zcb l':=h.step (by have:=(Zay ht).2;omega) (ZbL ht)
theorem Zcb.next {α:Type} {p:List Tok->PR α} (hs:Shr p) (hm:Cl p) {l l':List Tok} {a:α} (h:Zcb l) (e:p l=.ok a l'):Zcb l':=h.step (Nat.le_of_lt (hs _ _ _ e)) (hm _ _ _ e)
theorem Zcb.text {l:List Tok} (h:Zcb l):(Zbi l).length<=3000:=by
 cases l with
 | nil=>simp[Zbi]
 | cons t l=>exact h.2 t Yae
theorem Zcb.tail {l:List Tok} (h:Zcb l):Zcb l.tail:=h.step (by simp) (λ_ ht=>List.mem_of_mem_tail ht)
abbrev exD:Barb.Expr->D:=λx=>.agg x.d
abbrev ZBK:List Barb.Expr->D:=λxs=>.g (.sl 5 (xs.map Expr.g))
def ExC (L:Lv) (f:Nat) (k:Int):Prop:=∀l,Zcb l->CTH Tryz.prog (gl L) 143 1 (RH l k) [.ptr 0 0] (rdQ exD k (Zat f l))
theorem Zcq:fnOk Tryz.prog 143=true:=by kernel_rfl
theorem Zuj:fnOk Tryz.prog 158=true:=by kernel_rfl
set_option maxRecDepth 20000 in
theorem Zqy {f:Nat} {k:Int} (hE:ExC L f k) (l:List Tok) (hl:Zcb l):CTH Tryz.prog (gl L) 158 1 (RH l k) [.ptr 0 0] (rdQ ZBK k (ZcZ (Zat f) l)):=by
 suffices H:∀r,ZcZ (Zat f) l=r->CTH Tryz.prog (gl L) 158 1 (RH l k) [.ptr 0 0] (rdQ ZBK k r) from H _ rfl
 intro r hr;have dZ:=hl.1;have bo:=Zbv (L:=L) l k [41] (by omega);unfold ZcZ at hr;cases ht:ZaE [41] l with
 | some l1 =>rw[ht] at bo hr;have hr:r=.ok [] l1:=hr.symm;refine Za4 [] hT hF hM Tryz.func158 rfl 19 rfl (by kernel_rfl) [.tmp 2] rfl [.ptr 0 0] rfl (RH l k) [0] rfl rfl rfl 1 [] trivial _ ?_;refine Zag [0] Zas rfl rfl ⟨rfl,.inl rfl,.inl rfl,rfl⟩ bo (λd' h' hq=>?_) (λd' h' hq=>by cases hq);injection hq with e1 e2;subst e1;subst e2;exact ⟨rfl,ZbE (ZBK []) l1 k [.old 0] rfl rfl rfl (.inr Zel) rfl rfl rfl (by rw[hr];rfl)⟩
 | none =>
  rw[ht] at bo hr;have qe:=hE l hl;refine Za4 [] hT hF hM Tryz.func158 rfl 19 rfl (by kernel_rfl) [.tmp 2] rfl [.ptr 0 0] rfl (RH l k) [0] rfl rfl rfl 1 [] trivial _ ?_;refine Zag [0] Zas rfl rfl ⟨rfl,.inl rfl,.inl rfl,rfl⟩ bo (λd' h' hq=>?_) (λd' h' hq=>by cases hq);injection hq with e1 e2;subst e1;subst e2;refine Zag [0] Zcq rfl rfl ⟨rfl,.inl rfl,.inl rfl,rfl⟩ qe (λd' h' hq=>?_) (λd' h' hq=>?_)
  rotate_left
  ·obtain ⟨e,l',k',he,ae,rfl,rfl⟩:=ZaM hq;have hr:r=.bad e:=by rw[<- hr,he];rfl
   exact ⟨rfl,ZbE (Zcu e) l' k' [.old 0] rfl rfl rfl (.inl rfl) rfl rfl rfl (by rw[hr];exact ⟨l',k',ae,rfl⟩)⟩
  obtain ⟨x,l1,he,rfl,rfl⟩:=Zaq hq;rw[he] at hr;have hr:ZdR (Zat f) (l1.length+1) [x] l1=r:=hr;have bZ:=hl.next (ZbY f) (Zcn f) he;refine ⟨[[.int x.k,.int x.n,.str x.of,.str x.s,.sl 5 (x.args.map Expr.g)]],rfl,rfl,⟨rfl,rfl,rfl,rfl,rfl,trivial⟩,?_⟩;refine ZaO (ι:=List Barb.Expr × List Tok) (λi=>[(0,.ptr 0 0),(3,.row 1)]) (λi=>[.blk (RB i.2 k) 125,.row (i.1.map Expr.g) 146 5]) (λi=>Zcb i.2/\i.1.length+i.2.length<=3001/\ZdR (Zat f) (i.2.length+1) i.1 i.2=r) (λi=>i.2.length)
   ⟨([x],l1),[.old 0,.old 1],⟨rfl,.inr ⟨⟨rfl,.inl rfl⟩,⟨by rw[Yan,YaI,Expr.g_eq],rfl,rfl⟩,trivial⟩,.inr ⟨lk rfl,lk rfl,trivial⟩,rfl⟩,bZ,by have:=bZ.1;simp;omega,hr⟩ ?_
  rintro Rd aj ⟨acc,m⟩ ⟨hm,hn,hr⟩;have hm:Zcb m:=hm;have hn:acc.length+m.length<=3001:=hn;have j5:=hm.1;have hr:ZdR (Zat f) (m.length+1) acc m=r:=hr;have cr:=Zbv (L:=L) m k [44] (by omega);simp only[ZdR] at hr;cases eZ:ZaE [44] m with
  | none =>
   rw[eZ] at cr hr;have hr:(ZaH [41] m).then (λ_ l1=>PR.ok acc l1)=r:=hr;have jq:=Zck (L:=L) m k [41] (by omega);refine Zag [0] Zas rfl rfl ⟨rfl,.inl rfl,.inl rfl,rfl⟩ cr (λd' h' hq=>?_) (λd' h' hq=>by cases hq);injection hq with e1 e2;subst e1;subst e2;refine Zag [0] Zdb rfl rfl ⟨rfl,.inl rfl,.inl rfl,rfl⟩ jq (λd' h' hq=>?_) (λd' h' hq=>?_)
   ·obtain ⟨_,l2,he,rfl,rfl⟩:=Zaq hq;have hr:r=.ok acc l2:=by rw[<- hr,he];rfl
    exact ⟨rfl,ZbE (ZBK acc) l2 k [.old 0] rfl rfl rfl (.inl rfl) rfl rfl rfl (by rw[hr];rfl)⟩
   ·obtain ⟨e,l',k',he,ae,rfl,rfl⟩:=ZaM hq;have hr:r=.bad e:=by rw[<- hr,he];rfl
    exact ⟨rfl,ZbE (Zcu e) l' k' [.old 0] rfl rfl rfl (.inl rfl) rfl rfl rfl (by rw[hr];exact ⟨l',k',ae,rfl⟩)⟩
  | some m1 =>
   rw[eZ] at cr hr;have hr:(Zat f m1).then (λb l2=>ZdR (Zat f) m.length (acc++[b]) l2)=r:=hr;have bz:=hm.take eZ;have lV:=(Zay eZ).2;have fg:=hE m1 bz;refine Zag [0] Zas rfl rfl ⟨rfl,.inl rfl,.inl rfl,rfl⟩ cr (λd' h' hq=>?_) (λd' h' hq=>by cases hq);injection hq with e1 e2;subst e1;subst e2;refine Zag [0] Zcq rfl rfl ⟨rfl,.inl rfl,.inl rfl,rfl⟩ fg (λd' h' hq=>?_) (λd' h' hq=>?_)
   rotate_left
   ·obtain ⟨e,l',k',he,ae,rfl,rfl⟩:=ZaM hq;have hr:r=.bad e:=by rw[<- hr,he];rfl
    exact ⟨rfl,ZbE (Zcu e) l' k' [.old 0] rfl rfl rfl (.inl rfl) rfl rfl rfl (by rw[hr];exact ⟨l',k',ae,rfl⟩)⟩
   obtain ⟨y,m2,he,rfl,rfl⟩:=Zaq hq;have lC:=ZbY f _ _ _ he;rw[he] at hr;have hr:ZdR (Zat f) (m2.length+1) (acc++[y]) m2=r:=by rw[<- hr];exact Zqr (ZbY f) _ _ _ _ (by omega) (by omega)
   have bY:=bz.next (ZbY f) (Zcn f) he;refine ⟨[[.int y.k,.int y.n,.str y.of,.str y.s,.sl 5 (y.args.map Expr.g)]],rfl,rfl,⟨rfl,rfl,rfl,rfl,rfl,trivial⟩,?_⟩;refine ⟨⟨by simp only[maxLen,List.length_cons,List.length_nil,Yaa];omega,by simp only[List.length_cons,List.length_nil,Yaa];omega⟩,?_⟩;exact aj _ _ _ ⟨(acc++[y],m2),[.old 0,.old 3],⟨rfl,.inr ⟨⟨rfl,.inl rfl⟩,⟨by rw[Yaf,Yan,YaI,Expr.g_eq],rfl,rfl⟩,trivial⟩,.inr ⟨lk rfl,lk rfl,trivial⟩,rfl⟩,⟨bY,by simp;omega,hr⟩,by show m2.length < m.length;omega⟩
end ZN
namespace Go.Dm
open Go Go.Eng Go.RowKit
section
variable {P:Program} {T:Tab} {F:FuncId->Bool} {G:Gl}
theorem ZqB {J:List Nat} {n:Nat} {x y:Code} {env:Env} {h:Zae} {df:List Deferred} {Q:Post} {ι:Type} (hJ:inL J (Zdn y)=true) (val:ι->List (Nat × D)) (cK:ι->Zae) (Inv:ι->Prop)
  (tail:∀(e0:Env) (i:ι),Inv i->vcS J P T F G n y ⟨Env.many e0 (val i),cK i,df⟩ Q)
  (head:∀Rd:St->Prop,(∀(i:ι) (e:Env) (h':Zae) (src:List Src),Zvq e h' src (val i) (cK i)->Inv i->Rd ⟨e,h',df⟩)->vcS J P T F G n x ⟨env,h,df⟩ (Zeh Rd Q)) :
  vcS J P T F G n (.seq x y) ⟨env,h,df⟩ Q:=by
 have hh:=head (λst'=>Zer G n (λaw=>vcS J P T F G n y aw Q) st') (λi e h' src ht hi=>ZdM src (val i) (cK i) ht (tail _ i hi));have e:Zeh (λst'=>Zer G n (λaw=>vcS J P T F G n y aw Q) st') Q=(λe st'=>match e with | .normal=>bif inL J (Zdn y) then Zer G n (λaw=>vcS J P T F G n y aw Q) st' else vcS J P T F G n y st' Q | e=>Q e st'):=by
  funext e st';cases e with
  | normal=>rw[hJ];rfl
  | _=>rfl
 rw[e] at hh;exact hh
end
end Go.Dm
namespace ZN
open Go Go.Dm Go.Eng Go.RowKit Barb
theorem Zmp:Zvs Tryz.prog 119 1 1:=⟨_,_,Tryz.underlying119,rfl,rfl,run_isAgg_plain Tryz.underlying9 rfl⟩
abbrev gx (x:Barb.Expr):List GV:=[.int x.k,.int x.n,.str x.of,.str x.s,.sl 5 (x.args.map Expr.g)]
abbrev zx:List D:=[.g (.int 0),.g (.int 0),.g (.str []),.g (.str []),.nils]
theorem ZCv (k n:Int) (of s:Str) (x y:Barb.Expr):([.g (.int k),.g (.int n),.g (.str of),.g (.str s),.g (.sl 5 [gx x,gx y])]:List D)=Expr.d (.mk k n of s [x,y]):=by show _=([.g (.int k),.g (.int n),.g (.str of),.g (.str s),.g (.sl 5 [Expr.g x,Expr.g y])]:List D);rw[Expr.g_eq x,Expr.g_eq y]
theorem ZCw (k n:Int) (of s:Str) (x:Barb.Expr):([.g (.int k),.g (.int n),.g (.str of),.g (.str s),.g (.sl 5 [gx x])]:List D)=Expr.d (.mk k n of s [x]):=by show _=([.g (.int k),.g (.int n),.g (.str of),.g (.str s),.g (.sl 5 [Expr.g x])]:List D);rw[Expr.g_eq x]
abbrev XH (l:List Tok) (k:Int) (cs:List D):Zae:=DH l k cs 146
abbrev xS:List Nat:=[3,4,5,6,7,8]++(List.range 76).map (·+11)
theorem ZB9 {s:Str} (h:¬opP s=0):0 < opP s:=by unfold opP at h ⊢;rcases Zb0 (λx=>s=x) ZlP with ⟨h1,_⟩ | ⟨i,_,h1,_⟩<;>rw[h1] at h ⊢<;>omega
theorem ZxV (Q:Exit->Act->World->Prop) (a:Act) (w:World) (ah:a.tmps.size=87) (bf:a.defers=[])
  (h:Calls Tryz.prog 142 #[a.tmps.getD 0 undef] w (λe w'=>match e with
    | .returned v=>∃b,v=.func (.func 157) #[] #[b]/\Q .normal { tmps:=(a.tmps.setIfInBounds 9 (a.tmps.getD 0 undef)).setIfInBounds 10 v,defers:=[{ target:=.fn (.func 157) #[b],args:=#[] }] } w'
    | .panicked ch=>Q (.panic ch) { tmps:=a.tmps.setIfInBounds 9 (a.tmps.getD 0 undef),defers:=[] } w'
    | .outgrown=>False)):(match Tryz.f143.body with | some (.seq _ (.seq y _))=>y | _=>.skip).wp Tryz.prog Q a w:=by
 have e0:a.tmps.getD 0 undef=a.tmps[0]'(by omega):=by simp[ah]
 rw[e0] at h;apply wp_region;simp[wpOps,go_sem,ah,bf];refine .inl (.inl (h.mono ?_));rintro e w' he;cases e with
 | returned v =>obtain ⟨b,rfl,hq⟩:=he;simp[go_sem];exact .inl (by simpa [ah] using hq)
 | panicked ch=>exact he
 | outgrown=>exact he.elim
set_option maxRecDepth 20000 in
set_option maxHeartbeats 4000000 in
theorem Zw1 {L:Lv}:∀(f:Nat) (k:Int),k+f=48->0<=k->ExC L f k:=by
 intro f
 induction f with
 | zero =>intro k hk h0 l hl;refine Zi7 (nt:=87) (jA:=9) (jC:=10) (S0:=[2]) (S2:=xS) (tR:=146) (zero:=zx) (enc:=λx:Barb.Expr=>x.d) Tryz.func143 rfl rfl (by decide) (by omega) (by decide) rfl ⟨rfl,rfl,rfl⟩ ?_ ZxV (λd C a w dk=>absurd dk (by omega)) (λ_=>rfl) (λl' k' a=>rfl) (λh src a=>rfl);intro C a w hG hr;refine ZbA [] hT hF hM.ok _ [2] (by decide) (by decide) C _ a w _ ?_ hr;exact ⟨rfl,rfl⟩
 | succ f ih =>
  intro k hk h0 l hl;have hE:ExC L f (k+1):=ih (k+1) (by omega) (by omega)
  suffices H:∀r,Zfn (Zat f) l=r->CTH Tryz.prog (gl L) 143 1 (RH l k) [.ptr 0 0] (rdQ exD k r) from H _ rfl
  intro r hr;have dZ:=hl.1;refine Zi7 (nt:=87) (jA:=9) (jC:=10) (S0:=[2]) (S2:=xS) (tR:=146) (zero:=zx) (enc:=λx:Barb.Expr=>x.d) Tryz.func143 rfl rfl (by decide) (by omega) (by decide) rfl ⟨rfl,rfl,rfl⟩ ?_ ZxV (λd C a w dk hG dR=>?_) (λh=>absurd (by omega) h) (λl' k' a=>rfl) (λh src a=>rfl)
  ·intro C a w hG hr;refine ZbA [] hT hF hM.ok _ [2] (by decide) (by decide) C _ a w _ ?_ hr;exact ⟨rfl,rfl⟩
  have bo:=Zbv (L:=L) l (k+1) [40] (by omega);unfold Zfn at hr;cases ht:ZaE [40] l with
  | some l1 =>
   rw[ht] at bo hr;have hr:(Zat f l1).then (λa l2=>if opP (Zbi l2)=0 then .bad 4 else (Zat f l2.tail).then λb l3=>(ZaH [41] l3).then λ_ l4=>.ok (.mk 5 (opP (Zbi l2)) [] [] [a,b]) l4)=r:=hr;have bZ:=hl.take ht;have pq:=hE l1 bZ;refine ZbA [4,5,6,7] hT hF hM.ok _ xS (by decide) (by decide) C _ a w _ ?_ dR;rw[hG];refine Zag [0] Zas rfl rfl ⟨rfl,.inl rfl,.inl rfl,rfl⟩ bo (λd' h' hq=>?_) (λd' h' hq=>by cases hq);injection hq with e1 e2;subst e1;subst e2;refine Zag [0] Zcq rfl rfl ⟨rfl,.inl rfl,.inl rfl,rfl⟩ pq (λd' h' hq=>?_) (λd' h' hq=>?_)
   rotate_left
   ·obtain ⟨e,l',k',he,ae,rfl,rfl⟩:=ZaM hq;have hr:r=.bad e:=by rw[<- hr,he];rfl
    exact ⟨rfl,e,l',k',hr,rfl,by omega,[.old 0,.old 2],⟨rfl,.inl rfl,.inl rfl,rfl⟩⟩
   obtain ⟨x,l2,he,rfl,rfl⟩:=Zaq hq;rw[he] at hr;have bY:=bZ.next (ZbY f) (Zcn f) he;refine ZdM [.old 0,.old 1,.old 2,.old 3] [(0,.ptr 0 0),(2,.ptr 1 0),(10,Zd3 2),(3,.ptr 3 0)] (XH l2 (k+1) zx++[.blk x.d 146]) ⟨rfl,.inl rfl,.inl rfl,rfl⟩ ?_;have uc:=ZlT (L:=L) l2 (k+1) (by have:=bY.1;omega);have sC:=Zez (L:=L) ZlP (by decide) (Zbi l2);have hI:I64 (idx (λx=>Zbi l2=x) ZlP+1):=by
    rcases Zb0 (λx=>Zbi l2=x) ZlP with ⟨h1,_⟩ | ⟨i,hi,h1,_⟩
    ·rw[h1];unfold I64;omega
    ·have:i < 10:=hi;rw[h1];unfold I64;omega
   refine ZqB (ι:=PUnit) rfl (λ_=>[(0,.ptr 0 0),(2,.ptr 1 0),(10,Zd3 2),(3,.ptr 3 0),(4,.g (.int (opP (Zbi l2))))]) (λ_=>XH l2.tail (k+1) zx++[.blk x.d 146]) (λ_=>True) (λe0 _ _=>?_) (λRd aj=>?_)
   rotate_left
   ·refine ⟨some 60001,(.lead 1 (.two (.run 0 (.run 2 (.run 3 (.run 4 (.run 5 (.run 6 .done)))))) (.run 2 (.two (.run 0 (.run 3 (.run 4 (.run 5 (.run 6 .done))))) (.run 3 (.run 0 (.run 4 (.run 5 (.run 6 .done))))))))),rfl,?_⟩;refine ⟨?_,?_⟩
    ·refine ⟨1,rfl,rfl,rfl,by decide,?_⟩;refine Zag [0] ZhO rfl rfl ⟨rfl,.inl rfl,.inl rfl,rfl⟩ uc (λd' h' hq=>?_) (λd' h' hq=>by cases hq);injection hq with e1 e2;subst e1;subst e2;refine ⟨1,.g (.str (Zbi l2)),Zmp,rfl,?_⟩;refine Zad (.inl rfl) sC ?_;refine ⟨_,I64.wrap hI,?_⟩;exact aj ⟨⟩ _ _ [.old 0,.old 1,.old 2,.old 3] ⟨rfl,.inl rfl,.inl rfl,rfl⟩ trivial
    ·refine Zag [0] ZhO rfl rfl ⟨rfl,.inl rfl,.inl rfl,rfl⟩ uc (λd' h' hq=>?_) (λd' h' hq=>by cases hq);injection hq with e1 e2;subst e1;subst e2;refine ⟨?_,?_⟩
     ·refine ⟨1,rfl,rfl,rfl,by decide,?_⟩;refine ⟨1,.g (.str (Zbi l2)),Zmp,rfl,?_⟩;refine Zad (.inl rfl) sC ?_;refine ⟨_,I64.wrap hI,?_⟩;exact aj ⟨⟩ _ _ [.old 0,.old 1,.old 2,.old 3] ⟨rfl,.inl rfl,.inl rfl,rfl⟩ trivial
     ·refine ⟨1,.g (.str (Zbi l2)),Zmp,rfl,?_⟩;refine ⟨1,rfl,rfl,rfl,by decide,?_⟩;refine Zad (.inl rfl) sC ?_;refine ⟨_,I64.wrap hI,?_⟩;exact aj ⟨⟩ _ _ [.old 0,.old 1,.old 2,.old 3] ⟨rfl,.inl rfl,.inl rfl,rfl⟩ trivial
   have fg:=hE l2.tail bY.tail;have hr:(if opP (Zbi l2)=0 then .bad 4 else (Zat f l2.tail).then λb l3=>(ZaH [41] l3).then λ_ l4=>.ok (.mk 5 (opP (Zbi l2)) [] [] [x,b]) l4)=r:=hr;refine Zao (p:=opP (Zbi l2) > 0) (by decide) (lkP Ya3) (λbj=>?_) (λbj=>?_)
   rotate_left
   ·have xJ:opP (Zbi l2)=0:=Yah.1 (λh=>bj (ZB9 h));rw[if_pos xJ] at hr;exact ⟨rfl,4,l2.tail,k+1,hr.symm,rfl,by omega,[.old 0,.old 2],⟨rfl,.inl rfl,.inl rfl,rfl⟩⟩
   rw[if_neg (by omega)] at hr;have dA:∀{d:D} {h:Zae},rdQ exD (k+1) (Zat f l2.tail) (.panH d h)->∃e l' k',r=.bad e/\(k+1<=k'/\k'<=k+2)/\d=Zcu e/\h=RH l' k':=λhq=>by obtain ⟨e,l',k',he,ae,h1,h2⟩:=ZaM hq;exact ⟨e,l',k',by rw[<- hr,he];rfl,by omega,h1,h2⟩
   refine ZdM [.old 0,.old 1,.old 2,.old 3] [(0,.ptr 0 0),(2,.ptr 1 0),(10,Zd3 2),(3,.ptr 3 0),(4,.g (.int (opP (Zbi l2))))] (XH l2.tail (k+1) zx++[.blk x.d 146]) ⟨rfl,.inl rfl,.inl rfl,rfl⟩ ?_;refine ZqB (ι:=Barb.Expr × List Tok) rfl (λ_=>[(0,.ptr 0 0),(2,.ptr 1 0),(10,Zd3 2),(5,.ptr 3 0)]) (λi=>XH i.2 (k+1) zx++[.blk [.g (.int 5),.g (.int (opP (Zbi l2))),.g (.str []),.g (.str []),.g (.sl 5 [gx x,gx i.1])] 146]) (λi=>Zat f l2.tail=.ok i.1 i.2) (λe0 i hi=>?_) (λRd aj=>?_)
   rotate_left
   ·refine ⟨some 60002,(.lead 0 (.lead 2 (.two (.run 1 (.two (.run 3 (.two (.run 4 (.two (.run 5 (.run 6 (.run 7 .done))) (.run 6 (.run 5 (.run 7 .done))))) (.run 6 (.run 4 (.run 5 (.run 7 .done)))))) (.run 6 (.run 3 (.run 4 (.run 5 (.run 7 .done))))))) (.two (.run 3 (.two (.run 1 (.two (.run 4 (.two (.run 5 (.run 6 (.run 7 .done))) (.run 6 (.run 5 (.run 7 .done))))) (.run 6 (.run 4 (.run 5 (.run 7 .done)))))) (.run 6 (.run 1 (.run 4 (.run 5 (.run 7 .done))))))) (.run 6 (.two (.run 1 (.run 3 (.run 4 (.run 5 (.run 7 .done))))) (.run 3 (.run 1 (.run 4 (.run 5 (.run 7 .done))))))))))),rfl,?_⟩;refine ⟨?_,?_⟩
    ·refine ⟨?_,?_⟩
     ·refine Zag [0] Zcq rfl rfl ⟨rfl,.inl rfl,.inl rfl,rfl⟩ fg (λd' h' hq=>?_) (λd' h' hq=>by obtain ⟨e,l',k',hr,ae,rfl,rfl⟩:=dA hq;exact ⟨rfl,e,l',k',hr,rfl,ae,[.old 0,.old 2],⟨rfl,.inl rfl,.inl rfl,rfl⟩⟩);obtain ⟨y,l3,ay,rfl,rfl⟩:=Zaq hq;refine ⟨?_,?_⟩
      ·refine ⟨[gx x,gx y],rfl,rfl,⟨rfl,rfl,rfl,rfl,rfl,rfl,rfl,rfl,rfl,rfl,trivial⟩,?_⟩;refine ⟨?_,?_⟩
       ·exact aj ⟨y,l3⟩ _ _ [.old 0,.old 1,.old 2,.old 5] ⟨rfl,.inl rfl,.inl rfl,rfl⟩ ay
       ·exact aj ⟨y,l3⟩ _ _ [.old 0,.old 1,.old 2,.old 5] ⟨rfl,.inl rfl,.inl rfl,rfl⟩ ay
      ·refine ⟨[gx x,gx y],rfl,rfl,⟨rfl,rfl,rfl,rfl,rfl,rfl,rfl,rfl,rfl,rfl,trivial⟩,?_⟩;exact aj ⟨y,l3⟩ _ _ [.old 0,.old 1,.old 2,.old 4] ⟨rfl,.inl rfl,.inl rfl,rfl⟩ ay
     ·refine Zag [0] Zcq rfl rfl ⟨rfl,.inl rfl,.inl rfl,rfl⟩ fg (λd' h' hq=>?_) (λd' h' hq=>by obtain ⟨e,l',k',hr,ae,rfl,rfl⟩:=dA hq;exact ⟨rfl,e,l',k',hr,rfl,ae,[.old 0,.old 2],⟨rfl,.inl rfl,.inl rfl,rfl⟩⟩);obtain ⟨y,l3,ay,rfl,rfl⟩:=Zaq hq;refine ⟨[gx x,gx y],rfl,rfl,⟨rfl,rfl,rfl,rfl,rfl,rfl,rfl,rfl,rfl,rfl,trivial⟩,?_⟩;exact aj ⟨y,l3⟩ _ _ [.old 0,.old 1,.old 2,.old 4] ⟨rfl,.inl rfl,.inl rfl,rfl⟩ ay
    ·skip
     refine ⟨?_,?_⟩
     ·refine Zag [0] Zcq rfl rfl ⟨rfl,.inl rfl,.inl rfl,rfl⟩ fg (λd' h' hq=>?_) (λd' h' hq=>by obtain ⟨e,l',k',hr,ae,rfl,rfl⟩:=dA hq;exact ⟨rfl,e,l',k',hr,rfl,ae,[.old 0,.old 2],⟨rfl,.inl rfl,.inl rfl,rfl⟩⟩);obtain ⟨y,l3,ay,rfl,rfl⟩:=Zaq hq;refine ⟨?_,?_⟩
      ·refine ⟨?_,?_⟩
       ·refine ⟨[gx x,gx y],rfl,rfl,⟨rfl,rfl,rfl,rfl,rfl,rfl,rfl,rfl,rfl,rfl,trivial⟩,?_⟩;refine ⟨?_,?_⟩
        ·exact aj ⟨y,l3⟩ _ _ [.old 0,.old 1,.old 2,.old 5] ⟨rfl,.inl rfl,.inl rfl,rfl⟩ ay
        ·exact aj ⟨y,l3⟩ _ _ [.old 0,.old 1,.old 2,.old 5] ⟨rfl,.inl rfl,.inl rfl,rfl⟩ ay
       ·refine ⟨[gx x,gx y],rfl,rfl,⟨rfl,rfl,rfl,rfl,rfl,rfl,rfl,rfl,rfl,rfl,trivial⟩,?_⟩;exact aj ⟨y,l3⟩ _ _ [.old 0,.old 1,.old 2,.old 4] ⟨rfl,.inl rfl,.inl rfl,rfl⟩ ay
      ·refine ⟨[gx x,gx y],rfl,rfl,⟨rfl,rfl,rfl,rfl,rfl,rfl,rfl,rfl,rfl,rfl,trivial⟩,?_⟩;exact aj ⟨y,l3⟩ _ _ [.old 0,.old 1,.old 2,.old 4] ⟨rfl,.inl rfl,.inl rfl,rfl⟩ ay
     ·refine ⟨?_,?_⟩
      ·refine Zag [0] Zcq rfl rfl ⟨rfl,.inl rfl,.inl rfl,rfl⟩ fg (λd' h' hq=>?_) (λd' h' hq=>by obtain ⟨e,l',k',hr,ae,rfl,rfl⟩:=dA hq;exact ⟨rfl,e,l',k',hr,rfl,ae,[.old 0,.old 2],⟨rfl,.inl rfl,.inl rfl,rfl⟩⟩);obtain ⟨y,l3,ay,rfl,rfl⟩:=Zaq hq;refine ⟨[gx x,gx y],rfl,rfl,⟨rfl,rfl,rfl,rfl,rfl,rfl,rfl,rfl,rfl,rfl,trivial⟩,?_⟩;exact aj ⟨y,l3⟩ _ _ [.old 0,.old 1,.old 2,.old 4] ⟨rfl,.inl rfl,.inl rfl,rfl⟩ ay
      ·refine Zag [0] Zcq rfl rfl ⟨rfl,.inl rfl,.inl rfl,rfl⟩ fg (λd' h' hq=>?_) (λd' h' hq=>by obtain ⟨e,l',k',hr,ae,rfl,rfl⟩:=dA hq;exact ⟨rfl,e,l',k',hr,rfl,ae,[.old 0,.old 2],⟨rfl,.inl rfl,.inl rfl,rfl⟩⟩);obtain ⟨y,l3,ay,rfl,rfl⟩:=Zaq hq;refine ⟨[gx x,gx y],rfl,rfl,⟨rfl,rfl,rfl,rfl,rfl,rfl,rfl,rfl,rfl,rfl,trivial⟩,?_⟩;exact aj ⟨y,l3⟩ _ _ [.old 0,.old 1,.old 2,.old 4] ⟨rfl,.inl rfl,.inl rfl,rfl⟩ ay
   obtain ⟨y,l3⟩:=i;have hi:Zat f l2.tail=.ok y l3:=hi;rw[hi] at hr;have di:=bY.tail.next (ZbY f) (Zcn f) hi;have jq:=Zck (L:=L) l3 (k+1) [41] (by have:=di.1;omega);refine Zag [0] Zdb rfl rfl ⟨rfl,.inl rfl,.inl rfl,rfl⟩ jq (λd' h' hq=>?_) (λd' h' hq=>?_)
   ·obtain ⟨_,l4,eh,rfl,rfl⟩:=Zaq hq;have hr:r=.ok (.mk 5 (opP (Zbi l2)) [] [] [x,y]) l4:=by rw[<- hr];show (ZaH [41] l3).then _=_;rw[eh];rfl
    exact ⟨rfl,_,l4,hr,[.old 0,.old 1,.old 2],⟨rfl,.inr ⟨⟨rfl,.inl rfl⟩,⟨rfl,.inl (ZCv _ _ _ _ _ _)⟩,⟨rfl,.inl rfl⟩,trivial⟩,.inl rfl,rfl⟩⟩
   ·obtain ⟨e,l',k',he,ae,rfl,rfl⟩:=ZaM hq;have hr:r=.bad e:=by rw[<- hr];show (ZaH [41] l3).then _=_;rw[he];rfl
    exact ⟨rfl,e,l',k',hr,rfl,by omega,[.old 0,.old 2],⟨rfl,.inl rfl,.inl rfl,rfl⟩⟩
  | none =>
   rw[ht] at bo hr;have hr:(if Zgl l=2 then (Zff l).then λn l1=>.ok (.mk 1 n [] [] []) l1 else
    (Zbc l).then λs l1=>match ZaE [91] l1 with
     | some l2=>(Zat f l2).then λa l3=>(ZaH [93] l3).then λ_ l4=>.ok (.mk 3 0 [] s [a]) l4
     | none=>match ZaE [40] l1 with
      | some l2=>(ZcZ (Zat f) l2).then λxs l3=>.ok (.mk 4 0 [] s xs) l3
      | none=>match ZaE [46] l1 with
       | some l2=>(Zbc l2).then λg l3=>(ZaH [40] l3).then λ_ l4=>(ZcZ (Zat f) l4).then λxs l5=>.ok (.mk 4 0 s g xs) l5
       | none=>.ok (.mk 2 0 [] s []) l1)=r:=hr
   by_cases cy:Zgl l=2
   ·rw[if_pos cy] at hr;have ng:=ZhN (L:=L) l (k+1) (by omega) (by have:=hl.text;omega);obtain ⟨t0,r0,rfl⟩:∃t0 r0,l=t0 :: r0:=by
     cases l with
     | nil=>cases cy
     | cons t0 r0=>exact ⟨t0,r0,rfl⟩
    have lr:((t0 :: r0).map Tok.g).length=r0.length+1:=by simp
    refine ZbA [] hT hF hM.ok _ xS (by decide) (by decide) C _ a w _ ?_ dR;rw[hG];refine Zag [0] Zas rfl rfl ⟨rfl,.inl rfl,.inl rfl,rfl⟩ bo (λd' h' hq=>?_) (λd' h' hq=>by cases hq);injection hq with e1 e2;subst e1;subst e2;refine ⟨λ_=>⟨0,_,rfl,rfl,?_⟩,λh=>absurd (show (0:Int) < ((t0 :: r0).map Tok.g).length by omega) h⟩;refine ⟨λ_=>?_,λh=>absurd cy h⟩;refine Zag [0] Zg9 rfl rfl ⟨rfl,.inl rfl,.inl rfl,rfl⟩ ng (λd' h' hq=>?_) (λd' h' hq=>?_)
    ·obtain ⟨n,l4,eh,rfl,rfl⟩:=Zaq hq;have hr:r=.ok (.mk 1 n [] [] []) l4:=by rw[<- hr];show (Zff (t0 :: r0)).then _=_;rw[eh];rfl
     exact ⟨rfl,_,l4,hr,[.old 0,.old 1,.old 2],⟨rfl,.inr ⟨⟨rfl,.inl rfl⟩,⟨rfl,.inr ⟨lk rfl,lk rfl,lk rfl,lk rfl,Zel,trivial⟩⟩,⟨rfl,.inl rfl⟩,trivial⟩,.inl rfl,rfl⟩⟩
    ·obtain ⟨e,l',k',he,ae,rfl,rfl⟩:=ZaM hq;have hr:r=.bad e:=by rw[<- hr];show (Zff (t0 :: r0)).then _=_;rw[he];rfl
     exact ⟨rfl,e,l',k',hr,rfl,by omega,[.old 0,.old 2],⟨rfl,.inl rfl,.inl rfl,rfl⟩⟩
   ·rw[if_neg cy] at hr;have gv:=ZdE (L:=L) l (k+1) (by omega) (by have:=hl.text;omega);cases l with
    | nil =>
     refine ZbA [] hT hF hM.ok _ xS (by decide) (by decide) C _ a w _ ?_ dR;rw[hG];refine Zag [0] Zas rfl rfl ⟨rfl,.inl rfl,.inl rfl,rfl⟩ bo (λd' h' hq=>?_) (λd' h' hq=>by cases hq);injection hq with e1 e2;subst e1;subst e2;refine ⟨λh=>absurd (show (0:Int) < 0 from h) (by decide),λ_=>?_⟩;refine Zag [0] Zb3 rfl rfl ⟨rfl,.inl rfl,.inl rfl,rfl⟩ gv (λd' h' hq=>?_) (λd' h' hq=>?_)
     ·obtain ⟨s,l1,he,rfl,rfl⟩:=Zaq hq;have:=Zau _ _ _ he;simp at this
     ·obtain ⟨e,l',k',he,ae,rfl,rfl⟩:=ZaM hq;have hr:r=.bad e:=by rw[<- hr];show (Zbc []).then _=_;rw[he];rfl
      exact ⟨rfl,e,l',k',hr,rfl,by omega,[.old 0,.old 2],⟨rfl,.inl rfl,.inl rfl,rfl⟩⟩
    | cons t0 r0 =>
     have lr:((t0 :: r0).map Tok.g).length=r0.length+1:=by simp
     cases hn:Zbc (t0 :: r0) with
     | bad e0 =>
      rw[hn] at gv hr;have hr:r=.bad e0:=hr.symm;refine ZbA [] hT hF hM.ok _ xS (by decide) (by decide) C _ a w _ ?_ dR;rw[hG];refine Zag [0] Zas rfl rfl ⟨rfl,.inl rfl,.inl rfl,rfl⟩ bo (λd' h' hq=>?_) (λd' h' hq=>by cases hq);injection hq with e1 e2;subst e1;subst e2;refine ⟨λ_=>⟨0,_,rfl,rfl,?_⟩,λh=>absurd (show (0:Int) < ((t0 :: r0).map Tok.g).length by omega) h⟩;refine ⟨λh=>absurd h cy,λ_=>?_⟩;refine Zag [0] Zb3 rfl rfl ⟨rfl,.inl rfl,.inl rfl,rfl⟩ gv (λd' h' hq=>?_) (λd' h' hq=>?_)
      ·obtain ⟨_,_,_,hq⟩:=hq;cases hq
      ·obtain ⟨l',k',ae,hq⟩:=hq;injection hq with e1 e2;subst e1;subst e2;exact ⟨rfl,e0,l',k',hr,rfl,by omega,[.old 0,.old 2],⟨rfl,.inl rfl,.inl rfl,rfl⟩⟩
     | ok s l1 =>
      have bZ:=hl.next Zau Za8 hn;have vS:=bZ.1;rw[hn] at gv hr;have hr:(match ZaE [91] l1 with
       | some l2=>(Zat f l2).then λa l3=>(ZaH [93] l3).then λ_ l4=>.ok (.mk 3 0 [] s [a]) l4
       | none=>match ZaE [40] l1 with
        | some l2=>(ZcZ (Zat f) l2).then λxs l3=>.ok (.mk 4 0 [] s xs) l3
        | none=>match ZaE [46] l1 with
         | some l2=>(Zbc l2).then λg l3=>(ZaH [40] l3).then λ_ l4=>(ZcZ (Zat f) l4).then λxs l5=>.ok (.mk 4 0 s g xs) l5
         | none=>.ok (.mk 2 0 [] s []) l1)=r:=hr
      have nd:=Zbv (L:=L) l1 (k+1) [91] (by omega);cases h1:ZaE [91] l1 with
      | some l2 =>
       rw[h1] at nd hr;have hr:(Zat f l2).then (λa l3=>(ZaH [93] l3).then λ_ l4=>.ok (.mk 3 0 [] s [a]) l4)=r:=hr;have bY:=bZ.take h1;have fg:=hE l2 bY;refine ZbA [] hT hF hM.ok _ xS (by decide) (by decide) C _ a w _ ?_ dR;rw[hG];refine Zag [0] Zas rfl rfl ⟨rfl,.inl rfl,.inl rfl,rfl⟩ bo (λd' h' hq=>?_) (λd' h' hq=>by cases hq);injection hq with e1 e2;subst e1;subst e2;refine ⟨λ_=>⟨0,_,rfl,rfl,?_⟩,λh=>absurd (show (0:Int) < ((t0 :: r0).map Tok.g).length by omega) h⟩;refine ⟨λh=>absurd h cy,λ_=>?_⟩;refine Zag [0] Zb3 rfl rfl ⟨rfl,.inl rfl,.inl rfl,rfl⟩ gv (λd' h' hq=>?_) (λd' h' hq=>by cases hq);injection hq with e1 e2;subst e1;subst e2;refine Zag [0] Zas rfl rfl ⟨rfl,.inl rfl,.inl rfl,rfl⟩ nd (λd' h' hq=>?_) (λd' h' hq=>by cases hq);injection hq with e1 e2;subst e1;subst e2;refine Zag [0] Zcq rfl rfl ⟨rfl,.inl rfl,.inl rfl,rfl⟩ fg (λd' h' hq=>?_) (λd' h' hq=>?_)
       rotate_left
       ·obtain ⟨e,l',k',he,ae,rfl,rfl⟩:=ZaM hq;have hr:r=.bad e:=by rw[<- hr];show (Zat f l2).then _=_;rw[he];rfl
        exact ⟨rfl,e,l',k',hr,rfl,by omega,[.old 0,.old 2],⟨rfl,.inl rfl,.inl rfl,rfl⟩⟩
       obtain ⟨x,l3,he,rfl,rfl⟩:=Zaq hq;rw[he] at hr;have di:=bY.next (ZbY f) (Zcn f) he;have jq:=Zck (L:=L) l3 (k+1) [93] (by have:=di.1;omega);refine ⟨[gx x],rfl,rfl,⟨rfl,rfl,rfl,rfl,rfl,trivial⟩,?_⟩;refine Zag [0] Zdb rfl rfl ⟨rfl,.inl rfl,.inl rfl,rfl⟩ jq (λd' h' hq=>?_) (λd' h' hq=>?_)
       ·obtain ⟨_,l4,eh,rfl,rfl⟩:=Zaq hq;have hr:r=.ok (.mk 3 0 [] s [x]) l4:=by rw[<- hr];show (ZaH [93] l3).then _=_;rw[eh];rfl
        exact ⟨rfl,_,l4,hr,[.old 0,.old 1,.old 2],⟨rfl,.inr ⟨⟨rfl,.inl rfl⟩,⟨rfl,.inl (ZCw _ _ _ _ _)⟩,⟨rfl,.inl rfl⟩,trivial⟩,.inl rfl,rfl⟩⟩
       ·obtain ⟨e,l',k',he,ae,rfl,rfl⟩:=ZaM hq;have hr:r=.bad e:=by rw[<- hr];show (ZaH [93] l3).then _=_;rw[he];rfl
        exact ⟨rfl,e,l',k',hr,rfl,by omega,[.old 0,.old 2],⟨rfl,.inl rfl,.inl rfl,rfl⟩⟩
      | none =>
       rw[h1] at nd hr;have hr:(match ZaE [40] l1 with
        | some l2=>(ZcZ (Zat f) l2).then λxs l3=>.ok (.mk 4 0 [] s xs) l3
        | none=>match ZaE [46] l1 with
         | some l2=>(Zbc l2).then λg l3=>(ZaH [40] l3).then λ_ l4=>(ZcZ (Zat f) l4).then λxs l5=>.ok (.mk 4 0 s g xs) l5
         | none=>.ok (.mk 2 0 [] s []) l1)=r:=hr
       have ph:=Zbv (L:=L) l1 (k+1) [40] (by omega);cases h2:ZaE [40] l1 with
       | some l2 =>
        rw[h2] at ph hr;have hr:(ZcZ (Zat f) l2).then (λxs l3=>.ok (.mk 4 0 [] s xs) l3)=r:=hr;have bY:=bZ.take h2;have su:=Zqy hE l2 bY;refine ZbA [] hT hF hM.ok _ xS (by decide) (by decide) C _ a w _ ?_ dR;rw[hG];refine Zag [0] Zas rfl rfl ⟨rfl,.inl rfl,.inl rfl,rfl⟩ bo (λd' h' hq=>?_) (λd' h' hq=>by cases hq);injection hq with e1 e2;subst e1;subst e2;refine ⟨λ_=>⟨0,_,rfl,rfl,?_⟩,λh=>absurd (show (0:Int) < ((t0 :: r0).map Tok.g).length by omega) h⟩;refine ⟨λh=>absurd h cy,λ_=>?_⟩;refine Zag [0] Zb3 rfl rfl ⟨rfl,.inl rfl,.inl rfl,rfl⟩ gv (λd' h' hq=>?_) (λd' h' hq=>by cases hq);injection hq with e1 e2;subst e1;subst e2;refine Zag [0] Zas rfl rfl ⟨rfl,.inl rfl,.inl rfl,rfl⟩ nd (λd' h' hq=>?_) (λd' h' hq=>by cases hq);injection hq with e1 e2;subst e1;subst e2;refine Zag [0] Zas rfl rfl ⟨rfl,.inl rfl,.inl rfl,rfl⟩ ph (λd' h' hq=>?_) (λd' h' hq=>by cases hq);injection hq with e1 e2;subst e1;subst e2;refine Zag [0] Zuj rfl rfl ⟨rfl,.inl rfl,.inl rfl,rfl⟩ su (λd' h' hq=>?_) (λd' h' hq=>?_)
        ·obtain ⟨xs,l3,he,rfl,rfl⟩:=Zaq hq;have hr:r=.ok (.mk 4 0 [] s xs) l3:=by rw[<- hr,he];rfl
         exact ⟨rfl,_,l3,hr,[.old 0,.old 1,.old 2],⟨rfl,.inl rfl,.inl rfl,rfl⟩⟩
        ·obtain ⟨e,l',k',he,ae,rfl,rfl⟩:=ZaM hq;have hr:r=.bad e:=by rw[<- hr];show (ZcZ (Zat f) l2).then _=_;rw[he];rfl
         exact ⟨rfl,e,l',k',hr,rfl,by omega,[.old 0,.old 2],⟨rfl,.inl rfl,.inl rfl,rfl⟩⟩
       | none =>
        rw[h2] at ph hr;have hr:(match ZaE [46] l1 with
         | some l2=>(Zbc l2).then λg l3=>(ZaH [40] l3).then λ_ l4=>(ZcZ (Zat f) l4).then λxs l5=>.ok (.mk 4 0 s g xs) l5
         | none=>.ok (.mk 2 0 [] s []) l1)=r:=hr
        have kn:=Zbv (L:=L) l1 (k+1) [46] (by omega);cases h3:ZaE [46] l1 with
        | some l2 =>
         rw[h3] at kn hr;have hr:(Zbc l2).then (λg l3=>(ZaH [40] l3).then λ_ l4=>(ZcZ (Zat f) l4).then λxs l5=>.ok (.mk 4 0 s g xs) l5)=r:=hr;have bY:=bZ.take h3;have cM:=ZdE (L:=L) l2 (k+1) (by have:=bY.1;omega) (by have:=bY.text;omega);refine ZbA [] hT hF hM.ok _ xS (by decide) (by decide) C _ a w _ ?_ dR;rw[hG];refine Zag [0] Zas rfl rfl ⟨rfl,.inl rfl,.inl rfl,rfl⟩ bo (λd' h' hq=>?_) (λd' h' hq=>by cases hq);injection hq with e1 e2;subst e1;subst e2;refine ⟨λ_=>⟨0,_,rfl,rfl,?_⟩,λh=>absurd (show (0:Int) < ((t0 :: r0).map Tok.g).length by omega) h⟩;refine ⟨λh=>absurd h cy,λ_=>?_⟩;refine Zag [0] Zb3 rfl rfl ⟨rfl,.inl rfl,.inl rfl,rfl⟩ gv (λd' h' hq=>?_) (λd' h' hq=>by cases hq);injection hq with e1 e2;subst e1;subst e2;refine Zag [0] Zas rfl rfl ⟨rfl,.inl rfl,.inl rfl,rfl⟩ nd (λd' h' hq=>?_) (λd' h' hq=>by cases hq);injection hq with e1 e2;subst e1;subst e2;refine Zag [0] Zas rfl rfl ⟨rfl,.inl rfl,.inl rfl,rfl⟩ ph (λd' h' hq=>?_) (λd' h' hq=>by cases hq);injection hq with e1 e2;subst e1;subst e2;refine Zag [0] Zas rfl rfl ⟨rfl,.inl rfl,.inl rfl,rfl⟩ kn (λd' h' hq=>?_) (λd' h' hq=>by cases hq);injection hq with e1 e2;subst e1;subst e2;refine Zag [0] Zb3 rfl rfl ⟨rfl,.inl rfl,.inl rfl,rfl⟩ cM (λd' h' hq=>?_) (λd' h' hq=>?_)
         rotate_left
         ·obtain ⟨e,l',k',he,ae,rfl,rfl⟩:=ZaM hq;have hr:r=.bad e:=by rw[<- hr];show (Zbc l2).then _=_;rw[he];rfl
          exact ⟨rfl,e,l',k',hr,rfl,by omega,[.old 0,.old 2],⟨rfl,.inl rfl,.inl rfl,rfl⟩⟩
         obtain ⟨g,l3,ay,rfl,rfl⟩:=Zaq hq;rw[ay] at hr;have hr:(ZaH [40] l3).then (λ_ l4=>(ZcZ (Zat f) l4).then λxs l5=>.ok (.mk 4 0 s g xs) l5)=r:=hr;have di:=bY.next Zau Za8 ay;have jq:=Zck (L:=L) l3 (k+1) [40] (by have:=di.1;omega);refine Zag [0] Zdb rfl rfl ⟨rfl,.inl rfl,.inl rfl,rfl⟩ jq (λd' h' hq=>?_) (λd' h' hq=>?_)
         rotate_left
         ·obtain ⟨e,l',k',he,ae,rfl,rfl⟩:=ZaM hq;have hr:r=.bad e:=by rw[<- hr];show (ZaH [40] l3).then _=_;rw[he];rfl
          exact ⟨rfl,e,l',k',hr,rfl,by omega,[.old 0,.old 2],⟨rfl,.inl rfl,.inl rfl,rfl⟩⟩
         obtain ⟨_,l4,eh,rfl,rfl⟩:=Zaq hq;rw[eh] at hr;have hr:(ZcZ (Zat f) l4).then (λxs l5=>.ok (.mk 4 0 s g xs) l5)=r:=hr;have gh:=di.next (ZaA _) (ZaK _) eh;have su:=Zqy hE l4 gh;refine Zag [0] Zuj rfl rfl ⟨rfl,.inl rfl,.inl rfl,rfl⟩ su (λd' h' hq=>?_) (λd' h' hq=>?_)
         ·obtain ⟨xs,l5,he,rfl,rfl⟩:=Zaq hq;have hr:r=.ok (.mk 4 0 s g xs) l5:=by rw[<- hr,he];rfl
          exact ⟨rfl,_,l5,hr,[.old 0,.old 1,.old 2],⟨rfl,.inl rfl,.inl rfl,rfl⟩⟩
         ·obtain ⟨e,l',k',he,ae,rfl,rfl⟩:=ZaM hq;have hr:r=.bad e:=by rw[<- hr];show (ZcZ (Zat f) l4).then _=_;rw[he];rfl
          exact ⟨rfl,e,l',k',hr,rfl,by omega,[.old 0,.old 2],⟨rfl,.inl rfl,.inl rfl,rfl⟩⟩
        | none =>rw[h3] at kn hr;have hr:r=.ok (.mk 2 0 [] s []) l1:=hr.symm;refine ZbA [] hT hF hM.ok _ xS (by decide) (by decide) C _ a w _ ?_ dR;rw[hG];refine Zag [0] Zas rfl rfl ⟨rfl,.inl rfl,.inl rfl,rfl⟩ bo (λd' h' hq=>?_) (λd' h' hq=>by cases hq);injection hq with e1 e2;subst e1;subst e2;refine ⟨λ_=>⟨0,_,rfl,rfl,?_⟩,λh=>absurd (show (0:Int) < ((t0 :: r0).map Tok.g).length by omega) h⟩;refine ⟨λh=>absurd h cy,λ_=>?_⟩;refine Zag [0] Zb3 rfl rfl ⟨rfl,.inl rfl,.inl rfl,rfl⟩ gv (λd' h' hq=>?_) (λd' h' hq=>by cases hq);injection hq with e1 e2;subst e1;subst e2;refine Zag [0] Zas rfl rfl ⟨rfl,.inl rfl,.inl rfl,rfl⟩ nd (λd' h' hq=>?_) (λd' h' hq=>by cases hq);injection hq with e1 e2;subst e1;subst e2;refine Zag [0] Zas rfl rfl ⟨rfl,.inl rfl,.inl rfl,rfl⟩ ph (λd' h' hq=>?_) (λd' h' hq=>by cases hq);injection hq with e1 e2;subst e1;subst e2;refine Zag [0] Zas rfl rfl ⟨rfl,.inl rfl,.inl rfl,rfl⟩ kn (λd' h' hq=>?_) (λd' h' hq=>by cases hq);injection hq with e1 e2;subst e1;subst e2;exact ⟨rfl,_,l1,hr,[.old 0,.old 1,.old 2],⟨rfl,.inr ⟨⟨rfl,.inl rfl⟩,⟨rfl,.inr ⟨lk rfl,lk rfl,lk rfl,lk rfl,Zel,trivial⟩⟩,⟨rfl,.inl rfl⟩,trivial⟩,.inl rfl,rfl⟩⟩
end ZN
