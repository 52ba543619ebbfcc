import Derived.Test.YtpjjkiidjofflaaGreatDoorWG1
import Derived.Test.YtpjjkiidjofflaaGreatDoorWG6
import Derived.Test.YtpjjkiidjofflaaGreatDoorWG7
import Derived.Test.YtpjjkiidjofflaaGreatDoorWG4
import Derived.Test.YtpjjkiidjofflaaGreatDoorWG8
open Go Go.Proofs Go.Proofs.YtpjjkiidjofflaaGreatDoor
namespace Barb
open Go Go.Dm Go.Eng
def Zvi (l:List Instr):Prop:=∀x∈l,ZaM x=0
theorem ZcE:Zvi []:=λx h=>by simp at h
theorem Zlz {l m:List Instr} (h:Zvi l) (k:Zvi m):Zvi (l++m):=λx hx=>by
 rcases Yao.1 hx with hx | hx
 ·exact h x hx
 ·exact k x hx
theorem ZaU {x:Instr} {l:List Instr} (h:ZaM x=0) (k:Zvi l):Zvi (x :: l):=λy hy=>by
 rcases Yav.1 hy with rfl | hy
 ·exact h
 ·exact k y hy
theorem ZdN {op a b c:Int} (h1:1<=op/\op<=15) (ha:0<=a/\a<=bdA op) (hb:0<=b/\b<=bdB op) (hc:0<=c/\c<=bdC op) (hd:op=8->a≠0):ZaM ⟨op,a,b,c⟩=0:=by
 unfold ZaM;rw[if_neg (λh=>h h1),if_neg];unfold ZbK;rintro (h | h | h | ⟨h,k⟩)
 ·exact h ha
 ·exact h hb
 ·exact h hc
 ·exact hd h k
theorem ZBo (op:Int):0<=bdA op/\0<=bdB op/\0<=bdC op:=by unfold bdA bdB bdC;refine ⟨?_,?_,?_⟩<;>(repeat' split)<;>omega
theorem ZoR {a:Nat} (h:a < 65536):ZaM ⟨1,a,0,0⟩=0:=ZdN (by decide) (by unfold bdA;simp;omega) (by decide) (by decide) (λh=>absurd h (by decide))
theorem Ztr {a:Nat} (h:a < 8):ZaM ⟨5,a,0,0⟩=0:=ZdN (by decide) (by unfold bdA;simp;omega) (by decide) (by decide) (λh=>absurd h (by decide))
theorem Zuf {a:Nat} (h:a < 8):ZaM ⟨4,a,0,0⟩=0:=ZdN (by decide) (by unfold bdA;simp;omega) (by decide) (by decide) (λh=>absurd h (by decide))
theorem ZB4 {a:Nat} (h:a < 1200):ZaM ⟨10,a,0,0⟩=0:=ZdN (by decide) (by unfold bdA;simp;omega) (by decide) (by decide) (λh=>absurd h (by decide))
theorem ZCg {a:Nat} (h:a < 10):ZaM ⟨8,((a+1:Nat):Int),0,0⟩=0:=ZdN (by decide) (by unfold bdA;simp;omega) (by decide) (by decide) (λ_=>by omega)
theorem ZBr {x:Nat} (h:x < 15) (h8:¬((x+1:Nat):Int)=8):ZaM ⟨((x+1:Nat):Int),0,0,0⟩=0:=by obtain ⟨h1,h2,h3⟩:=ZBo ((x+1:Nat):Int);exact ZdN (by omega) ⟨by omega,h1⟩ ⟨by omega,h2⟩ ⟨by omega,h3⟩ (λh=>absurd h h8)
theorem ZbX (c n:List Instr) {g:List (List GV)} (h:n.map Instr.g=g):c.map Instr.g++g=(c++n).map Instr.g:=by rw[Yai,h]
theorem Zql (c:List Instr) (g:List GV):(c.map Instr.g++[g])[c.length]?=some g:=by simp
theorem Zqk (c:List Instr) (x:Instr) {g s:List GV} (h:Instr.g x=s):(c.map Instr.g++[g]).set c.length s=(c++[x]).map Instr.g:=by rw[YbK _ _ (by simp),<- h];simp
theorem ZBg {x z:Nat} (h:z < 10) (e:((x+1:Nat):Int)=8):ZaM ⟨((x+1:Nat):Int),((z+1:Nat):Int),0,0⟩=0:=by rw[e];exact ZCg h
theorem Zbv {n:Nat} (h:n<=1000):n<=maxLen/\n*32<=140737488355328:=by unfold maxLen;omega
def Zfj (j:Nat):List Instr:=(List.range j).map (λk=>⟨4,(k:Nat),0,0⟩)
theorem Znw (j:Nat):(Zfj j).length=j:=by unfold Zfj;simp
theorem ZkR (j:Nat):Zfj (j+1)=Zfj j++[⟨4,j,0,0⟩]:=by unfold Zfj;rw[Ycl,Yai];rfl
def Zk4 (m:Zaf) (fr:Int) (l:List Raw):List Instr:=(l.map (ZcP m fr)).flatten
theorem Zsc (m:Zaf) (fr:Int) (l:List Raw) (i:Nat) (h:i < l.length):Zk4 m fr (l.take (i+1))=Zk4 m fr (l.take i)++ZcP m fr l[i]:=by unfold Zk4;rw[Zay h,Yai,YbG];simp
theorem Zwv {j:Nat} (h:j<=8):Zvi (Zfj j):=λx hx=>by unfold Zfj at hx;obtain ⟨k,hk,rfl⟩:=YaW.1 hx;exact Zuf (by rw[YaZ] at hk;omega)
theorem Zy6 {a b:Nat} {n:Int} (ha:a < 5) (hb:b < 8) (hn:0<=n/\n<=4):ZaM ⟨12,a,b,n⟩=0:=ZdN (by decide) (by unfold bdA;simp;omega) (by unfold bdB;simp;omega) (by unfold bdC;simp;omega) (λh=>absurd h (by decide))
theorem ZwS (m:Zaf) (hm5:m.length<=5) (hm:∀q∈m,q.entries.length<=8/\∀x∈q.entries,0<=x.params/\x.params<=4) (fr:Nat) (hfr:fr<=1000) (r:Raw):Zvi (ZcP m fr r)/\(ZcP m fr r).length<=6:=by
 have pk:∀(n:Int) (many:Nat),0 < many->∃k:Nat,k < many/\Zar n (many:Int)=(k:Int):=λn many h=>by obtain ⟨k,h1,h2⟩:=ZbR n h;exact ⟨k,h2,h1⟩
 obtain ⟨a9,a9l,a9e⟩:=pk r.a 9 (by decide);obtain ⟨a4,a4l,a4e⟩:=pk r.a 4 (by decide);obtain ⟨b4,b4l,b4e⟩:=pk r.b 4 (by decide);obtain ⟨c4,c4l,c4e⟩:=pk r.c 4 (by decide);obtain ⟨b60,b60l,b60e⟩:=pk r.b 60 (by decide);obtain ⟨a15,a15l,a15e⟩:=pk r.a 15 (by decide);obtain ⟨b10,b10l,b10e⟩:=pk r.b 10 (by decide);obtain ⟨a250,a250l,a250e⟩:=pk r.a 250 (by decide);have a9e:Zar r.a 9=(a9:Int):=a9e;have a4e:Zar r.a 4=(a4:Int):=a4e;have b4e:Zar r.b 4=(b4:Int):=b4e;have c4e:Zar r.c 4=(c4:Int):=c4e;have b60e:Zar r.b 60=(b60:Int):=b60e;have a15e:Zar r.a 15=(a15:Int):=a15e;have b10e:Zar r.b 10=(b10:Int):=b10e;have a250e:Zar r.a 250=(a250:Int):=a250e;obtain ⟨at_,hatl,hat⟩:∃at_:Nat,at_ < 65536/\Zic fr r=(at_:Int):=by
  unfold Zic;split
  ·exact ⟨a250,by omega,a250e⟩
  ·exact ⟨fr+a4,by omega,by rw[a4e];push_cast;rfl⟩
 unfold ZcP;dsimp only;split
 ·rw[a9e,b4e];exact ⟨ZaU (ZoR (by omega)) (ZaU (Ztr (by omega)) ZcE),by simp⟩
 split
 ·rw[hat,b4e];exact ⟨ZaU (ZoR hatl) (ZaU (Zuf (by omega)) (ZaU (by decide) ZcE)),by simp⟩
 split
 ·rw[hat,b4e];exact ⟨ZaU (ZoR hatl) (ZaU (by decide) (ZaU (Ztr (by omega)) ZcE)),by simp⟩
 split
 ·rename_i hg;obtain ⟨pp,hpp,hppe⟩:=pk r.a m.length hg.2;obtain ⟨he8,hpar⟩:=hm _ (Yah hpp);unfold ZnU;dsimp only;rw[hppe,Int.toNat_natCast,show m.getD pp ⟨[],[],0,0⟩=m[pp] by simp[hpp]];split
  ·exact ⟨ZcE,by simp⟩
  ·rename_i he0;obtain ⟨ee,hee,heee⟩:=pk r.b m[pp].entries.length (by omega);obtain ⟨q0,q4⟩:=hpar _ (Yah hee);rw[heee,Int.toNat_natCast,show m[pp].entries.getD ee ⟨0,0⟩=m[pp].entries[ee] by simp[hee]];unfold ZkS;rw[c4e];refine ⟨Zlz (Zwv (j:=m[pp].entries[ee].params.toNat) (by omega)) (ZaU (Zy6 (by omega) (by omega) ⟨q0,q4⟩) (ZaU (Ztr (by omega)) ZcE)),?_⟩;simp only[Yae,Yab,Ycu,List.length_cons,List.length_nil];omega
 split
 ·rw[a4e,b60e];exact ⟨ZaU (Zuf (by omega)) (ZaU (ZB4 (by omega)) ZcE),by simp⟩
 split
 ·rw[a15e,b10e,show (1:Int)+a15=((a15+1:Nat):Int) by omega];split
  ·rename_i e;rw[show (1:Int)+b10=((b10+1:Nat):Int) by omega];exact ⟨ZaU (ZBg (by omega) e) ZcE,by simp⟩
  ·rename_i e;exact ⟨ZaU (ZBr (by omega) e) ZcE,by simp⟩
 ·exact ⟨ZaU (by decide) (ZaU (by decide) (ZaU (by decide) (ZaU (by decide) ZcE))),by simp⟩
theorem ZqV (m:Zaf) (hm5:m.length<=5) (hm:∀q∈m,q.entries.length<=8/\∀x∈q.entries,0<=x.params/\x.params<=4) (fr:Nat) (hfr:fr<=1000) (l:List Raw):Zvi (ZhS l m fr)/\2<=(ZhS l m fr).length/\(ZhS l m fr).length<=182:=by
 have key:∀l:List Raw,Zvi ((l.map (ZcP m fr)).flatten)/\((l.map (ZcP m fr)).flatten).length<=6*l.length:=by
  intro l
  induction l with
  | nil=>exact ⟨ZcE,by simp⟩
  | cons r l ih =>obtain ⟨h1,h2⟩:=ZwS m hm5 hm fr hfr r;rw[Yar,List.flatten_cons,Yae,List.length_cons];exact ⟨Zlz h1 ih.1,by have:=ih.2;omega⟩
 obtain ⟨k1,k2⟩:=key (l.take 30);have k3:(l.take 30).length<=30:=by rw[Yan];omega
 unfold ZhS;rw[Yae];exact ⟨Zlz k1 (ZaU (by decide) (ZaU (by decide) ZcE)),by simp,by simp only[List.length_cons,List.length_nil];omega⟩
end Barb
namespace ZN
open Go Go.Dm Go.Eng Barb
theorem ZdK (n:Int) (hn:I64 n) (many:Nat) (hm:0 < many):∃k:Nat,(k < many/\Zar n (many:Int)=(k:Int))/\CT Tryz.prog gl 17 [.g (.int n),.g (.int (many:Int))] (Is (.g (.int (k:Int)))):=by obtain ⟨k,hk,hl⟩:=ZbR n hm;exact ⟨k,⟨hl,hk⟩,hk▸ZaT n many hn (by omega)⟩
theorem dJK {a b:Int} (h:a=b):D.g (.int a)=D.g (.int b):=by rw[h]
set_option maxRecDepth 20000 in
set_option maxHeartbeats 8000000 in
theorem ZBu (m:Zaf) (hm:∀q∈m,q.entries.length<=8/\∀x∈q.entries,0<=x.params/\x.params<=4) (fr:Nat) (hfr:fr<=1000) (l:List Barb.Raw) (hI:∀r∈l,Barb.Raw.I r) (Q:Out->Prop) (hQ:∀(h:Zad) (i:Nat),h[i]?=some (.row ((ZhS l m fr).map Instr.g) 127 4)->Zbk Q h (.row i)):CT Tryz.prog gl 33 [.g (.sl 4 (l.map Raw.g)),.agg [.g (.sl 4 (m.map Part.g))],.g (.int (fr:Int))] Q:=by
 have ll:(l.map Raw.g).length=l.length:=by simp
 have lm:(m.map Part.g).length=m.length:=Yab _;refine enter hT hF hM Tryz.func33 rfl 204 rfl (by kernel_rfl) [.tmp 6] rfl [.g (.sl 4 (l.map Raw.g)),.agg [.g (.sl 4 (m.map Part.g))],.g (.int (fr:Int))] rfl _ ?_;refine ZaL (ι:=Nat × List Barb.Instr) (λi=>[(8,.g (.int (i.1:Int))),(7,.row 1),(4,.ptr 0 0)]) (λi=>[.blk [.g (.sl 4 (m.map Part.g))] 28,.row (i.2.map Instr.g) 127 4]) (λi=>i.1<=l.length/\i.1<=30/\i.2=Zk4 m fr (l.take i.1)/\i.2.length<=6*i.1) (λi=>l.length - i.1)
  ⟨(0,[]),[.old 0,.nil 127 4],⟨rfl,.inl rfl,.inr ⟨lk rfl,.inr rfl,lk rfl,trivial⟩,rfl⟩,⟨Yau _,Yau _,rfl,Yau _⟩⟩ ?_
 rintro Rd hRd ⟨i,c⟩ ⟨hi,hi30,hok,hlen⟩;dsimp only at hi hi30 hok hlen;have fin:(i=l.length\/i=30)->∀h:Zad,h[3]?=some (.row (c.map Instr.g++[Instr.g ⟨4,0,0,0⟩,Instr.g ⟨13,0,0,0⟩]) 127 4)->Zbk Q h (.row 3):=λhi' h hh=>by
  have e:ZhS l m fr=c++[⟨4,0,0,0⟩,⟨13,0,0,0⟩]:=by
   unfold ZhS;rw[hok];unfold Zk4;rcases hi' with hh | hh
   ·rw[hh,YaE,YaJ (by omega)]
   ·rw[hh]
  exact hQ h 3 (by rw[e,Yai];exact hh)
 refine ⟨λb0=>⟨λb1=>?_,λb1=>?_⟩,λb0=>?_⟩
 rotate_left
 ·refine ⟨[Instr.g ⟨4,0,0,0⟩,Instr.g ⟨13,0,0,0⟩],rfl,rfl,⟨rfl,rfl,rfl,rfl,rfl,rfl,rfl,rfl,trivial⟩,?_⟩;exact ⟨Zbv (by simp only[Yab,List.length_cons,List.length_nil];omega),rfl,fin (by omega) _ rfl⟩
 ·refine ⟨[Instr.g ⟨4,0,0,0⟩,Instr.g ⟨13,0,0,0⟩],rfl,rfl,⟨rfl,rfl,rfl,rfl,rfl,rfl,rfl,rfl,trivial⟩,?_⟩;exact ⟨Zbv (by simp only[Yab,List.length_cons,List.length_nil];omega),rfl,fin (by omega) _ rfl⟩
 have h1:i < l.length:=by omega
 obtain ⟨rk,ra,rb,rc⟩:=hI _ (Yah h1);refine ⟨i,_,rfl,gm h1,?_⟩;have hnx:=Zsc m fr l i h1;generalize l[i]=r at *;have inv:∀news:List Barb.Instr,news.length<=6->ZcP m fr r=news->i+1<=l.length/\i+1<=30/\c++news=Zk4 m fr (l.take (i+1))/\(c++news).length<=6*(i+1):=λnews h3 h4=>⟨by omega,by omega,by rw[hnx,h4,hok],by rw[Yae];omega⟩;obtain ⟨k0,⟨hk0,hk0e⟩,p0⟩:=ZdK r.a ra 4 (by decide);have hk0e:Zar r.a 4=(k0:Int):=hk0e;obtain ⟨k,hkf⟩:∃k:Nat,k=fr+k0:=⟨_,rfl⟩;refine Zae (.inl rfl) p0 ⟨(k:Int),(I64.wrap (by unfold I64;omega)).trans (by omega),?_⟩;obtain ⟨b12,⟨_,hbe⟩,p1⟩:=ZdK r.b rb 12 (by decide);have hbe:Zar r.b 12=(b12:Int):=hbe;refine Zae (.inl rfl) p1 ⟨λhb=>?_,λhb=>?_⟩
 ·obtain ⟨k,⟨hk,hke⟩,p2⟩:=ZdK r.a ra 250 (by decide);have hke:Zar r.a 250=(k:Int):=hke;have hat:Zic fr r=(k:Int):=by unfold Zic;rw[hbe,if_pos hb,hke]
  refine Zae (.inl rfl) p2 ?_;obtain ⟨kd,⟨hkd,hkde⟩,pm⟩:=ZdK r.kind rk 16 (by decide);have hkde:Zar r.kind 16=(kd:Int):=hkde;obtain ⟨y,⟨hy,hye⟩,py⟩:=ZdK r.b rb 4 (by decide);have hye:Zar r.b 4=(y:Int):=hye;refine Zae (.inl rfl) pm ⟨λc1=>?_,λc1=>⟨λc2=>?_,λc2=>⟨λc3=>?_,λc3=>?_⟩⟩⟩
  ·obtain ⟨x,⟨hx,hxe⟩,px⟩:=ZdK r.a ra 9 (by decide);have hxe:Zar r.a 9=(x:Int):=hxe;refine ⟨none,rfl,_,_,.inl rfl,px,rfl,_,_,.inl rfl,py,rfl,[Instr.g ⟨1,x,0,0⟩,Instr.g ⟨5,y,0,0⟩],rfl,rfl,⟨rfl,rfl,rfl,rfl,rfl,rfl,rfl,rfl,trivial⟩,?_⟩;refine ⟨Zbv (by simp only[Yab,List.length_cons,List.length_nil];omega),?_⟩;refine ⟨_,I64.wrap (by unfold I64;omega),?_⟩;exact hRd _ _ _ ⟨(i+1,c++[⟨1,x,0,0⟩,⟨5,y,0,0⟩]),[.old 0,.old 4],⟨rfl,.inr ⟨⟨rfl,.inl rfl⟩,⟨ZbX c _ rfl,rfl,rfl⟩,trivial⟩,.inr ⟨lk rfl,lk rfl,lk rfl,trivial⟩,rfl⟩,inv _ (by simp) (by unfold ZcP;dsimp only;rw[hkde,if_pos c1,hxe,hye]),by dsimp only;omega⟩
  ·refine Zae (.inl rfl) py ?_;refine ⟨[Instr.g ⟨1,k,0,0⟩,Instr.g ⟨4,y,0,0⟩,Instr.g ⟨7,0,0,0⟩],rfl,rfl,⟨rfl,rfl,rfl,rfl,rfl,rfl,rfl,rfl,rfl,rfl,rfl,rfl,trivial⟩,?_⟩;refine ⟨Zbv (by simp only[Yab,List.length_cons,List.length_nil];omega),?_⟩;refine ⟨_,I64.wrap (by unfold I64;omega),?_⟩;exact hRd _ _ _ ⟨(i+1,c++[⟨1,k,0,0⟩,⟨4,y,0,0⟩,⟨7,0,0,0⟩]),[.old 0,.old 4],⟨rfl,.inr ⟨⟨rfl,.inl rfl⟩,⟨ZbX c _ rfl,rfl,rfl⟩,trivial⟩,.inr ⟨lk rfl,lk rfl,lk rfl,trivial⟩,rfl⟩,inv _ (by simp) (by unfold ZcP;dsimp only;rw[hkde,if_neg c1,if_pos c2,hat,hye]),by dsimp only;omega⟩
  ·refine Zae (.inl rfl) py ?_;refine ⟨[Instr.g ⟨1,k,0,0⟩,Instr.g ⟨6,0,0,0⟩,Instr.g ⟨5,y,0,0⟩],rfl,rfl,⟨rfl,rfl,rfl,rfl,rfl,rfl,rfl,rfl,rfl,rfl,rfl,rfl,trivial⟩,?_⟩;refine ⟨Zbv (by simp only[Yab,List.length_cons,List.length_nil];omega),?_⟩;refine ⟨_,I64.wrap (by unfold I64;omega),?_⟩;exact hRd _ _ _ ⟨(i+1,c++[⟨1,k,0,0⟩,⟨6,0,0,0⟩,⟨5,y,0,0⟩]),[.old 0,.old 4],⟨rfl,.inr ⟨⟨rfl,.inl rfl⟩,⟨ZbX c _ rfl,rfl,rfl⟩,trivial⟩,.inr ⟨lk rfl,lk rfl,lk rfl,trivial⟩,rfl⟩,inv _ (by simp) (by unfold ZcP;dsimp only;rw[hkde,if_neg c1,if_neg c2,if_pos c3,hat,hye]),by dsimp only;omega⟩
  refine ⟨λc4=>⟨λz=>?_,λzn=>⟨λe=>(by exfalso;omega),λ_=>⟨λe=>(by exfalso;omega),λ_=>?_⟩⟩⟩,λc4=>⟨λc5=>?_,λc5=>⟨λc6=>?_,λc6=>?_⟩⟩⟩
  ·have hml:0 < m.length:=by have:(0:Int) < ((m.map Part.g).length:Nat):=z;omega
   obtain ⟨pp,⟨hpp,hppe⟩,pP⟩:=ZdK r.a ra m.length hml;rw[<- lm] at pP;refine Zae (.inl rfl) pP ?_;obtain ⟨he8,hpar⟩:=hm _ (Yah hpp);have hget:=(gm hpp:(m.map Part.g)[pp]?=some (Part.g m[pp]));have hcR:ZcP m fr r=ZnU m r:=by unfold ZcP;dsimp only;rw[hkde,if_neg c1,if_neg c2,if_neg c3,if_pos ⟨c4,hml⟩]
   have hcG:ZnU m r=if m[pp].entries.length=0 then [] else ZkS pp (Zar r.b m[pp].entries.length) (m[pp].entries.getD (Zar r.b m[pp].entries.length).toNat ⟨0,0⟩).params r:=by unfold ZnU;dsimp only;rw[hppe,Int.toNat_natCast,show m.getD pp ⟨[],[],0,0⟩=m[pp] by simp[hpp]]
   rw[hcG] at hcR;generalize m[pp]=q at *;have le:(q.entries.map Entry.g).length=q.entries.length:=Yab _;refine ⟨pp,_,rfl,hget,?_⟩;refine ⟨λe0=>?_,λe0=>?_⟩
   ·refine ⟨_,I64.wrap (by unfold I64;omega),?_⟩;exact hRd _ _ _ ⟨(i+1,c++[]),[.old 0,.old 1],⟨rfl,.inr ⟨⟨rfl,.inl rfl⟩,⟨(by rw[YaF]),rfl,rfl⟩,trivial⟩,.inr ⟨lk rfl,lk rfl,lk rfl,trivial⟩,rfl⟩,inv _ (by simp) (by rw[hcR,if_pos (by have e1:((q.entries.map Entry.g).length:Int)=0:=e0;omega)]),by dsimp only;omega⟩
   have hel:0 < q.entries.length:=by have e1:¬((q.entries.map Entry.g).length:Int)=0:=e0;omega
   obtain ⟨ee,⟨hee,heee⟩,pE⟩:=ZdK r.b rb q.entries.length hel;rw[if_neg (by omega),heee,Int.toNat_natCast,show q.entries.getD ee ⟨0,0⟩=q.entries[ee] by simp[hee]] at hcR;rw[<- le] at pE;obtain ⟨q0,q4⟩:=hpar _ (Yah hee);have hge:=(gm hee:(q.entries.map Entry.g)[ee]?=some (Entry.g q.entries[ee]));generalize q.entries[ee]=en at *;obtain ⟨nn,hnn⟩:∃nn:Nat,en.params=(nn:Int):=⟨_,(YbT q0).symm⟩;refine ⟨none,rfl,pp,_,rfl,hget,_,_,.inl rfl,pE,rfl,?_⟩;refine ⟨pp,_,rfl,hget,ee,_,rfl,hge,?_⟩;refine ZaL (ι:=Nat) (λj=>[(4,.ptr 0 0),(7,.row 1),(9,.ptr 2 0),(136,.g (.int (j:Int)))])
    (λj=>[.blk [.g (.sl 4 (m.map Part.g))] 28,.row ((c++Zfj j).map Instr.g) 127 4,.blk r.d 24]) (λj=>j<=nn) (λj=>nn - j)
    ⟨0,[.old 0,.old 1,.old 2],⟨rfl,.inr ⟨⟨rfl,.inl rfl⟩,⟨(by show _=(c++[]).map Instr.g;rw[YaF]),rfl,rfl⟩,⟨rfl,.inl rfl⟩,trivial⟩,.inr ⟨lk rfl,lk rfl,lk rfl,lk rfl,trivial⟩,rfl⟩,Yau _⟩ ?_
   intro Rj hRj j hj;have hgl:=Znw j;refine ⟨λd1=>?_,λd1=>?_⟩
   ·have hjl:j < nn:=by have d2:(j:Int) < en.params:=d1;omega
    refine ⟨[Instr.g ⟨4,j,0,0⟩],rfl,rfl,⟨rfl,rfl,rfl,rfl,trivial⟩,?_⟩;refine ⟨Zbv (by simp only[Yab,Yae,List.length_cons,List.length_nil];omega),?_⟩;refine ⟨_,I64.wrap (by unfold I64;omega),?_⟩;exact hRj _ _ _ ⟨j+1,[.old 0,.old 4,.old 2],⟨rfl,.inr ⟨⟨rfl,.inl rfl⟩,⟨(by rw[ZkR,<- Yas];exact ZbX (c++Zfj j) [⟨4,j,0,0⟩] rfl),rfl,rfl⟩,⟨rfl,.inl rfl⟩,trivial⟩,.inr ⟨lk rfl,lk rfl,lk rfl,lkI (by push_cast;rfl),trivial⟩,rfl⟩,hjl,by show nn - (j+1) < nn - j;omega⟩
   ·have hjn:j=nn:=by have d2:¬(j:Int) < en.params:=d1;omega
    subst hjn;obtain ⟨x,⟨hx,hxe⟩,px⟩:=ZdK r.c rc 4 (by decide);have hxe:Zar r.c 4=(x:Int):=hxe;refine Zae (.inl rfl) px ?_;refine ⟨[Instr.g ⟨12,pp,ee,en.params⟩,Instr.g ⟨5,x,0,0⟩],rfl,rfl,⟨rfl,rfl,rfl,rfl,rfl,rfl,rfl,rfl,trivial⟩,?_⟩;refine ⟨Zbv (by simp only[Yab,Yae,List.length_cons,List.length_nil];omega),?_⟩;refine ⟨_,I64.wrap (by unfold I64;omega),?_⟩;exact hRd _ _ _ ⟨(i+1,c++(Zfj j++[⟨12,pp,ee,en.params⟩,⟨5,x,0,0⟩])),[.old 0,.old 4],⟨rfl,.inr ⟨⟨rfl,.inl rfl⟩,⟨(by rw[<- Yas];exact ZbX (c++Zfj j) [⟨12,pp,ee,en.params⟩,⟨5,x,0,0⟩] rfl),rfl,rfl⟩,trivial⟩,.inr ⟨lk rfl,lk rfl,lk rfl,trivial⟩,rfl⟩,inv _ (by rw[Yae,hgl];simp;omega) (by rw[hcR];unfold ZkS Zfj;rw[hnn,hxe,Int.toNat_natCast]),by dsimp only;omega⟩
  ·refine ⟨[Instr.g ⟨1,1,0,0⟩,Instr.g ⟨4,1,0,0⟩,Instr.g ⟨8,1,0,0⟩,Instr.g ⟨5,1,0,0⟩],rfl,rfl,⟨rfl,rfl,rfl,rfl,rfl,rfl,rfl,rfl,rfl,rfl,rfl,rfl,rfl,rfl,rfl,rfl,trivial⟩,?_⟩;refine ⟨Zbv (by simp only[Yab,List.length_cons,List.length_nil];omega),?_⟩;refine ⟨_,I64.wrap (by unfold I64;omega),?_⟩;exact hRd _ _ _ ⟨(i+1,c++[⟨1,1,0,0⟩,⟨4,1,0,0⟩,⟨8,1,0,0⟩,⟨5,1,0,0⟩]),[.old 0,.old 4],⟨rfl,.inr ⟨⟨rfl,.inl rfl⟩,⟨ZbX c _ rfl,rfl,rfl⟩,trivial⟩,.inr ⟨lk rfl,lk rfl,lk rfl,trivial⟩,rfl⟩,inv _ (by simp) (by unfold ZcP;dsimp only;rw[hkde,if_neg c1,if_neg c2,if_neg c3,if_neg (λh=>zn (by have:=h.2;omega)),if_neg (by omega),if_neg (by omega)]),by dsimp only;omega⟩
  ·obtain ⟨x,⟨hx,hxe⟩,px⟩:=ZdK r.a ra 4 (by decide);have hxe:Zar r.a 4=(x:Int):=hxe;obtain ⟨z,⟨hz,hze⟩,pz⟩:=ZdK r.b rb 60 (by decide);have hze:Zar r.b 60=(z:Int):=hze;refine ⟨none,rfl,_,_,.inl rfl,px,rfl,_,_,.inl rfl,pz,rfl,[Instr.g ⟨4,x,0,0⟩,Instr.g ⟨10,z,0,0⟩],rfl,rfl,⟨rfl,rfl,rfl,rfl,rfl,rfl,rfl,rfl,trivial⟩,?_⟩;refine ⟨Zbv (by simp only[Yab,List.length_cons,List.length_nil];omega),?_⟩;refine ⟨_,I64.wrap (by unfold I64;omega),?_⟩;exact hRd _ _ _ ⟨(i+1,c++[⟨4,x,0,0⟩,⟨10,z,0,0⟩]),[.old 0,.old 4],⟨rfl,.inr ⟨⟨rfl,.inl rfl⟩,⟨ZbX c _ rfl,rfl,rfl⟩,trivial⟩,.inr ⟨lk rfl,lk rfl,lk rfl,trivial⟩,rfl⟩,inv _ (by simp) (by unfold ZcP;dsimp only;rw[hkde,if_neg c1,if_neg c2,if_neg c3,if_neg (λh=>c4 h.1),if_pos c5,hxe,hze]),by dsimp only;omega⟩
  ·obtain ⟨x,⟨hx,hxe⟩,px⟩:=ZdK r.a ra 15 (by decide);have hxe:Zar r.a 15=(x:Int):=hxe;obtain ⟨z,⟨hz,hze⟩,pz⟩:=ZdK r.b rb 10 (by decide);have hze:Zar r.b 10=(z:Int):=hze;refine Zae (.inl rfl) px ⟨((x+1:Nat):Int),(I64.wrap (by unfold I64;omega)).trans (by omega),?_⟩;refine ⟨[Instr.g ⟨((x+1:Nat):Int),0,0,0⟩],rfl,rfl,⟨rfl,rfl,rfl,rfl,trivial⟩,?_⟩;refine ⟨Zbv (by simp only[Yab,List.length_cons,List.length_nil];omega),?_⟩;refine ⟨by unfold I64;simp only[Yae,Yab,List.length_cons,List.length_nil];omega,c.length,dJK (by simp only[Yae,Yab,List.length_cons,List.length_nil];omega),by simp,?_⟩;refine ⟨_,Zql c _,?_⟩;refine ⟨λe=>?_,λe=>?_⟩
   ·refine ⟨by unfold I64;simp only[Yae,Yab,List.length_cons,List.length_nil];omega,?_⟩;refine Zae (.inl rfl) pz ⟨((z+1:Nat):Int),(I64.wrap (by unfold I64;omega)).trans (by omega),?_⟩;refine ⟨c.length,dJK (by simp only[Yae,Yab,List.length_cons,List.length_nil];omega),by simp,?_⟩;refine ⟨_,[.int ((z+1:Nat):Int)],Zql c _,⟨rfl,trivial⟩,Yaw rfl,(λh=>by cases h),?_⟩;refine ⟨_,I64.wrap (by unfold I64;omega),?_⟩;exact hRd _ _ _ ⟨(i+1,c++[⟨((x+1:Nat):Int),((z+1:Nat):Int),0,0⟩]),[.old 0,.old 4],⟨rfl,.inr ⟨⟨rfl,.inl rfl⟩,⟨Zqk c _ rfl,rfl,rfl⟩,trivial⟩,.inr ⟨lk rfl,lk rfl,lk rfl,trivial⟩,rfl⟩,inv _ (by simp) (by unfold ZcP;dsimp only;rw[hkde,if_neg c1,if_neg c2,if_neg c3,if_neg (λh=>c4 h.1),if_neg c5,if_pos c6,hxe,hze,show (1:Int)+x=((x+1:Nat):Int) by omega,if_pos e,show (1:Int)+z=((z+1:Nat):Int) by omega]),by dsimp only;omega⟩
   ·refine ⟨_,I64.wrap (by unfold I64;omega),?_⟩;exact hRd _ _ _ ⟨(i+1,c++[⟨((x+1:Nat):Int),0,0,0⟩]),[.old 0,.old 4],⟨rfl,.inr ⟨⟨rfl,.inl rfl⟩,⟨ZbX c _ rfl,rfl,rfl⟩,trivial⟩,.inr ⟨lk rfl,lk rfl,lk rfl,trivial⟩,rfl⟩,inv _ (by simp) (by unfold ZcP;dsimp only;rw[hkde,if_neg c1,if_neg c2,if_neg c3,if_neg (λh=>c4 h.1),if_neg c5,if_pos c6,hxe,show (1:Int)+x=((x+1:Nat):Int) by omega,if_neg e]),by dsimp only;omega⟩
  ·refine ⟨[Instr.g ⟨1,1,0,0⟩,Instr.g ⟨4,1,0,0⟩,Instr.g ⟨8,1,0,0⟩,Instr.g ⟨5,1,0,0⟩],rfl,rfl,⟨rfl,rfl,rfl,rfl,rfl,rfl,rfl,rfl,rfl,rfl,rfl,rfl,rfl,rfl,rfl,rfl,trivial⟩,?_⟩;refine ⟨Zbv (by simp only[Yab,List.length_cons,List.length_nil];omega),?_⟩;refine ⟨_,I64.wrap (by unfold I64;omega),?_⟩;exact hRd _ _ _ ⟨(i+1,c++[⟨1,1,0,0⟩,⟨4,1,0,0⟩,⟨8,1,0,0⟩,⟨5,1,0,0⟩]),[.old 0,.old 4],⟨rfl,.inr ⟨⟨rfl,.inl rfl⟩,⟨ZbX c _ rfl,rfl,rfl⟩,trivial⟩,.inr ⟨lk rfl,lk rfl,lk rfl,trivial⟩,rfl⟩,inv _ (by simp) (by unfold ZcP;dsimp only;rw[hkde,if_neg c1,if_neg c2,if_neg c3,if_neg (λh=>c4 h.1),if_neg c5,if_neg c6]),by dsimp only;omega⟩
 ·have hat:Zic fr r=(k:Int):=by unfold Zic;rw[hbe,if_neg hb,hk0e,hkf];push_cast;rfl
  obtain ⟨kd,⟨hkd,hkde⟩,pm⟩:=ZdK r.kind rk 16 (by decide);have hkde:Zar r.kind 16=(kd:Int):=hkde;obtain ⟨y,⟨hy,hye⟩,py⟩:=ZdK r.b rb 4 (by decide);have hye:Zar r.b 4=(y:Int):=hye;refine Zae (.inl rfl) pm ⟨λc1=>?_,λc1=>⟨λc2=>?_,λc2=>⟨λc3=>?_,λc3=>?_⟩⟩⟩
  ·obtain ⟨x,⟨hx,hxe⟩,px⟩:=ZdK r.a ra 9 (by decide);have hxe:Zar r.a 9=(x:Int):=hxe;refine ⟨none,rfl,_,_,.inl rfl,px,rfl,_,_,.inl rfl,py,rfl,[Instr.g ⟨1,x,0,0⟩,Instr.g ⟨5,y,0,0⟩],rfl,rfl,⟨rfl,rfl,rfl,rfl,rfl,rfl,rfl,rfl,trivial⟩,?_⟩;refine ⟨Zbv (by simp only[Yab,List.length_cons,List.length_nil];omega),?_⟩;refine ⟨_,I64.wrap (by unfold I64;omega),?_⟩;exact hRd _ _ _ ⟨(i+1,c++[⟨1,x,0,0⟩,⟨5,y,0,0⟩]),[.old 0,.old 4],⟨rfl,.inr ⟨⟨rfl,.inl rfl⟩,⟨ZbX c _ rfl,rfl,rfl⟩,trivial⟩,.inr ⟨lk rfl,lk rfl,lk rfl,trivial⟩,rfl⟩,inv _ (by simp) (by unfold ZcP;dsimp only;rw[hkde,if_pos c1,hxe,hye]),by dsimp only;omega⟩
  ·refine Zae (.inl rfl) py ?_;refine ⟨[Instr.g ⟨1,k,0,0⟩,Instr.g ⟨4,y,0,0⟩,Instr.g ⟨7,0,0,0⟩],rfl,rfl,⟨rfl,rfl,rfl,rfl,rfl,rfl,rfl,rfl,rfl,rfl,rfl,rfl,trivial⟩,?_⟩;refine ⟨Zbv (by simp only[Yab,List.length_cons,List.length_nil];omega),?_⟩;refine ⟨_,I64.wrap (by unfold I64;omega),?_⟩;exact hRd _ _ _ ⟨(i+1,c++[⟨1,k,0,0⟩,⟨4,y,0,0⟩,⟨7,0,0,0⟩]),[.old 0,.old 4],⟨rfl,.inr ⟨⟨rfl,.inl rfl⟩,⟨ZbX c _ rfl,rfl,rfl⟩,trivial⟩,.inr ⟨lk rfl,lk rfl,lk rfl,trivial⟩,rfl⟩,inv _ (by simp) (by unfold ZcP;dsimp only;rw[hkde,if_neg c1,if_pos c2,hat,hye]),by dsimp only;omega⟩
  ·refine Zae (.inl rfl) py ?_;refine ⟨[Instr.g ⟨1,k,0,0⟩,Instr.g ⟨6,0,0,0⟩,Instr.g ⟨5,y,0,0⟩],rfl,rfl,⟨rfl,rfl,rfl,rfl,rfl,rfl,rfl,rfl,rfl,rfl,rfl,rfl,trivial⟩,?_⟩;refine ⟨Zbv (by simp only[Yab,List.length_cons,List.length_nil];omega),?_⟩;refine ⟨_,I64.wrap (by unfold I64;omega),?_⟩;exact hRd _ _ _ ⟨(i+1,c++[⟨1,k,0,0⟩,⟨6,0,0,0⟩,⟨5,y,0,0⟩]),[.old 0,.old 4],⟨rfl,.inr ⟨⟨rfl,.inl rfl⟩,⟨ZbX c _ rfl,rfl,rfl⟩,trivial⟩,.inr ⟨lk rfl,lk rfl,lk rfl,trivial⟩,rfl⟩,inv _ (by simp) (by unfold ZcP;dsimp only;rw[hkde,if_neg c1,if_neg c2,if_pos c3,hat,hye]),by dsimp only;omega⟩
  refine ⟨λc4=>⟨λz=>?_,λzn=>⟨λe=>(by exfalso;omega),λ_=>⟨λe=>(by exfalso;omega),λ_=>?_⟩⟩⟩,λc4=>⟨λc5=>?_,λc5=>⟨λc6=>?_,λc6=>?_⟩⟩⟩
  ·have hml:0 < m.length:=by have:(0:Int) < ((m.map Part.g).length:Nat):=z;omega
   obtain ⟨pp,⟨hpp,hppe⟩,pP⟩:=ZdK r.a ra m.length hml;rw[<- lm] at pP;refine Zae (.inl rfl) pP ?_;obtain ⟨he8,hpar⟩:=hm _ (Yah hpp);have hget:=(gm hpp:(m.map Part.g)[pp]?=some (Part.g m[pp]));have hcR:ZcP m fr r=ZnU m r:=by unfold ZcP;dsimp only;rw[hkde,if_neg c1,if_neg c2,if_neg c3,if_pos ⟨c4,hml⟩]
   have hcG:ZnU m r=if m[pp].entries.length=0 then [] else ZkS pp (Zar r.b m[pp].entries.length) (m[pp].entries.getD (Zar r.b m[pp].entries.length).toNat ⟨0,0⟩).params r:=by unfold ZnU;dsimp only;rw[hppe,Int.toNat_natCast,show m.getD pp ⟨[],[],0,0⟩=m[pp] by simp[hpp]]
   rw[hcG] at hcR;generalize m[pp]=q at *;have le:(q.entries.map Entry.g).length=q.entries.length:=Yab _;refine ⟨pp,_,rfl,hget,?_⟩;refine ⟨λe0=>?_,λe0=>?_⟩
   ·refine ⟨_,I64.wrap (by unfold I64;omega),?_⟩;exact hRd _ _ _ ⟨(i+1,c++[]),[.old 0,.old 1],⟨rfl,.inr ⟨⟨rfl,.inl rfl⟩,⟨(by rw[YaF]),rfl,rfl⟩,trivial⟩,.inr ⟨lk rfl,lk rfl,lk rfl,trivial⟩,rfl⟩,inv _ (by simp) (by rw[hcR,if_pos (by have e1:((q.entries.map Entry.g).length:Int)=0:=e0;omega)]),by dsimp only;omega⟩
   have hel:0 < q.entries.length:=by have e1:¬((q.entries.map Entry.g).length:Int)=0:=e0;omega
   obtain ⟨ee,⟨hee,heee⟩,pE⟩:=ZdK r.b rb q.entries.length hel;rw[if_neg (by omega),heee,Int.toNat_natCast,show q.entries.getD ee ⟨0,0⟩=q.entries[ee] by simp[hee]] at hcR;rw[<- le] at pE;obtain ⟨q0,q4⟩:=hpar _ (Yah hee);have hge:=(gm hee:(q.entries.map Entry.g)[ee]?=some (Entry.g q.entries[ee]));generalize q.entries[ee]=en at *;obtain ⟨nn,hnn⟩:∃nn:Nat,en.params=(nn:Int):=⟨_,(YbT q0).symm⟩;refine ⟨none,rfl,pp,_,rfl,hget,_,_,.inl rfl,pE,rfl,?_⟩;refine ⟨pp,_,rfl,hget,ee,_,rfl,hge,?_⟩;refine ZaL (ι:=Nat) (λj=>[(4,.ptr 0 0),(7,.row 1),(9,.ptr 2 0),(136,.g (.int (j:Int)))])
    (λj=>[.blk [.g (.sl 4 (m.map Part.g))] 28,.row ((c++Zfj j).map Instr.g) 127 4,.blk r.d 24]) (λj=>j<=nn) (λj=>nn - j)
    ⟨0,[.old 0,.old 1,.old 2],⟨rfl,.inr ⟨⟨rfl,.inl rfl⟩,⟨(by show _=(c++[]).map Instr.g;rw[YaF]),rfl,rfl⟩,⟨rfl,.inl rfl⟩,trivial⟩,.inr ⟨lk rfl,lk rfl,lk rfl,lk rfl,trivial⟩,rfl⟩,Yau _⟩ ?_
   intro Rj hRj j hj;have hgl:=Znw j;refine ⟨λd1=>?_,λd1=>?_⟩
   ·have hjl:j < nn:=by have d2:(j:Int) < en.params:=d1;omega
    refine ⟨[Instr.g ⟨4,j,0,0⟩],rfl,rfl,⟨rfl,rfl,rfl,rfl,trivial⟩,?_⟩;refine ⟨Zbv (by simp only[Yab,Yae,List.length_cons,List.length_nil];omega),?_⟩;refine ⟨_,I64.wrap (by unfold I64;omega),?_⟩;exact hRj _ _ _ ⟨j+1,[.old 0,.old 4,.old 2],⟨rfl,.inr ⟨⟨rfl,.inl rfl⟩,⟨(by rw[ZkR,<- Yas];exact ZbX (c++Zfj j) [⟨4,j,0,0⟩] rfl),rfl,rfl⟩,⟨rfl,.inl rfl⟩,trivial⟩,.inr ⟨lk rfl,lk rfl,lk rfl,lkI (by push_cast;rfl),trivial⟩,rfl⟩,hjl,by show nn - (j+1) < nn - j;omega⟩
   ·have hjn:j=nn:=by have d2:¬(j:Int) < en.params:=d1;omega
    subst hjn;obtain ⟨x,⟨hx,hxe⟩,px⟩:=ZdK r.c rc 4 (by decide);have hxe:Zar r.c 4=(x:Int):=hxe;refine Zae (.inl rfl) px ?_;refine ⟨[Instr.g ⟨12,pp,ee,en.params⟩,Instr.g ⟨5,x,0,0⟩],rfl,rfl,⟨rfl,rfl,rfl,rfl,rfl,rfl,rfl,rfl,trivial⟩,?_⟩;refine ⟨Zbv (by simp only[Yab,Yae,List.length_cons,List.length_nil];omega),?_⟩;refine ⟨_,I64.wrap (by unfold I64;omega),?_⟩;exact hRd _ _ _ ⟨(i+1,c++(Zfj j++[⟨12,pp,ee,en.params⟩,⟨5,x,0,0⟩])),[.old 0,.old 4],⟨rfl,.inr ⟨⟨rfl,.inl rfl⟩,⟨(by rw[<- Yas];exact ZbX (c++Zfj j) [⟨12,pp,ee,en.params⟩,⟨5,x,0,0⟩] rfl),rfl,rfl⟩,trivial⟩,.inr ⟨lk rfl,lk rfl,lk rfl,trivial⟩,rfl⟩,inv _ (by rw[Yae,hgl];simp;omega) (by rw[hcR];unfold ZkS Zfj;rw[hnn,hxe,Int.toNat_natCast]),by dsimp only;omega⟩
  ·refine ⟨[Instr.g ⟨1,1,0,0⟩,Instr.g ⟨4,1,0,0⟩,Instr.g ⟨8,1,0,0⟩,Instr.g ⟨5,1,0,0⟩],rfl,rfl,⟨rfl,rfl,rfl,rfl,rfl,rfl,rfl,rfl,rfl,rfl,rfl,rfl,rfl,rfl,rfl,rfl,trivial⟩,?_⟩;refine ⟨Zbv (by simp only[Yab,List.length_cons,List.length_nil];omega),?_⟩;refine ⟨_,I64.wrap (by unfold I64;omega),?_⟩;exact hRd _ _ _ ⟨(i+1,c++[⟨1,1,0,0⟩,⟨4,1,0,0⟩,⟨8,1,0,0⟩,⟨5,1,0,0⟩]),[.old 0,.old 4],⟨rfl,.inr ⟨⟨rfl,.inl rfl⟩,⟨ZbX c _ rfl,rfl,rfl⟩,trivial⟩,.inr ⟨lk rfl,lk rfl,lk rfl,trivial⟩,rfl⟩,inv _ (by simp) (by unfold ZcP;dsimp only;rw[hkde,if_neg c1,if_neg c2,if_neg c3,if_neg (λh=>zn (by have:=h.2;omega)),if_neg (by omega),if_neg (by omega)]),by dsimp only;omega⟩
  ·obtain ⟨x,⟨hx,hxe⟩,px⟩:=ZdK r.a ra 4 (by decide);have hxe:Zar r.a 4=(x:Int):=hxe;obtain ⟨z,⟨hz,hze⟩,pz⟩:=ZdK r.b rb 60 (by decide);have hze:Zar r.b 60=(z:Int):=hze;refine ⟨none,rfl,_,_,.inl rfl,px,rfl,_,_,.inl rfl,pz,rfl,[Instr.g ⟨4,x,0,0⟩,Instr.g ⟨10,z,0,0⟩],rfl,rfl,⟨rfl,rfl,rfl,rfl,rfl,rfl,rfl,rfl,trivial⟩,?_⟩;refine ⟨Zbv (by simp only[Yab,List.length_cons,List.length_nil];omega),?_⟩;refine ⟨_,I64.wrap (by unfold I64;omega),?_⟩;exact hRd _ _ _ ⟨(i+1,c++[⟨4,x,0,0⟩,⟨10,z,0,0⟩]),[.old 0,.old 4],⟨rfl,.inr ⟨⟨rfl,.inl rfl⟩,⟨ZbX c _ rfl,rfl,rfl⟩,trivial⟩,.inr ⟨lk rfl,lk rfl,lk rfl,trivial⟩,rfl⟩,inv _ (by simp) (by unfold ZcP;dsimp only;rw[hkde,if_neg c1,if_neg c2,if_neg c3,if_neg (λh=>c4 h.1),if_pos c5,hxe,hze]),by dsimp only;omega⟩
  ·obtain ⟨x,⟨hx,hxe⟩,px⟩:=ZdK r.a ra 15 (by decide);have hxe:Zar r.a 15=(x:Int):=hxe;obtain ⟨z,⟨hz,hze⟩,pz⟩:=ZdK r.b rb 10 (by decide);have hze:Zar r.b 10=(z:Int):=hze;refine Zae (.inl rfl) px ⟨((x+1:Nat):Int),(I64.wrap (by unfold I64;omega)).trans (by omega),?_⟩;refine ⟨[Instr.g ⟨((x+1:Nat):Int),0,0,0⟩],rfl,rfl,⟨rfl,rfl,rfl,rfl,trivial⟩,?_⟩;refine ⟨Zbv (by simp only[Yab,List.length_cons,List.length_nil];omega),?_⟩;refine ⟨by unfold I64;simp only[Yae,Yab,List.length_cons,List.length_nil];omega,c.length,dJK (by simp only[Yae,Yab,List.length_cons,List.length_nil];omega),by simp,?_⟩;refine ⟨_,Zql c _,?_⟩;refine ⟨λe=>?_,λe=>?_⟩
   ·refine ⟨by unfold I64;simp only[Yae,Yab,List.length_cons,List.length_nil];omega,?_⟩;refine Zae (.inl rfl) pz ⟨((z+1:Nat):Int),(I64.wrap (by unfold I64;omega)).trans (by omega),?_⟩;refine ⟨c.length,dJK (by simp only[Yae,Yab,List.length_cons,List.length_nil];omega),by simp,?_⟩;refine ⟨_,[.int ((z+1:Nat):Int)],Zql c _,⟨rfl,trivial⟩,Yaw rfl,(λh=>by cases h),?_⟩;refine ⟨_,I64.wrap (by unfold I64;omega),?_⟩;exact hRd _ _ _ ⟨(i+1,c++[⟨((x+1:Nat):Int),((z+1:Nat):Int),0,0⟩]),[.old 0,.old 4],⟨rfl,.inr ⟨⟨rfl,.inl rfl⟩,⟨Zqk c _ rfl,rfl,rfl⟩,trivial⟩,.inr ⟨lk rfl,lk rfl,lk rfl,trivial⟩,rfl⟩,inv _ (by simp) (by unfold ZcP;dsimp only;rw[hkde,if_neg c1,if_neg c2,if_neg c3,if_neg (λh=>c4 h.1),if_neg c5,if_pos c6,hxe,hze,show (1:Int)+x=((x+1:Nat):Int) by omega,if_pos e,show (1:Int)+z=((z+1:Nat):Int) by omega]),by dsimp only;omega⟩
   ·refine ⟨_,I64.wrap (by unfold I64;omega),?_⟩;exact hRd _ _ _ ⟨(i+1,c++[⟨((x+1:Nat):Int),0,0,0⟩]),[.old 0,.old 4],⟨rfl,.inr ⟨⟨rfl,.inl rfl⟩,⟨ZbX c _ rfl,rfl,rfl⟩,trivial⟩,.inr ⟨lk rfl,lk rfl,lk rfl,trivial⟩,rfl⟩,inv _ (by simp) (by unfold ZcP;dsimp only;rw[hkde,if_neg c1,if_neg c2,if_neg c3,if_neg (λh=>c4 h.1),if_neg c5,if_pos c6,hxe,show (1:Int)+x=((x+1:Nat):Int) by omega,if_neg e]),by dsimp only;omega⟩
  ·refine ⟨[Instr.g ⟨1,1,0,0⟩,Instr.g ⟨4,1,0,0⟩,Instr.g ⟨8,1,0,0⟩,Instr.g ⟨5,1,0,0⟩],rfl,rfl,⟨rfl,rfl,rfl,rfl,rfl,rfl,rfl,rfl,rfl,rfl,rfl,rfl,rfl,rfl,rfl,rfl,trivial⟩,?_⟩;refine ⟨Zbv (by simp only[Yab,List.length_cons,List.length_nil];omega),?_⟩;refine ⟨_,I64.wrap (by unfold I64;omega),?_⟩;exact hRd _ _ _ ⟨(i+1,c++[⟨1,1,0,0⟩,⟨4,1,0,0⟩,⟨8,1,0,0⟩,⟨5,1,0,0⟩]),[.old 0,.old 4],⟨rfl,.inr ⟨⟨rfl,.inl rfl⟩,⟨ZbX c _ rfl,rfl,rfl⟩,trivial⟩,.inr ⟨lk rfl,lk rfl,lk rfl,trivial⟩,rfl⟩,inv _ (by simp) (by unfold ZcP;dsimp only;rw[hkde,if_neg c1,if_neg c2,if_neg c3,if_neg (λh=>c4 h.1),if_neg c5,if_neg c6]),by dsimp only;omega⟩
theorem Zxe (m:Zaf) (hm:∀q∈m,q.entries.length<=8/\∀x∈q.entries,0<=x.params/\x.params<=4) (fr:Nat) (hfr:fr<=1000) (l:List Barb.Raw) (hI:∀r∈l,Barb.Raw.I r):CT Tryz.prog gl 33 [.g (.sl 4 (l.map Raw.g)),.agg [.g (.sl 4 (m.map Part.g))],.g (.int (fr:Int))] (Is (.g (.sl 4 ((ZhS l m fr).map Instr.g)))) :=
 ZBu m hm fr hfr l hI _ (λh i hi=>Zbl (.inl (by simp only[conv,kp,hi])))
end ZN
namespace ZN
open Go Go.Dm Go.Eng Go.RowKit Barb
structure BuiltOk (p:List Barb.Unit) (r:Raw):Prop where
 good:Zbd p=0
 few:Zsu p
 len:p.length<=3
 data:Zgu p (Zc0 p r)=ZaA (Zc0 p r)
 words:((Zgu p (Zc0 p r)).length:Int)=Zai p
 word:∀x∈Zgu p (Zc0 p r),ZeZ x
 dlen:(Zgu p (Zc0 p r)).length<=190
 wlen:Zai p<=18
theorem ZuT (l:List Raw) (r:Raw):BuiltOk (Zb0 l) r:=by have hP:=ZgQ l;have hgood:=ZgS hP;obtain ⟨d1,d2,d3⟩:=ZwX hgood r;exact ⟨hgood,Zlw hP,by rw[ZgR hP];exact hP.m.2,d1,by rw[d1];exact d2,by rw[d1];exact d3,ZuE _ _,by have h1:=(ZiY hP.shape).2;have h2:=hP.m.2;have h3:=ZgR hP;omega⟩
theorem ZuS (l:List Raw) (hI:∀r∈l,r.I) (hl:l.length*32<=140737488351232) (r:Raw) (hr:r.I) :
  CT Tryz.prog gl 5 [.g (.sl 4 (l.map Raw.g)),.agg r.d] (Is (.tuple [.g (.sl 4 ((Zb0 l).map Unit.g)),.agg (ZlS (Ze0 (Zb0 l))),.g (.sl 2 ((Zc0 (Zb0 l) r).map Cells.g)),.g (.sl 1 ((Zgu (Zb0 l) (Zc0 (Zb0 l) r)).map Zat)),.pb (ZfU (Zb0 l)=0)])):=by
 obtain ⟨hgood,hfew,_,_,_,_,hdl,_⟩:=ZuT l r;have hpi:=Zjo hgood hfew;have hPr:=Zpz l hl hI;generalize Zb0 l=p at *;have hC:=Zve p (ZvV hgood) r hr;have hc0:=Zgx hgood r;obtain ⟨_,hcl,hcc⟩:=Zfp hc0;have h5:=(Za5 hgood).1;have hD:=Zrf p hpi (Zc0 p r) (Zpo hgood hcl hcc) (by omega);rw[hc0] at hD;have hL:=Zjv p hpi hfew;generalize Zc0 p r=cs at *;generalize Zgu p cs=d at *;generalize Ze0 p=m at *;generalize ZfU p=e at *;refine enter hT hF hM Tryz.func5 rfl 41 rfl (by kernel_rfl) [.tmp 4,.cell 5 28,.tmp 6,.tmp 7,.tmp 8] rfl [.g (.sl 4 (l.map Raw.g)),.agg r.d] rfl _ ?_;refine Zae (.inl rfl) hPr ?_;refine Zae (.inl rfl) hC ?_;refine Zae (.inl rfl) hL ?_;refine Zae (.inl rfl) hD ?_;refine ⟨none,rfl,?_⟩;refine ⟨λg1=>?_,λg1=>?_⟩
 ·exact ⟨rfl,Zbl (.inr (.inr ⟨lk rfl,lk rfl,lk rfl,lk rfl,lkP ⟨λ_=>g1,λ_=>rfl⟩,trivial⟩))⟩
 ·exact ⟨rfl,Zbl (.inr (.inr ⟨lk rfl,lk rfl,lk rfl,lk rfl,Zst ⟨λh=>absurd h (by decide),λh=>absurd h g1⟩,trivial⟩))⟩
theorem ZlR {m:Zaf} (h:Zg5 m=0):∀q∈m,q.entries.length<=8/\∀x∈q.entries,0<=x.params/\x.params<=4:=λq hq=>by obtain ⟨k,hk,rfl⟩:=YaK hq;obtain ⟨_,h2,_,h4⟩:=Zgv h hk;exact ⟨h2,λx hx=>⟨(h4 x hx).2.2.1,(h4 x hx).2.2.2⟩⟩
noncomputable def ZrW (m:Zaf) (l:List Raw):List Barb.Instr:=ZhS l m (Zao m)
noncomputable def Zkb (m:Zaf) (l:List Raw):Zaf:=Zdh m (ZrW m l) [⟨0,0⟩] 4
theorem Zpc (m:Zaf) (himg:Zg5 m=0) (hmI:Zaf.I m) (h3:m.length<=3) (hw:0<=Zao m/\Zao m<=250) (d:List Int) (hd:d.length<=190) (l:List Raw) (hI:∀r∈l,r.I) :
  CT Tryz.prog gl 12 [.agg (ZlS m),.g (.sl 1 (d.map Zat)),.g (.sl 4 (l.map Raw.g))] (Is (.tuple [.agg (ZlS (Zkb m l)),.g (.sl 1 ((d++[1,2,3,4]).map Zat)),.g (.int (m.length:Int))])):=by
 obtain ⟨fr,hfr⟩:∃fr:Nat,Zao m=(fr:Int):=⟨_,(YbT hw.1).symm⟩;have hW:=Zig m hmI;have hC:=Zxe m (ZlR himg) fr (by omega) l hI;have hcl:=(ZqV m (by omega) (ZlR himg) fr (by omega) l).2.2;have hWith:=Zw9 m (by omega) (ZhS l m fr) (by omega) [⟨0,0⟩] (by decide) 4;have hX:Zkb m l=Zdh m (ZhS l m fr) [⟨0,0⟩] 4:=by unfold Zkb ZrW;rw[hfr]
 rw[hX];rw[hfr] at hW;generalize Zdh m (ZhS l m fr) [⟨0,0⟩] 4=x at *;generalize ZhS l m fr=c at *;have ld:(d.map Zat).length=d.length:=Yab _;refine Zuv [2] hT hF hM Tryz.func12 rfl 31 rfl (by kernel_rfl) [.cell 6 28,.tmp 7,.tmp 8] rfl [.agg (ZlS m),.g (.sl 1 (d.map Zat)),.g (.sl 4 (l.map Raw.g))] rfl _ ?_;refine Zae (.inl rfl) hW ?_;refine ⟨some 2500,rfl,?_⟩;refine ⟨_,_,.inl rfl,hC,rfl,?_⟩;refine ⟨[[.int 0,.int 0]],rfl,rfl,⟨rfl,rfl,trivial⟩,?_⟩;refine ⟨_,_,.inl rfl,hWith,rfl,?_⟩;refine Zcu [.old 1] [(1,.g (.sl 1 (d.map Zat))),(6,.ptr 0 0),(10,.fp [.sl 4 (x.map Part.g)] 0),(11,.g (.int (m.length:Int)))] [.blk [.nils] 28] ⟨rfl,.inl rfl,.inl rfl,rfl⟩ ?_;refine ⟨some 5604,rfl,?_⟩;refine ⟨_,_,_,.inl rfl,Zeu (d.map Zat) (by omega),rfl,?_⟩;refine ⟨[[.int 1],[.int 2],[.int 3],[.int 4]],rfl,rfl,⟨rfl,rfl,rfl,rfl,trivial⟩,?_⟩;refine ⟨⟨by simp[maxLen];omega,by simp;omega⟩,?_⟩;refine ⟨rfl,Zbl (.inr (.inr ⟨lk rfl,lkL (by rw[Yai];rfl),lk rfl,trivial⟩))⟩
theorem Zlc (l:List Int) (hl:l.length<=9223372036854775807):CT Tryz.prog gl 11 [.g (.sl 1 (l.map Zat)),.g (.sl 1 (l.map Zat))] (Is (.g (.bool true))):=by
 have ll:(l.map Zat).length=l.length:=by simp
 refine enter hT hF hM Tryz.func11 rfl 26 rfl (by kernel_rfl) [.tmp 4] rfl [.g (.sl 1 (l.map Zat)),.g (.sl 1 (l.map Zat))] rfl _ ?_;refine ⟨λh=>absurd rfl h,λ_=>?_⟩;refine ZaL (ι:=Nat) (λi=>[(13,.g (.int (i:Int)))]) (λ_=>[]) (λi=>i<=l.length) (λi=>l.length - i)
  ⟨0,[],⟨rfl,.inl rfl,.inr ⟨lk rfl,trivial⟩,rfl⟩,Yau _⟩ ?_
 intro Rd hRd i hi;refine ⟨λh1=>?_,λh1=>⟨rfl,Zbl (.inl rfl)⟩⟩;have h2:i < l.length:=by omega
 refine ⟨none,rfl,i,_,rfl,gm h2,i,_,rfl,gm h2,?_⟩;refine ⟨λh=>absurd rfl h,λ_=>⟨_,I64.wrap (by unfold I64;omega),?_⟩⟩;exact hRd _ _ _ ⟨i+1,[],⟨rfl,.inl rfl,.inr ⟨lk rfl,trivial⟩,rfl⟩,h2,by omega⟩
end ZN
namespace Barb
open Go Go.Dm Go.Eng ZN
theorem ZtV (m:Zaf) (l:List Instr) (es:List Entry) (n:Int):(Zdh m l es n).getD m.length Zas=Zgj m l es n:=by unfold Zdh;rw[Yal,Yak (Yax _),Ybk];rfl
theorem Zg7 (m:Zaf) (p:Part) (i:Nat) (h:i<=m.length):ZcK (m++[p]) i=ZcK m i:=by
 cases i with
 | zero=>rfl
 | succ i =>
  have h1:i < m.length:=by omega
  rw[ZbM (m:=m) h1,ZbM (m:=m++[p]) (by rw[Yae];omega),Ybv h1]
structure HostOk (m:Zaf) (d:List Int) (c:List Instr) (x:Zaf):Prop where
 img:Zg5 x=0
 I:Zaf.I x
 len:x.length=m.length+1
 words:Zao x=Zao m+4
 ent:(x.getD m.length Zas).entries=[⟨0,0⟩]
 code:(x.getD m.length Zas).code=c
 lo:(x.getD m.length Zas).lo=Zao m
 data:((d++[1,2,3,4]).length:Int)=Zao x
 word:∀n∈d++[1,2,3,4],ZeZ n
theorem ZAQ {m:Zaf} (him:Zg5 m=0) (hI:Zaf.I m) (h3:m.length<=3) (hw:0<=Zao m/\Zao m<=20) {d:List Int} (hd:(d.length:Int)=Zao m) (hdw:∀n∈d,ZeZ n) {c:List Instr} (hc:∀x∈c,ZaM x=0) (hc2:2<=c.length) (hc3:c.length<=1200) :
  HostOk m d c (Zdh m c [⟨0,0⟩] 4):=by
 have hwr:IntKind.i64.wrap (Zao m+4)=Zao m+4:=I64.wrap (by unfold I64;omega);have hlen:=Zni m c [⟨0,0⟩] 4;have hg:=ZtV m c [⟨0,0⟩] 4;have hlast:ZcK (Zdh m c [⟨0,0⟩] 4) m.length=Zao m:=Zg7 m _ _ (Yax _);have hx:Zao (Zdh m c [⟨0,0⟩] 4)=Zao m+4:=by
  unfold Zao;rw[hlen,ZbM (by rw[hlen];omega)];have:(Zdh m c [⟨0,0⟩] 4)[m.length]'(by rw[hlen];omega)=Zgj m c [⟨0,0⟩] 4:=by unfold Zdh;rw[Ybp (Yax _)];simp
  rw[this];show IntKind.i64.wrap (Zao m+4)=_;rw[hwr];rfl
 refine ⟨?_,⟨λq hq=>?_,by rw[hlen];omega⟩,hlen,hx,by rw[hg];rfl,by rw[hg];rfl,by rw[hg];rfl,by rw[hx,Yae];push_cast;simp only[List.length_cons,List.length_nil];omega,λn hn=>?_⟩
 ·unfold Zg5 at him ⊢;rw[if_neg (by omega)] at him;rw[if_neg (by rw[hlen];omega)];refine Zer (λj hj=>?_);rw[hlen] at hj;by_cases hjm:j < m.length
  ·have h0:=ZeM him j hjm;rw[Zgl hjm] at h0;rw[Zgl (by rw[hlen];omega)];have e1:ZcK (Zdh m c [⟨0,0⟩] 4) j=ZcK m j:=Zg7 m _ j (by omega);have e2:(Zdh m c [⟨0,0⟩] 4)[j]'(by rw[hlen];omega)=m[j]:=by unfold Zdh;rw[Ybv hjm]
   rw[e1,e2];exact h0
  ·have hje:j=m.length:=by omega
   subst hje;rw[Zgl (by rw[hlen];omega),hlast];have e2:(Zdh m c [⟨0,0⟩] 4)[m.length]'(by rw[hlen];omega)=Zgj m c [⟨0,0⟩] 4:=by unfold Zdh;rw[Ybp (Yax _)];simp
   rw[e2];unfold Zik Zgj;dsimp only;have he:Zah (Zr8 c.length) [⟨0,0⟩]=0:=Zal (λx hx=>by
    rw[Yay.1 hx];unfold Zr8;rw[if_neg (by unfold Zf7;dsimp only;omega)])
   rw[if_neg (by simp;omega),if_neg (λh=>h (Zal hc)),if_neg (λh=>h he),hwr,if_neg (by omega)]
 ·unfold Zdh at hq;rcases Yao.1 hq with hq | hq
  ·exact hI.1 q hq
  ·rw[Yay.1 hq];refine ⟨λx hx=>Zqp (hc x hx),λx hx=>?_,?_,?_,?_,?_⟩
   ·rw[Yay.1 hx];exact ⟨by unfold I64;decide,by unfold I64;decide⟩
   ·show I64 (Zao m);unfold I64;omega
   ·show I64 (IntKind.i64.wrap (Zao m+4));rw[hwr];unfold I64;omega
   ·show c.length*32<=_;omega
   ·show ([⟨0,0⟩]:List Entry).length*16<=_;decide
 ·rcases Yao.1 hn with hn | hn
  ·exact hdw n hn
  ·unfold ZeZ;simp only[Yav,YaT,or_false] at hn;omega
def ZjA (m:Zaf):List PF:=[⟨(m.length:Int),0,p8 [],[],-1⟩]
theorem ZyW {m:Zaf} {d:List Int} {c:List Instr} {x:Zaf} (h:HostOk m d c x) (n:Nat) (hn:n<=100000):Zte x (d++[1,2,3,4]) m.length 0 [] n=0/\ZvM x (d++[1,2,3,4]) m.length 0 [] n=ZrD (Zcq x n ⟨[],d++[1,2,3,4],[]⟩ (ZjA m))/\SOk x ⟨[],d++[1,2,3,4],[]⟩ (ZjA m):=by
 have hpa:Barb.partAt x m.length=x.getD m.length Zas:=by
  have hl:m.length < x.length:=by have:=h.len;omega
  rw[show ((m.length:Nat):Int)=((m.length:Nat):Int) from rfl,Barb.partAt_at hl];simp[hl]
 have hen:Zr9 x m.length 0=⟨0,0⟩:=by unfold Zr9;rw[hpa,h.ent];rfl
 have hdE:Zki x (d++[1,2,3,4])=0:=by unfold Zki;rw[if_neg (λhh=>hh h.img),if_neg (λhh=>hh h.data)];exact Zkn h.word
 have hE:Zte x (d++[1,2,3,4]) m.length 0 [] n=0:=by
  unfold Zte;rw[if_neg (λhh=>hh hdE),hpa,h.ent,hen,if_neg (by have:=h.len;simp;omega),if_neg (by simp),if_neg];rintro (hh | hh | ⟨_,hh,_⟩)
  ·omega
  ·omega
  ·simp at hh
 refine ⟨hE,?_,⟨h.img,h.data,by simp,by simp,by simp[ZjA],λf hf=>?_⟩⟩
 ·unfold ZvM;rw[if_pos hE,hen,Int.toNat_natCast];rfl
 ·unfold ZjA at hf;rw[Yay.1 hf];exact ⟨⟨m.length,rfl,by have:=h.len;omega⟩,(by decide:(0:Int)<=0),(by decide:(0:Int)<=2000),by simp[p8],by simp,by simp⟩
end Barb
