/-
  Code of raw things, of a part with others ahead of it: the contract.
-/
import Derived.Test.YtijdegmamdhcbaaDoorPk
import Derived.Test.YtijdegmamdhcbaaDoorCk
import Derived.Test.YtijdegmamdhcbaaDoorGc
namespace Barb
open Go Go.Dm Go.Eng
def okCK (l:List Instr):Prop:=∀ x∈l,instrE x=0
theorem okC_nilK:okCK []:=fun x h=>by simp at h
theorem okC_appK {l m:List Instr} (h:okCK l) (k:okCK m):okCK (l++m):=fun x hx=>by
 rcases List.mem_append.1 hx with hx | hx
 ·exact h x hx
 ·exact k x hx
theorem okC_consK {x:Instr} {l:List Instr} (h:instrE x=0) (k:okCK l):okCK (x :: l):=fun y hy=>by
 rcases List.mem_cons.1 hy with rfl | hy
 ·exact h
 ·exact k y hy
theorem instr_okK {op a b c:Int} (h1:1≤op∧op≤15) (ha:0≤a∧a≤bdA op) (hb:0≤b∧b≤bdB op) (hc:0≤c∧c≤bdC op) (hd:op=8→a≠0):instrE ⟨op,a,b,c⟩=0:=by
 unfold instrE
 rw[if_neg (fun h=>h h1),if_neg]
 unfold instrBad
 rintro (h | h | h | ⟨h,k⟩)
 ·exact h ha
 ·exact h hb
 ·exact h hc
 ·exact hd h k
theorem bd_loK (op:Int):0≤bdA op∧0≤bdB op∧0≤bdC op:=by
 unfold bdA bdB bdC
 refine ⟨?_,?_,?_⟩<;>(repeat' split)<;>omega
theorem pushOkK {a:Nat} (h:a < 65536):instrE ⟨1,a,0,0⟩=0:=instr_okK (by decide) (by unfold bdA;simp;omega) (by decide) (by decide) (fun h=>absurd h (by decide))
theorem putOkK {a:Nat} (h:a < 8):instrE ⟨5,a,0,0⟩=0:=instr_okK (by decide) (by unfold bdA;simp;omega) (by decide) (by decide) (fun h=>absurd h (by decide))
theorem getOkK {a:Nat} (h:a < 8):instrE ⟨4,a,0,0⟩=0:=instr_okK (by decide) (by unfold bdA;simp;omega) (by decide) (by decide) (fun h=>absurd h (by decide))
theorem jzOkK {a:Nat} (h:a < 1200):instrE ⟨10,a,0,0⟩=0:=instr_okK (by decide) (by unfold bdA;simp;omega) (by decide) (by decide) (fun h=>absurd h (by decide))
theorem doOkK {a:Nat} (h:a < 10):instrE ⟨8,((a+1:Nat):Int),0,0⟩=0:=instr_okK (by decide) (by unfold bdA;simp;omega) (by decide) (by decide) (fun _=>by omega)
theorem anyOkK {x:Nat} (h:x < 15) (h8:¬((x+1:Nat):Int)=8):instrE ⟨((x+1:Nat):Int),0,0,0⟩=0:=by
 obtain ⟨h1,h2,h3⟩:=bd_loK ((x+1:Nat):Int)
 exact instr_okK (by omega) ⟨by omega,h1⟩ ⟨by omega,h2⟩ ⟨by omega,h3⟩ (fun h=>absurd h h8)
theorem rowAddK (c n:List Instr) {g:List (List GV)} (h:n.map Instr.g=g):c.map Instr.g++g=(c++n).map Instr.g:=by rw[List.map_append,h]
theorem lastGK (c:List Instr) (g:List GV):(c.map Instr.g++[g])[c.length]?=some g:=by simp
theorem lastSetK (c:List Instr) (x:Instr) {g s:List GV} (h:Instr.g x=s):(c.map Instr.g++[g]).set c.length s=(c++[x]).map Instr.g:=by
 rw[List.set_append_right _ _ (by simp),← h];simp
theorem doOkK2 {x z:Nat} (h:z < 10) (e:((x+1:Nat):Int)=8):instrE ⟨((x+1:Nat):Int),((z+1:Nat):Int),0,0⟩=0:=by
 rw[e];exact doOkK h
theorem room32K {n:Nat} (h:n≤1000):n≤maxLen∧n*32≤140737488355328:=by unfold maxLen;omega
def getsK (j:Nat):List Instr:=(List.range j).map (fun k=>⟨4,(k:Nat),0,0⟩)
theorem getsK_len (j:Nat):(getsK j).length=j:=by unfold getsK;simp
theorem getsK_succ (j:Nat):getsK (j+1)=getsK j++[⟨4,j,0,0⟩]:=by unfold getsK;rw[List.range_succ,List.map_append];rfl
def codesK (m:Image) (fr:Int) (l:List Raw):List Instr:=(l.map (codeR m fr)).flatten
theorem codesK_one (m:Image) (fr:Int) (l:List Raw) (i:Nat) (h:i < l.length):codesK m fr (l.take (i+1))=codesK m fr (l.take i)++codeR m fr l[i]:=by
 unfold codesK
 rw[take_one h,List.map_append,List.flatten_append];simp
theorem getsK_ok {j:Nat} (h:j≤8):okCK (getsK j):=fun x hx=>by
 unfold getsK at hx
 obtain ⟨k,hk,rfl⟩:=List.mem_map.1 hx
 exact getOkK (by rw[List.mem_range] at hk;omega)
theorem gateOkK {a b:Nat} {n:Int} (ha:a < 5) (hb:b < 8) (hn:0≤n∧n≤4):instrE ⟨12,a,b,n⟩=0:=instr_okK (by decide) (by unfold bdA;simp;omega) (by unfold bdB;simp;omega) (by unfold bdC;simp;omega) (fun h=>absurd h (by decide))
theorem codeR_ok (m:Image) (hm5:m.length≤5) (hm:∀ q∈m,q.entries.length≤8∧∀ x∈q.entries,0≤x.params∧x.params≤4) (fr:Nat) (hfr:fr≤1000) (r:Raw):okCK (codeR m fr r)∧(codeR m fr r).length≤6:=by
 have pk:∀ (n:Int) (many:Nat),0 < many→∃ k:Nat,k < many∧pickN n (many:Int)=(k:Int):=fun n many h=>by
  obtain ⟨k,h1,h2⟩:=pickN_nat n h
  exact ⟨k,h2,h1⟩
 obtain ⟨a9,a9l,a9e⟩:=pk r.a 9 (by decide)
 obtain ⟨a4,a4l,a4e⟩:=pk r.a 4 (by decide)
 obtain ⟨b4,b4l,b4e⟩:=pk r.b 4 (by decide)
 obtain ⟨c4,c4l,c4e⟩:=pk r.c 4 (by decide)
 obtain ⟨b60,b60l,b60e⟩:=pk r.b 60 (by decide)
 obtain ⟨a15,a15l,a15e⟩:=pk r.a 15 (by decide)
 obtain ⟨b10,b10l,b10e⟩:=pk r.b 10 (by decide)
 obtain ⟨a250,a250l,a250e⟩:=pk r.a 250 (by decide)
 have a9e:pickN r.a 9=(a9:Int):=a9e
 have a4e:pickN r.a 4=(a4:Int):=a4e
 have b4e:pickN r.b 4=(b4:Int):=b4e
 have c4e:pickN r.c 4=(c4:Int):=c4e
 have b60e:pickN r.b 60=(b60:Int):=b60e
 have a15e:pickN r.a 15=(a15:Int):=a15e
 have b10e:pickN r.b 10=(b10:Int):=b10e
 have a250e:pickN r.a 250=(a250:Int):=a250e
 obtain ⟨at_,hatl,hat⟩:∃ at_:Nat,at_ < 65536∧codeAt fr r=(at_:Int):=by
  unfold codeAt
  split
  ·exact ⟨a250,by omega,a250e⟩
  ·exact ⟨fr+a4,by omega,by rw[a4e];push_cast;rfl⟩
 unfold codeR
 dsimp only
 split
 ·rw[a9e,b4e];exact ⟨okC_consK (pushOkK (by omega)) (okC_consK (putOkK (by omega)) okC_nilK),by simp⟩
 split
 ·rw[hat,b4e];exact ⟨okC_consK (pushOkK hatl) (okC_consK (getOkK (by omega)) (okC_consK (by decide) okC_nilK)),by simp⟩
 split
 ·rw[hat,b4e];exact ⟨okC_consK (pushOkK hatl) (okC_consK (by decide) (okC_consK (putOkK (by omega)) okC_nilK)),by simp⟩
 split
 ·rename_i hg
  obtain ⟨pp,hpp,hppe⟩:=pk r.a m.length hg.2
  obtain ⟨he8,hpar⟩:=hm _ (List.getElem_mem hpp)
  unfold codeG
  dsimp only
  rw[hppe,Int.toNat_natCast,show m.getD pp ⟨[],[],0,0⟩=m[pp] by simp[hpp]]
  split
  ·exact ⟨okC_nilK,by simp⟩
  ·rename_i he0
   obtain ⟨ee,hee,heee⟩:=pk r.b m[pp].entries.length (by omega)
   obtain ⟨q0,q4⟩:=hpar _ (List.getElem_mem hee)
   rw[heee,Int.toNat_natCast,show m[pp].entries.getD ee ⟨0,0⟩=m[pp].entries[ee] by simp[hee]]
   unfold gatesP
   rw[c4e]
   refine ⟨okC_appK (getsK_ok (j:=m[pp].entries[ee].params.toNat) (by omega)) (okC_consK (gateOkK (by omega) (by omega) ⟨q0,q4⟩) (okC_consK (putOkK (by omega)) okC_nilK)),?_⟩
   simp only[List.length_append,List.length_map,List.length_range,List.length_cons,List.length_nil]
   omega
 split
 ·rw[a4e,b60e];exact ⟨okC_consK (getOkK (by omega)) (okC_consK (jzOkK (by omega)) okC_nilK),by simp⟩
 split
 ·rw[a15e,b10e,show (1:Int)+a15=((a15+1:Nat):Int) by omega]
  split
  ·rename_i e
   rw[show (1:Int)+b10=((b10+1:Nat):Int) by omega]
   exact ⟨okC_consK (doOkK2 (by omega) e) okC_nilK,by simp⟩
  ·rename_i e
   exact ⟨okC_consK (anyOkK (by omega) e) okC_nilK,by simp⟩
 ·exact ⟨okC_consK (by decide) (okC_consK (by decide) (okC_consK (by decide) (okC_consK (by decide) okC_nilK))),by simp⟩
theorem codeP_ok (m:Image) (hm5:m.length≤5) (hm:∀ q∈m,q.entries.length≤8∧∀ x∈q.entries,0≤x.params∧x.params≤4) (fr:Nat) (hfr:fr≤1000) (l:List Raw):okCK (codeP l m fr)∧2≤(codeP l m fr).length∧(codeP l m fr).length≤182:=by
 have key:∀ l:List Raw,okCK ((l.map (codeR m fr)).flatten)∧((l.map (codeR m fr)).flatten).length≤6*l.length:=by
  intro l
  induction l with
  | nil=>exact ⟨okC_nilK,by simp⟩
  | cons r l ih =>
   obtain ⟨h1,h2⟩:=codeR_ok m hm5 hm fr hfr r
   rw[List.map_cons,List.flatten_cons,List.length_append,List.length_cons]
   exact ⟨okC_appK h1 ih.1,by have:=ih.2;omega⟩
 obtain ⟨k1,k2⟩:=key (l.take 30)
 have k3:(l.take 30).length≤30:=by rw[List.length_take];omega
 unfold codeP
 rw[List.length_append]
 exact ⟨okC_appK k1 (okC_consK (by decide) (okC_consK (by decide) okC_nilK)),by simp,by simp only[List.length_cons,List.length_nil];omega⟩
end Barb
namespace Go.Proofs.YtijdegmamdhcbaaDoor
open Go Go.Dm Go.Eng Barb
theorem pickK (n:Int) (hn:I64 n) (many:Nat) (hm:0 < many):∃ k:Nat,(k < many∧pickN n (many:Int)=(k:Int))∧CT Tryd.prog gl 25 [.g (.int n),.g (.int (many:Int))] (Is (.g (.int (k:Int)))):=by
 obtain ⟨k,hk,hl⟩:=pickN_nat n hm
 exact ⟨k,⟨hl,hk⟩,hk▸picked_any n many hn (by omega)⟩
theorem dJK {a b:Int} (h:a=b):D.g (.int a)=D.g (.int b):=by rw[h]

set_option maxRecDepth 20000 in
set_option maxHeartbeats 8000000 in
theorem Code_Q (m:Image) (hm:∀ q∈m,q.entries.length≤8∧∀ x∈q.entries,0≤x.params∧x.params≤4) (fr:Nat) (hfr:fr≤1000) (l:List Barb.Raw) (hI:∀ r∈l,Barb.Raw.I r) (Q:Out→Prop) (hQ:∀ (h:Heap) (i:Nat),h[i]?=some (.row ((codeP l m fr).map Instr.g) 55 4)→RetTo Q h (.row i)):CT Tryd.prog gl 17 [.g (.sl 4 (l.map Raw.g)),.agg [.g (.sl 4 (m.map Part.g))],.g (.int (fr:Int))] Q:=by
 have ll:(l.map Raw.g).length=l.length:=by simp
 have lm:(m.map Part.g).length=m.length:=List.length_map _
 refine enter hT hF hM Tryd.func17 rfl 204 rfl (by kernel_rfl) [.tmp 6] rfl [.g (.sl 4 (l.map Raw.g)),.agg [.g (.sl 4 (m.map Part.g))],.g (.int (fr:Int))] rfl _ ?_
 refine loopR (ι:=Nat × List Barb.Instr) (fun i=>[(8,.g (.int (i.1:Int))),(7,.row 1),(4,.ptr 0 0)]) (fun i=>[.blk [.g (.sl 4 (m.map Part.g))] 28,.row (i.2.map Instr.g) 55 4]) (fun i=>i.1≤l.length∧i.1≤30∧i.2=codesK m fr (l.take i.1)∧i.2.length≤6*i.1) (fun i=>l.length - i.1)
  ⟨(0,[]),[.old 0,.nil 55 4],⟨rfl,.inl rfl,.inr ⟨lk rfl,.inr rfl,lk rfl,trivial⟩,rfl⟩,⟨Nat.zero_le _,Nat.zero_le _,rfl,Nat.zero_le _⟩⟩ ?_
 rintro Rd hRd ⟨i,c⟩ ⟨hi,hi30,hok,hlen⟩
 dsimp only at hi hi30 hok hlen
 have fin:(i=l.length∨i=30)→∀ h:Heap,h[3]?=some (.row (c.map Instr.g++[Instr.g ⟨4,0,0,0⟩,Instr.g ⟨13,0,0,0⟩]) 55 4)→RetTo Q h (.row 3):=fun hi' h hh=>by
  have e:codeP l m fr=c++[⟨4,0,0,0⟩,⟨13,0,0,0⟩]:=by
   unfold codeP
   rw[hok]
   unfold codesK
   rcases hi' with hh | hh
   ·rw[hh,List.take_length,List.take_of_length_le (by omega)]
   ·rw[hh]
  exact hQ h 3 (by rw[e,List.map_append];exact hh)
 refine ⟨fun b0=>⟨fun b1=>?_,fun b1=>?_⟩,fun b0=>?_⟩
 rotate_left
 ·refine ⟨[Instr.g ⟨4,0,0,0⟩,Instr.g ⟨13,0,0,0⟩],rfl,rfl,⟨rfl,rfl,rfl,rfl,rfl,rfl,rfl,rfl,trivial⟩,?_⟩
  exact ⟨room32K (by simp only[List.length_map,List.length_cons,List.length_nil];omega),rfl,fin (by omega) _ rfl⟩
 ·refine ⟨[Instr.g ⟨4,0,0,0⟩,Instr.g ⟨13,0,0,0⟩],rfl,rfl,⟨rfl,rfl,rfl,rfl,rfl,rfl,rfl,rfl,trivial⟩,?_⟩
  exact ⟨room32K (by simp only[List.length_map,List.length_cons,List.length_nil];omega),rfl,fin (by omega) _ rfl⟩
 have h1:i < l.length:=by omega
 obtain ⟨rk,ra,rb,rc⟩:=hI _ (List.getElem_mem h1)
 refine ⟨i,_,rfl,gm h1,?_⟩
 have hnx:=codesK_one m fr l i h1
 generalize l[i]=r at *
 have inv:∀ news:List Barb.Instr,news.length≤6→codeR m fr r=news→i+1≤l.length∧i+1≤30∧c++news=codesK m fr (l.take (i+1))∧(c++news).length≤6*(i+1):=fun news h3 h4=>⟨by omega,by omega,by rw[hnx,h4,hok],by rw[List.length_append];omega⟩
 obtain ⟨k0,⟨hk0,hk0e⟩,p0⟩:=pickK r.a ra 4 (by decide)
 have hk0e:pickN r.a 4=(k0:Int):=hk0e
 obtain ⟨k,hkf⟩:∃ k:Nat,k=fr+k0:=⟨_,rfl⟩
 refine callIs (.inl rfl) p0 ⟨(k:Int),(I64.wrap (by unfold I64;omega)).trans (by omega),?_⟩
 obtain ⟨b12,⟨_,hbe⟩,p1⟩:=pickK r.b rb 12 (by decide)
 have hbe:pickN r.b 12=(b12:Int):=hbe
 refine callIs (.inl rfl) p1 ⟨fun hb=>?_,fun hb=>?_⟩
 ·obtain ⟨k,⟨hk,hke⟩,p2⟩:=pickK r.a ra 250 (by decide)
  have hke:pickN r.a 250=(k:Int):=hke
  have hat:codeAt fr r=(k:Int):=by unfold codeAt;rw[hbe,if_pos hb,hke]
  refine callIs (.inl rfl) p2 ?_
  obtain ⟨kd,⟨hkd,hkde⟩,pm⟩:=pickK r.kind rk 16 (by decide)
  have hkde:pickN r.kind 16=(kd:Int):=hkde
  obtain ⟨y,⟨hy,hye⟩,py⟩:=pickK r.b rb 4 (by decide)
  have hye:pickN r.b 4=(y:Int):=hye
  refine callIs (.inl rfl) pm ⟨fun c1=>?_,fun c1=>⟨fun c2=>?_,fun c2=>⟨fun c3=>?_,fun c3=>?_⟩⟩⟩
  ·obtain ⟨x,⟨hx,hxe⟩,px⟩:=pickK r.a ra 9 (by decide)
   have hxe:pickN r.a 9=(x:Int):=hxe
   refine ⟨none,rfl,_,_,.inl rfl,px,rfl,_,_,.inl rfl,py,rfl,[Instr.g ⟨1,x,0,0⟩,Instr.g ⟨5,y,0,0⟩],rfl,rfl,⟨rfl,rfl,rfl,rfl,rfl,rfl,rfl,rfl,trivial⟩,?_⟩
   refine ⟨room32K (by simp only[List.length_map,List.length_cons,List.length_nil];omega),?_⟩
   refine ⟨_,I64.wrap (by unfold I64;omega),?_⟩
   exact hRd _ _ _ ⟨(i+1,c++[⟨1,x,0,0⟩,⟨5,y,0,0⟩]),[.old 0,.old 4],⟨rfl,.inr ⟨⟨rfl,.inl rfl⟩,⟨rowAddK c _ rfl,rfl,rfl⟩,trivial⟩,.inr ⟨lk rfl,lk rfl,lk rfl,trivial⟩,rfl⟩,inv _ (by simp) (by unfold codeR;dsimp only;rw[hkde,if_pos c1,hxe,hye]),by dsimp only;omega⟩
  ·refine callIs (.inl rfl) py ?_
   refine ⟨[Instr.g ⟨1,k,0,0⟩,Instr.g ⟨4,y,0,0⟩,Instr.g ⟨7,0,0,0⟩],rfl,rfl,⟨rfl,rfl,rfl,rfl,rfl,rfl,rfl,rfl,rfl,rfl,rfl,rfl,trivial⟩,?_⟩
   refine ⟨room32K (by simp only[List.length_map,List.length_cons,List.length_nil];omega),?_⟩
   refine ⟨_,I64.wrap (by unfold I64;omega),?_⟩
   exact hRd _ _ _ ⟨(i+1,c++[⟨1,k,0,0⟩,⟨4,y,0,0⟩,⟨7,0,0,0⟩]),[.old 0,.old 4],⟨rfl,.inr ⟨⟨rfl,.inl rfl⟩,⟨rowAddK c _ rfl,rfl,rfl⟩,trivial⟩,.inr ⟨lk rfl,lk rfl,lk rfl,trivial⟩,rfl⟩,inv _ (by simp) (by unfold codeR;dsimp only;rw[hkde,if_neg c1,if_pos c2,hat,hye]),by dsimp only;omega⟩
  ·refine callIs (.inl rfl) py ?_
   refine ⟨[Instr.g ⟨1,k,0,0⟩,Instr.g ⟨6,0,0,0⟩,Instr.g ⟨5,y,0,0⟩],rfl,rfl,⟨rfl,rfl,rfl,rfl,rfl,rfl,rfl,rfl,rfl,rfl,rfl,rfl,trivial⟩,?_⟩
   refine ⟨room32K (by simp only[List.length_map,List.length_cons,List.length_nil];omega),?_⟩
   refine ⟨_,I64.wrap (by unfold I64;omega),?_⟩
   exact hRd _ _ _ ⟨(i+1,c++[⟨1,k,0,0⟩,⟨6,0,0,0⟩,⟨5,y,0,0⟩]),[.old 0,.old 4],⟨rfl,.inr ⟨⟨rfl,.inl rfl⟩,⟨rowAddK c _ rfl,rfl,rfl⟩,trivial⟩,.inr ⟨lk rfl,lk rfl,lk rfl,trivial⟩,rfl⟩,inv _ (by simp) (by unfold codeR;dsimp only;rw[hkde,if_neg c1,if_neg c2,if_pos c3,hat,hye]),by dsimp only;omega⟩
  refine ⟨fun c4=>⟨fun z=>?_,fun zn=>⟨fun e=>(by exfalso;omega),fun _=>⟨fun e=>(by exfalso;omega),fun _=>?_⟩⟩⟩,fun c4=>⟨fun c5=>?_,fun c5=>⟨fun c6=>?_,fun c6=>?_⟩⟩⟩
  ·have hml:0 < m.length:=by have:(0:Int) < ((m.map Part.g).length:Nat):=z;omega
   obtain ⟨pp,⟨hpp,hppe⟩,pP⟩:=pickK r.a ra m.length hml
   rw[← lm] at pP
   refine callIs (.inl rfl) pP ?_
   obtain ⟨he8,hpar⟩:=hm _ (List.getElem_mem hpp)
   have hget:=(gm hpp:(m.map Part.g)[pp]?=some (Part.g m[pp]))
   have hcR:codeR m fr r=codeG m r:=by unfold codeR;dsimp only;rw[hkde,if_neg c1,if_neg c2,if_neg c3,if_pos ⟨c4,hml⟩]
   have hcG:codeG m r=if m[pp].entries.length=0 then [] else gatesP pp (pickN r.b m[pp].entries.length) (m[pp].entries.getD (pickN r.b m[pp].entries.length).toNat ⟨0,0⟩).params r:=by
    unfold codeG
    dsimp only
    rw[hppe,Int.toNat_natCast,show m.getD pp ⟨[],[],0,0⟩=m[pp] by simp[hpp]]
   rw[hcG] at hcR
   generalize m[pp]=q at *
   have le:(q.entries.map Entry.g).length=q.entries.length:=List.length_map _
   refine ⟨pp,_,rfl,hget,?_⟩
   refine ⟨fun e0=>?_,fun e0=>?_⟩
   ·refine ⟨_,I64.wrap (by unfold I64;omega),?_⟩
    exact hRd _ _ _ ⟨(i+1,c++[]),[.old 0,.old 1],⟨rfl,.inr ⟨⟨rfl,.inl rfl⟩,⟨(by rw[List.append_nil]),rfl,rfl⟩,trivial⟩,.inr ⟨lk rfl,lk rfl,lk rfl,trivial⟩,rfl⟩,inv _ (by simp) (by rw[hcR,if_pos (by have e1:((q.entries.map Entry.g).length:Int)=0:=e0;omega)]),by dsimp only;omega⟩
   have hel:0 < q.entries.length:=by have e1:¬((q.entries.map Entry.g).length:Int)=0:=e0;omega
   obtain ⟨ee,⟨hee,heee⟩,pE⟩:=pickK r.b rb q.entries.length hel
   rw[if_neg (by omega),heee,Int.toNat_natCast,show q.entries.getD ee ⟨0,0⟩=q.entries[ee] by simp[hee]] at hcR
   rw[← le] at pE
   obtain ⟨q0,q4⟩:=hpar _ (List.getElem_mem hee)
   have hge:=(gm hee:(q.entries.map Entry.g)[ee]?=some (Entry.g q.entries[ee]))
   generalize q.entries[ee]=en at *
   obtain ⟨nn,hnn⟩:∃ nn:Nat,en.params=(nn:Int):=⟨_,(Int.toNat_of_nonneg q0).symm⟩
   refine ⟨none,rfl,pp,_,rfl,hget,_,_,.inl rfl,pE,rfl,?_⟩
   refine ⟨pp,_,rfl,hget,ee,_,rfl,hge,?_⟩
   refine loopR (ι:=Nat) (fun j=>[(4,.ptr 0 0),(7,.row 1),(9,.ptr 2 0),(136,.g (.int (j:Int)))])
    (fun j=>[.blk [.g (.sl 4 (m.map Part.g))] 28,.row ((c++getsK j).map Instr.g) 55 4,.blk r.d 24]) (fun j=>j≤nn) (fun j=>nn - j)
    ⟨0,[.old 0,.old 1,.old 2],⟨rfl,.inr ⟨⟨rfl,.inl rfl⟩,⟨(by show _=(c++[]).map Instr.g;rw[List.append_nil]),rfl,rfl⟩,⟨rfl,.inl rfl⟩,trivial⟩,.inr ⟨lk rfl,lk rfl,lk rfl,lk rfl,trivial⟩,rfl⟩,Nat.zero_le _⟩ ?_
   intro Rj hRj j hj
   have hgl:=getsK_len j
   refine ⟨fun d1=>?_,fun d1=>?_⟩
   ·have hjl:j < nn:=by have d2:(j:Int) < en.params:=d1;omega
    refine ⟨[Instr.g ⟨4,j,0,0⟩],rfl,rfl,⟨rfl,rfl,rfl,rfl,trivial⟩,?_⟩
    refine ⟨room32K (by simp only[List.length_map,List.length_append,List.length_cons,List.length_nil];omega),?_⟩
    refine ⟨_,I64.wrap (by unfold I64;omega),?_⟩
    exact hRj _ _ _ ⟨j+1,[.old 0,.old 4,.old 2],⟨rfl,.inr ⟨⟨rfl,.inl rfl⟩,⟨(by rw[getsK_succ,← List.append_assoc];exact rowAddK (c++getsK j) [⟨4,j,0,0⟩] rfl),rfl,rfl⟩,⟨rfl,.inl rfl⟩,trivial⟩,.inr ⟨lk rfl,lk rfl,lk rfl,lkI (by push_cast;rfl),trivial⟩,rfl⟩,hjl,by show nn - (j+1) < nn - j;omega⟩
   ·have hjn:j=nn:=by have d2:¬(j:Int) < en.params:=d1;omega
    subst hjn
    obtain ⟨x,⟨hx,hxe⟩,px⟩:=pickK r.c rc 4 (by decide)
    have hxe:pickN r.c 4=(x:Int):=hxe
    refine callIs (.inl rfl) px ?_
    refine ⟨[Instr.g ⟨12,pp,ee,en.params⟩,Instr.g ⟨5,x,0,0⟩],rfl,rfl,⟨rfl,rfl,rfl,rfl,rfl,rfl,rfl,rfl,trivial⟩,?_⟩
    refine ⟨room32K (by simp only[List.length_map,List.length_append,List.length_cons,List.length_nil];omega),?_⟩
    refine ⟨_,I64.wrap (by unfold I64;omega),?_⟩
    exact hRd _ _ _ ⟨(i+1,c++(getsK j++[⟨12,pp,ee,en.params⟩,⟨5,x,0,0⟩])),[.old 0,.old 4],⟨rfl,.inr ⟨⟨rfl,.inl rfl⟩,⟨(by rw[← List.append_assoc];exact rowAddK (c++getsK j) [⟨12,pp,ee,en.params⟩,⟨5,x,0,0⟩] rfl),rfl,rfl⟩,trivial⟩,.inr ⟨lk rfl,lk rfl,lk rfl,trivial⟩,rfl⟩,inv _ (by rw[List.length_append,hgl];simp;omega) (by rw[hcR];unfold gatesP getsK;rw[hnn,hxe,Int.toNat_natCast]),by dsimp only;omega⟩
  ·refine ⟨[Instr.g ⟨1,1,0,0⟩,Instr.g ⟨4,1,0,0⟩,Instr.g ⟨8,1,0,0⟩,Instr.g ⟨5,1,0,0⟩],rfl,rfl,⟨rfl,rfl,rfl,rfl,rfl,rfl,rfl,rfl,rfl,rfl,rfl,rfl,rfl,rfl,rfl,rfl,trivial⟩,?_⟩
   refine ⟨room32K (by simp only[List.length_map,List.length_cons,List.length_nil];omega),?_⟩
   refine ⟨_,I64.wrap (by unfold I64;omega),?_⟩
   exact hRd _ _ _ ⟨(i+1,c++[⟨1,1,0,0⟩,⟨4,1,0,0⟩,⟨8,1,0,0⟩,⟨5,1,0,0⟩]),[.old 0,.old 4],⟨rfl,.inr ⟨⟨rfl,.inl rfl⟩,⟨rowAddK c _ rfl,rfl,rfl⟩,trivial⟩,.inr ⟨lk rfl,lk rfl,lk rfl,trivial⟩,rfl⟩,inv _ (by simp) (by unfold codeR;dsimp only;rw[hkde,if_neg c1,if_neg c2,if_neg c3,if_neg (fun h=>zn (by have:=h.2;omega)),if_neg (by omega),if_neg (by omega)]),by dsimp only;omega⟩
  ·obtain ⟨x,⟨hx,hxe⟩,px⟩:=pickK r.a ra 4 (by decide)
   have hxe:pickN r.a 4=(x:Int):=hxe
   obtain ⟨z,⟨hz,hze⟩,pz⟩:=pickK r.b rb 60 (by decide)
   have hze:pickN r.b 60=(z:Int):=hze
   refine ⟨none,rfl,_,_,.inl rfl,px,rfl,_,_,.inl rfl,pz,rfl,[Instr.g ⟨4,x,0,0⟩,Instr.g ⟨10,z,0,0⟩],rfl,rfl,⟨rfl,rfl,rfl,rfl,rfl,rfl,rfl,rfl,trivial⟩,?_⟩
   refine ⟨room32K (by simp only[List.length_map,List.length_cons,List.length_nil];omega),?_⟩
   refine ⟨_,I64.wrap (by unfold I64;omega),?_⟩
   exact hRd _ _ _ ⟨(i+1,c++[⟨4,x,0,0⟩,⟨10,z,0,0⟩]),[.old 0,.old 4],⟨rfl,.inr ⟨⟨rfl,.inl rfl⟩,⟨rowAddK c _ rfl,rfl,rfl⟩,trivial⟩,.inr ⟨lk rfl,lk rfl,lk rfl,trivial⟩,rfl⟩,inv _ (by simp) (by unfold codeR;dsimp only;rw[hkde,if_neg c1,if_neg c2,if_neg c3,if_neg (fun h=>c4 h.1),if_pos c5,hxe,hze]),by dsimp only;omega⟩
  ·obtain ⟨x,⟨hx,hxe⟩,px⟩:=pickK r.a ra 15 (by decide)
   have hxe:pickN r.a 15=(x:Int):=hxe
   obtain ⟨z,⟨hz,hze⟩,pz⟩:=pickK r.b rb 10 (by decide)
   have hze:pickN r.b 10=(z:Int):=hze
   refine callIs (.inl rfl) px ⟨((x+1:Nat):Int),(I64.wrap (by unfold I64;omega)).trans (by omega),?_⟩
   refine ⟨[Instr.g ⟨((x+1:Nat):Int),0,0,0⟩],rfl,rfl,⟨rfl,rfl,rfl,rfl,trivial⟩,?_⟩
   refine ⟨room32K (by simp only[List.length_map,List.length_cons,List.length_nil];omega),?_⟩
   refine ⟨by unfold I64;simp only[List.length_append,List.length_map,List.length_cons,List.length_nil];omega,c.length,dJK (by simp only[List.length_append,List.length_map,List.length_cons,List.length_nil];omega),by simp,?_⟩
   refine ⟨_,lastGK c _,?_⟩
   refine ⟨fun e=>?_,fun e=>?_⟩
   ·refine ⟨by unfold I64;simp only[List.length_append,List.length_map,List.length_cons,List.length_nil];omega,?_⟩
    refine callIs (.inl rfl) pz ⟨((z+1:Nat):Int),(I64.wrap (by unfold I64;omega)).trans (by omega),?_⟩
    refine ⟨c.length,dJK (by simp only[List.length_append,List.length_map,List.length_cons,List.length_nil];omega),by simp,?_⟩
    refine ⟨_,[.int ((z+1:Nat):Int)],lastGK c _,⟨rfl,trivial⟩,Nat.le_of_ble_eq_true rfl,(fun h=>by cases h),?_⟩
    refine ⟨_,I64.wrap (by unfold I64;omega),?_⟩
    exact hRd _ _ _ ⟨(i+1,c++[⟨((x+1:Nat):Int),((z+1:Nat):Int),0,0⟩]),[.old 0,.old 4],⟨rfl,.inr ⟨⟨rfl,.inl rfl⟩,⟨lastSetK c _ rfl,rfl,rfl⟩,trivial⟩,.inr ⟨lk rfl,lk rfl,lk rfl,trivial⟩,rfl⟩,inv _ (by simp) (by unfold codeR;dsimp only;rw[hkde,if_neg c1,if_neg c2,if_neg c3,if_neg (fun h=>c4 h.1),if_neg c5,if_pos c6,hxe,hze,show (1:Int)+x=((x+1:Nat):Int) by omega,if_pos e,show (1:Int)+z=((z+1:Nat):Int) by omega]),by dsimp only;omega⟩
   ·refine ⟨_,I64.wrap (by unfold I64;omega),?_⟩
    exact hRd _ _ _ ⟨(i+1,c++[⟨((x+1:Nat):Int),0,0,0⟩]),[.old 0,.old 4],⟨rfl,.inr ⟨⟨rfl,.inl rfl⟩,⟨rowAddK c _ rfl,rfl,rfl⟩,trivial⟩,.inr ⟨lk rfl,lk rfl,lk rfl,trivial⟩,rfl⟩,inv _ (by simp) (by unfold codeR;dsimp only;rw[hkde,if_neg c1,if_neg c2,if_neg c3,if_neg (fun h=>c4 h.1),if_neg c5,if_pos c6,hxe,show (1:Int)+x=((x+1:Nat):Int) by omega,if_neg e]),by dsimp only;omega⟩
  ·refine ⟨[Instr.g ⟨1,1,0,0⟩,Instr.g ⟨4,1,0,0⟩,Instr.g ⟨8,1,0,0⟩,Instr.g ⟨5,1,0,0⟩],rfl,rfl,⟨rfl,rfl,rfl,rfl,rfl,rfl,rfl,rfl,rfl,rfl,rfl,rfl,rfl,rfl,rfl,rfl,trivial⟩,?_⟩
   refine ⟨room32K (by simp only[List.length_map,List.length_cons,List.length_nil];omega),?_⟩
   refine ⟨_,I64.wrap (by unfold I64;omega),?_⟩
   exact hRd _ _ _ ⟨(i+1,c++[⟨1,1,0,0⟩,⟨4,1,0,0⟩,⟨8,1,0,0⟩,⟨5,1,0,0⟩]),[.old 0,.old 4],⟨rfl,.inr ⟨⟨rfl,.inl rfl⟩,⟨rowAddK c _ rfl,rfl,rfl⟩,trivial⟩,.inr ⟨lk rfl,lk rfl,lk rfl,trivial⟩,rfl⟩,inv _ (by simp) (by unfold codeR;dsimp only;rw[hkde,if_neg c1,if_neg c2,if_neg c3,if_neg (fun h=>c4 h.1),if_neg c5,if_neg c6]),by dsimp only;omega⟩
 ·have hat:codeAt fr r=(k:Int):=by unfold codeAt;rw[hbe,if_neg hb,hk0e,hkf];push_cast;rfl
  obtain ⟨kd,⟨hkd,hkde⟩,pm⟩:=pickK r.kind rk 16 (by decide)
  have hkde:pickN r.kind 16=(kd:Int):=hkde
  obtain ⟨y,⟨hy,hye⟩,py⟩:=pickK r.b rb 4 (by decide)
  have hye:pickN r.b 4=(y:Int):=hye
  refine callIs (.inl rfl) pm ⟨fun c1=>?_,fun c1=>⟨fun c2=>?_,fun c2=>⟨fun c3=>?_,fun c3=>?_⟩⟩⟩
  ·obtain ⟨x,⟨hx,hxe⟩,px⟩:=pickK r.a ra 9 (by decide)
   have hxe:pickN r.a 9=(x:Int):=hxe
   refine ⟨none,rfl,_,_,.inl rfl,px,rfl,_,_,.inl rfl,py,rfl,[Instr.g ⟨1,x,0,0⟩,Instr.g ⟨5,y,0,0⟩],rfl,rfl,⟨rfl,rfl,rfl,rfl,rfl,rfl,rfl,rfl,trivial⟩,?_⟩
   refine ⟨room32K (by simp only[List.length_map,List.length_cons,List.length_nil];omega),?_⟩
   refine ⟨_,I64.wrap (by unfold I64;omega),?_⟩
   exact hRd _ _ _ ⟨(i+1,c++[⟨1,x,0,0⟩,⟨5,y,0,0⟩]),[.old 0,.old 4],⟨rfl,.inr ⟨⟨rfl,.inl rfl⟩,⟨rowAddK c _ rfl,rfl,rfl⟩,trivial⟩,.inr ⟨lk rfl,lk rfl,lk rfl,trivial⟩,rfl⟩,inv _ (by simp) (by unfold codeR;dsimp only;rw[hkde,if_pos c1,hxe,hye]),by dsimp only;omega⟩
  ·refine callIs (.inl rfl) py ?_
   refine ⟨[Instr.g ⟨1,k,0,0⟩,Instr.g ⟨4,y,0,0⟩,Instr.g ⟨7,0,0,0⟩],rfl,rfl,⟨rfl,rfl,rfl,rfl,rfl,rfl,rfl,rfl,rfl,rfl,rfl,rfl,trivial⟩,?_⟩
   refine ⟨room32K (by simp only[List.length_map,List.length_cons,List.length_nil];omega),?_⟩
   refine ⟨_,I64.wrap (by unfold I64;omega),?_⟩
   exact hRd _ _ _ ⟨(i+1,c++[⟨1,k,0,0⟩,⟨4,y,0,0⟩,⟨7,0,0,0⟩]),[.old 0,.old 4],⟨rfl,.inr ⟨⟨rfl,.inl rfl⟩,⟨rowAddK c _ rfl,rfl,rfl⟩,trivial⟩,.inr ⟨lk rfl,lk rfl,lk rfl,trivial⟩,rfl⟩,inv _ (by simp) (by unfold codeR;dsimp only;rw[hkde,if_neg c1,if_pos c2,hat,hye]),by dsimp only;omega⟩
  ·refine callIs (.inl rfl) py ?_
   refine ⟨[Instr.g ⟨1,k,0,0⟩,Instr.g ⟨6,0,0,0⟩,Instr.g ⟨5,y,0,0⟩],rfl,rfl,⟨rfl,rfl,rfl,rfl,rfl,rfl,rfl,rfl,rfl,rfl,rfl,rfl,trivial⟩,?_⟩
   refine ⟨room32K (by simp only[List.length_map,List.length_cons,List.length_nil];omega),?_⟩
   refine ⟨_,I64.wrap (by unfold I64;omega),?_⟩
   exact hRd _ _ _ ⟨(i+1,c++[⟨1,k,0,0⟩,⟨6,0,0,0⟩,⟨5,y,0,0⟩]),[.old 0,.old 4],⟨rfl,.inr ⟨⟨rfl,.inl rfl⟩,⟨rowAddK c _ rfl,rfl,rfl⟩,trivial⟩,.inr ⟨lk rfl,lk rfl,lk rfl,trivial⟩,rfl⟩,inv _ (by simp) (by unfold codeR;dsimp only;rw[hkde,if_neg c1,if_neg c2,if_pos c3,hat,hye]),by dsimp only;omega⟩
  refine ⟨fun c4=>⟨fun z=>?_,fun zn=>⟨fun e=>(by exfalso;omega),fun _=>⟨fun e=>(by exfalso;omega),fun _=>?_⟩⟩⟩,fun c4=>⟨fun c5=>?_,fun c5=>⟨fun c6=>?_,fun c6=>?_⟩⟩⟩
  ·have hml:0 < m.length:=by have:(0:Int) < ((m.map Part.g).length:Nat):=z;omega
   obtain ⟨pp,⟨hpp,hppe⟩,pP⟩:=pickK r.a ra m.length hml
   rw[← lm] at pP
   refine callIs (.inl rfl) pP ?_
   obtain ⟨he8,hpar⟩:=hm _ (List.getElem_mem hpp)
   have hget:=(gm hpp:(m.map Part.g)[pp]?=some (Part.g m[pp]))
   have hcR:codeR m fr r=codeG m r:=by unfold codeR;dsimp only;rw[hkde,if_neg c1,if_neg c2,if_neg c3,if_pos ⟨c4,hml⟩]
   have hcG:codeG m r=if m[pp].entries.length=0 then [] else gatesP pp (pickN r.b m[pp].entries.length) (m[pp].entries.getD (pickN r.b m[pp].entries.length).toNat ⟨0,0⟩).params r:=by
    unfold codeG
    dsimp only
    rw[hppe,Int.toNat_natCast,show m.getD pp ⟨[],[],0,0⟩=m[pp] by simp[hpp]]
   rw[hcG] at hcR
   generalize m[pp]=q at *
   have le:(q.entries.map Entry.g).length=q.entries.length:=List.length_map _
   refine ⟨pp,_,rfl,hget,?_⟩
   refine ⟨fun e0=>?_,fun e0=>?_⟩
   ·refine ⟨_,I64.wrap (by unfold I64;omega),?_⟩
    exact hRd _ _ _ ⟨(i+1,c++[]),[.old 0,.old 1],⟨rfl,.inr ⟨⟨rfl,.inl rfl⟩,⟨(by rw[List.append_nil]),rfl,rfl⟩,trivial⟩,.inr ⟨lk rfl,lk rfl,lk rfl,trivial⟩,rfl⟩,inv _ (by simp) (by rw[hcR,if_pos (by have e1:((q.entries.map Entry.g).length:Int)=0:=e0;omega)]),by dsimp only;omega⟩
   have hel:0 < q.entries.length:=by have e1:¬((q.entries.map Entry.g).length:Int)=0:=e0;omega
   obtain ⟨ee,⟨hee,heee⟩,pE⟩:=pickK r.b rb q.entries.length hel
   rw[if_neg (by omega),heee,Int.toNat_natCast,show q.entries.getD ee ⟨0,0⟩=q.entries[ee] by simp[hee]] at hcR
   rw[← le] at pE
   obtain ⟨q0,q4⟩:=hpar _ (List.getElem_mem hee)
   have hge:=(gm hee:(q.entries.map Entry.g)[ee]?=some (Entry.g q.entries[ee]))
   generalize q.entries[ee]=en at *
   obtain ⟨nn,hnn⟩:∃ nn:Nat,en.params=(nn:Int):=⟨_,(Int.toNat_of_nonneg q0).symm⟩
   refine ⟨none,rfl,pp,_,rfl,hget,_,_,.inl rfl,pE,rfl,?_⟩
   refine ⟨pp,_,rfl,hget,ee,_,rfl,hge,?_⟩
   refine loopR (ι:=Nat) (fun j=>[(4,.ptr 0 0),(7,.row 1),(9,.ptr 2 0),(136,.g (.int (j:Int)))])
    (fun j=>[.blk [.g (.sl 4 (m.map Part.g))] 28,.row ((c++getsK j).map Instr.g) 55 4,.blk r.d 24]) (fun j=>j≤nn) (fun j=>nn - j)
    ⟨0,[.old 0,.old 1,.old 2],⟨rfl,.inr ⟨⟨rfl,.inl rfl⟩,⟨(by show _=(c++[]).map Instr.g;rw[List.append_nil]),rfl,rfl⟩,⟨rfl,.inl rfl⟩,trivial⟩,.inr ⟨lk rfl,lk rfl,lk rfl,lk rfl,trivial⟩,rfl⟩,Nat.zero_le _⟩ ?_
   intro Rj hRj j hj
   have hgl:=getsK_len j
   refine ⟨fun d1=>?_,fun d1=>?_⟩
   ·have hjl:j < nn:=by have d2:(j:Int) < en.params:=d1;omega
    refine ⟨[Instr.g ⟨4,j,0,0⟩],rfl,rfl,⟨rfl,rfl,rfl,rfl,trivial⟩,?_⟩
    refine ⟨room32K (by simp only[List.length_map,List.length_append,List.length_cons,List.length_nil];omega),?_⟩
    refine ⟨_,I64.wrap (by unfold I64;omega),?_⟩
    exact hRj _ _ _ ⟨j+1,[.old 0,.old 4,.old 2],⟨rfl,.inr ⟨⟨rfl,.inl rfl⟩,⟨(by rw[getsK_succ,← List.append_assoc];exact rowAddK (c++getsK j) [⟨4,j,0,0⟩] rfl),rfl,rfl⟩,⟨rfl,.inl rfl⟩,trivial⟩,.inr ⟨lk rfl,lk rfl,lk rfl,lkI (by push_cast;rfl),trivial⟩,rfl⟩,hjl,by show nn - (j+1) < nn - j;omega⟩
   ·have hjn:j=nn:=by have d2:¬(j:Int) < en.params:=d1;omega
    subst hjn
    obtain ⟨x,⟨hx,hxe⟩,px⟩:=pickK r.c rc 4 (by decide)
    have hxe:pickN r.c 4=(x:Int):=hxe
    refine callIs (.inl rfl) px ?_
    refine ⟨[Instr.g ⟨12,pp,ee,en.params⟩,Instr.g ⟨5,x,0,0⟩],rfl,rfl,⟨rfl,rfl,rfl,rfl,rfl,rfl,rfl,rfl,trivial⟩,?_⟩
    refine ⟨room32K (by simp only[List.length_map,List.length_append,List.length_cons,List.length_nil];omega),?_⟩
    refine ⟨_,I64.wrap (by unfold I64;omega),?_⟩
    exact hRd _ _ _ ⟨(i+1,c++(getsK j++[⟨12,pp,ee,en.params⟩,⟨5,x,0,0⟩])),[.old 0,.old 4],⟨rfl,.inr ⟨⟨rfl,.inl rfl⟩,⟨(by rw[← List.append_assoc];exact rowAddK (c++getsK j) [⟨12,pp,ee,en.params⟩,⟨5,x,0,0⟩] rfl),rfl,rfl⟩,trivial⟩,.inr ⟨lk rfl,lk rfl,lk rfl,trivial⟩,rfl⟩,inv _ (by rw[List.length_append,hgl];simp;omega) (by rw[hcR];unfold gatesP getsK;rw[hnn,hxe,Int.toNat_natCast]),by dsimp only;omega⟩
  ·refine ⟨[Instr.g ⟨1,1,0,0⟩,Instr.g ⟨4,1,0,0⟩,Instr.g ⟨8,1,0,0⟩,Instr.g ⟨5,1,0,0⟩],rfl,rfl,⟨rfl,rfl,rfl,rfl,rfl,rfl,rfl,rfl,rfl,rfl,rfl,rfl,rfl,rfl,rfl,rfl,trivial⟩,?_⟩
   refine ⟨room32K (by simp only[List.length_map,List.length_cons,List.length_nil];omega),?_⟩
   refine ⟨_,I64.wrap (by unfold I64;omega),?_⟩
   exact hRd _ _ _ ⟨(i+1,c++[⟨1,1,0,0⟩,⟨4,1,0,0⟩,⟨8,1,0,0⟩,⟨5,1,0,0⟩]),[.old 0,.old 4],⟨rfl,.inr ⟨⟨rfl,.inl rfl⟩,⟨rowAddK c _ rfl,rfl,rfl⟩,trivial⟩,.inr ⟨lk rfl,lk rfl,lk rfl,trivial⟩,rfl⟩,inv _ (by simp) (by unfold codeR;dsimp only;rw[hkde,if_neg c1,if_neg c2,if_neg c3,if_neg (fun h=>zn (by have:=h.2;omega)),if_neg (by omega),if_neg (by omega)]),by dsimp only;omega⟩
  ·obtain ⟨x,⟨hx,hxe⟩,px⟩:=pickK r.a ra 4 (by decide)
   have hxe:pickN r.a 4=(x:Int):=hxe
   obtain ⟨z,⟨hz,hze⟩,pz⟩:=pickK r.b rb 60 (by decide)
   have hze:pickN r.b 60=(z:Int):=hze
   refine ⟨none,rfl,_,_,.inl rfl,px,rfl,_,_,.inl rfl,pz,rfl,[Instr.g ⟨4,x,0,0⟩,Instr.g ⟨10,z,0,0⟩],rfl,rfl,⟨rfl,rfl,rfl,rfl,rfl,rfl,rfl,rfl,trivial⟩,?_⟩
   refine ⟨room32K (by simp only[List.length_map,List.length_cons,List.length_nil];omega),?_⟩
   refine ⟨_,I64.wrap (by unfold I64;omega),?_⟩
   exact hRd _ _ _ ⟨(i+1,c++[⟨4,x,0,0⟩,⟨10,z,0,0⟩]),[.old 0,.old 4],⟨rfl,.inr ⟨⟨rfl,.inl rfl⟩,⟨rowAddK c _ rfl,rfl,rfl⟩,trivial⟩,.inr ⟨lk rfl,lk rfl,lk rfl,trivial⟩,rfl⟩,inv _ (by simp) (by unfold codeR;dsimp only;rw[hkde,if_neg c1,if_neg c2,if_neg c3,if_neg (fun h=>c4 h.1),if_pos c5,hxe,hze]),by dsimp only;omega⟩
  ·obtain ⟨x,⟨hx,hxe⟩,px⟩:=pickK r.a ra 15 (by decide)
   have hxe:pickN r.a 15=(x:Int):=hxe
   obtain ⟨z,⟨hz,hze⟩,pz⟩:=pickK r.b rb 10 (by decide)
   have hze:pickN r.b 10=(z:Int):=hze
   refine callIs (.inl rfl) px ⟨((x+1:Nat):Int),(I64.wrap (by unfold I64;omega)).trans (by omega),?_⟩
   refine ⟨[Instr.g ⟨((x+1:Nat):Int),0,0,0⟩],rfl,rfl,⟨rfl,rfl,rfl,rfl,trivial⟩,?_⟩
   refine ⟨room32K (by simp only[List.length_map,List.length_cons,List.length_nil];omega),?_⟩
   refine ⟨by unfold I64;simp only[List.length_append,List.length_map,List.length_cons,List.length_nil];omega,c.length,dJK (by simp only[List.length_append,List.length_map,List.length_cons,List.length_nil];omega),by simp,?_⟩
   refine ⟨_,lastGK c _,?_⟩
   refine ⟨fun e=>?_,fun e=>?_⟩
   ·refine ⟨by unfold I64;simp only[List.length_append,List.length_map,List.length_cons,List.length_nil];omega,?_⟩
    refine callIs (.inl rfl) pz ⟨((z+1:Nat):Int),(I64.wrap (by unfold I64;omega)).trans (by omega),?_⟩
    refine ⟨c.length,dJK (by simp only[List.length_append,List.length_map,List.length_cons,List.length_nil];omega),by simp,?_⟩
    refine ⟨_,[.int ((z+1:Nat):Int)],lastGK c _,⟨rfl,trivial⟩,Nat.le_of_ble_eq_true rfl,(fun h=>by cases h),?_⟩
    refine ⟨_,I64.wrap (by unfold I64;omega),?_⟩
    exact hRd _ _ _ ⟨(i+1,c++[⟨((x+1:Nat):Int),((z+1:Nat):Int),0,0⟩]),[.old 0,.old 4],⟨rfl,.inr ⟨⟨rfl,.inl rfl⟩,⟨lastSetK c _ rfl,rfl,rfl⟩,trivial⟩,.inr ⟨lk rfl,lk rfl,lk rfl,trivial⟩,rfl⟩,inv _ (by simp) (by unfold codeR;dsimp only;rw[hkde,if_neg c1,if_neg c2,if_neg c3,if_neg (fun h=>c4 h.1),if_neg c5,if_pos c6,hxe,hze,show (1:Int)+x=((x+1:Nat):Int) by omega,if_pos e,show (1:Int)+z=((z+1:Nat):Int) by omega]),by dsimp only;omega⟩
   ·refine ⟨_,I64.wrap (by unfold I64;omega),?_⟩
    exact hRd _ _ _ ⟨(i+1,c++[⟨((x+1:Nat):Int),0,0,0⟩]),[.old 0,.old 4],⟨rfl,.inr ⟨⟨rfl,.inl rfl⟩,⟨rowAddK c _ rfl,rfl,rfl⟩,trivial⟩,.inr ⟨lk rfl,lk rfl,lk rfl,trivial⟩,rfl⟩,inv _ (by simp) (by unfold codeR;dsimp only;rw[hkde,if_neg c1,if_neg c2,if_neg c3,if_neg (fun h=>c4 h.1),if_neg c5,if_pos c6,hxe,show (1:Int)+x=((x+1:Nat):Int) by omega,if_neg e]),by dsimp only;omega⟩
  ·refine ⟨[Instr.g ⟨1,1,0,0⟩,Instr.g ⟨4,1,0,0⟩,Instr.g ⟨8,1,0,0⟩,Instr.g ⟨5,1,0,0⟩],rfl,rfl,⟨rfl,rfl,rfl,rfl,rfl,rfl,rfl,rfl,rfl,rfl,rfl,rfl,rfl,rfl,rfl,rfl,trivial⟩,?_⟩
   refine ⟨room32K (by simp only[List.length_map,List.length_cons,List.length_nil];omega),?_⟩
   refine ⟨_,I64.wrap (by unfold I64;omega),?_⟩
   exact hRd _ _ _ ⟨(i+1,c++[⟨1,1,0,0⟩,⟨4,1,0,0⟩,⟨8,1,0,0⟩,⟨5,1,0,0⟩]),[.old 0,.old 4],⟨rfl,.inr ⟨⟨rfl,.inl rfl⟩,⟨rowAddK c _ rfl,rfl,rfl⟩,trivial⟩,.inr ⟨lk rfl,lk rfl,lk rfl,trivial⟩,rfl⟩,inv _ (by simp) (by unfold codeR;dsimp only;rw[hkde,if_neg c1,if_neg c2,if_neg c3,if_neg (fun h=>c4 h.1),if_neg c5,if_neg c6]),by dsimp only;omega⟩
theorem Code_any (m:Image) (hm:∀ q∈m,q.entries.length≤8∧∀ x∈q.entries,0≤x.params∧x.params≤4) (fr:Nat) (hfr:fr≤1000) (l:List Barb.Raw) (hI:∀ r∈l,Barb.Raw.I r):CT Tryd.prog gl 17 [.g (.sl 4 (l.map Raw.g)),.agg [.g (.sl 4 (m.map Part.g))],.g (.int (fr:Int))] (Is (.g (.sl 4 ((codeP l m fr).map Instr.g)))) :=
 Code_Q m hm fr hfr l hI _ (fun h i hi=>retIs (.inl (by simp only[conv,kp,hi])))
end Go.Proofs.YtijdegmamdhcbaaDoor
