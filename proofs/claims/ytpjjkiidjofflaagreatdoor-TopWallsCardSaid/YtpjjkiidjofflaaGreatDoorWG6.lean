import Derived.Test.YtpjjkiidjofflaaGreatDoorWWd
import Derived.Test.YtpjjkiidjofflaaGreatDoorWG4
import Derived.Test.YtpjjkiidjofflaaGreatDoorWG1
import Derived.Test.YtpjjkiidjofflaaGreatDoorWG2
open Go Go.Proofs Go.Proofs.YtpjjkiidjofflaaGreatDoor
namespace Barb
open Go Go.Dm Go.Eng
def bdA (op:Int):Int:=if op=1 then 65535 else if op=4\/op=5 then 7 else if op=8 then 10 else if op=9\/op=10\/op=11 then 1199 else if op=12 then 4 else 0
def bdB (op:Int):Int:=if op=11 then 4 else if op=12 then 7 else 0
def bdC (op:Int):Int:=if op=12 then 4 else 0
def ZbK (x:Instr):Prop:=¬(0<=x.a/\x.a<=bdA x.op)\/¬(0<=x.b/\x.b<=bdB x.op)\/¬(0<=x.c/\x.c<=bdC x.op)\/(x.op=8/\x.a=0)
instance (x:Instr):Decidable (ZbK x):=by unfold ZbK;infer_instance
def ZaM (x:Instr):Int:=if ¬(1<=x.op/\x.op<=15) then 3 else if ZbK x then 2 else 0
abbrev Instr.d (x:Instr):List D:=[.g (.int x.op),.g (.int x.a),.g (.int x.b),.g (.int x.c)]
end Barb
namespace ZN
open Go Go.Dm Go.Eng Barb
theorem dI {a b:Int} (h:a=b):D.g (.int a)=D.g (.int b):=by rw[h]
set_option maxRecDepth 20000 in
set_option maxHeartbeats 1000000 in
theorem Zvd (x:Barb.Instr):CT Tryz.prog gl 85 [.agg x.d] (Is (.g (.int (ZaM x)))):=by
 refine enter hT hF hM Tryz.func85 rfl 60 rfl (by kernel_rfl) [.tmp 2] rfl [.agg x.d] rfl _ ?_;refine ⟨λh1=>⟨rfl,ZbQ (by unfold ZaM;rw[if_pos (by omega)])⟩,λh1=>⟨λh2=>⟨rfl,ZbQ (by unfold ZaM;rw[if_pos (by omega)])⟩,λh2=>?_⟩⟩;have e:ZaM x=if ZbK x then 2 else 0:=by unfold ZaM;rw[if_neg (by omega)]
 refine Zrt (ι:=Int × Int × Int) (λ_=>[(1,.ptr 0 0),(3,.ptr 1 0)]) (λb=>[.blk x.d 127,.blk [.g (.int b.1),.g (.int b.2.1),.g (.int b.2.2)] 185]) (λb=>b=(bdA x.op,bdB x.op,bdC x.op)) (λe0 b hb=>?_) (λRj hRj=>?_)
 rotate_left
 ·have h:x.op=1\/x.op=2\/x.op=3\/x.op=4\/x.op=5\/x.op=6\/x.op=7\/x.op=8\/x.op=9\/x.op=10\/x.op=11\/x.op=12\/x.op=13\/x.op=14\/x.op=15:=by omega
  rcases h with h | h | h | h | h | h | h | h | h | h | h | h | h | h | h
  ·exact ⟨1,dI h,by decide,hRj (65535,0,0) _ ⟨rfl,rfl,trivial⟩ (by rw[h];simp[bdA,bdB,bdC])⟩
  ·exact ⟨2,dI h,by decide,hRj (0,0,0) _ ⟨rfl,rfl,trivial⟩ (by rw[h];rfl)⟩
  ·exact ⟨3,dI h,by decide,hRj (0,0,0) _ ⟨rfl,rfl,trivial⟩ (by rw[h];rfl)⟩
  ·exact ⟨4,dI h,by decide,hRj (7,0,0) _ ⟨rfl,rfl,trivial⟩ (by rw[h];rfl)⟩
  ·exact ⟨5,dI h,by decide,hRj (7,0,0) _ ⟨rfl,rfl,trivial⟩ (by rw[h];rfl)⟩
  ·exact ⟨6,dI h,by decide,hRj (0,0,0) _ ⟨rfl,rfl,trivial⟩ (by rw[h];rfl)⟩
  ·exact ⟨7,dI h,by decide,hRj (0,0,0) _ ⟨rfl,rfl,trivial⟩ (by rw[h];rfl)⟩
  ·exact ⟨8,dI h,by decide,hRj (10,0,0) _ ⟨rfl,rfl,trivial⟩ (by rw[h];rfl)⟩
  ·exact ⟨9,dI h,by decide,hRj (1199,0,0) _ ⟨rfl,rfl,trivial⟩ (by rw[h];rfl)⟩
  ·exact ⟨10,dI h,by decide,hRj (1199,0,0) _ ⟨rfl,rfl,trivial⟩ (by rw[h];rfl)⟩
  ·exact ⟨11,dI h,by decide,hRj (1199,4,0) _ ⟨rfl,rfl,trivial⟩ (by rw[h];rfl)⟩
  ·exact ⟨12,dI h,by decide,hRj (4,7,4) _ ⟨rfl,rfl,trivial⟩ (by rw[h];rfl)⟩
  ·exact ⟨13,dI h,by decide,hRj (0,0,0) _ ⟨rfl,rfl,trivial⟩ (by rw[h];rfl)⟩
  ·exact ⟨14,dI h,by decide,hRj (0,0,0) _ ⟨rfl,rfl,trivial⟩ (by rw[h];rfl)⟩
  ·exact ⟨15,dI h,by decide,hRj (0,0,0) _ ⟨rfl,rfl,trivial⟩ (by rw[h];rfl)⟩
 subst hb;have bad:ZbK x->∀h:Zad,Zbk (Is (.g (.int (ZaM x)))) h (.g (.int 2)):=λhb h=>ZbQ (by rw[e,if_pos hb]);have fine:¬ZbK x->∀h:Zad,Zbk (Is (.g (.int (ZaM x)))) h (.g (.int 0)):=λhb h=>ZbQ (by rw[e,if_neg hb]);unfold ZbK at bad fine;clear e;generalize bdA x.op=a at *;generalize bdB x.op=b at *;generalize bdC x.op=c at *;refine ⟨λa1=>⟨rfl,bad (by first | omega | (dsimp only at *;omega)) _⟩,λa1=>⟨λa2=>⟨rfl,bad (by first | omega | (dsimp only at *;omega)) _⟩,λa2=>⟨λa3=>⟨rfl,bad (by first | omega | (dsimp only at *;omega)) _⟩,λa3=>⟨λa4=>⟨rfl,bad (by first | omega | (dsimp only at *;omega)) _⟩,λa4=>⟨λa5=>⟨rfl,bad (by first | omega | (dsimp only at *;omega)) _⟩,λa5=>⟨λa6=>⟨rfl,bad (by first | omega | (dsimp only at *;omega)) _⟩,λa6=>⟨λa7=>⟨λa8=>⟨rfl,bad (by first | omega | (dsimp only at *;omega)) _⟩,λa8=>⟨rfl,fine (by first | omega | (dsimp only at *;omega)) _⟩⟩,λa7=>⟨rfl,fine (by first | omega | (dsimp only at *;omega)) _⟩⟩⟩⟩⟩⟩⟩⟩
end ZN
namespace Barb
open Go Go.Dm Go.Eng
def Zfl (f:Nat->Int):Nat->Int
 | 0=>0
 | n+1=>if Zfl f n≠0 then Zfl f n else f n
theorem Zer {f:Nat->Int}:∀{n:Nat},(∀j,j < n->f j=0)->Zfl f n=0
 | 0,_=>rfl
 | n+1,h=>by have h0:=Zer (f:=f) (n:=n) (λj hj=>h j (by omega));simp only[Zfl];rw[if_neg (λh=>h h0)];exact h n (by omega)
theorem ZnH {f:Nat->Int}:∀{n i:Nat},i < n->(∀j,j < i->f j=0)->f i≠0->Zfl f n=f i
 | 0,i,h,_,_=>by omega
 | n+1,i,h,ha,h1=>by
  simp only[Zfl];by_cases e:i=n
  ·subst e;rw[if_neg (λh=>h (Zer ha))]
  ·rw[ZnH (by omega) ha h1,if_pos h1]
theorem ZeM {f:Nat->Int}:∀{n:Nat},Zfl f n=0->∀j,j < n->f j=0
 | 0,_,j,h=>by omega
 | n+1,h,j,hj=>by
  simp only[Zfl] at h;by_cases h0:Zfl f n=0
  ·rw[if_neg (λh=>h h0)] at h;by_cases e:j=n
   ·subst e;exact h
   ·exact ZeM h0 j (by omega)
  ·rw[if_pos h0] at h;exact absurd h h0
abbrev Part.d (p:Part):List D:=[.g (.sl 4 (p.code.map Instr.g)),.g (.sl 2 (p.entries.map Entry.g)),.g (.int p.lo),.g (.int p.hi)]
def Zf7 (n:Nat) (x:Entry):Prop:=¬(0<=x.at_/\x.at_ < n)\/¬(0<=x.params/\x.params<=4)
instance (n:Nat) (x:Entry):Decidable (Zf7 n x):=by unfold Zf7;infer_instance
def Zr8 (n:Nat) (x:Entry):Int:=if Zf7 n x then 2 else 0
def Zik (p:Part) (lo:Int):Int :=
 if 1200 < p.code.length\/8 < p.entries.length then 1 else if Zah ZaM p.code≠0 then Zah ZaM p.code else if Zah (Zr8 p.code.length) p.entries≠0 then Zah (Zr8 p.code.length) p.entries
 else if ¬p.lo=lo\/p.hi < p.lo\/250 < p.hi then 8 else 0
def ZcK (m:List Part) (i:Nat):Int:=(0 :: m.map Part.hi).getD i 0
theorem ZbM {m:List Part} {i:Nat} (h:i < m.length):ZcK m (i+1)=m[i].hi:=by simp[ZcK,h]
def ZAP (m:List Part) (i:Nat):Int:=if h:i < m.length then Zik m[i] (ZcK m i) else 0
theorem Zgl {m:List Part} {i:Nat} (h:i < m.length):ZAP m i=Zik m[i] (ZcK m i):=by unfold ZAP;rw[dif_pos h]
def Zg5 (m:List Part):Int:=if 5 < m.length then 1 else Zfl (ZAP m) m.length
abbrev ZlS (m:List Part):List D:=[.g (.sl 4 (m.map Part.g))]
end Barb
namespace ZN
open Go Go.Dm Go.Eng Barb
set_option maxRecDepth 20000 in
set_option maxHeartbeats 1000000 in
theorem ZvX (p:Barb.Part) (hp:p.I) (lo:Int):CT Tryz.prog gl 65 [.agg p.d,.g (.int lo)] (Is (.g (.int (Zik p lo)))):=by
 obtain ⟨_,_,_,_,hcl,hel⟩:=hp;have lc:(p.code.map Instr.g).length=p.code.length:=by simp
 have le:(p.entries.map Entry.g).length=p.entries.length:=by simp
 have e:Zik p lo=Zik p lo:=rfl
 conv at e=>rhs;unfold Zik
 refine enter hT hF hM Tryz.func65 rfl 78 rfl (by kernel_rfl) [.tmp 4] rfl [.agg p.d,.g (.int lo)] rfl _ ?_;refine ⟨λa1=>⟨rfl,ZbQ (by rw[e,if_pos (by omega)])⟩,λa1=>⟨λa2=>⟨rfl,ZbQ (by rw[e,if_pos (by omega)])⟩,λa2=>?_⟩⟩;rw[if_neg (by omega)] at e;refine ZaL (ι:=Nat) (λi=>[(23,.g (.int (i:Int))),(2,.ptr 0 0)]) (λ_=>[.blk p.d 79]) (λi=>i<=p.code.length/\∀j (hj:j < p.code.length),j < i->ZaM p.code[j]=0) (λi=>p.code.length - i)
  ⟨0,[.old 0],⟨rfl,.inl rfl,.inr ⟨lk rfl,lk rfl,trivial⟩,rfl⟩,Yau _,ZfT⟩ ?_
 intro Rd hRd i ⟨hi,ha⟩;refine ⟨λb0=>?_,λb0=>?_⟩
 ·have b1:i < p.code.length:=by omega
  refine ⟨i,_,rfl,gm b1,?_⟩;refine Zae (.inl rfl) (Zvd p.code[i]) ?_;refine ⟨λb3=>⟨rfl,ZbQ (by rw[e,ZaV b1 ha b3,if_pos b3])⟩,λb3=>⟨_,I64.wrap (by unfold I64;omega),?_⟩⟩;exact hRd _ _ _ ⟨i+1,[.old 0],⟨rfl,.inl rfl,.inr ⟨lk rfl,lk rfl,trivial⟩,rfl⟩,⟨b1,ZaO b1 ha b3⟩,by omega⟩
 have hc0:Zah ZaM p.code=0:=Za0 (by omega) ha;rw[if_neg (λh=>h hc0)] at e;clear hRd ha hi b0;refine ZaL (ι:=Nat) (λi=>[(36,.g (.int (i:Int))),(2,.ptr 0 0)]) (λ_=>[.blk p.d 79]) (λi=>i<=p.entries.length/\∀j (hj:j < p.entries.length),j < i->Zr8 p.code.length p.entries[j]=0) (λi=>p.entries.length - i)
  ⟨0,[.old 0],⟨rfl,.inl rfl,.inr ⟨lk rfl,lk rfl,trivial⟩,rfl⟩,Yau _,ZfT⟩ ?_
 intro Rd hRd i ⟨hi,ha⟩;refine ⟨λb0=>?_,λb0=>?_⟩
 ·have b1:i < p.entries.length:=by omega
  have bad:Zf7 p.code.length p.entries[i]->∀h:Zad,Zbk (Is (.g (.int (Zik p lo)))) h (.g (.int 2)):=λhb h=>by
   have hz:Zr8 p.code.length p.entries[i]=2:=by unfold Zr8;rw[if_pos hb]
   exact ZbQ (by rw[e,ZaV b1 ha (by rw[hz];decide),hz,if_pos (by decide)])
  unfold Zf7 at bad;refine ⟨i,_,rfl,gm b1,?_⟩;refine ⟨λc1=>⟨rfl,bad (by omega) _⟩,λc1=>⟨λc2=>⟨rfl,bad (by omega) _⟩,λc2=>⟨λc3=>⟨rfl,bad (by omega) _⟩,λc3=>⟨λc4=>⟨rfl,bad (by omega) _⟩,λc4=>⟨_,I64.wrap (by unfold I64;omega),?_⟩⟩⟩⟩⟩;exact hRd _ _ _ ⟨i+1,[.old 0],⟨rfl,.inl rfl,.inr ⟨lk rfl,lk rfl,trivial⟩,rfl⟩,⟨b1,ZaO b1 ha (by unfold Zr8;rw[if_neg (by unfold Zf7;omega)])⟩,by omega⟩
 have he0:Zah (Zr8 p.code.length) p.entries=0:=Za0 (by omega) ha;rw[if_neg (λh=>h he0)] at e;exact ⟨λd1=>⟨rfl,ZbQ (by rw[e,if_pos (.inl d1)])⟩,λd1=>⟨λd2=>⟨rfl,ZbQ (by rw[e,if_pos (.inr (.inl d2))])⟩,λd2=>⟨λd3=>⟨rfl,ZbQ (by rw[e,if_pos (.inr (.inr d3))])⟩,λd3=>⟨rfl,ZbQ (by rw[e,if_neg (by omega)])⟩⟩⟩⟩
theorem Zoj (m:Zaf) (hm:Zaf.I m):CT Tryz.prog gl 48 [.agg (ZlS m)] (Is (.g (.int (Zg5 m)))):=by
 obtain ⟨hI,hl⟩:=hm;have lm:(m.map Part.g).length=m.length:=by simp
 refine enter hT hF hM Tryz.func48 rfl 27 rfl (by kernel_rfl) [.tmp 2] rfl [.agg (ZlS m)] rfl _ ?_;refine ⟨λa1=>⟨rfl,ZbQ (by unfold Zg5;rw[if_pos (by omega)])⟩,λa1=>?_⟩;have e:Zg5 m=Zfl (ZAP m) m.length:=by unfold Zg5;rw[if_neg (by omega)]
 refine ZaL (ι:=Nat) (λi=>[(14,.g (.int (i:Int))),(3,.g (.int (ZcK m i)))]) (λ_=>[]) (λi=>i<=m.length/\∀j,j < i->ZAP m j=0) (λi=>m.length - i)
  ⟨0,[],⟨rfl,.inl rfl,.inr ⟨lk rfl,lk rfl,trivial⟩,rfl⟩,Yau _,λj h=>absurd h (YbA j)⟩ ?_
 intro Rd hRd i ⟨hi,ha⟩;refine ⟨λb0=>?_,λb0=>?_⟩
 ·have b1:i < m.length:=by omega
  have hF:=Zgl b1;refine ⟨i,_,rfl,gm b1,?_⟩;refine Zae (.inl rfl) (ZvX m[i] (hI _ (Yah _)) (ZcK m i)) ?_;refine ⟨λb3=>⟨rfl,ZbQ (by rw[e,ZnH b1 ha (by rw[hF];exact b3),hF])⟩,λb3=>⟨_,I64.wrap (by unfold I64;omega),?_⟩⟩;exact hRd _ _ _ ⟨i+1,[],⟨rfl,.inl rfl,.inr ⟨lk rfl,lkI (ZbM b1).symm,trivial⟩,rfl⟩,⟨b1,λj hj=>by
   by_cases hji:j=i
   ·subst hji;rw[hF];exact b3
   ·exact ha j (by omega)⟩,by omega⟩
 ·have hil:i=m.length:=by omega
  exact ⟨rfl,ZbQ (by rw[e,Zer (λj hj=>ha j (by omega))])⟩
end ZN
namespace Barb
open Go Go.Dm Go.Eng
def Zdn (b n:Int):Int:=(n*3+b) % 50
def Zdf (c n:Int):Int:=(n*5+c) % 70
def Zcr (f:Int->Int):Nat->Int->Int
 | 0,n=>n
 | k+1,n=>f (Zcr f k n)
def Zmr (f:Int->Int) (k:Nat) (n:Int):List Int:=(List.range k).map (λi=>Zcr f i n)
theorem Zlr (f:Int->Int) (k:Nat) (n:Int):(Zmr f k n).length=k:=by simp[Zmr]
theorem ZmW (f:Int->Int) (k:Nat) (n:Int):Zmr f (k+1) n=Zmr f k n++[Zcr f k n]:=by simp[Zmr,List.range_succ]
def ZeT (c:Int):List Arr->Int->List (List Int)
 | [],_=>[]
 | a :: l,n=>Zmr (Zdf c) a.size.toNat n :: ZeT c l (Zcr (Zdf c) a.size.toNat n)
def Zpk (c:Int):List Arr->Int->Int
 | [],n=>n
 | a :: l,n=>Zpk c l (Zcr (Zdf c) a.size.toNat n)
def ZnW (b c:Int) (u:Unit) (n:Int):Cells:=⟨Zmr (Zdn b) u.vars.length n,ZeT c u.arrays (Zcr (Zdn b) u.vars.length n)⟩
def ZxD (b c:Int) (u:Unit) (n:Int):Int:=Zpk c u.arrays (Zcr (Zdn b) u.vars.length n)
def ZaF (b c:Int):List Unit->Int->List Cells
 | [],_=>[]
 | u :: l,n=>ZnW b c u n :: ZaF b c l (ZxD b c u n)
def Zsa (b c:Int):List Unit->Int->Int
 | [],n=>n
 | u :: l,n=>Zsa b c l (ZxD b c u n)
def Zc0 (p:List Unit) (r:Raw):List Cells:=ZaF (Zar r.b 5) (Zar r.c 9) p (Zar r.a 7)
theorem ZjW (b c:Int) (u:Unit):∀(l:List Unit) (n:Int),ZaF b c (l++[u]) n=ZaF b c l n++[ZnW b c u (Zsa b c l n)]
 | [],_=>rfl
 | v :: l,n=>by simp only[List.cons_append,ZaF,Zsa,ZjW b c u l]
theorem ZnQ (b c:Int) (u:Unit):∀(l:List Unit) (n:Int),Zsa b c (l++[u]) n=ZxD b c u (Zsa b c l n)
 | [],_=>rfl
 | v :: l,n=>by simp only[List.cons_append,Zsa,ZnQ b c u l]
theorem Zk8 (c:Int) (a:Arr):∀(l:List Arr) (n:Int),ZeT c (l++[a]) n=ZeT c l n++[Zmr (Zdf c) a.size.toNat (Zpk c l n)]
 | [],_=>rfl
 | v :: l,n=>by simp only[List.cons_append,ZeT,Zpk,Zk8 c a l]
theorem ZnR (c:Int) (a:Arr):∀(l:List Arr) (n:Int),Zpk c (l++[a]) n=Zcr (Zdf c) a.size.toNat (Zpk c l n)
 | [],_=>rfl
 | v :: l,n=>by simp only[List.cons_append,Zpk,ZnR c a l]
theorem ZhU (b c:Int):∀(l:List Unit) (n:Int),(ZaF b c l n).length=l.length
 | [],_=>rfl
 | v :: l,n=>by simp only[ZaF,List.length_cons,ZhU b c l]
theorem Zfi {b:Int}:∀(k:Nat) {n:Int},0<=n/\n < 70->0<=Zcr (Zdn b) k n/\Zcr (Zdn b) k n < 70
 | 0,_,h=>h
 | k+1,n,h=>by show 0<=Zdn b (Zcr (Zdn b) k n)/\Zdn b (Zcr (Zdn b) k n) < 70;unfold Zdn;omega
theorem Zg4 {c:Int}:∀(k:Nat) {n:Int},0<=n/\n < 70->0<=Zcr (Zdf c) k n/\Zcr (Zdf c) k n < 70
 | 0,_,h=>h
 | k+1,n,h=>by show 0<=Zdf c (Zcr (Zdf c) k n)/\Zdf c (Zcr (Zdf c) k n) < 70;unfold Zdf;omega
theorem Zl7 {c:Int}:∀(l:List Arr) {n:Int},0<=n/\n < 70->0<=Zpk c l n/\Zpk c l n < 70
 | [],_,h=>h
 | _ :: l,_,h=>Zl7 l (Zg4 _ h)
theorem ZqN {b c:Int} {u:Unit} {n:Int} (h:0<=n/\n < 70):0<=ZxD b c u n/\ZxD b c u n < 70:=Zl7 _ (Zfi _ h)
theorem ZqO {b c:Int}:∀(l:List Unit) {n:Int},0<=n/\n < 70->0<=Zsa b c l n/\Zsa b c l n < 70
 | [],_,h=>h
 | _ :: l,_,h=>ZqO l (ZqN h)
def Zic (from_:Int) (r:Raw):Int:=if Zar r.b 12=0 then Zar r.a 250 else from_+Zar r.a 4
def ZkS (p e n:Int) (r:Raw):List Instr:=(List.range n.toNat).map (λk=>⟨4,(k:Int),0,0⟩)++[⟨12,p,e,n⟩,⟨5,Zar r.c 4,0,0⟩]
def ZnU (m:Zaf) (r:Raw):List Instr :=
 let p:=Zar r.a m.length
 let es:=(m.getD p.toNat ⟨[],[],0,0⟩).entries
 if es.length=0 then [] else ZkS p (Zar r.b es.length) (es.getD (Zar r.b es.length).toNat ⟨0,0⟩).params r
def ZcP (m:Zaf) (from_:Int) (r:Raw):List Instr :=
 let k:=Zar r.kind 16
 if k < 3 then [⟨1,Zar r.a 9,0,0⟩,⟨5,Zar r.b 4,0,0⟩]
 else if k < 5 then [⟨1,Zic from_ r,0,0⟩,⟨4,Zar r.b 4,0,0⟩,⟨7,0,0,0⟩]
 else if k < 7 then [⟨1,Zic from_ r,0,0⟩,⟨6,0,0,0⟩,⟨5,Zar r.b 4,0,0⟩]
 else if k < 13/\0 < m.length then ZnU m r
 else if k=13 then [⟨4,Zar r.a 4,0,0⟩,⟨10,Zar r.b 60,0,0⟩]
 else if k=14 then [⟨1+Zar r.a 15,if 1+Zar r.a 15=8 then 1+Zar r.b 10 else 0,0,0⟩]
 else [⟨1,1,0,0⟩,⟨4,1,0,0⟩,⟨8,1,0,0⟩,⟨5,1,0,0⟩]
def ZhS (l:List Raw) (m:Zaf) (from_:Int):List Instr:=((l.take 30).map (ZcP m from_)).flatten++[⟨4,0,0,0⟩,⟨13,0,0,0⟩]
structure PC (p:List Unit):Prop where
 len:p.length<=1000
 vars:∀u∈p,u.vars.length<=1000
 arrs:∀u∈p,u.arrays.length<=1000
 size:∀u∈p,∀a∈u.arrays,0<=a.size/\a.size<=1000
theorem Zj1 (c:Int):∀(l:List Arr) (n:Int),(ZeT c l n).length=l.length
 | [],_=>rfl
 | _ :: l,n=>by simp only[ZeT,List.length_cons,Zj1 c l]
theorem cells_row (l:List Cells) (c:Cells):l.map Cells.g++[[.sl 1 (c.vars.map Zat),.sl 1 (c.arrays.map ZhF)]]=(l++[c]).map Cells.g:=by rw[Yai];rfl
theorem ints_row (l:List Int) (n:Int):l.map Zat++[[.int n]]=(l++[n]).map Zat:=by rw[Yai];rfl
theorem intss_row (l:List (List Int)) (n:List Int):l.map ZhF++[[.sl 1 (n.map Zat)]]=(l++[n]).map ZhF:=by rw[Yai];rfl
theorem ZwG (A:List (List GV)) (q sz:Nat) (h:q < sz) (hA:A.length=q) (x z:List GV):(A++List.replicate (sz - q) z).set q x=(A++[x])++List.replicate (sz - (q+1)) z:=by obtain ⟨m,hm⟩:∃m,sz - q=m+1:=⟨sz - q - 1,by omega⟩;rw[hm,show sz - (q+1)=m by omega,List.replicate_succ,YbK _ _ (by omega),hA,Ybk,List.set_cons_zero];simp
end Barb
namespace ZN
open Go Go.Dm Go.Eng Go.RowKit Barb
set_option maxRecDepth 20000 in
set_option maxHeartbeats 8000000 in
theorem ZzO (p:List Barb.Unit) (hp:PC p) (r:Raw) (hr:r.I) (Q:Out->Prop) (hQ:∀(h:Zad) (i:Nat),h[i]?=some (.row ((Zc0 p r).map Cells.g) 92 2)->Zbk Q h (.row i)) :
  CT Tryz.prog gl 15 [.g (.sl 4 (p.map Unit.g)),.agg r.d] Q:=by
 obtain ⟨_,ra,rb,rc⟩:=hr;have lp:(p.map Unit.g).length=p.length:=Yab _;have na:=Zcn r.a (many:=7) (by decide);have nb:=Zcn r.b (many:=5) (by decide);have nc:=Zcn r.c (many:=9) (by decide);have pa:=ZaT r.a 7 ra (by decide);have pb:=ZaT r.b 5 rb (by decide);have pc:=ZaT r.c 9 rc (by decide);unfold Zc0 at hQ;generalize Zar r.a 7=n0 at na pa hQ;generalize Zar r.b 5=b at nb pb hQ;generalize Zar r.c 9=c at nc pc hQ;have hlen:=hp.len;refine enter hT hF hM Tryz.func15 rfl 83 rfl (by kernel_rfl) [.tmp 4] rfl [.g (.sl 4 (p.map Unit.g)),.agg r.d] rfl _ ?_;refine Zae (.inl rfl) pa ?_;refine ZaL (ι:=Nat) (λi=>[(3,.ptr 0 0),(5,.row 1),(6,.g (.int (Zsa b c (p.take i) n0))),(19,.g (.int (i:Int)))]) (λi=>[.blk r.d 24,.row ((ZaF b c (p.take i) n0).map Cells.g) 92 2]) (λi=>i<=p.length) (λi=>p.length - i)
  ⟨0,[.old 0,.nil 92 2],⟨rfl,.inl rfl,.inr ⟨lk rfl,.inr rfl,lk rfl,lk rfl,trivial⟩,rfl⟩,Yau _⟩ ?_
 intro Rd hRd i hi;refine ⟨λhlt=>?_,λhge=>?_⟩
 rotate_left
 ·have hil:i=p.length:=by omega
  exact ⟨rfl,hQ _ _ (by rw[hil,YaE];rfl)⟩
 have hil:i < p.length:=by omega
 have hmem:=Yah hil;have hv:=hp.vars _ hmem;have ha:=hp.arrs _ hmem;have hs:=hp.size _ hmem;have hn1:=ZqO (b:=b) (c:=c) (p.take i) (n:=n0) (by omega);have hlo:=ZhU b c (p.take i) n0;rw[Yan] at hlo;have hnext:ZaF b c (p.take (i+1)) n0=ZaF b c (p.take i) n0++[ZnW b c p[i] (Zsa b c (p.take i) n0)]:=by rw[Zay hil,ZjW]
 have hnend:Zsa b c (p.take (i+1)) n0=ZxD b c p[i] (Zsa b c (p.take i) n0):=by rw[Zay hil,ZnQ]
 refine ⟨i,_,rfl,gm hil,?_⟩;generalize hou:ZaF b c (p.take i) n0=out at hnext hlo;generalize Zsa b c (p.take i) n0=n1 at hn1 hnext hnend;generalize p[i]=u at hv ha hs hnext hnend;have lu:(u.vars.map ZbP).length=u.vars.length:=Yab _;have la:(u.arrays.map Arr.g).length=u.arrays.length:=Yab _;refine ZaL (ι:=Nat) (λk=>[(3,.ptr 0 0),(5,.row 1),(6,.g (.int (Zcr (Zdn b) k n1))),(8,.ptr 2 0),(9,.ptr 3 0),(19,.g (.int (i:Int))),(27,.g (.int (k:Int)))])
  (λk=>[.blk r.d 24,.row (out.map Cells.g) 92 2,.blk u.d 44,.blk [.row 4,.nils] 92,.row ((Zmr (Zdn b) k n1).map Zat) 3 1]) (λk=>k<=u.vars.length) (λk=>u.vars.length - k)
  ⟨0,[.old 0,.old 1,.old 2,.old 3,.nil 3 1],⟨rfl,.inr ⟨⟨rfl,.inl rfl⟩,⟨rfl,rfl,rfl⟩,⟨rfl,.inl rfl⟩,⟨rfl,.inr ⟨.inr rfl,lk rfl,trivial⟩⟩,⟨rfl,rfl,rfl⟩,trivial⟩,.inr ⟨lk rfl,lk rfl,lk rfl,lk rfl,lk rfl,lk rfl,lk rfl,trivial⟩,rfl⟩,Yau _⟩ ?_
 intro Rd2 hRd2 k hk;refine ⟨λhklt=>?_,λhkge=>?_⟩
 ·have hkl:k < u.vars.length:=by omega
  have hnk:=Zfi (b:=b) k hn1;have hst:Zcr (Zdn b) (k+1) n1=Zdn b (Zcr (Zdn b) k n1):=rfl;have hrow:=ZmW (Zdn b) k n1;have hrl:=Zlr (Zdn b) k n1;generalize Zcr (Zdn b) k n1=n at hnk hst hrow;generalize Zmr (Zdn b) k n1=row at hrow hrl;refine ⟨[[.int n]],rfl,rfl,⟨rfl,trivial⟩,?_⟩;refine ⟨⟨by simp[maxLen];omega,by simp;omega⟩,?_⟩;refine ⟨by unfold I64;omega,Zae (.inl rfl) pb ⟨_,I64.wrap (by unfold I64;omega),by decide,?_⟩⟩;refine ⟨_,I64.wrap (by unfold I64;omega),?_⟩;exact hRd2 _ _ _ ⟨k+1,[.old 0,.old 1,.old 2,.old 3,.old 6],⟨rfl,.inr ⟨⟨rfl,.inl rfl⟩,⟨rfl,rfl,rfl⟩,⟨rfl,.inl rfl⟩,⟨rfl,.inl rfl⟩,⟨by rw[hrow];exact ints_row row n,rfl,rfl⟩,trivial⟩,.inr ⟨lk rfl,lk rfl,lkI (by rw[hst];unfold Zdn;rw[YbN (by omega)]),lk rfl,lk rfl,lk rfl,lkI (by push_cast;rfl),trivial⟩,rfl⟩,hkl,by show u.vars.length - (k+1) < u.vars.length - k;omega⟩
 have hke:k=u.vars.length:=by omega
 subst hke;have hn2:=Zfi (b:=b) u.vars.length hn1;have hcu:ZnW b c u n1=⟨Zmr (Zdn b) u.vars.length n1,ZeT c u.arrays (Zcr (Zdn b) u.vars.length n1)⟩:=rfl;have heu:ZxD b c u n1=Zpk c u.arrays (Zcr (Zdn b) u.vars.length n1):=rfl;rw[hcu] at hnext;rw[heu] at hnend;generalize Zmr (Zdn b) u.vars.length n1=vs at hnext;generalize Zcr (Zdn b) u.vars.length n1=n2 at hn2 hnext hnend;refine ZaL (ι:=Nat) (λj=>[(3,.ptr 0 0),(5,.row 1),(6,.g (.int (Zpk c (u.arrays.take j) n2))),(8,.ptr 2 0),(9,.ptr 3 0),(19,.g (.int (i:Int))),(46,.g (.int (j:Int)))])
  (λj=>[.blk r.d 24,.row (out.map Cells.g) 92 2,.blk u.d 44,.blk [.row 4,.row 5] 92,.row (vs.map Zat) 3 1,.row ((ZeT c (u.arrays.take j) n2).map ZhF) 30 1]) (λj=>j<=u.arrays.length) (λj=>u.arrays.length - j)
  ⟨0,[.old 0,.old 1,.old 2,.old 3,.old 4,.nil 30 1],⟨rfl,.inr ⟨⟨rfl,.inl rfl⟩,⟨rfl,rfl,rfl⟩,⟨rfl,.inl rfl⟩,⟨rfl,.inr ⟨lk rfl,.inr rfl,trivial⟩⟩,⟨rfl,rfl,rfl⟩,⟨rfl,rfl,rfl⟩,trivial⟩,.inr ⟨lk rfl,lk rfl,lk rfl,lk rfl,lk rfl,lk rfl,lk rfl,trivial⟩,rfl⟩,Yau _⟩ ?_
 intro Rd3 hRd3 j hj;refine ⟨λhjlt=>?_,λhjge=>?_⟩
 rotate_left
 ·have hje:j=u.arrays.length:=by omega
  rw[hje,YaE] at *;refine ⟨[[.sl 1 (vs.map Zat),.sl 1 ((ZeT c u.arrays n2).map ZhF)]],rfl,rfl,⟨Zbr rfl rfl,Zbr rfl rfl,trivial⟩,?_⟩;refine ⟨⟨by simp[maxLen];omega,by simp;omega⟩,?_⟩;refine ⟨_,I64.wrap (by unfold I64;omega),?_⟩;exact hRd _ _ _ ⟨i+1,[.old 0,.old 7],⟨rfl,.inr ⟨⟨rfl,.inl rfl⟩,⟨by rw[hnext];exact cells_row out ⟨vs,ZeT c u.arrays n2⟩,rfl,rfl⟩,trivial⟩,.inr ⟨lk rfl,lk rfl,lkI hnend.symm,lkI (by push_cast;rfl),trivial⟩,rfl⟩,hil,by show p.length - (i+1) < p.length - i;omega⟩
 have hjl:j < u.arrays.length:=by omega
 have hsz:=hs _ (Yah hjl);have hn3:=Zl7 (c:=c) (u.arrays.take j) hn2;have ht1:ZeT c (u.arrays.take (j+1)) n2=ZeT c (u.arrays.take j) n2++[Zmr (Zdf c) u.arrays[j].size.toNat (Zpk c (u.arrays.take j) n2)]:=by rw[Zay hjl,Zk8]
 have ht2:Zpk c (u.arrays.take (j+1)) n2=Zcr (Zdf c) u.arrays[j].size.toNat (Zpk c (u.arrays.take j) n2):=by rw[Zay hjl,ZnR]
 have hal:(ZeT c (u.arrays.take j) n2).length<=1000:=by rw[Zj1,Yan];omega
 refine ⟨j,_,rfl,gm hjl,?_⟩;generalize ZeT c (u.arrays.take j) n2=arrs at ht1 hal;generalize Zpk c (u.arrays.take j) n2=n3 at hn3 ht1 ht2;generalize u.arrays[j]=ar at hsz ht1 ht2;obtain ⟨sz,hsz'⟩:∃sz:Nat,ar.size=(sz:Int):=⟨ar.size.toNat,by omega⟩;rw[show ar.size.toNat=sz by omega] at ht1 ht2;refine ⟨sz,sz,[.int 0],dJ hsz',dJ hsz',Yax _,(by show 8*sz<=140737488355328;omega),by unfold maxLen;omega,⟨rfl,trivial⟩,?_⟩;refine ZaL (ι:=Nat) (λq=>[(3,.ptr 0 0),(5,.row 1),(6,.g (.int (Zcr (Zdf c) q n3))),(8,.ptr 2 0),(9,.ptr 3 0),(12,.row 6),(19,.g (.int (i:Int))),(46,.g (.int (j:Int))),(55,.g (.int (q:Int)))])
  (λq=>[.blk r.d 24,.row (out.map Cells.g) 92 2,.blk u.d 44,.blk [.row 4,.row 5] 92,.row (vs.map Zat) 3 1,.row (arrs.map ZhF) 30 1,.row ((Zmr (Zdf c) q n3).map Zat++List.replicate (sz - q) [.int 0]) 3 1]) (λq=>q<=sz) (λq=>sz - q)
  ⟨0,[.old 0,.old 1,.old 2,.old 3,.old 4,.old 5,.old 7],⟨rfl,.inl rfl,.inr ⟨lk rfl,lk rfl,lk rfl,lk rfl,lk rfl,lk rfl,lk rfl,lk rfl,lk rfl,trivial⟩,rfl⟩,Yau _⟩ ?_
 intro Rd4 hRd4 q hq;have hlr:(List.replicate sz ([GV.int 0]:List GV)).length=sz:=Ycf;refine ⟨λhqlt=>?_,λhqge=>?_⟩
 ·have hql:q < sz:=by omega
  have hnq:=Zg4 (c:=c) q hn3;have hst:Zcr (Zdf c) (q+1) n3=Zdf c (Zcr (Zdf c) q n3):=rfl;have hrow:=ZmW (Zdf c) q n3;have hrl:=Zlr (Zdf c) q n3;generalize Zcr (Zdf c) q n3=n at hnq hst hrow;generalize Zmr (Zdf c) q n3=row at hrow hrl;have hrl':(row.map Zat).length=q:=by rw[Yab];exact hrl
  have hget:(row.map Zat++List.replicate (sz - q) ([GV.int 0]:List GV))[q]?=some [.int 0]:=by rw[Yak (by omega),hrl',Ybk,List.getElem?_replicate,if_pos (by omega)]
  refine ⟨q,rfl,(by show q < (row.map Zat++List.replicate (sz - q) ([GV.int 0]:List GV)).length;rw[Yae,hrl',Ycf];omega),?_⟩;refine ⟨_,[.int n],hget,⟨rfl,trivial⟩,Yax 1,(λh=>by cases h),?_⟩;refine ⟨by unfold I64;omega,Zae (.inl rfl) pc ⟨_,I64.wrap (by unfold I64;omega),by decide,?_⟩⟩;refine ⟨_,I64.wrap (by unfold I64;omega),?_⟩;exact hRd4 _ _ _ ⟨q+1,[.old 0,.old 1,.old 2,.old 3,.old 4,.old 5,.old 6],⟨rfl,.inr ⟨⟨rfl,.inl rfl⟩,⟨rfl,rfl,rfl⟩,⟨rfl,.inl rfl⟩,⟨rfl,.inl rfl⟩,⟨rfl,rfl,rfl⟩,⟨rfl,rfl,rfl⟩,⟨(ZwG (row.map Zat) q sz hql hrl' [.int n] [.int 0]).trans (by rw[hrow,ints_row]),rfl,rfl⟩,trivial⟩,.inr ⟨lk rfl,lk rfl,lkI (by rw[hst];unfold Zdf;rw[YbN (by omega)]),lk rfl,lk rfl,lk rfl,lk rfl,lk rfl,lkI (by push_cast;rfl),trivial⟩,rfl⟩,hql,by show sz - (q+1) < sz - q;omega⟩
 ·have hqe:q=sz:=by omega
  subst hqe;refine ⟨[[.sl 1 ((Zmr (Zdf c) q n3).map Zat++List.replicate (q - q) [.int 0])]],rfl,rfl,⟨Zbr rfl rfl,trivial⟩,?_⟩;refine ⟨⟨by simp[maxLen];omega,by simp;omega⟩,?_⟩;refine ⟨_,I64.wrap (by unfold I64;omega),?_⟩;exact hRd3 _ _ _ ⟨j+1,[.old 0,.old 1,.old 2,.old 3,.old 4,.old 8],⟨rfl,.inr ⟨⟨rfl,.inl rfl⟩,⟨rfl,rfl,rfl⟩,⟨rfl,.inl rfl⟩,⟨rfl,.inl rfl⟩,⟨rfl,rfl,rfl⟩,⟨by rw[ht1,Ybk,List.replicate_zero,YaF];exact intss_row _ _,rfl,rfl⟩,trivial⟩,.inr ⟨lk rfl,lk rfl,lkI ht2.symm,lk rfl,lk rfl,lk rfl,lkI (by push_cast;rfl),trivial⟩,rfl⟩,hjl,by show u.arrays.length - (j+1) < u.arrays.length - j;omega⟩
end ZN
namespace Barb
open Go Go.Dm Go.Eng
def ZbE (c:Cells):List Int:=c.vars++c.arrays.flatten
def ZaA (cs:List Cells):List Int:=cs.flatMap ZbE
noncomputable def Zgu (p:List Unit) (cs:List Cells):List Int:=if Zds p cs=0 then ZaA cs else []
theorem Zl0:∀(l:List (List Int)),(∀a∈l,a.length<=10)->l.flatten.length<=10*l.length
 | [],_=>by simp
 | a :: l,h=>by have h1:=Zl0 l (λb hb=>h b (Yad _ hb));have h2:=h a Yac;simp only[List.flatten_cons,Yae,List.length_cons];omega
theorem Zr2 {cs:List Cells} {i:Nat} (h:i < cs.length):ZaA (cs.take (i+1))=ZaA (cs.take i)++cs[i].vars++cs[i].arrays.flatten:=by unfold ZaA;rw[Zay h,List.flatMap_append];simp only[YbQ,List.flatMap_nil,YaF,ZbE,Yas]
theorem ZnD {l:List (List Int)} {j:Nat} (h:j < l.length):(l.take (j+1)).flatten=(l.take j).flatten++l[j]:=by rw[Zay h,YbG];simp only[List.flatten_cons,List.flatten_nil,YaF]
theorem ZjH:∀(l:List Cells),(∀c∈l,(ZbE c).length<=38)->(ZaA l).length<=38*l.length
 | [],_=>by simp[ZaA]
 | a :: l,h=>by have h1:=ZjH l (λb hb=>h b (Yad _ hb));have h2:=h a Yac;unfold ZaA at h1 ⊢;simp only[YbQ,Yae,List.length_cons];omega
theorem Zk5 {u:Unit} {c:Cells} (hu:Zcg u=0) (hc:Zcc u c):c.vars.length<=8/\c.arrays.length<=3/\∀a∈c.arrays,a.length<=10:=by obtain ⟨h1,h2,_,h4⟩:=Ziw hu;obtain ⟨⟨c1,c2⟩,c3⟩:=hc;refine ⟨by have:=c1.1;omega,by omega,λa ha=>?_⟩;obtain ⟨j,hj,rfl⟩:=YaK ha;have:=(c3 j hj (by omega)).1;have:=(h4 _ (Yah (show j < u.arrays.length by omega))).2;omega
theorem ZnF {c:Cells} (h1:c.vars.length<=8) (h2:c.arrays.length<=3) (h3:∀a∈c.arrays,a.length<=10):(ZbE c).length<=38:=by have:=Zl0 _ h3;unfold ZbE;simp only[Yae];omega
theorem ZjV {p:List Unit} {cs:List Cells} (h:Zds p cs=0):cs.length<=5/\(∀c∈cs,c.vars.length<=8/\c.arrays.length<=3/\∀a∈c.arrays,a.length<=10):=by obtain ⟨hp,hl,hc⟩:=Zfp h;obtain ⟨h5,hu⟩:=ZrA hp;refine ⟨by omega,λc hm=>?_⟩;obtain ⟨j,hj,rfl⟩:=YaK hm;exact Zk5 (hu _ (Yah (show j < p.length by omega))) (hc j hj (by omega))
theorem ZuE (p:List Unit) (cs:List Cells):(Zgu p cs).length<=190:=by
 unfold Zgu;by_cases h:Zds p cs=0
 ·rw[if_pos h];obtain ⟨h5,hs⟩:=ZjV h;have:=ZjH cs (λc hc=>by obtain ⟨h1,h2,h3⟩:=hs c hc;exact ZnF h1 h2 h3);omega
 ·rw[if_neg h];simp
theorem ZAk {n:Nat} (h:n<=1000):n<=maxLen/\n*8<=140737488355328:=by unfold maxLen;omega
end Barb
namespace ZN
open Go Go.Dm Go.Eng Barb
set_option maxRecDepth 20000 in
theorem Zrf (p:List Barb.Unit) (hp:Zj7 p) (cs:List Cells) (hI:∀c∈cs,Cells.I c) (hl:cs.length*48<=140737488351232):CT Tryz.prog gl 10 [.g (.sl 4 (p.map Unit.g)),.g (.sl 2 (cs.map Cells.g))] (Is (.tuple [.g (.sl 1 ((Zgu p cs).map Zat)),.g (.int (Zds p cs))])):=by
 have lc:(cs.map Cells.g).length=cs.length:=by simp
 refine enter hT hF hM Tryz.func10 rfl 41 rfl (by kernel_rfl) [.tmp 4,.tmp 5] rfl [.g (.sl 4 (p.map Unit.g)),.g (.sl 2 (cs.map Cells.g))] rfl _ ?_;refine Zae (.inl rfl) (Zfy p hp cs hI hl) ⟨λh=>⟨rfl,ZAn rfl (by unfold Zgu;rw[if_neg h];rfl)⟩,λhE=>?_⟩;obtain ⟨h5,hs⟩:=ZjV hE;refine ZaL (ι:=Nat) (λi=>[(20,.g (.int (i:Int))),(7,.row 0)]) (λi=>[.row ((ZaA (cs.take i)).map Zat) 3 1]) (λi=>i<=cs.length) (λi=>cs.length - i)
  ⟨0,[.nil 3 1],⟨rfl,.inl rfl,.inr ⟨lk rfl,.inr rfl,trivial⟩,rfl⟩,Yau _⟩ ?_
 intro Rd hRd i hi;refine ⟨λb0=>?_,λb0=>?_⟩
 rotate_left
 ·have hil:i=cs.length:=by omega
  exact ⟨rfl,ZAm rfl hE.symm (by unfold Zgu;rw[if_pos hE,hil,YaE])⟩
 have b1:i < cs.length:=by omega
 have hlen:=ZjH (cs.take i) (λc hc=>by obtain ⟨h1,h2,h3⟩:=hs c (YaH hc);exact ZnF h1 h2 h3);rw[Yan] at hlen;have hnext:ZaA (cs.take (i+1))=ZaA (cs.take i)++cs[i].vars++cs[i].arrays.flatten:=Zr2 b1;obtain ⟨s1,s2,s3⟩:=hs _ (Yah b1);refine ⟨i,_,rfl,gm b1,?_⟩;generalize cs[i]=c at *;generalize ZaA (cs.take i)=F at *;have la:(c.arrays.map ZhF).length=c.arrays.length:=by simp
 refine ⟨ZAk (by simp only[Yab];omega),?_⟩;refine ZaL (ι:=Nat) (λj=>[(31,.g (.int (j:Int))),(7,.row 0)]) (λj=>[.row ((F++c.vars++(c.arrays.take j).flatten).map Zat) 3 1]) (λj=>j<=c.arrays.length) (λj=>c.arrays.length - j)
  ⟨0,[.old 2],⟨rfl,.inr ⟨⟨by simp,rfl,rfl⟩,trivial⟩,.inr ⟨lk rfl,lk rfl,trivial⟩,rfl⟩,Yau _⟩ ?_
 intro Rj hRj j hj;refine ⟨λh3=>?_,λh3=>?_⟩
 ·have h4:j < c.arrays.length:=by omega
  have hj10:=Zl0 (c.arrays.take j) (λa ha=>s3 a (YaH ha));rw[Yan] at hj10;have ha10:=s3 _ (Yah h4);have hn2:(F++c.vars++(c.arrays.take (j+1)).flatten)=(F++c.vars++(c.arrays.take j).flatten)++c.arrays[j]:=by rw[ZnD h4,<- Yas]
  refine ⟨j,_,rfl,gm h4,?_⟩;refine ⟨ZAk (by simp only[Yab,Yae];omega),?_⟩;refine ⟨_,I64.wrap (by unfold I64;omega),?_⟩;exact hRj _ _ _ ⟨j+1,[.old 1],⟨rfl,.inr ⟨⟨by rw[hn2,Yai (l₂:=c.arrays[j])],rfl,rfl⟩,trivial⟩,.inr ⟨lk rfl,lk rfl,trivial⟩,rfl⟩,h4,by omega⟩
 ·have hjl:j=c.arrays.length:=by omega
  refine ⟨_,I64.wrap (by unfold I64;omega),?_⟩;exact hRd _ _ _ ⟨i+1,[.old 0],⟨rfl,.inr ⟨⟨by rw[hnext,hjl,YaE],rfl,rfl⟩,trivial⟩,.inr ⟨lk rfl,lk rfl,trivial⟩,rfl⟩,b1,by omega⟩
end ZN
namespace Barb
open Go Go.Dm Go.Eng ZN
def RR.code:RR Int->Int
 | .ok _ _=>1
 | .stop e _=>e
def RR.val:RR Int->Int
 | .ok n _=>n
 | .stop _ _=>0
structure RB (p:List Unit) (r:RR Int):Prop where
 si:SI p r.st
 code:1<=r.code/\r.code<=6
 val:wd r.val
theorem RI.rb {p:List Unit} {s:ES} {r:RR Int} (h:RI p s wd r):RB p r:=by
 cases r with
 | ok n s'=>exact ⟨h.1,by show (1:Int)<=1/\(1:Int)<=6;omega,h.2.2⟩
 | stop e s'=>exact ⟨h.1,by have:=h.2.2;show 1<=e/\e<=6;omega,by show wd 0;exact ⟨by decide,by decide⟩⟩
theorem Zpo {p:List Unit} {cs:List Cells} (hg:Zbd p=0) (hl:cs.length=p.length) (h:ZbN p cs):∀c∈cs,c.I:=by intro c hc;obtain ⟨i,hi,rfl⟩:=YaK hc;have hU:=(Za5 hg).2.1 _ (Yah (show i < p.length by omega));obtain ⟨s1,s2,s3⟩:=Zk5 hU (h i hi (by omega));obtain ⟨⟨h1,h2⟩,h3⟩:=h i hi (by omega);refine ⟨⟨λx hx=>by have:=h1.2 x hx;unfold I64;omega,by omega⟩,λa ha=>⟨λx hx=>?_,by have:=s3 a ha;omega⟩,by omega⟩;obtain ⟨k,hk,rfl⟩:=YaK ha;have:=(h3 k hk (by omega)).2 x hx;unfold I64;omega
end Barb
namespace ZN
open Go Go.Dm Go.Eng Go.RowKit Barb
theorem ZwU (r:RR Int):Zzu r=ZzF r.code r.val r.st:=by cases r<;>rfl
end ZN
namespace Barb
open Go Go.Dm Go.Eng ZN
theorem Zth {f:Int->Int} {k:Nat} {n:Int} (h:∀j,0<=Zcr f j n/\Zcr f j n < 70):ZdE (Zmr f k n) k:=by refine ⟨by rw[Zlr],λx hx=>?_⟩;unfold Zmr at hx;obtain ⟨j,_,rfl⟩:=YaW.1 hx;have:=h j;omega
theorem Zq8 (c:Int):∀(l:List Arr) (n:Int),(0<=n/\n < 70)->(∀a∈l,1<=a.size/\a.size<=10)->∀k (h:k < (ZeT c l n).length) (h':k < l.length),ZdE (ZeT c l n)[k] l[k].size
 | [],_,_,_,k,_,h'=>by simp at h'
 | a :: l,n,hn,hs,0,_,_=>by have ha:=hs a Yac;have:=Zth (k:=a.size.toNat) (λj=>Zg4 (c:=c) j hn);rw[show ((a.size.toNat:Nat):Int)=a.size by omega] at this;exact this
 | a :: l,n,hn,hs,k+1,h,h'=>by have:=Zq8 c l (Zcr (Zdf c) a.size.toNat n) (Zg4 _ hn) (λb hb=>hs b (Yad _ hb)) k (by simpa [ZeT] using h) (by simpa using h');simpa [ZeT] using this
theorem ZuJ (b c:Int) (u:Unit) {n:Int} (hn:0<=n/\n < 70) (hs:∀a∈u.arrays,1<=a.size/\a.size<=10):Zcc u (ZnW b c u n) :=
 ⟨⟨Zth (λj=>Zfi j hn),Zj1 _ _ _⟩,λk h h'=>Zq8 c u.arrays _ (Zfi _ hn) hs k h h'⟩
theorem ZnX (b c:Int):∀(l:List Unit) (n:Int),(0<=n/\n < 70)->(∀u∈l,∀a∈u.arrays,1<=a.size/\a.size<=10)->∀i (h:i < (ZaF b c l n).length) (h':i < l.length),Zcc l[i] (ZaF b c l n)[i]
 | [],_,_,_,i,_,h'=>by simp at h'
 | u :: l,n,hn,hs,0,_,_=>ZuJ b c u hn (hs u Yac)
 | u :: l,n,hn,hs,i+1,h,h'=>by have:=ZnX b c l (ZxD b c u n) (ZqN hn) (λv hv=>hs v (Yad _ hv)) i (by simpa [ZaF] using h) (by simpa using h');simpa [ZaF] using this
theorem Zgx {p:List Unit} (hg:Zbd p=0) (r:Raw):Zds p (Zc0 p r)=0:=by obtain ⟨_,hU,_,_⟩:=Za5 hg;obtain ⟨k,hk,hk7⟩:=ZbR r.a (many:=7) (by decide);exact ZfM hg (ZhU _ _ _ _) (λi h h'=>ZnX _ _ p (Zar r.a 7) (by rw[show (7:Int)=((7:Nat):Int) from rfl,hk];omega) (λu hu a ha=>(Zd6 ((Zau (hU u hu)).2.2.2.2.2.1 a ha)).2) i h h')
end Barb
namespace ZN
open Go Go.Dm Go.Eng Go.RowKit Barb
theorem Zpz (l:List Raw) (hl:l.length*32<=140737488351232) (hI:∀r∈l,r.I):CT Tryz.prog gl 14 [.g (.sl 4 (l.map Raw.g))] (Is (.g (.sl 4 ((Zb0 l).map Unit.g)))) :=
 Zu9 l hl hI _ (λh i hi=>Zbl (.inl (by simp only[conv,kp,hi])))
theorem Zve (p:List Barb.Unit) (hp:PC p) (r:Raw) (hr:r.I):CT Tryz.prog gl 15 [.g (.sl 4 (p.map Unit.g)),.agg r.d] (Is (.g (.sl 2 ((Zc0 p r).map Cells.g)))) :=
 ZzO p hp r hr _ (λh i hi=>Zbl (.inl (by simp only[conv,kp,hi])))
theorem ZvV {p:List Barb.Unit} (h:Zbd p=0):PC p:=by obtain ⟨h5,hU,_,_⟩:=Za5 h;exact ⟨by omega,λu hu=>by have:=(Zau (hU u hu)).2.1;omega,λu hu=>by have:=(Zau (hU u hu)).2.2.1;omega,λu hu a ha=>by have:=(Zd6 ((Zau (hU u hu)).2.2.2.2.2.1 a ha)).2;omega⟩
end ZN
