import Derived.Test.YtpjjkiidjofflaaGreatDoorRWd
import Derived.Test.YtpjjkiidjofflaaGreatDoorRG4
import Derived.Test.YtpjjkiidjofflaaGreatDoorRG1
import Derived.Test.YtpjjkiidjofflaaGreatDoorRG2
namespace Barb
open Go Go.Dm Go.Eng
def bdA (op:Int):Int:=if op=1 then 65535 else if op=4\/op=5 then 7 else if op=8 then 10 else if op=9\/op=10\/op=11 then 1199 else if op=12 then 4 else 0
def bdB (op:Int):Int:=if op=11 then 4 else if op=12 then 7 else 0
def bdC (op:Int):Int:=if op=12 then 4 else 0
def Zcg (x:Instr):Prop:=¬(0<=x.a/\x.a<=bdA x.op)\/¬(0<=x.b/\x.b<=bdB x.op)\/¬(0<=x.c/\x.c<=bdC x.op)\/(x.op=8/\x.a=0)
instance (x:Instr):Decidable (Zcg x):=by unfold Zcg;infer_instance
def Zbi (x:Instr):Int:=if ¬(1<=x.op/\x.op<=15) then 3 else if Zcg x then 2 else 0
abbrev Instr.d (x:Instr):List D:=[.g (.int x.op),.g (.int x.a),.g (.int x.b),.g (.int x.c)]
end Barb
namespace Go.Proofs.YtpjjkiidjofflaaGreatDoor
open Go Go.Dm Go.Eng Barb
theorem dI {a b:Int} (h:a=b):D.g (.int a)=D.g (.int b):=by rw[h]
set_option maxRecDepth 20000 in
set_option maxHeartbeats 1000000 in
theorem Check_any (x:Barb.Instr):CT Tryz.prog gl 85 [.agg x.d] (Is (.g (.int (Zbi x)))):=by
 refine enter hT hF hM Tryz.func85 rfl 60 rfl (by kernel_rfl) [.tmp 2] rfl [.agg x.d] rfl _ ?_;refine ⟨λh1=>⟨rfl,ZbH (by unfold Zbi;rw[if_pos (by omega)])⟩,λh1=>⟨λh2=>⟨rfl,ZbH (by unfold Zbi;rw[if_pos (by omega)])⟩,λh2=>?_⟩⟩;have e:Zbi x=if Zcg x then 2 else 0:=by unfold Zbi;rw[if_neg (by omega)]
 refine seqJ (ι:=Int × Int × Int) (λ_=>[(1,.ptr 0 0),(3,.ptr 1 0)]) (λb=>[.blk x.d 127,.blk [.g (.int b.1),.g (.int b.2.1),.g (.int b.2.2)] 185]) (λb=>b=(bdA x.op,bdB x.op,bdC x.op)) (λe0 b hb=>?_) (λRj hRj=>?_)
 rotate_left
 ·have h:x.op=1\/x.op=2\/x.op=3\/x.op=4\/x.op=5\/x.op=6\/x.op=7\/x.op=8\/x.op=9\/x.op=10\/x.op=11\/x.op=12\/x.op=13\/x.op=14\/x.op=15:=by omega
  rcases h with h | h | h | h | h | h | h | h | h | h | h | h | h | h | h
  ·exact ⟨1,dI h,by decide,hRj (65535,0,0) _ ⟨rfl,rfl,trivial⟩ (by rw[h];simp[bdA,bdB,bdC])⟩
  ·exact ⟨2,dI h,by decide,hRj (0,0,0) _ ⟨rfl,rfl,trivial⟩ (by rw[h];rfl)⟩
  ·exact ⟨3,dI h,by decide,hRj (0,0,0) _ ⟨rfl,rfl,trivial⟩ (by rw[h];rfl)⟩
  ·exact ⟨4,dI h,by decide,hRj (7,0,0) _ ⟨rfl,rfl,trivial⟩ (by rw[h];rfl)⟩
  ·exact ⟨5,dI h,by decide,hRj (7,0,0) _ ⟨rfl,rfl,trivial⟩ (by rw[h];rfl)⟩
  ·exact ⟨6,dI h,by decide,hRj (0,0,0) _ ⟨rfl,rfl,trivial⟩ (by rw[h];rfl)⟩
  ·exact ⟨7,dI h,by decide,hRj (0,0,0) _ ⟨rfl,rfl,trivial⟩ (by rw[h];rfl)⟩
  ·exact ⟨8,dI h,by decide,hRj (10,0,0) _ ⟨rfl,rfl,trivial⟩ (by rw[h];rfl)⟩
  ·exact ⟨9,dI h,by decide,hRj (1199,0,0) _ ⟨rfl,rfl,trivial⟩ (by rw[h];rfl)⟩
  ·exact ⟨10,dI h,by decide,hRj (1199,0,0) _ ⟨rfl,rfl,trivial⟩ (by rw[h];rfl)⟩
  ·exact ⟨11,dI h,by decide,hRj (1199,4,0) _ ⟨rfl,rfl,trivial⟩ (by rw[h];rfl)⟩
  ·exact ⟨12,dI h,by decide,hRj (4,7,4) _ ⟨rfl,rfl,trivial⟩ (by rw[h];rfl)⟩
  ·exact ⟨13,dI h,by decide,hRj (0,0,0) _ ⟨rfl,rfl,trivial⟩ (by rw[h];rfl)⟩
  ·exact ⟨14,dI h,by decide,hRj (0,0,0) _ ⟨rfl,rfl,trivial⟩ (by rw[h];rfl)⟩
  ·exact ⟨15,dI h,by decide,hRj (0,0,0) _ ⟨rfl,rfl,trivial⟩ (by rw[h];rfl)⟩
 subst hb;have bad:Zcg x->∀h:Zad,Zbv (Is (.g (.int (Zbi x)))) h (.g (.int 2)):=λhb h=>ZbH (by rw[e,if_pos hb]);have fine:¬Zcg x->∀h:Zad,Zbv (Is (.g (.int (Zbi x)))) h (.g (.int 0)):=λhb h=>ZbH (by rw[e,if_neg hb]);unfold Zcg at bad fine;clear e;generalize bdA x.op=a at *;generalize bdB x.op=b at *;generalize bdC x.op=c at *;refine ⟨λa1=>⟨rfl,bad (by first | omega | (dsimp only at *;omega)) _⟩,λa1=>⟨λa2=>⟨rfl,bad (by first | omega | (dsimp only at *;omega)) _⟩,λa2=>⟨λa3=>⟨rfl,bad (by first | omega | (dsimp only at *;omega)) _⟩,λa3=>⟨λa4=>⟨rfl,bad (by first | omega | (dsimp only at *;omega)) _⟩,λa4=>⟨λa5=>⟨rfl,bad (by first | omega | (dsimp only at *;omega)) _⟩,λa5=>⟨λa6=>⟨rfl,bad (by first | omega | (dsimp only at *;omega)) _⟩,λa6=>⟨λa7=>⟨λa8=>⟨rfl,bad (by first | omega | (dsimp only at *;omega)) _⟩,λa8=>⟨rfl,fine (by first | omega | (dsimp only at *;omega)) _⟩⟩,λa7=>⟨rfl,fine (by first | omega | (dsimp only at *;omega)) _⟩⟩⟩⟩⟩⟩⟩⟩
end Go.Proofs.YtpjjkiidjofflaaGreatDoor
namespace Barb
open Go Go.Dm Go.Eng
def Ze5 (f:Nat->Int):Nat->Int
 | 0=>0
 | n+1=>if Ze5 f n≠0 then Ze5 f n else f n
theorem Zfu {f:Nat->Int}:∀{n:Nat},(∀j,j < n->f j=0)->Ze5 f n=0
 | 0,_=>rfl
 | n+1,h=>by have h0:=Zfu (f:=f) (n:=n) (λj hj=>h j (by omega));simp only[Ze5];rw[if_neg (λh=>h h0)];exact h n (by omega)
theorem firstN_at {f:Nat->Int}:∀{n i:Nat},i < n->(∀j,j < i->f j=0)->f i≠0->Ze5 f n=f i
 | 0,i,h,_,_=>by omega
 | n+1,i,h,ha,h1=>by
  simp only[Ze5]
  by_cases e:i=n
  ·subst e;rw[if_neg (λh=>h (Zfu ha))]
  ·rw[firstN_at (by omega) ha h1,if_pos h1]
theorem Zf4 {f:Nat->Int}:∀{n:Nat},Ze5 f n=0->∀j,j < n->f j=0
 | 0,_,j,h=>by omega
 | n+1,h,j,hj=>by
  simp only[Ze5] at h
  by_cases h0:Ze5 f n=0
  ·rw[if_neg (λh=>h h0)] at h
   by_cases e:j=n
   ·subst e;exact h
   ·exact Zf4 h0 j (by omega)
  ·rw[if_pos h0] at h;exact absurd h h0
abbrev Part.d (p:Part):List D:=[.g (.sl 4 (p.code.map Instr.g)),.g (.sl 2 (p.entries.map Entry.g)),.g (.int p.lo),.g (.int p.hi)]
def ZgJ (n:Nat) (x:Entry):Prop:=¬(0<=x.at_/\x.at_ < n)\/¬(0<=x.params/\x.params<=4)
instance (n:Nat) (x:Entry):Decidable (ZgJ n x):=by unfold ZgJ;infer_instance
def entE (n:Nat) (x:Entry):Int:=if ZgJ n x then 2 else 0
def ZiK (p:Part) (lo:Int):Int :=
 if 1200 < p.code.length\/8 < p.entries.length then 1 else if Zag Zbi p.code≠0 then Zag Zbi p.code else if Zag (entE p.code.length) p.entries≠0 then Zag (entE p.code.length) p.entries
 else if ¬p.lo=lo\/p.hi < p.lo\/250 < p.hi then 8 else 0
def ZdM (m:List Part) (i:Nat):Int:=(0 :: m.map Part.hi).getD i 0
theorem ZdA {m:List Part} {i:Nat} (h:i < m.length):ZdM m (i+1)=m[i].hi:=by simp[ZdM,h]
def imgF (m:List Part) (i:Nat):Int:=if h:i < m.length then ZiK m[i] (ZdM m i) else 0
theorem imgF_at {m:List Part} {i:Nat} (h:i < m.length):imgF m i=ZiK m[i] (ZdM m i):=by unfold imgF;rw[dif_pos h]
def Zju (m:List Part):Int:=if 5 < m.length then 1 else Ze5 (imgF m) m.length
abbrev imgD (m:List Part):List D:=[.g (.sl 4 (m.map Part.g))]
end Barb
namespace Go.Proofs.YtpjjkiidjofflaaGreatDoor
open Go Go.Dm Go.Eng Barb
set_option maxRecDepth 20000 in
set_option maxHeartbeats 1000000 in
theorem part_any (p:Barb.Part) (hp:p.I) (lo:Int):CT Tryz.prog gl 65 [.agg p.d,.g (.int lo)] (Is (.g (.int (ZiK p lo)))):=by
 obtain ⟨_,_,_,_,hcl,hel⟩:=hp;have lc:(p.code.map Instr.g).length=p.code.length:=by simp
 have le:(p.entries.map Entry.g).length=p.entries.length:=by simp
 have e:ZiK p lo=ZiK p lo:=rfl
 conv at e=>rhs;unfold ZiK
 refine enter hT hF hM Tryz.func65 rfl 78 rfl (by kernel_rfl) [.tmp 4] rfl [.agg p.d,.g (.int lo)] rfl _ ?_;refine ⟨λa1=>⟨rfl,ZbH (by rw[e,if_pos (by omega)])⟩,λa1=>⟨λa2=>⟨rfl,ZbH (by rw[e,if_pos (by omega)])⟩,λa2=>?_⟩⟩;rw[if_neg (by omega)] at e;refine ZaM (ι:=Nat) (λi=>[(23,.g (.int (i:Int))),(2,.ptr 0 0)]) (λ_=>[.blk p.d 79]) (λi=>i<=p.code.length/\∀j (hj:j < p.code.length),j < i->Zbi p.code[j]=0) (λi=>p.code.length - i)
  ⟨0,[.old 0],⟨rfl,.inl rfl,.inr ⟨lk rfl,lk rfl,trivial⟩,rfl⟩,Nat.zero_le _,ZfD⟩ ?_
 intro Rd hRd i ⟨hi,ha⟩;refine ⟨λb0=>?_,λb0=>?_⟩
 ·have b1:i < p.code.length:=by omega
  refine ⟨i,_,rfl,gm b1,?_⟩;refine Zae (.inl rfl) (Check_any p.code[i]) ?_;refine ⟨λb3=>⟨rfl,ZbH (by rw[e,ZaQ b1 ha b3,if_pos b3])⟩,λb3=>⟨_,I64.wrap (by unfold I64;omega),?_⟩⟩;exact hRd _ _ _ ⟨i+1,[.old 0],⟨rfl,.inl rfl,.inr ⟨lk rfl,lk rfl,trivial⟩,rfl⟩,⟨b1,ZaI b1 ha b3⟩,by omega⟩
 have hc0:Zag Zbi p.code=0:=ZaV (by omega) ha;rw[if_neg (λh=>h hc0)] at e;clear hRd ha hi b0;refine ZaM (ι:=Nat) (λi=>[(36,.g (.int (i:Int))),(2,.ptr 0 0)]) (λ_=>[.blk p.d 79]) (λi=>i<=p.entries.length/\∀j (hj:j < p.entries.length),j < i->entE p.code.length p.entries[j]=0) (λi=>p.entries.length - i)
  ⟨0,[.old 0],⟨rfl,.inl rfl,.inr ⟨lk rfl,lk rfl,trivial⟩,rfl⟩,Nat.zero_le _,ZfD⟩ ?_
 intro Rd hRd i ⟨hi,ha⟩;refine ⟨λb0=>?_,λb0=>?_⟩
 ·have b1:i < p.entries.length:=by omega
  have bad:ZgJ p.code.length p.entries[i]->∀h:Zad,Zbv (Is (.g (.int (ZiK p lo)))) h (.g (.int 2)):=λhb h=>by
   have hz:entE p.code.length p.entries[i]=2:=by unfold entE;rw[if_pos hb]
   exact ZbH (by rw[e,ZaQ b1 ha (by rw[hz];decide),hz,if_pos (by decide)])
  unfold ZgJ at bad;refine ⟨i,_,rfl,gm b1,?_⟩;refine ⟨λc1=>⟨rfl,bad (by omega) _⟩,λc1=>⟨λc2=>⟨rfl,bad (by omega) _⟩,λc2=>⟨λc3=>⟨rfl,bad (by omega) _⟩,λc3=>⟨λc4=>⟨rfl,bad (by omega) _⟩,λc4=>⟨_,I64.wrap (by unfold I64;omega),?_⟩⟩⟩⟩⟩;exact hRd _ _ _ ⟨i+1,[.old 0],⟨rfl,.inl rfl,.inr ⟨lk rfl,lk rfl,trivial⟩,rfl⟩,⟨b1,ZaI b1 ha (by unfold entE;rw[if_neg (by unfold ZgJ;omega)])⟩,by omega⟩
 have he0:Zag (entE p.code.length) p.entries=0:=ZaV (by omega) ha;rw[if_neg (λh=>h he0)] at e;exact ⟨λd1=>⟨rfl,ZbH (by rw[e,if_pos (.inl d1)])⟩,λd1=>⟨λd2=>⟨rfl,ZbH (by rw[e,if_pos (.inr (.inl d2))])⟩,λd2=>⟨λd3=>⟨rfl,ZbH (by rw[e,if_pos (.inr (.inr d3))])⟩,λd3=>⟨rfl,ZbH (by rw[e,if_neg (by omega)])⟩⟩⟩⟩
theorem MemCheck_any (m:Zal) (hm:Zal.I m):CT Tryz.prog gl 48 [.agg (imgD m)] (Is (.g (.int (Zju m)))):=by
 obtain ⟨hI,hl⟩:=hm;have lm:(m.map Part.g).length=m.length:=by simp
 refine enter hT hF hM Tryz.func48 rfl 27 rfl (by kernel_rfl) [.tmp 2] rfl [.agg (imgD m)] rfl _ ?_;refine ⟨λa1=>⟨rfl,ZbH (by unfold Zju;rw[if_pos (by omega)])⟩,λa1=>?_⟩;have e:Zju m=Ze5 (imgF m) m.length:=by unfold Zju;rw[if_neg (by omega)]
 refine ZaM (ι:=Nat) (λi=>[(14,.g (.int (i:Int))),(3,.g (.int (ZdM m i)))]) (λ_=>[]) (λi=>i<=m.length/\∀j,j < i->imgF m j=0) (λi=>m.length - i)
  ⟨0,[],⟨rfl,.inl rfl,.inr ⟨lk rfl,lk rfl,trivial⟩,rfl⟩,Nat.zero_le _,λj h=>absurd h (Nat.not_lt_zero j)⟩ ?_
 intro Rd hRd i ⟨hi,ha⟩;refine ⟨λb0=>?_,λb0=>?_⟩
 ·have b1:i < m.length:=by omega
  have hF:=imgF_at b1;refine ⟨i,_,rfl,gm b1,?_⟩;refine Zae (.inl rfl) (part_any m[i] (hI _ (List.getElem_mem _)) (ZdM m i)) ?_;refine ⟨λb3=>⟨rfl,ZbH (by rw[e,firstN_at b1 ha (by rw[hF];exact b3),hF])⟩,λb3=>⟨_,I64.wrap (by unfold I64;omega),?_⟩⟩;exact hRd _ _ _ ⟨i+1,[],⟨rfl,.inl rfl,.inr ⟨lk rfl,lkI (ZdA b1).symm,trivial⟩,rfl⟩,⟨b1,λj hj=>by
   by_cases hji:j=i
   ·subst hji;rw[hF];exact b3
   ·exact ha j (by omega)⟩,by omega⟩
 ·have hil:i=m.length:=by omega
  exact ⟨rfl,ZbH (by rw[e,Zfu (λj hj=>ha j (by omega))])⟩
end Go.Proofs.YtpjjkiidjofflaaGreatDoor
namespace Barb
open Go Go.Dm Go.Eng
def Zc7 (b n:Int):Int:=(n*3+b) % 50
def ZcZ (c n:Int):Int:=(n*5+c) % 70
def Zci (f:Int->Int):Nat->Int->Int
 | 0,n=>n
 | k+1,n=>f (Zci f k n)
def rowI (f:Int->Int) (k:Nat) (n:Int):List Int:=(List.range k).map (λi=>Zci f i n)
theorem rowI_len (f:Int->Int) (k:Nat) (n:Int):(rowI f k n).length=k:=by simp[rowI]
theorem rowI_succ (f:Int->Int) (k:Nat) (n:Int):rowI f (k+1) n=rowI f k n++[Zci f k n]:=by simp[rowI,List.range_succ]
def ZeG (c:Int):List Arr->Int->List (List Int)
 | [],_=>[]
 | a :: l,n=>rowI (ZcZ c) a.size.toNat n :: ZeG c l (Zci (ZcZ c) a.size.toNat n)
def endA (c:Int):List Arr->Int->Int
 | [],n=>n
 | a :: l,n=>endA c l (Zci (ZcZ c) a.size.toNat n)
def cellsU (b c:Int) (u:Unit) (n:Int):Cells:=⟨rowI (Zc7 b) u.vars.length n,ZeG c u.arrays (Zci (Zc7 b) u.vars.length n)⟩
def endU (b c:Int) (u:Unit) (n:Int):Int:=endA c u.arrays (Zci (Zc7 b) u.vars.length n)
def ZaB (b c:Int):List Unit->Int->List Cells
 | [],_=>[]
 | u :: l,n=>cellsU b c u n :: ZaB b c l (endU b c u n)
def endL (b c:Int):List Unit->Int->Int
 | [],n=>n
 | u :: l,n=>endL b c l (endU b c u n)
def ZcK (p:List Unit) (r:Raw):List Cells:=ZaB (Za7 r.b 5) (Za7 r.c 9) p (Za7 r.a 7)
theorem Zji (b c:Int) (u:Unit):∀(l:List Unit) (n:Int),ZaB b c (l++[u]) n=ZaB b c l n++[cellsU b c u (endL b c l n)]
 | [],_=>rfl
 | v :: l,n=>by simp only[List.cons_append,ZaB,endL,Zji b c u l]
theorem endL_snoc (b c:Int) (u:Unit):∀(l:List Unit) (n:Int),endL b c (l++[u]) n=endU b c u (endL b c l n)
 | [],_=>rfl
 | v :: l,n=>by simp only[List.cons_append,endL,endL_snoc b c u l]
theorem arrsC_snoc (c:Int) (a:Arr):∀(l:List Arr) (n:Int),ZeG c (l++[a]) n=ZeG c l n++[rowI (ZcZ c) a.size.toNat (endA c l n)]
 | [],_=>rfl
 | v :: l,n=>by simp only[List.cons_append,ZeG,endA,arrsC_snoc c a l]
theorem endA_snoc (c:Int) (a:Arr):∀(l:List Arr) (n:Int),endA c (l++[a]) n=Zci (ZcZ c) a.size.toNat (endA c l n)
 | [],_=>rfl
 | v :: l,n=>by simp only[List.cons_append,endA,endA_snoc c a l]
theorem Zhn (b c:Int):∀(l:List Unit) (n:Int),(ZaB b c l n).length=l.length
 | [],_=>rfl
 | v :: l,n=>by simp only[ZaB,List.length_cons,Zhn b c l]
theorem Ze3 {b:Int}:∀(k:Nat) {n:Int},0<=n/\n < 70->0<=Zci (Zc7 b) k n/\Zci (Zc7 b) k n < 70
 | 0,_,h=>h
 | k+1,n,h=>by show 0<=Zc7 b (Zci (Zc7 b) k n)/\Zc7 b (Zci (Zc7 b) k n) < 70;unfold Zc7;omega
theorem ZgC {c:Int}:∀(k:Nat) {n:Int},0<=n/\n < 70->0<=Zci (ZcZ c) k n/\Zci (ZcZ c) k n < 70
 | 0,_,h=>h
 | k+1,n,h=>by show 0<=ZcZ c (Zci (ZcZ c) k n)/\ZcZ c (Zci (ZcZ c) k n) < 70;unfold ZcZ;omega
theorem endA_rng {c:Int}:∀(l:List Arr) {n:Int},0<=n/\n < 70->0<=endA c l n/\endA c l n < 70
 | [],_,h=>h
 | _ :: l,_,h=>endA_rng l (ZgC _ h)
theorem endU_rng {b c:Int} {u:Unit} {n:Int} (h:0<=n/\n < 70):0<=endU b c u n/\endU b c u n < 70:=endA_rng _ (Ze3 _ h)
theorem endL_rng {b c:Int}:∀(l:List Unit) {n:Int},0<=n/\n < 70->0<=endL b c l n/\endL b c l n < 70
 | [],_,h=>h
 | _ :: l,_,h=>endL_rng l (endU_rng h)
end Barb
namespace Barb
open Go Go.Dm Go.Eng
structure PC (p:List Unit):Prop where
 len:p.length<=1000
 vars:∀u∈p,u.vars.length<=1000
 arrs:∀u∈p,u.arrays.length<=1000
 size:∀u∈p,∀a∈u.arrays,0<=a.size/\a.size<=1000
theorem Zjn (c:Int):∀(l:List Arr) (n:Int),(ZeG c l n).length=l.length
 | [],_=>rfl
 | _ :: l,n=>by simp only[ZeG,List.length_cons,Zjn c l]
theorem cells_row (l:List Cells) (c:Cells):l.map Cells.g++[[.sl 1 (c.vars.map Zat),.sl 1 (c.arrays.map Zhb)]]=(l++[c]).map Cells.g:=by rw[List.map_append];rfl
theorem ints_row (l:List Int) (n:Int):l.map Zat++[[.int n]]=(l++[n]).map Zat:=by rw[List.map_append];rfl
theorem intss_row (l:List (List Int)) (n:List Int):l.map Zhb++[[.sl 1 (n.map Zat)]]=(l++[n]).map Zhb:=by rw[List.map_append];rfl
theorem fill_set (A:List (List GV)) (q sz:Nat) (h:q < sz) (hA:A.length=q) (x z:List GV):(A++List.replicate (sz - q) z).set q x=(A++[x])++List.replicate (sz - (q+1)) z:=by obtain ⟨m,hm⟩:∃m,sz - q=m+1:=⟨sz - q - 1,by omega⟩;rw[hm,show sz - (q+1)=m by omega,List.replicate_succ,List.set_append_right _ _ (by omega),hA,Nat.sub_self,List.set_cons_zero];simp
end Barb
namespace Go.Proofs.YtpjjkiidjofflaaGreatDoor
open Go Go.Dm Go.Eng Go.RowKit Barb
set_option maxRecDepth 20000 in
set_option maxHeartbeats 8000000 in
theorem Cells_Q (p:List Barb.Unit) (hp:PC p) (r:Raw) (hr:r.I) (Q:Out->Prop) (hQ:∀(h:Zad) (i:Nat),h[i]?=some (.row ((ZcK p r).map Cells.g) 92 2)->Zbv Q h (.row i)) :
  CT Tryz.prog gl 15 [.g (.sl 4 (p.map Unit.g)),.agg r.d] Q:=by
 obtain ⟨_,ra,rb,rc⟩:=hr;have lp:(p.map Unit.g).length=p.length:=List.length_map _;have na:=Zcf r.a (many:=7) (by decide);have nb:=Zcf r.b (many:=5) (by decide);have nc:=Zcf r.c (many:=9) (by decide);have pa:=ZaP r.a 7 ra (by decide);have pb:=ZaP r.b 5 rb (by decide);have pc:=ZaP r.c 9 rc (by decide);unfold ZcK at hQ;generalize Za7 r.a 7=n0 at na pa hQ;generalize Za7 r.b 5=b at nb pb hQ;generalize Za7 r.c 9=c at nc pc hQ;have hlen:=hp.len;refine enter hT hF hM Tryz.func15 rfl 83 rfl (by kernel_rfl) [.tmp 4] rfl [.g (.sl 4 (p.map Unit.g)),.agg r.d] rfl _ ?_;refine Zae (.inl rfl) pa ?_;refine ZaM (ι:=Nat) (λi=>[(3,.ptr 0 0),(5,.row 1),(6,.g (.int (endL b c (p.take i) n0))),(19,.g (.int (i:Int)))]) (λi=>[.blk r.d 24,.row ((ZaB b c (p.take i) n0).map Cells.g) 92 2]) (λi=>i<=p.length) (λi=>p.length - i)
  ⟨0,[.old 0,.nil 92 2],⟨rfl,.inl rfl,.inr ⟨lk rfl,.inr rfl,lk rfl,lk rfl,trivial⟩,rfl⟩,Nat.zero_le _⟩ ?_
 intro Rd hRd i hi;refine ⟨λhlt=>?_,λhge=>?_⟩
 rotate_left
 ·have hil:i=p.length:=by omega
  exact ⟨rfl,hQ _ _ (by rw[hil,List.take_length];rfl)⟩
 have hil:i < p.length:=by omega
 have hmem:=List.getElem_mem hil;have hv:=hp.vars _ hmem;have ha:=hp.arrs _ hmem;have hs:=hp.size _ hmem;have hn1:=endL_rng (b:=b) (c:=c) (p.take i) (n:=n0) (by omega);have hlo:=Zhn b c (p.take i) n0;rw[List.length_take] at hlo;have hnext:ZaB b c (p.take (i+1)) n0=ZaB b c (p.take i) n0++[cellsU b c p[i] (endL b c (p.take i) n0)]:=by rw[Zav hil,Zji]
 have hnend:endL b c (p.take (i+1)) n0=endU b c p[i] (endL b c (p.take i) n0):=by rw[Zav hil,endL_snoc]
 refine ⟨i,_,rfl,gm hil,?_⟩;generalize hou:ZaB b c (p.take i) n0=out at hnext hlo;generalize endL b c (p.take i) n0=n1 at hn1 hnext hnend;generalize p[i]=u at hv ha hs hnext hnend;have lu:(u.vars.map ZbG).length=u.vars.length:=List.length_map _;have la:(u.arrays.map Arr.g).length=u.arrays.length:=List.length_map _;refine ZaM (ι:=Nat) (λk=>[(3,.ptr 0 0),(5,.row 1),(6,.g (.int (Zci (Zc7 b) k n1))),(8,.ptr 2 0),(9,.ptr 3 0),(19,.g (.int (i:Int))),(27,.g (.int (k:Int)))])
  (λk=>[.blk r.d 24,.row (out.map Cells.g) 92 2,.blk u.d 44,.blk [.row 4,.nils] 92,.row ((rowI (Zc7 b) k n1).map Zat) 3 1]) (λk=>k<=u.vars.length) (λk=>u.vars.length - k)
  ⟨0,[.old 0,.old 1,.old 2,.old 3,.nil 3 1],⟨rfl,.inr ⟨⟨rfl,.inl rfl⟩,⟨rfl,rfl,rfl⟩,⟨rfl,.inl rfl⟩,⟨rfl,.inr ⟨.inr rfl,lk rfl,trivial⟩⟩,⟨rfl,rfl,rfl⟩,trivial⟩,.inr ⟨lk rfl,lk rfl,lk rfl,lk rfl,lk rfl,lk rfl,lk rfl,trivial⟩,rfl⟩,Nat.zero_le _⟩ ?_
 intro Rd2 hRd2 k hk;refine ⟨λhklt=>?_,λhkge=>?_⟩
 ·have hkl:k < u.vars.length:=by omega
  have hnk:=Ze3 (b:=b) k hn1;have hst:Zci (Zc7 b) (k+1) n1=Zc7 b (Zci (Zc7 b) k n1):=rfl;have hrow:=rowI_succ (Zc7 b) k n1;have hrl:=rowI_len (Zc7 b) k n1;generalize Zci (Zc7 b) k n1=n at hnk hst hrow;generalize rowI (Zc7 b) k n1=row at hrow hrl;refine ⟨[[.int n]],rfl,rfl,⟨rfl,trivial⟩,?_⟩;refine ⟨⟨by simp[maxLen];omega,by simp;omega⟩,?_⟩;refine ⟨by unfold I64;omega,Zae (.inl rfl) pb ⟨_,I64.wrap (by unfold I64;omega),by decide,?_⟩⟩;refine ⟨_,I64.wrap (by unfold I64;omega),?_⟩;exact hRd2 _ _ _ ⟨k+1,[.old 0,.old 1,.old 2,.old 3,.old 6],⟨rfl,.inr ⟨⟨rfl,.inl rfl⟩,⟨rfl,rfl,rfl⟩,⟨rfl,.inl rfl⟩,⟨rfl,.inl rfl⟩,⟨by rw[hrow];exact ints_row row n,rfl,rfl⟩,trivial⟩,.inr ⟨lk rfl,lk rfl,lkI (by rw[hst];unfold Zc7;rw[Int.tmod_eq_emod_of_nonneg (by omega)]),lk rfl,lk rfl,lk rfl,lkI (by push_cast;rfl),trivial⟩,rfl⟩,hkl,by show u.vars.length - (k+1) < u.vars.length - k;omega⟩
 have hke:k=u.vars.length:=by omega
 subst hke;have hn2:=Ze3 (b:=b) u.vars.length hn1;have hcu:cellsU b c u n1=⟨rowI (Zc7 b) u.vars.length n1,ZeG c u.arrays (Zci (Zc7 b) u.vars.length n1)⟩:=rfl;have heu:endU b c u n1=endA c u.arrays (Zci (Zc7 b) u.vars.length n1):=rfl;rw[hcu] at hnext;rw[heu] at hnend;generalize rowI (Zc7 b) u.vars.length n1=vs at hnext;generalize Zci (Zc7 b) u.vars.length n1=n2 at hn2 hnext hnend;refine ZaM (ι:=Nat) (λj=>[(3,.ptr 0 0),(5,.row 1),(6,.g (.int (endA c (u.arrays.take j) n2))),(8,.ptr 2 0),(9,.ptr 3 0),(19,.g (.int (i:Int))),(46,.g (.int (j:Int)))])
  (λj=>[.blk r.d 24,.row (out.map Cells.g) 92 2,.blk u.d 44,.blk [.row 4,.row 5] 92,.row (vs.map Zat) 3 1,.row ((ZeG c (u.arrays.take j) n2).map Zhb) 30 1]) (λj=>j<=u.arrays.length) (λj=>u.arrays.length - j)
  ⟨0,[.old 0,.old 1,.old 2,.old 3,.old 4,.nil 30 1],⟨rfl,.inr ⟨⟨rfl,.inl rfl⟩,⟨rfl,rfl,rfl⟩,⟨rfl,.inl rfl⟩,⟨rfl,.inr ⟨lk rfl,.inr rfl,trivial⟩⟩,⟨rfl,rfl,rfl⟩,⟨rfl,rfl,rfl⟩,trivial⟩,.inr ⟨lk rfl,lk rfl,lk rfl,lk rfl,lk rfl,lk rfl,lk rfl,trivial⟩,rfl⟩,Nat.zero_le _⟩ ?_
 intro Rd3 hRd3 j hj;refine ⟨λhjlt=>?_,λhjge=>?_⟩
 rotate_left
 ·have hje:j=u.arrays.length:=by omega
  rw[hje,List.take_length] at *;refine ⟨[[.sl 1 (vs.map Zat),.sl 1 ((ZeG c u.arrays n2).map Zhb)]],rfl,rfl,⟨Zbl rfl rfl,Zbl rfl rfl,trivial⟩,?_⟩;refine ⟨⟨by simp[maxLen];omega,by simp;omega⟩,?_⟩;refine ⟨_,I64.wrap (by unfold I64;omega),?_⟩;exact hRd _ _ _ ⟨i+1,[.old 0,.old 7],⟨rfl,.inr ⟨⟨rfl,.inl rfl⟩,⟨by rw[hnext];exact cells_row out ⟨vs,ZeG c u.arrays n2⟩,rfl,rfl⟩,trivial⟩,.inr ⟨lk rfl,lk rfl,lkI hnend.symm,lkI (by push_cast;rfl),trivial⟩,rfl⟩,hil,by show p.length - (i+1) < p.length - i;omega⟩
 have hjl:j < u.arrays.length:=by omega
 have hsz:=hs _ (List.getElem_mem hjl);have hn3:=endA_rng (c:=c) (u.arrays.take j) hn2;have ht1:ZeG c (u.arrays.take (j+1)) n2=ZeG c (u.arrays.take j) n2++[rowI (ZcZ c) u.arrays[j].size.toNat (endA c (u.arrays.take j) n2)]:=by rw[Zav hjl,arrsC_snoc]
 have ht2:endA c (u.arrays.take (j+1)) n2=Zci (ZcZ c) u.arrays[j].size.toNat (endA c (u.arrays.take j) n2):=by rw[Zav hjl,endA_snoc]
 have hal:(ZeG c (u.arrays.take j) n2).length<=1000:=by rw[Zjn,List.length_take];omega
 refine ⟨j,_,rfl,gm hjl,?_⟩;generalize ZeG c (u.arrays.take j) n2=arrs at ht1 hal;generalize endA c (u.arrays.take j) n2=n3 at hn3 ht1 ht2;generalize u.arrays[j]=ar at hsz ht1 ht2;obtain ⟨sz,hsz'⟩:∃sz:Nat,ar.size=(sz:Int):=⟨ar.size.toNat,by omega⟩;rw[show ar.size.toNat=sz by omega] at ht1 ht2;refine ⟨sz,sz,[.int 0],dJ hsz',dJ hsz',Nat.le_refl _,(by show 8*sz<=140737488355328;omega),by unfold maxLen;omega,⟨rfl,trivial⟩,?_⟩;refine ZaM (ι:=Nat) (λq=>[(3,.ptr 0 0),(5,.row 1),(6,.g (.int (Zci (ZcZ c) q n3))),(8,.ptr 2 0),(9,.ptr 3 0),(12,.row 6),(19,.g (.int (i:Int))),(46,.g (.int (j:Int))),(55,.g (.int (q:Int)))])
  (λq=>[.blk r.d 24,.row (out.map Cells.g) 92 2,.blk u.d 44,.blk [.row 4,.row 5] 92,.row (vs.map Zat) 3 1,.row (arrs.map Zhb) 30 1,.row ((rowI (ZcZ c) q n3).map Zat++List.replicate (sz - q) [.int 0]) 3 1]) (λq=>q<=sz) (λq=>sz - q)
  ⟨0,[.old 0,.old 1,.old 2,.old 3,.old 4,.old 5,.old 7],⟨rfl,.inl rfl,.inr ⟨lk rfl,lk rfl,lk rfl,lk rfl,lk rfl,lk rfl,lk rfl,lk rfl,lk rfl,trivial⟩,rfl⟩,Nat.zero_le _⟩ ?_
 intro Rd4 hRd4 q hq;have hlr:(List.replicate sz ([GV.int 0]:List GV)).length=sz:=List.length_replicate;refine ⟨λhqlt=>?_,λhqge=>?_⟩
 ·have hql:q < sz:=by omega
  have hnq:=ZgC (c:=c) q hn3;have hst:Zci (ZcZ c) (q+1) n3=ZcZ c (Zci (ZcZ c) q n3):=rfl;have hrow:=rowI_succ (ZcZ c) q n3;have hrl:=rowI_len (ZcZ c) q n3;generalize Zci (ZcZ c) q n3=n at hnq hst hrow;generalize rowI (ZcZ c) q n3=row at hrow hrl;have hrl':(row.map Zat).length=q:=by rw[List.length_map];exact hrl
  have hget:(row.map Zat++List.replicate (sz - q) ([GV.int 0]:List GV))[q]?=some [.int 0]:=by rw[List.getElem?_append_right (by omega),hrl',Nat.sub_self,List.getElem?_replicate,if_pos (by omega)]
  refine ⟨q,rfl,(by show q < (row.map Zat++List.replicate (sz - q) ([GV.int 0]:List GV)).length;rw[List.length_append,hrl',List.length_replicate];omega),?_⟩;refine ⟨_,[.int n],hget,⟨rfl,trivial⟩,Nat.le_refl 1,(λh=>by cases h),?_⟩;refine ⟨by unfold I64;omega,Zae (.inl rfl) pc ⟨_,I64.wrap (by unfold I64;omega),by decide,?_⟩⟩;refine ⟨_,I64.wrap (by unfold I64;omega),?_⟩;exact hRd4 _ _ _ ⟨q+1,[.old 0,.old 1,.old 2,.old 3,.old 4,.old 5,.old 6],⟨rfl,.inr ⟨⟨rfl,.inl rfl⟩,⟨rfl,rfl,rfl⟩,⟨rfl,.inl rfl⟩,⟨rfl,.inl rfl⟩,⟨rfl,rfl,rfl⟩,⟨rfl,rfl,rfl⟩,⟨(fill_set (row.map Zat) q sz hql hrl' [.int n] [.int 0]).trans (by rw[hrow,ints_row]),rfl,rfl⟩,trivial⟩,.inr ⟨lk rfl,lk rfl,lkI (by rw[hst];unfold ZcZ;rw[Int.tmod_eq_emod_of_nonneg (by omega)]),lk rfl,lk rfl,lk rfl,lk rfl,lk rfl,lkI (by push_cast;rfl),trivial⟩,rfl⟩,hql,by show sz - (q+1) < sz - q;omega⟩
 ·have hqe:q=sz:=by omega
  subst hqe;refine ⟨[[.sl 1 ((rowI (ZcZ c) q n3).map Zat++List.replicate (q - q) [.int 0])]],rfl,rfl,⟨Zbl rfl rfl,trivial⟩,?_⟩;refine ⟨⟨by simp[maxLen];omega,by simp;omega⟩,?_⟩;refine ⟨_,I64.wrap (by unfold I64;omega),?_⟩;exact hRd3 _ _ _ ⟨j+1,[.old 0,.old 1,.old 2,.old 3,.old 4,.old 8],⟨rfl,.inr ⟨⟨rfl,.inl rfl⟩,⟨rfl,rfl,rfl⟩,⟨rfl,.inl rfl⟩,⟨rfl,.inl rfl⟩,⟨rfl,rfl,rfl⟩,⟨by rw[ht1,Nat.sub_self,List.replicate_zero,List.append_nil];exact intss_row _ _,rfl,rfl⟩,trivial⟩,.inr ⟨lk rfl,lk rfl,lkI ht2.symm,lk rfl,lk rfl,lk rfl,lkI (by push_cast;rfl),trivial⟩,rfl⟩,hjl,by show u.arrays.length - (j+1) < u.arrays.length - j;omega⟩
end Go.Proofs.YtpjjkiidjofflaaGreatDoor
namespace Barb
open Go Go.Dm Go.Eng
def Zby (c:Cells):List Int:=c.vars++c.arrays.flatten
def ZaJ (cs:List Cells):List Int:=cs.flatMap Zby
noncomputable def Zf6 (p:List Unit) (cs:List Cells):List Int:=if Zdf p cs=0 then ZaJ cs else []
theorem flat_ten:∀(l:List (List Int)),(∀a∈l,a.length<=10)->l.flatten.length<=10*l.length
 | [],_=>by simp
 | a :: l,h=>by have h1:=flat_ten l (λb hb=>h b (List.mem_cons_of_mem _ hb));have h2:=h a List.mem_cons_self;simp only[List.flatten_cons,List.length_append,List.length_cons];omega
theorem flatN_succ {cs:List Cells} {i:Nat} (h:i < cs.length):ZaJ (cs.take (i+1))=ZaJ (cs.take i)++cs[i].vars++cs[i].arrays.flatten:=by unfold ZaJ;rw[Zav h,List.flatMap_append];simp only[List.flatMap_cons,List.flatMap_nil,List.append_nil,Zby,List.append_assoc]
theorem flatten_succ {l:List (List Int)} {j:Nat} (h:j < l.length):(l.take (j+1)).flatten=(l.take j).flatten++l[j]:=by rw[Zav h,List.flatten_append];simp only[List.flatten_cons,List.flatten_nil,List.append_nil]
theorem Zi4:∀(l:List Cells),(∀c∈l,(Zby c).length<=38)->(ZaJ l).length<=38*l.length
 | [],_=>by simp[ZaJ]
 | a :: l,h=>by have h1:=Zi4 l (λb hb=>h b (List.mem_cons_of_mem _ hb));have h2:=h a List.mem_cons_self;unfold ZaJ at h1 ⊢;simp only[List.flatMap_cons,List.length_append,List.length_cons];omega
theorem cell_small {u:Unit} {c:Cells} (hu:Zb7 u=0) (hc:Zb4 u c):c.vars.length<=8/\c.arrays.length<=3/\∀a∈c.arrays,a.length<=10:=by obtain ⟨h1,h2,_,h4⟩:=ZhV hu;obtain ⟨⟨c1,c2⟩,c3⟩:=hc;refine ⟨by have:=c1.1;omega,by omega,λa ha=>?_⟩;obtain ⟨j,hj,rfl⟩:=List.getElem_of_mem ha;have:=(c3 j hj (by omega)).1;have:=(h4 _ (List.getElem_mem (show j < u.arrays.length by omega))).2;omega
theorem flatC_len {c:Cells} (h1:c.vars.length<=8) (h2:c.arrays.length<=3) (h3:∀a∈c.arrays,a.length<=10):(Zby c).length<=38:=by have:=flat_ten _ h3;unfold Zby;simp only[List.length_append];omega
theorem Zjh {p:List Unit} {cs:List Cells} (h:Zdf p cs=0):cs.length<=5/\(∀c∈cs,c.vars.length<=8/\c.arrays.length<=3/\∀a∈c.arrays,a.length<=10):=by obtain ⟨hp,hl,hc⟩:=Ze9 h;obtain ⟨h5,hu⟩:=progE_fine hp;refine ⟨by omega,λc hm=>?_⟩;obtain ⟨j,hj,rfl⟩:=List.getElem_of_mem hm;exact cell_small (hu _ (List.getElem_mem (show j < p.length by omega))) (hc j hj (by omega))
theorem dataL_len (p:List Unit) (cs:List Cells):(Zf6 p cs).length<=190:=by
 unfold Zf6
 by_cases h:Zdf p cs=0
 ·rw[if_pos h];obtain ⟨h5,hs⟩:=Zjh h;have:=Zi4 cs (λc hc=>by obtain ⟨h1,h2,h3⟩:=hs c hc;exact flatC_len h1 h2 h3);omega
 ·rw[if_neg h];simp
theorem room8 {n:Nat} (h:n<=1000):n<=maxLen/\n*8<=140737488355328:=by unfold maxLen;omega
end Barb
namespace Go.Proofs.YtpjjkiidjofflaaGreatDoor
open Go Go.Dm Go.Eng Barb
set_option maxRecDepth 20000 in
theorem Data_any (p:List Barb.Unit) (hp:Zjw p) (cs:List Cells) (hI:∀c∈cs,Cells.I c) (hl:cs.length*48<=140737488351232):CT Tryz.prog gl 10 [.g (.sl 4 (p.map Unit.g)),.g (.sl 2 (cs.map Cells.g))] (Is (.tuple [.g (.sl 1 ((Zf6 p cs).map Zat)),.g (.int (Zdf p cs))])):=by
 have lc:(cs.map Cells.g).length=cs.length:=by simp
 refine enter hT hF hM Tryz.func10 rfl 41 rfl (by kernel_rfl) [.tmp 4,.tmp 5] rfl [.g (.sl 4 (p.map Unit.g)),.g (.sl 2 (cs.map Cells.g))] rfl _ ?_;refine Zae (.inl rfl) (Zfi p hp cs hI hl) ⟨λh=>⟨rfl,retNE rfl (by unfold Zf6;rw[if_neg h];rfl)⟩,λhE=>?_⟩;obtain ⟨h5,hs⟩:=Zjh hE;refine ZaM (ι:=Nat) (λi=>[(20,.g (.int (i:Int))),(7,.row 0)]) (λi=>[.row ((ZaJ (cs.take i)).map Zat) 3 1]) (λi=>i<=cs.length) (λi=>cs.length - i)
  ⟨0,[.nil 3 1],⟨rfl,.inl rfl,.inr ⟨lk rfl,.inr rfl,trivial⟩,rfl⟩,Nat.zero_le _⟩ ?_
 intro Rd hRd i hi;refine ⟨λb0=>?_,λb0=>?_⟩
 rotate_left
 ·have hil:i=cs.length:=by omega
  exact ⟨rfl,retRE rfl hE.symm (by unfold Zf6;rw[if_pos hE,hil,List.take_length])⟩
 have b1:i < cs.length:=by omega
 have hlen:=Zi4 (cs.take i) (λc hc=>by obtain ⟨h1,h2,h3⟩:=hs c (List.mem_of_mem_take hc);exact flatC_len h1 h2 h3);rw[List.length_take] at hlen;have hnext:ZaJ (cs.take (i+1))=ZaJ (cs.take i)++cs[i].vars++cs[i].arrays.flatten:=flatN_succ b1;obtain ⟨s1,s2,s3⟩:=hs _ (List.getElem_mem b1);refine ⟨i,_,rfl,gm b1,?_⟩;generalize cs[i]=c at *;generalize ZaJ (cs.take i)=F at *;have la:(c.arrays.map Zhb).length=c.arrays.length:=by simp
 refine ⟨room8 (by simp only[List.length_map];omega),?_⟩;refine ZaM (ι:=Nat) (λj=>[(31,.g (.int (j:Int))),(7,.row 0)]) (λj=>[.row ((F++c.vars++(c.arrays.take j).flatten).map Zat) 3 1]) (λj=>j<=c.arrays.length) (λj=>c.arrays.length - j)
  ⟨0,[.old 2],⟨rfl,.inr ⟨⟨by simp,rfl,rfl⟩,trivial⟩,.inr ⟨lk rfl,lk rfl,trivial⟩,rfl⟩,Nat.zero_le _⟩ ?_
 intro Rj hRj j hj;refine ⟨λh3=>?_,λh3=>?_⟩
 ·have h4:j < c.arrays.length:=by omega
  have hj10:=flat_ten (c.arrays.take j) (λa ha=>s3 a (List.mem_of_mem_take ha));rw[List.length_take] at hj10;have ha10:=s3 _ (List.getElem_mem h4);have hn2:(F++c.vars++(c.arrays.take (j+1)).flatten)=(F++c.vars++(c.arrays.take j).flatten)++c.arrays[j]:=by rw[flatten_succ h4,<- List.append_assoc]
  refine ⟨j,_,rfl,gm h4,?_⟩;refine ⟨room8 (by simp only[List.length_map,List.length_append];omega),?_⟩;refine ⟨_,I64.wrap (by unfold I64;omega),?_⟩;exact hRj _ _ _ ⟨j+1,[.old 1],⟨rfl,.inr ⟨⟨by rw[hn2,List.map_append (l₂:=c.arrays[j])],rfl,rfl⟩,trivial⟩,.inr ⟨lk rfl,lk rfl,trivial⟩,rfl⟩,h4,by omega⟩
 ·have hjl:j=c.arrays.length:=by omega
  refine ⟨_,I64.wrap (by unfold I64;omega),?_⟩;exact hRd _ _ _ ⟨i+1,[.old 0],⟨rfl,.inr ⟨⟨by rw[hnext,hjl,List.take_length],rfl,rfl⟩,trivial⟩,.inr ⟨lk rfl,lk rfl,trivial⟩,rfl⟩,b1,by omega⟩
end Go.Proofs.YtpjjkiidjofflaaGreatDoor
namespace Barb
open Go Go.Dm Go.Eng Go.Proofs.YtpjjkiidjofflaaGreatDoor
def RR.code:RR Int->Int
 | .ok _ _=>1
 | .stop e _=>e
def RR.val:RR Int->Int
 | .ok n _=>n
 | .stop _ _=>0
structure RB (p:List Unit) (r:RR Int):Prop where
 si:SI p r.st
 code:1<=r.code/\r.code<=6
 val:wd r.val
theorem RI.rb {p:List Unit} {s:ES} {r:RR Int} (h:RI p s wd r):RB p r:=by
 cases r with
 | ok n s'=>exact ⟨h.1,by show (1:Int)<=1/\(1:Int)<=6;omega,h.2.2⟩
 | stop e s'=>exact ⟨h.1,by have:=h.2.2;show 1<=e/\e<=6;omega,by show wd 0;exact ⟨by decide,by decide⟩⟩
theorem cells_I {p:List Unit} {cs:List Cells} (hg:Za8 p=0) (hl:cs.length=p.length) (h:ZcC p cs):∀c∈cs,c.I:=by intro c hc;obtain ⟨i,hi,rfl⟩:=List.getElem_of_mem hc;have hU:=(ZaX hg).2.1 _ (List.getElem_mem (show i < p.length by omega));obtain ⟨s1,s2,s3⟩:=cell_small hU (h i hi (by omega));obtain ⟨⟨h1,h2⟩,h3⟩:=h i hi (by omega);refine ⟨⟨λx hx=>by have:=h1.2 x hx;unfold I64;omega,by omega⟩,λa ha=>⟨λx hx=>?_,by have:=s3 a ha;omega⟩,by omega⟩;obtain ⟨k,hk,rfl⟩:=List.getElem_of_mem ha;have:=(h3 k hk (by omega)).2 x hx;unfold I64;omega
end Barb
namespace Go.Proofs.YtpjjkiidjofflaaGreatDoor
open Go Go.Dm Go.Eng Go.RowKit Barb
theorem callD_eq (r:RR Int):callD r=ansD r.code r.val r.st:=by cases r<;>rfl
end Go.Proofs.YtpjjkiidjofflaaGreatDoor
namespace Barb
open Go Go.Dm Go.Eng Go.Proofs.YtpjjkiidjofflaaGreatDoor
theorem rowI_ok {f:Int->Int} {k:Nat} {n:Int} (h:∀j,0<=Zci f j n/\Zci f j n < 70):Zdr (rowI f k n) k:=by refine ⟨by rw[rowI_len],λx hx=>?_⟩;unfold rowI at hx;obtain ⟨j,_,rfl⟩:=List.mem_map.1 hx;have:=h j;omega
theorem arrsC_ok (c:Int):∀(l:List Arr) (n:Int),(0<=n/\n < 70)->(∀a∈l,1<=a.size/\a.size<=10)->∀k (h:k < (ZeG c l n).length) (h':k < l.length),Zdr (ZeG c l n)[k] l[k].size
 | [],_,_,_,k,_,h'=>by simp at h'
 | a :: l,n,hn,hs,0,_,_=>by have ha:=hs a List.mem_cons_self;have:=rowI_ok (k:=a.size.toNat) (λj=>ZgC (c:=c) j hn);rw[show ((a.size.toNat:Nat):Int)=a.size by omega] at this;exact this
 | a :: l,n,hn,hs,k+1,h,h'=>by
  have:=arrsC_ok c l (Zci (ZcZ c) a.size.toNat n) (ZgC _ hn) (λb hb=>hs b (List.mem_cons_of_mem _ hb)) k (by simpa [ZeG] using h) (by simpa using h')
  simpa [ZeG] using this
theorem cellsU_ok (b c:Int) (u:Unit) {n:Int} (hn:0<=n/\n < 70) (hs:∀a∈u.arrays,1<=a.size/\a.size<=10):Zb4 u (cellsU b c u n) :=
 ⟨⟨rowI_ok (λj=>Ze3 j hn),Zjn _ _ _⟩,λk h h'=>arrsC_ok c u.arrays _ (Ze3 _ hn) hs k h h'⟩
theorem cellsL_ok (b c:Int):∀(l:List Unit) (n:Int),(0<=n/\n < 70)->(∀u∈l,∀a∈u.arrays,1<=a.size/\a.size<=10)->∀i (h:i < (ZaB b c l n).length) (h':i < l.length),Zb4 l[i] (ZaB b c l n)[i]
 | [],_,_,_,i,_,h'=>by simp at h'
 | u :: l,n,hn,hs,0,_,_=>cellsU_ok b c u hn (hs u List.mem_cons_self)
 | u :: l,n,hn,hs,i+1,h,h'=>by
  have:=cellsL_ok b c l (endU b c u n) (endU_rng hn) (λv hv=>hs v (List.mem_cons_of_mem _ hv)) i (by simpa [ZaB] using h) (by simpa using h')
  simpa [ZaB] using this
theorem Zf8 {p:List Unit} (hg:Za8 p=0) (r:Raw):Zdf p (ZcK p r)=0:=by obtain ⟨_,hU,_,_⟩:=ZaX hg;obtain ⟨k,hk,hk7⟩:=Zbp r.a (many:=7) (by decide);exact Zfw hg (Zhn _ _ _ _) (λi h h'=>cellsL_ok _ _ p (Za7 r.a 7) (by rw[show (7:Int)=((7:Nat):Int) from rfl,hk];omega) (λu hu a ha=>(ZdR ((Zaq (hU u hu)).2.2.2.2.2.1 a ha)).2) i h h')
end Barb
namespace Go.Proofs.YtpjjkiidjofflaaGreatDoor
open Go Go.Dm Go.Eng Go.RowKit Barb
theorem Program_isT (l:List Raw) (hl:l.length*32<=140737488351232) (hI:∀r∈l,r.I):CT Tryz.prog gl 14 [.g (.sl 4 (l.map Raw.g))] (Is (.g (.sl 4 ((ZbQ l).map Unit.g)))) :=
 Program_Q l hl hI _ (λh i hi=>ZbN (.inl (by simp only[conv,kp,hi])))
theorem Cells_isT (p:List Barb.Unit) (hp:PC p) (r:Raw) (hr:r.I):CT Tryz.prog gl 15 [.g (.sl 4 (p.map Unit.g)),.agg r.d] (Is (.g (.sl 2 ((ZcK p r).map Cells.g)))) :=
 Cells_Q p hp r hr _ (λh i hi=>ZbN (.inl (by simp only[conv,kp,hi])))
theorem progE_PC {p:List Barb.Unit} (h:Za8 p=0):PC p:=by obtain ⟨h5,hU,_,_⟩:=ZaX h;exact ⟨by omega,λu hu=>by have:=(Zaq (hU u hu)).2.1;omega,λu hu=>by have:=(Zaq (hU u hu)).2.2.1;omega,λu hu a ha=>by have:=(ZdR ((Zaq (hU u hu)).2.2.2.2.2.1 a ha)).2;omega⟩
end Go.Proofs.YtpjjkiidjofflaaGreatDoor
