import Derived.Test.YtpjjkiidjofflaaGreatDoorWB1
import Derived.Test.YtpjjkiidjofflaaGreatDoorWDgk
open Go Go.Proofs Go.Proofs.YtpjjkiidjofflaaGreatDoor
namespace ZN
open Go Go.Dm Go.Eng Barb
theorem Zlb (x:Int):CT Tryz.prog gl 28 [.g (.int x)] (Is (.pb (0<=x/\x<=65535))):=by refine enter hT hF hM Tryz.func28 rfl 9 rfl (by kernel_rfl) [.tmp 2] rfl [.g (.int x)] rfl _ ?_;exact ⟨λh1=>⟨rfl,ZmY (by omega)⟩,λh1=>⟨rfl,Zvg (by omega)⟩⟩
theorem ZmF (p:Prop) [Decidable p]:CT Tryz.prog gl 86 [.pb p] (Is (.g (.int (if p then 1 else 0)))):=by refine enter hT hF hM Tryz.func86 rfl 4 rfl (by kernel_rfl) [.tmp 2] rfl [.pb p] rfl _ ?_;exact ⟨λh=>⟨rfl,ZbQ (by rw[if_pos h])⟩,λh=>⟨rfl,ZbQ (by rw[if_neg h])⟩⟩
def doI (op a b:Int):Int:=if op < 1\/10 < op then 0 else if (0<=a/\a<=65535)/\(0<=b/\b<=65535) then (did op.toNat a.toNat b.toNat:Nat) else 0
def doE (op a b:Int):Int:=if op < 1\/10 < op then 3 else if (0<=a/\a<=65535)/\(0<=b/\b<=65535) then 0 else 2
theorem ZCe {op a b:Int} (h:¬(op < 1\/10 < op)) {m n:Nat} (ha:a=(m:Int)) (hb:b=(n:Int)) (hm:m<=65535) (hn:n<=65535) {k:Nat} (ho:op=(k:Int)):doI op a b=(did k m n:Nat)/\doE op a b=0:=by subst ha;subst hb;subst ho;unfold doI doE;rw[if_neg h,if_neg h,if_pos (by omega),if_pos (by omega)];simp
theorem Zvc (op a b:Int):CT Tryz.prog gl 71 [.g (.int op),.g (.int a),.g (.int b)] (Is (.tuple [.g (.int (doI op a b)),.g (.int (doE op a b))])):=by
 refine enter hT hF hM Tryz.func71 rfl 77 rfl (by kernel_rfl) [.tmp 6,.tmp 7] rfl [.g (.int op),.g (.int a),.g (.int b)] rfl _ ?_;refine ⟨λh1=>?_,λh1=>⟨λh2=>?_,λh2=>?_⟩⟩
 ·exact ⟨rfl,Ztl (by unfold doI;rw[if_pos (.inl h1)]) (by unfold doE;rw[if_pos (.inl h1)])⟩
 ·exact ⟨rfl,Ztl (by unfold doI;rw[if_pos (.inr h2)]) (by unfold doE;rw[if_pos (.inr h2)])⟩
 have hop:¬(op < 1\/10 < op):=by omega
 refine Zae (.inl rfl) (Zlb a) ?_;refine ⟨λh3=>?_,λh3=>Zae (.inl rfl) (Zlb b) ⟨λh4=>?_,λh4=>?_⟩⟩
 ·have hn:¬((0<=a/\a<=65535)/\(0<=b/\b<=65535)):=by omega
  exact ⟨rfl,Ztl (by unfold doI;rw[if_neg hop,if_neg hn]) (by unfold doE;rw[if_neg hop,if_neg hn])⟩
 ·have hn:¬((0<=a/\a<=65535)/\(0<=b/\b<=65535)):=by omega
  exact ⟨rfl,Ztl (by unfold doI;rw[if_neg hop,if_neg hn]) (by unfold doE;rw[if_neg hop,if_neg hn])⟩
 obtain ⟨m,rfl⟩:∃m:Nat,a=(m:Int):=⟨a.toNat,by omega⟩;obtain ⟨n,rfl⟩:∃n:Nat,b=(n:Int):=⟨b.toNat,by omega⟩;have hm:m<=65535:=by omega
 have hn:n<=65535:=by omega
 have fin:∀(k:Nat) (x:Int),op=(k:Int)->x % 65536=((did k m n:Nat):Int)->∀h:Zad,Zbk (Is (.tuple [.g (.int (doI op m n)),.g (.int (doE op m n))])) h (.tuple [.g (.int (x % 65536)),.g (.int 0)]):=by intro k x hk hx h;obtain ⟨e1,e2⟩:=ZCe hop rfl rfl hm hn hk;exact Ztl (by rw[e1,hx]) e2.symm
 refine ⟨λh=>⟨_,I64.wrap (by unfold I64;omega),_,Zdc _,rfl,fin 1 _ h (by simp only[did];omega) _⟩,λh5=>?_⟩;refine ⟨λh=>⟨by unfold I64;omega,_,Zdc _,rfl,fin 2 _ h (by simp only[did];omega) _⟩,λh5=>?_⟩;have hmn:m*n<=65535*65535:=Nat.mul_le_mul hm hn;have hp:(m:Int)*(n:Int)=((m*n:Nat):Int):=by simp
 refine ⟨λh=>⟨by rw[hp];unfold I64;omega,_,Zdc _,rfl,fin 3 _ h (by rw[hp];simp only[did];omega) _⟩,λh5=>?_⟩;have hand:m &&& n<=65535:=YaB Yci hm;refine ⟨λh=>⟨_,Zu1 hm hn,_,Zdc _,rfl,fin 4 _ h (by simp only[did];omega) _⟩,λh5=>?_⟩;refine ⟨λh=>⟨_,ZAw hm hn,_,Zdc _,rfl,fin 5 _ h (by have:=Zv1 hm hn;simp only[did];omega) _⟩,λh5=>?_⟩;refine ⟨λh=>⟨_,ZxM hm hn,_,Zdc _,rfl,fin 6 _ h (by have:=ZpF hm hn;simp only[did];omega) _⟩,λh5=>?_⟩;refine ⟨λh=>Zae (.inl rfl) (ZmF ((m:Int) < n)) ⟨_,Zdc _,rfl,fin 7 _ h (by simp only[did,Int.ofNat_lt];split<;>rfl) _⟩,λh5=>?_⟩;refine ⟨λh=>Zae (.inl rfl) (ZmF ((m:Int)=n)) ⟨_,Zdc _,rfl,fin 8 _ h (by simp only[did,Int.ofNat_inj];split<;>rfl) _⟩,λh5=>?_⟩;refine ⟨λh=>?_,λh5=>?_⟩
 ·have hb:=ZAb (n:=n) hm;have hs:=Zye m n;exact ⟨_,Zxv hn,by omega,by rw[hs];unfold I64;omega,_,Zdc _,rfl,fin 9 _ h (by rw[hs];simp only[did];omega) _⟩
 ·have hb:m / 2 ^ (n % 16)<=65535:=YaB (Yck _ _) hm;have hs:=Zyd m n;exact ⟨_,Zxv hn,by omega,_,Zdc _,rfl,fin 10 _ (by omega) (by rw[hs];simp only[did];clear hs;generalize m / 2 ^ (n % 16)=q at hb ⊢;omega) _⟩
end ZN
