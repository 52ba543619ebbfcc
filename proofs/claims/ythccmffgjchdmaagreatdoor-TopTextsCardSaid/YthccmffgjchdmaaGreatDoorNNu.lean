import Derived.Test.YthccmffgjchdmaaGreatDoorNB1
import Derived.Test.YthccmffgjchdmaaGreatDoorNDs
import Derived.Lib.AtoiAllCases
import Derived.Lib.ItoaNum
open Go Go.Proofs Go.Proofs.YthccmffgjchdmaaGreatDoor
namespace Barb
open Go Go.Dm Go.Eng
def Zx2 (c:UInt8):Prop:=48<=c.toNat/\c.toNat<=57
def Zjr (n:Nat) (c:UInt8):Nat:=10*n+(c.toNat - 48)
def Zxv (l:List UInt8):Nat:=l.foldl Zjr 0
theorem Zs8 (l:List UInt8) (c:UInt8):Zxv (l++[c])=10*Zxv l+(c.toNat - 48):=by unfold Zxv;rw[List.foldl_append];rfl
theorem ZuK:∀(l:List UInt8) (a:Nat),a<=l.foldl Zjr a
 | [],a=>Yas a
 | c :: l,a=>YaC (by unfold Zjr;omega) (ZuK l (Zjr a c))
theorem Zg8 {n:Nat} (h:n < 10):(UInt8.ofNat (48+n)).toNat=48+n:=by rw[UInt8.toNat_ofNat'];omega
theorem ZdY {n:Nat} (h:n < 10):Lib.decDigits n=[UInt8.ofNat (48+n)]:=by rw[Lib.decDigits,dif_pos h]
theorem Zhr {n:Nat} (h:¬n < 10):Lib.decDigits n=Lib.decDigits (n / 10)++[UInt8.ofNat (48+n % 10)]:=by rw[Lib.decDigits,dif_neg h]
theorem ZcV (n:Nat):(∀c∈Lib.decDigits n,Zx2 c)/\Zxv (Lib.decDigits n)=n/\Lib.decDigits n≠[]:=by
 induction n using Nat.strongRecOn with
 | _ n ih =>
  by_cases h:n < 10
  ·rw[ZdY h];refine ⟨λc hc=>?_,?_,by simp⟩
   ·rw[Yaz] at hc;subst hc;unfold Zx2;rw[Zg8 h];omega
   ·show 10*0+((UInt8.ofNat (48+n)).toNat - 48)=n;rw[Zg8 h];omega
  ·obtain ⟨h1,h2,h3⟩:=ih (n / 10) (by omega);rw[Zhr h];have hd:n % 10 < 10:=by omega
   refine ⟨λc hc=>?_,?_,by simp⟩
   ·rcases Yar.1 hc with hc | hc
    ·exact h1 c hc
    ·rw[Yaz] at hc;subst hc;unfold Zx2;rw[Zg8 hd];omega
   ·rw[Zs8,h2,Zg8 hd];omega
def ZnG (s:List UInt8):Prop:=∃n,n<=65535/\s=Lib.decDigits n
noncomputable def Zt9 (s:List UInt8):Int:=@dite _ (ZnG s) (Classical.propDecidable _) (λ_=>((Zxv s:Nat):Int)) (λ_=>0)
noncomputable def Zua (s:List UInt8):Bool:=@decide (ZnG s) (Classical.propDecidable _)
theorem Zha {n:Nat} (h:n<=65535):Zt9 (Lib.decDigits n)=n/\Zua (Lib.decDigits n)=true:=by have hi:ZnG (Lib.decDigits n):=⟨n,h,rfl⟩;unfold Zt9 Zua;rw[dif_pos hi,(ZcV n).2.1];exact ⟨rfl,@decide_eq_true _ (Classical.propDecidable _) hi⟩
theorem ZlR {s:List UInt8} (h:¬ZnG s):Zt9 s=0/\Zua s=false:=by unfold Zt9 Zua;rw[dif_neg h];exact ⟨rfl,@decide_eq_false _ (Classical.propDecidable _) h⟩
theorem Zij:∀(l:List UInt8) (a:Nat),(∀c∈l,Zx2 c)->l.foldl Zjr a<=65535->Lib.parseUint10 a l=.ok (l.foldl Zjr a)
 | [],a,_,_=>rfl
 | c :: l,a,hd,h=>by have hc:=hd c Yae;have hs:=ZuK l (Zjr a c);simp only[List.foldl_cons] at h ⊢;have hle:Zjr a c<=65535:=YaC hs h;unfold Zjr at hle;unfold Zx2 at hc;simp only[Lib.parseUint10];rw[if_pos hc,if_neg (by omega),if_neg (by omega)];have:=Zij l (Zjr a c) (λc hc=>hd c (Yad _ hc)) h;unfold Zjr at this ⊢;rw[Nat.mul_comm a 10];exact this
theorem ZpJ {n:Nat} (h:n<=65535):Lib.atoiAll (Lib.decDigits n)=.ok (n:Int):=by
 obtain ⟨h1,h2,h3⟩:=ZcV n;generalize Lib.decDigits n=l at *;cases l with
 | nil=>exact absurd rfl h3
 | cons c r =>have hc:=h1 c Yae;unfold Zx2 at hc;rw[Lib.atoiAll_plain c r (by omega) (by omega)];unfold Lib.parseMag;rw[if_neg (by simp),Zij (c :: r) 0 h1 (by show Zxv (c :: r)<=_;omega)];show (if 9223372036854775808<=Zxv (c :: r) then Lib.NumEnd.range else .ok ((Zxv (c :: r):Nat):Int))=_;rw[h2,if_neg (by omega)]
end Barb
namespace ZN
open Go Go.Dm Go.Eng Barb
end ZN
