import Derived.Test.YthccmffgjchdmaaGreatDoorNB1
import Derived.Test.YthccmffgjchdmaaGreatDoorNDs
open Go Go.Proofs Go.Proofs.YthccmffgjchdmaaGreatDoor
namespace ZN
open Go Go.Dm Go.Eng Barb
variable {L:Lv}
theorem Zln (x:Int):CT Tryz.prog (gl L) 29 [.g (.int x)] (Is (.pb (0<=x/\x<=65535))):=by refine enter hT hF hM Tryz.func29 rfl 9 rfl (by kernel_rfl) [.tmp 2] rfl [.g (.int x)] rfl _ ?_;exact ⟨λh1=>⟨rfl,Zp6 (by omega)⟩,λh1=>⟨rfl,Zvw (by omega)⟩⟩
theorem ZmT (p:Prop) [Decidable p]:CT Tryz.prog (gl L) 114 [.pb p] (Is (.g (.int (if p then 1 else 0)))):=by refine enter hT hF hM Tryz.func114 rfl 4 rfl (by kernel_rfl) [.tmp 2] rfl [.pb p] rfl _ ?_;exact ⟨λh=>⟨rfl,Zb2 (by rw[if_pos h])⟩,λh=>⟨rfl,Zb2 (by rw[if_neg h])⟩⟩
def doI (op a b:Int):Int:=if op < 1\/10 < op then 0 else if (0<=a/\a<=65535)/\(0<=b/\b<=65535) then (did op.toNat a.toNat b.toNat:Nat) else 0
def doE (op a b:Int):Int:=if op < 1\/10 < op then 3 else if (0<=a/\a<=65535)/\(0<=b/\b<=65535) then 0 else 2
theorem ZCo {op a b:Int} (h:¬(op < 1\/10 < op)) {m n:Nat} (ha:a=(m:Int)) (hb:b=(n:Int)) (hm:m<=65535) (hn:n<=65535) {k:Nat} (ho:op=(k:Int)):doI op a b=(did k m n:Nat)/\doE op a b=0:=by subst ha;subst hb;subst ho;unfold doI doE;rw[if_neg h,if_neg h,if_pos (by omega),if_pos (by omega)];simp
theorem Zx8 (op a b:Int):CT Tryz.prog (gl L) 93 [.g (.int op),.g (.int a),.g (.int b)] (Is (.tuple [.g (.int (doI op a b)),.g (.int (doE op a b))])):=by
 refine enter hT hF hM Tryz.func93 rfl 77 rfl (by kernel_rfl) [.tmp 6,.tmp 7] rfl [.g (.int op),.g (.int a),.g (.int b)] rfl _ ?_;refine ⟨λh1=>?_,λh1=>⟨λh2=>?_,λh2=>?_⟩⟩
 ·exact ⟨rfl,ZtM (by unfold doI;rw[if_pos (.inl h1)]) (by unfold doE;rw[if_pos (.inl h1)])⟩
 ·exact ⟨rfl,ZtM (by unfold doI;rw[if_pos (.inr h2)]) (by unfold doE;rw[if_pos (.inr h2)])⟩
 have bj:¬(op < 1\/10 < op):=by omega
 refine Zad (.inl rfl) (Zln a) ?_;refine ⟨λh3=>?_,λh3=>Zad (.inl rfl) (Zln b) ⟨λh4=>?_,λh4=>?_⟩⟩
 ·have hn:¬((0<=a/\a<=65535)/\(0<=b/\b<=65535)):=by omega
  exact ⟨rfl,ZtM (by unfold doI;rw[if_neg bj,if_neg hn]) (by unfold doE;rw[if_neg bj,if_neg hn])⟩
 ·have hn:¬((0<=a/\a<=65535)/\(0<=b/\b<=65535)):=by omega
  exact ⟨rfl,ZtM (by unfold doI;rw[if_neg bj,if_neg hn]) (by unfold doE;rw[if_neg bj,if_neg hn])⟩
 obtain ⟨m,rfl⟩:∃m:Nat,a=(m:Int):=⟨a.toNat,by omega⟩;obtain ⟨n,rfl⟩:∃n:Nat,b=(n:Int):=⟨b.toNat,by omega⟩;have hm:m<=65535:=by omega
 have hn:n<=65535:=by omega
 have fin:∀(k:Nat) (x:Int),op=(k:Int)->x % 65536=((did k m n:Nat):Int)->∀h:Zae,Zby (Is (.tuple [.g (.int (doI op m n)),.g (.int (doE op m n))])) h (.tuple [.g (.int (x % 65536)),.g (.int 0)]):=by intro k x hk hx h;obtain ⟨e1,e2⟩:=ZCo bj rfl rfl hm hn hk;exact ZtM (by rw[e1,hx]) e2.symm
 refine ⟨λh=>⟨_,I64.wrap (by unfold I64;omega),_,Zdj _,rfl,fin 1 _ h (by simp only[did];omega) _⟩,λh5=>?_⟩;refine ⟨λh=>⟨by unfold I64;omega,_,Zdj _,rfl,fin 2 _ h (by simp only[did];omega) _⟩,λh5=>?_⟩;have yn:m*n<=65535*65535:=Nat.mul_le_mul hm hn;have hp:(m:Int)*(n:Int)=((m*n:Nat):Int):=by simp
 refine ⟨λh=>⟨by rw[hp];unfold I64;omega,_,Zdj _,rfl,fin 3 _ h (by rw[hp];simp only[did];omega) _⟩,λh5=>?_⟩;have hand:m &&& n<=65535:=YaC Ycq hm;refine ⟨λh=>⟨_,Zvj hm hn,_,Zdj _,rfl,fin 4 _ h (by simp only[did];omega) _⟩,λh5=>?_⟩;refine ⟨λh=>⟨_,ZAL hm hn,_,Zdj _,rfl,fin 5 _ h (by have:=Zy7 hm hn;simp only[did];omega) _⟩,λh5=>?_⟩;refine ⟨λh=>⟨_,Zx9 hm hn,_,Zdj _,rfl,fin 6 _ h (by have:=ZsN hm hn;simp only[did];omega) _⟩,λh5=>?_⟩;refine ⟨λh=>Zad (.inl rfl) (ZmT ((m:Int) < n)) ⟨_,Zdj _,rfl,fin 7 _ h (by simp only[did,Int.ofNat_lt];split<;>rfl) _⟩,λh5=>?_⟩;refine ⟨λh=>Zad (.inl rfl) (ZmT ((m:Int)=n)) ⟨_,Zdj _,rfl,fin 8 _ h (by simp only[did,Int.ofNat_inj];split<;>rfl) _⟩,λh5=>?_⟩;refine ⟨λh=>?_,λh5=>?_⟩
 ·have hb:=ZAs (n:=n) hm;have hs:=ZyF m n;exact ⟨_,ZxO hn,by omega,by rw[hs];unfold I64;omega,_,Zdj _,rfl,fin 9 _ h (by rw[hs];simp only[did];omega) _⟩
 ·have hb:m / 2 ^ (n % 16)<=65535:=YaC (Ycr _ _) hm;have hs:=ZyD m n;exact ⟨_,ZxO hn,by omega,_,Zdj _,rfl,fin 10 _ (by omega) (by rw[hs];simp only[did];clear hs;generalize m / 2 ^ (n % 16)=q at hb ⊢;omega) _⟩
end ZN
namespace Barb
open Go Go.Dm Go.Eng
noncomputable instance (priority:=10) propDec (p:Prop):Decidable p:=Classical.propDecidable p
def Zvy (c:UInt8):Prop:=97<=c.toNat/\c.toNat<=122
def Zvz (c:UInt8):Prop:=48<=c.toNat/\c.toNat<=57
def ZCr (s:Str) (j:Nat) (hj:j < s.length):Prop:=Zvy s[j]\/(j≠0/\Zvz s[j])
def Zlr (s:Str):Prop:=(1<=s.length/\s.length<=8)/\∀j (hj:j < s.length),ZCr s j hj
def ZqA:List Str:=[[117,110,105,116],[118,97,114],[97,114,114,97,121],[102,117,110,99],[111,112,101,110],[105,102],[101,108,115,101],[119,104,105,108,101],[114,101,116,117,114,110],[115,97,121]]
def Zan (s:Str):Prop:=Zlr s/\s ∉ ZqA
def ZbJ (k n:Int) (of s:Str) (m:Nat):Prop :=
 (k=1/\of=[]/\s=[]/\m=0)\/(k=2/\of=[]/\Zan s/\m=0/\n=0)\/(k=3/\of=[]/\Zan s/\m=1/\n=0)\/(k=4/\(of=[]\/Zan of)/\Zan s/\n=0)\/(k=5/\of=[]/\s=[]/\m=2)
def Za0 (k n:Int):Prop:=(k=1/\¬(0<=n/\n<=65535))\/(k=5/\¬(1<=n/\n<=10))
noncomputable def Zaw:Nat->Expr->Int
 | 0,_=>1
 | f+1,.mk k n of s args=>if ¬(1<=k/\k<=5) then 3 else if 4 < args.length then 1 else if ¬ZbJ k n of s args.length then 4 else if Za0 k n then 2 else Zal (Zaw f) args
def ZdN (k:Int) (s:Str) (nx nb ne:Nat):Prop :=
 ((k<=2->Zan s)/\(2 < k->s=[])/\(k=2->nx=2)/\(k≠2->nx=1))/\(nb=0\/k=3\/k=4)/\(ne=0\/k=3)
noncomputable def ZbI (f:List Stmt->Int):Stmt->Int
 | .mk k s xs b e=>if ¬(1<=k/\k<=6) then 3 else if ¬ZdN k s xs.length b.length e.length then 4 else if Zal (Zaw 12) xs≠0 then Zal (Zaw 12) xs else if f b≠0 then f b else f e
noncomputable def Zai:Nat->List Stmt->Int
 | 0,_=>1
 | f+1,l=>Zal (ZbI (Zai f)) l
def Zfd (f:List Stmt->Int):Stmt->Int
 | .mk _ _ _ b e=>f b+f e
def Zah:Nat->List Stmt->Int
 | 0,_=>0
 | f+1,l=>l.length+(l.map (Zfd (Zah f))).sum
noncomputable def Zkm (a:Arr):Int:=if ¬Zan a.name then 4 else if ¬(1<=a.size/\a.size<=10) then 2 else 0
noncomputable def ZdF (s:Str):Int:=if Zan s then 0 else 4
noncomputable def Zhi (f:Fun):Int:=if ¬Zan f.name then 4 else if 4 < f.params.length then 1 else if Zal ZdF f.params≠0 then Zal ZdF f.params else Zai 12 f.body
def Zb9 (l:List Fun):Int:=(l.map λf=>Zah 12 f.body).sum
noncomputable def Zbm (u:Unit):Int :=
 if ¬Zan u.name then 4 else if 8 < u.vars.length\/3 < u.arrays.length\/8 < u.funcs.length then 1
 else if Zal ZdF u.vars≠0 then Zal ZdF u.vars else if Zal Zkm u.arrays≠0 then Zal Zkm u.arrays else if Zal Zhi u.funcs≠0 then Zal Zhi u.funcs
 else if 300 < IntKind.i64.wrap (Zb9 u.funcs) then 1 else 0
def sizes (l:List Arr):Int:=(l.map Arr.size).sum
def ZaC (u:Unit):Int:=u.vars.length+sizes u.arrays
theorem ZrH {l:List Arr} {i:Nat} (h:i < l.length):sizes (l.take (i+1))=sizes (l.take i)+l[i].size:=by unfold sizes;rw[ZaJ h,Yaf,YbE];simp
theorem ZiP {l:List Arr} (h:∀a∈l,1<=a.size/\a.size<=10):0<=sizes l/\sizes l<=10*l.length:=by
 induction l with
 | nil=>simp[sizes]
 | cons a l ih =>have:=h a Yae;have:=ih (λb hb=>h b (Yad _ hb));simp only[sizes,Yan,List.sum_cons,List.length_cons] at this ⊢;omega
theorem Zaf {α:Type} {f:α->Int}:∀{l:List α},Zal f l=0->∀x∈l,f x=0
 | [],_,x,hx=>by simp at hx
 | y :: l,h,x,hx=>by
  simp only[Zal] at h;by_cases h0:f y=0
  ·rw[if_pos h0] at h;rcases Yav.1 hx with rfl | hx
   ·exact h0
   ·exact Zaf h x hx
  ·rw[if_neg h0] at h;exact absurd h h0
theorem ZfU {u:Unit} (h:Zbm u=0):u.vars.length<=8/\u.arrays.length<=3/\u.funcs.length<=8/\∀a∈u.arrays,1<=a.size/\a.size<=10:=by
 unfold Zbm at h;by_cases h1:Zan u.name
 ·rw[if_neg (by simpa using h1)] at h;by_cases h2:8 < u.vars.length\/3 < u.arrays.length\/8 < u.funcs.length
  ·rw[if_pos h2] at h;omega
  ·rw[if_neg h2] at h;by_cases h3:Zal ZdF u.vars≠0
   ·rw[if_pos h3] at h;exact absurd h h3
   ·rw[if_neg h3] at h;by_cases h4:Zal Zkm u.arrays≠0
    ·rw[if_pos h4] at h;exact absurd h h4
    ·refine ⟨by omega,by omega,by omega,λa ha=>?_⟩;have:=Zaf (Yah.1 h4) a ha;unfold Zkm at this;by_cases h5:Zan a.name
     ·rw[if_neg (by simpa using h5)] at this;by_cases h6:1<=a.size/\a.size<=10
      ·exact h6
      ·rw[if_pos h6] at this;omega
     ·rw[if_pos h5] at this;omega
 ·rw[if_pos h1] at h;omega
theorem Zlq (a:Int):IntKind.i64.wrap a=if 9223372036854775808<=a % 18446744073709551616 then a % 18446744073709551616 - 18446744073709551616 else a % 18446744073709551616:=by simp[IntKind.wrap,IntKind.signed,IntKind.bits]
theorem ZiJ (a b:Int):IntKind.i64.wrap (IntKind.i64.wrap a+b)=IntKind.i64.wrap (a+b):=by rw[Zlq,Zlq,Zlq];omega
theorem Zjd (a b:Int):IntKind.i64.wrap (a+IntKind.i64.wrap b)=IntKind.i64.wrap (a+b):=by rw[Int.add_comm,ZiJ,Int.add_comm]
noncomputable def Zdw {α:Type} (q:α->Prop):List α->Nat->Int
 | [],_=>-1
 | x :: l,i=>if q x then (i:Int) else Zdw q l (i+1)
noncomputable def idx {α:Type} (q:α->Prop) (l:List α):Int:=Zdw q l 0
theorem ZhS {α:Type} {q:α->Prop}:∀{l:List α} {i0 i:Nat} (hi:i < l.length),(∀j (hj:j < l.length),j < i->¬q l[j])->q l[i]->Zdw q l i0=((i0+i:Nat):Int)
 | [],_,i,hi,_,_=>by simp at hi
 | x :: l,i0,0,hi,_,h1=>by simp only[Zdw];rw[if_pos (by simpa using h1)];simp
 | x :: l,i0,i+1,hi,h,h1=>by
  simp only[Zdw];rw[if_neg (show ¬q x from h 0 (by simp) (by omega)),ZhS (l:=l) (i:=i) (by simpa using hi) (λj hj cL=>h (j+1) (by simpa using hj) (by omega)) (by simpa using h1)]
  congr 1;omega
theorem Zk4 {α:Type} {q:α->Prop}:∀{l:List α} {i0:Nat},(∀x∈l,¬q x)->Zdw q l i0=-1
 | [],_,_=>rfl
 | x :: l,i0,h=>by simp only[Zdw];rw[if_neg (h x Yae)];exact Zk4 (λy hy=>h y (Yad _ hy))
theorem Zin {α:Type} {q:α->Prop} {l:List α} {i:Nat} (hi:i < l.length) (h:∀j (hj:j < l.length),j < i->¬q l[j]) (h1:q l[i]):idx q l=(i:Int):=by unfold idx;rw[ZhS hi h h1];simp
theorem Zim {α:Type} {q:α->Prop} {l:List α} (h:∀x∈l,¬q x):idx q l=-1:=Zk4 h
theorem Zhh {α:Type} (q:α->Prop):∀(l:List α) (i0:Nat),(Zdw q l i0=-1/\∀x∈l,¬q x)\/∃(i:Nat) (hi:i < l.length),Zdw q l i0=((i0+i:Nat):Int)/\q l[i]/\∀j (hj:j < l.length),j < i->¬q l[j]
 | [],_=>.inl ⟨rfl,λx hx=>by simp at hx⟩
 | x :: l,i0=>by
  by_cases hx:q x
  ·exact .inr ⟨0,by simp,by simp only[Zdw];rw[if_pos hx];simp,by simpa using hx,λj hj cL=>absurd cL (by omega)⟩
  ·rcases Zhh q l (i0+1) with ⟨h1,h2⟩ | ⟨i,hi,h1,h2,h3⟩
   ·refine .inl ⟨by simp only[Zdw];rw[if_neg hx];exact h1,λy hy=>?_⟩;rcases Yav.1 hy with rfl | hy
    ·exact hx
    ·exact h2 y hy
   ·refine .inr ⟨i+1,by simpa using hi,by simp only[Zdw];rw[if_neg hx,h1];congr 1;omega,by simpa using h2,λj hj cL=>?_⟩;cases j with
    | zero=>simpa using hx
    | succ j=>simpa using h3 j (by simpa using hj) (by omega)
theorem Zb0 {α:Type} (q:α->Prop) (l:List α):(idx q l=-1/\∀x∈l,¬q x)\/∃(i:Nat) (hi:i < l.length),idx q l=(i:Int)/\q l[i]/\∀j (hj:j < l.length),j < i->¬q l[j]:=by
 rcases Zhh q l 0 with h | ⟨i,hi,h1,h2,h3⟩
 ·exact .inl h
 ·exact .inr ⟨i,hi,by unfold idx;rw[h1];simp,h2,h3⟩
noncomputable def Zc6 (p:List Unit) (name:Str):Int:=idx (λu:Unit=>u.name=name) p
noncomputable def Zfh (u:Unit) (name:Str):Int:=idx (λf:Fun=>f.name=name) u.funcs
def ZkM (u:Unit) (f:Fun) (name:Str):Prop:=name∈f.params\/name∈u.vars
def Zlk (u:Unit) (name:Str):Prop:=∃a∈u.arrays,a.name=name
noncomputable def calledIn (to:Unit) (of s:Str) (m:Nat):Int :=
 match to.funcs.find? (λf=>decide (f.name=s)) with
 | none=>5
 | some g=>if of≠[]/\g.isOpen=false then 5 else if g.params.length≠m then 7 else 0
noncomputable def Zbf (p:List Unit) (u:Unit) (of s:Str) (m:Nat):Int :=
 if of=[] then calledIn u of s m else match p.find? (λv=>decide (v.name=of)) with
  | none=>5
  | some v=>calledIn v of s m
noncomputable def Zbp (p:List Unit) (u:Unit) (f:Fun) (k:Int) (of s:Str) (m:Nat):Int :=
 if (k=2/\¬ZkM u f s)\/(k=3/\¬Zlk u s) then 5 else if k=4 then Zbf p u of s m else 0
mutual
noncomputable def ZbR (p:List Unit) (u:Unit) (f:Fun):Expr->Int
 | .mk k _ of s args=>if Zbp p u f k of s args.length≠0 then Zbp p u f k of s args.length else Zeb p u f args
noncomputable def Zeb (p:List Unit) (u:Unit) (f:Fun):List Expr->Int
 | []=>0
 | x :: l=>if ZbR p u f x=0 then Zeb p u f l else ZbR p u f x
end
theorem ZbV (p:List Unit) (u:Unit) (f:Fun):∀l,Zeb p u f l=Zal (ZbR p u f) l
 | []=>rfl
 | x :: l=>by simp only[Zeb,Zal,ZbV p u f l]
mutual
noncomputable def Zd1 (p:List Unit) (u:Unit) (f:Fun):Stmt->Int
 | .mk k s xs b e=>if (k=1/\¬ZkM u f s)\/(k=2/\¬Zlk u s) then 5 else if Zeb p u f xs≠0 then Zeb p u f xs else if Zbt p u f b≠0 then Zbt p u f b else Zbt p u f e
noncomputable def Zbt (p:List Unit) (u:Unit) (f:Fun):List Stmt->Int
 | []=>0
 | x :: l=>if Zd1 p u f x=0 then Zbt p u f l else Zd1 p u f x
end
theorem Za1 (p:List Unit) (u:Unit) (f:Fun):∀l,Zbt p u f l=Zal (Zd1 p u f) l
 | []=>rfl
 | x :: l=>by simp only[Zbt,Zal,Za1 p u f l]
def ZoF (l:List Str):Prop:=∃j,∃hj:j < l.length,l[j]∈l.take j
noncomputable def ZuG (p:List Unit) (u:Unit) (f:Fun):Int:=if ZoF f.params then 6 else Zbt p u f f.body
noncomputable def ZgT (p:List Unit) (u:Unit):Int :=
 if ZoF (u.vars++u.arrays.map Arr.name)\/ZoF (u.funcs.map Fun.name) then 6 else Zal (ZuG p u) u.funcs
def Zar (p:List Unit):Int:=(p.map ZaC).sum
noncomputable def ZbC (p:List Unit):Int :=
 if 5 < p.length then 1 else if Zal Zbm p≠0 then Zal Zbm p else if ZoF (p.map Unit.name) then 6 else if 250 < Zar p then 1 else Zal (ZgT p) p
end Barb
namespace ZN
open Go Go.Dm Go.Eng Barb
variable {L:Lv}
theorem Zjs (c:UInt8):CT Tryz.prog (gl L) 43 [.g (.u8 (c.toNat:Int))] (Is (.pb (Zvy c))):=by refine enter hT hF hM Tryz.func43 rfl 9 rfl (by kernel_rfl) [.tmp 2] rfl [.g (.u8 (c.toNat:Int))] rfl _ ?_;exact ⟨λh1=>⟨rfl,Zp6 ⟨λh=>⟨by omega,by omega⟩,λh=>by have:=h.2;omega⟩⟩,λh1=>⟨rfl,Zvw (λh=>h1 (by have:=h.1;omega))⟩⟩
theorem Zj8 (c:UInt8):CT Tryz.prog (gl L) 44 [.g (.u8 (c.toNat:Int))] (Is (.pb (Zvz c))):=by refine enter hT hF hM Tryz.func44 rfl 9 rfl (by kernel_rfl) [.tmp 2] rfl [.g (.u8 (c.toNat:Int))] rfl _ ?_;exact ⟨λh1=>⟨rfl,Zp6 ⟨λh=>⟨by omega,by omega⟩,λh=>by have:=h.2;omega⟩⟩,λh1=>⟨rfl,Zvw (λh=>h1 (by have:=h.1;omega))⟩⟩
def Zz6 (c:UInt8):Prop:=¬Zvy c/\¬Zvz c
theorem Zzf (c:UInt8):CT Tryz.prog (gl L) 74 [.g (.u8 (c.toNat:Int))] (Is (.pb (Zz6 c))):=by refine enter hT hF hM Tryz.func74 rfl 11 rfl (by kernel_rfl) [.tmp 2] rfl [.g (.u8 (c.toNat:Int))] rfl _ ?_;refine Zad (.inl rfl) (Zjs c) ?_;refine ⟨λh=>Zad (.inl rfl) (Zj8 c) ⟨rfl,Zy0 ⟨λk=>⟨h,k⟩,λk=>k.2⟩⟩,λh=>⟨rfl,Zvw (λk=>k.1 h)⟩⟩
theorem Zpq (s:Str) (hs:s.length<=9223372036854775807):CT Tryz.prog (gl L) 105 [.g (.sl 1 (Zfm s)),.fn 74 [] []] (Is (.g (.int (idx Zz6 s)))):=by
 refine enter hT hF hM Tryz.func105 rfl 19 rfl (by kernel_rfl) [.tmp 4] rfl [.g (.sl 1 (Zfm s)),.fn 74 [] []] rfl _ ?_;refine ZaO (ι:=Nat) (λi=>[(8,.g (.int (i:Int)))]) (λ_=>[]) (λi=>i<=s.length/\∀j (hj:j < s.length),j < i->¬Zz6 s[j]) (λi=>s.length - i)
  ⟨0,[],⟨rfl,.inl rfl,.inr ⟨lk rfl,trivial⟩,rfl⟩,Yat _,Zir⟩ ?_
 intro Rd aj i ⟨hi,ha⟩;refine ⟨λh=>?_,λh=>?_⟩
 ·have h1:i < s.length:=by simp[Zfm] at h;omega
  refine ⟨i,_,rfl,gm h1,?_⟩;refine Zad (.inl rfl) (Zzf s[i]) ?_;refine ⟨λh2=>⟨rfl,Zb2 (Zin h1 ha h2).symm⟩,λh2=>⟨_,I64.wrap (by unfold I64;omega),?_⟩⟩;exact aj _ _ _ ⟨i+1,[],⟨rfl,.inl rfl,.inr ⟨lk rfl,trivial⟩,rfl⟩,⟨h1,Zdq h1 ha h2⟩,by omega⟩
 ·have h1:s.length<=i:=by simp[Zfm] at h;omega
  exact ⟨rfl,Zb2 (Zim (Zed h1 ha)).symm⟩
theorem Zpr (s:Str) (hs:s.length<=9223372036854775807):CT Tryz.prog (gl L) 73 [.g (.sl 1 (Zfm s)),.fn 74 [] []] (Is (.pb (∃c∈s,Zz6 c))):=by
 refine enter hT hF hM Tryz.func73 rfl 9 rfl (by kernel_rfl) [.tmp 4] rfl [.g (.sl 1 (Zfm s)),.fn 74 [] []] rfl _ ?_;refine Zad (.inl rfl) (Zpq s hs) ⟨rfl,Zp6 ?_⟩;rcases Zb0 Zz6 s with ⟨h1,h2⟩ | ⟨i,hi,h1,h2,h3⟩
 ·rw[h1];exact ⟨λh=>absurd h (by decide),λ⟨c,hc,ho⟩=>absurd ho (h2 c hc)⟩
 ·rw[h1];exact ⟨λ_=>⟨s[i],Yai _,h2⟩,λ_=>by omega⟩
theorem ZsP (s:Str) (h0:s≠[]) (h8:s.length<=8):Zlr s↔Zvy (s[0]'(Ybm.2 h0))/\¬∃c∈s,Zz6 c:=by
 constructor
 ·rintro ⟨_,h⟩;refine ⟨?_,λ⟨c,hc,ho⟩=>?_⟩
  ·rcases h 0 (Ybm.2 h0) with h | h
   ·exact h
   ·exact absurd rfl h.1
  ·obtain ⟨i,hi,rfl⟩:=YaR hc;rcases h i hi with h | h
   ·exact ho.1 h
   ·exact ho.2 h.2
 ·rintro ⟨h1,h2⟩;refine ⟨⟨Ybm.2 h0,h8⟩,λj hj=>?_⟩;by_cases hl:Zvy s[j]
  ·exact .inl hl
  ·refine .inr ⟨λe=>?_,?_⟩
   ·subst e;exact hl h1
   ·exact Yah.1 (λhd=>h2 ⟨s[j],Yai _,hl,hd⟩)
theorem ZmF (s:Str) (hs:s.length<=9223372036854775807):CT Tryz.prog (gl L) 47 [.g (.str s)] (Is (.pb (Zlr s))):=by
 refine enter hT hF hM Tryz.func47 rfl 21 rfl (by kernel_rfl) [.tmp 2] rfl [.g (.str s)] rfl _ ?_;refine ⟨λh1=>⟨λh2=>?_,λh2=>⟨rfl,Zvw (λh=>h2 (by have:=h.1.2;omega))⟩⟩,λh1=>⟨rfl,Zvw (λh=>by have h1:s=[]:=h1;subst h1;exact absurd h.1.1 (by decide))⟩⟩;have h8:s.length<=8:=by omega
 have h1:s≠[]:=h1;have hw:=ZsP s h1 h8;have hp:=Ybm.2 h1;refine ⟨0,s[0],rfl,ge hp,?_⟩;refine Zad (.inl rfl) (Zjs _) ⟨λh3=>?_,λh3=>⟨rfl,Zvw (λh=>h3 (hw.1 h).1)⟩⟩;exact Zad (.inl rfl) (Zpr s hs) ⟨rfl,Zy0 ⟨λh=>hw.2 ⟨h3,h⟩,λh=>(hw.1 h).2⟩⟩
theorem Zez (l:List Str) (hl:l.length<=9223372036854775807) (s:Str):CT Tryz.prog (gl L) 95 [.g (.sl 1 (l.map ZaT)),.g (.str s)] (Is (.g (.int (idx (λx=>s=x) l)))):=by
 refine enter hT hF hM Tryz.func95 rfl 19 rfl (by kernel_rfl) [.tmp 4] rfl [.g (.sl 1 (l.map ZaT)),.g (.str s)] rfl _ ?_;refine ZaO (ι:=Nat) (λi=>[(8,.g (.int (i:Int)))]) (λ_=>[]) (λi=>i<=l.length/\∀j (hj:j < l.length),j < i->¬s=l[j]) (λi=>l.length - i)
  ⟨0,[],⟨rfl,.inl rfl,.inr ⟨lk rfl,trivial⟩,rfl⟩,Yat _,Zir (q:=λx=>s=x)⟩ ?_
 intro Rd aj i ⟨hi,ha⟩;refine ⟨λh=>?_,λh=>?_⟩
 ·have h1:i < l.length:=by simp at h;omega
  refine ⟨i,_,rfl,gm h1,?_⟩;refine ⟨λh2=>⟨rfl,Zb2 (Zin (q:=λx=>s=x) h1 ha h2).symm⟩,λh2=>⟨_,I64.wrap (by unfold I64;omega),?_⟩⟩;exact aj _ _ _ ⟨i+1,[],⟨rfl,.inl rfl,.inr ⟨lk rfl,trivial⟩,rfl⟩,⟨h1,Zdq (q:=λx=>s=x) h1 ha h2⟩,by omega⟩
 ·have h1:l.length<=i:=by simp at h;omega
  exact ⟨rfl,Zb2 (Zim (Zed (q:=λx=>s=x) h1 ha)).symm⟩
theorem ZfV (l:List Str) (hl:l.length<=9223372036854775807) (s:Str):CT Tryz.prog (gl L) 64 [.g (.sl 1 (l.map ZaT)),.g (.str s)] (Is (.pb (s∈l))):=by
 refine enter hT hF hM Tryz.func64 rfl 9 rfl (by kernel_rfl) [.tmp 4] rfl [.g (.sl 1 (l.map ZaT)),.g (.str s)] rfl _ ?_;refine Zad (.inl rfl) (Zez l hl s) ⟨rfl,Zp6 ?_⟩;rcases Zb0 (λx=>s=x) l with ⟨h1,h2⟩ | ⟨i,hi,h1,h2,h3⟩
 ·rw[h1];exact ⟨λh=>absurd h (by decide),λh=>absurd rfl (h2 s h)⟩
 ·rw[h1];exact ⟨λ_=>by have h2:s=l[i]:=h2;rw[h2];exact Yai _,λ_=>by omega⟩
theorem ZbQ (s:Str) (hs:s.length<=9223372036854775807):CT Tryz.prog (gl L) 37 [.g (.str s)] (Is (.pb (Zan s))):=by refine enter hT hF hM Tryz.func37 rfl 11 rfl (by kernel_rfl) [.tmp 2] rfl [.g (.str s)] rfl _ ?_;refine Zad (.inl rfl) (ZmF s hs) ⟨λh1=>?_,λh1=>⟨rfl,Zvw (λh=>h1 h.1)⟩⟩;refine ⟨ZqA.map ZaT,rfl,rfl,⟨rfl,rfl,rfl,rfl,rfl,rfl,rfl,rfl,rfl,rfl,trivial⟩,?_⟩;exact Zad (.inl rfl) (ZfV ZqA (by decide) s) ⟨rfl,Zy0 ⟨λh=>⟨h1,h⟩,λh=>h.2⟩⟩
end ZN
namespace Barb
open Go Go.Dm Go.Eng
def Expr.k:Expr->Int | .mk k _ _ _ _=>k
def Expr.n:Expr->Int | .mk _ n _ _ _=>n
def Expr.of:Expr->Str | .mk _ _ of _ _=>of
def Expr.s:Expr->Str | .mk _ _ _ s _=>s
def Expr.args:Expr->List Expr | .mk _ _ _ _ a=>a
theorem Expr.g_eq (x:Expr):x.g=[.int x.k,.int x.n,.str x.of,.str x.s,.sl 5 (x.args.map Expr.g)]:=by
 cases x;rw[Expr.g,Expr.gs_map];rfl
abbrev Expr.d (x:Expr):List D:=[.g (.int x.k),.g (.int x.n),.g (.str x.of),.g (.str x.s),.g (.sl 5 (x.args.map Expr.g))]
theorem Expr.I.inv {x:Expr} (h:x.I):I64 x.k/\I64 x.n/\x.of.length<=9223372036854775807/\x.s.length<=9223372036854775807/\x.args.length*72<=140737488351232/\∀y∈x.args,Expr.I y:=by
 cases h with
 | mk h1 h2 h3 h4 h5 h6=>exact ⟨h1,h2,h3,h4,h5,h6⟩
def Stmt.k:Stmt->Int | .mk k _ _ _ _=>k
def Stmt.s:Stmt->Str | .mk _ s _ _ _=>s
def Stmt.xs:Stmt->List Expr | .mk _ _ x _ _=>x
def Stmt.b:Stmt->List Stmt | .mk _ _ _ b _=>b
def Stmt.e:Stmt->List Stmt | .mk _ _ _ _ e=>e
theorem Stmt.g_eq (x:Stmt):x.g=[.int x.k,.str x.s,.sl 5 (x.xs.map Expr.g),.sl 5 (x.b.map Stmt.g),.sl 5 (x.e.map Stmt.g)]:=by
 cases x;rw[Stmt.g,Expr.gs_map,Stmt.gs_map,Stmt.gs_map];rfl
abbrev Stmt.d (x:Stmt):List D:=[.g (.int x.k),.g (.str x.s),.g (.sl 5 (x.xs.map Expr.g)),.g (.sl 5 (x.b.map Stmt.g)),.g (.sl 5 (x.e.map Stmt.g))]
theorem Stmt.I.inv {x:Stmt} (h:x.I):I64 x.k/\x.s.length<=9223372036854775807/\x.xs.length*72<=140737488351232/\x.b.length*96<=140737488351232/\x.e.length*96<=140737488351232/\(∀y∈x.xs,Expr.I y)/\(∀y∈x.b,Stmt.I y)/\∀y∈x.e,Stmt.I y:=by
 cases h with
 | mk h1 h2 h3 h4 h5 h6 h7 h8=>exact ⟨h1,h2,h3,h4,h5,h6,h7,h8⟩
theorem Zga (f:Nat) (x:Expr):Zaw (f+1) x=if ¬(1<=x.k/\x.k<=5) then 3 else if 4 < x.args.length then 1 else if ¬ZbJ x.k x.n x.of x.s x.args.length then 4 else if Za0 x.k x.n then 2 else Zal (Zaw f) x.args:=by
 cases x;rfl
theorem Zjq (f:List Stmt->Int) (x:Stmt):ZbI f x=if ¬(1<=x.k/\x.k<=6) then 3 else if ¬ZdN x.k x.s x.xs.length x.b.length x.e.length then 4 else if Zal (Zaw 12) x.xs≠0 then Zal (Zaw 12) x.xs else if f x.b≠0 then f x.b else f x.e:=by
 cases x;rfl
theorem Ztm (f:List Stmt->Int) (x:Stmt):Zfd f x=f x.b+f x.e:=by cases x;rfl
theorem Zq0 {n:Int} {of s:Str} {m:Nat}:ZbJ 1 n of s m↔of=[]/\s=[]/\m=0:=by simp[ZbJ]
theorem ZqZ {n:Int} {of s:Str} {m:Nat}:ZbJ 2 n of s m↔of=[]/\Zan s/\m=0/\n=0:=by simp[ZbJ]
theorem ZqY {n:Int} {of s:Str} {m:Nat}:ZbJ 3 n of s m↔of=[]/\Zan s/\m=1/\n=0:=by simp[ZbJ]
theorem Zw3 {n:Int} {of s:Str} {m:Nat}:ZbJ 4 n of s m↔(of=[]\/Zan of)/\Zan s/\n=0:=by simp[ZbJ]
theorem ZqX {n:Int} {of s:Str} {m:Nat}:ZbJ 5 n of s m↔of=[]/\s=[]/\m=2:=by simp[ZbJ]
end Barb
namespace ZN
open Go Go.Dm Go.Eng Barb
end ZN
namespace Barb
open Go Go.Dm Go.Eng
def Zey (f:Nat) (l:List Stmt) (i:Nat):Int:=l.length+((l.take i).map (Zfd (Zah f))).sum
theorem ZoO {f:Nat} {l:List Stmt} {i:Nat} (h:i < l.length):Zey f l (i+1)=Zey f l i+(Zah f l[i].b+Zah f l[i].e):=by unfold Zey;rw[ZaJ h,Yaf,YbE,<- Ztm];simp;omega
def nOf (k:Int):Int:=if k=2 then 2 else 1
def Zrj (k:Int) (s:Str) (nx:Nat):Prop:=¬((k<=2->Zan s)/\(2 < k->s=[])/\(nx:Int)=nOf k)
def ZsE (k:Int) (nb ne:Nat):Prop:=¬((nb=0\/k=3\/k=4)/\(ne=0\/k=3))
theorem ZhE {k:Int} {s:Str} {nx nb ne:Nat}:ZdN k s nx nb ne↔¬Zrj k s nx/\¬ZsE k nb ne:=by
 unfold ZdN Zrj ZsE nOf;rw[Yah,Yah];constructor
 ·rintro ⟨⟨h1,h2,h3,h4⟩,h5⟩;refine ⟨⟨h1,h2,?_⟩,h5⟩;by_cases hk:k=2
  ·rw[if_pos hk,h3 hk];rfl
  ·rw[if_neg hk,h4 hk];rfl
 ·rintro ⟨⟨h1,h2,h3⟩,h5⟩;refine ⟨⟨h1,h2,λhk=>?_,λhk=>?_⟩,h5⟩
  ·rw[if_pos hk] at h3;omega
  ·rw[if_neg hk] at h3;omega
end Barb
namespace ZN
open Go Go.Dm Go.Eng Barb
end ZN
namespace Barb
open Go Go.Dm Go.Eng
abbrev Unit.d (u:Unit):List D:=[.g (.str u.name),.g (.sl 1 (u.vars.map ZaT)),.g (.sl 2 (u.arrays.map Arr.g)),.g (.sl 4 (u.funcs.map Fun.g))]
theorem Fun.g_eq (f:Fun):f.g=[.str f.name,.bool f.isOpen,.sl 1 (f.params.map ZaT),.sl 5 (f.body.map Stmt.g)]:=by rw[Fun.g,Stmt.gs_map]
abbrev Fun.d (f:Fun):List D:=[.g (.str f.name),.g (.bool f.isOpen),.g (.sl 1 (f.params.map ZaT)),.g (.sl 5 (f.body.map Stmt.g))]
theorem ZlW {s:Str} (h:Zan s):ZdF s=0:=by unfold ZdF;rw[if_pos h]
theorem ZlX {s:Str} (h:¬Zan s):ZdF s=4:=by unfold ZdF;rw[if_neg h]
theorem Zr5 {l:List Fun} {i:Nat} (h:i < l.length):Zb9 (l.take (i+1))=Zb9 (l.take i)+Zah 12 l[i].body:=by unfold Zb9;rw[ZaJ h,Yaf,YbE];simp
end Barb
namespace ZN
open Go Go.Dm Go.Eng Barb
variable {L:Lv}
theorem Zkr (u:Barb.Unit) (h1:u.vars.length<=8) (h2:∀a∈u.arrays,1<=a.size/\a.size<=10) (h3:u.arrays.length<=3):CT Tryz.prog (gl L) 24 [.agg u.d] (Is (.g (.int (ZaC u)))):=by
 refine enter hT hF hM Tryz.func24 rfl 22 rfl (by kernel_rfl) [.tmp 2] rfl [.agg u.d] rfl _ ?_;refine ZaO (ι:=Nat) (λi=>[(12,.g (.int (i:Int))),(3,.g (.int (u.vars.length+sizes (u.arrays.take i)))),(1,.ptr 0 0)]) (λ_=>[.blk u.d 37]) (λi=>i<=u.arrays.length) (λi=>u.arrays.length - i)
  ⟨0,[.old 0],⟨rfl,.inl rfl,.inr ⟨lk rfl,lkI (by simp[sizes]),lk rfl,trivial⟩,rfl⟩,Yat _⟩ ?_
 intro Rd aj i hi;refine ⟨λh5=>?_,λh5=>?_⟩
 ·have h6:i < u.arrays.length:=by simp at h5;omega
  have h7:=ZiP (l:=u.arrays.take i) (λa ha=>h2 a (YaK ha));have h8:=ZrH h6;have h9:=h2 _ (Yai h6);have jJ:(u.arrays.take i).length<=3:=YaC (List.length_take_le' _ _) h3;refine ⟨i,_,rfl,gm h6,?_⟩;refine ⟨_,I64.wrap (by unfold I64;omega),?_⟩;refine ⟨_,I64.wrap (by unfold I64;omega),?_⟩;exact aj _ _ _ ⟨i+1,[.old 0],⟨rfl,.inl rfl,.inr ⟨lk rfl,lkI (by omega),lk rfl,trivial⟩,rfl⟩,h6,by omega⟩
 ·have h6:i=u.arrays.length:=by simp at h5;omega
  exact ⟨rfl,Zb2 (by rw[h6,YaH];rfl)⟩
end ZN
namespace Go.Dm
open Go Go.Eng Go.RowKit Barb
theorem ZtJ {h:Zae} {k:Nat} {e e':Int} {xs:List (List GV)} (he:e=e') (hx:xs=[]):Zby (Is (.tuple [.g (.sl k xs),.g (.int e')])) h (.tuple [.nils,.g (.int e)]):=by subst he;subst hx;exact ZbN (.inr (.inr ⟨Zel,lk rfl,trivial⟩))
theorem ZyZ {h:Zae} {i:Nat} {k:Nat} {e e':Int} {xs ys:List (List GV)} {t:TypeId} (hi:h[i]?=some (.row xs t k)) (he:e=e') (hx:xs=ys):Zby (Is (.tuple [.g (.sl k ys),.g (.int e')])) h (.tuple [.row i,.g (.int e)]):=by subst he;subst hx;refine ZbN (.inl ?_);simp only[conv,Yan,YaI,kp,hi]
end Go.Dm
namespace ZN
open Go Go.Dm Go.Eng Barb
end ZN
namespace Go.Dm
open Go Go.Eng Go.RowKit
theorem Znf {Q:Out->Prop} {h:Zae} {e sz:Nat} (hs:Zef [.nil e sz]=true) (q:Q (.ret (.row 0) [.row [] e sz])):Zby Q h .nils :=
 ⟨[.nil e sz],.row 0,[.row [] e sz],⟨hs,.inl rfl,.inr ⟨.inr rfl,trivial⟩,rfl⟩,q⟩
end Go.Dm
namespace ZN
open Go Go.Dm Go.Eng Barb
variable {L:Lv}
def ZBw (xs:List (List GV)) (e:TypeId) (sz:Nat):Out->Prop:=λo=>o=.ret (.row 0) [.row xs e sz]
theorem ZoC (xs:List (List GV)) (hx:xs.length*8<=140737488351232):CT Tryz.prog (gl L) 30 [.g (.sl 1 xs)] (ZBw xs 3 1):=by refine enter hT hF hM Tryz.func30 rfl 8 rfl (by kernel_rfl) [.tmp 2] rfl [.g (.sl 1 xs)] rfl _ ?_;intro p hp;refine ⟨λh=>⟨rfl,Znf rfl (by rw[hp h];rfl)⟩,λh=>?_⟩;refine ⟨[],rfl,rfl,trivial,?_⟩;refine ⟨⟨by simp only[maxLen,List.length_nil];omega,by simp only[List.length_nil];omega⟩,?_⟩;exact ⟨rfl,ZtI (ys:=xs) rfl rfl rfl⟩
end ZN
namespace Barb
open Go Go.Dm Go.Eng
def Zbs (n many:Int):Int:=(if n < 0 then -(n+1) else n) % many
theorem Zcc (n:Int) {many:Nat} (hm:0 < many):∃k:Nat,Zbs n many=(k:Int)/\k < many:=by have h1:=Int.emod_nonneg (if n < 0 then -(n+1) else n) (show ((many:Nat):Int)≠0 by omega);have h2:=Int.emod_lt_of_pos (if n < 0 then -(n+1) else n) (show (0:Int) < ((many:Nat):Int) by omega);exact ⟨(Zbs n many).toNat,by unfold Zbs;omega,by unfold Zbs;omega⟩
theorem ZcB (n:Int) {many:Int} (hm:0 < many):0<=Zbs n many/\Zbs n many < many :=
 ⟨Int.emod_nonneg _ (by omega),Int.emod_lt_of_pos _ hm⟩
structure Raw where
 kind:Int
 a:Int
 b:Int
 c:Int
def Raw.g (r:Raw):List GV:=[.int r.kind,.int r.a,.int r.b,.int r.c]
def Raw.I (r:Raw):Prop:=I64 r.kind/\I64 r.a/\I64 r.b/\I64 r.c
end Barb
namespace ZN
open Go Go.Dm Go.Eng Barb
variable {L:Lv}
theorem Za2 (n many:Int) (hn:I64 n) (hm:0 < many):CT Tryz.prog (gl L) 25 [.g (.int n),.g (.int many)] (Is (.g (.int (Zbs n many)))):=by
 refine enter hT hF hM Tryz.func25 rfl 13 rfl (by kernel_rfl) [.tmp 4] rfl [.g (.int n),.g (.int many)] rfl _ ?_;unfold I64 at hn;refine ⟨λh=>?_,λh=>?_⟩
 ·refine ⟨_,I64.wrap (by unfold I64;omega),by unfold I64;omega,by omega,rfl,Zb2 ?_⟩;rw[YbG (by omega)];unfold Zbs;rw[if_pos h]
  congr 1
  omega
 ·refine ⟨by omega,rfl,Zb2 ?_⟩;rw[YbG (by omega)];unfold Zbs;rw[if_neg h]
theorem Zu5:Tryz.prog.cellsOf 24=4:=by kernel_rfl
theorem Zva:Tryz.prog.bytesOf 24=32:=by kernel_rfl
theorem Zu0 {f:Nat} {r:List GV} (h:Zdr Tryz.prog f 24 r):∃i:Raw,r=i.g/\i.I:=by
 obtain ⟨hl,hf⟩:=Zsx Tryz.underlying24 h
 match r,hl with
 | [g0,g1,g2,g3],_ =>obtain ⟨n0,rfl,h0⟩:=Zmv (hf 0 _ g0 rfl rfl);obtain ⟨n1,rfl,h1⟩:=Zmv (hf 1 _ g1 rfl rfl);obtain ⟨n2,rfl,h2⟩:=Zmv (hf 2 _ g2 rfl rfl);obtain ⟨n3,rfl,h3⟩:=Zmv (hf 3 _ g3 rfl rfl);exact ⟨⟨n0,n1,n2,n3⟩,rfl,h0,h1,h2,h3⟩
theorem Zw9 {f:Nat} {g:GV} (h:ZbF Tryz.prog f 22 g):∃l,g=.sl 4 (List.map Raw.g l)/\(∀x∈l,Raw.I x)/\l.length*32<=140737488351232 :=
 Zw8 Tryz.underlying22 Zu5 Zva h (λ_ _ h=>Zu0 h)
end ZN
namespace Barb
open Go Go.Dm Go.Eng
def bdA (op:Int):Int:=if op=1 then 65535 else if op=4\/op=5 then 7 else if op=8 then 10 else if op=9\/op=10\/op=11 then 1199 else if op=12 then 4 else 0
def bdB (op:Int):Int:=if op=11 then 4 else if op=12 then 7 else 0
def bdC (op:Int):Int:=if op=12 then 4 else 0
def Zb6 (x:Instr):Prop:=¬(0<=x.a/\x.a<=bdA x.op)\/¬(0<=x.b/\x.b<=bdB x.op)\/¬(0<=x.c/\x.c<=bdC x.op)\/(x.op=8/\x.a=0)
instance (x:Instr):Decidable (Zb6 x):=by unfold Zb6;infer_instance
def Zbz (x:Instr):Int:=if ¬(1<=x.op/\x.op<=15) then 3 else if Zb6 x then 2 else 0
abbrev Instr.d (x:Instr):List D:=[.g (.int x.op),.g (.int x.a),.g (.int x.b),.g (.int x.c)]
end Barb
namespace ZN
open Go Go.Dm Go.Eng Barb
variable {L:Lv}
theorem dI {a b:Int} (h:a=b):D.g (.int a)=D.g (.int b):=by rw[h]
set_option maxRecDepth 20000 in
set_option maxHeartbeats 1000000 in
theorem Zvt (x:Barb.Instr):CT Tryz.prog (gl L) 113 [.agg x.d] (Is (.g (.int (Zbz x)))):=by
 refine enter hT hF hM Tryz.func113 rfl 60 rfl (by kernel_rfl) [.tmp 2] rfl [.agg x.d] rfl _ ?_;refine ⟨λh1=>⟨rfl,Zb2 (by unfold Zbz;rw[if_pos (by omega)])⟩,λh1=>⟨λh2=>⟨rfl,Zb2 (by unfold Zbz;rw[if_pos (by omega)])⟩,λh2=>?_⟩⟩;have e:Zbz x=if Zb6 x then 2 else 0:=by unfold Zbz;rw[if_neg (by omega)]
 refine ZrK (ι:=Int × Int × Int) (λ_=>[(1,.ptr 0 0),(3,.ptr 1 0)]) (λb=>[.blk x.d 135,.blk [.g (.int b.1),.g (.int b.2.1),.g (.int b.2.2)] 223]) (λb=>b=(bdA x.op,bdB x.op,bdC x.op)) (λe0 b hb=>?_) (λRj aI=>?_)
 rotate_left
 ·have h:x.op=1\/x.op=2\/x.op=3\/x.op=4\/x.op=5\/x.op=6\/x.op=7\/x.op=8\/x.op=9\/x.op=10\/x.op=11\/x.op=12\/x.op=13\/x.op=14\/x.op=15:=by omega
  rcases h with h | h | h | h | h | h | h | h | h | h | h | h | h | h | h
  ·exact ⟨1,dI h,by decide,aI (65535,0,0) _ ⟨rfl,rfl,trivial⟩ (by rw[h];simp[bdA,bdB,bdC])⟩
  ·exact ⟨2,dI h,by decide,aI (0,0,0) _ ⟨rfl,rfl,trivial⟩ (by rw[h];rfl)⟩
  ·exact ⟨3,dI h,by decide,aI (0,0,0) _ ⟨rfl,rfl,trivial⟩ (by rw[h];rfl)⟩
  ·exact ⟨4,dI h,by decide,aI (7,0,0) _ ⟨rfl,rfl,trivial⟩ (by rw[h];rfl)⟩
  ·exact ⟨5,dI h,by decide,aI (7,0,0) _ ⟨rfl,rfl,trivial⟩ (by rw[h];rfl)⟩
  ·exact ⟨6,dI h,by decide,aI (0,0,0) _ ⟨rfl,rfl,trivial⟩ (by rw[h];rfl)⟩
  ·exact ⟨7,dI h,by decide,aI (0,0,0) _ ⟨rfl,rfl,trivial⟩ (by rw[h];rfl)⟩
  ·exact ⟨8,dI h,by decide,aI (10,0,0) _ ⟨rfl,rfl,trivial⟩ (by rw[h];rfl)⟩
  ·exact ⟨9,dI h,by decide,aI (1199,0,0) _ ⟨rfl,rfl,trivial⟩ (by rw[h];rfl)⟩
  ·exact ⟨10,dI h,by decide,aI (1199,0,0) _ ⟨rfl,rfl,trivial⟩ (by rw[h];rfl)⟩
  ·exact ⟨11,dI h,by decide,aI (1199,4,0) _ ⟨rfl,rfl,trivial⟩ (by rw[h];rfl)⟩
  ·exact ⟨12,dI h,by decide,aI (4,7,4) _ ⟨rfl,rfl,trivial⟩ (by rw[h];rfl)⟩
  ·exact ⟨13,dI h,by decide,aI (0,0,0) _ ⟨rfl,rfl,trivial⟩ (by rw[h];rfl)⟩
  ·exact ⟨14,dI h,by decide,aI (0,0,0) _ ⟨rfl,rfl,trivial⟩ (by rw[h];rfl)⟩
  ·exact ⟨15,dI h,by decide,aI (0,0,0) _ ⟨rfl,rfl,trivial⟩ (by rw[h];rfl)⟩
 subst hb;have bad:Zb6 x->∀h:Zae,Zby (Is (.g (.int (Zbz x)))) h (.g (.int 2)):=λhb h=>Zb2 (by rw[e,if_pos hb]);have mB:¬Zb6 x->∀h:Zae,Zby (Is (.g (.int (Zbz x)))) h (.g (.int 0)):=λhb h=>Zb2 (by rw[e,if_neg hb]);unfold Zb6 at bad mB;clear e;generalize bdA x.op=a at *;generalize bdB x.op=b at *;generalize bdC x.op=c at *;refine ⟨λa1=>⟨rfl,bad (by first | omega | (dsimp only at *;omega)) _⟩,λa1=>⟨λa2=>⟨rfl,bad (by first | omega | (dsimp only at *;omega)) _⟩,λa2=>⟨λa3=>⟨rfl,bad (by first | omega | (dsimp only at *;omega)) _⟩,λa3=>⟨λa4=>⟨rfl,bad (by first | omega | (dsimp only at *;omega)) _⟩,λa4=>⟨λa5=>⟨rfl,bad (by first | omega | (dsimp only at *;omega)) _⟩,λa5=>⟨λa6=>⟨rfl,bad (by first | omega | (dsimp only at *;omega)) _⟩,λa6=>⟨λa7=>⟨λa8=>⟨rfl,bad (by first | omega | (dsimp only at *;omega)) _⟩,λa8=>⟨rfl,mB (by first | omega | (dsimp only at *;omega)) _⟩⟩,λa7=>⟨rfl,mB (by first | omega | (dsimp only at *;omega)) _⟩⟩⟩⟩⟩⟩⟩⟩
end ZN
namespace Barb
open Go Go.Dm Go.Eng
def ZfL (f:Nat->Int):Nat->Int
 | 0=>0
 | n+1=>if ZfL f n≠0 then ZfL f n else f n
theorem Zf9 {f:Nat->Int}:∀{n:Nat},(∀j,j < n->f j=0)->ZfL f n=0
 | 0,_=>rfl
 | n+1,h=>by have h0:=Zf9 (f:=f) (n:=n) (λj hj=>h j (by omega));simp only[ZfL];rw[if_neg (λh=>h h0)];exact h n (by omega)
theorem ZnZ {f:Nat->Int}:∀{n i:Nat},i < n->(∀j,j < i->f j=0)->f i≠0->ZfL f n=f i
 | 0,i,h,_,_=>by omega
 | n+1,i,h,ha,h1=>by
  simp only[ZfL];by_cases e:i=n
  ·subst e;rw[if_neg (λh=>h (Zf9 ha))]
  ·rw[ZnZ (by omega) ha h1,if_pos h1]
theorem ZgG {f:Nat->Int}:∀{n:Nat},ZfL f n=0->∀j,j < n->f j=0
 | 0,_,j,h=>by omega
 | n+1,h,j,hj=>by
  simp only[ZfL] at h;by_cases h0:ZfL f n=0
  ·rw[if_neg (λh=>h h0)] at h;by_cases e:j=n
   ·subst e;exact h
   ·exact ZgG h0 j (by omega)
  ·rw[if_pos h0] at h;exact absurd h h0
abbrev Part.d (p:Part):List D:=[.g (.sl 4 (p.code.map Instr.g)),.g (.sl 2 (p.entries.map Entry.g)),.g (.int p.lo),.g (.int p.hi)]
def Zhp (n:Nat) (x:Entry):Prop:=¬(0<=x.at_/\x.at_ < n)\/¬(0<=x.params/\x.params<=4)
instance (n:Nat) (x:Entry):Decidable (Zhp n x):=by unfold Zhp;infer_instance
def ZuX (n:Nat) (x:Entry):Int:=if Zhp n x then 2 else 0
def ZjE (p:Part) (lo:Int):Int :=
 if 1200 < p.code.length\/8 < p.entries.length then 1 else if Zal Zbz p.code≠0 then Zal Zbz p.code else if Zal (ZuX p.code.length) p.entries≠0 then Zal (ZuX p.code.length) p.entries
 else if ¬p.lo=lo\/p.hi < p.lo\/250 < p.hi then 8 else 0
def Zea (m:List Part) (i:Nat):Int:=(0 :: m.map Part.hi).getD i 0
theorem ZdV {m:List Part} {i:Nat} (h:i < m.length):Zea m (i+1)=m[i].hi:=by simp[Zea,h]
def ZA3 (m:List Part) (i:Nat):Int:=if h:i < m.length then ZjE m[i] (Zea m i) else 0
theorem Zmg {m:List Part} {i:Nat} (h:i < m.length):ZA3 m i=ZjE m[i] (Zea m i):=by unfold ZA3;rw[dif_pos h]
def Zi1 (m:List Part):Int:=if 5 < m.length then 1 else ZfL (ZA3 m) m.length
abbrev ZqF (m:List Part):List D:=[.g (.sl 4 (m.map Part.g))]
end Barb
namespace ZN
open Go Go.Dm Go.Eng Barb
variable {L:Lv}
set_option maxRecDepth 20000 in
set_option maxHeartbeats 1000000 in
theorem Zwl (p:Barb.Part) (hp:p.I) (lo:Int):CT Tryz.prog (gl L) 87 [.agg p.d,.g (.int lo)] (Is (.g (.int (ZjE p lo)))):=by
 obtain ⟨_,_,_,_,bt,gn⟩:=hp;have lc:(p.code.map Instr.g).length=p.code.length:=by simp
 have le:(p.entries.map Entry.g).length=p.entries.length:=by simp
 have e:ZjE p lo=ZjE p lo:=rfl
 conv at e=>rhs;unfold ZjE
 refine enter hT hF hM Tryz.func87 rfl 78 rfl (by kernel_rfl) [.tmp 4] rfl [.agg p.d,.g (.int lo)] rfl _ ?_;refine ⟨λa1=>⟨rfl,Zb2 (by rw[e,if_pos (by omega)])⟩,λa1=>⟨λa2=>⟨rfl,Zb2 (by rw[e,if_pos (by omega)])⟩,λa2=>?_⟩⟩;rw[if_neg (by omega)] at e;refine ZaO (ι:=Nat) (λi=>[(23,.g (.int (i:Int))),(2,.ptr 0 0)]) (λ_=>[.blk p.d 87]) (λi=>i<=p.code.length/\∀j (hj:j < p.code.length),j < i->Zbz p.code[j]=0) (λi=>p.code.length - i)
  ⟨0,[.old 0],⟨rfl,.inl rfl,.inr ⟨lk rfl,lk rfl,trivial⟩,rfl⟩,Yat _,Zgk⟩ ?_
 intro Rd aj i ⟨hi,ha⟩;refine ⟨λb0=>?_,λb0=>?_⟩
 ·have b1:i < p.code.length:=by omega
  refine ⟨i,_,rfl,gm b1,?_⟩;refine Zad (.inl rfl) (Zvt p.code[i]) ?_;refine ⟨λb3=>⟨rfl,Zb2 (by rw[e,Za3 b1 ha b3,if_pos b3])⟩,λb3=>⟨_,I64.wrap (by unfold I64;omega),?_⟩⟩;exact aj _ _ _ ⟨i+1,[.old 0],⟨rfl,.inl rfl,.inr ⟨lk rfl,lk rfl,trivial⟩,rfl⟩,⟨b1,ZaV b1 ha b3⟩,by omega⟩
 have iv:Zal Zbz p.code=0:=Zbb (by omega) ha;rw[if_neg (λh=>h iv)] at e;clear aj ha hi b0;refine ZaO (ι:=Nat) (λi=>[(36,.g (.int (i:Int))),(2,.ptr 0 0)]) (λ_=>[.blk p.d 87]) (λi=>i<=p.entries.length/\∀j (hj:j < p.entries.length),j < i->ZuX p.code.length p.entries[j]=0) (λi=>p.entries.length - i)
  ⟨0,[.old 0],⟨rfl,.inl rfl,.inr ⟨lk rfl,lk rfl,trivial⟩,rfl⟩,Yat _,Zgk⟩ ?_
 intro Rd aj i ⟨hi,ha⟩;refine ⟨λb0=>?_,λb0=>?_⟩
 ·have b1:i < p.entries.length:=by omega
  have bad:Zhp p.code.length p.entries[i]->∀h:Zae,Zby (Is (.g (.int (ZjE p lo)))) h (.g (.int 2)):=λhb h=>by
   have hz:ZuX p.code.length p.entries[i]=2:=by unfold ZuX;rw[if_pos hb]
   exact Zb2 (by rw[e,Za3 b1 ha (by rw[hz];decide),hz,if_pos (by decide)])
  unfold Zhp at bad;refine ⟨i,_,rfl,gm b1,?_⟩;refine ⟨λc1=>⟨rfl,bad (by omega) _⟩,λc1=>⟨λc2=>⟨rfl,bad (by omega) _⟩,λc2=>⟨λc3=>⟨rfl,bad (by omega) _⟩,λc3=>⟨λc4=>⟨rfl,bad (by omega) _⟩,λc4=>⟨_,I64.wrap (by unfold I64;omega),?_⟩⟩⟩⟩⟩;exact aj _ _ _ ⟨i+1,[.old 0],⟨rfl,.inl rfl,.inr ⟨lk rfl,lk rfl,trivial⟩,rfl⟩,⟨b1,ZaV b1 ha (by unfold ZuX;rw[if_neg (by unfold Zhp;omega)])⟩,by omega⟩
 have oM:Zal (ZuX p.code.length) p.entries=0:=Zbb (by omega) ha;rw[if_neg (λh=>h oM)] at e;exact ⟨λd1=>⟨rfl,Zb2 (by rw[e,if_pos (.inl d1)])⟩,λd1=>⟨λd2=>⟨rfl,Zb2 (by rw[e,if_pos (.inr (.inl d2))])⟩,λd2=>⟨λd3=>⟨rfl,Zb2 (by rw[e,if_pos (.inr (.inr d3))])⟩,λd3=>⟨rfl,Zb2 (by rw[e,if_neg (by omega)])⟩⟩⟩⟩
theorem ZoB (m:Zax) (hm:Zax.I m):CT Tryz.prog (gl L) 53 [.agg (ZqF m)] (Is (.g (.int (Zi1 m)))):=by
 obtain ⟨hI,hl⟩:=hm;have lm:(m.map Part.g).length=m.length:=by simp
 refine enter hT hF hM Tryz.func53 rfl 27 rfl (by kernel_rfl) [.tmp 2] rfl [.agg (ZqF m)] rfl _ ?_;refine ⟨λa1=>⟨rfl,Zb2 (by unfold Zi1;rw[if_pos (by omega)])⟩,λa1=>?_⟩;have e:Zi1 m=ZfL (ZA3 m) m.length:=by unfold Zi1;rw[if_neg (by omega)]
 refine ZaO (ι:=Nat) (λi=>[(14,.g (.int (i:Int))),(3,.g (.int (Zea m i)))]) (λ_=>[]) (λi=>i<=m.length/\∀j,j < i->ZA3 m j=0) (λi=>m.length - i)
  ⟨0,[],⟨rfl,.inl rfl,.inr ⟨lk rfl,lk rfl,trivial⟩,rfl⟩,Yat _,λj h=>absurd h (Ybn j)⟩ ?_
 intro Rd aj i ⟨hi,ha⟩;refine ⟨λb0=>?_,λb0=>?_⟩
 ·have b1:i < m.length:=by omega
  have hF:=Zmg b1;refine ⟨i,_,rfl,gm b1,?_⟩;refine Zad (.inl rfl) (Zwl m[i] (hI _ (Yai _)) (Zea m i)) ?_;refine ⟨λb3=>⟨rfl,Zb2 (by rw[e,ZnZ b1 ha (by rw[hF];exact b3),hF])⟩,λb3=>⟨_,I64.wrap (by unfold I64;omega),?_⟩⟩;exact aj _ _ _ ⟨i+1,[],⟨rfl,.inl rfl,.inr ⟨lk rfl,lkI (ZdV b1).symm,trivial⟩,rfl⟩,⟨b1,λj hj=>by
   by_cases cL:j=i
   ·subst cL;rw[hF];exact b3
   ·exact ha j (by omega)⟩,by omega⟩
 ·have az:i=m.length:=by omega
  exact ⟨rfl,Zb2 (by rw[e,Zf9 (λj hj=>ha j (by omega))])⟩
end ZN
