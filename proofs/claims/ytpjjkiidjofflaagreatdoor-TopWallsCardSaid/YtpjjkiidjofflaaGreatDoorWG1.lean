import Derived.Test.YtpjjkiidjofflaaGreatDoorWWd
import Derived.Test.YtpjjkiidjofflaaGreatDoorWB1
open Go Go.Proofs Go.Proofs.YtpjjkiidjofflaaGreatDoor
namespace Barb
open Go Go.Dm Go.Eng
def Zar (n many:Int):Int:=(if n < 0 then -(n+1) else n) % many
theorem ZbR (n:Int) {many:Nat} (hm:0 < many):∃k:Nat,Zar n many=(k:Int)/\k < many:=by have h1:=Int.emod_nonneg (if n < 0 then -(n+1) else n) (show ((many:Nat):Int)≠0 by omega);have h2:=Int.emod_lt_of_pos (if n < 0 then -(n+1) else n) (show (0:Int) < ((many:Nat):Int) by omega);exact ⟨(Zar n many).toNat,by unfold Zar;omega,by unfold Zar;omega⟩
theorem Zcn (n:Int) {many:Int} (hm:0 < many):0<=Zar n many/\Zar n many < many :=
 ⟨Int.emod_nonneg _ (by omega),Int.emod_lt_of_pos _ hm⟩
structure Raw where
 kind:Int
 a:Int
 b:Int
 c:Int
def Raw.g (r:Raw):List GV:=[.int r.kind,.int r.a,.int r.b,.int r.c]
def Raw.I (r:Raw):Prop:=I64 r.kind/\I64 r.a/\I64 r.b/\I64 r.c
end Barb
namespace ZN
open Go Go.Dm Go.Eng Barb
theorem ZaT (n many:Int) (hn:I64 n) (hm:0 < many):CT Tryz.prog gl 17 [.g (.int n),.g (.int many)] (Is (.g (.int (Zar n many)))):=by
 refine enter hT hF hM Tryz.func17 rfl 13 rfl (by kernel_rfl) [.tmp 4] rfl [.g (.int n),.g (.int many)] rfl _ ?_;unfold I64 at hn;refine ⟨λh=>?_,λh=>?_⟩
 ·refine ⟨_,I64.wrap (by unfold I64;omega),by unfold I64;omega,by omega,rfl,ZbQ ?_⟩;rw[YbN (by omega)];unfold Zar;rw[if_pos h]
  congr 1
  omega
 ·refine ⟨by omega,rfl,ZbQ ?_⟩;rw[YbN (by omega)];unfold Zar;rw[if_neg h]
theorem ZuI:Tryz.prog.cellsOf 24=4:=by kernel_rfl
theorem ZuR:Tryz.prog.bytesOf 24=32:=by kernel_rfl
theorem ZuD {f:Nat} {r:List GV} (h:Zdt Tryz.prog f 24 r):∃i:Raw,r=i.g/\i.I:=by
 obtain ⟨hl,hf⟩:=Zsb Tryz.underlying24 h
 match r,hl with
 | [g0,g1,g2,g3],_ =>obtain ⟨n0,rfl,h0⟩:=Zl9 (hf 0 _ g0 rfl rfl);obtain ⟨n1,rfl,h1⟩:=Zl9 (hf 1 _ g1 rfl rfl);obtain ⟨n2,rfl,h2⟩:=Zl9 (hf 2 _ g2 rfl rfl);obtain ⟨n3,rfl,h3⟩:=Zl9 (hf 3 _ g3 rfl rfl);exact ⟨⟨n0,n1,n2,n3⟩,rfl,h0,h1,h2,h3⟩
theorem ZqS {f:Nat} {g:GV} (h:ZbA Tryz.prog f 22 g):∃l,g=.sl 4 (List.map Raw.g l)/\(∀x∈l,Raw.I x)/\l.length*32<=140737488351232 :=
 ZwO Tryz.underlying22 ZuI ZuR h (λ_ _ h=>ZuD h)
end ZN
namespace Go.Dm
open Go Go.Eng Go.RowKit
theorem ZmZ {Q:Out->Prop} {h:Zad} {e sz:Nat} (hs:ZdG [.nil e sz]=true) (q:Q (.ret (.row 0) [.row [] e sz])):Zbk Q h .nils :=
 ⟨[.nil e sz],.row 0,[.row [] e sz],⟨hs,.inl rfl,.inr ⟨.inr rfl,trivial⟩,rfl⟩,q⟩
end Go.Dm
namespace ZN
open Go Go.Dm Go.Eng Barb
def ZBs (xs:List (List GV)) (e:TypeId) (sz:Nat):Out->Prop:=λo=>o=.ret (.row 0) [.row xs e sz]
theorem Zeu (xs:List (List GV)) (hx:xs.length*8<=140737488351232):CT Tryz.prog gl 24 [.g (.sl 1 xs)] (ZBs xs 3 1):=by refine enter hT hF hM Tryz.func24 rfl 8 rfl (by kernel_rfl) [.tmp 2] rfl [.g (.sl 1 xs)] rfl _ ?_;intro p hp;refine ⟨λh=>⟨rfl,ZmZ rfl (by rw[hp h];rfl)⟩,λh=>?_⟩;refine ⟨[],rfl,rfl,trivial,?_⟩;refine ⟨⟨by simp only[maxLen,List.length_nil];omega,by simp only[List.length_nil];omega⟩,?_⟩;exact ⟨rfl,Zti (ys:=xs) rfl rfl rfl⟩
end ZN
namespace Barb
open Go Go.Dm Go.Eng
noncomputable instance (priority:=10) propDec (p:Prop):Decidable p:=Classical.propDecidable p
def ZAF (c:UInt8):Prop:=97<=c.toNat/\c.toNat<=122
def ZCh (c:UInt8):Prop:=48<=c.toNat/\c.toNat<=57
def ZCj (s:Str) (j:Nat) (hj:j < s.length):Prop:=ZAF s[j]\/(j≠0/\ZCh s[j])
def ZxP (s:Str):Prop:=(1<=s.length/\s.length<=8)/\∀j (hj:j < s.length),ZCj s j hj
def ZBD:List Str:=[[117,110,105,116],[118,97,114],[97,114,114,97,121],[102,117,110,99],[111,112,101,110],[105,102],[101,108,115,101],[119,104,105,108,101],[114,101,116,117,114,110],[115,97,121]]
def Zaw (s:Str):Prop:=ZxP s/\s ∉ ZBD
def Zbp (k n:Int) (of s:Str) (m:Nat):Prop :=
 (k=1/\of=[]/\s=[]/\m=0)\/(k=2/\of=[]/\Zaw s/\m=0/\n=0)\/(k=3/\of=[]/\Zaw s/\m=1/\n=0)\/(k=4/\(of=[]\/Zaw of)/\Zaw s/\n=0)\/(k=5/\of=[]/\s=[]/\m=2)
def ZaR (k n:Int):Prop:=(k=1/\¬(0<=n/\n<=65535))\/(k=5/\¬(1<=n/\n<=10))
noncomputable def ZaN:Nat->Expr->Int
 | 0,_=>1
 | f+1,.mk k n of s args=>if ¬(1<=k/\k<=5) then 3 else if 4 < args.length then 1 else if ¬Zbp k n of s args.length then 4 else if ZaR k n then 2 else Zah (ZaN f) args
def Zdr (k:Int) (s:Str) (nx nb ne:Nat):Prop :=
 ((k<=2->Zaw s)/\(2 < k->s=[])/\(k=2->nx=2)/\(k≠2->nx=1))/\(nb=0\/k=3\/k=4)/\(ne=0\/k=3)
noncomputable def ZcZ (f:List Stmt->Int):Stmt->Int
 | .mk k s xs b e=>if ¬(1<=k/\k<=6) then 3 else if ¬Zdr k s xs.length b.length e.length then 4 else if Zah (ZaN 12) xs≠0 then Zah (ZaN 12) xs else if f b≠0 then f b else f e
noncomputable def Zan:Nat->List Stmt->Int
 | 0,_=>1
 | f+1,l=>Zah (ZcZ (Zan f)) l
def Zja (f:List Stmt->Int):Stmt->Int
 | .mk _ _ _ b e=>f b+f e
def Zam:Nat->List Stmt->Int
 | 0,_=>0
 | f+1,l=>l.length+(l.map (Zja (Zam f))).sum
noncomputable def Zoa (a:Arr):Int:=if ¬Zaw a.name then 4 else if ¬(1<=a.size/\a.size<=10) then 2 else 0
noncomputable def ZdL (s:Str):Int:=if Zaw s then 0 else 4
noncomputable def ZlX (f:Fun):Int:=if ¬Zaw f.name then 4 else if 4 < f.params.length then 1 else if Zah ZdL f.params≠0 then Zah ZdL f.params else Zan 12 f.body
def Zdg (l:List Fun):Int:=(l.map λf=>Zam 12 f.body).sum
noncomputable def Zcg (u:Unit):Int :=
 if ¬Zaw u.name then 4 else if 8 < u.vars.length\/3 < u.arrays.length\/8 < u.funcs.length then 1
 else if Zah ZdL u.vars≠0 then Zah ZdL u.vars else if Zah Zoa u.arrays≠0 then Zah Zoa u.arrays else if Zah ZlX u.funcs≠0 then Zah ZlX u.funcs
 else if 300 < IntKind.i64.wrap (Zdg u.funcs) then 1 else 0
def sizes (l:List Arr):Int:=(l.map Arr.size).sum
def Zap (u:Unit):Int:=u.vars.length+sizes u.arrays
theorem Zhq {l:List Arr} {i:Nat} (h:i < l.length):sizes (l.take (i+1))=sizes (l.take i)+l[i].size:=by unfold sizes;rw[Zay h,Yai,Ybq];simp
theorem ZeC {l:List Arr} (h:∀a∈l,1<=a.size/\a.size<=10):0<=sizes l/\sizes l<=10*l.length:=by
 induction l with
 | nil=>simp[sizes]
 | cons a l ih =>have:=h a Yac;have:=ih (λb hb=>h b (Yad _ hb));simp only[sizes,Yar,List.sum_cons,List.length_cons] at this ⊢;omega
theorem Zak {α:Type} {f:α->Int}:∀{l:List α},Zah f l=0->∀x∈l,f x=0
 | [],_,x,hx=>by simp at hx
 | y :: l,h,x,hx=>by
  simp only[Zah] at h;by_cases h0:f y=0
  ·rw[if_pos h0] at h;rcases Yav.1 hx with rfl | hx
   ·exact h0
   ·exact Zak h x hx
  ·rw[if_neg h0] at h;exact absurd h h0
theorem Ziw {u:Unit} (h:Zcg u=0):u.vars.length<=8/\u.arrays.length<=3/\u.funcs.length<=8/\∀a∈u.arrays,1<=a.size/\a.size<=10:=by
 unfold Zcg at h;by_cases h1:Zaw u.name
 ·rw[if_neg (by simpa using h1)] at h;by_cases h2:8 < u.vars.length\/3 < u.arrays.length\/8 < u.funcs.length
  ·rw[if_pos h2] at h;omega
  ·rw[if_neg h2] at h;by_cases h3:Zah ZdL u.vars≠0
   ·rw[if_pos h3] at h;exact absurd h h3
   ·rw[if_neg h3] at h;by_cases h4:Zah Zoa u.arrays≠0
    ·rw[if_pos h4] at h;exact absurd h h4
    ·refine ⟨by omega,by omega,by omega,λa ha=>?_⟩;have:=Zak (Yam.1 h4) a ha;unfold Zoa at this;by_cases h5:Zaw a.name
     ·rw[if_neg (by simpa using h5)] at this;by_cases h6:1<=a.size/\a.size<=10
      ·exact h6
      ·rw[if_pos h6] at this;omega
     ·rw[if_pos h5] at this;omega
 ·rw[if_pos h1] at h;omega
theorem Zle (a:Int):IntKind.i64.wrap a=if 9223372036854775808<=a % 18446744073709551616 then a % 18446744073709551616 - 18446744073709551616 else a % 18446744073709551616:=by simp[IntKind.wrap,IntKind.signed,IntKind.bits]
theorem Zit (a b:Int):IntKind.i64.wrap (IntKind.i64.wrap a+b)=IntKind.i64.wrap (a+b):=by rw[Zle,Zle,Zle];omega
theorem ZiX (a b:Int):IntKind.i64.wrap (a+IntKind.i64.wrap b)=IntKind.i64.wrap (a+b):=by rw[Int.add_comm,Zit,Int.add_comm]
noncomputable def Zb4 {α:Type} (q:α->Prop):List α->Nat->Int
 | [],_=>-1
 | x :: l,i=>if q x then (i:Int) else Zb4 q l (i+1)
noncomputable def idx {α:Type} (q:α->Prop) (l:List α):Int:=Zb4 q l 0
theorem ZkO {α:Type} {q:α->Prop}:∀{l:List α} {i0 i:Nat} (hi:i < l.length),(∀j (hj:j < l.length),j < i->¬q l[j])->q l[i]->Zb4 q l i0=((i0+i:Nat):Int)
 | [],_,i,hi,_,_=>by simp at hi
 | x :: l,i0,0,hi,_,h1=>by simp only[Zb4];rw[if_pos (by simpa using h1)];simp
 | x :: l,i0,i+1,hi,h,h1=>by
  simp only[Zb4];rw[if_neg (show ¬q x from h 0 (by simp) (by omega)),ZkO (l:=l) (i:=i) (by simpa using hi) (λj hj hji=>h (j+1) (by simpa using hj) (by omega)) (by simpa using h1)]
  congr 1;omega
theorem ZkN {α:Type} {q:α->Prop}:∀{l:List α} {i0:Nat},(∀x∈l,¬q x)->Zb4 q l i0=-1
 | [],_,_=>rfl
 | x :: l,i0,h=>by simp only[Zb4];rw[if_neg (h x Yac)];exact ZkN (λy hy=>h y (Yad _ hy))
theorem Zf6 {α:Type} {q:α->Prop} {l:List α} {i:Nat} (hi:i < l.length) (h:∀j (hj:j < l.length),j < i->¬q l[j]) (h1:q l[i]):idx q l=(i:Int):=by unfold idx;rw[ZkO hi h h1];simp
theorem Zf5 {α:Type} {q:α->Prop} {l:List α} (h:∀x∈l,¬q x):idx q l=-1:=ZkN h
theorem Zg6 {α:Type} (q:α->Prop):∀(l:List α) (i0:Nat),(Zb4 q l i0=-1/\∀x∈l,¬q x)\/∃(i:Nat) (hi:i < l.length),Zb4 q l i0=((i0+i:Nat):Int)/\q l[i]/\∀j (hj:j < l.length),j < i->¬q l[j]
 | [],_=>.inl ⟨rfl,λx hx=>by simp at hx⟩
 | x :: l,i0=>by
  by_cases hx:q x
  ·exact .inr ⟨0,by simp,by simp only[Zb4];rw[if_pos hx];simp,by simpa using hx,λj hj hji=>absurd hji (by omega)⟩
  ·rcases Zg6 q l (i0+1) with ⟨h1,h2⟩ | ⟨i,hi,h1,h2,h3⟩
   ·refine .inl ⟨by simp only[Zb4];rw[if_neg hx];exact h1,λy hy=>?_⟩;rcases Yav.1 hy with rfl | hy
    ·exact hx
    ·exact h2 y hy
   ·refine .inr ⟨i+1,by simpa using hi,by simp only[Zb4];rw[if_neg hx,h1];congr 1;omega,by simpa using h2,λj hj hji=>?_⟩;cases j with
    | zero=>simpa using hx
    | succ j=>simpa using h3 j (by simpa using hj) (by omega)
theorem Zbx {α:Type} (q:α->Prop) (l:List α):(idx q l=-1/\∀x∈l,¬q x)\/∃(i:Nat) (hi:i < l.length),idx q l=(i:Int)/\q l[i]/\∀j (hj:j < l.length),j < i->¬q l[j]:=by
 rcases Zg6 q l 0 with h | ⟨i,hi,h1,h2,h3⟩
 ·exact .inl h
 ·exact .inr ⟨i,hi,by unfold idx;rw[h1];simp,h2,h3⟩
noncomputable def Zba (p:List Unit) (name:Str):Int:=idx (λu:Unit=>u.name=name) p
noncomputable def Zbz (u:Unit) (name:Str):Int:=idx (λf:Fun=>f.name=name) u.funcs
def Zi5 (u:Unit) (f:Fun) (name:Str):Prop:=name∈f.params\/name∈u.vars
def ZiU (u:Unit) (name:Str):Prop:=∃a∈u.arrays,a.name=name
noncomputable def calledIn (to:Unit) (of s:Str) (m:Nat):Int :=
 match to.funcs.find? (λf=>decide (f.name=s)) with
 | none=>5
 | some g=>if of≠[]/\g.isOpen=false then 5 else if g.params.length≠m then 7 else 0
noncomputable def Za1 (p:List Unit) (u:Unit) (of s:Str) (m:Nat):Int :=
 if of=[] then calledIn u of s m else match p.find? (λv=>decide (v.name=of)) with
  | none=>5
  | some v=>calledIn v of s m
noncomputable def Za3 (p:List Unit) (u:Unit) (f:Fun) (k:Int) (of s:Str) (m:Nat):Int :=
 if (k=2/\¬Zi5 u f s)\/(k=3/\¬ZiU u s) then 5 else if k=4 then Za1 p u of s m else 0
mutual
noncomputable def ZbF (p:List Unit) (u:Unit) (f:Fun):Expr->Int
 | .mk k _ of s args=>if Za3 p u f k of s args.length≠0 then Za3 p u f k of s args.length else Zd4 p u f args
noncomputable def Zd4 (p:List Unit) (u:Unit) (f:Fun):List Expr->Int
 | []=>0
 | x :: l=>if ZbF p u f x=0 then Zd4 p u f l else ZbF p u f x
end
theorem ZbH (p:List Unit) (u:Unit) (f:Fun):∀l,Zd4 p u f l=Zah (ZbF p u f) l
 | []=>rfl
 | x :: l=>by simp only[Zd4,Zah,ZbH p u f l]
mutual
noncomputable def ZdW (p:List Unit) (u:Unit) (f:Fun):Stmt->Int
 | .mk k s xs b e=>if (k=1/\¬Zi5 u f s)\/(k=2/\¬ZiU u s) then 5 else if Zd4 p u f xs≠0 then Zd4 p u f xs else if Zbg p u f b≠0 then Zbg p u f b else Zbg p u f e
noncomputable def Zbg (p:List Unit) (u:Unit) (f:Fun):List Stmt->Int
 | []=>0
 | x :: l=>if ZdW p u f x=0 then Zbg p u f l else ZdW p u f x
end
theorem ZaS (p:List Unit) (u:Unit) (f:Fun):∀l,Zbg p u f l=Zah (ZdW p u f) l
 | []=>rfl
 | x :: l=>by simp only[Zbg,Zah,ZaS p u f l]
def Zk1 (l:List Str):Prop:=∃j,∃hj:j < l.length,l[j]∈l.take j
noncomputable def Zuk (p:List Unit) (u:Unit) (f:Fun):Int:=if Zk1 f.params then 6 else Zbg p u f f.body
noncomputable def Zgc (p:List Unit) (u:Unit):Int :=
 if Zk1 (u.vars++u.arrays.map Arr.name)\/Zk1 (u.funcs.map Fun.name) then 6 else Zah (Zuk p u) u.funcs
def Zai (p:List Unit):Int:=(p.map Zap).sum
noncomputable def Zbd (p:List Unit):Int :=
 if 5 < p.length then 1 else if Zah Zcg p≠0 then Zah Zcg p else if Zk1 (p.map Unit.name) then 6 else if 250 < Zai p then 1 else Zah (Zgc p) p
end Barb
namespace ZN
open Go Go.Dm Go.Eng Barb
theorem ZmK (c:UInt8):CT Tryz.prog gl 101 [.g (.u8 (c.toNat:Int))] (Is (.pb (ZAF c))):=by refine enter hT hF hM Tryz.func101 rfl 9 rfl (by kernel_rfl) [.tmp 2] rfl [.g (.u8 (c.toNat:Int))] rfl _ ?_;exact ⟨λh1=>⟨rfl,ZmY ⟨λh=>⟨by omega,by omega⟩,λh=>by have:=h.2;omega⟩⟩,λh1=>⟨rfl,Zvg (λh=>h1 (by have:=h.1;omega))⟩⟩
theorem ZuB (c:UInt8):CT Tryz.prog gl 104 [.g (.u8 (c.toNat:Int))] (Is (.pb (ZCh c))):=by refine enter hT hF hM Tryz.func104 rfl 9 rfl (by kernel_rfl) [.tmp 2] rfl [.g (.u8 (c.toNat:Int))] rfl _ ?_;exact ⟨λh1=>⟨rfl,ZmY ⟨λh=>⟨by omega,by omega⟩,λh=>by have:=h.2;omega⟩⟩,λh1=>⟨rfl,Zvg (λh=>h1 (by have:=h.1;omega))⟩⟩
def ZzQ (c:UInt8):Prop:=¬ZAF c/\¬ZCh c
theorem ZyJ (c:UInt8):CT Tryz.prog gl 103 [.g (.u8 (c.toNat:Int))] (Is (.pb (ZzQ c))):=by refine enter hT hF hM Tryz.func103 rfl 11 rfl (by kernel_rfl) [.tmp 2] rfl [.g (.u8 (c.toNat:Int))] rfl _ ?_;refine Zae (.inl rfl) (ZmK c) ?_;refine ⟨λh=>Zae (.inl rfl) (ZuB c) ⟨rfl,Zyz ⟨λk=>⟨h,k⟩,λk=>k.2⟩⟩,λh=>⟨rfl,Zvg (λk=>k.1 h)⟩⟩
theorem Zpb (s:Str) (hs:s.length<=9223372036854775807):CT Tryz.prog gl 110 [.g (.sl 1 (ZeY s)),.fn 103 [] []] (Is (.g (.int (idx ZzQ s)))):=by
 refine enter hT hF hM Tryz.func110 rfl 19 rfl (by kernel_rfl) [.tmp 4] rfl [.g (.sl 1 (ZeY s)),.fn 103 [] []] rfl _ ?_;refine ZaL (ι:=Nat) (λi=>[(8,.g (.int (i:Int)))]) (λ_=>[]) (λi=>i<=s.length/\∀j (hj:j < s.length),j < i->¬ZzQ s[j]) (λi=>s.length - i)
  ⟨0,[],⟨rfl,.inl rfl,.inr ⟨lk rfl,trivial⟩,rfl⟩,Yau _,Zhg⟩ ?_
 intro Rd hRd i ⟨hi,ha⟩;refine ⟨λh=>?_,λh=>?_⟩
 ·have h1:i < s.length:=by simp[ZeY] at h;omega
  refine ⟨i,_,rfl,gm h1,?_⟩;refine Zae (.inl rfl) (ZyJ s[i]) ?_;refine ⟨λh2=>⟨rfl,ZbQ (Zf6 h1 ha h2).symm⟩,λh2=>⟨_,I64.wrap (by unfold I64;omega),?_⟩⟩;exact hRd _ _ _ ⟨i+1,[],⟨rfl,.inl rfl,.inr ⟨lk rfl,trivial⟩,rfl⟩,⟨h1,ZcS h1 ha h2⟩,by omega⟩
 ·have h1:s.length<=i:=by simp[ZeY] at h;omega
  exact ⟨rfl,ZbQ (Zf5 (Zdw h1 ha)).symm⟩
theorem Zpd (s:Str) (hs:s.length<=9223372036854775807):CT Tryz.prog gl 102 [.g (.sl 1 (ZeY s)),.fn 103 [] []] (Is (.pb (∃c∈s,ZzQ c))):=by
 refine enter hT hF hM Tryz.func102 rfl 9 rfl (by kernel_rfl) [.tmp 4] rfl [.g (.sl 1 (ZeY s)),.fn 103 [] []] rfl _ ?_;refine Zae (.inl rfl) (Zpb s hs) ⟨rfl,ZmY ?_⟩;rcases Zbx ZzQ s with ⟨h1,h2⟩ | ⟨i,hi,h1,h2,h3⟩
 ·rw[h1];exact ⟨λh=>absurd h (by decide),λ⟨c,hc,ho⟩=>absurd ho (h2 c hc)⟩
 ·rw[h1];exact ⟨λ_=>⟨s[i],Yah _,h2⟩,λ_=>by omega⟩
theorem Zsw (s:Str) (h0:s≠[]) (h8:s.length<=8):ZxP s↔ZAF (s[0]'(YbU.2 h0))/\¬∃c∈s,ZzQ c:=by
 constructor
 ·rintro ⟨_,h⟩;refine ⟨?_,λ⟨c,hc,ho⟩=>?_⟩
  ·rcases h 0 (YbU.2 h0) with h | h
   ·exact h
   ·exact absurd rfl h.1
  ·obtain ⟨i,hi,rfl⟩:=YaK hc;rcases h i hi with h | h
   ·exact ho.1 h
   ·exact ho.2 h.2
 ·rintro ⟨h1,h2⟩;refine ⟨⟨YbU.2 h0,h8⟩,λj hj=>?_⟩;by_cases hl:ZAF s[j]
  ·exact .inl hl
  ·refine .inr ⟨λe=>?_,?_⟩
   ·subst e;exact hl h1
   ·exact Yam.1 (λhd=>h2 ⟨s[j],Yah _,hl,hd⟩)
theorem Zw8 (s:Str) (hs:s.length<=9223372036854775807):CT Tryz.prog gl 91 [.g (.str s)] (Is (.pb (ZxP s))):=by
 refine enter hT hF hM Tryz.func91 rfl 21 rfl (by kernel_rfl) [.tmp 2] rfl [.g (.str s)] rfl _ ?_;refine ⟨λh1=>⟨λh2=>?_,λh2=>⟨rfl,Zvg (λh=>h2 (by have:=h.1.2;omega))⟩⟩,λh1=>⟨rfl,Zvg (λh=>by have h1:s=[]:=h1;subst h1;exact absurd h.1.1 (by decide))⟩⟩;have h8:s.length<=8:=by omega
 have h1:s≠[]:=h1;have hw:=Zsw s h1 h8;have hp:=YbU.2 h1;refine ⟨0,s[0],rfl,ge hp,?_⟩;refine Zae (.inl rfl) (ZmK _) ⟨λh3=>?_,λh3=>⟨rfl,Zvg (λh=>h3 (hw.1 h).1)⟩⟩;exact Zae (.inl rfl) (Zpd s hs) ⟨rfl,Zyz ⟨λh=>hw.2 ⟨h3,h⟩,λh=>(hw.1 h).2⟩⟩
theorem Zc2 (l:List Str) (hl:l.length<=9223372036854775807) (s:Str):CT Tryz.prog gl 87 [.g (.sl 1 (l.map ZbP)),.g (.str s)] (Is (.g (.int (idx (λx=>s=x) l)))):=by
 refine enter hT hF hM Tryz.func87 rfl 19 rfl (by kernel_rfl) [.tmp 4] rfl [.g (.sl 1 (l.map ZbP)),.g (.str s)] rfl _ ?_;refine ZaL (ι:=Nat) (λi=>[(8,.g (.int (i:Int)))]) (λ_=>[]) (λi=>i<=l.length/\∀j (hj:j < l.length),j < i->¬s=l[j]) (λi=>l.length - i)
  ⟨0,[],⟨rfl,.inl rfl,.inr ⟨lk rfl,trivial⟩,rfl⟩,Yau _,Zhg (q:=λx=>s=x)⟩ ?_
 intro Rd hRd i ⟨hi,ha⟩;refine ⟨λh=>?_,λh=>?_⟩
 ·have h1:i < l.length:=by simp at h;omega
  refine ⟨i,_,rfl,gm h1,?_⟩;refine ⟨λh2=>⟨rfl,ZbQ (Zf6 (q:=λx=>s=x) h1 ha h2).symm⟩,λh2=>⟨_,I64.wrap (by unfold I64;omega),?_⟩⟩;exact hRd _ _ _ ⟨i+1,[],⟨rfl,.inl rfl,.inr ⟨lk rfl,trivial⟩,rfl⟩,⟨h1,ZcS (q:=λx=>s=x) h1 ha h2⟩,by omega⟩
 ·have h1:l.length<=i:=by simp at h;omega
  exact ⟨rfl,ZbQ (Zf5 (Zdw (q:=λx=>s=x) h1 ha)).symm⟩
theorem ZfA (l:List Str) (hl:l.length<=9223372036854775807) (s:Str):CT Tryz.prog gl 81 [.g (.sl 1 (l.map ZbP)),.g (.str s)] (Is (.pb (s∈l))):=by
 refine enter hT hF hM Tryz.func81 rfl 9 rfl (by kernel_rfl) [.tmp 4] rfl [.g (.sl 1 (l.map ZbP)),.g (.str s)] rfl _ ?_;refine Zae (.inl rfl) (Zc2 l hl s) ⟨rfl,ZmY ?_⟩;rcases Zbx (λx=>s=x) l with ⟨h1,h2⟩ | ⟨i,hi,h1,h2,h3⟩
 ·rw[h1];exact ⟨λh=>absurd h (by decide),λh=>absurd rfl (h2 s h)⟩
 ·rw[h1];exact ⟨λ_=>by have h2:s=l[i]:=h2;rw[h2];exact Yah _,λ_=>by omega⟩
theorem Zb8 (s:Str) (hs:s.length<=9223372036854775807):CT Tryz.prog gl 79 [.g (.str s)] (Is (.pb (Zaw s))):=by refine enter hT hF hM Tryz.func79 rfl 11 rfl (by kernel_rfl) [.tmp 2] rfl [.g (.str s)] rfl _ ?_;refine Zae (.inl rfl) (Zw8 s hs) ⟨λh1=>?_,λh1=>⟨rfl,Zvg (λh=>h1 h.1)⟩⟩;refine ⟨ZBD.map ZbP,rfl,rfl,⟨rfl,rfl,rfl,rfl,rfl,rfl,rfl,rfl,rfl,rfl,trivial⟩,?_⟩;exact Zae (.inl rfl) (ZfA ZBD (by decide) s) ⟨rfl,Zyz ⟨λh=>⟨h1,h⟩,λh=>h.2⟩⟩
end ZN
namespace Barb
open Go Go.Dm Go.Eng
def Expr.k:Expr->Int | .mk k _ _ _ _=>k
def Expr.n:Expr->Int | .mk _ n _ _ _=>n
def Expr.of:Expr->Str | .mk _ _ of _ _=>of
def Expr.s:Expr->Str | .mk _ _ _ s _=>s
def Expr.args:Expr->List Expr | .mk _ _ _ _ a=>a
theorem Expr.g_eq (x:Expr):x.g=[.int x.k,.int x.n,.str x.of,.str x.s,.sl 5 (x.args.map Expr.g)]:=by
 cases x;rw[Expr.g,Expr.gs_map];rfl
abbrev Expr.d (x:Expr):List D:=[.g (.int x.k),.g (.int x.n),.g (.str x.of),.g (.str x.s),.g (.sl 5 (x.args.map Expr.g))]
theorem Expr.I.inv {x:Expr} (h:x.I):I64 x.k/\I64 x.n/\x.of.length<=9223372036854775807/\x.s.length<=9223372036854775807/\x.args.length*72<=140737488351232/\∀y∈x.args,Expr.I y:=by
 cases h with
 | mk h1 h2 h3 h4 h5 h6=>exact ⟨h1,h2,h3,h4,h5,h6⟩
def Stmt.k:Stmt->Int | .mk k _ _ _ _=>k
def Stmt.s:Stmt->Str | .mk _ s _ _ _=>s
def Stmt.xs:Stmt->List Expr | .mk _ _ x _ _=>x
def Stmt.b:Stmt->List Stmt | .mk _ _ _ b _=>b
def Stmt.e:Stmt->List Stmt | .mk _ _ _ _ e=>e
theorem Stmt.g_eq (x:Stmt):x.g=[.int x.k,.str x.s,.sl 5 (x.xs.map Expr.g),.sl 5 (x.b.map Stmt.g),.sl 5 (x.e.map Stmt.g)]:=by
 cases x;rw[Stmt.g,Expr.gs_map,Stmt.gs_map,Stmt.gs_map];rfl
abbrev Stmt.d (x:Stmt):List D:=[.g (.int x.k),.g (.str x.s),.g (.sl 5 (x.xs.map Expr.g)),.g (.sl 5 (x.b.map Stmt.g)),.g (.sl 5 (x.e.map Stmt.g))]
theorem Stmt.I.inv {x:Stmt} (h:x.I):I64 x.k/\x.s.length<=9223372036854775807/\x.xs.length*72<=140737488351232/\x.b.length*96<=140737488351232/\x.e.length*96<=140737488351232/\(∀y∈x.xs,Expr.I y)/\(∀y∈x.b,Stmt.I y)/\∀y∈x.e,Stmt.I y:=by
 cases h with
 | mk h1 h2 h3 h4 h5 h6 h7 h8=>exact ⟨h1,h2,h3,h4,h5,h6,h7,h8⟩
theorem ZhO (f:Nat) (x:Expr):ZaN (f+1) x=if ¬(1<=x.k/\x.k<=5) then 3 else if 4 < x.args.length then 1 else if ¬Zbp x.k x.n x.of x.s x.args.length then 4 else if ZaR x.k x.n then 2 else Zah (ZaN f) x.args:=by
 cases x;rfl
theorem Zjb (f:List Stmt->Int) (x:Stmt):ZcZ f x=if ¬(1<=x.k/\x.k<=6) then 3 else if ¬Zdr x.k x.s x.xs.length x.b.length x.e.length then 4 else if Zah (ZaN 12) x.xs≠0 then Zah (ZaN 12) x.xs else if f x.b≠0 then f x.b else f x.e:=by
 cases x;rfl
theorem ZsZ (f:List Stmt->Int) (x:Stmt):Zja f x=f x.b+f x.e:=by cases x;rfl
theorem ZqH {n:Int} {of s:Str} {m:Nat}:Zbp 1 n of s m↔of=[]/\s=[]/\m=0:=by simp[Zbp]
theorem ZqG {n:Int} {of s:Str} {m:Nat}:Zbp 2 n of s m↔of=[]/\Zaw s/\m=0/\n=0:=by simp[Zbp]
theorem Zl3 {n:Int} {of s:Str} {m:Nat}:Zbp 3 n of s m↔of=[]/\Zaw s/\m=1/\n=0:=by simp[Zbp]
theorem ZwJ {n:Int} {of s:Str} {m:Nat}:Zbp 4 n of s m↔(of=[]\/Zaw of)/\Zaw s/\n=0:=by simp[Zbp]
theorem Zl2 {n:Int} {of s:Str} {m:Nat}:Zbp 5 n of s m↔of=[]/\s=[]/\m=2:=by simp[Zbp]
end Barb
namespace ZN
open Go Go.Dm Go.Eng Barb
end ZN
namespace Barb
open Go Go.Dm Go.Eng
def Zeh (f:Nat) (l:List Stmt) (i:Nat):Int:=l.length+((l.take i).map (Zja (Zam f))).sum
theorem Zox {f:Nat} {l:List Stmt} {i:Nat} (h:i < l.length):Zeh f l (i+1)=Zeh f l i+(Zam f l[i].b+Zam f l[i].e):=by unfold Zeh;rw[Zay h,Yai,Ybq,<- ZsZ];simp;omega
def nOf (k:Int):Int:=if k=2 then 2 else 1
def Zq6 (k:Int) (s:Str) (nx:Nat):Prop:=¬((k<=2->Zaw s)/\(2 < k->s=[])/\(nx:Int)=nOf k)
def Zsj (k:Int) (nb ne:Nat):Prop:=¬((nb=0\/k=3\/k=4)/\(ne=0\/k=3))
theorem Zhn {k:Int} {s:Str} {nx nb ne:Nat}:Zdr k s nx nb ne↔¬Zq6 k s nx/\¬Zsj k nb ne:=by
 unfold Zdr Zq6 Zsj nOf;rw[Yam,Yam];constructor
 ·rintro ⟨⟨h1,h2,h3,h4⟩,h5⟩;refine ⟨⟨h1,h2,?_⟩,h5⟩;by_cases hk:k=2
  ·rw[if_pos hk,h3 hk];rfl
  ·rw[if_neg hk,h4 hk];rfl
 ·rintro ⟨⟨h1,h2,h3⟩,h5⟩;refine ⟨⟨h1,h2,λhk=>?_,λhk=>?_⟩,h5⟩
  ·rw[if_pos hk] at h3;omega
  ·rw[if_neg hk] at h3;omega
end Barb
namespace ZN
open Go Go.Dm Go.Eng Barb
end ZN
namespace Barb
open Go Go.Dm Go.Eng
abbrev Unit.d (u:Unit):List D:=[.g (.str u.name),.g (.sl 1 (u.vars.map ZbP)),.g (.sl 2 (u.arrays.map Arr.g)),.g (.sl 4 (u.funcs.map Fun.g))]
theorem Fun.g_eq (f:Fun):f.g=[.str f.name,.bool f.isOpen,.sl 1 (f.params.map ZbP),.sl 5 (f.body.map Stmt.g)]:=by rw[Fun.g,Stmt.gs_map]
abbrev Fun.d (f:Fun):List D:=[.g (.str f.name),.g (.bool f.isOpen),.g (.sl 1 (f.params.map ZbP)),.g (.sl 5 (f.body.map Stmt.g))]
theorem ZlC {s:Str} (h:Zaw s):ZdL s=0:=by unfold ZdL;rw[if_pos h]
theorem Zqf {s:Str} (h:¬Zaw s):ZdL s=4:=by unfold ZdL;rw[if_neg h]
theorem ZrJ {l:List Fun} {i:Nat} (h:i < l.length):Zdg (l.take (i+1))=Zdg (l.take i)+Zam 12 l[i].body:=by unfold Zdg;rw[Zay h,Yai,Ybq];simp
end Barb
namespace ZN
open Go Go.Dm Go.Eng Barb
theorem Zj6 (u:Barb.Unit) (h1:u.vars.length<=8) (h2:∀a∈u.arrays,1<=a.size/\a.size<=10) (h3:u.arrays.length<=3):CT Tryz.prog gl 39 [.agg u.d] (Is (.g (.int (Zap u)))):=by
 refine enter hT hF hM Tryz.func39 rfl 22 rfl (by kernel_rfl) [.tmp 2] rfl [.agg u.d] rfl _ ?_;refine ZaL (ι:=Nat) (λi=>[(12,.g (.int (i:Int))),(3,.g (.int (u.vars.length+sizes (u.arrays.take i)))),(1,.ptr 0 0)]) (λ_=>[.blk u.d 44]) (λi=>i<=u.arrays.length) (λi=>u.arrays.length - i)
  ⟨0,[.old 0],⟨rfl,.inl rfl,.inr ⟨lk rfl,lkI (by simp[sizes]),lk rfl,trivial⟩,rfl⟩,Yau _⟩ ?_
 intro Rd hRd i hi;refine ⟨λh5=>?_,λh5=>?_⟩
 ·have h6:i < u.arrays.length:=by simp at h5;omega
  have h7:=ZeC (l:=u.arrays.take i) (λa ha=>h2 a (YaH ha));have h8:=Zhq h6;have h9:=h2 _ (Yah h6);have h10:(u.arrays.take i).length<=3:=YaB (List.length_take_le' _ _) h3;refine ⟨i,_,rfl,gm h6,?_⟩;refine ⟨_,I64.wrap (by unfold I64;omega),?_⟩;refine ⟨_,I64.wrap (by unfold I64;omega),?_⟩;exact hRd _ _ _ ⟨i+1,[.old 0],⟨rfl,.inl rfl,.inr ⟨lk rfl,lkI (by omega),lk rfl,trivial⟩,rfl⟩,h6,by omega⟩
 ·have h6:i=u.arrays.length:=by simp at h5;omega
  exact ⟨rfl,ZbQ (by rw[h6,YaE];rfl)⟩
end ZN
