import Derived.Test.YtpjjkiidjofflaaGreatDoorRWd
import Derived.Test.YtpjjkiidjofflaaGreatDoorRDlib
import Derived.Test.YtpjjkiidjofflaaGreatDoorRDtypes
namespace Barb
open Go Go.Dm Go.Eng
def Za7 (n many:Int):Int:=(if n < 0 then -(n+1) else n) % many
theorem Zbp (n:Int) {many:Nat} (hm:0 < many):∃k:Nat,Za7 n many=(k:Int)/\k < many:=by have h1:=Int.emod_nonneg (if n < 0 then -(n+1) else n) (show ((many:Nat):Int)≠0 by omega);have h2:=Int.emod_lt_of_pos (if n < 0 then -(n+1) else n) (show (0:Int) < ((many:Nat):Int) by omega);exact ⟨(Za7 n many).toNat,by unfold Za7;omega,by unfold Za7;omega⟩
theorem Zcf (n:Int) {many:Int} (hm:0 < many):0<=Za7 n many/\Za7 n many < many :=
 ⟨Int.emod_nonneg _ (by omega),Int.emod_lt_of_pos _ hm⟩
structure Raw where
 kind:Int
 a:Int
 b:Int
 c:Int
def Raw.g (r:Raw):List GV:=[.int r.kind,.int r.a,.int r.b,.int r.c]
def Raw.I (r:Raw):Prop:=I64 r.kind/\I64 r.a/\I64 r.b/\I64 r.c
end Barb
namespace Go.Proofs.YtpjjkiidjofflaaGreatDoor
open Go Go.Dm Go.Eng Barb
theorem ZaP (n many:Int) (hn:I64 n) (hm:0 < many):CT Tryz.prog gl 17 [.g (.int n),.g (.int many)] (Is (.g (.int (Za7 n many)))):=by
 refine enter hT hF hM Tryz.func17 rfl 13 rfl (by kernel_rfl) [.tmp 4] rfl [.g (.int n),.g (.int many)] rfl _ ?_;unfold I64 at hn;refine ⟨λh=>?_,λh=>?_⟩
 ·refine ⟨_,I64.wrap (by unfold I64;omega),by unfold I64;omega,by omega,rfl,ZbH ?_⟩;rw[Int.tmod_eq_emod_of_nonneg (by omega)];unfold Za7;rw[if_pos h]
  congr 1
  omega
 ·refine ⟨by omega,rfl,ZbH ?_⟩;rw[Int.tmod_eq_emod_of_nonneg (by omega)];unfold Za7;rw[if_neg h]
theorem cells_Raw:Tryz.prog.cellsOf 24=4:=by kernel_rfl
theorem bytes_Raw:Tryz.prog.bytesOf 24=32:=by kernel_rfl
theorem dec_Raw {f:Nat} {r:List GV} (h:Zdg Tryz.prog f 24 r):∃i:Raw,r=i.g/\i.I:=by
 obtain ⟨hl,hf⟩:=dec_fields Tryz.underlying24 h
 match r,hl with
 | [g0,g1,g2,g3],_ =>obtain ⟨n0,rfl,h0⟩:=dec_int (hf 0 _ g0 rfl rfl);obtain ⟨n1,rfl,h1⟩:=dec_int (hf 1 _ g1 rfl rfl);obtain ⟨n2,rfl,h2⟩:=dec_int (hf 2 _ g2 rfl rfl);obtain ⟨n3,rfl,h3⟩:=dec_int (hf 3 _ g3 rfl rfl);exact ⟨⟨n0,n1,n2,n3⟩,rfl,h0,h1,h2,h3⟩
theorem dec_Raws {f:Nat} {g:GV} (h:Zbt Tryz.prog f 22 g):∃l,g=.sl 4 (List.map Raw.g l)/\(∀x∈l,Raw.I x)/\l.length*32<=140737488351232 :=
 dec_list Tryz.underlying22 cells_Raw bytes_Raw h (λ_ _ h=>dec_Raw h)
end Go.Proofs.YtpjjkiidjofflaaGreatDoor
namespace Go.Dm
open Go Go.Eng Go.RowKit
theorem retNilRow {Q:Out->Prop} {h:Zad} {e sz:Nat} (hs:Zdt [.nil e sz]=true) (q:Q (.ret (.row 0) [.row [] e sz])):Zbv Q h .nils :=
 ⟨[.nil e sz],.row 0,[.row [] e sz],⟨hs,.inl rfl,.inr ⟨.inr rfl,trivial⟩,rfl⟩,q⟩
end Go.Dm
namespace Go.Proofs.YtpjjkiidjofflaaGreatDoor
open Go Go.Dm Go.Eng Barb
def RowIs (xs:List (List GV)) (e:TypeId) (sz:Nat):Out->Prop:=λo=>o=.ret (.row 0) [.row xs e sz]
theorem Zfh (xs:List (List GV)) (hx:xs.length*8<=140737488351232):CT Tryz.prog gl 24 [.g (.sl 1 xs)] (RowIs xs 3 1):=by refine enter hT hF hM Tryz.func24 rfl 8 rfl (by kernel_rfl) [.tmp 2] rfl [.g (.sl 1 xs)] rfl _ ?_;intro p hp;refine ⟨λh=>⟨rfl,retNilRow rfl (by rw[hp h];rfl)⟩,λh=>?_⟩;refine ⟨[],rfl,rfl,trivial,?_⟩;refine ⟨⟨by simp only[maxLen,List.length_nil];omega,by simp only[List.length_nil];omega⟩,?_⟩;exact ⟨rfl,retRow (ys:=xs) rfl rfl rfl⟩
end Go.Proofs.YtpjjkiidjofflaaGreatDoor
namespace Barb
open Go Go.Dm Go.Eng
noncomputable instance (priority:=10) propDec (p:Prop):Decidable p:=Classical.propDecidable p
def lowc (c:UInt8):Prop:=97<=c.toNat/\c.toNat<=122
def digc (c:UInt8):Prop:=48<=c.toNat/\c.toNat<=57
def chrOk (s:Str) (j:Nat) (hj:j < s.length):Prop:=lowc s[j]\/(j≠0/\digc s[j])
def wordP (s:Str):Prop:=(1<=s.length/\s.length<=8)/\∀j (hj:j < s.length),chrOk s j hj
def keys:List Str:=[[117,110,105,116],[118,97,114],[97,114,114,97,121],[102,117,110,99],[111,112,101,110],[105,102],[101,108,115,101],[119,104,105,108,101],[114,101,116,117,114,110],[115,97,121]]
def Zas (s:Str):Prop:=wordP s/\s ∉ keys
def Zbj (k n:Int) (of s:Str) (m:Nat):Prop :=
 (k=1/\of=[]/\s=[]/\m=0)\/(k=2/\of=[]/\Zas s/\m=0/\n=0)\/(k=3/\of=[]/\Zas s/\m=1/\n=0)\/(k=4/\(of=[]\/Zas of)/\Zas s/\n=0)\/(k=5/\of=[]/\s=[]/\m=2)
def ZaN (k n:Int):Prop:=(k=1/\¬(0<=n/\n<=65535))\/(k=5/\¬(1<=n/\n<=10))
noncomputable def ZaH:Nat->Expr->Int
 | 0,_=>1
 | f+1,.mk k n of s args=>if ¬(1<=k/\k<=5) then 3 else if 4 < args.length then 1 else if ¬Zbj k n of s args.length then 4 else if ZaN k n then 2 else Zag (ZaH f) args
def Zdd (k:Int) (s:Str) (nx nb ne:Nat):Prop :=
 ((k<=2->Zas s)/\(2 < k->s=[])/\(k=2->nx=2)/\(k≠2->nx=1))/\(nb=0\/k=3\/k=4)/\(ne=0\/k=3)
noncomputable def ZcJ (f:List Stmt->Int):Stmt->Int
 | .mk k s xs b e=>if ¬(1<=k/\k<=6) then 3 else if ¬Zdd k s xs.length b.length e.length then 4 else if Zag (ZaH 12) xs≠0 then Zag (ZaH 12) xs else if f b≠0 then f b else f e
noncomputable def Zan:Nat->List Stmt->Int
 | 0,_=>1
 | f+1,l=>Zag (ZcJ (Zan f)) l
def Zix (f:List Stmt->Int):Stmt->Int
 | .mk _ _ _ b e=>f b+f e
def Zak:Nat->List Stmt->Int
 | 0,_=>0
 | f+1,l=>l.length+(l.map (Zix (Zak f))).sum
noncomputable def arrE (a:Arr):Int:=if ¬Zas a.name then 4 else if ¬(1<=a.size/\a.size<=10) then 2 else 0
noncomputable def Zdx (s:Str):Int:=if Zas s then 0 else 4
noncomputable def funE (f:Fun):Int:=if ¬Zas f.name then 4 else if 4 < f.params.length then 1 else if Zag Zdx f.params≠0 then Zag Zdx f.params else Zan 12 f.body
def Zc0 (l:List Fun):Int:=(l.map λf=>Zak 12 f.body).sum
noncomputable def Zb7 (u:Unit):Int :=
 if ¬Zas u.name then 4 else if 8 < u.vars.length\/3 < u.arrays.length\/8 < u.funcs.length then 1
 else if Zag Zdx u.vars≠0 then Zag Zdx u.vars else if Zag arrE u.arrays≠0 then Zag arrE u.arrays else if Zag funE u.funcs≠0 then Zag funE u.funcs
 else if 300 < IntKind.i64.wrap (Zc0 u.funcs) then 1 else 0
def sizes (l:List Arr):Int:=(l.map Arr.size).sum
def Zao (u:Unit):Int:=u.vars.length+sizes u.arrays
theorem ZgV {l:List Arr} {i:Nat} (h:i < l.length):sizes (l.take (i+1))=sizes (l.take i)+l[i].size:=by unfold sizes;rw[Zav h,List.map_append,List.sum_append];simp
theorem Zen {l:List Arr} (h:∀a∈l,1<=a.size/\a.size<=10):0<=sizes l/\sizes l<=10*l.length:=by
 induction l with
 | nil=>simp[sizes]
 | cons a l ih =>have:=h a List.mem_cons_self;have:=ih (λb hb=>h b (List.mem_cons_of_mem _ hb));simp only[sizes,List.map_cons,List.sum_cons,List.length_cons] at this ⊢;omega
theorem Zai {α:Type} {f:α->Int}:∀{l:List α},Zag f l=0->∀x∈l,f x=0
 | [],_,x,hx=>by simp at hx
 | y :: l,h,x,hx=>by
  simp only[Zag] at h
  by_cases h0:f y=0
  ·rw[if_pos h0] at h
   rcases List.mem_cons.1 hx with rfl | hx
   ·exact h0
   ·exact Zai h x hx
  ·rw[if_neg h0] at h;exact absurd h h0
theorem ZhV {u:Unit} (h:Zb7 u=0):u.vars.length<=8/\u.arrays.length<=3/\u.funcs.length<=8/\∀a∈u.arrays,1<=a.size/\a.size<=10:=by
 unfold Zb7 at h
 by_cases h1:Zas u.name
 ·rw[if_neg (by simpa using h1)] at h
  by_cases h2:8 < u.vars.length\/3 < u.arrays.length\/8 < u.funcs.length
  ·rw[if_pos h2] at h;omega
  ·rw[if_neg h2] at h
   by_cases h3:Zag Zdx u.vars≠0
   ·rw[if_pos h3] at h;exact absurd h h3
   ·rw[if_neg h3] at h
    by_cases h4:Zag arrE u.arrays≠0
    ·rw[if_pos h4] at h;exact absurd h h4
    ·refine ⟨by omega,by omega,by omega,λa ha=>?_⟩;have:=Zai (Classical.not_not.1 h4) a ha;unfold arrE at this
     by_cases h5:Zas a.name
     ·rw[if_neg (by simpa using h5)] at this
      by_cases h6:1<=a.size/\a.size<=10
      ·exact h6
      ·rw[if_pos h6] at this;omega
     ·rw[if_pos h5] at this;omega
 ·rw[if_pos h1] at h;omega
theorem wrap_def (a:Int):IntKind.i64.wrap a=if 9223372036854775808<=a % 18446744073709551616 then a % 18446744073709551616 - 18446744073709551616 else a % 18446744073709551616:=by simp[IntKind.wrap,IntKind.signed,IntKind.bits]
theorem ZhT (a b:Int):IntKind.i64.wrap (IntKind.i64.wrap a+b)=IntKind.i64.wrap (a+b):=by rw[wrap_def,wrap_def,wrap_def];omega
theorem Zil (a b:Int):IntKind.i64.wrap (a+IntKind.i64.wrap b)=IntKind.i64.wrap (a+b):=by rw[Int.add_comm,ZhT,Int.add_comm]
end Barb
namespace Barb
open Go Go.Dm Go.Eng
noncomputable def ZbV {α:Type} (q:α->Prop):List α->Nat->Int
 | [],_=>-1
 | x :: l,i=>if q x then (i:Int) else ZbV q l (i+1)
noncomputable def idx {α:Type} (q:α->Prop) (l:List α):Int:=ZbV q l 0
theorem idxFrom_at {α:Type} {q:α->Prop}:∀{l:List α} {i0 i:Nat} (hi:i < l.length),(∀j (hj:j < l.length),j < i->¬q l[j])->q l[i]->ZbV q l i0=((i0+i:Nat):Int)
 | [],_,i,hi,_,_=>by simp at hi
 | x :: l,i0,0,hi,_,h1=>by simp only[ZbV];rw[if_pos (by simpa using h1)];simp
 | x :: l,i0,i+1,hi,h,h1=>by
  simp only[ZbV];rw[if_neg (show ¬q x from h 0 (by simp) (by omega)),idxFrom_at (l:=l) (i:=i) (by simpa using hi) (λj hj hji=>h (j+1) (by simpa using hj) (by omega)) (by simpa using h1)]
  congr 1;omega
theorem idxFrom_no {α:Type} {q:α->Prop}:∀{l:List α} {i0:Nat},(∀x∈l,¬q x)->ZbV q l i0=-1
 | [],_,_=>rfl
 | x :: l,i0,h=>by simp only[ZbV];rw[if_neg (h x List.mem_cons_self)];exact idxFrom_no (λy hy=>h y (List.mem_cons_of_mem _ hy))
theorem ZfN {α:Type} {q:α->Prop} {l:List α} {i:Nat} (hi:i < l.length) (h:∀j (hj:j < l.length),j < i->¬q l[j]) (h1:q l[i]):idx q l=(i:Int):=by unfold idx;rw[idxFrom_at hi h h1];simp
theorem ZfM {α:Type} {q:α->Prop} {l:List α} (h:∀x∈l,¬q x):idx q l=-1:=idxFrom_no h
theorem ZgD {α:Type} (q:α->Prop):∀(l:List α) (i0:Nat),(ZbV q l i0=-1/\∀x∈l,¬q x)\/∃(i:Nat) (hi:i < l.length),ZbV q l i0=((i0+i:Nat):Int)/\q l[i]/\∀j (hj:j < l.length),j < i->¬q l[j]
 | [],_=>.inl ⟨rfl,λx hx=>by simp at hx⟩
 | x :: l,i0=>by
  by_cases hx:q x
  ·exact .inr ⟨0,by simp,by simp only[ZbV];rw[if_pos hx];simp,by simpa using hx,λj hj hji=>absurd hji (by omega)⟩
  ·rcases ZgD q l (i0+1) with ⟨h1,h2⟩ | ⟨i,hi,h1,h2,h3⟩
   ·refine .inl ⟨by simp only[ZbV];rw[if_neg hx];exact h1,λy hy=>?_⟩
    rcases List.mem_cons.1 hy with rfl | hy
    ·exact hx
    ·exact h2 y hy
   ·refine .inr ⟨i+1,by simpa using hi,by simp only[ZbV];rw[if_neg hx,h1];congr 1;omega,by simpa using h2,λj hj hji=>?_⟩
    cases j with
    | zero=>simpa using hx
    | succ j=>simpa using h3 j (by simpa using hj) (by omega)
theorem Zbr {α:Type} (q:α->Prop) (l:List α):(idx q l=-1/\∀x∈l,¬q x)\/∃(i:Nat) (hi:i < l.length),idx q l=(i:Int)/\q l[i]/\∀j (hj:j < l.length),j < i->¬q l[j]:=by
 rcases ZgD q l 0 with h | ⟨i,hi,h1,h2,h3⟩
 ·exact .inl h
 ·exact .inr ⟨i,hi,by unfold idx;rw[h1];simp,h2,h3⟩
noncomputable def Za5 (p:List Unit) (name:Str):Int:=idx (λu:Unit=>u.name=name) p
noncomputable def ZbA (u:Unit) (name:Str):Int:=idx (λf:Fun=>f.name=name) u.funcs
def Zis (u:Unit) (f:Fun) (name:Str):Prop:=name∈f.params\/name∈u.vars
def Zij (u:Unit) (name:Str):Prop:=∃a∈u.arrays,a.name=name
noncomputable def calledIn (to:Unit) (of s:Str) (m:Nat):Int :=
 match to.funcs.find? (λf=>decide (f.name=s)) with
 | none=>5
 | some g=>if of≠[]/\g.isOpen=false then 5 else if g.params.length≠m then 7 else 0
noncomputable def ZaW (p:List Unit) (u:Unit) (of s:Str) (m:Nat):Int :=
 if of=[] then calledIn u of s m else match p.find? (λv=>decide (v.name=of)) with
  | none=>5
  | some v=>calledIn v of s m
noncomputable def Za0 (p:List Unit) (u:Unit) (f:Fun) (k:Int) (of s:Str) (m:Nat):Int :=
 if (k=2/\¬Zis u f s)\/(k=3/\¬Zij u s) then 5 else if k=4 then ZaW p u of s m else 0
mutual
noncomputable def Zbz (p:List Unit) (u:Unit) (f:Fun):Expr->Int
 | .mk k _ of s args=>if Za0 p u f k of s args.length≠0 then Za0 p u f k of s args.length else ZdO p u f args
noncomputable def ZdO (p:List Unit) (u:Unit) (f:Fun):List Expr->Int
 | []=>0
 | x :: l=>if Zbz p u f x=0 then ZdO p u f l else Zbz p u f x
end
theorem ZbC (p:List Unit) (u:Unit) (f:Fun):∀l,ZdO p u f l=Zag (Zbz p u f) l
 | []=>rfl
 | x :: l=>by simp only[ZdO,Zag,ZbC p u f l]
mutual
noncomputable def ZdF (p:List Unit) (u:Unit) (f:Fun):Stmt->Int
 | .mk k s xs b e=>if (k=1/\¬Zis u f s)\/(k=2/\¬Zij u s) then 5 else if ZdO p u f xs≠0 then ZdO p u f xs else if Zbb p u f b≠0 then Zbb p u f b else Zbb p u f e
noncomputable def Zbb (p:List Unit) (u:Unit) (f:Fun):List Stmt->Int
 | []=>0
 | x :: l=>if ZdF p u f x=0 then Zbb p u f l else ZdF p u f x
end
theorem ZaO (p:List Unit) (u:Unit) (f:Fun):∀l,Zbb p u f l=Zag (ZdF p u f) l
 | []=>rfl
 | x :: l=>by simp only[Zbb,Zag,ZaO p u f l]
def dupP (l:List Str):Prop:=∃j,∃hj:j < l.length,l[j]∈l.take j
noncomputable def funS (p:List Unit) (u:Unit) (f:Fun):Int:=if dupP f.params then 6 else Zbb p u f f.body
noncomputable def ZfR (p:List Unit) (u:Unit):Int :=
 if dupP (u.vars++u.arrays.map Arr.name)\/dupP (u.funcs.map Fun.name) then 6 else Zag (funS p u) u.funcs
def Zaj (p:List Unit):Int:=(p.map Zao).sum
noncomputable def Za8 (p:List Unit):Int :=
 if 5 < p.length then 1 else if Zag Zb7 p≠0 then Zag Zb7 p else if dupP (p.map Unit.name) then 6 else if 250 < Zaj p then 1 else Zag (ZfR p) p
end Barb
namespace Go.Proofs.YtpjjkiidjofflaaGreatDoor
open Go Go.Dm Go.Eng Barb
theorem small_any (c:UInt8):CT Tryz.prog gl 101 [.g (.u8 (c.toNat:Int))] (Is (.pb (lowc c))):=by refine enter hT hF hM Tryz.func101 rfl 9 rfl (by kernel_rfl) [.tmp 2] rfl [.g (.u8 (c.toNat:Int))] rfl _ ?_;exact ⟨λh1=>⟨rfl,retP ⟨λh=>⟨by omega,by omega⟩,λh=>by have:=h.2;omega⟩⟩,λh1=>⟨rfl,retF (λh=>h1 (by have:=h.1;omega))⟩⟩
theorem digit_any (c:UInt8):CT Tryz.prog gl 104 [.g (.u8 (c.toNat:Int))] (Is (.pb (digc c))):=by refine enter hT hF hM Tryz.func104 rfl 9 rfl (by kernel_rfl) [.tmp 2] rfl [.g (.u8 (c.toNat:Int))] rfl _ ?_;exact ⟨λh1=>⟨rfl,retP ⟨λh=>⟨by omega,by omega⟩,λh=>by have:=h.2;omega⟩⟩,λh1=>⟨rfl,retF (λh=>h1 (by have:=h.1;omega))⟩⟩
def oddc (c:UInt8):Prop:=¬lowc c/\¬digc c
theorem odd_any (c:UInt8):CT Tryz.prog gl 103 [.g (.u8 (c.toNat:Int))] (Is (.pb (oddc c))):=by refine enter hT hF hM Tryz.func103 rfl 11 rfl (by kernel_rfl) [.tmp 2] rfl [.g (.u8 (c.toNat:Int))] rfl _ ?_;refine Zae (.inl rfl) (small_any c) ?_;refine ⟨λh=>Zae (.inl rfl) (digit_any c) ⟨rfl,retN ⟨λk=>⟨h,k⟩,λk=>k.2⟩⟩,λh=>⟨rfl,retF (λk=>k.1 h)⟩⟩
theorem idxByte_any (s:Str) (hs:s.length<=9223372036854775807):CT Tryz.prog gl 110 [.g (.sl 1 (ZeK s)),.fn 103 [] []] (Is (.g (.int (idx oddc s)))):=by
 refine enter hT hF hM Tryz.func110 rfl 19 rfl (by kernel_rfl) [.tmp 4] rfl [.g (.sl 1 (ZeK s)),.fn 103 [] []] rfl _ ?_;refine ZaM (ι:=Nat) (λi=>[(8,.g (.int (i:Int)))]) (λ_=>[]) (λi=>i<=s.length/\∀j (hj:j < s.length),j < i->¬oddc s[j]) (λi=>s.length - i)
  ⟨0,[],⟨rfl,.inl rfl,.inr ⟨lk rfl,trivial⟩,rfl⟩,Nat.zero_le _,ZgN⟩ ?_
 intro Rd hRd i ⟨hi,ha⟩;refine ⟨λh=>?_,λh=>?_⟩
 ·have h1:i < s.length:=by simp[ZeK] at h;omega
  refine ⟨i,_,rfl,gm h1,?_⟩;refine Zae (.inl rfl) (odd_any s[i]) ?_;refine ⟨λh2=>⟨rfl,ZbH (ZfN h1 ha h2).symm⟩,λh2=>⟨_,I64.wrap (by unfold I64;omega),?_⟩⟩;exact hRd _ _ _ ⟨i+1,[],⟨rfl,.inl rfl,.inr ⟨lk rfl,trivial⟩,rfl⟩,⟨h1,ZcE h1 ha h2⟩,by omega⟩
 ·have h1:s.length<=i:=by simp[ZeK] at h;omega
  exact ⟨rfl,ZbH (ZfM (Zdj h1 ha)).symm⟩
theorem hasByte_any (s:Str) (hs:s.length<=9223372036854775807):CT Tryz.prog gl 102 [.g (.sl 1 (ZeK s)),.fn 103 [] []] (Is (.pb (∃c∈s,oddc c))):=by
 refine enter hT hF hM Tryz.func102 rfl 9 rfl (by kernel_rfl) [.tmp 4] rfl [.g (.sl 1 (ZeK s)),.fn 103 [] []] rfl _ ?_;refine Zae (.inl rfl) (idxByte_any s hs) ⟨rfl,retP ?_⟩
 rcases Zbr oddc s with ⟨h1,h2⟩ | ⟨i,hi,h1,h2,h3⟩
 ·rw[h1];exact ⟨λh=>absurd h (by decide),λ⟨c,hc,ho⟩=>absurd ho (h2 c hc)⟩
 ·rw[h1];exact ⟨λ_=>⟨s[i],List.getElem_mem _,h2⟩,λ_=>by omega⟩
theorem wordP_iff (s:Str) (h0:s≠[]) (h8:s.length<=8):wordP s↔lowc (s[0]'(List.length_pos_iff.2 h0))/\¬∃c∈s,oddc c:=by
 constructor
 ·rintro ⟨_,h⟩
  refine ⟨?_,λ⟨c,hc,ho⟩=>?_⟩
  ·rcases h 0 (List.length_pos_iff.2 h0) with h | h
   ·exact h
   ·exact absurd rfl h.1
  ·obtain ⟨i,hi,rfl⟩:=List.getElem_of_mem hc
   rcases h i hi with h | h
   ·exact ho.1 h
   ·exact ho.2 h.2
 ·rintro ⟨h1,h2⟩
  refine ⟨⟨List.length_pos_iff.2 h0,h8⟩,λj hj=>?_⟩
  by_cases hl:lowc s[j]
  ·exact .inl hl
  ·refine .inr ⟨λe=>?_,?_⟩
   ·subst e;exact hl h1
   ·exact Classical.not_not.1 (λhd=>h2 ⟨s[j],List.getElem_mem _,hl,hd⟩)
theorem Word_any (s:Str) (hs:s.length<=9223372036854775807):CT Tryz.prog gl 91 [.g (.str s)] (Is (.pb (wordP s))):=by
 refine enter hT hF hM Tryz.func91 rfl 21 rfl (by kernel_rfl) [.tmp 2] rfl [.g (.str s)] rfl _ ?_;refine ⟨λh1=>⟨λh2=>?_,λh2=>⟨rfl,retF (λh=>h2 (by have:=h.1.2;omega))⟩⟩,λh1=>⟨rfl,retF (λh=>by have h1:s=[]:=h1;subst h1;exact absurd h.1.1 (by decide))⟩⟩;have h8:s.length<=8:=by omega
 have h1:s≠[]:=h1;have hw:=wordP_iff s h1 h8;have hp:=List.length_pos_iff.2 h1;refine ⟨0,s[0],rfl,ge hp,?_⟩;refine Zae (.inl rfl) (small_any _) ⟨λh3=>?_,λh3=>⟨rfl,retF (λh=>h3 (hw.1 h).1)⟩⟩;exact Zae (.inl rfl) (hasByte_any s hs) ⟨rfl,retN ⟨λh=>hw.2 ⟨h3,h⟩,λh=>(hw.1 h).2⟩⟩
theorem ZcN (l:List Str) (hl:l.length<=9223372036854775807) (s:Str):CT Tryz.prog gl 87 [.g (.sl 1 (l.map ZbG)),.g (.str s)] (Is (.g (.int (idx (λx=>s=x) l)))):=by
 refine enter hT hF hM Tryz.func87 rfl 19 rfl (by kernel_rfl) [.tmp 4] rfl [.g (.sl 1 (l.map ZbG)),.g (.str s)] rfl _ ?_;refine ZaM (ι:=Nat) (λi=>[(8,.g (.int (i:Int)))]) (λ_=>[]) (λi=>i<=l.length/\∀j (hj:j < l.length),j < i->¬s=l[j]) (λi=>l.length - i)
  ⟨0,[],⟨rfl,.inl rfl,.inr ⟨lk rfl,trivial⟩,rfl⟩,Nat.zero_le _,ZgN (q:=λx=>s=x)⟩ ?_
 intro Rd hRd i ⟨hi,ha⟩;refine ⟨λh=>?_,λh=>?_⟩
 ·have h1:i < l.length:=by simp at h;omega
  refine ⟨i,_,rfl,gm h1,?_⟩;refine ⟨λh2=>⟨rfl,ZbH (ZfN (q:=λx=>s=x) h1 ha h2).symm⟩,λh2=>⟨_,I64.wrap (by unfold I64;omega),?_⟩⟩;exact hRd _ _ _ ⟨i+1,[],⟨rfl,.inl rfl,.inr ⟨lk rfl,trivial⟩,rfl⟩,⟨h1,ZcE (q:=λx=>s=x) h1 ha h2⟩,by omega⟩
 ·have h1:l.length<=i:=by simp at h;omega
  exact ⟨rfl,ZbH (ZfM (Zdj (q:=λx=>s=x) h1 ha)).symm⟩
theorem Zfj (l:List Str) (hl:l.length<=9223372036854775807) (s:Str):CT Tryz.prog gl 81 [.g (.sl 1 (l.map ZbG)),.g (.str s)] (Is (.pb (s∈l))):=by
 refine enter hT hF hM Tryz.func81 rfl 9 rfl (by kernel_rfl) [.tmp 4] rfl [.g (.sl 1 (l.map ZbG)),.g (.str s)] rfl _ ?_;refine Zae (.inl rfl) (ZcN l hl s) ⟨rfl,retP ?_⟩
 rcases Zbr (λx=>s=x) l with ⟨h1,h2⟩ | ⟨i,hi,h1,h2,h3⟩
 ·rw[h1];exact ⟨λh=>absurd h (by decide),λh=>absurd rfl (h2 s h)⟩
 ·rw[h1];exact ⟨λ_=>by have h2:s=l[i]:=h2;rw[h2];exact List.getElem_mem _,λ_=>by omega⟩
theorem ZbZ (s:Str) (hs:s.length<=9223372036854775807):CT Tryz.prog gl 79 [.g (.str s)] (Is (.pb (Zas s))):=by refine enter hT hF hM Tryz.func79 rfl 11 rfl (by kernel_rfl) [.tmp 2] rfl [.g (.str s)] rfl _ ?_;refine Zae (.inl rfl) (Word_any s hs) ⟨λh1=>?_,λh1=>⟨rfl,retF (λh=>h1 h.1)⟩⟩;refine ⟨keys.map ZbG,rfl,rfl,⟨rfl,rfl,rfl,rfl,rfl,rfl,rfl,rfl,rfl,rfl,trivial⟩,?_⟩;exact Zae (.inl rfl) (Zfj keys (by decide) s) ⟨rfl,retN ⟨λh=>⟨h1,h⟩,λh=>h.2⟩⟩
end Go.Proofs.YtpjjkiidjofflaaGreatDoor
namespace Barb
open Go Go.Dm Go.Eng
def Expr.k:Expr->Int | .mk k _ _ _ _=>k
def Expr.n:Expr->Int | .mk _ n _ _ _=>n
def Expr.of:Expr->Str | .mk _ _ of _ _=>of
def Expr.s:Expr->Str | .mk _ _ _ s _=>s
def Expr.args:Expr->List Expr | .mk _ _ _ _ a=>a
theorem Expr.g_eq (x:Expr):x.g=[.int x.k,.int x.n,.str x.of,.str x.s,.sl 5 (x.args.map Expr.g)]:=by
 cases x;rw[Expr.g,Expr.gs_map];rfl
abbrev Expr.d (x:Expr):List D:=[.g (.int x.k),.g (.int x.n),.g (.str x.of),.g (.str x.s),.g (.sl 5 (x.args.map Expr.g))]
theorem Expr.I.inv {x:Expr} (h:x.I):I64 x.k/\I64 x.n/\x.of.length<=9223372036854775807/\x.s.length<=9223372036854775807/\x.args.length*72<=140737488351232/\∀y∈x.args,Expr.I y:=by
 cases h with
 | mk h1 h2 h3 h4 h5 h6=>exact ⟨h1,h2,h3,h4,h5,h6⟩
def Stmt.k:Stmt->Int | .mk k _ _ _ _=>k
def Stmt.s:Stmt->Str | .mk _ s _ _ _=>s
def Stmt.xs:Stmt->List Expr | .mk _ _ x _ _=>x
def Stmt.b:Stmt->List Stmt | .mk _ _ _ b _=>b
def Stmt.e:Stmt->List Stmt | .mk _ _ _ _ e=>e
theorem Stmt.g_eq (x:Stmt):x.g=[.int x.k,.str x.s,.sl 5 (x.xs.map Expr.g),.sl 5 (x.b.map Stmt.g),.sl 5 (x.e.map Stmt.g)]:=by
 cases x;rw[Stmt.g,Expr.gs_map,Stmt.gs_map,Stmt.gs_map];rfl
abbrev Stmt.d (x:Stmt):List D:=[.g (.int x.k),.g (.str x.s),.g (.sl 5 (x.xs.map Expr.g)),.g (.sl 5 (x.b.map Stmt.g)),.g (.sl 5 (x.e.map Stmt.g))]
theorem Stmt.I.inv {x:Stmt} (h:x.I):I64 x.k/\x.s.length<=9223372036854775807/\x.xs.length*72<=140737488351232/\x.b.length*96<=140737488351232/\x.e.length*96<=140737488351232/\(∀y∈x.xs,Expr.I y)/\(∀y∈x.b,Stmt.I y)/\∀y∈x.e,Stmt.I y:=by
 cases h with
 | mk h1 h2 h3 h4 h5 h6 h7 h8=>exact ⟨h1,h2,h3,h4,h5,h6,h7,h8⟩
theorem Zhj (f:Nat) (x:Expr):ZaH (f+1) x=if ¬(1<=x.k/\x.k<=5) then 3 else if 4 < x.args.length then 1 else if ¬Zbj x.k x.n x.of x.s x.args.length then 4 else if ZaN x.k x.n then 2 else Zag (ZaH f) x.args:=by
 cases x;rfl
theorem Ziy (f:List Stmt->Int) (x:Stmt):ZcJ f x=if ¬(1<=x.k/\x.k<=6) then 3 else if ¬Zdd x.k x.s x.xs.length x.b.length x.e.length then 4 else if Zag (ZaH 12) x.xs≠0 then Zag (ZaH 12) x.xs else if f x.b≠0 then f x.b else f x.e:=by
 cases x;rfl
theorem stmtN1_eq (f:List Stmt->Int) (x:Stmt):Zix f x=f x.b+f x.e:=by cases x;rfl
theorem exprOk_1 {n:Int} {of s:Str} {m:Nat}:Zbj 1 n of s m↔of=[]/\s=[]/\m=0:=by simp[Zbj]
theorem exprOk_2 {n:Int} {of s:Str} {m:Nat}:Zbj 2 n of s m↔of=[]/\Zas s/\m=0/\n=0:=by simp[Zbj]
theorem exprOk_3 {n:Int} {of s:Str} {m:Nat}:Zbj 3 n of s m↔of=[]/\Zas s/\m=1/\n=0:=by simp[Zbj]
theorem exprOk_4 {n:Int} {of s:Str} {m:Nat}:Zbj 4 n of s m↔(of=[]\/Zas of)/\Zas s/\n=0:=by simp[Zbj]
theorem exprOk_5 {n:Int} {of s:Str} {m:Nat}:Zbj 5 n of s m↔of=[]/\s=[]/\m=2:=by simp[Zbj]
end Barb
namespace Go.Proofs.YtpjjkiidjofflaaGreatDoor
open Go Go.Dm Go.Eng Barb
end Go.Proofs.YtpjjkiidjofflaaGreatDoor
namespace Barb
open Go Go.Dm Go.Eng
def Zd2 (f:Nat) (l:List Stmt) (i:Nat):Int:=l.length+((l.take i).map (Zix (Zak f))).sum
theorem sumAtF_succ {f:Nat} {l:List Stmt} {i:Nat} (h:i < l.length):Zd2 f l (i+1)=Zd2 f l i+(Zak f l[i].b+Zak f l[i].e):=by unfold Zd2;rw[Zav h,List.map_append,List.sum_append,<- stmtN1_eq];simp;omega
def nOf (k:Int):Int:=if k=2 then 2 else 1
def bad1 (k:Int) (s:Str) (nx:Nat):Prop:=¬((k<=2->Zas s)/\(2 < k->s=[])/\(nx:Int)=nOf k)
def bad2 (k:Int) (nb ne:Nat):Prop:=¬((nb=0\/k=3\/k=4)/\(ne=0\/k=3))
theorem ZgT {k:Int} {s:Str} {nx nb ne:Nat}:Zdd k s nx nb ne↔¬bad1 k s nx/\¬bad2 k nb ne:=by
 unfold Zdd bad1 bad2 nOf;rw[Classical.not_not,Classical.not_not]
 constructor
 ·rintro ⟨⟨h1,h2,h3,h4⟩,h5⟩
  refine ⟨⟨h1,h2,?_⟩,h5⟩
  by_cases hk:k=2
  ·rw[if_pos hk,h3 hk];rfl
  ·rw[if_neg hk,h4 hk];rfl
 ·rintro ⟨⟨h1,h2,h3⟩,h5⟩
  refine ⟨⟨h1,h2,λhk=>?_,λhk=>?_⟩,h5⟩
  ·rw[if_pos hk] at h3;omega
  ·rw[if_neg hk] at h3;omega
end Barb
namespace Go.Proofs.YtpjjkiidjofflaaGreatDoor
open Go Go.Dm Go.Eng Barb
end Go.Proofs.YtpjjkiidjofflaaGreatDoor
namespace Barb
open Go Go.Dm Go.Eng
abbrev Unit.d (u:Unit):List D:=[.g (.str u.name),.g (.sl 1 (u.vars.map ZbG)),.g (.sl 2 (u.arrays.map Arr.g)),.g (.sl 4 (u.funcs.map Fun.g))]
theorem Fun.g_eq (f:Fun):f.g=[.str f.name,.bool f.isOpen,.sl 1 (f.params.map ZbG),.sl 5 (f.body.map Stmt.g)]:=by rw[Fun.g,Stmt.gs_map]
abbrev Fun.d (f:Fun):List D:=[.g (.str f.name),.g (.bool f.isOpen),.g (.sl 1 (f.params.map ZbG)),.g (.sl 5 (f.body.map Stmt.g))]
theorem nameE_ok {s:Str} (h:Zas s):Zdx s=0:=by unfold Zdx;rw[if_pos h]
theorem nameE_no {s:Str} (h:¬Zas s):Zdx s=4:=by unfold Zdx;rw[if_neg h]
theorem manyN_succ {l:List Fun} {i:Nat} (h:i < l.length):Zc0 (l.take (i+1))=Zc0 (l.take i)+Zak 12 l[i].body:=by unfold Zc0;rw[Zav h,List.map_append,List.sum_append];simp
end Barb
namespace Go.Proofs.YtpjjkiidjofflaaGreatDoor
open Go Go.Dm Go.Eng Barb
theorem Zjs (u:Barb.Unit) (h1:u.vars.length<=8) (h2:∀a∈u.arrays,1<=a.size/\a.size<=10) (h3:u.arrays.length<=3):CT Tryz.prog gl 39 [.agg u.d] (Is (.g (.int (Zao u)))):=by
 refine enter hT hF hM Tryz.func39 rfl 22 rfl (by kernel_rfl) [.tmp 2] rfl [.agg u.d] rfl _ ?_;refine ZaM (ι:=Nat) (λi=>[(12,.g (.int (i:Int))),(3,.g (.int (u.vars.length+sizes (u.arrays.take i)))),(1,.ptr 0 0)]) (λ_=>[.blk u.d 44]) (λi=>i<=u.arrays.length) (λi=>u.arrays.length - i)
  ⟨0,[.old 0],⟨rfl,.inl rfl,.inr ⟨lk rfl,lkI (by simp[sizes]),lk rfl,trivial⟩,rfl⟩,Nat.zero_le _⟩ ?_
 intro Rd hRd i hi;refine ⟨λh5=>?_,λh5=>?_⟩
 ·have h6:i < u.arrays.length:=by simp at h5;omega
  have h7:=Zen (l:=u.arrays.take i) (λa ha=>h2 a (List.mem_of_mem_take ha));have h8:=ZgV h6;have h9:=h2 _ (List.getElem_mem h6);have h10:(u.arrays.take i).length<=3:=Nat.le_trans (List.length_take_le' _ _) h3;refine ⟨i,_,rfl,gm h6,?_⟩;refine ⟨_,I64.wrap (by unfold I64;omega),?_⟩;refine ⟨_,I64.wrap (by unfold I64;omega),?_⟩;exact hRd _ _ _ ⟨i+1,[.old 0],⟨rfl,.inl rfl,.inr ⟨lk rfl,lkI (by omega),lk rfl,trivial⟩,rfl⟩,h6,by omega⟩
 ·have h6:i=u.arrays.length:=by simp at h5;omega
  exact ⟨rfl,ZbH (by rw[h6,List.take_length];rfl)⟩
end Go.Proofs.YtpjjkiidjofflaaGreatDoor
