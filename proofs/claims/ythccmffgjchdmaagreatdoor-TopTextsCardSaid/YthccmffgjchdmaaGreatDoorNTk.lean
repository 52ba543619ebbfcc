import Derived.Test.YthccmffgjchdmaaGreatDoorNLb
import Derived.Test.YthccmffgjchdmaaGreatDoorNWd
import Derived.Test.YthccmffgjchdmaaGreatDoorNVs
import Derived.Lib.Join
open Go Go.Proofs Go.Proofs.YthccmffgjchdmaaGreatDoor
namespace ZN
open Go Go.Dm Go.Eng Barb
variable {L:Lv}
structure Tok where
 kind:Int
 text:Str
def Tok.g (t:Tok):List GV:=[.int t.kind,.str t.text]
instance (c:UInt8):Decidable (Zvy c):=by unfold Zvy;infer_instance
instance (c:UInt8):Decidable (Zvz c):=by unfold Zvz;infer_instance
def ZvA (c:UInt8):Bool:=decide (Zvy c\/Zvz c)
def ZdC (c:UInt8):Bool:=decide (c=32\/c=10)
def Zgp:Str->Nat
 | []=>0
 | c :: s=>if ZvA c then Zgp s+1 else 0
theorem ZxE:∀s:Str,Zgp s<=s.length
 | []=>Yas _
 | c :: s=>by
  have:=ZxE s;unfold Zgp;split
  ·simpa using this
  ·exact Yat _
theorem ZtD {s:Str} {k:Nat} (h:k < s.length) (hc:Zvy s[k]\/Zvz s[k]):Zgp (s.drop k)=Zgp (s.drop (k+1))+1:=by rw[Ybi h];simp[Zgp,ZvA,hc]
theorem ZAC {s:Str} {k:Nat} (h:k < s.length) (h1:¬Zvy s[k]) (h2:¬Zvz s[k]):Zgp (s.drop k)=0:=by rw[Ybi h];simp[Zgp,ZvA,h1,h2]
open Classical in
noncomputable def ZcN (s:Str):Option Tok :=
 if Zgp s=0 then (if Zbj s=[] then none else some ⟨3,Zbj s⟩)
 else if Zua (s.take (Zgp s))=true then some ⟨2,s.take (Zgp s)⟩
 else if Zlr (s.take (Zgp s)) then some ⟨1,s.take (Zgp s)⟩ else none
noncomputable def Zld:Nat->Str->Option (List Tok)
 | _,[]=>some []
 | 0,_=>none
 | f+1,c :: s=>if ZdC c then Zld f s else
  match ZcN (c :: s) with
  | none=>none
  | some t=>(Zld f ((c :: s).drop t.text.length)).map (t :: ·)
noncomputable def Ze7 (s:Str):Option (List Tok):=Zld s.length s
theorem Ztt {s:Str} (h:Zbj s≠[]):Zbj s∈Zeg/\Zbj s=s.take (Zbj s).length:=by
 unfold Zbj at h ⊢;cases hf:Zeg.find? (λt=>Lib.hasPrefix s t) with
 | none=>rw[hf] at h;exact absurd rfl h
 | some t =>simp only[Option.getD_some];refine ⟨YbV hf,?_⟩;have hp:Lib.hasPrefix s t=true:=List.find?_some hf;unfold Lib.hasPrefix at hp;rw[List.isPrefixOf_iff_prefix] at hp;exact (List.prefix_iff_eq_take.1 hp)
theorem ZiQ {s:Str} (h:Zbj s≠[]):1<=(Zbj s).length/\(Zbj s).length<=2/\(Zbj s).length<=s.length:=by
 obtain ⟨h1,h2⟩:=Ztt h;have h3:∀t∈Zeg,1<=t.length/\t.length<=2:=by decide
 refine ⟨(h3 _ h1).1,(h3 _ h1).2,?_⟩;have:=congrArg List.length h2;rw[Yam] at this;omega
theorem ZvZ (s:Str):(Zbj s).length<=2:=by
 by_cases h:Zbj s=[]
 ·rw[h];simp
 ·exact (ZiQ h).2.1
theorem Zlx {s:Str} {t:Tok} (h:ZcN s=some t):1<=t.text.length/\t.text.length<=s.length/\t.text=s.take t.text.length:=by
 unfold ZcN at h;have hr:=ZxE s;split at h
 ·split at h
  ·cases h
  ·rename_i _ hs;injection h with h;subst h;exact ⟨(ZiQ hs).1,(ZiQ hs).2.2,(Ztt hs).2⟩
 ·have hl:(s.take (Zgp s)).length=Zgp s:=by rw[Yam];omega
  split at h
  ·injection h with h;subst h;rw[hl];exact ⟨by omega,hr,rfl⟩
  ·split at h
   ·injection h with h;subst h;rw[hl];exact ⟨by omega,hr,rfl⟩
   ·cases h
theorem Zj9:∀(f:Nat) (s:Str),s.length<=f->∀g,s.length<=g->Zld f s=Zld g s
 | f,[],_,g,_=>by cases f<;>cases g<;>rfl
 | 0,c :: s,h,_,_=>by simp at h
 | f+1,c :: s,_,0,h=>by simp at h
 | f+1,c :: s,hf,g+1,hg=>by
  simp only[List.length_cons] at hf hg;simp only[Zld];split
  ·exact Zj9 f s (by omega) g (by omega)
  ·split
   ·rfl
   ·rename_i t ht;have:=(Zlx ht).1;rw[Zj9 f ((c :: s).drop t.text.length) (by rw[YaM,List.length_cons];omega) g (by rw[YaM,List.length_cons];omega)]
theorem Zgc {c:UInt8} {s:Str} (h:ZdC c=true):Ze7 (c :: s)=Ze7 s:=by show Zld (s.length+1) (c :: s)=_;simp only[Zld,h,if_true];rfl
theorem Zu2 {c:UInt8} {s:Str} (h:ZdC c=false) (ht:ZcN (c :: s)=none):Ze7 (c :: s)=none:=by show Zld (s.length+1) (c :: s)=_;simp[Zld,h,ht]
theorem Zre {c:UInt8} {s:Str} {t:Tok} (h:ZdC c=false) (ht:ZcN (c :: s)=some t):Ze7 (c :: s)=(Ze7 ((c :: s).drop t.text.length)).map (t :: ·):=by show Zld (s.length+1) (c :: s)=_;have:=(Zlx ht).1;simp only[Zld,h,ht,YbW,if_false];unfold Ze7;rw[Zj9 s.length ((c :: s).drop t.text.length) (by rw[YaM,List.length_cons];omega) _ (Yas _)]
noncomputable def Zle (s:Str):Int:=if 3000 < s.length then 1 else match Ze7 s with | some _=>0 | none=>4
noncomputable def ZmM (s:Str):List Tok:=if 3000 < s.length then [] else (Ze7 s).getD []
theorem ZzI {s:Str} {l:List Tok} (hs:¬3000 < s.length) (h:Ze7 s=some l):Zle s=0/\ZmM s=l:=by unfold Zle ZmM;rw[if_neg hs,if_neg hs,h];exact ⟨rfl,rfl⟩
theorem Zx5 {s:Str} (hs:¬3000 < s.length) (h:Ze7 s=none):Zle s=4/\ZmM s=[]:=by unfold Zle ZmM;rw[if_neg hs,if_neg hs,h];exact ⟨rfl,rfl⟩
theorem Zmu {s:Str} {i:Nat} (h:i < s.length):s.drop i=s[i] :: s.drop (i+1):=Ybi h
theorem Zwv {s:Str} {i k:Nat} (hi:i < s.length) (hk:i < k) (h:Zua ((s.take k).drop i)=true):Zvz s[i]:=by
 have hn:ZnG ((s.take k).drop i):=by
  by_cases hn:ZnG ((s.take k).drop i)
  ·exact hn
  ·rw[(ZlR hn).2] at h;cases h
 obtain ⟨n,_,e⟩:=hn;have hm:s[i]∈(s.take k).drop i:=by
  have h0:((s.take k).drop i)[0]?=some s[i]:=by rw[YaT,Yaw (by omega)];exact Yak hi
  exact YaL h0
 rw[e] at hm;exact (ZcV n).1 _ hm
theorem Zrd {s:Str} {i:Nat} {xs:List Tok} {tk:Tok} (az:i < s.length) (hb:ZdC s[i]=false) (hc:Ze7 s=(Ze7 (s.drop i)).map (xs++·)) (h:ZcN (s.drop i)=some tk):Ze7 s=(Ze7 (s.drop (i+tk.text.length))).map ((xs++[tk])++·):=by
 rw[Zmu az] at h hc;rw[hc,Zre hb h,<- Zmu az,List.drop_drop,Option.map_map]
 congr 1
 funext l;simp
theorem Zrc {s:Str} {i:Nat} {xs:List Tok} (az:i < s.length) (hb:ZdC s[i]=false) (hc:Ze7 s=(Ze7 (s.drop i)).map (xs++·)) (h:ZcN (s.drop i)=none):Ze7 s=none:=by rw[Zmu az] at h hc;rw[hc,Zu2 hb h];rfl
theorem Zmw:∀(f:Nat) (s:Str) (l:List Tok),Zld f s=some l->l.length<=s.length
 | f,[],l,h=>by cases f<;>(injection h with h;subst h;exact Yas _)
 | 0,c :: s,l,h=>by cases h
 | f+1,c :: s,l,h=>by
  simp only[Zld] at h;split at h
  ·have:=Zmw f s l h;simp only[List.length_cons];omega
  ·split at h
   ·cases h
   ·rename_i t ht;obtain ⟨m,hm,rfl⟩:=YaB.1 h;have h1:=Zmw f _ m hm;have h2:=(Zlx ht).1;rw[YaM,List.length_cons] at h1;simp only[List.length_cons];omega
variable {L:Lv}
set_option maxRecDepth 20000 in
theorem Zz4 (s:Str) (hs:s.length<=9223372036854775807):CT Tryz.prog (gl L) 20 [.g (.str s)] (Is (.tuple [.g (.sl 2 ((ZmM s).map Tok.g)),.g (.int (Zle s))])):=by
 refine enter hT hF hM Tryz.func20 rfl 96 rfl (by kernel_rfl) [.tmp 2,.tmp 3] rfl [.g (.str s)] rfl _ ?_;refine ⟨λh=>⟨rfl,ZtJ (by unfold Zle;rw[if_pos (by omega)]) (by unfold ZmM;rw[if_pos (by omega)];rfl)⟩,λh=>?_⟩;have ah:¬3000 < s.length:=by omega
 refine ZaO (ι:=Nat × List Tok) (λi=>[(5,.g (.int (i.1:Int))),(4,.row 0)]) (λi=>[.row (i.2.map Tok.g) 119 2]) (λi=>i.1<=s.length/\i.2.length<=i.1/\Ze7 s=(Ze7 (s.drop i.1)).map (i.2++·)) (λi=>s.length - i.1)
  ⟨(0,[]),[.nil 119 2],⟨rfl,.inl rfl,.inr ⟨lk rfl,.inr rfl,trivial⟩,rfl⟩,Yat _,Yas _,by simp⟩ ?_
 rintro Rd aj ⟨i,xs⟩ ⟨hi,hx,hc⟩;refine ⟨λh1=>?_,λh1=>?_⟩
 rotate_left
 ·have wq:i=s.length:=by omega
  have mo:Ze7 s=some xs:=by rw[hc,wq,Ycl];simp[Ze7,Zld]
  obtain ⟨e1,e2⟩:=ZzI ah mo;exact ⟨rfl,ZyZ rfl e1.symm (by rw[e2])⟩
 have az:i < s.length:=by omega
 have hd:=Zmu az;have de:xs.length<=i:=hx;refine ⟨i,s[i],rfl,Yak az,λh2=>?_,λh2=>⟨i,s[i],rfl,Yak az,λh3=>?_,λh3=>?_⟩⟩
 ·refine ⟨_,I64.wrap (by unfold I64;omega),?_⟩;refine aj _ _ _ ⟨(i+1,xs),[.old 0],⟨rfl,.inl rfl,.inr ⟨lk rfl,lk rfl,trivial⟩,rfl⟩,⟨az,Nat.le_succ_of_le hx,?_⟩,by omega⟩;rw[hc,hd,Zgc (by unfold ZdC;exact decide_eq_true (.inl (UInt8.toNat_inj.1 (by simpa using Int.ofNat_inj.1 h2))))]
 ·refine ⟨_,I64.wrap (by unfold I64;omega),?_⟩;refine aj _ _ _ ⟨(i+1,xs),[.old 0],⟨rfl,.inl rfl,.inr ⟨lk rfl,lk rfl,trivial⟩,rfl⟩,⟨az,Nat.le_succ_of_le hx,?_⟩,by omega⟩;rw[hc,hd,Zgc (by unfold ZdC;exact decide_eq_true (.inr (UInt8.toNat_inj.1 (by simpa using Int.ofNat_inj.1 h3))))]
 ·have hb:ZdC s[i]=false:=by
   unfold ZdC;refine decide_eq_false ?_;rintro (e | e)
   ·exact h2 (by rw[e];rfl)
   ·exact h3 (by rw[e];rfl)
  refine ZaO (ι:=Nat) (λk=>[(6,.g (.int (k:Int))),(5,.g (.int (i:Int))),(4,.row 0)]) (λ_=>[.row (xs.map Tok.g) 119 2]) (λk=>i<=k/\k<=s.length/\Zgp (s.drop i)=k - i+Zgp (s.drop k)) (λk=>s.length - k)
   ⟨i,[.old 0],⟨rfl,.inl rfl,.inr ⟨lk rfl,lk rfl,lk rfl,trivial⟩,rfl⟩,Yas _,by omega,by omega⟩ ?_
  intro Rk jG k ⟨rH,aB,hk⟩;refine ⟨λh4=>⟨k,s[k]'(Int.ofNat_lt.1 h4),rfl,Yak _,Zad (.inl rfl) (Zjs _) ⟨λh5=>?s1,λh5=>⟨k,s[k]'(Int.ofNat_lt.1 h4),rfl,Yak _,Zad (.inl rfl) (Zj8 _) ⟨λh6=>?s2,λh6=>?t1⟩⟩⟩⟩,λh4=>?t2⟩
  case s1 =>
   refine ⟨_,I64.wrap (by unfold I64;omega),?_⟩;exact jG _ _ _ ⟨k+1,[.old 0],⟨rfl,.inl rfl,.inr ⟨lk rfl,lk rfl,lk rfl,trivial⟩,rfl⟩,⟨by omega,by omega,by have:=ZtD (Int.ofNat_lt.1 h4) (.inl h5);omega⟩,by omega⟩
  case s2 =>
   refine ⟨_,I64.wrap (by unfold I64;omega),?_⟩;exact jG _ _ _ ⟨k+1,[.old 0],⟨rfl,.inl rfl,.inr ⟨lk rfl,lk rfl,lk rfl,trivial⟩,rfl⟩,⟨by omega,by omega,by have:=ZtD (Int.ofNat_lt.1 h4) (.inr h6);omega⟩,by omega⟩
  all_goals have hr:Zgp (s.drop i)=k - i:=by first | (have:=ZAC (Int.ofNat_lt.1 h4) h5 h6;omega) | (rw[Yct (show s.length<=k by omega)] at hk;exact hk)
  all_goals
   clear hk;refine ⟨i,k,rfl,rfl,rH,aB,?_⟩;have dn:(s.take k).drop i=(s.drop i).take (Zgp (s.drop i)):=by rw[hr,YbX]
   have hN:=Zlm (L:=L) ((s.take k).drop i) (by rw[YaM,Yam];omega);obtain ⟨b,hB⟩:∃b,Zua ((s.take k).drop i)=b:=⟨_,rfl⟩;rw[hB] at hN;have lN:Zua ((s.drop i).take (Zgp (s.drop i)))=b:=by rw[<- dn,hB]
   refine Zad (.inl rfl) hN ?_;refine ⟨λh4=>?_,λh4=>?_⟩
   ·have aN:k=i:=by omega
    have ht:ZcN (s.drop i)=if Zbj (s.drop i)=[] then none else some ⟨3,Zbj (s.drop i)⟩:=by unfold ZcN;rw[if_pos (by omega)]
    refine ⟨i,rfl,hi,Zad (.inl rfl) (Zv2 _) ?_⟩;have lC:=ZvZ (s.drop i);have mi:∀(tk:Tok),ZcN (s.drop i)=some tk->Ze7 s=(Ze7 (s.drop (i+tk.text.length))).map ((xs++[tk])++·):=λtk h=>Zrd az hb hc h;refine ⟨_,I64.wrap (by unfold I64;omega),λh5=>⟨rfl,?_⟩,λh5=>?_⟩
    ·have hz:Zbj (s.drop i)=[]:=YaP (by omega);obtain ⟨e1,e2⟩:=Zx5 ah (Zrc az hb hc (by rw[ht,if_pos hz]));exact ZtJ e1.symm (by rw[e2];rfl)
    ·have hz:¬Zbj (s.drop i)=[]:=λe=>h5 (by rw[e];simp;omega);have hl:=ZiQ hz;rw[YaM] at hl;refine ⟨[Tok.g ⟨3,Zbj (s.drop i)⟩],rfl,rfl,⟨rfl,rfl,trivial⟩,?_⟩;refine ⟨⟨by simp only[maxLen,List.length_cons,List.length_nil,Yaa];omega,by simp only[List.length_cons,List.length_nil,Yaa];omega⟩,?_⟩;refine aj _ _ _ ⟨(i+(Zbj (s.drop i)).length,xs++[⟨3,Zbj (s.drop i)⟩]),[.old 3],⟨rfl,.inr ⟨⟨?_,rfl,rfl⟩,trivial⟩,.inr ⟨lkI (by rw[aN];simp),lk rfl,trivial⟩,rfl⟩,⟨?_,?_,?_⟩,?_⟩
     ·rw[Yaf];rfl
     ·show i+_<=s.length;omega
     ·show (xs++[_]).length<=i+_;rw[Yab];simp only[List.length_cons,List.length_nil];omega
     ·exact mi _ (by rw[ht,if_neg hz])
     ·show s.length - (i+_) < s.length - i;omega
   ·have aN:¬k=i:=by omega
    have qY:¬Zgp (s.drop i)=0:=by omega
    have mi:∀(tk:Tok),ZcN (s.drop i)=some tk->Ze7 s=(Ze7 (s.drop (i+tk.text.length))).map ((xs++[tk])++·):=λtk h=>Zrd az hb hc h;have kK:((s.take k).drop i).length=k - i:=by rw[YaM,Yam];omega
    have rT:b=true->Zvz s[i]:=λe=>Zwv az (by omega) (hB.trans e);have kz:b=false->Zlr ((s.take k).drop i)->ZcN (s.drop i)=some ⟨1,(s.take k).drop i⟩:=λe hw=>by unfold ZcN;rw[if_neg qY,lN,e,<- dn,if_neg (by decide),if_pos hw]
    have c8:b=false->¬Zlr ((s.take k).drop i)->ZcN (s.drop i)=none:=λe hw=>by unfold ZcN;rw[if_neg qY,lN,e,<- dn,if_neg (by decide),if_neg hw]
    have oc:b=true->ZcN (s.drop i)=some ⟨2,(s.take k).drop i⟩:=λe=>by unfold ZcN;rw[if_neg qY,lN,e,<- dn,if_pos rfl]
    have next:∀(tk:Tok),ZcN (s.drop i)=some tk->tk.text=(s.take k).drop i->k<=s.length/\(xs++[tk]).length<=k/\Ze7 s=(Ze7 (s.drop k)).map ((xs++[tk])++·):=λtk h e=>by refine ⟨aB,by rw[Yab];simp only[List.length_cons,List.length_nil];omega,?_⟩;have:=mi tk h;rw[e,kK,show i+(k - i)=k from by omega] at this;exact this
    have fail:b=false->¬Zlr ((s.take k).drop i)->∀h:Zae,Zby (Is (.tuple [.g (.sl 2 ((ZmM s).map Tok.g)),.g (.int (Zle s))])) h (.tuple [.nils,.g (.int 4)]):=λe hw h=>by obtain ⟨e1,e2⟩:=Zx5 ah (Zrc az hb hc (c8 e hw));exact ZtJ e1.symm (by rw[e2];rfl)
    refine ⟨i,s[i],rfl,Yak az,Zad (.inl rfl) (Zj8 s[i]) ⟨λh5=>?_,λh5=>?_⟩⟩
    ·cases b
     ·refine Zad (.inl rfl) (ZmF _ (by omega)) ⟨λh6=>⟨rfl,fail rfl h6 _⟩,λh6=>?_⟩;refine ⟨[Tok.g ⟨1,(s.take k).drop i⟩],rfl,rfl,⟨rfl,rfl,trivial⟩,?_⟩;refine ⟨⟨by simp only[maxLen,List.length_cons,List.length_nil,Yaa];omega,by simp only[List.length_cons,List.length_nil,Yaa];omega⟩,?_⟩;exact aj _ _ _ ⟨(k,xs++[⟨1,(s.take k).drop i⟩]),[.old 3],⟨rfl,.inr ⟨⟨by rw[Yaf];rfl,rfl,rfl⟩,trivial⟩,.inr ⟨lk rfl,lk rfl,trivial⟩,rfl⟩,next _ (kz rfl h6) rfl,by omega⟩
     ·refine ⟨[Tok.g ⟨2,(s.take k).drop i⟩],rfl,rfl,⟨rfl,rfl,trivial⟩,?_⟩;refine ⟨⟨by simp only[maxLen,List.length_cons,List.length_nil,Yaa];omega,by simp only[List.length_cons,List.length_nil,Yaa];omega⟩,?_⟩;exact aj _ _ _ ⟨(k,xs++[⟨2,(s.take k).drop i⟩]),[.old 3],⟨rfl,.inr ⟨⟨by rw[Yaf];rfl,rfl,rfl⟩,trivial⟩,.inr ⟨lk rfl,lk rfl,trivial⟩,rfl⟩,next _ (oc rfl) rfl,by omega⟩
    ·have tT:b=false:=by cases b<;>first | rfl | exact absurd (rT rfl) h5
     refine Zad (.inl rfl) (ZmF _ (by omega)) ⟨λh6=>⟨rfl,fail tT h6 _⟩,λh6=>?_⟩;refine ⟨[Tok.g ⟨1,(s.take k).drop i⟩],rfl,rfl,⟨rfl,rfl,trivial⟩,?_⟩;refine ⟨⟨by simp only[maxLen,List.length_cons,List.length_nil,Yaa];omega,by simp only[List.length_cons,List.length_nil,Yaa];omega⟩,?_⟩;exact aj _ _ _ ⟨(k,xs++[⟨1,(s.take k).drop i⟩]),[.old 3],⟨rfl,.inr ⟨⟨by rw[Yaf];rfl,rfl,rfl⟩,trivial⟩,.inr ⟨lk rfl,lk rfl,trivial⟩,rfl⟩,next _ (kz tT h6) rfl,by omega⟩
inductive PR (α:Type) where
 | ok (a:α) (l:List Tok)
 | bad (e:Int)
def PR.then {α β:Type} (r:PR α) (k:α->List Tok->PR β):PR β :=
 match r with
 | .ok a l=>k a l
 | .bad e=>.bad e
def Zbi:List Tok->Str
 | []=>[]
 | t :: _=>t.text
def Zgl:List Tok->Int
 | []=>0
 | t :: _=>t.kind
open Classical in
noncomputable def ZaE (s:Str) (l:List Tok):Option (List Tok):=if l≠[]/\Zbi l=s then some l.tail else none
open Classical in
noncomputable def ZaH (s:Str) (l:List Tok):PR PUnit:=match ZaE s l with | some l'=>.ok ⟨⟩ l' | none=>.bad 4
open Classical in
noncomputable def Zbc (l:List Tok):PR Str:=if Zan (Zbi l) then .ok (Zbi l) l.tail else .bad 4
noncomputable def Zff (l:List Tok):PR Int:=if Zgl l=2 then .ok (Zt9 (Zbi l)) l.tail else .bad 4
def ZlP:List Str:=[[43],[45],[42],[38],[124],[94],[60],[61,61],[60,60],[62,62]]
noncomputable def opP (s:Str):Int:=idx (λx=>s=x) ZlP+1
section
variable (ex:List Tok->PR Barb.Expr)
noncomputable def ZdR:Nat->List Barb.Expr->List Tok->PR (List Barb.Expr)
 | 0,_,_=>.bad 4
 | n+1,acc,l=>match ZaE [44] l with
  | some l1=>(ex l1).then λb l2=>ZdR n (acc++[b]) l2
  | none=>(ZaH [41] l).then λ_ l1=>.ok acc l1
noncomputable def ZcZ (l:List Tok):PR (List Barb.Expr):=match ZaE [41] l with
 | some l1=>.ok [] l1
 | none=>(ex l).then λa l1=>ZdR ex (l1.length+1) [a] l1
noncomputable def Zfn (l:List Tok):PR Barb.Expr:=match ZaE [40] l with
 | some l1=>(ex l1).then λa l2=>if opP (Zbi l2)=0 then .bad 4 else (ex l2.tail).then λb l3=>(ZaH [41] l3).then λ_ l4=>.ok (.mk 5 (opP (Zbi l2)) [] [] [a,b]) l4
 | none=>if Zgl l=2 then (Zff l).then λn l1=>.ok (.mk 1 n [] [] []) l1 else
  (Zbc l).then λs l1=>match ZaE [91] l1 with
   | some l2=>(ex l2).then λa l3=>(ZaH [93] l3).then λ_ l4=>.ok (.mk 3 0 [] s [a]) l4
   | none=>match ZaE [40] l1 with
    | some l2=>(ZcZ ex l2).then λxs l3=>.ok (.mk 4 0 [] s xs) l3
    | none=>match ZaE [46] l1 with
     | some l2=>(Zbc l2).then λg l3=>(ZaH [40] l3).then λ_ l4=>(ZcZ ex l4).then λxs l5=>.ok (.mk 4 0 s g xs) l5
     | none=>.ok (.mk 2 0 [] s []) l1
end
noncomputable def Zat:Nat->List Tok->PR Barb.Expr
 | 0=>λ_=>.bad 1
 | f+1=>Zfn (Zat f)
section
variable (st:List Tok->PR Barb.Stmt)
noncomputable def Zaz:Nat->List Barb.Stmt->List Tok->PR (List Barb.Stmt)
 | 0,_,_=>.bad 4
 | n+1,acc,l=>match ZaE [125] l with
  | some l1=>.ok acc l1
  | none=>(st l).then λx l1=>Zaz n (acc++[x]) l1
noncomputable def Za5 (l:List Tok):PR (List Barb.Stmt):=(ZaH [123] l).then λ_ l1=>Zaz st (l1.length+1) [] l1
noncomputable def doP (ex:List Tok->PR Barb.Expr) (l:List Tok):PR Barb.Stmt:=match ZaE [105,102] l with
 | some l1=>(ex l1).then λx l2=>(Za5 st l2).then λb l3=>match ZaE [101,108,115,101] l3 with
  | some l4=>(Za5 st l4).then λc l5=>.ok (.mk 3 [] [x] b c) l5
  | none=>.ok (.mk 3 [] [x] b []) l3
 | none=>match ZaE [119,104,105,108,101] l with
  | some l1=>(ex l1).then λx l2=>(Za5 st l2).then λb l3=>.ok (.mk 4 [] [x] b []) l3
  | none =>
   let fin:Int->Str->List Barb.Expr->List Tok->PR Barb.Stmt:=λk s xs l=>(ex l).then λx l1=>(ZaH [59] l1).then λ_ l2=>.ok (.mk k s (xs++[x]) [] []) l2
   match ZaE [114,101,116,117,114,110] l with
   | some l1=>fin 5 [] [] l1
   | none=>match ZaE [115,97,121] l with
    | some l1=>fin 6 [] [] l1
    | none=>(Zbc l).then λs l1=>match ZaE [91] l1 with
     | some l2=>(ex l2).then λx l3=>(ZaH [93] l3).then λ_ l4=>(ZaH [61] l4).then λ_ l5=>fin 2 s [x] l5
     | none=>(ZaH [61] l1).then λ_ l2=>fin 1 s [] l2
end
noncomputable def ZaX:Nat->List Tok->PR Barb.Stmt
 | 0=>λ_=>.bad 1
 | f+1=>doP (ZaX f) (Zat f)
noncomputable def Zch:Nat->List Str->List Tok->PR (List Str)
 | 0,_,_=>.bad 4
 | n+1,acc,l=>match ZaE [41] l with
  | some l1=>.ok acc l1
  | none=>(if acc=[] then .ok ⟨⟩ l else ZaH [44] l:PR PUnit).then λ_ l1=>(Zbc l1).then λs l2=>Zch n (acc++[s]) l2
noncomputable def Zip (isOpen:Bool) (l:List Tok):PR Fun:=(Zbc l).then λs l1=>(ZaH [40] l1).then λ_ l2=>(Zch (l2.length+1) [] l2).then λps l3=>(Za5 (ZaX 48) l3).then λb l4=>.ok ⟨s,isOpen,ps,b⟩ l4
noncomputable def Zbh:Nat->List Str->List Tok->PR (List Str)
 | 0,_,_=>.bad 4
 | n+1,acc,l=>match ZaE [118,97,114] l with
  | some l1=>(Zbc l1).then λs l2=>Zbh n (acc++[s]) l2
  | none=>.ok acc l
noncomputable def Zeq:Nat->List Arr->List Tok->PR (List Arr)
 | 0,_,_=>.bad 4
 | n+1,acc,l=>match ZaE [97,114,114,97,121] l with
  | some l1=>(Zbc l1).then λs l2=>(Zff l2).then λk l3=>Zeq n (acc++[⟨s,k⟩]) l3
  | none=>.ok acc l
noncomputable def Zdx:Nat->List Fun->List Tok->PR (List Fun)
 | 0,_,_=>.bad 4
 | n+1,acc,l=>if l=[] then .ok acc l else
  match ZaE [111,112,101,110] l with
  | some l1=>(Zip true l1).then λf l2=>Zdx n (acc++[f]) l2
  | none=>(ZaH [102,117,110,99] l).then λ_ l1=>(Zip false l1).then λf l2=>Zdx n (acc++[f]) l2
noncomputable def Zex (l:List Tok):PR Barb.Unit:=(ZaH [117,110,105,116] l).then λ_ l1=>(Zbc l1).then λs l2=>(Zbh (l2.length+1) [] l2).then λvs l3=>(Zeq (l3.length+1) [] l3).then λas_ l4=>(Zdx (l4.length+1) [] l4).then λfs l5=>.ok ⟨s,vs,as_,fs⟩ l5
def Shr {α:Type} (p:List Tok->PR α):Prop:=∀l a l',p l=.ok a l'->l'.length < l.length
theorem Zak {α β:Type} {r:PR α} {k:α->List Tok->PR β} {b:β} {l:List Tok} (h:r.then k=.ok b l):∃a l1,r=.ok a l1/\k a l1=.ok b l:=by
 cases r with
 | ok a l1=>exact ⟨a,l1,rfl,h⟩
 | bad e=>cases h
theorem Zay {s:Str} {l l':List Tok} (h:ZaE s l=some l'):l'=l.tail/\l'.length+1=l.length:=by
 unfold ZaE at h;split at h
 ·rename_i hc;injection h with h;subst h;refine ⟨rfl,?_⟩;cases l with
  | nil=>exact absurd rfl hc.1
  | cons t l=>rfl
 ·cases h
theorem ZaA (s:Str):Shr (ZaH s):=λl a l' h=>by
 unfold ZaH at h;split at h
 ·rename_i l1 h1;injection h with _ h;subst h;have:=(Zay h1).2;omega
 ·cases h
theorem Zuw:¬Zan []:=λh=>by have:=h.1.1.1;simp at this
theorem Zau:Shr Zbc:=λl a l' h=>by
 unfold Zbc at h;split at h
 ·rename_i hi;injection h with _ h;subst h;cases l with
  | nil=>exact absurd hi Zuw
  | cons t l=>simp
 ·cases h
theorem Zgy:Shr Zff:=λl a l' h=>by
 unfold Zff at h;split at h
 ·rename_i hi;injection h with _ h;subst h;cases l with
  | nil=>cases hi
  | cons t l=>simp
 ·cases h
theorem Zqp {ex:List Tok->PR Barb.Expr} (hx:Shr ex):∀n acc,Shr (ZdR ex n acc)
 | 0,acc=>λl a l' h=>by cases h
 | n+1,acc=>λl a l' h=>by
  simp only[ZdR] at h;split at h
  ·rename_i l1 h1;obtain ⟨b,l2,h2,h3⟩:=Zak h;have a1:=(Zay h1).2;have a2:=hx _ _ _ h2;have a3:=Zqp hx n _ _ _ _ h3;omega
  ·obtain ⟨_,l1,h1,h2⟩:=Zak h;injection h2 with _ h2;subst h2;exact ZaA _ _ _ _ h1
theorem Zqw {ex:List Tok->PR Barb.Expr} (hx:Shr ex):Shr (ZcZ ex):=λl a l' h=>by
 unfold ZcZ at h;split at h
 ·rename_i l1 h1;injection h with _ h;subst h;have:=(Zay h1).2;omega
 ·obtain ⟨b,l1,h1,h2⟩:=Zak h;have a1:=hx _ _ _ h1;have a2:=Zqp hx _ _ _ _ _ h2;omega
theorem ZvL {ex:List Tok->PR Barb.Expr} (hx:Shr ex):Shr (Zfn ex):=λl a l' h=>by
 unfold Zfn at h;split at h
 ·rename_i l1 h1;obtain ⟨x,l2,h2,h⟩:=Zak h;split at h
  ·cases h
  ·obtain ⟨y,l3,h3,h⟩:=Zak h;obtain ⟨_,l4,h4,h⟩:=Zak h;injection h with _ h;subst h;have a1:=(Zay h1).2;have a2:=hx _ _ _ h2;have a3:=hx _ _ _ h3;have a4:=ZaA _ _ _ _ h4;rw[List.length_tail] at a3;omega
 ·split at h
  ·obtain ⟨n,l1,h1,h⟩:=Zak h;injection h with _ h;subst h;exact Zgy _ _ _ h1
  ·obtain ⟨s,l1,h1,h⟩:=Zak h;have a1:=Zau _ _ _ h1;split at h
   ·rename_i l2 h2;obtain ⟨x,l3,h3,h⟩:=Zak h;obtain ⟨_,l4,h4,h⟩:=Zak h;injection h with _ h;subst h;have a2:=(Zay h2).2;have a3:=hx _ _ _ h3;have a4:=ZaA _ _ _ _ h4;omega
   ·split at h
    ·rename_i l2 h2;obtain ⟨x,l3,h3,h⟩:=Zak h;injection h with _ h;subst h;have a2:=(Zay h2).2;have a3:=Zqw hx _ _ _ h3;omega
    ·split at h
     ·rename_i l2 h2;obtain ⟨g,l3,h3,h⟩:=Zak h;obtain ⟨_,l4,h4,h⟩:=Zak h;obtain ⟨xs,l5,h5,h⟩:=Zak h;injection h with _ h;subst h;have a2:=(Zay h2).2;have a3:=Zau _ _ _ h3;have a4:=ZaA _ _ _ _ h4;have a5:=Zqw hx _ _ _ h5;omega
     ·injection h with _ h;subst h;exact a1
theorem ZbY:∀f,Shr (Zat f)
 | 0=>λl a l' h=>by cases h
 | f+1=>ZvL (ZbY f)
theorem ZmY {st:List Tok->PR Barb.Stmt} (hs:Shr st):∀n acc,Shr (Zaz st n acc)
 | 0,acc=>λl a l' h=>by cases h
 | n+1,acc=>λl a l' h=>by
  simp only[Zaz] at h;split at h
  ·rename_i l1 h1;injection h with _ h;subst h;have:=(Zay h1).2;omega
  ·obtain ⟨x,l1,h1,h⟩:=Zak h;have a1:=hs _ _ _ h1;have a2:=ZmY hs n _ _ _ _ h;omega
theorem ZeO {st:List Tok->PR Barb.Stmt} (hs:Shr st):Shr (Za5 st):=λl a l' h=>by unfold Za5 at h;obtain ⟨_,l1,h1,h⟩:=Zak h;have a1:=ZaA _ _ _ _ h1;have a2:=ZmY hs _ _ _ _ _ h;omega
theorem ZBm {st:List Tok->PR Barb.Stmt} {ex:List Tok->PR Barb.Expr} (hs:Shr st) (hx:Shr ex):Shr (doP st ex):=λl a l' h=>by
 have fin:∀(k:Int) (s:Str) (xs:List Barb.Expr) (l l':List Tok) (a:Barb.Stmt),((ex l).then λx l1=>(ZaH [59] l1).then λ_ l2=>PR.ok (Barb.Stmt.mk k s (xs++[x]) [] []) l2)=.ok a l'->l'.length < l.length:=λk s xs l l' a h=>by obtain ⟨x,l1,h1,h⟩:=Zak h;obtain ⟨_,l2,h2,h⟩:=Zak h;injection h with _ h;subst h;have a1:=hx _ _ _ h1;have a2:=ZaA _ _ _ _ h2;omega
 unfold doP at h;split at h
 ·rename_i l1 h1;obtain ⟨x,l2,h2,h⟩:=Zak h;obtain ⟨b,l3,h3,h⟩:=Zak h;have a1:=(Zay h1).2;have a2:=hx _ _ _ h2;have a3:=ZeO hs _ _ _ h3;split at h
  ·rename_i l4 h4;obtain ⟨c,l5,h5,h⟩:=Zak h;injection h with _ h;subst h;have a4:=(Zay h4).2;have a5:=ZeO hs _ _ _ h5;omega
  ·injection h with _ h;subst h;omega
 ·split at h
  ·rename_i l1 h1;obtain ⟨x,l2,h2,h⟩:=Zak h;obtain ⟨b,l3,h3,h⟩:=Zak h;injection h with _ h;subst h;have a1:=(Zay h1).2;have a2:=hx _ _ _ h2;have a3:=ZeO hs _ _ _ h3;omega
  ·dsimp only at h;split at h
   ·rename_i l1 h1;have a1:=(Zay h1).2;have:=fin _ _ _ _ _ _ h;omega
   ·split at h
    ·rename_i l1 h1;have a1:=(Zay h1).2;have:=fin _ _ _ _ _ _ h;omega
    ·obtain ⟨s,l1,h1,h⟩:=Zak h;have a1:=Zau _ _ _ h1;split at h
     ·rename_i l2 h2;obtain ⟨x,l3,h3,h⟩:=Zak h;obtain ⟨_,l4,h4,h⟩:=Zak h;obtain ⟨_,l5,h5,h⟩:=Zak h;have a2:=(Zay h2).2;have a3:=hx _ _ _ h3;have a4:=ZaA _ _ _ _ h4;have a5:=ZaA _ _ _ _ h5;have:=fin _ _ _ _ _ _ h;omega
     ·obtain ⟨_,l2,h2,h⟩:=Zak h;have a2:=ZaA _ _ _ _ h2;have:=fin _ _ _ _ _ _ h;omega
theorem Zd4:∀f,Shr (ZaX f)
 | 0=>λl a l' h=>by cases h
 | f+1=>ZBm (Zd4 f) (ZbY f)
theorem ZlM:∀n acc,Shr (Zch n acc)
 | 0,acc=>λl a l' h=>by cases h
 | n+1,acc=>λl a l' h=>by
  simp only[Zch] at h;split at h
  ·rename_i l1 h1;injection h with _ h;subst h;have:=(Zay h1).2;omega
  ·obtain ⟨_,l1,h1,h⟩:=Zak h;obtain ⟨s,l2,h2,h⟩:=Zak h;have a2:=Zau _ _ _ h2;have a3:=ZlM n _ _ _ _ h;have a1:l1.length<=l.length:=by
    split at h1
    ·injection h1 with _ h1;subst h1;exact Yas _
    ·exact Nat.le_of_lt (ZaA _ _ _ _ h1)
   omega
theorem ZhV (o:Bool):Shr (Zip o):=λl a l' h=>by unfold Zip at h;obtain ⟨s,l1,h1,h⟩:=Zak h;obtain ⟨_,l2,h2,h⟩:=Zak h;obtain ⟨ps,l3,h3,h⟩:=Zak h;obtain ⟨b,l4,h4,h⟩:=Zak h;injection h with _ h;subst h;have a1:=Zau _ _ _ h1;have a2:=ZaA _ _ _ _ h2;have a3:=ZlM _ _ _ _ _ h3;have a4:=ZeO (Zd4 48) _ _ _ h4;omega
theorem Zqr {ex:List Tok->PR Barb.Expr} (hx:Shr ex):∀(n:Nat) (acc:List Barb.Expr) (l:List Tok) (m:Nat),l.length < n->l.length < m->ZdR ex n acc l=ZdR ex m acc l
 | 0,_,l,_,h,_=>by omega
 | n+1,acc,l,0,_,h=>by omega
 | n+1,acc,l,m+1,hn,hm=>by
  simp only[ZdR];split
  ·rename_i l1 h1;cases h2:ex l1 with
   | bad e=>rfl
   | ok b l2 =>have a1:=(Zay h1).2;have a2:=hx _ _ _ h2;exact Zqr hx n _ _ m (by omega) (by omega)
  ·rfl
theorem Zm0 {st:List Tok->PR Barb.Stmt} (hs:Shr st):∀(n:Nat) (acc:List Barb.Stmt) (l:List Tok) (m:Nat),l.length < n->l.length < m->Zaz st n acc l=Zaz st m acc l
 | 0,_,l,_,h,_=>by omega
 | n+1,acc,l,0,_,h=>by omega
 | n+1,acc,l,m+1,hn,hm=>by
  simp only[Zaz];split
  ·rfl
  ·cases h2:st l with
   | bad e=>rfl
   | ok b l2 =>have a2:=hs _ _ _ h2;exact Zm0 hs n _ _ m (by omega) (by omega)
theorem Zqf:∀(n:Nat) (acc:List Str) (l:List Tok) (m:Nat),l.length < n->l.length < m->Zch n acc l=Zch m acc l
 | 0,_,l,_,h,_=>by omega
 | n+1,acc,l,0,_,h=>by omega
 | n+1,acc,l,m+1,hn,hm=>by
  simp only[Zch];split
  ·rfl
  ·cases h1:(if acc=[] then .ok ⟨⟩ l else ZaH [44] l:PR PUnit) with
   | bad e=>rfl
   | ok u l1 =>
    have a1:l1.length<=l.length:=by
     split at h1
     ·injection h1 with _ h1;subst h1;exact Yas _
     ·exact Nat.le_of_lt (ZaA _ _ _ _ h1)
    simp only[PR.then];cases h2:Zbc l1 with
    | bad e=>rfl
    | ok s l2 =>have a2:=Zau _ _ _ h2;exact Zqf n _ _ m (by omega) (by omega)
theorem ZpS:∀(n:Nat) (acc:List Str) (l:List Tok) (m:Nat),l.length < n->l.length < m->Zbh n acc l=Zbh m acc l
 | 0,_,l,_,h,_=>by omega
 | n+1,acc,l,0,_,h=>by omega
 | n+1,acc,l,m+1,hn,hm=>by
  simp only[Zbh];split
  ·rename_i l1 h1;cases h2:Zbc l1 with
   | bad e=>rfl
   | ok s l2 =>have a1:=(Zay h1).2;have a2:=Zau _ _ _ h2;exact ZpS n _ _ m (by omega) (by omega)
  ·rfl
theorem Zrm:∀(n:Nat) (acc:List Arr) (l:List Tok) (m:Nat),l.length < n->l.length < m->Zeq n acc l=Zeq m acc l
 | 0,_,l,_,h,_=>by omega
 | n+1,acc,l,0,_,h=>by omega
 | n+1,acc,l,m+1,hn,hm=>by
  simp only[Zeq];split
  ·rename_i l1 h1;cases h2:Zbc l1 with
   | bad e=>rfl
   | ok s l2 =>
    simp only[PR.then];cases h3:Zff l2 with
    | bad e=>rfl
    | ok k l3 =>have a1:=(Zay h1).2;have a2:=Zau _ _ _ h2;have a3:=Zgy _ _ _ h3;exact Zrm n _ _ m (by omega) (by omega)
  ·rfl
theorem Zml:∀(n:Nat) (acc:List Fun) (l:List Tok) (m:Nat),l.length < n->l.length < m->Zdx n acc l=Zdx m acc l
 | 0,_,l,_,h,_=>by omega
 | n+1,acc,l,0,_,h=>by omega
 | n+1,acc,l,m+1,hn,hm=>by
  simp only[Zdx];split
  ·rfl
  ·split
   ·rename_i l1 h1;cases h2:Zip true l1 with
    | bad e=>rfl
    | ok s l2 =>have a1:=(Zay h1).2;have a2:=ZhV _ _ _ _ h2;exact Zml n _ _ m (by omega) (by omega)
   ·cases h1:ZaH [102,117,110,99] l with
    | bad e=>rfl
    | ok u l1 =>
     simp only[PR.then];have a1:=ZaA _ _ _ _ h1;cases h2:Zip false l1 with
     | bad e=>rfl
     | ok s l2 =>have a2:=ZhV _ _ _ _ h2;exact Zml n _ _ m (by omega) (by omega)
def Cl {α:Type} (p:List Tok->PR α):Prop:=∀l a l',p l=.ok a l'->∀t∈l',t∈l
theorem ZbL {s:Str} {l l':List Tok} (h:ZaE s l=some l'):∀t∈l',t∈l:=λt ht=>by rw[(Zay h).1] at ht;exact List.mem_of_mem_tail ht
theorem ZaK (s:Str):Cl (ZaH s):=λl a l' h=>by
 unfold ZaH at h;split at h
 ·rename_i l1 h1;injection h with _ h;subst h;exact ZbL h1
 ·cases h
theorem Za8:Cl Zbc:=λl a l' h=>by
 unfold Zbc at h;split at h
 ·injection h with _ h;subst h;exact λt ht=>List.mem_of_mem_tail ht
 ·cases h
theorem ZlQ:Cl Zff:=λl a l' h=>by
 unfold Zff at h;split at h
 ·injection h with _ h;subst h;exact λt ht=>List.mem_of_mem_tail ht
 ·cases h
theorem Zqq {ex:List Tok->PR Barb.Expr} (hx:Cl ex):∀n acc,Cl (ZdR ex n acc)
 | 0,acc=>λl a l' h=>by cases h
 | n+1,acc=>λl a l' h=>by
  simp only[ZdR] at h;split at h
  ·rename_i l1 h1;obtain ⟨b,l2,h2,h3⟩:=Zak h;have a1:=ZbL h1;have a2:=hx _ _ _ h2;have a3:=Zqq hx n _ _ _ _ h3;intro t ht
   solve_by_elim (maxDepth:=14)
  ·obtain ⟨_,l1,h1,h2⟩:=Zak h;injection h2 with _ h2;subst h2;exact ZaK _ _ _ _ h1
theorem Zqx {ex:List Tok->PR Barb.Expr} (hx:Cl ex):Cl (ZcZ ex):=λl a l' h=>by
 unfold ZcZ at h;split at h
 ·rename_i l1 h1;injection h with _ h;subst h;have a0:=ZbL h1;intro t ht
  solve_by_elim (maxDepth:=14)
 ·obtain ⟨b,l1,h1,h2⟩:=Zak h;have a1:=hx _ _ _ h1;have a2:=Zqq hx _ _ _ _ _ h2;intro t ht
  solve_by_elim (maxDepth:=14)
theorem ZvM {ex:List Tok->PR Barb.Expr} (hx:Cl ex):Cl (Zfn ex):=λl a l' h=>by
 unfold Zfn at h;split at h
 ·rename_i l1 h1;obtain ⟨x,l2,h2,h⟩:=Zak h;split at h
  ·cases h
  ·obtain ⟨y,l3,h3,h⟩:=Zak h;obtain ⟨_,l4,h4,h⟩:=Zak h;injection h with _ h;subst h;have a1:=ZbL h1;have a2:=hx _ _ _ h2;have a3:=hx _ _ _ h3;have a4:=ZaK _ _ _ _ h4;have a5:=λt (ht:t∈l2.tail)=>List.mem_of_mem_tail ht;intro t ht
   solve_by_elim (maxDepth:=14)
 ·split at h
  ·obtain ⟨n,l1,h1,h⟩:=Zak h;injection h with _ h;subst h;exact ZlQ _ _ _ h1
  ·obtain ⟨s,l1,h1,h⟩:=Zak h;have a1:=Za8 _ _ _ h1;split at h
   ·rename_i l2 h2;obtain ⟨x,l3,h3,h⟩:=Zak h;obtain ⟨_,l4,h4,h⟩:=Zak h;injection h with _ h;subst h;have a2:=ZbL h2;have a3:=hx _ _ _ h3;have a4:=ZaK _ _ _ _ h4;intro t ht
    solve_by_elim (maxDepth:=14)
   ·split at h
    ·rename_i l2 h2;obtain ⟨x,l3,h3,h⟩:=Zak h;injection h with _ h;subst h;have a2:=ZbL h2;have a3:=Zqx hx _ _ _ h3;intro t ht
     solve_by_elim (maxDepth:=14)
    ·split at h
     ·rename_i l2 h2;obtain ⟨g,l3,h3,h⟩:=Zak h;obtain ⟨_,l4,h4,h⟩:=Zak h;obtain ⟨xs,l5,h5,h⟩:=Zak h;injection h with _ h;subst h;have a2:=ZbL h2;have a3:=Za8 _ _ _ h3;have a4:=ZaK _ _ _ _ h4;have a5:=Zqx hx _ _ _ h5;intro t ht
      solve_by_elim (maxDepth:=14)
     ·injection h with _ h;subst h;exact a1
theorem Zcn:∀f,Cl (Zat f)
 | 0=>λl a l' h=>by cases h
 | f+1=>ZvM (Zcn f)
theorem ZmZ {st:List Tok->PR Barb.Stmt} (hs:Cl st):∀n acc,Cl (Zaz st n acc)
 | 0,acc=>λl a l' h=>by cases h
 | n+1,acc=>λl a l' h=>by
  simp only[Zaz] at h;split at h
  ·rename_i l1 h1;injection h with _ h;subst h;have a0:=ZbL h1;intro t ht
   solve_by_elim (maxDepth:=14)
  ·obtain ⟨x,l1,h1,h⟩:=Zak h;have a1:=hs _ _ _ h1;have a2:=ZmZ hs n _ _ _ _ h;intro t ht
   solve_by_elim (maxDepth:=14)
theorem ZeP {st:List Tok->PR Barb.Stmt} (hs:Cl st):Cl (Za5 st):=λl a l' h=>by
 unfold Za5 at h;obtain ⟨_,l1,h1,h⟩:=Zak h;have a1:=ZaK _ _ _ _ h1;have a2:=ZmZ hs _ _ _ _ _ h;intro t ht
 solve_by_elim (maxDepth:=14)
theorem ZBn {st:List Tok->PR Barb.Stmt} {ex:List Tok->PR Barb.Expr} (hs:Cl st) (hx:Cl ex):Cl (doP st ex):=λl a l' h=>by
 have fin:∀(k:Int) (s:Str) (xs:List Barb.Expr) (l l':List Tok) (a:Barb.Stmt),((ex l).then λx l1=>(ZaH [59] l1).then λ_ l2=>PR.ok (Barb.Stmt.mk k s (xs++[x]) [] []) l2)=.ok a l'->∀t∈l',t∈l:=λk s xs l l' a h=>by
  obtain ⟨x,l1,h1,h⟩:=Zak h;obtain ⟨_,l2,h2,h⟩:=Zak h;injection h with _ h;subst h;have a1:=hx _ _ _ h1;have a2:=ZaK _ _ _ _ h2;intro t ht
  solve_by_elim (maxDepth:=14)
 unfold doP at h;split at h
 ·rename_i l1 h1;obtain ⟨x,l2,h2,h⟩:=Zak h;obtain ⟨b,l3,h3,h⟩:=Zak h;have a1:=ZbL h1;have a2:=hx _ _ _ h2;have a3:=ZeP hs _ _ _ h3;split at h
  ·rename_i l4 h4;obtain ⟨c,l5,h5,h⟩:=Zak h;injection h with _ h;subst h;have a4:=ZbL h4;have a5:=ZeP hs _ _ _ h5;intro t ht
   solve_by_elim (maxDepth:=14)
  ·injection h with _ h;subst h;intro t ht
   solve_by_elim (maxDepth:=14)
 ·split at h
  ·rename_i l1 h1;obtain ⟨x,l2,h2,h⟩:=Zak h;obtain ⟨b,l3,h3,h⟩:=Zak h;injection h with _ h;subst h;have a1:=ZbL h1;have a2:=hx _ _ _ h2;have a3:=ZeP hs _ _ _ h3;intro t ht
   solve_by_elim (maxDepth:=14)
  ·dsimp only at h;split at h
   ·rename_i l1 h1;have a1:=ZbL h1;have a9:=fin _ _ _ _ _ _ h;intro t ht
    solve_by_elim (maxDepth:=14)
   ·split at h
    ·rename_i l1 h1;have a1:=ZbL h1;have a9:=fin _ _ _ _ _ _ h;intro t ht
     solve_by_elim (maxDepth:=14)
    ·obtain ⟨s,l1,h1,h⟩:=Zak h;have a1:=Za8 _ _ _ h1;split at h
     ·rename_i l2 h2;obtain ⟨x,l3,h3,h⟩:=Zak h;obtain ⟨_,l4,h4,h⟩:=Zak h;obtain ⟨_,l5,h5,h⟩:=Zak h;have a2:=ZbL h2;have a3:=hx _ _ _ h3;have a4:=ZaK _ _ _ _ h4;have a5:=ZaK _ _ _ _ h5;have a9:=fin _ _ _ _ _ _ h;intro t ht
      solve_by_elim (maxDepth:=14)
     ·obtain ⟨_,l2,h2,h⟩:=Zak h;have a2:=ZaK _ _ _ _ h2;have a9:=fin _ _ _ _ _ _ h;intro t ht
      solve_by_elim (maxDepth:=14)
theorem ZfW:∀f,Cl (ZaX f)
 | 0=>λl a l' h=>by cases h
 | f+1=>ZBn (ZfW f) (Zcn f)
theorem ZlN:∀n acc,Cl (Zch n acc)
 | 0,acc=>λl a l' h=>by cases h
 | n+1,acc=>λl a l' h=>by
  simp only[Zch] at h;split at h
  ·rename_i l1 h1;injection h with _ h;subst h;have a0:=ZbL h1;intro t ht
   solve_by_elim (maxDepth:=14)
  ·obtain ⟨_,l1,h1,h⟩:=Zak h;obtain ⟨s,l2,h2,h⟩:=Zak h;have a2:=Za8 _ _ _ h2;have a3:=ZlN n _ _ _ _ h;have a1:∀t∈l1,t∈l:=by
    split at h1
    ·injection h1 with _ h1;subst h1;exact λt ht=>ht
    ·exact ZaK _ _ _ _ h1
   intro t ht
   solve_by_elim (maxDepth:=14)
theorem ZuE (o:Bool):Cl (Zip o):=λl a l' h=>by
 unfold Zip at h;obtain ⟨s,l1,h1,h⟩:=Zak h;obtain ⟨_,l2,h2,h⟩:=Zak h;obtain ⟨ps,l3,h3,h⟩:=Zak h;obtain ⟨b,l4,h4,h⟩:=Zak h;injection h with _ h;subst h;have a1:=Za8 _ _ _ h1;have a2:=ZaK _ _ _ _ h2;have a3:=ZlN _ _ _ _ _ h3;have a4:=ZeP (ZfW 48) _ _ _ h4;intro t ht
 solve_by_elim (maxDepth:=14)
def Zx0 (tail:Str):Prop:=Zgp tail=0
def Zc0 (s:Str) (l:List Tok):Prop:=∀tail,Ze7 (s++tail)=(Ze7 tail).map (l++·)
def ZsM (s:Str) (l:List Tok):Prop:=∀tail,Zx0 tail->Ze7 (s++tail)=(Ze7 tail).map (l++·)
theorem Zue {o:Option (List Tok)} {l m:List Tok}:(o.map (m++·)).map (l++·)=o.map (l++m++·):=by cases o<;>simp
theorem Zc0.e {s:Str} {l:List Tok} (h:Zc0 s l):ZsM s l:=λtail _=>h tail
theorem Zc0.app {s s':Str} {l l':List Tok} (h:Zc0 s l) (h':Zc0 s' l'):Zc0 (s++s') (l++l'):=λtail=>by rw[Yax,h,h',Zue]
theorem ZsM.app {s s':Str} {l l':List Tok} (h:ZsM s l) (h':Zc0 s' l') (hc:∀tail,Zx0 (s'++tail)):Zc0 (s++s') (l++l'):=λtail=>by rw[Yax,h _ (hc tail),h',Zue]
theorem Zc0.nil:Zc0 [] []:=λtail=>by cases h:Ze7 tail<;>simp[h]
theorem Zc0.blank {c:UInt8} (h:ZdC c=true):Zc0 [c] []:=λtail=>by
 show Ze7 (c :: tail)=_;rw[Zgc h];cases Ze7 tail<;>rfl
theorem ZpE {t:Tok} {tail:Str} (h:ZcN (t.text++tail)=some t) (hb:∃c r,t.text++tail=c :: r/\ZdC c=false):Ze7 (t.text++tail)=(Ze7 tail).map ([t]++·):=by
 obtain ⟨c,r,h2,h3⟩:=hb;have h4:(c :: r).drop t.text.length=tail:=by rw[<- h2];exact List.drop_left' rfl
 rw[h2] at h ⊢;rw[Zre h3 h,h4];rfl
theorem Zc0.sign {c:UInt8} (h1:ZvA c=false) (h2:ZdC c=false) (h3:∀t∈Zeg,Lib.hasPrefix [c] t=true\/t.head?≠some c) (h4:Zbj [c]=[c]):Zc0 [c] [⟨3,[c]⟩]:=λtail=>by
 have hs:Zbj (c :: tail)=[c]:=by
  rw[<- h4];unfold Zbj;have key:∀l:List Str,(∀t∈l,t≠[]/\(Lib.hasPrefix [c] t=true\/t.head?≠some c))->l.find? (λt=>Lib.hasPrefix (c :: tail) t)=l.find? (λt=>Lib.hasPrefix [c] t):=by
   intro l
   induction l with
   | nil=>intro _;rfl
   | cons t l ih =>
    intro h;have e:Lib.hasPrefix (c :: tail) t=Lib.hasPrefix [c] t:=by
     obtain ⟨hn,ht⟩:=h t Yae;cases t with
     | nil=>exact absurd rfl hn
     | cons d t =>
      unfold Lib.hasPrefix at ht ⊢;rcases ht with ht | ht
      ·rw[ht];rw[List.isPrefixOf_iff_prefix] at ht ⊢;exact ht.trans ⟨tail,rfl⟩
      ·have hd:¬d=c:=λe=>ht (by rw[e];rfl);have hb:(d == c)=false:=beq_eq_false_iff_ne.2 hd;simp only[List.isPrefixOf,hb,Yb9]
    simp only[List.find?_cons];rw[e,ih (λt ht=>h t (Yad _ ht))]
  have aC:∀t∈Zeg,t≠[]:=by decide
  rw[key Zeg (λt ht=>⟨aC t ht,h3 t ht⟩)]
 refine ZpE (t:=⟨3,[c]⟩) ?_ ⟨c,tail,rfl,h2⟩;show ZcN (c :: tail)=_;unfold ZcN;rw[if_pos (by simp[Zgp,h1]),hs,if_neg (by simp)]
def ZAc (s:Str):Prop:=∀c∈s,ZvA c=true
theorem Zjy:∀{s tail:Str},ZAc s->Zx0 tail->Zgp (s++tail)=s.length
 | [],tail,_,h=>h
 | c :: s,tail,ha,h=>by show Zgp (c :: (s++tail))=_;have:=Zjy (s:=s) (λd hd=>ha d (Yad _ hd)) h;simp[Zgp,ha c List.mem_cons_self,this]
theorem ZsM.word {s:Str} (k:Int) (h0:s≠[]) (ha:ZAc s) (hk:ZcN s=some ⟨k,s⟩):ZsM s [⟨k,s⟩]:=λtail ht=>by
 have r0:Zgp s=s.length:=by have:=Zjy (tail:=[]) ha rfl;rwa [YaF] at this
 have r1:=Zjy ha ht;have hl:0 < s.length:=by cases s with | nil=>exact absurd rfl h0 | cons c s=>simp
 refine ZpE (t:=⟨k,s⟩) ?_ ?_
 ·show ZcN (s++tail)=_;unfold ZcN at hk ⊢;rw[r0,if_neg (by omega),Yay (Yas _)] at hk;rw[r1,if_neg (by omega),List.take_left' rfl];exact hk
 ·cases s with
  | nil=>exact absurd rfl h0
  | cons c s =>refine ⟨c,s++tail,rfl,?_⟩;have:=ha c Yae;unfold ZdC;refine decide_eq_false ?_;rintro (rfl | rfl)<;>exact absurd this (by decide)
theorem ZzG {c:UInt8} (h:Zx2 c):ZvA c=true:=decide_eq_true (.inr h)
theorem Zpf {n:Nat} (h:n<=65535):Lib.decDigits n≠[]/\ZAc (Lib.decDigits n)/\ZcN (Lib.decDigits n)=some ⟨2,Lib.decDigits n⟩:=by
 obtain ⟨h1,_,h3⟩:=ZcV n;have ha:ZAc (Lib.decDigits n):=λc hc=>ZzG (h1 c hc);refine ⟨h3,ha,?_⟩;have r0:Zgp (Lib.decDigits n)=(Lib.decDigits n).length:=by have:=Zjy (tail:=[]) ha rfl;rwa [YaF] at this
 have hl:=Ybm.2 h3;unfold ZcN;rw[r0,if_neg (by omega),Yay (Yas _),if_pos (Zha h).2]
theorem ZeR {s:Str} (h:Zlr s):s≠[]/\ZAc s/\ZcN s=some ⟨1,s⟩:=by
 have aC:s≠[]:=by rintro rfl;have:=h.1.1;simp at this
 have ha:ZAc s:=λc hc=>by obtain ⟨j,hj,rfl⟩:=List.mem_iff_getElem.1 hc;exact decide_eq_true ((h.2 j hj).imp id And.right)
 refine ⟨aC,ha,?_⟩;have r0:Zgp s=s.length:=by have:=Zjy (tail:=[]) ha rfl;rwa [YaF] at this
 have hl:=Ybm.2 aC;have hn:Zua s=false:=(ZlR (λ⟨n,_,e⟩=>by
  have h0:=(h.2 0 hl).resolve_right (λhc=>hc.1 rfl);have h1:Zx2 s[0]:=(ZcV n).1 _ (by rw[<- e];exact Yai hl);have h0:97<=s[0].toNat/\s[0].toNat<=122:=h0;have h1:48<=s[0].toNat/\s[0].toNat<=57:=h1;omega)).2
 unfold ZcN;rw[r0,if_neg (by omega),Yay (Yas _),hn,if_neg (by decide),if_pos h]
abbrev sgT (c:UInt8):Tok:=⟨3,[c]⟩
def Zjl:List (List Tok)->List Tok
 | []=>[sgT 41]
 | t :: r=>sgT 44 :: (t++Zjl r)
def Zd2:List (List Tok)->List Tok
 | []=>[sgT 41]
 | t :: r=>t++Zjl r
def exT:Nat->Barb.Expr->List Tok
 | 0,_=>[]
 | f+1,.mk k n of s args =>
  if k=1 then [⟨2,Lib.decDigits n.toNat⟩] else if k=2 then [⟨1,s⟩]
  else if k=3 then [⟨1,s⟩]++([sgT 91]++((args.map (exT f)).headD []++[sgT 93]))
  else if k=4 then (if of=[] then [] else [⟨1,of⟩]++[sgT 46])++([⟨1,s⟩]++([sgT 40]++Zd2 (args.map (exT f))))
  else [sgT 40]++((args.map (exT f)).headD []++([]++([⟨3,opS n⟩]++((args.map (exT f)).tail.headD []++[sgT 41]))))
theorem Zqi {n:Int} (h:1<=n/\n<=10):opS n∈ZlP/\opP (opS n)=n:=by
 have:n=1\/n=2\/n=3\/n=4\/n=5\/n=6\/n=7\/n=8\/n=9\/n=10:=by omega
 have key:∀i (hi:i < ZlP.length),opP ZlP[i]=(i:Int)+1:=λi hi=>by
  unfold opP idx;have hd:∀j (hj:j < ZlP.length),j < i->¬ZlP[i]=ZlP[j]:=by
   have:i < 10:=hi;have h2:∀a:Fin 10,∀b:Fin 10,b.1 < a.1->¬ZlP[a.1]'a.2=ZlP[b.1]'b.2:=by decide
   intro j hj aG;exact h2 ⟨i,this⟩ ⟨j,hj⟩ aG
  rw[ZhS (q:=λx=>ZlP[i]=x) (i0:=0) hi hd rfl];omega
 rcases this with rfl | rfl | rfl | rfl | rfl | rfl | rfl | rfl | rfl | rfl
 ·exact ⟨by decide,key 0 (by decide)⟩
 ·exact ⟨by decide,key 1 (by decide)⟩
 ·exact ⟨by decide,key 2 (by decide)⟩
 ·exact ⟨by decide,key 3 (by decide)⟩
 ·exact ⟨by decide,key 4 (by decide)⟩
 ·exact ⟨by decide,key 5 (by decide)⟩
 ·exact ⟨by decide,key 6 (by decide)⟩
 ·exact ⟨by decide,key 7 (by decide)⟩
 ·exact ⟨by decide,key 8 (by decide)⟩
 ·exact ⟨by decide,key 9 (by decide)⟩
theorem Zc1 (c:UInt8) (h:c∈[123,125,40,41,91,93,44,59,46]):Zc0 [c] [sgT c]:=by
 have:c=123\/c=125\/c=40\/c=41\/c=91\/c=93\/c=44\/c=59\/c=46:=by simpa using h
 rcases this with rfl | rfl | rfl | rfl | rfl | rfl | rfl | rfl | rfl<;>exact Zc0.sign (by decide) (by decide) (by decide) (by decide)
theorem ZbZ (c:UInt8) (s:Str) (h:ZvA c=false):Zx0 (c :: s):=by unfold Zx0;simp[Zgp,h]
theorem ZxS {s:Str} (h:Zan s):ZsM s [⟨1,s⟩]:=ZsM.word 1 (ZeR h.1).1 (ZeR h.1).2.1 (ZeR h.1).2.2
theorem ZfI {s s':Str} {l':List Tok} (h:Zan s) (h':Zc0 s' l') (hc:∀tail,Zx0 (s'++tail)):Zc0 (s++s') ([⟨1,s⟩]++l'):=(ZxS h).app h' hc
theorem Ztx (s:Str):Zbj s=Zbj (s.take 2):=by
 have hp:∀t∈Zeg,Lib.hasPrefix s t=Lib.hasPrefix (s.take 2) t:=by
  have h2:∀t∈Zeg,t.length<=2:=by decide
  intro t ht;have:=h2 t ht
  match s,t,this with
  | _,[],_=>simp[Lib.hasPrefix]
  | [],_,_=>rfl
  | [c],_,_=>rfl
  | c :: d :: r,[x],_=>simp[Lib.hasPrefix,List.isPrefixOf]
  | c :: d :: r,[x,y],_=>simp[Lib.hasPrefix,List.isPrefixOf]
 have key:∀l:List (List UInt8),(∀t∈l,Lib.hasPrefix s t=Lib.hasPrefix (s.take 2) t)->l.find? (λt=>Lib.hasPrefix s t)=l.find? (λt=>Lib.hasPrefix (s.take 2) t):=by
  intro l
  induction l with
  | nil=>intro _;rfl
  | cons t l ih =>intro h;simp only[List.find?_cons];rw[h t Yae,ih (λt ht=>h t (Yad _ ht))]
 unfold Zbj;rw[key Zeg hp]
theorem Ztz {tail:Str} (h:∃r,tail=32 :: r):∀g∈Zeg,Zbj (g++tail)=g/\Zgp (g++tail)=0/\∃c r,g++tail=c :: r/\ZdC c=false:=by
 intro g hg;have h1:∀g∈Zeg,Zbj g=g/\Zbj ((g++[32]).take 2)=g:=by decide
 have h2:∀g∈Zeg,g.length=1\/g.length=2:=by decide
 have h3:∀g∈Zeg,∀c∈g,ZvA c=false/\ZdC c=false:=by decide
 have hf:∃c r,g=c :: r:=by
  cases g with
  | nil=>have:=h2 [] hg;simp at this
  | cons c r=>exact ⟨c,r,rfl⟩
 obtain ⟨c,r,rfl⟩:=hf;obtain ⟨h4,h5⟩:=h3 _ hg c Yae;refine ⟨?_,by simp[Zgp,h4],c,r++tail,rfl,h5⟩;obtain ⟨u,rfl⟩:=h
 ·rw[Ztx];have e:((c :: r)++32 :: u).take 2=((c :: r)++[32]).take 2:=by
   cases r with
   | nil=>rfl
   | cons d r=>rfl
  rw[e];exact (h1 _ hg).2
theorem Zty {g:Str} (h:g∈Zeg):Zc0 (g++[32]) [⟨3,g⟩]:=λtail=>by
 obtain ⟨h1,h2,h3⟩:=Ztz (tail:=32 :: tail) ⟨_,rfl⟩ g h;have hg:g≠[]:=by
  have:∀g∈Zeg,g≠[]:=by decide
  exact this g h
 rw[Yax];show Ze7 (g++32 :: tail)=_;have e:ZcN (g++32 :: tail)=some ⟨3,g⟩:=by unfold ZcN;rw[if_pos h2,h1,if_neg hg]
 rw[ZpE (t:=⟨3,g⟩) e h3,Zgc (by decide)]
theorem ZAN {n:Int} (h:1<=n/\n<=10):Zc0 (opS n++[32]) [⟨3,opS n⟩]:=by
 have:∀g∈ZlP,g∈Zeg:=by decide
 exact Zty (this _ (Zqi h).1)
theorem Zfj:∀(f:Nat) (x:Barb.Expr),Zaw f x=0->ZsM (exS f x) (exT f x)
 | 0,x,h=>by cases h
 | f+1,x,h=>by
  have tl:∀l:List Barb.Expr,(∀y∈l,Zaw f y=0)->Zc0 (Lib.joinTail [44,32] (l.map (exS f))++[41]) (Zjl (l.map (exT f)))/\∀tail,Zx0 (Lib.joinTail [44,32] (l.map (exS f))++[41]++tail):=by
   intro l
   induction l with
   | nil=>intro _;exact ⟨Zc1 41 (by decide),λtail=>ZbZ _ _ (by decide)⟩
   | cons y l ih =>
    intro hl;have e:Lib.joinTail [44,32] ((y :: l).map (exS f))++[41]=[44]++([32]++(exS f y++(Lib.joinTail [44,32] (l.map (exS f))++[41]))):=by simp[Lib.joinTail]
    obtain ⟨i1,i2⟩:=ih (λz hz=>hl z (Yad _ hz));rw[e];refine ⟨(Zc1 44 (by decide)).app ((Zc0.blank (by decide)).app ((Zfj f y (hl y Yae)).app i1 i2)),λtail=>ZbZ _ _ (by decide)⟩
  have ls:∀l:List Barb.Expr,(∀y∈l,Zaw f y=0)->Zc0 (Lib.join (l.map (exS f)) [44,32]++[41]) (Zd2 (l.map (exT f))):=by
   intro l hl;cases l with
   | nil=>exact Zc1 41 (by decide)
   | cons y l =>
    obtain ⟨i1,i2⟩:=tl l (λz hz=>hl z (Yad _ hz));have e:Lib.join ((y :: l).map (exS f)) [44,32]++[41]=exS f y++(Lib.joinTail [44,32] (l.map (exS f))++[41]):=by rw[Yan,Lib.join_cons,Yax]
    rw[e];exact (Zfj f y (hl y Yae)).app i1 i2
  rcases Zgb h with ⟨n,hn,rfl⟩ | ⟨s,hs,rfl⟩ | ⟨s,a,hs,ha,rfl⟩ | ⟨of,s,l,ho,hs,hl,rfl⟩ | ⟨n,a,b,hn,ha,hb,rfl⟩
  ·have:=Zpf hn;exact ZsM.word 2 this.1 this.2.1 this.2.2
  ·exact ZxS hs
  ·exact (ZfI hs ((Zc1 91 (by decide)).app ((Zfj f a ha).app (Zc1 93 (by decide)) (λ_=>ZbZ _ _ (by decide)))) (λ_=>ZbZ _ _ (by decide))).e
  ·have h1:Zc0 (s++([40]++(Lib.join (l.map (exS f)) [44,32]++[41]))) ([⟨1,s⟩]++([sgT 40]++Zd2 (l.map (exT f)))):=ZfI hs ((Zc1 40 (by decide)).app (ls l hl)) (λ_=>ZbZ _ _ (by decide));show ZsM ((if of=[] then [] else of++[46])++(s++([40]++(Lib.join (l.map (exS f)) [44,32]++[41])))) ((if of=[] then [] else [⟨1,of⟩]++[sgT 46])++([⟨1,s⟩]++([sgT 40]++Zd2 (l.map (exT f)))));by_cases h0:of=[]
   ·rw[if_pos h0,if_pos h0];exact h1.e
   ·rw[if_neg h0,if_neg h0];exact ((ZfI (ho.resolve_left h0) (Zc1 46 (by decide)) (λ_=>ZbZ _ _ (by decide))).app h1).e
  ·exact ((Zc1 40 (by decide)).app ((Zfj f a ha).app ((Zc0.blank (by decide)).app ((ZAN hn).app ((Zfj f b hb).app (Zc1 41 (by decide)) (λ_=>ZbZ _ _ (by decide))))) (λ_=>ZbZ _ _ (by decide)))).e
def fo (l:List Tok):Prop:=Zbi l≠[91]/\Zbi l≠[40]/\Zbi l≠[46]
theorem Zbr (t:Tok) (l:List Tok):ZaE t.text (t :: l)=some l:=by unfold ZaE;rw[if_pos ⟨by simp,rfl⟩];rfl
theorem ZaD {t:Tok} {l:List Tok} {s:Str} (h:t.text≠s):ZaE s (t :: l)=none:=by unfold ZaE;rw[if_neg (λhc=>h hc.2)]
theorem Zc7 {l:List Tok} {s:Str} (h:Zbi l≠s):ZaE s l=none:=by unfold ZaE;rw[if_neg (λhc=>h hc.2)]
theorem Zcj (t:Tok) (l:List Tok):ZaH t.text (t :: l)=.ok ⟨⟩ l:=by unfold ZaH;rw[Zbr]
theorem Zci {k:Int} {s:Str} (l:List Tok) (h:Zan s):Zbc (⟨k,s⟩ :: l)=.ok s l:=by unfold Zbc;rw[if_pos (show Zan (Zbi (⟨k,s⟩ :: l)) from h)];rfl
theorem Ze3 {s g:Str} (h:Zan s) (hg:g.head?.all (λc=>!ZvA c)=true\/g∈ZqA):s≠g:=by
 rintro rfl;rcases hg with hg | hg
 ·have h1:=ZeR h.1;cases s with
  | nil=>exact h1.1 rfl
  | cons c s =>have:=h1.2.1 c Yae;simp[this] at hg
 ·exact h.2 hg
theorem Zx3 {n:Nat} {g:Str} (h:n<=65535) (hg:g.head?.all (λc=>!ZvA c)=true):Lib.decDigits n≠g:=by
 have h1:=Zpf h;intro e;rw[e] at h1;cases g with
 | nil=>exact h1.1 rfl
 | cons c s =>have:=h1.2.1 c Yae;simp[this] at hg
theorem ZzA {f:Nat} {x:Barb.Expr} (h:Zaw f x=0) (l:List Tok):Zbi (exT f x++l)≠[41]:=by
 cases f with
 | zero=>cases h
 | succ f =>
  rcases Zgb h with ⟨n,hn,rfl⟩ | ⟨s,hs,rfl⟩ | ⟨s,a,hs,ha,rfl⟩ | ⟨of,s,l,ho,hs,hl,rfl⟩ | ⟨n,a,b,hn,ha,hb,rfl⟩
  ·exact Zx3 hn (by decide)
  ·exact Ze3 hs (.inl (by decide))
  ·exact Ze3 hs (.inl (by decide))
  ·show Zbi ((if of=[] then [] else [⟨1,of⟩]++[sgT 46])++([⟨1,s⟩]++([sgT 40]++Zd2 (l.map (exT f))))++_)≠_;by_cases h0:of=[]
   ·rw[if_pos h0];exact Ze3 hs (.inl (by decide))
   ·rw[if_neg h0];exact Ze3 (ho.resolve_left h0) (.inl (by decide))
  ·exact (by decide:([40]:Str)≠[41])
theorem ZuN (l:List (List Tok)) (rest:List Tok):fo (Zjl l++rest):=by
 cases l
 ·exact ⟨(by decide:([41]:Str)≠[91]),(by decide:([41]:Str)≠[40]),(by decide:([41]:Str)≠[46])⟩
 ·exact ⟨(by decide:([44]:Str)≠[91]),(by decide:([44]:Str)≠[40]),(by decide:([44]:Str)≠[46])⟩
theorem ZnT {t:Tok} (rest:List Tok) (h:t.text≠[91]/\t.text≠[40]/\t.text≠[46]):fo (t :: rest):=h
theorem Zh2:∀(f:Nat) (x:Barb.Expr),Zaw f x=0->∀g,f<=g->∀rest,fo rest->Zat g (exT f x++rest)=.ok x rest
 | 0,x,h=>by cases h
 | f+1,x,h=>by
  intro g hg rest hr;obtain ⟨g,rfl⟩:∃m,g=m+1:=⟨g - 1,by omega⟩;have hg:f<=g:=by omega
  show Zfn (Zat g) _=_;have tl:∀l:List Barb.Expr,(∀y∈l,Zaw f y=0)->∀n acc rest,(Zjl (l.map (exT f))++rest).length < n->ZdR (Zat g) n acc (Zjl (l.map (exT f))++rest)=.ok (acc++l) rest:=by
   intro l
   induction l with
   | nil =>intro _ n acc rest hn;obtain ⟨n,rfl⟩:∃m,n=m+1:=⟨n - 1,by omega⟩;show ZdR (Zat g) (n+1) acc (sgT 41 :: rest)=_;unfold ZdR;rw[ZaD (by decide)];show (ZaH (sgT 41).text (sgT 41 :: rest)).then _=_;rw[Zcj,YaF];rfl
   | cons y l ih =>
    intro hl n acc rest hn;obtain ⟨n,rfl⟩:∃m,n=m+1:=⟨n - 1,by omega⟩;have e:Zjl ((y :: l).map (exT f))++rest=sgT 44 :: (exT f y++(Zjl (l.map (exT f))++rest)):=by simp[Zjl]
    rw[e] at hn ⊢;unfold ZdR;have:=Zbr (sgT 44) (exT f y++(Zjl (l.map (exT f))++rest));simp only at this;rw[this];have ij:=ZuN (l.map (exT f)) rest;show (Zat g _).then _=_;rw[Zh2 f y (hl y Yae) g hg _ ij];show ZdR (Zat g) n (acc++[y]) _=_;simp only[List.length_cons,Yab] at hn;rw[ih (λz hz=>hl z (Yad _ hz)) n (acc++[y]) rest (by simp only[Yab];omega)];simp
  have ls:∀l:List Barb.Expr,(∀y∈l,Zaw f y=0)->∀rest,ZcZ (Zat g) (Zd2 (l.map (exT f))++rest)=.ok l rest:=by
   intro l hl rest;cases l with
   | nil =>show ZcZ (Zat g) (sgT 41 :: rest)=_;unfold ZcZ;have:=Zbr (sgT 41) rest;simp only at this;rw[this]
   | cons y l =>
    have e:Zd2 ((y :: l).map (exT f))++rest=exT f y++(Zjl (l.map (exT f))++rest):=by simp[Zd2]
    rw[e];unfold ZcZ;rw[Zc7 (ZzA (hl y Yae) _)];have ij:=ZuN (l.map (exT f)) rest;show (Zat g _).then _=_;rw[Zh2 f y (hl y Yae) g hg _ ij];show ZdR (Zat g) _ [y] _=_;rw[tl l (λz hz=>hl z (Yad _ hz)) _ _ _ (YbR _)];rfl
  rcases Zgb h with ⟨n,hn,rfl⟩ | ⟨s,hs,rfl⟩ | ⟨s,a,hs,ha,rfl⟩ | ⟨of,s,l,ho,hs,hl,rfl⟩ | ⟨n,a,b,hn,ha,hb,rfl⟩
  ·show Zfn (Zat g) (⟨2,Lib.decDigits n⟩ :: rest)=_;unfold Zfn;rw[ZaD (Zx3 hn (by decide))];show (if Zgl (⟨2,Lib.decDigits n⟩ :: rest)=2 then (Zff (⟨2,Lib.decDigits n⟩ :: rest)).then _ else _)=_;rw[if_pos (show Zgl (⟨2,Lib.decDigits n⟩ :: rest)=2 from rfl)];unfold Zff;rw[if_pos (show Zgl (⟨2,Lib.decDigits n⟩ :: rest)=2 from rfl)];show PR.ok (Barb.Expr.mk 1 (Zt9 (Lib.decDigits n)) [] [] []) rest=_;rw[(Zha hn).1]
  ·show Zfn (Zat g) (⟨1,s⟩ :: rest)=_;unfold Zfn;rw[ZaD (Ze3 hs (.inl (by decide)))];show (if Zgl (⟨1,s⟩ :: rest)=2 then _ else (Zbc (⟨1,s⟩ :: rest)).then _)=_;rw[if_neg (by show ¬(1:Int)=2;decide),Zci _ hs];simp only[PR.then,Zc7 hr.1,Zc7 hr.2.1,Zc7 hr.2.2]
  ·have e:exT (f+1) (.mk 3 0 [] s [a])++rest=⟨1,s⟩ :: sgT 91 :: (exT f a++sgT 93 :: rest):=by show ([⟨1,s⟩]++([sgT 91]++(exT f a++[sgT 93])))++rest=_;simp
   rw[e];unfold Zfn;rw[ZaD (Ze3 hs (.inl (by decide)))];show (if Zgl (⟨1,s⟩ :: sgT 91 :: (exT f a++sgT 93 :: rest))=2 then _ else (Zbc (⟨1,s⟩ :: sgT 91 :: (exT f a++sgT 93 :: rest))).then _)=_;rw[if_neg (by show ¬(1:Int)=2;decide),Zci _ hs];have h1:=Zbr (sgT 91) (exT f a++sgT 93 :: rest);simp only at h1;simp only[PR.then,h1];rw[Zh2 f a ha g hg (sgT 93 :: rest) (ZnT _ (by decide))];have h2:=Zcj (sgT 93) rest;simp only at h2;simp only[h2]
  ·by_cases h0:of=[]
   ·subst h0;have e:exT (f+1) (.mk 4 0 [] s l)++rest=⟨1,s⟩ :: sgT 40 :: (Zd2 (l.map (exT f))++rest):=by show (([]:List Tok)++([⟨1,s⟩]++([sgT 40]++Zd2 (l.map (exT f)))))++rest=_;simp
    rw[e];unfold Zfn;rw[ZaD (Ze3 hs (.inl (by decide)))];show (if Zgl (⟨1,s⟩ :: sgT 40 :: (Zd2 (l.map (exT f))++rest))=2 then _ else (Zbc (⟨1,s⟩ :: sgT 40 :: (Zd2 (l.map (exT f))++rest))).then _)=_;rw[if_neg (by show ¬(1:Int)=2;decide),Zci _ hs];have h1:=Zbr (sgT 40) (Zd2 (l.map (exT f))++rest);simp only at h1;have h2:ZaE [91] (sgT 40 :: (Zd2 (l.map (exT f))++rest))=none:=ZaD (by decide);simp only[PR.then,h2,h1];rw[ls l hl]
   ·have jX:=ho.resolve_left h0;have e:exT (f+1) (.mk 4 0 of s l)++rest=⟨1,of⟩ :: sgT 46 :: ⟨1,s⟩ :: sgT 40 :: (Zd2 (l.map (exT f))++rest):=by show ((if of=[] then [] else [⟨1,of⟩]++[sgT 46])++([⟨1,s⟩]++([sgT 40]++Zd2 (l.map (exT f)))))++rest=_;rw[if_neg h0];simp
    rw[e];unfold Zfn;rw[ZaD (Ze3 jX (.inl (by decide)))];show (if Zgl (⟨1,of⟩ :: sgT 46 :: ⟨1,s⟩ :: sgT 40 :: (Zd2 (l.map (exT f))++rest))=2 then _ else (Zbc (⟨1,of⟩ :: sgT 46 :: ⟨1,s⟩ :: sgT 40 :: (Zd2 (l.map (exT f))++rest))).then _)=_;rw[if_neg (by show ¬(1:Int)=2;decide),Zci _ jX];have h1:=Zbr (sgT 46) (⟨1,s⟩ :: sgT 40 :: (Zd2 (l.map (exT f))++rest));simp only at h1;have h2:ZaE [91] (sgT 46 :: ⟨1,s⟩ :: sgT 40 :: (Zd2 (l.map (exT f))++rest))=none:=ZaD (by decide);have h3:ZaE [40] (sgT 46 :: ⟨1,s⟩ :: sgT 40 :: (Zd2 (l.map (exT f))++rest))=none:=ZaD (by decide);have h4:=Zcj (sgT 40) (Zd2 (l.map (exT f))++rest);simp only at h4;simp only[PR.then,h2,h3,h1,Zci _ hs,h4];rw[ls l hl]
  ·have e:exT (f+1) (.mk 5 n [] [] [a,b])++rest=sgT 40 :: (exT f a++⟨3,opS n⟩ :: (exT f b++sgT 41 :: rest)):=by show ([sgT 40]++(exT f a++([]++([⟨3,opS n⟩]++(exT f b++[sgT 41])))))++rest=_;simp
   rw[e];obtain ⟨o1,o2⟩:=Zqi hn;have jX:∀g∈ZlP,g≠[91]/\g≠[40]/\g≠[46]:=by decide
   unfold Zfn;have h1:=Zbr (sgT 40) (exT f a++⟨3,opS n⟩ :: (exT f b++sgT 41 :: rest));simp only at h1;simp only[h1];rw[Zh2 f a ha g hg _ (ZnT _ (jX _ o1))];show (if opP (opS n)=0 then _ else (Zat g (exT f b++sgT 41 :: rest)).then _)=_;rw[if_neg (by rw[o2];omega),Zh2 f b hb g hg _ (ZnT _ (by decide))];have h2:=Zcj (sgT 41) rest;simp only at h2;simp only[PR.then,h2];show PR.ok (Barb.Expr.mk 5 (opP (opS n)) [] [] [a,b]) rest=_;rw[o2]
abbrev wdT (s:Str):Tok:=⟨1,s⟩
def stT (bl:List Barb.Stmt->List Tok):Barb.Stmt->List Tok
 | .mk k s xs b e =>
  if k=1 then [wdT s]++([sgT 61]++((xs.map (exT 12)).headD []++[sgT 59]))
  else if k=2 then [wdT s]++([sgT 91]++((xs.map (exT 12)).headD []++([sgT 93,sgT 61]++((xs.map (exT 12)).tail.headD []++[sgT 59]))))
  else if k=5 then [wdT [114,101,116,117,114,110]]++((xs.map (exT 12)).headD []++[sgT 59])
  else if k=6 then [wdT [115,97,121]]++((xs.map (exT 12)).headD []++[sgT 59])
  else if k=4 then [wdT [119,104,105,108,101]]++((xs.map (exT 12)).headD []++([]++(bl b++[])))
  else [wdT [105,102]]++((xs.map (exT 12)).headD []++([]++(bl b++([wdT [101,108,115,101]]++(bl e++[])))))
def blT:Nat->List Barb.Stmt->List Tok
 | 0,_=>[]
 | f+1,l=>[sgT 123]++(l.flatMap (stT (blT f))++([]++[sgT 125]))
theorem Zd0 (n:Nat):Zc0 (Zds n) []:=by
 induction n with
 | zero=>exact Zc0.nil
 | succ n ih=>exact (Zc0.blank (c:=32) (by decide)).app ih
theorem Zma {s:Str} (h:s∈ZqA):Zlr s:=by
 have h1:∀s∈ZqA,(1<=s.length/\s.length<=8)/\∀c∈s,97<=c.toNat/\c.toNat<=122:=by decide
 obtain ⟨h2,h3⟩:=h1 s h;exact ⟨h2,λj hj=>.inl (h3 _ (Yai hj))⟩
theorem Zen {s:Str} (h:s∈ZqA):Zc0 (s++[32]) [wdT s]:=(ZsM.word 1 (ZeR (Zma h)).1 (ZeR (Zma h)).2.1 (ZeR (Zma h)).2.2).app (Zc0.blank (c:=32) (by decide)) (λ_=>ZbZ 32 _ (by decide))
theorem ZxX:Zc0 [32,61,32] [sgT 61]:=(Zc0.blank (c:=32) (by decide)).app (Zty (g:=[61]) (by decide))
theorem ZiS:Zc0 [59,10] [sgT 59]:=(Zc1 59 (by decide)).app (Zc0.blank (c:=10) (by decide))
theorem ZAq {f n:Nat} (ih:∀n l,Zai f l=0->Zc0 (blS f n l) (blT f l)) {x:Barb.Stmt} (h:ZbI (Zai f) x=0):Zc0 (stS (blS f) n x) (stT (blT f) x):=by
 rcases ZfX h with ⟨s,a,hs,ha,_,rfl⟩ | ⟨s,a,b,hs,ha,hb,_,rfl⟩ | ⟨a,b,e,ha,hb,he,rfl⟩ | ⟨a,b,ha,hb,_,rfl⟩ | ⟨a,ha,_,rfl⟩ | ⟨a,ha,_,rfl⟩
 ·exact (Zd0 n).app (ZfI hs (ZxX.app ((Zfj 12 a ha).app ZiS (λ_=>ZbZ 59 _ (by decide)))) (λ_=>ZbZ 32 _ (by decide)))
 ·exact (Zd0 n).app (ZfI hs ((Zc1 91 (by decide)).app ((Zfj 12 a ha).app (((Zc1 93 (by decide)).app ZxX).app ((Zfj 12 b hb).app ZiS (λ_=>ZbZ 59 _ (by decide)))) (λ_=>ZbZ 93 _ (by decide)))) (λ_=>ZbZ 91 _ (by decide)))
 ·exact (Zd0 n).app ((Zen (s:=[105,102]) (by decide)).app ((Zfj 12 a ha).app ((Zc0.blank (c:=32) (by decide)).app ((ih n b hb).app (((Zc0.blank (c:=32) (by decide)).app (Zen (s:=[101,108,115,101]) (by decide))).app ((ih n e he).app (Zc0.blank (c:=10) (by decide)))))) (λ_=>ZbZ 32 _ (by decide))))
 ·exact (Zd0 n).app ((Zen (s:=[119,104,105,108,101]) (by decide)).app ((Zfj 12 a ha).app ((Zc0.blank (c:=32) (by decide)).app ((ih n b hb).app (Zc0.blank (c:=10) (by decide)))) (λ_=>ZbZ 32 _ (by decide))))
 ·exact (Zd0 n).app ((Zen (s:=[114,101,116,117,114,110]) (by decide)).app ((Zfj 12 a ha).app ZiS (λ_=>ZbZ 59 _ (by decide))))
 ·exact (Zd0 n).app ((Zen (s:=[115,97,121]) (by decide)).app ((Zfj 12 a ha).app ZiS (λ_=>ZbZ 59 _ (by decide))))
theorem Zhk {α:Type} {f:α->Str} {g:α->List Tok}:∀{l:List α},(∀x∈l,Zc0 (f x) (g x))->Zc0 (l.flatMap f) (l.flatMap g)
 | [],_=>Zc0.nil
 | x :: l,h=>by rw[Ybb,Ybb];exact (h x Yae).app (Zhk λy hy=>h y (Yad _ hy))
theorem Zx7:∀(f n:Nat) (l:List Barb.Stmt),Zai f l=0->Zc0 (blS f n l) (blT f l)
 | 0,_,_,h=>by cases h
 | f+1,n,l,h=>((Zc1 123 (by decide)).app (Zc0.blank (c:=10) (by decide))).app ((Zhk λx hx=>ZAq (Zx7 f) (Zaf h x hx)).app ((Zd0 n).app (Zc1 125 (by decide))))
theorem ZBs {f:Nat} {l:List Barb.Stmt} (h:Zai f l=0) (rest:List Tok):fo (blT f l++rest):=by
 cases f with
 | zero=>cases h
 | succ f=>exact ⟨(by decide:([123]:Str)≠[91]),(by decide:([123]:Str)≠[40]),(by decide:([123]:Str)≠[46])⟩
theorem ZyA {f:Nat} {x:Barb.Stmt} (h:ZbI (Zai f) x=0) (l:List Tok):Zbi (stT (blT f) x++l)≠[125]:=by
 rcases ZfX h with ⟨s,a,hs,ha,_,rfl⟩ | ⟨s,a,b,hs,ha,hb,_,rfl⟩ | ⟨a,b,e,ha,hb,he,rfl⟩ | ⟨a,b,ha,hb,_,rfl⟩ | ⟨a,ha,_,rfl⟩ | ⟨a,ha,_,rfl⟩
 ·exact Ze3 hs (.inl (by decide))
 ·exact Ze3 hs (.inl (by decide))
 ·exact (by decide:([105,102]:Str)≠[125])
 ·exact (by decide:([119,104,105,108,101]:Str)≠[125])
 ·exact (by decide:([114,101,116,117,114,110]:Str)≠[125])
 ·exact (by decide:([115,97,121]:Str)≠[125])
theorem Zyz {f g:Nat} (hg:12<=g) (ih:∀l,Zai f l=0->∀rest,Za5 (ZaX g) (blT f l++rest)=.ok l rest) {x:Barb.Stmt} (h:ZbI (Zai f) x=0) (rest:List Tok):ZaX (g+1) (stT (blT f) x++rest)=.ok x rest:=by
 show doP (ZaX g) (Zat g) _=_;have hx:=fun (a:Barb.Expr) (ha:Zaw 12 a=0) (r:List Tok) (hr:fo r)=>Zh2 12 a ha g hg r hr;have iz:=Zcj (sgT 59) rest;simp only at iz;rcases ZfX h with ⟨s,a,hs,ha,_,rfl⟩ | ⟨s,a,b,hs,ha,hb,_,rfl⟩ | ⟨a,b,e,ha,hb,he,rfl⟩ | ⟨a,b,ha,hb,_,rfl⟩ | ⟨a,ha,_,rfl⟩ | ⟨a,ha,_,rfl⟩
 ·have e:stT (blT f) (.mk 1 s [a] [] [])++rest=wdT s :: sgT 61 :: (exT 12 a++sgT 59 :: rest):=by show ([wdT s]++([sgT 61]++(exT 12 a++[sgT 59])))++rest=_;simp
  rw[e];unfold doP;rw[ZaD (Ze3 hs (.inr (by decide)))];simp only[ZaD (t:=wdT s) (Ze3 hs (.inr (by decide:[119,104,105,108,101]∈ZqA))),ZaD (t:=wdT s) (Ze3 hs (.inr (by decide:[114,101,116,117,114,110]∈ZqA))),ZaD (t:=wdT s) (Ze3 hs (.inr (by decide:[115,97,121]∈ZqA)))];rw[Zci _ hs];have h2:ZaE [91] (sgT 61 :: (exT 12 a++sgT 59 :: rest))=none:=ZaD (by decide);have h3:=Zcj (sgT 61) (exT 12 a++sgT 59 :: rest);simp only at h3;simp only[PR.then,h2,h3,hx a ha _ (ZnT (t:=sgT 59) rest (by decide)),iz];rfl
 ·have e:stT (blT f) (.mk 2 s [a,b] [] [])++rest=wdT s :: sgT 91 :: (exT 12 a++sgT 93 :: sgT 61 :: (exT 12 b++sgT 59 :: rest)):=by show ([wdT s]++([sgT 91]++(exT 12 a++([sgT 93,sgT 61]++(exT 12 b++[sgT 59])))))++rest=_;simp
  rw[e];unfold doP;rw[ZaD (Ze3 hs (.inr (by decide)))];simp only[ZaD (t:=wdT s) (Ze3 hs (.inr (by decide:[119,104,105,108,101]∈ZqA))),ZaD (t:=wdT s) (Ze3 hs (.inr (by decide:[114,101,116,117,114,110]∈ZqA))),ZaD (t:=wdT s) (Ze3 hs (.inr (by decide:[115,97,121]∈ZqA)))];rw[Zci _ hs];have h2:=Zbr (sgT 91) (exT 12 a++sgT 93 :: sgT 61 :: (exT 12 b++sgT 59 :: rest));have h3:=Zcj (sgT 93) (sgT 61 :: (exT 12 b++sgT 59 :: rest));have h4:=Zcj (sgT 61) (exT 12 b++sgT 59 :: rest);simp only at h2 h3 h4;simp only[PR.then,h2,h3,h4,hx a ha _ (ZnT (t:=sgT 93) _ (by decide)),hx b hb _ (ZnT (t:=sgT 59) rest (by decide)),iz];rfl
 ·have e1:stT (blT f) (.mk 3 [] [a] b e)++rest=wdT [105,102] :: (exT 12 a++(blT f b++wdT [101,108,115,101] :: (blT f e++rest))):=by show ([wdT [105,102]]++(exT 12 a++([]++(blT f b++([wdT [101,108,115,101]]++(blT f e++[]))))))++rest=_;simp
  rw[e1];unfold doP;have h1:=Zbr (wdT [105,102]) (exT 12 a++(blT f b++wdT [101,108,115,101] :: (blT f e++rest)));have h2:=Zbr (wdT [101,108,115,101]) (blT f e++rest);simp only at h1 h2;simp only[h1,hx a ha _ (ZBs hb _),PR.then,ih b hb,h2,ih e he]
 ·have e1:stT (blT f) (.mk 4 [] [a] b [])++rest=wdT [119,104,105,108,101] :: (exT 12 a++(blT f b++rest)):=by show ([wdT [119,104,105,108,101]]++(exT 12 a++([]++(blT f b++[]))))++rest=_;simp
  rw[e1];unfold doP;have h0:ZaE [105,102] (wdT [119,104,105,108,101] :: (exT 12 a++(blT f b++rest)))=none:=ZaD (by decide);have h1:=Zbr (wdT [119,104,105,108,101]) (exT 12 a++(blT f b++rest));simp only at h1;simp only[h0,h1,hx a ha _ (ZBs hb _),PR.then,ih b hb]
 ·have e1:stT (blT f) (.mk 5 [] [a] [] [])++rest=wdT [114,101,116,117,114,110] :: (exT 12 a++sgT 59 :: rest):=by show ([wdT [114,101,116,117,114,110]]++(exT 12 a++[sgT 59]))++rest=_;simp
  rw[e1];unfold doP;have h0:ZaE [105,102] (wdT [114,101,116,117,114,110] :: (exT 12 a++sgT 59 :: rest))=none:=ZaD (by decide);have h1:ZaE [119,104,105,108,101] (wdT [114,101,116,117,114,110] :: (exT 12 a++sgT 59 :: rest))=none:=ZaD (by decide);have h2:=Zbr (wdT [114,101,116,117,114,110]) (exT 12 a++sgT 59 :: rest);simp only at h2;simp only[h0,h1,h2,hx a ha _ (ZnT (t:=sgT 59) rest (by decide)),PR.then,iz];rfl
 ·have e1:stT (blT f) (.mk 6 [] [a] [] [])++rest=wdT [115,97,121] :: (exT 12 a++sgT 59 :: rest):=by show ([wdT [115,97,121]]++(exT 12 a++[sgT 59]))++rest=_;simp
  rw[e1];unfold doP;have h0:ZaE [105,102] (wdT [115,97,121] :: (exT 12 a++sgT 59 :: rest))=none:=ZaD (by decide);have h1:ZaE [119,104,105,108,101] (wdT [115,97,121] :: (exT 12 a++sgT 59 :: rest))=none:=ZaD (by decide);have h2:ZaE [114,101,116,117,114,110] (wdT [115,97,121] :: (exT 12 a++sgT 59 :: rest))=none:=ZaD (by decide);have h3:=Zbr (wdT [115,97,121]) (exT 12 a++sgT 59 :: rest);simp only at h3;simp only[h0,h1,h2,h3,hx a ha _ (ZnT (t:=sgT 59) rest (by decide)),PR.then,iz];rfl
theorem Zjo {st:List Tok->PR Barb.Stmt} {tk:Barb.Stmt->List Tok} (rest:List Tok):∀(l:List Barb.Stmt),(∀x∈l,∀r,st (tk x++r)=.ok x r/\Zbi (tk x++r)≠[125])->∀(n:Nat) (acc:List Barb.Stmt),l.length < n->Zaz st n acc (l.flatMap tk++sgT 125 :: rest)=.ok (acc++l) rest
 | [],_,n+1,acc,_=>by have h1:=Zbr (sgT 125) rest;simp only at h1;show Zaz st (n+1) acc (sgT 125 :: rest)=_;simp only[Zaz,h1,YaF]
 | x :: l,h,n+1,acc,hn=>by obtain ⟨h1,h2⟩:=h x Yae (l.flatMap tk++sgT 125 :: rest);rw[Ybb,Yax];simp only[Zaz,Zc7 h2,h1,PR.then];rw[Zjo rest l (λy hy=>h y (Yad _ hy)) n (acc++[x]) (by simpa using hn),Yax];rfl
theorem Zhj {α:Type} {tk:α->List Tok}:∀{l:List α},(∀x∈l,tk x≠[])->l.length<=(l.flatMap tk).length
 | [],_=>Yas _
 | x :: l,h=>by have h1:=Ybm.2 (h x Yae);have h2:=Zhj (tk:=tk) (l:=l) λy hy=>h y (Yad _ hy);rw[Ybb,Yab,List.length_cons];omega
theorem ZBW {f:Nat} {x:Barb.Stmt} (h:ZbI (Zai f) x=0):stT (blT f) x≠[]:=by rcases ZfX h with ⟨s,a,hs,ha,_,rfl⟩ | ⟨s,a,b,hs,ha,hb,_,rfl⟩ | ⟨a,b,e,ha,hb,he,rfl⟩ | ⟨a,b,ha,hb,_,rfl⟩ | ⟨a,ha,_,rfl⟩ | ⟨a,ha,_,rfl⟩<;>exact List.cons_ne_nil _ _
theorem Zvf:∀(f:Nat) (l:List Barb.Stmt),Zai f l=0->∀g,f+12<=g->∀rest,Za5 (ZaX g) (blT f l++rest)=.ok l rest
 | 0,_,h,_,_,_=>by cases h
 | f+1,l,h,g,hg,rest=>by
  obtain ⟨g,rfl⟩:∃m,g=m+1:=⟨g - 1,by omega⟩;have hl:=Zaf h;have e:blT (f+1) l++rest=sgT 123 :: (l.flatMap (stT (blT f))++sgT 125 :: rest):=by show ([sgT 123]++(l.flatMap (stT (blT f))++([]++[sgT 125])))++rest=_;simp
  rw[e];have h1:=Zcj (sgT 123) (l.flatMap (stT (blT f))++sgT 125 :: rest);simp only at h1;simp only[Za5,h1,PR.then];rw[Zjo rest l (λx hx r=>⟨Zyz (by omega) (λl hl=>Zvf f l hl g (by omega)) (hl x hx) r,ZyA (hl x hx) r⟩) _ [] (by
   have:=Zhj (tk:=stT (blT f)) (l:=l) λx hx=>ZBW (hl x hx);rw[Yab,List.length_cons];omega)]
  rfl
end ZN
