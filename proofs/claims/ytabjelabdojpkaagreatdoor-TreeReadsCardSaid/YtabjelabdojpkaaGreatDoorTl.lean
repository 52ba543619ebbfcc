/-
  What the document says of tokens: the contracts.
-/
import Derived.Test.YtabjelabdojpkaaGreatDoorTk
import Derived.Test.YtabjelabdojpkaaGreatDoorSe
namespace Go.Proofs.YtabjelabdojpkaaGreatDoor
open Go Go.Dm Go.Eng Barb
variable {L:Lv}

def onesL:List UInt8:=[123,125,40,41,91,93,44,59,46,61,43,45,42,38,124,94,60]
def twoS (s:Str):Prop:=s.take 2=[60,60]∨s.take 2=[62,62]∨s.take 2=[61,61]
theorem sign_is2 {s:Str} (h:twoS s):(signOf s).length=2:=by
 match s,h with
 | [],h=>simp[twoS] at h
 | [c],h=>simp[twoS] at h
 | c :: d :: r,h =>
  simp only[twoS,List.take_succ_cons,List.take_zero,List.cons.injEq,and_true] at h
  rcases h with ⟨rfl,rfl⟩ | ⟨rfl,rfl⟩ | ⟨rfl,rfl⟩<;>simp[signOf,signL,Lib.hasPrefix,List.isPrefixOf]
theorem sign_ones {s:Str} (h:¬twoS s):signOf s=((onesL.map fun c=>[c]).find? fun t=>Lib.hasPrefix s t).getD []:=by
 have e:signL=[[60,60],[62,62],[61,61]]++onesL.map fun c=>[c]:=by decide
 unfold signOf
 rw[e,List.find?_append]
 have:([[60,60],[62,62],[61,61]]:List (List UInt8)).find? (fun t=>Lib.hasPrefix s t)=none:=by
  match s,h with
  | [],h=>decide
  | [c],h=>simp[Lib.hasPrefix,List.isPrefixOf]
  | c :: d :: r,h =>
   simp only[twoS,List.take_succ_cons,List.take_zero,List.cons.injEq,and_true,not_or] at h
   simp only[List.find?_cons,Lib.hasPrefix,List.isPrefixOf,Bool.and_true,List.find?_nil]
   have h0:∀ a b:UInt8,¬(c=a∧d=b)→(a == c && b == d)=false:=fun a b hn=>by
    rw[Bool.and_eq_false_iff]
    by_cases hc:c=a
    ·exact .inr (beq_eq_false_iff_ne.2 (fun e=>hn ⟨hc,e.symm⟩))
    ·exact .inl (beq_eq_false_iff_ne.2 (fun e=>hc e.symm))
   rw[h0 _ _ h.1,h0 _ _ h.2.1,h0 _ _ h.2.2]
 rw[this]
 rfl
theorem sign_is1 {s:Str} {i:Nat} (h:¬twoS s) (hi:i < onesL.length) (hs:0 < s.length) (e:s[0]=onesL[i]):(signOf s).length=1:=by
 rw[sign_ones h]
 cases s with
 | nil=>simp at hs
 | cons c r =>
  have e:c=onesL[i]:=e
  cases hf:(onesL.map fun c=>[c]).find? (fun t=>Lib.hasPrefix (c :: r) t) with
  | none =>
   have:=List.find?_eq_none.1 hf [c] (List.mem_map.2 ⟨c,by rw[e];exact List.getElem_mem _,rfl⟩)
   simp[Lib.hasPrefix,List.isPrefixOf] at this
  | some t =>
   obtain ⟨x,_,rfl⟩:=List.mem_map.1 (List.mem_of_find?_eq_some hf)
   rfl
theorem sign_is0 {s:Str} (h:¬twoS s) (hn:∀ (j:Nat) (_:j < onesL.length) (hs:0 < s.length),s[0]≠onesL[j]):signOf s=[]:=by
 rw[sign_ones h]
 cases hf:(onesL.map fun c=>[c]).find? (fun t=>Lib.hasPrefix s t) with
 | none=>rfl
 | some t =>
  have hp:=List.find?_some hf
  obtain ⟨x,hx,rfl⟩:=List.mem_map.1 (List.mem_of_find?_eq_some hf)
  cases s with
  | nil=>simp[Lib.hasPrefix,List.isPrefixOf] at hp
  | cons c r =>
   have hxc:x=c:=by simpa [Lib.hasPrefix,List.isPrefixOf] using hp
   obtain ⟨j,hj,rfl⟩:=List.getElem_of_mem hx
   exact absurd hxc.symm (hn j hj (by simp))
set_option maxRecDepth 20000 in
theorem signAt_any (s:Str) (hs:s.length≤9223372036854775807):CT Tryz.prog (gl L) 31 [.g (.str s)] (Is (.g (.int (((signOf s).length:Nat):Int)))):=by
 refine enter hT hF hM Tryz.func31 rfl 40 rfl (by kernel_rfl) [.tmp 2] rfl [.g (.str s)] rfl _ ?_
 have two:twoS s→∀ h:Heap,RetTo (Is (.g (.int (((signOf s).length:Nat):Int)))) h (.g (.int 2)):=fun h _=>retI (by rw[sign_is2 h];rfl)
 have small:s.length < 2→¬twoS s:=fun h=>by
  match s,h with
  | [],_=>simp[twoS]
  | [c],_=>simp[twoS]
 refine ⟨fun h1=>⟨2,rfl,by omega,fun h2=>⟨rfl,two (.inl h2) _⟩,fun h2=>⟨2,rfl,by omega,fun h3=>⟨rfl,two (.inr (.inl h3)) _⟩,fun h3=>⟨2,rfl,by omega,fun h4=>⟨rfl,two (.inr (.inr h4)) _⟩,fun h4=>?t1⟩⟩⟩,fun h1=>?t2⟩
 all_goals have ht:¬twoS s:=by first | (rintro (h | h | h)<;>contradiction) | exact small (by omega)
 all_goals
  refine loopR (ι:=Nat) (fun i=>[(4,.g (.int (i:Int)))]) (fun _=>[]) (fun i=>i≤17∧∀ (j:Nat) (hj:j < onesL.length) (hs:0 < s.length),j < i→s[0]≠onesL[j]) (fun i=>17 - i)
   ⟨0,[],⟨rfl,.inl rfl,.inr ⟨lk rfl,trivial⟩,rfl⟩,Nat.zero_le _,fun j _ _ h=>absurd h (Nat.not_lt_zero j)⟩ ?_
  intro Rd hRd i ⟨hi,ha⟩
  refine ⟨fun h5=>?_,fun h5=>?_⟩
  ·have hi17:i < onesL.length:=Int.ofNat_lt.1 h5
   have hi':i < 17:=hi17
   refine ⟨none,rfl,fun h6=>⟨0,s[0]'(by omega),rfl,List.getElem?_eq_getElem _,i,onesL[i],rfl,List.getElem?_eq_getElem _,fun h7=>⟨rfl,retI ?_⟩,fun h7=>⟨_,I64.wrap (by unfold I64;omega),?_⟩⟩,fun h6=>⟨_,I64.wrap (by unfold I64;omega),?_⟩⟩
   ·rw[sign_is1 ht hi17 (by omega) (UInt8.toNat_inj.1 (Int.ofNat_inj.1 h7))];rfl
   ·refine hRd _ _ _ ⟨i+1,[],⟨rfl,.inl rfl,.inr ⟨lk rfl,trivial⟩,rfl⟩,⟨by omega,fun j hj hs' hji=>?_⟩,by omega⟩
    by_cases e:j=i
    ·subst e;exact fun e=>h7 (congrArg (fun c:UInt8=>((c.toNat:Nat):Int)) e)
    ·exact ha j hj hs' (by omega)
   ·exact hRd _ _ _ ⟨i+1,[],⟨rfl,.inl rfl,.inr ⟨lk rfl,trivial⟩,rfl⟩,⟨by omega,fun j hj hs' hji=>by omega⟩,by omega⟩
  ·have h17:¬((i:Int) < 17):=h5
   exact ⟨rfl,retI (by rw[sign_is0 ht (fun j hj hs'=>ha j hj hs' (by have:j < 17:=hj;omega))];rfl)⟩
theorem stEq_Tok:StEq Tryz.prog 52 [0,1]:=stEq_plain (by kernel_rfl) (by kernel_rfl) (by kernel_rfl) (by kernel_rfl)
set_option maxRecDepth 20000 in
theorem TokensOf_any (s:Str) (hs:s.length≤9223372036854775807):CT Tryz.prog (gl L) 10 [.g (.str s)] (Is (.tuple [.g (.sl 2 ((cutL s).map Tok.g)),.g (.int (cutE s))])):=by
 refine enter hT hF hM Tryz.func10 rfl 95 rfl (by kernel_rfl) [.tmp 2,.tmp 3] rfl [.g (.str s)] rfl _ ?_
 refine ⟨fun h=>⟨rfl,retNE (by unfold cutE;rw[if_pos (by omega)]) (by unfold cutL;rw[if_pos (by omega)];rfl)⟩,fun h=>?_⟩
 have hsz:¬3000 < s.length:=by omega
 refine loopR (ι:=Nat × List Tok) (fun i=>[(5,.g (.int (i.1:Int))),(4,.row 0)]) (fun i=>[.row (i.2.map Tok.g) 52 2]) (fun i=>i.1≤s.length∧i.2.length≤i.1∧cutF s=(cutF (s.drop i.1)).map (i.2++·)) (fun i=>s.length - i.1)
  ⟨(0,[]),[.nil 52 2],⟨rfl,.inl rfl,.inr ⟨lk rfl,.inr rfl,trivial⟩,rfl⟩,Nat.zero_le _,Nat.le_refl _,by simp⟩ ?_
 rintro Rd hRd ⟨i,xs⟩ ⟨hi,hx,hc⟩
 refine ⟨fun h1=>?_,fun h1=>?_⟩
 rotate_left
 ·have hii:i=s.length:=by omega
  have hc':cutF s=some xs:=by rw[hc,hii,List.drop_length];simp[cutF,cutO]
  obtain ⟨e1,e2⟩:=cut_yes hsz hc'
  exact ⟨rfl,retRE rfl e1.symm (by rw[e2])⟩
 have hil:i < s.length:=by omega
 have hd:=drop_at hil
 have hx':xs.length≤i:=hx
 refine ⟨i,s[i],rfl,List.getElem?_eq_getElem hil,fun h2=>?_,fun h2=>⟨i,s[i],rfl,List.getElem?_eq_getElem hil,fun h3=>?_,fun h3=>?_⟩⟩
 ·refine ⟨_,I64.wrap (by unfold I64;omega),?_⟩
  refine hRd _ _ _ ⟨(i+1,xs),[.old 0],⟨rfl,.inl rfl,.inr ⟨lk rfl,lk rfl,trivial⟩,rfl⟩,⟨hil,Nat.le_succ_of_le hx,?_⟩,by omega⟩
  rw[hc,hd,cutF_blank (by unfold blankA;exact decide_eq_true (.inl (UInt8.toNat_inj.1 (by simpa using Int.ofNat_inj.1 h2))))]
 ·refine ⟨_,I64.wrap (by unfold I64;omega),?_⟩
  refine hRd _ _ _ ⟨(i+1,xs),[.old 0],⟨rfl,.inl rfl,.inr ⟨lk rfl,lk rfl,trivial⟩,rfl⟩,⟨hil,Nat.le_succ_of_le hx,?_⟩,by omega⟩
  rw[hc,hd,cutF_blank (by unfold blankA;exact decide_eq_true (.inr (UInt8.toNat_inj.1 (by simpa using Int.ofNat_inj.1 h3))))]
 ·have hb:blankA s[i]=false:=by
   unfold blankA
   refine decide_eq_false ?_
   rintro (e | e)
   ·exact h2 (by rw[e];rfl)
   ·exact h3 (by rw[e];rfl)
  refine loopR (ι:=Nat) (fun k=>[(6,.g (.int (k:Int))),(5,.g (.int (i:Int))),(4,.row 0)]) (fun _=>[.row (xs.map Tok.g) 52 2]) (fun k=>i≤k∧k≤s.length∧runS (s.drop i)=k - i+runS (s.drop k)) (fun k=>s.length - k)
   ⟨i,[.old 0],⟨rfl,.inl rfl,.inr ⟨lk rfl,lk rfl,lk rfl,trivial⟩,rfl⟩,Nat.le_refl _,by omega,by omega⟩ ?_
  intro Rk hRk k ⟨hik,hkl,hk⟩
  have lb:∀ c:UInt8,I64 (c.toNat:Int):=fun c=>by unfold I64;have:=c.toNat_lt;omega
  refine ⟨fun h4=>⟨k,s[k]'(Int.ofNat_lt.1 h4),rfl,List.getElem?_eq_getElem _,lb _,callIs (.inl rfl) (In0_any _ 97 122) ⟨fun h5=>?s1,fun h5=>⟨k,s[k]'(Int.ofNat_lt.1 h4),rfl,List.getElem?_eq_getElem _,lb _,callIs (.inl rfl) (In0_any _ 48 57) ⟨fun h6=>?s2,fun h6=>?t1⟩⟩⟩⟩,fun h4=>?t2⟩
  case s1 =>
   refine ⟨_,I64.wrap (by unfold I64;omega),?_⟩
   exact hRk _ _ _ ⟨k+1,[.old 0],⟨rfl,.inl rfl,.inr ⟨lk rfl,lk rfl,lk rfl,trivial⟩,rfl⟩,⟨by omega,by omega,by have:=run_yes (Int.ofNat_lt.1 h4) (.inl (by unfold lowc;omega));omega⟩,by omega⟩
  case s2 =>
   refine ⟨_,I64.wrap (by unfold I64;omega),?_⟩
   exact hRk _ _ _ ⟨k+1,[.old 0],⟨rfl,.inl rfl,.inr ⟨lk rfl,lk rfl,lk rfl,trivial⟩,rfl⟩,⟨by omega,by omega,by have:=run_yes (Int.ofNat_lt.1 h4) (.inr (by unfold digc;omega));omega⟩,by omega⟩
  all_goals have hr:runS (s.drop i)=k - i:=by first | (have:=run_no (Int.ofNat_lt.1 h4) (by unfold lowc;omega) (by unfold digc;omega);omega) | (rw[List.drop_eq_nil_of_le (show s.length≤k by omega)] at hk;exact hk)
  all_goals
   clear hk
   have htk:(s.take k).drop i=(s.drop i).take (runS (s.drop i)):=by rw[hr,List.drop_take]
   have hN:=NumberOf_any (L:=L) ((s.take k).drop i) (by rw[List.length_drop,List.length_take];omega)
   obtain ⟨b,hB⟩:∃ b,numB ((s.take k).drop i)=b:=⟨_,rfl⟩
   rw[hB] at hN
   have hnum:numB ((s.drop i).take (runS (s.drop i)))=b:=by rw[← htk,hB]
   have hcut:∀ (tk:Tok),tokAt (s.drop i)=some tk→cutF s=(cutF (s.drop (i+tk.text.length))).map ((xs++[tk])++·):=fun tk h=>cut_step hil hb hc h
   have stop:tokAt (s.drop i)=none→∀ h:Heap,RetTo (Is (.tuple [.g (.sl 2 ((cutL s).map Tok.g)),.g (.int (cutE s))])) h (.tuple [.nils,.g (.int 4)]):=fun hn h=>by
    obtain ⟨e1,e2⟩:=cut_no hsz (cut_stop hil hb hc hn)
    exact retNE e1.symm (by rw[e2];rfl)
   refine ⟨i,k,rfl,rfl,hik,hkl,?_⟩
   refine callIs (.inl rfl) hN ?_
   refine ⟨fun h4=>?_,fun h4=>?_⟩
   ·have hki:k=i:=by omega
    have ht:tokAt (s.drop i)=if signOf (s.drop i)=[] then none else some ⟨3,signOf (s.drop i)⟩:=by
     unfold tokAt
     rw[if_pos (by omega)]
    have hs2:=sign_two (s.drop i)
    refine ⟨i,rfl,hi,callIs (.inl rfl) (signAt_any _ (by rw[List.length_drop];omega)) ⟨fun h5=>⟨rfl,stop ?_ _⟩,fun h5=>?_⟩⟩
    ·rw[ht,if_pos (List.eq_nil_of_length_eq_zero (by omega))]
    ·have hz:¬signOf (s.drop i)=[]:=fun e=>h5 (by rw[e];rfl)
     have hl:=sign_len hz
     have hst:(s.take (i+(signOf (s.drop i)).length)).drop i=signOf (s.drop i):=by
      rw[List.drop_take,show i+(signOf (s.drop i)).length - i=(signOf (s.drop i)).length from by omega]
      exact (sign_in hz).2.symm
     rw[List.length_drop] at hl
     refine ⟨_,I64.wrap (by unfold I64;omega),i,i+(signOf (s.drop i)).length,rfl,rfl,by omega,by omega,?_⟩
     refine ⟨[Tok.g ⟨3,(s.take (i+(signOf (s.drop i)).length)).drop i⟩],rfl,rfl,⟨rfl,rfl,trivial⟩,?_⟩
     refine ⟨⟨by simp only[maxLen,List.length_cons,List.length_nil,List.length_map];omega,by simp only[List.length_cons,List.length_nil,List.length_map];omega⟩,?_⟩
     refine hRd _ _ _ ⟨(i+(signOf (s.drop i)).length,xs++[⟨3,signOf (s.drop i)⟩]),[.old 2],⟨rfl,.inr ⟨⟨?_,rfl,rfl⟩,trivial⟩,.inr ⟨lk rfl,lk rfl,trivial⟩,rfl⟩,⟨?_,?_,?_⟩,?_⟩
     ·rw[List.map_append,hst];rfl
     ·show i+_≤s.length;omega
     ·show (xs++[_]).length≤i+_;rw[List.length_append];simp only[List.length_cons,List.length_nil];omega
     ·exact hcut _ (by rw[ht,if_neg hz])
     ·show s.length - (i+_) < s.length - i;omega
   ·have hki:¬k=i:=by omega
    have hnz:¬runS (s.drop i)=0:=by omega
    have hlk:((s.take k).drop i).length=k - i:=by rw[List.length_drop,List.length_take];omega
    have next:∀ (tk:Tok),tokAt (s.drop i)=some tk→tk.text=(s.take k).drop i→k≤s.length∧(xs++[tk]).length≤k∧cutF s=(cutF (s.drop k)).map ((xs++[tk])++·):=fun tk h e=>by
     refine ⟨hkl,by rw[List.length_append];simp only[List.length_cons,List.length_nil];omega,?_⟩
     have:=hcut tk h
     rw[e,hlk,show i+(k - i)=k from by omega] at this
     exact this
    cases b
    ·refine callIs (.inl rfl) (WordMay_any _ (by omega)) ⟨fun h6=>?_,fun h6=>⟨rfl,stop (by unfold tokAt;rw[if_neg hnz,hnum,← htk,if_neg (by decide),if_neg h6]) _⟩⟩
     refine ⟨[Tok.g ⟨1,(s.take k).drop i⟩],rfl,rfl,⟨rfl,rfl,trivial⟩,?_⟩
     refine ⟨⟨by simp only[maxLen,List.length_cons,List.length_nil,List.length_map];omega,by simp only[List.length_cons,List.length_nil,List.length_map];omega⟩,?_⟩
     exact hRd _ _ _ ⟨(k,xs++[⟨1,(s.take k).drop i⟩]),[.old 2],⟨rfl,.inr ⟨⟨by rw[List.map_append];rfl,rfl,rfl⟩,trivial⟩,.inr ⟨lk rfl,lk rfl,trivial⟩,rfl⟩,next _ (by unfold tokAt;rw[if_neg hnz,hnum,← htk,if_neg (by decide),if_pos h6]) rfl,by omega⟩
    ·refine ⟨[Tok.g ⟨2,(s.take k).drop i⟩],rfl,rfl,⟨rfl,rfl,trivial⟩,?_⟩
     refine ⟨⟨by simp only[maxLen,List.length_cons,List.length_nil,List.length_map];omega,by simp only[List.length_cons,List.length_nil,List.length_map];omega⟩,?_⟩
     exact hRd _ _ _ ⟨(k,xs++[⟨2,(s.take k).drop i⟩]),[.old 2],⟨rfl,.inr ⟨⟨by rw[List.map_append];rfl,rfl,rfl⟩,trivial⟩,.inr ⟨lk rfl,lk rfl,trivial⟩,rfl⟩,next _ (by unfold tokAt;rw[if_neg hnz,hnum,← htk,if_pos rfl]) rfl,by omega⟩
end Go.Proofs.YtabjelabdojpkaaGreatDoor
