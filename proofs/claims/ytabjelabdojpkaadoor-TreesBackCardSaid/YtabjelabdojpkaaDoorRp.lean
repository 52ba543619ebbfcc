/-
  Texts cut into tokens: the plain words.
-/
import Derived.Test.YtabjelabdojpkaaDoorLb
import Derived.Test.YtabjelabdojpkaaDoorNm
import Derived.Test.YtabjelabdojpkaaDoorSi
namespace Go.Proofs.YtabjelabdojpkaaDoor
open Go Go.Dm Go.Eng Barb
variable {L:Lv}

structure Tok where
 kind:Int
 text:Str
def Tok.g (t:Tok):List GV:=[.int t.kind,.str t.text]
instance (c:UInt8):Decidable (lowc c):=by unfold lowc;infer_instance
instance (c:UInt8):Decidable (digc c):=by unfold digc;infer_instance
def chrA (c:UInt8):Bool:=decide (lowc c∨digc c)
def blankA (c:UInt8):Bool:=decide (c=32∨c=10)
def runS:Str→Nat
 | []=>0
 | c :: s=>if chrA c then runS s+1 else 0
theorem run_le:∀ s:Str,runS s≤s.length
 | []=>Nat.le_refl _
 | c :: s=>by
  have:=run_le s
  unfold runS
  split
  ·simpa using this
  ·exact Nat.zero_le _
theorem run_yes {s:Str} {k:Nat} (h:k < s.length) (hc:lowc s[k]∨digc s[k]):runS (s.drop k)=runS (s.drop (k+1))+1:=by
 rw[List.drop_eq_getElem_cons h]
 simp[runS,chrA,hc]
theorem run_no {s:Str} {k:Nat} (h:k < s.length) (h1:¬lowc s[k]) (h2:¬digc s[k]):runS (s.drop k)=0:=by
 rw[List.drop_eq_getElem_cons h]
 simp[runS,chrA,h1,h2]
open Classical in
noncomputable def tokAt (s:Str):Option Tok :=
 if runS s=0 then (if signOf s=[] then none else some ⟨3,signOf s⟩)
 else if numB (s.take (runS s))=true then some ⟨2,s.take (runS s)⟩
 else if wordP (s.take (runS s)) then some ⟨1,s.take (runS s)⟩ else none
noncomputable def cutO:Nat→Str→Option (List Tok)
 | _,[]=>some []
 | 0,_=>none
 | f+1,c :: s=>if blankA c then cutO f s else
  match tokAt (c :: s) with
  | none=>none
  | some t=>(cutO f ((c :: s).drop t.text.length)).map (t :: ·)
noncomputable def cutF (s:Str):Option (List Tok):=cutO s.length s
theorem sign_in {s:Str} (h:signOf s≠[]):signOf s∈signL∧signOf s=s.take (signOf s).length:=by
 unfold signOf at h ⊢
 cases hf:signL.find? (fun t=>Lib.hasPrefix s t) with
 | none=>rw[hf] at h;exact absurd rfl h
 | some t =>
  simp only[Option.getD_some]
  refine ⟨List.mem_of_find?_eq_some hf,?_⟩
  have hp:Lib.hasPrefix s t=true:=List.find?_some hf
  unfold Lib.hasPrefix at hp
  rw[List.isPrefixOf_iff_prefix] at hp
  exact (List.prefix_iff_eq_take.1 hp)
theorem sign_len {s:Str} (h:signOf s≠[]):1≤(signOf s).length∧(signOf s).length≤2∧(signOf s).length≤s.length:=by
 obtain ⟨h1,h2⟩:=sign_in h
 have h3:∀ t∈signL,1≤t.length∧t.length≤2:=by decide
 refine ⟨(h3 _ h1).1,(h3 _ h1).2,?_⟩
 have:=congrArg List.length h2
 rw[List.length_take] at this
 omega
theorem sign_two (s:Str):(signOf s).length≤2:=by
 by_cases h:signOf s=[]
 ·rw[h];simp
 ·exact (sign_len h).2.1
theorem tok_len {s:Str} {t:Tok} (h:tokAt s=some t):1≤t.text.length∧t.text.length≤s.length∧t.text=s.take t.text.length:=by
 unfold tokAt at h
 have hr:=run_le s
 split at h
 ·split at h
  ·cases h
  ·rename_i _ hs
   injection h with h
   subst h
   exact ⟨(sign_len hs).1,(sign_len hs).2.2,(sign_in hs).2⟩
 ·have hl:(s.take (runS s)).length=runS s:=by rw[List.length_take];omega
  split at h
  ·injection h with h
   subst h
   rw[hl]
   exact ⟨by omega,hr,rfl⟩
  ·split at h
   ·injection h with h
    subst h
    rw[hl]
    exact ⟨by omega,hr,rfl⟩
   ·cases h
theorem cutO_more:∀ (f:Nat) (s:Str),s.length≤f→∀ g,s.length≤g→cutO f s=cutO g s
 | f,[],_,g,_=>by cases f<;>cases g<;>rfl
 | 0,c :: s,h,_,_=>by simp at h
 | f+1,c :: s,_,0,h=>by simp at h
 | f+1,c :: s,hf,g+1,hg=>by
  simp only[List.length_cons] at hf hg
  simp only[cutO]
  split
  ·exact cutO_more f s (by omega) g (by omega)
  ·split
   ·rfl
   ·rename_i t ht
    have:=(tok_len ht).1
    rw[cutO_more f ((c :: s).drop t.text.length) (by rw[List.length_drop,List.length_cons];omega) g (by rw[List.length_drop,List.length_cons];omega)]
theorem cutF_blank {c:UInt8} {s:Str} (h:blankA c=true):cutF (c :: s)=cutF s:=by
 show cutO (s.length+1) (c :: s)=_
 simp only[cutO,h,if_true]
 rfl
theorem cutF_none {c:UInt8} {s:Str} (h:blankA c=false) (ht:tokAt (c :: s)=none):cutF (c :: s)=none:=by
 show cutO (s.length+1) (c :: s)=_
 simp[cutO,h,ht]
theorem cutF_tok {c:UInt8} {s:Str} {t:Tok} (h:blankA c=false) (ht:tokAt (c :: s)=some t):cutF (c :: s)=(cutF ((c :: s).drop t.text.length)).map (t :: ·):=by
 show cutO (s.length+1) (c :: s)=_
 have:=(tok_len ht).1
 simp only[cutO,h,ht,Bool.false_eq_true,if_false]
 unfold cutF
 rw[cutO_more s.length ((c :: s).drop t.text.length) (by rw[List.length_drop,List.length_cons];omega) _ (Nat.le_refl _)]
noncomputable def cutE (s:Str):Int:=if 3000 < s.length then 1 else match cutF s with | some _=>0 | none=>4
noncomputable def cutL (s:Str):List Tok:=if 3000 < s.length then [] else (cutF s).getD []
theorem cut_yes {s:Str} {l:List Tok} (hs:¬3000 < s.length) (h:cutF s=some l):cutE s=0∧cutL s=l:=by
 unfold cutE cutL
 rw[if_neg hs,if_neg hs,h]
 exact ⟨rfl,rfl⟩
theorem cut_no {s:Str} (hs:¬3000 < s.length) (h:cutF s=none):cutE s=4∧cutL s=[]:=by
 unfold cutE cutL
 rw[if_neg hs,if_neg hs,h]
 exact ⟨rfl,rfl⟩
theorem drop_at {s:Str} {i:Nat} (h:i < s.length):s.drop i=s[i] :: s.drop (i+1):=List.drop_eq_getElem_cons h
theorem num_head {s:Str} {i k:Nat} (hi:i < s.length) (hk:i < k) (h:numB ((s.take k).drop i)=true):digc s[i]:=by
 have hn:isNum ((s.take k).drop i):=by
  by_cases hn:isNum ((s.take k).drop i)
  ·exact hn
  ·rw[(numR_no hn).2] at h;cases h
 obtain ⟨n,_,e⟩:=hn
 have hm:s[i]∈(s.take k).drop i:=by
  have h0:((s.take k).drop i)[0]?=some s[i]:=by
   rw[List.getElem?_drop,List.getElem?_take_of_lt (by omega)]
   exact List.getElem?_eq_getElem hi
  exact List.mem_of_getElem? h0
 rw[e] at hm
 exact (decDigits_all n).1 _ hm
theorem cut_step {s:Str} {i:Nat} {xs:List Tok} {tk:Tok} (hil:i < s.length) (hb:blankA s[i]=false) (hc:cutF s=(cutF (s.drop i)).map (xs++·)) (h:tokAt (s.drop i)=some tk):cutF s=(cutF (s.drop (i+tk.text.length))).map ((xs++[tk])++·):=by
 rw[drop_at hil] at h hc
 rw[hc,cutF_tok hb h,← drop_at hil,List.drop_drop,Option.map_map]
 congr 1
 funext l
 simp
theorem cut_stop {s:Str} {i:Nat} {xs:List Tok} (hil:i < s.length) (hb:blankA s[i]=false) (hc:cutF s=(cutF (s.drop i)).map (xs++·)) (h:tokAt (s.drop i)=none):cutF s=none:=by
 rw[drop_at hil] at h hc
 rw[hc,cutF_none hb h]
 rfl
theorem cutO_len:∀ (f:Nat) (s:Str) (l:List Tok),cutO f s=some l→l.length≤s.length
 | f,[],l,h=>by cases f<;>(injection h with h;subst h;exact Nat.le_refl _)
 | 0,c :: s,l,h=>by cases h
 | f+1,c :: s,l,h=>by
  simp only[cutO] at h
  split at h
  ·have:=cutO_len f s l h
   simp only[List.length_cons];omega
  ·split at h
   ·cases h
   ·rename_i t ht
    obtain ⟨m,hm,rfl⟩:=Option.map_eq_some_iff.1 h
    have h1:=cutO_len f _ m hm
    have h2:=(tok_len ht).1
    rw[List.length_drop,List.length_cons] at h1
    simp only[List.length_cons];omega
theorem cutL_len (s:Str):(cutL s).length≤1048576:=by
 unfold cutL
 by_cases h:3000 < s.length
 ·rw[if_pos h];simp
 ·rw[if_neg h]
  cases hc:cutF s with
  | none=>simp
  | some l =>
   have:=cutO_len _ _ _ hc
   simp only[Option.getD_some];omega
end Go.Proofs.YtabjelabdojpkaaDoor
namespace Go.Proofs.YtabjelabdojpkaaDoor
open Go Go.Dm Go.Eng Barb
variable {L:Lv}
set_option maxRecDepth 20000 in
theorem Cut_any (s:Str) (hs:s.length≤9223372036854775807):CT Tryd.prog (gl L) 21 [.g (.str s)] (Is (.tuple [.g (.sl 2 ((cutL s).map Tok.g)),.g (.int (cutE s))])):=by
 refine enter hT hF hM Tryd.func21 rfl 96 rfl (by kernel_rfl) [.tmp 2,.tmp 3] rfl [.g (.str s)] rfl _ ?_
 refine ⟨fun h=>⟨rfl,retNE (by unfold cutE;rw[if_pos (by omega)]) (by unfold cutL;rw[if_pos (by omega)];rfl)⟩,fun h=>?_⟩
 have hsz:¬3000 < s.length:=by omega
 refine loopR (ι:=Nat × List Tok) (fun i=>[(5,.g (.int (i.1:Int))),(4,.row 0)]) (fun i=>[.row (i.2.map Tok.g) 87 2]) (fun i=>i.1≤s.length∧i.2.length≤i.1∧cutF s=(cutF (s.drop i.1)).map (i.2++·)) (fun i=>s.length - i.1)
  ⟨(0,[]),[.nil 87 2],⟨rfl,.inl rfl,.inr ⟨lk rfl,.inr rfl,trivial⟩,rfl⟩,Nat.zero_le _,Nat.le_refl _,by simp⟩ ?_
 rintro Rd hRd ⟨i,xs⟩ ⟨hi,hx,hc⟩
 refine ⟨fun h1=>?_,fun h1=>?_⟩
 rotate_left
 ·have hii:i=s.length:=by omega
  have hc':cutF s=some xs:=by rw[hc,hii,List.drop_length];simp[cutF,cutO]
  obtain ⟨e1,e2⟩:=cut_yes hsz hc'
  exact ⟨rfl,retRE rfl e1.symm (by rw[e2])⟩
 have hil:i < s.length:=by omega
 have hd:=drop_at hil
 have hx':xs.length≤i:=hx
 refine ⟨i,s[i],rfl,List.getElem?_eq_getElem hil,fun h2=>?_,fun h2=>⟨i,s[i],rfl,List.getElem?_eq_getElem hil,fun h3=>?_,fun h3=>?_⟩⟩
 ·refine ⟨_,I64.wrap (by unfold I64;omega),?_⟩
  refine hRd _ _ _ ⟨(i+1,xs),[.old 0],⟨rfl,.inl rfl,.inr ⟨lk rfl,lk rfl,trivial⟩,rfl⟩,⟨hil,Nat.le_succ_of_le hx,?_⟩,by omega⟩
  rw[hc,hd,cutF_blank (by unfold blankA;exact decide_eq_true (.inl (UInt8.toNat_inj.1 (by simpa using Int.ofNat_inj.1 h2))))]
 ·refine ⟨_,I64.wrap (by unfold I64;omega),?_⟩
  refine hRd _ _ _ ⟨(i+1,xs),[.old 0],⟨rfl,.inl rfl,.inr ⟨lk rfl,lk rfl,trivial⟩,rfl⟩,⟨hil,Nat.le_succ_of_le hx,?_⟩,by omega⟩
  rw[hc,hd,cutF_blank (by unfold blankA;exact decide_eq_true (.inr (UInt8.toNat_inj.1 (by simpa using Int.ofNat_inj.1 h3))))]
 ·have hb:blankA s[i]=false:=by
   unfold blankA
   refine decide_eq_false ?_
   rintro (e | e)
   ·exact h2 (by rw[e];rfl)
   ·exact h3 (by rw[e];rfl)
  refine loopR (ι:=Nat) (fun k=>[(6,.g (.int (k:Int))),(5,.g (.int (i:Int))),(4,.row 0)]) (fun _=>[.row (xs.map Tok.g) 87 2]) (fun k=>i≤k∧k≤s.length∧runS (s.drop i)=k - i+runS (s.drop k)) (fun k=>s.length - k)
   ⟨i,[.old 0],⟨rfl,.inl rfl,.inr ⟨lk rfl,lk rfl,lk rfl,trivial⟩,rfl⟩,Nat.le_refl _,by omega,by omega⟩ ?_
  intro Rk hRk k ⟨hik,hkl,hk⟩
  refine ⟨fun h4=>⟨k,s[k]'(Int.ofNat_lt.1 h4),rfl,List.getElem?_eq_getElem _,callIs (.inl rfl) (small_any _) ⟨fun h5=>?s1,fun h5=>⟨k,s[k]'(Int.ofNat_lt.1 h4),rfl,List.getElem?_eq_getElem _,callIs (.inl rfl) (digit_any _) ⟨fun h6=>?s2,fun h6=>?t1⟩⟩⟩⟩,fun h4=>?t2⟩
  case s1 =>
   refine ⟨_,I64.wrap (by unfold I64;omega),?_⟩
   exact hRk _ _ _ ⟨k+1,[.old 0],⟨rfl,.inl rfl,.inr ⟨lk rfl,lk rfl,lk rfl,trivial⟩,rfl⟩,⟨by omega,by omega,by have:=run_yes (Int.ofNat_lt.1 h4) (.inl h5);omega⟩,by omega⟩
  case s2 =>
   refine ⟨_,I64.wrap (by unfold I64;omega),?_⟩
   exact hRk _ _ _ ⟨k+1,[.old 0],⟨rfl,.inl rfl,.inr ⟨lk rfl,lk rfl,lk rfl,trivial⟩,rfl⟩,⟨by omega,by omega,by have:=run_yes (Int.ofNat_lt.1 h4) (.inr h6);omega⟩,by omega⟩
  all_goals have hr:runS (s.drop i)=k - i:=by first | (have:=run_no (Int.ofNat_lt.1 h4) h5 h6;omega) | (rw[List.drop_eq_nil_of_le (show s.length≤k by omega)] at hk;exact hk)
  all_goals
   clear hk
   refine ⟨i,k,rfl,rfl,hik,hkl,?_⟩
   have htk:(s.take k).drop i=(s.drop i).take (runS (s.drop i)):=by rw[hr,List.drop_take]
   have hN:=Number_any (L:=L) ((s.take k).drop i) (by rw[List.length_drop,List.length_take];omega)
   obtain ⟨b,hB⟩:∃ b,numB ((s.take k).drop i)=b:=⟨_,rfl⟩
   rw[hB] at hN
   have hnum:numB ((s.drop i).take (runS (s.drop i)))=b:=by rw[← htk,hB]
   refine callIs (.inl rfl) hN ?_
   refine ⟨fun h4=>?_,fun h4=>?_⟩
   ·have hki:k=i:=by omega
    have ht:tokAt (s.drop i)=if signOf (s.drop i)=[] then none else some ⟨3,signOf (s.drop i)⟩:=by
     unfold tokAt
     rw[if_pos (by omega)]
    refine ⟨i,rfl,hi,callIs (.inl rfl) (sign_any _) ?_⟩
    have hs2:=sign_two (s.drop i)
    have hcut:∀ (tk:Tok),tokAt (s.drop i)=some tk→cutF s=(cutF (s.drop (i+tk.text.length))).map ((xs++[tk])++·):=fun tk h=>cut_step hil hb hc h
    refine ⟨_,I64.wrap (by unfold I64;omega),fun h5=>⟨rfl,?_⟩,fun h5=>?_⟩
    ·have hz:signOf (s.drop i)=[]:=List.eq_nil_of_length_eq_zero (by omega)
     obtain ⟨e1,e2⟩:=cut_no hsz (cut_stop hil hb hc (by rw[ht,if_pos hz]))
     exact retNE e1.symm (by rw[e2];rfl)
    ·have hz:¬signOf (s.drop i)=[]:=fun e=>h5 (by rw[e];simp;omega)
     have hl:=sign_len hz
     rw[List.length_drop] at hl
     refine ⟨[Tok.g ⟨3,signOf (s.drop i)⟩],rfl,rfl,⟨rfl,rfl,trivial⟩,?_⟩
     refine ⟨⟨by simp only[maxLen,List.length_cons,List.length_nil,List.length_map];omega,by simp only[List.length_cons,List.length_nil,List.length_map];omega⟩,?_⟩
     refine hRd _ _ _ ⟨(i+(signOf (s.drop i)).length,xs++[⟨3,signOf (s.drop i)⟩]),[.old 3],⟨rfl,.inr ⟨⟨?_,rfl,rfl⟩,trivial⟩,.inr ⟨lkI (by rw[hki];simp),lk rfl,trivial⟩,rfl⟩,⟨?_,?_,?_⟩,?_⟩
     ·rw[List.map_append];rfl
     ·show i+_≤s.length;omega
     ·show (xs++[_]).length≤i+_;rw[List.length_append];simp only[List.length_cons,List.length_nil];omega
     ·exact hcut _ (by rw[ht,if_neg hz])
     ·show s.length - (i+_) < s.length - i;omega
   ·have hki:¬k=i:=by omega
    have hnz:¬runS (s.drop i)=0:=by omega
    have hcut:∀ (tk:Tok),tokAt (s.drop i)=some tk→cutF s=(cutF (s.drop (i+tk.text.length))).map ((xs++[tk])++·):=fun tk h=>cut_step hil hb hc h
    have hlk:((s.take k).drop i).length=k - i:=by rw[List.length_drop,List.length_take];omega
    have hdig:b=true→digc s[i]:=fun e=>num_head hil (by omega) (hB.trans e)
    have hword:b=false→wordP ((s.take k).drop i)→tokAt (s.drop i)=some ⟨1,(s.take k).drop i⟩:=fun e hw=>by
     unfold tokAt
     rw[if_neg hnz,hnum,e,← htk,if_neg (by decide),if_pos hw]
    have hbad:b=false→¬wordP ((s.take k).drop i)→tokAt (s.drop i)=none:=fun e hw=>by
     unfold tokAt
     rw[if_neg hnz,hnum,e,← htk,if_neg (by decide),if_neg hw]
    have hnumT:b=true→tokAt (s.drop i)=some ⟨2,(s.take k).drop i⟩:=fun e=>by
     unfold tokAt
     rw[if_neg hnz,hnum,e,← htk,if_pos rfl]
    have next:∀ (tk:Tok),tokAt (s.drop i)=some tk→tk.text=(s.take k).drop i→k≤s.length∧(xs++[tk]).length≤k∧cutF s=(cutF (s.drop k)).map ((xs++[tk])++·):=fun tk h e=>by
     refine ⟨hkl,by rw[List.length_append];simp only[List.length_cons,List.length_nil];omega,?_⟩
     have:=hcut tk h
     rw[e,hlk,show i+(k - i)=k from by omega] at this
     exact this
    have fail:b=false→¬wordP ((s.take k).drop i)→∀ h:Heap,RetTo (Is (.tuple [.g (.sl 2 ((cutL s).map Tok.g)),.g (.int (cutE s))])) h (.tuple [.nils,.g (.int 4)]):=fun e hw h=>by
     obtain ⟨e1,e2⟩:=cut_no hsz (cut_stop hil hb hc (hbad e hw))
     exact retNE e1.symm (by rw[e2];rfl)
    refine ⟨i,s[i],rfl,List.getElem?_eq_getElem hil,callIs (.inl rfl) (digit_any s[i]) ⟨fun h5=>?_,fun h5=>?_⟩⟩
    ·cases b
     ·refine callIs (.inl rfl) (Word_any _ (by omega)) ⟨fun h6=>⟨rfl,fail rfl h6 _⟩,fun h6=>?_⟩
      refine ⟨[Tok.g ⟨1,(s.take k).drop i⟩],rfl,rfl,⟨rfl,rfl,trivial⟩,?_⟩
      refine ⟨⟨by simp only[maxLen,List.length_cons,List.length_nil,List.length_map];omega,by simp only[List.length_cons,List.length_nil,List.length_map];omega⟩,?_⟩
      exact hRd _ _ _ ⟨(k,xs++[⟨1,(s.take k).drop i⟩]),[.old 3],⟨rfl,.inr ⟨⟨by rw[List.map_append];rfl,rfl,rfl⟩,trivial⟩,.inr ⟨lk rfl,lk rfl,trivial⟩,rfl⟩,next _ (hword rfl h6) rfl,by omega⟩
     ·refine ⟨[Tok.g ⟨2,(s.take k).drop i⟩],rfl,rfl,⟨rfl,rfl,trivial⟩,?_⟩
      refine ⟨⟨by simp only[maxLen,List.length_cons,List.length_nil,List.length_map];omega,by simp only[List.length_cons,List.length_nil,List.length_map];omega⟩,?_⟩
      exact hRd _ _ _ ⟨(k,xs++[⟨2,(s.take k).drop i⟩]),[.old 3],⟨rfl,.inr ⟨⟨by rw[List.map_append];rfl,rfl,rfl⟩,trivial⟩,.inr ⟨lk rfl,lk rfl,trivial⟩,rfl⟩,next _ (hnumT rfl) rfl,by omega⟩
    ·have hbf:b=false:=by cases b<;>first | rfl | exact absurd (hdig rfl) h5
     refine callIs (.inl rfl) (Word_any _ (by omega)) ⟨fun h6=>⟨rfl,fail hbf h6 _⟩,fun h6=>?_⟩
     refine ⟨[Tok.g ⟨1,(s.take k).drop i⟩],rfl,rfl,⟨rfl,rfl,trivial⟩,?_⟩
     refine ⟨⟨by simp only[maxLen,List.length_cons,List.length_nil,List.length_map];omega,by simp only[List.length_cons,List.length_nil,List.length_map];omega⟩,?_⟩
     exact hRd _ _ _ ⟨(k,xs++[⟨1,(s.take k).drop i⟩]),[.old 3],⟨rfl,.inr ⟨⟨by rw[List.map_append];rfl,rfl,rfl⟩,trivial⟩,.inr ⟨lk rfl,lk rfl,trivial⟩,rfl⟩,next _ (hword hbf h6) rfl,by omega⟩
end Go.Proofs.YtabjelabdojpkaaDoor
namespace Go.Proofs.YtabjelabdojpkaaDoor
open Go Go.Dm Go.Eng Barb

inductive PR (α:Type) where
 | ok (a:α) (l:List Tok)
 | bad (e:Int)
def PR.then {α β:Type} (r:PR α) (k:α→List Tok→PR β):PR β :=
 match r with
 | .ok a l=>k a l
 | .bad e=>.bad e
def textP:List Tok→Str
 | []=>[]
 | t :: _=>t.text
def kindP:List Tok→Int
 | []=>0
 | t :: _=>t.kind
open Classical in
noncomputable def takeP (s:Str) (l:List Tok):Option (List Tok):=if l≠[]∧textP l=s then some l.tail else none
open Classical in
noncomputable def mustP (s:Str) (l:List Tok):PR PUnit:=match takeP s l with | some l'=>.ok ⟨⟩ l' | none=>.bad 4
open Classical in
noncomputable def nameP (l:List Tok):PR Str:=if identP (textP l) then .ok (textP l) l.tail else .bad 4
noncomputable def numP (l:List Tok):PR Int:=if kindP l=2 then .ok (numR (textP l)) l.tail else .bad 4
def opsT:List Str:=[[43],[45],[42],[38],[124],[94],[60],[61,61],[60,60],[62,62]]
noncomputable def opP (s:Str):Int:=idx (fun x=>s=x) opsT+1
section
variable (ex:List Tok→PR Barb.Expr)
noncomputable def moreP:Nat→List Barb.Expr→List Tok→PR (List Barb.Expr)
 | 0,_,_=>.bad 4
 | n+1,acc,l=>match takeP [44] l with
  | some l1=>(ex l1).then fun b l2=>moreP n (acc++[b]) l2
  | none=>(mustP [41] l).then fun _ l1=>.ok acc l1
noncomputable def listP (l:List Tok):PR (List Barb.Expr):=match takeP [41] l with
 | some l1=>.ok [] l1
 | none=>(ex l).then fun a l1=>moreP ex (l1.length+1) [a] l1
noncomputable def termP (l:List Tok):PR Barb.Expr:=match takeP [40] l with
 | some l1=>(ex l1).then fun a l2=>if opP (textP l2)=0 then .bad 4 else (ex l2.tail).then fun b l3=>(mustP [41] l3).then fun _ l4=>.ok (.mk 5 (opP (textP l2)) [] [] [a,b]) l4
 | none=>if kindP l=2 then (numP l).then fun n l1=>.ok (.mk 1 n [] [] []) l1 else
  (nameP l).then fun s l1=>match takeP [91] l1 with
   | some l2=>(ex l2).then fun a l3=>(mustP [93] l3).then fun _ l4=>.ok (.mk 3 0 [] s [a]) l4
   | none=>match takeP [40] l1 with
    | some l2=>(listP ex l2).then fun xs l3=>.ok (.mk 4 0 [] s xs) l3
    | none=>match takeP [46] l1 with
     | some l2=>(nameP l2).then fun g l3=>(mustP [40] l3).then fun _ l4=>(listP ex l4).then fun xs l5=>.ok (.mk 4 0 s g xs) l5
     | none=>.ok (.mk 2 0 [] s []) l1
end
noncomputable def exprP:Nat→List Tok→PR Barb.Expr
 | 0=>fun _=>.bad 1
 | f+1=>termP (exprP f)
section
variable (st:List Tok→PR Barb.Stmt)
noncomputable def stmtsP:Nat→List Barb.Stmt→List Tok→PR (List Barb.Stmt)
 | 0,_,_=>.bad 4
 | n+1,acc,l=>match takeP [125] l with
  | some l1=>.ok acc l1
  | none=>(st l).then fun x l1=>stmtsP n (acc++[x]) l1
noncomputable def blockP (l:List Tok):PR (List Barb.Stmt):=(mustP [123] l).then fun _ l1=>stmtsP st (l1.length+1) [] l1
noncomputable def doP (ex:List Tok→PR Barb.Expr) (l:List Tok):PR Barb.Stmt:=match takeP [105,102] l with
 | some l1=>(ex l1).then fun x l2=>(blockP st l2).then fun b l3=>match takeP [101,108,115,101] l3 with
  | some l4=>(blockP st l4).then fun c l5=>.ok (.mk 3 [] [x] b c) l5
  | none=>.ok (.mk 3 [] [x] b []) l3
 | none=>match takeP [119,104,105,108,101] l with
  | some l1=>(ex l1).then fun x l2=>(blockP st l2).then fun b l3=>.ok (.mk 4 [] [x] b []) l3
  | none =>
   let fin:Int→Str→List Barb.Expr→List Tok→PR Barb.Stmt:=fun k s xs l=>(ex l).then fun x l1=>(mustP [59] l1).then fun _ l2=>.ok (.mk k s (xs++[x]) [] []) l2
   match takeP [114,101,116,117,114,110] l with
   | some l1=>fin 5 [] [] l1
   | none=>match takeP [115,97,121] l with
    | some l1=>fin 6 [] [] l1
    | none=>(nameP l).then fun s l1=>match takeP [91] l1 with
     | some l2=>(ex l2).then fun x l3=>(mustP [93] l3).then fun _ l4=>(mustP [61] l4).then fun _ l5=>fin 2 s [x] l5
     | none=>(mustP [61] l1).then fun _ l2=>fin 1 s [] l2
end
noncomputable def stmtP:Nat→List Tok→PR Barb.Stmt
 | 0=>fun _=>.bad 1
 | f+1=>doP (stmtP f) (exprP f)
noncomputable def parsP:Nat→List Str→List Tok→PR (List Str)
 | 0,_,_=>.bad 4
 | n+1,acc,l=>match takeP [41] l with
  | some l1=>.ok acc l1
  | none=>(if acc=[] then .ok ⟨⟩ l else mustP [44] l:PR PUnit).then fun _ l1=>(nameP l1).then fun s l2=>parsP n (acc++[s]) l2
noncomputable def funP (isOpen:Bool) (l:List Tok):PR Fun:=(nameP l).then fun s l1=>(mustP [40] l1).then fun _ l2=>(parsP (l2.length+1) [] l2).then fun ps l3=>(blockP (stmtP 48) l3).then fun b l4=>.ok ⟨s,isOpen,ps,b⟩ l4
noncomputable def varsP:Nat→List Str→List Tok→PR (List Str)
 | 0,_,_=>.bad 4
 | n+1,acc,l=>match takeP [118,97,114] l with
  | some l1=>(nameP l1).then fun s l2=>varsP n (acc++[s]) l2
  | none=>.ok acc l
noncomputable def arrsP:Nat→List Arr→List Tok→PR (List Arr)
 | 0,_,_=>.bad 4
 | n+1,acc,l=>match takeP [97,114,114,97,121] l with
  | some l1=>(nameP l1).then fun s l2=>(numP l2).then fun k l3=>arrsP n (acc++[⟨s,k⟩]) l3
  | none=>.ok acc l
noncomputable def funsP:Nat→List Fun→List Tok→PR (List Fun)
 | 0,_,_=>.bad 4
 | n+1,acc,l=>if l=[] then .ok acc l else
  match takeP [111,112,101,110] l with
  | some l1=>(funP true l1).then fun f l2=>funsP n (acc++[f]) l2
  | none=>(mustP [102,117,110,99] l).then fun _ l1=>(funP false l1).then fun f l2=>funsP n (acc++[f]) l2
noncomputable def unitP (l:List Tok):PR Barb.Unit:=(mustP [117,110,105,116] l).then fun _ l1=>(nameP l1).then fun s l2=>(varsP (l2.length+1) [] l2).then fun vs l3=>(arrsP (l3.length+1) [] l3).then fun as_ l4=>(funsP (l4.length+1) [] l4).then fun fs l5=>.ok ⟨s,vs,as_,fs⟩ l5
def Shr {α:Type} (p:List Tok→PR α):Prop:=∀ l a l',p l=.ok a l'→l'.length < l.length
theorem then_ok {α β:Type} {r:PR α} {k:α→List Tok→PR β} {b:β} {l:List Tok} (h:r.then k=.ok b l):∃ a l1,r=.ok a l1∧k a l1=.ok b l:=by
 cases r with
 | ok a l1=>exact ⟨a,l1,rfl,h⟩
 | bad e=>cases h
theorem take_some {s:Str} {l l':List Tok} (h:takeP s l=some l'):l'=l.tail∧l'.length+1=l.length:=by
 unfold takeP at h
 split at h
 ·rename_i hc
  injection h with h
  subst h
  refine ⟨rfl,?_⟩
  cases l with
  | nil=>exact absurd rfl hc.1
  | cons t l=>rfl
 ·cases h
theorem must_shr (s:Str):Shr (mustP s):=fun l a l' h=>by
 unfold mustP at h
 split at h
 ·rename_i l1 h1
  injection h with _ h
  subst h
  have:=(take_some h1).2
  omega
 ·cases h
theorem ident_nil:¬identP []:=fun h=>by have:=h.1.1.1;simp at this
theorem name_shr:Shr nameP:=fun l a l' h=>by
 unfold nameP at h
 split at h
 ·rename_i hi
  injection h with _ h
  subst h
  cases l with
  | nil=>exact absurd hi ident_nil
  | cons t l=>simp
 ·cases h
theorem num_shr:Shr numP:=fun l a l' h=>by
 unfold numP at h
 split at h
 ·rename_i hi
  injection h with _ h
  subst h
  cases l with
  | nil=>cases hi
  | cons t l=>simp
 ·cases h
theorem more_shr {ex:List Tok→PR Barb.Expr} (hx:Shr ex):∀ n acc,Shr (moreP ex n acc)
 | 0,acc=>fun l a l' h=>by cases h
 | n+1,acc=>fun l a l' h=>by
  simp only[moreP] at h
  split at h
  ·rename_i l1 h1
   obtain ⟨b,l2,h2,h3⟩:=then_ok h
   have a1:=(take_some h1).2
   have a2:=hx _ _ _ h2
   have a3:=more_shr hx n _ _ _ _ h3
   omega
  ·obtain ⟨_,l1,h1,h2⟩:=then_ok h
   injection h2 with _ h2
   subst h2
   exact must_shr _ _ _ _ h1
theorem list_shr {ex:List Tok→PR Barb.Expr} (hx:Shr ex):Shr (listP ex):=fun l a l' h=>by
 unfold listP at h
 split at h
 ·rename_i l1 h1
  injection h with _ h
  subst h
  have:=(take_some h1).2
  omega
 ·obtain ⟨b,l1,h1,h2⟩:=then_ok h
  have a1:=hx _ _ _ h1
  have a2:=more_shr hx _ _ _ _ _ h2
  omega
theorem term_shr {ex:List Tok→PR Barb.Expr} (hx:Shr ex):Shr (termP ex):=fun l a l' h=>by
 unfold termP at h
 split at h
 ·rename_i l1 h1
  obtain ⟨x,l2,h2,h⟩:=then_ok h
  split at h
  ·cases h
  ·obtain ⟨y,l3,h3,h⟩:=then_ok h
   obtain ⟨_,l4,h4,h⟩:=then_ok h
   injection h with _ h
   subst h
   have a1:=(take_some h1).2
   have a2:=hx _ _ _ h2
   have a3:=hx _ _ _ h3
   have a4:=must_shr _ _ _ _ h4
   rw[List.length_tail] at a3
   omega
 ·split at h
  ·obtain ⟨n,l1,h1,h⟩:=then_ok h
   injection h with _ h
   subst h
   exact num_shr _ _ _ h1
  ·obtain ⟨s,l1,h1,h⟩:=then_ok h
   have a1:=name_shr _ _ _ h1
   split at h
   ·rename_i l2 h2
    obtain ⟨x,l3,h3,h⟩:=then_ok h
    obtain ⟨_,l4,h4,h⟩:=then_ok h
    injection h with _ h
    subst h
    have a2:=(take_some h2).2
    have a3:=hx _ _ _ h3
    have a4:=must_shr _ _ _ _ h4
    omega
   ·split at h
    ·rename_i l2 h2
     obtain ⟨x,l3,h3,h⟩:=then_ok h
     injection h with _ h
     subst h
     have a2:=(take_some h2).2
     have a3:=list_shr hx _ _ _ h3
     omega
    ·split at h
     ·rename_i l2 h2
      obtain ⟨g,l3,h3,h⟩:=then_ok h
      obtain ⟨_,l4,h4,h⟩:=then_ok h
      obtain ⟨xs,l5,h5,h⟩:=then_ok h
      injection h with _ h
      subst h
      have a2:=(take_some h2).2
      have a3:=name_shr _ _ _ h3
      have a4:=must_shr _ _ _ _ h4
      have a5:=list_shr hx _ _ _ h5
      omega
     ·injection h with _ h
      subst h
      exact a1
theorem expr_shr:∀ f,Shr (exprP f)
 | 0=>fun l a l' h=>by cases h
 | f+1=>term_shr (expr_shr f)
theorem stmts_shr {st:List Tok→PR Barb.Stmt} (hs:Shr st):∀ n acc,Shr (stmtsP st n acc)
 | 0,acc=>fun l a l' h=>by cases h
 | n+1,acc=>fun l a l' h=>by
  simp only[stmtsP] at h
  split at h
  ·rename_i l1 h1
   injection h with _ h
   subst h
   have:=(take_some h1).2
   omega
  ·obtain ⟨x,l1,h1,h⟩:=then_ok h
   have a1:=hs _ _ _ h1
   have a2:=stmts_shr hs n _ _ _ _ h
   omega
theorem block_shr {st:List Tok→PR Barb.Stmt} (hs:Shr st):Shr (blockP st):=fun l a l' h=>by
 unfold blockP at h
 obtain ⟨_,l1,h1,h⟩:=then_ok h
 have a1:=must_shr _ _ _ _ h1
 have a2:=stmts_shr hs _ _ _ _ _ h
 omega
theorem do_shr {st:List Tok→PR Barb.Stmt} {ex:List Tok→PR Barb.Expr} (hs:Shr st) (hx:Shr ex):Shr (doP st ex):=fun l a l' h=>by
 have fin:∀ (k:Int) (s:Str) (xs:List Barb.Expr) (l l':List Tok) (a:Barb.Stmt),((ex l).then fun x l1=>(mustP [59] l1).then fun _ l2=>PR.ok (Barb.Stmt.mk k s (xs++[x]) [] []) l2)=.ok a l'→l'.length < l.length:=fun k s xs l l' a h=>by
  obtain ⟨x,l1,h1,h⟩:=then_ok h
  obtain ⟨_,l2,h2,h⟩:=then_ok h
  injection h with _ h
  subst h
  have a1:=hx _ _ _ h1
  have a2:=must_shr _ _ _ _ h2
  omega
 unfold doP at h
 split at h
 ·rename_i l1 h1
  obtain ⟨x,l2,h2,h⟩:=then_ok h
  obtain ⟨b,l3,h3,h⟩:=then_ok h
  have a1:=(take_some h1).2
  have a2:=hx _ _ _ h2
  have a3:=block_shr hs _ _ _ h3
  split at h
  ·rename_i l4 h4
   obtain ⟨c,l5,h5,h⟩:=then_ok h
   injection h with _ h
   subst h
   have a4:=(take_some h4).2
   have a5:=block_shr hs _ _ _ h5
   omega
  ·injection h with _ h
   subst h
   omega
 ·split at h
  ·rename_i l1 h1
   obtain ⟨x,l2,h2,h⟩:=then_ok h
   obtain ⟨b,l3,h3,h⟩:=then_ok h
   injection h with _ h
   subst h
   have a1:=(take_some h1).2
   have a2:=hx _ _ _ h2
   have a3:=block_shr hs _ _ _ h3
   omega
  ·dsimp only at h
   split at h
   ·rename_i l1 h1
    have a1:=(take_some h1).2
    have:=fin _ _ _ _ _ _ h
    omega
   ·split at h
    ·rename_i l1 h1
     have a1:=(take_some h1).2
     have:=fin _ _ _ _ _ _ h
     omega
    ·obtain ⟨s,l1,h1,h⟩:=then_ok h
     have a1:=name_shr _ _ _ h1
     split at h
     ·rename_i l2 h2
      obtain ⟨x,l3,h3,h⟩:=then_ok h
      obtain ⟨_,l4,h4,h⟩:=then_ok h
      obtain ⟨_,l5,h5,h⟩:=then_ok h
      have a2:=(take_some h2).2
      have a3:=hx _ _ _ h3
      have a4:=must_shr _ _ _ _ h4
      have a5:=must_shr _ _ _ _ h5
      have:=fin _ _ _ _ _ _ h
      omega
     ·obtain ⟨_,l2,h2,h⟩:=then_ok h
      have a2:=must_shr _ _ _ _ h2
      have:=fin _ _ _ _ _ _ h
      omega
theorem stmt_shr:∀ f,Shr (stmtP f)
 | 0=>fun l a l' h=>by cases h
 | f+1=>do_shr (stmt_shr f) (expr_shr f)
theorem pars_shr:∀ n acc,Shr (parsP n acc)
 | 0,acc=>fun l a l' h=>by cases h
 | n+1,acc=>fun l a l' h=>by
  simp only[parsP] at h
  split at h
  ·rename_i l1 h1
   injection h with _ h
   subst h
   have:=(take_some h1).2
   omega
  ·obtain ⟨_,l1,h1,h⟩:=then_ok h
   obtain ⟨s,l2,h2,h⟩:=then_ok h
   have a2:=name_shr _ _ _ h2
   have a3:=pars_shr n _ _ _ _ h
   have a1:l1.length≤l.length:=by
    split at h1
    ·injection h1 with _ h1;subst h1;exact Nat.le_refl _
    ·exact Nat.le_of_lt (must_shr _ _ _ _ h1)
   omega
theorem fun_shr (o:Bool):Shr (funP o):=fun l a l' h=>by
 unfold funP at h
 obtain ⟨s,l1,h1,h⟩:=then_ok h
 obtain ⟨_,l2,h2,h⟩:=then_ok h
 obtain ⟨ps,l3,h3,h⟩:=then_ok h
 obtain ⟨b,l4,h4,h⟩:=then_ok h
 injection h with _ h
 subst h
 have a1:=name_shr _ _ _ h1
 have a2:=must_shr _ _ _ _ h2
 have a3:=pars_shr _ _ _ _ _ h3
 have a4:=block_shr (stmt_shr 48) _ _ _ h4
 omega
theorem more_far {ex:List Tok→PR Barb.Expr} (hx:Shr ex):∀ (n:Nat) (acc:List Barb.Expr) (l:List Tok) (m:Nat),l.length < n→l.length < m→moreP ex n acc l=moreP ex m acc l
 | 0,_,l,_,h,_=>by omega
 | n+1,acc,l,0,_,h=>by omega
 | n+1,acc,l,m+1,hn,hm=>by
  simp only[moreP]
  split
  ·rename_i l1 h1
   cases h2:ex l1 with
   | bad e=>rfl
   | ok b l2 =>
    have a1:=(take_some h1).2
    have a2:=hx _ _ _ h2
    exact more_far hx n _ _ m (by omega) (by omega)
  ·rfl
theorem stmts_far {st:List Tok→PR Barb.Stmt} (hs:Shr st):∀ (n:Nat) (acc:List Barb.Stmt) (l:List Tok) (m:Nat),l.length < n→l.length < m→stmtsP st n acc l=stmtsP st m acc l
 | 0,_,l,_,h,_=>by omega
 | n+1,acc,l,0,_,h=>by omega
 | n+1,acc,l,m+1,hn,hm=>by
  simp only[stmtsP]
  split
  ·rfl
  ·cases h2:st l with
   | bad e=>rfl
   | ok b l2 =>
    have a2:=hs _ _ _ h2
    exact stmts_far hs n _ _ m (by omega) (by omega)
theorem pars_far:∀ (n:Nat) (acc:List Str) (l:List Tok) (m:Nat),l.length < n→l.length < m→parsP n acc l=parsP m acc l
 | 0,_,l,_,h,_=>by omega
 | n+1,acc,l,0,_,h=>by omega
 | n+1,acc,l,m+1,hn,hm=>by
  simp only[parsP]
  split
  ·rfl
  ·cases h1:(if acc=[] then .ok ⟨⟩ l else mustP [44] l:PR PUnit) with
   | bad e=>rfl
   | ok u l1 =>
    have a1:l1.length≤l.length:=by
     split at h1
     ·injection h1 with _ h1;subst h1;exact Nat.le_refl _
     ·exact Nat.le_of_lt (must_shr _ _ _ _ h1)
    simp only[PR.then]
    cases h2:nameP l1 with
    | bad e=>rfl
    | ok s l2 =>
     have a2:=name_shr _ _ _ h2
     exact pars_far n _ _ m (by omega) (by omega)
theorem vars_far:∀ (n:Nat) (acc:List Str) (l:List Tok) (m:Nat),l.length < n→l.length < m→varsP n acc l=varsP m acc l
 | 0,_,l,_,h,_=>by omega
 | n+1,acc,l,0,_,h=>by omega
 | n+1,acc,l,m+1,hn,hm=>by
  simp only[varsP]
  split
  ·rename_i l1 h1
   cases h2:nameP l1 with
   | bad e=>rfl
   | ok s l2 =>
    have a1:=(take_some h1).2
    have a2:=name_shr _ _ _ h2
    exact vars_far n _ _ m (by omega) (by omega)
  ·rfl
theorem arrs_far:∀ (n:Nat) (acc:List Arr) (l:List Tok) (m:Nat),l.length < n→l.length < m→arrsP n acc l=arrsP m acc l
 | 0,_,l,_,h,_=>by omega
 | n+1,acc,l,0,_,h=>by omega
 | n+1,acc,l,m+1,hn,hm=>by
  simp only[arrsP]
  split
  ·rename_i l1 h1
   cases h2:nameP l1 with
   | bad e=>rfl
   | ok s l2 =>
    simp only[PR.then]
    cases h3:numP l2 with
    | bad e=>rfl
    | ok k l3 =>
     have a1:=(take_some h1).2
     have a2:=name_shr _ _ _ h2
     have a3:=num_shr _ _ _ h3
     exact arrs_far n _ _ m (by omega) (by omega)
  ·rfl
theorem funs_far:∀ (n:Nat) (acc:List Fun) (l:List Tok) (m:Nat),l.length < n→l.length < m→funsP n acc l=funsP m acc l
 | 0,_,l,_,h,_=>by omega
 | n+1,acc,l,0,_,h=>by omega
 | n+1,acc,l,m+1,hn,hm=>by
  simp only[funsP]
  split
  ·rfl
  ·split
   ·rename_i l1 h1
    cases h2:funP true l1 with
    | bad e=>rfl
    | ok s l2 =>
     have a1:=(take_some h1).2
     have a2:=fun_shr _ _ _ _ h2
     exact funs_far n _ _ m (by omega) (by omega)
   ·cases h1:mustP [102,117,110,99] l with
    | bad e=>rfl
    | ok u l1 =>
     simp only[PR.then]
     have a1:=must_shr _ _ _ _ h1
     cases h2:funP false l1 with
     | bad e=>rfl
     | ok s l2 =>
      have a2:=fun_shr _ _ _ _ h2
      exact funs_far n _ _ m (by omega) (by omega)
def Cl {α:Type} (p:List Tok→PR α):Prop:=∀ l a l',p l=.ok a l'→∀ t∈l',t∈l
theorem take_mem {s:Str} {l l':List Tok} (h:takeP s l=some l'):∀ t∈l',t∈l:=fun t ht=>by
 rw[(take_some h).1] at ht
 exact List.mem_of_mem_tail ht
theorem must_mem (s:Str):Cl (mustP s):=fun l a l' h=>by
 unfold mustP at h
 split at h
 ·rename_i l1 h1
  injection h with _ h
  subst h
  exact take_mem h1
 ·cases h
theorem name_mem:Cl nameP:=fun l a l' h=>by
 unfold nameP at h
 split at h
 ·injection h with _ h
  subst h
  exact fun t ht=>List.mem_of_mem_tail ht
 ·cases h
theorem num_mem:Cl numP:=fun l a l' h=>by
 unfold numP at h
 split at h
 ·injection h with _ h
  subst h
  exact fun t ht=>List.mem_of_mem_tail ht
 ·cases h
theorem more_mem {ex:List Tok→PR Barb.Expr} (hx:Cl ex):∀ n acc,Cl (moreP ex n acc)
 | 0,acc=>fun l a l' h=>by cases h
 | n+1,acc=>fun l a l' h=>by
  simp only[moreP] at h
  split at h
  ·rename_i l1 h1
   obtain ⟨b,l2,h2,h3⟩:=then_ok h
   have a1:=take_mem h1
   have a2:=hx _ _ _ h2
   have a3:=more_mem hx n _ _ _ _ h3
   intro t ht
   solve_by_elim (maxDepth:=14)
  ·obtain ⟨_,l1,h1,h2⟩:=then_ok h
   injection h2 with _ h2
   subst h2
   exact must_mem _ _ _ _ h1
theorem list_mem {ex:List Tok→PR Barb.Expr} (hx:Cl ex):Cl (listP ex):=fun l a l' h=>by
 unfold listP at h
 split at h
 ·rename_i l1 h1
  injection h with _ h
  subst h
  have a0:=take_mem h1
  intro t ht
  solve_by_elim (maxDepth:=14)
 ·obtain ⟨b,l1,h1,h2⟩:=then_ok h
  have a1:=hx _ _ _ h1
  have a2:=more_mem hx _ _ _ _ _ h2
  intro t ht
  solve_by_elim (maxDepth:=14)
theorem term_mem {ex:List Tok→PR Barb.Expr} (hx:Cl ex):Cl (termP ex):=fun l a l' h=>by
 unfold termP at h
 split at h
 ·rename_i l1 h1
  obtain ⟨x,l2,h2,h⟩:=then_ok h
  split at h
  ·cases h
  ·obtain ⟨y,l3,h3,h⟩:=then_ok h
   obtain ⟨_,l4,h4,h⟩:=then_ok h
   injection h with _ h
   subst h
   have a1:=take_mem h1
   have a2:=hx _ _ _ h2
   have a3:=hx _ _ _ h3
   have a4:=must_mem _ _ _ _ h4
   have a5:=fun t (ht:t∈l2.tail)=>List.mem_of_mem_tail ht
   intro t ht
   solve_by_elim (maxDepth:=14)
 ·split at h
  ·obtain ⟨n,l1,h1,h⟩:=then_ok h
   injection h with _ h
   subst h
   exact num_mem _ _ _ h1
  ·obtain ⟨s,l1,h1,h⟩:=then_ok h
   have a1:=name_mem _ _ _ h1
   split at h
   ·rename_i l2 h2
    obtain ⟨x,l3,h3,h⟩:=then_ok h
    obtain ⟨_,l4,h4,h⟩:=then_ok h
    injection h with _ h
    subst h
    have a2:=take_mem h2
    have a3:=hx _ _ _ h3
    have a4:=must_mem _ _ _ _ h4
    intro t ht
    solve_by_elim (maxDepth:=14)
   ·split at h
    ·rename_i l2 h2
     obtain ⟨x,l3,h3,h⟩:=then_ok h
     injection h with _ h
     subst h
     have a2:=take_mem h2
     have a3:=list_mem hx _ _ _ h3
     intro t ht
     solve_by_elim (maxDepth:=14)
    ·split at h
     ·rename_i l2 h2
      obtain ⟨g,l3,h3,h⟩:=then_ok h
      obtain ⟨_,l4,h4,h⟩:=then_ok h
      obtain ⟨xs,l5,h5,h⟩:=then_ok h
      injection h with _ h
      subst h
      have a2:=take_mem h2
      have a3:=name_mem _ _ _ h3
      have a4:=must_mem _ _ _ _ h4
      have a5:=list_mem hx _ _ _ h5
      intro t ht
      solve_by_elim (maxDepth:=14)
     ·injection h with _ h
      subst h
      exact a1
theorem expr_mem:∀ f,Cl (exprP f)
 | 0=>fun l a l' h=>by cases h
 | f+1=>term_mem (expr_mem f)
theorem stmts_mem {st:List Tok→PR Barb.Stmt} (hs:Cl st):∀ n acc,Cl (stmtsP st n acc)
 | 0,acc=>fun l a l' h=>by cases h
 | n+1,acc=>fun l a l' h=>by
  simp only[stmtsP] at h
  split at h
  ·rename_i l1 h1
   injection h with _ h
   subst h
   have a0:=take_mem h1
   intro t ht
   solve_by_elim (maxDepth:=14)
  ·obtain ⟨x,l1,h1,h⟩:=then_ok h
   have a1:=hs _ _ _ h1
   have a2:=stmts_mem hs n _ _ _ _ h
   intro t ht
   solve_by_elim (maxDepth:=14)
theorem block_mem {st:List Tok→PR Barb.Stmt} (hs:Cl st):Cl (blockP st):=fun l a l' h=>by
 unfold blockP at h
 obtain ⟨_,l1,h1,h⟩:=then_ok h
 have a1:=must_mem _ _ _ _ h1
 have a2:=stmts_mem hs _ _ _ _ _ h
 intro t ht
 solve_by_elim (maxDepth:=14)
theorem do_mem {st:List Tok→PR Barb.Stmt} {ex:List Tok→PR Barb.Expr} (hs:Cl st) (hx:Cl ex):Cl (doP st ex):=fun l a l' h=>by
 have fin:∀ (k:Int) (s:Str) (xs:List Barb.Expr) (l l':List Tok) (a:Barb.Stmt),((ex l).then fun x l1=>(mustP [59] l1).then fun _ l2=>PR.ok (Barb.Stmt.mk k s (xs++[x]) [] []) l2)=.ok a l'→∀ t∈l',t∈l:=fun k s xs l l' a h=>by
  obtain ⟨x,l1,h1,h⟩:=then_ok h
  obtain ⟨_,l2,h2,h⟩:=then_ok h
  injection h with _ h
  subst h
  have a1:=hx _ _ _ h1
  have a2:=must_mem _ _ _ _ h2
  intro t ht
  solve_by_elim (maxDepth:=14)
 unfold doP at h
 split at h
 ·rename_i l1 h1
  obtain ⟨x,l2,h2,h⟩:=then_ok h
  obtain ⟨b,l3,h3,h⟩:=then_ok h
  have a1:=take_mem h1
  have a2:=hx _ _ _ h2
  have a3:=block_mem hs _ _ _ h3
  split at h
  ·rename_i l4 h4
   obtain ⟨c,l5,h5,h⟩:=then_ok h
   injection h with _ h
   subst h
   have a4:=take_mem h4
   have a5:=block_mem hs _ _ _ h5
   intro t ht
   solve_by_elim (maxDepth:=14)
  ·injection h with _ h
   subst h
   intro t ht
   solve_by_elim (maxDepth:=14)
 ·split at h
  ·rename_i l1 h1
   obtain ⟨x,l2,h2,h⟩:=then_ok h
   obtain ⟨b,l3,h3,h⟩:=then_ok h
   injection h with _ h
   subst h
   have a1:=take_mem h1
   have a2:=hx _ _ _ h2
   have a3:=block_mem hs _ _ _ h3
   intro t ht
   solve_by_elim (maxDepth:=14)
  ·dsimp only at h
   split at h
   ·rename_i l1 h1
    have a1:=take_mem h1
    have a9:=fin _ _ _ _ _ _ h
    intro t ht
    solve_by_elim (maxDepth:=14)
   ·split at h
    ·rename_i l1 h1
     have a1:=take_mem h1
     have a9:=fin _ _ _ _ _ _ h
     intro t ht
     solve_by_elim (maxDepth:=14)
    ·obtain ⟨s,l1,h1,h⟩:=then_ok h
     have a1:=name_mem _ _ _ h1
     split at h
     ·rename_i l2 h2
      obtain ⟨x,l3,h3,h⟩:=then_ok h
      obtain ⟨_,l4,h4,h⟩:=then_ok h
      obtain ⟨_,l5,h5,h⟩:=then_ok h
      have a2:=take_mem h2
      have a3:=hx _ _ _ h3
      have a4:=must_mem _ _ _ _ h4
      have a5:=must_mem _ _ _ _ h5
      have a9:=fin _ _ _ _ _ _ h
      intro t ht
      solve_by_elim (maxDepth:=14)
     ·obtain ⟨_,l2,h2,h⟩:=then_ok h
      have a2:=must_mem _ _ _ _ h2
      have a9:=fin _ _ _ _ _ _ h
      intro t ht
      solve_by_elim (maxDepth:=14)
theorem stmt_mem:∀ f,Cl (stmtP f)
 | 0=>fun l a l' h=>by cases h
 | f+1=>do_mem (stmt_mem f) (expr_mem f)
theorem pars_mem:∀ n acc,Cl (parsP n acc)
 | 0,acc=>fun l a l' h=>by cases h
 | n+1,acc=>fun l a l' h=>by
  simp only[parsP] at h
  split at h
  ·rename_i l1 h1
   injection h with _ h
   subst h
   have a0:=take_mem h1
   intro t ht
   solve_by_elim (maxDepth:=14)
  ·obtain ⟨_,l1,h1,h⟩:=then_ok h
   obtain ⟨s,l2,h2,h⟩:=then_ok h
   have a2:=name_mem _ _ _ h2
   have a3:=pars_mem n _ _ _ _ h
   have a1:∀ t∈l1,t∈l:=by
    split at h1
    ·injection h1 with _ h1;subst h1;exact fun t ht=>ht
    ·exact must_mem _ _ _ _ h1
   intro t ht
   solve_by_elim (maxDepth:=14)
theorem fun_mem (o:Bool):Cl (funP o):=fun l a l' h=>by
 unfold funP at h
 obtain ⟨s,l1,h1,h⟩:=then_ok h
 obtain ⟨_,l2,h2,h⟩:=then_ok h
 obtain ⟨ps,l3,h3,h⟩:=then_ok h
 obtain ⟨b,l4,h4,h⟩:=then_ok h
 injection h with _ h
 subst h
 have a1:=name_mem _ _ _ h1
 have a2:=must_mem _ _ _ _ h2
 have a3:=pars_mem _ _ _ _ _ h3
 have a4:=block_mem (stmt_mem 48) _ _ _ h4
 intro t ht
 solve_by_elim (maxDepth:=14)
end Go.Proofs.YtabjelabdojpkaaDoor
