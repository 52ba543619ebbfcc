/-
  Texts cut into tokens: the plain words.
-/
import Derived.Test.YtabjelabdojpkaaGreatDoorLb
import Derived.Test.YtabjelabdojpkaaGreatDoorNm
import Derived.Test.YtabjelabdojpkaaGreatDoorSi
namespace Go.Proofs.YtabjelabdojpkaaGreatDoor
open Go Go.Dm Go.Eng Barb
variable {L:Lv}

structure Tok where
 kind:Int
 text:Str
def Tok.g (t:Tok):List GV:=[.int t.kind,.str t.text]
instance (c:UInt8):Decidable (lowc c):=by unfold lowc;infer_instance
instance (c:UInt8):Decidable (digc c):=by unfold digc;infer_instance
def chrA (c:UInt8):Bool:=decide (lowc c∨digc c)
def blankA (c:UInt8):Bool:=decide (c=32∨c=10)
def runS:Str→Nat
 | []=>0
 | c :: s=>if chrA c then runS s+1 else 0
theorem run_le:∀ s:Str,runS s≤s.length
 | []=>Nat.le_refl _
 | c :: s=>by
  have:=run_le s
  unfold runS
  split
  ·simpa using this
  ·exact Nat.zero_le _
theorem run_yes {s:Str} {k:Nat} (h:k < s.length) (hc:lowc s[k]∨digc s[k]):runS (s.drop k)=runS (s.drop (k+1))+1:=by
 rw[List.drop_eq_getElem_cons h]
 simp[runS,chrA,hc]
theorem run_no {s:Str} {k:Nat} (h:k < s.length) (h1:¬lowc s[k]) (h2:¬digc s[k]):runS (s.drop k)=0:=by
 rw[List.drop_eq_getElem_cons h]
 simp[runS,chrA,h1,h2]
open Classical in
noncomputable def tokAt (s:Str):Option Tok :=
 if runS s=0 then (if signOf s=[] then none else some ⟨3,signOf s⟩)
 else if numB (s.take (runS s))=true then some ⟨2,s.take (runS s)⟩
 else if wordP (s.take (runS s)) then some ⟨1,s.take (runS s)⟩ else none
noncomputable def cutO:Nat→Str→Option (List Tok)
 | _,[]=>some []
 | 0,_=>none
 | f+1,c :: s=>if blankA c then cutO f s else
  match tokAt (c :: s) with
  | none=>none
  | some t=>(cutO f ((c :: s).drop t.text.length)).map (t :: ·)
noncomputable def cutF (s:Str):Option (List Tok):=cutO s.length s
theorem sign_in {s:Str} (h:signOf s≠[]):signOf s∈signL∧signOf s=s.take (signOf s).length:=by
 unfold signOf at h ⊢
 cases hf:signL.find? (fun t=>Lib.hasPrefix s t) with
 | none=>rw[hf] at h;exact absurd rfl h
 | some t =>
  simp only[Option.getD_some]
  refine ⟨List.mem_of_find?_eq_some hf,?_⟩
  have hp:Lib.hasPrefix s t=true:=List.find?_some hf
  unfold Lib.hasPrefix at hp
  rw[List.isPrefixOf_iff_prefix] at hp
  exact (List.prefix_iff_eq_take.1 hp)
theorem sign_len {s:Str} (h:signOf s≠[]):1≤(signOf s).length∧(signOf s).length≤2∧(signOf s).length≤s.length:=by
 obtain ⟨h1,h2⟩:=sign_in h
 have h3:∀ t∈signL,1≤t.length∧t.length≤2:=by decide
 refine ⟨(h3 _ h1).1,(h3 _ h1).2,?_⟩
 have:=congrArg List.length h2
 rw[List.length_take] at this
 omega
theorem sign_two (s:Str):(signOf s).length≤2:=by
 by_cases h:signOf s=[]
 ·rw[h];simp
 ·exact (sign_len h).2.1
theorem tok_len {s:Str} {t:Tok} (h:tokAt s=some t):1≤t.text.length∧t.text.length≤s.length∧t.text=s.take t.text.length:=by
 unfold tokAt at h
 have hr:=run_le s
 split at h
 ·split at h
  ·cases h
  ·rename_i _ hs
   injection h with h
   subst h
   exact ⟨(sign_len hs).1,(sign_len hs).2.2,(sign_in hs).2⟩
 ·have hl:(s.take (runS s)).length=runS s:=by rw[List.length_take];omega
  split at h
  ·injection h with h
   subst h
   rw[hl]
   exact ⟨by omega,hr,rfl⟩
  ·split at h
   ·injection h with h
    subst h
    rw[hl]
    exact ⟨by omega,hr,rfl⟩
   ·cases h
theorem cutO_more:∀ (f:Nat) (s:Str),s.length≤f→∀ g,s.length≤g→cutO f s=cutO g s
 | f,[],_,g,_=>by cases f<;>cases g<;>rfl
 | 0,c :: s,h,_,_=>by simp at h
 | f+1,c :: s,_,0,h=>by simp at h
 | f+1,c :: s,hf,g+1,hg=>by
  simp only[List.length_cons] at hf hg
  simp only[cutO]
  split
  ·exact cutO_more f s (by omega) g (by omega)
  ·split
   ·rfl
   ·rename_i t ht
    have:=(tok_len ht).1
    rw[cutO_more f ((c :: s).drop t.text.length) (by rw[List.length_drop,List.length_cons];omega) g (by rw[List.length_drop,List.length_cons];omega)]
theorem cutF_blank {c:UInt8} {s:Str} (h:blankA c=true):cutF (c :: s)=cutF s:=by
 show cutO (s.length+1) (c :: s)=_
 simp only[cutO,h,if_true]
 rfl
theorem cutF_none {c:UInt8} {s:Str} (h:blankA c=false) (ht:tokAt (c :: s)=none):cutF (c :: s)=none:=by
 show cutO (s.length+1) (c :: s)=_
 simp[cutO,h,ht]
theorem cutF_tok {c:UInt8} {s:Str} {t:Tok} (h:blankA c=false) (ht:tokAt (c :: s)=some t):cutF (c :: s)=(cutF ((c :: s).drop t.text.length)).map (t :: ·):=by
 show cutO (s.length+1) (c :: s)=_
 have:=(tok_len ht).1
 simp only[cutO,h,ht,Bool.false_eq_true,if_false]
 unfold cutF
 rw[cutO_more s.length ((c :: s).drop t.text.length) (by rw[List.length_drop,List.length_cons];omega) _ (Nat.le_refl _)]
noncomputable def cutE (s:Str):Int:=if 3000 < s.length then 1 else match cutF s with | some _=>0 | none=>4
noncomputable def cutL (s:Str):List Tok:=if 3000 < s.length then [] else (cutF s).getD []
theorem cut_yes {s:Str} {l:List Tok} (hs:¬3000 < s.length) (h:cutF s=some l):cutE s=0∧cutL s=l:=by
 unfold cutE cutL
 rw[if_neg hs,if_neg hs,h]
 exact ⟨rfl,rfl⟩
theorem cut_no {s:Str} (hs:¬3000 < s.length) (h:cutF s=none):cutE s=4∧cutL s=[]:=by
 unfold cutE cutL
 rw[if_neg hs,if_neg hs,h]
 exact ⟨rfl,rfl⟩
theorem drop_at {s:Str} {i:Nat} (h:i < s.length):s.drop i=s[i] :: s.drop (i+1):=List.drop_eq_getElem_cons h
theorem num_head {s:Str} {i k:Nat} (hi:i < s.length) (hk:i < k) (h:numB ((s.take k).drop i)=true):digc s[i]:=by
 have hn:isNum ((s.take k).drop i):=by
  by_cases hn:isNum ((s.take k).drop i)
  ·exact hn
  ·rw[(numR_no hn).2] at h;cases h
 obtain ⟨n,_,e⟩:=hn
 have hm:s[i]∈(s.take k).drop i:=by
  have h0:((s.take k).drop i)[0]?=some s[i]:=by
   rw[List.getElem?_drop,List.getElem?_take_of_lt (by omega)]
   exact List.getElem?_eq_getElem hi
  exact List.mem_of_getElem? h0
 rw[e] at hm
 exact (decDigits_all n).1 _ hm
theorem cut_step {s:Str} {i:Nat} {xs:List Tok} {tk:Tok} (hil:i < s.length) (hb:blankA s[i]=false) (hc:cutF s=(cutF (s.drop i)).map (xs++·)) (h:tokAt (s.drop i)=some tk):cutF s=(cutF (s.drop (i+tk.text.length))).map ((xs++[tk])++·):=by
 rw[drop_at hil] at h hc
 rw[hc,cutF_tok hb h,← drop_at hil,List.drop_drop,Option.map_map]
 congr 1
 funext l
 simp
theorem cut_stop {s:Str} {i:Nat} {xs:List Tok} (hil:i < s.length) (hb:blankA s[i]=false) (hc:cutF s=(cutF (s.drop i)).map (xs++·)) (h:tokAt (s.drop i)=none):cutF s=none:=by
 rw[drop_at hil] at h hc
 rw[hc,cutF_none hb h]
 rfl
theorem cutO_len:∀ (f:Nat) (s:Str) (l:List Tok),cutO f s=some l→l.length≤s.length
 | f,[],l,h=>by cases f<;>(injection h with h;subst h;exact Nat.le_refl _)
 | 0,c :: s,l,h=>by cases h
 | f+1,c :: s,l,h=>by
  simp only[cutO] at h
  split at h
  ·have:=cutO_len f s l h
   simp only[List.length_cons];omega
  ·split at h
   ·cases h
   ·rename_i t ht
    obtain ⟨m,hm,rfl⟩:=Option.map_eq_some_iff.1 h
    have h1:=cutO_len f _ m hm
    have h2:=(tok_len ht).1
    rw[List.length_drop,List.length_cons] at h1
    simp only[List.length_cons];omega
theorem cutL_len (s:Str):(cutL s).length≤1048576:=by
 unfold cutL
 by_cases h:3000 < s.length
 ·rw[if_pos h];simp
 ·rw[if_neg h]
  cases hc:cutF s with
  | none=>simp
  | some l =>
   have:=cutO_len _ _ _ hc
   simp only[Option.getD_some];omega
end Go.Proofs.YtabjelabdojpkaaGreatDoor
namespace Go.Proofs.YtabjelabdojpkaaGreatDoor
open Go Go.Dm Go.Eng Barb
variable {L:Lv}
set_option maxRecDepth 20000 in
theorem Cut_any (s:Str) (hs:s.length≤9223372036854775807):CT Tryz.prog (gl L) 7 [.g (.str s)] (Is (.tuple [.g (.sl 2 ((cutL s).map Tok.g)),.g (.int (cutE s))])):=by
 refine enter hT hF hM Tryz.func7 rfl 96 rfl (by kernel_rfl) [.tmp 2,.tmp 3] rfl [.g (.str s)] rfl _ ?_
 refine ⟨fun h=>⟨rfl,retNE (by unfold cutE;rw[if_pos (by omega)]) (by unfold cutL;rw[if_pos (by omega)];rfl)⟩,fun h=>?_⟩
 have hsz:¬3000 < s.length:=by omega
 refine loopR (ι:=Nat × List Tok) (fun i=>[(5,.g (.int (i.1:Int))),(4,.row 0)]) (fun i=>[.row (i.2.map Tok.g) 52 2]) (fun i=>i.1≤s.length∧i.2.length≤i.1∧cutF s=(cutF (s.drop i.1)).map (i.2++·)) (fun i=>s.length - i.1)
  ⟨(0,[]),[.nil 52 2],⟨rfl,.inl rfl,.inr ⟨lk rfl,.inr rfl,trivial⟩,rfl⟩,Nat.zero_le _,Nat.le_refl _,by simp⟩ ?_
 rintro Rd hRd ⟨i,xs⟩ ⟨hi,hx,hc⟩
 refine ⟨fun h1=>?_,fun h1=>?_⟩
 rotate_left
 ·have hii:i=s.length:=by omega
  have hc':cutF s=some xs:=by rw[hc,hii,List.drop_length];simp[cutF,cutO]
  obtain ⟨e1,e2⟩:=cut_yes hsz hc'
  exact ⟨rfl,retRE rfl e1.symm (by rw[e2])⟩
 have hil:i < s.length:=by omega
 have hd:=drop_at hil
 have hx':xs.length≤i:=hx
 refine ⟨i,s[i],rfl,List.getElem?_eq_getElem hil,fun h2=>?_,fun h2=>⟨i,s[i],rfl,List.getElem?_eq_getElem hil,fun h3=>?_,fun h3=>?_⟩⟩
 ·refine ⟨_,I64.wrap (by unfold I64;omega),?_⟩
  refine hRd _ _ _ ⟨(i+1,xs),[.old 0],⟨rfl,.inl rfl,.inr ⟨lk rfl,lk rfl,trivial⟩,rfl⟩,⟨hil,Nat.le_succ_of_le hx,?_⟩,by omega⟩
  rw[hc,hd,cutF_blank (by unfold blankA;exact decide_eq_true (.inl (UInt8.toNat_inj.1 (by simpa using Int.ofNat_inj.1 h2))))]
 ·refine ⟨_,I64.wrap (by unfold I64;omega),?_⟩
  refine hRd _ _ _ ⟨(i+1,xs),[.old 0],⟨rfl,.inl rfl,.inr ⟨lk rfl,lk rfl,trivial⟩,rfl⟩,⟨hil,Nat.le_succ_of_le hx,?_⟩,by omega⟩
  rw[hc,hd,cutF_blank (by unfold blankA;exact decide_eq_true (.inr (UInt8.toNat_inj.1 (by simpa using Int.ofNat_inj.1 h3))))]
 ·have hb:blankA s[i]=false:=by
   unfold blankA
   refine decide_eq_false ?_
   rintro (e | e)
   ·exact h2 (by rw[e];rfl)
   ·exact h3 (by rw[e];rfl)
  refine loopR (ι:=Nat) (fun k=>[(6,.g (.int (k:Int))),(5,.g (.int (i:Int))),(4,.row 0)]) (fun _=>[.row (xs.map Tok.g) 52 2]) (fun k=>i≤k∧k≤s.length∧runS (s.drop i)=k - i+runS (s.drop k)) (fun k=>s.length - k)
   ⟨i,[.old 0],⟨rfl,.inl rfl,.inr ⟨lk rfl,lk rfl,lk rfl,trivial⟩,rfl⟩,Nat.le_refl _,by omega,by omega⟩ ?_
  intro Rk hRk k ⟨hik,hkl,hk⟩
  refine ⟨fun h4=>⟨k,s[k]'(Int.ofNat_lt.1 h4),rfl,List.getElem?_eq_getElem _,callIs (.inl rfl) (small_any _) ⟨fun h5=>?s1,fun h5=>⟨k,s[k]'(Int.ofNat_lt.1 h4),rfl,List.getElem?_eq_getElem _,callIs (.inl rfl) (digit_any _) ⟨fun h6=>?s2,fun h6=>?t1⟩⟩⟩⟩,fun h4=>?t2⟩
  case s1 =>
   refine ⟨_,I64.wrap (by unfold I64;omega),?_⟩
   exact hRk _ _ _ ⟨k+1,[.old 0],⟨rfl,.inl rfl,.inr ⟨lk rfl,lk rfl,lk rfl,trivial⟩,rfl⟩,⟨by omega,by omega,by have:=run_yes (Int.ofNat_lt.1 h4) (.inl h5);omega⟩,by omega⟩
  case s2 =>
   refine ⟨_,I64.wrap (by unfold I64;omega),?_⟩
   exact hRk _ _ _ ⟨k+1,[.old 0],⟨rfl,.inl rfl,.inr ⟨lk rfl,lk rfl,lk rfl,trivial⟩,rfl⟩,⟨by omega,by omega,by have:=run_yes (Int.ofNat_lt.1 h4) (.inr h6);omega⟩,by omega⟩
  all_goals have hr:runS (s.drop i)=k - i:=by first | (have:=run_no (Int.ofNat_lt.1 h4) h5 h6;omega) | (rw[List.drop_eq_nil_of_le (show s.length≤k by omega)] at hk;exact hk)
  all_goals
   clear hk
   refine ⟨i,k,rfl,rfl,hik,hkl,?_⟩
   have htk:(s.take k).drop i=(s.drop i).take (runS (s.drop i)):=by rw[hr,List.drop_take]
   have hN:=Number_any (L:=L) ((s.take k).drop i) (by rw[List.length_drop,List.length_take];omega)
   obtain ⟨b,hB⟩:∃ b,numB ((s.take k).drop i)=b:=⟨_,rfl⟩
   rw[hB] at hN
   have hnum:numB ((s.drop i).take (runS (s.drop i)))=b:=by rw[← htk,hB]
   refine callIs (.inl rfl) hN ?_
   refine ⟨fun h4=>?_,fun h4=>?_⟩
   ·have hki:k=i:=by omega
    have ht:tokAt (s.drop i)=if signOf (s.drop i)=[] then none else some ⟨3,signOf (s.drop i)⟩:=by
     unfold tokAt
     rw[if_pos (by omega)]
    refine ⟨i,rfl,hi,callIs (.inl rfl) (sign_any _) ?_⟩
    have hs2:=sign_two (s.drop i)
    have hcut:∀ (tk:Tok),tokAt (s.drop i)=some tk→cutF s=(cutF (s.drop (i+tk.text.length))).map ((xs++[tk])++·):=fun tk h=>cut_step hil hb hc h
    refine ⟨_,I64.wrap (by unfold I64;omega),fun h5=>⟨rfl,?_⟩,fun h5=>?_⟩
    ·have hz:signOf (s.drop i)=[]:=List.eq_nil_of_length_eq_zero (by omega)
     obtain ⟨e1,e2⟩:=cut_no hsz (cut_stop hil hb hc (by rw[ht,if_pos hz]))
     exact retNE e1.symm (by rw[e2];rfl)
    ·have hz:¬signOf (s.drop i)=[]:=fun e=>h5 (by rw[e];simp;omega)
     have hl:=sign_len hz
     rw[List.length_drop] at hl
     refine ⟨[Tok.g ⟨3,signOf (s.drop i)⟩],rfl,rfl,⟨rfl,rfl,trivial⟩,?_⟩
     refine ⟨⟨by simp only[maxLen,List.length_cons,List.length_nil,List.length_map];omega,by simp only[List.length_cons,List.length_nil,List.length_map];omega⟩,?_⟩
     refine hRd _ _ _ ⟨(i+(signOf (s.drop i)).length,xs++[⟨3,signOf (s.drop i)⟩]),[.old 3],⟨rfl,.inr ⟨⟨?_,rfl,rfl⟩,trivial⟩,.inr ⟨lkI (by rw[hki];simp),lk rfl,trivial⟩,rfl⟩,⟨?_,?_,?_⟩,?_⟩
     ·rw[List.map_append];rfl
     ·show i+_≤s.length;omega
     ·show (xs++[_]).length≤i+_;rw[List.length_append];simp only[List.length_cons,List.length_nil];omega
     ·exact hcut _ (by rw[ht,if_neg hz])
     ·show s.length - (i+_) < s.length - i;omega
   ·have hki:¬k=i:=by omega
    have hnz:¬runS (s.drop i)=0:=by omega
    have hcut:∀ (tk:Tok),tokAt (s.drop i)=some tk→cutF s=(cutF (s.drop (i+tk.text.length))).map ((xs++[tk])++·):=fun tk h=>cut_step hil hb hc h
    have hlk:((s.take k).drop i).length=k - i:=by rw[List.length_drop,List.length_take];omega
    have hdig:b=true→digc s[i]:=fun e=>num_head hil (by omega) (hB.trans e)
    have hword:b=false→wordP ((s.take k).drop i)→tokAt (s.drop i)=some ⟨1,(s.take k).drop i⟩:=fun e hw=>by
     unfold tokAt
     rw[if_neg hnz,hnum,e,← htk,if_neg (by decide),if_pos hw]
    have hbad:b=false→¬wordP ((s.take k).drop i)→tokAt (s.drop i)=none:=fun e hw=>by
     unfold tokAt
     rw[if_neg hnz,hnum,e,← htk,if_neg (by decide),if_neg hw]
    have hnumT:b=true→tokAt (s.drop i)=some ⟨2,(s.take k).drop i⟩:=fun e=>by
     unfold tokAt
     rw[if_neg hnz,hnum,e,← htk,if_pos rfl]
    have next:∀ (tk:Tok),tokAt (s.drop i)=some tk→tk.text=(s.take k).drop i→k≤s.length∧(xs++[tk]).length≤k∧cutF s=(cutF (s.drop k)).map ((xs++[tk])++·):=fun tk h e=>by
     refine ⟨hkl,by rw[List.length_append];simp only[List.length_cons,List.length_nil];omega,?_⟩
     have:=hcut tk h
     rw[e,hlk,show i+(k - i)=k from by omega] at this
     exact this
    have fail:b=false→¬wordP ((s.take k).drop i)→∀ h:Heap,RetTo (Is (.tuple [.g (.sl 2 ((cutL s).map Tok.g)),.g (.int (cutE s))])) h (.tuple [.nils,.g (.int 4)]):=fun e hw h=>by
     obtain ⟨e1,e2⟩:=cut_no hsz (cut_stop hil hb hc (hbad e hw))
     exact retNE e1.symm (by rw[e2];rfl)
    refine ⟨i,s[i],rfl,List.getElem?_eq_getElem hil,callIs (.inl rfl) (digit_any s[i]) ⟨fun h5=>?_,fun h5=>?_⟩⟩
    ·cases b
     ·refine callIs (.inl rfl) (Word_any _ (by omega)) ⟨fun h6=>⟨rfl,fail rfl h6 _⟩,fun h6=>?_⟩
      refine ⟨[Tok.g ⟨1,(s.take k).drop i⟩],rfl,rfl,⟨rfl,rfl,trivial⟩,?_⟩
      refine ⟨⟨by simp only[maxLen,List.length_cons,List.length_nil,List.length_map];omega,by simp only[List.length_cons,List.length_nil,List.length_map];omega⟩,?_⟩
      exact hRd _ _ _ ⟨(k,xs++[⟨1,(s.take k).drop i⟩]),[.old 3],⟨rfl,.inr ⟨⟨by rw[List.map_append];rfl,rfl,rfl⟩,trivial⟩,.inr ⟨lk rfl,lk rfl,trivial⟩,rfl⟩,next _ (hword rfl h6) rfl,by omega⟩
     ·refine ⟨[Tok.g ⟨2,(s.take k).drop i⟩],rfl,rfl,⟨rfl,rfl,trivial⟩,?_⟩
      refine ⟨⟨by simp only[maxLen,List.length_cons,List.length_nil,List.length_map];omega,by simp only[List.length_cons,List.length_nil,List.length_map];omega⟩,?_⟩
      exact hRd _ _ _ ⟨(k,xs++[⟨2,(s.take k).drop i⟩]),[.old 3],⟨rfl,.inr ⟨⟨by rw[List.map_append];rfl,rfl,rfl⟩,trivial⟩,.inr ⟨lk rfl,lk rfl,trivial⟩,rfl⟩,next _ (hnumT rfl) rfl,by omega⟩
    ·have hbf:b=false:=by cases b<;>first | rfl | exact absurd (hdig rfl) h5
     refine callIs (.inl rfl) (Word_any _ (by omega)) ⟨fun h6=>⟨rfl,fail hbf h6 _⟩,fun h6=>?_⟩
     refine ⟨[Tok.g ⟨1,(s.take k).drop i⟩],rfl,rfl,⟨rfl,rfl,trivial⟩,?_⟩
     refine ⟨⟨by simp only[maxLen,List.length_cons,List.length_nil,List.length_map];omega,by simp only[List.length_cons,List.length_nil,List.length_map];omega⟩,?_⟩
     exact hRd _ _ _ ⟨(k,xs++[⟨1,(s.take k).drop i⟩]),[.old 3],⟨rfl,.inr ⟨⟨by rw[List.map_append];rfl,rfl,rfl⟩,trivial⟩,.inr ⟨lk rfl,lk rfl,trivial⟩,rfl⟩,next _ (hword hbf h6) rfl,by omega⟩
end Go.Proofs.YtabjelabdojpkaaGreatDoor
