/-
  token.Word, tree.Ident and what the document says of them: the contracts.
-/
import Derived.Test.YtabjelabdojpkaaDoorWd
import Derived.Test.YtabjelabdojpkaaDoorSpec2
namespace Go.Proofs.YtabjelabdojpkaaDoor
open Go Go.Dm Go.Eng Barb
variable {L:Lv}

theorem small_any (c:UInt8):CT Tryd.prog (gl L) 39 [.g (.u8 (c.toNat:Int))] (Is (.pb (lowc c))):=by
 refine enter hT hF hM Tryd.func39 rfl 9 rfl (by kernel_rfl) [.tmp 2] rfl [.g (.u8 (c.toNat:Int))] rfl _ ?_
 exact ⟨fun h1=>⟨rfl,retP ⟨fun h=>⟨by omega,by omega⟩,fun h=>by have:=h.2;omega⟩⟩,fun h1=>⟨rfl,retF (fun h=>h1 (by have:=h.1;omega))⟩⟩
theorem digit_any (c:UInt8):CT Tryd.prog (gl L) 40 [.g (.u8 (c.toNat:Int))] (Is (.pb (digc c))):=by
 refine enter hT hF hM Tryd.func40 rfl 9 rfl (by kernel_rfl) [.tmp 2] rfl [.g (.u8 (c.toNat:Int))] rfl _ ?_
 exact ⟨fun h1=>⟨rfl,retP ⟨fun h=>⟨by omega,by omega⟩,fun h=>by have:=h.2;omega⟩⟩,fun h1=>⟨rfl,retF (fun h=>h1 (by have:=h.1;omega))⟩⟩
def oddc (c:UInt8):Prop:=¬lowc c∧¬digc c
theorem odd_any (c:UInt8):CT Tryd.prog (gl L) 64 [.g (.u8 (c.toNat:Int))] (Is (.pb (oddc c))):=by
 refine enter hT hF hM Tryd.func64 rfl 11 rfl (by kernel_rfl) [.tmp 2] rfl [.g (.u8 (c.toNat:Int))] rfl _ ?_
 refine callIs (.inl rfl) (small_any c) ?_
 refine ⟨fun h=>callIs (.inl rfl) (digit_any c) ⟨rfl,retN ⟨fun k=>⟨h,k⟩,fun k=>k.2⟩⟩,fun h=>⟨rfl,retF (fun k=>k.1 h)⟩⟩
theorem idxByte_any (s:Str) (hs:s.length≤9223372036854775807):CT Tryd.prog (gl L) 81 [.g (.sl 1 (bytesG s)),.fn 64 [] []] (Is (.g (.int (idx oddc s)))):=by
 refine enter hT hF hM Tryd.func81 rfl 19 rfl (by kernel_rfl) [.tmp 4] rfl [.g (.sl 1 (bytesG s)),.fn 64 [] []] rfl _ ?_
 refine loopR (ι:=Nat) (fun i=>[(8,.g (.int (i:Int)))]) (fun _=>[]) (fun i=>i≤s.length∧∀ j (hj:j < s.length),j < i→¬oddc s[j]) (fun i=>s.length - i)
  ⟨0,[],⟨rfl,.inl rfl,.inr ⟨lk rfl,trivial⟩,rfl⟩,Nat.zero_le _,alln_0⟩ ?_
 intro Rd hRd i ⟨hi,ha⟩
 refine ⟨fun h=>?_,fun h=>?_⟩
 ·have h1:i < s.length:=by simp[bytesG] at h;omega
  refine ⟨i,_,rfl,gm h1,?_⟩
  refine callIs (.inl rfl) (odd_any s[i]) ?_
  refine ⟨fun h2=>⟨rfl,retI (idx_at h1 ha h2).symm⟩,fun h2=>⟨_,I64.wrap (by unfold I64;omega),?_⟩⟩
  exact hRd _ _ _ ⟨i+1,[],⟨rfl,.inl rfl,.inr ⟨lk rfl,trivial⟩,rfl⟩,⟨h1,alln_step h1 ha h2⟩,by omega⟩
 ·have h1:s.length≤i:=by simp[bytesG] at h;omega
  exact ⟨rfl,retI (idx_no (alln_end h1 ha)).symm⟩
theorem hasByte_any (s:Str) (hs:s.length≤9223372036854775807):CT Tryd.prog (gl L) 63 [.g (.sl 1 (bytesG s)),.fn 64 [] []] (Is (.pb (∃ c∈s,oddc c))):=by
 refine enter hT hF hM Tryd.func63 rfl 9 rfl (by kernel_rfl) [.tmp 4] rfl [.g (.sl 1 (bytesG s)),.fn 64 [] []] rfl _ ?_
 refine callIs (.inl rfl) (idxByte_any s hs) ⟨rfl,retP ?_⟩
 rcases idx_cases oddc s with ⟨h1,h2⟩ | ⟨i,hi,h1,h2,h3⟩
 ·rw[h1];exact ⟨fun h=>absurd h (by decide),fun ⟨c,hc,ho⟩=>absurd ho (h2 c hc)⟩
 ·rw[h1];exact ⟨fun _=>⟨s[i],List.getElem_mem _,h2⟩,fun _=>by omega⟩
theorem wordP_iff (s:Str) (h0:s≠[]) (h8:s.length≤8):wordP s↔lowc (s[0]'(List.length_pos_iff.2 h0))∧¬∃ c∈s,oddc c:=by
 constructor
 ·rintro ⟨_,h⟩
  refine ⟨?_,fun ⟨c,hc,ho⟩=>?_⟩
  ·rcases h 0 (List.length_pos_iff.2 h0) with h | h
   ·exact h
   ·exact absurd rfl h.1
  ·obtain ⟨i,hi,rfl⟩:=List.getElem_of_mem hc
   rcases h i hi with h | h
   ·exact ho.1 h
   ·exact ho.2 h.2
 ·rintro ⟨h1,h2⟩
  refine ⟨⟨List.length_pos_iff.2 h0,h8⟩,fun j hj=>?_⟩
  by_cases hl:lowc s[j]
  ·exact .inl hl
  ·refine .inr ⟨fun e=>?_,?_⟩
   ·subst e;exact hl h1
   ·exact Classical.not_not.1 (fun hd=>h2 ⟨s[j],List.getElem_mem _,hl,hd⟩)
theorem Word_any (s:Str) (hs:s.length≤9223372036854775807):CT Tryd.prog (gl L) 43 [.g (.str s)] (Is (.pb (wordP s))):=by
 refine enter hT hF hM Tryd.func43 rfl 21 rfl (by kernel_rfl) [.tmp 2] rfl [.g (.str s)] rfl _ ?_
 refine ⟨fun h1=>⟨fun h2=>?_,fun h2=>⟨rfl,retF (fun h=>h2 (by have:=h.1.2;omega))⟩⟩,fun h1=>⟨rfl,retF (fun h=>by have h1:s=[]:=h1;subst h1;exact absurd h.1.1 (by decide))⟩⟩
 have h8:s.length≤8:=by omega
 have h1:s≠[]:=h1
 have hw:=wordP_iff s h1 h8
 have hp:=List.length_pos_iff.2 h1
 refine ⟨0,s[0],rfl,ge hp,?_⟩
 refine callIs (.inl rfl) (small_any _) ⟨fun h3=>?_,fun h3=>⟨rfl,retF (fun h=>h3 (hw.1 h).1)⟩⟩
 exact callIs (.inl rfl) (hasByte_any s hs) ⟨rfl,retN ⟨fun h=>hw.2 ⟨h3,h⟩,fun h=>(hw.1 h).2⟩⟩

theorem WordMay_any (s:Str) (hs:s.length≤9223372036854775807):CT Tryd.prog (gl L) 56 [.g (.str s)] (Is (.pb (wordP s))):=by
 refine enter hT hF hM Tryd.func56 rfl 31 rfl (by kernel_rfl) [.tmp 2] rfl [.g (.str s)] rfl _ ?_
 refine loopR (ι:=Nat) (fun i=>[(3,.g (.int (i:Int)))]) (fun _=>[]) (fun i=>i≤s.length∧∀ j (hj:j < s.length),j < i→chrOk s j hj) (fun i=>s.length - i)
  ⟨0,[],⟨rfl,.inl rfl,.inr ⟨lk rfl,trivial⟩,rfl⟩,Nat.zero_le _,fun j _ h=>absurd h (Nat.not_lt_zero j)⟩ ?_
 intro Rd hRd i ⟨hi,ha⟩
 refine ⟨fun h=>?_,fun h=>?_⟩
 ·have h1:i < s.length:=by omega
  have next:chrOk s i h1→∀ j (hj:j < s.length),j < i+1→chrOk s j hj:=fun hc j hj hji=>by
   by_cases e:j=i
   ·subst e;exact hc
   ·exact ha j hj (by omega)
  refine ⟨i,s[i],rfl,ge h1,?_⟩
  refine ⟨by unfold I64;have:=s[i].toNat_lt;omega,?_⟩
  refine callIs (.inl rfl) (In_any _ 97 122) ⟨fun h2=>?_,fun h2=>?_⟩
  ·refine ⟨fun h3=>⟨rfl,retF (fun hw=>?_)⟩,fun h3=>?_⟩
   ·rcases hw.2 i h1 with hc | hc
    ·exact h2 (by unfold lowc at hc;omega)
    ·exact hc.1 (by omega)
   ·refine ⟨i,s[i],rfl,ge h1,?_⟩
    refine ⟨by unfold I64;have:=s[i].toNat_lt;omega,?_⟩
    refine callIs (.inl rfl) (In_any _ 48 57) ⟨fun h4=>⟨rfl,retF (fun hw=>?_)⟩,fun h4=>⟨_,I64.wrap (by unfold I64;omega),?_⟩⟩
    ·rcases hw.2 i h1 with hc | hc
     ·exact h2 (by unfold lowc at hc;omega)
     ·exact h4 (by have:=hc.2;unfold digc at this;omega)
    ·exact hRd _ _ _ ⟨i+1,[],⟨rfl,.inl rfl,.inr ⟨lk rfl,trivial⟩,rfl⟩,⟨h1,next (.inr ⟨by omega,by unfold digc;omega⟩)⟩,by omega⟩
  ·refine ⟨_,I64.wrap (by unfold I64;omega),?_⟩
   exact hRd _ _ _ ⟨i+1,[],⟨rfl,.inl rfl,.inr ⟨lk rfl,trivial⟩,rfl⟩,⟨h1,next (.inl (by unfold lowc;omega))⟩,by omega⟩
 ·have h1:i=s.length:=by omega
  subst h1
  exact callIs (.inl rfl) (In_any _ 1 8) ⟨rfl,retP ⟨fun h=>⟨by omega,fun j hj=>ha j hj hj⟩,fun h=>by have:=h.1;omega⟩⟩

theorem strIdx_any (l:List Str) (hl:l.length≤9223372036854775807) (s:Str):CT Tryd.prog (gl L) 71 [.g (.sl 1 (l.map strG)),.g (.str s)] (Is (.g (.int (idx (fun x=>s=x) l)))):=by
 refine enter hT hF hM Tryd.func71 rfl 19 rfl (by kernel_rfl) [.tmp 4] rfl [.g (.sl 1 (l.map strG)),.g (.str s)] rfl _ ?_
 refine loopR (ι:=Nat) (fun i=>[(8,.g (.int (i:Int)))]) (fun _=>[]) (fun i=>i≤l.length∧∀ j (hj:j < l.length),j < i→¬s=l[j]) (fun i=>l.length - i)
  ⟨0,[],⟨rfl,.inl rfl,.inr ⟨lk rfl,trivial⟩,rfl⟩,Nat.zero_le _,alln_0 (q:=fun x=>s=x)⟩ ?_
 intro Rd hRd i ⟨hi,ha⟩
 refine ⟨fun h=>?_,fun h=>?_⟩
 ·have h1:i < l.length:=by simp at h;omega
  refine ⟨i,_,rfl,gm h1,?_⟩
  refine ⟨fun h2=>⟨rfl,retI (idx_at (q:=fun x=>s=x) h1 ha h2).symm⟩,fun h2=>⟨_,I64.wrap (by unfold I64;omega),?_⟩⟩
  exact hRd _ _ _ ⟨i+1,[],⟨rfl,.inl rfl,.inr ⟨lk rfl,trivial⟩,rfl⟩,⟨h1,alln_step (q:=fun x=>s=x) h1 ha h2⟩,by omega⟩
 ·have h1:l.length≤i:=by simp at h;omega
  exact ⟨rfl,retI (idx_no (alln_end (q:=fun x=>s=x) h1 ha)).symm⟩
theorem strHas_any (l:List Str) (hl:l.length≤9223372036854775807) (s:Str):CT Tryd.prog (gl L) 51 [.g (.sl 1 (l.map strG)),.g (.str s)] (Is (.pb (s∈l))):=by
 refine enter hT hF hM Tryd.func51 rfl 9 rfl (by kernel_rfl) [.tmp 4] rfl [.g (.sl 1 (l.map strG)),.g (.str s)] rfl _ ?_
 refine callIs (.inl rfl) (strIdx_any l hl s) ⟨rfl,retP ?_⟩
 rcases idx_cases (fun x=>s=x) l with ⟨h1,h2⟩ | ⟨i,hi,h1,h2,h3⟩
 ·rw[h1];exact ⟨fun h=>absurd h (by decide),fun h=>absurd rfl (h2 s h)⟩
 ·rw[h1];exact ⟨fun _=>by have h2:s=l[i]:=h2;rw[h2];exact List.getElem_mem _,fun _=>by omega⟩
theorem has_any (l:List Str) (hl:l.length≤9223372036854775807) (s:Str):CT Tryd.prog (gl L) 57 [.g (.sl 1 (l.map strG)),.g (.str s)] (Is (.pb (s∈l))):=by
 refine enter hT hF hM Tryd.func57 rfl 18 rfl (by kernel_rfl) [.tmp 4] rfl [.g (.sl 1 (l.map strG)),.g (.str s)] rfl _ ?_
 refine loopR (ι:=Nat) (fun i=>[(5,.g (.int (i:Int)))]) (fun _=>[]) (fun i=>i≤l.length∧∀ j (hj:j < l.length),j < i→¬s=l[j]) (fun i=>l.length - i)
  ⟨0,[],⟨rfl,.inl rfl,.inr ⟨lk rfl,trivial⟩,rfl⟩,Nat.zero_le _,alln_0 (q:=fun x=>s=x)⟩ ?_
 intro Rd hRd i ⟨hi,ha⟩
 refine ⟨fun h=>?_,fun h=>?_⟩
 ·have h1:i < l.length:=by simp at h;omega
  refine ⟨i,_,rfl,gm h1,?_⟩
  refine ⟨fun h2=>⟨rfl,retT (by rw[← h2];exact List.getElem_mem _)⟩,fun h2=>⟨_,I64.wrap (by unfold I64;omega),?_⟩⟩
  exact hRd _ _ _ ⟨i+1,[],⟨rfl,.inl rfl,.inr ⟨lk rfl,trivial⟩,rfl⟩,⟨h1,alln_step (q:=fun x=>s=x) h1 ha (fun e=>h2 e.symm)⟩,by omega⟩
 ·have h1:l.length≤i:=by simp at h;omega
  exact ⟨rfl,retF (fun h=>alln_end (q:=fun x=>s=x) h1 ha s h rfl)⟩
theorem Ident_any (s:Str) (hs:s.length≤9223372036854775807):CT Tryd.prog (gl L) 30 [.g (.str s)] (Is (.pb (identP s))):=by
 refine enter hT hF hM Tryd.func30 rfl 11 rfl (by kernel_rfl) [.tmp 2] rfl [.g (.str s)] rfl _ ?_
 refine callIs (.inl rfl) (Word_any s hs) ⟨fun h1=>?_,fun h1=>⟨rfl,retF (fun h=>h1 h.1)⟩⟩
 refine ⟨keys.map strG,rfl,rfl,⟨rfl,rfl,rfl,rfl,rfl,rfl,rfl,rfl,rfl,rfl,trivial⟩,?_⟩
 exact callIs (.inl rfl) (strHas_any keys (by decide) s) ⟨rfl,retN ⟨fun h=>⟨h1,h⟩,fun h=>h.2⟩⟩
theorem NameMay_any (s:Str) (hs:s.length≤9223372036854775807):CT Tryd.prog (gl L) 35 [.g (.str s)] (Is (.pb (identP s))):=by
 refine enter hT hF hM Tryd.func35 rfl 13 rfl (by kernel_rfl) [.tmp 2] rfl [.g (.str s)] rfl _ ?_
 refine ⟨keys.map strG,rfl,rfl,⟨rfl,rfl,rfl,rfl,rfl,rfl,rfl,rfl,rfl,rfl,trivial⟩,?_⟩
 refine callIs (.inl rfl) (WordMay_any s hs) ⟨fun h1=>?_,fun h1=>⟨rfl,retF (fun h=>h1 h.1)⟩⟩
 exact callIs (.inl rfl) (has_any keys (by decide) s) ⟨rfl,retN ⟨fun h=>⟨h1,h⟩,fun h=>h.2⟩⟩
end Go.Proofs.YtabjelabdojpkaaDoor
