/-
  token.Word, tree.Ident and what the document says of them: the contracts.
-/
import Derived.Test.YtjkplhnbiejefaaDoorWd
import Derived.Test.YtjkplhnbiejefaaDoorSpec2
namespace Go.Proofs.YtjkplhnbiejefaaDoor
open Go Go.Dm Go.Eng Barb

theorem small_any (c:UInt8):CT Tryd.prog gl 27 [.g (.u8 (c.toNat:Int))] (Is (.pb (lowc c))):=by
 refine enter hT hF hM Tryd.func27 rfl 9 rfl (by kernel_rfl) [.tmp 2] rfl [.g (.u8 (c.toNat:Int))] rfl _ ?_
 exact ⟨fun h1=>⟨rfl,retP ⟨fun h=>⟨by omega,by omega⟩,fun h=>by have:=h.2;omega⟩⟩,fun h1=>⟨rfl,retF (fun h=>h1 (by have:=h.1;omega))⟩⟩
theorem digit_any (c:UInt8):CT Tryd.prog gl 30 [.g (.u8 (c.toNat:Int))] (Is (.pb (digc c))):=by
 refine enter hT hF hM Tryd.func30 rfl 9 rfl (by kernel_rfl) [.tmp 2] rfl [.g (.u8 (c.toNat:Int))] rfl _ ?_
 exact ⟨fun h1=>⟨rfl,retP ⟨fun h=>⟨by omega,by omega⟩,fun h=>by have:=h.2;omega⟩⟩,fun h1=>⟨rfl,retF (fun h=>h1 (by have:=h.1;omega))⟩⟩
def oddc (c:UInt8):Prop:=¬lowc c∧¬digc c
theorem odd_any (c:UInt8):CT Tryd.prog gl 29 [.g (.u8 (c.toNat:Int))] (Is (.pb (oddc c))):=by
 refine enter hT hF hM Tryd.func29 rfl 11 rfl (by kernel_rfl) [.tmp 2] rfl [.g (.u8 (c.toNat:Int))] rfl _ ?_
 refine callIs (.inl rfl) (small_any c) ?_
 refine ⟨fun h=>callIs (.inl rfl) (digit_any c) ⟨rfl,retN ⟨fun k=>⟨h,k⟩,fun k=>k.2⟩⟩,fun h=>⟨rfl,retF (fun k=>k.1 h)⟩⟩
theorem idxByte_any (s:Str) (hs:s.length≤9223372036854775807):CT Tryd.prog gl 35 [.g (.sl 1 (bytesG s)),.fn 29 [] []] (Is (.g (.int (idx oddc s)))):=by
 refine enter hT hF hM Tryd.func35 rfl 19 rfl (by kernel_rfl) [.tmp 4] rfl [.g (.sl 1 (bytesG s)),.fn 29 [] []] rfl _ ?_
 refine loopR (ι:=Nat) (fun i=>[(8,.g (.int (i:Int)))]) (fun _=>[]) (fun i=>i≤s.length∧∀ j (hj:j < s.length),j < i→¬oddc s[j]) (fun i=>s.length - i)
  ⟨0,[],⟨rfl,.inl rfl,.inr ⟨lk rfl,trivial⟩,rfl⟩,Nat.zero_le _,alln_0⟩ ?_
 intro Rd hRd i ⟨hi,ha⟩
 refine ⟨fun h=>?_,fun h=>?_⟩
 ·have h1:i < s.length:=by simp[bytesG] at h;omega
  refine ⟨i,_,rfl,gm h1,?_⟩
  refine callIs (.inl rfl) (odd_any s[i]) ?_
  refine ⟨fun h2=>⟨rfl,retI (idx_at h1 ha h2).symm⟩,fun h2=>⟨_,I64.wrap (by unfold I64;omega),?_⟩⟩
  exact hRd _ _ _ ⟨i+1,[],⟨rfl,.inl rfl,.inr ⟨lk rfl,trivial⟩,rfl⟩,⟨h1,alln_step h1 ha h2⟩,by omega⟩
 ·have h1:s.length≤i:=by simp[bytesG] at h;omega
  exact ⟨rfl,retI (idx_no (alln_end h1 ha)).symm⟩
theorem hasByte_any (s:Str) (hs:s.length≤9223372036854775807):CT Tryd.prog gl 28 [.g (.sl 1 (bytesG s)),.fn 29 [] []] (Is (.pb (∃ c∈s,oddc c))):=by
 refine enter hT hF hM Tryd.func28 rfl 9 rfl (by kernel_rfl) [.tmp 4] rfl [.g (.sl 1 (bytesG s)),.fn 29 [] []] rfl _ ?_
 refine callIs (.inl rfl) (idxByte_any s hs) ⟨rfl,retP ?_⟩
 rcases idx_cases oddc s with ⟨h1,h2⟩ | ⟨i,hi,h1,h2,h3⟩
 ·rw[h1];exact ⟨fun h=>absurd h (by decide),fun ⟨c,hc,ho⟩=>absurd ho (h2 c hc)⟩
 ·rw[h1];exact ⟨fun _=>⟨s[i],List.getElem_mem _,h2⟩,fun _=>by omega⟩
theorem wordP_iff (s:Str) (h0:s≠[]) (h8:s.length≤8):wordP s↔lowc (s[0]'(List.length_pos_iff.2 h0))∧¬∃ c∈s,oddc c:=by
 constructor
 ·rintro ⟨_,h⟩
  refine ⟨?_,fun ⟨c,hc,ho⟩=>?_⟩
  ·rcases h 0 (List.length_pos_iff.2 h0) with h | h
   ·exact h
   ·exact absurd rfl h.1
  ·obtain ⟨i,hi,rfl⟩:=List.getElem_of_mem hc
   rcases h i hi with h | h
   ·exact ho.1 h
   ·exact ho.2 h.2
 ·rintro ⟨h1,h2⟩
  refine ⟨⟨List.length_pos_iff.2 h0,h8⟩,fun j hj=>?_⟩
  by_cases hl:lowc s[j]
  ·exact .inl hl
  ·refine .inr ⟨fun e=>?_,?_⟩
   ·subst e;exact hl h1
   ·exact Classical.not_not.1 (fun hd=>h2 ⟨s[j],List.getElem_mem _,hl,hd⟩)
theorem Word_any (s:Str) (hs:s.length≤9223372036854775807):CT Tryd.prog gl 21 [.g (.str s)] (Is (.pb (wordP s))):=by
 refine enter hT hF hM Tryd.func21 rfl 21 rfl (by kernel_rfl) [.tmp 2] rfl [.g (.str s)] rfl _ ?_
 refine ⟨fun h1=>⟨fun h2=>?_,fun h2=>⟨rfl,retF (fun h=>h2 (by have:=h.1.2;omega))⟩⟩,fun h1=>⟨rfl,retF (fun h=>by have h1:s=[]:=h1;subst h1;exact absurd h.1.1 (by decide))⟩⟩
 have h8:s.length≤8:=by omega
 have h1:s≠[]:=h1
 have hw:=wordP_iff s h1 h8
 have hp:=List.length_pos_iff.2 h1
 refine ⟨0,s[0],rfl,ge hp,?_⟩
 refine callIs (.inl rfl) (small_any _) ⟨fun h3=>?_,fun h3=>⟨rfl,retF (fun h=>h3 (hw.1 h).1)⟩⟩
 exact callIs (.inl rfl) (hasByte_any s hs) ⟨rfl,retN ⟨fun h=>hw.2 ⟨h3,h⟩,fun h=>(hw.1 h).2⟩⟩


theorem strIdx_any (l:List Str) (hl:l.length≤9223372036854775807) (s:Str):CT Tryd.prog gl 23 [.g (.sl 1 (l.map strG)),.g (.str s)] (Is (.g (.int (idx (fun x=>s=x) l)))):=by
 refine enter hT hF hM Tryd.func23 rfl 19 rfl (by kernel_rfl) [.tmp 4] rfl [.g (.sl 1 (l.map strG)),.g (.str s)] rfl _ ?_
 refine loopR (ι:=Nat) (fun i=>[(8,.g (.int (i:Int)))]) (fun _=>[]) (fun i=>i≤l.length∧∀ j (hj:j < l.length),j < i→¬s=l[j]) (fun i=>l.length - i)
  ⟨0,[],⟨rfl,.inl rfl,.inr ⟨lk rfl,trivial⟩,rfl⟩,Nat.zero_le _,alln_0 (q:=fun x=>s=x)⟩ ?_
 intro Rd hRd i ⟨hi,ha⟩
 refine ⟨fun h=>?_,fun h=>?_⟩
 ·have h1:i < l.length:=by simp at h;omega
  refine ⟨i,_,rfl,gm h1,?_⟩
  refine ⟨fun h2=>⟨rfl,retI (idx_at (q:=fun x=>s=x) h1 ha h2).symm⟩,fun h2=>⟨_,I64.wrap (by unfold I64;omega),?_⟩⟩
  exact hRd _ _ _ ⟨i+1,[],⟨rfl,.inl rfl,.inr ⟨lk rfl,trivial⟩,rfl⟩,⟨h1,alln_step (q:=fun x=>s=x) h1 ha h2⟩,by omega⟩
 ·have h1:l.length≤i:=by simp at h;omega
  exact ⟨rfl,retI (idx_no (alln_end (q:=fun x=>s=x) h1 ha)).symm⟩
theorem strHas_any (l:List Str) (hl:l.length≤9223372036854775807) (s:Str):CT Tryd.prog gl 18 [.g (.sl 1 (l.map strG)),.g (.str s)] (Is (.pb (s∈l))):=by
 refine enter hT hF hM Tryd.func18 rfl 9 rfl (by kernel_rfl) [.tmp 4] rfl [.g (.sl 1 (l.map strG)),.g (.str s)] rfl _ ?_
 refine callIs (.inl rfl) (strIdx_any l hl s) ⟨rfl,retP ?_⟩
 rcases idx_cases (fun x=>s=x) l with ⟨h1,h2⟩ | ⟨i,hi,h1,h2,h3⟩
 ·rw[h1];exact ⟨fun h=>absurd h (by decide),fun h=>absurd rfl (h2 s h)⟩
 ·rw[h1];exact ⟨fun _=>by have h2:s=l[i]:=h2;rw[h2];exact List.getElem_mem _,fun _=>by omega⟩
theorem Ident_any (s:Str) (hs:s.length≤9223372036854775807):CT Tryd.prog gl 16 [.g (.str s)] (Is (.pb (identP s))):=by
 refine enter hT hF hM Tryd.func16 rfl 11 rfl (by kernel_rfl) [.tmp 2] rfl [.g (.str s)] rfl _ ?_
 refine callIs (.inl rfl) (Word_any s hs) ⟨fun h1=>?_,fun h1=>⟨rfl,retF (fun h=>h1 h.1)⟩⟩
 refine ⟨keys.map strG,rfl,rfl,⟨rfl,rfl,rfl,rfl,rfl,rfl,rfl,rfl,rfl,rfl,trivial⟩,?_⟩
 exact callIs (.inl rfl) (strHas_any keys (by decide) s) ⟨rfl,retN ⟨fun h=>⟨h1,h⟩,fun h=>h.2⟩⟩
end Go.Proofs.YtjkplhnbiejefaaDoor
