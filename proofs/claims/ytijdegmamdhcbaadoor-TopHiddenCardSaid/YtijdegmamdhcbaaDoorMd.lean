/-
  mem.Words, mem.CheckData and what the document says of them: the contracts.
-/
import Derived.Test.YtijdegmamdhcbaaDoorMc
import Derived.Test.YtijdegmamdhcbaaDoorSpec2
namespace Barb
open Go Go.Dm Go.Eng
def imgWords (m:List Part):Int:=fromAt m m.length
def wordN (n:Int):Prop:=0≤n∧n≤65535
instance (n:Int):Decidable (wordN n):=by unfold wordN;infer_instance
def wordE (n:Int):Int:=if wordN n then 0 else 2
def dataE (m:List Part) (d:List Int):Int:=if imgE m≠0 then imgE m else if ¬((d.length:Int)=imgWords m) then 4 else firstE wordE d
theorem wordE_two {d:List Int} (h:∃ n∈d,¬wordN n):firstE wordE d=2:=by
 induction d with
 | nil=>obtain ⟨n,hn,_⟩:=h;simp at hn
 | cons x d ih =>
  simp only[firstE]
  by_cases hx:wordN x
  ·have hz:wordE x=0:=by unfold wordE;rw[if_pos hx]
   rw[if_pos hz]
   refine ih ?_
   obtain ⟨n,hn,hw⟩:=h
   rcases List.mem_cons.1 hn with rfl | hn
   ·exact absurd hx hw
   ·exact ⟨n,hn,hw⟩
  ·have hz:wordE x=2:=by unfold wordE;rw[if_neg hx]
   rw[if_neg (by rw[hz];decide),hz]
theorem wordE_zero {d:List Int} (h:∀ n∈d,wordN n):firstE wordE d=0:=firstE_zero (fun x hx=>by unfold wordE;rw[if_pos (h x hx)])
end Barb
namespace Go.Proofs.YtijdegmamdhcbaaDoor
open Go Go.Dm Go.Eng Barb

theorem MemWords_any (m:Image) (hm:Image.I m):CT Tryd.prog gl 18 [.agg (imgD m)] (Is (.g (.int (imgWords m)))):=by
 have lm:(m.map Part.g).length=m.length:=by simp
 have hl:=hm.2
 refine enter hT hF hM Tryd.func18 rfl 16 rfl (by kernel_rfl) [.tmp 2] rfl [.agg (imgD m)] rfl _ ?_
 refine ⟨fun h=>⟨rfl,retI (by unfold imgWords;rw[show m.length=0 by omega];rfl)⟩,fun h=>?_⟩
 obtain ⟨k,hk⟩:∃ k,m.length=k+1:=⟨m.length - 1,by omega⟩
 have hkl:k < m.length:=by omega
 refine ⟨by unfold I64;omega,k,_,(show D.g (.int (((m.map Part.g).length:Int) - 1))=D.g (.int (k:Int)) by rw[lm,hk];simp),gm hkl,rfl,retI ?_⟩
 unfold imgWords
 rw[hk,fromAt_succ hkl]
def oddN (n:Int):Prop:=¬wordN n
theorem oddN_any (n:Int):CT Tryd.prog gl 63 [.g (.int n)] (Is (.pb (oddN n))):=by
 refine enter hT hF hM Tryd.func63 rfl 6 rfl (by kernel_rfl) [.tmp 2] rfl [.g (.int n)] rfl _ ?_
 exact callIs (.inl rfl) (Is_any n) ⟨rfl,retN Iff.rfl⟩
theorem idxN_any (l:List Int) (hl:l.length≤9223372036854775807):CT Tryd.prog gl 48 [.g (.sl 1 (l.map intG)),.fn 63 [] []] (Is (.g (.int (idx oddN l)))):=by
 have ll:(l.map intG).length=l.length:=by simp
 refine enter hT hF hM Tryd.func48 rfl 19 rfl (by kernel_rfl) [.tmp 4] rfl [.g (.sl 1 (l.map intG)),.fn 63 [] []] rfl _ ?_
 refine loopR (ι:=Nat) (fun i=>[(8,.g (.int (i:Int)))]) (fun _=>[]) (fun i=>i≤l.length∧∀ j (hj:j < l.length),j < i→¬oddN l[j]) (fun i=>l.length - i)
  ⟨0,[],⟨rfl,.inl rfl,.inr ⟨lk rfl,trivial⟩,rfl⟩,Nat.zero_le _,alln_0⟩ ?_
 intro Rd hRd i ⟨hi,ha⟩
 refine ⟨fun h=>?_,fun h=>?_⟩
 ·have h1:i < l.length:=by omega
  refine ⟨i,_,rfl,gm h1,?_⟩
  refine callIs (.inl rfl) (oddN_any l[i]) ?_
  refine ⟨fun h2=>⟨rfl,retI (idx_at h1 ha h2).symm⟩,fun h2=>⟨_,I64.wrap (by unfold I64;omega),?_⟩⟩
  exact hRd _ _ _ ⟨i+1,[],⟨rfl,.inl rfl,.inr ⟨lk rfl,trivial⟩,rfl⟩,⟨h1,alln_step h1 ha h2⟩,by omega⟩
 ·exact ⟨rfl,retI (idx_no (alln_end (by omega) ha)).symm⟩
theorem hasN_any (l:List Int) (hl:l.length≤9223372036854775807):CT Tryd.prog gl 28 [.g (.sl 1 (l.map intG)),.fn 63 [] []] (Is (.pb (∃ n∈l,¬wordN n))):=by
 refine enter hT hF hM Tryd.func28 rfl 9 rfl (by kernel_rfl) [.tmp 4] rfl [.g (.sl 1 (l.map intG)),.fn 63 [] []] rfl _ ?_
 refine callIs (.inl rfl) (idxN_any l hl) ⟨rfl,retP ?_⟩
 rcases idx_cases oddN l with ⟨h1,h2⟩ | ⟨i,hi,h1,h2,h3⟩
 ·rw[h1];exact ⟨fun h=>absurd h (by decide),fun ⟨c,hc,ho⟩=>absurd ho (h2 c hc)⟩
 ·rw[h1];exact ⟨fun _=>⟨l[i],List.getElem_mem _,h2⟩,fun _=>by omega⟩

theorem CheckData_any (m:Image) (hm:Image.I m) (d:List Int) (hd:d.length*8≤140737488351232):CT Tryd.prog gl 36 [.agg (imgD m),.g (.sl 1 (d.map intG))] (Is (.g (.int (dataE m d)))):=by
 have ld:(d.map intG).length=d.length:=by simp
 have e:dataE m d=dataE m d:=rfl
 conv at e=>rhs;unfold dataE
 refine enter hT hF hM Tryd.func36 rfl 18 rfl (by kernel_rfl) [.tmp 4] rfl [.agg (imgD m),.g (.sl 1 (d.map intG))] rfl _ ?_
 refine callIs (.inl rfl) (MemCheck_any m hm) ⟨fun h=>⟨rfl,retI (by rw[e,if_pos h])⟩,fun h=>?_⟩
 rw[if_neg (fun h'=>h' h)] at e
 refine callIs (.inl rfl) (MemWords_any m hm) ⟨fun h=>⟨rfl,retI (by rw[e,if_pos (by rw[← ld];exact h)])⟩,fun h=>?_⟩
 rw[if_neg (by rw[← ld];exact fun h'=>h' h)] at e
 refine callIs (.inl rfl) (hasN_any d (by omega)) ⟨fun h=>⟨rfl,retI (by rw[e,wordE_two h])⟩,fun h=>⟨rfl,retI (by rw[e,wordE_zero (fun n hn=>Classical.not_not.1 (fun hw=>h ⟨n,hn,hw⟩))])⟩⟩
end Go.Proofs.YtijdegmamdhcbaaDoor
