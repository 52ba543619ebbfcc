import Derived.Test.YthcmdjkaepclhaaFl
import Derived.Test.YthcmdjkaepclhaaLd
import Derived.Test.YthcmdjkaepclhaaQm
namespace Barb
open Go Go.Dm Go.Eng Go.Proofs.Ythcmdjkaepclhaa
theorem genE_two {p:List Unit} (hg:progE p=0) {k:Nat} (hk:k < p.length) {base:Int} (hb:0<=base/\base+unitWords p[k]<=250):genE p k base=if (unitC p p[k] base).length > 1200\/(unitW p p[k] base).most > 40 then 1 else 0:=by
 unfold genE
 rw[if_neg (fun h=>h hg),if_neg (by omega),show p.getD (k:Int).toNat ⟨[],[],[],[]⟩=p[k] by rw[Int.toNat_natCast];simp[hk],if_neg (by omega)]
theorem genE_one {p:List Unit} (hg:progE p=0) {k:Nat} (hk:k < p.length) {base:Int} (hb:0<=base/\base+unitWords p[k]<=250):genE p k base=0\/genE p k base=1:=by
 rw[genE_two hg hk hb]
 split<;>simp
structure GenGood (p:List Unit) (k:Nat) (base:Int) (u:Unit):Prop where
 short:(genC p k base).length<=1200
 form:∀ x∈genC p k base,instrE x=0
 many:(genA p k base).length=u.funcs.length
 at_:∀ n∈genA p k base,0<=n/\n < ((genC p k base).length:Int)
theorem gen_good {p:List Unit} (hg:progE p=0) {k:Nat} (hk:k < p.length) {base:Int} (hb:0<=base/\base+unitWords p[k]<=250) (h0:genE p k base=0):GenGood p k base p[k]:=by
 have hgd:p.getD (k:Int).toNat noU=p[k]:=by rw[Int.toNat_natCast];simp[hk]
 have h1:genC p k base=unitC p p[k] base:=by unfold genC;rw[if_pos h0,hgd]
 have h2:genA p k base=atsG p p[k] base p[k].funcs ⟨[],[],0,0⟩:=by unfold genA;rw[if_pos h0,hgd]
 have hmem:p[k]∈p:=List.getElem_mem hk
 have hw:=unitWords_good ((progE_inv hg).2.1 _ hmem)
 have h3:(unitC p p[k] base).length<=1200:=by
  rw[genE_two hg hk hb] at h0
  by_cases hx:(unitC p p[k] base).length > 1200\/(unitW p p[k] base).most > 40
  ·rw[if_pos hx] at h0;omega
  ·omega
 have h5:(unitC p p[k] base).length=(unitW p p[k] base).code.length:=patchG_len _ _ _
 refine ⟨by rw[h1];exact h3,by rw[h1];exact unitC_ok (fun f hf=>fits_of hg hmem (by omega) hf) h3,by rw[h2];exact atsG_len _ _ _ _ _,fun n hn=>?_⟩
 rw[h2] at hn
 have:=atsG_rng p p[k] base p[k].funcs ⟨[],[],0,0⟩ n hn
 rw[h1,h5]
 exact ⟨by have:=this.1;simp at this;exact this,this.2⟩
theorem entsL_mem:∀ (l:List Fun) (m:List Int) (x:Entry),x∈entsL l m->x.at_∈m/\∃ f∈l,x.params=f.params.length
 | [],_,x,h=>by simp[entsL] at h
 | _ :: _,[],x,h=>by simp[entsL] at h
 | f :: l,a :: m,x,h=>by
  simp only[entsL] at h
  have tl:x∈entsL l m->x.at_∈a :: m/\∃ g∈f :: l,x.params=g.params.length:=fun h=>by
   obtain ⟨h1,g,h2,h3⟩:=entsL_mem l m x h
   exact ⟨List.mem_cons_of_mem _ h1,g,List.mem_cons_of_mem _ h2,h3⟩
  split at h
  ·rcases List.mem_cons.1 h with rfl | h
   ·exact ⟨List.mem_cons_self,f,List.mem_cons_self,rfl⟩
   ·exact tl h
  ·exact tl h
theorem instrE_I {x:Instr} (h:instrE x=0):x.I:=by
 unfold instrE at h
 by_cases h1:¬(1<=x.op/\x.op<=15)
 ·rw[if_pos h1] at h;omega
 rw[if_neg h1] at h
 by_cases h2:instrBad x
 ·rw[if_pos h2] at h;omega
 unfold instrBad at h2
 have a1:bdA x.op<=65535:=by unfold bdA;(repeat' split)<;>omega
 have a2:bdB x.op<=65535:=by unfold bdB;(repeat' split)<;>omega
 have a3:bdC x.op<=65535:=by unfold bdC;(repeat' split)<;>omega
 unfold Instr.I I64
 omega
theorem lparts_len (q:List Unit) (n:Nat):(lparts q n).length=n:=by unfold lparts;simp
theorem lparts_at (q:List Unit) (n i:Nat) (h:i < (lparts q n).length):(lparts q n)[i]=lpart q i:=by
 have h':i < n:=by rw[lparts_len] at h;exact h
 exact Option.some.inj ((List.getElem?_eq_getElem h).symm.trans (by unfold lparts;simp[h']))
theorem fromAt_l (q:List Unit) (n i:Nat) (h:i<=n):fromAt (lparts q n) i=baseAt q i:=by
 cases i with
 | zero=>simp[fromAt,baseAt,progWords]
 | succ i =>
  have hl:i < (lparts q n).length:=by rw[lparts_len];omega
  rw[fromAt_succ hl,lparts_at];rfl
theorem link_all {q:List Unit} (h:linkE1 q=0) {k:Nat} (hk:k < q.length):genE q k (baseAt q k)=0:=firstE_all h k (List.mem_range.2 hk)
theorem base_rng {q:List Unit} (hg:progE q=0) {k:Nat} (hk:k < q.length):0<=baseAt q k/\baseAt q k+unitWords q[k]<=250/\0<=unitWords q[k]:=by
 obtain ⟨_,hU,hw,_⟩:=progE_inv hg
 have hb:=progWords_take q (fun u hu=>(unitWords_good (hU u hu)).1)
 have h1:=hb k
 have h2:=hb (k+1)
 have h3:=unitWords_good (hU _ (List.getElem_mem hk))
 rw[baseAt_succ hk] at h2
 omega
theorem lpart_good {q:List Unit} (hg:progE q=0) (h:linkE1 q=0) {k:Nat} (hk:k < q.length):partE (lpart q k) (baseAt q k)=0/\(lpart q k).I:=by
 obtain ⟨b1,b2,b3⟩:=base_rng hg hk
 have G:=gen_good hg hk ⟨b1,b2⟩ (link_all h hk)
 have hmem:q[k]∈q:=List.getElem_mem hk
 obtain ⟨_,_,_,hf8,_,_,hFE⟩:=unitE_inv ((progE_inv hg).2.1 _ hmem)
 have hqd:q.getD k noU=q[k]:=by simp[hk]
 have hel:=entsL_len q[k].funcs (genA q k (baseAt q k))
 have hem:=entsL_mem q[k].funcs (genA q k (baseAt q k))
 have hsucc:=baseAt_succ hk
 have hent:∀ x∈entsL q[k].funcs (genA q k (baseAt q k)),(0<=x.at_/\x.at_ < ((genC q k (baseAt q k)).length:Int))/\0<=x.params/\x.params<=4:=fun x hx=>by
  obtain ⟨m1,f,m2,m3⟩:=hem x hx
  have:=G.at_ _ m1
  have:=(funE_inv (hFE f m2)).2.1
  omega
 have hsh:=G.short
 unfold lpart
 rw[hqd]
 refine ⟨?_,⟨fun x hx=>instrE_I (G.form x hx),fun x hx=>?_,?_,?_,?_,?_⟩⟩
 ·unfold partE
  dsimp only
  rw[if_neg (by omega),if_neg (fun hc=>hc (firstE_zero G.form)),if_neg (fun hc=>hc (firstE_zero (fun x hx=>by
   have:=hent x hx
   unfold entE
   rw[if_neg (by unfold entBad;omega)]))),if_neg (by omega)]
 ·have:=hent x hx
  unfold Entry.I I64
  dsimp only at *
  omega
 ·show I64 (baseAt q k);unfold I64;omega
 ·show I64 (baseAt q (k+1));unfold I64;omega
 ·show (genC q k (baseAt q k)).length*32<=_;omega
 ·show (entsL q[k].funcs (genA q k (baseAt q k))).length*16<=_;omega
theorem img_good {q:List Unit} (hg:progE q=0) (h:linkE1 q=0):imgE (lparts q q.length)=0/\Image.I (lparts q q.length)/\imgWords (lparts q q.length)=progWords q:=by
 obtain ⟨h5,_⟩:=progE_inv hg
 have hl:=lparts_len q q.length
 refine ⟨?_,⟨fun x hx=>?_,by omega⟩,?_⟩
 ·unfold imgE
  rw[if_neg (by omega)]
  refine firstN_all (fun j hj=>?_)
  rw[imgF_at hj,lparts_at,fromAt_l _ _ _ (by omega)]
  exact (lpart_good hg h (by omega)).1
 ·obtain ⟨j,hj,rfl⟩:=List.getElem_of_mem hx
  rw[lparts_at]
  exact (lpart_good hg h (by omega)).2
 ·unfold imgWords
  rw[hl,fromAt_l _ _ _ (Nat.le_refl _)]
  unfold baseAt
  rw[List.take_length]
theorem link_two {q:List Unit} (hg:progE q=0):linkE1 q=0\/linkE1 q=1:=by
 unfold linkE1
 have key:∀ l:List Nat,(∀ k∈l,k < q.length)->firstE (fun k=>genE q (k:Nat) (baseAt q k)) l=0\/firstE (fun k=>genE q (k:Nat) (baseAt q k)) l=1:=by
  intro l
  induction l with
  | nil=>intro _;exact .inl rfl
  | cons k l ih =>
   intro hk
   have hkl:=hk k List.mem_cons_self
   obtain ⟨b1,b2,_⟩:=base_rng hg hkl
   simp only[firstE]
   by_cases h0:genE q k (baseAt q k)=0
   ·rw[if_pos h0];exact ih (fun j hj=>hk j (List.mem_cons_of_mem _ hj))
   ·rw[if_neg h0];exact .inr ((genE_one hg hkl ⟨b1,b2⟩).resolve_left h0)
 exact key _ (fun k hk=>List.mem_range.1 hk)
theorem flat_sum:∀ (l:List (List Int)) (m:List Arr),l.length=m.length->(∀ k (h:k < l.length) (h':k < m.length),wordsOk l[k] m[k].size)->((l.flatten).length:Int)=sizes m
 | [],[],_,_=>by simp[sizes]
 | a :: l,b :: m,hl,h=>by
  have h1:=flat_sum l m (by simpa using hl) (fun k hk hk'=>by have:=h (k+1) (by simpa using hk) (by simpa using hk');simpa using this)
  have h2:=(h 0 (by simp) (by simp)).1
  simp only[List.getElem_cons_zero] at h2
  unfold sizes at h1 ⊢
  simp only[List.flatten_cons,List.length_append,List.map_cons,List.sum_cons]
  omega
theorem flatC_words {u:Unit} {c:Cells} (h:cellOk u c):((flatC c).length:Int)=unitWords u:=by
 obtain ⟨⟨h1,h2⟩,h3⟩:=h
 have:=flat_sum c.arrays u.arrays h2 h3
 unfold flatC unitWords
 rw[List.length_append]
 have:=h1.1
 push_cast
 omega
theorem flatN_words:∀ (p:List Unit) (cs:List Cells),cs.length=p.length->cellsOk p cs->((flatN cs).length:Int)=progWords p
 | [],[],_,_=>by simp[flatN,progWords]
 | u :: p,c :: cs,hl,h=>by
  have h1:=flatN_words p cs (by simpa using hl) (fun i hi hi'=>by have:=h (i+1) (by simpa using hi) (by simpa using hi');simpa using this)
  have h2:=flatC_words (h 0 (by simp) (by simp))
  simp only[List.getElem_cons_zero] at h2
  unfold flatN progWords at *
  simp only[List.flatMap_cons,List.length_append,List.map_cons,List.sum_cons]
  push_cast
  omega
theorem flatN_word {p:List Unit} {cs:List Cells} (hl:cs.length=p.length) (h:cellsOk p cs):∀ x∈flatN cs,wordN x:=by
 intro x hx
 unfold flatN at hx
 obtain ⟨c,hc,hx⟩:=List.mem_flatMap.1 hx
 obtain ⟨i,hi,rfl⟩:=List.getElem_of_mem hc
 obtain ⟨⟨h1,h2⟩,h3⟩:=h i hi (by omega)
 unfold flatC at hx
 rcases List.mem_append.1 hx with hx | hx
 ·exact h1.2 x hx
 ·obtain ⟨a,ha,hxa⟩:=List.mem_flatten.1 hx
  obtain ⟨k,hk,rfl⟩:=List.getElem_of_mem ha
  exact (h3 k hk (by omega)).2 x hxa
theorem linkI_good {p:List Unit} (hg:progE p=0) (hN:fewP p) (h:linkE p=0):imgE (linkI p)=0/\Image.I (linkI p)/\imgWords (linkI p)=progWords p/\(linkI p).length=p.length:=by
 have hq:=(foldP_good hg hN).1
 have h1:linkE1 (foldP p)=0:=by unfold linkE at h;rw[if_neg (fun h'=>h' hg)] at h;exact h
 have e:linkI p=lparts (foldP p) (foldP p).length:=by unfold linkI;rw[if_pos h,foldP_len]
 obtain ⟨a,b,c⟩:=img_good hq h1
 rw[e]
 exact ⟨a,b,by rw[c];exact foldU_words p,by rw[lparts_len,foldP_len]⟩
theorem linkE_two {p:List Unit} (hg:progE p=0) (hN:fewP p):linkE p=0\/linkE p=1:=by
 unfold linkE
 rw[if_neg (fun h'=>h' hg)]
 exact link_two (foldP_good hg hN).1
end Barb
