/-
  The reference's text: statements and blocks: the contracts; and how long a unit's text is.
-/
import Derived.Test.YtabjelabdojpkaaDoorWe0
namespace Go.Proofs.YtabjelabdojpkaaDoor
open Go Go.Dm Go.Eng Go.RowKit Barb
def BlR (f n:Nat):Prop:=∀ l,stmtsE f l=0→l.length*96≤140737488351232→(∀ x∈l,Stmt.I x)→(blS f n l).length≤140737488355328 →
 CT Tryd.prog g0 20 [.g (.sl 5 (l.map Stmt.g)),.g (.str (blS0 n))] (Is (.g (.str (blS f n l))))
set_option maxRecDepth 20000 in
theorem stmtShown_any {f n:Nat} (hB:BlR f n) {x:Barb.Stmt} (h:stmtE1 (stmtsE f) x=0) (hI:Stmt.I x) (hs0:(stS (blS f) n x).length≤140737488355328) :
  CT Tryd.prog g0 38 [.agg x.d,.g (.str (blS0 n))] (Is (.g (.str (stS (blS f) n x)))):=by
 obtain ⟨⟨h2,hl,hts⟩,hc⟩:=st_facts (n:=n) h
 obtain ⟨_,_,_,hib,hie,_,hbI,heI⟩:=hI.inv
 have ln:=blS0_len n
 have hX:=fun (j:Nat) (hj:j < x.xs.length)=>exprShown_any 12 (Nat.le_refl _) x.xs[j] (hl _ (List.getElem_mem hj))
 generalize stS (blS f) n x=r at *
 rcases hc with ⟨hk,hs,t0,et,er⟩ | ⟨hk,hs,t0,t1,et,er⟩ | ⟨hk,hsb,hse,t0,et,er⟩ | ⟨hk,hsb,t0,et,er⟩ | ⟨hk,t0,et,er⟩ | ⟨hk,t0,et,er⟩
 ·have h1:x.xs.length=1:=by have:=congrArg List.length et;simpa using this
  have h0:0 < x.xs.length:=by omega
  have e0:exS 12 x.xs[0]=t0:=by have:=congrArg (·[0]?) et;simpa [h0] using this
  have hX0:=hX 0 h0
  rw[e0] at hX0
  have ht0:=hts t0 (by rw[et];simp)
  have hs1:=hs0
  rw[er] at hs1
  simp only[List.length_append,List.length_cons,List.length_nil] at hs1
  refine enter hT hF hM Tryd.func38 rfl 84 rfl (by kernel_rfl) [.tmp 4] rfl [.agg x.d,.g (.str (blS0 n))] rfl _ ?_
  refine ⟨0,_,rfl,exG h0,?_⟩
  refine callIs (.inl rfl) hX0 ?_
  refine ⟨fun _=>?_,fun h=>absurd hk h⟩
  refine ⟨by omega,?_⟩
  refine ⟨by simp only[List.length_append,List.length_cons,List.length_nil];omega,?_⟩
  refine ⟨by simp only[List.length_append,List.length_cons,List.length_nil];omega,?_⟩
  refine ⟨by simp only[List.length_append,List.length_cons,List.length_nil];omega,?_⟩
  exact ⟨rfl,retS (by rw[er];simp)⟩
 ·have h1:x.xs.length=2:=by have:=congrArg List.length et;simpa using this
  have h0:0 < x.xs.length:=by omega
  have e0:exS 12 x.xs[0]=t0:=by have:=congrArg (·[0]?) et;simpa [h0] using this
  have hX0:=hX 0 h0
  rw[e0] at hX0
  have ht0:=hts t0 (by rw[et];simp)
  have h01:1 < x.xs.length:=by omega
  have e1:exS 12 x.xs[1]=t1:=by have:=congrArg (·[1]?) et;simpa [h01] using this
  have hX1:=hX 1 h01
  rw[e1] at hX1
  have ht1:=hts t1 (by rw[et];simp)
  have hs1:=hs0
  rw[er] at hs1
  simp only[List.length_append,List.length_cons,List.length_nil] at hs1
  refine enter hT hF hM Tryd.func38 rfl 84 rfl (by kernel_rfl) [.tmp 4] rfl [.agg x.d,.g (.str (blS0 n))] rfl _ ?_
  refine ⟨0,_,rfl,exG h0,?_⟩
  refine callIs (.inl rfl) hX0 ?_
  refine ⟨fun h=>absurd h (by omega),fun _=>?_⟩
  refine ⟨fun _=>?_,fun h=>absurd hk h⟩
  refine ⟨none,rfl,?_⟩
  refine ⟨by omega,?_⟩
  refine ⟨by simp only[List.length_append,List.length_cons,List.length_nil];omega,?_⟩
  refine ⟨by simp only[List.length_append,List.length_cons,List.length_nil];omega,?_⟩
  refine ⟨by simp only[List.length_append,List.length_cons,List.length_nil];omega,?_⟩
  refine ⟨1,_,rfl,exG h01,?_⟩
  refine ⟨_,_,.inl rfl,hX1,rfl,?_⟩
  refine ⟨by simp only[List.length_append,List.length_cons,List.length_nil];omega,?_⟩
  refine ⟨by simp only[List.length_append,List.length_cons,List.length_nil];omega,?_⟩
  exact ⟨rfl,retS (by rw[er];simp)⟩
 ·have h1:x.xs.length=1:=by have:=congrArg List.length et;simpa using this
  have h0:0 < x.xs.length:=by omega
  have e0:exS 12 x.xs[0]=t0:=by have:=congrArg (·[0]?) et;simpa [h0] using this
  have hX0:=hX 0 h0
  rw[e0] at hX0
  have ht0:=hts t0 (by rw[et];simp)
  have hs1:=hs0
  rw[er] at hs1
  simp only[List.length_append,List.length_cons,List.length_nil] at hs1
  have hb1:=hB x.b hsb hib hbI (by omega)
  have hb2:=hB x.e hse hie heI (by omega)
  refine enter hT hF hM Tryd.func38 rfl 84 rfl (by kernel_rfl) [.tmp 4] rfl [.agg x.d,.g (.str (blS0 n))] rfl _ ?_
  refine ⟨0,_,rfl,exG h0,?_⟩
  refine callIs (.inl rfl) hX0 ?_
  refine ⟨fun h=>absurd h (by omega),fun _=>?_⟩
  refine ⟨fun h=>absurd h (by omega),fun _=>?_⟩
  refine ⟨fun h=>absurd h (by omega),fun _=>?_⟩
  refine ⟨fun h=>absurd h (by omega),fun _=>?_⟩
  refine ⟨fun h=>absurd h (by omega),fun _=>?_⟩
  refine ⟨none,rfl,?_⟩
  refine ⟨by simp only[List.length_cons,List.length_nil];omega,?_⟩
  refine ⟨by simp only[List.length_append,List.length_cons,List.length_nil];omega,?_⟩
  refine ⟨by simp only[List.length_append,List.length_cons,List.length_nil];omega,?_⟩
  refine ⟨_,_,.inl rfl,hb1,rfl,?_⟩
  refine ⟨by simp only[List.length_append,List.length_cons,List.length_nil];omega,?_⟩
  refine ⟨by simp only[List.length_append,List.length_cons,List.length_nil];omega,?_⟩
  refine ⟨_,_,.inl rfl,hb2,rfl,?_⟩
  refine ⟨by simp only[List.length_append,List.length_cons,List.length_nil];omega,?_⟩
  refine ⟨by simp only[List.length_append,List.length_cons,List.length_nil];omega,?_⟩
  exact ⟨rfl,retS (by rw[er];simp)⟩
 ·have h1:x.xs.length=1:=by have:=congrArg List.length et;simpa using this
  have h0:0 < x.xs.length:=by omega
  have e0:exS 12 x.xs[0]=t0:=by have:=congrArg (·[0]?) et;simpa [h0] using this
  have hX0:=hX 0 h0
  rw[e0] at hX0
  have ht0:=hts t0 (by rw[et];simp)
  have hs1:=hs0
  rw[er] at hs1
  simp only[List.length_append,List.length_cons,List.length_nil] at hs1
  have hb1:=hB x.b hsb hib hbI (by omega)
  refine enter hT hF hM Tryd.func38 rfl 84 rfl (by kernel_rfl) [.tmp 4] rfl [.agg x.d,.g (.str (blS0 n))] rfl _ ?_
  refine ⟨0,_,rfl,exG h0,?_⟩
  refine callIs (.inl rfl) hX0 ?_
  refine ⟨fun h=>absurd h (by omega),fun _=>?_⟩
  refine ⟨fun h=>absurd h (by omega),fun _=>?_⟩
  refine ⟨fun h=>absurd h (by omega),fun _=>?_⟩
  refine ⟨fun h=>absurd h (by omega),fun _=>?_⟩
  refine ⟨fun _=>?_,fun h=>absurd hk h⟩
  refine ⟨by simp only[List.length_cons,List.length_nil];omega,?_⟩
  refine ⟨by simp only[List.length_append,List.length_cons,List.length_nil];omega,?_⟩
  refine ⟨by simp only[List.length_append,List.length_cons,List.length_nil];omega,?_⟩
  refine callIs (.inl rfl) hb1 ?_
  refine ⟨by simp only[List.length_append,List.length_cons,List.length_nil];omega,?_⟩
  refine ⟨by simp only[List.length_append,List.length_cons,List.length_nil];omega,?_⟩
  exact ⟨rfl,retS (by rw[er];simp)⟩
 ·have h1:x.xs.length=1:=by have:=congrArg List.length et;simpa using this
  have h0:0 < x.xs.length:=by omega
  have e0:exS 12 x.xs[0]=t0:=by have:=congrArg (·[0]?) et;simpa [h0] using this
  have hX0:=hX 0 h0
  rw[e0] at hX0
  have ht0:=hts t0 (by rw[et];simp)
  have hs1:=hs0
  rw[er] at hs1
  simp only[List.length_append,List.length_cons,List.length_nil] at hs1
  refine enter hT hF hM Tryd.func38 rfl 84 rfl (by kernel_rfl) [.tmp 4] rfl [.agg x.d,.g (.str (blS0 n))] rfl _ ?_
  refine ⟨0,_,rfl,exG h0,?_⟩
  refine callIs (.inl rfl) hX0 ?_
  refine ⟨fun h=>absurd h (by omega),fun _=>?_⟩
  refine ⟨fun h=>absurd h (by omega),fun _=>?_⟩
  refine ⟨fun _=>?_,fun h=>absurd hk h⟩
  refine ⟨by simp only[List.length_cons,List.length_nil];omega,?_⟩
  refine ⟨by simp only[List.length_append,List.length_cons,List.length_nil];omega,?_⟩
  refine ⟨by simp only[List.length_append,List.length_cons,List.length_nil];omega,?_⟩
  exact ⟨rfl,retS (by rw[er];simp)⟩
 ·have h1:x.xs.length=1:=by have:=congrArg List.length et;simpa using this
  have h0:0 < x.xs.length:=by omega
  have e0:exS 12 x.xs[0]=t0:=by have:=congrArg (·[0]?) et;simpa [h0] using this
  have hX0:=hX 0 h0
  rw[e0] at hX0
  have ht0:=hts t0 (by rw[et];simp)
  have hs1:=hs0
  rw[er] at hs1
  simp only[List.length_append,List.length_cons,List.length_nil] at hs1
  refine enter hT hF hM Tryd.func38 rfl 84 rfl (by kernel_rfl) [.tmp 4] rfl [.agg x.d,.g (.str (blS0 n))] rfl _ ?_
  refine ⟨0,_,rfl,exG h0,?_⟩
  refine callIs (.inl rfl) hX0 ?_
  refine ⟨fun h=>absurd h (by omega),fun _=>?_⟩
  refine ⟨fun h=>absurd h (by omega),fun _=>?_⟩
  refine ⟨fun h=>absurd h (by omega),fun _=>?_⟩
  refine ⟨fun _=>?_,fun h=>absurd hk h⟩
  refine ⟨by simp only[List.length_cons,List.length_nil];omega,?_⟩
  refine ⟨by simp only[List.length_append,List.length_cons,List.length_nil];omega,?_⟩
  refine ⟨by simp only[List.length_append,List.length_cons,List.length_nil];omega,?_⟩
  exact ⟨rfl,retS (by rw[er];simp)⟩
set_option maxRecDepth 20000 in
theorem blockShown_any:∀ (f n:Nat),n+f≤13→BlR f n
 | 0,_,_=>fun l h=>by cases h
 | f+1,n,hn=>by
  intro l h hl96 hI hs0
  have hB:BlR f (n+1):=blockShown_any f (n+1) (by omega)
  have hl:=firstE_all h
  have ll:(l.map Stmt.g).length=l.length:=List.length_map _
  have ln:=blS0_len n
  have e0:blS (f+1) n l=[123,10]++(l.flatMap (stS (blS f) (n+1))++(blS0 n++[125])):=rfl
  rw[e0] at hs0 ⊢
  have hs1:=hs0
  simp only[List.length_append,List.length_cons,List.length_nil] at hs1
  refine enter hT hF hM Tryd.func20 rfl 26 rfl (by kernel_rfl) [.tmp 4] rfl [.g (.sl 5 (l.map Stmt.g)),.g (.str (blS0 n))] rfl _ ?_
  refine loopR (ι:=Nat) (fun i=>[(5,.g (.str ([123,10]++(l.take i).flatMap (stS (blS f) (n+1))))),(6,.g (.int (i:Int)))]) (fun _=>[]) (fun i=>i≤l.length) (fun i=>l.length - i)
   ⟨0,[],⟨rfl,.inl rfl,.inr ⟨lkS (by simp),lk rfl,trivial⟩,rfl⟩,Nat.zero_le _⟩ ?_
  intro Rd hRd i hi
  have hfl:((l.take i).flatMap (stS (blS f) (n+1))).length≤(l.flatMap (stS (blS f) (n+1))).length:=by
   conv=>rhs;rw[← List.take_append_drop i l,List.flatMap_append,List.length_append]
   omega
  refine ⟨fun h1=>?_,fun h1=>?_⟩
  ·have h2:i < l.length:=by omega
   have ht:l.take (i+1)=l.take i++[l[i]]:=take_one h2
   have ef:(l.take (i+1)).flatMap (stS (blS f) (n+1))=(l.take i).flatMap (stS (blS f) (n+1))++stS (blS f) (n+1) l[i]:=by rw[ht,List.flatMap_append];simp
   have hfl2:((l.take (i+1)).flatMap (stS (blS f) (n+1))).length≤(l.flatMap (stS (blS f) (n+1))).length:=by
    conv=>rhs;rw[← List.take_append_drop (i+1) l,List.flatMap_append,List.length_append]
    omega
   rw[ef,List.length_append] at hfl2
   have hS:=stmtShown_any hB (hl _ (List.getElem_mem h2)) (hI _ (List.getElem_mem h2)) (by omega)
   rw[blank_succ] at hS
   refine ⟨i,_,rfl,stG2 h2,?_⟩
   refine ⟨by simp only[List.length_cons,List.length_nil];omega,?_⟩
   refine callIs (.inl rfl) hS ?_
   refine ⟨by simp only[List.length_append,List.length_cons,List.length_nil];omega,?_⟩
   refine ⟨_,I64.wrap (by unfold I64;omega),?_⟩
   exact hRd _ _ _ ⟨i+1,[],⟨rfl,.inl rfl,.inr ⟨lkS (by rw[ef,← List.append_assoc]),lkI (by omega),trivial⟩,rfl⟩,h2,by omega⟩
  ·have e:l.take i=l:=List.take_of_length_le (by omega)
   refine ⟨by simp only[List.length_append,List.length_cons,List.length_nil];omega,?_⟩
   refine ⟨by simp only[List.length_append,List.length_cons,List.length_nil];omega,?_⟩
   exact ⟨rfl,retS (by rw[e];simp)⟩
theorem fu_len {f:Fun} (h:funE f=0) (hp:f.params.length≤4):((fuS f).length:Int)≤200+stmtsN 12 f.body*500000000:=by
 obtain ⟨h1,h2,h3⟩:=funE_inv h
 have a1:=id_len h1
 have a2:=join_len (b:=8) f.params (fun s hs=>id_len (h2 s hs))
 have a3:f.params.length*(8+2)≤4*(8+2):=Nat.mul_le_mul_right _ hp
 have a4:=bl_len 12 0 f.body (by omega) h3
 unfold fuS
 have a5:(if f.isOpen=true then [111,112,101,110,32] else [102,117,110,99,32]:Str).length=5:=by split<;>rfl
 simp only[List.length_append,List.length_cons,List.length_nil,a5]
 omega
theorem funE_pars {f:Fun} (h:funE f=0):f.params.length≤4:=by
 unfold funE at h
 split at h
 ·cases h
 split at h
 ·cases h
 ·omega
theorem fus_len:∀ l:List Fun,(∀ f∈l,funE f=0)→((l.flatMap fuS).length:Int)≤l.length*200+manyN l*500000000
 | [],_=>by simp[manyN]
 | f :: l,h=>by
  have h1:=fus_len l (fun g hg=>h g (List.mem_cons_of_mem _ hg))
  have h2:=h f List.mem_cons_self
  have h3:=fu_len h2 (funE_pars h2)
  have e:manyN (f :: l)=stmtsN 12 f.body+manyN l:=by simp[manyN]
  rw[List.flatMap_cons,List.length_append,List.length_cons,e]
  omega
theorem vas_len:∀ l:List Str,(∀ s∈l,identP s)→(l.flatMap vaS).length≤l.length*13
 | [],_=>by simp
 | s :: l,h=>by
  have h1:=vas_len l (fun g hg=>h g (List.mem_cons_of_mem _ hg))
  have h2:=id_len (h s List.mem_cons_self)
  rw[List.flatMap_cons,List.length_append,List.length_cons]
  simp only[vaS,List.length_append,List.length_cons,List.length_nil]
  omega
theorem ars_len:∀ l:List Arr,(∀ a∈l,arrE a=0)→(l.flatMap arS).length≤l.length*22
 | [],_=>by simp
 | a :: l,h=>by
  have h1:=ars_len l (fun g hg=>h g (List.mem_cons_of_mem _ hg))
  obtain ⟨i1,i2,i3⟩:=arrE_inv (h a List.mem_cons_self)
  have h2:=id_len i1
  have h3:=dec_len (n:=a.size.toNat) (by omega)
  rw[List.flatMap_cons,List.length_append,List.length_cons]
  simp only[arS,List.length_append,List.length_cons,List.length_nil]
  omega
theorem un_len {u:Barb.Unit} (h:unitE u=0) (hN:manyN u.funcs≤300):(unS u).length≤200000000000:=by
 obtain ⟨h1,h2,h3,h4⟩:=unitE_inv h
 obtain ⟨k1,k2,k3,_⟩:=unitE_ok h
 have a1:=id_len h1
 have a2:=vas_len u.vars h2
 have a3:=ars_len u.arrays h3
 have a4:=fus_len u.funcs h4
 unfold unS
 simp only[List.length_append,List.length_cons,List.length_nil]
 omega
end Go.Proofs.YtabjelabdojpkaaDoor
