import Derived.Test.YthcmdjkaepclhaaFd
import Derived.Test.YthcmdjkaepclhaaGn
import Derived.Test.YthcmdjkaepclhaaMc
namespace Barb
open Go Go.Dm Go.Eng Go.Proofs.Ythcmdjkaepclhaa
def entsL:List Fun->List Int->List Entry
 | f :: l,a :: m=>if f.isOpen then ⟨a,f.params.length⟩ :: entsL l m else entsL l m
 | _,_=>[]
def baseAt (p:List Unit) (k:Nat):Int:=progWords (p.take k)
noncomputable def lpart (p:List Unit) (k:Nat):Part:=⟨genC p k (baseAt p k),entsL (p.getD k noU).funcs (genA p k (baseAt p k)),baseAt p k,baseAt p (k+1)⟩
noncomputable def lparts (p:List Unit) (k:Nat):List Part:=(List.range k).map (lpart p)
noncomputable def linkE1 (p:List Unit):Int:=firstE (fun k=>genE p (k:Nat) (baseAt p k)) (List.range p.length)
noncomputable def linkE (p:List Unit):Int:=if progE p≠0 then progE p else linkE1 (foldP p)
noncomputable def linkI (p:List Unit):Image:=if linkE p=0 then lparts (foldP p) p.length else []
theorem baseAt_succ {p:List Unit} {k:Nat} (h:k < p.length):baseAt p (k+1)=baseAt p k+unitWords p[k]:=by
 unfold baseAt progWords
 rw[take_one h,List.map_append,List.sum_append];simp
theorem lparts_succ (p:List Unit) (k:Nat):lparts p (k+1)=lparts p k++[lpart p k]:=by
 unfold lparts;rw[List.range_succ,List.map_append];rfl
theorem entsL_one:∀ (l:List Fun) (m:List Int) (j:Nat) (hj:j < l.length) (hm:j < m.length),entsL (l.take (j+1)) m=entsL (l.take j) m++if l[j].isOpen then [⟨m[j],l[j].params.length⟩] else []
 | f :: l,a :: m,0,_,_=>by simp[entsL]
 | f :: l,a :: m,j+1,hj,hm=>by
  have:=entsL_one l m j (by simpa using hj) (by simpa using hm)
  simp only[List.take_succ_cons,entsL,List.getElem_cons_succ]
  rw[this]
  split
  ·simp
  ·rfl
theorem entsL_len:∀ (l:List Fun) (m:List Int),(entsL l m).length<=l.length
 | [],_=>by simp[entsL]
 | _ :: _,[]=>by simp[entsL]
 | f :: l,a :: m=>by
  have:=entsL_len l m
  simp only[entsL]
  split
  ·simp only[List.length_cons];omega
  ·simp only[List.length_cons];omega
theorem genA_len {p:List Unit} {k:Nat} (hk:k < p.length) {base:Int} (h:genE p k base=0):(genA p k base).length=p[k].funcs.length:=by
 unfold genA
 rw[if_pos h,Int.toNat_natCast,show p.getD k noU=p[k] by simp[hk]]
 exact atsG_len _ _ _ _ _
theorem progWords_take (p:List Unit) (h:∀ u∈p,0<=unitWords u) (k:Nat):0<=baseAt p k/\baseAt p k<=progWords p:=by
 have nn:∀ l:List Unit,(∀ u∈l,0<=unitWords u)->0<=progWords l:=by
  intro l
  induction l with
  | nil=>intro _;simp[progWords]
  | cons u l ih =>
   intro h
   have h1:=h u List.mem_cons_self
   have h2:=ih (fun v hv=>h v (List.mem_cons_of_mem _ hv))
   unfold progWords at h2 ⊢
   rw[List.map_cons,List.sum_cons]
   omega
 have e:progWords p=progWords (p.take k)+progWords (p.drop k):=by
  unfold progWords
  rw[<- List.sum_append,<- List.map_append,List.take_append_drop]
 have h1:=nn (p.take k) (fun u hu=>h u (List.mem_of_mem_take hu))
 have h2:=nn (p.drop k) (fun u hu=>h u (List.mem_of_mem_drop hu))
 unfold baseAt
 omega
theorem unitWords_good {u:Unit} (h:unitE u=0):0<=unitWords u/\unitWords u<=40:=by
 obtain ⟨_,hv8,ha3,_,_,hAE,_⟩:=unitE_inv h
 have:=sizes_le (l:=u.arrays) (fun a ha=>(arrE_inv (hAE a ha)).2)
 unfold unitWords
 omega
end Barb
namespace Go.Proofs.Ythcmdjkaepclhaa
open Go Go.Dm Go.Eng Go.RowKit Barb
theorem retLink {h:Heap} {p:List Barb.Unit} {e:Int} (he:linkE p=e) (h0:e≠0):RetTo (Is (.tuple [.agg (imgD (linkI p)),.g (.int (linkE p))])) h (.tuple [.agg [.nils],.g (.int e)]):=by
 have:linkI p=[]:=by unfold linkI;rw[if_neg (by rw[he];exact h0)]
 rw[this,he]
 exact retIs (.inr (.inr ⟨.inr ⟨lkNil,trivial⟩,lk rfl,trivial⟩))
set_option maxRecDepth 20000 in
set_option maxHeartbeats 8000000 in
theorem linkProgram_any (p:List Barb.Unit) (hp:progI p) (hN:fewP p):CT Try.prog [] 13 [.g (.sl 4 (p.map Unit.g))] (Is (.tuple [.agg (imgD (linkI p)),.g (.int (linkE p))])):=by
 have e:linkE p=linkE p:=rfl
 conv at e=>rhs;unfold linkE
 refine enter hT hF hM Try.func13 rfl 86 rfl (by kernel_rfl) [.cell 2 40,.tmp 3] rfl [.g (.sl 4 (p.map Unit.g))] rfl _ ?_
 refine callIs (.inl rfl) (foldProgram_any p hp hN) ?_
 refine ⟨fun h=>⟨rfl,retLink (by rw[e,if_pos h]) h⟩,fun h=>?_⟩
 have hgood:progE p=0:=by omega
 rw[if_neg (fun h'=>h' hgood)] at e
 have hV:foldV p=foldP p:=by unfold foldV;rw[if_pos hgood]
 rw[hV]
 obtain ⟨hg,hf⟩:=foldP_good hgood hN
 have hI:=progE_I hg hf
 have hql:=foldP_len p
 have hEnd:linkE p=0->linkI p=lparts (foldP p) (foldP p).length:=fun h0=>by unfold linkI;rw[if_pos h0,hql]
 generalize foldP p=q at *
 clear hV
 have lq:(q.map Unit.g).length=q.length:=List.length_map _
 obtain ⟨hp5,hUE,hpw,_⟩:=progE_inv hg
 have hbase:=progWords_take q (fun u hu=>(unitWords_good (hUE u hu)).1)
 refine loopR (ι:=Nat) (fun k=>[(2,.ptr 0 0),(4,.g (.sl 4 (q.map Unit.g))),(6,.ptr 1 0),(7,.g (.int (baseAt q k))),(26,.g (.sl 4 (q.map Unit.g))),(27,.g (.int (q.map Unit.g).length)),(28,.g (.int (k:Int)))])
  (fun k=>[.blk [.nils] 40,.blk [.row 2] 40,.row ((lparts q k).map Part.g) 43 4])
  (fun k=>k<=q.length/\∀ i,i < k->genE q (i:Nat) (baseAt q i)=0) (fun k=>q.length - k)
  ⟨0,[.old 0,.old 1,.nil 43 4],⟨rfl,.inr ⟨⟨rfl,.inl rfl⟩,⟨rfl,.inr ⟨.inr rfl,trivial⟩⟩,⟨rfl,rfl,rfl⟩,trivial⟩,.inr ⟨lk rfl,lk rfl,lk rfl,lkI (by simp[baseAt,progWords]),lk rfl,lk rfl,lk rfl,trivial⟩,rfl⟩,Nat.zero_le _,fun i hi=>absurd hi (by omega)⟩ ?_
 rintro Rd hRd k ⟨hk,hdone⟩
 refine ⟨fun c1=>?_,fun c1=>?_⟩
 rotate_left
 ·have hke:k=q.length:=by have:¬(k:Int) < ((q.map Unit.g).length:Nat):=c1;omega
  have h0:linkE p=0:=by
   rw[e]
   exact firstE_zero (fun i hi=>hdone i (by rw[List.mem_range] at hi;omega))
  rw[hEnd h0,h0,hke]
  exact ⟨rfl,retIs (.inl rfl)⟩
 have hkl:k < q.length:=by have:(k:Int) < ((q.map Unit.g).length:Nat):=c1;omega
 have hmem:q[k]∈q:=List.getElem_mem hkl
 have hqd:q.getD k noU=q[k]:=by simp[hkl]
 obtain ⟨_,hv8,ha3,hf8,_,hAE,hFE⟩:=unitE_inv (hUE _ hmem)
 have hsz:∀ a∈q[k].arrays,1<=a.size/\a.size<=10:=fun a ha=>(arrE_inv (hAE a ha)).2
 have hw:=unitWords_good (hUE _ hmem)
 have hbk:=hbase k
 have hgen:=GenUnit_any q hI hf k (baseAt q k) (by omega)
 have hgl:genE q k (baseAt q k)=0->(genA q k (baseAt q k)).length=q[k].funcs.length:=fun h=>genA_len hkl h
 have hnb:=baseAt_succ hkl
 have hnp:=lparts_succ q k
 have hlp:lpart q k=⟨genC q k (baseAt q k),entsL q[k].funcs (genA q k (baseAt q k)),baseAt q k,baseAt q (k+1)⟩:=by unfold lpart;rw[hqd]
 rw[hlp] at hnp
 have hbad:genE q k (baseAt q k)≠0->linkE p=genE q k (baseAt q k):=fun h=>by
  rw[e]
  have hkr:k < (List.range q.length).length:=by rw[List.length_range];exact hkl
  have:=firstE_at (f:=fun k=>genE q (k:Nat) (baseAt q k)) hkr (fun j hj hjk=>by rw[List.getElem_range];exact hdone j hjk) (by rw[List.getElem_range];exact h)
  rw[List.getElem_range] at this
  exact this
 have hplen:(lparts q k).length<=5:=by unfold lparts;rw[List.length_map,List.length_range];omega
 have hget:(q.map Unit.g)[k]?=some (Unit.g q[k]):=gm hkl
 have hWd:=Words_any q[k] hv8 hsz ha3
 have hwrap:IntKind.i64.wrap (baseAt q k+unitWords q[k])=baseAt q (k+1):=by rw[hnb];exact I64.wrap (by unfold I64;omega)
 generalize hb0:baseAt q k=b0 at *
 generalize hb1:baseAt q (k+1)=b1 at *
 generalize genC q k b0=code at *
 generalize genA q k b0=ats at *
 generalize hge:genE q k b0=ge at *
 generalize lparts q k=ps at *
 generalize q[k]=u at *
 refine ⟨k,_,rfl,hget,?_⟩
 refine callIs (.inl rfl) hgen ?_
 refine ⟨fun g1=>⟨rfl,retLink (hbad g1) g1⟩,fun g1=>?_⟩
 have g0:ge=0:=by omega
 have hal:=hgl g0
 refine callIs (.inl rfl) hWd ?_
 refine ⟨_,hwrap,?_⟩
 have lf:(u.funcs.map Fun.g).length=u.funcs.length:=List.length_map _
 have la:(ats.map intG).length=ats.length:=List.length_map _
 refine loopR (ι:=Nat) (fun j=>[(2,.ptr 0 0),(4,.g (.sl 4 (q.map Unit.g))),(6,.ptr 1 0),(11,.g (.sl 1 (ats.map intG))),(13,.ptr 4 0),(26,.g (.sl 4 (q.map Unit.g))),(27,.g (.int (q.map Unit.g).length)),(28,.g (.int (k:Int))),(53,.g (.sl 4 (u.funcs.map Fun.g))),(54,.g (.int (u.funcs.map Fun.g).length)),(55,.g (.int (j:Int)))])
  (fun j=>[.blk [.nils] 40,.blk [.row 2] 40,.row (ps.map Part.g) 43 4,.blk u.d 36,.blk [.g (.sl 4 (code.map Instr.g)),.row 5,.g (.int b0),.g (.int b1)] 43,.row ((entsL (u.funcs.take j) ats).map Entry.g) 48 2])
  (fun j=>j<=u.funcs.length) (fun j=>u.funcs.length - j)
  ⟨0,[.old 0,.old 1,.old 2,.old 3,.old 4,.nil 48 2],⟨rfl,.inr ⟨⟨rfl,.inl rfl⟩,⟨rfl,.inl rfl⟩,⟨rfl,rfl,rfl⟩,⟨rfl,.inl rfl⟩,⟨rfl,.inr ⟨lk rfl,.inr rfl,lk rfl,lk rfl,trivial⟩⟩,⟨(by rw[List.take_zero];rfl),rfl,rfl⟩,trivial⟩,.inr ⟨lk rfl,lk rfl,lk rfl,lk rfl,lk rfl,lk rfl,lk rfl,lk rfl,lk rfl,lk rfl,lk rfl,trivial⟩,rfl⟩,Nat.zero_le _⟩ ?_
 intro Rj hRj j hj
 have hel:=entsL_len (u.funcs.take j) ats
 rw[List.length_take] at hel
 refine ⟨fun d1=>?_,fun d1=>?_⟩
 ·have hjl:j < u.funcs.length:=by have:(j:Int) < ((u.funcs.map Fun.g).length:Nat):=d1;omega
  have hja:j < ats.length:=by omega
  have hone:=entsL_one u.funcs ats j hjl hja
  generalize entsL (u.funcs.take j) ats=es at *
  cases hbo:u.funcs[j].isOpen with
  | true =>
   rw[hbo,if_pos rfl] at hone
   refine ⟨j,_,rfl,(gm hjl).trans (congrArg some (Fun.g_open hbo)),?_⟩
   refine ⟨some 2000,rfl,?_⟩
   refine ⟨j,_,rfl,gm hja,?_⟩
   refine ⟨[[.int ats[j],.int (u.funcs[j].params.map strG).length]],rfl,rfl,⟨rfl,rfl,trivial⟩,⟨_,rfl⟩,?_⟩
   refine ⟨⟨by simp[maxLen];omega,by simp;omega⟩,?_⟩
   refine ⟨_,I64.wrap (by unfold I64;omega),?_⟩
   exact hRj _ _ _ ⟨j+1,[.old 0,.old 1,.old 2,.old 3,.old 4,.old 8],⟨rfl,.inr ⟨⟨rfl,.inl rfl⟩,⟨rfl,.inl rfl⟩,⟨rfl,rfl,rfl⟩,⟨rfl,.inl rfl⟩,⟨rfl,.inl rfl⟩,⟨(by rw[hone,List.map_append,List.length_map];rfl),rfl,rfl⟩,trivial⟩,.inr ⟨lk rfl,lk rfl,lk rfl,lk rfl,lk rfl,lk rfl,lk rfl,lk rfl,lk rfl,lk rfl,lkI (by push_cast;rfl),trivial⟩,rfl⟩,hjl,by show u.funcs.length - (j+1) < u.funcs.length - j;omega⟩
  | false =>
   rw[hbo,if_neg (by decide),List.append_nil] at hone
   refine ⟨j,_,rfl,(gm hjl).trans (congrArg some (Fun.g_open hbo)),?_⟩
   refine ⟨_,I64.wrap (by unfold I64;omega),?_⟩
   exact hRj _ _ _ ⟨j+1,[.old 0,.old 1,.old 2,.old 3,.old 4,.old 5],⟨rfl,.inr ⟨⟨rfl,.inl rfl⟩,⟨rfl,.inl rfl⟩,⟨rfl,rfl,rfl⟩,⟨rfl,.inl rfl⟩,⟨rfl,.inl rfl⟩,⟨(by rw[hone]),rfl,rfl⟩,trivial⟩,.inr ⟨lk rfl,lk rfl,lk rfl,lk rfl,lk rfl,lk rfl,lk rfl,lk rfl,lk rfl,lk rfl,lkI (by push_cast;rfl),trivial⟩,rfl⟩,hjl,by show u.funcs.length - (j+1) < u.funcs.length - j;omega⟩
 ·have hje:j=u.funcs.length:=by have:¬(j:Int) < ((u.funcs.map Fun.g).length:Nat):=d1;omega
  subst hje
  rw[List.take_length] at *
  refine ⟨[[.sl 4 (code.map Instr.g),.sl 2 ((entsL u.funcs ats).map Entry.g),.int b0,.int b1]],rfl,rfl,⟨rfl,seesRow rfl rfl,rfl,rfl,trivial⟩,?_⟩
  refine ⟨⟨by simp[maxLen];omega,by simp;omega⟩,?_⟩
  refine ⟨_,I64.wrap (by unfold I64;omega),?_⟩
  refine hRd _ _ _ ⟨k+1,[.old 0,.old 1,.old 7],⟨rfl,.inr ⟨⟨rfl,.inl rfl⟩,⟨rfl,.inl rfl⟩,⟨(by rw[hnp,List.map_append];rfl),rfl,rfl⟩,trivial⟩,.inr ⟨lk rfl,lk rfl,lk rfl,lkI hb1.symm,lk rfl,lk rfl,lkI (by push_cast;rfl),trivial⟩,rfl⟩,⟨hkl,fun i hi=>?_⟩,by show q.length - (k+1) < q.length - k;omega⟩
  rcases Nat.lt_succ_iff_lt_or_eq.1 hi with h | rfl
  ·exact hdone i h
  ·rw[hb0,hge];exact g0
end Go.Proofs.Ythcmdjkaepclhaa
