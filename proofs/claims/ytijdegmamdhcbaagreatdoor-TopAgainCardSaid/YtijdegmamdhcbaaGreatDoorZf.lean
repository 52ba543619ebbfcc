/-
  mem.Check and what the document says of images: the contracts.
-/
import Derived.Test.YtijdegmamdhcbaaGreatDoorZe
import Derived.Test.YtijdegmamdhcbaaGreatDoorFd
import Derived.Test.YtijdegmamdhcbaaGreatDoorZc
import Derived.Test.YtijdegmamdhcbaaGreatDoorZa
import Derived.Test.YtijdegmamdhcbaaGreatDoorZb
import Derived.Test.YtijdegmamdhcbaaGreatDoorGi
namespace Barb
open Go Go.Dm Go.Eng
def firstN (f:Nat→Int):Nat→Int
 | 0=>0
 | n+1=>if firstN f n≠0 then firstN f n else f n
theorem firstN_all {f:Nat→Int}:∀ {n:Nat},(∀ j,j < n→f j=0)→firstN f n=0
 | 0,_=>rfl
 | n+1,h=>by
  have h0:=firstN_all (f:=f) (n:=n) (fun j hj=>h j (by omega))
  simp only[firstN];rw[if_neg (fun h=>h h0)];exact h n (by omega)
theorem firstN_at {f:Nat→Int}:∀ {n i:Nat},i < n→(∀ j,j < i→f j=0)→f i≠0→firstN f n=f i
 | 0,i,h,_,_=>by omega
 | n+1,i,h,ha,h1=>by
  simp only[firstN]
  by_cases e:i=n
  ·subst e;rw[if_neg (fun h=>h (firstN_all ha))]
  ·rw[firstN_at (by omega) ha h1,if_pos h1]
theorem firstN_zero {f:Nat→Int}:∀ {n:Nat},firstN f n=0→∀ j,j < n→f j=0
 | 0,_,j,h=>by omega
 | n+1,h,j,hj=>by
  simp only[firstN] at h
  by_cases h0:firstN f n=0
  ·rw[if_neg (fun h=>h h0)] at h
   by_cases e:j=n
   ·subst e;exact h
   ·exact firstN_zero h0 j (by omega)
  ·rw[if_pos h0] at h;exact absurd h h0
abbrev Part.d (p:Part):List D:=[.g (.sl 4 (p.code.map Instr.g)),.g (.sl 2 (p.entries.map Entry.g)),.g (.int p.lo),.g (.int p.hi)]
def entBad (n:Nat) (x:Entry):Prop:=¬(0≤x.at_∧x.at_ < n)∨¬(0≤x.params∧x.params≤4)
instance (n:Nat) (x:Entry):Decidable (entBad n x):=by unfold entBad;infer_instance
def entE (n:Nat) (x:Entry):Int:=if entBad n x then 2 else 0
def partE (p:Part) (lo:Int):Int :=
 if 1200 < p.code.length∨8 < p.entries.length then 1 else if firstE instrE p.code≠0 then firstE instrE p.code else if firstE (entE p.code.length) p.entries≠0 then firstE (entE p.code.length) p.entries
 else if ¬p.lo=lo∨p.hi < p.lo∨250 < p.hi then 8 else 0
def fromAt (m:List Part) (i:Nat):Int:=(0 :: m.map Part.hi).getD i 0
theorem fromAt_succ {m:List Part} {i:Nat} (h:i < m.length):fromAt m (i+1)=m[i].hi:=by simp[fromAt,h]
def imgF (m:List Part) (i:Nat):Int:=if h:i < m.length then partE m[i] (fromAt m i) else 0
theorem imgF_at {m:List Part} {i:Nat} (h:i < m.length):imgF m i=partE m[i] (fromAt m i):=by unfold imgF;rw[dif_pos h]
def imgE (m:List Part):Int:=if 5 < m.length then 1 else firstN (imgF m) m.length
abbrev imgD (m:List Part):List D:=[.g (.sl 4 (m.map Part.g))]
end Barb
namespace Go.Proofs.YtijdegmamdhcbaaGreatDoor
open Go Go.Dm Go.Eng Barb

set_option maxRecDepth 20000 in
set_option maxHeartbeats 1000000 in
theorem part_any (p:Barb.Part) (hp:p.I) (lo:Int):CT Tryz.prog gl 65 [.agg p.d,.g (.int lo)] (Is (.g (.int (partE p lo)))):=by
 obtain ⟨_,_,_,_,hcl,hel⟩:=hp
 have lc:(p.code.map Instr.g).length=p.code.length:=by simp
 have le:(p.entries.map Entry.g).length=p.entries.length:=by simp
 have e:partE p lo=partE p lo:=rfl
 conv at e=>rhs;unfold partE
 refine enter hT hF hM Tryz.func65 rfl 78 rfl (by kernel_rfl) [.tmp 4] rfl [.agg p.d,.g (.int lo)] rfl _ ?_
 refine ⟨fun a1=>⟨rfl,retI (by rw[e,if_pos (by omega)])⟩,fun a1=>⟨fun a2=>⟨rfl,retI (by rw[e,if_pos (by omega)])⟩,fun a2=>?_⟩⟩
 rw[if_neg (by omega)] at e
 refine loopR (ι:=Nat) (fun i=>[(23,.g (.int (i:Int))),(2,.ptr 0 0)]) (fun _=>[.blk p.d 66]) (fun i=>i≤p.code.length∧∀ j (hj:j < p.code.length),j < i→instrE p.code[j]=0) (fun i=>p.code.length - i)
  ⟨0,[.old 0],⟨rfl,.inl rfl,.inr ⟨lk rfl,lk rfl,trivial⟩,rfl⟩,Nat.zero_le _,none0⟩ ?_
 intro Rd hRd i ⟨hi,ha⟩
 refine ⟨fun b0=>?_,fun b0=>?_⟩
 ·have b1:i < p.code.length:=by omega
  refine ⟨i,_,rfl,gm b1,?_⟩
  refine callIs (.inl rfl) (Check_any p.code[i]) ?_
  refine ⟨fun b3=>⟨rfl,retI (by rw[e,firstE_at b1 ha b3,if_pos b3])⟩,fun b3=>⟨_,I64.wrap (by unfold I64;omega),?_⟩⟩
  exact hRd _ _ _ ⟨i+1,[.old 0],⟨rfl,.inl rfl,.inr ⟨lk rfl,lk rfl,trivial⟩,rfl⟩,⟨b1,firstE_step b1 ha b3⟩,by omega⟩
 have hc0:firstE instrE p.code=0:=firstE_end (by omega) ha
 rw[if_neg (fun h=>h hc0)] at e
 clear hRd ha hi b0
 refine loopR (ι:=Nat) (fun i=>[(36,.g (.int (i:Int))),(2,.ptr 0 0)]) (fun _=>[.blk p.d 66]) (fun i=>i≤p.entries.length∧∀ j (hj:j < p.entries.length),j < i→entE p.code.length p.entries[j]=0) (fun i=>p.entries.length - i)
  ⟨0,[.old 0],⟨rfl,.inl rfl,.inr ⟨lk rfl,lk rfl,trivial⟩,rfl⟩,Nat.zero_le _,none0⟩ ?_
 intro Rd hRd i ⟨hi,ha⟩
 refine ⟨fun b0=>?_,fun b0=>?_⟩
 ·have b1:i < p.entries.length:=by omega
  have bad:entBad p.code.length p.entries[i]→∀ h:Heap,RetTo (Is (.g (.int (partE p lo)))) h (.g (.int 2)):=fun hb h=>by
   have hz:entE p.code.length p.entries[i]=2:=by unfold entE;rw[if_pos hb]
   exact retI (by rw[e,firstE_at b1 ha (by rw[hz];decide),hz,if_pos (by decide)])
  unfold entBad at bad
  refine ⟨i,_,rfl,gm b1,?_⟩
  refine ⟨fun c1=>⟨rfl,bad (by omega) _⟩,fun c1=>⟨fun c2=>⟨rfl,bad (by omega) _⟩,fun c2=>⟨fun c3=>⟨rfl,bad (by omega) _⟩,fun c3=>⟨fun c4=>⟨rfl,bad (by omega) _⟩,fun c4=>⟨_,I64.wrap (by unfold I64;omega),?_⟩⟩⟩⟩⟩
  exact hRd _ _ _ ⟨i+1,[.old 0],⟨rfl,.inl rfl,.inr ⟨lk rfl,lk rfl,trivial⟩,rfl⟩,⟨b1,firstE_step b1 ha (by unfold entE;rw[if_neg (by unfold entBad;omega)])⟩,by omega⟩
 have he0:firstE (entE p.code.length) p.entries=0:=firstE_end (by omega) ha
 rw[if_neg (fun h=>h he0)] at e
 exact ⟨fun d1=>⟨rfl,retI (by rw[e,if_pos (.inl d1)])⟩,fun d1=>⟨fun d2=>⟨rfl,retI (by rw[e,if_pos (.inr (.inl d2))])⟩,fun d2=>⟨fun d3=>⟨rfl,retI (by rw[e,if_pos (.inr (.inr d3))])⟩,fun d3=>⟨rfl,retI (by rw[e,if_neg (by omega)])⟩⟩⟩⟩

theorem MemCheck_any (m:Image) (hm:Image.I m):CT Tryz.prog gl 40 [.agg (imgD m)] (Is (.g (.int (imgE m)))):=by
 obtain ⟨hI,hl⟩:=hm
 have lm:(m.map Part.g).length=m.length:=by simp
 refine enter hT hF hM Tryz.func40 rfl 27 rfl (by kernel_rfl) [.tmp 2] rfl [.agg (imgD m)] rfl _ ?_
 refine ⟨fun a1=>⟨rfl,retI (by unfold imgE;rw[if_pos (by omega)])⟩,fun a1=>?_⟩
 have e:imgE m=firstN (imgF m) m.length:=by unfold imgE;rw[if_neg (by omega)]
 refine loopR (ι:=Nat) (fun i=>[(14,.g (.int (i:Int))),(3,.g (.int (fromAt m i)))]) (fun _=>[]) (fun i=>i≤m.length∧∀ j,j < i→imgF m j=0) (fun i=>m.length - i)
  ⟨0,[],⟨rfl,.inl rfl,.inr ⟨lk rfl,lk rfl,trivial⟩,rfl⟩,Nat.zero_le _,fun j h=>absurd h (Nat.not_lt_zero j)⟩ ?_
 intro Rd hRd i ⟨hi,ha⟩
 refine ⟨fun b0=>?_,fun b0=>?_⟩
 ·have b1:i < m.length:=by omega
  have hF:=imgF_at b1
  refine ⟨i,_,rfl,gm b1,?_⟩
  refine callIs (.inl rfl) (part_any m[i] (hI _ (List.getElem_mem _)) (fromAt m i)) ?_
  refine ⟨fun b3=>⟨rfl,retI (by rw[e,firstN_at b1 ha (by rw[hF];exact b3),hF])⟩,fun b3=>⟨_,I64.wrap (by unfold I64;omega),?_⟩⟩
  exact hRd _ _ _ ⟨i+1,[],⟨rfl,.inl rfl,.inr ⟨lk rfl,lkI (fromAt_succ b1).symm,trivial⟩,rfl⟩,⟨b1,fun j hj=>by
   by_cases hji:j=i
   ·subst hji;rw[hF];exact b3
   ·exact ha j (by omega)⟩,by omega⟩
 ·have hil:i=m.length:=by omega
  exact ⟨rfl,retI (by rw[e,firstN_all (fun j hj=>ha j (by omega))])⟩

end Go.Proofs.YtijdegmamdhcbaaGreatDoor
namespace Barb
open Go Go.Dm Go.Eng Go.Proofs.YtijdegmamdhcbaaGreatDoor
def entsL:List Fun→List Int→List Entry
 | f :: l,a :: m=>if f.isOpen then ⟨a,f.params.length⟩ :: entsL l m else entsL l m
 | _,_=>[]
def baseAt (p:List Unit) (k:Nat):Int:=progWords (p.take k)
noncomputable def lpart (p:List Unit) (k:Nat):Part:=⟨genC p k (baseAt p k),entsL (p.getD k noU).funcs (genA p k (baseAt p k)),baseAt p k,baseAt p (k+1)⟩
noncomputable def lparts (p:List Unit) (k:Nat):List Part:=(List.range k).map (lpart p)
noncomputable def linkE1 (p:List Unit):Int:=firstE (fun k=>genE p (k:Nat) (baseAt p k)) (List.range p.length)
noncomputable def linkE (p:List Unit):Int:=if progE p≠0 then progE p else linkE1 (foldP p)
noncomputable def linkI (p:List Unit):Image:=if linkE p=0 then lparts (foldP p) p.length else []
theorem baseAt_succ {p:List Unit} {k:Nat} (h:k < p.length):baseAt p (k+1)=baseAt p k+unitWords p[k]:=by
 unfold baseAt progWords
 rw[take_one h,List.map_append,List.sum_append];simp
theorem lparts_succ (p:List Unit) (k:Nat):lparts p (k+1)=lparts p k++[lpart p k]:=by
 unfold lparts;rw[List.range_succ,List.map_append];rfl
theorem entsL_one:∀ (l:List Fun) (m:List Int) (j:Nat) (hj:j < l.length) (hm:j < m.length),entsL (l.take (j+1)) m=entsL (l.take j) m++if l[j].isOpen then [⟨m[j],l[j].params.length⟩] else []
 | f :: l,a :: m,0,_,_=>by simp[entsL]
 | f :: l,a :: m,j+1,hj,hm=>by
  have:=entsL_one l m j (by simpa using hj) (by simpa using hm)
  simp only[List.take_succ_cons,entsL,List.getElem_cons_succ]
  rw[this]
  split
  ·simp
  ·rfl
theorem entsL_len:∀ (l:List Fun) (m:List Int),(entsL l m).length≤l.length
 | [],_=>by simp[entsL]
 | _ :: _,[]=>by simp[entsL]
 | f :: l,a :: m=>by
  have:=entsL_len l m
  simp only[entsL]
  split
  ·simp only[List.length_cons];omega
  ·simp only[List.length_cons];omega
theorem genA_len {p:List Unit} {k:Nat} (hk:k < p.length) {base:Int} (h:genE p k base=0):(genA p k base).length=p[k].funcs.length:=by
 unfold genA
 rw[if_pos h,Int.toNat_natCast,show p.getD k noU=p[k] by simp[hk]]
 exact atsG_len _ _ _ _ _
theorem progWords_take (p:List Unit) (h:∀ u∈p,0≤unitWords u) (k:Nat):0≤baseAt p k∧baseAt p k≤progWords p:=by
 have nn:∀ l:List Unit,(∀ u∈l,0≤unitWords u)→0≤progWords l:=by
  intro l
  induction l with
  | nil=>intro _;simp[progWords]
  | cons u l ih =>
   intro h
   have h1:=h u List.mem_cons_self
   have h2:=ih (fun v hv=>h v (List.mem_cons_of_mem _ hv))
   unfold progWords at h2 ⊢
   rw[List.map_cons,List.sum_cons]
   omega
 have e:progWords p=progWords (p.take k)+progWords (p.drop k):=by
  unfold progWords
  rw[← List.sum_append,← List.map_append,List.take_append_drop]
 have h1:=nn (p.take k) (fun u hu=>h u (List.mem_of_mem_take hu))
 have h2:=nn (p.drop k) (fun u hu=>h u (List.mem_of_mem_drop hu))
 unfold baseAt
 omega
theorem unitWords_good {u:Unit} (h:unitE u=0):0≤unitWords u∧unitWords u≤40:=by
 obtain ⟨_,hv8,ha3,_,_,hAE,_⟩:=unitE_inv h
 have:=sizes_le (l:=u.arrays) (fun a ha=>(arrE_inv (hAE a ha)).2)
 unfold unitWords
 omega
end Barb
namespace Go.Proofs.YtijdegmamdhcbaaGreatDoor
open Go Go.Dm Go.Eng Go.RowKit Barb
theorem retLink {h:Heap} {p:List Barb.Unit} {e:Int} (he:linkE p=e) (h0:e≠0):RetTo (Is (.tuple [.agg (imgD (linkI p)),.g (.int (linkE p))])) h (.tuple [.agg [.nils],.g (.int e)]):=by
 have:linkI p=[]:=by unfold linkI;rw[if_neg (by rw[he];exact h0)]
 rw[this,he]
 exact retIs (.inr (.inr ⟨.inr ⟨lkNil,trivial⟩,lk rfl,trivial⟩))
set_option maxRecDepth 20000 in
set_option maxHeartbeats 8000000 in
theorem linkProgram_any (p:List Barb.Unit) (hp:progI p) (hN:fewP p):CT Tryz.prog gl 5 [.g (.sl 4 (p.map Unit.g))] (Is (.tuple [.agg (imgD (linkI p)),.g (.int (linkE p))])):=by
 have e:linkE p=linkE p:=rfl
 conv at e=>rhs;unfold linkE
 refine enter hT hF hM Tryz.func5 rfl 86 rfl (by kernel_rfl) [.cell 2 28,.tmp 3] rfl [.g (.sl 4 (p.map Unit.g))] rfl _ ?_
 refine callIs (.inl rfl) (foldProgram_any p hp hN) ?_
 refine ⟨fun h=>⟨rfl,retLink (by rw[e,if_pos h]) h⟩,fun h=>?_⟩
 have hgood:progE p=0:=by omega
 rw[if_neg (fun h'=>h' hgood)] at e
 have hV:foldV p=foldP p:=by unfold foldV;rw[if_pos hgood]
 rw[hV]
 obtain ⟨hg,hf⟩:=foldP_good hgood hN
 have hI:=progE_I hg hf
 have hql:=foldP_len p
 have hEnd:linkE p=0→linkI p=lparts (foldP p) (foldP p).length:=fun h0=>by unfold linkI;rw[if_pos h0,hql]
 generalize foldP p=q at *
 clear hV
 have lq:(q.map Unit.g).length=q.length:=List.length_map _
 obtain ⟨hp5,hUE,hpw,_⟩:=progE_inv hg
 have hbase:=progWords_take q (fun u hu=>(unitWords_good (hUE u hu)).1)
 refine loopR (ι:=Nat) (fun k=>[(2,.ptr 0 0),(4,.g (.sl 4 (q.map Unit.g))),(6,.ptr 1 0),(7,.g (.int (baseAt q k))),(26,.g (.sl 4 (q.map Unit.g))),(27,.g (.int (q.map Unit.g).length)),(28,.g (.int (k:Int)))])
  (fun k=>[.blk [.nils] 28,.blk [.row 2] 28,.row ((lparts q k).map Part.g) 66 4])
  (fun k=>k≤q.length∧∀ i,i < k→genE q (i:Nat) (baseAt q i)=0) (fun k=>q.length - k)
  ⟨0,[.old 0,.old 1,.nil 66 4],⟨rfl,.inr ⟨⟨rfl,.inl rfl⟩,⟨rfl,.inr ⟨.inr rfl,trivial⟩⟩,⟨rfl,rfl,rfl⟩,trivial⟩,.inr ⟨lk rfl,lk rfl,lk rfl,lkI (by simp[baseAt,progWords]),lk rfl,lk rfl,lk rfl,trivial⟩,rfl⟩,Nat.zero_le _,fun i hi=>absurd hi (by omega)⟩ ?_
 rintro Rd hRd k ⟨hk,hdone⟩
 refine ⟨fun c1=>?_,fun c1=>?_⟩
 rotate_left
 ·have hke:k=q.length:=by have:¬(k:Int) < ((q.map Unit.g).length:Nat):=c1;omega
  have h0:linkE p=0:=by
   rw[e]
   exact firstE_zero (fun i hi=>hdone i (by rw[List.mem_range] at hi;omega))
  rw[hEnd h0,h0,hke]
  exact ⟨rfl,retIs (.inl rfl)⟩
 have hkl:k < q.length:=by have:(k:Int) < ((q.map Unit.g).length:Nat):=c1;omega
 have hmem:q[k]∈q:=List.getElem_mem hkl
 have hqd:q.getD k noU=q[k]:=by simp[hkl]
 obtain ⟨_,hv8,ha3,hf8,_,hAE,hFE⟩:=unitE_inv (hUE _ hmem)
 have hsz:∀ a∈q[k].arrays,1≤a.size∧a.size≤10:=fun a ha=>(arrE_inv (hAE a ha)).2
 have hw:=unitWords_good (hUE _ hmem)
 have hbk:=hbase k
 have hgen:=GenUnit_any q hI hf k (baseAt q k) (by omega)
 have hgl:genE q k (baseAt q k)=0→(genA q k (baseAt q k)).length=q[k].funcs.length:=fun h=>genA_len hkl h
 have hnb:=baseAt_succ hkl
 have hnp:=lparts_succ q k
 have hlp:lpart q k=⟨genC q k (baseAt q k),entsL q[k].funcs (genA q k (baseAt q k)),baseAt q k,baseAt q (k+1)⟩:=by unfold lpart;rw[hqd]
 rw[hlp] at hnp
 have hbad:genE q k (baseAt q k)≠0→linkE p=genE q k (baseAt q k):=fun h=>by
  rw[e]
  have hkr:k < (List.range q.length).length:=by rw[List.length_range];exact hkl
  have:=firstE_at (f:=fun k=>genE q (k:Nat) (baseAt q k)) hkr (fun j hj hjk=>by rw[List.getElem_range];exact hdone j hjk) (by rw[List.getElem_range];exact h)
  rw[List.getElem_range] at this
  exact this
 have hplen:(lparts q k).length≤5:=by unfold lparts;rw[List.length_map,List.length_range];omega
 have hget:(q.map Unit.g)[k]?=some (Unit.g q[k]):=gm hkl
 have hWd:=Words_any q[k] hv8 hsz ha3
 have hwrap:IntKind.i64.wrap (baseAt q k+unitWords q[k])=baseAt q (k+1):=by rw[hnb];exact I64.wrap (by unfold I64;omega)
 generalize hb0:baseAt q k=b0 at *
 generalize hb1:baseAt q (k+1)=b1 at *
 generalize genC q k b0=code at *
 generalize genA q k b0=ats at *
 generalize hge:genE q k b0=ge at *
 generalize lparts q k=ps at *
 generalize q[k]=u at *
 refine ⟨k,_,rfl,hget,?_⟩
 refine callIs (.inl rfl) hgen ?_
 refine ⟨fun g1=>⟨rfl,retLink (hbad g1) g1⟩,fun g1=>?_⟩
 have g0:ge=0:=by omega
 have hal:=hgl g0
 refine callIs (.inl rfl) hWd ?_
 refine ⟨_,hwrap,?_⟩
 have lf:(u.funcs.map Fun.g).length=u.funcs.length:=List.length_map _
 have la:(ats.map intG).length=ats.length:=List.length_map _
 refine loopR (ι:=Nat) (fun j=>[(2,.ptr 0 0),(4,.g (.sl 4 (q.map Unit.g))),(6,.ptr 1 0),(11,.g (.sl 1 (ats.map intG))),(13,.ptr 4 0),(26,.g (.sl 4 (q.map Unit.g))),(27,.g (.int (q.map Unit.g).length)),(28,.g (.int (k:Int))),(53,.g (.sl 4 (u.funcs.map Fun.g))),(54,.g (.int (u.funcs.map Fun.g).length)),(55,.g (.int (j:Int)))])
  (fun j=>[.blk [.nils] 28,.blk [.row 2] 28,.row (ps.map Part.g) 66 4,.blk u.d 59,.blk [.g (.sl 4 (code.map Instr.g)),.row 5,.g (.int b0),.g (.int b1)] 66,.row ((entsL (u.funcs.take j) ats).map Entry.g) 71 2])
  (fun j=>j≤u.funcs.length) (fun j=>u.funcs.length - j)
  ⟨0,[.old 0,.old 1,.old 2,.old 3,.old 4,.nil 71 2],⟨rfl,.inr ⟨⟨rfl,.inl rfl⟩,⟨rfl,.inl rfl⟩,⟨rfl,rfl,rfl⟩,⟨rfl,.inl rfl⟩,⟨rfl,.inr ⟨lk rfl,.inr rfl,lk rfl,lk rfl,trivial⟩⟩,⟨(by rw[List.take_zero];rfl),rfl,rfl⟩,trivial⟩,.inr ⟨lk rfl,lk rfl,lk rfl,lk rfl,lk rfl,lk rfl,lk rfl,lk rfl,lk rfl,lk rfl,lk rfl,trivial⟩,rfl⟩,Nat.zero_le _⟩ ?_
 intro Rj hRj j hj
 have hel:=entsL_len (u.funcs.take j) ats
 rw[List.length_take] at hel
 refine ⟨fun d1=>?_,fun d1=>?_⟩
 ·have hjl:j < u.funcs.length:=by have:(j:Int) < ((u.funcs.map Fun.g).length:Nat):=d1;omega
  have hja:j < ats.length:=by omega
  have hone:=entsL_one u.funcs ats j hjl hja
  generalize entsL (u.funcs.take j) ats=es at *
  cases hbo:u.funcs[j].isOpen with
  | true =>
   rw[hbo,if_pos rfl] at hone
   refine ⟨j,_,rfl,(gm hjl).trans (congrArg some (Fun.g_open hbo)),?_⟩
   refine ⟨some 2000,rfl,?_⟩
   refine ⟨j,_,rfl,gm hja,?_⟩
   refine ⟨[[.int ats[j],.int (u.funcs[j].params.map strG).length]],rfl,rfl,⟨rfl,rfl,trivial⟩,⟨_,rfl⟩,?_⟩
   refine ⟨⟨by simp[maxLen];omega,by simp;omega⟩,?_⟩
   refine ⟨_,I64.wrap (by unfold I64;omega),?_⟩
   exact hRj _ _ _ ⟨j+1,[.old 0,.old 1,.old 2,.old 3,.old 4,.old 8],⟨rfl,.inr ⟨⟨rfl,.inl rfl⟩,⟨rfl,.inl rfl⟩,⟨rfl,rfl,rfl⟩,⟨rfl,.inl rfl⟩,⟨rfl,.inl rfl⟩,⟨(by rw[hone,List.map_append,List.length_map];rfl),rfl,rfl⟩,trivial⟩,.inr ⟨lk rfl,lk rfl,lk rfl,lk rfl,lk rfl,lk rfl,lk rfl,lk rfl,lk rfl,lk rfl,lkI (by push_cast;rfl),trivial⟩,rfl⟩,hjl,by show u.funcs.length - (j+1) < u.funcs.length - j;omega⟩
  | false =>
   rw[hbo,if_neg (by decide),List.append_nil] at hone
   refine ⟨j,_,rfl,(gm hjl).trans (congrArg some (Fun.g_open hbo)),?_⟩
   refine ⟨_,I64.wrap (by unfold I64;omega),?_⟩
   exact hRj _ _ _ ⟨j+1,[.old 0,.old 1,.old 2,.old 3,.old 4,.old 5],⟨rfl,.inr ⟨⟨rfl,.inl rfl⟩,⟨rfl,.inl rfl⟩,⟨rfl,rfl,rfl⟩,⟨rfl,.inl rfl⟩,⟨rfl,.inl rfl⟩,⟨(by rw[hone]),rfl,rfl⟩,trivial⟩,.inr ⟨lk rfl,lk rfl,lk rfl,lk rfl,lk rfl,lk rfl,lk rfl,lk rfl,lk rfl,lk rfl,lkI (by push_cast;rfl),trivial⟩,rfl⟩,hjl,by show u.funcs.length - (j+1) < u.funcs.length - j;omega⟩
 ·have hje:j=u.funcs.length:=by have:¬(j:Int) < ((u.funcs.map Fun.g).length:Nat):=d1;omega
  subst hje
  rw[List.take_length] at *
  refine ⟨[[.sl 4 (code.map Instr.g),.sl 2 ((entsL u.funcs ats).map Entry.g),.int b0,.int b1]],rfl,rfl,⟨rfl,seesRow rfl rfl,rfl,rfl,trivial⟩,?_⟩
  refine ⟨⟨by simp[maxLen];omega,by simp;omega⟩,?_⟩
  refine ⟨_,I64.wrap (by unfold I64;omega),?_⟩
  refine hRd _ _ _ ⟨k+1,[.old 0,.old 1,.old 7],⟨rfl,.inr ⟨⟨rfl,.inl rfl⟩,⟨rfl,.inl rfl⟩,⟨(by rw[hnp,List.map_append];rfl),rfl,rfl⟩,trivial⟩,.inr ⟨lk rfl,lk rfl,lk rfl,lkI hb1.symm,lk rfl,lk rfl,lkI (by push_cast;rfl),trivial⟩,rfl⟩,⟨hkl,fun i hi=>?_⟩,by show q.length - (k+1) < q.length - k;omega⟩
  rcases Nat.lt_succ_iff_lt_or_eq.1 hi with h | rfl
  ·exact hdone i h
  ·rw[hb0,hge];exact g0
end Go.Proofs.YtijdegmamdhcbaaGreatDoor
namespace Barb
open Go Go.Dm Go.Eng
def wordsOk (l:List Int) (n:Int):Prop:=(l.length:Int)=n∧∀ x∈l,0≤x∧x≤65535
def cellOk (u:Unit) (c:Cells):Prop:=(wordsOk c.vars u.vars.length∧c.arrays.length=u.arrays.length)∧∀ k (h:k < c.arrays.length) (h':k < u.arrays.length),wordsOk c.arrays[k] u.arrays[k].size
def cellsOk (p:List Unit) (cs:List Cells):Prop:=∀ i (h:i < cs.length) (h':i < p.length),cellOk p[i] cs[i]
noncomputable def cellsE (p:List Unit) (cs:List Cells):Int:=if progE p≠0 then progE p else if ¬(cs.length=p.length) then 8 else @ite _ (cellsOk p cs) (Classical.propDecidable _) 0 8
theorem progE_fine {p:List Unit} (h:progE p=0):p.length≤5∧∀ u∈p,unitE u=0:=by
 unfold progE at h
 by_cases h5:5 < p.length
 ·rw[if_pos h5] at h;omega
 ·rw[if_neg h5] at h
  by_cases h1:firstE unitE p≠0
  ·rw[if_pos h1] at h;exact absurd h h1
  ·exact ⟨by omega,firstE_all (Classical.not_not.1 h1)⟩
theorem cellsE_no {p:List Unit} {cs:List Cells} {i:Nat} (hp:progE p=0) (hl:cs.length=p.length) (h:i < cs.length) (h':i < p.length) (hb:¬cellOk p[i] cs[i]):cellsE p cs=8:=by
 unfold cellsE
 rw[if_neg (fun h=>h hp),if_neg (fun h=>h hl),if_neg (fun hc=>hb (hc i h h'))]
theorem cellsE_yes {p:List Unit} {cs:List Cells} (hp:progE p=0) (hl:cs.length=p.length) (hc:cellsOk p cs):cellsE p cs=0:=by
 unfold cellsE
 rw[if_neg (fun h=>h hp),if_neg (fun h=>h hl),if_pos hc]
theorem cellsE_ok {p:List Unit} {cs:List Cells} (h:cellsE p cs=0):progE p=0∧cs.length=p.length∧cellsOk p cs:=by
 unfold cellsE at h
 by_cases hp:progE p≠0
 ·rw[if_pos hp] at h;exact absurd h hp
 ·rw[if_neg hp] at h
  by_cases hl:¬(cs.length=p.length)
  ·rw[if_pos hl] at h;omega
  ·rw[if_neg hl] at h
   refine ⟨Classical.not_not.1 hp,Classical.not_not.1 hl,Classical.byContradiction fun hc=>?_⟩
   rw[if_neg hc] at h;omega
end Barb
namespace Go.Proofs.YtijdegmamdhcbaaGreatDoor
open Go Go.Dm Go.Eng Barb

theorem oddW_any (n:Int):CT Tryz.prog gl 52 [.g (.int n)] (Is (.pb (¬(0≤n∧n≤65535)))):=by
 refine enter hT hF hM Tryz.func52 rfl 6 rfl (by kernel_rfl) [.tmp 2] rfl [.g (.int n)] rfl _ ?_
 exact callIs (.inl rfl) (Is_any n) ⟨rfl,retN Iff.rfl⟩
theorem idxW_any (l:List Int) (hl:l.length≤9223372036854775807):CT Tryz.prog gl 43 [.g (.sl 1 (l.map intG)),.fn 52 [] []] (Is (.g (.int (idx (fun n:Int=>¬(0≤n∧n≤65535)) l)))):=by
 have ll:(l.map intG).length=l.length:=by simp
 refine enter hT hF hM Tryz.func43 rfl 19 rfl (by kernel_rfl) [.tmp 4] rfl [.g (.sl 1 (l.map intG)),.fn 52 [] []] rfl _ ?_
 refine loopR (ι:=Nat) (fun i=>[(8,.g (.int (i:Int)))]) (fun _=>[]) (fun i=>i≤l.length∧∀ j (hj:j < l.length),j < i→¬(fun n:Int=>¬(0≤n∧n≤65535)) l[j]) (fun i=>l.length - i)
  ⟨0,[],⟨rfl,.inl rfl,.inr ⟨lk rfl,trivial⟩,rfl⟩,Nat.zero_le _,alln_0 (q:=fun n:Int=>¬(0≤n∧n≤65535))⟩ ?_
 intro Rd hRd i ⟨hi,ha⟩
 refine ⟨fun h=>?_,fun h=>?_⟩
 ·have h1:i < l.length:=by omega
  refine ⟨i,_,rfl,gm h1,?_⟩
  refine callIs (.inl rfl) (oddW_any l[i]) ?_
  refine ⟨fun h2=>⟨rfl,retI (idx_at (q:=fun n:Int=>¬(0≤n∧n≤65535)) h1 ha h2).symm⟩,fun h2=>⟨_,I64.wrap (by unfold I64;omega),?_⟩⟩
  exact hRd _ _ _ ⟨i+1,[],⟨rfl,.inl rfl,.inr ⟨lk rfl,trivial⟩,rfl⟩,⟨h1,alln_step (q:=fun n:Int=>¬(0≤n∧n≤65535)) h1 ha h2⟩,by omega⟩
 ·exact ⟨rfl,retI (idx_no (alln_end (q:=fun n:Int=>¬(0≤n∧n≤65535)) (by omega) ha)).symm⟩
theorem hasW_any (l:List Int) (hl:l.length≤9223372036854775807):CT Tryz.prog gl 21 [.g (.sl 1 (l.map intG)),.fn 52 [] []] (Is (.pb (∃ n∈l,¬(0≤n∧n≤65535)))):=by
 refine enter hT hF hM Tryz.func21 rfl 9 rfl (by kernel_rfl) [.tmp 4] rfl [.g (.sl 1 (l.map intG)),.fn 52 [] []] rfl _ ?_
 refine callIs (.inl rfl) (idxW_any l hl) ⟨rfl,retP ?_⟩
 rcases idx_cases (fun n:Int=>¬(0≤n∧n≤65535)) l with ⟨h1,h2⟩ | ⟨i,hi,h1,h2,h3⟩
 ·rw[h1];exact ⟨fun h=>absurd h (by decide),fun ⟨c,hc,ho⟩=>absurd ho (h2 c hc)⟩
 ·rw[h1];exact ⟨fun _=>⟨l[i],List.getElem_mem _,h2⟩,fun _=>by omega⟩
theorem words_any (l:List Int) (hl:l.length≤9223372036854775807) (n:Int):CT Tryz.prog gl 29 [.g (.sl 1 (l.map intG)),.g (.int n)] (Is (.pb (wordsOk l n))):=by
 have ll:(l.map intG).length=l.length:=by simp
 refine enter hT hF hM Tryz.func29 rfl 14 rfl (by kernel_rfl) [.tmp 4] rfl [.g (.sl 1 (l.map intG)),.g (.int n)] rfl _ ?_
 refine ⟨fun h=>callIs (.inl rfl) (hasW_any l hl) ⟨rfl,retN ⟨fun h1=>⟨by rw[← ll];exact h,fun x hx=>Classical.byContradiction fun h2=>h1 ⟨x,hx,h2⟩⟩,fun h1 ⟨x,hx,h2⟩=>h2 (h1.2 x hx)⟩⟩,fun h=>⟨rfl,retF (fun h1=>h (by rw[ll];exact h1.1))⟩⟩

set_option maxRecDepth 20000 in
set_option maxHeartbeats 1000000 in
theorem CheckStores_any (p:List Barb.Unit) (hp:progI p) (cs:List Cells) (hI:∀ c∈cs,Cells.I c) (hl:cs.length*48≤140737488351232):CT Tryz.prog gl 26 [.g (.sl 4 (p.map Unit.g)),.g (.sl 2 (cs.map Cells.g))] (Is (.g (.int (cellsE p cs)))):=by
 have lp:(p.map Unit.g).length=p.length:=by simp
 have lc:(cs.map Cells.g).length=cs.length:=by simp
 refine enter hT hF hM Tryz.func26 rfl 71 rfl (by kernel_rfl) [.tmp 4] rfl [.g (.sl 4 (p.map Unit.g)),.g (.sl 2 (cs.map Cells.g))] rfl _ ?_
 refine callIs (.inl rfl) (NamesCheck_any p hp) ⟨fun h=>⟨rfl,retI (by unfold cellsE;rw[if_pos h])⟩,fun hE=>?_⟩
 refine ⟨fun h=>⟨rfl,retI (by unfold cellsE;rw[if_neg (fun h'=>h' hE),if_pos (by omega)])⟩,fun h=>?_⟩
 have hlen:cs.length=p.length:=by omega
 refine loopR (ι:=Nat) (fun i=>[(22,.g (.int (i:Int)))]) (fun _=>[]) (fun i=>i≤cs.length∧∀ j (hj:j < cs.length) (hj':j < p.length),j < i→cellOk p[j] cs[j]) (fun i=>cs.length - i)
  ⟨0,[],⟨rfl,.inl rfl,.inr ⟨lk rfl,trivial⟩,rfl⟩,Nat.zero_le _,fun j _ _ h=>absurd h (Nat.not_lt_zero j)⟩ ?_
 intro Rd hRd i ⟨hi,ha⟩
 refine ⟨fun b0=>?_,fun b0=>⟨rfl,retI (cellsE_yes hE hlen (fun j hj hj'=>ha j hj hj' (by omega))).symm⟩⟩
 have b1:i < cs.length:=by omega
 have b1':i < p.length:=by omega
 obtain ⟨⟨_,hv⟩,hai,hal⟩:=hI _ (List.getElem_mem b1)
 have bad:¬cellOk p[i] cs[i]→cellsE p cs=8:=cellsE_no hE hlen b1 b1'
 have next:cellOk p[i] cs[i]→∀ j (hj:j < cs.length) (hj':j < p.length),j < i+1→cellOk p[j] cs[j]:=fun h0 j hj hj' hji=>by
  by_cases e:j=i
  ·subst e;exact h0
  ·exact ha j hj hj' (by omega)
 refine ⟨i,_,rfl,gm b1,?_⟩
 have gp:=gm (f:=Unit.g) b1'
 generalize cs[i]=c at *
 generalize p[i]=u at *
 have lv:(u.vars.map strG).length=u.vars.length:=by simp
 have la:(u.arrays.map Arr.g).length=u.arrays.length:=by simp
 have lca:(c.arrays.map intsG).length=c.arrays.length:=by simp
 refine ⟨none,rfl,i,_,rfl,gp,?_⟩
 refine ⟨_,_,.inl rfl,words_any c.vars (by omega) _,rfl,?_⟩
 refine ⟨fun h1=>⟨rfl,retI (bad (fun h2=>h1 (by rw[lv];exact h2.1.1))).symm⟩,fun h1=>?_⟩
 refine ⟨i,_,rfl,gp,?_⟩
 refine ⟨fun h2=>⟨rfl,retI (bad (fun h3=>h2 (by rw[la,lca];exact congrArg _ h3.1.2))).symm⟩,fun h2=>?_⟩
 have hca:c.arrays.length=u.arrays.length:=by omega
 refine loopR (ι:=Nat) (fun k=>[(52,.g (.int (k:Int)))]) (fun _=>[]) (fun k=>k≤c.arrays.length∧∀ j (hj:j < c.arrays.length) (hj':j < u.arrays.length),j < k→wordsOk c.arrays[j] u.arrays[j].size) (fun k=>c.arrays.length - k)
  ⟨0,[],⟨rfl,.inl rfl,.inr ⟨lk rfl,trivial⟩,rfl⟩,Nat.zero_le _,fun j _ _ h=>absurd h (Nat.not_lt_zero j)⟩ ?_
 intro Rk hRk k ⟨hk,hb⟩
 refine ⟨fun c0=>?_,fun c0=>⟨_,I64.wrap (by unfold I64;omega),?_⟩⟩
 ·have c1:k < c.arrays.length:=by omega
  have c1':k < u.arrays.length:=by omega
  obtain ⟨_,hkl⟩:=hai _ (List.getElem_mem c1)
  refine ⟨k,_,rfl,gm c1,?_⟩
  refine ⟨i,_,rfl,gp,k,_,rfl,gm c1',?_⟩
  refine callIs (.inl rfl) (words_any c.arrays[k] (by omega) u.arrays[k].size) ?_
  refine ⟨fun h3=>⟨rfl,retI (bad (fun h4=>h3 (h4.2 k c1 c1'))).symm⟩,fun h3=>⟨_,I64.wrap (by unfold I64;omega),?_⟩⟩
  refine hRk _ _ _ ⟨k+1,[],⟨rfl,.inl rfl,.inr ⟨lk rfl,trivial⟩,rfl⟩,⟨c1,fun j hj hj' hjk=>?_⟩,by omega⟩
  by_cases e:j=k
  ·subst e;exact h3
  ·exact hb j hj hj' (by omega)
 ·refine hRd _ _ _ ⟨i+1,[],⟨rfl,.inl rfl,.inr ⟨lk rfl,trivial⟩,rfl⟩,⟨b1,next ⟨⟨by rw[← lv];exact h1,hca⟩,fun j hj hj'=>hb j hj hj' (by omega)⟩⟩,by omega⟩

end Go.Proofs.YtijdegmamdhcbaaGreatDoor
namespace Barb
open Go Go.Dm Go.Eng
def flatC (c:Cells):List Int:=c.vars++c.arrays.flatten
def flatN (cs:List Cells):List Int:=cs.flatMap flatC
noncomputable def dataL (p:List Unit) (cs:List Cells):List Int:=if cellsE p cs=0 then flatN cs else []
theorem flat_ten:∀ (l:List (List Int)),(∀ a∈l,a.length≤10)→l.flatten.length≤10*l.length
 | [],_=>by simp
 | a :: l,h=>by
  have h1:=flat_ten l (fun b hb=>h b (List.mem_cons_of_mem _ hb))
  have h2:=h a List.mem_cons_self
  simp only[List.flatten_cons,List.length_append,List.length_cons]
  omega
theorem flatN_succ {cs:List Cells} {i:Nat} (h:i < cs.length):flatN (cs.take (i+1))=flatN (cs.take i)++cs[i].vars++cs[i].arrays.flatten:=by
 unfold flatN
 rw[take_one h,List.flatMap_append]
 simp only[List.flatMap_cons,List.flatMap_nil,List.append_nil,flatC,List.append_assoc]
theorem flatten_succ {l:List (List Int)} {j:Nat} (h:j < l.length):(l.take (j+1)).flatten=(l.take j).flatten++l[j]:=by
 rw[take_one h,List.flatten_append]
 simp only[List.flatten_cons,List.flatten_nil,List.append_nil]
theorem flatN_len:∀ (l:List Cells),(∀ c∈l,(flatC c).length≤38)→(flatN l).length≤38*l.length
 | [],_=>by simp[flatN]
 | a :: l,h=>by
  have h1:=flatN_len l (fun b hb=>h b (List.mem_cons_of_mem _ hb))
  have h2:=h a List.mem_cons_self
  unfold flatN at h1 ⊢
  simp only[List.flatMap_cons,List.length_append,List.length_cons]
  omega
theorem cell_small {u:Unit} {c:Cells} (hu:unitE u=0) (hc:cellOk u c):c.vars.length≤8∧c.arrays.length≤3∧∀ a∈c.arrays,a.length≤10:=by
 obtain ⟨h1,h2,_,h4⟩:=unitE_ok hu
 obtain ⟨⟨c1,c2⟩,c3⟩:=hc
 refine ⟨by have:=c1.1;omega,by omega,fun a ha=>?_⟩
 obtain ⟨j,hj,rfl⟩:=List.getElem_of_mem ha
 have:=(c3 j hj (by omega)).1
 have:=(h4 _ (List.getElem_mem (show j < u.arrays.length by omega))).2
 omega
theorem flatC_len {c:Cells} (h1:c.vars.length≤8) (h2:c.arrays.length≤3) (h3:∀ a∈c.arrays,a.length≤10):(flatC c).length≤38:=by
 have:=flat_ten _ h3
 unfold flatC
 simp only[List.length_append]
 omega
theorem cells_small {p:List Unit} {cs:List Cells} (h:cellsE p cs=0):cs.length≤5∧(∀ c∈cs,c.vars.length≤8∧c.arrays.length≤3∧∀ a∈c.arrays,a.length≤10):=by
 obtain ⟨hp,hl,hc⟩:=cellsE_ok h
 obtain ⟨h5,hu⟩:=progE_fine hp
 refine ⟨by omega,fun c hm=>?_⟩
 obtain ⟨j,hj,rfl⟩:=List.getElem_of_mem hm
 exact cell_small (hu _ (List.getElem_mem (show j < p.length by omega))) (hc j hj (by omega))
theorem dataL_len (p:List Unit) (cs:List Cells):(dataL p cs).length≤190:=by
 unfold dataL
 by_cases h:cellsE p cs=0
 ·rw[if_pos h]
  obtain ⟨h5,hs⟩:=cells_small h
  have:=flatN_len cs (fun c hc=>by obtain ⟨h1,h2,h3⟩:=hs c hc;exact flatC_len h1 h2 h3)
  omega
 ·rw[if_neg h];simp
theorem room8 {n:Nat} (h:n≤1000):n≤maxLen∧n*8≤140737488355328:=by unfold maxLen;omega
end Barb
namespace Go.Proofs.YtijdegmamdhcbaaGreatDoor
open Go Go.Dm Go.Eng Barb

set_option maxRecDepth 20000 in
theorem Data_any (p:List Barb.Unit) (hp:progI p) (cs:List Cells) (hI:∀ c∈cs,Cells.I c) (hl:cs.length*48≤140737488351232):CT Tryz.prog gl 15 [.g (.sl 4 (p.map Unit.g)),.g (.sl 2 (cs.map Cells.g))] (Is (.tuple [.g (.sl 1 ((dataL p cs).map intG)),.g (.int (cellsE p cs))])):=by
 have lc:(cs.map Cells.g).length=cs.length:=by simp
 refine enter hT hF hM Tryz.func15 rfl 41 rfl (by kernel_rfl) [.tmp 4,.tmp 5] rfl [.g (.sl 4 (p.map Unit.g)),.g (.sl 2 (cs.map Cells.g))] rfl _ ?_
 refine callIs (.inl rfl) (CheckStores_any p hp cs hI hl) ⟨fun h=>⟨rfl,retNE rfl (by unfold dataL;rw[if_neg h];rfl)⟩,fun hE=>?_⟩
 obtain ⟨h5,hs⟩:=cells_small hE
 refine loopR (ι:=Nat) (fun i=>[(20,.g (.int (i:Int))),(7,.row 0)]) (fun i=>[.row ((flatN (cs.take i)).map intG) 3 1]) (fun i=>i≤cs.length) (fun i=>cs.length - i)
  ⟨0,[.nil 3 1],⟨rfl,.inl rfl,.inr ⟨lk rfl,.inr rfl,trivial⟩,rfl⟩,Nat.zero_le _⟩ ?_
 intro Rd hRd i hi
 refine ⟨fun b0=>?_,fun b0=>?_⟩
 rotate_left
 ·have hil:i=cs.length:=by omega
  exact ⟨rfl,retRE rfl hE.symm (by unfold dataL;rw[if_pos hE,hil,List.take_length])⟩
 have b1:i < cs.length:=by omega
 have hlen:=flatN_len (cs.take i) (fun c hc=>by obtain ⟨h1,h2,h3⟩:=hs c (List.mem_of_mem_take hc);exact flatC_len h1 h2 h3)
 rw[List.length_take] at hlen
 have hnext:flatN (cs.take (i+1))=flatN (cs.take i)++cs[i].vars++cs[i].arrays.flatten:=flatN_succ b1
 obtain ⟨s1,s2,s3⟩:=hs _ (List.getElem_mem b1)
 refine ⟨i,_,rfl,gm b1,?_⟩
 generalize cs[i]=c at *
 generalize flatN (cs.take i)=F at *
 have la:(c.arrays.map intsG).length=c.arrays.length:=by simp
 refine ⟨room8 (by simp only[List.length_map];omega),?_⟩
 refine loopR (ι:=Nat) (fun j=>[(31,.g (.int (j:Int))),(7,.row 0)]) (fun j=>[.row ((F++c.vars++(c.arrays.take j).flatten).map intG) 3 1]) (fun j=>j≤c.arrays.length) (fun j=>c.arrays.length - j)
  ⟨0,[.old 2],⟨rfl,.inr ⟨⟨by simp,rfl,rfl⟩,trivial⟩,.inr ⟨lk rfl,lk rfl,trivial⟩,rfl⟩,Nat.zero_le _⟩ ?_
 intro Rj hRj j hj
 refine ⟨fun h3=>?_,fun h3=>?_⟩
 ·have h4:j < c.arrays.length:=by omega
  have hj10:=flat_ten (c.arrays.take j) (fun a ha=>s3 a (List.mem_of_mem_take ha))
  rw[List.length_take] at hj10
  have ha10:=s3 _ (List.getElem_mem h4)
  have hn2:(F++c.vars++(c.arrays.take (j+1)).flatten)=(F++c.vars++(c.arrays.take j).flatten)++c.arrays[j]:=by
   rw[flatten_succ h4,← List.append_assoc]
  refine ⟨j,_,rfl,gm h4,?_⟩
  refine ⟨room8 (by simp only[List.length_map,List.length_append];omega),?_⟩
  refine ⟨_,I64.wrap (by unfold I64;omega),?_⟩
  exact hRj _ _ _ ⟨j+1,[.old 1],⟨rfl,.inr ⟨⟨by rw[hn2,List.map_append (l₂:=c.arrays[j])],rfl,rfl⟩,trivial⟩,.inr ⟨lk rfl,lk rfl,trivial⟩,rfl⟩,h4,by omega⟩
 ·have hjl:j=c.arrays.length:=by omega
  refine ⟨_,I64.wrap (by unfold I64;omega),?_⟩
  exact hRd _ _ _ ⟨i+1,[.old 0],⟨rfl,.inr ⟨⟨by rw[hnext,hjl,List.take_length],rfl,rfl⟩,trivial⟩,.inr ⟨lk rfl,lk rfl,trivial⟩,rfl⟩,b1,by omega⟩
end Go.Proofs.YtijdegmamdhcbaaGreatDoor
namespace Barb
open Go Go.Dm Go.Eng
def imgWords (m:List Part):Int:=fromAt m m.length
def wordN (n:Int):Prop:=0≤n∧n≤65535
instance (n:Int):Decidable (wordN n):=by unfold wordN;infer_instance
def wordE (n:Int):Int:=if wordN n then 0 else 2
def dataE (m:List Part) (d:List Int):Int:=if imgE m≠0 then imgE m else if ¬((d.length:Int)=imgWords m) then 4 else firstE wordE d
theorem wordE_two {d:List Int} (h:∃ n∈d,¬wordN n):firstE wordE d=2:=by
 induction d with
 | nil=>obtain ⟨n,hn,_⟩:=h;simp at hn
 | cons x d ih =>
  simp only[firstE]
  by_cases hx:wordN x
  ·have hz:wordE x=0:=by unfold wordE;rw[if_pos hx]
   rw[if_pos hz]
   refine ih ?_
   obtain ⟨n,hn,hw⟩:=h
   rcases List.mem_cons.1 hn with rfl | hn
   ·exact absurd hx hw
   ·exact ⟨n,hn,hw⟩
  ·have hz:wordE x=2:=by unfold wordE;rw[if_neg hx]
   rw[if_neg (by rw[hz];decide),hz]
theorem wordE_zero {d:List Int} (h:∀ n∈d,wordN n):firstE wordE d=0:=firstE_zero (fun x hx=>by unfold wordE;rw[if_pos (h x hx)])
end Barb
namespace Go.Proofs.YtijdegmamdhcbaaGreatDoor
open Go Go.Dm Go.Eng Barb

theorem MemWords_any (m:Image) (hm:Image.I m):CT Tryz.prog gl 41 [.agg (imgD m)] (Is (.g (.int (imgWords m)))):=by
 have lm:(m.map Part.g).length=m.length:=by simp
 have hl:=hm.2
 refine enter hT hF hM Tryz.func41 rfl 16 rfl (by kernel_rfl) [.tmp 2] rfl [.agg (imgD m)] rfl _ ?_
 refine ⟨fun h=>⟨rfl,retI (by unfold imgWords;rw[show m.length=0 by omega];rfl)⟩,fun h=>?_⟩
 obtain ⟨k,hk⟩:∃ k,m.length=k+1:=⟨m.length - 1,by omega⟩
 have hkl:k < m.length:=by omega
 refine ⟨by unfold I64;omega,k,_,(show D.g (.int (((m.map Part.g).length:Int) - 1))=D.g (.int (k:Int)) by rw[lm,hk];simp),gm hkl,rfl,retI ?_⟩
 unfold imgWords
 rw[hk,fromAt_succ hkl]
def oddN (n:Int):Prop:=¬wordN n
theorem oddN_any (n:Int):CT Tryz.prog gl 42 [.g (.int n)] (Is (.pb (oddN n))):=by
 refine enter hT hF hM Tryz.func42 rfl 6 rfl (by kernel_rfl) [.tmp 2] rfl [.g (.int n)] rfl _ ?_
 exact callIs (.inl rfl) (Is_any n) ⟨rfl,retN Iff.rfl⟩
theorem idxN_any (l:List Int) (hl:l.length≤9223372036854775807):CT Tryz.prog gl 43 [.g (.sl 1 (l.map intG)),.fn 42 [] []] (Is (.g (.int (idx oddN l)))):=by
 have ll:(l.map intG).length=l.length:=by simp
 refine enter hT hF hM Tryz.func43 rfl 19 rfl (by kernel_rfl) [.tmp 4] rfl [.g (.sl 1 (l.map intG)),.fn 42 [] []] rfl _ ?_
 refine loopR (ι:=Nat) (fun i=>[(8,.g (.int (i:Int)))]) (fun _=>[]) (fun i=>i≤l.length∧∀ j (hj:j < l.length),j < i→¬oddN l[j]) (fun i=>l.length - i)
  ⟨0,[],⟨rfl,.inl rfl,.inr ⟨lk rfl,trivial⟩,rfl⟩,Nat.zero_le _,alln_0⟩ ?_
 intro Rd hRd i ⟨hi,ha⟩
 refine ⟨fun h=>?_,fun h=>?_⟩
 ·have h1:i < l.length:=by omega
  refine ⟨i,_,rfl,gm h1,?_⟩
  refine callIs (.inl rfl) (oddN_any l[i]) ?_
  refine ⟨fun h2=>⟨rfl,retI (idx_at h1 ha h2).symm⟩,fun h2=>⟨_,I64.wrap (by unfold I64;omega),?_⟩⟩
  exact hRd _ _ _ ⟨i+1,[],⟨rfl,.inl rfl,.inr ⟨lk rfl,trivial⟩,rfl⟩,⟨h1,alln_step h1 ha h2⟩,by omega⟩
 ·exact ⟨rfl,retI (idx_no (alln_end (by omega) ha)).symm⟩
theorem hasN_any (l:List Int) (hl:l.length≤9223372036854775807):CT Tryz.prog gl 21 [.g (.sl 1 (l.map intG)),.fn 42 [] []] (Is (.pb (∃ n∈l,¬wordN n))):=by
 refine enter hT hF hM Tryz.func21 rfl 9 rfl (by kernel_rfl) [.tmp 4] rfl [.g (.sl 1 (l.map intG)),.fn 42 [] []] rfl _ ?_
 refine callIs (.inl rfl) (idxN_any l hl) ⟨rfl,retP ?_⟩
 rcases idx_cases oddN l with ⟨h1,h2⟩ | ⟨i,hi,h1,h2,h3⟩
 ·rw[h1];exact ⟨fun h=>absurd h (by decide),fun ⟨c,hc,ho⟩=>absurd ho (h2 c hc)⟩
 ·rw[h1];exact ⟨fun _=>⟨l[i],List.getElem_mem _,h2⟩,fun _=>by omega⟩

theorem CheckData_any (m:Image) (hm:Image.I m) (d:List Int) (hd:d.length*8≤140737488351232):CT Tryz.prog gl 20 [.agg (imgD m),.g (.sl 1 (d.map intG))] (Is (.g (.int (dataE m d)))):=by
 have ld:(d.map intG).length=d.length:=by simp
 have e:dataE m d=dataE m d:=rfl
 conv at e=>rhs;unfold dataE
 refine enter hT hF hM Tryz.func20 rfl 18 rfl (by kernel_rfl) [.tmp 4] rfl [.agg (imgD m),.g (.sl 1 (d.map intG))] rfl _ ?_
 refine callIs (.inl rfl) (MemCheck_any m hm) ⟨fun h=>⟨rfl,retI (by rw[e,if_pos h])⟩,fun h=>?_⟩
 rw[if_neg (fun h'=>h' h)] at e
 refine callIs (.inl rfl) (MemWords_any m hm) ⟨fun h=>⟨rfl,retI (by rw[e,if_pos (by rw[← ld];exact h)])⟩,fun h=>?_⟩
 rw[if_neg (by rw[← ld];exact fun h'=>h' h)] at e
 refine callIs (.inl rfl) (hasN_any d (by omega)) ⟨fun h=>⟨rfl,retI (by rw[e,wordE_two h])⟩,fun h=>⟨rfl,retI (by rw[e,wordE_zero (fun n hn=>Classical.not_not.1 (fun hw=>h ⟨n,hn,hw⟩))])⟩⟩
end Go.Proofs.YtijdegmamdhcbaaGreatDoor
namespace Barb
open Go Go.Dm Go.Eng
def nextV (b n:Int):Int:=(n*3+b) % 50
def nextA (c n:Int):Int:=(n*5+c) % 70
def iterI (f:Int→Int):Nat→Int→Int
 | 0,n=>n
 | k+1,n=>f (iterI f k n)
def rowI (f:Int→Int) (k:Nat) (n:Int):List Int:=(List.range k).map (fun i=>iterI f i n)
theorem rowI_len (f:Int→Int) (k:Nat) (n:Int):(rowI f k n).length=k:=by simp[rowI]
theorem rowI_succ (f:Int→Int) (k:Nat) (n:Int):rowI f (k+1) n=rowI f k n++[iterI f k n]:=by simp[rowI,List.range_succ]
def arrsC (c:Int):List Arr→Int→List (List Int)
 | [],_=>[]
 | a :: l,n=>rowI (nextA c) a.size.toNat n :: arrsC c l (iterI (nextA c) a.size.toNat n)
def endA (c:Int):List Arr→Int→Int
 | [],n=>n
 | a :: l,n=>endA c l (iterI (nextA c) a.size.toNat n)
def cellsU (b c:Int) (u:Unit) (n:Int):Cells:=⟨rowI (nextV b) u.vars.length n,arrsC c u.arrays (iterI (nextV b) u.vars.length n)⟩
def endU (b c:Int) (u:Unit) (n:Int):Int:=endA c u.arrays (iterI (nextV b) u.vars.length n)
def cellsL (b c:Int):List Unit→Int→List Cells
 | [],_=>[]
 | u :: l,n=>cellsU b c u n :: cellsL b c l (endU b c u n)
def endL (b c:Int):List Unit→Int→Int
 | [],n=>n
 | u :: l,n=>endL b c l (endU b c u n)
def cellsP (p:List Unit) (r:Raw):List Cells:=cellsL (pickN r.b 5) (pickN r.c 9) p (pickN r.a 7)
theorem cellsL_snoc (b c:Int) (u:Unit):∀ (l:List Unit) (n:Int),cellsL b c (l++[u]) n=cellsL b c l n++[cellsU b c u (endL b c l n)]
 | [],_=>rfl
 | v :: l,n=>by simp only[List.cons_append,cellsL,endL,cellsL_snoc b c u l]
theorem endL_snoc (b c:Int) (u:Unit):∀ (l:List Unit) (n:Int),endL b c (l++[u]) n=endU b c u (endL b c l n)
 | [],_=>rfl
 | v :: l,n=>by simp only[List.cons_append,endL,endL_snoc b c u l]
theorem arrsC_snoc (c:Int) (a:Arr):∀ (l:List Arr) (n:Int),arrsC c (l++[a]) n=arrsC c l n++[rowI (nextA c) a.size.toNat (endA c l n)]
 | [],_=>rfl
 | v :: l,n=>by simp only[List.cons_append,arrsC,endA,arrsC_snoc c a l]
theorem endA_snoc (c:Int) (a:Arr):∀ (l:List Arr) (n:Int),endA c (l++[a]) n=iterI (nextA c) a.size.toNat (endA c l n)
 | [],_=>rfl
 | v :: l,n=>by simp only[List.cons_append,endA,endA_snoc c a l]
theorem cellsL_len (b c:Int):∀ (l:List Unit) (n:Int),(cellsL b c l n).length=l.length
 | [],_=>rfl
 | v :: l,n=>by simp only[cellsL,List.length_cons,cellsL_len b c l]
theorem iterV_rng {b:Int}:∀ (k:Nat) {n:Int},0≤n∧n < 70→0≤iterI (nextV b) k n∧iterI (nextV b) k n < 70
 | 0,_,h=>h
 | k+1,n,h=>by
  show 0≤nextV b (iterI (nextV b) k n)∧nextV b (iterI (nextV b) k n) < 70
  unfold nextV
  omega
theorem iterA_rng {c:Int}:∀ (k:Nat) {n:Int},0≤n∧n < 70→0≤iterI (nextA c) k n∧iterI (nextA c) k n < 70
 | 0,_,h=>h
 | k+1,n,h=>by
  show 0≤nextA c (iterI (nextA c) k n)∧nextA c (iterI (nextA c) k n) < 70
  unfold nextA
  omega
theorem endA_rng {c:Int}:∀ (l:List Arr) {n:Int},0≤n∧n < 70→0≤endA c l n∧endA c l n < 70
 | [],_,h=>h
 | _ :: l,_,h=>endA_rng l (iterA_rng _ h)
theorem endU_rng {b c:Int} {u:Unit} {n:Int} (h:0≤n∧n < 70):0≤endU b c u n∧endU b c u n < 70:=endA_rng _ (iterV_rng _ h)
theorem endL_rng {b c:Int}:∀ (l:List Unit) {n:Int},0≤n∧n < 70→0≤endL b c l n∧endL b c l n < 70
 | [],_,h=>h
 | _ :: l,_,h=>endL_rng l (endU_rng h)
end Barb
namespace Barb
open Go Go.Dm Go.Eng
structure PC (p:List Unit):Prop where
 len:p.length≤1000
 vars:∀ u∈p,u.vars.length≤1000
 arrs:∀ u∈p,u.arrays.length≤1000
 size:∀ u∈p,∀ a∈u.arrays,0≤a.size∧a.size≤1000
theorem arrsC_len (c:Int):∀ (l:List Arr) (n:Int),(arrsC c l n).length=l.length
 | [],_=>rfl
 | _ :: l,n=>by simp only[arrsC,List.length_cons,arrsC_len c l]
theorem cells_row (l:List Cells) (c:Cells):l.map Cells.g++[[.sl 1 (c.vars.map intG),.sl 1 (c.arrays.map intsG)]]=(l++[c]).map Cells.g:=by rw[List.map_append];rfl
theorem ints_row (l:List Int) (n:Int):l.map intG++[[.int n]]=(l++[n]).map intG:=by rw[List.map_append];rfl
theorem intss_row (l:List (List Int)) (n:List Int):l.map intsG++[[.sl 1 (n.map intG)]]=(l++[n]).map intsG:=by rw[List.map_append];rfl
theorem fill_set (A:List (List GV)) (q sz:Nat) (h:q < sz) (hA:A.length=q) (x z:List GV):(A++List.replicate (sz - q) z).set q x=(A++[x])++List.replicate (sz - (q+1)) z:=by
 obtain ⟨m,hm⟩:∃ m,sz - q=m+1:=⟨sz - q - 1,by omega⟩
 rw[hm,show sz - (q+1)=m by omega,List.replicate_succ,List.set_append_right _ _ (by omega),hA,Nat.sub_self,List.set_cons_zero]
 simp
end Barb
namespace Go.Proofs.YtijdegmamdhcbaaGreatDoor
open Go Go.Dm Go.Eng Go.RowKit Barb
set_option maxRecDepth 20000 in
set_option maxHeartbeats 8000000 in
theorem Cells_Q (p:List Barb.Unit) (hp:PC p) (r:Raw) (hr:r.I) (Q:Out→Prop) (hQ:∀ (h:Heap) (i:Nat),h[i]?=some (.row ((cellsP p r).map Cells.g) 74 2)→RetTo Q h (.row i)) :
  CT Tryz.prog gl 14 [.g (.sl 4 (p.map Unit.g)),.agg r.d] Q:=by
 obtain ⟨_,ra,rb,rc⟩:=hr
 have lp:(p.map Unit.g).length=p.length:=List.length_map _
 have na:=pickN_lo r.a (many:=7) (by decide)
 have nb:=pickN_lo r.b (many:=5) (by decide)
 have nc:=pickN_lo r.c (many:=9) (by decide)
 have pa:=picked_any r.a 7 ra (by decide)
 have pb:=picked_any r.b 5 rb (by decide)
 have pc:=picked_any r.c 9 rc (by decide)
 unfold cellsP at hQ
 generalize pickN r.a 7=n0 at na pa hQ
 generalize pickN r.b 5=b at nb pb hQ
 generalize pickN r.c 9=c at nc pc hQ
 have hlen:=hp.len
 refine enter hT hF hM Tryz.func14 rfl 83 rfl (by kernel_rfl) [.tmp 4] rfl [.g (.sl 4 (p.map Unit.g)),.agg r.d] rfl _ ?_
 refine callIs (.inl rfl) pa ?_
 refine loopR (ι:=Nat) (fun i=>[(3,.ptr 0 0),(5,.row 1),(6,.g (.int (endL b c (p.take i) n0))),(19,.g (.int (i:Int)))]) (fun i=>[.blk r.d 24,.row ((cellsL b c (p.take i) n0).map Cells.g) 74 2]) (fun i=>i≤p.length) (fun i=>p.length - i)
  ⟨0,[.old 0,.nil 74 2],⟨rfl,.inl rfl,.inr ⟨lk rfl,.inr rfl,lk rfl,lk rfl,trivial⟩,rfl⟩,Nat.zero_le _⟩ ?_
 intro Rd hRd i hi
 refine ⟨fun hlt=>?_,fun hge=>?_⟩
 rotate_left
 ·have hil:i=p.length:=by omega
  exact ⟨rfl,hQ _ _ (by rw[hil,List.take_length];rfl)⟩
 have hil:i < p.length:=by omega
 have hmem:=List.getElem_mem hil
 have hv:=hp.vars _ hmem
 have ha:=hp.arrs _ hmem
 have hs:=hp.size _ hmem
 have hn1:=endL_rng (b:=b) (c:=c) (p.take i) (n:=n0) (by omega)
 have hlo:=cellsL_len b c (p.take i) n0
 rw[List.length_take] at hlo
 have hnext:cellsL b c (p.take (i+1)) n0=cellsL b c (p.take i) n0++[cellsU b c p[i] (endL b c (p.take i) n0)]:=by rw[take_one hil,cellsL_snoc]
 have hnend:endL b c (p.take (i+1)) n0=endU b c p[i] (endL b c (p.take i) n0):=by rw[take_one hil,endL_snoc]
 refine ⟨i,_,rfl,gm hil,?_⟩
 generalize hou:cellsL b c (p.take i) n0=out at hnext hlo
 generalize endL b c (p.take i) n0=n1 at hn1 hnext hnend
 generalize p[i]=u at hv ha hs hnext hnend
 have lu:(u.vars.map strG).length=u.vars.length:=List.length_map _
 have la:(u.arrays.map Arr.g).length=u.arrays.length:=List.length_map _
 refine loopR (ι:=Nat) (fun k=>[(3,.ptr 0 0),(5,.row 1),(6,.g (.int (iterI (nextV b) k n1))),(8,.ptr 2 0),(9,.ptr 3 0),(19,.g (.int (i:Int))),(27,.g (.int (k:Int)))])
  (fun k=>[.blk r.d 24,.row (out.map Cells.g) 74 2,.blk u.d 59,.blk [.row 4,.nils] 74,.row ((rowI (nextV b) k n1).map intG) 3 1]) (fun k=>k≤u.vars.length) (fun k=>u.vars.length - k)
  ⟨0,[.old 0,.old 1,.old 2,.old 3,.nil 3 1],⟨rfl,.inr ⟨⟨rfl,.inl rfl⟩,⟨rfl,rfl,rfl⟩,⟨rfl,.inl rfl⟩,⟨rfl,.inr ⟨.inr rfl,lk rfl,trivial⟩⟩,⟨rfl,rfl,rfl⟩,trivial⟩,.inr ⟨lk rfl,lk rfl,lk rfl,lk rfl,lk rfl,lk rfl,lk rfl,trivial⟩,rfl⟩,Nat.zero_le _⟩ ?_
 intro Rd2 hRd2 k hk
 refine ⟨fun hklt=>?_,fun hkge=>?_⟩
 ·have hkl:k < u.vars.length:=by omega
  have hnk:=iterV_rng (b:=b) k hn1
  have hst:iterI (nextV b) (k+1) n1=nextV b (iterI (nextV b) k n1):=rfl
  have hrow:=rowI_succ (nextV b) k n1
  have hrl:=rowI_len (nextV b) k n1
  generalize iterI (nextV b) k n1=n at hnk hst hrow
  generalize rowI (nextV b) k n1=row at hrow hrl
  refine ⟨[[.int n]],rfl,rfl,⟨rfl,trivial⟩,?_⟩
  refine ⟨⟨by simp[maxLen];omega,by simp;omega⟩,?_⟩
  refine ⟨by unfold I64;omega,callIs (.inl rfl) pb ⟨_,I64.wrap (by unfold I64;omega),by decide,?_⟩⟩
  refine ⟨_,I64.wrap (by unfold I64;omega),?_⟩
  exact hRd2 _ _ _ ⟨k+1,[.old 0,.old 1,.old 2,.old 3,.old 6],⟨rfl,.inr ⟨⟨rfl,.inl rfl⟩,⟨rfl,rfl,rfl⟩,⟨rfl,.inl rfl⟩,⟨rfl,.inl rfl⟩,⟨by rw[hrow];exact ints_row row n,rfl,rfl⟩,trivial⟩,.inr ⟨lk rfl,lk rfl,lkI (by rw[hst];unfold nextV;rw[Int.tmod_eq_emod_of_nonneg (by omega)]),lk rfl,lk rfl,lk rfl,lkI (by push_cast;rfl),trivial⟩,rfl⟩,hkl,by show u.vars.length - (k+1) < u.vars.length - k;omega⟩
 have hke:k=u.vars.length:=by omega
 subst hke
 have hn2:=iterV_rng (b:=b) u.vars.length hn1
 have hcu:cellsU b c u n1=⟨rowI (nextV b) u.vars.length n1,arrsC c u.arrays (iterI (nextV b) u.vars.length n1)⟩:=rfl
 have heu:endU b c u n1=endA c u.arrays (iterI (nextV b) u.vars.length n1):=rfl
 rw[hcu] at hnext
 rw[heu] at hnend
 generalize rowI (nextV b) u.vars.length n1=vs at hnext
 generalize iterI (nextV b) u.vars.length n1=n2 at hn2 hnext hnend
 refine loopR (ι:=Nat) (fun j=>[(3,.ptr 0 0),(5,.row 1),(6,.g (.int (endA c (u.arrays.take j) n2))),(8,.ptr 2 0),(9,.ptr 3 0),(19,.g (.int (i:Int))),(46,.g (.int (j:Int)))])
  (fun j=>[.blk r.d 24,.row (out.map Cells.g) 74 2,.blk u.d 59,.blk [.row 4,.row 5] 74,.row (vs.map intG) 3 1,.row ((arrsC c (u.arrays.take j) n2).map intsG) 30 1]) (fun j=>j≤u.arrays.length) (fun j=>u.arrays.length - j)
  ⟨0,[.old 0,.old 1,.old 2,.old 3,.old 4,.nil 30 1],⟨rfl,.inr ⟨⟨rfl,.inl rfl⟩,⟨rfl,rfl,rfl⟩,⟨rfl,.inl rfl⟩,⟨rfl,.inr ⟨lk rfl,.inr rfl,trivial⟩⟩,⟨rfl,rfl,rfl⟩,⟨rfl,rfl,rfl⟩,trivial⟩,.inr ⟨lk rfl,lk rfl,lk rfl,lk rfl,lk rfl,lk rfl,lk rfl,trivial⟩,rfl⟩,Nat.zero_le _⟩ ?_
 intro Rd3 hRd3 j hj
 refine ⟨fun hjlt=>?_,fun hjge=>?_⟩
 rotate_left
 ·have hje:j=u.arrays.length:=by omega
  rw[hje,List.take_length] at *
  refine ⟨[[.sl 1 (vs.map intG),.sl 1 ((arrsC c u.arrays n2).map intsG)]],rfl,rfl,⟨seesRow rfl rfl,seesRow rfl rfl,trivial⟩,?_⟩
  refine ⟨⟨by simp[maxLen];omega,by simp;omega⟩,?_⟩
  refine ⟨_,I64.wrap (by unfold I64;omega),?_⟩
  exact hRd _ _ _ ⟨i+1,[.old 0,.old 7],⟨rfl,.inr ⟨⟨rfl,.inl rfl⟩,⟨by rw[hnext];exact cells_row out ⟨vs,arrsC c u.arrays n2⟩,rfl,rfl⟩,trivial⟩,.inr ⟨lk rfl,lk rfl,lkI hnend.symm,lkI (by push_cast;rfl),trivial⟩,rfl⟩,hil,by show p.length - (i+1) < p.length - i;omega⟩
 have hjl:j < u.arrays.length:=by omega
 have hsz:=hs _ (List.getElem_mem hjl)
 have hn3:=endA_rng (c:=c) (u.arrays.take j) hn2
 have ht1:arrsC c (u.arrays.take (j+1)) n2=arrsC c (u.arrays.take j) n2++[rowI (nextA c) u.arrays[j].size.toNat (endA c (u.arrays.take j) n2)]:=by rw[take_one hjl,arrsC_snoc]
 have ht2:endA c (u.arrays.take (j+1)) n2=iterI (nextA c) u.arrays[j].size.toNat (endA c (u.arrays.take j) n2):=by rw[take_one hjl,endA_snoc]
 have hal:(arrsC c (u.arrays.take j) n2).length≤1000:=by rw[arrsC_len,List.length_take];omega
 refine ⟨j,_,rfl,gm hjl,?_⟩
 generalize arrsC c (u.arrays.take j) n2=arrs at ht1 hal
 generalize endA c (u.arrays.take j) n2=n3 at hn3 ht1 ht2
 generalize u.arrays[j]=ar at hsz ht1 ht2
 obtain ⟨sz,hsz'⟩:∃ sz:Nat,ar.size=(sz:Int):=⟨ar.size.toNat,by omega⟩
 rw[show ar.size.toNat=sz by omega] at ht1 ht2
 refine ⟨sz,sz,[.int 0],dJ hsz',dJ hsz',Nat.le_refl _,(by show 8*sz≤140737488355328;omega),by unfold maxLen;omega,⟨rfl,trivial⟩,?_⟩
 refine loopR (ι:=Nat) (fun q=>[(3,.ptr 0 0),(5,.row 1),(6,.g (.int (iterI (nextA c) q n3))),(8,.ptr 2 0),(9,.ptr 3 0),(12,.row 6),(19,.g (.int (i:Int))),(46,.g (.int (j:Int))),(55,.g (.int (q:Int)))])
  (fun q=>[.blk r.d 24,.row (out.map Cells.g) 74 2,.blk u.d 59,.blk [.row 4,.row 5] 74,.row (vs.map intG) 3 1,.row (arrs.map intsG) 30 1,.row ((rowI (nextA c) q n3).map intG++List.replicate (sz - q) [.int 0]) 3 1]) (fun q=>q≤sz) (fun q=>sz - q)
  ⟨0,[.old 0,.old 1,.old 2,.old 3,.old 4,.old 5,.old 7],⟨rfl,.inl rfl,.inr ⟨lk rfl,lk rfl,lk rfl,lk rfl,lk rfl,lk rfl,lk rfl,lk rfl,lk rfl,trivial⟩,rfl⟩,Nat.zero_le _⟩ ?_
 intro Rd4 hRd4 q hq
 have hlr:(List.replicate sz ([GV.int 0]:List GV)).length=sz:=List.length_replicate
 refine ⟨fun hqlt=>?_,fun hqge=>?_⟩
 ·have hql:q < sz:=by omega
  have hnq:=iterA_rng (c:=c) q hn3
  have hst:iterI (nextA c) (q+1) n3=nextA c (iterI (nextA c) q n3):=rfl
  have hrow:=rowI_succ (nextA c) q n3
  have hrl:=rowI_len (nextA c) q n3
  generalize iterI (nextA c) q n3=n at hnq hst hrow
  generalize rowI (nextA c) q n3=row at hrow hrl
  have hrl':(row.map intG).length=q:=by rw[List.length_map];exact hrl
  have hget:(row.map intG++List.replicate (sz - q) ([GV.int 0]:List GV))[q]?=some [.int 0]:=by
   rw[List.getElem?_append_right (by omega),hrl',Nat.sub_self,List.getElem?_replicate,if_pos (by omega)]
  refine ⟨q,rfl,(by show q < (row.map intG++List.replicate (sz - q) ([GV.int 0]:List GV)).length;rw[List.length_append,hrl',List.length_replicate];omega),?_⟩
  refine ⟨_,[.int n],hget,⟨rfl,trivial⟩,Nat.le_refl 1,(fun h=>by cases h),?_⟩
  refine ⟨by unfold I64;omega,callIs (.inl rfl) pc ⟨_,I64.wrap (by unfold I64;omega),by decide,?_⟩⟩
  refine ⟨_,I64.wrap (by unfold I64;omega),?_⟩
  exact hRd4 _ _ _ ⟨q+1,[.old 0,.old 1,.old 2,.old 3,.old 4,.old 5,.old 6],⟨rfl,.inr ⟨⟨rfl,.inl rfl⟩,⟨rfl,rfl,rfl⟩,⟨rfl,.inl rfl⟩,⟨rfl,.inl rfl⟩,⟨rfl,rfl,rfl⟩,⟨rfl,rfl,rfl⟩,⟨(fill_set (row.map intG) q sz hql hrl' [.int n] [.int 0]).trans (by rw[hrow,ints_row]),rfl,rfl⟩,trivial⟩,.inr ⟨lk rfl,lk rfl,lkI (by rw[hst];unfold nextA;rw[Int.tmod_eq_emod_of_nonneg (by omega)]),lk rfl,lk rfl,lk rfl,lk rfl,lk rfl,lkI (by push_cast;rfl),trivial⟩,rfl⟩,hql,by show sz - (q+1) < sz - q;omega⟩
 ·have hqe:q=sz:=by omega
  subst hqe
  refine ⟨[[.sl 1 ((rowI (nextA c) q n3).map intG++List.replicate (q - q) [.int 0])]],rfl,rfl,⟨seesRow rfl rfl,trivial⟩,?_⟩
  refine ⟨⟨by simp[maxLen];omega,by simp;omega⟩,?_⟩
  refine ⟨_,I64.wrap (by unfold I64;omega),?_⟩
  exact hRd3 _ _ _ ⟨j+1,[.old 0,.old 1,.old 2,.old 3,.old 4,.old 8],⟨rfl,.inr ⟨⟨rfl,.inl rfl⟩,⟨rfl,rfl,rfl⟩,⟨rfl,.inl rfl⟩,⟨rfl,.inl rfl⟩,⟨rfl,rfl,rfl⟩,⟨by rw[ht1,Nat.sub_self,List.replicate_zero,List.append_nil];exact intss_row _ _,rfl,rfl⟩,trivial⟩,.inr ⟨lk rfl,lk rfl,lkI ht2.symm,lk rfl,lk rfl,lk rfl,lkI (by push_cast;rfl),trivial⟩,rfl⟩,hjl,by show u.arrays.length - (j+1) < u.arrays.length - j;omega⟩
end Go.Proofs.YtijdegmamdhcbaaGreatDoor
namespace Barb
open Go Go.Dm Go.Eng Go.Proofs.YtijdegmamdhcbaaGreatDoor
theorem rowI_ok {f:Int→Int} {k:Nat} {n:Int} (h:∀ j,0≤iterI f j n∧iterI f j n < 70):wordsOk (rowI f k n) k:=by
 refine ⟨by rw[rowI_len],fun x hx=>?_⟩
 unfold rowI at hx
 obtain ⟨j,_,rfl⟩:=List.mem_map.1 hx
 have:=h j
 omega
theorem arrsC_ok (c:Int):∀ (l:List Arr) (n:Int),(0≤n∧n < 70)→(∀ a∈l,1≤a.size∧a.size≤10)→∀ k (h:k < (arrsC c l n).length) (h':k < l.length),wordsOk (arrsC c l n)[k] l[k].size
 | [],_,_,_,k,_,h'=>by simp at h'
 | a :: l,n,hn,hs,0,_,_=>by
  have ha:=hs a List.mem_cons_self
  have:=rowI_ok (k:=a.size.toNat) (fun j=>iterA_rng (c:=c) j hn)
  rw[show ((a.size.toNat:Nat):Int)=a.size by omega] at this
  exact this
 | a :: l,n,hn,hs,k+1,h,h'=>by
  have:=arrsC_ok c l (iterI (nextA c) a.size.toNat n) (iterA_rng _ hn) (fun b hb=>hs b (List.mem_cons_of_mem _ hb)) k (by simpa [arrsC] using h) (by simpa using h')
  simpa [arrsC] using this
theorem cellsU_ok (b c:Int) (u:Unit) {n:Int} (hn:0≤n∧n < 70) (hs:∀ a∈u.arrays,1≤a.size∧a.size≤10):cellOk u (cellsU b c u n) :=
 ⟨⟨rowI_ok (fun j=>iterV_rng j hn),arrsC_len _ _ _⟩,fun k h h'=>arrsC_ok c u.arrays _ (iterV_rng _ hn) hs k h h'⟩
theorem cellsL_ok (b c:Int):∀ (l:List Unit) (n:Int),(0≤n∧n < 70)→(∀ u∈l,∀ a∈u.arrays,1≤a.size∧a.size≤10)→∀ i (h:i < (cellsL b c l n).length) (h':i < l.length),cellOk l[i] (cellsL b c l n)[i]
 | [],_,_,_,i,_,h'=>by simp at h'
 | u :: l,n,hn,hs,0,_,_=>cellsU_ok b c u hn (hs u List.mem_cons_self)
 | u :: l,n,hn,hs,i+1,h,h'=>by
  have:=cellsL_ok b c l (endU b c u n) (endU_rng hn) (fun v hv=>hs v (List.mem_cons_of_mem _ hv)) i (by simpa [cellsL] using h) (by simpa using h')
  simpa [cellsL] using this
theorem cellsP_good {p:List Unit} (hg:progE p=0) (r:Raw):cellsE p (cellsP p r)=0:=by
 obtain ⟨_,hU,_,_⟩:=progE_inv hg
 obtain ⟨k,hk,hk7⟩:=pickN_nat r.a (many:=7) (by decide)
 exact cellsE_yes hg (cellsL_len _ _ _ _) (fun i h h'=>cellsL_ok _ _ p (pickN r.a 7) (by rw[show (7:Int)=((7:Nat):Int) from rfl,hk];omega) (fun u hu a ha=>(arrE_inv ((unitE_inv (hU u hu)).2.2.2.2.2.1 a ha)).2) i h h')
theorem cells_I {p:List Unit} {cs:List Cells} (hg:progE p=0) (hl:cs.length=p.length) (h:cellsOk p cs):∀ c∈cs,c.I:=by
 intro c hc
 obtain ⟨i,hi,rfl⟩:=List.getElem_of_mem hc
 have hU:=(progE_inv hg).2.1 _ (List.getElem_mem (show i < p.length by omega))
 obtain ⟨s1,s2,s3⟩:=cell_small hU (h i hi (by omega))
 obtain ⟨⟨h1,h2⟩,h3⟩:=h i hi (by omega)
 refine ⟨⟨fun x hx=>by have:=h1.2 x hx;unfold I64;omega,by omega⟩,fun a ha=>⟨fun x hx=>?_,by have:=s3 a ha;omega⟩,by omega⟩
 obtain ⟨k,hk,rfl⟩:=List.getElem_of_mem ha
 have:=(h3 k hk (by omega)).2 x hx
 unfold I64;omega
end Barb
namespace Go.Proofs.YtijdegmamdhcbaaGreatDoor
open Go Go.Dm Go.Eng Go.RowKit Barb
theorem Program_isT (l:List Raw) (hl:l.length*32≤140737488351232) (hI:∀ r∈l,r.I):CT Tryz.prog gl 13 [.g (.sl 4 (l.map Raw.g))] (Is (.g (.sl 4 ((programP l).map Unit.g)))) :=
 Program_Q l hl hI _ (fun h i hi=>retIs (.inl (by simp only[conv,kp,hi])))
theorem Cells_isT (p:List Barb.Unit) (hp:PC p) (r:Raw) (hr:r.I):CT Tryz.prog gl 14 [.g (.sl 4 (p.map Unit.g)),.agg r.d] (Is (.g (.sl 2 ((cellsP p r).map Cells.g)))) :=
 Cells_Q p hp r hr _ (fun h i hi=>retIs (.inl (by simp only[conv,kp,hi])))
theorem progE_PC {p:List Barb.Unit} (h:progE p=0):PC p:=by
 obtain ⟨h5,hU,_,_⟩:=progE_inv h
 exact ⟨by omega,fun u hu=>by have:=(unitE_inv (hU u hu)).2.1;omega,fun u hu=>by have:=(unitE_inv (hU u hu)).2.2.1;omega,fun u hu a ha=>by have:=(arrE_inv ((unitE_inv (hU u hu)).2.2.2.2.2.1 a ha)).2;omega⟩
end Go.Proofs.YtijdegmamdhcbaaGreatDoor
namespace Barb
open Go Go.Dm Go.Eng Go.Proofs.YtijdegmamdhcbaaGreatDoor
theorem genE_two {p:List Unit} (hg:progE p=0) {k:Nat} (hk:k < p.length) {base:Int} (hb:0≤base∧base+unitWords p[k]≤250):genE p k base=if (unitC p p[k] base).length > 1200∨(unitW p p[k] base).most > 40 then 1 else 0:=by
 unfold genE
 rw[if_neg (fun h=>h hg),if_neg (by omega),show p.getD (k:Int).toNat ⟨[],[],[],[]⟩=p[k] by rw[Int.toNat_natCast];simp[hk],if_neg (by omega)]
structure GenGood (p:List Unit) (k:Nat) (base:Int) (u:Unit):Prop where
 short:(genC p k base).length≤1200
 form:∀ x∈genC p k base,instrE x=0
 many:(genA p k base).length=u.funcs.length
 at_:∀ n∈genA p k base,0≤n∧n < ((genC p k base).length:Int)
theorem gen_good {p:List Unit} (hg:progE p=0) {k:Nat} (hk:k < p.length) {base:Int} (hb:0≤base∧base+unitWords p[k]≤250) (h0:genE p k base=0):GenGood p k base p[k]:=by
 have hgd:p.getD (k:Int).toNat noU=p[k]:=by rw[Int.toNat_natCast];simp[hk]
 have h1:genC p k base=unitC p p[k] base:=by unfold genC;rw[if_pos h0,hgd]
 have h2:genA p k base=atsG p p[k] base p[k].funcs ⟨[],[],0,0⟩:=by unfold genA;rw[if_pos h0,hgd]
 have hmem:p[k]∈p:=List.getElem_mem hk
 have hw:=unitWords_good ((progE_inv hg).2.1 _ hmem)
 have h3:(unitC p p[k] base).length≤1200:=by
  rw[genE_two hg hk hb] at h0
  by_cases hx:(unitC p p[k] base).length > 1200∨(unitW p p[k] base).most > 40
  ·rw[if_pos hx] at h0;omega
  ·omega
 have h5:(unitC p p[k] base).length=(unitW p p[k] base).code.length:=patchG_len _ _ _
 refine ⟨by rw[h1];exact h3,by rw[h1];exact unitC_ok (fun f hf=>fits_of hg hmem (by omega) hf) h3,by rw[h2];exact atsG_len _ _ _ _ _,fun n hn=>?_⟩
 rw[h2] at hn
 have:=atsG_rng p p[k] base p[k].funcs ⟨[],[],0,0⟩ n hn
 rw[h1,h5]
 exact ⟨by have:=this.1;simp at this;exact this,this.2⟩
theorem entsL_mem:∀ (l:List Fun) (m:List Int) (x:Entry),x∈entsL l m→x.at_∈m∧∃ f∈l,x.params=f.params.length
 | [],_,x,h=>by simp[entsL] at h
 | _ :: _,[],x,h=>by simp[entsL] at h
 | f :: l,a :: m,x,h=>by
  simp only[entsL] at h
  have tl:x∈entsL l m→x.at_∈a :: m∧∃ g∈f :: l,x.params=g.params.length:=fun h=>by
   obtain ⟨h1,g,h2,h3⟩:=entsL_mem l m x h
   exact ⟨List.mem_cons_of_mem _ h1,g,List.mem_cons_of_mem _ h2,h3⟩
  split at h
  ·rcases List.mem_cons.1 h with rfl | h
   ·exact ⟨List.mem_cons_self,f,List.mem_cons_self,rfl⟩
   ·exact tl h
  ·exact tl h
theorem instrE_I {x:Instr} (h:instrE x=0):x.I:=by
 unfold instrE at h
 by_cases h1:¬(1≤x.op∧x.op≤15)
 ·rw[if_pos h1] at h;omega
 rw[if_neg h1] at h
 by_cases h2:instrBad x
 ·rw[if_pos h2] at h;omega
 unfold instrBad at h2
 have a1:bdA x.op≤65535:=by unfold bdA;(repeat' split)<;>omega
 have a2:bdB x.op≤65535:=by unfold bdB;(repeat' split)<;>omega
 have a3:bdC x.op≤65535:=by unfold bdC;(repeat' split)<;>omega
 unfold Instr.I I64
 omega
theorem lparts_len (q:List Unit) (n:Nat):(lparts q n).length=n:=by unfold lparts;simp
theorem lparts_at (q:List Unit) (n i:Nat) (h:i < (lparts q n).length):(lparts q n)[i]=lpart q i:=by
 have h':i < n:=by rw[lparts_len] at h;exact h
 exact Option.some.inj ((List.getElem?_eq_getElem h).symm.trans (by unfold lparts;simp[h']))
theorem fromAt_l (q:List Unit) (n i:Nat) (h:i≤n):fromAt (lparts q n) i=baseAt q i:=by
 cases i with
 | zero=>simp[fromAt,baseAt,progWords]
 | succ i =>
  have hl:i < (lparts q n).length:=by rw[lparts_len];omega
  rw[fromAt_succ hl,lparts_at];rfl
theorem link_all {q:List Unit} (h:linkE1 q=0) {k:Nat} (hk:k < q.length):genE q k (baseAt q k)=0:=firstE_all h k (List.mem_range.2 hk)
theorem base_rng {q:List Unit} (hg:progE q=0) {k:Nat} (hk:k < q.length):0≤baseAt q k∧baseAt q k+unitWords q[k]≤250∧0≤unitWords q[k]:=by
 obtain ⟨_,hU,hw,_⟩:=progE_inv hg
 have hb:=progWords_take q (fun u hu=>(unitWords_good (hU u hu)).1)
 have h1:=hb k
 have h2:=hb (k+1)
 have h3:=unitWords_good (hU _ (List.getElem_mem hk))
 rw[baseAt_succ hk] at h2
 omega
theorem lpart_good {q:List Unit} (hg:progE q=0) (h:linkE1 q=0) {k:Nat} (hk:k < q.length):partE (lpart q k) (baseAt q k)=0∧(lpart q k).I:=by
 obtain ⟨b1,b2,b3⟩:=base_rng hg hk
 have G:=gen_good hg hk ⟨b1,b2⟩ (link_all h hk)
 have hmem:q[k]∈q:=List.getElem_mem hk
 obtain ⟨_,_,_,hf8,_,_,hFE⟩:=unitE_inv ((progE_inv hg).2.1 _ hmem)
 have hqd:q.getD k noU=q[k]:=by simp[hk]
 have hel:=entsL_len q[k].funcs (genA q k (baseAt q k))
 have hem:=entsL_mem q[k].funcs (genA q k (baseAt q k))
 have hsucc:=baseAt_succ hk
 have hent:∀ x∈entsL q[k].funcs (genA q k (baseAt q k)),(0≤x.at_∧x.at_ < ((genC q k (baseAt q k)).length:Int))∧0≤x.params∧x.params≤4:=fun x hx=>by
  obtain ⟨m1,f,m2,m3⟩:=hem x hx
  have:=G.at_ _ m1
  have:=(funE_inv (hFE f m2)).2.1
  omega
 have hsh:=G.short
 unfold lpart
 rw[hqd]
 refine ⟨?_,⟨fun x hx=>instrE_I (G.form x hx),fun x hx=>?_,?_,?_,?_,?_⟩⟩
 ·unfold partE
  dsimp only
  rw[if_neg (by omega),if_neg (fun hc=>hc (firstE_zero G.form)),if_neg (fun hc=>hc (firstE_zero (fun x hx=>by
   have:=hent x hx
   unfold entE
   rw[if_neg (by unfold entBad;omega)]))),if_neg (by omega)]
 ·have:=hent x hx
  unfold Entry.I I64
  dsimp only at *
  omega
 ·show I64 (baseAt q k);unfold I64;omega
 ·show I64 (baseAt q (k+1));unfold I64;omega
 ·show (genC q k (baseAt q k)).length*32≤_;omega
 ·show (entsL q[k].funcs (genA q k (baseAt q k))).length*16≤_;omega
theorem img_good {q:List Unit} (hg:progE q=0) (h:linkE1 q=0):imgE (lparts q q.length)=0∧Image.I (lparts q q.length)∧imgWords (lparts q q.length)=progWords q:=by
 obtain ⟨h5,_⟩:=progE_inv hg
 have hl:=lparts_len q q.length
 refine ⟨?_,⟨fun x hx=>?_,by omega⟩,?_⟩
 ·unfold imgE
  rw[if_neg (by omega)]
  refine firstN_all (fun j hj=>?_)
  rw[imgF_at hj,lparts_at,fromAt_l _ _ _ (by omega)]
  exact (lpart_good hg h (by omega)).1
 ·obtain ⟨j,hj,rfl⟩:=List.getElem_of_mem hx
  rw[lparts_at]
  exact (lpart_good hg h (by omega)).2
 ·unfold imgWords
  rw[hl,fromAt_l _ _ _ (Nat.le_refl _)]
  unfold baseAt
  rw[List.take_length]
theorem flat_sum:∀ (l:List (List Int)) (m:List Arr),l.length=m.length→(∀ k (h:k < l.length) (h':k < m.length),wordsOk l[k] m[k].size)→((l.flatten).length:Int)=sizes m
 | [],[],_,_=>by simp[sizes]
 | a :: l,b :: m,hl,h=>by
  have h1:=flat_sum l m (by simpa using hl) (fun k hk hk'=>by have:=h (k+1) (by simpa using hk) (by simpa using hk');simpa using this)
  have h2:=(h 0 (by simp) (by simp)).1
  simp only[List.getElem_cons_zero] at h2
  unfold sizes at h1 ⊢
  simp only[List.flatten_cons,List.length_append,List.map_cons,List.sum_cons]
  omega
theorem flatC_words {u:Unit} {c:Cells} (h:cellOk u c):((flatC c).length:Int)=unitWords u:=by
 obtain ⟨⟨h1,h2⟩,h3⟩:=h
 have:=flat_sum c.arrays u.arrays h2 h3
 unfold flatC unitWords
 rw[List.length_append]
 have:=h1.1
 push_cast
 omega
theorem flatN_words:∀ (p:List Unit) (cs:List Cells),cs.length=p.length→cellsOk p cs→((flatN cs).length:Int)=progWords p
 | [],[],_,_=>by simp[flatN,progWords]
 | u :: p,c :: cs,hl,h=>by
  have h1:=flatN_words p cs (by simpa using hl) (fun i hi hi'=>by have:=h (i+1) (by simpa using hi) (by simpa using hi');simpa using this)
  have h2:=flatC_words (h 0 (by simp) (by simp))
  simp only[List.getElem_cons_zero] at h2
  unfold flatN progWords at *
  simp only[List.flatMap_cons,List.length_append,List.map_cons,List.sum_cons]
  push_cast
  omega
theorem flatN_word {p:List Unit} {cs:List Cells} (hl:cs.length=p.length) (h:cellsOk p cs):∀ x∈flatN cs,wordN x:=by
 intro x hx
 unfold flatN at hx
 obtain ⟨c,hc,hx⟩:=List.mem_flatMap.1 hx
 obtain ⟨i,hi,rfl⟩:=List.getElem_of_mem hc
 obtain ⟨⟨h1,h2⟩,h3⟩:=h i hi (by omega)
 unfold flatC at hx
 rcases List.mem_append.1 hx with hx | hx
 ·exact h1.2 x hx
 ·obtain ⟨a,ha,hxa⟩:=List.mem_flatten.1 hx
  obtain ⟨k,hk,rfl⟩:=List.getElem_of_mem ha
  exact (h3 k hk (by omega)).2 x hxa
structure Built (p:List Unit) (r:Raw):Prop where
 data:dataL p (cellsP p r)=flatN (cellsP p r)
 words:((flatN (cellsP p r)).length:Int)=progWords p
 word:∀ x∈flatN (cellsP p r),wordN x
theorem built_of {p:List Unit} (hg:progE p=0) (r:Raw):Built p r:=by
 have h0:=cellsP_good hg r
 obtain ⟨_,hl,hc⟩:=cellsE_ok h0
 exact ⟨by unfold dataL;rw[if_pos h0],flatN_words p _ hl hc,flatN_word hl hc⟩
theorem linkI_good {p:List Unit} (hg:progE p=0) (hN:fewP p) (h:linkE p=0):imgE (linkI p)=0∧Image.I (linkI p)∧imgWords (linkI p)=progWords p∧(linkI p).length=p.length:=by
 have hq:=(foldP_good hg hN).1
 have h1:linkE1 (foldP p)=0:=by unfold linkE at h;rw[if_neg (fun h'=>h' hg)] at h;exact h
 have e:linkI p=lparts (foldP p) (foldP p).length:=by unfold linkI;rw[if_pos h,foldP_len]
 obtain ⟨a,b,c⟩:=img_good hq h1
 rw[e]
 exact ⟨a,b,by rw[c];exact foldU_words p,by rw[lparts_len,foldP_len]⟩
end Barb
namespace Go.Proofs.YtijdegmamdhcbaaGreatDoor
open Go Go.Dm Go.Eng Go.RowKit Barb
structure BuiltOk (p:List Barb.Unit) (r:Raw):Prop where
 good:progE p=0
 few:fewP p
 len:p.length≤3
 data:dataL p (cellsP p r)=flatN (cellsP p r)
 words:((dataL p (cellsP p r)).length:Int)=progWords p
 word:∀ x∈dataL p (cellsP p r),wordN x
 dlen:(dataL p (cellsP p r)).length≤190
 wlen:progWords p≤18
theorem builtOk (l:List Raw) (r:Raw):BuiltOk (programP l) r:=by
 have hP:=programP_prog l
 have hgood:=prog_good hP
 obtain ⟨d1,d2,d3⟩:=built_of hgood r
 exact ⟨hgood,prog_few hP,by rw[prog_len hP];exact hP.m.2,d1,by rw[d1];exact d2,by rw[d1];exact d3,dataL_len _ _,by have h1:=(words_sum hP.shape).2;have h2:=hP.m.2;have h3:=prog_len hP;omega⟩
theorem built_any (l:List Raw) (hI:∀ r∈l,r.I) (hl:l.length*32≤140737488351232) (r:Raw) (hr:r.I) :
  CT Tryz.prog gl 4 [.g (.sl 4 (l.map Raw.g)),.agg r.d] (Is (.tuple [.g (.sl 4 ((programP l).map Unit.g)),.agg (imgD (linkI (programP l))),.g (.sl 2 ((cellsP (programP l) r).map Cells.g)),.g (.sl 1 ((dataL (programP l) (cellsP (programP l) r)).map intG)),.pb (linkE (programP l)=0)])):=by
 obtain ⟨hgood,hfew,_,_,_,_,hdl,_⟩:=builtOk l r
 have hpi:=progE_I hgood hfew
 have hPr:=Program_isT l hl hI
 generalize programP l=p at *
 have hC:=Cells_isT p (progE_PC hgood) r hr
 have hc0:=cellsP_good hgood r
 obtain ⟨_,hcl,hcc⟩:=cellsE_ok hc0
 have h5:=(progE_inv hgood).1
 have hD:=Data_any p hpi (cellsP p r) (cells_I hgood hcl hcc) (by omega)
 rw[hc0] at hD
 have hL:=linkProgram_any p hpi hfew
 generalize cellsP p r=cs at *
 generalize dataL p cs=d at *
 generalize linkI p=m at *
 generalize linkE p=e at *
 refine enter hT hF hM Tryz.func4 rfl 41 rfl (by kernel_rfl) [.tmp 4,.cell 5 28,.tmp 6,.tmp 7,.tmp 8] rfl [.g (.sl 4 (l.map Raw.g)),.agg r.d] rfl _ ?_
 refine callIs (.inl rfl) hPr ?_
 refine callIs (.inl rfl) hC ?_
 refine callIs (.inl rfl) hL ?_
 refine callIs (.inl rfl) hD ?_
 refine ⟨none,rfl,?_⟩
 refine ⟨fun g1=>?_,fun g1=>?_⟩
 ·exact ⟨rfl,retIs (.inr (.inr ⟨lk rfl,lk rfl,lk rfl,lk rfl,lkP ⟨fun _=>g1,fun _=>rfl⟩,trivial⟩))⟩
 ·exact ⟨rfl,retIs (.inr (.inr ⟨lk rfl,lk rfl,lk rfl,lk rfl,lkBP ⟨fun h=>absurd h (by decide),fun h=>absurd h g1⟩,trivial⟩))⟩
end Go.Proofs.YtijdegmamdhcbaaGreatDoor
