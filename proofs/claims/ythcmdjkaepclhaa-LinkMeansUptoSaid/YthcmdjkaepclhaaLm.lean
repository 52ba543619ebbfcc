import Derived.Test.YthcmdjkaepclhaaQc
import Derived.Test.YthcmdjkaepclhaaWq
import Derived.Test.YthcmdjkaepclhaaFm
import Derived.Test.YthcmdjkaepclhaaRo
import Derived.Test.YthcmdjkaepclhaaFk
namespace Barb
open Go Go.Dm Go.Eng Go.Proofs.Ythcmdjkaepclhaa
def openK (l:List Fun) (k:Nat):Nat:=(openN (l.take k)).toNat
theorem openK_step (l:List Fun) (k:Nat) (hk:k < l.length):openK l (k+1)=openK l k+if l[k].isOpen then 1 else 0:=by
 unfold openK
 have h:=openN_one l k hk
 have h0:=(openN_le (l.take k)).1
 rw[h]
 split<;>omega
theorem ents_len:∀ (l:List Fun) (a:List Int),l.length<=a.length->(entsL l a).length=openK l l.length
 | [],_,_=>by simp[entsL,openK,openN]
 | f :: l,[],h=>by simp at h
 | f :: l,x :: a,h=>by
  have ih:=ents_len l a (by simpa using h)
  unfold openK at ih ⊢
  rw[List.take_length] at ih ⊢
  have h0:=(openN_le l).1
  unfold entsL
  have e:openN (f :: l)=openN l+if f.isOpen then 1 else 0:=by
   unfold openN
   rw[List.filter_cons]
   split<;>simp
  rw[e]
  split
  ·rw[List.length_cons,ih];omega
  ·rw[ih];omega
theorem openK_le (l:List Fun) (k:Nat):openK l k<=l.length:=by
 unfold openK
 have h:=openN_le (l.take k)
 have h2:(l.take k).length<=l.length:=by rw[List.length_take];omega
 omega
end Barb
namespace Go.Proofs.Ythcmdjkaepclhaa
open Go Go.Dm Go.Eng Go.RowKit Barb
theorem entryOf_any (u:Barb.Unit) (hf:u.funcs.length<=1000) (k:Nat) (hk:k<=u.funcs.length):CT Try.prog [] 27 [.agg u.d,.g (.int (k:Int))] (Is (.g (.int ((openK u.funcs k:Nat):Int)))):=by
 refine enter hT hF hM Try.func27 rfl 21 rfl (by kernel_rfl) [.tmp 4] rfl [.agg u.d,.g (.int (k:Int))] rfl _ ?_
 refine loopR (ι:=Nat) (fun i=>[(6,.g (.int (i:Int))),(5,.g (.int ((openK u.funcs i:Nat):Int))),(2,.ptr 0 0)]) (fun _=>[.blk u.d 36]) (fun i=>i<=k) (fun i=>k - i)
  ⟨0,[.old 0],⟨rfl,.inl rfl,.inr ⟨lk rfl,lkI (by simp[openK,openN]),lk rfl,trivial⟩,rfl⟩,Nat.zero_le _⟩ ?_
 intro Rd hRd i hi
 refine ⟨fun h=>?_,fun h=>?_⟩
 ·have hik:i < k:=by omega
  have hl:i < u.funcs.length:=by omega
  have hs:=openK_step u.funcs i hl
  have ho:=openK_le u.funcs i
  refine ⟨i,_,rfl,fnG hl,?_⟩
  revert hs
  cases hb:u.funcs[i].isOpen with
  | true =>
   intro hs
   refine ⟨_,I64.wrap (by unfold I64;omega),?_⟩
   refine ⟨_,I64.wrap (by unfold I64;omega),?_⟩
   exact hRd _ _ _ ⟨i+1,[.old 0],⟨rfl,.inl rfl,.inr ⟨lk rfl,lkI (by rw[hs];rfl),lk rfl,trivial⟩,rfl⟩,hik,by omega⟩
  | false =>
   intro hs
   refine ⟨_,I64.wrap (by unfold I64;omega),?_⟩
   exact hRd _ _ _ ⟨i+1,[.old 0],⟨rfl,.inl rfl,.inr ⟨lk rfl,lkI (by rw[hs];rfl),lk rfl,trivial⟩,rfl⟩,hik,by omega⟩
 ·have hie:i=k:=by omega
  exact ⟨rfl,retI (by rw[hie])⟩
structure PartsOf (p:List Barb.Unit) (m:Image):Prop where
 ok:imgE m=0
 i:m.I
 len:m.length=p.length
 words:∀ k (h:k < p.length) (h':k < m.length),0<=m[k].lo/\m[k].hi=m[k].lo+unitWords p[k]/\m[k].lo<=250
 ents:∀ k (h:k < p.length) (h':k < m.length),∃ a,a.length=p[k].funcs.length/\m[k].entries=entsL p[k].funcs a
set_option maxRecDepth 20000 in
theorem parts_any (p:List Barb.Unit) (hg:progE p=0) (m:Image) (hm:PartsOf p m):CT Try.prog [] 10 [.g (.sl 4 (p.map Unit.g)),.agg (imgD m)] (Is (.g (.bool true))):=by
 have hIF:=ImageFault_any m hm.i
 rw[hm.ok] at hIF
 obtain ⟨h5,hU,_,_⟩:=progE_inv hg
 have lp:(p.map Unit.g).length=p.length:=List.length_map _
 have lm:(m.map Part.g).length=p.length:=by rw[List.length_map];exact hm.len
 refine enter hT hF hM Try.func10 rfl 93 rfl (by kernel_rfl) [.tmp 4] rfl [.g (.sl 4 (p.map Unit.g)),.agg (imgD m)] rfl _ ?_
 refine callIs (.inl rfl) hIF ?_
 refine ⟨fun x=>absurd rfl x,fun _=>?_⟩
 refine ⟨fun x=>absurd (by rw[lm,lp]) x,fun _=>?_⟩
 refine loopR (ι:=Nat) (fun i=>[(5,.g (.int (i:Int))),(3,.ptr 0 0)]) (fun _=>[.blk (imgD m) 40]) (fun i=>i<=p.length) (fun i=>p.length - i)
  ⟨0,[.old 0],⟨rfl,.inl rfl,.inr ⟨lk rfl,lk rfl,trivial⟩,rfl⟩,Nat.zero_le _⟩ ?_
 intro Rd hRd i hi
 refine ⟨fun c1=>?_,fun c1=>⟨rfl,retIs (.inl rfl)⟩⟩
 have hil:i < p.length:=by omega
 have him:i < m.length:=by rw[hm.len];exact hil
 obtain ⟨_,u1,u2,u3,_,u6,u7⟩:=unitE_inv (hU _ (List.getElem_mem hil))
 have hsz:∀ a∈p[i].arrays,1<=a.size/\a.size<=10:=fun a ha=>(arrE_inv (u6 a ha)).2
 have hW:=UnitWords_any p[i] u1 hsz u2
 have hw40:=unitWords_good (hU _ (List.getElem_mem hil))
 obtain ⟨w1,w2,w3⟩:=hm.words i hil him
 obtain ⟨a,ha,hen⟩:=hm.ents i hil him
 have lf:(p[i].funcs.map Fun.g).length=p[i].funcs.length:=List.length_map _
 have lenE:(m[i].entries.map Entry.g).length=openK p[i].funcs p[i].funcs.length:=by rw[List.length_map,hen,ents_len _ _ (by omega)]
 refine ⟨i,_,rfl,gm him,?_⟩
 refine ⟨none,rfl,?_⟩
 refine ⟨i,_,rfl,gm hil,?_⟩
 refine ⟨_,_,.inl rfl,hW,rfl,?_⟩
 refine ⟨_,I64.wrap (by unfold I64;omega),?_⟩
 refine ⟨fun x=>absurd w2 x,fun _=>?_⟩
 refine loopR (ι:=Nat) (fun j=>[(5,.g (.int (i:Int))),(3,.ptr 0 0),(6,.ptr 1 0),(8,.g (.int (j:Int))),(7,.g (.int ((openK p[i].funcs j:Nat):Int)))]) (fun _=>[.blk (imgD m) 40,.blk (m[i].g.map .g) 43]) (fun j=>j<=p[i].funcs.length) (fun j=>p[i].funcs.length - j)
  ⟨0,[.old 0,.old 1],⟨rfl,.inl rfl,.inr ⟨lk rfl,lk rfl,lk rfl,lk rfl,lkI (by simp[openK,openN]),trivial⟩,rfl⟩,Nat.zero_le _⟩ ?_
 intro Rj hRj j hj
 refine ⟨i,_,rfl,gm hil,?_⟩
 refine ⟨fun d1=>?_,fun d1=>?_⟩
 ·have hjl:j < p[i].funcs.length:=by omega
  have hs:=openK_step p[i].funcs j hjl
  have hle:=openK_le p[i].funcs j
  refine ⟨i,_,rfl,gm hil,?_⟩
  refine ⟨j,_,rfl,fnG hjl,?_⟩
  revert hs
  cases hb:p[i].funcs[j].isOpen with
  | false =>
   intro hs
   refine ⟨_,I64.wrap (by unfold I64;omega),?_⟩
   exact hRj _ _ _ ⟨j+1,[.old 0,.old 1],⟨rfl,.inl rfl,.inr ⟨lk rfl,lk rfl,lk rfl,lk rfl,lkI (by rw[hs];rfl),trivial⟩,rfl⟩,hjl,by omega⟩
  | true =>
   intro hs
   have hja:j < a.length:=by omega
   have hea:=ents_at p[i].funcs a j hjl hja hb
   have hel:openK p[i].funcs j < m[i].entries.length:=by rw[hen];exact (List.getElem?_eq_some_iff.1 hea).1
   have hge:(m[i].entries.map Entry.g)[openK p[i].funcs j]?=some [.int a[j],.int (p[i].funcs[j].params.length:Int)]:=by
    rw[List.getElem?_map,hen]
    unfold openK
    rw[hea];rfl
   have lpa:(p[i].funcs[j].params.map strG).length=p[i].funcs[j].params.length:=List.length_map _
   have hle2:(m[i].entries.map Entry.g).length=m[i].entries.length:=List.length_map _
   refine ⟨none,rfl,?_⟩
   refine ⟨fun x=>absurd (show ((m[i].entries.map Entry.g).length:Int)<=((openK p[i].funcs j:Nat):Int) from x) (by omega),fun _=>?_⟩
   refine ⟨openK p[i].funcs j,_,rfl,hge,?_⟩
   refine ⟨i,_,rfl,gm hil,?_⟩
   refine ⟨j,_,rfl,fnG hjl,?_⟩
   refine ⟨fun x=>absurd (by show ((p[i].funcs[j].params.length:Nat):Int)=((p[i].funcs[j].params.map strG).length:Nat);rw[lpa]) x,fun _=>?_⟩
   refine ⟨_,I64.wrap (by unfold I64;omega),?_⟩
   refine ⟨_,I64.wrap (by unfold I64;omega),?_⟩
   exact hRj _ _ _ ⟨j+1,[.old 0,.old 1],⟨rfl,.inl rfl,.inr ⟨lk rfl,lk rfl,lk rfl,lk rfl,lkI (by rw[hs];rfl),trivial⟩,rfl⟩,hjl,by omega⟩
 ·have hje:j=p[i].funcs.length:=by omega
  refine ⟨fun x=>absurd (by rw[hje];show ((openK p[i].funcs p[i].funcs.length:Nat):Int)=((m[i].entries.map Entry.g).length:Nat);rw[lenE]) x,fun _=>?_⟩
  refine ⟨_,I64.wrap (by unfold I64;omega),?_⟩
  exact hRd _ _ _ ⟨i+1,[.old 0],⟨rfl,.inl rfl,.inr ⟨lk rfl,lk rfl,trivial⟩,rfl⟩,hil,by omega⟩
def RunsAs (p:List Barb.Unit) (m:Image):Prop:=∀ (u k:Nat) (args:List Int) (f:Nat) (cs:List Cells),(hu:u < p.length)->(hk:k < p[u].funcs.length)->p[u].funcs[k].isOpen=true->args.length=p[u].funcs[k].params.length->wds args->SI p ⟨f,[],cs⟩->(callF p (evS p f) u k args 0 ⟨f,[],cs⟩).code≠3 ->
 ∃ at_:Int,(Barb.partAt m u).entries[openK p[u].funcs k]?=some ⟨at_,(p[u].funcs[k].params.length:Int)⟩/\∀ n,(iterS m n ⟨[],flatN cs,[]⟩ [⟨(u:Int),at_,p8 args,[],-1⟩]).1=3\/∃ calls,iterS m n ⟨[],flatN cs,[]⟩ [⟨(u:Int),at_,p8 args,[],-1⟩]=((callF p (evS p f) u k args 0 ⟨f,[],cs⟩).code,(callF p (evS p f) u k args 0 ⟨f,[],cs⟩).val,⟨(callF p (evS p f) u k args 0 ⟨f,[],cs⟩).st.told,flatN (callF p (evS p f) u k args 0 ⟨f,[],cs⟩).st.cells,calls⟩)
set_option maxRecDepth 20000 in
theorem runs_any (p:List Barb.Unit) (hpI:progI p) (hg:progE p=0) (m:Image) (hm:PartsOf p m) (hw:imgWords m=progWords p) (hR:RunsAs p m) (cs:List Cells) (hI:∀ c∈cs,Cells.I c) (hl:cs.length*48<=140737488351232) (hc:cellsE p cs=0) (u k:Nat) (hu:u < p.length) (hk:k < p[u].funcs.length) (args:List Int) (hal:args.length*8<=140737488351232) :
  CT Try.prog [] 12 [.g (.sl 4 (p.map Unit.g)),.agg (imgD m),.g (.sl 2 (cs.map Cells.g)),.g (.int (u:Int)),.g (.int (k:Int)),.g (.sl 1 (args.map intG))] (Is (.g (.bool true))):=by
 have A:List D:=[.g (.sl 4 (p.map Unit.g)),.agg (imgD m),.g (.sl 2 (cs.map Cells.g)),.g (.int (u:Int)),.g (.int (k:Int)),.g (.sl 1 (args.map intG))]
 clear A
 have hP:=PI.of hg
 obtain ⟨_,hlen,hcok⟩:=cellsE_ok hc
 cases hop:p[u].funcs[k].isOpen with
 | false =>
  have hfg:(p[u].funcs.map Fun.g)[k]?=some [.str p[u].funcs[k].name,.bool false,.sl 1 (p[u].funcs[k].params.map strG),.sl 5 (p[u].funcs[k].body.map Stmt.g)]:=by rw[<- hop];exact fnG hk
  refine enter hT hF hM Try.func12 rfl 121 rfl (by kernel_rfl) [.tmp 12] rfl [.g (.sl 4 (p.map Unit.g)),.agg (imgD m),.g (.sl 2 (cs.map Cells.g)),.g (.int (u:Int)),.g (.int (k:Int)),.g (.sl 1 (args.map intG))] rfl _ ?_
  refine ⟨u,_,rfl,gm hu,?_⟩
  refine ⟨k,_,rfl,hfg,?_⟩
  exact ⟨rfl,retIs (.inl rfl)⟩
 | true =>
 have hfg:(p[u].funcs.map Fun.g)[k]?=some [.str p[u].funcs[k].name,.bool true,.sl 1 (p[u].funcs[k].params.map strG),.sl 5 (p[u].funcs[k].body.map Stmt.g)]:=by rw[<- hop];exact fnG hk
 rcases call_cases p cs p[u].name p[u].funcs[k].name args 0 3000 with ⟨e,hb⟩ | ⟨u',k',d,f,hmy⟩
 ·have he:=callBad_ne hb
  have c1:=CalledOf_bad p hpI cs hI hl p[u].name p[u].funcs[k].name args (by omega) 0 3000 e hb
  refine enter hT hF hM Try.func12 rfl 121 rfl (by kernel_rfl) [.tmp 12] rfl [.g (.sl 4 (p.map Unit.g)),.agg (imgD m),.g (.sl 2 (cs.map Cells.g)),.g (.int (u:Int)),.g (.int (k:Int)),.g (.sl 1 (args.map intG))] rfl _ ?_
  refine ⟨u,_,rfl,gm hu,?_⟩
  refine ⟨k,_,rfl,hfg,?_⟩
  refine ⟨none,rfl,?_⟩
  refine ⟨u,_,rfl,gm hu,?_⟩
  refine ⟨u,_,rfl,gm hu,?_⟩
  refine ⟨k,_,rfl,hfg,?_⟩
  refine ⟨_,_,.inl rfl,c1,rfl,?_⟩
  exact ⟨fun _=>⟨rfl,retIs (.inl rfl)⟩,fun h=>absurd h he⟩
 ·have hue:u'=u:=by have:=hmy.hun;rw[unit_once hg hu] at this;omega
  subst hue
  have hae:uAt p u'=p[u']:=uAt_eq hu
  have hke:k'=k:=by have:=hmy.hfn;rw[hae,fun_once hg hu hk] at this;omega
  subst hke
  obtain ⟨hdd,_⟩:=hmy.hd
  obtain ⟨hff,_⟩:=hmy.hf
  have hd0:d=0:=by omega
  have hf3:f=3000:=by omega
  subst hd0;subst hf3
  have hargs:args.length=p[u'].funcs[k'].params.length:=by
   have:=hmy.ha
   rw[hae] at this
   rw[this];simp[hk]
  have c1:=CalledOf_any p hpI cs hI hl hmy.ok p[u'].name p[u'].funcs[k'].name u' k' hu hmy.hun hmy.hi hmy.hfn args hmy.ha hmy.hw 0 3000 (by decide) (by decide)
  have hs:SI p ⟨3000,[],cs⟩:=⟨hlen,hcok,Nat.zero_le _,fun _ h=>by simp at h⟩
  have B:=(callF_I hP (evP_I hP 3000).2 hu hmy.hi hmy.ha hmy.hw 0 hs).rb
  have hrun:=hR u' k' args 3000 cs hu hk hop hargs hmy.hw hs
  rw[callD_eq] at c1
  unfold callR ansD at c1
  generalize callF p (evS p 3000) u' k' args 0 ⟨3000,[],cs⟩=R at *
  have hrI:=cells_I hg B.si.len B.si.ok
  have htold:=B.si.told
  have hlc:=B.si.len
  have hfew:=hP.few
  have hdl:dataL p cs=flatN cs:=by unfold dataL;rw[if_pos hc]
  have hc2:cellsE p R.st.cells=0:=cellsE_yes hg B.si.len B.si.ok
  have hdl2:dataL p R.st.cells=flatN R.st.cells:=by unfold dataL;rw[if_pos hc2]
  have D1:=DataOf_any p hpI cs hI hl
  have D2:=DataOf_any p hpI R.st.cells hrI (by omega)
  rw[hc,hdl] at D1
  rw[hc2,hdl2] at D2
  have hfl:=flatN_words p cs hlen hcok
  have hfl2:=flatN_words p R.st.cells B.si.len B.si.ok
  have hpw:=(progE_inv hg).2.2.1
  obtain ⟨_,u1,u2,u3,_,_,u7⟩:=unitE_inv (hP.unit _ (List.getElem_mem hu))
  have hEn:=entryOf_any p[u'] (by omega) k' (by omega)
  have hRun:=RunOf_any m hm.i (flatN cs) (by omega) u' (openK p[u'].funcs k') args 100000
  by_cases h3:R.code=3
  ·refine enter hT hF hM Try.func12 rfl 121 rfl (by kernel_rfl) [.tmp 12] rfl [.g (.sl 4 (p.map Unit.g)),.agg (imgD m),.g (.sl 2 (cs.map Cells.g)),.g (.int (u':Int)),.g (.int (k':Int)),.g (.sl 1 (args.map intG))] rfl _ ?_
   refine ⟨u',_,rfl,gm hu,?_⟩
   refine ⟨k',_,rfl,hfg,?_⟩
   refine ⟨none,rfl,?_⟩
   refine ⟨u',_,rfl,gm hu,?_⟩
   refine ⟨u',_,rfl,gm hu,?_⟩
   refine ⟨k',_,rfl,hfg,?_⟩
   refine ⟨_,_,.inl rfl,c1,rfl,?_⟩
   refine ⟨fun h=>absurd rfl h,fun _=>?_⟩
   exact ⟨fun _=>⟨rfl,retIs (.inl rfl)⟩,fun h=>absurd h3 h⟩
  obtain ⟨at_,hent,hfin⟩:=hrun h3
  have hml:=hm.len
  have hea:entAt m (u':Int) ((openK p[u'].funcs k':Nat):Int)=⟨at_,(p[u'].funcs[k'].params.length:Int)⟩:=by
   unfold entAt
   rw[Int.toNat_natCast,List.getD_eq_getElem?_getD,hent];rfl
  have hel:openK p[u'].funcs k' < (Barb.partAt m (u':Int)).entries.length:=(List.getElem?_eq_some_iff.1 hent).1
  have hdE:dataE m (flatN cs)=0:=by
   unfold dataE
   rw[if_neg (fun x=>x hm.ok),if_neg (fun x=>x (by rw[hw];exact hfl))]
   exact firstE_zero (fun x hx=>by unfold wordE;rw[if_pos (flatN_word hlen hcok x hx)])
  have hrE:runE m (flatN cs) (u':Int) ((openK p[u'].funcs k':Nat):Int) args 100000=0:=by
   unfold runE
   rw[if_neg (fun x=>x hdE),if_neg (by omega),if_neg (by rw[hea];show ¬(args.length:Int)≠(p[u'].funcs[k'].params.length:Int);omega),if_neg ?_]
   rintro (h | h | ⟨n,h1,h2⟩)
   ·omega
   ·omega
   ·exact h2 (hmy.hw n h1)
  have hrV:runV m (flatN cs) (u':Int) ((openK p[u'].funcs k':Nat):Int) args 100000=outOf (iterS m 100000 ⟨[],flatN cs,[]⟩ [⟨(u':Int),at_,p8 args,[],-1⟩]):=by
   unfold runV
   rw[if_pos hrE,hea]
   rfl
  rw[hrE,hrV] at hRun
  have hfin2:=hfin 100000
  clear hfin hrV hrE hrun
  generalize iterS m 100000 ⟨[],flatN cs,[]⟩ [⟨(u':Int),at_,p8 args,[],-1⟩]=F at hRun hfin2
  have hS1:=sameInts_any R.st.told R.st.told (by omega)
  have hS2:=sameInts_any (flatN R.st.cells) (flatN R.st.cells) (by omega)
  rcases hfin2 with hfi | ⟨calls,hfi⟩
  ·refine enter hT hF hM Try.func12 rfl 121 rfl (by kernel_rfl) [.tmp 12] rfl [.g (.sl 4 (p.map Unit.g)),.agg (imgD m),.g (.sl 2 (cs.map Cells.g)),.g (.int (u':Int)),.g (.int (k':Int)),.g (.sl 1 (args.map intG))] rfl _ ?_
   refine ⟨u',_,rfl,gm hu,?_⟩
   refine ⟨k',_,rfl,hfg,?_⟩
   refine ⟨none,rfl,?_⟩
   refine ⟨u',_,rfl,gm hu,?_⟩
   refine ⟨u',_,rfl,gm hu,?_⟩
   refine ⟨k',_,rfl,hfg,?_⟩
   refine ⟨_,_,.inl rfl,c1,rfl,?_⟩
   refine ⟨fun h=>absurd rfl h,fun _=>?_⟩
   refine ⟨fun h=>absurd h h3,fun _=>?_⟩
   refine callIs (.inl rfl) D1 ?_
   refine ⟨none,rfl,?_⟩
   refine ⟨u',_,rfl,gm hu,?_⟩
   refine ⟨_,_,.inl rfl,hEn,rfl,?_⟩
   refine ⟨_,_,.inl rfl,hRun,rfl,?_⟩
   refine ⟨fun h=>absurd rfl h,fun _=>?_⟩
   refine ⟨fun h=>absurd rfl h,fun _=>?_⟩
   exact ⟨fun _=>⟨rfl,retIs (.inl rfl)⟩,fun h=>absurd hfi h⟩
  ·subst hfi
   refine enter hT hF hM Try.func12 rfl 121 rfl (by kernel_rfl) [.tmp 12] rfl [.g (.sl 4 (p.map Unit.g)),.agg (imgD m),.g (.sl 2 (cs.map Cells.g)),.g (.int (u':Int)),.g (.int (k':Int)),.g (.sl 1 (args.map intG))] rfl _ ?_
   refine ⟨u',_,rfl,gm hu,?_⟩
   refine ⟨k',_,rfl,hfg,?_⟩
   refine ⟨none,rfl,?_⟩
   refine ⟨u',_,rfl,gm hu,?_⟩
   refine ⟨u',_,rfl,gm hu,?_⟩
   refine ⟨k',_,rfl,hfg,?_⟩
   refine ⟨_,_,.inl rfl,c1,rfl,?_⟩
   refine ⟨fun h=>absurd rfl h,fun _=>?_⟩
   refine ⟨fun h=>absurd h h3,fun _=>?_⟩
   refine callIs (.inl rfl) D1 ?_
   refine ⟨none,rfl,?_⟩
   refine ⟨u',_,rfl,gm hu,?_⟩
   refine ⟨_,_,.inl rfl,hEn,rfl,?_⟩
   refine ⟨_,_,.inl rfl,hRun,rfl,?_⟩
   refine ⟨fun h=>absurd rfl h,fun _=>?_⟩
   refine ⟨fun h=>absurd rfl h,fun _=>?_⟩
   refine ⟨fun h=>absurd h h3,fun _=>?_⟩
   refine callIs (.inl rfl) D2 ?_
   refine ⟨fun _=>?_,fun h=>absurd rfl h⟩
   refine ⟨fun _=>?_,fun h=>absurd rfl h⟩
   refine callIs (.inl rfl) hS1 ?_
   refine ⟨fun _=>?_,fun h=>absurd rfl h⟩
   refine callIs (.inl rfl) hS2 ?_
   exact ⟨rfl,retYes rfl⟩
end Go.Proofs.Ythcmdjkaepclhaa
