import Derived.Test.YthcmdjkaepclhaaJLinkMeans
import Derived.Test.YthcmdjkaepclhaaLm
namespace Barb
open Go Go.Dm Go.Eng Go.Proofs.Ythcmdjkaepclhaa
theorem Sim.same {r r':RR Int} (h:Sim r r') (h3:r.code≠3):r'.code=r.code/\r'.val=r.val/\r'.st.told=r.st.told/\r'.st.cells=r.st.cells:=by
 cases r with
 | ok n s =>
  obtain ⟨s',hl,rfl⟩:=h
  exact ⟨rfl,rfl,hl.told,hl.cells⟩
 | stop e s =>
  rcases h with h | ⟨s',hl,rfl⟩
  ·exact absurd h h3
  ·exact ⟨rfl,rfl,hl.told,hl.cells⟩
theorem cells_fold {p:List Unit} {cs:List Cells} (h:cellsOk p cs):cellsOk (foldP p) cs:=fun i h1 h2=>by
 have h3:i < p.length:=by rw[<- foldP_len p];exact h2
 have:=h i h1 h3
 have e:(foldP p)[i]=foldU p[i]:=by simp[foldP]
 rw[e]
 exact this
theorem openN_fold (l:List Fun):openN (l.map foldF)=openN l:=by
 unfold openN
 rw[List.filter_map,List.length_map]
 rfl
theorem entsL_fold:∀ (l:List Fun) (a:List Int),entsL (l.map foldF) a=entsL l a
 | [],_=>by simp[entsL]
 | f :: l,[]=>by simp[entsL]
 | f :: l,x :: a=>by
  simp only[List.map_cons,entsL]
  rw[entsL_fold l a]
  rfl
theorem at_fold {p:List Unit} {k:Nat} (h:k < (foldP p).length) (h':k < p.length):(foldP p)[k]=foldU p[k]:=by simp[foldP]
theorem link_parts {p:List Unit} (hg:progE p=0) (hN:fewP p) (h:linkE p=0):PartsOf p (linkI p)/\imgWords (linkI p)=progWords p/\RunsAs p (linkI p):=by
 obtain ⟨l1,l2,l3,l4⟩:=linkI_good hg hN h
 obtain ⟨hq,hqN⟩:=foldP_good hg hN
 have h1:linkE1 (foldP p)=0:=by unfold linkE at h;rw[if_neg (fun h'=>h' hg)] at h;exact h
 have hql:=foldP_len p
 have e:linkI p=lparts (foldP p) (foldP p).length:=by unfold linkI;rw[if_pos h,hql]
 have hImg:=img_of hq h1
 refine ⟨⟨l1,l2,l4,fun k hk hk'=>?_,fun k hk hk'=>?_⟩,l3,?_⟩
 ·have hkq:k < (foldP p).length:=by omega
  obtain ⟨b1,b2,_⟩:=base_rng hq hkq
  have ek:(linkI p)[k]=lpart (foldP p) k:=by
   have hl:k < (lparts (foldP p) (foldP p).length).length:=by rw[lparts_len];exact hkq
   have:=lparts_at (foldP p) (foldP p).length k hl
   simp only[e]
   exact this
  rw[ek]
  have ew:unitWords (foldP p)[k]=unitWords p[k]:=by rw[at_fold hkq hk];rfl
  have w0:=(unitWords_good ((progE_inv hg).2.1 _ (List.getElem_mem hk))).1
  refine ⟨b1,?_,?_⟩
  ·show baseAt (foldP p) (k+1)=baseAt (foldP p) k+unitWords p[k]
   rw[baseAt_succ hkq,ew]
  ·show baseAt (foldP p) k<=250
   omega
 ·have hkq:k < (foldP p).length:=by omega
  have ek:(linkI p)[k]=lpart (foldP p) k:=by
   have hl:k < (lparts (foldP p) (foldP p).length).length:=by rw[lparts_len];exact hkq
   have:=lparts_at (foldP p) (foldP p).length k hl
   simp only[e]
   exact this
  have h0:=link_all h1 hkq
  refine ⟨genA (foldP p) k (baseAt (foldP p) k),?_,?_⟩
  ·rw[genA_len hkq h0,at_fold hkq hk]
   show (p[k].funcs.map foldF).length=_
   rw[List.length_map]
  ·rw[ek]
   show entsL ((foldP p).getD k noU).funcs _=_
   rw[show (foldP p).getD k noU=foldU p[k] from by rw[<- at_fold hkq hk];simp[hkq]]
   exact entsL_fold _ _
 ·intro u k args f cs hu hk hop hal hw hs hne
  have huq:u < (foldP p).length:=by omega
  have hae:uAt p u=p[u]:=uAt_eq hu
  have haq:uAt (foldP p) u=foldU p[u]:=by rw[uAt_fold,hae]
  have hkq:k < (uAt (foldP p) u).funcs.length:=by
   rw[haq]
   show k < (p[u].funcs.map foldF).length
   rw[List.length_map];exact hk
  have hfn:(p[u].funcs.getD k noF).params.length=p[u].funcs[k].params.length:=by simp[hk]
  have hsq:SI (foldP p) ⟨f,[],cs⟩:=⟨by rw[hql];exact hs.len,cells_fold hs.ok,hs.told,hs.toldW⟩
  have hkp:k < (uAt p u).funcs.length:=by rw[hae];exact hk
  have halp:args.length=((uAt p u).funcs.getD k noF).params.length:=by rw[hae,hfn];exact hal
  have halq:args.length=((uAt (foldP p) u).funcs.getD k noF).params.length:=by
   rw[uAt_fold,fn_fold];exact halp
  obtain ⟨i,hi,_⟩:=fun_at (foldP p) (uAt (foldP p) u) (baseAt (foldP p) u) k hkq
  have S:=Sim.same (fold_call (PI.of hg) f hu hkp halp hw 0 hs) hne
  obtain ⟨s1,s2,s3,s4⟩:=S
  have R:=run_call hImg [] huq hkq halq hw hsq hi (by rw[s1];exact hne)
  rw[<- e] at R
  rw[s1,s2,s3,s4] at R
  simp only[List.append_nil] at R
  refine ⟨(i:Int),?_,R⟩
  have hents:=hImg.ents u huq
  rw[<- e] at hents
  have hal2:k < (atO (foldP p) u).length:=(List.getElem?_eq_some_iff.1 hi).1
  have hai:(atO (foldP p) u)[k]=(i:Int):=(List.getElem?_eq_some_iff.1 hi).2
  have hfo:((foldP p)[u].funcs)[k]'(by rw[at_fold huq hu];show k < (p[u].funcs.map foldF).length;rw[List.length_map];exact hk)=foldF p[u].funcs[k]:=by
   simp only[at_fold huq hu,foldU,List.getElem_map]
  have hea:=ents_at (foldP p)[u].funcs (atO (foldP p) u) k (by rw[at_fold huq hu];show k < (p[u].funcs.map foldF).length;rw[List.length_map];exact hk) hal2 (by rw[hfo];exact hop)
  have hpa:Barb.partAt (linkI p) (u:Int)=(linkI p).getD u noPart:=rfl
  rw[hpa,hents]
  have ho:openK p[u].funcs k=(openN ((foldP p)[u].funcs.take k)).toNat:=by
   unfold openK
   rw[at_fold huq hu]
   show _=(openN ((p[u].funcs.map foldF).take k)).toNat
   rw[<- List.map_take,openN_fold]
  have hat:atsG (foldP p) (foldP p)[u] (baseAt (foldP p) u) (foldP p)[u].funcs ⟨[],[],0,0⟩=atO (foldP p) u:=by unfold atO;rw[uAt_eq huq]
  rw[ho,hat,hea,hai,hfo]
  rfl
end Barb
namespace Go.Proofs.Ythcmdjkaepclhaa
open Go Go.Dm Go.Eng Go.RowKit Go.ChangeShapes Go.WideShapes Go.ChangeAt Barb
theorem foldProgram_no (p:List Barb.Unit) (hp:progI p) (h:progE p≠0):CT Try.prog [] 29 [.g (.sl 4 (p.map Unit.g))] (Is (.tuple [.g (.sl 4 []),.g (.int (progE p))])):=by
 refine enter hT hF hM Try.func29 rfl 61 rfl (by kernel_rfl) [.tmp 2,.tmp 3] rfl [.g (.sl 4 (p.map Unit.g))] rfl _ ?_
 refine callIs (.inl rfl) (NamesCheck_any p hp) ?_
 exact ⟨fun h=>⟨rfl,retNE rfl rfl⟩,fun h'=>absurd h' h⟩
theorem linkProgram_no (p:List Barb.Unit) (hp:progI p) (h:progE p≠0):CT Try.prog [] 13 [.g (.sl 4 (p.map Unit.g))] (Is (.tuple [.agg (imgD []),.g (.int (progE p))])):=by
 refine enter hT hF hM Try.func13 rfl 86 rfl (by kernel_rfl) [.cell 2 40,.tmp 3] rfl [.g (.sl 4 (p.map Unit.g))] rfl _ ?_
 refine callIs (.inl rfl) (foldProgram_no p hp h) ?_
 exact ⟨fun h=>⟨rfl,retIs (.inr (.inr ⟨.inr ⟨lkNil,trivial⟩,lk rfl,trivial⟩))⟩,fun h'=>absurd h' h⟩
set_option maxRecDepth 20000 in
theorem LinkMeans_walk (p:List Barb.Unit) (hp:∀ u∈p,Barb.Unit.I u) (hpl:p.length*88<=140737488351232) (hcnt:cntP p<=1048576) (cs:List Cells) (hI:∀ c∈cs,Cells.I c) (hl:cs.length*48<=140737488351232) (u:Int) (_:I64 u) (f:Int) (_:I64 f) (args:List Int) (_:∀ x∈args,I64 x) (hal:args.length*8<=140737488351232) :
  CT Try.prog [] 4 [.g (.sl 4 (p.map Unit.g)),.g (.sl 2 (cs.map Cells.g)),.g (.int u),.g (.int f),.g (.sl 1 (args.map intG))] (Is (.g (.bool true))):=by
 have hpI:progI p:=⟨hp,by omega⟩
 have hP:=ProgramFault_any p hpI
 by_cases hg:progE p=0
 rotate_left
 ·have h0:=linkProgram_no p hpI hg
  refine enter hT hF hM Try.func4 rfl 88 rfl (by kernel_rfl) [.tmp 10] rfl [.g (.sl 4 (p.map Unit.g)),.g (.sl 2 (cs.map Cells.g)),.g (.int u),.g (.int f),.g (.sl 1 (args.map intG))] rfl _ ?_
  refine callIs (.inl rfl) h0 ?_
  refine callIs (.inl rfl) hP ?_
  refine ⟨fun _=>?_,fun h=>absurd h hg⟩
  exact ⟨fun _=>⟨rfl,retYes rfl⟩,fun h=>absurd rfl h⟩
 have hN:=few_of hg hcnt
 have h0:=linkProgram_any p hpI hN
 obtain ⟨h5,hU,_,_⟩:=progE_inv hg
 rw[hg] at hP
 have lp:(p.map Unit.g).length=p.length:=List.length_map _
 by_cases hE:linkE p=0
 rotate_left
 ·obtain ⟨hE1,hbig⟩:=link_many hg hN hE
  have hS:=SizeOf_any p (by omega) (fun v hv=>by have:=(unitE_inv (hU v hv)).2.2.2.1;omega) hcnt
  rw[hE1,show linkI p=[] from by unfold linkI;rw[if_neg hE]] at h0
  refine enter hT hF hM Try.func4 rfl 88 rfl (by kernel_rfl) [.tmp 10] rfl [.g (.sl 4 (p.map Unit.g)),.g (.sl 2 (cs.map Cells.g)),.g (.int u),.g (.int f),.g (.sl 1 (args.map intG))] rfl _ ?_
  refine callIs (.inl rfl) h0 ?_
  refine callIs (.inl rfl) hP ?_
  refine ⟨fun h=>absurd rfl h,fun _=>?_⟩
  refine ⟨fun _=>?_,fun h=>absurd h (by decide)⟩
  refine ⟨fun _=>?_,fun h=>absurd rfl h⟩
  refine callIs (.inl rfl) hS ?_
  refine ⟨fun _=>?_,fun h=>absurd (show (100:Int) < ((cntP p:Nat):Int) by omega) h⟩
  exact ⟨rfl,retYes rfl⟩
 obtain ⟨hMp,hW,hR⟩:=link_parts hg hN hE
 rw[hE] at h0
 have hPa:=parts_any p hg (linkI p) hMp
 have hCF:=CellsFault_any p hpI cs hI hl
 by_cases hc:cellsE p cs=0
 rotate_left
 ·refine enter hT hF hM Try.func4 rfl 88 rfl (by kernel_rfl) [.tmp 10] rfl [.g (.sl 4 (p.map Unit.g)),.g (.sl 2 (cs.map Cells.g)),.g (.int u),.g (.int f),.g (.sl 1 (args.map intG))] rfl _ ?_
  refine callIs (.inl rfl) h0 ?_
  refine callIs (.inl rfl) hP ?_
  refine ⟨fun h=>absurd rfl h,fun _=>?_⟩
  refine ⟨fun h=>absurd rfl h,fun _=>?_⟩
  refine callIs (.inl rfl) hPa ?_
  refine callIs (.inl rfl) hCF ?_
  exact ⟨fun _=>⟨rfl,retIs (.inl rfl)⟩,fun h=>absurd h hc⟩
 rw[hc] at hCF
 by_cases hr:(0<=u/\u < p.length)/\0<=f/\f < (uAt p u.toNat).funcs.length
 rotate_left
 ·refine enter hT hF hM Try.func4 rfl 88 rfl (by kernel_rfl) [.tmp 10] rfl [.g (.sl 4 (p.map Unit.g)),.g (.sl 2 (cs.map Cells.g)),.g (.int u),.g (.int f),.g (.sl 1 (args.map intG))] rfl _ ?_
  refine callIs (.inl rfl) h0 ?_
  refine callIs (.inl rfl) hP ?_
  refine ⟨fun h=>absurd rfl h,fun _=>?_⟩
  refine ⟨fun h=>absurd rfl h,fun _=>?_⟩
  refine callIs (.inl rfl) hPa ?_
  refine callIs (.inl rfl) hCF ?_
  refine ⟨fun h=>absurd rfl h,fun _=>?_⟩
  refine ⟨fun _=>⟨rfl,retIs (.inl rfl)⟩,fun h1=>?_⟩
  refine ⟨fun _=>⟨rfl,retIs (.inl rfl)⟩,fun h2=>?_⟩
  refine ⟨fun _=>⟨rfl,retIs (.inl rfl)⟩,fun h3=>?_⟩
  obtain ⟨k,rfl⟩:∃ k:Nat,u=(k:Int):=⟨u.toNat,by omega⟩
  have hk:k < p.length:=by omega
  refine ⟨k,_,rfl,gm hk,?_⟩
  have lf:(p[k].funcs.map Fun.g).length=p[k].funcs.length:=List.length_map _
  refine ⟨fun _=>⟨rfl,retIs (.inl rfl)⟩,fun h4=>absurd ⟨by omega,by omega,?_⟩ hr⟩
  rw[Int.toNat_natCast,uAt_eq hk]
  omega
 obtain ⟨⟨r1,r2⟩,r3,r4⟩:=hr
 obtain ⟨k,rfl⟩:∃ k:Nat,u=(k:Int):=⟨u.toNat,by omega⟩
 obtain ⟨m,rfl⟩:∃ m:Nat,f=(m:Int):=⟨f.toNat,by omega⟩
 have hk:k < p.length:=by omega
 rw[Int.toNat_natCast,uAt_eq hk] at r4
 have hm:m < p[k].funcs.length:=by omega
 have lf:(p[k].funcs.map Fun.g).length=p[k].funcs.length:=List.length_map _
 have hRun:=runs_any p hpI hg (linkI p) hMp hW hR cs hI hl hc k m hk hm args hal
 refine enter hT hF hM Try.func4 rfl 88 rfl (by kernel_rfl) [.tmp 10] rfl [.g (.sl 4 (p.map Unit.g)),.g (.sl 2 (cs.map Cells.g)),.g (.int (k:Int)),.g (.int (m:Int)),.g (.sl 1 (args.map intG))] rfl _ ?_
 refine callIs (.inl rfl) h0 ?_
 refine callIs (.inl rfl) hP ?_
 refine ⟨fun h=>absurd rfl h,fun _=>?_⟩
 refine ⟨fun h=>absurd rfl h,fun _=>?_⟩
 refine callIs (.inl rfl) hPa ?_
 refine callIs (.inl rfl) hCF ?_
 refine ⟨fun h=>absurd rfl h,fun _=>?_⟩
 refine ⟨fun h=>absurd h (by omega),fun _=>?_⟩
 refine ⟨fun h=>absurd h (by omega),fun _=>?_⟩
 refine ⟨fun h=>absurd h (by omega),fun _=>?_⟩
 refine ⟨k,_,rfl,gm hk,?_⟩
 refine ⟨fun h=>absurd h (by omega),fun _=>?_⟩
 refine callIs (.inl rfl) hRun ?_
 exact ⟨rfl,retIs (.inl rfl)⟩
set_option maxRecDepth 100000 in
theorem LinkMeans_lifted (os:Os) (started:os.Started) (H:Type) (enc:TypeId × Value->H) (F:Stop.Interp) :
  ReturnsInHanded {} Try.checked os 4 .any ((Rows.OpenSpec.upto Rows.linkMeansSpec).pre6 enc Try.prog Try.f4 Rows.linkMeansUptoRow.domain false) (((Rows.OpenSpec.upto Rows.linkMeansSpec).at F).post enc Try.prog Try.f4 false true false false):=by
 refine returnsInHanded_of_cond_sized (C:=Try.checked) (s:=Rows.OpenSpec.upto Rows.linkMeansSpec) (k:=Rows.uptoSmall) rfl own started (by kernel_rfl) Try.func4
  (OpenSpec.witness (enc:=enc) (C:=Try.checked) (s:=Rows.OpenSpec.upto Rows.linkMeansSpec) (k:=Rows.uptoSmall) rfl false ⟨#[],#[.slice none 0 0,.slice none 0 0,.int .i64 0,.int .i64 0,.slice none 0 0],[]⟩ 8 (by kernel_rfl) (by kernel_rfl) (by kernel_rfl)
   (x:=([.nil,.nil,.lit (.int .i64 0),.lit (.int .i64 0),.nil],[],[])) (by kernel_rfl) rfl (by kernel_rfl)) ?_
 intro W base args ds gs before hval hW _ hk hwt _
 refine law_contractU (s:=Rows.linkMeansSpec) plainS_ok laidOut rfl ?_ rfl Try.underlying4 (pars_ok (by kernel_rfl)) ?_ W base args ds gs before hval hwt hk hW
 ·intro ds hds
  match ds,hds with
  | [d0,d1,d2,d3,d4],_=>rfl
 ·intro W args hargs
  obtain ⟨v0,r0,rfl,h0,hargs⟩:=hargs.inv
  obtain ⟨v1,r1,rfl,h1,hargs⟩:=hargs.inv
  obtain ⟨v2,r2,rfl,h2,hargs⟩:=hargs.inv
  obtain ⟨v3,r3,rfl,h3,hargs⟩:=hargs.inv
  obtain ⟨v4,r4,rfl,h4,hargs⟩:=hargs.inv
  obtain rfl:=hargs.inv0
  obtain ⟨f0,g0,t0,R0,n0⟩:=h0.slice Try.underlying22
  obtain ⟨x0,rfl,i0,b0⟩:=dec_Units t0
  obtain ⟨f1,g1,t1,R1⟩:=h1.ok.slice Try.underlying23
  obtain ⟨x1,rfl,i1,b1⟩:=dec_Cellss t1
  obtain ⟨x2,rfl,b2⟩:=h2.ok.int Try.underlying3
  obtain ⟨x3,rfl,b3⟩:=h3.ok.int Try.underlying3
  obtain ⟨f4,g4,t4,R4⟩:=h4.ok.slice Try.underlying24
  obtain ⟨x4,rfl,i4,b4⟩:=dec_ints t4
  exact law_of_ct (LinkMeans_walk x0 i0 b0 (units_cnt n0) x1 i1 b1 x2 b2 x3 b3 x4 i4 b4) (args_cons (arg_g R0) (args_cons (arg_g R1) (args_cons (arg_g (by simp only[RepV])) (args_cons (arg_g (by simp only[RepV])) (args_cons (arg_g R4) args_nil)))))
theorem LinkMeans_said:Rows.LinkMeansUptoSaid:=LinkMeans_over LinkMeans_lifted
#print axioms LinkMeans_said
end Go.Proofs.Ythcmdjkaepclhaa
