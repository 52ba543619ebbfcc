/-
  fold.Program answers what P9.1 says: the law FoldMeans returns true for every program, list of cells, two places, arguments, depth and fuel, where what is read is of bulk at most 1048576.
-/
import Derived.Test.YtcpbfpgighaonaaJFoldMeans
import Derived.Test.YtcpbfpgighaonaaWq
import Derived.Test.YtcpbfpgighaonaaFm
import Derived.Test.YtcpbfpgighaonaaFk
namespace Barb
open Go Go.Dm Go.Eng Go.Proofs.Ytcpbfpgighaonaa
theorem Sim.same {r r':RR Int} (h:Sim r r') (h3:r.code≠3):r'.code=r.code∧r'.val=r.val∧r'.st.told=r.st.told∧r'.st.cells=r.st.cells:=by
 cases r with
 | ok n s =>
  obtain ⟨s',hl,rfl⟩:=h
  exact ⟨rfl,rfl,hl.told,hl.cells⟩
 | stop e s =>
  rcases h with h | ⟨s',hl,rfl⟩
  ·exact absurd h h3
  ·exact ⟨rfl,rfl,hl.told,hl.cells⟩
theorem cells_fold {p:List Unit} {cs:List Cells}:cellsOk (foldP p) cs↔cellsOk p cs:=by
 have e:∀ (i:Nat) (h:i < p.length) (h2:i < (foldP p).length),(foldP p)[i]=foldU p[i]:=fun i h h2=>by simp[foldP]
 refine ⟨fun h i h1 h2=>?_,fun h i h1 h2=>?_⟩
 ·have h3:i < (foldP p).length:=by rw[foldP_len p];exact h2
  have:=h i h1 h3
  rw[e i h2 h3] at this
  exact this
 ·have h3:i < p.length:=by rw[← foldP_len p];exact h2
  have:=h i h1 h3
  rw[e i h3 h2]
  exact this
theorem cellsE_fold {p:List Unit} {cs:List Cells} (h:progE p=0) (hq:progE (foldP p)=0):cellsE (foldP p) cs=cellsE p cs:=by
 unfold cellsE
 rw[if_neg (show ¬(progE (foldP p)≠0) from fun x=>x hq),if_neg (show ¬(progE p≠0) from fun x=>x h),foldP_len]
 by_cases hl:¬cs.length=p.length
 ·rw[if_pos hl,if_pos hl]
 ·rw[if_neg hl,if_neg hl]
  by_cases hc:cellsOk p cs
  ·rw[if_pos hc,if_pos (cells_fold.2 hc)]
  ·rw[if_neg hc,if_neg (fun x=>hc (cells_fold.1 x))]
section
variable {p:List Unit} {cs:List Cells} {un fn:Str} {args:List Int} {deep fuel:Int}
theorem funs_fold (u:Nat):(uAt (foldP p) u).funcs.length=(uAt p u).funcs.length:=by
 rw[uAt_fold]
 show ((uAt p u).funcs.map foldF).length=_
 rw[List.length_map]
theorem pars_fold (u i:Nat):((uAt (foldP p) u).funcs.getD i noF).params.length=((uAt p u).funcs.getD i noF).params.length:=by rw[uAt_fold,fn_fold];rfl
theorem bad_fold {e:Int} (h:progE p=0) (hq:progE (foldP p)=0) (hb:CallBad p cs un fn args deep fuel e):CallBad (foldP p) cs un fn args deep fuel e:=by
 have hE:=cellsE_fold (cs:=cs) h hq
 cases hb with
 | fault k=>rw[← hE] at k ⊢;exact .fault k
 | unit h0 k=>exact .unit (by rw[hE];exact h0) (by rw[unitIdx_fold];exact k)
 | func h0 u hu hun k=>exact .func (by rw[hE];exact h0) u (by rw[foldP_len];exact hu) (by rw[unitIdx_fold];exact hun) (by rw[uAt_fold,funIdx_fold];exact k)
 | count h0 u i hu hun hi hfn k=>exact .count (by rw[hE];exact h0) u i (by rw[foldP_len];exact hu) (by rw[unitIdx_fold];exact hun) (by rw[funs_fold];exact hi) (by rw[uAt_fold,funIdx_fold];exact hfn) (by rw[pars_fold];exact k)
 | range h0 u i hu hun hi hfn ha k=>exact .range (by rw[hE];exact h0) u i (by rw[foldP_len];exact hu) (by rw[unitIdx_fold];exact hun) (by rw[funs_fold];exact hi) (by rw[uAt_fold,funIdx_fold];exact hfn) (by rw[pars_fold];exact ha) k
theorem may_fold {u i d f:Nat} (h:progE p=0) (hq:progE (foldP p)=0) (hm:CallMay p cs un fn args deep fuel u i d f):CallMay (foldP p) cs un fn args deep fuel u i d f :=
 ⟨by rw[cellsE_fold h hq];exact hm.ok,by rw[foldP_len];exact hm.hu,by rw[unitIdx_fold];exact hm.hun,by rw[funs_fold];exact hm.hi,by rw[uAt_fold,funIdx_fold];exact hm.hfn,by rw[pars_fold];exact hm.ha,hm.hd,hm.hf,hm.hw⟩
end
end Barb
namespace Go.Proofs.Ytcpbfpgighaonaa
open Go Go.Dm Go.Eng Go.RowKit Go.ChangeShapes Go.WideShapes Go.ChangeAt Barb
theorem foldProgram_no (p:List Barb.Unit) (hp:progI p) (h:progE p≠0):CT Try.prog [] 10 [.g (.sl 4 (p.map Unit.g))] (Is (.tuple [.g (.sl 4 []),.g (.int (progE p))])):=by
 refine enter hT hF hM Try.func10 rfl 61 rfl (by kernel_rfl) [.tmp 2,.tmp 3] rfl [.g (.sl 4 (p.map Unit.g))] rfl _ ?_
 refine callIs (.inl rfl) (NamesCheck_any p hp) ?_
 exact ⟨fun h=>⟨rfl,retNE rfl rfl⟩,fun h'=>absurd h' h⟩
abbrev A7 (p:List Barb.Unit) (cs:List Cells) (u f:Int) (args:List Int) (deep fuel:Int):List D:=[.g (.sl 4 (p.map Unit.g)),.g (.sl 2 (cs.map Cells.g)),.g (.int u),.g (.int f),.g (.sl 1 (args.map intG)),.g (.int deep),.g (.int fuel)]
set_option maxRecDepth 20000 in
theorem FoldMeans_walk (p:List Barb.Unit) (hp:∀ u∈p,Barb.Unit.I u) (hpl:p.length*88≤140737488351232) (hcnt:cntP p≤1048576) (cs:List Cells) (hI:∀ c∈cs,Cells.I c) (hl:cs.length*48≤140737488351232) (u:Int) (_:I64 u) (f:Int) (_:I64 f) (args:List Int) (_:∀ x∈args,I64 x) (hal:args.length*8≤140737488351232) (deep:Int) (_:I64 deep) (fuel:Int) (_:I64 fuel) :
  CT Try.prog [] 4 (A7 p cs u f args deep fuel) (Is (.g (.bool true))):=by
 have hpI:progI p:=⟨hp,by omega⟩
 have hP:=ProgramFault_any p hpI
 by_cases hg:progE p=0
 rotate_left
 ·have h0:=foldProgram_no p hpI hg
  refine enter hT hF hM Try.func4 rfl 141 rfl (by kernel_rfl) [.tmp 14] rfl [.g (.sl 4 (p.map Unit.g)),.g (.sl 2 (cs.map Cells.g)),.g (.int u),.g (.int f),.g (.sl 1 (args.map intG)),.g (.int deep),.g (.int fuel)] rfl _ ?_
  refine callIs (.inl rfl) h0 ?_
  refine callIs (.inl rfl) hP ?_
  refine ⟨fun _=>?_,fun h=>absurd h hg⟩
  exact ⟨fun _=>⟨rfl,retYes rfl⟩,fun h=>absurd rfl h⟩
 have hN:=few_of hg hcnt
 obtain ⟨hq,hqN⟩:=foldP_good hg hN
 have hqI:=progE_I hq hqN
 have h0:=foldProgram_any p hpI hN
 rw[hg,show foldV p=foldP p from by unfold foldV;rw[if_pos hg]] at h0
 rw[hg] at hP
 have hFd:=folded_any p hg hcnt
 obtain ⟨h5,hU,_,_⟩:=progE_inv hg
 have lp:(p.map Unit.g).length=p.length:=List.length_map _
 by_cases hr:(0≤u∧u < p.length)∧0≤f∧f < (uAt p u.toNat).funcs.length
 rotate_left
 ·refine enter hT hF hM Try.func4 rfl 141 rfl (by kernel_rfl) [.tmp 14] rfl [.g (.sl 4 (p.map Unit.g)),.g (.sl 2 (cs.map Cells.g)),.g (.int u),.g (.int f),.g (.sl 1 (args.map intG)),.g (.int deep),.g (.int fuel)] rfl _ ?_
  refine callIs (.inl rfl) h0 ?_
  refine callIs (.inl rfl) hP ?_
  refine ⟨fun h=>absurd rfl h,fun _=>?_⟩
  refine ⟨fun h=>absurd rfl h,fun _=>?_⟩
  refine callIs (.inl rfl) hFd ?_
  refine ⟨fun _=>⟨rfl,retIs (.inl rfl)⟩,fun h1=>?_⟩
  refine ⟨fun _=>⟨rfl,retIs (.inl rfl)⟩,fun h2=>?_⟩
  refine ⟨fun _=>⟨rfl,retIs (.inl rfl)⟩,fun h3=>?_⟩
  obtain ⟨k,rfl⟩:∃ k:Nat,u=(k:Int):=⟨u.toNat,by omega⟩
  have hk:k < p.length:=by omega
  refine ⟨k,_,rfl,gm hk,?_⟩
  have lf:(p[k].funcs.map Fun.g).length=p[k].funcs.length:=List.length_map _
  refine ⟨fun _=>⟨rfl,retIs (.inl rfl)⟩,fun h4=>absurd ⟨by omega,by omega,?_⟩ hr⟩
  rw[Int.toNat_natCast,uAt_eq hk]
  omega
 obtain ⟨⟨r1,r2⟩,r3,r4⟩:=hr
 obtain ⟨k,rfl⟩:∃ k:Nat,u=(k:Int):=⟨u.toNat,by omega⟩
 obtain ⟨m,rfl⟩:∃ m:Nat,f=(m:Int):=⟨f.toNat,by omega⟩
 have hk:k < p.length:=by omega
 rw[Int.toNat_natCast,uAt_eq hk] at r4
 have hm:m < p[k].funcs.length:=by omega
 have lf:(p[k].funcs.map Fun.g).length=p[k].funcs.length:=List.length_map _
 have hnil:=sameCells_any [] (fun c h=>by simp at h) (by decide)
 rcases call_cases p cs p[k].name p[k].funcs[m].name args deep fuel with ⟨e,hb⟩ | ⟨u,i,d,f,hmy⟩
 ·have he:=callBad_ne hb
  have c1:=CalledOf_bad p hpI cs hI hl p[k].name p[k].funcs[m].name args (by omega) deep fuel e hb
  have c2:=CalledOf_bad (foldP p) hqI cs hI hl p[k].name p[k].funcs[m].name args (by omega) deep fuel e (bad_fold hg hq hb)
  refine enter hT hF hM Try.func4 rfl 141 rfl (by kernel_rfl) [.tmp 14] rfl [.g (.sl 4 (p.map Unit.g)),.g (.sl 2 (cs.map Cells.g)),.g (.int (k:Int)),.g (.int (m:Int)),.g (.sl 1 (args.map intG)),.g (.int deep),.g (.int fuel)] rfl _ ?_
  refine callIs (.inl rfl) h0 ?_
  refine callIs (.inl rfl) hP ?_
  refine ⟨fun h=>absurd rfl h,fun _=>?_⟩
  refine ⟨fun h=>absurd rfl h,fun _=>?_⟩
  refine callIs (.inl rfl) hFd ?_
  refine ⟨fun h=>absurd h (by omega),fun _=>?_⟩
  refine ⟨fun h=>absurd h (by omega),fun _=>?_⟩
  refine ⟨fun h=>absurd h (by omega),fun _=>?_⟩
  refine ⟨k,_,rfl,gm hk,?_⟩
  refine ⟨fun h=>absurd h (by omega),fun _=>?_⟩
  refine ⟨none,rfl,?_⟩
  refine ⟨k,_,rfl,gm hk,?_⟩
  refine ⟨k,_,rfl,gm hk,?_⟩
  refine ⟨m,_,rfl,fnG hm,?_⟩
  refine ⟨_,_,.inl rfl,c1,rfl,?_⟩
  refine ⟨none,rfl,?_⟩
  refine ⟨k,_,rfl,gm hk,?_⟩
  refine ⟨k,_,rfl,gm hk,?_⟩
  refine ⟨m,_,rfl,fnG hm,?_⟩
  refine ⟨_,_,.inl rfl,c2,rfl,?_⟩
  exact ⟨fun _=>⟨rfl,retYes rfl⟩,fun h=>absurd h he⟩
 ·have hmy2:=may_fold hg hq hmy
  obtain ⟨hdd,hd19⟩:=hmy.hd
  obtain ⟨hff,hf100⟩:=hmy.hf
  subst hdd;subst hff
  obtain ⟨_,hlen,hcok⟩:=cellsE_ok hmy.ok
  obtain ⟨_,hlen2,hcok2⟩:=cellsE_ok hmy2.ok
  have hPI:=PI.of hg
  have hPQ:=PI.of hq
  have c1:=CalledOf_any p hpI cs hI hl hmy.ok p[k].name p[k].funcs[m].name u i hmy.hu hmy.hun hmy.hi hmy.hfn args hmy.ha hmy.hw d f hd19 hf100
  have c2:=CalledOf_any (foldP p) hqI cs hI hl hmy2.ok p[k].name p[k].funcs[m].name u i hmy2.hu hmy2.hun hmy2.hi hmy2.hfn args hmy2.ha hmy2.hw d f hd19 hf100
  have hs:SI p ⟨f,[],cs⟩:=⟨hlen,hcok,Nat.zero_le _,fun _ h=>by simp at h⟩
  have B:=(callF_I hPI (evP_I hPI f).2 hmy.hu hmy.hi hmy.ha hmy.hw d hs).rb
  have hSim:=(fold_call hPI f hmy.hu hmy.hi hmy.ha hmy.hw d hs).same
  rw[callD_eq] at c1 c2
  unfold callR ansD at c1 c2
  generalize callF p (evS p f) u i args d ⟨f,[],cs⟩=R at *
  generalize callF (foldP p) (evS (foldP p) f) u i args d ⟨f,[],cs⟩=R2 at *
  have hrI:=cells_I hg B.si.len B.si.ok
  have htold:=B.si.told
  have hlc:=B.si.len
  have hfew:=hPI.few
  have hO:=sameO_one R.code R.val R.st.told (by omega)
  have hsR:=sameCells_any R.st.cells hrI (by omega)
  refine enter hT hF hM Try.func4 rfl 141 rfl (by kernel_rfl) [.tmp 14] rfl [.g (.sl 4 (p.map Unit.g)),.g (.sl 2 (cs.map Cells.g)),.g (.int (k:Int)),.g (.int (m:Int)),.g (.sl 1 (args.map intG)),.g (.int (d:Int)),.g (.int (f:Int))] rfl _ ?_
  refine callIs (.inl rfl) h0 ?_
  refine callIs (.inl rfl) hP ?_
  refine ⟨fun h=>absurd rfl h,fun _=>?_⟩
  refine ⟨fun h=>absurd rfl h,fun _=>?_⟩
  refine callIs (.inl rfl) hFd ?_
  refine ⟨fun h=>absurd h (by omega),fun _=>?_⟩
  refine ⟨fun h=>absurd h (by omega),fun _=>?_⟩
  refine ⟨fun h=>absurd h (by omega),fun _=>?_⟩
  refine ⟨k,_,rfl,gm hk,?_⟩
  refine ⟨fun h=>absurd h (by omega),fun _=>?_⟩
  refine ⟨none,rfl,?_⟩
  refine ⟨k,_,rfl,gm hk,?_⟩
  refine ⟨k,_,rfl,gm hk,?_⟩
  refine ⟨m,_,rfl,fnG hm,?_⟩
  refine ⟨_,_,.inl rfl,c1,rfl,?_⟩
  refine ⟨none,rfl,?_⟩
  refine ⟨k,_,rfl,gm hk,?_⟩
  refine ⟨k,_,rfl,gm hk,?_⟩
  refine ⟨m,_,rfl,fnG hm,?_⟩
  refine ⟨_,_,.inl rfl,c2,rfl,?_⟩
  refine ⟨fun h=>absurd rfl h,fun _=>?_⟩
  refine ⟨fun _=>⟨rfl,retYes rfl⟩,fun h3=>?_⟩
  obtain ⟨e1,e2,e3,e4⟩:=hSim h3
  refine ⟨fun _=>?_,fun h=>absurd rfl h⟩
  refine callIs (show likeA [.agg [.g (.int R.code),.g (.int R.val),.g (.sl 1 (R.st.told.map intG)),.g (.sl 1 []),.g (.sl 7 [])],.agg [.g (.int R2.code),.g (.int R2.val),.g (.sl 1 (R2.st.told.map intG)),.g (.sl 1 []),.g (.sl 7 [])]] [.agg [.g (.int R.code),.g (.int R.val),.g (.sl 1 (R.st.told.map intG)),.g (.sl 1 []),.g (.sl 7 [])],.agg [.g (.int R.code),.g (.int R.val),.g (.sl 1 (R.st.told.map intG)),.g (.sl 1 []),.g (.sl 7 [])]] from .inr ⟨lk rfl,.inr ⟨lkI e1,lkI e2,lkL (by rw[e3]),lk rfl,lk rfl,trivial⟩,trivial⟩) hO ?_
  refine callIs (show likeA [.g (.sl 2 (R.st.cells.map Cells.g)),.g (.sl 2 (R2.st.cells.map Cells.g))] [.g (.sl 2 (R.st.cells.map Cells.g)),.g (.sl 2 (R.st.cells.map Cells.g))] from .inr ⟨lk rfl,lkL (by rw[e4]),trivial⟩) hsR ?_
  exact ⟨rfl,retIs (.inl rfl)⟩

set_option maxRecDepth 100000 in
theorem FoldMeans_lifted (os:Os) (started:os.Started) (H:Type) (enc:TypeId × Value→H) (F:Stop.Interp) :
  ReturnsInHanded {} Try.checked os 4 .any ((Rows.OpenSpec.upto Rows.foldMeansSpec).pre6 enc Try.prog Try.f4 Rows.foldMeansUptoRow.domain false) (((Rows.OpenSpec.upto Rows.foldMeansSpec).at F).post enc Try.prog Try.f4 false true false false):=by
 refine returnsInHanded_of_cond_sized (C:=Try.checked) (s:=Rows.OpenSpec.upto Rows.foldMeansSpec) (k:=Rows.uptoSmall) rfl own started (by kernel_rfl) Try.func4
  (OpenSpec.witness (enc:=enc) (C:=Try.checked) (s:=Rows.OpenSpec.upto Rows.foldMeansSpec) (k:=Rows.uptoSmall) rfl false ⟨#[],#[.slice none 0 0,.slice none 0 0,.int .i64 0,.int .i64 0,.slice none 0 0,.int .i64 0,.int .i64 0],[]⟩ 8 (by kernel_rfl) (by kernel_rfl) (by kernel_rfl)
   (x:=([.nil,.nil,.lit (.int .i64 0),.lit (.int .i64 0),.nil,.lit (.int .i64 0),.lit (.int .i64 0)],[],[])) (by kernel_rfl) rfl (by kernel_rfl)) ?_
 intro W base args ds gs before hval hW _ hk hwt _
 refine law_contractU (s:=Rows.foldMeansSpec) plainS_ok laidOut rfl ?_ rfl Try.underlying4 (pars_ok (by kernel_rfl)) ?_ W base args ds gs before hval hwt hk hW
 ·intro ds hds
  match ds,hds with
  | [d0,d1,d2,d3,d4,d5,d6],_=>rfl
 ·intro W args hargs
  obtain ⟨v0,r0,rfl,h0,hargs⟩:=hargs.inv
  obtain ⟨v1,r1,rfl,h1,hargs⟩:=hargs.inv
  obtain ⟨v2,r2,rfl,h2,hargs⟩:=hargs.inv
  obtain ⟨v3,r3,rfl,h3,hargs⟩:=hargs.inv
  obtain ⟨v4,r4,rfl,h4,hargs⟩:=hargs.inv
  obtain ⟨v5,r5,rfl,h5,hargs⟩:=hargs.inv
  obtain ⟨v6,r6,rfl,h6,hargs⟩:=hargs.inv
  obtain rfl:=hargs.inv0
  obtain ⟨f0,g0,t0,R0,n0⟩:=h0.slice Try.underlying22
  obtain ⟨x0,rfl,i0,b0⟩:=dec_Units t0
  obtain ⟨f1,g1,t1,R1⟩:=h1.ok.slice Try.underlying23
  obtain ⟨x1,rfl,i1,b1⟩:=dec_Cellss t1
  obtain ⟨x2,rfl,b2⟩:=h2.ok.int Try.underlying3
  obtain ⟨x3,rfl,b3⟩:=h3.ok.int Try.underlying3
  obtain ⟨f4,g4,t4,R4⟩:=h4.ok.slice Try.underlying24
  obtain ⟨x4,rfl,i4,b4⟩:=dec_ints t4
  obtain ⟨x5,rfl,b5⟩:=h5.ok.int Try.underlying3
  obtain ⟨x6,rfl,b6⟩:=h6.ok.int Try.underlying3
  exact law_of_ct (FoldMeans_walk x0 i0 b0 (units_cnt n0) x1 i1 b1 x2 b2 x3 b3 x4 i4 b4 x5 b5 x6 b6) (args_cons (arg_g R0) (args_cons (arg_g R1) (args_cons (arg_g (by simp only[RepV])) (args_cons (arg_g (by simp only[RepV])) (args_cons (arg_g R4) (args_cons (arg_g (by simp only[RepV])) (args_cons (arg_g (by simp only[RepV])) args_nil)))))))
theorem FoldMeans_said:Rows.FoldMeansUptoSaid:=FoldMeans_over FoldMeans_lifted
#print axioms FoldMeans_said
end Go.Proofs.Ytcpbfpgighaonaa
