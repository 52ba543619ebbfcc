/-
  eval.Call answers what P8.2 says: the law EvalCalls returns true for every program, list of cells, two names, arguments, depth and fuel.
-/
import Derived.Test.YtcpbfpgighaonaaJEvalCalls
import Derived.Test.YtcpbfpgighaonaaWq
namespace Go.Proofs.Ytcpbfpgighaonaa
open Go Go.Dm Go.Eng Go.RowKit Go.ChangeShapes Go.WideShapes Go.ChangeAt Barb
set_option maxRecDepth 20000 in
theorem EvalCalls_walk (p:List Barb.Unit) (hp:∀ u∈p,Barb.Unit.I u) (hpl:p.length*88≤140737488351232) (cs:List Cells) (hI:∀ c∈cs,Cells.I c) (hl:cs.length*48≤140737488351232) (un:Str) (hun:un.length≤9223372036854775807) (fn:Str) (hfn:fn.length≤9223372036854775807) (args:List Int) (ha:∀ x∈args,I64 x) (hal:args.length*8≤140737488351232) (deep:Int) (hd:I64 deep) (fuel:Int) (hf:I64 fuel) :
  CT Try.prog [] 3 [.g (.sl 4 (p.map Unit.g)),.g (.sl 2 (cs.map Cells.g)),.g (.str un),.g (.str fn),.g (.sl 1 (args.map intG)),.g (.int deep),.g (.int fuel)] (Is (.g (.bool true))):=by
 have hpI:progI p:=⟨hp,by omega⟩
 have hC:=melt_ct (CellsOwn_any cs hI hl)
 have hsC:=sameCells_any cs hI hl
 have hnil:=sameCells_any [] (fun c h=>by simp at h) (by decide)
 rcases call_cases p cs un fn args deep fuel with ⟨e,hb⟩ | ⟨u,i,d,f,hm⟩
 ·have h1:=Call_bad p hpI cs hI hl un fn args (by omega) deep fuel e hb
  have h2:=CalledOf_bad p hpI cs hI hl un fn args (by omega) deep fuel e hb
  have hO:=sameO_one 0 0 [] (by decide)
  refine enter hT hF hM Try.func3 rfl 66 rfl (by kernel_rfl) [.tmp 14] rfl [.g (.sl 4 (p.map Unit.g)),.g (.sl 2 (cs.map Cells.g)),.g (.str un),.g (.str fn),.g (.sl 1 (args.map intG)),.g (.int deep),.g (.int fuel)] rfl _ ?_
  refine callIs (.inl rfl) hC ?_
  refine callIs (.inl rfl) h1 ?_
  refine callIs (.inl rfl) h2 ?_
  refine ⟨fun _=>?_,fun h=>absurd rfl h⟩
  refine callIs (.inl rfl) hO ?_
  refine callIs (.inl rfl) hnil ?_
  exact callIs (.inl rfl) hsC ⟨rfl,retIs (.inl rfl)⟩
 ·obtain ⟨hdd,hd19⟩:=hm.hd
  obtain ⟨hff,hf100⟩:=hm.hf
  subst hdd;subst hff
  obtain ⟨hpe,hlen,hcok⟩:=cellsE_ok hm.ok
  have hP:=PI.of hpe
  have h1:=Call_any p hpI cs hI hl hm.ok un fn u i hm.hu hm.hun hm.hi hm.hfn args hm.ha hm.hw d f hd19 hf100
  have h2:=CalledOf_any p hpI cs hI hl hm.ok un fn u i hm.hu hm.hun hm.hi hm.hfn args hm.ha hm.hw d f hd19 hf100
  have hs:SI p ⟨f,[],cs⟩:=⟨hlen,hcok,Nat.zero_le _,fun _ h=>by simp at h⟩
  have B:=(callF_I hP (evP_I hP f).2 hm.hu hm.hi hm.ha hm.hw d hs).rb
  rw[callD_eq] at h1 h2
  unfold callR ansD at h1 h2
  generalize callF p (evS p f) u i args d ⟨f,[],cs⟩=R at *
  have hrI:=cells_I hpe B.si.len B.si.ok
  have htold:=B.si.told
  have hlc:=B.si.len
  have hfew:=hP.few
  have hO:=sameO_one R.code R.val R.st.told (by omega)
  have hsR:=sameCells_any R.st.cells hrI (by omega)
  refine enter hT hF hM Try.func3 rfl 66 rfl (by kernel_rfl) [.tmp 14] rfl [.g (.sl 4 (p.map Unit.g)),.g (.sl 2 (cs.map Cells.g)),.g (.str un),.g (.str fn),.g (.sl 1 (args.map intG)),.g (.int (d:Int)),.g (.int (f:Int))] rfl _ ?_
  refine callIs (.inl rfl) hC ?_
  refine callIs (.inl rfl) h1 ?_
  refine callIs (.inl rfl) h2 ?_
  refine ⟨fun _=>?_,fun h=>absurd rfl h⟩
  refine callIs (.inl rfl) hO ?_
  refine callIs (.inl rfl) hsR ?_
  exact callIs (.inl rfl) hsC ⟨rfl,retIs (.inl rfl)⟩

set_option maxRecDepth 100000 in
theorem EvalCalls_lifted (os:Os) (started:os.Started) (H:Type) (enc:TypeId × Value→H) :
  ReturnsInHanded {} Try.checked os 3 .any (Rows.evalCallsSpec.pre6 enc Try.prog Try.f3 Rows.evalCallsRow.domain false) (Rows.evalCallsSpec.post enc Try.prog Try.f3 false true false false):=by
 refine handed (C:=Try.checked) own started (by kernel_rfl) Try.func3
  (ChangeSpec.witness6 (enc:=enc) (C:=Try.checked) false ⟨#[],#[.slice none 0 0,.slice none 0 0,.string ⟨⟨[]⟩⟩,.string ⟨⟨[]⟩⟩,.slice none 0 0,.int .i64 0,.int .i64 0],[]⟩ 8 (by kernel_rfl) (by kernel_rfl) (by kernel_rfl) (by kernel_rfl)) ?_
 intro W base args ds gs before hval hwt hW
 refine law_contract plainS_ok laidOut rfl ?_ rfl Try.underlying4 (pars_ok (by kernel_rfl)) ?_ W base args ds gs before hval hwt hW
 ·intro ds hds
  match ds,hds with
  | [d0,d1,d2,d3,d4,d5,d6],_=>rfl
 ·intro W args hargs
  obtain ⟨v0,r0,rfl,h0,hargs⟩:=hargs.inv
  obtain ⟨v1,r1,rfl,h1,hargs⟩:=hargs.inv
  obtain ⟨v2,r2,rfl,h2,hargs⟩:=hargs.inv
  obtain ⟨v3,r3,rfl,h3,hargs⟩:=hargs.inv
  obtain ⟨v4,r4,rfl,h4,hargs⟩:=hargs.inv
  obtain ⟨v5,r5,rfl,h5,hargs⟩:=hargs.inv
  obtain ⟨v6,r6,rfl,h6,hargs⟩:=hargs.inv
  obtain rfl:=hargs.inv0
  obtain ⟨f0,g0,t0,R0⟩:=h0.slice Try.underlying22
  obtain ⟨x0,rfl,i0,b0⟩:=dec_Units t0
  obtain ⟨f1,g1,t1,R1⟩:=h1.slice Try.underlying23
  obtain ⟨x1,rfl,i1,b1⟩:=dec_Cellss t1
  obtain ⟨x2,rfl,b2⟩:=h2.str Try.underlying9
  obtain ⟨x3,rfl,b3⟩:=h3.str Try.underlying9
  obtain ⟨f4,g4,t4,R4⟩:=h4.slice Try.underlying24
  obtain ⟨x4,rfl,i4,b4⟩:=dec_ints t4
  obtain ⟨x5,rfl,b5⟩:=h5.int Try.underlying3
  obtain ⟨x6,rfl,b6⟩:=h6.int Try.underlying3
  exact law_of_ct (EvalCalls_walk x0 i0 b0 x1 i1 b1 x2 b2 x3 b3 x4 i4 b4 x5 b5 x6 b6) (args_cons (arg_g R0) (args_cons (arg_g R1) (args_cons (arg_g (by simp only[RepV])) (args_cons (arg_g (by simp only[RepV])) (args_cons (arg_g R4) (args_cons (arg_g (by simp only[RepV])) (args_cons (arg_g (by simp only[RepV])) args_nil)))))))
theorem EvalCalls_said:Rows.EvalCallsSaid:=EvalCalls_over EvalCalls_lifted
#print axioms EvalCalls_said
end Go.Proofs.Ytcpbfpgighaonaa
