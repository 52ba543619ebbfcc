/-
  A program that is folded twice does what it did: the law FoldsAgain returns true for every list of raw things, raw thing and numbers, wherever the table of package barbicankeep holds what the program's text lays there.
-/
import Derived.Test.YtijdegmamdhcbaaDoorJFoldsAgain
import Derived.Test.YtijdegmamdhcbaaDoorCards
import Derived.Test.YtijdegmamdhcbaaDoorTie
import Derived.Test.YtijdegmamdhcbaaDoorDgk
import Derived.Test.YtijdegmamdhcbaaDoorKl
import Derived.Test.YtijdegmamdhcbaaDoorFk
namespace Barb
open Go Go.Dm Go.Eng Go.Proofs.YtijdegmamdhcbaaDoor
theorem Sim.same {r r':RR Int} (h:Sim r r') (h3:r.code≠3):r'.code=r.code∧r'.val=r.val∧r'.st.told=r.st.told∧r'.st.cells=r.st.cells:=by
 cases r with
 | ok n s =>
  obtain ⟨s',hl,rfl⟩:=h
  exact ⟨rfl,rfl,hl.told,hl.cells⟩
 | stop e s =>
  rcases h with h | ⟨s',hl,rfl⟩
  ·exact absurd h h3
  ·exact ⟨rfl,rfl,hl.told,hl.cells⟩
theorem cells_fold {p:List Unit} {cs:List Cells} (h:cellsOk p cs):cellsOk (foldP p) cs:=fun i h1 h2=>by
 have h3:i < p.length:=by rw[← foldP_len p];exact h2
 have:=h i h1 h3
 have e:(foldP p)[i]=foldU p[i]:=by simp[foldP]
 rw[e]
 exact this
end Barb
namespace Go.Proofs.YtijdegmamdhcbaaDoor
open Go Go.Dm Go.Eng Go.RowKit Go.ChangeShapes Go.WideShapes Go.ChangeAt Barb
set_option maxRecDepth 20000 in
set_option maxHeartbeats 4000000 in
theorem FoldsAgain_walk (l:List Raw) (hI:∀ r∈l,r.I) (hl:l.length*32≤140737488351232) (r:Raw) (hr:r.I) (a:Int) (ha:I64 a) (b:Int) (hb:I64 b):CT Tryd.prog gl 9 [.g (.sl 4 (l.map Raw.g)),.agg r.d,.g (.int a),.g (.int b)] (Is (.g (.bool true))):=by
 have hP:=programP_prog l
 have hgood:=prog_good hP
 have hfew:=prog_few hP
 have hpi:=progE_I hgood hfew
 have hPr:=Program_isT l hl hI
 obtain ⟨hu,hun,hfn,h2⟩:=prog_one hP
 generalize programP l=p at *
 obtain ⟨hg1,hf1⟩:=foldP_good hgood hfew
 have hpi1:=progE_I hg1 hf1
 obtain ⟨hg2,hf2⟩:=foldP_good hg1 hf1
 have hpi2:=progE_I hg2 hf2
 have F1:=foldProgram_any p hpi hfew
 have F2:=foldProgram_any (foldP p) hpi1 hf1
 have K1:=NamesCheck_any (foldP p) hpi1
 have K2:=NamesCheck_any (foldP (foldP p)) hpi2
 have v1:foldV p=foldP p:=by unfold foldV;rw[if_pos hgood]
 have v2:foldV (foldP p)=foldP (foldP p):=by unfold foldV;rw[if_pos hg1]
 rw[v1,hgood] at F1
 rw[v2,hg1] at F2
 rw[hg1] at K1
 rw[hg2] at K2
 have hC:=Cells_isT p (progE_PC hgood) r hr
 have hc0:=cellsP_good hgood r
 obtain ⟨_,hcl,hcc⟩:=cellsE_ok hc0
 have h5:=(progE_inv hgood).1
 have hcI:=cells_I hgood hcl hcc
 generalize cellsP p r=cs at *
 have hPa:=picked_any a 9 ha (by decide)
 have hPb:=picked_any b 9 hb (by decide)
 have wa:wd (pickN a 9):=pick_word (k:=9) (by decide) (by decide)
 have wb:wd (pickN b 9):=pick_word (k:=9) (by decide) (by decide)
 generalize pickN a 9=x at *
 generalize pickN b 9=y at *
 have hw:wds [x,y]:=fun z hz=>by
  simp only[List.mem_cons,List.not_mem_nil,or_false] at hz
  rcases hz with rfl | rfl
  ·exact wa
  ·exact wb
 have hu1:0 < (foldP p).length:=by rw[foldP_len];exact hu
 have hu2:0 < (foldP (foldP p)).length:=by rw[foldP_len];exact hu1
 have hi1:0 < (uAt (foldP p) 0).funcs.length:=by rw[uAt_fold];show 0 < ((uAt p 0).funcs.map foldF).length;rw[List.length_map];exact hfn.1
 have hi2:0 < (uAt (foldP (foldP p)) 0).funcs.length:=by rw[uAt_fold];show 0 < ((uAt (foldP p) 0).funcs.map foldF).length;rw[List.length_map];exact hi1
 have a0:[x,y].length=((uAt p 0).funcs.getD 0 noF).params.length:=by rw[h2];rfl
 have a1:[x,y].length=((uAt (foldP p) 0).funcs.getD 0 noF).params.length:=by rw[uAt_fold,fn_fold];exact a0
 have a2:[x,y].length=((uAt (foldP (foldP p)) 0).funcs.getD 0 noF).params.length:=by rw[uAt_fold,fn_fold];exact a1
 have hcl1:cs.length=(foldP p).length:=by rw[foldP_len];exact hcl
 have hcl2:cs.length=(foldP (foldP p)).length:=by rw[foldP_len];exact hcl1
 have hcc1:=cells_fold hcc
 have hcc2:=cells_fold hcc1
 have C1:=Call_any p hpi cs hcI (by omega) hc0 [111,110,101] [102] 0 0 hu hun hfn.1 hfn.2 [x,y] a0 hw 0 2000 (by decide) (by decide)
 have C2:=Call_any (foldP (foldP p)) hpi2 cs hcI (by omega) (cellsE_yes hg2 hcl2 hcc2) [111,110,101] [102] 0 0 hu2 (by rw[unitIdx_fold,unitIdx_fold];exact hun) hi2 (by rw[uAt_fold,funIdx_fold,uAt_fold,funIdx_fold];exact hfn.2) [x,y] a2 hw 0 2000 (by decide) (by decide)
 have hs:SI p ⟨2000,[],cs⟩:=⟨hcl,hcc,Nat.zero_le _,fun _ h=>by simp at h⟩
 have hs1:SI (foldP p) ⟨2000,[],cs⟩:=⟨hcl1,hcc1,Nat.zero_le _,fun _ h=>by simp at h⟩
 have hp:=PI.of hgood
 have B1:=(callF_I hp (evP_I hp 2000).2 hu hfn.1 a0 hw 0 hs).rb
 have S1:=fold_call hp 2000 hu hfn.1 a0 hw 0 hs
 have S2:=fold_call (PI.of hg1) 2000 hu1 hi1 a1 hw 0 hs1
 rw[callD_eq] at C1 C2
 unfold callR ansD at C1 C2
 have hn3:=S1.same
 have hm3:=S2.same
 clear S1 S2
 generalize callF p (evS p 2000) 0 0 [x,y] 0 ⟨2000,[],cs⟩=R1 at *
 generalize callF (foldP p) (evS (foldP p) 2000) 0 0 [x,y] 0 ⟨2000,[],cs⟩=Rm at *
 generalize callF (foldP (foldP p)) (evS (foldP (foldP p)) 2000) 0 0 [x,y] 0 ⟨2000,[],cs⟩=R2 at *
 have c1l:=B1.si.len
 have c1c:=B1.si.ok
 have c1I:=cells_I hgood c1l c1c
 have t1l:=B1.si.told
 have e1:=B1.code
 have hsame:R1.code≠3→R2.code=R1.code∧R2.val=R1.val∧R2.st.told=R1.st.told∧R2.st.cells=R1.st.cells:=fun h=>by
  obtain ⟨q1,q2,q3,q4⟩:=hn3 h
  obtain ⟨w1,w2,w3,w4⟩:=hm3 (by rw[q1];exact h)
  exact ⟨w1.trans q1,w2.trans q2,w3.trans q3,w4.trans q4⟩
 clear hn3 hm3
 generalize R1.st.cells=d1 at *
 generalize R2.st.cells=d2 at *
 generalize foldP (foldP p)=p2 at *
 generalize foldP p=p1 at *
 refine enterJ [8] hT hF hM Tryd.func9 rfl 116 rfl (by kernel_rfl) [.tmp 8] rfl [.g (.sl 4 (l.map Raw.g)),.agg r.d,.g (.int a),.g (.int b)] rfl _ ?_
 refine callIs (.inl rfl) hPr ?_
 refine callIs (.inl rfl) F1 ?_
 refine callIs (.inl rfl) F2 ?_
 refine ⟨fun h=>absurd rfl h,fun _=>⟨fun h=>absurd rfl h,fun _=>?_⟩⟩
 refine callIs (.inl rfl) K1 ?_
 refine ⟨fun h=>absurd rfl h,fun _=>?_⟩
 refine callIs (.inl rfl) K2 ?_
 refine ⟨fun h=>absurd rfl h,fun _=>?_⟩
 refine callIs (.inl rfl) hC ?_
 refine callIs (.inl rfl) hPa ?_
 refine callIs (.inl rfl) hPb ?_
 refine ⟨[[.int x],[.int y]],rfl,rfl,⟨rfl,rfl,trivial⟩,?_⟩
 refine turnTo [] [(9,.g (.sl 4 (p.map Unit.g))),(12,.g (.sl 4 (p2.map Unit.g))),(14,.g (.sl 2 (cs.map Cells.g))),(15,.g (.sl 1 ([x,y].map intG)))] [] ⟨rfl,.inl rfl,.inl rfl,rfl⟩ ?_
 refine callIs (.inl rfl) C1 ?_
 refine callIs (.inl rfl) C2 ?_
 refine ⟨fun _=>⟨fun _=>⟨fun _=>⟨fun h3=>?_,fun h3=>?_⟩,fun h=>absurd (show R1.code=0 from h) (by omega)⟩,fun h=>absurd rfl h⟩,fun h=>absurd rfl h⟩
 ·exact ⟨rfl,retIs (.inl rfl)⟩
 obtain ⟨f1,f2,f3,f4⟩:=hsame h3
 refine ⟨fun _=>⟨fun _=>?_,fun h=>absurd f2.symm h⟩,fun h=>absurd f1.symm h⟩
 refine callIs (show likeA [.g (.sl 1 (R1.st.told.map intG)),.g (.sl 1 (R2.st.told.map intG))] [.g (.sl 1 (R1.st.told.map intG)),.g (.sl 1 (R1.st.told.map intG))] from .inr ⟨lk rfl,lkL (by rw[f3]),trivial⟩) (EqualN_any R1.st.told (by omega)) ?_
 refine callIs (show likeA [.g (.sl 2 (d1.map Cells.g)),.g (.sl 2 (d2.map Cells.g))] [.g (.sl 2 (d1.map Cells.g)),.g (.sl 2 (d1.map Cells.g))] from .inr ⟨lk rfl,lkL (by rw[f4]),trivial⟩) (sameCells_any d1 (by omega) c1I) ?_
 exact ⟨rfl,retIs (.inl rfl)⟩


set_option maxRecDepth 100000 in
theorem FoldsAgain_contract (H:Type) (enc:TypeId × Value→H) (W:World) (base:Nat) (args:Array Value) (ds gs:List (DataW H)) (before:List MemPlace)
  (hval:∀ (j:Nat) t v,Tryd.f9.params[j]?=some t→args[j]?=some v→Value.okWide Tryd.prog W .any base t v)
  (hwt:(DataW.weightsEach Tryd.prog (Tryd.f9.params.toList++Rows.foldsAgainSpec.plain.varTypes Tryd.prog) (ds++gs)).all (·≤reachBytes)=true)
  (hW:DataW.Whole enc Tryd.prog Tryd.f9.params.toList Rows.foldsAgainSpec.vars false W args.toList ds gs before) (hL:laidMetH Tryd.prog Rows.foldsAgainRow.laid W) :
  Calls Tryd.prog 9 args W fun e W'=>∃ v,e=.returned v∧Rows.foldsAgainSpec.post enc Tryd.prog Tryd.f9 false true false false W args v W':=by
 refine law_contractW plainS_ok laidOut rfl ?_ rfl Tryd.underlying4 (pars_ok (by kernel_rfl)) W ?_ base args ds gs before hval hwt hW
 ·intro ds hds
  match ds,hds with
  | [d0,d1,d2,d3],_=>rfl
 ·intro args hargs
  obtain ⟨v0,r0,rfl,h0,hargs⟩:=hargs.inv
  obtain ⟨v1,r1,rfl,h1,hargs⟩:=hargs.inv
  obtain ⟨v2,r2,rfl,h2,hargs⟩:=hargs.inv
  obtain ⟨v3,r3,rfl,h3,hargs⟩:=hargs.inv
  obtain rfl:=hargs.inv0
  obtain ⟨f0,g0,t0,R0⟩:=h0.slice Tryd.underlying22
  obtain ⟨x0,rfl,i0,b0⟩:=dec_Raws t0
  obtain ⟨f1,g1,c1,rfl,t1,R1⟩:=h1.struct Tryd.underlying24
  obtain ⟨x1,rfl,b1⟩:=dec_Raw t1
  obtain ⟨x2,rfl,b2⟩:=h2.int Tryd.underlying3
  obtain ⟨x3,rfl,b3⟩:=h3.int Tryd.underlying3
  exact law_of_ctG (gl_ok hL) (FoldsAgain_walk x0 i0 b0 x1 b1 x2 b2 x3 b3) (args_cons (arg_g R0) (args_cons (arg_agg R1) (args_cons (arg_g (by simp only[RepV])) (args_cons (arg_g (by simp only[RepV])) args_nil))))
theorem FoldsAgain_met (os:Os):laidMet Tryd.prog Rows.foldsAgainRow.laid ((gl_world os).forCall (fun _ _=>0) ⟨#[],#[.slice none 0 0,.agg #[.int .i64 0,.int .i64 0,.int .i64 0,.int .i64 0],.int .i64 0,.int .i64 0],[]⟩).memory :=
 laidMet_of_run' 8 (by kernel_rfl) (by kernel_rfl)
theorem FoldsAgain_reads (os:Os) {H:Type} (enc:TypeId × Value→H):∃ places,DataW.whole enc Tryd.prog ((gl_world os).forCall (fun _ _=>0) ⟨#[],#[.slice none 0 0,.agg #[.int .i64 0,.int .i64 0,.int .i64 0,.int .i64 0],.int .i64 0,.int .i64 0],[]⟩).memory Tryd.f9.params.toList Rows.foldsAgainSpec.vars false (#[.slice none 0 0,.agg #[.int .i64 0,.int .i64 0,.int .i64 0,.int .i64 0],.int .i64 0,.int .i64 0]:Array Value).toList 8=some ([.nil,.agg [.lit (.int .i64 0),.lit (.int .i64 0),.lit (.int .i64 0),.lit (.int .i64 0)],.lit (.int .i64 0),.lit (.int .i64 0)],[],places) :=
 ⟨[],by kernel_rfl⟩
set_option maxRecDepth 100000 in
theorem FoldsAgain_lifted (os:Os) (started:os.Started) (H:Type) (enc:TypeId × Value→H) (F:Stop.Interp) :
  ReturnsInHanded {} Tryd.checked os 9 .any ((OpenSpec.ofChange Rows.foldsAgainSpec).preRow enc Tryd.prog Tryd.f9 Rows.foldsAgainRow.domain false Rows.foldsAgainRow.laid) (((OpenSpec.ofChange Rows.foldsAgainSpec).at F).post enc Tryd.prog Tryd.f9 false true false false):=by
 obtain ⟨places,hx⟩:=FoldsAgain_reads os enc
 refine returnsInHanded_of_row (C:=Tryd.checked) (s:=OpenSpec.ofChange Rows.foldsAgainSpec) own started (by kernel_rfl) Tryd.func9
  (witness_row_at (enc:=enc) (C:=Tryd.checked) false (gl_world os) #[.slice none 0 0,.agg #[.int .i64 0,.int .i64 0,.int .i64 0,.int .i64 0],.int .i64 0,.int .i64 0] rfl (by kernel_rfl) (by kernel_rfl) (by kernel_rfl)
   (OpenSpec.preRow_of_cond 8 hx (by kernel_rfl) (fun k hk=>by cases hk) (by kernel_rfl) (FoldsAgain_met os))) ?_
 intro W base args ds gs before hval hW _ _ hwt hL _ _
 exact FoldsAgain_contract H enc W base args ds gs before hval hwt hW hL
theorem FoldsAgain_row:Rows.FoldsAgainSaid:=FoldsAgain_over FoldsAgain_lifted
theorem FoldsAgain_said:Rows.FoldsAgainCardSaid :=
 Claim7.holds_tied_plain_at .later [] _ _ _ _ FoldsAgain_row (fun _ h=>by cases h) (by kernel_rfl) (fun _ h=>by cases h) foldsAgain_row_tie rfl ⟨rfl,rfl⟩ (by kernel_rfl) rfl FoldsAgain_plain (by kernel_rfl)
#print axioms FoldsAgain_said
end Go.Proofs.YtijdegmamdhcbaaDoor
