/-
  What is run again does the same; what was handed in stays as it was: the law TopAgain returns true for every list of raw things, raw thing and number, wherever the tables of the packages code and barbicankeep hold what the program's text lays there.
-/
import Derived.Test.YtijdegmamdhcbaaGreatDoorJTopAgain
import Derived.Test.YtijdegmamdhcbaaGreatDoorCards
import Derived.Test.YtijdegmamdhcbaaGreatDoorTie
import Derived.Test.YtijdegmamdhcbaaGreatDoorZa
import Derived.Test.YtijdegmamdhcbaaGreatDoorZj
namespace Go.Proofs.YtijdegmamdhcbaaGreatDoor
open Go Go.Dm Go.Eng Go.RowKit Go.ChangeShapes Go.WideShapes Go.ChangeAt Barb
theorem Picked_any (n many:Int) (hn:I64 n) (hm:0 < many):CT Tryz.prog gl 8 [.g (.int n),.g (.int many)] (Is (.g (.int (pickN n many)))):=by
 refine enter hT hF hM Tryz.func8 rfl 8 rfl (by kernel_rfl) [.tmp 4] rfl [.g (.int n),.g (.int many)] rfl _ ?_
 exact callIs (.inl rfl) (picked_any n many hn hm) ⟨rfl,retI rfl⟩
set_option maxRecDepth 20000 in
set_option maxHeartbeats 4000000 in
theorem TopAgain_walk (l:List Raw) (hI:∀ r∈l,r.I) (hl:l.length*32≤140737488351232) (r:Raw) (hr:r.I) (a:Int) (ha:I64 a):CT Tryz.prog gl 3 [.g (.sl 4 (l.map Raw.g)),.agg r.d,.g (.int a)] (Is (.g (.bool true))):=by
 have hB:=built_any l hI hl r hr
 obtain ⟨hgood,hfew,hlen,_,hdw,hdx,hdl,hwl⟩:=builtOk l r
 have hL:=linkI_good hgood hfew
 have hP:=programP_prog l
 obtain ⟨hu,hun,hfn,h2⟩:=prog_one hP
 have hRun:=fun h=>builtRun (p:=programP l) hP h (d:=dataL (programP l) (cellsP (programP l) r))
 generalize programP l=p at *
 have hpi:=progE_I hgood hfew
 have hLk:=linkProgram_any p hpi hfew
 have hc0:=cellsP_good hgood r
 obtain ⟨_,hcl,hcc⟩:=cellsE_ok hc0
 have h5:=(progE_inv hgood).1
 have hcI:=cells_I hgood hcl hcc
 generalize dataL p (cellsP p r)=d at *
 generalize cellsP p r=cs at *
 have hCopy:=Copy_any cs hcI (by omega)
 have hClone:=Clone_is (d.map intG) (by rw[List.length_map];omega)
 obtain ⟨k,hk,hkl⟩:=pickN_nat a (many:=20) (by decide)
 have hPk:=Picked_any a 20 ha (by decide)
 rw[show pickN a 20=(k:Int) from hk] at hPk
 have C1:=Call_any p hpi cs hcI (by omega) hc0 [111,110,101] [102] 0 0 hu hun hfn.1 hfn.2 [(k:Int),2] (by rw[h2];rfl) (fun z hz=>by
  simp only[List.mem_cons,List.not_mem_nil,or_false] at hz
  rcases hz with rfl | rfl
  ·exact ⟨by omega,by omega⟩
  ·exact ⟨by decide,by decide⟩) 0 1000 (by decide) (by decide)
 rw[callD_eq] at C1
 unfold callR ansD at C1
 generalize callF p (evS p 1000) 0 0 [(k:Int),2] 0 ⟨1000,[],cs⟩=R1 at *
 refine enterJ [8] hT hF hM Tryz.func3 rfl 119 rfl (by kernel_rfl) [.tmp 6] rfl [.g (.sl 4 (l.map Raw.g)),.agg r.d,.g (.int a)] rfl _ ?_
 refine callIs (.inl rfl) hB ?_
 refine ⟨fun e0=>⟨rfl,retIs (.inl rfl)⟩,fun e0=>?_⟩
 obtain ⟨m1,m2,m3,m4⟩:=hL e0
 obtain ⟨at_,r1,v1,ok⟩:=hRun e0 m1 (by rw[m3];exact hdw) hdx (by omega) (w:=(k:Int)) (by omega)
 rw[e0] at hLk
 have X1:=Run_any (linkI p) m2 d (by omega) 0 0 [(k:Int),2] (by simp) 5000
 rw[r1,v1] at X1
 have hend:=(iterS_all (P:=fun _=>True) (fun _ _=>⟨fun _=>trivial,fun _ _=>trivial,fun _ _=>trivial⟩) (fun _ _ _ _=>trivial) 5000 _ _ ok (by simp) trivial).2
 have hend2:=iterS_lens 5000 ok
 generalize iterS (linkI p) 5000 ⟨[],d,[]⟩ [⟨0,at_,p8 [(k:Int),2],[],-1⟩]=A at *
 generalize linkI p=m at *
 refine callIs (.inl rfl) hLk ?_
 refine callIs (.inl rfl) hCopy ?_
 refine callIs (.inl rfl) hClone ?_
 refine callIs (.inl rfl) hPk ?_
 refine ⟨[[.int k],[.int 2]],rfl,rfl,⟨rfl,rfl,trivial⟩,?_⟩
 refine turnTo [.old 1,.old 2] [(7,.g (.sl 4 (p.map Unit.g))),(8,.ptr 0 0),(9,.g (.sl 2 (cs.map Cells.g))),(10,.g (.sl 1 (d.map intG))),(12,.ptr 1 0),(13,.g (.int 0)),(14,.g (.sl 2 (cs.map Cells.g))),(15,.g (.sl 1 (d.map intG))),(16,.g (.sl 1 ([(k:Int),2].map intG)))] [.blk (imgD m) 28,.blk (imgD m) 28] ⟨rfl,.inl rfl,.inl rfl,rfl⟩ ?_
 refine callIs (.inl rfl) X1 ?_
 refine callIs (.inl rfl) X1 ?_
 refine callIs (.inl rfl) C1 ?_
 have ha1:(outOf A).end_=A.1:=rfl
 have hda:(outOf A).data=A.2.2.data:=rfl
 refine ⟨fun _=>⟨fun _=>⟨fun _=>⟨fun _=>⟨fun _=>⟨fun _=>⟨fun _=>?_,fun h=>absurd rfl h⟩,fun h=>absurd rfl h⟩,fun h=>absurd (show A.1=0 from h) (by omega)⟩,fun h=>absurd rfl h⟩,fun h=>absurd rfl h⟩,fun h=>absurd rfl h⟩,fun h=>absurd rfl h⟩
 refine callIs (.inl rfl) (EqualN_any (outOf A).data (by rw[hda,hend2.2];show d.length≤_;omega)) ?_
 refine callIs (.inl rfl) (EqualN_any d (by omega)) ?_
 refine callIs (.inl rfl) (sameT_any cs (by omega) hcI) ?_
 exact ⟨rfl,retIs (.inl rfl)⟩


set_option maxRecDepth 100000 in
theorem TopAgain_contract (H:Type) (enc:TypeId × Value→H) (W:World) (base:Nat) (args:Array Value) (ds gs:List (DataW H)) (before:List MemPlace)
  (hval:∀ (j:Nat) t v,Tryz.f3.params[j]?=some t→args[j]?=some v→Value.okWide Tryz.prog W .any base t v)
  (hwt:(DataW.weightsEach Tryz.prog (Tryz.f3.params.toList++Rows.topAgainSpec.plain.varTypes Tryz.prog) (ds++gs)).all (·≤reachBytes)=true)
  (hW:DataW.Whole enc Tryz.prog Tryz.f3.params.toList Rows.topAgainSpec.vars false W args.toList ds gs before) (hL:laidMetH Tryz.prog Rows.topAgainRow.laid W) :
  Calls Tryz.prog 3 args W fun e W'=>∃ v,e=.returned v∧Rows.topAgainSpec.post enc Tryz.prog Tryz.f3 false true false false W args v W':=by
 refine law_contractW plainS_ok laidOut rfl ?_ rfl Tryz.underlying4 (pars_ok (by kernel_rfl)) W ?_ base args ds gs before hval hwt hW
 ·intro ds hds
  match ds,hds with
  | [d0,d1,d2],_=>rfl
 ·intro args hargs
  obtain ⟨v0,r0,rfl,h0,hargs⟩:=hargs.inv
  obtain ⟨v1,r1,rfl,h1,hargs⟩:=hargs.inv
  obtain ⟨v2,r2,rfl,h2,hargs⟩:=hargs.inv
  obtain rfl:=hargs.inv0
  obtain ⟨f0,g0,t0,R0⟩:=h0.slice Tryz.underlying22
  obtain ⟨x0,rfl,i0,b0⟩:=dec_Raws t0
  obtain ⟨f1,g1,c1,rfl,t1,R1⟩:=h1.struct Tryz.underlying24
  obtain ⟨x1,rfl,b1⟩:=dec_Raw t1
  obtain ⟨x2,rfl,b2⟩:=h2.int Tryz.underlying3
  exact law_of_ctG (gl_ok hL) (TopAgain_walk x0 i0 b0 x1 b1 x2 b2) (args_cons (arg_g R0) (args_cons (arg_agg R1) (args_cons (arg_g (by simp only[RepV])) args_nil)))
theorem TopAgain_met (os:Os):laidMet Tryz.prog Rows.topAgainRow.laid ((gl_world os).forCall (fun _ _=>0) ⟨#[],#[.slice none 0 0,.agg #[.int .i64 0,.int .i64 0,.int .i64 0,.int .i64 0],.int .i64 0],[]⟩).memory :=
 laidMet_of_run' 8 (by kernel_rfl) (by kernel_rfl)
theorem TopAgain_reads (os:Os) {H:Type} (enc:TypeId × Value→H):∃ places,DataW.whole enc Tryz.prog ((gl_world os).forCall (fun _ _=>0) ⟨#[],#[.slice none 0 0,.agg #[.int .i64 0,.int .i64 0,.int .i64 0,.int .i64 0],.int .i64 0],[]⟩).memory Tryz.f3.params.toList Rows.topAgainSpec.vars false (#[.slice none 0 0,.agg #[.int .i64 0,.int .i64 0,.int .i64 0,.int .i64 0],.int .i64 0]:Array Value).toList 8=some ([.nil,.agg [.lit (.int .i64 0),.lit (.int .i64 0),.lit (.int .i64 0),.lit (.int .i64 0)],.lit (.int .i64 0)],[],places) :=
 ⟨[],by kernel_rfl⟩
set_option maxRecDepth 100000 in
theorem TopAgain_lifted (os:Os) (started:os.Started) (H:Type) (enc:TypeId × Value→H) (F:Stop.Interp) :
  ReturnsInHanded {} Tryz.checked os 3 .any ((OpenSpec.ofChange Rows.topAgainSpec).preRow enc Tryz.prog Tryz.f3 Rows.topAgainRow.domain false Rows.topAgainRow.laid) (((OpenSpec.ofChange Rows.topAgainSpec).at F).post enc Tryz.prog Tryz.f3 false true false false):=by
 obtain ⟨places,hx⟩:=TopAgain_reads os enc
 refine returnsInHanded_of_row (C:=Tryz.checked) (s:=OpenSpec.ofChange Rows.topAgainSpec) own started (by kernel_rfl) Tryz.func3
  (witness_row_at (enc:=enc) (C:=Tryz.checked) false (gl_world os) #[.slice none 0 0,.agg #[.int .i64 0,.int .i64 0,.int .i64 0,.int .i64 0],.int .i64 0] rfl (by kernel_rfl) (by kernel_rfl) (by kernel_rfl)
   (OpenSpec.preRow_of_cond 8 hx (by kernel_rfl) (fun k hk=>by cases hk) (by kernel_rfl) (TopAgain_met os))) ?_
 intro W base args ds gs before hval hW _ _ hwt hL _ _
 exact TopAgain_contract H enc W base args ds gs before hval hwt hW hL
theorem TopAgain_row:Rows.TopAgainSaid:=TopAgain_over TopAgain_lifted
theorem TopAgain_said:Rows.TopAgainCardSaid :=
 Claim7.holds_tied_plain_at .later [] _ _ _ _ TopAgain_row (fun _ h=>by cases h) (by kernel_rfl) (fun _ h=>by cases h) topAgain_row_tie rfl ⟨rfl,rfl⟩ (by kernel_rfl) rfl TopAgain_plain (by kernel_rfl)
#print axioms TopAgain_said
end Go.Proofs.YtijdegmamdhcbaaGreatDoor
