/-
  What a call does hangs on its cells and words alone: the law CallsAlone returns true for every list of raw things, raw thing and numbers, wherever the table of package barbicankeep holds what the program's text lays there.
-/
import Derived.Test.YtijdegmamdhcbaaDoorJCallsAlone
import Derived.Test.YtijdegmamdhcbaaDoorCards
import Derived.Test.YtijdegmamdhcbaaDoorTie
import Derived.Test.YtijdegmamdhcbaaDoorDgk
import Derived.Test.YtijdegmamdhcbaaDoorKl
namespace Go.Proofs.YtijdegmamdhcbaaDoor
open Go Go.Dm Go.Eng Go.RowKit Go.ChangeShapes Go.WideShapes Go.ChangeAt Barb
set_option maxRecDepth 20000 in
set_option maxHeartbeats 4000000 in
theorem CallsAlone_walk (l:List Raw) (hI:∀ r∈l,r.I) (hl:l.length*32≤140737488351232) (r:Raw) (hr:r.I) (a:Int) (ha:I64 a) (b:Int) (hb:I64 b) (n:Int) (hn:I64 n):CT Tryd.prog gl 7 [.g (.sl 4 (l.map Raw.g)),.agg r.d,.g (.int a),.g (.int b),.g (.int n)] (Is (.g (.bool true))):=by
 have hP:=programP_prog l
 have hgood:=prog_good hP
 have hpi:=progE_I hgood (prog_few hP)
 have hPr:=Program_isT l hl hI
 obtain ⟨hu,hun,hfn,h2⟩:=prog_one hP
 generalize programP l=p at *
 have hC:=Cells_isT p (progE_PC hgood) r hr
 have hc0:=cellsP_good hgood r
 obtain ⟨_,hcl,hcc⟩:=cellsE_ok hc0
 have h5:=(progE_inv hgood).1
 have hcI:=cells_I hgood hcl hcc
 generalize cellsP p r=cs at *
 obtain ⟨k,hk,hkl⟩:=pickN_nat n (many:=3000) (by decide)
 have hPa:=picked_any a 9 ha (by decide)
 have hPb:=picked_any b 9 hb (by decide)
 have hPn:=picked_any n 3000 hn (by decide)
 rw[show pickN n 3000=(k:Int) from hk] at hPn
 have wa:wd (pickN a 9):=pick_word (k:=9) (by decide) (by decide)
 have wb:wd (pickN b 9):=pick_word (k:=9) (by decide) (by decide)
 generalize pickN a 9=x at *
 generalize pickN b 9=y at *
 have hw:wds [x,y]:=fun z hz=>by
  simp only[List.mem_cons,List.not_mem_nil,or_false] at hz
  rcases hz with rfl | rfl
  ·exact wa
  ·exact wb
 have C1:=Call_any p hpi cs hcI (by omega) hc0 [111,110,101] [102] 0 0 hu hun hfn.1 hfn.2 [x,y] (by rw[h2];rfl) hw 0 k (by decide) (by omega)
 have C2:=Call_any p hpi cs hcI (by omega) hc0 [111,110,101] [102] 0 0 hu hun hfn.1 hfn.2 [x,y] (by rw[h2];rfl) hw 0 (k+500) (by decide) (by omega)
 have hs:SI p ⟨k,[],cs⟩:=⟨hcl,hcc,Nat.zero_le _,fun _ h=>by simp at h⟩
 have hs2:SI p ⟨k+500,[],cs⟩:=⟨hcl,hcc,Nat.zero_le _,fun _ h=>by simp at h⟩
 have hp:=PI.of hgood
 have B1:=(callF_I hp (evP_I hp k).2 hu hfn.1 (args:=[x,y]) (by rw[h2];rfl) hw 0 hs).rb
 have B2:=(callF_I hp (evP_I hp (k+500)).2 hu hfn.1 (args:=[x,y]) (by rw[h2];rfl) hw 0 hs2).rb
 have hUp:=callF_more p k 500 0 0 [x,y] 0 cs
 rw[callD_eq] at C1 C2
 unfold callR ansD at C1 C2
 have hn3:=hUp.not3
 have hi3:=hUp.is3
 clear hUp
 generalize callF p (evS p k) 0 0 [x,y] 0 ⟨k,[],cs⟩=R1 at *
 generalize callF p (evS p (k+500)) 0 0 [x,y] 0 ⟨k+500,[],cs⟩=R2 at *
 have c1l:=B1.si.len
 have c1c:=B1.si.ok
 have c1I:=cells_I hgood c1l c1c
 have t1l:=B1.si.told
 have t2l:=B2.si.told
 have hS:=CheckStores_any p hpi R1.st.cells c1I (by omega)
 rw[cellsE_yes hgood c1l c1c] at hS
 have e1:=B1.code
 generalize R1.st.cells=d1 at *
 generalize R2.st.cells=d2 at *
 refine enterJ [5] hT hF hM Tryd.func7 rfl 119 rfl (by kernel_rfl) [.tmp 10] rfl [.g (.sl 4 (l.map Raw.g)),.agg r.d,.g (.int a),.g (.int b),.g (.int n)] rfl _ ?_
 refine callIs (.inl rfl) hPr ?_
 refine callIs (.inl rfl) hC ?_
 refine callIs (.inl rfl) hPa ?_
 refine callIs (.inl rfl) hPb ?_
 refine ⟨[[.int x],[.int y]],rfl,rfl,⟨rfl,rfl,trivial⟩,?_⟩
 refine callIs (.inl rfl) hPn ?_
 refine turnTo [] [(11,.g (.sl 4 (p.map Unit.g))),(12,.g (.sl 2 (cs.map Cells.g))),(13,.g (.sl 1 ([x,y].map intG))),(14,.g (.int k))] [] ⟨rfl,.inl rfl,.inl rfl,rfl⟩ ?_
 refine callIs (.inl rfl) C1 ?_
 refine ⟨((k+500:Nat):Int),(I64.wrap (by unfold I64;omega)).trans (by push_cast;rfl),?_⟩
 refine callIs (.inl rfl) C2 ?_
 have la:(R1.st.told.map intG).length=R1.st.told.length:=List.length_map _
 have lb:(R2.st.told.map intG).length=R2.st.told.length:=List.length_map _
 refine ⟨fun h=>absurd rfl h,fun _=>⟨fun h=>absurd rfl h,fun _=>⟨fun h=>absurd (show R1.code=0 from h) (by omega),fun _=>?_⟩⟩⟩
 refine callIs (.inl rfl) hS ?_
 refine ⟨fun h=>absurd rfl h,fun _=>?_⟩
 refine ⟨fun e3=>?_,fun e3=>?_⟩
 ·obtain ⟨hv,t,ht⟩:=hi3 e3
  have hlen2:R1.st.told.length≤R2.st.told.length:=by rw[← ht];simp
  have htk:(R2.st.told.map intG).take (R1.st.told.map intG).length=R1.st.told.map intG:=by
   rw[la,← List.map_take,← ht,List.take_left]
  refine ⟨none,rfl,fun _=>⟨fun _=>?_,fun h=>absurd (show ((R1.st.told.map intG).length:Int)≤((R2.st.told.map intG).length:Nat) by rw[la,lb];omega) h⟩,fun h=>absurd hv h⟩
  refine ⟨(R1.st.told.map intG).length,rfl,(by rw[la,lb];exact hlen2),?_⟩
  refine ⟨[.g (.sl 1 (R1.st.told.map intG)),.g (.sl 1 (R1.st.told.map intG))],_,(show likeA [.g (.sl 1 ((R2.st.told.map intG).take (R1.st.told.map intG).length)),.g (.sl 1 (R1.st.told.map intG))] [.g (.sl 1 (R1.st.told.map intG)),.g (.sl 1 (R1.st.told.map intG))] from .inr ⟨lkL htk,lk rfl,trivial⟩),EqualN_any R1.st.told (by omega),rfl,?_⟩
  exact ⟨rfl,retIs (.inl rfl)⟩
 ·obtain ⟨f1,f2,f3,f4⟩:=hn3 e3
  refine ⟨fun _=>⟨fun _=>?_,fun h=>absurd f2.symm h⟩,fun h=>absurd f1.symm h⟩
  refine callIs (show likeA [.g (.sl 1 (R1.st.told.map intG)),.g (.sl 1 (R2.st.told.map intG))] [.g (.sl 1 (R1.st.told.map intG)),.g (.sl 1 (R1.st.told.map intG))] from .inr ⟨lk rfl,lkL (by rw[f3]),trivial⟩) (EqualN_any R1.st.told (by omega)) ?_
  refine callIs (show likeA [.g (.sl 2 (d1.map Cells.g)),.g (.sl 2 (d2.map Cells.g))] [.g (.sl 2 (d1.map Cells.g)),.g (.sl 2 (d1.map Cells.g))] from .inr ⟨lk rfl,lkL (by rw[f4]),trivial⟩) (sameCells_any d1 (by omega) c1I) ?_
  exact ⟨rfl,retIs (.inl rfl)⟩


set_option maxRecDepth 100000 in
theorem CallsAlone_contract (H:Type) (enc:TypeId × Value→H) (W:World) (base:Nat) (args:Array Value) (ds gs:List (DataW H)) (before:List MemPlace)
  (hval:∀ (j:Nat) t v,Tryd.f7.params[j]?=some t→args[j]?=some v→Value.okWide Tryd.prog W .any base t v)
  (hwt:(DataW.weightsEach Tryd.prog (Tryd.f7.params.toList++Rows.callsAloneSpec.plain.varTypes Tryd.prog) (ds++gs)).all (·≤reachBytes)=true)
  (hW:DataW.Whole enc Tryd.prog Tryd.f7.params.toList Rows.callsAloneSpec.vars false W args.toList ds gs before) (hL:laidMetH Tryd.prog Rows.callsAloneRow.laid W) :
  Calls Tryd.prog 7 args W fun e W'=>∃ v,e=.returned v∧Rows.callsAloneSpec.post enc Tryd.prog Tryd.f7 false true false false W args v W':=by
 refine law_contractW plainS_ok laidOut rfl ?_ rfl Tryd.underlying4 (pars_ok (by kernel_rfl)) W ?_ base args ds gs before hval hwt hW
 ·intro ds hds
  match ds,hds with
  | [d0,d1,d2,d3,d4],_=>rfl
 ·intro args hargs
  obtain ⟨v0,r0,rfl,h0,hargs⟩:=hargs.inv
  obtain ⟨v1,r1,rfl,h1,hargs⟩:=hargs.inv
  obtain ⟨v2,r2,rfl,h2,hargs⟩:=hargs.inv
  obtain ⟨v3,r3,rfl,h3,hargs⟩:=hargs.inv
  obtain ⟨v4,r4,rfl,h4,hargs⟩:=hargs.inv
  obtain rfl:=hargs.inv0
  obtain ⟨f0,g0,t0,R0⟩:=h0.slice Tryd.underlying22
  obtain ⟨x0,rfl,i0,b0⟩:=dec_Raws t0
  obtain ⟨f1,g1,c1,rfl,t1,R1⟩:=h1.struct Tryd.underlying24
  obtain ⟨x1,rfl,b1⟩:=dec_Raw t1
  obtain ⟨x2,rfl,b2⟩:=h2.int Tryd.underlying3
  obtain ⟨x3,rfl,b3⟩:=h3.int Tryd.underlying3
  obtain ⟨x4,rfl,b4⟩:=h4.int Tryd.underlying3
  exact law_of_ctG (gl_ok hL) (CallsAlone_walk x0 i0 b0 x1 b1 x2 b2 x3 b3 x4 b4) (args_cons (arg_g R0) (args_cons (arg_agg R1) (args_cons (arg_g (by simp only[RepV])) (args_cons (arg_g (by simp only[RepV])) (args_cons (arg_g (by simp only[RepV])) args_nil)))))
theorem CallsAlone_met (os:Os):laidMet Tryd.prog Rows.callsAloneRow.laid ((gl_world os).forCall (fun _ _=>0) ⟨#[],#[.slice none 0 0,.agg #[.int .i64 0,.int .i64 0,.int .i64 0,.int .i64 0],.int .i64 0,.int .i64 0,.int .i64 0],[]⟩).memory :=
 laidMet_of_run' 8 (by kernel_rfl) (by kernel_rfl)
theorem CallsAlone_reads (os:Os) {H:Type} (enc:TypeId × Value→H):∃ places,DataW.whole enc Tryd.prog ((gl_world os).forCall (fun _ _=>0) ⟨#[],#[.slice none 0 0,.agg #[.int .i64 0,.int .i64 0,.int .i64 0,.int .i64 0],.int .i64 0,.int .i64 0,.int .i64 0],[]⟩).memory Tryd.f7.params.toList Rows.callsAloneSpec.vars false (#[.slice none 0 0,.agg #[.int .i64 0,.int .i64 0,.int .i64 0,.int .i64 0],.int .i64 0,.int .i64 0,.int .i64 0]:Array Value).toList 8=some ([.nil,.agg [.lit (.int .i64 0),.lit (.int .i64 0),.lit (.int .i64 0),.lit (.int .i64 0)],.lit (.int .i64 0),.lit (.int .i64 0),.lit (.int .i64 0)],[],places) :=
 ⟨[],by kernel_rfl⟩
set_option maxRecDepth 100000 in
theorem CallsAlone_lifted (os:Os) (started:os.Started) (H:Type) (enc:TypeId × Value→H) (F:Stop.Interp) :
  ReturnsInHanded {} Tryd.checked os 7 .any ((OpenSpec.ofChange Rows.callsAloneSpec).preRow enc Tryd.prog Tryd.f7 Rows.callsAloneRow.domain false Rows.callsAloneRow.laid) (((OpenSpec.ofChange Rows.callsAloneSpec).at F).post enc Tryd.prog Tryd.f7 false true false false):=by
 obtain ⟨places,hx⟩:=CallsAlone_reads os enc
 refine returnsInHanded_of_row (C:=Tryd.checked) (s:=OpenSpec.ofChange Rows.callsAloneSpec) own started (by kernel_rfl) Tryd.func7
  (witness_row_at (enc:=enc) (C:=Tryd.checked) false (gl_world os) #[.slice none 0 0,.agg #[.int .i64 0,.int .i64 0,.int .i64 0,.int .i64 0],.int .i64 0,.int .i64 0,.int .i64 0] rfl (by kernel_rfl) (by kernel_rfl) (by kernel_rfl)
   (OpenSpec.preRow_of_cond 8 hx (by kernel_rfl) (fun k hk=>by cases hk) (by kernel_rfl) (CallsAlone_met os))) ?_
 intro W base args ds gs before hval hW _ _ hwt hL _ _
 exact CallsAlone_contract H enc W base args ds gs before hval hwt hW hL
theorem CallsAlone_row:Rows.CallsAloneSaid:=CallsAlone_over CallsAlone_lifted
theorem CallsAlone_said:Rows.CallsAloneCardSaid :=
 Claim7.holds_tied_plain_at .later [] _ _ _ _ CallsAlone_row (fun _ h=>by cases h) (by kernel_rfl) (fun _ h=>by cases h) callsAlone_row_tie rfl ⟨rfl,rfl⟩ (by kernel_rfl) rfl CallsAlone_plain (by kernel_rfl)
#print axioms CallsAlone_said
end Go.Proofs.YtijdegmamdhcbaaDoor
