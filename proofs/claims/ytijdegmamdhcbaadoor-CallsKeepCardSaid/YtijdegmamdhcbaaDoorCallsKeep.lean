/-
  A call changes the cells of the units alone that it reaches: the law CallsKeep returns true for every list of raw things, raw thing and number, wherever the table of package barbicankeep holds what the program's text lays there.
-/
import Derived.Test.YtijdegmamdhcbaaDoorJCallsKeep
import Derived.Test.YtijdegmamdhcbaaDoorCards
import Derived.Test.YtijdegmamdhcbaaDoorTie
import Derived.Test.YtijdegmamdhcbaaDoorDgk
import Derived.Test.YtijdegmamdhcbaaDoorKp
namespace Go.Proofs.YtijdegmamdhcbaaDoor
open Go Go.Dm Go.Eng Go.RowKit Go.ChangeShapes Go.WideShapes Go.ChangeAt Barb
set_option maxRecDepth 20000 in
set_option maxHeartbeats 4000000 in
theorem CallsKeep_walk (l:List Raw) (hI:∀ r∈l,r.I) (hl:l.length*32≤140737488351232) (r:Raw) (hr:r.I) (n:Int) (hn:I64 n):CT Tryd.prog gl 8 [.g (.sl 4 (l.map Raw.g)),.agg r.d,.g (.int n)] (Is (.g (.bool true))):=by
 have hP:=programP_prog l
 have hlen:=prog_len hP
 have hm3:=hP.m
 have hgood:=far_good hP
 have hpi:=progE_I hgood (far_few hP)
 have hPr:=Program_Q l hl hI (fun o=>o=.ret (.row 0) [.row ((programP l).map Unit.g) 74 4]) (fun h i hi=>retRow hi rfl rfl)
 have hidx:=far_idx hP
 generalize programP l=q at *
 have hat:=far_at q
 have hC:=Cells_isT (q++[farU]) (progE_PC hgood) r hr
 have hc0:=cellsP_good hgood r
 obtain ⟨_,hcl,hcc⟩:=cellsE_ok hc0
 have hcI:=cells_I hgood hcl hcc
 obtain ⟨cs,v,e,hcs,hv⟩:=far_cells q r
 rw[e] at hC hc0 hcl hcc hcI
 obtain ⟨k,hk,hkl⟩:=pickN_nat n (many:=1000) (by decide)
 have hPn:=picked_any n 1000 hn (by decide)
 rw[show pickN n 1000=(k:Int) from hk] at hPn
 have hpl:(q++[farU]).length=q.length+1:=by simp
 have C1:=Call_any (q++[farU]) hpi (cs++[⟨[v],[]⟩]) hcI (by simp;omega) hc0 sfar sf q.length 0 (by omega) hidx (by rw[hat];decide) (by rw[hat];exact idx_at (q:=fun f:Fun=>f.name=sf) (l:=farU.funcs) (i:=0) (by decide) (fun j hj h=>absurd h (Nat.not_lt_zero _)) rfl) [(k:Int)] (by rw[hat];rfl) (fun z hz=>by rcases List.mem_singleton.1 hz with rfl;exact ⟨by omega,by omega⟩) 0 100 (by decide) (by decide)
 rw[callD_eq] at C1
 unfold callR at C1
 rw[far_done hcs hv (n:=(k:Int)) (by omega)] at C1
 have hcI2:∀ c∈cs,Cells.I c:=fun c hc=>hcI c (List.mem_append_left _ hc)
 have lq:(q.map Unit.g).length=q.length:=List.length_map _
 have hug:q.map Unit.g++[farU.g]=(q++[farU]).map Unit.g:=by rw[List.map_append];rfl
 refine enterJ [3,5,7] hT hF hM Tryd.func8 rfl 93 rfl (by kernel_rfl) [.tmp 6] rfl [.g (.sl 4 (l.map Raw.g)),.agg r.d,.g (.int n)] rfl _ ?_
 refine callQ (.inl rfl) hPr (fun d h' hq=>?_) (fun d hq=>by cases hq)
 injection hq with q1 q2;subst q1;subst q2
 refine ⟨[[.str sv]],rfl,rfl,⟨rfl,trivial⟩,?_⟩
 refine ⟨[[.str sp]],rfl,rfl,⟨rfl,trivial⟩,?_⟩
 refine ⟨[[.int 2,.int 0,.str [],.str sv,.sl 5 []],[.int 2,.int 0,.str [],.str sp,.sl 5 []]],rfl,rfl,⟨rfl,rfl,rfl,rfl,⟨5,rfl⟩,rfl,rfl,rfl,rfl,⟨5,rfl⟩,trivial⟩,?_⟩
 refine ⟨[[.int 5,.int 1,.str [],.str [],.sl 5 [[.int 2,.int 0,.str [],.str sv,.sl 5 []],[.int 2,.int 0,.str [],.str sp,.sl 5 []]]]],rfl,rfl,⟨rfl,rfl,rfl,rfl,rfl,trivial⟩,?_⟩
 refine ⟨[[.int 2,.int 0,.str [],.str sv,.sl 5 []]],rfl,rfl,⟨rfl,rfl,rfl,rfl,⟨5,rfl⟩,trivial⟩,?_⟩
 refine ⟨farB.map Stmt.g,rfl,rfl,⟨rfl,rfl,rfl,⟨5,rfl⟩,⟨5,rfl⟩,rfl,rfl,rfl,⟨5,rfl⟩,⟨5,rfl⟩,trivial⟩,?_⟩
 refine ⟨[farF.g],rfl,rfl,⟨rfl,rfl,rfl,rfl,trivial⟩,?_⟩
 refine ⟨[farU.g],rfl,rfl,⟨rfl,rfl,⟨2,rfl⟩,rfl,trivial⟩,?_⟩
 refine ⟨⟨by rw[lq];simp[maxLen];omega,by rw[lq];simp;omega⟩,?_⟩
 refine turnTo [.old 0] [(2,.g (.int n)),(4,.ptr 0 0),(7,.g (.sl 4 ((q++[farU]).map Unit.g)))] [.blk r.d 24] ⟨rfl,.inl rfl,.inr ⟨lk rfl,lk rfl,lkL hug,trivial⟩,rfl⟩ ?_
 refine callIs (.inl rfl) hC ?_
 refine callIs (.inl rfl) hPn ?_
 refine turnTo [] [(7,.g (.sl 4 ((q++[farU]).map Unit.g))),(8,.g (.sl 2 ((cs++[(⟨[v],[]⟩:Cells)]).map Cells.g))),(9,.g (.int k))] [] ⟨rfl,.inl rfl,.inl rfl,rfl⟩ ?_
 refine ⟨[[.int k]],rfl,rfl,⟨rfl,trivial⟩,?_⟩
 refine callIs (.inl rfl) C1 ?_
 have lp:((q++[farU]).map Unit.g).length=q.length+1:=by simp
 refine ⟨by rw[lp];unfold I64;omega,?_⟩
 refine turnTo [.old 1] [(8,.g (.sl 2 ((cs++[(⟨[v],[]⟩:Cells)]).map Cells.g))),(9,.g (.int k)),(10,.ptr 0 0),(11,.g (.sl 2 ((cs++[(⟨[v+k],[]⟩:Cells)]).map Cells.g))),(12,.g (.int 0)),(13,.g (.int q.length))] [.blk [.g (.int 1),.g (.int (v+k)),.g (.sl 1 []),.g (.sl 1 []),.g (.sl 7 [])] 37]
  ⟨rfl,.inl rfl,.inr ⟨lk rfl,lk rfl,lk rfl,lk rfl,lk rfl,lkI (by rw[lp];push_cast;omega),trivial⟩,rfl⟩ ?_
 have g1:((cs++[(⟨[v],[]⟩:Cells)]).map Cells.g)[q.length]?=some [.sl 1 [[.int v]],.sl 1 []]:=by rw[← hcs];simp[Cells.g,intG]
 have g2:((cs++[(⟨[v+k],[]⟩:Cells)]).map Cells.g)[q.length]?=some [.sl 1 [[.int (v+k)]],.sl 1 []]:=by rw[← hcs];simp[Cells.g,intG]
 refine ⟨none,rfl,⟨fun _=>⟨fun _=>?_,fun h=>absurd rfl h⟩,fun h=>absurd rfl h⟩⟩
 refine ⟨q.length,_,rfl,g1,0,_,rfl,rfl,?_⟩
 refine ⟨_,I64.wrap (by unfold I64;omega),?_⟩
 refine ⟨fun _=>?_,fun h=>absurd rfl h⟩
 refine ⟨q.length,_,rfl,g2,0,_,rfl,rfl,?_⟩
 refine ⟨fun _=>?_,fun h=>absurd rfl h⟩
 have t1:((cs++[(⟨[v],[]⟩:Cells)]).map Cells.g).take q.length=cs.map Cells.g:=by rw[← List.map_take,← hcs,List.take_left]
 have t2:((cs++[(⟨[v+k],[]⟩:Cells)]).map Cells.g).take q.length=cs.map Cells.g:=by rw[← List.map_take,← hcs,List.take_left]
 have l1:((cs++[(⟨[v],[]⟩:Cells)]).map Cells.g).length=q.length+1:=by simp[hcs]
 have l2:((cs++[(⟨[v+k],[]⟩:Cells)]).map Cells.g).length=q.length+1:=by simp[hcs]
 refine ⟨q.length,rfl,(by rw[l2];omega),?_⟩
 refine ⟨q.length,rfl,(by rw[l1];omega),?_⟩
 refine ⟨[.g (.sl 2 (cs.map Cells.g)),.g (.sl 2 (cs.map Cells.g))],_,(show likeA [.g (.sl 2 (((cs++[(⟨[v+k],[]⟩:Cells)]).map Cells.g).take q.length)),.g (.sl 2 (((cs++[(⟨[v],[]⟩:Cells)]).map Cells.g).take q.length))] [.g (.sl 2 (cs.map Cells.g)),.g (.sl 2 (cs.map Cells.g))] from .inr ⟨lkL t2,lkL t1,trivial⟩),sameCells_any cs (by omega) hcI2,rfl,?_⟩
 exact ⟨rfl,retIs (.inl rfl)⟩


set_option maxRecDepth 100000 in
theorem CallsKeep_contract (H:Type) (enc:TypeId × Value→H) (W:World) (base:Nat) (args:Array Value) (ds gs:List (DataW H)) (before:List MemPlace)
  (hval:∀ (j:Nat) t v,Tryd.f8.params[j]?=some t→args[j]?=some v→Value.okWide Tryd.prog W .any base t v)
  (hwt:(DataW.weightsEach Tryd.prog (Tryd.f8.params.toList++Rows.callsKeepSpec.plain.varTypes Tryd.prog) (ds++gs)).all (·≤reachBytes)=true)
  (hW:DataW.Whole enc Tryd.prog Tryd.f8.params.toList Rows.callsKeepSpec.vars false W args.toList ds gs before) (hL:laidMetH Tryd.prog Rows.callsKeepRow.laid W) :
  Calls Tryd.prog 8 args W fun e W'=>∃ v,e=.returned v∧Rows.callsKeepSpec.post enc Tryd.prog Tryd.f8 false true false false W args v W':=by
 refine law_contractW plainS_ok laidOut rfl ?_ rfl Tryd.underlying4 (pars_ok (by kernel_rfl)) W ?_ base args ds gs before hval hwt hW
 ·intro ds hds
  match ds,hds with
  | [d0,d1,d2],_=>rfl
 ·intro args hargs
  obtain ⟨v0,r0,rfl,h0,hargs⟩:=hargs.inv
  obtain ⟨v1,r1,rfl,h1,hargs⟩:=hargs.inv
  obtain ⟨v2,r2,rfl,h2,hargs⟩:=hargs.inv
  obtain rfl:=hargs.inv0
  obtain ⟨f0,g0,t0,R0⟩:=h0.slice Tryd.underlying22
  obtain ⟨x0,rfl,i0,b0⟩:=dec_Raws t0
  obtain ⟨f1,g1,c1,rfl,t1,R1⟩:=h1.struct Tryd.underlying24
  obtain ⟨x1,rfl,b1⟩:=dec_Raw t1
  obtain ⟨x2,rfl,b2⟩:=h2.int Tryd.underlying3
  exact law_of_ctG (gl_ok hL) (CallsKeep_walk x0 i0 b0 x1 b1 x2 b2) (args_cons (arg_g R0) (args_cons (arg_agg R1) (args_cons (arg_g (by simp only[RepV])) args_nil)))
theorem CallsKeep_met (os:Os):laidMet Tryd.prog Rows.callsKeepRow.laid ((gl_world os).forCall (fun _ _=>0) ⟨#[],#[.slice none 0 0,.agg #[.int .i64 0,.int .i64 0,.int .i64 0,.int .i64 0],.int .i64 0],[]⟩).memory :=
 laidMet_of_run' 8 (by kernel_rfl) (by kernel_rfl)
theorem CallsKeep_reads (os:Os) {H:Type} (enc:TypeId × Value→H):∃ places,DataW.whole enc Tryd.prog ((gl_world os).forCall (fun _ _=>0) ⟨#[],#[.slice none 0 0,.agg #[.int .i64 0,.int .i64 0,.int .i64 0,.int .i64 0],.int .i64 0],[]⟩).memory Tryd.f8.params.toList Rows.callsKeepSpec.vars false (#[.slice none 0 0,.agg #[.int .i64 0,.int .i64 0,.int .i64 0,.int .i64 0],.int .i64 0]:Array Value).toList 8=some ([.nil,.agg [.lit (.int .i64 0),.lit (.int .i64 0),.lit (.int .i64 0),.lit (.int .i64 0)],.lit (.int .i64 0)],[],places) :=
 ⟨[],by kernel_rfl⟩
set_option maxRecDepth 100000 in
theorem CallsKeep_lifted (os:Os) (started:os.Started) (H:Type) (enc:TypeId × Value→H) (F:Stop.Interp) :
  ReturnsInHanded {} Tryd.checked os 8 .any ((OpenSpec.ofChange Rows.callsKeepSpec).preRow enc Tryd.prog Tryd.f8 Rows.callsKeepRow.domain false Rows.callsKeepRow.laid) (((OpenSpec.ofChange Rows.callsKeepSpec).at F).post enc Tryd.prog Tryd.f8 false true false false):=by
 obtain ⟨places,hx⟩:=CallsKeep_reads os enc
 refine returnsInHanded_of_row (C:=Tryd.checked) (s:=OpenSpec.ofChange Rows.callsKeepSpec) own started (by kernel_rfl) Tryd.func8
  (witness_row_at (enc:=enc) (C:=Tryd.checked) false (gl_world os) #[.slice none 0 0,.agg #[.int .i64 0,.int .i64 0,.int .i64 0,.int .i64 0],.int .i64 0] rfl (by kernel_rfl) (by kernel_rfl) (by kernel_rfl)
   (OpenSpec.preRow_of_cond 8 hx (by kernel_rfl) (fun k hk=>by cases hk) (by kernel_rfl) (CallsKeep_met os))) ?_
 intro W base args ds gs before hval hW _ _ hwt hL _ _
 exact CallsKeep_contract H enc W base args ds gs before hval hwt hW hL
theorem CallsKeep_row:Rows.CallsKeepSaid:=CallsKeep_over CallsKeep_lifted
theorem CallsKeep_said:Rows.CallsKeepCardSaid :=
 Claim7.holds_tied_plain_at .later [] _ _ _ _ CallsKeep_row (fun _ h=>by cases h) (by kernel_rfl) (fun _ h=>by cases h) callsKeep_row_tie rfl ⟨rfl,rfl⟩ (by kernel_rfl) rfl CallsKeep_plain (by kernel_rfl)
#print axioms CallsKeep_said
end Go.Proofs.YtijdegmamdhcbaaDoor
