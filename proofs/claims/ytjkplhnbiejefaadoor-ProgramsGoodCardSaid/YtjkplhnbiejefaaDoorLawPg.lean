/-
  Programs in which all names are there may be, and one with a name that is not is refused: the law ProgramsGood returns true for every list of raw things and every number, wherever the table of package barbicankeep holds what the program's text lays there.
-/
import Derived.Test.YtjkplhnbiejefaaDoorJProgramsGood
import Derived.Test.YtjkplhnbiejefaaDoorCards
import Derived.Test.YtjkplhnbiejefaaDoorTie
import Derived.Test.YtjkplhnbiejefaaDoorDgk
import Derived.Test.YtjkplhnbiejefaaDoorPo
import Derived.Test.YtjkplhnbiejefaaDoorPg
namespace Go.Proofs.YtjkplhnbiejefaaDoor
open Go Go.Dm Go.Eng Go.RowKit Go.ChangeShapes Go.WideShapes Go.ChangeAt Barb
set_option maxRecDepth 20000 in
set_option maxHeartbeats 8000000 in
theorem ProgramsGood_walk (l:List Raw) (hI:∀ r∈l,r.I) (hl:l.length*32≤140737488351232) (n:Int) (hn:I64 n):CT Tryd.prog gl 3 [.g (.sl 4 (l.map Raw.g)),.g (.int n)] (Is (.g (.bool true))):=by
 have hPr:=ProgramOwn_any l hl hI
 have hP:=programP_prog l
 obtain ⟨b1,b2,b3,us,hp⟩:=prog_head l
 rw[hp] at hPr hP
 have hgood:=prog_good hP
 have hC1:=NamesCheck_any _ (progE_I hgood (prog_few hP))
 rw[hgood] at hC1
 obtain ⟨k,hk,hkl⟩:=pickN_nat n (many:=6) (by decide)
 have hPk:=picked_any n 6 hn (by decide)
 rw[show pickN n 6=(k:Int) from hk] at hPk
 have hkl':k < oddL.length:=hkl
 have hC2:=NamesCheck_any _ (odd_I hP k hkl)
 have hodd:=prog_odd hP k hkl
 have hC3:=NamesCheck_any _ (twice_I hP)
 rw[prog_twice hP] at hC3
 have hb1:=(b1_I hP).1
 have hxg:(oddL.map Expr.g)[k]?=some (oddL[k]'hkl).g:=gm hkl'
 have heg:(oddE.map intG)[k]?=some [.int (oddE[k]'hkl)]:=gm (show k < oddE.length from hkl)
 generalize hx:oddL[k]'hkl=x at *
 generalize oddE[k]'hkl=e at *
 generalize hv:progE (unit1 [sx,sy] (sayX x :: b1) b2 b3 :: us)=v at *
 have hxe:=Expr.g_eq x
 have hsay:(sayX x).g=[.int 6,.str [],.sl 5 [x.g],.sl 5 [],.sl 5 []]:=rfl
 refine enterJ [7] hT hF hM Tryd.func3 rfl 84 rfl (by kernel_rfl) [.tmp 4] rfl [.g (.sl 4 (l.map Raw.g)),.g (.int n)] rfl _ ?_
 refine callQ (.inl rfl) hPr (fun d h' hq=>?_) (fun d hq=>?_)
 rotate_left
 ·obtain ⟨N,_,hq⟩:=hq;cases hq
 obtain ⟨N,hN,hq⟩:=hq
 injection hq with q1 q2;subst q1;subst q2
 match N,hN with
 | [],hN=>simp at hN
 | (a,b) :: N,hN =>
 have hN1:∀ u:Barb.Unit,((a,b) :: N).length=(u :: us).length:=fun u=>hN
 refine .inr (semSee [0,1] (see_prog 0 1 hN rfl rfl (fun q hq=>hq)) hC1 trivial ?_)
 refine ⟨fun h=>absurd rfl h,fun _=>?_⟩
 refine .inl (.inl ⟨[[.int 1,.int 0,.str [],.str [],.sl 5 []]],rfl,rfl,⟨rfl,rfl,rfl,rfl,⟨5,rfl⟩,trivial⟩,?_⟩)
 refine .inl (.inl (.inl (.inl ⟨[[.int 1,.int 0,.str [],.str [],.sl 5 []]],rfl,rfl,⟨rfl,rfl,rfl,rfl,⟨5,rfl⟩,trivial⟩,?_⟩)))
 refine .inl (.inl ⟨[[.int 2,.int 0,.str [],.str sgone,.sl 5 []],[.int 3,.int 0,.str [],.str sx,.sl 5 [[.int 1,.int 0,.str [],.str [],.sl 5 []]]],[.int 4,.int 0,.str [],.str sgone,.sl 5 []],[.int 4,.int 0,.str sgone,.str sf,.sl 5 []],[.int 4,.int 0,.str sone,.str sg,.sl 5 [[.int 1,.int 0,.str [],.str [],.sl 5 []]]],[.int 4,.int 0,.str [],.str sg,.sl 5 []]],rfl,rfl,⟨rfl,rfl,rfl,rfl,⟨5,rfl⟩,rfl,rfl,rfl,rfl,seesRow rfl rfl,rfl,rfl,rfl,rfl,⟨5,rfl⟩,rfl,rfl,rfl,rfl,⟨5,rfl⟩,rfl,rfl,rfl,rfl,seesRow rfl rfl,rfl,rfl,rfl,rfl,⟨5,rfl⟩,trivial⟩,?_⟩)
 refine ⟨[[.int 5],[.int 5],[.int 5],[.int 5],[.int 5],[.int 7]],rfl,rfl,⟨rfl,rfl,rfl,rfl,rfl,rfl,trivial⟩,?_⟩
 refine .inl (callIs (.inl rfl) hPk ?_)
 refine turn2 (turnTo [.old 0,.old 1] [(5,.row 0),(6,.g (.sl 5 (oddL.map Expr.g))),(7,.g (.sl 1 (oddE.map intG))),(8,.g (.int (k:Int)))] [.row (rowsU ((a,b) :: N) (unit1 [sx,sy] b1 b2 b3 :: us)) 41 4,.many (manyU 9 37 ((a,b) :: N) (unit1 [sx,sy] b1 b2 b3 :: us)) []] ⟨rfl,.inr ⟨⟨rfl,rfl,rfl⟩,⟨List.Perm.refl _,rfl⟩,trivial⟩,.inl rfl,rfl⟩ (turnLend 1 [(a,.row ([sx,sy].map strG) 9 1)] (manyU 9 37 N us) (.row ((unit1 [sx,sy] b1 b2 b3).funcs.map Fun.g) 37 4) rfl rfl (turnNo ?_)))
 refine ⟨some 80032,[19,0,0],rfl,?_⟩
 refine ⟨0,rfl,by simp[rowsU],?_⟩
 refine ⟨_,rfl,?_⟩
 refine ⟨k,_,rfl,hxg.trans (congrArg some hxe),?_⟩
 refine ⟨[[.int x.k,.int x.n,.str x.of,.str x.s,.sl 5 (x.args.map Expr.g)]],rfl,rfl,⟨rfl,rfl,rfl,rfl,rfl,trivial⟩,?_⟩
 refine ⟨[[.int 6,.str [],.sl 5 [[.int x.k,.int x.n,.str x.of,.str x.s,.sl 5 (x.args.map Expr.g)]],.sl 5 [],.sl 5 []]],rfl,rfl,⟨rfl,rfl,rfl,⟨5,rfl⟩,⟨5,rfl⟩,trivial⟩,⟨_,rfl⟩,Ex.app _ _,?_⟩
 refine ⟨0,rfl,by simp[rowsU],?_⟩
 refine ⟨_,rfl,?_⟩
 refine ⟨1,2,_,_,_,_,0,rfl,List.mem_cons_self,rfl,rfl,by simp[unit1],?_⟩
 refine ⟨_,rfl,?_⟩
 refine ⟨⟨by simp only[maxLen,List.length_cons,List.length_nil,Stmt.gs_map,List.length_map];omega,by simp only[List.length_cons,List.length_nil,Stmt.gs_map,List.length_map];omega⟩,(fun i o hi=>by
  match i,hi with
  | 0,hi=>exact hi
  | 1,hi=>exact hi
  | 2,hi=>exact hi
  | i+3,hi=>exact absurd (show (none:Option Dm.Obj)=some o from hi) (by simp)),?_⟩
 refine ⟨1,2,_,_,_,_,0,rfl,List.mem_cons_self,rfl,rfl,by simp[unit1],?_⟩
 refine ⟨_,[.sl 5 _],rfl,⟨seesRow rfl rfl,trivial⟩,Nat.le_refl 4,(show 2 ∉ [4] by decide),?_⟩
 refine .inr (ghHide 1 2 b (.row ((unit1 [sx,sy] (sayX x :: b1) b2 b3).funcs.map Fun.g) 37 4) rfl List.mem_cons_self rfl ⟨by rw[show (unit1 [sx,sy] (sayX x :: b1) b2 b3).funcs.map Fun.g=[[.str sf,.bool true,.sl 1 [[.str sp],[.str sq]],.sl 5 ((sayX x).g :: Stmt.gs b1)],[.str sg,.bool false,.sl 1 [[.str sp]],.sl 5 (Stmt.gs b2)],[.str sh,.bool true,.sl 1 [],.sl 5 (Stmt.gs b3)]] from rfl,hsay,hxe];rfl,rfl,rfl⟩ (ghNo ?_))
 refine .inr (semSee [0,1] (see_prog (p:=unit1 [sx,sy] (sayX x :: b1) b2 b3 :: us) 0 1 hN rfl rfl (fun q hq=>by
  simp only[manyU,pairZ,List.cons_append,List.nil_append,List.mem_cons] at hq
  rcases hq with rfl | rfl | hq
  ·exact List.mem_append_left _ List.mem_cons_self
  ·exact List.mem_append_right _ List.mem_cons_self
  ·exact List.mem_append_left _ (List.mem_cons_of_mem _ hq))) hC2 trivial ?_)
 refine ⟨0,rfl,by simp[rowsU],?_⟩
 refine ⟨_,rfl,.inr (ghLend 1 ((a,.row ([sx,sy].map strG) 9 1) :: manyU 9 37 N us) [] (.row ((unit1 [sx,sy] (sayX x :: b1) b2 b3).funcs.map Fun.g) 37 4) rfl rfl (ghNo ?_))⟩
 refine ⟨0,rfl,by simp[unit1],?_⟩
 refine ⟨_,[.sl 5 []],rfl,⟨⟨5,rfl⟩,trivial⟩,Nat.le_refl 4,(fun h=>by cases h),?_⟩
 refine .inr (ghHide 1 5 b (.row ((unit1 [sx,sy] [] b2 b3).funcs.map Fun.g) 37 4) rfl List.mem_cons_self rfl ⟨rfl,rfl,rfl⟩ (ghNo ?_))
 refine ⟨0,rfl,by simp[rowsU],?_⟩
 refine ⟨_,rfl,.inr (ghLend 1 [] (manyU 9 37 N us++[(b,.row ((unit1 [sx,sy] [] b2 b3).funcs.map Fun.g) 37 4)]) (.row ([sx,sy].map strG) 9 1) rfl (by simp) (ghNo ?_))⟩
 refine ⟨[[.str sarr]],rfl,rfl,⟨rfl,trivial⟩,?_⟩
 refine ⟨⟨by decide,by decide⟩,.inr (ghName 1 8 rfl rfl (fun a'=>ghHide 1 8 a' (.row ([sx,sy,sarr].map strG) 9 1) rfl List.mem_cons_self rfl ⟨rfl,rfl,rfl⟩ (ghNo ?_)))⟩
 refine ⟨0,rfl,by simp[rowsU],?_⟩
 refine ⟨_,[.raw a'],rfl,⟨rfl,trivial⟩,(show 0+1+1≤4 by decide),(fun h=>by cases h),.inl ?_⟩
 refine ⟨k,_,rfl,heg,?_⟩
 have hS:∀ q∈manyU 9 37 ((a',b) :: N) (unit1 [sx,sy,sarr] [] b2 b3 :: us),q∈([]++(manyU 9 37 N us++[(b,Ob0.row ((unit1 [sx,sy] [] b2 b3).funcs.map Fun.g) 37 4)]))++[(a',Ob0.row ([sx,sy,sarr].map strG) 9 1)]:=fun q hq=>by
  simp only[manyU,pairZ,List.cons_append,List.nil_append,List.mem_cons] at hq
  rcases hq with rfl | rfl | hq
  ·exact List.mem_append_right _ List.mem_cons_self
  ·exact List.mem_append_left _ (List.mem_append_right _ (List.mem_append_right _ List.mem_cons_self))
  ·exact List.mem_append_left _ (List.mem_append_right _ (List.mem_append_left _ hq))
 rcases hodd with rfl | rfl
 ·refine ⟨fun _=>?_,fun h=>absurd rfl h⟩
  refine .inr (semSee [0,1] (see_prog (tS:=9) (tF:=37) (N:=(a',b) :: N) (p:=unit1 [sx,sy,sarr] [] b2 b3 :: us) 0 1 hN rfl rfl hS) hC3 trivial ?_)
  exact ⟨rfl,retYes rfl⟩
 ·refine ⟨fun _=>?_,fun _=>⟨fun _=>?_,fun h=>absurd rfl h⟩⟩
  ·refine .inr (semSee [0,1] (see_prog (tS:=9) (tF:=37) (N:=(a',b) :: N) (p:=unit1 [sx,sy,sarr] [] b2 b3 :: us) 0 1 hN rfl rfl hS) hC3 trivial ?_)
   exact ⟨rfl,retYes rfl⟩
  ·refine .inr (semSee [0,1] (see_prog (tS:=9) (tF:=37) (N:=(a',b) :: N) (p:=unit1 [sx,sy,sarr] [] b2 b3 :: us) 0 1 hN rfl rfl hS) hC3 trivial ?_)
   exact ⟨rfl,retYes rfl⟩

set_option maxRecDepth 100000 in
theorem ProgramsGood_contract (H:Type) (enc:TypeId × Value→H) (W:World) (base:Nat) (args:Array Value) (ds gs:List (DataW H)) (before:List MemPlace)
  (hval:∀ (j:Nat) t v,Tryd.f3.params[j]?=some t→args[j]?=some v→Value.okWide Tryd.prog W .any base t v)
  (hwt:(DataW.weightsEach Tryd.prog (Tryd.f3.params.toList++Rows.programsGoodSpec.plain.varTypes Tryd.prog) (ds++gs)).all (·≤reachBytes)=true)
  (hW:DataW.Whole enc Tryd.prog Tryd.f3.params.toList Rows.programsGoodSpec.vars false W args.toList ds gs before) (hL:laidMetH Tryd.prog Rows.programsGoodRow.laid W) :
  Calls Tryd.prog 3 args W fun e W'=>∃ v,e=.returned v∧Rows.programsGoodSpec.post enc Tryd.prog Tryd.f3 false true false false W args v W':=by
 refine law_contractW plainS_ok laidOut rfl ?_ rfl Tryd.underlying4 (pars_ok (by kernel_rfl)) W ?_ base args ds gs before hval hwt hW
 ·intro ds hds
  match ds,hds with
  | [d0,d1],_=>rfl
 ·intro args hargs
  obtain ⟨v0,r0,rfl,h0,hargs⟩:=hargs.inv
  obtain ⟨v1,r1,rfl,h1,hargs⟩:=hargs.inv
  obtain rfl:=hargs.inv0
  obtain ⟨f0,g0,t0,R0⟩:=h0.slice Tryd.underlying22
  obtain ⟨x0,rfl,i0,b0⟩:=dec_Raws t0
  obtain ⟨x1,rfl,b1⟩:=h1.int Tryd.underlying3
  exact law_of_ctG (gl_ok hL) (ProgramsGood_walk x0 i0 b0 x1 b1) (args_cons (arg_g R0) (args_cons (arg_g (by simp only[RepV])) args_nil))
theorem ProgramsGood_met (os:Os):laidMet Tryd.prog Rows.programsGoodRow.laid ((gl_world os).forCall (fun _ _=>0) ⟨#[],#[.slice none 0 0,.int .i64 0],[]⟩).memory :=
 laidMet_of_run' 8 (by kernel_rfl) (by kernel_rfl)
theorem ProgramsGood_reads (os:Os) {H:Type} (enc:TypeId × Value→H):∃ places,DataW.whole enc Tryd.prog ((gl_world os).forCall (fun _ _=>0) ⟨#[],#[.slice none 0 0,.int .i64 0],[]⟩).memory Tryd.f3.params.toList Rows.programsGoodSpec.vars false (#[.slice none 0 0,.int .i64 0]:Array Value).toList 8=some ([.nil,.lit (.int .i64 0)],[],places) :=
 ⟨[],by kernel_rfl⟩
set_option maxRecDepth 100000 in
theorem ProgramsGood_lifted (os:Os) (started:os.Started) (H:Type) (enc:TypeId × Value→H) (F:Stop.Interp) :
  ReturnsInHanded {} Tryd.checked os 3 .any ((OpenSpec.ofChange Rows.programsGoodSpec).preRow enc Tryd.prog Tryd.f3 Rows.programsGoodRow.domain false Rows.programsGoodRow.laid) (((OpenSpec.ofChange Rows.programsGoodSpec).at F).post enc Tryd.prog Tryd.f3 false true false false):=by
 obtain ⟨places,hx⟩:=ProgramsGood_reads os enc
 refine returnsInHanded_of_row (C:=Tryd.checked) (s:=OpenSpec.ofChange Rows.programsGoodSpec) own started (by kernel_rfl) Tryd.func3
  (witness_row_at (enc:=enc) (C:=Tryd.checked) false (gl_world os) #[.slice none 0 0,.int .i64 0] rfl (by kernel_rfl) (by kernel_rfl) (by kernel_rfl)
   (OpenSpec.preRow_of_cond 8 hx (by kernel_rfl) (fun k hk=>by cases hk) (by kernel_rfl) (ProgramsGood_met os))) ?_
 intro W base args ds gs before hval hW _ _ hwt hL _ _
 exact ProgramsGood_contract H enc W base args ds gs before hval hwt hW hL
theorem ProgramsGood_row:Rows.ProgramsGoodSaid:=ProgramsGood_over ProgramsGood_lifted
theorem ProgramsGood_said:Rows.ProgramsGoodCardSaid :=
 Claim7.holds_tied_plain_at .later [] _ _ _ _ ProgramsGood_row (fun _ h=>by cases h) (by kernel_rfl) (fun _ h=>by cases h) programsGood_row_tie rfl ⟨rfl,rfl⟩ (by kernel_rfl) rfl ProgramsGood_plain (by kernel_rfl)
#print axioms ProgramsGood_said
end Go.Proofs.YtjkplhnbiejefaaDoor
