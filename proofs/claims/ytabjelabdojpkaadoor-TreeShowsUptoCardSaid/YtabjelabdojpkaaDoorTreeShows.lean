/-
  A unit is shown as the document says: the law TreeShows returns true for every unit that is of bulk at most 1048576 (the second form), wherever the library's variables and the table of signs hold what their text lays there.
-/
import Derived.Test.YtabjelabdojpkaaDoorJTreeShows
import Derived.Test.YtabjelabdojpkaaDoorCards
import Derived.Test.YtabjelabdojpkaaDoorTie
import Derived.Test.YtabjelabdojpkaaDoorDv
import Derived.Test.YtabjelabdojpkaaDoorWg0
import Derived.Lay
namespace Go.Proofs.YtabjelabdojpkaaDoor
open Go Go.Dm Go.Eng Go.RowKit Go.ChangeShapes Go.WideShapes Go.ChangeAt Barb
theorem stmtsN_g:∀ (n:Nat) (l:List Barb.Stmt),stmtsN n l≤(nRows (l.map Stmt.g):Int)
 | 0,l=>by rw[stmtsN];omega
 | n+1,l=>by
  induction l with
  | nil=>simp[stmtsN]
  | cons x l il =>
   have h1:=stmtsN_g n x.b
   have h2:=stmtsN_g n x.e
   rw[List.map_cons,Stmt.g_eq]
   simp only[nRows,nRow,nG]
   simp only[stmtsN,List.length_cons,List.map_cons,List.sum_cons,stmtN1_eq] at il ⊢
   omega
theorem manyN_g:∀ l:List Fun,manyN l≤(nRows (l.map Fun.g):Int)
 | []=>by simp[manyN]
 | f :: l=>by
  have h1:=manyN_g l
  have h2:=stmtsN_g 12 f.body
  have e:manyN (f :: l)=stmtsN 12 f.body+manyN l:=by simp[manyN]
  rw[e,List.map_cons,Fun.g_eq]
  simp only[nRows,nRow,nG]
  omega
theorem manyN_0:∀ l:List Fun,0≤manyN l
 | []=>by simp[manyN]
 | f :: l=>by
  have h1:=manyN_0 l
  have h2:=many_0 12 f.body
  have e:manyN (f :: l)=stmtsN 12 f.body+manyN l:=by simp[manyN]
  omega
theorem unit_few {u:Barb.Unit} (hb:nRow u.g≤1048576) (hU:unitE u=0):manyN u.funcs≤300:=by
 have h1:=manyN_g u.funcs
 have h3:=manyN_0 u.funcs
 have h2:nRows (u.funcs.map Fun.g)≤nRow u.g:=by
  simp only[Barb.Unit.g,nRow,nG]
  omega
 unfold unitE at hU
 repeat' (split at hU)
 all_goals (try omega)
 rename_i h
 rw[I64.wrap (by unfold I64;omega)] at h
 omega
theorem TreeShows_walk (u:Barb.Unit) (hu:u.I) (hb:nRow u.g≤1048576):CT Tryd.prog g0 3 [.agg u.d] (Is (.g (.bool true))):=by
 have hS:=Show_any u hu (unit_few hb)
 have hTx:=UnitText_any u hu (unit_few hb)
 generalize shR u=s at *
 generalize unitE u=e at *
 refine enter hT hF hM Tryd.func3 rfl 25 rfl (by kernel_rfl) [.tmp 2] rfl [.agg u.d] rfl _ ?_
 refine callIs (.inl rfl) hS ?_
 refine callIs (.inl rfl) hTx ?_
 refine ⟨fun _=>?_,fun h=>absurd rfl h⟩
 exact ⟨rfl,retYes rfl⟩

theorem TreeShows_gl {W:World} (h:laidMetH Tryd.prog Rows.treeShowsUptoRow.laid W):GlOk g0 (fun k=>k < W.heap.size) W:=by
 have e:(Rows.treeShowsUptoRow.laid.filter fun x=>x.2.handleName?.isSome)=[]:=by kernel_rfl
 unfold laidMetH at h
 rw[e] at h
 have h3:laidMet Tryd.prog Rows.treeShowsUptoRow.laid W:=h
 exact g0_laid h3.tail.tail
set_option maxRecDepth 100000 in
theorem TreeShows_contract (H:Type) (enc:TypeId × Value→H) (W:World) (base:Nat) (args:Array Value) (ds gs:List (DataW H)) (before:List MemPlace)
  (hval:∀ (j:Nat) t v,Tryd.f3.params[j]?=some t→args[j]?=some v→Value.okWide Tryd.prog W .any base t v)
  (hwt:(DataW.weightsEach Tryd.prog (Tryd.f3.params.toList++Rows.treeShowsSpec.plain.varTypes Tryd.prog) (ds++gs)).all (·≤reachBytes)=true)
  (hW:DataW.Whole enc Tryd.prog Tryd.f3.params.toList Rows.treeShowsSpec.vars false W args.toList ds gs before) (hk:Rows.uptoSmall H (ds++gs)=true) (hL:laidMetH Tryd.prog Rows.treeShowsUptoRow.laid W) :
  Calls Tryd.prog 3 args W fun e W'=>∃ v,e=.returned v∧Rows.treeShowsSpec.post enc Tryd.prog Tryd.f3 false true false false W args v W':=by
 refine law_contractUW (s:=Rows.treeShowsSpec) plainS_ok laidOut rfl ?_ rfl Tryd.underlying4 (pars_ok (by kernel_rfl)) W ?_ base args ds gs before hval hwt hk hW
 ·intro ds hds
  match ds,hds with
  | [d0],_=>rfl
 ·intro args hargs
  obtain ⟨v0,r0,rfl,h0,hargs⟩:=hargs.inv
  obtain rfl:=hargs.inv0
  obtain ⟨f0,gs0,t0,R0,c0,n0⟩:=h0
  simp only[Tryd.underlying26] at c0
  obtain ⟨⟨cs0⟩,rfl⟩:=c0
  obtain ⟨x0,rfl,b0⟩:=dec_Unit t0
  exact law_of_ctG (TreeShows_gl hL) (TreeShows_walk x0 b0 n0) (args_cons (arg_agg R0) args_nil)
noncomputable def TreeShows_world (os:Os):World:=World.laidAll Tryd.prog os Rows.treeShowsUptoRow.laid
theorem TreeShows_met (os:Os):laidMet Tryd.prog Rows.treeShowsUptoRow.laid ((TreeShows_world os).forCall (fun _ _=>0) ⟨#[],#[.agg #[.string ⟨⟨[]⟩⟩,.slice none 0 0,.slice none 0 0,.slice none 0 0]],[]⟩).memory :=
 laidMet_laidAll _ (by kernel_rfl) (by kernel_rfl)
theorem TreeShows_reads (os:Os) {H:Type} (enc:TypeId × Value→H):∃ places,DataW.whole enc Tryd.prog ((TreeShows_world os).forCall (fun _ _=>0) ⟨#[],#[.agg #[.string ⟨⟨[]⟩⟩,.slice none 0 0,.slice none 0 0,.slice none 0 0]],[]⟩).memory Tryd.f3.params.toList Rows.treeShowsSpec.vars false (#[.agg #[.string ⟨⟨[]⟩⟩,.slice none 0 0,.slice none 0 0,.slice none 0 0]]:Array Value).toList 8=some ([.agg [.lit (.string []),.nil,.nil,.nil]],[],places) :=
 ⟨[],by kernel_rfl⟩
set_option maxRecDepth 100000 in
theorem TreeShows_lifted (os:Os) (started:os.Started) (H:Type) (enc:TypeId × Value→H) (F:Stop.Interp) :
  ReturnsInHanded {} Tryd.checked os 3 .any ((Rows.OpenSpec.upto Rows.treeShowsSpec).preRow enc Tryd.prog Tryd.f3 Rows.treeShowsUptoRow.domain false Rows.treeShowsUptoRow.laid) (((Rows.OpenSpec.upto Rows.treeShowsSpec).at F).post enc Tryd.prog Tryd.f3 false true false false):=by
 obtain ⟨places,hx⟩:=TreeShows_reads os enc
 refine returnsInHanded_of_row (C:=Tryd.checked) (s:=Rows.OpenSpec.upto Rows.treeShowsSpec) own started (by kernel_rfl) Tryd.func3
  (witness_row_at (enc:=enc) (C:=Tryd.checked) false (TreeShows_world os) #[.agg #[.string ⟨⟨[]⟩⟩,.slice none 0 0,.slice none 0 0,.slice none 0 0]] (World.laidAll_os _ _ _) (by kernel_rfl) (by kernel_rfl) (by kernel_rfl)
   (OpenSpec.preRow_of_cond 8 hx (by kernel_rfl) (fun k hk=>by injection hk with hk;subst hk;kernel_rfl) (by kernel_rfl) (TreeShows_met os))) ?_
 intro W base args ds gs before hval hW _ hcd hwt hL _ _
 exact TreeShows_contract H enc W base args ds gs before hval hwt hW (hcd _ rfl) hL
theorem TreeShows_row:Rows.TreeShowsUptoSaid:=TreeShows_over TreeShows_lifted
theorem TreeShows_said:Rows.TreeShowsUptoCardSaid :=
 Claim7.holds_tied_plain_at .later [] _ _ _ _ TreeShows_row (fun _ h=>by cases h) (by kernel_rfl) (fun _ h=>by cases h) treeShowsUpto_row_tie rfl ⟨rfl,rfl⟩ (by kernel_rfl) rfl TreeShows_plain (by kernel_rfl)
#print axioms TreeShows_said
end Go.Proofs.YtabjelabdojpkaaDoor
