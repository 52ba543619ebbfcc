/-
  A unit is read as it was shown, and shown as it was read: the law TreesBack returns true for every list of raw numbers and every text, wherever the library's variables, the table of signs and the names of units hold what their text lays there.
-/
import Derived.Test.YtabjelabdojpkaaDoorJTreesBack
import Derived.Test.YtabjelabdojpkaaDoorCards
import Derived.Test.YtabjelabdojpkaaDoorTie
import Derived.Test.YtabjelabdojpkaaDoorDgs
import Derived.Test.YtabjelabdojpkaaDoorWg
import Derived.Test.YtabjelabdojpkaaDoorVd
import Derived.Test.YtabjelabdojpkaaDoorVr
import Derived.Test.YtabjelabdojpkaaDoorGq
import Derived.Lay
namespace Go.Proofs.YtabjelabdojpkaaDoor
open Go Go.Dm Go.Eng Go.RowKit Go.ChangeShapes Go.WideShapes Go.ChangeAt Barb
theorem Program_isB {L:Lv} (l:List Raw) (hl:l.length*32≤140737488351232) (hI:∀ r∈l,r.I):CT Tryd.prog (gl L) 11 [.g (.sl 4 (l.map Raw.g))] (Is (.g (.sl 4 ((programP l).map Unit.g)))) :=
 Program_Q l hl hI _ (fun h i hi=>retIs (.inl (by simp only[conv,kp,hi])))
theorem u0_E:unitE u0=4:=by
 unfold unitE
 rw[if_pos (show ¬identP u0.name from ident_nil)]
theorem u0_sh:shR u0=[]:=by unfold shR;rw[if_neg (by rw[u0_E];decide)]
theorem u0_I:Barb.Unit.I u0:=by
 refine ⟨by decide,⟨by simp,by simp⟩,by simp,by simp,by simp,by simp⟩
theorem un_ne (u:Barb.Unit):¬unS u=[]:=by
 unfold unS
 simp
theorem show_ok {L:Lv} {u:Barb.Unit} (hu:u.I) (hE:unitE u=0) (hN:manyN u.funcs≤300):CT Tryd.prog (gl L) 6 [.agg u.d] (Is (.tuple [.g (.str (unS u)),.g (.int 0)])):=by
 have h:=Show_any (L:=L) u hu (fun _=>hN)
 have e:shR u=unS u:=by unfold shR;rw[if_pos hE]
 rw[e,hE] at h
 exact h
theorem show_u0 {L:Lv}:CT Tryd.prog (gl L) 6 [.agg u0.d] (Is (.tuple [.g (.str []),.g (.int 4)])):=by
 have h:=Show_any (L:=L) u0 u0_I (fun h=>by rw[u0_E] at h;cases h)
 rw[u0_sh,u0_E] at h
 exact h
theorem read_big {L:Lv} {u:Barb.Unit} (hE:unitE u=0) (hN:manyN u.funcs≤300) (hl:3000 < (unS u).length):CT Tryd.prog (gl L) 8 [.g (.str (unS u))] (Is (.tuple [.agg u0.d,.g (.int 1)])):=by
 have h:=Read_any (L:=L) (unS u) (by have:=un_len hE hN;omega)
 rw[read_back hE,if_pos hl] at h
 exact h
theorem read_same {L:Lv} {u:Barb.Unit} (hE:unitE u=0) (hN:manyN u.funcs≤300) (hl:¬3000 < (unS u).length):CT Tryd.prog (gl L) 8 [.g (.str (unS u))] (Is (.tuple [.agg u.d,.g (.int 0)])):=by
 have h:=Read_any (L:=L) (unS u) (by have:=un_len hE hN;omega)
 rw[read_back hE,if_neg hl] at h
 exact h
theorem manyN_0:∀ l:List Fun,0≤manyN l
 | []=>by simp[manyN]
 | f :: l=>by
  have h1:=manyN_0 l
  have h2:=many_0 12 f.body
  have e:manyN (f :: l)=stmtsN 12 f.body+manyN l:=by simp[manyN]
  omega
theorem read_cases (s:Str):(∃ e,e≠0∧readR s=(u0,e))∨∃ u,unitE u=0∧u.I∧manyN u.funcs≤300∧readR s=(u,0):=by
 by_cases h0:cutE s=0
 ·have hG:=unit_gd (cutL s) (cut_ok s)
  cases h1:unitP (cutL s) with
  | bad e =>
   rw[h1] at hG
   have hG:e=4∨e=1:=hG
   exact .inl ⟨e,by omega,readR_bad h0 h1⟩
  | ok u l' =>
   rw[h1] at hG
   by_cases h2:unitE u=0
   ·have hc:=unit_cn (cut_ok s) h1
    have hm:=manyN_c u.funcs
    have hp:=manyN_0 u.funcs
    exact .inr ⟨u,h2,hG,few_wrap h2 (by omega) hp,readR_ok h0 h1 h2⟩
   ·exact .inl ⟨unitE u,h2,readR_check h0 h1 h2⟩
 ·exact .inl ⟨cutE s,h0,readR_cut h0⟩
set_option maxRecDepth 20000 in
theorem TreesBack_walk {L:Lv} (l:List Raw) (hl:l.length*32≤140737488351232) (hI:∀ r∈l,r.I) (s:Str) (hs:s.length≤9223372036854775807):CT Tryd.prog (gl L) 5 [.g (.sl 4 (l.map Raw.g)),.g (.str s)] (Is (.g (.bool true))):=by
 have hPr:=Program_isB (L:=L) l hl hI
 have hP:=programP_prog l
 have hgood:=prog_good hP
 have hfew:=prog_few hP
 have hpI:=progE_I hgood hfew
 obtain ⟨h5,hU,_,_⟩:=progE_inv hgood
 generalize programP l=p at *
 have lp:(p.map Unit.g).length=p.length:=List.length_map _
 have hRs:=Read_any (L:=L) s hs
 refine enter hT hF hM Tryd.func5 rfl 121 rfl (by kernel_rfl) [.tmp 4] rfl [.g (.sl 4 (l.map Raw.g)),.g (.str s)] rfl _ ?_
 refine callIs (.inl rfl) hPr ?_
 refine loopR (ι:=Nat) (fun i=>[(22,.g (.sl 4 (p.map Unit.g))),(23,.g (.int ((p.map Unit.g).length:Int))),(24,.g (.int (i:Int)))]) (fun _=>[]) (fun i=>i≤p.length) (fun i=>p.length - i)
  ⟨0,[],⟨rfl,.inl rfl,.inr ⟨lk rfl,lk rfl,lk rfl,trivial⟩,rfl⟩,Nat.zero_le _⟩ ?_
 intro Rd hRd i hi
 refine ⟨fun h1=>?_,fun h1=>?_⟩
 ·have h2:i < p.length:=by omega
  have hm:=List.getElem_mem h2
  have hE:=hU _ hm
  have hN:=hfew _ hm
  have hS:=show_ok (L:=L) (hpI.1 _ hm) hE hN
  have hne:=un_ne p[i]
  by_cases hl3:3000 < (unS p[i]).length
  ·have hR:=read_big (L:=L) hE hN hl3
   have hS2:=show_u0 (L:=L)
   generalize unS p[i]=t at *
   refine ⟨i,_,rfl,gm h2,?_⟩
   refine callIs (.inl rfl) hS ?_
   refine callIs (.inl rfl) hR ?_
   refine callIs (.inl rfl) hS2 ?_
   refine ⟨fun h=>absurd rfl h,fun _=>?_⟩
   refine ⟨fun h=>absurd h hne,fun _=>?_⟩
   refine ⟨fun h=>absurd h (by decide),fun _=>?_⟩
   refine ⟨fun _=>?_,fun h=>absurd h (by decide)⟩
   refine ⟨fun h=>absurd rfl h,fun _=>?_⟩
   refine ⟨_,I64.wrap (by unfold I64;omega),?_⟩
   exact hRd _ _ _ ⟨i+1,[],⟨rfl,.inl rfl,.inr ⟨lk rfl,lk rfl,lkI (by omega),trivial⟩,rfl⟩,h2,by omega⟩
  ·have hR:=read_same (L:=L) hE hN hl3
   generalize unS p[i]=t at *
   refine ⟨i,_,rfl,gm h2,?_⟩
   refine callIs (.inl rfl) hS ?_
   refine callIs (.inl rfl) hR ?_
   refine callIs (.inl rfl) hS ?_
   refine ⟨fun h=>absurd rfl h,fun _=>?_⟩
   refine ⟨fun h=>absurd h hne,fun _=>?_⟩
   refine ⟨fun _=>?_,fun h=>absurd rfl h⟩
   refine ⟨fun h=>absurd rfl h,fun _=>?_⟩
   refine ⟨fun h=>absurd rfl h,fun _=>?_⟩
   refine ⟨fun h=>absurd rfl h,fun _=>?_⟩
   refine ⟨_,I64.wrap (by unfold I64;omega),?_⟩
   exact hRd _ _ _ ⟨i+1,[],⟨rfl,.inl rfl,.inr ⟨lk rfl,lk rfl,lkI (by omega),trivial⟩,rfl⟩,h2,by omega⟩
 ·rcases read_cases s with ⟨e,he,eR⟩ | ⟨u,hE,huI,hN,eR⟩
  ·rw[eR] at hRs
   refine callIs (.inl rfl) hRs ?_
   refine ⟨fun _=>?_,fun h=>absurd h he⟩
   refine ⟨fun _=>?_,fun h=>absurd rfl h⟩
   exact ⟨rfl,retYes rfl⟩
  ·rw[eR] at hRs
   have hS:=show_ok (L:=L) huI hE hN
   by_cases hl3:3000 < (unS u).length
   ·have hR:=read_big (L:=L) hE hN hl3
    have hS2:=show_u0 (L:=L)
    generalize unS u=t at *
    refine callIs (.inl rfl) hRs ?_
    refine ⟨fun h=>absurd rfl h,fun _=>?_⟩
    refine callIs (.inl rfl) hS ?_
    refine callIs (.inl rfl) hR ?_
    refine callIs (.inl rfl) hS2 ?_
    refine ⟨fun _=>?_,fun h=>absurd rfl h⟩
    refine ⟨fun _=>?_,fun h=>absurd rfl h⟩
    exact ⟨rfl,retIs (.inl rfl)⟩
   ·have hR:=read_same (L:=L) hE hN hl3
    generalize unS u=t at *
    refine callIs (.inl rfl) hRs ?_
    refine ⟨fun h=>absurd rfl h,fun _=>?_⟩
    refine callIs (.inl rfl) hS ?_
    refine callIs (.inl rfl) hR ?_
    refine callIs (.inl rfl) hS ?_
    refine ⟨fun _=>?_,fun h=>absurd rfl h⟩
    refine ⟨fun h=>absurd h (by decide),fun _=>?_⟩
    refine ⟨fun _=>?_,fun h=>absurd rfl h⟩
    refine ⟨fun _=>?_,fun h=>absurd rfl h⟩
    exact ⟨rfl,retYes rfl⟩
theorem gl_ops {W : World} {r : List (String × DataW _root_.Unit)} (h : laidMet Tryd.prog (("barbican/tree.ops", Rows.laid_barbican_tree_ops) :: r) W) : GlOk [(1, ([] :: opsT).map .str)] (fun k => k < W.heap.size) W :=
 glOk_strs (by kernel_rfl) (by kernel_rfl) Tryd.underlying131 Tryd.underlying9 (by kernel_rfl) (by simp) h
theorem gl_un {W : World} {r : List (String × DataW _root_.Unit)} (h : laidMet Tryd.prog (("barbican/barbicankeep.units", Rows.laid_barbican_barbicankeep_units) :: r) W) : GlOk [(0, [[111, 110, 101], [116, 119, 111], [116, 114, 105]].map .str)] (fun k => k < W.heap.size) W :=
 glOk_strs (by kernel_rfl) (by kernel_rfl) Tryd.underlying69 Tryd.underlying9 (by kernel_rfl) (by simp) h
theorem TreesBack_gl {W:World} (h:laidMetH Tryd.prog Rows.treesBackRow.laid W):∃ L,GlOk (gl L) (fun k=>k < W.heap.size) W:=by
 have e:(Rows.treesBackRow.laid.filter fun x=>x.2.handleName?.isSome)=[]:=by kernel_rfl
 unfold laidMetH at h
 rw[e] at h
 have h3:laidMet Tryd.prog Rows.treesBackRow.laid W:=h
 obtain ⟨L,hL⟩:=gl_laid h3.tail.tail
 have h4:=laidMet_tail (laidMet_tail (laidMet_tail (laidMet_tail (laidMet_tail (laidMet_tail h3)))))
 exact ⟨L,GlOk.both (gl_ops h4) (GlOk.both (gl_un (laidMet_tail h4)) hL)⟩

set_option maxRecDepth 100000 in
theorem TreesBack_contract (H:Type) (enc:TypeId × Value→H) (W:World) (base:Nat) (args:Array Value) (ds gs:List (DataW H)) (before:List MemPlace)
  (hval:∀ (j:Nat) t v,Tryd.f5.params[j]?=some t→args[j]?=some v→Value.okWide Tryd.prog W .any base t v)
  (hwt:(DataW.weightsEach Tryd.prog (Tryd.f5.params.toList++Rows.treesBackSpec.plain.varTypes Tryd.prog) (ds++gs)).all (·≤reachBytes)=true)
  (hW:DataW.Whole enc Tryd.prog Tryd.f5.params.toList Rows.treesBackSpec.vars false W args.toList ds gs before) (hL:laidMetH Tryd.prog Rows.treesBackRow.laid W) :
  Calls Tryd.prog 5 args W fun e W'=>∃ v,e=.returned v∧Rows.treesBackSpec.post enc Tryd.prog Tryd.f5 false true false false W args v W':=by
 refine law_contractW plainS_ok laidOut rfl ?_ rfl Tryd.underlying4 (pars_ok (by kernel_rfl)) W ?_ base args ds gs before hval hwt hW
 ·intro ds hds
  match ds,hds with
  | [d0,d1],_=>rfl
 ·intro args hargs
  obtain ⟨v0,r0,rfl,h0,hargs⟩:=hargs.inv
  obtain ⟨v1,r1,rfl,h1,hargs⟩:=hargs.inv
  obtain rfl:=hargs.inv0
  obtain ⟨f0,g0,t0,R0⟩:=h0.slice Tryd.underlying36
  obtain ⟨x0,rfl,i0,b0⟩:=dec_Raws t0
  obtain ⟨x1,rfl,b1⟩:=h1.strR Tryd.underlying9
  obtain ⟨L,hG⟩:=TreesBack_gl hL
  exact law_of_ctG hG (TreesBack_walk (L:=L) x0 b0 i0 x1 (Nat.le_trans b1 (by decide))) (args_cons (arg_g R0) (args_cons (arg_g (by simp only[RepV])) args_nil))
noncomputable def TreesBack_world (os:Os):World:=World.laidAll Tryd.prog os Rows.treesBackRow.laid
theorem TreesBack_met (os:Os):laidMet Tryd.prog Rows.treesBackRow.laid ((TreesBack_world os).forCall (fun _ _=>0) ⟨#[],#[.slice none 0 0,.string ⟨⟨[]⟩⟩],[]⟩).memory :=
 laidMet_laidAll _ (by kernel_rfl) (by kernel_rfl)
theorem TreesBack_reads (os:Os) {H:Type} (enc:TypeId × Value→H):∃ places,DataW.whole enc Tryd.prog ((TreesBack_world os).forCall (fun _ _=>0) ⟨#[],#[.slice none 0 0,.string ⟨⟨[]⟩⟩],[]⟩).memory Tryd.f5.params.toList Rows.treesBackSpec.vars false (#[.slice none 0 0,.string ⟨⟨[]⟩⟩]:Array Value).toList 8=some ([.nil,.lit (.string [])],[],places) :=
 ⟨[],by kernel_rfl⟩
set_option maxRecDepth 100000 in
theorem TreesBack_lifted (os:Os) (started:os.Started) (H:Type) (enc:TypeId × Value→H) (F:Stop.Interp) :
  ReturnsInHanded {} Tryd.checked os 5 .any ((OpenSpec.ofChange Rows.treesBackSpec).preRow enc Tryd.prog Tryd.f5 Rows.treesBackRow.domain false Rows.treesBackRow.laid) (((OpenSpec.ofChange Rows.treesBackSpec).at F).post enc Tryd.prog Tryd.f5 false true false false):=by
 obtain ⟨places,hx⟩:=TreesBack_reads os enc
 refine returnsInHanded_of_row (C:=Tryd.checked) (s:=OpenSpec.ofChange Rows.treesBackSpec) own started (by kernel_rfl) Tryd.func5
  (witness_row_at (enc:=enc) (C:=Tryd.checked) false (TreesBack_world os) #[.slice none 0 0,.string ⟨⟨[]⟩⟩] (World.laidAll_os _ _ _) (by kernel_rfl) (by kernel_rfl) (by kernel_rfl)
   (OpenSpec.preRow_of_cond 8 hx (by kernel_rfl) (fun k hk=>by cases hk) (by kernel_rfl) (TreesBack_met os))) ?_
 intro W base args ds gs before hval hW _ _ hwt hL _ _
 exact TreesBack_contract H enc W base args ds gs before hval hwt hW hL
theorem TreesBack_row:Rows.TreesBackSaid:=TreesBack_over TreesBack_lifted
theorem TreesBack_said:Rows.TreesBackCardSaid :=
 Claim7.holds_tied_plain_at .later [] _ _ _ _ TreesBack_row (fun _ h=>by cases h) (by kernel_rfl) (fun _ h=>by cases h) treesBack_row_tie rfl ⟨rfl,rfl⟩ (by kernel_rfl) rfl TreesBack_plain (by kernel_rfl)
#print axioms TreesBack_said
end Go.Proofs.YtabjelabdojpkaaDoor
