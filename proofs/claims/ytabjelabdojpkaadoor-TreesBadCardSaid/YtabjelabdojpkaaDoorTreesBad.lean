/-
  What is no unit is refused: the law TreesBad returns true for every number, wherever the library's variables and the table of signs hold what their text lays there.
-/
import Derived.Test.YtabjelabdojpkaaDoorJTreesBad
import Derived.Test.YtabjelabdojpkaaDoorCards
import Derived.Test.YtabjelabdojpkaaDoorTie
import Derived.Test.YtabjelabdojpkaaDoorDgs
import Derived.Test.YtabjelabdojpkaaDoorRn
import Derived.Test.YtabjelabdojpkaaDoorRr
import Derived.Test.YtabjelabdojpkaaDoorPk
import Derived.Lay
namespace Go.Proofs.YtabjelabdojpkaaDoor
open Go Go.Dm Go.Eng Go.RowKit Go.ChangeShapes Go.WideShapes Go.ChangeAt Barb
theorem odd_bad {k:Nat} (hk:k < odds.length):odds[k].length≤3000∧badC odds[k]=4:=by
 have:=List.all_eq_true.1 odds_bad odds[k] (List.getElem_mem _)
 rw[Bool.and_eq_true] at this
 exact ⟨of_decide_eq_true this.2,of_decide_eq_true this.1⟩
set_option maxRecDepth 20000 in
theorem TreesBad_walk {L:Lv} (n:Int) (hn:I64 n):CT Tryd.prog (gl L) 4 [.g (.int n)] (Is (.g (.bool true))):=by
 obtain ⟨k,hk,hp⟩:=pick_any (L:=L) n hn (many:=25) (by decide)
 have hk':k < odds.length:=hk
 obtain ⟨b1,b2⟩:=odd_bad hk'
 have hR:=Read_any (L:=L) odds[k] (by omega)
 rw[bad_read (by omega) (by rw[b2];decide),b2] at hR
 have hD:=Read_any (L:=L) deepS (by rw[deep_len];decide)
 rw[bad_read (by rw[deep_len];decide) (by rw[deep_bad];decide),deep_bad] at hD
 have hA:=Repeat_any (L:=L) [40,49,32,43,32] 48 (by decide) (by decide)
 have hB:=Repeat_any (L:=L) [41] 48 (by decide) (by decide)
 refine enter hT hF hM Tryd.func4 rfl 43 rfl (by kernel_rfl) [.tmp 2] rfl [.g (.int n)] rfl _ ?_
 refine ⟨odds.map strG,rfl,rfl,⟨rfl,rfl,rfl,rfl,rfl,rfl,rfl,rfl,rfl,rfl,rfl,rfl,rfl,rfl,rfl,rfl,rfl,rfl,rfl,rfl,rfl,rfl,rfl,rfl,rfl,trivial⟩,?_⟩
 refine callIs (.inl rfl) hp ?_
 refine ⟨k,rfl,by rw[List.length_map];exact hk',?_⟩
 refine ⟨strG odds[k],by rw[List.getElem?_map,List.getElem?_eq_getElem hk'];rfl,ldG_at rfl rfl ?_⟩
 refine callIs (.inl rfl) hR ?_
 refine callIs (.inl rfl) hA ?_
 refine ⟨by decide,?_⟩
 refine callIs (.inl rfl) hB ?_
 refine ⟨by decide,?_⟩
 refine ⟨by decide,?_⟩
 refine ⟨by decide,?_⟩
 refine callIs (.inl rfl) hD ?_
 refine ⟨fun _=>?_,fun h=>absurd rfl h⟩
 refine ⟨fun _=>?_,fun h=>absurd rfl h⟩
 exact ⟨rfl,retYes rfl⟩
theorem gl_ops {W : World} {r : List (String × DataW _root_.Unit)} (h : laidMet Tryd.prog (("barbican/tree.ops", Rows.laid_barbican_tree_ops) :: r) W) : GlOk [(1, ([] :: opsT).map .str)] (fun k => k < W.heap.size) W :=
 glOk_strs (by kernel_rfl) (by kernel_rfl) Tryd.underlying131 Tryd.underlying9 (by kernel_rfl) (by simp) h
theorem TreesBad_gl {W:World} (h:laidMetH Tryd.prog Rows.treesBadRow.laid W):∃ L,GlOk (gl L) (fun k=>k < W.heap.size) W:=by
 have e:(Rows.treesBadRow.laid.filter fun x=>x.2.handleName?.isSome)=[]:=by kernel_rfl
 unfold laidMetH at h
 rw[e] at h
 have h3:laidMet Tryd.prog Rows.treesBadRow.laid W:=h
 obtain ⟨L,hL⟩:=gl_laid h3.tail.tail
 have ho:=gl_ops (laidMet_tail (laidMet_tail (laidMet_tail (laidMet_tail (laidMet_tail (laidMet_tail h3))))))
 exact ⟨L,GlOk.both ho hL⟩

set_option maxRecDepth 100000 in
theorem TreesBad_contract (H:Type) (enc:TypeId × Value→H) (W:World) (base:Nat) (args:Array Value) (ds gs:List (DataW H)) (before:List MemPlace)
  (hval:∀ (j:Nat) t v,Tryd.f4.params[j]?=some t→args[j]?=some v→Value.okWide Tryd.prog W .any base t v)
  (hwt:(DataW.weightsEach Tryd.prog (Tryd.f4.params.toList++Rows.treesBadSpec.plain.varTypes Tryd.prog) (ds++gs)).all (·≤reachBytes)=true)
  (hW:DataW.Whole enc Tryd.prog Tryd.f4.params.toList Rows.treesBadSpec.vars false W args.toList ds gs before) (hL:laidMetH Tryd.prog Rows.treesBadRow.laid W) :
  Calls Tryd.prog 4 args W fun e W'=>∃ v,e=.returned v∧Rows.treesBadSpec.post enc Tryd.prog Tryd.f4 false true false false W args v W':=by
 refine law_contractW plainS_ok laidOut rfl ?_ rfl Tryd.underlying4 (pars_ok (by kernel_rfl)) W ?_ base args ds gs before hval hwt hW
 ·intro ds hds
  match ds,hds with
  | [d0],_=>rfl
 ·intro args hargs
  obtain ⟨v0,r0,rfl,h0,hargs⟩:=hargs.inv
  obtain rfl:=hargs.inv0
  obtain ⟨x0,rfl,b0⟩:=h0.int Tryd.underlying3
  obtain ⟨L,hG⟩:=TreesBad_gl hL
  exact law_of_ctG hG (TreesBad_walk (L:=L) x0 b0) (args_cons (arg_g (by simp only[RepV])) args_nil)
noncomputable def TreesBad_world (os:Os):World:=World.laidAll Tryd.prog os Rows.treesBadRow.laid
theorem TreesBad_met (os:Os):laidMet Tryd.prog Rows.treesBadRow.laid ((TreesBad_world os).forCall (fun _ _=>0) ⟨#[],#[.int .i64 0],[]⟩).memory :=
 laidMet_laidAll _ (by kernel_rfl) (by kernel_rfl)
theorem TreesBad_reads (os:Os) {H:Type} (enc:TypeId × Value→H):∃ places,DataW.whole enc Tryd.prog ((TreesBad_world os).forCall (fun _ _=>0) ⟨#[],#[.int .i64 0],[]⟩).memory Tryd.f4.params.toList Rows.treesBadSpec.vars false (#[.int .i64 0]:Array Value).toList 8=some ([.lit (.int .i64 0)],[],places) :=
 ⟨[],by kernel_rfl⟩
set_option maxRecDepth 100000 in
theorem TreesBad_lifted (os:Os) (started:os.Started) (H:Type) (enc:TypeId × Value→H) (F:Stop.Interp) :
  ReturnsInHanded {} Tryd.checked os 4 .any ((OpenSpec.ofChange Rows.treesBadSpec).preRow enc Tryd.prog Tryd.f4 Rows.treesBadRow.domain false Rows.treesBadRow.laid) (((OpenSpec.ofChange Rows.treesBadSpec).at F).post enc Tryd.prog Tryd.f4 false true false false):=by
 obtain ⟨places,hx⟩:=TreesBad_reads os enc
 refine returnsInHanded_of_row (C:=Tryd.checked) (s:=OpenSpec.ofChange Rows.treesBadSpec) own started (by kernel_rfl) Tryd.func4
  (witness_row_at (enc:=enc) (C:=Tryd.checked) false (TreesBad_world os) #[.int .i64 0] (World.laidAll_os _ _ _) (by kernel_rfl) (by kernel_rfl) (by kernel_rfl)
   (OpenSpec.preRow_of_cond 8 hx (by kernel_rfl) (fun k hk=>by cases hk) (by kernel_rfl) (TreesBad_met os))) ?_
 intro W base args ds gs before hval hW _ _ hwt hL _ _
 exact TreesBad_contract H enc W base args ds gs before hval hwt hW hL
theorem TreesBad_row:Rows.TreesBadSaid:=TreesBad_over TreesBad_lifted
theorem TreesBad_said:Rows.TreesBadCardSaid :=
 Claim7.holds_tied_plain_at .later [] _ _ _ _ TreesBad_row (fun _ h=>by cases h) (by kernel_rfl) (fun _ h=>by cases h) treesBad_row_tie rfl ⟨rfl,rfl⟩ (by kernel_rfl) rfl TreesBad_plain (by kernel_rfl)
#print axioms TreesBad_said
end Go.Proofs.YtabjelabdojpkaaDoor
