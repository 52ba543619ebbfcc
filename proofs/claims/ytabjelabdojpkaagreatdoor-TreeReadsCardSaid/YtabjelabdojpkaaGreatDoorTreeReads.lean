/-
  A text is read as the document says: the law TreeReads returns true for every text, wherever the library's variables and the table of signs hold what their text lays there.
-/
import Derived.Test.YtabjelabdojpkaaGreatDoorJTreeReads
import Derived.Test.YtabjelabdojpkaaGreatDoorCards
import Derived.Test.YtabjelabdojpkaaGreatDoorTie
import Derived.Test.YtabjelabdojpkaaGreatDoorDgs
import Derived.Test.YtabjelabdojpkaaGreatDoorYd
import Derived.Test.YtabjelabdojpkaaGreatDoorYe
import Derived.Lay
namespace Go.Proofs.YtabjelabdojpkaaGreatDoor
open Go Go.Dm Go.Eng Go.RowKit Go.ChangeShapes Go.WideShapes Go.ChangeAt Barb
theorem TreeReads_walk {L:Lv} (s:Str) (hs:s.length≤9223372036854775807):CT Tryz.prog (gl L) 3 [.g (.str s)] (Is (.g (.bool true))):=by
 have hR:=Read_any (L:=L) s hs
 have hO:=UnitOf_any (L:=L) s hs
 have hS:=sameUnit_any (L:=L) (readR s).1 (readR_I s)
 generalize (readR s).1=u at *
 generalize (readR s).2=e at *
 refine enter hT hF hM Tryz.func3 rfl 25 rfl (by kernel_rfl) [.tmp 2] rfl [.g (.str s)] rfl _ ?_
 refine callIs (.inl rfl) hR ?_
 refine callIs (.inl rfl) hO ?_
 refine ⟨fun _=>?_,fun h=>absurd rfl h⟩
 refine callIs (.inl rfl) hS ?_
 exact ⟨rfl,retIs (.inl rfl)⟩
theorem gl_ops {W : World} {r : List (String × DataW _root_.Unit)} (h : laidMet Tryz.prog (("barbican/tree.ops", Rows.laid_barbican_tree_ops) :: r) W) : GlOk [(6, ([] :: opsT).map .str)] (fun k => k < W.heap.size) W :=
 glOk_strs (by kernel_rfl) (by kernel_rfl) Tryz.underlying142 Tryz.underlying9 (by kernel_rfl) (by simp) h
theorem TreeReads_gl {W:World} (h:laidMetH Tryz.prog Rows.treeReadsRow.laid W):∃ L,GlOk (gl L) (fun k=>k < W.heap.size) W:=by
 have e:(Rows.treeReadsRow.laid.filter fun x=>x.2.handleName?.isSome)=[]:=by kernel_rfl
 unfold laidMetH at h
 rw[e] at h
 have h3:laidMet Tryz.prog Rows.treeReadsRow.laid W:=h
 obtain ⟨L,hL⟩:=gl_laid h3.tail.tail
 have ho:=gl_ops (laidMet_tail (laidMet_tail (laidMet_tail (laidMet_tail (laidMet_tail (laidMet_tail h3))))))
 exact ⟨L,GlOk.both ho hL⟩

set_option maxRecDepth 100000 in
theorem TreeReads_contract (H:Type) (enc:TypeId × Value→H) (W:World) (base:Nat) (args:Array Value) (ds gs:List (DataW H)) (before:List MemPlace)
  (hval:∀ (j:Nat) t v,Tryz.f3.params[j]?=some t→args[j]?=some v→Value.okWide Tryz.prog W .any base t v)
  (hwt:(DataW.weightsEach Tryz.prog (Tryz.f3.params.toList++Rows.treeReadsSpec.plain.varTypes Tryz.prog) (ds++gs)).all (·≤reachBytes)=true)
  (hW:DataW.Whole enc Tryz.prog Tryz.f3.params.toList Rows.treeReadsSpec.vars false W args.toList ds gs before) (hL:laidMetH Tryz.prog Rows.treeReadsRow.laid W) :
  Calls Tryz.prog 3 args W fun e W'=>∃ v,e=.returned v∧Rows.treeReadsSpec.post enc Tryz.prog Tryz.f3 false true false false W args v W':=by
 refine law_contractW plainS_ok laidOut rfl ?_ rfl Tryz.underlying4 (pars_ok (by kernel_rfl)) W ?_ base args ds gs before hval hwt hW
 ·intro ds hds
  match ds,hds with
  | [d0],_=>rfl
 ·intro args hargs
  obtain ⟨v0,r0,rfl,h0,hargs⟩:=hargs.inv
  obtain rfl:=hargs.inv0
  obtain ⟨x0,rfl,b0⟩:=h0.strR Tryz.underlying9
  obtain ⟨L,hG⟩:=TreeReads_gl hL
  exact law_of_ctG hG (TreeReads_walk x0 (show x0.length≤9223372036854775807 from Nat.le_trans b0 (by decide))) (args_cons (arg_g (by simp only[RepV])) args_nil)
noncomputable def TreeReads_world (os:Os):World:=World.laidAll Tryz.prog os Rows.treeReadsRow.laid
theorem TreeReads_met (os:Os):laidMet Tryz.prog Rows.treeReadsRow.laid ((TreeReads_world os).forCall (fun _ _=>0) ⟨#[],#[.string ⟨⟨[]⟩⟩],[]⟩).memory :=
 laidMet_laidAll _ (by kernel_rfl) (by kernel_rfl)
theorem TreeReads_reads (os:Os) {H:Type} (enc:TypeId × Value→H):∃ places,DataW.whole enc Tryz.prog ((TreeReads_world os).forCall (fun _ _=>0) ⟨#[],#[.string ⟨⟨[]⟩⟩],[]⟩).memory Tryz.f3.params.toList Rows.treeReadsSpec.vars false (#[.string ⟨⟨[]⟩⟩]:Array Value).toList 8=some ([.lit (.string [])],[],places) :=
 ⟨[],by kernel_rfl⟩
set_option maxRecDepth 100000 in
theorem TreeReads_lifted (os:Os) (started:os.Started) (H:Type) (enc:TypeId × Value→H) (F:Stop.Interp) :
  ReturnsInHanded {} Tryz.checked os 3 .any ((OpenSpec.ofChange Rows.treeReadsSpec).preRow enc Tryz.prog Tryz.f3 Rows.treeReadsRow.domain false Rows.treeReadsRow.laid) (((OpenSpec.ofChange Rows.treeReadsSpec).at F).post enc Tryz.prog Tryz.f3 false true false false):=by
 obtain ⟨places,hx⟩:=TreeReads_reads os enc
 refine returnsInHanded_of_row (C:=Tryz.checked) (s:=OpenSpec.ofChange Rows.treeReadsSpec) own started (by kernel_rfl) Tryz.func3
  (witness_row_at (enc:=enc) (C:=Tryz.checked) false (TreeReads_world os) #[.string ⟨⟨[]⟩⟩] (World.laidAll_os _ _ _) (by kernel_rfl) (by kernel_rfl) (by kernel_rfl)
   (OpenSpec.preRow_of_cond 8 hx (by kernel_rfl) (fun k hk=>by cases hk) (by kernel_rfl) (TreeReads_met os))) ?_
 intro W base args ds gs before hval hW _ _ hwt hL _ _
 exact TreeReads_contract H enc W base args ds gs before hval hwt hW hL
theorem TreeReads_row:Rows.TreeReadsSaid:=TreeReads_over TreeReads_lifted
theorem TreeReads_said:Rows.TreeReadsCardSaid :=
 Claim7.holds_tied_plain_at .later [] _ _ _ _ TreeReads_row (fun _ h=>by cases h) (by kernel_rfl) (fun _ h=>by cases h) treeReads_row_tie rfl ⟨rfl,rfl⟩ (by kernel_rfl) rfl TreeReads_plain (by kernel_rfl)
#print axioms TreeReads_said
end Go.Proofs.YtabjelabdojpkaaGreatDoor
