/-
  token.Cut answers what P5.2 says: the law TokenCuts returns true for every text, wherever the library's variables hold what their text lays there.
-/
import Derived.Test.YtjlaaanmjaihaaaDoorJTokenCuts
import Derived.Test.YtjlaaanmjaihaaaDoorCards
import Derived.Test.YtjlaaanmjaihaaaDoorTie
import Derived.Test.YtjlaaanmjaihaaaDoorTl
import Derived.Lay
namespace Go.Proofs.YtjlaaanmjaihaaaDoor
open Go Go.Dm Go.Eng Go.RowKit Go.ChangeShapes Go.WideShapes Go.ChangeAt Barb
variable {L:Lv}
theorem TokenCuts_walk (s:Str) (hs:s.length≤9223372036854775807):CT Tryd.prog (gl L) 3 [.g (.str s)] (Is (.g (.bool true))):=by
 refine enter hT hF hM Tryd.func3 rfl 25 rfl (by kernel_rfl) [.tmp 2] rfl [.g (.str s)] rfl _ ?_
 refine callIs (.inl rfl) (Cut_any s hs) ?_
 refine callIs (.inl rfl) (TokensOf_any s hs) ?_
 refine ⟨fun _=>?_,fun h=>absurd rfl h⟩
 exact callIs (.inl rfl) (sameTokens_any _ (cutL_len s)) ⟨rfl,retIs (.inl rfl)⟩
theorem TokenCuts_gl {W:World} (h:laidMetH Tryd.prog Rows.tokenCutsRow.laid W):∃ L,GlOk (gl L) (fun k=>k < W.heap.size) W:=by
 have e:(Rows.tokenCutsRow.laid.filter fun x=>x.2.handleName?.isSome)=[]:=by kernel_rfl
 unfold laidMetH at h
 rw[e] at h
 have h3:laidMet Tryd.prog Rows.tokenCutsRow.laid W:=h
 exact gl_laid h3.tail.tail

set_option maxRecDepth 100000 in
theorem TokenCuts_contract (H:Type) (enc:TypeId × Value→H) (W:World) (base:Nat) (args:Array Value) (ds gs:List (DataW H)) (before:List MemPlace)
  (hval:∀ (j:Nat) t v,Tryd.f3.params[j]?=some t→args[j]?=some v→Value.okWide Tryd.prog W .any base t v)
  (hwt:(DataW.weightsEach Tryd.prog (Tryd.f3.params.toList++Rows.tokenCutsSpec.plain.varTypes Tryd.prog) (ds++gs)).all (·≤reachBytes)=true)
  (hW:DataW.Whole enc Tryd.prog Tryd.f3.params.toList Rows.tokenCutsSpec.vars false W args.toList ds gs before) (hL:laidMetH Tryd.prog Rows.tokenCutsRow.laid W) :
  Calls Tryd.prog 3 args W fun e W'=>∃ v,e=.returned v∧Rows.tokenCutsSpec.post enc Tryd.prog Tryd.f3 false true false false W args v W':=by
 refine law_contractW plainS_ok laidOut rfl ?_ rfl Tryd.underlying4 (pars_ok (by kernel_rfl)) W ?_ base args ds gs before hval hwt hW
 ·intro ds hds
  match ds,hds with
  | [d0],_=>rfl
 ·intro args hargs
  obtain ⟨v0,r0,rfl,h0,hargs⟩:=hargs.inv
  obtain rfl:=hargs.inv0
  obtain ⟨x0,rfl,b0⟩:=h0.strR Tryd.underlying9
  obtain ⟨L,hG⟩:=TokenCuts_gl hL
  exact law_of_ctG hG (TokenCuts_walk x0 (show x0.length≤9223372036854775807 from Nat.le_trans b0 (by decide))) (args_cons (arg_g (by simp only[RepV])) args_nil)
noncomputable def TokenCuts_world (os:Os):World:=World.laidAll Tryd.prog os Rows.tokenCutsRow.laid
theorem TokenCuts_met (os:Os):laidMet Tryd.prog Rows.tokenCutsRow.laid ((TokenCuts_world os).forCall (fun _ _=>0) ⟨#[],#[.string ⟨⟨[]⟩⟩],[]⟩).memory :=
 laidMet_laidAll _ (by kernel_rfl) (by kernel_rfl)
theorem TokenCuts_reads (os:Os) {H:Type} (enc:TypeId × Value→H):∃ places,DataW.whole enc Tryd.prog ((TokenCuts_world os).forCall (fun _ _=>0) ⟨#[],#[.string ⟨⟨[]⟩⟩],[]⟩).memory Tryd.f3.params.toList Rows.tokenCutsSpec.vars false (#[.string ⟨⟨[]⟩⟩]:Array Value).toList 8=some ([.lit (.string [])],[],places) :=
 ⟨[],by kernel_rfl⟩
set_option maxRecDepth 100000 in
theorem TokenCuts_lifted (os:Os) (started:os.Started) (H:Type) (enc:TypeId × Value→H) (F:Stop.Interp) :
  ReturnsInHanded {} Tryd.checked os 3 .any ((OpenSpec.ofChange Rows.tokenCutsSpec).preRow enc Tryd.prog Tryd.f3 Rows.tokenCutsRow.domain false Rows.tokenCutsRow.laid) (((OpenSpec.ofChange Rows.tokenCutsSpec).at F).post enc Tryd.prog Tryd.f3 false true false false):=by
 obtain ⟨places,hx⟩:=TokenCuts_reads os enc
 refine returnsInHanded_of_row (C:=Tryd.checked) (s:=OpenSpec.ofChange Rows.tokenCutsSpec) own started (by kernel_rfl) Tryd.func3
  (witness_row_at (enc:=enc) (C:=Tryd.checked) false (TokenCuts_world os) #[.string ⟨⟨[]⟩⟩] (World.laidAll_os _ _ _) (by kernel_rfl) (by kernel_rfl) (by kernel_rfl)
   (OpenSpec.preRow_of_cond 8 hx (by kernel_rfl) (fun k hk=>by cases hk) (by kernel_rfl) (TokenCuts_met os))) ?_
 intro W base args ds gs before hval hW _ _ hwt hL _ _
 exact TokenCuts_contract H enc W base args ds gs before hval hwt hW hL
theorem TokenCuts_row:Rows.TokenCutsSaid:=TokenCuts_over TokenCuts_lifted
theorem TokenCuts_said:Rows.TokenCutsCardSaid :=
 Claim7.holds_tied_plain_at .later [] _ _ _ _ TokenCuts_row (fun _ h=>by cases h) (by kernel_rfl) (fun _ h=>by cases h) tokenCuts_row_tie rfl ⟨rfl,rfl⟩ (by kernel_rfl) rfl TokenCuts_plain (by kernel_rfl)
#print axioms TokenCuts_said
end Go.Proofs.YtjlaaanmjaihaaaDoor
