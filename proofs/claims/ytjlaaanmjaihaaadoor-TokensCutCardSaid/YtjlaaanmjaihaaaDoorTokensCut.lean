/-
  Blanks and newlines between tokens change nothing: the law TokensCut returns true for every text, wherever the library's variables hold what their text lays there.
-/
import Derived.Test.YtjlaaanmjaihaaaDoorJTokensCut
import Derived.Test.YtjlaaanmjaihaaaDoorCards
import Derived.Test.YtjlaaanmjaihaaaDoorTie
import Derived.Test.YtjlaaanmjaihaaaDoorTp
import Derived.Test.YtjlaaanmjaihaaaDoorJn
import Derived.Lay
namespace Go.Proofs.YtjlaaanmjaihaaaDoor
open Go Go.Dm Go.Eng Go.RowKit Go.ChangeShapes Go.WideShapes Go.ChangeAt Barb
variable {L:Lv}
theorem TokensCut_walk (s:Str) (hs:s.length≤9223372036854775807):CT Tryd.prog (gl L) 4 [.g (.str s)] (Is (.g (.bool true))):=by
 by_cases he:cutE s=0
 ·have hC:=Cut_any (L:=L) s hs
  have h3:=Cut_any (L:=L) [97,32,61,49] (by decide)
  rw[cut_three] at h3
  have hlen:=cutL_len s
  have hJ:=Join_any (L:=L) ((cutL s).map Tok.text) [32,10] (by rw[List.length_map];omega) (wide_len s)
  have hW:=Cut_any (L:=L) (wideS (cutL s)) (Nat.le_trans (wide_len s) (by decide))
  have hEq:=equalTok_any (L:=L) (cutL s) hlen
  have hlaw:=wide_law he
  obtain ⟨eW,hEW⟩:∃ e,cutE (wideS (cutL s))=e:=⟨_,rfl⟩
  obtain ⟨lW,hLW⟩:∃ l,cutL (wideS (cutL s))=l:=⟨_,rfl⟩
  rw[he] at hC
  rw[hEW,hLW] at hW hlaw
  have hwl:=wide_len s
  unfold wideS at hW hlaw hwl
  obtain ⟨W,hWW⟩:∃ W,Lib.join ((cutL s).map Tok.text) [32,10]=W:=⟨_,rfl⟩
  rw[hWW] at hJ hW hlaw hwl
  clear hWW hEW hLW he
  obtain ⟨l,hl⟩:∃ l,cutL s=l:=⟨_,rfl⟩
  rw[hl] at hC hlen hJ hEq hlaw
  clear hl
  have ll:(l.map Tok.g).length=l.length:=List.length_map _
  refine enter hT hF hM Tryd.func4 rfl 67 rfl (by kernel_rfl) [.tmp 2] rfl [.g (.str s)] rfl _ ?_
  refine callIs (.inl rfl) hC ?_
  refine ⟨fun h=>absurd rfl h,fun _=>?_⟩
  refine callIs (.inl rfl) h3 ?_
  refine loopR (ι:=Nat) (fun i=>[(29,.g (.int (i:Int))),(7,.row 0)]) (fun i=>[.row ((l.take i).map fun t=>[.str t.text]) 9 1]) (fun i=>i≤l.length) (fun i=>l.length - i)
   ⟨0,[.nil 9 1],⟨rfl,.inl rfl,.inr ⟨lk rfl,.inr rfl,trivial⟩,rfl⟩,Nat.zero_le _⟩ ?_
  intro Rd hRd i hi
  refine ⟨fun h1=>?_,fun h1=>?_⟩
  ·have h2:i < l.length:=by omega
   refine ⟨i,_,rfl,gm h2,?_⟩
   refine ⟨[[.str l[i].text]],rfl,rfl,⟨rfl,trivial⟩,?_⟩
   refine ⟨⟨by simp only[maxLen,List.length_cons,List.length_nil,List.length_map,List.length_take];omega,by simp only[List.length_cons,List.length_nil,List.length_map,List.length_take];omega⟩,?_⟩
   refine ⟨_,I64.wrap (by unfold I64;omega),?_⟩
   exact hRd _ _ _ ⟨i+1,[.old 3],⟨rfl,.inr ⟨⟨by rw[take_one h2,List.map_append];rfl,rfl,rfl⟩,trivial⟩,.inr ⟨lk rfl,lk rfl,trivial⟩,rfl⟩,h2,by omega⟩
  ·have hil:i=l.length:=by omega
   have hJ':CT Tryd.prog (gl L) 8 [.g (.sl 1 ((l.take i).map fun t=>[.str t.text])),.g (.str [32,10])] (Is (.g (.str W))):=by
    rw[hil,List.take_length]
    rw[List.map_map] at hJ
    exact hJ
   refine callIs (.inl rfl) hJ' ?_
   rcases hlaw with ⟨w1,e1⟩ | ⟨w1,e1,e2⟩
   ·rw[e1] at hW
    refine callIs (.inl rfl) hW ?_
    refine ⟨fun _=>⟨fun _=>⟨fun _=>?_,fun h=>absurd rfl h⟩,fun h=>absurd (by omega) h⟩,fun h=>absurd rfl h⟩
    exact ⟨rfl,retIs (.inl rfl)⟩
   ·rw[e1,e2] at hW
    refine callIs (.inl rfl) hW ?_
    refine ⟨fun _=>⟨fun h=>absurd h (by omega),fun _=>⟨fun _=>?_,fun h=>absurd rfl h⟩⟩,fun h=>absurd rfl h⟩
    refine callIs (.inl rfl) hEq ?_
    exact ⟨rfl,retIs (.inl rfl)⟩
 ·have hC:=Cut_any (L:=L) s hs
  rw[cut_bad he] at hC
  refine enter hT hF hM Tryd.func4 rfl 67 rfl (by kernel_rfl) [.tmp 2] rfl [.g (.str s)] rfl _ ?_
  refine callIs (.inl rfl) hC ?_
  exact ⟨fun _=>⟨rfl,retYes rfl⟩,fun h=>absurd h he⟩
theorem TokensCut_gl {W:World} (h:laidMetH Tryd.prog Rows.tokensCutRow.laid W):∃ L,GlOk (gl L) (fun k=>k < W.heap.size) W:=by
 have e:(Rows.tokensCutRow.laid.filter fun x=>x.2.handleName?.isSome)=[]:=by kernel_rfl
 unfold laidMetH at h
 rw[e] at h
 have h3:laidMet Tryd.prog Rows.tokensCutRow.laid W:=h
 exact gl_laid h3.tail.tail

set_option maxRecDepth 100000 in
theorem TokensCut_contract (H:Type) (enc:TypeId × Value→H) (W:World) (base:Nat) (args:Array Value) (ds gs:List (DataW H)) (before:List MemPlace)
  (hval:∀ (j:Nat) t v,Tryd.f4.params[j]?=some t→args[j]?=some v→Value.okWide Tryd.prog W .any base t v)
  (hwt:(DataW.weightsEach Tryd.prog (Tryd.f4.params.toList++Rows.tokensCutSpec.plain.varTypes Tryd.prog) (ds++gs)).all (·≤reachBytes)=true)
  (hW:DataW.Whole enc Tryd.prog Tryd.f4.params.toList Rows.tokensCutSpec.vars false W args.toList ds gs before) (hL:laidMetH Tryd.prog Rows.tokensCutRow.laid W) :
  Calls Tryd.prog 4 args W fun e W'=>∃ v,e=.returned v∧Rows.tokensCutSpec.post enc Tryd.prog Tryd.f4 false true false false W args v W':=by
 refine law_contractW plainS_ok laidOut rfl ?_ rfl Tryd.underlying4 (pars_ok (by kernel_rfl)) W ?_ base args ds gs before hval hwt hW
 ·intro ds hds
  match ds,hds with
  | [d0],_=>rfl
 ·intro args hargs
  obtain ⟨v0,r0,rfl,h0,hargs⟩:=hargs.inv
  obtain rfl:=hargs.inv0
  obtain ⟨x0,rfl,b0⟩:=h0.strR Tryd.underlying9
  obtain ⟨L,hG⟩:=TokensCut_gl hL
  exact law_of_ctG hG (TokensCut_walk x0 (show x0.length≤9223372036854775807 from Nat.le_trans b0 (by decide))) (args_cons (arg_g (by simp only[RepV])) args_nil)
noncomputable def TokensCut_world (os:Os):World:=World.laidAll Tryd.prog os Rows.tokensCutRow.laid
theorem TokensCut_met (os:Os):laidMet Tryd.prog Rows.tokensCutRow.laid ((TokensCut_world os).forCall (fun _ _=>0) ⟨#[],#[.string ⟨⟨[]⟩⟩],[]⟩).memory :=
 laidMet_laidAll _ (by kernel_rfl) (by kernel_rfl)
theorem TokensCut_reads (os:Os) {H:Type} (enc:TypeId × Value→H):∃ places,DataW.whole enc Tryd.prog ((TokensCut_world os).forCall (fun _ _=>0) ⟨#[],#[.string ⟨⟨[]⟩⟩],[]⟩).memory Tryd.f4.params.toList Rows.tokensCutSpec.vars false (#[.string ⟨⟨[]⟩⟩]:Array Value).toList 8=some ([.lit (.string [])],[],places) :=
 ⟨[],by kernel_rfl⟩
set_option maxRecDepth 100000 in
theorem TokensCut_lifted (os:Os) (started:os.Started) (H:Type) (enc:TypeId × Value→H) (F:Stop.Interp) :
  ReturnsInHanded {} Tryd.checked os 4 .any ((OpenSpec.ofChange Rows.tokensCutSpec).preRow enc Tryd.prog Tryd.f4 Rows.tokensCutRow.domain false Rows.tokensCutRow.laid) (((OpenSpec.ofChange Rows.tokensCutSpec).at F).post enc Tryd.prog Tryd.f4 false true false false):=by
 obtain ⟨places,hx⟩:=TokensCut_reads os enc
 refine returnsInHanded_of_row (C:=Tryd.checked) (s:=OpenSpec.ofChange Rows.tokensCutSpec) own started (by kernel_rfl) Tryd.func4
  (witness_row_at (enc:=enc) (C:=Tryd.checked) false (TokensCut_world os) #[.string ⟨⟨[]⟩⟩] (World.laidAll_os _ _ _) (by kernel_rfl) (by kernel_rfl) (by kernel_rfl)
   (OpenSpec.preRow_of_cond 8 hx (by kernel_rfl) (fun k hk=>by cases hk) (by kernel_rfl) (TokensCut_met os))) ?_
 intro W base args ds gs before hval hW _ _ hwt hL _ _
 exact TokensCut_contract H enc W base args ds gs before hval hwt hW hL
theorem TokensCut_row:Rows.TokensCutSaid:=TokensCut_over TokensCut_lifted
theorem TokensCut_said:Rows.TokensCutCardSaid :=
 Claim7.holds_tied_plain_at .later [] _ _ _ _ TokensCut_row (fun _ h=>by cases h) (by kernel_rfl) (fun _ h=>by cases h) tokensCut_row_tie rfl ⟨rfl,rfl⟩ (by kernel_rfl) rfl TokensCut_plain (by kernel_rfl)
#print axioms TokensCut_said
end Go.Proofs.YtjlaaanmjaihaaaDoor
