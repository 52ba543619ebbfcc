/-
  Words that a part has not it neither reads nor turns: the law TopHidden returns true for every list of raw things, two raw things and code of raw things, wherever the tables of the packages code and barbicankeep hold what the program's text lays there.
-/
import Derived.Test.YtijdegmamdhcbaaDoorJTopHidden
import Derived.Test.YtijdegmamdhcbaaDoorCards
import Derived.Test.YtijdegmamdhcbaaDoorTie
import Derived.Test.YtijdegmamdhcbaaDoorDgk
import Derived.Test.YtijdegmamdhcbaaDoorHd
namespace Go.Proofs.YtijdegmamdhcbaaDoor
open Go Go.Dm Go.Eng Go.RowKit Go.ChangeShapes Go.WideShapes Go.ChangeAt Barb

noncomputable def hidC (m:Image) (l:List Raw):List Barb.Instr:=(codeP l [] (imgWords m)).filter keepI
theorem hidC_ok (m:Image) (fr:Nat) (hf:imgWords m=(fr:Int)) (hfr:fr≤1000) (l:List Raw):(∀ x∈hidC m l,instrE x=0)∧2≤(hidC m l).length∧(hidC m l).length≤1200∧∀ x∈hidC m l,x.op≠12:=by
 obtain ⟨h1,h2,h3⟩:=codeP_ok [] (by decide) (fun q hq=>by cases hq) fr hfr l
 unfold hidC
 rw[hf]
 refine ⟨fun x hx=>h1 x (List.mem_filter.1 hx).1,?_,?_,fun x hx=>?_⟩
 ·unfold codeP
  rw[List.filter_append]
  simp[keepI,gateI]
 ·have:=List.length_filter_le keepI (codeP l [] fr)
  omega
 ·have:=(List.mem_filter.1 hx).2
  simpa [keepI,gateI] using this
set_option maxRecDepth 20000 in
set_option maxHeartbeats 4000000 in
theorem TopHidden_walk (l:List Raw) (hI:∀ r∈l,r.I) (hl:l.length*32≤140737488351232) (r:Raw) (hr:r.I) (s:Raw) (hs:s.I) (code:List Raw) (hcI:∀ r∈code,r.I) (_:code.length*32≤140737488351232):CT Tryd.prog gl 5 [.g (.sl 4 (l.map Raw.g)),.agg r.d,.agg s.d,.g (.sl 4 (code.map Raw.g))] (Is (.g (.bool true))):=by
 have hB:=built_any l hI hl r hr
 obtain ⟨hgood,hfew,hlen,_,hdw,hdx,hdl,hwl⟩:=builtOk l r
 obtain ⟨_,_,_,_,hdw2,hdx2,hdl2,_⟩:=builtOk l s
 have hL:=linkI_good hgood hfew
 have hpi:=progE_I hgood hfew
 have hC:=Cells_isT (programP l) (progE_PC hgood) s hs
 have hc0:=cellsP_good hgood s
 obtain ⟨_,hcl,hcc⟩:=cellsE_ok hc0
 have h5:=(progE_inv hgood).1
 have hD:=Data_any (programP l) hpi (cellsP (programP l) s) (cells_I hgood hcl hcc) (by omega)
 rw[hc0] at hD
 generalize programP l=p at *
 generalize dataL p (cellsP p r)=d at *
 generalize dataL p (cellsP p s)=d2 at *
 generalize cellsP p r=cs at *
 generalize cellsP p s=cs2 at *
 refine enterJ [9,10] hT hF hM Tryd.func5 rfl 145 rfl (by kernel_rfl) [.tmp 8] rfl [.g (.sl 4 (l.map Raw.g)),.agg r.d,.agg s.d,.g (.sl 4 (code.map Raw.g))] rfl _ ?_
 refine callIs (.inl rfl) hB ?_
 refine ⟨fun e0=>⟨rfl,retIs (.inl rfl)⟩,fun e0=>?_⟩
 obtain ⟨m1,m2,m3,m4⟩:=hL e0
 generalize linkI p=m at *
 have hw0:0≤imgWords m:=by rw[m3];omega
 obtain ⟨fr,hfr⟩:∃ fr:Nat,imgWords m=(fr:Int):=⟨_,(Int.toNat_of_nonneg hw0).symm⟩
 have hW:=MemWords_any m m2
 have hCd:=Code_Q [] (fun q hq=>by cases hq) fr (by omega) code hcI (fun out=>out=.ret (.row 0) [.row ((codeP code [] fr).map Instr.g) 55 4]) (fun h i hi=>retRow hi rfl rfl)
 have hc:=hidC_ok m fr hfr (by omega) code
 have hDl:=Delete_any (codeP code [] fr) (by have:=(codeP_ok [] (by decide) (fun q hq=>by cases hq) fr (by omega) code).2.2;omega)
 have hWith:=With_any m (by omega) (hidC m code) (by omega) [⟨0,0⟩] (by decide) 4
 have hHo:HostOk m d (hidC m code) (linkV m (hidC m code) [⟨0,0⟩] 4):=hostOk m1 m2 (by omega) ⟨hw0,by omega⟩ (by omega) hdx hc.1 hc.2.1 hc.2.2.1
 have hHo2:HostOk m d2 (hidC m code) (linkV m (hidC m code) [⟨0,0⟩] 4):=hostOk m1 m2 (by omega) ⟨hw0,by omega⟩ (by omega) hdx2 hc.1 hc.2.1 hc.2.2.1
 obtain ⟨r1,v1,ok⟩:=hostRun hHo 5000 (by omega)
 obtain ⟨r2,v2,ok2⟩:=hostRun hHo2 5000 (by omega)
 have R1:=Run_any _ hHo.I (d++[1,2,3,4]) (by simp;omega) m.length 0 [] (by simp) ((5000:Nat):Int)
 have R2:=Run_any _ hHo.I (d2++[1,2,3,4]) (by simp;omega) m.length 0 [] (by simp) ((5000:Nat):Int)
 rw[r1,v1] at R1
 rw[r2,v2] at R2
 rw[hfr] at hW
 rw[show (codeP code [] fr).filter keepI=hidC m code by unfold hidC;rw[hfr]] at hDl
 generalize linkV m (hidC m code) [⟨0,0⟩] 4=x at *
 have hkx:m.length < x.length:=by have:=hHo.len;omega
 have hgx:x.getD m.length noPart=x[m.length]:=by simp[hkx]
 have hhid:=iterS_hid (n:=d.length) (d1:=d) (d2:=d2) hkx (by have:=hHo.lo;rw[hgx] at this;omega) (by have:=hHo.code;rw[hgx] at this;rw[this];exact hc.2.2.2) 5000 ⟨[],d++[1,2,3,4],[]⟩ ⟨[],d2++[1,2,3,4],[]⟩ (hostF m)
  ⟨rfl,List.take_left,(by show (d2++[1,2,3,4]).take d.length=d2;exact List.take_left' (by omega)),(by show (d++[1,2,3,4]).drop d.length=(d2++[1,2,3,4]).drop d.length;rw[List.drop_left,List.drop_left' (by omega)])⟩ (fun f hf=>by unfold hostF at hf;rw[List.mem_singleton.1 hf]) (by simp[hostF])
 have hend:=(iterS_all (P:=fun _=>True) (fun _ _=>⟨fun _=>trivial,fun _ _=>trivial,fun _ _=>trivial⟩) (fun _ _ _ _=>trivial) 5000 _ _ ok (by simp[hostF]) trivial).2
 have hl1:=iterS_lens 5000 ok
 have hl2:=iterS_lens 5000 ok2
 generalize iterS x 5000 ⟨[],d++[1,2,3,4],[]⟩ (hostF m)=A at *
 generalize iterS x 5000 ⟨[],d2++[1,2,3,4],[]⟩ (hostF m)=B at *
 obtain ⟨hE,hV,hT,hO,hTw,hOwn⟩:A.1=B.1∧A.2.1=B.2.1∧A.2.2.told=B.2.2.told∧A.2.2.data.take d.length=d∧B.2.2.data.take d.length=d2∧A.2.2.data.drop d.length=B.2.2.data.drop d.length:=⟨hhid.1,hhid.2.1,hhid.2.2.told,hhid.2.2.one,hhid.2.2.two,hhid.2.2.own⟩
 refine callIs (.inl rfl) hW ?_
 refine callQ (show likeA [.g (.sl 4 (code.map Raw.g)),.agg [.nils],.g (.int (fr:Int))] [.g (.sl 4 (code.map Raw.g)),.agg [.g (.sl 4 (([]:Image).map Part.g))],.g (.int (fr:Int))] from .inr ⟨lk rfl,.inr ⟨lkNil,trivial⟩,lk rfl,trivial⟩) hCd (fun d h hq=>?_) (fun d hq=>by cases hq)
 injection hq with q1 q2
 subst q1
 subst q2
 refine callO [3] del_fn rfl rfl ⟨rfl,.inl rfl,.inl rfl,rfl⟩ hDl (fun d h hq=>?_) (fun d h hq=>by cases hq)
 injection hq with q1 q2
 subst q1
 subst q2
 refine ⟨[[.int 0,.int 0]],rfl,rfl,⟨rfl,rfl,trivial⟩,?_⟩
 refine callIs (.inl rfl) hWith (callIs (.inl rfl) hC (callIs (.inl rfl) hD ⟨fun h=>absurd rfl h,fun _=>?_⟩))
 refine turnTo [] [(12,.g (.sl 1 (d.map intG))),(15,.fp [.sl 4 (x.map Part.g)] 0),(16,.g (.int (m.length:Int))),(17,.g (.sl 1 (d2.map intG)))] [] ⟨rfl,.inl rfl,.inl rfl,rfl⟩ ?_
 have ld:(d.map intG).length=d.length:=List.length_map _
 have ld2:(d2.map intG).length=d2.length:=List.length_map _
 refine ⟨some 245604,9,11,rfl,[11],rfl,_,_,_,.inl rfl,Clone_any (d.map intG) (by omega),rfl,?_⟩
 refine ⟨[[.int 1],[.int 2],[.int 3],[.int 4]],rfl,rfl,⟨rfl,rfl,rfl,rfl,trivial⟩,?_⟩
 refine ⟨⟨by simp[maxLen];omega,by simp;omega⟩,?_⟩
 refine ⟨_,_,_,(show likeA [.agg (imgD x),.g (.sl 1 (d.map intG++[[.int 1],[.int 2],[.int 3],[.int 4]])),.g (.int m.length),.g (.int 0),.nils,.g (.int ((5000:Nat):Int))] [.agg (imgD x),.g (.sl 1 ((d++[1,2,3,4]).map intG)),.g (.int m.length),.g (.int 0),.g (.sl 1 (([]:List Int).map intG)),.g (.int ((5000:Nat):Int))] from .inr ⟨lk rfl,lkL (by rw[List.map_append];rfl),lk rfl,lk rfl,lkNil,lk rfl,trivial⟩),R1,rfl,?_⟩
 have hOA:outOf A=⟨A.1,A.2.1,A.2.2.told,A.2.2.data,A.2.2.calls⟩:=rfl
 refine turnTo [] [(12,.g (.sl 1 (d.map intG))),(15,.fp [.sl 4 (x.map Part.g)] 0),(16,.g (.int (m.length:Int))),(17,.g (.sl 1 (d2.map intG))),(19,.fp [.int A.1,.int A.2.1,.sl 1 (A.2.2.told.map intG),.sl 1 (A.2.2.data.map intG),.sl 7 (A.2.2.calls.map Nt.g)] 0),(20,.g (.int 0))] [] ⟨rfl,.inl rfl,.inl rfl,rfl⟩ ?_
 refine ⟨some 245604,9,11,rfl,[11],rfl,_,_,_,.inl rfl,Clone_any (d2.map intG) (by omega),rfl,?_⟩
 refine ⟨[[.int 1],[.int 2],[.int 3],[.int 4]],rfl,rfl,⟨rfl,rfl,rfl,rfl,trivial⟩,?_⟩
 refine ⟨⟨by simp[maxLen];omega,by simp;omega⟩,?_⟩
 refine ⟨_,_,_,(show likeA [.agg (imgD x),.g (.sl 1 (d2.map intG++[[.int 1],[.int 2],[.int 3],[.int 4]])),.g (.int m.length),.g (.int 0),.nils,.g (.int ((5000:Nat):Int))] [.agg (imgD x),.g (.sl 1 ((d2++[1,2,3,4]).map intG)),.g (.int m.length),.g (.int 0),.g (.sl 1 (([]:List Int).map intG)),.g (.int ((5000:Nat):Int))] from .inr ⟨lk rfl,lkL (by rw[List.map_append];rfl),lk rfl,lk rfl,lkNil,lk rfl,trivial⟩),R2,rfl,?_⟩
 have la:(A.2.2.data.map intG).length=A.2.2.data.length:=List.length_map _
 have lb:(B.2.2.data.map intG).length=B.2.2.data.length:=List.length_map _
 have lla:A.2.2.data.length=d.length+4:=hl1.2.trans (by simp)
 have llb:B.2.2.data.length=d2.length+4:=hl2.2.trans (by simp)
 have tA:(A.2.2.data.map intG).take (d.map intG).length=d.map intG:=by rw[ld,← List.map_take,hO]
 have tB:(B.2.2.data.map intG).take (d.map intG).length=d2.map intG:=by rw[ld,← List.map_take,hTw]
 have hA1:A.1≠0:=by omega
 have hB1:B.1≠0:=by omega
 refine ⟨none,rfl,fun _=>⟨fun _=>⟨fun _=>⟨fun _=>?_,fun h=>absurd h hB1⟩,fun h=>absurd h hA1⟩,fun h=>absurd rfl h⟩,fun h=>absurd rfl h⟩
 refine ⟨(d.map intG).length,rfl,(by rw[la,lla,ld];omega),?_⟩
 refine ⟨[.g (.sl 1 (d.map intG)),.g (.sl 1 (d.map intG))],_,(show likeA [.g (.sl 1 ((A.2.2.data.map intG).take (d.map intG).length)),.g (.sl 1 (d.map intG))] [.g (.sl 1 (d.map intG)),.g (.sl 1 (d.map intG))] from .inr ⟨lkL tA,lk rfl,trivial⟩),EqualN_any d (by omega),rfl,?_⟩
 refine ⟨(d.map intG).length,rfl,(by show (d.map intG).length≤(B.2.2.data.map intG).length;rw[lb,llb,ld];omega),?_⟩
 refine ⟨[.g (.sl 1 (d2.map intG)),.g (.sl 1 (d2.map intG))],_,(show likeA [.g (.sl 1 ((B.2.2.data.map intG).take (d.map intG).length)),.g (.sl 1 (d2.map intG))] [.g (.sl 1 (d2.map intG)),.g (.sl 1 (d2.map intG))] from .inr ⟨lkL tB,lk rfl,trivial⟩),EqualN_any d2 (by omega),rfl,?_⟩
 refine ⟨fun _=>⟨fun _=>?_,fun h=>absurd hV h⟩,fun h=>absurd hE h⟩
 refine ⟨[.g (.sl 1 (A.2.2.told.map intG)),.g (.sl 1 (A.2.2.told.map intG))],_,(show likeA [.g (.sl 1 (A.2.2.told.map intG)),.g (.sl 1 (B.2.2.told.map intG))] [.g (.sl 1 (A.2.2.told.map intG)),.g (.sl 1 (A.2.2.told.map intG))] from .inr ⟨lk rfl,lkL (by rw[hT]),trivial⟩),EqualN_any A.2.2.told (by omega),rfl,?_⟩
 have dA:(A.2.2.data.map intG).drop (d.map intG).length=(A.2.2.data.drop d.length).map intG:=by rw[ld,List.map_drop]
 have dB:(B.2.2.data.map intG).drop (d.map intG).length=(A.2.2.data.drop d.length).map intG:=by rw[ld,hOwn,List.map_drop]
 refine ⟨(d.map intG).length,rfl,(by show (d.map intG).length≤(A.2.2.data.map intG).length;rw[la,lla,ld];omega),(d.map intG).length,rfl,(by show (d.map intG).length≤(B.2.2.data.map intG).length;rw[lb,llb,ld];omega),?_⟩
 refine ⟨[.g (.sl 1 ((A.2.2.data.drop d.length).map intG)),.g (.sl 1 ((A.2.2.data.drop d.length).map intG))],_,(show likeA [.g (.sl 1 ((A.2.2.data.map intG).drop (d.map intG).length)),.g (.sl 1 ((B.2.2.data.map intG).drop (d.map intG).length))] [.g (.sl 1 ((A.2.2.data.drop d.length).map intG)),.g (.sl 1 ((A.2.2.data.drop d.length).map intG))] from .inr ⟨lkL dA,lkL dB,trivial⟩),EqualN_any (A.2.2.data.drop d.length) (by rw[List.length_drop];omega),rfl,?_⟩
 exact ⟨rfl,retIs (.inl rfl)⟩


set_option maxRecDepth 100000 in
theorem TopHidden_contract (H:Type) (enc:TypeId × Value→H) (W:World) (base:Nat) (args:Array Value) (ds gs:List (DataW H)) (before:List MemPlace)
  (hval:∀ (j:Nat) t v,Tryd.f5.params[j]?=some t→args[j]?=some v→Value.okWide Tryd.prog W .any base t v)
  (hwt:(DataW.weightsEach Tryd.prog (Tryd.f5.params.toList++Rows.topHiddenSpec.plain.varTypes Tryd.prog) (ds++gs)).all (·≤reachBytes)=true)
  (hW:DataW.Whole enc Tryd.prog Tryd.f5.params.toList Rows.topHiddenSpec.vars false W args.toList ds gs before) (hL:laidMetH Tryd.prog Rows.topHiddenRow.laid W) :
  Calls Tryd.prog 5 args W fun e W'=>∃ v,e=.returned v∧Rows.topHiddenSpec.post enc Tryd.prog Tryd.f5 false true false false W args v W':=by
 refine law_contractW plainS_ok laidOut rfl ?_ rfl Tryd.underlying4 (pars_ok (by kernel_rfl)) W ?_ base args ds gs before hval hwt hW
 ·intro ds hds
  match ds,hds with
  | [d0,d1,d2,d3],_=>rfl
 ·intro args hargs
  obtain ⟨v0,r0,rfl,h0,hargs⟩:=hargs.inv
  obtain ⟨v1,r1,rfl,h1,hargs⟩:=hargs.inv
  obtain ⟨v2,r2,rfl,h2,hargs⟩:=hargs.inv
  obtain ⟨v3,r3,rfl,h3,hargs⟩:=hargs.inv
  obtain rfl:=hargs.inv0
  obtain ⟨f0,g0,t0,R0⟩:=h0.slice Tryd.underlying22
  obtain ⟨x0,rfl,i0,b0⟩:=dec_Raws t0
  obtain ⟨f1,g1,c1,rfl,t1,R1⟩:=h1.struct Tryd.underlying24
  obtain ⟨x1,rfl,b1⟩:=dec_Raw t1
  obtain ⟨f2,g2,c2,rfl,t2,R2⟩:=h2.struct Tryd.underlying24
  obtain ⟨x2,rfl,b2⟩:=dec_Raw t2
  obtain ⟨f3,g3,t3,R3⟩:=h3.slice Tryd.underlying22
  obtain ⟨x3,rfl,i3,b3⟩:=dec_Raws t3
  exact law_of_ctG (gl_ok hL) (TopHidden_walk x0 i0 b0 x1 b1 x2 b2 x3 i3 b3) (args_cons (arg_g R0) (args_cons (arg_agg R1) (args_cons (arg_agg R2) (args_cons (arg_g R3) args_nil))))
theorem TopHidden_met (os:Os):laidMet Tryd.prog Rows.topHiddenRow.laid ((gl_world os).forCall (fun _ _=>0) ⟨#[],#[.slice none 0 0,.agg #[.int .i64 0,.int .i64 0,.int .i64 0,.int .i64 0],.agg #[.int .i64 0,.int .i64 0,.int .i64 0,.int .i64 0],.slice none 0 0],[]⟩).memory :=
 laidMet_of_run' 8 (by kernel_rfl) (by kernel_rfl)
theorem TopHidden_reads (os:Os) {H:Type} (enc:TypeId × Value→H):∃ places,DataW.whole enc Tryd.prog ((gl_world os).forCall (fun _ _=>0) ⟨#[],#[.slice none 0 0,.agg #[.int .i64 0,.int .i64 0,.int .i64 0,.int .i64 0],.agg #[.int .i64 0,.int .i64 0,.int .i64 0,.int .i64 0],.slice none 0 0],[]⟩).memory Tryd.f5.params.toList Rows.topHiddenSpec.vars false (#[.slice none 0 0,.agg #[.int .i64 0,.int .i64 0,.int .i64 0,.int .i64 0],.agg #[.int .i64 0,.int .i64 0,.int .i64 0,.int .i64 0],.slice none 0 0]:Array Value).toList 8=some ([.nil,.agg [.lit (.int .i64 0),.lit (.int .i64 0),.lit (.int .i64 0),.lit (.int .i64 0)],.agg [.lit (.int .i64 0),.lit (.int .i64 0),.lit (.int .i64 0),.lit (.int .i64 0)],.nil],[],places) :=
 ⟨[],by kernel_rfl⟩
set_option maxRecDepth 100000 in
theorem TopHidden_lifted (os:Os) (started:os.Started) (H:Type) (enc:TypeId × Value→H) (F:Stop.Interp) :
  ReturnsInHanded {} Tryd.checked os 5 .any ((OpenSpec.ofChange Rows.topHiddenSpec).preRow enc Tryd.prog Tryd.f5 Rows.topHiddenRow.domain false Rows.topHiddenRow.laid) (((OpenSpec.ofChange Rows.topHiddenSpec).at F).post enc Tryd.prog Tryd.f5 false true false false):=by
 obtain ⟨places,hx⟩:=TopHidden_reads os enc
 refine returnsInHanded_of_row (C:=Tryd.checked) (s:=OpenSpec.ofChange Rows.topHiddenSpec) own started (by kernel_rfl) Tryd.func5
  (witness_row_at (enc:=enc) (C:=Tryd.checked) false (gl_world os) #[.slice none 0 0,.agg #[.int .i64 0,.int .i64 0,.int .i64 0,.int .i64 0],.agg #[.int .i64 0,.int .i64 0,.int .i64 0,.int .i64 0],.slice none 0 0] rfl (by kernel_rfl) (by kernel_rfl) (by kernel_rfl)
   (OpenSpec.preRow_of_cond 8 hx (by kernel_rfl) (fun k hk=>by cases hk) (by kernel_rfl) (TopHidden_met os))) ?_
 intro W base args ds gs before hval hW _ _ hwt hL _ _
 exact TopHidden_contract H enc W base args ds gs before hval hwt hW hL
theorem TopHidden_row:Rows.TopHiddenSaid:=TopHidden_over TopHidden_lifted
theorem TopHidden_said:Rows.TopHiddenCardSaid :=
 Claim7.holds_tied_plain_at .later [] _ _ _ _ TopHidden_row (fun _ h=>by cases h) (by kernel_rfl) (fun _ h=>by cases h) topHidden_row_tie rfl ⟨rfl,rfl⟩ (by kernel_rfl) rfl TopHidden_plain (by kernel_rfl)
#print axioms TopHidden_said
end Go.Proofs.YtijdegmamdhcbaaDoor
