/-
  More fuel changes nothing of a run that came to its end; less tells a beginning of it: the law TopFuel returns true for every list of raw things, raw thing, code of raw things and number, wherever the tables of the packages code and barbicankeep hold what the program's text lays there.
-/
import Derived.Test.YtijdegmamdhcbaaDoorJTopFuel
import Derived.Test.YtijdegmamdhcbaaDoorCards
import Derived.Test.YtijdegmamdhcbaaDoorTie
import Derived.Test.YtijdegmamdhcbaaDoorDgk
import Derived.Test.YtijdegmamdhcbaaDoorHo
namespace Go.Proofs.YtijdegmamdhcbaaDoor
open Go Go.Dm Go.Eng Go.RowKit Go.ChangeShapes Go.WideShapes Go.ChangeAt Barb

theorem Picked_any (n many:Int) (hn:I64 n) (hm:0 < many):CT Tryd.prog gl 14 [.g (.int n),.g (.int many)] (Is (.g (.int (pickN n many)))):=by
 refine enter hT hF hM Tryd.func14 rfl 8 rfl (by kernel_rfl) [.tmp 4] rfl [.g (.int n),.g (.int many)] rfl _ ?_
 exact callIs (.inl rfl) (picked_any n many hn hm) ⟨rfl,retI rfl⟩
theorem outOf_told (x:Int × Int × MO):(outOf x).told=x.2.2.told:=rfl
set_option maxRecDepth 20000 in
set_option maxHeartbeats 4000000 in
theorem TopFuel_walk (l:List Raw) (hI:∀ r∈l,r.I) (hl:l.length*32≤140737488351232) (r:Raw) (hr:r.I) (code:List Raw) (hcI:∀ r∈code,r.I) (_:code.length*32≤140737488351232) (fuel:Int) (hf:I64 fuel):CT Tryd.prog gl 4 [.g (.sl 4 (l.map Raw.g)),.agg r.d,.g (.sl 4 (code.map Raw.g)),.g (.int fuel)] (Is (.g (.bool true))):=by
 have hB:=built_any l hI hl r hr
 obtain ⟨hgood,hfew,hlen,_,hdw,hdx,hdl,hwl⟩:=builtOk l r
 have hL:=linkI_good hgood hfew
 generalize programP l=p at *
 generalize dataL p (cellsP p r)=d at *
 generalize cellsP p r=cs at *
 obtain ⟨k,hk,hkl⟩:=pickN_nat fuel (many:=5000) (by decide)
 have hPk:=Picked_any fuel 5000 hf (by decide)
 rw[show pickN fuel 5000=(k:Int) from hk] at hPk
 refine enter hT hF hM Tryd.func4 rfl 118 rfl (by kernel_rfl) [.tmp 8] rfl [.g (.sl 4 (l.map Raw.g)),.agg r.d,.g (.sl 4 (code.map Raw.g)),.g (.int fuel)] rfl _ ?_
 refine callIs (.inl rfl) hB ?_
 refine ⟨fun e0=>⟨rfl,retIs (.inl rfl)⟩,fun e0=>?_⟩
 obtain ⟨m1,m2,m3,m4⟩:=hL e0
 generalize linkI p=m at *
 have hw0:0≤imgWords m:=by rw[m3];omega
 have hH:=hostile_any m m1 m2 (by omega) ⟨hw0,by omega⟩ d hdl code hcI
 obtain ⟨fr,hfr⟩:∃ fr:Nat,imgWords m=(fr:Int):=⟨_,(Int.toNat_of_nonneg hw0).symm⟩
 have hc:=codeP_ok m (by omega) (img_ents m1) fr (by omega) code
 have hHo:HostOk m d (hostC m code) (hostI m code):=hostOk m1 m2 (by omega) ⟨hw0,by omega⟩ (by omega) hdx (by unfold hostC;rw[hfr];exact hc.1) (by unfold hostC;rw[hfr];exact hc.2.1) (by unfold hostC;rw[hfr];have:=hc.2.2;omega)
 obtain ⟨r1,v1,ok⟩:=hostRun hHo k (by omega)
 obtain ⟨r2,v2,_⟩:=hostRun hHo (k+1000) (by omega)
 have R1:=Run_any (hostI m code) hHo.I (d++[1,2,3,4]) (by simp;omega) m.length 0 [] (by simp) k
 have R2:=Run_any (hostI m code) hHo.I (d++[1,2,3,4]) (by simp;omega) m.length 0 [] (by simp) ((k+1000:Nat):Int)
 rw[r1,v1] at R1
 rw[r2,v2] at R2
 have hmore:=iterS_more (hostI m code) k 1000 ⟨[],d++[1,2,3,4],[]⟩ (hostF m)
 have hless:=iterS_less 1000 k ⟨[],d++[1,2,3,4],[]⟩ (hostF m) ok (by simp[hostF])
 have hend:=(iterS_all (P:=fun _=>True) (fun _ _=>⟨fun _=>trivial,fun _ _=>trivial,fun _ _=>trivial⟩) (fun _ _ _ _=>trivial) k _ _ ok (by simp[hostF]) trivial).2
 have hend2:=iterS_lens k ok
 have hend3:=iterS_lens (k+1000) ok
 generalize iterS (hostI m code) k ⟨[],d++[1,2,3,4],[]⟩ (hostF m)=A at *
 generalize iterS (hostI m code) (k+1000) ⟨[],d++[1,2,3,4],[]⟩ (hostF m)=B at *
 generalize hostI m code=x at *
 have hdd4:(d++[1,2,3,4]).length=d.length+4:=by simp
 generalize d++[1,2,3,4]=dd at *
 refine callIs (.inl rfl) hH ?_
 refine callIs (.inl rfl) hPk ?_
 refine callIs (show likeA [.agg (imgD x),.g (.sl 1 (dd.map intG)),.g (.int m.length),.g (.int 0),.nils,.g (.int k)] [.agg (imgD x),.g (.sl 1 (dd.map intG)),.g (.int m.length),.g (.int 0),.g (.sl 1 (([]:List Int).map intG)),.g (.int k)] from .inr ⟨lk rfl,lk rfl,lk rfl,lk rfl,lkNil,lk rfl,trivial⟩) R1 ?_
 refine ⟨((k+1000:Nat):Int),(I64.wrap (by unfold I64;omega)).trans (by push_cast;rfl),?_⟩
 refine callIs (show likeA [.agg (imgD x),.g (.sl 1 (dd.map intG)),.g (.int m.length),.g (.int 0),.nils,.g (.int ((k+1000:Nat):Int))] [.agg (imgD x),.g (.sl 1 (dd.map intG)),.g (.int m.length),.g (.int 0),.g (.sl 1 (([]:List Int).map intG)),.g (.int ((k+1000:Nat):Int))] from .inr ⟨lk rfl,lk rfl,lk rfl,lk rfl,lkNil,lk rfl,trivial⟩) R2 ?_
 have la:((outOf A).told.map intG).length=(outOf A).told.length:=List.length_map _
 have lb:((outOf B).told.map intG).length=(outOf B).told.length:=List.length_map _
 have ha1:(outOf A).told=A.2.2.told:=rfl
 have hb1:(outOf B).told=B.2.2.told:=rfl
 have ha2:(outOf A).end_=A.1:=rfl
 have hda:(outOf A).data=A.2.2.data:=rfl
 refine ⟨fun h=>absurd rfl h,fun _=>⟨fun h=>absurd rfl h,fun _=>⟨fun h=>?_,fun _=>?_⟩⟩⟩
 ·exact absurd (show A.1=0 from h) (by omega)
 refine ⟨fun e3=>?_,fun e3=>?_⟩
 ·obtain ⟨t,ht⟩:=hless e3
  have hlen2:(outOf A).told.length≤(outOf B).told.length:=by rw[ha1,hb1,← ht];simp
  have htk:((outOf B).told.map intG).take ((outOf A).told.map intG).length=(outOf A).told.map intG:=by
   rw[la,← List.map_take,ha1,hb1,← ht,List.take_left]
  refine ⟨none,rfl,fun _=>?_,fun h=>absurd (show (((outOf A).told.map intG).length:Int)≤(((outOf B).told.map intG).length:Nat) by rw[la,lb];omega) h⟩
  refine ⟨((outOf A).told.map intG).length,rfl,(by rw[la,lb];exact hlen2),?_⟩
  refine ⟨[.g (.sl 1 ((outOf A).told.map intG)),.g (.sl 1 ((outOf A).told.map intG))],_,(show likeA [.g (.sl 1 ((outOf A).told.map intG)),.g (.sl 1 (((outOf B).told.map intG).take ((outOf A).told.map intG).length))] [.g (.sl 1 ((outOf A).told.map intG)),.g (.sl 1 ((outOf A).told.map intG))] from .inr ⟨lk rfl,lkL htk,trivial⟩),EqualN_any (outOf A).told (by rw[ha1];omega),rfl,?_⟩
  exact ⟨rfl,retIs (.inl rfl)⟩
 ·have hBA:=hmore e3
  refine ⟨fun _=>⟨fun _=>?_,fun h=>absurd (show A.2.1=B.2.1 by rw[hBA]) h⟩,fun h=>absurd (show A.1=B.1 by rw[hBA]) h⟩
  refine callIs (show likeA [.g (.sl 1 ((outOf A).told.map intG)),.g (.sl 1 ((outOf B).told.map intG))] [.g (.sl 1 ((outOf A).told.map intG)),.g (.sl 1 ((outOf A).told.map intG))] from .inr ⟨lk rfl,lkL (by rw[hBA]),trivial⟩) (EqualN_any (outOf A).told (by rw[ha1];omega)) ?_
  refine callIs (show likeA [.g (.sl 1 ((outOf A).data.map intG)),.g (.sl 1 ((outOf B).data.map intG))] [.g (.sl 1 ((outOf A).data.map intG)),.g (.sl 1 ((outOf A).data.map intG))] from .inr ⟨lk rfl,lkL (by rw[hBA]),trivial⟩) (EqualN_any (outOf A).data (by rw[hda,hend2.2];show dd.length≤_;omega)) ?_
  exact ⟨rfl,retIs (.inl rfl)⟩

set_option maxRecDepth 100000 in
theorem TopFuel_contract (H:Type) (enc:TypeId × Value→H) (W:World) (base:Nat) (args:Array Value) (ds gs:List (DataW H)) (before:List MemPlace)
  (hval:∀ (j:Nat) t v,Tryd.f4.params[j]?=some t→args[j]?=some v→Value.okWide Tryd.prog W .any base t v)
  (hwt:(DataW.weightsEach Tryd.prog (Tryd.f4.params.toList++Rows.topFuelSpec.plain.varTypes Tryd.prog) (ds++gs)).all (·≤reachBytes)=true)
  (hW:DataW.Whole enc Tryd.prog Tryd.f4.params.toList Rows.topFuelSpec.vars false W args.toList ds gs before) (hL:laidMetH Tryd.prog Rows.topFuelRow.laid W) :
  Calls Tryd.prog 4 args W fun e W'=>∃ v,e=.returned v∧Rows.topFuelSpec.post enc Tryd.prog Tryd.f4 false true false false W args v W':=by
 refine law_contractW plainS_ok laidOut rfl ?_ rfl Tryd.underlying4 (pars_ok (by kernel_rfl)) W ?_ base args ds gs before hval hwt hW
 ·intro ds hds
  match ds,hds with
  | [d0,d1,d2,d3],_=>rfl
 ·intro args hargs
  obtain ⟨v0,r0,rfl,h0,hargs⟩:=hargs.inv
  obtain ⟨v1,r1,rfl,h1,hargs⟩:=hargs.inv
  obtain ⟨v2,r2,rfl,h2,hargs⟩:=hargs.inv
  obtain ⟨v3,r3,rfl,h3,hargs⟩:=hargs.inv
  obtain rfl:=hargs.inv0
  obtain ⟨f0,g0,t0,R0⟩:=h0.slice Tryd.underlying22
  obtain ⟨x0,rfl,i0,b0⟩:=dec_Raws t0
  obtain ⟨f1,g1,c1,rfl,t1,R1⟩:=h1.struct Tryd.underlying24
  obtain ⟨x1,rfl,b1⟩:=dec_Raw t1
  obtain ⟨f2,g2,t2,R2⟩:=h2.slice Tryd.underlying22
  obtain ⟨x2,rfl,i2,b2⟩:=dec_Raws t2
  obtain ⟨x3,rfl,b3⟩:=h3.int Tryd.underlying3
  exact law_of_ctG (gl_ok hL) (TopFuel_walk x0 i0 b0 x1 b1 x2 i2 b2 x3 b3) (args_cons (arg_g R0) (args_cons (arg_agg R1) (args_cons (arg_g R2) (args_cons (arg_g (by simp only[RepV])) args_nil))))
theorem TopFuel_met (os:Os):laidMet Tryd.prog Rows.topFuelRow.laid ((gl_world os).forCall (fun _ _=>0) ⟨#[],#[.slice none 0 0,.agg #[.int .i64 0,.int .i64 0,.int .i64 0,.int .i64 0],.slice none 0 0,.int .i64 0],[]⟩).memory :=
 laidMet_of_run' 8 (by kernel_rfl) (by kernel_rfl)
theorem TopFuel_reads (os:Os) {H:Type} (enc:TypeId × Value→H):∃ places,DataW.whole enc Tryd.prog ((gl_world os).forCall (fun _ _=>0) ⟨#[],#[.slice none 0 0,.agg #[.int .i64 0,.int .i64 0,.int .i64 0,.int .i64 0],.slice none 0 0,.int .i64 0],[]⟩).memory Tryd.f4.params.toList Rows.topFuelSpec.vars false (#[.slice none 0 0,.agg #[.int .i64 0,.int .i64 0,.int .i64 0,.int .i64 0],.slice none 0 0,.int .i64 0]:Array Value).toList 8=some ([.nil,.agg [.lit (.int .i64 0),.lit (.int .i64 0),.lit (.int .i64 0),.lit (.int .i64 0)],.nil,.lit (.int .i64 0)],[],places) :=
 ⟨[],by kernel_rfl⟩
set_option maxRecDepth 100000 in
theorem TopFuel_lifted (os:Os) (started:os.Started) (H:Type) (enc:TypeId × Value→H) (F:Stop.Interp) :
  ReturnsInHanded {} Tryd.checked os 4 .any ((OpenSpec.ofChange Rows.topFuelSpec).preRow enc Tryd.prog Tryd.f4 Rows.topFuelRow.domain false Rows.topFuelRow.laid) (((OpenSpec.ofChange Rows.topFuelSpec).at F).post enc Tryd.prog Tryd.f4 false true false false):=by
 obtain ⟨places,hx⟩:=TopFuel_reads os enc
 refine returnsInHanded_of_row (C:=Tryd.checked) (s:=OpenSpec.ofChange Rows.topFuelSpec) own started (by kernel_rfl) Tryd.func4
  (witness_row_at (enc:=enc) (C:=Tryd.checked) false (gl_world os) #[.slice none 0 0,.agg #[.int .i64 0,.int .i64 0,.int .i64 0,.int .i64 0],.slice none 0 0,.int .i64 0] rfl (by kernel_rfl) (by kernel_rfl) (by kernel_rfl)
   (OpenSpec.preRow_of_cond 8 hx (by kernel_rfl) (fun k hk=>by cases hk) (by kernel_rfl) (TopFuel_met os))) ?_
 intro W base args ds gs before hval hW _ _ hwt hL _ _
 exact TopFuel_contract H enc W base args ds gs before hval hwt hW hL
theorem TopFuel_row:Rows.TopFuelSaid:=TopFuel_over TopFuel_lifted
/-- THE CARD. -/
theorem TopFuel_said:Rows.TopFuelCardSaid :=
 Claim7.holds_tied_plain_at .later [] _ _ _ _ TopFuel_row (fun _ h=>by cases h) (by kernel_rfl) (fun _ h=>by cases h) topFuel_row_tie rfl ⟨rfl,rfl⟩ (by kernel_rfl) rfl TopFuel_plain (by kernel_rfl)
#print axioms TopFuel_said
end Go.Proofs.YtijdegmamdhcbaaDoor
