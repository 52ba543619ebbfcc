import Derived.Test.YtpjjkiidjofflaaGreatDoorJTopWalls
import Derived.Test.YtpjjkiidjofflaaGreatDoorCards
import Derived.Test.YtpjjkiidjofflaaGreatDoorTie
import Derived.Test.YtpjjkiidjofflaaGreatDoorWDgk
import Derived.Test.YtpjjkiidjofflaaGreatDoorWGa
import Derived.Test.YtpjjkiidjofflaaGreatDoorWG9
namespace Go.Proofs.YtpjjkiidjofflaaGreatDoor
open Go Go.Dm Go.Eng Go.RowKit Go.ChangeShapes Go.WideShapes Go.ChangeAt Barb ZN
set_option maxRecDepth 20000 in
set_option maxHeartbeats 4000000 in
theorem TopWalls_walk (l:List Raw) (hI:∀r∈l,r.I) (hl:l.length*32<=140737488351232) (r:Raw) (hr:r.I) (code:List Raw) (hcI:∀r∈code,r.I) (_:code.length*32<=140737488351232):CT Tryz.prog gl 4 [.g (.sl 4 (l.map Raw.g)),.agg r.d,.g (.sl 4 (code.map Raw.g))] (Is (.g (.bool true))):=by
 have hB:=ZuS l hI hl r hr;obtain ⟨hgood,hfew,hlen,hdat,hdw,hdx,hdl,hwl⟩:=ZuT l r;rw[hdat] at hB hdw hdx hdl;have hP:=ZgQ l;generalize Zb0 l=p at *;have hpi:=Zjo hgood hfew;have hc0:=Zgx hgood r;obtain ⟨_,hcl0,hcc0⟩:=Zfp hc0;clear hdat;generalize Zc0 p r=cs0 at *;have hL:=λh=>ZrN hgood hfew h;have lp:(p.map Unit.g).length=p.length:=Yab _;refine enter hT hF hM Tryz.func4 rfl 93 rfl (by kernel_rfl) [.tmp 6] rfl [.g (.sl 4 (l.map Raw.g)),.agg r.d,.g (.sl 4 (code.map Raw.g))] rfl _ ?_;refine Zae (.inl rfl) hB ?_;refine ⟨λe0=>⟨rfl,Zbl (.inl rfl)⟩,λe0=>?_⟩;refine ⟨λh=>absurd (show (5:Int)<=((p.map Unit.g).length:Nat) from h) (by omega),λ_=>?_⟩;obtain ⟨m1,m2,m3,m4⟩:=hL e0;have hImg:=Zwf hgood hfew e0;generalize Ze0 p=m at *;have hw0:0<=Zao m:=by rw[m3];omega
 have hH:=Zpc m m1 m2 (by omega) ⟨hw0,by omega⟩ (ZaA cs0) hdl code hcI;obtain ⟨fr,hfr⟩:∃fr:Nat,Zao m=(fr:Int):=⟨_,(YbT hw0).symm⟩;have hc:=ZqV m (by omega) (ZlR m1) fr (by omega) code;have hHo:HostOk m (ZaA cs0) (ZrW m code) (Zkb m code):=ZAQ m1 m2 (by omega) ⟨hw0,by omega⟩ (by omega) hdx (by unfold ZrW;rw[hfr];exact hc.1) (by unfold ZrW;rw[hfr];exact hc.2.1) (by unfold ZrW;rw[hfr];have:=hc.2.2;omega);have hImg2:Img (Zaz p) (Zkb m code):=hImg.app _;obtain ⟨r1,v1,ok⟩:=ZyW hHo 20000 (by omega);have R1:=ZzK (Zkb m code) hHo.I (ZaA cs0++[1,2,3,4]) (by simp;omega) m.length 0 [] (by simp) ((20000:Nat):Int);rw[r1,v1] at R1;have hW:=ZxR hP hImg2 (N:=(ZaA cs0).length) (c0:=cs0) ⟨hHo.img,by rw[hHo.len,m4],by rw[<- m4,hHo.lo,<- hdw.trans m3.symm]⟩ hdw 20000 20000 (Yax _) ⟨[],ZaA cs0++[1,2,3,4],[]⟩ (ZjA m) cs0 ok (by simp[ZjA]) (λf hf=>by
  unfold ZjA at hf;rw[Yay.1 hf];exact ⟨by rw[m4],λ_ hn=>absurd hn YaT,Zsy (λ_ hn=>absurd hn YaT),.inl (show (-1:Int) < 0 by decide)⟩) hHo.word (λ_ hn=>absurd hn YaT) hcl0 hcc0 List.take_left .nil
 have hend:=(Znq (P:=λ_=>True) (λ_ _=>⟨λ_=>trivial,λ_ _=>trivial,λ_ _=>trivial⟩) (λ_ _ _ _=>trivial) 20000 _ _ ok (by simp[ZjA]) trivial).2;have hl1:=ZkL 20000 ok;have h100:(Zcq (Zkb m code) 20000 ⟨[],ZaA cs0++[1,2,3,4],[]⟩ (ZjA m)).2.2.calls.length<=100:=ZiM (P:=λl _=>l.length<=100) (λl l' k ns h _ g=>by
  rcases g with rfl | ⟨n,rfl,h2⟩ | ⟨v,_,rfl⟩
  ·exact h
  ·rw[Yae,List.length_singleton];omega
  ·rw[Ycq];exact h) (λ_ _ _ _ h=>h) 20000 _ _ (Yau _)
 have hl1d:(Zcq (Zkb m code) 20000 ⟨[],ZaA cs0++[1,2,3,4],[]⟩ (ZjA m)).2.2.data.length=(ZaA cs0).length+4:=hl1.2.trans (by simp);generalize Zcq (Zkb m code) 20000 ⟨[],ZaA cs0++[1,2,3,4],[]⟩ (ZjA m)=A at *;obtain ⟨q,hRp,hq⟩:∃q,CT Tryz.prog gl 13 [.g (.sl 4 (p.map Unit.g)),.g (.sl 2 (cs0.map Cells.g)),.g (.int ((p.length:Nat):Int)),.agg (ZrD A).d] (Is (rpD q))/\∀c,q=some c->c.length=p.length/\ZbN p c/\A.2.2.data.take (ZaA cs0).length=ZaA c:=by
  by_cases h:A.1=3\/A.1=6\/A.2.2.calls.length=100
  ·exact ⟨none,Zm0 p cs0 _ (ZrD A) h,λc hc=>by cases hc⟩
  ·obtain ⟨q,hq1,hq2⟩:∃q,Rp p p.length A.1 A.2.2.calls cs0 q/\∀c,q=some c->c.length=p.length/\ZbN p c/\A.2.2.data.take (ZaA cs0).length=ZaA c:=by
    rcases hW with h1 | h1 | h1 | h1
    ·exact absurd (.inl h1) h
    ·exact absurd (.inr (.inl h1)) h
    ·exact absurd (.inr (.inr h1)) h
    ·exact h1
   exact ⟨q,Zm1 p hP hImg2 p.length (ZrD A) (λh1=>h (.inl h1)) (λh1=>h (.inr (.inl h1))) (λh1=>h (.inr (.inr h1))) h100 cs0 hcl0 hcc0 q hq1,hq2⟩
 generalize Zkb m code=x at *;have hdd4:(ZaA cs0++[1,2,3,4]).length=(ZaA cs0).length+4:=by simp
 generalize ZaA cs0++[1,2,3,4]=dd at *;rw[m4] at R1 hH;refine Zae (.inl rfl) hH ?_;refine Zae (show ZdX [.agg (ZlS x),.g (.sl 1 (dd.map Zat)),.g (.int p.length),.g (.int 0),.nils,.g (.int ((20000:Nat):Int))] [.agg (ZlS x),.g (.sl 1 (dd.map Zat)),.g (.int p.length),.g (.int 0),.g (.sl 1 (([]:List Int).map Zat)),.g (.int ((20000:Nat):Int))] from .inr ⟨lk rfl,lk rfl,lk rfl,lk rfl,Zg0,lk rfl,trivial⟩) R1 ?_;refine ⟨λh=>absurd rfl h,λ_=>?_⟩;refine ⟨λh=>absurd (show A.1=0 from h) (by omega),λ_=>?_⟩;refine Zae (.inl rfl) hRp ?_;cases q with
 | none=>exact ⟨rfl,Zbl (.inl rfl)⟩
 | some c =>
  obtain ⟨c1,c2,c3⟩:=hq c rfl;have hcE:=ZfM hgood c1 c2;have D2:=Zrf p hpi c (Zpo hgood c1 c2) (by omega);rw[hcE,show Zgu p c=ZaA c from by unfold Zgu;rw[if_pos hcE]] at D2;have lA:(A.2.2.data.map Zat).length=A.2.2.data.length:=Yab _;have ld:((ZaA cs0).map Zat).length=(ZaA cs0).length:=Yab _;have tA:(A.2.2.data.map Zat).take ((ZaA cs0).map Zat).length=(ZaA c).map Zat:=by rw[ld,<- YbE,c3]
  have hfl:=congrArg List.length c3;rw[Yan] at hfl;refine Zae (.inl rfl) D2 ?_;refine ⟨λ_=>?_,λh=>absurd rfl h⟩;refine ⟨((ZaA cs0).map Zat).length,rfl,(by show ((ZaA cs0).map Zat).length<=(A.2.2.data.map Zat).length;rw[lA,ld];omega),?_⟩;refine Zae (show ZdX [.g (.sl 1 ((A.2.2.data.map Zat).take ((ZaA cs0).map Zat).length)),.g (.sl 1 ((ZaA c).map Zat))] [.g (.sl 1 ((ZaA c).map Zat)),.g (.sl 1 ((ZaA c).map Zat))] from .inr ⟨lkL tA,lk rfl,trivial⟩) (Zlc (ZaA c) (by omega)) ?_;exact ⟨rfl,Zbl (.inl rfl)⟩
set_option maxRecDepth 100000 in
theorem TopWalls_contract (H:Type) (enc:TypeId × Value->H) (W:World) (base:Nat) (args:Array Value) (ds gs:List (DataW H)) (before:List MemPlace)
  (hval:∀(j:Nat) t v,Tryz.f4.params[j]?=some t->args[j]?=some v->Value.okWide Tryz.prog W .any base t v)
  (hwt:(DataW.weightsEach Tryz.prog (Tryz.f4.params.toList++Rows.topWallsSpec.plain.varTypes Tryz.prog) (ds++gs)).all (·<=reachBytes)=true)
  (hW:DataW.Whole enc Tryz.prog Tryz.f4.params.toList Rows.topWallsSpec.vars false W args.toList ds gs before) (hL:laidMetH Tryz.prog Rows.topWallsRow.laid W) :
  Calls Tryz.prog 4 args W λe W'=>∃v,e=.returned v/\Rows.topWallsSpec.post enc Tryz.prog Tryz.f4 false true false false W args v W':=by
 refine ZlN ZtB laidOut rfl ?_ rfl Tryz.underlying4 (ZyD (by kernel_rfl)) W ?_ base args ds gs before hval hwt hW
 ·intro ds hds
  match ds,hds with
  | [d0,d1,d2],_=>rfl
 ·intro args hargs;obtain ⟨v0,r0,rfl,h0,hargs⟩:=hargs.inv;obtain ⟨v1,r1,rfl,h1,hargs⟩:=hargs.inv;obtain ⟨v2,r2,rfl,h2,hargs⟩:=hargs.inv;obtain rfl:=hargs.inv0;obtain ⟨f0,g0,t0,R0⟩:=h0.slice Tryz.underlying22;obtain ⟨x0,rfl,i0,b0⟩:=ZqS t0;obtain ⟨f1,g1,c1,rfl,t1,R1⟩:=h1.struct Tryz.underlying24;obtain ⟨x1,rfl,b1⟩:=ZuD t1;obtain ⟨f2,g2,t2,R2⟩:=h2.slice Tryz.underlying22;obtain ⟨x2,rfl,i2,b2⟩:=ZqS t2;exact ZrO (ZCc hL) (TopWalls_walk x0 i0 b0 x1 b1 x2 i2 b2) (Zj2 (ZBq R0) (Zj2 (ZzE R1) (Zj2 (ZBq R2) Zw2)))
theorem TopWalls_met (os:Os):laidMet Tryz.prog Rows.topWallsRow.laid ((ZlV os).forCall (λ_ _=>0) ⟨#[],#[.slice none 0 0,.agg #[.int .i64 0,.int .i64 0,.int .i64 0,.int .i64 0],.slice none 0 0],[]⟩).memory :=
 laidMet_of_run' 8 (by kernel_rfl) (by kernel_rfl)
theorem TopWalls_reads (os:Os) {H:Type} (enc:TypeId × Value->H):∃places,DataW.whole enc Tryz.prog ((ZlV os).forCall (λ_ _=>0) ⟨#[],#[.slice none 0 0,.agg #[.int .i64 0,.int .i64 0,.int .i64 0,.int .i64 0],.slice none 0 0],[]⟩).memory Tryz.f4.params.toList Rows.topWallsSpec.vars false (#[.slice none 0 0,.agg #[.int .i64 0,.int .i64 0,.int .i64 0,.int .i64 0],.slice none 0 0]:Array Value).toList 8=some ([.nil,.agg [.lit (.int .i64 0),.lit (.int .i64 0),.lit (.int .i64 0),.lit (.int .i64 0)],.nil],[],places) :=
 ⟨[],by kernel_rfl⟩
set_option maxRecDepth 100000 in
theorem TopWalls_lifted (os:Os) (started:os.Started) (H:Type) (enc:TypeId × Value->H) (F:Stop.Interp) :
  ReturnsInHanded {} Tryz.checked os 4 .any ((OpenSpec.ofChange Rows.topWallsSpec).preRow enc Tryz.prog Tryz.f4 Rows.topWallsRow.domain false Rows.topWallsRow.laid) (((OpenSpec.ofChange Rows.topWallsSpec).at F).post enc Tryz.prog Tryz.f4 false true false false):=by
 obtain ⟨places,hx⟩:=TopWalls_reads os enc;refine returnsInHanded_of_row (C:=Tryz.checked) (s:=OpenSpec.ofChange Rows.topWallsSpec) own started (by kernel_rfl) Tryz.func4
  (witness_row_at (enc:=enc) (C:=Tryz.checked) false (ZlV os) #[.slice none 0 0,.agg #[.int .i64 0,.int .i64 0,.int .i64 0,.int .i64 0],.slice none 0 0] rfl (by kernel_rfl) (by kernel_rfl) (by kernel_rfl)
   (OpenSpec.preRow_of_cond 8 hx (by kernel_rfl) (λk hk=>by cases hk) (by kernel_rfl) (TopWalls_met os))) ?_
 intro W base args ds gs before hval hW _ _ hwt hL _ _;exact TopWalls_contract H enc W base args ds gs before hval hwt hW hL
theorem TopWalls_row:Rows.TopWallsSaid:=TopWalls_over TopWalls_lifted
theorem TopWalls_said:Rows.TopWallsCardSaid :=
 Claim7.holds_tied_plain_at .later [] _ _ _ _ TopWalls_row (λ_ h=>by cases h) (by kernel_rfl) (λ_ h=>by cases h) topWalls_row_tie rfl ⟨rfl,rfl⟩ (by kernel_rfl) rfl TopWalls_plain (by kernel_rfl)
#print axioms TopWalls_said
end Go.Proofs.YtpjjkiidjofflaaGreatDoor
