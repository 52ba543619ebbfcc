import Derived.Test.YtpjjkiidjofflaaGreatDoorJTopRuns
import Derived.Test.YtpjjkiidjofflaaGreatDoorCards
import Derived.Test.YtpjjkiidjofflaaGreatDoorTie
import Derived.Test.YtpjjkiidjofflaaGreatDoorRDgk
import Derived.Test.YtpjjkiidjofflaaGreatDoorRG9
namespace Go.Proofs.YtpjjkiidjofflaaGreatDoor
open Go Go.Dm Go.Eng Go.RowKit Go.ChangeShapes Go.WideShapes Go.ChangeAt Barb
set_option maxRecDepth 20000 in
set_option maxHeartbeats 4000000 in
theorem TopRuns_walk (l:List Raw) (hI:∀r∈l,r.I) (hl:l.length*32<=140737488351232) (r:Raw) (hr:r.I) (calls:List Raw) (hcI:∀r∈calls,r.I) (_:calls.length*32<=140737488351232):CT Tryz.prog gl 3 [.g (.sl 4 (l.map Raw.g)),.agg r.d,.g (.sl 4 (calls.map Raw.g))] (Is (.g (.bool true))):=by
 have hB:=built_any l hI hl r hr;obtain ⟨hgood,hfew,hlen,hdat,_,_,_,_⟩:=builtOk l r;rw[hdat] at hB;have hP:=Zgs l;generalize ZbQ l=p at *;have hpi:=progE_I hgood hfew;have hc0:=Zf8 hgood r;obtain ⟨_,hcl0,hcc0⟩:=Ze9 hc0;clear hdat;generalize ZcK p r=cs0 at *;have hL:=λh=>linkI_good hgood hfew h;have hp0:0 < p.length:=by rw[Zh5 hP];exact hP.m.1
 have lc:(calls.map Raw.g).length=calls.length:=List.length_map _;have lp:(p.map Unit.g).length=p.length:=List.length_map _;have hws:∀cs:List Cells,cs.length=p.length->ZcC p cs->(ZaJ cs).length<=250:=λcs h1 h2=>by have:=Zez p cs h1 h2;have:=(ZaX hgood).2.2.1;omega
 refine enterJ [12] hT hF hM Tryz.func3 rfl 154 rfl (by kernel_rfl) [.tmp 6] rfl [.g (.sl 4 (l.map Raw.g)),.agg r.d,.g (.sl 4 (calls.map Raw.g))] rfl _ ?_;refine Zae (.inl rfl) hB ?_;refine ⟨λe0=>⟨rfl,ZbN (.inl rfl)⟩,λe0=>?_⟩;obtain ⟨m1,m2,m3,m4⟩:=hL e0;refine ZaM (ι:=Nat × List Cells) (λz=>[(2,.g (.sl 4 (calls.map Raw.g))),(7,.g (.sl 4 (p.map Unit.g))),(12,.g (.int (z.1:Int))),(9,.g (.sl 2 (z.2.map Cells.g))),(10,.g (.sl 1 ((ZaJ z.2).map Zat))),(8,.ptr 0 0)]) (λ_=>[.blk (imgD (Zb9 p)) 28]) (λz=>z.1<=5/\z.2.length=p.length/\ZcC p z.2) (λz=>5 - z.1)
  ⟨(0,cs0),[.old 1],⟨rfl,.inl rfl,.inr ⟨lk rfl,lk rfl,lk rfl,lk rfl,lk rfl,lk rfl,trivial⟩,rfl⟩,(show (0:Nat)<=5 by decide),hcl0,hcc0⟩ ?_
 intro Rd hRd z hz;obtain ⟨i,cs⟩:=z;obtain ⟨hi5,hl1,hc1⟩:=hz;have hi5:i<=5:=hi5;have hl1:cs.length=p.length:=hl1;have hc1:ZcC p cs:=hc1;refine ⟨λc1=>⟨λc2=>?_,λc2=>⟨rfl,ZbN (.inl rfl)⟩⟩,λc1=>⟨rfl,ZbN (.inl rfl)⟩⟩;have hil:i < calls.length:=by have:(i:Int) < ((calls.map Raw.g).length:Nat):=c1;omega
 have hi4:i < 5:=by have:(i:Int) < 5:=c2;omega
 have hrI:=hcI _ (List.getElem_mem hil);obtain ⟨u,hu,hul⟩:=Zbp calls[i].a (many:=p.length) hp0;obtain ⟨e,he,hel⟩:=Zbp calls[i].b (many:=2) (by decide);obtain ⟨w,hw,hwl⟩:=Zbp calls[i].c (many:=9) (by decide);have P1:=Zhv calls[i].a ((p.map Unit.g).length:Nat) hrI.2.1 (by rw[lp];omega);have P2:=Zhv calls[i].b 2 hrI.2.2.1 (by decide);have P3:=Zhv calls[i].c 9 hrI.2.2.2 (by decide);rw[show Za7 calls[i].a ((p.map Unit.g).length:Nat)=(u:Int) from by rw[lp];exact hu] at P1;rw[show Za7 calls[i].b 2=(e:Int) from he] at P2;rw[show Za7 calls[i].c 9=(w:Int) from hw] at P3;obtain ⟨args,ha0,ha1⟩:∃args:List Int,(e=0->args=[(w:Int),3])/\(e=1->args=[]):=⟨if e=0 then [(w:Int),3] else [],λh=>if_pos h,λh=>if_neg (by omega)⟩;have hal:args.length=if e=0 then 2 else 0:=by
  have:e=0\/e=1:=by omega
  rcases this with h | h
  ·rw[ha0 h,if_pos h];rfl
  ·rw[ha1 h,if_neg (by omega)];rfl
 have hal2:args.length<=2:=by rw[hal];split<;>omega
 have haw:wds args:=by
  have:e=0\/e=1:=by omega
  rcases this with h | h
  ·rw[ha0 h];intro z hz;simp only[List.mem_cons,List.not_mem_nil,or_false] at hz
   rcases hz with rfl | rfl
   ·exact ⟨by omega,by omega⟩
   ·exact ⟨by decide,by decide⟩
  ·rw[ha1 h];exact λz hz=>absurd hz List.not_mem_nil
 obtain ⟨k,j,E⟩:=raw_entry hP (link_img hgood hfew e0) hul hel;have hO:=Open_any p[u] (hP.shape _ (List.getElem_mem hul)) e hel;have hcE:=Zfw hgood hl1 hc1;have hcs:=cells_I hgood hl1 hc1;have C1:=Call_any p hpi cs hcs (by omega) hcE p[u].name (if e=0 then sf else sh) u k hul (unit_once hgood hul) E.fn E.idx args (by rw[E.len];exact hal) haw 0 3000 (by decide) (by decide);rw[callD_eq] at C1;unfold callR ansD at C1;obtain ⟨q1,q2⟩:=raw_run hP e0 hul hel E hal haw hl1 hc1 3000;have hfl:=hws cs hl1 hc1;have R1:=Run_any (Zb9 p) m2 (ZaJ cs) (by omega) u e args (by omega) 100000;rw[q1] at R1;have hs:SI p ⟨3000,[],cs⟩:=⟨hl1,hc1,Nat.zero_le _,λ_ h=>absurd h List.not_mem_nil⟩;have B:=(callF_I (PI.of hgood) (ZdG (PI.of hgood) 3000).2 hul E.fn (by rw[E.len];exact hal) haw 0 hs).rb;generalize ZbX p (evS p 3000) u k args 0 ⟨3000,[],cs⟩=R at *;generalize runV (Zb9 p) (ZaJ cs) u e args 100000=V at *;have hl2:=B.si.len;have hc2:=B.si.ok;have hcE2:=Zfw hgood hl2 hc2;have hcs2:=cells_I hgood hl2 hc2;have hfl2:=hws R.st.cells hl2 hc2;have htold:=B.si.told;have D2:=Data_any p hpi R.st.cells hcs2 (by omega);rw[hcE2,show Zf6 p R.st.cells=ZaJ R.st.cells from by unfold Zf6;rw[if_pos hcE2]] at D2;have T1:=EqualN_any R.st.told (by omega);have T2:=EqualN_any (ZaJ R.st.cells) (by omega);have hR0:R.code≠0:=by have:=B.code.1;omega
 refine ⟨i,_,rfl,gm hil,?_⟩;refine Zae (.inl rfl) P1 ?_;refine ⟨i,_,rfl,gm hil,?_⟩;refine Zae (.inl rfl) P2 ?_;refine ⟨i,_,rfl,gm hil,?_⟩;refine Zae (.inl rfl) P3 ?_;refine ⟨[[.int w],[.int 3]],rfl,rfl,⟨rfl,rfl,trivial⟩,?_⟩;refine ⟨λg1=>ZcY [.old 0] [(2,.g (.sl 4 (calls.map Raw.g))),(7,.g (.sl 4 (p.map Unit.g))),(8,.ptr 0 0),(9,.g (.sl 2 (cs.map Cells.g))),(10,.g (.sl 1 ((ZaJ cs).map Zat))),(12,.g (.int (i:Int))),(13,.g (.int (u:Int))),(14,.g (.int (e:Int))),(15,.g (.sl 1 (args.map Zat)))] [.blk (imgD (Zb9 p)) 28] ⟨rfl,.inl rfl,.inr ⟨lk rfl,lk rfl,lk rfl,lk rfl,lk rfl,lk rfl,lk rfl,lk rfl,by rw[ha1 (by have:(e:Int)=1:=g1;omega)];exact ZhM,trivial⟩,rfl⟩ ?_,
  λg1=>ZcY [.old 0] [(2,.g (.sl 4 (calls.map Raw.g))),(7,.g (.sl 4 (p.map Unit.g))),(8,.ptr 0 0),(9,.g (.sl 2 (cs.map Cells.g))),(10,.g (.sl 1 ((ZaJ cs).map Zat))),(12,.g (.int (i:Int))),(13,.g (.int (u:Int))),(14,.g (.int (e:Int))),(15,.g (.sl 1 (args.map Zat)))] [.blk (imgD (Zb9 p)) 28] ⟨rfl,.inl rfl,.inr ⟨lk rfl,lk rfl,lk rfl,lk rfl,lk rfl,lk rfl,lk rfl,lk rfl,by rw[ha0 (by have:¬(e:Int)=1:=g1;omega)];exact lk rfl,trivial⟩,rfl⟩ ?_⟩
 all_goals
  refine ⟨none,rfl,?_⟩;refine ⟨u,_,rfl,gm hul,?_⟩;refine ⟨u,_,rfl,gm hul,?_⟩;refine ⟨_,_,.inl rfl,hO,rfl,?_⟩;refine ⟨_,_,.inl rfl,C1,rfl,?_⟩;refine Zae (.inl rfl) R1 ?_;refine ⟨λh=>absurd rfl h,λ_=>?_⟩;refine ⟨λh=>absurd rfl h,λ_=>?_⟩;refine ⟨λh=>absurd h hR0,λ_=>?_⟩;refine ⟨λ_=>⟨rfl,ZbN (.inl rfl)⟩,λn3=>?_⟩;refine ⟨λ_=>⟨rfl,ZbN (.inl rfl)⟩,λn4=>?_⟩;obtain ⟨cl,hV⟩:∃cl,V=⟨R.code,R.val,R.st.told,ZaJ R.st.cells,cl⟩:=by
   rcases q2 with h | h | h
   ·exact absurd h n3
   ·exact absurd h n4
   ·exact h
  subst hV;refine Zae (.inl rfl) D2 ?_;refine ⟨λh=>absurd rfl h,λ_=>?_⟩;refine ⟨λh=>absurd rfl h,λ_=>?_⟩;refine ⟨λh=>absurd rfl h,λ_=>?_⟩;refine Zae (.inl rfl) T1 ?_;refine Zae (.inl rfl) T2 ?_;refine ⟨none,rfl,?_⟩;refine ⟨_,I64.wrap (by unfold I64;omega),?_⟩;exact hRd _ _ _ ⟨(i+1,R.st.cells),[.old 0],⟨rfl,.inl rfl,.inr ⟨lk rfl,lk rfl,lk rfl,lk rfl,lk rfl,lk rfl,trivial⟩,rfl⟩,⟨(show i+1<=5 by omega),hl2,hc2⟩,(show 5 - (i+1) < 5 - i by omega)⟩
set_option maxRecDepth 100000 in
theorem TopRuns_contract (H:Type) (enc:TypeId × Value->H) (W:World) (base:Nat) (args:Array Value) (ds gs:List (DataW H)) (before:List MemPlace)
  (hval:∀(j:Nat) t v,Tryz.f3.params[j]?=some t->args[j]?=some v->Value.okWide Tryz.prog W .any base t v)
  (hwt:(DataW.weightsEach Tryz.prog (Tryz.f3.params.toList++Rows.topRunsSpec.plain.varTypes Tryz.prog) (ds++gs)).all (·<=reachBytes)=true)
  (hW:DataW.Whole enc Tryz.prog Tryz.f3.params.toList Rows.topRunsSpec.vars false W args.toList ds gs before) (hL:laidMetH Tryz.prog Rows.topRunsRow.laid W) :
  Calls Tryz.prog 3 args W λe W'=>∃v,e=.returned v/\Rows.topRunsSpec.post enc Tryz.prog Tryz.f3 false true false false W args v W':=by
 refine law_contractW plainS_ok laidOut rfl ?_ rfl Tryz.underlying4 (pars_ok (by kernel_rfl)) W ?_ base args ds gs before hval hwt hW
 ·intro ds hds
  match ds,hds with
  | [d0,d1,d2],_=>rfl
 ·intro args hargs;obtain ⟨v0,r0,rfl,h0,hargs⟩:=hargs.inv;obtain ⟨v1,r1,rfl,h1,hargs⟩:=hargs.inv;obtain ⟨v2,r2,rfl,h2,hargs⟩:=hargs.inv;obtain rfl:=hargs.inv0;obtain ⟨f0,g0,t0,R0⟩:=h0.slice Tryz.underlying22;obtain ⟨x0,rfl,i0,b0⟩:=dec_Raws t0;obtain ⟨f1,g1,c1,rfl,t1,R1⟩:=h1.struct Tryz.underlying24;obtain ⟨x1,rfl,b1⟩:=dec_Raw t1;obtain ⟨f2,g2,t2,R2⟩:=h2.slice Tryz.underlying22;obtain ⟨x2,rfl,i2,b2⟩:=dec_Raws t2;exact law_of_ctG (gl_ok hL) (TopRuns_walk x0 i0 b0 x1 b1 x2 i2 b2) (Zjo (arg_g R0) (Zjo (arg_agg R1) (Zjo (arg_g R2) args_nil)))
theorem TopRuns_met (os:Os):laidMet Tryz.prog Rows.topRunsRow.laid ((gl_world os).forCall (λ_ _=>0) ⟨#[],#[.slice none 0 0,.agg #[.int .i64 0,.int .i64 0,.int .i64 0,.int .i64 0],.slice none 0 0],[]⟩).memory :=
 laidMet_of_run' 8 (by kernel_rfl) (by kernel_rfl)
theorem TopRuns_reads (os:Os) {H:Type} (enc:TypeId × Value->H):∃places,DataW.whole enc Tryz.prog ((gl_world os).forCall (λ_ _=>0) ⟨#[],#[.slice none 0 0,.agg #[.int .i64 0,.int .i64 0,.int .i64 0,.int .i64 0],.slice none 0 0],[]⟩).memory Tryz.f3.params.toList Rows.topRunsSpec.vars false (#[.slice none 0 0,.agg #[.int .i64 0,.int .i64 0,.int .i64 0,.int .i64 0],.slice none 0 0]:Array Value).toList 8=some ([.nil,.agg [.lit (.int .i64 0),.lit (.int .i64 0),.lit (.int .i64 0),.lit (.int .i64 0)],.nil],[],places) :=
 ⟨[],by kernel_rfl⟩
set_option maxRecDepth 100000 in
theorem TopRuns_lifted (os:Os) (started:os.Started) (H:Type) (enc:TypeId × Value->H) (F:Stop.Interp) :
  ReturnsInHanded {} Tryz.checked os 3 .any ((OpenSpec.ofChange Rows.topRunsSpec).preRow enc Tryz.prog Tryz.f3 Rows.topRunsRow.domain false Rows.topRunsRow.laid) (((OpenSpec.ofChange Rows.topRunsSpec).at F).post enc Tryz.prog Tryz.f3 false true false false):=by
 obtain ⟨places,hx⟩:=TopRuns_reads os enc;refine returnsInHanded_of_row (C:=Tryz.checked) (s:=OpenSpec.ofChange Rows.topRunsSpec) own started (by kernel_rfl) Tryz.func3
  (witness_row_at (enc:=enc) (C:=Tryz.checked) false (gl_world os) #[.slice none 0 0,.agg #[.int .i64 0,.int .i64 0,.int .i64 0,.int .i64 0],.slice none 0 0] rfl (by kernel_rfl) (by kernel_rfl) (by kernel_rfl)
   (OpenSpec.preRow_of_cond 8 hx (by kernel_rfl) (λk hk=>by cases hk) (by kernel_rfl) (TopRuns_met os))) ?_
 intro W base args ds gs before hval hW _ _ hwt hL _ _;exact TopRuns_contract H enc W base args ds gs before hval hwt hW hL
theorem TopRuns_row:Rows.TopRunsSaid:=TopRuns_over TopRuns_lifted
theorem TopRuns_said:Rows.TopRunsCardSaid :=
 Claim7.holds_tied_plain_at .later [] _ _ _ _ TopRuns_row (λ_ h=>by cases h) (by kernel_rfl) (λ_ h=>by cases h) topRuns_row_tie rfl ⟨rfl,rfl⟩ (by kernel_rfl) rfl TopRuns_plain (by kernel_rfl)
#print axioms TopRuns_said
end Go.Proofs.YtpjjkiidjofflaaGreatDoor
