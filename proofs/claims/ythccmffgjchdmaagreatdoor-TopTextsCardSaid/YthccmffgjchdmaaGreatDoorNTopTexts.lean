import Derived.Test.YthccmffgjchdmaaGreatDoorJTopTexts
import Derived.Test.YthccmffgjchdmaaGreatDoorCards
import Derived.Test.YthccmffgjchdmaaGreatDoorTie
import Derived.Test.YthccmffgjchdmaaGreatDoorNDs
import Derived.Test.YthccmffgjchdmaaGreatDoorNWg
import Derived.Test.YthccmffgjchdmaaGreatDoorNVd
import Derived.Test.YthccmffgjchdmaaGreatDoorNRg
import Derived.Test.YthccmffgjchdmaaGreatDoorNBt
import Derived.Lay
namespace Go.Proofs.YthccmffgjchdmaaGreatDoor
open Go Go.Dm Go.Eng Go.RowKit Go.ChangeShapes Go.WideShapes Go.ChangeAt Barb ZN
theorem ZyE {L:Lv} {u:Barb.Unit} (hu:u.I) (hE:Zbm u=0) (hN:Zb9 u.funcs<=300):CT Tryz.prog (gl L) 5 [.agg u.d] (Is (.tuple [.g (.str (unS u)),.g (.int 0)])):=by
 have h:=Zxn (L:=L) u hu (λ_=>hN);have e:shR u=unS u:=by unfold shR;rw[if_pos hE]
 rw[e,hE] at h;exact h
theorem Zwf {L:Lv} {u:Barb.Unit} (hE:Zbm u=0) (hN:Zb9 u.funcs<=300) (hl:3000 < (unS u).length):CT Tryz.prog (gl L) 6 [.g (.str (unS u))] (Is (.tuple [.agg u0.d,.g (.int 1)])):=by have h:=Zrr (L:=L) (unS u) (by have:=Ztb hE hN;omega);rw[Zni hE,if_pos hl] at h;exact h
theorem ZtO {L:Lv} {u:Barb.Unit} (hE:Zbm u=0) (hN:Zb9 u.funcs<=300) (hl:¬3000 < (unS u).length):CT Tryz.prog (gl L) 6 [.g (.str (unS u))] (Is (.tuple [.agg u.d,.g (.int 0)])):=by have h:=Zrr (L:=L) (unS u) (by have:=Ztb hE hN;omega);rw[Zni hE,if_neg hl] at h;exact h
theorem ZsK {L:Lv} (n many:Int) (hn:I64 n) (hm:0 < many):CT Tryz.prog (gl L) 8 [.g (.int n),.g (.int many)] (Is (.g (.int (Zbs n many)))):=by refine enter hT hF hM Tryz.func8 rfl 8 rfl (by kernel_rfl) [.tmp 4] rfl [.g (.int n),.g (.int many)] rfl _ ?_;exact Zad (.inl rfl) (Za2 (L:=L) n many hn hm) ⟨rfl,Zb2 rfl⟩
theorem Zlo {L:Lv} (l:List Int) (hl:l.length<=9223372036854775807):CT Tryz.prog (gl L) 10 [.g (.sl 1 (l.map ZaU)),.g (.sl 1 (l.map ZaU))] (Is (.g (.bool true))):=by
 have ll:(l.map ZaU).length=l.length:=by simp
 refine enter hT hF hM Tryz.func10 rfl 26 rfl (by kernel_rfl) [.tmp 4] rfl [.g (.sl 1 (l.map ZaU)),.g (.sl 1 (l.map ZaU))] rfl _ ?_;refine ⟨λh=>absurd rfl h,λ_=>?_⟩;refine ZaO (ι:=Nat) (λi=>[(13,.g (.int (i:Int)))]) (λ_=>[]) (λi=>i<=l.length) (λi=>l.length - i)
  ⟨0,[],⟨rfl,.inl rfl,.inr ⟨lk rfl,trivial⟩,rfl⟩,Yat _⟩ ?_
 intro Rd aj i hi;refine ⟨λh1=>?_,λh1=>⟨rfl,ZbN (.inl rfl)⟩⟩;have h2:i < l.length:=by omega
 refine ⟨none,rfl,i,_,rfl,gm h2,i,_,rfl,gm h2,?_⟩;refine ⟨λh=>absurd rfl h,λ_=>⟨_,I64.wrap (by unfold I64;omega),?_⟩⟩;exact aj _ _ _ ⟨i+1,[],⟨rfl,.inl rfl,.inr ⟨lk rfl,trivial⟩,rfl⟩,h2,by omega⟩
set_option maxRecDepth 20000 in
set_option maxHeartbeats 4000000 in
theorem TopTexts_walk {L:Lv} (l:List Raw) (hI:∀r∈l,r.I) (hl:l.length*32<=140737488351232) (r:Raw) (hr:r.I) (a:Int) (ha:I64 a):CT Tryz.prog (gl L) 3 [.g (.sl 4 (l.map Raw.g)),.agg r.d,.g (.int a)] (Is (.g (.bool true))):=by
 have hB:=Zvb (L:=L) l hI hl r hr;obtain ⟨aE,fJ,hlen,_,fM,wM,wN,qy⟩:=Zvd l r;have hL:=Zr7 aE fJ;have hP:=Zg4 l;have n7:0 < (Zbw l).length:=by have h1:=hP.m;have h2:=Zg5 hP;omega
 have sd:=λh=>Zvc (p:=Zbw l) hP h (d:=ZgI (Zbw l) (ZcL (Zbw l) r));generalize Zbw l=p at *;have nZ:=Zpb aE fJ;have uh:=ZfC (L:=L) p nZ fJ;obtain ⟨h5,hU,_,_⟩:=Zbk aE;generalize ZgI p (ZcL p r)=d at *;generalize ZcL p r=cs at *;obtain ⟨k,hk,aB⟩:=Zcc a (many:=20) (by decide);have ub:=ZsK (L:=L) a 20 ha (by decide);rw[show Zbs a 20=(k:Int) from hk] at ub;have lp:(p.map Unit.g).length=p.length:=Yaa _;refine Zq5 [20] hT hF hM Tryz.func3 rfl 133 rfl (by kernel_rfl) [.tmp 6] rfl [.g (.sl 4 (l.map Raw.g)),.agg r.d,.g (.int a)] rfl _ ?_;refine Zad (.inl rfl) hB ?_;refine ⟨λe0=>⟨rfl,ZbN (.inl rfl)⟩,λe0=>?_⟩;obtain ⟨m1,m2,m3,m4⟩:=hL e0;obtain ⟨at_,r1,v1,ok⟩:=sd e0 m1 (by rw[m3];exact fM) wM (by omega) (w:=(k:Int)) (by omega);rw[e0] at uh;have X1:=Zz2 (L:=L) (Zcl p) m2 d (by omega) 0 0 [(k:Int),1] (by simp) 20000;rw[r1,v1] at X1;have wI:=(ZnF (P:=λ_=>True) (λ_ _=>⟨λ_=>trivial,λ_ _=>trivial,λ_ _=>trivial⟩) (λ_ _ _ _=>trivial) 20000 _ _ ok (by simp) trivial).2;have oK:=Zk3 20000 ok;generalize ZgB (Zcl p) 20000 ⟨[],d,[]⟩ [⟨0,at_,p8 [(k:Int),1],[],-1⟩]=A at *;generalize Zcl p=m at *;refine ZaO (ι:=Nat) (λi=>[(2,.g (.int a)),(8,.ptr 1 0),(10,.g (.sl 1 (d.map ZaU))),(12,.row 0),(37,.g (.sl 4 (p.map Unit.g))),(38,.g (.int ((p.map Unit.g).length:Int))),(39,.g (.int (i:Int)))]) (λi=>[.row ((p.take i).map Unit.g) 37 4,.blk (ZqF m) 28]) (λi=>i<=p.length) (λi=>p.length - i)
  ⟨0,[.nil 37 4,.old 1],⟨rfl,.inl rfl,.inr ⟨lk rfl,lk rfl,lk rfl,.inr rfl,lk rfl,lk rfl,lk rfl,trivial⟩,rfl⟩,Yat _⟩ ?_
 intro Rd aj i hi;refine ⟨λh1=>?_,λh1=>?_⟩
 ·have h2:i < p.length:=by omega
  have hm:=Yai h2;have hE:=hU _ hm;have hN:=fJ _ hm;have hS:=ZyE (L:=L) (nZ.1 _ hm) hE hN;refine ⟨i,_,rfl,gm h2,?_⟩;by_cases om:3000 < (unS p[i]).length
  ·have hR:=Zwf (L:=L) hE hN om;refine Zad (.inl rfl) hS ?_;refine Zad (.inl rfl) hR ?_;refine ⟨λh=>absurd rfl h,λ_=>?_⟩;refine ⟨λ_=>?_,λh=>absurd h (by decide)⟩;refine ⟨λh=>absurd rfl h,λ_=>?_⟩;refine ⟨λ_=>⟨rfl,ZbN (.inl rfl)⟩,λh=>absurd h (by decide)⟩
  ·have hR:=ZtO (L:=L) hE hN om;refine Zad (.inl rfl) hS ?_;refine Zad (.inl rfl) hR ?_;refine ⟨λh=>absurd rfl h,λ_=>?_⟩;refine ⟨λh=>absurd rfl h,λ_=>?_⟩;refine ⟨λh=>absurd rfl h,λ_=>?_⟩;refine ⟨[p[i].g],rfl,rfl,⟨rfl,rfl,rfl,rfl,trivial⟩,?_⟩;refine ⟨⟨by simp only[maxLen,Yaa,Yam,List.length_cons,List.length_nil];omega,by simp only[Yaa,Yam,List.length_cons,List.length_nil];omega⟩,?_⟩;refine ⟨_,I64.wrap (by unfold I64;omega),?_⟩;exact aj _ _ _ ⟨i+1,[.old 5,.old 1],⟨rfl,.inr ⟨⟨by rw[ZaJ h2,Yaf];rfl,rfl,rfl⟩,⟨rfl,.inl rfl⟩,trivial⟩,.inr ⟨lk rfl,lk rfl,lk rfl,lk rfl,lk rfl,lk rfl,lkI (by push_cast;rfl),trivial⟩,rfl⟩,by omega,by omega⟩
 ·have pT:i=p.length:=by omega
  subst pT;rw[YaH];refine Zad (.inl rfl) uh ?_;refine ⟨λh=>absurd rfl h,λ_=>?_⟩;refine Zad (.inl rfl) ub ?_;refine ⟨[[.int k],[.int 1]],rfl,rfl,⟨rfl,rfl,trivial⟩,?_⟩;refine ZdM [.old 1,.old 2] [(8,.ptr 0 0),(10,.g (.sl 1 (d.map ZaU))),(19,.ptr 1 0),(21,.g (.sl 1 ([(k:Int),1].map ZaU)))] [.blk (ZqF m) 28,.blk (ZqF m) 28] ⟨rfl,.inl rfl,.inl rfl,rfl⟩ ?_;refine Zad (.inl rfl) X1 ?_;refine Zad (.inl rfl) X1 ?_;have yA:(Znt A).end_=A.1:=rfl;have oQ:(Znt A).data=A.2.2.data:=rfl;have vC:(Znt A).told=A.2.2.told:=rfl;refine ⟨λ_=>⟨λ_=>⟨λ_=>⟨λ_=>⟨λ_=>?_,λh=>absurd rfl h⟩,λh=>absurd rfl h⟩,λh=>absurd (show A.1=0 from h) (by omega)⟩,λh=>absurd rfl h⟩,λh=>absurd rfl h⟩;refine Zad (.inl rfl) (Zlo (L:=L) (Znt A).told (by rw[vC];omega)) ?_;refine Zad (.inl rfl) (Zlo (L:=L) (Znt A).data (by rw[oQ,oK.2];show d.length<=_;omega)) ?_;exact ⟨rfl,ZbN (.inl rfl)⟩
theorem ZAT : Tryz.prog.globalNamed "barbican/code.of" = some 4 := by kernel_rfl
theorem ZAS:(Tryz.prog.globals[4]?).map (·.type)=some 224:=by kernel_rfl
theorem Zzd:Tryz.prog.cellsOf 223=3:=by kernel_rfl
def Zi6 (P:Program):List Field->Nat->Bool
 | [],_=>true
 | f :: l,j=>f.offset == j && (match P.underlying f.type with | some (.int .i64)=>true | _=>false) && P.cellsOf f.type == 1 && Zi6 P l (j+1)
theorem Zj0 {P:Program}:∀{l:List Field} {i:Nat},Zi6 P l i=true->∀(j:Nat) (f:Field),l[j]?=some f->f.offset=i+j/\P.underlying f.type=some (.int .i64)/\P.cellsOf f.type=1
 | [],_,_,j,f,hj=>by simp at hj
 | g :: l,i,h,j,f,hj=>by
  simp only[Zi6,Yag,beq_iff_eq] at h;cases j with
  | zero =>
   simp at hj;subst hj;refine ⟨h.1.1.1,?_,h.1.2⟩;have h2:=h.1.1.2;split at h2
   ·assumption
   ·cases h2
  | succ j =>have:=Zj0 h.2 j f (by simpa using hj);exact ⟨by omega,this.2⟩
theorem Zwr:(match Tryz.prog.underlying 223 with | some (.struct fs)=>Zi6 Tryz.prog fs.toList 0 | _=>false)=true:=by kernel_rfl
theorem Zwq:∃fs,Tryz.prog.underlying 223=some (.struct fs)/\∀(j:Nat) (f:Field),fs[j]?=some f->f.offset=j/\Tryz.prog.underlying f.type=some (.int .i64)/\Tryz.prog.cellsOf f.type=1:=by
 have h:=Zwr;split at h
 ·rename_i fs hu;exact ⟨fs,hu,λj f hj=>by have:=Zj0 h j f (by simpa using hj);simpa using this⟩
 ·cases h
theorem Zze:Tryz.prog.underlying 224=some (.array 16 223):=by kernel_rfl
theorem ZwE:(Rows.laid_barbican_code_of:DataW _root_.Unit)=ZBB Zt6:=rfl
theorem ZA5 {W : World} {r : List (String × DataW _root_.Unit)} (h : laidMet Tryz.prog (("barbican/tree.ops", Rows.laid_barbican_tree_ops) :: r) W) : Zis [(1, ([] :: ZlP).map .str)] (fun k => k < W.heap.size) W :=
 ZnM (by kernel_rfl) (by kernel_rfl) Tryz.underlying184 Tryz.underlying9 (by kernel_rfl) (by simp) h
theorem ZCj {W : World} {r : List (String × DataW _root_.Unit)} (h : laidMet Tryz.prog (("barbican/barbicankeep.units", Rows.laid_barbican_barbicankeep_units) :: r) W) : Zis [(0, [[111, 110, 101], [116, 119, 111], [116, 114, 105]].map .str)] (fun k => k < W.heap.size) W :=
 ZnM (by kernel_rfl) (by kernel_rfl) Tryz.underlying100 Tryz.underlying9 (by kernel_rfl) (by simp) h
theorem Zzp {W : World} {r : List (String × DataW _root_.Unit)} (h : laidMet Tryz.prog (("barbican/code.of", Rows.laid_barbican_code_of) :: r) W) : Zis [(4, Zt6.flatten.map .int)] (fun k => k < W.heap.size) W := by
 obtain ⟨fs,hs,hf⟩:=Zwq;rw[ZwE] at h;exact ZnN ZAT ZAS Zze hs Zzd hf (by decide) (by decide) h
theorem ZpL {W:World} (h:laidMetH Tryz.prog Rows.topTextsRow.laid W):∃L,Zis (gl L) (λk=>k < W.heap.size) W:=by
 have e:(Rows.topTextsRow.laid.filter λx=>x.2.handleName?.isSome)=[]:=by kernel_rfl
 unfold laidMetH at h;rw[e] at h;have h3:laidMet Tryz.prog Rows.topTextsRow.laid W:=h;obtain ⟨L,hL⟩:=Zzo h3.tail.tail;have h4:=ZbD (ZbD (ZbD (ZbD (ZbD (ZbD h3)))));exact ⟨L,Zis.both (ZA5 (ZbD h4)) (Zis.both (ZCj (ZbD (ZbD h4))) (Zis.both (Zzp h4) hL))⟩
set_option maxRecDepth 100000 in
theorem TopTexts_contract (H:Type) (enc:TypeId × Value->H) (W:World) (base:Nat) (args:Array Value) (ds gs:List (DataW H)) (before:List MemPlace)
  (iG:∀(j:Nat) t v,Tryz.f3.params[j]?=some t->args[j]?=some v->Value.okWide Tryz.prog W .any base t v)
  (fY:(DataW.weightsEach Tryz.prog (Tryz.f3.params.toList++Rows.topTextsSpec.plain.varTypes Tryz.prog) (ds++gs)).all (·<=reachBytes)=true)
  (hW:DataW.Whole enc Tryz.prog Tryz.f3.params.toList Rows.topTextsSpec.vars false W args.toList ds gs before) (hL:laidMetH Tryz.prog Rows.topTextsRow.laid W) :
  Calls Tryz.prog 3 args W λe W'=>∃v,e=.returned v/\Rows.topTextsSpec.post enc Tryz.prog Tryz.f3 false true false false W args v W':=by
 refine Zl9 ZtX laidOut rfl ?_ rfl Tryz.underlying4 (Zy6 (by kernel_rfl)) W ?_ base args ds gs before iG fY hW
 ·intro ds jg
  match ds,jg with
  | [d0,d1,d2],_=>rfl
 ·intro args an;obtain ⟨v0,r0,rfl,h0,an⟩:=an.inv;obtain ⟨v1,r1,rfl,h1,an⟩:=an.inv;obtain ⟨v2,r2,rfl,h2,an⟩:=an.inv;obtain rfl:=an.inv0;obtain ⟨f0,g0,t0,R0⟩:=h0.slice Tryz.underlying22;obtain ⟨x0,rfl,i0,b0⟩:=Zw9 t0;obtain ⟨f1,g1,c1,rfl,t1,R1⟩:=h1.struct Tryz.underlying24;obtain ⟨x1,rfl,b1⟩:=Zu0 t1;obtain ⟨x2,rfl,b2⟩:=h2.int Tryz.underlying3;obtain ⟨L,hG⟩:=ZpL hL;exact Zsa hG (TopTexts_walk (L:=L) x0 i0 b0 x1 b1 x2 b2) (Zkn (ZBu R0) (Zkn (ZzX R1) (Zkn (ZBu (by simp only[ZaS])) Zxj)))
noncomputable def Zes (os:Os):World:=World.laidAll Tryz.prog os Rows.topTextsRow.laid
theorem TopTexts_met (os:Os):laidMet Tryz.prog Rows.topTextsRow.laid ((Zes os).forCall (λ_ _=>0) ⟨#[],#[.slice none 0 0,.agg #[.int .i64 0,.int .i64 0,.int .i64 0,.int .i64 0],.int .i64 0],[]⟩).memory :=
 laidMet_laidAll _ (by kernel_rfl) (by kernel_rfl)
theorem TopTexts_reads (os:Os) {H:Type} (enc:TypeId × Value->H):∃places,DataW.whole enc Tryz.prog ((Zes os).forCall (λ_ _=>0) ⟨#[],#[.slice none 0 0,.agg #[.int .i64 0,.int .i64 0,.int .i64 0,.int .i64 0],.int .i64 0],[]⟩).memory Tryz.f3.params.toList Rows.topTextsSpec.vars false (#[.slice none 0 0,.agg #[.int .i64 0,.int .i64 0,.int .i64 0,.int .i64 0],.int .i64 0]:Array Value).toList 8=some ([.nil,.agg [.lit (.int .i64 0),.lit (.int .i64 0),.lit (.int .i64 0),.lit (.int .i64 0)],.lit (.int .i64 0)],[],places) :=
 ⟨[],by kernel_rfl⟩
set_option maxRecDepth 100000 in
theorem TopTexts_lifted (os:Os) (started:os.Started) (H:Type) (enc:TypeId × Value->H) (F:Stop.Interp) :
  ReturnsInHanded {} Tryz.checked os 3 .any ((OpenSpec.ofChange Rows.topTextsSpec).preRow enc Tryz.prog Tryz.f3 Rows.topTextsRow.domain false Rows.topTextsRow.laid) (((OpenSpec.ofChange Rows.topTextsSpec).at F).post enc Tryz.prog Tryz.f3 false true false false):=by
 obtain ⟨places,hx⟩:=TopTexts_reads os enc;refine returnsInHanded_of_row (C:=Tryz.checked) (s:=OpenSpec.ofChange Rows.topTextsSpec) own started (by kernel_rfl) Tryz.func3
  (witness_row_at (enc:=enc) (C:=Tryz.checked) false (Zes os) #[.slice none 0 0,.agg #[.int .i64 0,.int .i64 0,.int .i64 0,.int .i64 0],.int .i64 0] (World.laidAll_os _ _ _) (by kernel_rfl) (by kernel_rfl) (by kernel_rfl)
   (OpenSpec.preRow_of_cond 8 hx (by kernel_rfl) (λk hk=>by cases hk) (by kernel_rfl) (TopTexts_met os))) ?_
 intro W base args ds gs before iG hW _ _ fY hL _ _;exact TopTexts_contract H enc W base args ds gs before iG fY hW hL
theorem TopTexts_row:Rows.TopTextsSaid:=TopTexts_over TopTexts_lifted
theorem TopTexts_said:Rows.TopTextsCardSaid :=
 Claim7.holds_tied_plain_at .later [] _ _ _ _ TopTexts_row (λ_ h=>by cases h) (by kernel_rfl) (λ_ h=>by cases h) topTexts_row_tie rfl ⟨rfl,rfl⟩ (by kernel_rfl) rfl TopTexts_plain (by kernel_rfl)
#print axioms TopTexts_said
end Go.Proofs.YthccmffgjchdmaaGreatDoor
