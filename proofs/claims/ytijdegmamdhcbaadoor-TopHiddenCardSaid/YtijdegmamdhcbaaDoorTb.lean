/-
  barbicantop: what is built of raw things; a part behind it that anybody wrote.
-/
import Derived.Test.YtijdegmamdhcbaaDoorLq
import Derived.Test.YtijdegmamdhcbaaDoorKc
import Derived.Test.YtijdegmamdhcbaaDoorLw
import Derived.Test.YtijdegmamdhcbaaDoorMn2
namespace Go.Proofs.YtijdegmamdhcbaaDoor
open Go Go.Dm Go.Eng Go.RowKit Barb
theorem Program_isT (l:List Raw) (hl:l.length*32≤140737488351232) (hI:∀ r∈l,r.I):CT Tryd.prog gl 24 [.g (.sl 4 (l.map Raw.g))] (Is (.g (.sl 4 ((programP l).map Unit.g)))) :=
 Program_Q l hl hI _ (fun h i hi=>retIs (.inl (by simp only[conv,kp,hi])))
theorem Cells_isT (p:List Barb.Unit) (hp:PC p) (r:Raw) (hr:r.I):CT Tryd.prog gl 22 [.g (.sl 4 (p.map Unit.g)),.agg r.d] (Is (.g (.sl 2 ((cellsP p r).map Cells.g)))) :=
 Cells_Q p hp r hr _ (fun h i hi=>retIs (.inl (by simp only[conv,kp,hi])))
theorem progE_PC {p:List Barb.Unit} (h:progE p=0):PC p:=by
 obtain ⟨h5,hU,_,_⟩:=progE_inv h
 exact ⟨by omega,fun u hu=>by have:=(unitE_inv (hU u hu)).2.1;omega,fun u hu=>by have:=(unitE_inv (hU u hu)).2.2.1;omega,fun u hu a ha=>by have:=(arrE_inv ((unitE_inv (hU u hu)).2.2.2.2.2.1 a ha)).2;omega⟩
structure BuiltOk (p:List Barb.Unit) (r:Raw):Prop where
 good:progE p=0
 few:fewP p
 len:p.length≤3
 data:dataL p (cellsP p r)=flatN (cellsP p r)
 words:((dataL p (cellsP p r)).length:Int)=progWords p
 word:∀ x∈dataL p (cellsP p r),wordN x
 dlen:(dataL p (cellsP p r)).length≤190
 wlen:progWords p≤18
theorem builtOk (l:List Raw) (r:Raw):BuiltOk (programP l) r:=by
 have hP:=programP_prog l
 have hgood:=prog_good hP
 obtain ⟨d1,d2,d3⟩:=built_of hgood r
 exact ⟨hgood,prog_few hP,by rw[prog_len hP];exact hP.m.2,d1,by rw[d1];exact d2,by rw[d1];exact d3,dataL_len _ _,by have h1:=(words_sum hP.shape).2;have h2:=hP.m.2;have h3:=prog_len hP;omega⟩
theorem built_any (l:List Raw) (hI:∀ r∈l,r.I) (hl:l.length*32≤140737488351232) (r:Raw) (hr:r.I) :
  CT Tryd.prog gl 11 [.g (.sl 4 (l.map Raw.g)),.agg r.d] (Is (.tuple [.g (.sl 4 ((programP l).map Unit.g)),.agg (imgD (linkI (programP l))),.g (.sl 2 ((cellsP (programP l) r).map Cells.g)),.g (.sl 1 ((dataL (programP l) (cellsP (programP l) r)).map intG)),.pb (linkE (programP l)=0)])):=by
 obtain ⟨hgood,hfew,_,_,_,_,hdl,_⟩:=builtOk l r
 have hpi:=progE_I hgood hfew
 have hPr:=Program_isT l hl hI
 generalize programP l=p at *
 have hC:=Cells_isT p (progE_PC hgood) r hr
 have hc0:=cellsP_good hgood r
 obtain ⟨_,hcl,hcc⟩:=cellsE_ok hc0
 have h5:=(progE_inv hgood).1
 have hD:=Data_any p hpi (cellsP p r) (cells_I hgood hcl hcc) (by omega)
 rw[hc0] at hD
 have hL:=linkProgram_any p hpi hfew
 generalize cellsP p r=cs at *
 generalize dataL p cs=d at *
 generalize linkI p=m at *
 generalize linkE p=e at *
 refine enter hT hF hM Tryd.func11 rfl 41 rfl (by kernel_rfl) [.tmp 4,.cell 5 28,.tmp 6,.tmp 7,.tmp 8] rfl [.g (.sl 4 (l.map Raw.g)),.agg r.d] rfl _ ?_
 refine callIs (.inl rfl) hPr ?_
 refine callIs (.inl rfl) hC ?_
 refine callIs (.inl rfl) hL ?_
 refine callIs (.inl rfl) hD ?_
 refine ⟨none,rfl,?_⟩
 refine ⟨fun g1=>?_,fun g1=>?_⟩
 ·exact ⟨rfl,retIs (.inr (.inr ⟨lk rfl,lk rfl,lk rfl,lk rfl,lkP ⟨fun _=>g1,fun _=>rfl⟩,trivial⟩))⟩
 ·exact ⟨rfl,retIs (.inr (.inr ⟨lk rfl,lk rfl,lk rfl,lk rfl,lkBP ⟨fun h=>absurd h (by decide),fun h=>absurd h g1⟩,trivial⟩))⟩
theorem img_ents {m:Image} (h:imgE m=0):∀ q∈m,q.entries.length≤8∧∀ x∈q.entries,0≤x.params∧x.params≤4:=fun q hq=>by
 obtain ⟨k,hk,rfl⟩:=List.getElem_of_mem hq
 obtain ⟨_,h2,_,h4⟩:=code_ok h hk
 exact ⟨h2,fun x hx=>⟨(h4 x hx).2.2.1,(h4 x hx).2.2.2⟩⟩
noncomputable def hostC (m:Image) (l:List Raw):List Barb.Instr:=codeP l m (imgWords m)
noncomputable def hostI (m:Image) (l:List Raw):Image:=linkV m (hostC m l) [⟨0,0⟩] 4
theorem hostile_any (m:Image) (himg:imgE m=0) (hmI:Image.I m) (h3:m.length≤3) (hw:0≤imgWords m∧imgWords m≤250) (d:List Int) (hd:d.length≤190) (l:List Raw) (hI:∀ r∈l,r.I) :
  CT Tryd.prog gl 12 [.agg (imgD m),.g (.sl 1 (d.map intG)),.g (.sl 4 (l.map Raw.g))] (Is (.tuple [.agg (imgD (hostI m l)),.g (.sl 1 ((d++[1,2,3,4]).map intG)),.g (.int (m.length:Int))])):=by
 obtain ⟨fr,hfr⟩:∃ fr:Nat,imgWords m=(fr:Int):=⟨_,(Int.toNat_of_nonneg hw.1).symm⟩
 have hW:=MemWords_any m hmI
 have hC:=Code_any m (img_ents himg) fr (by omega) l hI
 have hcl:=(codeP_ok m (by omega) (img_ents himg) fr (by omega) l).2.2
 have hWith:=With_any m (by omega) (codeP l m fr) (by omega) [⟨0,0⟩] (by decide) 4
 have hX:hostI m l=linkV m (codeP l m fr) [⟨0,0⟩] 4:=by unfold hostI hostC;rw[hfr]
 rw[hX]
 rw[hfr] at hW
 generalize linkV m (codeP l m fr) [⟨0,0⟩] 4=x at *
 generalize codeP l m fr=c at *
 have ld:(d.map intG).length=d.length:=List.length_map _
 refine enterT [2] hT hF hM Tryd.func12 rfl 31 rfl (by kernel_rfl) [.cell 6 28,.tmp 7,.tmp 8] rfl [.agg (imgD m),.g (.sl 1 (d.map intG)),.g (.sl 4 (l.map Raw.g))] rfl _ ?_
 refine callIs (.inl rfl) hW ?_
 refine ⟨some 2500,rfl,?_⟩
 refine ⟨_,_,.inl rfl,hC,rfl,?_⟩
 refine ⟨[[.int 0,.int 0]],rfl,rfl,⟨rfl,rfl,trivial⟩,?_⟩
 refine ⟨_,_,.inl rfl,hWith,rfl,?_⟩
 refine turnTo [.old 1] [(1,.g (.sl 1 (d.map intG))),(6,.ptr 0 0),(10,.fp [.sl 4 (x.map Part.g)] 0),(11,.g (.int (m.length:Int)))] [.blk [.nils] 28] ⟨rfl,.inl rfl,.inl rfl,rfl⟩ ?_
 refine ⟨some 5604,rfl,?_⟩
 refine ⟨_,_,_,.inl rfl,Clone_any (d.map intG) (by omega),rfl,?_⟩
 refine ⟨[[.int 1],[.int 2],[.int 3],[.int 4]],rfl,rfl,⟨rfl,rfl,rfl,rfl,trivial⟩,?_⟩
 refine ⟨⟨by simp[maxLen];omega,by simp;omega⟩,?_⟩
 refine ⟨rfl,retIs (.inr (.inr ⟨lk rfl,lkL (by rw[List.map_append];rfl),lk rfl,trivial⟩))⟩
theorem EqualN_any (l:List Int) (hl:l.length≤9223372036854775807):CT Tryd.prog gl 15 [.g (.sl 1 (l.map intG)),.g (.sl 1 (l.map intG))] (Is (.g (.bool true))):=by
 have ll:(l.map intG).length=l.length:=by simp
 refine enter hT hF hM Tryd.func15 rfl 26 rfl (by kernel_rfl) [.tmp 4] rfl [.g (.sl 1 (l.map intG)),.g (.sl 1 (l.map intG))] rfl _ ?_
 refine ⟨fun h=>absurd rfl h,fun _=>?_⟩
 refine loopR (ι:=Nat) (fun i=>[(13,.g (.int (i:Int)))]) (fun _=>[]) (fun i=>i≤l.length) (fun i=>l.length - i)
  ⟨0,[],⟨rfl,.inl rfl,.inr ⟨lk rfl,trivial⟩,rfl⟩,Nat.zero_le _⟩ ?_
 intro Rd hRd i hi
 refine ⟨fun h1=>?_,fun h1=>⟨rfl,retIs (.inl rfl)⟩⟩
 have h2:i < l.length:=by omega
 refine ⟨none,rfl,i,_,rfl,gm h2,i,_,rfl,gm h2,?_⟩
 refine ⟨fun h=>absurd rfl h,fun _=>⟨_,I64.wrap (by unfold I64;omega),?_⟩⟩
 exact hRd _ _ _ ⟨i+1,[],⟨rfl,.inl rfl,.inr ⟨lk rfl,trivial⟩,rfl⟩,h2,by omega⟩
end Go.Proofs.YtijdegmamdhcbaaDoor
