import Derived.Test.YthccmffgjchdmaaGreatDoorNWc
import Derived.Test.YthccmffgjchdmaaGreatDoorNGh
open Go Go.Proofs Go.Proofs.YthccmffgjchdmaaGreatDoor
namespace ZN
open Go Go.Dm Go.Eng Go.RowKit Barb
theorem ZCY {l:List Barb.Stmt} {i:Nat} (h:i < l.length):(l.map Stmt.g)[i]?=some [.int l[i].k,.str l[i].s,.sl 5 (l[i].xs.map Expr.g),.sl 5 (l[i].b.map Stmt.g),.sl 5 (l[i].e.map Stmt.g)]:=(gm h).trans (congrArg some (Stmt.g_eq _))
theorem Zbq:fnOk Tryz.prog 15=true:=by kernel_rfl
theorem Zyu:fnOk Tryz.prog 42=true:=by kernel_rfl
theorem Zkh:fnOk Tryz.prog 18=true:=by kernel_rfl
theorem Zpy {R:D->Zae->Prop} {env:Dm.Env} {h hin:Zae} {rows:List (List GV)} {d0:D} (d:D) (s:Str) (src:List Src) (aR:Zef src=true) (hlen:ZoE src (BuH (.ptr 0 0) s)=true)
  (h0:conv h src 4 (env 0)=.ptr 0 0) (hd:conv h src 4 d0=d\/ZiI (ZjJ src) 4 (conv h src 4 d0) d) (r9:ZbW h src=[.blk [.ptr 0 0,.row 1] 61,.row rows 5 1]) (e1:rows=s.map byG) (q:R d (BuH (.ptr 0 0) s)):ToH [0] hin 1 [] R h env d0:=by
 subst e1;refine ⟨src,d,BuH (.ptr 0 0) s,⟨aR,.inr ?_,.inr ?_,hlen⟩,rfl,trivial,q⟩
 ·rw[r9];exact ⟨⟨rfl,.inl rfl⟩,⟨rfl,rfl,rfl⟩,trivial⟩
 ·rw[Yan,Yan,Yan,h0];exact ⟨by rcases hd with hd | hd;exact lk hd;exact hd,lk rfl,trivial⟩
theorem ZvX {f n:Nat} {x:Barb.Stmt} (h:ZbI (Zai f) x=0) :
  (x.xs.length<=2/\(∀y∈x.xs,Zaw 12 y=0)/\∀t∈x.xs.map (exS 12),t.length<=223696200) /\
  ((x.k=1/\x.s.length<=8/\∃t0,x.xs.map (exS 12)=[t0]/\stS (blS f) n x=Zds n++(x.s++[32,61,32]++t0++[59,10])) \/
  (x.k=2/\x.s.length<=8/\∃t0 t1,x.xs.map (exS 12)=[t0,t1]/\stS (blS f) n x=Zds n++(x.s++[91]++t0++[93,32,61,32]++t1++[59,10])) \/
  (x.k=3/\Zai f x.b=0/\Zai f x.e=0/\∃t0,x.xs.map (exS 12)=[t0]/\stS (blS f) n x=Zds n++([105,102,32]++t0++[32])++blS f n x.b++[32,101,108,115,101,32]++blS f n x.e++[10]) \/
  (x.k=4/\Zai f x.b=0/\∃t0,x.xs.map (exS 12)=[t0]/\stS (blS f) n x=Zds n++([119,104,105,108,101,32]++t0++[32])++blS f n x.b++[10]) \/
  (x.k=5/\∃t0,x.xs.map (exS 12)=[t0]/\stS (blS f) n x=Zds n++([114,101,116,117,114,110,32]++t0++[59,10])) \/
  (x.k=6/\∃t0,x.xs.map (exS 12)=[t0]/\stS (blS f) n x=Zds n++([115,97,121,32]++t0++[59,10]))):=by
 have hb:∀y,Zaw 12 y=0->(exS 12 y).length<=223696200:=λy hy=>YaC (Zj2 12 y hy) (ZzT 12 (Yas _));have one:∀a:Barb.Expr,Zaw 12 a=0->([a].length<=2/\(∀y∈[a],Zaw 12 y=0)/\∀t∈[a].map (exS 12),t.length<=223696200):=λa ha =>
  ⟨by simp,λy hy=>by rw[Yaz.1 hy];exact ha,λt ht=>by rw[Yan,YaI,Yaz] at ht;rw[ht];exact hb a ha⟩
 rcases ZfX h with ⟨s,a,hs,ha,_,rfl⟩ | ⟨s,a,b,hs,ha,au,_,rfl⟩ | ⟨a,b,e,ha,au,he,rfl⟩ | ⟨a,b,ha,au,_,rfl⟩ | ⟨a,ha,_,rfl⟩ | ⟨a,ha,_,rfl⟩
 ·exact ⟨one a ha,.inl ⟨rfl,Zcw hs,exS 12 a,rfl,by show Zds n++(s++([32,61,32]++(exS 12 a++[59,10])))=_;simp[Stmt.s]⟩⟩
 ·refine ⟨⟨by simp[Stmt.xs],λy hy=>?_,λt ht=>?_⟩,.inr (.inl ⟨rfl,Zcw hs,exS 12 a,exS 12 b,rfl,by show Zds n++(s++([91]++(exS 12 a++([93,32,61,32]++(exS 12 b++[59,10])))))=_;simp[Stmt.s]⟩)⟩
  ·have hy:y∈[a,b]:=hy;simp only[Yav,Ya4,or_false] at hy;rcases hy with rfl | rfl
   ·exact ha
   ·exact au
  ·have ht:t∈[exS 12 a,exS 12 b]:=ht;simp only[Yav,Ya4,or_false] at ht;rcases ht with rfl | rfl
   ·exact hb a ha
   ·exact hb b au
 ·exact ⟨one a ha,.inr (.inr (.inl ⟨rfl,au,he,exS 12 a,rfl,by show Zds n++([105,102,32]++(exS 12 a++([32]++(blS f n b++([32,101,108,115,101,32]++(blS f n e++[10]))))))=_;simp[Stmt.b,Stmt.e]⟩))⟩
 ·exact ⟨one a ha,.inr (.inr (.inr (.inl ⟨rfl,au,exS 12 a,rfl,by show Zds n++([119,104,105,108,101,32]++(exS 12 a++([32]++(blS f n b++[10]))))=_;simp[Stmt.b]⟩)))⟩
 ·exact ⟨one a ha,.inr (.inr (.inr (.inr (.inl ⟨rfl,exS 12 a,rfl,by show Zds n++([114,101,116,117,114,110,32]++(exS 12 a++[59,10]))=_;simp⟩))))⟩
 ·exact ⟨one a ha,.inr (.inr (.inr (.inr (.inr ⟨rfl,exS 12 a,rfl,by show Zds n++([115,97,121,32]++(exS 12 a++[59,10]))=_;simp⟩))))⟩
def BlC (L:Lv) (f n:Nat):Prop:=∀l,Zai f l=0->(∀x∈l,Stmt.I x)->l.length*96<=140737488351232->∀s0:Str,s0.length+(blS f n l).length<=140737488355328 ->
 CTH Tryz.prog (gl L) 18 1 (BuH (.ptr 0 0) s0) [.ptr 0 0,.g (.sl 5 (l.map Stmt.g)),.g (.str (Zds n))] (λout=>out=.ret (.tuple []) (BuH (.ptr 0 0) (s0++blS f n l)))
set_option maxRecDepth 20000 in
set_option maxHeartbeats 4000000 in
theorem Zm1 {L:Lv} {f n:Nat} (hB:BlC L f n) {x:Barb.Stmt} (h:ZbI (Zai f) x=0) (hI:Stmt.I x) (s0:Str) (cJ:s0.length+(stS (blS f) n x).length<=140737488355328) :
  CTH Tryz.prog (gl L) 42 1 (BuH (.ptr 0 0) s0) [.ptr 0 0,.agg x.d,.g (.str (Zds n))] (λout=>out=.ret (.tuple []) (BuH (.ptr 0 0) (s0++stS (blS f) n x))):=by
 obtain ⟨⟨h2,hl,cG⟩,hc⟩:=ZvX (n:=n) h;obtain ⟨_,_,_,fI,gF,_,gu,mf⟩:=hI.inv;have la:(x.xs.map Expr.g).length=x.xs.length:=Yaa _;generalize stS (blS f) n x=r at *;refine Za4 [] hT hF hM Tryz.func42 rfl 103 rfl (by kernel_rfl) [] rfl [.ptr 0 0,.agg x.d,.g (.str (Zds n))] rfl (BuH (.ptr 0 0) s0) [0] rfl rfl rfl 1 [] trivial _ ?_;refine ZaO (ι:=Nat) (λi=>[(0,.ptr 0 0),(2,.g (.str (Zds n))),(4,.ptr 2 0),(6,.row 3),(10,.g (.sl 5 (x.xs.map Expr.g))),(11,.g (.int ((x.xs.map Expr.g).length:Int))),(12,.g (.int (i:Int)))]) (λi=>[.blk [.ptr 0 0,.row 1] 61,.row (s0.map byG) 5 1,.blk x.d 114,.row (((x.xs.map (exS 12)).take i).map ZaT) 9 1]) (λi=>i<=x.xs.length) (λi=>x.xs.length - i)
  ⟨0,[.old 0,.old 1,.old 2,.nil 9 1],⟨rfl,.inl rfl,.inr ⟨lk rfl,lk rfl,lk rfl,.inr rfl,lk rfl,lk rfl,lk rfl,trivial⟩,rfl⟩,Yat _⟩ ?_
 intro Rd aj i hi;refine ⟨λh1=>?_,λh1=>?_⟩
 ·have h2:i < x.xs.length:=by omega
  have h3:i < (x.xs.map (exS 12)).length:=by rw[Yaa];exact h2
  refine ⟨i,_,rfl,exW h2,?_⟩;refine Zad (.inl rfl) (Zn3 (L:=L) 12 (Yas _) x.xs[i] (hl _ (Yai h2))) ?_;refine ⟨[[.str (exS 12 x.xs[i])]],rfl,rfl,⟨rfl,trivial⟩,?_⟩;refine ⟨⟨by simp only[maxLen,List.length_cons,List.length_nil,Yaa,Yam];omega,by simp only[List.length_cons,List.length_nil,Yaa,Yam];omega⟩,?_⟩;refine ⟨_,I64.wrap (by unfold I64;omega),?_⟩;exact aj _ _ _ ⟨i+1,[.old 0,.old 1,.old 2,.old 6],⟨rfl,.inr ⟨⟨rfl,.inl rfl⟩,⟨rfl,rfl,rfl⟩,⟨rfl,.inl rfl⟩,⟨by rw[ZaJ h3,Yaf,Ycm];rfl,rfl,rfl⟩,trivial⟩,.inr ⟨lk rfl,lk rfl,lk rfl,lk rfl,lk rfl,lk rfl,lkI (by omega),trivial⟩,rfl⟩,h2,by omega⟩
 have e:(x.xs.map (exS 12)).take i=x.xs.map (exS 12):=Yay (by rw[Yaa];omega);have ln:=Zja n;rcases hc with ⟨hk,hs,t0,et,er⟩ | ⟨hk,hs,t0,t1,et,er⟩ | ⟨hk,pF,tc,t0,et,er⟩ | ⟨hk,pF,t0,et,er⟩ | ⟨hk,t0,et,er⟩ | ⟨hk,t0,et,er⟩
 ·have lj:=cG t0 (by rw[et];simp);have h0:0 < (((x.xs.map (exS 12)).take i).map ZaT).length:=by rw[e,et];simp
  have g0:(((x.xs.map (exS 12)).take i).map ZaT)[0]?=some (ZaT t0):=by rw[e,et];rfl
  have bM:=cJ;rw[er] at bM;simp only[Yab,List.length_cons,List.length_nil] at bM;refine Zag [0,1] Zbq rfl rfl ⟨rfl,.inl rfl,.inl rfl,rfl⟩ (Zaj (L:=L) (.ptr 0 0) (.inr rfl) s0 (Zds n) (by omega)) (λd' h' hq=>?_) (λd' h' hq=>by cases hq);injection hq with q1 q2;subst q1;subst q2;refine ⟨λ_=>?_,λh=>absurd hk h⟩;refine ⟨some 9999,[9],rfl,?_⟩;refine ⟨by simp only[List.length_cons,List.length_nil];omega,?_⟩;refine ⟨0,rfl,h0,?_⟩;refine ⟨ZaT t0,g0,ZcI rfl rfl ?_⟩;refine ⟨by simp only[Yab,List.length_cons,List.length_nil];omega,?_⟩;refine ⟨by simp only[Yab,List.length_cons,List.length_nil];omega,?_⟩;refine Zag [0,5] Zbq rfl rfl ⟨rfl,.inl rfl,.inl rfl,rfl⟩ (Zaj (L:=L) (.ptr 0 0) (.inr rfl) (s0++Zds n) (x.s++[32,61,32]++t0++[59,10]) (by simp only[Yab,List.length_cons,List.length_nil];omega)) (λd' h' hq=>?_) (λd' h' hq=>by cases hq);injection hq with q1 q2;subst q1;subst q2;exact ⟨rfl,Zpy (.tuple []) _ [.old 0,.old 7] rfl rfl rfl (.inl rfl) rfl rfl (by rw[er];simp)⟩
 ·have lj:=cG t0 (by rw[et];simp);have h0:0 < (((x.xs.map (exS 12)).take i).map ZaT).length:=by rw[e,et];simp
  have g0:(((x.xs.map (exS 12)).take i).map ZaT)[0]?=some (ZaT t0):=by rw[e,et];rfl
  have bh:=cG t1 (by rw[et];simp);have xI:1 < (((x.xs.map (exS 12)).take i).map ZaT).length:=by rw[e,et];simp
  have g1:(((x.xs.map (exS 12)).take i).map ZaT)[1]?=some (ZaT t1):=by rw[e,et];rfl
  have bM:=cJ;rw[er] at bM;simp only[Yab,List.length_cons,List.length_nil] at bM;refine Zag [0,1] Zbq rfl rfl ⟨rfl,.inl rfl,.inl rfl,rfl⟩ (Zaj (L:=L) (.ptr 0 0) (.inr rfl) s0 (Zds n) (by omega)) (λd' h' hq=>?_) (λd' h' hq=>by cases hq);injection hq with q1 q2;subst q1;subst q2;refine ⟨λh=>absurd h (by omega),λ_=>?_⟩;refine ⟨λ_=>?_,λh=>absurd hk h⟩;refine ⟨some 9999,[14],rfl,?_⟩;refine ⟨by simp only[List.length_cons,List.length_nil];omega,?_⟩;refine ⟨0,rfl,h0,?_⟩;refine ⟨ZaT t0,g0,ZcI rfl rfl ?_⟩;refine ⟨by simp only[Yab,List.length_cons,List.length_nil];omega,?_⟩;refine ⟨by simp only[Yab,List.length_cons,List.length_nil];omega,?_⟩;refine ⟨1,rfl,xI,?_⟩;refine ⟨ZaT t1,g1,ZcI rfl rfl ?_⟩;refine ⟨by simp only[Yab,List.length_cons,List.length_nil];omega,?_⟩;refine ⟨by simp only[Yab,List.length_cons,List.length_nil];omega,?_⟩;refine Zag [0,5] Zbq rfl rfl ⟨rfl,.inl rfl,.inl rfl,rfl⟩ (Zaj (L:=L) (.ptr 0 0) (.inr rfl) (s0++Zds n) (x.s++[91]++t0++[93,32,61,32]++t1++[59,10]) (by simp only[Yab,List.length_cons,List.length_nil];omega)) (λd' h' hq=>?_) (λd' h' hq=>by cases hq);injection hq with q1 q2;subst q1;subst q2;exact ⟨rfl,Zpy (.tuple []) _ [.old 0,.old 7] rfl rfl rfl (.inl rfl) rfl rfl (by rw[er];simp)⟩
 ·have lj:=cG t0 (by rw[et];simp);have h0:0 < (((x.xs.map (exS 12)).take i).map ZaT).length:=by rw[e,et];simp
  have g0:(((x.xs.map (exS 12)).take i).map ZaT)[0]?=some (ZaT t0):=by rw[e,et];rfl
  have bM:=cJ;rw[er] at bM;simp only[Yab,List.length_cons,List.length_nil] at bM;refine Zag [0,1] Zbq rfl rfl ⟨rfl,.inl rfl,.inl rfl,rfl⟩ (Zaj (L:=L) (.ptr 0 0) (.inr rfl) s0 (Zds n) (by omega)) (λd' h' hq=>?_) (λd' h' hq=>by cases hq);injection hq with q1 q2;subst q1;subst q2;refine ⟨λh=>absurd h (by omega),λ_=>?_⟩;refine ⟨λh=>absurd h (by omega),λ_=>?_⟩;refine ⟨λh=>absurd h (by omega),λ_=>?_⟩;refine ⟨λh=>absurd h (by omega),λ_=>?_⟩;refine ⟨some 9998,[11],rfl,?_⟩;refine ⟨([[],[],[],[105,102,32],[119,104,105,108,101,32]]:List Str).map ZaT,rfl,rfl,⟨rfl,rfl,rfl,rfl,rfl,trivial⟩,?_⟩;refine ⟨⟨_,rfl⟩,?_⟩;refine ⟨3,(show D.g (GV.int x.k)=D.g (GV.int ((3:Nat):Int)) from by rw[hk];rfl),by decide,?_⟩;refine ⟨ZaT [105,102,32],rfl,ZcI rfl rfl ?_⟩;refine ⟨0,rfl,h0,?_⟩;refine ⟨ZaT t0,g0,ZcI rfl rfl ?_⟩;refine ⟨by simp only[List.length_cons,List.length_nil];omega,?_⟩;refine ⟨by simp only[Yab,List.length_cons,List.length_nil];omega,?_⟩;refine Zag [0,5] Zbq rfl rfl ⟨rfl,.inl rfl,.inl rfl,rfl⟩ (Zaj (L:=L) (.ptr 0 0) (.inr rfl) (s0++Zds n) ([105,102,32]++t0++[32]) (by simp only[Yab,List.length_cons,List.length_nil];omega)) (λd' h' hq=>?_) (λd' h' hq=>by cases hq);injection hq with q1 q2;subst q1;subst q2;have bG:=hB x.b pF gu fI (s0++Zds n++([105,102,32]++t0++[32])) (by simp only[Yab,List.length_cons,List.length_nil];omega);refine Zag [0,8] Zkh rfl rfl ⟨rfl,.inl rfl,.inl rfl,rfl⟩ bG (λd' h' hq=>?_) (λd' h' hq=>by cases hq);injection hq with q1 q2;subst q1;subst q2;refine ⟨λ_=>?_,λh=>absurd hk h⟩;refine Zag [0,9] Zbq rfl rfl ⟨rfl,.inl rfl,.inl rfl,rfl⟩ (Zaj (L:=L) (.ptr 0 0) (.inr rfl) ((s0++Zds n++([105,102,32]++t0++[32]))++blS f n x.b) [32,101,108,115,101,32] (by simp only[Yab,List.length_cons,List.length_nil];omega)) (λd' h' hq=>?_) (λd' h' hq=>by cases hq);injection hq with q1 q2;subst q1;subst q2;have cE:=hB x.e tc mf gF (((s0++Zds n++([105,102,32]++t0++[32]))++blS f n x.b)++[32,101,108,115,101,32]) (by simp only[Yab,List.length_cons,List.length_nil];omega);refine Zag [0,11] Zkh rfl rfl ⟨rfl,.inl rfl,.inl rfl,rfl⟩ cE (λd' h' hq=>?_) (λd' h' hq=>by cases hq);injection hq with q1 q2;subst q1;subst q2;refine Zag [0,12] Zbq rfl rfl ⟨rfl,.inl rfl,.inl rfl,rfl⟩ (Zaj (L:=L) (.ptr 0 0) (.inr rfl) ((((s0++Zds n++([105,102,32]++t0++[32]))++blS f n x.b)++[32,101,108,115,101,32])++blS f n x.e) [10] (by simp only[Yab,List.length_cons,List.length_nil];omega)) (λd' h' hq=>?_) (λd' h' hq=>by cases hq);injection hq with q1 q2;subst q1;subst q2;exact ⟨rfl,Zpy (.tuple []) _ [.old 0,.old 14] rfl rfl rfl (.inl rfl) rfl rfl (by rw[er];simp)⟩
 ·have lj:=cG t0 (by rw[et];simp);have h0:0 < (((x.xs.map (exS 12)).take i).map ZaT).length:=by rw[e,et];simp
  have g0:(((x.xs.map (exS 12)).take i).map ZaT)[0]?=some (ZaT t0):=by rw[e,et];rfl
  have bM:=cJ;rw[er] at bM;simp only[Yab,List.length_cons,List.length_nil] at bM;refine Zag [0,1] Zbq rfl rfl ⟨rfl,.inl rfl,.inl rfl,rfl⟩ (Zaj (L:=L) (.ptr 0 0) (.inr rfl) s0 (Zds n) (by omega)) (λd' h' hq=>?_) (λd' h' hq=>by cases hq);injection hq with q1 q2;subst q1;subst q2;refine ⟨λh=>absurd h (by omega),λ_=>?_⟩;refine ⟨λh=>absurd h (by omega),λ_=>?_⟩;refine ⟨λh=>absurd h (by omega),λ_=>?_⟩;refine ⟨λh=>absurd h (by omega),λ_=>?_⟩;refine ⟨some 9998,[11],rfl,?_⟩;refine ⟨([[],[],[],[105,102,32],[119,104,105,108,101,32]]:List Str).map ZaT,rfl,rfl,⟨rfl,rfl,rfl,rfl,rfl,trivial⟩,?_⟩;refine ⟨⟨_,rfl⟩,?_⟩;refine ⟨4,(show D.g (GV.int x.k)=D.g (GV.int ((4:Nat):Int)) from by rw[hk];rfl),by decide,?_⟩;refine ⟨ZaT [119,104,105,108,101,32],rfl,ZcI rfl rfl ?_⟩;refine ⟨0,rfl,h0,?_⟩;refine ⟨ZaT t0,g0,ZcI rfl rfl ?_⟩;refine ⟨by simp only[List.length_cons,List.length_nil];omega,?_⟩;refine ⟨by simp only[Yab,List.length_cons,List.length_nil];omega,?_⟩;refine Zag [0,5] Zbq rfl rfl ⟨rfl,.inl rfl,.inl rfl,rfl⟩ (Zaj (L:=L) (.ptr 0 0) (.inr rfl) (s0++Zds n) ([119,104,105,108,101,32]++t0++[32]) (by simp only[Yab,List.length_cons,List.length_nil];omega)) (λd' h' hq=>?_) (λd' h' hq=>by cases hq);injection hq with q1 q2;subst q1;subst q2;have bG:=hB x.b pF gu fI (s0++Zds n++([119,104,105,108,101,32]++t0++[32])) (by simp only[Yab,List.length_cons,List.length_nil];omega);refine Zag [0,8] Zkh rfl rfl ⟨rfl,.inl rfl,.inl rfl,rfl⟩ bG (λd' h' hq=>?_) (λd' h' hq=>by cases hq);injection hq with q1 q2;subst q1;subst q2;refine ⟨λh=>absurd h (by omega),λ_=>?_⟩;refine Zag [0,9] Zbq rfl rfl ⟨rfl,.inl rfl,.inl rfl,rfl⟩ (Zaj (L:=L) (.ptr 0 0) (.inr rfl) ((s0++Zds n++([119,104,105,108,101,32]++t0++[32]))++blS f n x.b) [10] (by simp only[Yab,List.length_cons,List.length_nil];omega)) (λd' h' hq=>?_) (λd' h' hq=>by cases hq);injection hq with q1 q2;subst q1;subst q2;exact ⟨rfl,Zpy (.tuple []) _ [.old 0,.old 11] rfl rfl rfl (.inl rfl) rfl rfl (by rw[er];simp)⟩
 ·have lj:=cG t0 (by rw[et];simp);have h0:0 < (((x.xs.map (exS 12)).take i).map ZaT).length:=by rw[e,et];simp
  have g0:(((x.xs.map (exS 12)).take i).map ZaT)[0]?=some (ZaT t0):=by rw[e,et];rfl
  have bM:=cJ;rw[er] at bM;simp only[Yab,List.length_cons,List.length_nil] at bM;refine Zag [0,1] Zbq rfl rfl ⟨rfl,.inl rfl,.inl rfl,rfl⟩ (Zaj (L:=L) (.ptr 0 0) (.inr rfl) s0 (Zds n) (by omega)) (λd' h' hq=>?_) (λd' h' hq=>by cases hq);injection hq with q1 q2;subst q1;subst q2;refine ⟨λh=>absurd h (by omega),λ_=>?_⟩;refine ⟨λh=>absurd h (by omega),λ_=>?_⟩;refine ⟨λ_=>?_,λh=>absurd hk h⟩;refine ⟨0,rfl,h0,?_⟩;refine ⟨ZaT t0,g0,ZcI rfl rfl ?_⟩;refine ⟨by simp only[List.length_cons,List.length_nil];omega,?_⟩;refine ⟨by simp only[Yab,List.length_cons,List.length_nil];omega,?_⟩;refine Zag [0,5] Zbq rfl rfl ⟨rfl,.inl rfl,.inl rfl,rfl⟩ (Zaj (L:=L) (.ptr 0 0) (.inr rfl) (s0++Zds n) ([114,101,116,117,114,110,32]++t0++[59,10]) (by simp only[Yab,List.length_cons,List.length_nil];omega)) (λd' h' hq=>?_) (λd' h' hq=>by cases hq);injection hq with q1 q2;subst q1;subst q2;exact ⟨rfl,Zpy (.tuple []) _ [.old 0,.old 7] rfl rfl rfl (.inl rfl) rfl rfl (by rw[er];simp)⟩
 ·have lj:=cG t0 (by rw[et];simp);have h0:0 < (((x.xs.map (exS 12)).take i).map ZaT).length:=by rw[e,et];simp
  have g0:(((x.xs.map (exS 12)).take i).map ZaT)[0]?=some (ZaT t0):=by rw[e,et];rfl
  have bM:=cJ;rw[er] at bM;simp only[Yab,List.length_cons,List.length_nil] at bM;refine Zag [0,1] Zbq rfl rfl ⟨rfl,.inl rfl,.inl rfl,rfl⟩ (Zaj (L:=L) (.ptr 0 0) (.inr rfl) s0 (Zds n) (by omega)) (λd' h' hq=>?_) (λd' h' hq=>by cases hq);injection hq with q1 q2;subst q1;subst q2;refine ⟨λh=>absurd h (by omega),λ_=>?_⟩;refine ⟨λh=>absurd h (by omega),λ_=>?_⟩;refine ⟨λh=>absurd h (by omega),λ_=>?_⟩;refine ⟨λ_=>?_,λh=>absurd hk h⟩;refine ⟨0,rfl,h0,?_⟩;refine ⟨ZaT t0,g0,ZcI rfl rfl ?_⟩;refine ⟨by simp only[List.length_cons,List.length_nil];omega,?_⟩;refine ⟨by simp only[Yab,List.length_cons,List.length_nil];omega,?_⟩;refine Zag [0,5] Zbq rfl rfl ⟨rfl,.inl rfl,.inl rfl,rfl⟩ (Zaj (L:=L) (.ptr 0 0) (.inr rfl) (s0++Zds n) ([115,97,121,32]++t0++[59,10]) (by simp only[Yab,List.length_cons,List.length_nil];omega)) (λd' h' hq=>?_) (λd' h' hq=>by cases hq);injection hq with q1 q2;subst q1;subst q2;exact ⟨rfl,Zpy (.tuple []) _ [.old 0,.old 7] rfl rfl rfl (.inl rfl) rfl rfl (by rw[er];simp)⟩
theorem ZsC (n:Nat):Zds (n+1)=Zds n++[32]:=by unfold Zds;rw[List.replicate_succ']
set_option maxRecDepth 20000 in
theorem Zhv {L:Lv}:∀(f n:Nat),n+f<=13->BlC L f n
 | 0,_,_=>λl h=>by cases h
 | f+1,n,hn=>by
  intro l h hI wa s0 cJ;have hB:BlC L f (n+1):=Zhv f (n+1) (by omega);have hl:=Zaf h;have ll:(l.map Stmt.g).length=l.length:=Yaa _;have ln:=Zja n;have e0:blS (f+1) n l=[123,10]++(l.flatMap (stS (blS f) (n+1))++(Zds n++[125])):=rfl;rw[e0] at cJ ⊢;have bM:=cJ;simp only[Yab,List.length_cons,List.length_nil] at bM;refine Za4 [] hT hF hM Tryz.func18 rfl 26 rfl (by kernel_rfl) [] rfl [.ptr 0 0,.g (.sl 5 (l.map Stmt.g)),.g (.str (Zds n))] rfl (BuH (.ptr 0 0) s0) [0] rfl rfl rfl 1 [] trivial _ ?_;refine Zag [0,1] Zbq rfl rfl ⟨rfl,.inl rfl,.inl rfl,rfl⟩ (Zaj (L:=L) (.ptr 0 0) (.inr rfl) s0 [123,10] (by simp only[List.length_cons,List.length_nil];omega)) (λd' h' hq=>?_) (λd' h' hq=>by cases hq);injection hq with q1 q2;subst q1;subst q2;refine ZaO (ι:=Nat) (λi=>[(0,.ptr 0 0),(2,.g (.str (Zds n))),(10,.g (.sl 5 (l.map Stmt.g))),(11,.g (.int ((l.map Stmt.g).length:Int))),(12,.g (.int (i:Int)))]) (λi=>BuH (.ptr 0 0) (s0++[123,10]++(l.take i).flatMap (stS (blS f) (n+1)))) (λi=>i<=l.length) (λi=>l.length - i)
   ⟨0,[.old 0,.old 3],⟨rfl,.inr ⟨⟨rfl,.inl rfl⟩,⟨by simp,rfl,rfl⟩,trivial⟩,.inr ⟨lk rfl,lk rfl,lk rfl,lk rfl,lk rfl,trivial⟩,rfl⟩,Yat _⟩ ?_
  intro Rd aj i hi;have bL:((l.take i).flatMap (stS (blS f) (n+1))).length<=(l.flatMap (stS (blS f) (n+1))).length:=by
   conv=>rhs;rw[<- Ya7 i l,List.flatMap_append,Yab]
   omega
  refine ⟨λh1=>?_,λh1=>?_⟩
  ·have h2:i < l.length:=by omega
   have ht:l.take (i+1)=l.take i++[l[i]]:=ZaJ h2;have ef:(l.take (i+1)).flatMap (stS (blS f) (n+1))=(l.take i).flatMap (stS (blS f) (n+1))++stS (blS f) (n+1) l[i]:=by rw[ht,List.flatMap_append];simp
   have rP:((l.take (i+1)).flatMap (stS (blS f) (n+1))).length<=(l.flatMap (stS (blS f) (n+1))).length:=by
    conv=>rhs;rw[<- Ya7 (i+1) l,List.flatMap_append,Yab]
    omega
   rw[ef,Yab] at rP;have hS:=Zm1 hB (hl _ (Yai h2)) (hI _ (Yai h2)) (s0++[123,10]++(l.take i).flatMap (stS (blS f) (n+1))) (by simp only[Yab,List.length_cons,List.length_nil];omega);rw[ZsC] at hS;refine ⟨i,_,rfl,ZCY h2,?_⟩;refine ⟨by simp only[List.length_cons,List.length_nil];omega,?_⟩;refine Zag [0,1] Zyu rfl rfl ⟨rfl,.inl rfl,.inl rfl,rfl⟩ hS (λd' h' hq=>?_) (λd' h' hq=>by cases hq);injection hq with q1 q2;subst q1;subst q2;refine ⟨_,I64.wrap (by unfold I64;omega),?_⟩;exact aj _ _ _ ⟨i+1,[.old 0,.old 3],⟨rfl,.inr ⟨⟨rfl,.inl rfl⟩,⟨by rw[ef,<- Yax],rfl,rfl⟩,trivial⟩,.inr ⟨lk rfl,lk rfl,lk rfl,lk rfl,lkI (by omega),trivial⟩,rfl⟩,h2,by omega⟩
  ·have e:l.take i=l:=Yay (by omega);refine ⟨by simp only[List.length_cons,List.length_nil];omega,?_⟩;refine Zag [0,1] Zbq rfl rfl ⟨rfl,.inl rfl,.inl rfl,rfl⟩ (Zaj (L:=L) (.ptr 0 0) (.inr rfl) (s0++[123,10]++(l.take i).flatMap (stS (blS f) (n+1))) (Zds n++[125]) (by simp only[Yab,List.length_cons,List.length_nil];omega)) (λd' h' hq=>?_) (λd' h' hq=>by cases hq);injection hq with q1 q2;subst q1;subst q2;exact ⟨rfl,Zpy (.tuple []) _ [.old 0,.old 3] rfl rfl rfl (.inl rfl) rfl rfl (by rw[e];simp)⟩
theorem ZBc {f:Fun} (h:Zhi f=0) (hp:f.params.length<=4):((fuS f).length:Int)<=200+Zah 12 f.body*500000000:=by
 obtain ⟨h1,h2,h3⟩:=Zb7 h;have a1:=Zcw h1;have a2:=ZiZ (b:=8) f.params (λs hs=>Zcw (h2 s hs));have a3:f.params.length*(8+2)<=4*(8+2):=YaJ _ hp;have a4:=Zx6 12 0 f.body (by omega) h3;unfold fuS;have a5:(if f.isOpen=true then [111,112,101,110,32] else [102,117,110,99,32]:Str).length=5:=by split<;>rfl
 simp only[Yab,List.length_cons,List.length_nil,a5];omega
theorem ZnR {f:Fun} (h:Zhi f=0):f.params.length<=4:=by
 unfold Zhi at h;split at h
 ·cases h
 split at h
 ·cases h
 ·omega
theorem ZuB:∀l:List Fun,(∀f∈l,Zhi f=0)->((l.flatMap fuS).length:Int)<=l.length*200+Zb9 l*500000000
 | [],_=>by simp[Zb9]
 | f :: l,h=>by
  have h1:=ZuB l (λg hg=>h g (Yad _ hg));have h2:=h f Yae;have h3:=ZBc h2 (ZnR h2);have e:Zb9 (f :: l)=Zah 12 f.body+Zb9 l:=by simp[Zb9]
  rw[Ybb,Yab,List.length_cons,e];omega
theorem Zs3:∀l:List Str,(∀s∈l,Zan s)->(l.flatMap vaS).length<=l.length*13
 | [],_=>by simp
 | s :: l,h=>by have h1:=Zs3 l (λg hg=>h g (Yad _ hg));have h2:=Zcw (h s Yae);rw[Ybb,Yab,List.length_cons];simp only[vaS,Yab,List.length_cons,List.length_nil];omega
theorem Zvg:∀l:List Arr,(∀a∈l,Zkm a=0)->(l.flatMap arS).length<=l.length*22
 | [],_=>by simp
 | a :: l,h=>by have h1:=Zvg l (λg hg=>h g (Yad _ hg));obtain ⟨i1,i2,i3⟩:=ZcC (h a Yae);have h2:=Zcw i1;have h3:=ZpD (n:=a.size.toNat) (by omega);rw[Ybb,Yab,List.length_cons];simp only[arS,Yab,List.length_cons,List.length_nil];omega
theorem Ztb {u:Barb.Unit} (h:Zbm u=0) (hN:Zb9 u.funcs<=300):(unS u).length<=200000000000:=by obtain ⟨h1,h2,h3,h4⟩:=ZaQ h;obtain ⟨k1,k2,k3,_⟩:=ZfU h;have a1:=Zcw h1;have a2:=Zs3 u.vars h2;have a3:=Zvg u.arrays h3;have a4:=ZuB u.funcs h4;unfold unS;simp only[Yab,List.length_cons,List.length_nil];omega
end ZN
