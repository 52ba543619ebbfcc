/-
  tree.Show and the reference's text: statements and blocks: the contracts.
-/
import Derived.Test.YtabjelabdojpkaaDoorWc
import Derived.Test.YtabjelabdojpkaaDoorGh
namespace Go.Proofs.YtabjelabdojpkaaDoor
open Go Go.Dm Go.Eng Go.RowKit Barb
theorem stG2 {l:List Barb.Stmt} {i:Nat} (h:i < l.length):(l.map Stmt.g)[i]?=some [.int l[i].k,.str l[i].s,.sl 5 (l[i].xs.map Expr.g),.sl 5 (l[i].b.map Stmt.g),.sl 5 (l[i].e.map Stmt.g)]:=(gm h).trans (congrArg some (Stmt.g_eq _))
theorem wstr_fn:fnOk Tryd.prog 13=true:=by kernel_rfl
theorem stxt_fn:fnOk Tryd.prog 34=true:=by kernel_rfl
theorem btxt_fn:fnOk Tryd.prog 16=true:=by kernel_rfl
theorem endBu {R:D→Heap→Prop} {env:Dm.Env} {h hin:Heap} {rows:List (List GV)} {d0:D} (d:D) (s:Str) (src:List Src) (hok:srcOk src=true) (hlen:nrOk src (BuH (.ptr 0 0) s)=true)
  (h0:conv h src 4 (env 0)=.ptr 0 0) (hd:conv h src 4 d0=d∨Like (newN src) 4 (conv h src 4 d0) d) (hTn:turnH h src=[.blk [.ptr 0 0,.row 1] 44,.row rows 5 1]) (e1:rows=s.map byG) (q:R d (BuH (.ptr 0 0) s)):ToH [0] hin 1 [] R h env d0:=by
 subst e1
 refine ⟨src,d,BuH (.ptr 0 0) s,⟨hok,.inr ?_,.inr ?_,hlen⟩,rfl,trivial,q⟩
 ·rw[hTn]
  exact ⟨⟨rfl,.inl rfl⟩,⟨rfl,rfl,rfl⟩,trivial⟩
 ·rw[List.map_cons,List.map_cons,List.map_cons,h0]
  exact ⟨by rcases hd with hd | hd;exact lk hd;exact hd,lk rfl,trivial⟩
theorem st_facts {f n:Nat} {x:Barb.Stmt} (h:stmtE1 (stmtsE f) x=0) :
  (x.xs.length≤2∧(∀ y∈x.xs,exprE 12 y=0)∧∀ t∈x.xs.map (exS 12),t.length≤223696200) ∧
  ((x.k=1∧x.s.length≤8∧∃ t0,x.xs.map (exS 12)=[t0]∧stS (blS f) n x=blS0 n++(x.s++[32,61,32]++t0++[59,10])) ∨
  (x.k=2∧x.s.length≤8∧∃ t0 t1,x.xs.map (exS 12)=[t0,t1]∧stS (blS f) n x=blS0 n++(x.s++[91]++t0++[93,32,61,32]++t1++[59,10])) ∨
  (x.k=3∧stmtsE f x.b=0∧stmtsE f x.e=0∧∃ t0,x.xs.map (exS 12)=[t0]∧stS (blS f) n x=blS0 n++([105,102,32]++t0++[32])++blS f n x.b++[32,101,108,115,101,32]++blS f n x.e++[10]) ∨
  (x.k=4∧stmtsE f x.b=0∧∃ t0,x.xs.map (exS 12)=[t0]∧stS (blS f) n x=blS0 n++([119,104,105,108,101,32]++t0++[32])++blS f n x.b++[10]) ∨
  (x.k=5∧∃ t0,x.xs.map (exS 12)=[t0]∧stS (blS f) n x=blS0 n++([114,101,116,117,114,110,32]++t0++[59,10])) ∨
  (x.k=6∧∃ t0,x.xs.map (exS 12)=[t0]∧stS (blS f) n x=blS0 n++([115,97,121,32]++t0++[59,10]))):=by
 have hb:∀ y,exprE 12 y=0→(exS 12 y).length≤223696200:=fun y hy=>Nat.le_trans (ex_len 12 y hy) (bE_le 12 (Nat.le_refl _))
 have one:∀ a:Barb.Expr,exprE 12 a=0→([a].length≤2∧(∀ y∈[a],exprE 12 y=0)∧∀ t∈[a].map (exS 12),t.length≤223696200):=fun a ha =>
  ⟨by simp,fun y hy=>by rw[List.mem_singleton.1 hy];exact ha,fun t ht=>by rw[List.map_cons,List.map_nil,List.mem_singleton] at ht;rw[ht];exact hb a ha⟩
 rcases st_cases h with ⟨s,a,hs,ha,_,rfl⟩ | ⟨s,a,b,hs,ha,hb',_,rfl⟩ | ⟨a,b,e,ha,hb',he,rfl⟩ | ⟨a,b,ha,hb',_,rfl⟩ | ⟨a,ha,_,rfl⟩ | ⟨a,ha,_,rfl⟩
 ·exact ⟨one a ha,.inl ⟨rfl,id_len hs,exS 12 a,rfl,by show blS0 n++(s++([32,61,32]++(exS 12 a++[59,10])))=_;simp[Stmt.s]⟩⟩
 ·refine ⟨⟨by simp[Stmt.xs],fun y hy=>?_,fun t ht=>?_⟩,.inr (.inl ⟨rfl,id_len hs,exS 12 a,exS 12 b,rfl,by show blS0 n++(s++([91]++(exS 12 a++([93,32,61,32]++(exS 12 b++[59,10])))))=_;simp[Stmt.s]⟩)⟩
  ·have hy:y∈[a,b]:=hy
   simp only[List.mem_cons,List.not_mem_nil,or_false] at hy
   rcases hy with rfl | rfl
   ·exact ha
   ·exact hb'
  ·have ht:t∈[exS 12 a,exS 12 b]:=ht
   simp only[List.mem_cons,List.not_mem_nil,or_false] at ht
   rcases ht with rfl | rfl
   ·exact hb a ha
   ·exact hb b hb'
 ·exact ⟨one a ha,.inr (.inr (.inl ⟨rfl,hb',he,exS 12 a,rfl,by show blS0 n++([105,102,32]++(exS 12 a++([32]++(blS f n b++([32,101,108,115,101,32]++(blS f n e++[10]))))))=_;simp[Stmt.b,Stmt.e]⟩))⟩
 ·exact ⟨one a ha,.inr (.inr (.inr (.inl ⟨rfl,hb',exS 12 a,rfl,by show blS0 n++([119,104,105,108,101,32]++(exS 12 a++([32]++(blS f n b++[10]))))=_;simp[Stmt.b]⟩)))⟩
 ·exact ⟨one a ha,.inr (.inr (.inr (.inr (.inl ⟨rfl,exS 12 a,rfl,by show blS0 n++([114,101,116,117,114,110,32]++(exS 12 a++[59,10]))=_;simp⟩))))⟩
 ·exact ⟨one a ha,.inr (.inr (.inr (.inr (.inr ⟨rfl,exS 12 a,rfl,by show blS0 n++([115,97,121,32]++(exS 12 a++[59,10]))=_;simp⟩))))⟩
def BlC (L:Lv) (f n:Nat):Prop:=∀ l,stmtsE f l=0→(∀ x∈l,Stmt.I x)→l.length*96≤140737488351232→∀ s0:Str,s0.length+(blS f n l).length≤140737488355328 →
 CTH Tryd.prog (gl L) 16 1 (BuH (.ptr 0 0) s0) [.ptr 0 0,.g (.sl 5 (l.map Stmt.g)),.g (.str (blS0 n))] (fun out=>out=.ret (.tuple []) (BuH (.ptr 0 0) (s0++blS f n l)))
set_option maxRecDepth 20000 in
set_option maxHeartbeats 4000000 in
theorem stmtText_any {L:Lv} {f n:Nat} (hB:BlC L f n) {x:Barb.Stmt} (h:stmtE1 (stmtsE f) x=0) (hI:Stmt.I x) (s0:Str) (hs0:s0.length+(stS (blS f) n x).length≤140737488355328) :
  CTH Tryd.prog (gl L) 34 1 (BuH (.ptr 0 0) s0) [.ptr 0 0,.agg x.d,.g (.str (blS0 n))] (fun out=>out=.ret (.tuple []) (BuH (.ptr 0 0) (s0++stS (blS f) n x))):=by
 obtain ⟨⟨h2,hl,hts⟩,hc⟩:=st_facts (n:=n) h
 obtain ⟨_,_,_,hib,hie,_,hbI,heI⟩:=hI.inv
 have la:(x.xs.map Expr.g).length=x.xs.length:=List.length_map _
 generalize stS (blS f) n x=r at *
 refine enterH [] hT hF hM Tryd.func34 rfl 103 rfl (by kernel_rfl) [] rfl [.ptr 0 0,.agg x.d,.g (.str (blS0 n))] rfl (BuH (.ptr 0 0) s0) [0] rfl rfl rfl 1 [] trivial _ ?_
 refine loopR (ι:=Nat) (fun i=>[(0,.ptr 0 0),(2,.g (.str (blS0 n))),(4,.ptr 2 0),(6,.row 3),(10,.g (.sl 5 (x.xs.map Expr.g))),(11,.g (.int ((x.xs.map Expr.g).length:Int))),(12,.g (.int (i:Int)))]) (fun i=>[.blk [.ptr 0 0,.row 1] 44,.row (s0.map byG) 5 1,.blk x.d 78,.row (((x.xs.map (exS 12)).take i).map strG) 9 1]) (fun i=>i≤x.xs.length) (fun i=>x.xs.length - i)
  ⟨0,[.old 0,.old 1,.old 2,.nil 9 1],⟨rfl,.inl rfl,.inr ⟨lk rfl,lk rfl,lk rfl,.inr rfl,lk rfl,lk rfl,lk rfl,trivial⟩,rfl⟩,Nat.zero_le _⟩ ?_
 intro Rd hRd i hi
 refine ⟨fun h1=>?_,fun h1=>?_⟩
 ·have h2:i < x.xs.length:=by omega
  have h3:i < (x.xs.map (exS 12)).length:=by rw[List.length_map];exact h2
  refine ⟨i,_,rfl,exG h2,?_⟩
  refine callIs (.inl rfl) (exprText_any (L:=L) 12 (Nat.le_refl _) x.xs[i] (hl _ (List.getElem_mem h2))) ?_
  refine ⟨[[.str (exS 12 x.xs[i])]],rfl,rfl,⟨rfl,trivial⟩,?_⟩
  refine ⟨⟨by simp only[maxLen,List.length_cons,List.length_nil,List.length_map,List.length_take];omega,by simp only[List.length_cons,List.length_nil,List.length_map,List.length_take];omega⟩,?_⟩
  refine ⟨_,I64.wrap (by unfold I64;omega),?_⟩
  exact hRd _ _ _ ⟨i+1,[.old 0,.old 1,.old 2,.old 6],⟨rfl,.inr ⟨⟨rfl,.inl rfl⟩,⟨rfl,rfl,rfl⟩,⟨rfl,.inl rfl⟩,⟨by rw[take_one h3,List.map_append,List.getElem_map];rfl,rfl,rfl⟩,trivial⟩,.inr ⟨lk rfl,lk rfl,lk rfl,lk rfl,lk rfl,lk rfl,lkI (by omega),trivial⟩,rfl⟩,h2,by omega⟩
 have e:(x.xs.map (exS 12)).take i=x.xs.map (exS 12):=List.take_of_length_le (by rw[List.length_map];omega)
 have ln:=blS0_len n
 rcases hc with ⟨hk,hs,t0,et,er⟩ | ⟨hk,hs,t0,t1,et,er⟩ | ⟨hk,hsb,hse,t0,et,er⟩ | ⟨hk,hsb,t0,et,er⟩ | ⟨hk,t0,et,er⟩ | ⟨hk,t0,et,er⟩
 ·have ht0:=hts t0 (by rw[et];simp)
  have h0:0 < (((x.xs.map (exS 12)).take i).map strG).length:=by rw[e,et];simp
  have g0:(((x.xs.map (exS 12)).take i).map strG)[0]?=some (strG t0):=by rw[e,et];rfl
  have hs1:=hs0
  rw[er] at hs1
  simp only[List.length_append,List.length_cons,List.length_nil] at hs1
  refine callO [0,1] wstr_fn rfl rfl ⟨rfl,.inl rfl,.inl rfl,rfl⟩ (WriteString_any (L:=L) (.ptr 0 0) (.inr rfl) s0 (blS0 n) (by omega)) (fun d' h' hq=>?_) (fun d' h' hq=>by cases hq)
  injection hq with q1 q2;subst q1;subst q2
  refine ⟨fun _=>?_,fun h=>absurd hk h⟩
  refine ⟨some 9999,[9],rfl,?_⟩
  refine ⟨by simp only[List.length_cons,List.length_nil];omega,?_⟩
  refine ⟨0,rfl,h0,?_⟩
  refine ⟨strG t0,g0,ldG_at rfl rfl ?_⟩
  refine ⟨by simp only[List.length_append,List.length_cons,List.length_nil];omega,?_⟩
  refine ⟨by simp only[List.length_append,List.length_cons,List.length_nil];omega,?_⟩
  refine callO [0,5] wstr_fn rfl rfl ⟨rfl,.inl rfl,.inl rfl,rfl⟩ (WriteString_any (L:=L) (.ptr 0 0) (.inr rfl) (s0++blS0 n) (x.s++[32,61,32]++t0++[59,10]) (by simp only[List.length_append,List.length_cons,List.length_nil];omega)) (fun d' h' hq=>?_) (fun d' h' hq=>by cases hq)
  injection hq with q1 q2;subst q1;subst q2
  exact ⟨rfl,endBu (.tuple []) _ [.old 0,.old 7] rfl rfl rfl (.inl rfl) rfl rfl (by rw[er];simp)⟩
 ·have ht0:=hts t0 (by rw[et];simp)
  have h0:0 < (((x.xs.map (exS 12)).take i).map strG).length:=by rw[e,et];simp
  have g0:(((x.xs.map (exS 12)).take i).map strG)[0]?=some (strG t0):=by rw[e,et];rfl
  have ht1:=hts t1 (by rw[et];simp)
  have h01:1 < (((x.xs.map (exS 12)).take i).map strG).length:=by rw[e,et];simp
  have g1:(((x.xs.map (exS 12)).take i).map strG)[1]?=some (strG t1):=by rw[e,et];rfl
  have hs1:=hs0
  rw[er] at hs1
  simp only[List.length_append,List.length_cons,List.length_nil] at hs1
  refine callO [0,1] wstr_fn rfl rfl ⟨rfl,.inl rfl,.inl rfl,rfl⟩ (WriteString_any (L:=L) (.ptr 0 0) (.inr rfl) s0 (blS0 n) (by omega)) (fun d' h' hq=>?_) (fun d' h' hq=>by cases hq)
  injection hq with q1 q2;subst q1;subst q2
  refine ⟨fun h=>absurd h (by omega),fun _=>?_⟩
  refine ⟨fun _=>?_,fun h=>absurd hk h⟩
  refine ⟨some 9999,[14],rfl,?_⟩
  refine ⟨by simp only[List.length_cons,List.length_nil];omega,?_⟩
  refine ⟨0,rfl,h0,?_⟩
  refine ⟨strG t0,g0,ldG_at rfl rfl ?_⟩
  refine ⟨by simp only[List.length_append,List.length_cons,List.length_nil];omega,?_⟩
  refine ⟨by simp only[List.length_append,List.length_cons,List.length_nil];omega,?_⟩
  refine ⟨1,rfl,h01,?_⟩
  refine ⟨strG t1,g1,ldG_at rfl rfl ?_⟩
  refine ⟨by simp only[List.length_append,List.length_cons,List.length_nil];omega,?_⟩
  refine ⟨by simp only[List.length_append,List.length_cons,List.length_nil];omega,?_⟩
  refine callO [0,5] wstr_fn rfl rfl ⟨rfl,.inl rfl,.inl rfl,rfl⟩ (WriteString_any (L:=L) (.ptr 0 0) (.inr rfl) (s0++blS0 n) (x.s++[91]++t0++[93,32,61,32]++t1++[59,10]) (by simp only[List.length_append,List.length_cons,List.length_nil];omega)) (fun d' h' hq=>?_) (fun d' h' hq=>by cases hq)
  injection hq with q1 q2;subst q1;subst q2
  exact ⟨rfl,endBu (.tuple []) _ [.old 0,.old 7] rfl rfl rfl (.inl rfl) rfl rfl (by rw[er];simp)⟩
 ·have ht0:=hts t0 (by rw[et];simp)
  have h0:0 < (((x.xs.map (exS 12)).take i).map strG).length:=by rw[e,et];simp
  have g0:(((x.xs.map (exS 12)).take i).map strG)[0]?=some (strG t0):=by rw[e,et];rfl
  have hs1:=hs0
  rw[er] at hs1
  simp only[List.length_append,List.length_cons,List.length_nil] at hs1
  refine callO [0,1] wstr_fn rfl rfl ⟨rfl,.inl rfl,.inl rfl,rfl⟩ (WriteString_any (L:=L) (.ptr 0 0) (.inr rfl) s0 (blS0 n) (by omega)) (fun d' h' hq=>?_) (fun d' h' hq=>by cases hq)
  injection hq with q1 q2;subst q1;subst q2
  refine ⟨fun h=>absurd h (by omega),fun _=>?_⟩
  refine ⟨fun h=>absurd h (by omega),fun _=>?_⟩
  refine ⟨fun h=>absurd h (by omega),fun _=>?_⟩
  refine ⟨fun h=>absurd h (by omega),fun _=>?_⟩
  refine ⟨some 9998,[11],rfl,?_⟩
  refine ⟨([[],[],[],[105,102,32],[119,104,105,108,101,32]]:List Str).map strG,rfl,rfl,⟨rfl,rfl,rfl,rfl,rfl,trivial⟩,?_⟩
  refine ⟨⟨_,rfl⟩,?_⟩
  refine ⟨3,(show D.g (GV.int x.k)=D.g (GV.int ((3:Nat):Int)) from by rw[hk];rfl),by decide,?_⟩
  refine ⟨strG [105,102,32],rfl,ldG_at rfl rfl ?_⟩
  refine ⟨0,rfl,h0,?_⟩
  refine ⟨strG t0,g0,ldG_at rfl rfl ?_⟩
  refine ⟨by simp only[List.length_cons,List.length_nil];omega,?_⟩
  refine ⟨by simp only[List.length_append,List.length_cons,List.length_nil];omega,?_⟩
  refine callO [0,5] wstr_fn rfl rfl ⟨rfl,.inl rfl,.inl rfl,rfl⟩ (WriteString_any (L:=L) (.ptr 0 0) (.inr rfl) (s0++blS0 n) ([105,102,32]++t0++[32]) (by simp only[List.length_append,List.length_cons,List.length_nil];omega)) (fun d' h' hq=>?_) (fun d' h' hq=>by cases hq)
  injection hq with q1 q2;subst q1;subst q2
  have hb1:=hB x.b hsb hbI hib (s0++blS0 n++([105,102,32]++t0++[32])) (by simp only[List.length_append,List.length_cons,List.length_nil];omega)
  refine callO [0,8] btxt_fn rfl rfl ⟨rfl,.inl rfl,.inl rfl,rfl⟩ hb1 (fun d' h' hq=>?_) (fun d' h' hq=>by cases hq)
  injection hq with q1 q2;subst q1;subst q2
  refine ⟨fun _=>?_,fun h=>absurd hk h⟩
  refine callO [0,9] wstr_fn rfl rfl ⟨rfl,.inl rfl,.inl rfl,rfl⟩ (WriteString_any (L:=L) (.ptr 0 0) (.inr rfl) ((s0++blS0 n++([105,102,32]++t0++[32]))++blS f n x.b) [32,101,108,115,101,32] (by simp only[List.length_append,List.length_cons,List.length_nil];omega)) (fun d' h' hq=>?_) (fun d' h' hq=>by cases hq)
  injection hq with q1 q2;subst q1;subst q2
  have hb2:=hB x.e hse heI hie (((s0++blS0 n++([105,102,32]++t0++[32]))++blS f n x.b)++[32,101,108,115,101,32]) (by simp only[List.length_append,List.length_cons,List.length_nil];omega)
  refine callO [0,11] btxt_fn rfl rfl ⟨rfl,.inl rfl,.inl rfl,rfl⟩ hb2 (fun d' h' hq=>?_) (fun d' h' hq=>by cases hq)
  injection hq with q1 q2;subst q1;subst q2
  refine callO [0,12] wstr_fn rfl rfl ⟨rfl,.inl rfl,.inl rfl,rfl⟩ (WriteString_any (L:=L) (.ptr 0 0) (.inr rfl) ((((s0++blS0 n++([105,102,32]++t0++[32]))++blS f n x.b)++[32,101,108,115,101,32])++blS f n x.e) [10] (by simp only[List.length_append,List.length_cons,List.length_nil];omega)) (fun d' h' hq=>?_) (fun d' h' hq=>by cases hq)
  injection hq with q1 q2;subst q1;subst q2
  exact ⟨rfl,endBu (.tuple []) _ [.old 0,.old 14] rfl rfl rfl (.inl rfl) rfl rfl (by rw[er];simp)⟩
 ·have ht0:=hts t0 (by rw[et];simp)
  have h0:0 < (((x.xs.map (exS 12)).take i).map strG).length:=by rw[e,et];simp
  have g0:(((x.xs.map (exS 12)).take i).map strG)[0]?=some (strG t0):=by rw[e,et];rfl
  have hs1:=hs0
  rw[er] at hs1
  simp only[List.length_append,List.length_cons,List.length_nil] at hs1
  refine callO [0,1] wstr_fn rfl rfl ⟨rfl,.inl rfl,.inl rfl,rfl⟩ (WriteString_any (L:=L) (.ptr 0 0) (.inr rfl) s0 (blS0 n) (by omega)) (fun d' h' hq=>?_) (fun d' h' hq=>by cases hq)
  injection hq with q1 q2;subst q1;subst q2
  refine ⟨fun h=>absurd h (by omega),fun _=>?_⟩
  refine ⟨fun h=>absurd h (by omega),fun _=>?_⟩
  refine ⟨fun h=>absurd h (by omega),fun _=>?_⟩
  refine ⟨fun h=>absurd h (by omega),fun _=>?_⟩
  refine ⟨some 9998,[11],rfl,?_⟩
  refine ⟨([[],[],[],[105,102,32],[119,104,105,108,101,32]]:List Str).map strG,rfl,rfl,⟨rfl,rfl,rfl,rfl,rfl,trivial⟩,?_⟩
  refine ⟨⟨_,rfl⟩,?_⟩
  refine ⟨4,(show D.g (GV.int x.k)=D.g (GV.int ((4:Nat):Int)) from by rw[hk];rfl),by decide,?_⟩
  refine ⟨strG [119,104,105,108,101,32],rfl,ldG_at rfl rfl ?_⟩
  refine ⟨0,rfl,h0,?_⟩
  refine ⟨strG t0,g0,ldG_at rfl rfl ?_⟩
  refine ⟨by simp only[List.length_cons,List.length_nil];omega,?_⟩
  refine ⟨by simp only[List.length_append,List.length_cons,List.length_nil];omega,?_⟩
  refine callO [0,5] wstr_fn rfl rfl ⟨rfl,.inl rfl,.inl rfl,rfl⟩ (WriteString_any (L:=L) (.ptr 0 0) (.inr rfl) (s0++blS0 n) ([119,104,105,108,101,32]++t0++[32]) (by simp only[List.length_append,List.length_cons,List.length_nil];omega)) (fun d' h' hq=>?_) (fun d' h' hq=>by cases hq)
  injection hq with q1 q2;subst q1;subst q2
  have hb1:=hB x.b hsb hbI hib (s0++blS0 n++([119,104,105,108,101,32]++t0++[32])) (by simp only[List.length_append,List.length_cons,List.length_nil];omega)
  refine callO [0,8] btxt_fn rfl rfl ⟨rfl,.inl rfl,.inl rfl,rfl⟩ hb1 (fun d' h' hq=>?_) (fun d' h' hq=>by cases hq)
  injection hq with q1 q2;subst q1;subst q2
  refine ⟨fun h=>absurd h (by omega),fun _=>?_⟩
  refine callO [0,9] wstr_fn rfl rfl ⟨rfl,.inl rfl,.inl rfl,rfl⟩ (WriteString_any (L:=L) (.ptr 0 0) (.inr rfl) ((s0++blS0 n++([119,104,105,108,101,32]++t0++[32]))++blS f n x.b) [10] (by simp only[List.length_append,List.length_cons,List.length_nil];omega)) (fun d' h' hq=>?_) (fun d' h' hq=>by cases hq)
  injection hq with q1 q2;subst q1;subst q2
  exact ⟨rfl,endBu (.tuple []) _ [.old 0,.old 11] rfl rfl rfl (.inl rfl) rfl rfl (by rw[er];simp)⟩
 ·have ht0:=hts t0 (by rw[et];simp)
  have h0:0 < (((x.xs.map (exS 12)).take i).map strG).length:=by rw[e,et];simp
  have g0:(((x.xs.map (exS 12)).take i).map strG)[0]?=some (strG t0):=by rw[e,et];rfl
  have hs1:=hs0
  rw[er] at hs1
  simp only[List.length_append,List.length_cons,List.length_nil] at hs1
  refine callO [0,1] wstr_fn rfl rfl ⟨rfl,.inl rfl,.inl rfl,rfl⟩ (WriteString_any (L:=L) (.ptr 0 0) (.inr rfl) s0 (blS0 n) (by omega)) (fun d' h' hq=>?_) (fun d' h' hq=>by cases hq)
  injection hq with q1 q2;subst q1;subst q2
  refine ⟨fun h=>absurd h (by omega),fun _=>?_⟩
  refine ⟨fun h=>absurd h (by omega),fun _=>?_⟩
  refine ⟨fun _=>?_,fun h=>absurd hk h⟩
  refine ⟨0,rfl,h0,?_⟩
  refine ⟨strG t0,g0,ldG_at rfl rfl ?_⟩
  refine ⟨by simp only[List.length_cons,List.length_nil];omega,?_⟩
  refine ⟨by simp only[List.length_append,List.length_cons,List.length_nil];omega,?_⟩
  refine callO [0,5] wstr_fn rfl rfl ⟨rfl,.inl rfl,.inl rfl,rfl⟩ (WriteString_any (L:=L) (.ptr 0 0) (.inr rfl) (s0++blS0 n) ([114,101,116,117,114,110,32]++t0++[59,10]) (by simp only[List.length_append,List.length_cons,List.length_nil];omega)) (fun d' h' hq=>?_) (fun d' h' hq=>by cases hq)
  injection hq with q1 q2;subst q1;subst q2
  exact ⟨rfl,endBu (.tuple []) _ [.old 0,.old 7] rfl rfl rfl (.inl rfl) rfl rfl (by rw[er];simp)⟩
 ·have ht0:=hts t0 (by rw[et];simp)
  have h0:0 < (((x.xs.map (exS 12)).take i).map strG).length:=by rw[e,et];simp
  have g0:(((x.xs.map (exS 12)).take i).map strG)[0]?=some (strG t0):=by rw[e,et];rfl
  have hs1:=hs0
  rw[er] at hs1
  simp only[List.length_append,List.length_cons,List.length_nil] at hs1
  refine callO [0,1] wstr_fn rfl rfl ⟨rfl,.inl rfl,.inl rfl,rfl⟩ (WriteString_any (L:=L) (.ptr 0 0) (.inr rfl) s0 (blS0 n) (by omega)) (fun d' h' hq=>?_) (fun d' h' hq=>by cases hq)
  injection hq with q1 q2;subst q1;subst q2
  refine ⟨fun h=>absurd h (by omega),fun _=>?_⟩
  refine ⟨fun h=>absurd h (by omega),fun _=>?_⟩
  refine ⟨fun h=>absurd h (by omega),fun _=>?_⟩
  refine ⟨fun _=>?_,fun h=>absurd hk h⟩
  refine ⟨0,rfl,h0,?_⟩
  refine ⟨strG t0,g0,ldG_at rfl rfl ?_⟩
  refine ⟨by simp only[List.length_cons,List.length_nil];omega,?_⟩
  refine ⟨by simp only[List.length_append,List.length_cons,List.length_nil];omega,?_⟩
  refine callO [0,5] wstr_fn rfl rfl ⟨rfl,.inl rfl,.inl rfl,rfl⟩ (WriteString_any (L:=L) (.ptr 0 0) (.inr rfl) (s0++blS0 n) ([115,97,121,32]++t0++[59,10]) (by simp only[List.length_append,List.length_cons,List.length_nil];omega)) (fun d' h' hq=>?_) (fun d' h' hq=>by cases hq)
  injection hq with q1 q2;subst q1;subst q2
  exact ⟨rfl,endBu (.tuple []) _ [.old 0,.old 7] rfl rfl rfl (.inl rfl) rfl rfl (by rw[er];simp)⟩
theorem blank_succ (n:Nat):blS0 (n+1)=blS0 n++[32]:=by
 unfold blS0
 rw[List.replicate_succ']
set_option maxRecDepth 20000 in
theorem blockText_any {L:Lv}:∀ (f n:Nat),n+f≤13→BlC L f n
 | 0,_,_=>fun l h=>by cases h
 | f+1,n,hn=>by
  intro l h hI hl96 s0 hs0
  have hB:BlC L f (n+1):=blockText_any f (n+1) (by omega)
  have hl:=firstE_all h
  have ll:(l.map Stmt.g).length=l.length:=List.length_map _
  have ln:=blS0_len n
  have e0:blS (f+1) n l=[123,10]++(l.flatMap (stS (blS f) (n+1))++(blS0 n++[125])):=rfl
  rw[e0] at hs0 ⊢
  have hs1:=hs0
  simp only[List.length_append,List.length_cons,List.length_nil] at hs1
  refine enterH [] hT hF hM Tryd.func16 rfl 26 rfl (by kernel_rfl) [] rfl [.ptr 0 0,.g (.sl 5 (l.map Stmt.g)),.g (.str (blS0 n))] rfl (BuH (.ptr 0 0) s0) [0] rfl rfl rfl 1 [] trivial _ ?_
  refine callO [0,1] wstr_fn rfl rfl ⟨rfl,.inl rfl,.inl rfl,rfl⟩ (WriteString_any (L:=L) (.ptr 0 0) (.inr rfl) s0 [123,10] (by simp only[List.length_cons,List.length_nil];omega)) (fun d' h' hq=>?_) (fun d' h' hq=>by cases hq)
  injection hq with q1 q2;subst q1;subst q2
  refine loopR (ι:=Nat) (fun i=>[(0,.ptr 0 0),(2,.g (.str (blS0 n))),(10,.g (.sl 5 (l.map Stmt.g))),(11,.g (.int ((l.map Stmt.g).length:Int))),(12,.g (.int (i:Int)))]) (fun i=>BuH (.ptr 0 0) (s0++[123,10]++(l.take i).flatMap (stS (blS f) (n+1)))) (fun i=>i≤l.length) (fun i=>l.length - i)
   ⟨0,[.old 0,.old 3],⟨rfl,.inr ⟨⟨rfl,.inl rfl⟩,⟨by simp,rfl,rfl⟩,trivial⟩,.inr ⟨lk rfl,lk rfl,lk rfl,lk rfl,lk rfl,trivial⟩,rfl⟩,Nat.zero_le _⟩ ?_
  intro Rd hRd i hi
  have hfl:((l.take i).flatMap (stS (blS f) (n+1))).length≤(l.flatMap (stS (blS f) (n+1))).length:=by
   conv=>rhs;rw[← List.take_append_drop i l,List.flatMap_append,List.length_append]
   omega
  refine ⟨fun h1=>?_,fun h1=>?_⟩
  ·have h2:i < l.length:=by omega
   have ht:l.take (i+1)=l.take i++[l[i]]:=take_one h2
   have ef:(l.take (i+1)).flatMap (stS (blS f) (n+1))=(l.take i).flatMap (stS (blS f) (n+1))++stS (blS f) (n+1) l[i]:=by rw[ht,List.flatMap_append];simp
   have hfl2:((l.take (i+1)).flatMap (stS (blS f) (n+1))).length≤(l.flatMap (stS (blS f) (n+1))).length:=by
    conv=>rhs;rw[← List.take_append_drop (i+1) l,List.flatMap_append,List.length_append]
    omega
   rw[ef,List.length_append] at hfl2
   have hS:=stmtText_any hB (hl _ (List.getElem_mem h2)) (hI _ (List.getElem_mem h2)) (s0++[123,10]++(l.take i).flatMap (stS (blS f) (n+1))) (by simp only[List.length_append,List.length_cons,List.length_nil];omega)
   rw[blank_succ] at hS
   refine ⟨i,_,rfl,stG2 h2,?_⟩
   refine ⟨by simp only[List.length_cons,List.length_nil];omega,?_⟩
   refine callO [0,1] stxt_fn rfl rfl ⟨rfl,.inl rfl,.inl rfl,rfl⟩ hS (fun d' h' hq=>?_) (fun d' h' hq=>by cases hq)
   injection hq with q1 q2;subst q1;subst q2
   refine ⟨_,I64.wrap (by unfold I64;omega),?_⟩
   exact hRd _ _ _ ⟨i+1,[.old 0,.old 3],⟨rfl,.inr ⟨⟨rfl,.inl rfl⟩,⟨by rw[ef,← List.append_assoc],rfl,rfl⟩,trivial⟩,.inr ⟨lk rfl,lk rfl,lk rfl,lk rfl,lkI (by omega),trivial⟩,rfl⟩,h2,by omega⟩
  ·have e:l.take i=l:=List.take_of_length_le (by omega)
   refine ⟨by simp only[List.length_cons,List.length_nil];omega,?_⟩
   refine callO [0,1] wstr_fn rfl rfl ⟨rfl,.inl rfl,.inl rfl,rfl⟩ (WriteString_any (L:=L) (.ptr 0 0) (.inr rfl) (s0++[123,10]++(l.take i).flatMap (stS (blS f) (n+1))) (blS0 n++[125]) (by simp only[List.length_append,List.length_cons,List.length_nil];omega)) (fun d' h' hq=>?_) (fun d' h' hq=>by cases hq)
   injection hq with q1 q2;subst q1;subst q2
   exact ⟨rfl,endBu (.tuple []) _ [.old 0,.old 3] rfl rfl rfl (.inl rfl) rfl rfl (by rw[e];simp)⟩
end Go.Proofs.YtabjelabdojpkaaDoor
namespace Go.Proofs.YtabjelabdojpkaaDoor
open Go Go.Dm Go.Eng Go.RowKit Barb
def BlR (L:Lv) (f n:Nat):Prop:=∀ l,stmtsE f l=0→l.length*96≤140737488351232→(∀ x∈l,Stmt.I x)→(blS f n l).length≤140737488355328 →
 CT Tryd.prog (gl L) 20 [.g (.sl 5 (l.map Stmt.g)),.g (.str (blS0 n))] (Is (.g (.str (blS f n l))))
set_option maxRecDepth 20000 in
theorem stmtShown_any {L:Lv} {f n:Nat} (hB:BlR L f n) {x:Barb.Stmt} (h:stmtE1 (stmtsE f) x=0) (hI:Stmt.I x) (hs0:(stS (blS f) n x).length≤140737488355328) :
  CT Tryd.prog (gl L) 38 [.agg x.d,.g (.str (blS0 n))] (Is (.g (.str (stS (blS f) n x)))):=by
 obtain ⟨⟨h2,hl,hts⟩,hc⟩:=st_facts (n:=n) h
 obtain ⟨_,_,_,hib,hie,_,hbI,heI⟩:=hI.inv
 have ln:=blS0_len n
 have hX:=fun (j:Nat) (hj:j < x.xs.length)=>exprShown_any (L:=L) 12 (Nat.le_refl _) x.xs[j] (hl _ (List.getElem_mem hj))
 generalize stS (blS f) n x=r at *
 rcases hc with ⟨hk,hs,t0,et,er⟩ | ⟨hk,hs,t0,t1,et,er⟩ | ⟨hk,hsb,hse,t0,et,er⟩ | ⟨hk,hsb,t0,et,er⟩ | ⟨hk,t0,et,er⟩ | ⟨hk,t0,et,er⟩
 ·have h1:x.xs.length=1:=by have:=congrArg List.length et;simpa using this
  have h0:0 < x.xs.length:=by omega
  have e0:exS 12 x.xs[0]=t0:=by have:=congrArg (·[0]?) et;simpa [h0] using this
  have hX0:=hX 0 h0
  rw[e0] at hX0
  have ht0:=hts t0 (by rw[et];simp)
  have hs1:=hs0
  rw[er] at hs1
  simp only[List.length_append,List.length_cons,List.length_nil] at hs1
  refine enter hT hF hM Tryd.func38 rfl 84 rfl (by kernel_rfl) [.tmp 4] rfl [.agg x.d,.g (.str (blS0 n))] rfl _ ?_
  refine ⟨0,_,rfl,exG h0,?_⟩
  refine callIs (.inl rfl) hX0 ?_
  refine ⟨fun _=>?_,fun h=>absurd hk h⟩
  refine ⟨by omega,?_⟩
  refine ⟨by simp only[List.length_append,List.length_cons,List.length_nil];omega,?_⟩
  refine ⟨by simp only[List.length_append,List.length_cons,List.length_nil];omega,?_⟩
  refine ⟨by simp only[List.length_append,List.length_cons,List.length_nil];omega,?_⟩
  exact ⟨rfl,retS (by rw[er];simp)⟩
 ·have h1:x.xs.length=2:=by have:=congrArg List.length et;simpa using this
  have h0:0 < x.xs.length:=by omega
  have e0:exS 12 x.xs[0]=t0:=by have:=congrArg (·[0]?) et;simpa [h0] using this
  have hX0:=hX 0 h0
  rw[e0] at hX0
  have ht0:=hts t0 (by rw[et];simp)
  have h01:1 < x.xs.length:=by omega
  have e1:exS 12 x.xs[1]=t1:=by have:=congrArg (·[1]?) et;simpa [h01] using this
  have hX1:=hX 1 h01
  rw[e1] at hX1
  have ht1:=hts t1 (by rw[et];simp)
  have hs1:=hs0
  rw[er] at hs1
  simp only[List.length_append,List.length_cons,List.length_nil] at hs1
  refine enter hT hF hM Tryd.func38 rfl 84 rfl (by kernel_rfl) [.tmp 4] rfl [.agg x.d,.g (.str (blS0 n))] rfl _ ?_
  refine ⟨0,_,rfl,exG h0,?_⟩
  refine callIs (.inl rfl) hX0 ?_
  refine ⟨fun h=>absurd h (by omega),fun _=>?_⟩
  refine ⟨fun _=>?_,fun h=>absurd hk h⟩
  refine ⟨none,rfl,?_⟩
  refine ⟨by omega,?_⟩
  refine ⟨by simp only[List.length_append,List.length_cons,List.length_nil];omega,?_⟩
  refine ⟨by simp only[List.length_append,List.length_cons,List.length_nil];omega,?_⟩
  refine ⟨by simp only[List.length_append,List.length_cons,List.length_nil];omega,?_⟩
  refine ⟨1,_,rfl,exG h01,?_⟩
  refine ⟨_,_,.inl rfl,hX1,rfl,?_⟩
  refine ⟨by simp only[List.length_append,List.length_cons,List.length_nil];omega,?_⟩
  refine ⟨by simp only[List.length_append,List.length_cons,List.length_nil];omega,?_⟩
  exact ⟨rfl,retS (by rw[er];simp)⟩
 ·have h1:x.xs.length=1:=by have:=congrArg List.length et;simpa using this
  have h0:0 < x.xs.length:=by omega
  have e0:exS 12 x.xs[0]=t0:=by have:=congrArg (·[0]?) et;simpa [h0] using this
  have hX0:=hX 0 h0
  rw[e0] at hX0
  have ht0:=hts t0 (by rw[et];simp)
  have hs1:=hs0
  rw[er] at hs1
  simp only[List.length_append,List.length_cons,List.length_nil] at hs1
  have hb1:=hB x.b hsb hib hbI (by omega)
  have hb2:=hB x.e hse hie heI (by omega)
  refine enter hT hF hM Tryd.func38 rfl 84 rfl (by kernel_rfl) [.tmp 4] rfl [.agg x.d,.g (.str (blS0 n))] rfl _ ?_
  refine ⟨0,_,rfl,exG h0,?_⟩
  refine callIs (.inl rfl) hX0 ?_
  refine ⟨fun h=>absurd h (by omega),fun _=>?_⟩
  refine ⟨fun h=>absurd h (by omega),fun _=>?_⟩
  refine ⟨fun h=>absurd h (by omega),fun _=>?_⟩
  refine ⟨fun h=>absurd h (by omega),fun _=>?_⟩
  refine ⟨fun h=>absurd h (by omega),fun _=>?_⟩
  refine ⟨none,rfl,?_⟩
  refine ⟨by simp only[List.length_cons,List.length_nil];omega,?_⟩
  refine ⟨by simp only[List.length_append,List.length_cons,List.length_nil];omega,?_⟩
  refine ⟨by simp only[List.length_append,List.length_cons,List.length_nil];omega,?_⟩
  refine ⟨_,_,.inl rfl,hb1,rfl,?_⟩
  refine ⟨by simp only[List.length_append,List.length_cons,List.length_nil];omega,?_⟩
  refine ⟨by simp only[List.length_append,List.length_cons,List.length_nil];omega,?_⟩
  refine ⟨_,_,.inl rfl,hb2,rfl,?_⟩
  refine ⟨by simp only[List.length_append,List.length_cons,List.length_nil];omega,?_⟩
  refine ⟨by simp only[List.length_append,List.length_cons,List.length_nil];omega,?_⟩
  exact ⟨rfl,retS (by rw[er];simp)⟩
 ·have h1:x.xs.length=1:=by have:=congrArg List.length et;simpa using this
  have h0:0 < x.xs.length:=by omega
  have e0:exS 12 x.xs[0]=t0:=by have:=congrArg (·[0]?) et;simpa [h0] using this
  have hX0:=hX 0 h0
  rw[e0] at hX0
  have ht0:=hts t0 (by rw[et];simp)
  have hs1:=hs0
  rw[er] at hs1
  simp only[List.length_append,List.length_cons,List.length_nil] at hs1
  have hb1:=hB x.b hsb hib hbI (by omega)
  refine enter hT hF hM Tryd.func38 rfl 84 rfl (by kernel_rfl) [.tmp 4] rfl [.agg x.d,.g (.str (blS0 n))] rfl _ ?_
  refine ⟨0,_,rfl,exG h0,?_⟩
  refine callIs (.inl rfl) hX0 ?_
  refine ⟨fun h=>absurd h (by omega),fun _=>?_⟩
  refine ⟨fun h=>absurd h (by omega),fun _=>?_⟩
  refine ⟨fun h=>absurd h (by omega),fun _=>?_⟩
  refine ⟨fun h=>absurd h (by omega),fun _=>?_⟩
  refine ⟨fun _=>?_,fun h=>absurd hk h⟩
  refine ⟨by simp only[List.length_cons,List.length_nil];omega,?_⟩
  refine ⟨by simp only[List.length_append,List.length_cons,List.length_nil];omega,?_⟩
  refine ⟨by simp only[List.length_append,List.length_cons,List.length_nil];omega,?_⟩
  refine callIs (.inl rfl) hb1 ?_
  refine ⟨by simp only[List.length_append,List.length_cons,List.length_nil];omega,?_⟩
  refine ⟨by simp only[List.length_append,List.length_cons,List.length_nil];omega,?_⟩
  exact ⟨rfl,retS (by rw[er];simp)⟩
 ·have h1:x.xs.length=1:=by have:=congrArg List.length et;simpa using this
  have h0:0 < x.xs.length:=by omega
  have e0:exS 12 x.xs[0]=t0:=by have:=congrArg (·[0]?) et;simpa [h0] using this
  have hX0:=hX 0 h0
  rw[e0] at hX0
  have ht0:=hts t0 (by rw[et];simp)
  have hs1:=hs0
  rw[er] at hs1
  simp only[List.length_append,List.length_cons,List.length_nil] at hs1
  refine enter hT hF hM Tryd.func38 rfl 84 rfl (by kernel_rfl) [.tmp 4] rfl [.agg x.d,.g (.str (blS0 n))] rfl _ ?_
  refine ⟨0,_,rfl,exG h0,?_⟩
  refine callIs (.inl rfl) hX0 ?_
  refine ⟨fun h=>absurd h (by omega),fun _=>?_⟩
  refine ⟨fun h=>absurd h (by omega),fun _=>?_⟩
  refine ⟨fun _=>?_,fun h=>absurd hk h⟩
  refine ⟨by simp only[List.length_cons,List.length_nil];omega,?_⟩
  refine ⟨by simp only[List.length_append,List.length_cons,List.length_nil];omega,?_⟩
  refine ⟨by simp only[List.length_append,List.length_cons,List.length_nil];omega,?_⟩
  exact ⟨rfl,retS (by rw[er];simp)⟩
 ·have h1:x.xs.length=1:=by have:=congrArg List.length et;simpa using this
  have h0:0 < x.xs.length:=by omega
  have e0:exS 12 x.xs[0]=t0:=by have:=congrArg (·[0]?) et;simpa [h0] using this
  have hX0:=hX 0 h0
  rw[e0] at hX0
  have ht0:=hts t0 (by rw[et];simp)
  have hs1:=hs0
  rw[er] at hs1
  simp only[List.length_append,List.length_cons,List.length_nil] at hs1
  refine enter hT hF hM Tryd.func38 rfl 84 rfl (by kernel_rfl) [.tmp 4] rfl [.agg x.d,.g (.str (blS0 n))] rfl _ ?_
  refine ⟨0,_,rfl,exG h0,?_⟩
  refine callIs (.inl rfl) hX0 ?_
  refine ⟨fun h=>absurd h (by omega),fun _=>?_⟩
  refine ⟨fun h=>absurd h (by omega),fun _=>?_⟩
  refine ⟨fun h=>absurd h (by omega),fun _=>?_⟩
  refine ⟨fun _=>?_,fun h=>absurd hk h⟩
  refine ⟨by simp only[List.length_cons,List.length_nil];omega,?_⟩
  refine ⟨by simp only[List.length_append,List.length_cons,List.length_nil];omega,?_⟩
  refine ⟨by simp only[List.length_append,List.length_cons,List.length_nil];omega,?_⟩
  exact ⟨rfl,retS (by rw[er];simp)⟩
set_option maxRecDepth 20000 in
theorem blockShown_any {L:Lv}:∀ (f n:Nat),n+f≤13→BlR L f n
 | 0,_,_=>fun l h=>by cases h
 | f+1,n,hn=>by
  intro l h hl96 hI hs0
  have hB:BlR L f (n+1):=blockShown_any f (n+1) (by omega)
  have hl:=firstE_all h
  have ll:(l.map Stmt.g).length=l.length:=List.length_map _
  have ln:=blS0_len n
  have e0:blS (f+1) n l=[123,10]++(l.flatMap (stS (blS f) (n+1))++(blS0 n++[125])):=rfl
  rw[e0] at hs0 ⊢
  have hs1:=hs0
  simp only[List.length_append,List.length_cons,List.length_nil] at hs1
  refine enter hT hF hM Tryd.func20 rfl 26 rfl (by kernel_rfl) [.tmp 4] rfl [.g (.sl 5 (l.map Stmt.g)),.g (.str (blS0 n))] rfl _ ?_
  refine loopR (ι:=Nat) (fun i=>[(5,.g (.str ([123,10]++(l.take i).flatMap (stS (blS f) (n+1))))),(6,.g (.int (i:Int)))]) (fun _=>[]) (fun i=>i≤l.length) (fun i=>l.length - i)
   ⟨0,[],⟨rfl,.inl rfl,.inr ⟨lkS (by simp),lk rfl,trivial⟩,rfl⟩,Nat.zero_le _⟩ ?_
  intro Rd hRd i hi
  have hfl:((l.take i).flatMap (stS (blS f) (n+1))).length≤(l.flatMap (stS (blS f) (n+1))).length:=by
   conv=>rhs;rw[← List.take_append_drop i l,List.flatMap_append,List.length_append]
   omega
  refine ⟨fun h1=>?_,fun h1=>?_⟩
  ·have h2:i < l.length:=by omega
   have ht:l.take (i+1)=l.take i++[l[i]]:=take_one h2
   have ef:(l.take (i+1)).flatMap (stS (blS f) (n+1))=(l.take i).flatMap (stS (blS f) (n+1))++stS (blS f) (n+1) l[i]:=by rw[ht,List.flatMap_append];simp
   have hfl2:((l.take (i+1)).flatMap (stS (blS f) (n+1))).length≤(l.flatMap (stS (blS f) (n+1))).length:=by
    conv=>rhs;rw[← List.take_append_drop (i+1) l,List.flatMap_append,List.length_append]
    omega
   rw[ef,List.length_append] at hfl2
   have hS:=stmtShown_any hB (hl _ (List.getElem_mem h2)) (hI _ (List.getElem_mem h2)) (by omega)
   rw[blank_succ] at hS
   refine ⟨i,_,rfl,stG2 h2,?_⟩
   refine ⟨by simp only[List.length_cons,List.length_nil];omega,?_⟩
   refine callIs (.inl rfl) hS ?_
   refine ⟨by simp only[List.length_append,List.length_cons,List.length_nil];omega,?_⟩
   refine ⟨_,I64.wrap (by unfold I64;omega),?_⟩
   exact hRd _ _ _ ⟨i+1,[],⟨rfl,.inl rfl,.inr ⟨lkS (by rw[ef,← List.append_assoc]),lkI (by omega),trivial⟩,rfl⟩,h2,by omega⟩
  ·have e:l.take i=l:=List.take_of_length_le (by omega)
   refine ⟨by simp only[List.length_append,List.length_cons,List.length_nil];omega,?_⟩
   refine ⟨by simp only[List.length_append,List.length_cons,List.length_nil];omega,?_⟩
   exact ⟨rfl,retS (by rw[e];simp)⟩
theorem fu_len {f:Fun} (h:funE f=0) (hp:f.params.length≤4):((fuS f).length:Int)≤200+stmtsN 12 f.body*500000000:=by
 obtain ⟨h1,h2,h3⟩:=funE_inv h
 have a1:=id_len h1
 have a2:=join_len (b:=8) f.params (fun s hs=>id_len (h2 s hs))
 have a3:f.params.length*(8+2)≤4*(8+2):=Nat.mul_le_mul_right _ hp
 have a4:=bl_len 12 0 f.body (by omega) h3
 unfold fuS
 have a5:(if f.isOpen=true then [111,112,101,110,32] else [102,117,110,99,32]:Str).length=5:=by split<;>rfl
 simp only[List.length_append,List.length_cons,List.length_nil,a5]
 omega
theorem funE_pars {f:Fun} (h:funE f=0):f.params.length≤4:=by
 unfold funE at h
 split at h
 ·cases h
 split at h
 ·cases h
 ·omega
theorem fus_len:∀ l:List Fun,(∀ f∈l,funE f=0)→((l.flatMap fuS).length:Int)≤l.length*200+manyN l*500000000
 | [],_=>by simp[manyN]
 | f :: l,h=>by
  have h1:=fus_len l (fun g hg=>h g (List.mem_cons_of_mem _ hg))
  have h2:=h f List.mem_cons_self
  have h3:=fu_len h2 (funE_pars h2)
  have e:manyN (f :: l)=stmtsN 12 f.body+manyN l:=by simp[manyN]
  rw[List.flatMap_cons,List.length_append,List.length_cons,e]
  omega
theorem vas_len:∀ l:List Str,(∀ s∈l,identP s)→(l.flatMap vaS).length≤l.length*13
 | [],_=>by simp
 | s :: l,h=>by
  have h1:=vas_len l (fun g hg=>h g (List.mem_cons_of_mem _ hg))
  have h2:=id_len (h s List.mem_cons_self)
  rw[List.flatMap_cons,List.length_append,List.length_cons]
  simp only[vaS,List.length_append,List.length_cons,List.length_nil]
  omega
theorem ars_len:∀ l:List Arr,(∀ a∈l,arrE a=0)→(l.flatMap arS).length≤l.length*22
 | [],_=>by simp
 | a :: l,h=>by
  have h1:=ars_len l (fun g hg=>h g (List.mem_cons_of_mem _ hg))
  obtain ⟨i1,i2,i3⟩:=arrE_inv (h a List.mem_cons_self)
  have h2:=id_len i1
  have h3:=dec_len (n:=a.size.toNat) (by omega)
  rw[List.flatMap_cons,List.length_append,List.length_cons]
  simp only[arS,List.length_append,List.length_cons,List.length_nil]
  omega
theorem un_len {u:Barb.Unit} (h:unitE u=0) (hN:manyN u.funcs≤300):(unS u).length≤200000000000:=by
 obtain ⟨h1,h2,h3,h4⟩:=unitE_inv h
 obtain ⟨k1,k2,k3,_⟩:=unitE_ok h
 have a1:=id_len h1
 have a2:=vas_len u.vars h2
 have a3:=ars_len u.arrays h3
 have a4:=fus_len u.funcs h4
 unfold unS
 simp only[List.length_append,List.length_cons,List.length_nil]
 omega
end Go.Proofs.YtabjelabdojpkaaDoor
