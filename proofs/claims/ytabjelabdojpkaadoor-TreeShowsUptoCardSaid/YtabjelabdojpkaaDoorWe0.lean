/-
  tree.Show and the reference's text: statements and blocks: the contracts.
-/
import Derived.Test.YtabjelabdojpkaaDoorWc0
import Derived.Test.YtabjelabdojpkaaDoorGh
namespace Go.Proofs.YtabjelabdojpkaaDoor
open Go Go.Dm Go.Eng Go.RowKit Barb
theorem stG2 {l:List Barb.Stmt} {i:Nat} (h:i < l.length):(l.map Stmt.g)[i]?=some [.int l[i].k,.str l[i].s,.sl 5 (l[i].xs.map Expr.g),.sl 5 (l[i].b.map Stmt.g),.sl 5 (l[i].e.map Stmt.g)]:=(gm h).trans (congrArg some (Stmt.g_eq _))
theorem wstr_fn:fnOk Tryd.prog 13=true:=by kernel_rfl
theorem stxt_fn:fnOk Tryd.prog 34=true:=by kernel_rfl
theorem btxt_fn:fnOk Tryd.prog 16=true:=by kernel_rfl
theorem endBu {R:D→Heap→Prop} {env:Dm.Env} {h hin:Heap} {rows:List (List GV)} {d0:D} (d:D) (s:Str) (src:List Src) (hok:srcOk src=true) (hlen:nrOk src (BuH (.ptr 0 0) s)=true)
  (h0:conv h src 4 (env 0)=.ptr 0 0) (hd:conv h src 4 d0=d∨Like (newN src) 4 (conv h src 4 d0) d) (hTn:turnH h src=[.blk [.ptr 0 0,.row 1] 44,.row rows 5 1]) (e1:rows=s.map byG) (q:R d (BuH (.ptr 0 0) s)):ToH [0] hin 1 [] R h env d0:=by
 subst e1
 refine ⟨src,d,BuH (.ptr 0 0) s,⟨hok,.inr ?_,.inr ?_,hlen⟩,rfl,trivial,q⟩
 ·rw[hTn]
  exact ⟨⟨rfl,.inl rfl⟩,⟨rfl,rfl,rfl⟩,trivial⟩
 ·rw[List.map_cons,List.map_cons,List.map_cons,h0]
  exact ⟨by rcases hd with hd | hd;exact lk hd;exact hd,lk rfl,trivial⟩
theorem st_facts {f n:Nat} {x:Barb.Stmt} (h:stmtE1 (stmtsE f) x=0) :
  (x.xs.length≤2∧(∀ y∈x.xs,exprE 12 y=0)∧∀ t∈x.xs.map (exS 12),t.length≤223696200) ∧
  ((x.k=1∧x.s.length≤8∧∃ t0,x.xs.map (exS 12)=[t0]∧stS (blS f) n x=blS0 n++(x.s++[32,61,32]++t0++[59,10])) ∨
  (x.k=2∧x.s.length≤8∧∃ t0 t1,x.xs.map (exS 12)=[t0,t1]∧stS (blS f) n x=blS0 n++(x.s++[91]++t0++[93,32,61,32]++t1++[59,10])) ∨
  (x.k=3∧stmtsE f x.b=0∧stmtsE f x.e=0∧∃ t0,x.xs.map (exS 12)=[t0]∧stS (blS f) n x=blS0 n++([105,102,32]++t0++[32])++blS f n x.b++[32,101,108,115,101,32]++blS f n x.e++[10]) ∨
  (x.k=4∧stmtsE f x.b=0∧∃ t0,x.xs.map (exS 12)=[t0]∧stS (blS f) n x=blS0 n++([119,104,105,108,101,32]++t0++[32])++blS f n x.b++[10]) ∨
  (x.k=5∧∃ t0,x.xs.map (exS 12)=[t0]∧stS (blS f) n x=blS0 n++([114,101,116,117,114,110,32]++t0++[59,10])) ∨
  (x.k=6∧∃ t0,x.xs.map (exS 12)=[t0]∧stS (blS f) n x=blS0 n++([115,97,121,32]++t0++[59,10]))):=by
 have hb:∀ y,exprE 12 y=0→(exS 12 y).length≤223696200:=fun y hy=>Nat.le_trans (ex_len 12 y hy) (bE_le 12 (Nat.le_refl _))
 have one:∀ a:Barb.Expr,exprE 12 a=0→([a].length≤2∧(∀ y∈[a],exprE 12 y=0)∧∀ t∈[a].map (exS 12),t.length≤223696200):=fun a ha =>
  ⟨by simp,fun y hy=>by rw[List.mem_singleton.1 hy];exact ha,fun t ht=>by rw[List.map_cons,List.map_nil,List.mem_singleton] at ht;rw[ht];exact hb a ha⟩
 rcases st_cases h with ⟨s,a,hs,ha,_,rfl⟩ | ⟨s,a,b,hs,ha,hb',_,rfl⟩ | ⟨a,b,e,ha,hb',he,rfl⟩ | ⟨a,b,ha,hb',_,rfl⟩ | ⟨a,ha,_,rfl⟩ | ⟨a,ha,_,rfl⟩
 ·exact ⟨one a ha,.inl ⟨rfl,id_len hs,exS 12 a,rfl,by show blS0 n++(s++([32,61,32]++(exS 12 a++[59,10])))=_;simp[Stmt.s]⟩⟩
 ·refine ⟨⟨by simp[Stmt.xs],fun y hy=>?_,fun t ht=>?_⟩,.inr (.inl ⟨rfl,id_len hs,exS 12 a,exS 12 b,rfl,by show blS0 n++(s++([91]++(exS 12 a++([93,32,61,32]++(exS 12 b++[59,10])))))=_;simp[Stmt.s]⟩)⟩
  ·have hy:y∈[a,b]:=hy
   simp only[List.mem_cons,List.not_mem_nil,or_false] at hy
   rcases hy with rfl | rfl
   ·exact ha
   ·exact hb'
  ·have ht:t∈[exS 12 a,exS 12 b]:=ht
   simp only[List.mem_cons,List.not_mem_nil,or_false] at ht
   rcases ht with rfl | rfl
   ·exact hb a ha
   ·exact hb b hb'
 ·exact ⟨one a ha,.inr (.inr (.inl ⟨rfl,hb',he,exS 12 a,rfl,by show blS0 n++([105,102,32]++(exS 12 a++([32]++(blS f n b++([32,101,108,115,101,32]++(blS f n e++[10]))))))=_;simp[Stmt.b,Stmt.e]⟩))⟩
 ·exact ⟨one a ha,.inr (.inr (.inr (.inl ⟨rfl,hb',exS 12 a,rfl,by show blS0 n++([119,104,105,108,101,32]++(exS 12 a++([32]++(blS f n b++[10]))))=_;simp[Stmt.b]⟩)))⟩
 ·exact ⟨one a ha,.inr (.inr (.inr (.inr (.inl ⟨rfl,exS 12 a,rfl,by show blS0 n++([114,101,116,117,114,110,32]++(exS 12 a++[59,10]))=_;simp⟩))))⟩
 ·exact ⟨one a ha,.inr (.inr (.inr (.inr (.inr ⟨rfl,exS 12 a,rfl,by show blS0 n++([115,97,121,32]++(exS 12 a++[59,10]))=_;simp⟩))))⟩
def BlC (f n:Nat):Prop:=∀ l,stmtsE f l=0→(∀ x∈l,Stmt.I x)→l.length*96≤140737488351232→∀ s0:Str,s0.length+(blS f n l).length≤140737488355328 →
 CTH Tryd.prog g0 16 1 (BuH (.ptr 0 0) s0) [.ptr 0 0,.g (.sl 5 (l.map Stmt.g)),.g (.str (blS0 n))] (fun out=>out=.ret (.tuple []) (BuH (.ptr 0 0) (s0++blS f n l)))
set_option maxRecDepth 20000 in
set_option maxHeartbeats 4000000 in
theorem stmtText_any {f n:Nat} (hB:BlC f n) {x:Barb.Stmt} (h:stmtE1 (stmtsE f) x=0) (hI:Stmt.I x) (s0:Str) (hs0:s0.length+(stS (blS f) n x).length≤140737488355328) :
  CTH Tryd.prog g0 34 1 (BuH (.ptr 0 0) s0) [.ptr 0 0,.agg x.d,.g (.str (blS0 n))] (fun out=>out=.ret (.tuple []) (BuH (.ptr 0 0) (s0++stS (blS f) n x))):=by
 obtain ⟨⟨h2,hl,hts⟩,hc⟩:=st_facts (n:=n) h
 obtain ⟨_,_,_,hib,hie,_,hbI,heI⟩:=hI.inv
 have la:(x.xs.map Expr.g).length=x.xs.length:=List.length_map _
 generalize stS (blS f) n x=r at *
 refine enterH [] hT hF hM Tryd.func34 rfl 103 rfl (by kernel_rfl) [] rfl [.ptr 0 0,.agg x.d,.g (.str (blS0 n))] rfl (BuH (.ptr 0 0) s0) [0] rfl rfl rfl 1 [] trivial _ ?_
 refine loopR (ι:=Nat) (fun i=>[(0,.ptr 0 0),(2,.g (.str (blS0 n))),(4,.ptr 2 0),(6,.row 3),(10,.g (.sl 5 (x.xs.map Expr.g))),(11,.g (.int ((x.xs.map Expr.g).length:Int))),(12,.g (.int (i:Int)))]) (fun i=>[.blk [.ptr 0 0,.row 1] 44,.row (s0.map byG) 5 1,.blk x.d 78,.row (((x.xs.map (exS 12)).take i).map strG) 9 1]) (fun i=>i≤x.xs.length) (fun i=>x.xs.length - i)
  ⟨0,[.old 0,.old 1,.old 2,.nil 9 1],⟨rfl,.inl rfl,.inr ⟨lk rfl,lk rfl,lk rfl,.inr rfl,lk rfl,lk rfl,lk rfl,trivial⟩,rfl⟩,Nat.zero_le _⟩ ?_
 intro Rd hRd i hi
 refine ⟨fun h1=>?_,fun h1=>?_⟩
 ·have h2:i < x.xs.length:=by omega
  have h3:i < (x.xs.map (exS 12)).length:=by rw[List.length_map];exact h2
  refine ⟨i,_,rfl,exG h2,?_⟩
  refine callIs (.inl rfl) (exprText_any 12 (Nat.le_refl _) x.xs[i] (hl _ (List.getElem_mem h2))) ?_
  refine ⟨[[.str (exS 12 x.xs[i])]],rfl,rfl,⟨rfl,trivial⟩,?_⟩
  refine ⟨⟨by simp only[maxLen,List.length_cons,List.length_nil,List.length_map,List.length_take];omega,by simp only[List.length_cons,List.length_nil,List.length_map,List.length_take];omega⟩,?_⟩
  refine ⟨_,I64.wrap (by unfold I64;omega),?_⟩
  exact hRd _ _ _ ⟨i+1,[.old 0,.old 1,.old 2,.old 6],⟨rfl,.inr ⟨⟨rfl,.inl rfl⟩,⟨rfl,rfl,rfl⟩,⟨rfl,.inl rfl⟩,⟨by rw[take_one h3,List.map_append,List.getElem_map];rfl,rfl,rfl⟩,trivial⟩,.inr ⟨lk rfl,lk rfl,lk rfl,lk rfl,lk rfl,lk rfl,lkI (by omega),trivial⟩,rfl⟩,h2,by omega⟩
 have e:(x.xs.map (exS 12)).take i=x.xs.map (exS 12):=List.take_of_length_le (by rw[List.length_map];omega)
 have ln:=blS0_len n
 rcases hc with ⟨hk,hs,t0,et,er⟩ | ⟨hk,hs,t0,t1,et,er⟩ | ⟨hk,hsb,hse,t0,et,er⟩ | ⟨hk,hsb,t0,et,er⟩ | ⟨hk,t0,et,er⟩ | ⟨hk,t0,et,er⟩
 ·have ht0:=hts t0 (by rw[et];simp)
  have h0:0 < (((x.xs.map (exS 12)).take i).map strG).length:=by rw[e,et];simp
  have g0:(((x.xs.map (exS 12)).take i).map strG)[0]?=some (strG t0):=by rw[e,et];rfl
  have hs1:=hs0
  rw[er] at hs1
  simp only[List.length_append,List.length_cons,List.length_nil] at hs1
  refine callO [0,1] wstr_fn rfl rfl ⟨rfl,.inl rfl,.inl rfl,rfl⟩ (WriteString_any (.ptr 0 0) (.inr rfl) s0 (blS0 n) (by omega)) (fun d' h' hq=>?_) (fun d' h' hq=>by cases hq)
  injection hq with q1 q2;subst q1;subst q2
  refine ⟨fun _=>?_,fun h=>absurd hk h⟩
  refine ⟨some 9999,[9],rfl,?_⟩
  refine ⟨by simp only[List.length_cons,List.length_nil];omega,?_⟩
  refine ⟨0,rfl,h0,?_⟩
  refine ⟨strG t0,g0,ldG_at rfl rfl ?_⟩
  refine ⟨by simp only[List.length_append,List.length_cons,List.length_nil];omega,?_⟩
  refine ⟨by simp only[List.length_append,List.length_cons,List.length_nil];omega,?_⟩
  refine callO [0,5] wstr_fn rfl rfl ⟨rfl,.inl rfl,.inl rfl,rfl⟩ (WriteString_any (.ptr 0 0) (.inr rfl) (s0++blS0 n) (x.s++[32,61,32]++t0++[59,10]) (by simp only[List.length_append,List.length_cons,List.length_nil];omega)) (fun d' h' hq=>?_) (fun d' h' hq=>by cases hq)
  injection hq with q1 q2;subst q1;subst q2
  exact ⟨rfl,endBu (.tuple []) _ [.old 0,.old 7] rfl rfl rfl (.inl rfl) rfl rfl (by rw[er];simp)⟩
 ·have ht0:=hts t0 (by rw[et];simp)
  have h0:0 < (((x.xs.map (exS 12)).take i).map strG).length:=by rw[e,et];simp
  have g0:(((x.xs.map (exS 12)).take i).map strG)[0]?=some (strG t0):=by rw[e,et];rfl
  have ht1:=hts t1 (by rw[et];simp)
  have h01:1 < (((x.xs.map (exS 12)).take i).map strG).length:=by rw[e,et];simp
  have g1:(((x.xs.map (exS 12)).take i).map strG)[1]?=some (strG t1):=by rw[e,et];rfl
  have hs1:=hs0
  rw[er] at hs1
  simp only[List.length_append,List.length_cons,List.length_nil] at hs1
  refine callO [0,1] wstr_fn rfl rfl ⟨rfl,.inl rfl,.inl rfl,rfl⟩ (WriteString_any (.ptr 0 0) (.inr rfl) s0 (blS0 n) (by omega)) (fun d' h' hq=>?_) (fun d' h' hq=>by cases hq)
  injection hq with q1 q2;subst q1;subst q2
  refine ⟨fun h=>absurd h (by omega),fun _=>?_⟩
  refine ⟨fun _=>?_,fun h=>absurd hk h⟩
  refine ⟨some 9999,[14],rfl,?_⟩
  refine ⟨by simp only[List.length_cons,List.length_nil];omega,?_⟩
  refine ⟨0,rfl,h0,?_⟩
  refine ⟨strG t0,g0,ldG_at rfl rfl ?_⟩
  refine ⟨by simp only[List.length_append,List.length_cons,List.length_nil];omega,?_⟩
  refine ⟨by simp only[List.length_append,List.length_cons,List.length_nil];omega,?_⟩
  refine ⟨1,rfl,h01,?_⟩
  refine ⟨strG t1,g1,ldG_at rfl rfl ?_⟩
  refine ⟨by simp only[List.length_append,List.length_cons,List.length_nil];omega,?_⟩
  refine ⟨by simp only[List.length_append,List.length_cons,List.length_nil];omega,?_⟩
  refine callO [0,5] wstr_fn rfl rfl ⟨rfl,.inl rfl,.inl rfl,rfl⟩ (WriteString_any (.ptr 0 0) (.inr rfl) (s0++blS0 n) (x.s++[91]++t0++[93,32,61,32]++t1++[59,10]) (by simp only[List.length_append,List.length_cons,List.length_nil];omega)) (fun d' h' hq=>?_) (fun d' h' hq=>by cases hq)
  injection hq with q1 q2;subst q1;subst q2
  exact ⟨rfl,endBu (.tuple []) _ [.old 0,.old 7] rfl rfl rfl (.inl rfl) rfl rfl (by rw[er];simp)⟩
 ·have ht0:=hts t0 (by rw[et];simp)
  have h0:0 < (((x.xs.map (exS 12)).take i).map strG).length:=by rw[e,et];simp
  have g0:(((x.xs.map (exS 12)).take i).map strG)[0]?=some (strG t0):=by rw[e,et];rfl
  have hs1:=hs0
  rw[er] at hs1
  simp only[List.length_append,List.length_cons,List.length_nil] at hs1
  refine callO [0,1] wstr_fn rfl rfl ⟨rfl,.inl rfl,.inl rfl,rfl⟩ (WriteString_any (.ptr 0 0) (.inr rfl) s0 (blS0 n) (by omega)) (fun d' h' hq=>?_) (fun d' h' hq=>by cases hq)
  injection hq with q1 q2;subst q1;subst q2
  refine ⟨fun h=>absurd h (by omega),fun _=>?_⟩
  refine ⟨fun h=>absurd h (by omega),fun _=>?_⟩
  refine ⟨fun h=>absurd h (by omega),fun _=>?_⟩
  refine ⟨fun h=>absurd h (by omega),fun _=>?_⟩
  refine ⟨some 9998,[11],rfl,?_⟩
  refine ⟨([[],[],[],[105,102,32],[119,104,105,108,101,32]]:List Str).map strG,rfl,rfl,⟨rfl,rfl,rfl,rfl,rfl,trivial⟩,?_⟩
  refine ⟨⟨_,rfl⟩,?_⟩
  refine ⟨3,(show D.g (GV.int x.k)=D.g (GV.int ((3:Nat):Int)) from by rw[hk];rfl),by decide,?_⟩
  refine ⟨strG [105,102,32],rfl,ldG_at rfl rfl ?_⟩
  refine ⟨0,rfl,h0,?_⟩
  refine ⟨strG t0,g0,ldG_at rfl rfl ?_⟩
  refine ⟨by simp only[List.length_cons,List.length_nil];omega,?_⟩
  refine ⟨by simp only[List.length_append,List.length_cons,List.length_nil];omega,?_⟩
  refine callO [0,5] wstr_fn rfl rfl ⟨rfl,.inl rfl,.inl rfl,rfl⟩ (WriteString_any (.ptr 0 0) (.inr rfl) (s0++blS0 n) ([105,102,32]++t0++[32]) (by simp only[List.length_append,List.length_cons,List.length_nil];omega)) (fun d' h' hq=>?_) (fun d' h' hq=>by cases hq)
  injection hq with q1 q2;subst q1;subst q2
  have hb1:=hB x.b hsb hbI hib (s0++blS0 n++([105,102,32]++t0++[32])) (by simp only[List.length_append,List.length_cons,List.length_nil];omega)
  refine callO [0,8] btxt_fn rfl rfl ⟨rfl,.inl rfl,.inl rfl,rfl⟩ hb1 (fun d' h' hq=>?_) (fun d' h' hq=>by cases hq)
  injection hq with q1 q2;subst q1;subst q2
  refine ⟨fun _=>?_,fun h=>absurd hk h⟩
  refine callO [0,9] wstr_fn rfl rfl ⟨rfl,.inl rfl,.inl rfl,rfl⟩ (WriteString_any (.ptr 0 0) (.inr rfl) ((s0++blS0 n++([105,102,32]++t0++[32]))++blS f n x.b) [32,101,108,115,101,32] (by simp only[List.length_append,List.length_cons,List.length_nil];omega)) (fun d' h' hq=>?_) (fun d' h' hq=>by cases hq)
  injection hq with q1 q2;subst q1;subst q2
  have hb2:=hB x.e hse heI hie (((s0++blS0 n++([105,102,32]++t0++[32]))++blS f n x.b)++[32,101,108,115,101,32]) (by simp only[List.length_append,List.length_cons,List.length_nil];omega)
  refine callO [0,11] btxt_fn rfl rfl ⟨rfl,.inl rfl,.inl rfl,rfl⟩ hb2 (fun d' h' hq=>?_) (fun d' h' hq=>by cases hq)
  injection hq with q1 q2;subst q1;subst q2
  refine callO [0,12] wstr_fn rfl rfl ⟨rfl,.inl rfl,.inl rfl,rfl⟩ (WriteString_any (.ptr 0 0) (.inr rfl) ((((s0++blS0 n++([105,102,32]++t0++[32]))++blS f n x.b)++[32,101,108,115,101,32])++blS f n x.e) [10] (by simp only[List.length_append,List.length_cons,List.length_nil];omega)) (fun d' h' hq=>?_) (fun d' h' hq=>by cases hq)
  injection hq with q1 q2;subst q1;subst q2
  exact ⟨rfl,endBu (.tuple []) _ [.old 0,.old 14] rfl rfl rfl (.inl rfl) rfl rfl (by rw[er];simp)⟩
 ·have ht0:=hts t0 (by rw[et];simp)
  have h0:0 < (((x.xs.map (exS 12)).take i).map strG).length:=by rw[e,et];simp
  have g0:(((x.xs.map (exS 12)).take i).map strG)[0]?=some (strG t0):=by rw[e,et];rfl
  have hs1:=hs0
  rw[er] at hs1
  simp only[List.length_append,List.length_cons,List.length_nil] at hs1
  refine callO [0,1] wstr_fn rfl rfl ⟨rfl,.inl rfl,.inl rfl,rfl⟩ (WriteString_any (.ptr 0 0) (.inr rfl) s0 (blS0 n) (by omega)) (fun d' h' hq=>?_) (fun d' h' hq=>by cases hq)
  injection hq with q1 q2;subst q1;subst q2
  refine ⟨fun h=>absurd h (by omega),fun _=>?_⟩
  refine ⟨fun h=>absurd h (by omega),fun _=>?_⟩
  refine ⟨fun h=>absurd h (by omega),fun _=>?_⟩
  refine ⟨fun h=>absurd h (by omega),fun _=>?_⟩
  refine ⟨some 9998,[11],rfl,?_⟩
  refine ⟨([[],[],[],[105,102,32],[119,104,105,108,101,32]]:List Str).map strG,rfl,rfl,⟨rfl,rfl,rfl,rfl,rfl,trivial⟩,?_⟩
  refine ⟨⟨_,rfl⟩,?_⟩
  refine ⟨4,(show D.g (GV.int x.k)=D.g (GV.int ((4:Nat):Int)) from by rw[hk];rfl),by decide,?_⟩
  refine ⟨strG [119,104,105,108,101,32],rfl,ldG_at rfl rfl ?_⟩
  refine ⟨0,rfl,h0,?_⟩
  refine ⟨strG t0,g0,ldG_at rfl rfl ?_⟩
  refine ⟨by simp only[List.length_cons,List.length_nil];omega,?_⟩
  refine ⟨by simp only[List.length_append,List.length_cons,List.length_nil];omega,?_⟩
  refine callO [0,5] wstr_fn rfl rfl ⟨rfl,.inl rfl,.inl rfl,rfl⟩ (WriteString_any (.ptr 0 0) (.inr rfl) (s0++blS0 n) ([119,104,105,108,101,32]++t0++[32]) (by simp only[List.length_append,List.length_cons,List.length_nil];omega)) (fun d' h' hq=>?_) (fun d' h' hq=>by cases hq)
  injection hq with q1 q2;subst q1;subst q2
  have hb1:=hB x.b hsb hbI hib (s0++blS0 n++([119,104,105,108,101,32]++t0++[32])) (by simp only[List.length_append,List.length_cons,List.length_nil];omega)
  refine callO [0,8] btxt_fn rfl rfl ⟨rfl,.inl rfl,.inl rfl,rfl⟩ hb1 (fun d' h' hq=>?_) (fun d' h' hq=>by cases hq)
  injection hq with q1 q2;subst q1;subst q2
  refine ⟨fun h=>absurd h (by omega),fun _=>?_⟩
  refine callO [0,9] wstr_fn rfl rfl ⟨rfl,.inl rfl,.inl rfl,rfl⟩ (WriteString_any (.ptr 0 0) (.inr rfl) ((s0++blS0 n++([119,104,105,108,101,32]++t0++[32]))++blS f n x.b) [10] (by simp only[List.length_append,List.length_cons,List.length_nil];omega)) (fun d' h' hq=>?_) (fun d' h' hq=>by cases hq)
  injection hq with q1 q2;subst q1;subst q2
  exact ⟨rfl,endBu (.tuple []) _ [.old 0,.old 11] rfl rfl rfl (.inl rfl) rfl rfl (by rw[er];simp)⟩
 ·have ht0:=hts t0 (by rw[et];simp)
  have h0:0 < (((x.xs.map (exS 12)).take i).map strG).length:=by rw[e,et];simp
  have g0:(((x.xs.map (exS 12)).take i).map strG)[0]?=some (strG t0):=by rw[e,et];rfl
  have hs1:=hs0
  rw[er] at hs1
  simp only[List.length_append,List.length_cons,List.length_nil] at hs1
  refine callO [0,1] wstr_fn rfl rfl ⟨rfl,.inl rfl,.inl rfl,rfl⟩ (WriteString_any (.ptr 0 0) (.inr rfl) s0 (blS0 n) (by omega)) (fun d' h' hq=>?_) (fun d' h' hq=>by cases hq)
  injection hq with q1 q2;subst q1;subst q2
  refine ⟨fun h=>absurd h (by omega),fun _=>?_⟩
  refine ⟨fun h=>absurd h (by omega),fun _=>?_⟩
  refine ⟨fun _=>?_,fun h=>absurd hk h⟩
  refine ⟨0,rfl,h0,?_⟩
  refine ⟨strG t0,g0,ldG_at rfl rfl ?_⟩
  refine ⟨by simp only[List.length_cons,List.length_nil];omega,?_⟩
  refine ⟨by simp only[List.length_append,List.length_cons,List.length_nil];omega,?_⟩
  refine callO [0,5] wstr_fn rfl rfl ⟨rfl,.inl rfl,.inl rfl,rfl⟩ (WriteString_any (.ptr 0 0) (.inr rfl) (s0++blS0 n) ([114,101,116,117,114,110,32]++t0++[59,10]) (by simp only[List.length_append,List.length_cons,List.length_nil];omega)) (fun d' h' hq=>?_) (fun d' h' hq=>by cases hq)
  injection hq with q1 q2;subst q1;subst q2
  exact ⟨rfl,endBu (.tuple []) _ [.old 0,.old 7] rfl rfl rfl (.inl rfl) rfl rfl (by rw[er];simp)⟩
 ·have ht0:=hts t0 (by rw[et];simp)
  have h0:0 < (((x.xs.map (exS 12)).take i).map strG).length:=by rw[e,et];simp
  have g0:(((x.xs.map (exS 12)).take i).map strG)[0]?=some (strG t0):=by rw[e,et];rfl
  have hs1:=hs0
  rw[er] at hs1
  simp only[List.length_append,List.length_cons,List.length_nil] at hs1
  refine callO [0,1] wstr_fn rfl rfl ⟨rfl,.inl rfl,.inl rfl,rfl⟩ (WriteString_any (.ptr 0 0) (.inr rfl) s0 (blS0 n) (by omega)) (fun d' h' hq=>?_) (fun d' h' hq=>by cases hq)
  injection hq with q1 q2;subst q1;subst q2
  refine ⟨fun h=>absurd h (by omega),fun _=>?_⟩
  refine ⟨fun h=>absurd h (by omega),fun _=>?_⟩
  refine ⟨fun h=>absurd h (by omega),fun _=>?_⟩
  refine ⟨fun _=>?_,fun h=>absurd hk h⟩
  refine ⟨0,rfl,h0,?_⟩
  refine ⟨strG t0,g0,ldG_at rfl rfl ?_⟩
  refine ⟨by simp only[List.length_cons,List.length_nil];omega,?_⟩
  refine ⟨by simp only[List.length_append,List.length_cons,List.length_nil];omega,?_⟩
  refine callO [0,5] wstr_fn rfl rfl ⟨rfl,.inl rfl,.inl rfl,rfl⟩ (WriteString_any (.ptr 0 0) (.inr rfl) (s0++blS0 n) ([115,97,121,32]++t0++[59,10]) (by simp only[List.length_append,List.length_cons,List.length_nil];omega)) (fun d' h' hq=>?_) (fun d' h' hq=>by cases hq)
  injection hq with q1 q2;subst q1;subst q2
  exact ⟨rfl,endBu (.tuple []) _ [.old 0,.old 7] rfl rfl rfl (.inl rfl) rfl rfl (by rw[er];simp)⟩
theorem blank_succ (n:Nat):blS0 (n+1)=blS0 n++[32]:=by
 unfold blS0
 rw[List.replicate_succ']
set_option maxRecDepth 20000 in
theorem blockText_any:∀ (f n:Nat),n+f≤13→BlC f n
 | 0,_,_=>fun l h=>by cases h
 | f+1,n,hn=>by
  intro l h hI hl96 s0 hs0
  have hB:BlC f (n+1):=blockText_any f (n+1) (by omega)
  have hl:=firstE_all h
  have ll:(l.map Stmt.g).length=l.length:=List.length_map _
  have ln:=blS0_len n
  have e0:blS (f+1) n l=[123,10]++(l.flatMap (stS (blS f) (n+1))++(blS0 n++[125])):=rfl
  rw[e0] at hs0 ⊢
  have hs1:=hs0
  simp only[List.length_append,List.length_cons,List.length_nil] at hs1
  refine enterH [] hT hF hM Tryd.func16 rfl 26 rfl (by kernel_rfl) [] rfl [.ptr 0 0,.g (.sl 5 (l.map Stmt.g)),.g (.str (blS0 n))] rfl (BuH (.ptr 0 0) s0) [0] rfl rfl rfl 1 [] trivial _ ?_
  refine callO [0,1] wstr_fn rfl rfl ⟨rfl,.inl rfl,.inl rfl,rfl⟩ (WriteString_any (.ptr 0 0) (.inr rfl) s0 [123,10] (by simp only[List.length_cons,List.length_nil];omega)) (fun d' h' hq=>?_) (fun d' h' hq=>by cases hq)
  injection hq with q1 q2;subst q1;subst q2
  refine loopR (ι:=Nat) (fun i=>[(0,.ptr 0 0),(2,.g (.str (blS0 n))),(10,.g (.sl 5 (l.map Stmt.g))),(11,.g (.int ((l.map Stmt.g).length:Int))),(12,.g (.int (i:Int)))]) (fun i=>BuH (.ptr 0 0) (s0++[123,10]++(l.take i).flatMap (stS (blS f) (n+1)))) (fun i=>i≤l.length) (fun i=>l.length - i)
   ⟨0,[.old 0,.old 3],⟨rfl,.inr ⟨⟨rfl,.inl rfl⟩,⟨by simp,rfl,rfl⟩,trivial⟩,.inr ⟨lk rfl,lk rfl,lk rfl,lk rfl,lk rfl,trivial⟩,rfl⟩,Nat.zero_le _⟩ ?_
  intro Rd hRd i hi
  have hfl:((l.take i).flatMap (stS (blS f) (n+1))).length≤(l.flatMap (stS (blS f) (n+1))).length:=by
   conv=>rhs;rw[← List.take_append_drop i l,List.flatMap_append,List.length_append]
   omega
  refine ⟨fun h1=>?_,fun h1=>?_⟩
  ·have h2:i < l.length:=by omega
   have ht:l.take (i+1)=l.take i++[l[i]]:=take_one h2
   have ef:(l.take (i+1)).flatMap (stS (blS f) (n+1))=(l.take i).flatMap (stS (blS f) (n+1))++stS (blS f) (n+1) l[i]:=by rw[ht,List.flatMap_append];simp
   have hfl2:((l.take (i+1)).flatMap (stS (blS f) (n+1))).length≤(l.flatMap (stS (blS f) (n+1))).length:=by
    conv=>rhs;rw[← List.take_append_drop (i+1) l,List.flatMap_append,List.length_append]
    omega
   rw[ef,List.length_append] at hfl2
   have hS:=stmtText_any hB (hl _ (List.getElem_mem h2)) (hI _ (List.getElem_mem h2)) (s0++[123,10]++(l.take i).flatMap (stS (blS f) (n+1))) (by simp only[List.length_append,List.length_cons,List.length_nil];omega)
   rw[blank_succ] at hS
   refine ⟨i,_,rfl,stG2 h2,?_⟩
   refine ⟨by simp only[List.length_cons,List.length_nil];omega,?_⟩
   refine callO [0,1] stxt_fn rfl rfl ⟨rfl,.inl rfl,.inl rfl,rfl⟩ hS (fun d' h' hq=>?_) (fun d' h' hq=>by cases hq)
   injection hq with q1 q2;subst q1;subst q2
   refine ⟨_,I64.wrap (by unfold I64;omega),?_⟩
   exact hRd _ _ _ ⟨i+1,[.old 0,.old 3],⟨rfl,.inr ⟨⟨rfl,.inl rfl⟩,⟨by rw[ef,← List.append_assoc],rfl,rfl⟩,trivial⟩,.inr ⟨lk rfl,lk rfl,lk rfl,lk rfl,lkI (by omega),trivial⟩,rfl⟩,h2,by omega⟩
  ·have e:l.take i=l:=List.take_of_length_le (by omega)
   refine ⟨by simp only[List.length_cons,List.length_nil];omega,?_⟩
   refine callO [0,1] wstr_fn rfl rfl ⟨rfl,.inl rfl,.inl rfl,rfl⟩ (WriteString_any (.ptr 0 0) (.inr rfl) (s0++[123,10]++(l.take i).flatMap (stS (blS f) (n+1))) (blS0 n++[125]) (by simp only[List.length_append,List.length_cons,List.length_nil];omega)) (fun d' h' hq=>?_) (fun d' h' hq=>by cases hq)
   injection hq with q1 q2;subst q1;subst q2
   exact ⟨rfl,endBu (.tuple []) _ [.old 0,.old 3] rfl rfl rfl (.inl rfl) rfl rfl (by rw[e];simp)⟩
end Go.Proofs.YtabjelabdojpkaaDoor
