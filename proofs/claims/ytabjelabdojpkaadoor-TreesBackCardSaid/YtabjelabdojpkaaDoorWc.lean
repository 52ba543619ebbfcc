/-
  tree.Show and the reference's text: expressions: the contracts.
-/
import Derived.Test.YtabjelabdojpkaaDoorWi
import Derived.Test.YtabjelabdojpkaaDoorWb
namespace Go.Proofs.YtabjelabdojpkaaDoor
open Go Go.Dm Go.Eng Go.RowKit Barb
variable {L:Lv}
theorem exG {l:List Barb.Expr} {i:Nat} (h:i < l.length):(l.map Expr.g)[i]?=some [.int l[i].k,.int l[i].n,.str l[i].of,.str l[i].s,.sl 5 (l[i].args.map Expr.g)]:=(gm h).trans (congrArg some (Expr.g_eq _))
theorem ex_facts {f:Nat} {x:Barb.Expr} (h:exprE (f+1) x=0) (hf:f≤11) :
  (x.args.length≤4∧(∀ y∈x.args,exprE f y=0)∧∀ t∈x.args.map (exS f),t.length≤223696200) ∧
  ((x.k=1∧∃ n:Nat,n≤65535∧x.n=(n:Int)∧exS (f+1) x=Lib.decDigits n)∨(x.k=2∧exS (f+1) x=x.s) ∨
  (x.k=3∧x.s.length≤8∧∃ t0,x.args.map (exS f)=[t0]∧exS (f+1) x=x.s++[91]++t0++[93]) ∨
  (x.k=4∧x.s.length≤8∧x.of.length≤8∧exS (f+1) x=(if x.of=[] then [] else x.of++[46])++(x.s++[40]++Lib.join (x.args.map (exS f)) [44,32]++[41])) ∨
  (x.k=5∧∃ (n:Nat) (t0 t1:Str),(1≤n∧n≤10)∧x.n=(n:Int)∧x.args.map (exS f)=[t0,t1]∧exS (f+1) x=[40]++t0++[32]++opS n++[32]++t1++[41])):=by
 have h4:=ex_few h
 have hb:∀ y,exprE f y=0→(exS f y).length≤223696200:=fun y hy=>Nat.le_trans (ex_len f y hy) (bE_le f (by omega))
 have hl:∀ y∈x.args,exprE f y=0:=by
  rcases ex_cases h with ⟨n,hn,rfl⟩ | ⟨s,hs,rfl⟩ | ⟨s,a,hs,ha,rfl⟩ | ⟨of,s,l,ho,hs,hl,rfl⟩ | ⟨n,a,b,hn,ha,hb,rfl⟩
  ·exact fun y hy=>by simp[Expr.args] at hy
  ·exact fun y hy=>by simp[Expr.args] at hy
  ·exact fun y hy=>by simp only[Expr.args,List.mem_singleton] at hy;rw[hy];exact ha
  ·exact hl
  ·exact fun y hy=>by
    simp only[Expr.args,List.mem_cons,List.not_mem_nil,or_false] at hy
    rcases hy with rfl | rfl
    ·exact ha
    ·exact hb
 refine ⟨⟨h4,hl,fun t ht=>by obtain ⟨y,hy,rfl⟩:=List.mem_map.1 ht;exact hb y (hl y hy)⟩,?_⟩
 rcases ex_cases h with ⟨n,hn,rfl⟩ | ⟨s,hs,rfl⟩ | ⟨s,a,hs,ha,rfl⟩ | ⟨of,s,l,ho,hs,hl,rfl⟩ | ⟨n,a,b,hn,ha,hb,rfl⟩
 ·exact .inl ⟨rfl,n,hn,rfl,rfl⟩
 ·exact .inr (.inl ⟨rfl,rfl⟩)
 ·exact .inr (.inr (.inl ⟨rfl,id_len hs,exS f a,rfl,by show s++([91]++(exS f a++[93]))=_;simp[Expr.s]⟩))
 ·refine .inr (.inr (.inr (.inl ⟨rfl,id_len hs,ho.elim (fun e=>by rw[e];simp[Expr.of]) id_len,?_⟩)))
  show (if of=[] then [] else of++[46])++(s++([40]++(Lib.join (l.map (exS f)) [44,32]++[41])))=(if of=[] then [] else of++[46])++(s++[40]++Lib.join (l.map (exS f)) [44,32]++[41])
  simp
 ·refine .inr (.inr (.inr (.inr ⟨rfl,n.toNat,exS f a,exS f b,by omega,(show n=(n.toNat:Int) from (Int.toNat_of_nonneg (by omega)).symm),rfl,?_⟩)))
  show [40]++(exS f a++([32]++((opS n++[32])++(exS f b++[41]))))=_
  rw[Int.toNat_of_nonneg (by omega)]
  simp
set_option maxRecDepth 20000 in
theorem exprText_any:∀ (f:Nat),f≤12→∀ (x:Barb.Expr),exprE f x=0→CT Tryd.prog (gl L) 55 [.agg x.d] (Is (.g (.str (exS f x)))):=by
 intro f
 induction f with
 | zero=>intro _ x h;cases h
 | succ f ih =>
  intro hf x h
  obtain ⟨⟨h4,hl,hts⟩,hc⟩:=ex_facts h (by omega)
  have la:(x.args.map Expr.g).length=x.args.length:=List.length_map _
  generalize exS (f+1) x=r at *
  refine enter hT hF hM Tryd.func55 rfl 75 rfl (by kernel_rfl) [.tmp 2] rfl [.agg x.d] rfl _ ?_
  refine loopR (ι:=Nat) (fun i=>[(1,.ptr 0 0),(3,.row 1),(8,.g (.sl 5 (x.args.map Expr.g))),(9,.g (.int ((x.args.map Expr.g).length:Int))),(10,.g (.int (i:Int)))]) (fun i=>[.blk x.d 104,.row (((x.args.map (exS f)).take i).map strG) 9 1]) (fun i=>i≤x.args.length) (fun i=>x.args.length - i)
   ⟨0,[.old 0,.nil 9 1],⟨rfl,.inl rfl,.inr ⟨lk rfl,.inr rfl,lk rfl,lk rfl,lk rfl,trivial⟩,rfl⟩,Nat.zero_le _⟩ ?_
  intro Rd hRd i hi
  refine ⟨fun h1=>?_,fun h1=>?_⟩
  ·have h2:i < x.args.length:=by omega
   have h3:i < (x.args.map (exS f)).length:=by rw[List.length_map];exact h2
   refine ⟨i,_,rfl,exG h2,?_⟩
   refine callIs (.inl rfl) (ih (by omega) x.args[i] (hl _ (List.getElem_mem h2))) ?_
   refine ⟨[[.str (exS f x.args[i])]],rfl,rfl,⟨rfl,trivial⟩,?_⟩
   refine ⟨⟨by simp only[maxLen,List.length_cons,List.length_nil,List.length_map,List.length_take];omega,by simp only[List.length_cons,List.length_nil,List.length_map,List.length_take];omega⟩,?_⟩
   refine ⟨_,I64.wrap (by unfold I64;omega),?_⟩
   exact hRd _ _ _ ⟨i+1,[.old 0,.old 4],⟨rfl,.inr ⟨⟨rfl,.inl rfl⟩,⟨by rw[take_one h3,List.map_append,List.getElem_map];rfl,rfl,rfl⟩,trivial⟩,.inr ⟨lk rfl,lk rfl,lk rfl,lk rfl,lkI (by omega),trivial⟩,rfl⟩,h2,by omega⟩
  ·have e:(x.args.map (exS f)).take i=x.args.map (exS f):=List.take_of_length_le (by rw[List.length_map];omega)
   rcases hc with ⟨hk,n,hn,en,er⟩ | ⟨hk,er⟩ | ⟨hk,hs,t0,et,er⟩ | ⟨hk,hs,ho,er⟩ | ⟨hk,n,t0,t1,hn,en,et,er⟩
   ·have hI:=Itoa_any (L:=L) n hn
    rw[← en] at hI
    refine ⟨fun _=>?_,fun h=>absurd hk h⟩
    refine callIs (.inl rfl) hI ?_
    exact ⟨rfl,retS er.symm⟩
   ·refine ⟨fun h=>absurd h (by omega),fun _=>⟨fun _=>?_,fun h=>absurd hk h⟩⟩
    exact ⟨rfl,retS er.symm⟩
   ·refine ⟨fun h=>absurd h (by omega),fun _=>⟨fun h=>absurd h (by omega),fun _=>⟨fun _=>?_,fun h=>absurd hk h⟩⟩⟩
    have ht0:=hts t0 (by rw[et];simp)
    have h0:0 < (((x.args.map (exS f)).take i).map strG).length:=by rw[e,et];simp
    have g0:(((x.args.map (exS f)).take i).map strG)[0]?=some (strG t0):=by rw[e,et];rfl
    refine ⟨none,rfl,?_⟩
    refine ⟨by simp only[List.length_cons,List.length_nil];omega,?_⟩
    refine ⟨0,rfl,h0,?_⟩
    refine ⟨strG t0,g0,ldG_at rfl rfl ?_⟩
    refine ⟨by simp only[List.length_append,List.length_cons,List.length_nil];omega,?_⟩
    refine ⟨by simp only[List.length_append,List.length_cons,List.length_nil];omega,?_⟩
    exact ⟨rfl,retS er.symm⟩
   ·refine ⟨fun h=>absurd h (by omega),fun _=>⟨fun h=>absurd h (by omega),fun _=>⟨fun h=>absurd h (by omega),fun _=>⟨fun _=>?_,fun h=>absurd hk h⟩⟩⟩⟩
    have hj:=join_len (b:=223696200) (x.args.map (exS f)) hts
    have hj2:(x.args.map (exS f)).length*(223696200+2)≤4*(223696200+2):=Nat.mul_le_mul_right _ (by rw[List.length_map];exact h4)
    have hJ:=Join_any (L:=L) ((x.args.map (exS f)).take i) [44,32] (by simp;omega) (by rw[e];omega)
    refine ⟨none,rfl,?_⟩
    refine ⟨by simp only[List.length_cons,List.length_nil];omega,?_⟩
    refine ⟨_,_,.inl rfl,hJ,rfl,?_⟩
    refine ⟨by rw[e];simp only[List.length_append,List.length_cons,List.length_nil];omega,?_⟩
    refine ⟨by rw[e];simp only[List.length_append,List.length_cons,List.length_nil];omega,?_⟩
    refine ⟨fun h0=>?_,fun h0=>?_⟩
    ·refine ⟨by simp only[List.length_cons,List.length_nil];omega,?_⟩
     refine ⟨by rw[e];simp only[List.length_append,List.length_cons,List.length_nil];omega,?_⟩
     exact ⟨rfl,retS (by rw[er,if_neg h0,e])⟩
    ·exact ⟨rfl,retS (by rw[er,if_pos h0,e];rfl)⟩
   ·refine ⟨fun h=>absurd h (by omega),fun _=>⟨fun h=>absurd h (by omega),fun _=>⟨fun h=>absurd h (by omega),fun _=>⟨fun h=>absurd h (by omega),fun _=>?_⟩⟩⟩⟩
    have ht0:=hts t0 (by rw[et];simp)
    have ht1:=hts t1 (by rw[et];simp)
    have h0:1 < (((x.args.map (exS f)).take i).map strG).length:=by rw[e,et];simp
    have g0:(((x.args.map (exS f)).take i).map strG)[0]?=some (strG t0):=by rw[e,et];rfl
    have g1:(((x.args.map (exS f)).take i).map strG)[1]?=some (strG t1):=by rw[e,et];rfl
    have hc10:n=1∨n=2∨n=3∨n=4∨n=5∨n=6∨n=7∨n=8∨n=9∨n=10:=by omega
    clear hn
    refine ⟨none,rfl,?_⟩
    refine ⟨0,rfl,by omega,?_⟩
    refine ⟨strG t0,g0,ldG_at rfl rfl ?_⟩
    refine ⟨by simp only[List.length_cons,List.length_nil];omega,?_⟩
    refine ⟨by simp only[List.length_append,List.length_cons,List.length_nil];omega,?_⟩
    rcases hc10 with rfl | rfl | rfl | rfl | rfl | rfl | rfl | rfl | rfl | rfl
    all_goals
     refine ⟨_,congrArg (fun m=>D.g (GV.int m)) en,by decide,?_⟩
     refine ⟨by simp only[List.length_append,List.length_cons,List.length_nil];omega,?_⟩
     refine ⟨by simp only[List.length_append,List.length_cons,List.length_nil];omega,?_⟩
     refine ⟨1,rfl,h0,?_⟩
     refine ⟨strG t1,g1,ldG_at rfl rfl ?_⟩
     refine ⟨by simp only[List.length_append,List.length_cons,List.length_nil];omega,?_⟩
     refine ⟨by simp only[List.length_append,List.length_cons,List.length_nil];omega,?_⟩
     exact ⟨rfl,retS er.symm⟩
theorem signOf_ref {n:Nat} (hn:1≤n∧n≤10):CT Tryd.prog (gl L) 77 [.g (.int (n:Int))] (Is (.g (.str (opS n)))):=by
 have h:n < ((([]:Str) :: opsL).map strG).length:=by show n < 11;omega
 have g:((([]:Str) :: opsL).map strG)[n]?=some (strG (opS n)):=by
  have:n=1∨n=2∨n=3∨n=4∨n=5∨n=6∨n=7∨n=8∨n=9∨n=10:=by omega
  rcases this with rfl | rfl | rfl | rfl | rfl | rfl | rfl | rfl | rfl | rfl<;>rfl
 refine enter hT hF hM Tryd.func77 rfl 7 rfl (by kernel_rfl) [.tmp 2] rfl [.g (.int (n:Int))] rfl _ ?_
 refine ⟨(([]:Str) :: opsL).map strG,rfl,rfl,⟨rfl,rfl,rfl,rfl,rfl,rfl,rfl,rfl,rfl,rfl,rfl,trivial⟩,?_⟩
 refine ⟨n,rfl,h,?_⟩
 refine ⟨strG (opS n),g,ldG_at rfl rfl ?_⟩
 exact ⟨rfl,retIs (.inl rfl)⟩
theorem join_snoc (l:List Str) (y:Str):Lib.join (l++[y]) [44,32]=Lib.join l [44,32]++(if l=[] then [] else [44,32])++y:=by
 cases l with
 | nil=>simp[Lib.join]
 | cons x l =>
  rw[List.cons_append,Lib.join_cons,Lib.join_cons,if_neg (by simp)]
  simp[Lib.joinTail]
set_option maxRecDepth 20000 in
theorem exprShown_any:∀ (f:Nat),f≤12→∀ (x:Barb.Expr),exprE f x=0→CT Tryd.prog (gl L) 59 [.agg x.d] (Is (.g (.str (exS f x)))):=by
 intro f
 induction f with
 | zero=>intro _ x h;cases h
 | succ f ih =>
  intro hf x h
  obtain ⟨⟨h4,hl,hts⟩,hc⟩:=ex_facts h (by omega)
  have la:(x.args.map Expr.g).length=x.args.length:=List.length_map _
  have hX:=fun (j:Nat) (hj:j < x.args.length)=>ih (by omega) x.args[j] (hl _ (List.getElem_mem hj))
  have hj:=join_len (b:=223696200) (x.args.map (exS f)) hts
  have hj2:(x.args.map (exS f)).length*(223696200+2)≤4*(223696200+2):=Nat.mul_le_mul_right _ (by rw[List.length_map];exact h4)
  generalize exS (f+1) x=r at *
  rcases hc with ⟨hk,n,hn,en,er⟩ | ⟨hk,er⟩ | ⟨hk,hs,t0,et,er⟩ | ⟨hk,hs,ho,er⟩ | ⟨hk,n,t0,t1,hn,en,et,er⟩
  ·have hI:=dec_any (L:=L) n hn
   rw[← en] at hI
   refine enter hT hF hM Tryd.func59 rfl 82 rfl (by kernel_rfl) [.tmp 2] rfl [.agg x.d] rfl _ ?_
   refine ⟨fun _=>?_,fun h=>absurd hk h⟩
   refine callIs (.inl rfl) hI ?_
   exact ⟨rfl,retS er.symm⟩
  ·refine enter hT hF hM Tryd.func59 rfl 82 rfl (by kernel_rfl) [.tmp 2] rfl [.agg x.d] rfl _ ?_
   refine ⟨fun h=>absurd h (by omega),fun _=>⟨fun _=>?_,fun h=>absurd hk h⟩⟩
   exact ⟨rfl,retS er.symm⟩
  ·have h1:x.args.length=1:=by have:=congrArg List.length et;simpa using this
   have h0:0 < x.args.length:=by omega
   have e0:exS f x.args[0]=t0:=by have:=congrArg (·[0]?) et;simpa [h0] using this
   have hX0:=hX 0 h0
   rw[e0] at hX0
   have ht0:=hts t0 (by rw[et];simp)
   refine enter hT hF hM Tryd.func59 rfl 82 rfl (by kernel_rfl) [.tmp 2] rfl [.agg x.d] rfl _ ?_
   refine ⟨fun h=>absurd h (by omega),fun _=>⟨fun h=>absurd h (by omega),fun _=>⟨fun _=>?_,fun h=>absurd hk h⟩⟩⟩
   refine ⟨none,rfl,?_⟩
   refine ⟨by simp only[List.length_cons,List.length_nil];omega,?_⟩
   refine ⟨0,_,rfl,exG h0,?_⟩
   refine ⟨_,_,.inl rfl,hX0,rfl,?_⟩
   refine ⟨by simp only[List.length_append,List.length_cons,List.length_nil];omega,?_⟩
   refine ⟨by simp only[List.length_append,List.length_cons,List.length_nil];omega,?_⟩
   exact ⟨rfl,retS er.symm⟩
  ·refine enter hT hF hM Tryd.func59 rfl 82 rfl (by kernel_rfl) [.tmp 2] rfl [.agg x.d] rfl _ ?_
   refine ⟨fun h=>absurd h (by omega),fun _=>⟨fun h=>absurd h (by omega),fun _=>⟨fun h=>absurd h (by omega),fun _=>⟨fun h=>absurd h (by omega),fun _=>?_⟩⟩⟩⟩
   refine ⟨by simp only[List.length_cons,List.length_nil];omega,?_⟩
   refine loopR (ι:=Nat) (fun i=>[(1,.ptr 0 0),(3,.g (.str (x.s++[40]++Lib.join ((x.args.map (exS f)).take i) [44,32]))),(4,.g (.int (i:Int)))]) (fun _=>[.blk x.d 104]) (fun i=>i≤x.args.length) (fun i=>x.args.length - i)
    ⟨0,[.old 0],⟨rfl,.inl rfl,.inr ⟨lk rfl,lkS (by simp[Lib.join]),lk rfl,trivial⟩,rfl⟩,Nat.zero_le _⟩ ?_
   intro Rd hRd i hi
   have hji:=join_len (b:=223696200) ((x.args.map (exS f)).take i) (fun s hs=>hts s (List.mem_of_mem_take hs))
   have hji2:((x.args.map (exS f)).take i).length*(223696200+2)≤4*(223696200+2):=Nat.mul_le_mul_right _ (by rw[List.length_take,List.length_map];omega)
   refine ⟨fun h1=>?_,fun h1=>?_⟩
   ·have h2:i < x.args.length:=by omega
    have h3:i < (x.args.map (exS f)).length:=by rw[List.length_map];exact h2
    have hXi:=hX i h2
    have hti:=hts (exS f x.args[i]) (List.mem_map.2 ⟨_,List.getElem_mem h2,rfl⟩)
    have ej:=join_snoc ((x.args.map (exS f)).take i) (exS f x.args[i])
    have et:(x.args.map (exS f)).take (i+1)=(x.args.map (exS f)).take i++[exS f x.args[i]]:=by rw[take_one h3,List.getElem_map]
    rw[← et] at ej
    refine ⟨fun h0=>?_,fun h0=>?_⟩
    ·have hne:¬(x.args.map (exS f)).take i=[]:=fun e=>by
      have:=congrArg List.length e
      rw[List.length_take,List.length_map] at this
      have this:min i x.args.length=0:=this
      omega
     rw[if_neg hne] at ej
     refine ⟨by simp only[List.length_append,List.length_cons,List.length_nil];omega,?_⟩
     refine ⟨i,_,rfl,exG h2,?_⟩
     refine callIs (.inl rfl) hXi ?_
     refine ⟨by simp only[List.length_append,List.length_cons,List.length_nil];omega,?_⟩
     refine ⟨_,I64.wrap (by unfold I64;omega),?_⟩
     exact hRd _ _ _ ⟨i+1,[.old 0],⟨rfl,.inl rfl,.inr ⟨lk rfl,lkS (by rw[ej];simp),lkI (by omega),trivial⟩,rfl⟩,h2,by omega⟩
    ·have hz:i=0:=by omega
     subst hz
     rw[if_pos (by simp)] at ej
     refine ⟨0,_,rfl,exG h2,?_⟩
     refine callIs (.inl rfl) hXi ?_
     refine ⟨by simp only[List.length_append,List.length_cons,List.length_nil];omega,?_⟩
     refine ⟨_,I64.wrap (by unfold I64;omega),?_⟩
     exact hRd _ _ _ ⟨0+1,[.old 0],⟨rfl,.inl rfl,.inr ⟨lk rfl,lkS (by rw[ej];simp),lkI (by omega),trivial⟩,rfl⟩,h2,by omega⟩
   ·have e:(x.args.map (exS f)).take i=x.args.map (exS f):=List.take_of_length_le (by rw[List.length_map];omega)
    refine ⟨by simp only[List.length_append,List.length_cons,List.length_nil];omega,?_⟩
    refine ⟨fun h0=>?_,fun h0=>?_⟩
    ·refine ⟨by simp only[List.length_cons,List.length_nil];omega,?_⟩
     refine ⟨by simp only[List.length_append,List.length_cons,List.length_nil];omega,?_⟩
     exact ⟨rfl,retS (by rw[er,if_neg h0,e])⟩
    ·exact ⟨rfl,retS (by rw[er,if_pos h0,e];rfl)⟩
  ·have h1:x.args.length=2:=by have:=congrArg List.length et;simpa using this
   have h0:0 < x.args.length:=by omega
   have h01:1 < x.args.length:=by omega
   have e0:exS f x.args[0]=t0:=by have:=congrArg (·[0]?) et;simpa [h0] using this
   have e1:exS f x.args[1]=t1:=by have:=congrArg (·[1]?) et;simpa [h01] using this
   have hX0:=hX 0 h0
   have hX1:=hX 1 h01
   rw[e0] at hX0
   rw[e1] at hX1
   have ht0:=hts t0 (by rw[et];simp)
   have ht1:=hts t1 (by rw[et];simp)
   have hS:=signOf_ref (L:=L) hn
   rw[← en] at hS
   have lo:=op_len (n:=n) (by omega)
   rw[← en] at er lo
   refine enter hT hF hM Tryd.func59 rfl 82 rfl (by kernel_rfl) [.tmp 2] rfl [.agg x.d] rfl _ ?_
   refine ⟨fun h=>absurd h (by omega),fun _=>⟨fun h=>absurd h (by omega),fun _=>⟨fun h=>absurd h (by omega),fun _=>⟨fun _=>?_,fun h=>absurd hk h⟩⟩⟩⟩
   refine ⟨none,rfl,?_⟩
   refine ⟨0,_,rfl,exG h0,?_⟩
   refine ⟨_,_,.inl rfl,hX0,rfl,?_⟩
   refine ⟨by simp only[List.length_cons,List.length_nil];omega,?_⟩
   refine ⟨by simp only[List.length_append,List.length_cons,List.length_nil];omega,?_⟩
   refine ⟨_,_,.inl rfl,hS,rfl,?_⟩
   refine ⟨by simp only[List.length_append,List.length_cons,List.length_nil];omega,?_⟩
   refine ⟨by simp only[List.length_append,List.length_cons,List.length_nil];omega,?_⟩
   refine ⟨1,_,rfl,exG h01,?_⟩
   refine ⟨_,_,.inl rfl,hX1,rfl,?_⟩
   refine ⟨by simp only[List.length_append,List.length_cons,List.length_nil];omega,?_⟩
   refine ⟨by simp only[List.length_append,List.length_cons,List.length_nil];omega,?_⟩
   exact ⟨rfl,retS er.symm⟩
end Go.Proofs.YtabjelabdojpkaaDoor
