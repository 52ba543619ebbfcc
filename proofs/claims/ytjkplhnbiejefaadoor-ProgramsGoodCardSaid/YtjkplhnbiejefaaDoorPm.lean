/-
  Programs of raw things, plain.
-/
import Derived.Test.YtjkplhnbiejefaaDoorPk
import Derived.Test.YtjkplhnbiejefaaDoorCl
import Derived.Test.YtjkplhnbiejefaaDoorFt
import Derived.Test.YtjkplhnbiejefaaDoorHx
import Derived.Test.YtjkplhnbiejefaaDoorDgl
namespace Barb
open Go Go.Dm Go.Eng
abbrev sx:Str:=[120]
abbrev sy:Str:=[121]
abbrev sp:Str:=[112]
abbrev sq:Str:=[113]
abbrev sf:Str:=[102]
abbrev sg:Str:=[103]
abbrev sh:Str:=[104]
abbrev sarr:Str:=[97,114,114]
abbrev unitsP:List Str:=[[111,110,101],[116,119,111],[116,114,105]]
abbrev numX (n:Int):Expr:=.mk 1 n [] [] []
abbrev varX (s:Str):Expr:=.mk 2 0 [] s []
def numP (r:Raw):Expr:=numX (if pickN r.b 7=0 then [65535,256,40000,16].getD (pickN r.c 4).toNat 0 else pickN r.a 6)
def varsP (params:List Str):List Str:=[sx,sy]++params
def pickP (l:List Str) (n:Int):Str:=l.getD (pickN n l.length).toNat []
def unitP (n many:Int):Str:=unitsP.getD (pickN n many).toNat []
def exprP (params:List Str) (many:Int):Nat→List Raw→Int→Expr
 | 0,_,_=>numX 3
 | _+1,[],_=>numX 3
 | f+1,r :: rest,depth =>
  let a:=exprP params many f (rest.take (rest.length / 2)) (depth+1)
  let b:=exprP params many f (rest.drop (rest.length / 2)) (depth+1)
  let k:=if depth > 4 then pickN r.kind 9 else pickN r.kind 20
  if k < 4 then numP r
  else if k < 9 then varX (pickP (varsP params) r.a)
  else if k < 15 then .mk 5 (1+pickN r.a 10) [] [] [a,b]
  else if k < 17 then .mk 3 0 [] sarr [a]
  else if k=17 then .mk 4 0 [] sg [a]
  else if k=18 then .mk 4 0 (unitP r.a many) sf [a,b]
  else .mk 4 0 (unitP r.a many) sh []
def upP:Expr:=.mk 5 1 [] [] [varX sy,numX 1]
def belowP (r:Raw):Expr:=.mk 5 7 [] [] [varX sy,numX (pickN r.b 6)]
def stmtP (params:List Str) (many depth:Int) (rec:List Raw→Int→List Stmt) (r:Raw) (part:List Raw):List Stmt :=
 let x:=exprP params many part.length part 1
 let k:=pickN r.kind 12
 if k < 2 then [.mk 2 sarr [numP r,x] [] []]
 else if k=2 then [.mk 6 [] [x] [] []]
 else if k=3 then [.mk 5 [] [x] [] []]
 else if k < 6∧depth < 3 then [.mk 3 [] [x] (rec (part.take (part.length / 2)) (depth+1)) (rec (part.drop (part.length / 2)) (depth+1))]
 else if k=6∧depth < 2 then [.mk 1 sy [numX 0] [] [],.mk 4 [] [belowP r] (rec part (depth+2)++[.mk 1 sy [upP] [] []]) []]
 else [.mk 1 (pickP (varsP params) r.a) [x] [] []]
def rowsP (params:List Str) (many depth:Int) (rec:List Raw→Int→List Stmt):Nat→List Raw→List Stmt
 | 0,_=>[]
 | _+1,[]=>[]
 | n+1,r :: l=>stmtP params many depth rec r (l.take 6)++rowsP params many depth rec n (l.drop 6)
def stmtsP (params:List Str) (many:Int):Nat→List Raw→Int→List Stmt
 | 0,_,_=>[]
 | f+1,l,depth=>rowsP params many depth (stmtsP params many f) 4 l
def bodyP (params:List Str) (many:Int) (l:List Raw):List Stmt:=stmtsP params many (l.length+1) l 1
def partP (l:List Raw) (many i:Nat):List Raw:=(l.take ((i+1)*l.length / many)).drop (i*l.length / many)
def unitOf (l:List Raw) (many i:Nat):Unit :=
 let part:=partP l many i
 let third:=part.length / 3
 ⟨unitsP.getD i [],[sx,sy],[⟨sarr,2+i⟩],[⟨sf,true,[sp,sq],bodyP [sp,sq] many (part.take third)⟩,⟨sg,false,[sp],bodyP [sp] many ((part.take (2*third)).drop third)⟩,⟨sh,true,[],bodyP [] many (part.drop (2*third))⟩]⟩
def manyP (l:List Raw):Nat:=(1+pickN l.length 3).toNat
def programP (l:List Raw):List Unit:=(List.range (manyP l)).map (unitOf l (manyP l))
end Barb
/-
  Programs of raw things: the contracts of number, Expr, Stmts, Program.
-/
namespace Barb
open Go Go.Dm Go.Eng Go.Proofs.YtjkplhnbiejefaaDoor
abbrev Raw.d (r:Raw):List D:=[.g (.int r.kind),.g (.int r.a),.g (.int r.b),.g (.int r.c)]
end Barb
namespace Go.Proofs.YtjkplhnbiejefaaDoor
open Go Go.Dm Go.Eng Go.RowKit Barb
theorem numK_any (r:Raw) (hr:r.I):CT Tryd.prog gl 13 [.agg r.d] (Is (.agg (numP r).d)):=by
 obtain ⟨_,ha,hb,hc⟩:=hr
 have e:numP r=numP r:=rfl
 conv at e=>rhs;unfold numP
 refine enter hT hF hM Tryd.func13 rfl 19 rfl (by kernel_rfl) [.cell 2 29] rfl [.agg r.d] rfl _ ?_
 refine callIs (.inl rfl) (picked_any r.a 6 ha (by decide)) ?_
 refine callIs (.inl rfl) (picked_any r.b 7 hb (by decide)) ?_
 refine ⟨fun h=>?_,fun h=>?_⟩
 ·rw[if_pos h] at e
  refine ⟨[[.int 65535],[.int 256],[.int 40000],[.int 16]],rfl,rfl,⟨rfl,rfl,rfl,rfl,trivial⟩,?_⟩
  obtain ⟨k,hk,hl⟩:=pickN_nat r.c (many:=4) (by decide)
  refine callIs (.inl rfl) (picked_any r.c 4 hc (by decide)) ?_
  rw[show (4:Int)=((4:Nat):Int) from rfl,hk] at e
  have hg:([[GV.int 65535],[.int 256],[.int 40000],[.int 16]]:List (List GV))[k]?=some [.int ([65535,256,40000,16].getD k 0)]:=by
   match k,hl with
   | 0,_=>rfl
   | 1,_=>rfl
   | 2,_=>rfl
   | 3,_=>rfl
  refine ⟨k,dJ hk,hl,_,hg,?_⟩
  exact ⟨rfl,retE0 e⟩
 ·rw[if_neg h] at e
  exact ⟨rfl,retE0 e⟩
theorem str_row (l:List Str) {k:Nat} (h:k < l.length):(l.map strG)[k]?=some [.str l[k]]:=gm h
set_option maxRecDepth 20000 in
set_option maxHeartbeats 2000000 in
theorem Expr_any (params:List Str) (hp:params.length≤1000) (many:Nat) (hm:1≤many∧many≤3):∀ (f:Nat),f≤4398046511104→∀ (l:List Raw),l.length≤f→(∀ r∈l,r.I)→∀ depth:Int,0≤depth∧depth≤5 →
  CT Tryd.prog gl 12 [.g (.sl 4 (l.map Raw.g)),.g (.sl 1 (params.map strG)),.g (.int many),.g (.int depth)] (Is (.agg (exprP params many f l depth).d)):=by
 intro f
 induction f with
 | zero =>
  intro _ l hl _ depth hd
  have hl0:l=[]:=List.length_eq_zero_iff.1 (by omega)
  subst hl0
  refine enter hT hF hM Tryd.func12 rfl 135 rfl (by kernel_rfl) [.cell 8 29] rfl [.g (.sl 4 (List.map Raw.g [])),.g (.sl 1 (params.map strG)),.g (.int many),.g (.int depth)] rfl _ ?_
  exact ⟨fun _=>⟨rfl,retE0 rfl⟩,fun h=>absurd rfl h⟩
 | succ f ih =>
  intro hf l hl hI depth hd
  match l,hl,hI with
  | [],_,_ =>
   refine enter hT hF hM Tryd.func12 rfl 135 rfl (by kernel_rfl) [.cell 8 29] rfl [.g (.sl 4 (List.map Raw.g [])),.g (.sl 1 (params.map strG)),.g (.int many),.g (.int depth)] rfl _ ?_
   exact ⟨fun _=>⟨rfl,retE0 rfl⟩,fun h=>absurd rfl h⟩
  | r :: rest,hl,hI =>
   obtain ⟨rk,ra,rb,rc⟩:=hI r List.mem_cons_self
   have hrest:rest.length≤f:=by simpa using hl
   have hlr:(rest.map Raw.g).length=rest.length:=List.length_map _
   have hIr:∀ x∈rest,x.I:=fun x hx=>hI x (List.mem_cons_of_mem _ hx)
   have iha:=ih (by omega) (rest.take (rest.length / 2)) (by rw[List.length_take];omega) (fun x hx=>hIr x (List.mem_of_mem_take hx)) (depth+1)
   have ihb:=ih (by omega) (rest.drop (rest.length / 2)) (by rw[List.length_drop];omega) (fun x hx=>hIr x (List.mem_of_mem_drop hx)) (depth+1)
   have e:exprP params many (f+1) (r :: rest) depth=exprP params many (f+1) (r :: rest) depth:=rfl
   conv at e=>rhs;unfold exprP
   dsimp only at e
   generalize exprP params many f (rest.take (rest.length / 2)) (depth+1)=xa at iha e
   generalize exprP params many f (rest.drop (rest.length / 2)) (depth+1)=xb at ihb e
   rw[List.map_take] at iha
   rw[List.map_drop] at ihb
   generalize exprP params many (f+1) (r :: rest) depth=out at e
   have nm:=(show CT Tryd.prog gl _ _ _ from numK_any r ⟨rk,ra,rb,rc⟩)
   have hv:([sx,sy]++params).length=params.length+2:=by simp
   refine enter hT hF hM Tryd.func12 rfl 135 rfl (by kernel_rfl) [.cell 8 29] rfl [.g (.sl 4 (List.map Raw.g (r :: rest))),.g (.sl 1 (params.map strG)),.g (.int many),.g (.int depth)] rfl _ ?_
   have h2:((rest.length:Int).tdiv 2)=((rest.length / 2:Nat):Int):=by rw[Int.tdiv_eq_ediv_of_nonneg (by omega)];omega
   have h2':(((rest.map Raw.g).length:Int).tdiv 2)=((rest.length / 2:Nat):Int):=by rw[hlr];exact h2
   refine ⟨fun h=>absurd h (by simp;omega),fun _=>?_⟩
   refine stepS ⟨0,_,rfl,rfl,Hold.mk ?_⟩
   refine stepS ⟨1,rfl,by simp,Hold.mk ?_⟩
   refine stepS ⟨by decide,(by show I64 (((rest.map Raw.g).length:Int).tdiv 2);rw[h2'];unfold I64;omega),rest.length / 2,dJ h2',(by show _≤(rest.map Raw.g).length;omega),Hold.mk ?_⟩
   refine stepS ⟨by decide,(by show I64 (((rest.map Raw.g).length:Int).tdiv 2);rw[h2'];unfold I64;omega),rest.length / 2,dJ h2',(by show _≤(rest.map Raw.g).length;omega),Hold.mk ?_⟩
   refine stepS (callIs (.inl rfl) (picked_any r.kind 20 rk (by decide)) (Hold.mk ?_))
   refine seqJ (ι:=Int) (fun k=>[(1,.g (.sl 1 (params.map strG))),(2,.g (.int many)),(3,.g (.int depth)),(8,.ptr 0 0),(9,.ptr 1 0),(11,.g (.sl 4 ((rest.map Raw.g).take (rest.length / 2)))),(12,.g (.sl 4 ((rest.map Raw.g).drop (rest.length / 2)))),(13,.g (.int k))])
    (fun _=>[.blk [.g (.int 0),.g (.int 0),.g (.str []),.g (.str []),.nils] 29,.blk r.d 52]) (fun k=>k=if depth > 4 then pickN r.kind 9 else pickN r.kind 20) (fun e0 k hk=>?_) (fun Rj hRj=>?_)
   rotate_left
   ·refine ⟨fun h4=>callIs (.inl rfl) (picked_any r.kind 9 rk (by decide)) (hRj (pickN r.kind 9) _ ⟨rfl,rfl,rfl,rfl,rfl,rfl,rfl,rfl,trivial⟩ (if_pos h4).symm),fun h4=>hRj (pickN r.kind 20) _ ⟨rfl,rfl,rfl,rfl,rfl,rfl,rfl,rfl,trivial⟩ (if_neg h4).symm⟩
   rw[← hk] at e
   have k9:¬k < 9→depth+1≤5:=fun h9=>by
    have:=pickN_lo r.kind (many:=9) (by decide)
    by_cases h4:depth > 4
    ·rw[if_pos h4] at hk;omega
    ·omega
   clear hk
   have mch:(1:Int)≤many∧(many:Int)≤3:=by omega
   obtain ⟨ku,hku,hkl⟩:=pickN_nat r.a (many:=many) (by omega)
   have hun:unitP r.a many=unitsP.getD ku []:=by unfold unitP;rw[hku];rfl
   refine ⟨fun g4=>?_,fun g4=>?_⟩
   ·rw[if_pos g4] at e
    exact callIs (.inl rfl) nm ⟨rfl,retIs (.inl (by rw[e];rfl))⟩
   rw[if_neg g4] at e
   refine ⟨fun g9=>?_,fun g9=>?_⟩
   ·rw[if_pos g9] at e
    obtain ⟨kv,hkv,hkvl⟩:=pickN_nat r.a (many:=(varsP params).length) (by simp[varsP])
    have hVl:(([[GV.str sx],[.str sy]]++params.map strG).length:Int)=((varsP params).length:Int):=by simp[varsP]
    refine ⟨[[.str sx],[.str sy]],rfl,rfl,⟨rfl,rfl,trivial⟩,?_⟩
    refine ⟨⟨by simp[maxLen];omega,by simp;omega⟩,?_⟩
    refine callIs (.inl rfl) (picked_any r.a _ ra (by rw[hVl];simp[varsP];omega)) ?_
    refine ⟨kv,dJ (by rw[hVl];exact hkv),(by show kv < ((varsP params).map strG).length;rw[List.length_map];exact hkvl),?_⟩
    refine ⟨_,(show ((varsP params).map strG)[kv]?=some [.str (varsP params)[kv]] from gm hkvl),?_⟩
    refine ⟨rfl,retE0 (e.trans ?_)⟩
    unfold pickP
    rw[hkv]
    exact congrArg varX (at_getD' hkvl [])
   rw[if_neg g9] at e
   have hd5:=k9 g9
   have iha':=iha ⟨by omega,hd5⟩
   have ihb':=ihb ⟨by omega,hd5⟩
   have hdw:IntKind.i64.wrap (depth+1)=depth+1:=I64.wrap (by unfold I64;omega)
   refine ⟨fun g15=>?_,fun g15=>?_⟩
   ·rw[if_pos g15] at e
    have:=pickN_lo r.a (many:=10) (by decide)
    refine callIs (.inl rfl) (picked_any r.a 10 ra (by decide)) ⟨_,I64.wrap (by unfold I64;omega),_,hdw,callIs (.inl rfl) iha' ⟨_,hdw,callIs (.inl rfl) ihb' ?_⟩⟩
    refine ⟨[gX xa,gX xb],rfl,rfl,⟨rfl,rfl,rfl,rfl,rfl,rfl,rfl,rfl,rfl,rfl,trivial⟩,?_⟩
    exact ⟨rfl,retER e rfl (by simp only[gX_eq];rfl)⟩
   rw[if_neg g15] at e
   refine ⟨fun g17=>?_,fun g17=>?_⟩
   ·rw[if_pos g17] at e
    refine ⟨_,hdw,callIs (.inl rfl) iha' ?_⟩
    refine ⟨[gX xa],rfl,rfl,⟨rfl,rfl,rfl,rfl,rfl,trivial⟩,?_⟩
    exact ⟨rfl,retER e rfl (by simp only[gX_eq];rfl)⟩
   rw[if_neg g17] at e
   refine ⟨fun gg=>?_,fun gg=>?_⟩
   ·rw[if_pos gg] at e
    refine ⟨_,hdw,callIs (.inl rfl) iha' ?_⟩
    refine ⟨[gX xa],rfl,rfl,⟨rfl,rfl,rfl,rfl,rfl,trivial⟩,?_⟩
    exact ⟨rfl,retER e rfl (by simp only[gX_eq];rfl)⟩
   rw[if_neg gg] at e
   refine ⟨fun gf=>?_,fun gf=>?_⟩
   ·rw[if_pos gf,hun] at e
    rcases (show ku=0∨ku=1∨ku=2 by omega) with rfl | rfl | rfl
    all_goals
     refine ⟨some 2000,rfl,?_⟩
     refine ⟨_,_,.inl rfl,picked_any r.a many ra (by omega),rfl,?_⟩
     refine ⟨_,dJ hku,(by decide),?_⟩
     refine ⟨_,hdw,_,_,.inl rfl,iha',rfl,?_⟩
     refine ⟨_,hdw,_,_,.inl rfl,ihb',rfl,?_⟩
     refine ⟨[gX xa,gX xb],rfl,rfl,⟨rfl,rfl,rfl,rfl,rfl,rfl,rfl,rfl,rfl,rfl,trivial⟩,⟨_,rfl⟩,?_⟩
     exact ⟨rfl,retER e rfl (gX2 _ _)⟩
   ·rw[if_neg gf,hun] at e
    rcases (show ku=0∨ku=1∨ku=2 by omega) with rfl | rfl | rfl
    all_goals
     refine callIs (.inl rfl) (picked_any r.a many ra (by omega)) ?_
     refine ⟨_,dJ hku,(by decide),?_⟩
     exact ⟨rfl,retE0 e⟩
end Go.Proofs.YtjkplhnbiejefaaDoor
/-
  Statements of raw things: the contract of Stmts.
-/
namespace Barb
open Go Go.Dm Go.Eng Go.Proofs.YtjkplhnbiejefaaDoor
theorem st_g (k:Int) (s:Str) (xs:List Expr) (b e:List Stmt):Stmt.g (.mk k s xs b e)=[.int k,.str s,.sl 5 (xs.map Expr.g),.sl 5 (b.map Stmt.g),.sl 5 (e.map Stmt.g)]:=Stmt.g_eq _
theorem out_one {l:List Stmt} {k:Int} {s:Str} {xs:List Expr} {b e:List Stmt} {X:List (List GV)} (hX:X=xs.map Expr.g):l.map Stmt.g++[[.int k,.str s,.sl 5 X,.sl 5 (b.map Stmt.g),.sl 5 (e.map Stmt.g)]]=(l++[Stmt.mk k s xs b e]).map Stmt.g:=by
 subst hX
 rw[List.map_append,List.map_singleton,st_g]
theorem stmtP_len {params:List Str} {many depth:Int} {rec:List Raw→Int→List Barb.Stmt} (r:Raw) (part:List Raw):(stmtP params many depth rec r part).length≤2:=by
 unfold stmtP
 simp only
 split
 ·simp
 ·split
  ·simp
  ·split
   ·simp
   ·split
    ·simp
    ·split<;>simp
theorem rowsP_len {params:List Str} {many depth:Int} {rec:List Raw→Int→List Barb.Stmt}:∀ (k:Nat) (l:List Raw),(rowsP params many depth rec k l).length≤2*k
 | 0,_=>Nat.le_refl _
 | _+1,[]=>Nat.zero_le _
 | k+1,r :: l=>by
  have h1:=stmtP_len (params:=params) (many:=many) (depth:=depth) (rec:=rec) r (l.take 6)
  have h2:=rowsP_len (params:=params) (many:=many) (depth:=depth) (rec:=rec) k (l.drop 6)
  simp only[rowsP,List.length_append]
  omega
theorem stmtsP_len {params:List Str} {many depth:Int} (f:Nat) {l:List Raw} (_:l.length≤6):(stmtsP params many f l depth).length≤8:=by
 cases f with
 | zero=>simp[stmtsP]
 | succ f=>exact rowsP_len 4 l
theorem up_g:([[.int 5,.int 1,.str [],.str [],.sl 5 [gX (varX sy),gX (numX 1)]]]:List (List GV))=[upP].map Expr.g:=rfl
theorem below_g (r:Raw):([[.int 5,.int 7,.str [],.str [],.sl 5 [gX (varX sy),gX (numX (pickN r.b 6))]]]:List (List GV))=[belowP r].map Expr.g:=rfl
theorem while_g {out sc:List Barb.Stmt} {r:Raw}:(out.map Stmt.g++[[.int 1,.str sy,.sl 5 [gX (numX 0)],.sl 5 [],.sl 5 []]])++[[.int 4,.str [],.sl 5 [[.int 5,.int 7,.str [],.str [],.sl 5 [gX (varX sy),gX (numX (pickN r.b 6))]]],.sl 5 (sc.map Stmt.g++[[.int 1,.str sy,.sl 5 [[.int 5,.int 1,.str [],.str [],.sl 5 [gX (varX sy),gX (numX 1)]]],.sl 5 [],.sl 5 []]]),.sl 5 []]] =
  (out++[Stmt.mk 1 sy [numX 0] [] [],Stmt.mk 4 [] [belowP r] (sc++[.mk 1 sy [upP] [] []]) []]).map Stmt.g:=by
 have e1:=out_one (l:=out) (k:=1) (s:=sy) (xs:=[numX 0]) (b:=[]) (e:=[]) (X:=[gX (numX 0)]) (gX1 _)
 have e2:=out_one (l:=sc) (k:=1) (s:=sy) (xs:=[upP]) (b:=[]) (e:=[]) up_g
 have e3:=out_one (l:=out++[Stmt.mk 1 sy [numX 0] [] []]) (k:=4) (s:=[]) (xs:=[belowP r]) (b:=sc++[.mk 1 sy [upP] [] []]) (e:=[]) (below_g r)
 simp only[List.map_nil] at e1 e2 e3
 rw[e1,e2,e3,List.append_assoc]
 rfl
structure SL where
 n:Nat
 out:List Stmt
 rest:List Raw
end Barb
namespace Go.Proofs.YtjkplhnbiejefaaDoor
open Go Go.Dm Go.Eng Go.RowKit Barb
set_option maxRecDepth 20000 in
set_option maxHeartbeats 8000000 in
theorem Stmts_Q (params:List Str) (hp:params.length≤1000) (many:Nat) (hm:1≤many∧many≤3):∀ (f:Nat),f≤4398046511104→∀ (l:List Raw),l.length≤f→(∀ r∈l,r.I)→∀ depth:Int,1≤depth∧depth≤4 →
  ∀ Q:Out→Prop,(∀ (h:Heap) (i:Nat),h[i]?=some (.row ((stmtsP params many (f+1) l depth).map Stmt.g) 34 5)→RetTo Q h (.row i)) →
  CT Tryd.prog gl 7 [.g (.sl 4 (l.map Raw.g)),.g (.sl 1 (params.map strG)),.g (.int many),.g (.int depth)] Q:=by
 intro f
 induction f with
 | zero =>
  intro _ l hl _ depth _ Q hQ
  have hl0:l=[]:=List.length_eq_zero_iff.1 (by omega)
  subst hl0
  refine enter hT hF hM Tryd.func7 rfl 157 rfl (by kernel_rfl) [.tmp 8] rfl [.g (.sl 4 (List.map Raw.g [])),.g (.sl 1 (params.map strG)),.g (.int many),.g (.int depth)] rfl _ ?_
  refine loopR (ι:=PUnit) (fun _=>[(0,.g (.sl 4 (List.map Raw.g []))),(9,.row 0),(10,.g (.int 0))]) (fun _=>[.row [] 34 5]) (fun _=>True) (fun _=>0)
   ⟨⟨⟩,[.nil 34 5],⟨rfl,.inl rfl,.inr ⟨lk rfl,.inr rfl,lk rfl,trivial⟩,rfl⟩,trivial⟩ ?_
  intro Rd hRd _ _
  exact ⟨fun h=>absurd h (by decide),fun _=>⟨rfl,hQ _ _ rfl⟩⟩
 | succ f ih =>
  intro hf l hl hI depth hd Q hQ
  refine enterJ [24] hT hF hM Tryd.func7 rfl 157 rfl (by kernel_rfl) [.tmp 8] rfl [.g (.sl 4 (l.map Raw.g)),.g (.sl 1 (params.map strG)),.g (.int many),.g (.int depth)] rfl _ ?_
  refine loopR (ι:=SL) (fun i=>[(0,.g (.sl 4 (i.rest.map Raw.g))),(9,.row 0),(10,.g (.int (i.n:Int)))]) (fun i=>[.row (i.out.map Stmt.g) 34 5])
   (fun i=>i.n≤4∧i.out.length≤8*i.n∧i.rest.length≤l.length∧(∀ r∈i.rest,r.I)∧i.out++rowsP params many depth (stmtsP params many (f+1)) (4 - i.n) i.rest=stmtsP params many (f+1+1) l depth) (fun i=>i.rest.length)
   ⟨⟨0,[],l⟩,[.nil 34 5],⟨rfl,.inl rfl,.inr ⟨lk rfl,.inr rfl,lk rfl,trivial⟩,rfl⟩,Nat.zero_le _,Nat.zero_le _,Nat.le_refl _,hI,rfl⟩ ?_
  rintro Rd hRd ⟨n,out,rest⟩ ⟨hn,hol,hrl,hri,hfin⟩
  dsimp only at hn hol hrl hri hfin
  have fin:rowsP params many depth (stmtsP params many (f+1)) (4 - n) rest=[]→out=stmtsP params many (f+1+1) l depth:=fun h=>by rw[h,List.append_nil] at hfin;exact hfin
  refine ⟨fun hlt=>⟨fun h4=>?_,fun h4=>⟨rfl,hQ _ _ (by rw[← fin (by rw[show 4 - n=0 by have:¬(n:Int) < 4:=h4;omega];rfl)];rfl)⟩⟩,fun hge=>⟨rfl,hQ _ _ (by rw[← fin (by rw[show rest=[] from List.length_eq_zero_iff.1 (by have h0:¬(0:Int) < ((rest.map Raw.g).length:Nat):=hge;rw[List.length_map] at h0;omega)];cases 4 - n<;>rfl)];rfl)⟩⟩
  have h4':n < 4:=by have:(n:Int) < 4:=h4;omega
  match rest,hrl,hri,hfin,hlt with
  | [],_,_,_,hlt=>exact absurd hlt (Int.lt_irrefl 0)
  | r :: tl,hrl,hri,hfin,hlt =>
  obtain ⟨rk,ra,rb,rc⟩:=hri r List.mem_cons_self
  have hIt:∀ x∈tl,x.I:=fun x hx=>hri x (List.mem_cons_of_mem _ hx)
  have hrl':tl.length+1≤l.length:=hrl
  obtain ⟨hh,hhe⟩:∃ hh:Nat,hh=min (tl.length+1) 7:=⟨_,rfl⟩
  have lr:((r :: tl).map Raw.g).length=tl.length+1:=by simp
  have hmin:D.g (.int (if (7:Int) < (((r :: tl).map Raw.g).length:Nat) then (7:Int) else (((r :: tl).map Raw.g).length:Nat)))=D.g (.int (hh:Int)):=dJ (by rw[lr];split<;>omega)
  have hpart:(((r :: tl).map Raw.g).take hh).drop 1=(tl.take 6).map Raw.g:=by
   rw[hhe,← List.map_take,← List.map_drop]
   congr 1
   obtain ⟨m,hm'⟩:∃ m,min (tl.length+1) 7=m+1:=⟨min tl.length 6,by omega⟩
   rw[hm',List.take_succ_cons,List.drop_succ_cons,List.drop_zero]
   by_cases h6:tl.length≤6
   ·rw[List.take_of_length_le (by omega),List.take_of_length_le h6]
   ·rw[show m=6 by omega]
  have hrest:((r :: tl).map Raw.g).drop hh=(tl.drop 6).map Raw.g:=by
   rw[hhe,← List.map_drop]
   congr 1
   obtain ⟨m,hm'⟩:∃ m,min (tl.length+1) 7=m+1:=⟨min tl.length 6,by omega⟩
   rw[hm',List.drop_succ_cons]
   by_cases h6:tl.length≤6
   ·rw[List.drop_eq_nil_iff.2 (by omega),List.drop_eq_nil_iff.2 h6]
   ·rw[show m=6 by omega]
  have hlp:(tl.take 6).length≤6∧(tl.take 6).length≤f:=by rw[List.length_take];omega
  have hIp:∀ x∈tl.take 6,x.I:=fun x hx=>hIt x (List.mem_of_mem_take hx)
  generalize hpt:tl.take 6=part at hpart hlp hIp
  have hx:CT Tryd.prog gl 12 [.g (.sl 4 ((((r :: tl).map Raw.g).take hh).drop 1)),.g (.sl 1 (params.map strG)),.g (.int many),.g (.int 1)] (Is (.agg (exprP params many part.length part 1).d)):=by
   rw[hpart]
   exact Expr_any params hp many hm part.length (by omega) part (Nat.le_refl _) hIp 1 (by omega)
  have hst:stmtP params many depth (stmtsP params many (f+1)) r part=stmtP params many depth (stmtsP params many (f+1)) r part:=rfl
  conv at hst=>rhs;unfold stmtP
  dsimp only at hst
  generalize exprP params many part.length part 1=x at hx hst
  have hnext:rowsP params many depth (stmtsP params many (f+1)) (4 - n) (r :: tl)=stmtP params many depth (stmtsP params many (f+1)) r part++rowsP params many depth (stmtsP params many (f+1)) (4 - (n+1)) (tl.drop 6):=by
   rw[show 4 - n=(4 - (n+1))+1 by omega,← hpt];rfl
  rw[hnext,← List.append_assoc] at hfin
  generalize stmtP params many depth (stmtsP params many (f+1)) r part=here at hst hfin
  obtain ⟨kv,hkv,hkvl⟩:=pickN_nat r.a (many:=(varsP params).length) (by simp[varsP])
  have hVl:(([[GV.str sx],[.str sy]]++params.map strG).length:Int)=((varsP params).length:Int):=by simp[varsP]
  have hvar:pickP (varsP params) r.a=(varsP params)[kv]:=by unfold pickP;rw[hkv];exact at_getD' hkvl []
  rw[hvar] at hst
  generalize hvn:(varsP params)[kv]=vn at hst
  have hget:([[GV.str sx],[.str sy]]++params.map strG)[kv]?=some [.str vn]:=by rw[← hvn];exact (show ((varsP params).map strG)[kv]?=some [.str (varsP params)[kv]] from gm hkvl)
  have next:∀ (here':List Barb.Stmt),here=here'→here'.length≤8→(n+1≤4∧(out++here').length≤8*(n+1)∧(tl.drop 6).length≤l.length∧(∀ r∈tl.drop 6,r.I)∧(out++here')++rowsP params many depth (stmtsP params many (f+1)) (4 - (n+1)) (tl.drop 6)=stmtsP params many (f+1+1) l depth):=fun here' he h8=>by
   subst he
   exact ⟨by omega,by rw[List.length_append];omega,by rw[List.length_drop];omega,fun x hx=>hIt x (List.mem_of_mem_drop hx),hfin⟩
  have less:(tl.drop 6).length < (r :: tl).length:=by rw[List.length_drop,List.length_cons];omega
  refine brSkip ?_
  refine stepJ (by rfl) ?_
  refine stepJ (by rfl) ⟨0,_,rfl,rfl,Hold.mk ?_⟩
  refine stepJ (by rfl) ⟨1,hh,rfl,hmin,by omega,(by show hh≤((r :: tl).map Raw.g).length;omega),Hold.mk ?_⟩
  refine stepJ (by rfl) ⟨hh,hmin,(by show hh≤((r :: tl).map Raw.g).length;omega),Hold.mk ?_⟩
  refine stepJ (by rfl) ⟨[[.str sx],[.str sy]],rfl,rfl,⟨rfl,rfl,trivial⟩,⟨by simp[maxLen];omega,by simp;omega⟩,Hold.mk ?_⟩
  refine stepJ (by rfl) (callIs (.inl rfl) hx (Hold.mk ?_))
  refine joinJ (by rfl) (ι:=PUnit) (fun _=>[(0,.g (.sl 4 (((r :: tl).map Raw.g).drop hh))),(1,.g (.sl 1 (params.map strG))),(2,.g (.int many)),(3,.g (.int depth)),(9,.row 0),(10,.g (.int (n:Int))),(11,.ptr 1 0),(12,.g (.sl 4 ((((r :: tl).map Raw.g).take hh).drop 1))),(14,.ptr 4 0),(15,.ptr 6 0)])
   (fun _=>[.row (out.map Stmt.g) 34 5,.blk r.d 52,.dead,.row ([[GV.str sx],[.str sy]]++params.map strG) 9 1,.blk x.d 29,.row [gX x] 29 5,.blk [.g (.int 1),.g (.str vn),.row 5,.nils,.nils] 34]) (fun _=>True) (fun e0 _ _=>?_) (fun Rj hRj=>?_)
  rotate_left
  ·refine ⟨some 9994,[12],rfl,?_⟩
   refine ⟨_,_,.inl rfl,picked_any r.a _ ra (by rw[hVl];simp[varsP];omega),rfl,?_⟩
   refine ⟨kv,dJ (by rw[hVl];exact hkv),(by show kv < ((varsP params).map strG).length;rw[List.length_map];exact hkvl),?_⟩
   refine ⟨_,hget,?_⟩
   refine ⟨[gX x],rfl,rfl,⟨rfl,rfl,rfl,rfl,rfl,trivial⟩,⟨_,rfl⟩,?_⟩
   exact hRj ⟨⟩ _ ⟨rfl,rfl,rfl,rfl,rfl,rfl,rfl,rfl,rfl,rfl,trivial⟩ trivial
  refine callIs (.inl rfl) (picked_any r.kind 12 rk (by decide)) ?_
  have k12:=pickN_lo r.kind (many:=12) (by decide)
  generalize pickN r.kind 12=k at hst k12
  have num:=(show CT Tryd.prog gl _ _ _ from numK_any r ⟨rk,ra,rb,rc⟩)
  have hPl:((((r :: tl).map Raw.g).take hh).drop 1).length=part.length:=by rw[hpart,List.length_map]
  have hP2:(((((r :: tl).map Raw.g).take hh).drop 1).length:Int).tdiv 2=((part.length / 2:Nat):Int):=by rw[hPl,Int.tdiv_eq_ediv_of_nonneg (by omega)];omega
  refine ⟨fun g2=>?_,fun g2=>?_⟩
  ·rw[if_pos g2] at hst
   refine ⟨none,rfl,?_⟩
   refine ⟨_,_,.inl rfl,num,rfl,?_⟩
   refine ⟨[gX (numP r),gX x],rfl,rfl,⟨rfl,rfl,rfl,rfl,rfl,rfl,rfl,rfl,rfl,rfl,trivial⟩,?_⟩
   refine ⟨[[.int 2,.str sarr,.sl 5 [gX (numP r),gX x],.sl 5 [],.sl 5 []]],rfl,rfl,⟨rfl,rfl,seesRow rfl rfl,⟨5,rfl⟩,⟨5,rfl⟩,trivial⟩,?_⟩
   refine ⟨⟨by simp[maxLen];omega,by simp;omega⟩,?_⟩
   exact Hold.mk ⟨_,I64.wrap (by unfold I64;omega),hRd _ _ _ ⟨⟨n+1,out++[.mk 2 sarr [numP r,x] [] []],tl.drop 6⟩,[.old 9],⟨rfl,.inr ⟨⟨out_one (b:=[]) (e:=[]) (gX2 _ _),rfl,rfl⟩,trivial⟩,.inr ⟨lk (congrArg (fun z=>D.g (.sl 4 z)) hrest),lk rfl,lkI (by push_cast;rfl),trivial⟩,rfl⟩,next _ hst (by simp),less⟩⟩
  rw[if_neg g2] at hst
  refine ⟨fun g3=>?_,fun g3=>?_⟩
  ·rw[if_pos g3] at hst
   refine ⟨[gX x],rfl,rfl,⟨rfl,rfl,rfl,rfl,rfl,trivial⟩,?_⟩
   refine ⟨[[.int 6,.str [],.sl 5 [gX x],.sl 5 [],.sl 5 []]],rfl,rfl,⟨rfl,rfl,seesRow rfl rfl,⟨5,rfl⟩,⟨5,rfl⟩,trivial⟩,?_⟩
   refine ⟨⟨by simp[maxLen];omega,by simp;omega⟩,?_⟩
   exact Hold.mk ⟨_,I64.wrap (by unfold I64;omega),hRd _ _ _ ⟨⟨n+1,out++[.mk 6 [] [x] [] []],tl.drop 6⟩,[.old 9],⟨rfl,.inr ⟨⟨out_one (b:=[]) (e:=[]) (gX1 _),rfl,rfl⟩,trivial⟩,.inr ⟨lk (congrArg (fun z=>D.g (.sl 4 z)) hrest),lk rfl,lkI (by push_cast;rfl),trivial⟩,rfl⟩,next _ hst (by simp),less⟩⟩
  rw[if_neg g3] at hst
  refine ⟨fun g4=>?_,fun g4=>?_⟩
  ·rw[if_pos g4] at hst
   refine ⟨[gX x],rfl,rfl,⟨rfl,rfl,rfl,rfl,rfl,trivial⟩,?_⟩
   refine ⟨[[.int 5,.str [],.sl 5 [gX x],.sl 5 [],.sl 5 []]],rfl,rfl,⟨rfl,rfl,seesRow rfl rfl,⟨5,rfl⟩,⟨5,rfl⟩,trivial⟩,?_⟩
   refine ⟨⟨by simp[maxLen];omega,by simp;omega⟩,?_⟩
   exact Hold.mk ⟨_,I64.wrap (by unfold I64;omega),hRd _ _ _ ⟨⟨n+1,out++[.mk 5 [] [x] [] []],tl.drop 6⟩,[.old 9],⟨rfl,.inr ⟨⟨out_one (b:=[]) (e:=[]) (gX1 _),rfl,rfl⟩,trivial⟩,.inr ⟨lk (congrArg (fun z=>D.g (.sl 4 z)) hrest),lk rfl,lkI (by push_cast;rfl),trivial⟩,rfl⟩,next _ hst (by simp),less⟩⟩
  rw[if_neg g4] at hst
  refine ⟨fun g6=>⟨fun g7=>?_,fun g7=>?_⟩,fun g6=>?_⟩
  ·rw[if_pos ⟨g6,g7⟩] at hst
   have hs1:CT Tryd.prog gl 7 [.g (.sl 4 (((((r :: tl).map Raw.g).take hh).drop 1).take (part.length / 2))),.g (.sl 1 (params.map strG)),.g (.int many),.g (.int (depth+1))] (Is (.g (.sl 5 ((stmtsP params many (f+1) (part.take (part.length / 2)) (depth+1)).map Stmt.g)))):=by
    rw[hpart,← List.map_take]
    exact ih (by omega) _ (by rw[List.length_take];omega) (fun x hx=>hIp x (List.mem_of_mem_take hx)) (depth+1) (by omega) _ (fun h i hi=>retIs (.inl (by simp only[conv,kp,hi])))
   have hs2:CT Tryd.prog gl 7 [.g (.sl 4 (((((r :: tl).map Raw.g).take hh).drop 1).drop (part.length / 2))),.g (.sl 1 (params.map strG)),.g (.int many),.g (.int (depth+1))] (Is (.g (.sl 5 ((stmtsP params many (f+1) (part.drop (part.length / 2)) (depth+1)).map Stmt.g)))):=by
    rw[hpart,← List.map_drop]
    exact ih (by omega) _ (by rw[List.length_drop];omega) (fun x hx=>hIp x (List.mem_of_mem_drop hx)) (depth+1) (by omega) _ (fun h i hi=>retIs (.inl (by simp only[conv,kp,hi])))
   generalize stmtsP params many (f+1) (part.take (part.length / 2)) (depth+1)=sa at hs1 hst
   generalize stmtsP params many (f+1) (part.drop (part.length / 2)) (depth+1)=sb at hs2 hst
   have hdw:IntKind.i64.wrap (depth+1)=depth+1:=I64.wrap (by unfold I64;omega)
   have hI2:I64 ((((((r :: tl).map Raw.g).take hh).drop 1).length:Int).tdiv 2):=by rw[hP2];unfold I64;omega
   refine ⟨some 2000,rfl,?_⟩
   refine ⟨[gX x],rfl,rfl,⟨rfl,rfl,rfl,rfl,rfl,trivial⟩,⟨_,rfl⟩,?_⟩
   refine ⟨by decide,hI2,part.length / 2,dJ hP2,by omega,?_⟩
   refine ⟨_,hdw,_,_,.inl rfl,hs1,rfl,?_⟩
   refine ⟨by decide,hI2,part.length / 2,dJ hP2,by omega,?_⟩
   refine ⟨_,hdw,_,_,.inl rfl,hs2,rfl,?_⟩
   refine ⟨[[.int 3,.str [],.sl 5 [gX x],.sl 5 (sa.map Stmt.g),.sl 5 (sb.map Stmt.g)]],rfl,rfl,⟨rfl,rfl,seesRow rfl rfl,rfl,rfl,trivial⟩,?_⟩
   refine ⟨⟨by simp[maxLen];omega,by simp;omega⟩,?_⟩
   exact Hold.mk ⟨_,I64.wrap (by unfold I64;omega),hRd _ _ _ ⟨⟨n+1,out++[.mk 3 [] [x] sa sb],tl.drop 6⟩,[.old 9],⟨rfl,.inr ⟨⟨out_one (b:=sa) (e:=sb) (gX1 _),rfl,rfl⟩,trivial⟩,.inr ⟨lk (congrArg (fun z=>D.g (.sl 4 z)) hrest),lk rfl,lkI (by push_cast;rfl),trivial⟩,rfl⟩,next _ hst (by simp),less⟩⟩
  ·rw[if_neg (fun h=>g7 h.2),if_neg (fun h=>by omega)] at hst
   refine ⟨fun h=>absurd h (by omega),fun _=>?_⟩
   refine ⟨[[.int 1,.str vn,.sl 5 [gX x],.sl 5 [],.sl 5 []]],rfl,rfl,⟨rfl,rfl,seesRow rfl rfl,⟨5,rfl⟩,⟨5,rfl⟩,trivial⟩,?_⟩
   refine ⟨⟨by simp[maxLen];omega,by simp;omega⟩,?_⟩
   exact Hold.mk ⟨_,I64.wrap (by unfold I64;omega),hRd _ _ _ ⟨⟨n+1,out++[.mk 1 vn [x] [] []],tl.drop 6⟩,[.old 8],⟨rfl,.inr ⟨⟨out_one (b:=[]) (e:=[]) (gX1 _),rfl,rfl⟩,trivial⟩,.inr ⟨lk (congrArg (fun z=>D.g (.sl 4 z)) hrest),lk rfl,lkI (by push_cast;rfl),trivial⟩,rfl⟩,next _ hst (by simp),less⟩⟩
  rw[if_neg (fun h=>g6 h.1)] at hst
  refine ⟨fun g8=>⟨fun g9=>?_,fun g9=>?_⟩,fun g8=>?_⟩
  ·rw[if_pos ⟨g8,g9⟩] at hst
   have hs3:CT Tryd.prog gl 7 [.g (.sl 4 ((((r :: tl).map Raw.g).take hh).drop 1)),.g (.sl 1 (params.map strG)),.g (.int many),.g (.int (depth+2))] (fun o=>o=.ret (.row 0) [.row ((stmtsP params many (f+1) part (depth+2)).map Stmt.g) 34 5]):=by
    rw[hpart]
    exact ih (by omega) _ hlp.2 hIp (depth+2) (by omega) _ (fun h i hi=>retRow hi rfl rfl)
   have hsl:(stmtsP params many (f+1) part (depth+2)).length≤8:=stmtsP_len (f+1) hlp.1
   generalize stmtsP params many (f+1) part (depth+2)=sc at hs3 hst hsl
   have lsc:(sc.map Stmt.g).length=sc.length:=List.length_map _
   have hdw:IntKind.i64.wrap (depth+2)=depth+2:=I64.wrap (by unfold I64;omega)
   have hb6:=(show CT Tryd.prog gl _ _ _ from picked_any r.b 6 rb (by decide))
   refine ⟨[[.int 1,.int 0,.str [],.str [],.sl 5 []]],rfl,rfl,⟨rfl,rfl,rfl,rfl,⟨5,rfl⟩,trivial⟩,?_⟩
   refine ⟨[[.int 1,.str sy,.sl 5 [gX (numX 0)],.sl 5 [],.sl 5 []]],rfl,rfl,⟨rfl,rfl,seesRow rfl rfl,⟨5,rfl⟩,⟨5,rfl⟩,trivial⟩,?_⟩
   refine ⟨⟨by simp[maxLen];omega,by simp;omega⟩,?_⟩
   refine ⟨[gX (varX sy),gX (numX 1)],rfl,rfl,⟨rfl,rfl,rfl,rfl,⟨5,rfl⟩,rfl,rfl,rfl,rfl,⟨5,rfl⟩,trivial⟩,?_⟩
   refine callIs (.inl rfl) hb6 ?_
   refine ⟨[gX (varX sy),gX (numX (pickN r.b 6))],rfl,rfl,⟨rfl,rfl,rfl,rfl,⟨5,rfl⟩,rfl,rfl,rfl,rfl,⟨5,rfl⟩,trivial⟩,?_⟩
   refine turnTo [.old 9,.old 6,.old 11,.old 13] [(9,.row 0),(15,.ptr 1 0),(17,.ptr 2 0),(18,.ptr 3 0)]
    [.row (out.map Stmt.g++[[.int 1,.str sy,.sl 5 [gX (numX 0)],.sl 5 [],.sl 5 []]]) 34 5,.blk [.g (.int 1),.g (.str vn),.g (.sl 5 [gX x]),.nils,.nils] 34,
     .blk [.g (.int 5),.g (.int 1),.g (.str []),.g (.str []),.g (.sl 5 [gX (varX sy),gX (numX 1)])] 29,.blk [.g (.int 5),.g (.int 7),.g (.str []),.g (.str []),.g (.sl 5 [gX (varX sy),gX (numX (pickN r.b 6))])] 29]
    ?_ ?_
   ·exact ⟨rfl,.inl rfl,.inl rfl,rfl⟩
   refine ⟨some 4500,rfl,?_⟩
   refine ⟨_,hdw,_,_,_,.inl rfl,hs3,rfl,?_⟩
   refine ⟨[[.int 5,.int 1,.str [],.str [],.sl 5 [gX (varX sy),gX (numX 1)]]],rfl,rfl,⟨rfl,rfl,rfl,rfl,rfl,trivial⟩,?_⟩
   refine ⟨[[.int 1,.str sy,.sl 5 [[.int 5,.int 1,.str [],.str [],.sl 5 [gX (varX sy),gX (numX 1)]]],.sl 5 [],.sl 5 []]],rfl,rfl,⟨rfl,rfl,rfl,⟨5,rfl⟩,⟨5,rfl⟩,trivial⟩,?_⟩
   refine ⟨⟨by simp[maxLen];omega,by simp;omega⟩,?_⟩
   refine ⟨[[.int 5,.int 7,.str [],.str [],.sl 5 [gX (varX sy),gX (numX (pickN r.b 6))]]],rfl,rfl,⟨rfl,rfl,rfl,rfl,rfl,trivial⟩,?_⟩
   refine ⟨[[.int 4,.str [],.sl 5 [[.int 5,.int 7,.str [],.str [],.sl 5 [gX (varX sy),gX (numX (pickN r.b 6))]]],.sl 5 (sc.map Stmt.g++[[.int 1,.str sy,.sl 5 [[.int 5,.int 1,.str [],.str [],.sl 5 [gX (varX sy),gX (numX 1)]]],.sl 5 [],.sl 5 []]]),.sl 5 []]],rfl,rfl,⟨rfl,rfl,seesRow rfl rfl,seesRow rfl rfl,⟨5,rfl⟩,trivial⟩,?_⟩
   refine ⟨⟨by simp[maxLen];omega,by simp;omega⟩,?_⟩
   exact Hold.mk ⟨_,I64.wrap (by unfold I64;omega),hRd _ _ _ ⟨⟨n+1,out++[.mk 1 sy [numX 0] [] [],.mk 4 [] [belowP r] (sc++[.mk 1 sy [upP] [] []]) []],tl.drop 6⟩,[.old 8],⟨rfl,.inr ⟨⟨while_g,rfl,rfl⟩,trivial⟩,.inr ⟨lk (congrArg (fun z=>D.g (.sl 4 z)) hrest),lk rfl,lkI (by push_cast;rfl),trivial⟩,rfl⟩,next _ hst (by simp),less⟩⟩
  ·rw[if_neg (fun h=>g9 h.2)] at hst
   refine ⟨[[.int 1,.str vn,.sl 5 [gX x],.sl 5 [],.sl 5 []]],rfl,rfl,⟨rfl,rfl,seesRow rfl rfl,⟨5,rfl⟩,⟨5,rfl⟩,trivial⟩,?_⟩
   refine ⟨⟨by simp[maxLen];omega,by simp;omega⟩,?_⟩
   exact Hold.mk ⟨_,I64.wrap (by unfold I64;omega),hRd _ _ _ ⟨⟨n+1,out++[.mk 1 vn [x] [] []],tl.drop 6⟩,[.old 8],⟨rfl,.inr ⟨⟨out_one (b:=[]) (e:=[]) (gX1 _),rfl,rfl⟩,trivial⟩,.inr ⟨lk (congrArg (fun z=>D.g (.sl 4 z)) hrest),lk rfl,lkI (by push_cast;rfl),trivial⟩,rfl⟩,next _ hst (by simp),less⟩⟩
  ·rw[if_neg (fun h=>g8 h.1)] at hst
   refine ⟨[[.int 1,.str vn,.sl 5 [gX x],.sl 5 [],.sl 5 []]],rfl,rfl,⟨rfl,rfl,seesRow rfl rfl,⟨5,rfl⟩,⟨5,rfl⟩,trivial⟩,?_⟩
   refine ⟨⟨by simp[maxLen];omega,by simp;omega⟩,?_⟩
   exact Hold.mk ⟨_,I64.wrap (by unfold I64;omega),hRd _ _ _ ⟨⟨n+1,out++[.mk 1 vn [x] [] []],tl.drop 6⟩,[.old 8],⟨rfl,.inr ⟨⟨out_one (b:=[]) (e:=[]) (gX1 _),rfl,rfl⟩,trivial⟩,.inr ⟨lk (congrArg (fun z=>D.g (.sl 4 z)) hrest),lk rfl,lkI (by push_cast;rfl),trivial⟩,rfl⟩,next _ hst (by simp),less⟩⟩
end Go.Proofs.YtjkplhnbiejefaaDoor
/-
  Programs of raw things: the contract of Program.
-/
namespace Go.Proofs.YtjkplhnbiejefaaDoor
open Go Go.Dm Go.Eng Go.RowKit Barb
theorem Stmts_is (params:List Str) (hp:params.length≤1000) (many:Nat) (hm:1≤many∧many≤3) (l:List Raw) (hl:l.length≤4398046511103) (hI:∀ r∈l,r.I) :
  CT Tryd.prog gl 7 [.g (.sl 4 (l.map Raw.g)),.g (.sl 1 (params.map strG)),.g (.int many),.g (.int 1)] (Is (.g (.sl 5 ((bodyP params many l).map Stmt.g)))) :=
 Stmts_Q params hp many hm l.length (by omega) l (Nat.le_refl _) hI 1 (by omega) _ (fun h i hi=>retIs (.inl (by simp only[conv,kp,hi];rfl)))
theorem unit_g (u:Barb.Unit):u.g=[.str u.name,.sl 1 (u.vars.map strG),.sl 2 (u.arrays.map Arr.g),.sl 4 (u.funcs.map Fun.g)]:=rfl
set_option maxRecDepth 20000 in
set_option maxHeartbeats 8000000 in
theorem Program_Q (l:List Raw) (hl:l.length*32≤140737488351232) (hI:∀ r∈l,r.I) (Q:Out→Prop) (hQ:∀ (h:Heap) (i:Nat),h[i]?=some (.row ((programP l).map Unit.g) 41 4)→RetTo Q h (.row i)) :
  CT Tryd.prog gl 4 [.g (.sl 4 (l.map Raw.g))] Q:=by
 have ll:(l.map Raw.g).length=l.length:=List.length_map _
 obtain ⟨k3,hk3,hk3l⟩:=pickN_nat l.length (many:=3) (by decide)
 obtain ⟨M,hMe⟩:∃ M,M=manyP l:=⟨_,rfl⟩
 have hMk:(M:Int)=1+pickN l.length 3:=by rw[hMe];unfold manyP;rw[show (3:Int)=((3:Nat):Int) from rfl,hk3];omega
 have hm:1≤M∧M≤3:=by rw[show (3:Int)=((3:Nat):Int) from rfl,hk3] at hMk;omega
 have hpk:CT Tryd.prog gl 6 [.g (.int ((l.map Raw.g).length:Nat)),.g (.int 3)] (Is (.g (.int (pickN l.length 3)))):=by
  rw[ll];exact picked_any l.length 3 (by unfold I64;omega) (by decide)
 have hw:IntKind.i64.wrap (1+pickN l.length 3)=(M:Int):=by rw[← hMk];exact I64.wrap (by unfold I64;omega)
 refine enter hT hF hM Tryd.func4 rfl 74 rfl (by kernel_rfl) [.tmp 2] rfl [.g (.sl 4 (l.map Raw.g))] rfl _ ?_
 refine callIs (.inl rfl) hpk ⟨_,hw,?_⟩
 refine loopR (ι:=Nat) (fun i=>[(0,.g (.sl 4 (l.map Raw.g))),(3,.g (.int (M:Int))),(4,.row 0),(12,.g (.int (M:Int))),(13,.g (.int (i:Int)))]) (fun i=>[.row (((List.range i).map (unitOf l M)).map Unit.g) 41 4]) (fun i=>i≤M) (fun i=>M - i)
  ⟨0,[.nil 41 4],⟨rfl,.inl rfl,.inr ⟨lk rfl,lk rfl,.inr rfl,lk rfl,lk rfl,trivial⟩,rfl⟩,Nat.zero_le _⟩ ?_
 intro Rd hRd i hi
 refine ⟨fun hlt=>?_,fun hge=>?_⟩
 rotate_left
 ·have hiM:i=M:=by omega
  exact ⟨rfl,hQ _ _ (by rw[hiM,hMe];rfl)⟩
 have hiM:i < M:=by omega
 have hmul:∀ a:Nat,a≤4→a*l.length≤4*l.length:=fun a ha=>Nat.mul_le_mul_right _ ha
 have h1:=hmul i (by omega)
 have h2:=hmul (i+1) (by omega)
 have c1:((i:Int)*((l.map Raw.g).length:Nat))=((i*l.length:Nat):Int):=by rw[ll];push_cast;rfl
 have c2:(((i:Int)+1)*((l.map Raw.g).length:Nat))=(((i+1)*l.length:Nat):Int):=by rw[ll];push_cast;rfl
 obtain ⟨lo,hlo⟩:∃ lo,lo=i*l.length / M:=⟨_,rfl⟩
 obtain ⟨hi',hhi⟩:∃ hi',hi'=(i+1)*l.length / M:=⟨_,rfl⟩
 have d1:((i:Int)*((l.map Raw.g).length:Nat)).tdiv M=(lo:Int):=by rw[c1,Int.tdiv_eq_ediv_of_nonneg (by omega),hlo];rfl
 have d2:(((i:Int)+1)*((l.map Raw.g).length:Nat)).tdiv M=(hi':Int):=by rw[c2,Int.tdiv_eq_ediv_of_nonneg (by omega),hhi];rfl
 have hle:lo≤hi':=by rw[hlo,hhi];exact Nat.div_le_div_right (Nat.mul_le_mul_right _ (by omega))
 have hhl:hi'≤l.length:=by
  rw[hhi]
  have:(i+1)*l.length≤M*l.length:=Nat.mul_le_mul_right _ hiM
  exact Nat.le_trans (Nat.div_le_div_right this) (by rw[Nat.mul_div_cancel_left _ (by omega)];exact Nat.le_refl _)
 have hwi:IntKind.i64.wrap ((i:Int)+1)=(i:Int)+1:=I64.wrap (by unfold I64;omega)
 have hpart:((l.map Raw.g).take hi').drop lo=(partP l M i).map Raw.g:=by unfold partP;rw[List.map_drop,List.map_take,← hlo,← hhi]
 refine ⟨none,rfl,?_⟩
 refine ⟨by rw[c1];unfold I64;omega,by omega,by rw[d1];unfold I64;omega,?_⟩
 refine ⟨_,hwi,by rw[c2];unfold I64;omega,by omega,by rw[d2];unfold I64;omega,?_⟩
 refine ⟨lo,hi',dJ d1,dJ d2,hle,by rw[ll];exact hhl,?_⟩
 have hpl:(((l.map Raw.g).take hi').drop lo).length=(partP l M i).length:=by rw[hpart,List.length_map]
 have hpln:(partP l M i).length≤l.length:=by unfold partP;rw[List.length_drop,List.length_take];omega
 have hIp:∀ r∈partP l M i,r.I:=fun r hr=>hI r (List.mem_of_mem_take (List.mem_of_mem_drop hr))
 obtain ⟨th,hth⟩:∃ th,th=(partP l M i).length / 3:=⟨_,rfl⟩
 have d3:((((l.map Raw.g).take hi').drop lo).length:Int).tdiv 3=(th:Int):=by rw[hpl,Int.tdiv_eq_ediv_of_nonneg (by omega),hth];rfl
 have s1:CT Tryd.prog gl 7 [.g (.sl 4 ((((l.map Raw.g).take hi').drop lo).take th)),.g (.sl 1 [[.str sp],[.str sq]]),.g (.int M),.g (.int 1)] (Is (.g (.sl 5 ((bodyP [sp,sq] M ((partP l M i).take th)).map Stmt.g)))):=by
  rw[hpart,← List.map_take]
  exact Stmts_is [sp,sq] (by simp) M hm _ (by rw[List.length_take];omega) (fun r hr=>hIp r (List.mem_of_mem_take hr))
 have s2:CT Tryd.prog gl 7 [.g (.sl 4 (((((l.map Raw.g).take hi').drop lo).take (2*th)).drop th)),.g (.sl 1 [[.str sp]]),.g (.int M),.g (.int 1)] (Is (.g (.sl 5 ((bodyP [sp] M (((partP l M i).take (2*th)).drop th)).map Stmt.g)))):=by
  rw[hpart,← List.map_take,← List.map_drop]
  exact Stmts_is [sp] (by simp) M hm _ (by rw[List.length_drop,List.length_take];omega) (fun r hr=>hIp r (List.mem_of_mem_take (List.mem_of_mem_drop hr)))
 have s3:CT Tryd.prog gl 7 [.g (.sl 4 ((((l.map Raw.g).take hi').drop lo).drop (2*th))),.g (.sl 1 []),.g (.int M),.g (.int 1)] (Is (.g (.sl 5 ((bodyP [] M ((partP l M i).drop (2*th))).map Stmt.g)))):=by
  rw[hpart,← List.map_drop]
  exact Stmts_is [] (by simp) M hm _ (by rw[List.length_drop];omega) (fun r hr=>hIp r (List.mem_of_mem_drop hr))
 have hun:unitOf l M i=⟨unitsP.getD i [],[sx,sy],[⟨sarr,2+i⟩],[⟨sf,true,[sp,sq],bodyP [sp,sq] M ((partP l M i).take th)⟩,⟨sg,false,[sp],bodyP [sp] M (((partP l M i).take (2*th)).drop th)⟩,⟨sh,true,[],bodyP [] M ((partP l M i).drop (2*th))⟩]⟩:=by
  rw[hth];rfl
 generalize bodyP [sp,sq] M ((partP l M i).take th)=b1 at s1 hun
 generalize bodyP [sp] M (((partP l M i).take (2*th)).drop th)=b2 at s2 hun
 generalize bodyP [] M ((partP l M i).drop (2*th))=b3 at s3 hun
 have hw2:IntKind.i64.wrap (2+(i:Int))=2+(i:Int):=I64.wrap (by unfold I64;omega)
 have hth3:th≤(((l.map Raw.g).take hi').drop lo).length:=by omega
 have hth2:2*th≤(((l.map Raw.g).take hi').drop lo).length:=by omega
 have hm2:(2:Int)*(th:Int)=((2*th:Nat):Int):=by push_cast;rfl
 have lout:(((List.range i).map (unitOf l M)).map Unit.g).length=i:=by simp
 have hrow:((List.range i).map (unitOf l M)).map Unit.g++[(unitOf l M i).g]=((List.range (i+1)).map (unitOf l M)).map Unit.g:=by rw[List.range_succ];simp
 have hug:(unitOf l M i).g=[.str (unitsP.getD i []),.sl 1 [[.str sx],[.str sy]],.sl 2 [[.str sarr,.int (2+(i:Int))]],.sl 4 [[.str sf,.bool true,.sl 1 [[.str sp],[.str sq]],.sl 5 (b1.map Stmt.g)],[.str sg,.bool false,.sl 1 [[.str sp]],.sl 5 (b2.map Stmt.g)],[.str sh,.bool true,.sl 1 [],.sl 5 (b3.map Stmt.g)]]]:=by
  rw[hun,unit_g]
  simp only[List.map_cons,List.map_nil,Fun.g,Stmt.gs_map]
  rfl
 refine ⟨by decide,by rw[d3];unfold I64;omega,?_⟩
 have i3:i=0∨i=1∨i=2:=by omega
 rcases i3 with rfl | rfl | rfl
 all_goals
  refine ⟨some 2500,rfl,?_⟩
  refine ⟨_,rfl,(by decide),?_⟩
  refine ⟨[[.str sx],[.str sy]],rfl,rfl,⟨rfl,rfl,trivial⟩,?_⟩
  refine ⟨_,hw2,?_⟩
  refine ⟨[[.str sarr,.int _]],rfl,rfl,⟨rfl,rfl,trivial⟩,?_⟩
  refine ⟨[[.str sp],[.str sq]],rfl,rfl,⟨rfl,rfl,trivial⟩,?_⟩
  refine ⟨th,dJ d3,hth3,?_⟩
  refine ⟨[[.str sp],[.str sq]],rfl,rfl,⟨rfl,rfl,trivial⟩,?_⟩
  refine ⟨_,_,.inl rfl,s1,rfl,?_⟩
  refine ⟨[[.str sp]],rfl,rfl,⟨rfl,trivial⟩,?_⟩
  refine ⟨(by rw[d3];unfold I64;omega),?_⟩
  refine ⟨th,2*th,dJ d3,dJ (by rw[d3];exact hm2),by omega,hth2,?_⟩
  refine ⟨[[.str sp]],rfl,rfl,⟨rfl,trivial⟩,?_⟩
  refine ⟨_,_,.inl rfl,s2,rfl,?_⟩
  refine ⟨(by rw[d3];unfold I64;omega),?_⟩
  refine ⟨2*th,dJ (by rw[d3];exact hm2),hth2,?_⟩
  refine ⟨_,_,(show likeA [D.g (.sl 4 ((((l.map Raw.g).take hi').drop lo).drop (2*th))),.nils,.g (.int (M:Int)),.g (.int 1)] [D.g (.sl 4 ((((l.map Raw.g).take hi').drop lo).drop (2*th))),.g (.sl 1 []),.g (.int (M:Int)),.g (.int 1)] from .inr ⟨lk rfl,lkNil,lk rfl,lk rfl,trivial⟩),s3,rfl,?_⟩
  refine ⟨[[.str sf,.bool true,.sl 1 [[.str sp],[.str sq]],.sl 5 (b1.map Stmt.g)],[.str sg,.bool false,.sl 1 [[.str sp]],.sl 5 (b2.map Stmt.g)],[.str sh,.bool true,.sl 1 [],.sl 5 (b3.map Stmt.g)]],rfl,rfl,⟨rfl,rfl,rfl,rfl,rfl,rfl,rfl,rfl,rfl,rfl,⟨1,rfl⟩,rfl,trivial⟩,?_⟩
  refine ⟨[[.str _,.sl 1 [[.str sx],[.str sy]],.sl 2 [[.str sarr,.int _]],.sl 4 [[.str sf,.bool true,.sl 1 [[.str sp],[.str sq]],.sl 5 (b1.map Stmt.g)],[.str sg,.bool false,.sl 1 [[.str sp]],.sl 5 (b2.map Stmt.g)],[.str sh,.bool true,.sl 1 [],.sl 5 (b3.map Stmt.g)]]]],rfl,rfl,⟨rfl,rfl,rfl,rfl,trivial⟩,?_⟩
  refine ⟨⟨by rw[lout];simp[maxLen],by rw[lout];simp⟩,?_⟩
  refine ⟨_,hwi,?_⟩
  refine hRd _ _ _ ⟨_,[.old 1],⟨rfl,.inr ⟨⟨?_,rfl,rfl⟩,trivial⟩,.inr ⟨lk rfl,lk rfl,lk rfl,lk rfl,lkI (by omega),trivial⟩,rfl⟩,hiM,by show M - (_+1) < M - _;omega⟩
  exact (congrArg (fun z=>_++[z]) hug.symm).trans hrow
end Go.Proofs.YtjkplhnbiejefaaDoor
