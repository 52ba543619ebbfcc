/-
  Programs of raw things are in form: the plain law.
-/
import Derived.Test.YtjkplhnbiejefaaDoorGi
import Derived.Test.YtjkplhnbiejefaaDoorPm
import Derived.Test.YtjkplhnbiejefaaDoorSpec2
namespace Barb
open Go Go.Dm Go.Eng
theorem ident_of {s:Str} (h1:1≤s.length) (h8:s.length≤8) (hc:∀ c∈s,97≤c.toNat∧c.toNat≤122) (hk:s ∉ keys):identP s :=
 ⟨⟨⟨h1,h8⟩,fun _ hj=>.inl (hc _ (List.getElem_mem hj))⟩,hk⟩
theorem id_x:identP sx:=ident_of (by decide) (by decide) (by decide) (by decide)
theorem id_y:identP sy:=ident_of (by decide) (by decide) (by decide) (by decide)
theorem id_p:identP sp:=ident_of (by decide) (by decide) (by decide) (by decide)
theorem id_q:identP sq:=ident_of (by decide) (by decide) (by decide) (by decide)
theorem id_f:identP sf:=ident_of (by decide) (by decide) (by decide) (by decide)
theorem id_g:identP sg:=ident_of (by decide) (by decide) (by decide) (by decide)
theorem id_h:identP sh:=ident_of (by decide) (by decide) (by decide) (by decide)
theorem id_arr:identP sarr:=ident_of (by decide) (by decide) (by decide) (by decide)
theorem id_units:∀ s∈unitsP,identP s:=by
 intro s hs
 simp only[unitsP,List.mem_cons,List.not_mem_nil,or_false] at hs
 rcases hs with rfl | rfl | rfl<;>exact ident_of (by decide) (by decide) (by decide) (by decide)
theorem at_getD {α:Type} {l:List α} {k:Nat} (h:k < l.length) (z:α):l.getD k z=l[k]:=by simp[h]
theorem pick_mem {l:List Str} (h:l≠[]) (n:Int):pickP l n∈l:=by
 unfold pickP
 obtain ⟨k,hk,hl⟩:=pickN_nat n (many:=l.length) (List.length_pos_iff.2 h)
 rw[hk]
 show l.getD k []∈l
 rw[at_getD hl]
 exact List.getElem_mem hl
theorem unit_mem {many:Int} (h1:1≤many) (h3:many≤3) (n:Int):unitP n many∈unitsP.take many.toNat:=by
 obtain ⟨m,rfl⟩:∃ m:Nat,many=(m:Int):=⟨many.toNat,by omega⟩
 unfold unitP
 obtain ⟨k,hk,hl⟩:=pickN_nat n (many:=m) (by omega)
 rw[hk]
 show unitsP.getD k []∈unitsP.take m
 have h:k < (unitsP.take m).length:=by rw[List.length_take];show k < min m 3;omega
 have:unitsP.getD k []=(unitsP.take m)[k]:=by
  rw[List.getElem_take]
  exact at_getD (by show k < 3;omega) []
 rw[this]
 exact List.getElem_mem h
structure PX (params:List Str) (many:Int):Prop where
 lo:1≤many
 hi:many≤3
 ids:∀ s∈params,identP s
theorem vars_id {params:List Str} {many:Int} (h:PX params many):∀ s∈varsP params,identP s:=by
 intro s hs
 simp only[varsP,List.cons_append,List.nil_append,List.mem_cons] at hs
 rcases hs with rfl | rfl | hs
 ·exact id_x
 ·exact id_y
 ·exact h.ids s hs
theorem unit_id {many:Int} (h1:1≤many) (h3:many≤3) (n:Int):identP (unitP n many):=id_units _ (List.mem_of_mem_take (unit_mem h1 h3 n))
theorem leaf_num {n:Int} (h0:0≤n) (h1:n≤65535) (f:Nat):exprE (f+1) (numX n)=0:=by
 unfold exprE
 rw[if_neg (by omega),if_neg (by simp),if_neg (fun h=>h (.inl ⟨rfl,rfl,rfl,rfl⟩)),if_neg (by unfold exprBad;omega)]
 rfl
theorem leaf_var {s:Str} (h:identP s) (f:Nat):exprE (f+1) (varX s)=0:=by
 unfold exprE
 rw[if_neg (by omega),if_neg (by simp),if_neg (fun h'=>h' (.inr (.inl ⟨rfl,rfl,h,rfl,rfl⟩))),if_neg (by unfold exprBad;omega)]
 rfl
theorem num_rng (r:Raw):∃ n,numP r=numX n∧0≤n∧n≤65535:=by
 unfold numP
 refine ⟨_,rfl,?_⟩
 split
 ·obtain ⟨k,hk,hl⟩:=pickN_nat r.c (many:=4) (by decide)
  rw[show (4:Int)=((4:Nat):Int) from rfl,hk]
  match k,hl with
  | 0,_=>decide
  | 1,_=>decide
  | 2,_=>decide
  | 3,_=>decide
 ·have:=pickN_lo r.a (many:=6) (by decide)
  omega
theorem first2 {α:Type} {f:α→Int} {a b:α} (ha:f a=0) (hb:f b=0):firstE f [a,b]=0:=by simp[firstE,ha,hb]
theorem first1 {α:Type} {f:α→Int} {a:α} (ha:f a=0):firstE f [a]=0:=by simp[firstE,ha]
theorem exprP_form {params:List Str} {many:Int} (hp:PX params many):∀ (f:Nat) (l:List Raw) (depth:Int) (n:Nat),1≤n→1≤depth→6≤depth+n→exprE n (exprP params many f l depth)=0
 | 0,l,depth,n+1,_,_,_=>leaf_num (by omega) (by omega) n
 | f+1,[],depth,n+1,_,_,_=>leaf_num (by omega) (by omega) n
 | f+1,r :: rest,depth,n+1,_,hd,hn=>by
  have ka:=pickN_lo r.kind (many:=9) (by decide)
  have kb:=pickN_lo r.kind (many:=20) (by decide)
  have ra:=pickN_lo r.a (many:=10) (by decide)
  unfold exprP
  simp only
  generalize hk:(if depth > 4 then pickN r.kind 9 else pickN r.kind 20)=k
  have hk9:¬k < 9→¬depth > 4:=fun h h4=>by rw[if_pos h4] at hk;omega
  split
  ·obtain ⟨v,e,v0,v1⟩:=num_rng r
   rw[e];exact leaf_num v0 v1 n
  ·split
   ·exact leaf_var (vars_id hp _ (pick_mem (by simp[varsP]) _)) n
   ·rename_i h4 h9
    have hd4:=hk9 h9
    have ia:=exprP_form hp f (rest.take (rest.length / 2)) (depth+1) n (by omega) (by omega) (by omega)
    have ib:=exprP_form hp f (rest.drop (rest.length / 2)) (depth+1) n (by omega) (by omega) (by omega)
    split
    ·unfold exprE
     rw[if_neg (by omega),if_neg (by simp),if_neg (fun h'=>h' (.inr (.inr (.inr (.inr ⟨rfl,rfl,rfl,rfl⟩))))),if_neg (by unfold exprBad;omega)]
     exact first2 ia ib
    ·split
     ·unfold exprE
      rw[if_neg (by omega),if_neg (by simp),if_neg (fun h'=>h' (.inr (.inr (.inl ⟨rfl,rfl,id_arr,rfl,rfl⟩)))),if_neg (by unfold exprBad;omega)]
      exact first1 ia
     ·split
      ·unfold exprE
       rw[if_neg (by omega),if_neg (by simp),if_neg (fun h'=>h' (.inr (.inr (.inr (.inl ⟨rfl,.inl rfl,id_g,rfl⟩))))),if_neg (by unfold exprBad;omega)]
       exact first1 ia
      ·split
       ·unfold exprE
        rw[if_neg (by omega),if_neg (by simp),if_neg (fun h'=>h' (.inr (.inr (.inr (.inl ⟨rfl,.inr (unit_id hp.lo hp.hi _),id_f,rfl⟩))))),if_neg (by unfold exprBad;omega)]
        exact first2 ia ib
       ·unfold exprE
        rw[if_neg (by omega),if_neg (by simp),if_neg (fun h'=>h' (.inr (.inr (.inr (.inl ⟨rfl,.inr (unit_id hp.lo hp.hi _),id_h,rfl⟩))))),if_neg (by unfold exprBad;omega)]
        rfl
theorem expr12 {params:List Str} {many:Int} (hp:PX params many) (f:Nat) (l:List Raw):exprE 12 (exprP params many f l 1)=0:=exprP_form hp f l 1 12 (by decide) (by decide) (by decide)
theorem num12 (r:Raw):exprE 12 (numP r)=0:=by
 obtain ⟨v,e,v0,v1⟩:=num_rng r
 rw[e];exact leaf_num v0 v1 11
theorem stE {f:List Stmt→Int} {k:Int} {s:Str} {xs:List Expr} {b e:List Stmt} (h1:1≤k∧k≤6) (h2:stmtOk k s xs.length b.length e.length) (h3:firstE (exprE 12) xs=0) (h4:f b=0) (h5:f e=0):stmtE1 f (.mk k s xs b e)=0:=by
 unfold stmtE1
 simp only
 rw[if_neg (fun h=>h h1),if_neg (fun h=>h h2),if_neg (fun h=>h h3),if_neg (fun h=>h h4)]
 exact h5
theorem stmts0 (n:Nat):stmtsE (n+1) []=0:=rfl
theorem firstE_app {α:Type} {f:α→Int} {a b:List α} (ha:firstE f a=0) (hb:firstE f b=0):firstE f (a++b)=0 :=
 firstE_zero (fun x hx=>by
  rcases List.mem_append.1 hx with h | h
  ·exact (firstE_all ha) x h
  ·exact (firstE_all hb) x h)
theorem set_form {s:Str} {x:Expr} (hs:identP s) (hx:exprE 12 x=0) (n:Nat):stmtE1 (stmtsE (n+1)) (.mk 1 s [x] [] [])=0 :=
 stE (by omega) ⟨⟨fun _=>hs,fun h=>absurd h (by omega),fun h=>absurd h (by omega),fun _=>rfl⟩,.inl rfl,.inl rfl⟩ (first1 hx) (stmts0 n) (stmts0 n)
theorem up12:exprE 12 upP=0:=by
 unfold upP exprE
 rw[if_neg (by omega),if_neg (by simp),if_neg (fun h'=>h' (.inr (.inr (.inr (.inr ⟨rfl,rfl,rfl,rfl⟩))))),if_neg (by unfold exprBad;omega)]
 exact first2 (leaf_var id_y 10) (leaf_num (by omega) (by omega) 10)
theorem below12 (r:Raw):exprE 12 (belowP r)=0:=by
 have:=pickN_lo r.b (many:=6) (by decide)
 unfold belowP exprE
 rw[if_neg (by omega),if_neg (by simp),if_neg (fun h'=>h' (.inr (.inr (.inr (.inr ⟨rfl,rfl,rfl,rfl⟩))))),if_neg (by unfold exprBad;omega)]
 exact first2 (leaf_var id_y 10) (leaf_num (by omega) (by omega) 10)
theorem stmtP_form {params:List Str} {many:Int} (hp:PX params many) {depth:Int} {n:Nat} {rec:List Raw→Int→List Stmt} (r:Raw) (part:List Raw) (h3:depth < 3→∀ l,stmtsE (n+2) (rec l (depth+1))=0) (h2:depth < 2→∀ l,stmtsE (n+2) (rec l (depth+2))=0) :
  firstE (stmtE1 (stmtsE (n+2))) (stmtP params many depth rec r part)=0:=by
 have kb:=pickN_lo r.kind (many:=12) (by decide)
 have hx:=expr12 hp part.length part
 unfold stmtP
 simp only
 generalize pickN r.kind 12=k at kb
 split
 ·exact first1 (stE (by omega) ⟨⟨fun _=>id_arr,fun h=>absurd h (by omega),fun _=>rfl,fun h=>absurd rfl h⟩,.inl rfl,.inl rfl⟩ (first2 (num12 r) hx) (stmts0 (n+1)) (stmts0 (n+1)))
 ·split
  ·exact first1 (stE (by omega) ⟨⟨fun h=>absurd h (by omega),fun _=>rfl,fun h=>absurd h (by omega),fun _=>rfl⟩,.inl rfl,.inl rfl⟩ (first1 hx) (stmts0 (n+1)) (stmts0 (n+1)))
  ·split
   ·exact first1 (stE (by omega) ⟨⟨fun h=>absurd h (by omega),fun _=>rfl,fun h=>absurd h (by omega),fun _=>rfl⟩,.inl rfl,.inl rfl⟩ (first1 hx) (stmts0 (n+1)) (stmts0 (n+1)))
   ·split
    ·rename_i hd
     exact first1 (stE (by omega) ⟨⟨fun h=>absurd h (by omega),fun _=>rfl,fun h=>absurd h (by omega),fun _=>rfl⟩,.inr (.inl rfl),.inr rfl⟩ (first1 hx) (h3 hd.2 _) (h3 hd.2 _))
    ·split
     ·rename_i hd
      refine first2 (set_form id_y (leaf_num (by omega) (by omega) 11) (n+1)) (stE (by omega) ⟨⟨fun h=>absurd h (by omega),fun _=>rfl,fun h=>absurd h (by omega),fun _=>rfl⟩,.inr (.inr rfl),.inl rfl⟩ (first1 (below12 r)) ?_ (stmts0 (n+1)))
      have:=h2 hd.2 part
      exact firstE_app this (first1 (set_form id_y up12 n))
     ·exact first1 (set_form (vars_id hp _ (pick_mem (by simp[varsP]) _)) hx (n+1))
theorem rows_form {params:List Str} {many depth:Int} {rec:List Raw→Int→List Stmt} {g:Stmt→Int} (h:∀ r part,firstE g (stmtP params many depth rec r part)=0):∀ (k:Nat) (l:List Raw),firstE g (rowsP params many depth rec k l)=0
 | 0,_=>rfl
 | _+1,[]=>rfl
 | k+1,r :: _=>firstE_app (h r _) (rows_form h k _)
theorem stmtsP_form {params:List Str} {many:Int} (hp:PX params many):∀ (f:Nat) (l:List Raw) (depth:Int) (n:Nat),3≤n→1≤depth→7≤depth+n→stmtsE n (stmtsP params many f l depth)=0
 | 0,_,_,n+3,_,_,_=>rfl
 | f+1,l,depth,n+3,_,h1,h7=>by
  unfold stmtsP stmtsE
  exact rows_form (fun r part=>stmtP_form hp r part (fun h3 l=>stmtsP_form hp f l (depth+1) (n+2) (by omega) (by omega) (by omega)) (fun h2 l=>stmtsP_form hp f l (depth+2) (n+2) (by omega) (by omega) (by omega))) 4 l
theorem many_app (n:Nat) (a b:List Stmt):stmtsN (n+1) (a++b)=stmtsN (n+1) a+stmtsN (n+1) b:=by
 simp only[stmtsN,List.length_append,List.map_append,List.sum_append]
 omega
theorem many_one (n:Nat) (k:Int) (s:Str) (xs:List Expr) (b e:List Stmt):stmtsN (n+1) [.mk k s xs b e]=1+(stmtsN n b+stmtsN n e):=by
 simp[stmtsN,stmtN1]
theorem many_nil (n:Nat):stmtsN n []=0:=by cases n<;>simp[stmtsN]
theorem many_leaf (n:Nat) (k:Int) (s:Str) (xs:List Expr):stmtsN n [.mk k s xs [] []]≤1:=by
 cases n with
 | zero=>simp[stmtsN]
 | succ n=>rw[many_one,many_nil];omega
theorem rows_few {params:List Str} {many depth:Int} {rec:List Raw→Int→List Stmt} (r:Raw) {l:List Raw} (h:l.length≤6) (k:Nat):rowsP params many depth rec (k+1) (r :: l)=stmtP params many depth rec r (l.take 6):=by
 have:l.drop 6=[]:=List.drop_eq_nil_iff.2 h
 unfold rowsP
 rw[this]
 cases k<;>simp[rowsP]
theorem stmtP_many {params:List Str} {many depth:Int} {rec:List Raw→Int→List Stmt} (r:Raw) (part:List Raw) (n:Nat) (c b:Int) (h3:depth < 3→stmtsN n (rec (part.take (part.length / 2)) (depth+1))+stmtsN n (rec (part.drop (part.length / 2)) (depth+1))≤c) (h2:depth < 2→stmtsN n (rec part (depth+2))≤b) (hc:0≤c) (hb:depth < 2→b+3≤c+1) :
  stmtsN (n+1) (stmtP params many depth rec r part)≤c+1:=by
 unfold stmtP
 simp only
 split
 ·have:=many_leaf (n+1) 2 sarr [numP r,exprP params many part.length part 1];omega
 ·split
  ·have:=many_leaf (n+1) 6 [] [exprP params many part.length part 1];omega
  ·split
   ·have:=many_leaf (n+1) 5 [] [exprP params many part.length part 1];omega
   ·split
    ·rename_i hd
     rw[many_one]
     have:=h3 hd.2
     omega
    ·split
     ·rename_i hd
      rw[show ∀ a b:Stmt,[a,b]=[a]++[b] from fun _ _=>rfl,many_app,many_one (e:=[]),many_one,many_nil]
      have h4:=h2 hd.2
      have h5:=hb hd.2
      have h6:stmtsN n (rec part (depth+2)++[.mk 1 sy [upP] [] []])≤b+1:=by
       cases n with
       | zero=>simp only[stmtsN] at h4 ⊢;omega
       | succ n =>
        rw[many_app]
        have:=many_leaf (n+1) 1 sy [upP]
        omega
      omega
     ·have:=many_leaf (n+1) 1 (pickP (varsP params) r.a) [exprP params many part.length part 1];omega
theorem rows_many {params:List Str} {many depth:Int} {rec:List Raw→Int→List Stmt} (n:Nat) {c:Int} (hc:0≤c) (hs:∀ r part,part.length≤6→stmtsN (n+1) (stmtP params many depth rec r part)≤c):∀ (k:Nat) (l:List Raw),stmtsN (n+1) (rowsP params many depth rec k l)≤k*c
 | 0,_=>by unfold rowsP;rw[many_nil];simp
 | k+1,[]=>by
  unfold rowsP;rw[many_nil]
  exact Int.mul_nonneg (by omega) hc
 | k+1,r :: l=>by
  unfold rowsP
  rw[many_app]
  have h1:=hs r (l.take 6) (by rw[List.length_take];omega)
  have h2:=rows_many n hc hs k (l.drop 6)
  rw[show ((k+1:Nat):Int)*c=k*c+c from by push_cast;rw[Int.add_mul,Int.one_mul]]
  omega
theorem stmtsP_few {params:List Str} {many depth:Int} {f:Nat} (n:Nat) {l:List Raw} (h:l.length≤6) (c:Int) (hc:0≤c) (hs:∀ r part,part.length≤6→stmtsN (n+1) (stmtP params many depth (stmtsP params many f) r part)≤c):stmtsN (n+1) (stmtsP params many (f+1) l depth)≤c:=by
 unfold stmtsP
 match l,h with
 | [],_=>unfold rowsP;rw[many_nil];exact hc
 | r :: l,h=>rw[rows_few r (by simp at h;omega)];exact hs r _ (by rw[List.length_take];omega)
theorem many_3 (params:List Str) (many:Int) (f n:Nat) (l:List Raw) {depth:Int} (hd:3≤depth) (h:l.length≤6):stmtsN n (stmtsP params many f l depth)≤1:=by
 match n,f with
 | 0,_=>simp[stmtsN]
 | n+1,0=>unfold stmtsP;rw[many_nil];omega
 | n+1,f+1=>exact stmtsP_few n h 1 (by omega) (fun r part _=>stmtP_many r part n 0 0 (fun h=>absurd h (by omega)) (fun h=>absurd h (by omega)) (by omega) (fun h=>absurd h (by omega)))
theorem many_2 (params:List Str) (many:Int) (f n:Nat) (l:List Raw) (h:l.length≤6):stmtsN n (stmtsP params many f l 2)≤3:=by
 match n,f with
 | 0,_=>simp[stmtsN]
 | n+1,0=>unfold stmtsP;rw[many_nil];omega
 | n+1,f+1 =>
  refine stmtsP_few n h 3 (by omega) (fun r part hp=>stmtP_many r part n 2 0 (fun _=>?_) (fun h=>absurd h (by omega)) (by omega) (fun h=>absurd h (by omega)))
  have h1:=many_3 params many f n (part.take (part.length / 2)) (depth:=2+1) (by omega) (by rw[List.length_take];omega)
  have h2:=many_3 params many f n (part.drop (part.length / 2)) (depth:=2+1) (by omega) (by rw[List.length_drop];omega)
  omega
theorem body_many (params:List Str) (many:Int) (l:List Raw):stmtsN 12 (bodyP params many l)≤28:=by
 unfold bodyP stmtsP
 refine rows_many 11 (c:=7) (by omega) (fun r part hp=>stmtP_many r part 11 6 1 (fun _=>?_) (fun _=>?_) (by omega) (fun _=>by omega)) 4 l
 ·have h1:=many_2 params many l.length 11 (part.take (part.length / 2)) (by rw[List.length_take];omega)
  have h2:=many_2 params many l.length 11 (part.drop (part.length / 2)) (by rw[List.length_drop];omega)
  have e:(1:Int)+1=2:=rfl
  rw[e];omega
 ·exact many_3 params many l.length 11 part (by omega) hp
theorem body_form {params:List Str} {many:Int} (hp:PX params many) (l:List Raw):stmtsE 12 (bodyP params many l)=0:=stmtsP_form hp _ l 1 12 (by omega) (by omega) (by omega)
structure Shape (many:Nat) (u:Unit):Prop where
 ex:∃ (i:Nat) (l1 l2 l3:List Raw),i < 3∧u=⟨unitsP.getD i [],[sx,sy],[⟨sarr,2+i⟩],[⟨sf,true,[sp,sq],bodyP [sp,sq] many l1⟩,⟨sg,false,[sp],bodyP [sp] many l2⟩,⟨sh,true,[],bodyP [] many l3⟩]⟩
theorem px2 {many:Nat} (h:1≤many∧many≤3):PX [sp,sq] many:=⟨by omega,by omega,fun s hs=>by
 simp only[List.mem_cons,List.not_mem_nil,or_false] at hs
 rcases hs with rfl | rfl
 ·exact id_p
 ·exact id_q⟩
theorem px1 {many:Nat} (h:1≤many∧many≤3):PX [sp] many:=⟨by omega,by omega,fun s hs=>by
 simp only[List.mem_cons,List.not_mem_nil,or_false] at hs
 subst hs;exact id_p⟩
theorem px0 {many:Nat} (h:1≤many∧many≤3):PX [] many:=⟨by omega,by omega,fun s hs=>by simp at hs⟩
theorem shape_form {many:Nat} (hm:1≤many∧many≤3) {u:Unit} (h:Shape many u):unitE u=0:=by
 obtain ⟨i,l1,l2,l3,hi,rfl⟩:=h.ex
 have hu:identP (unitsP.getD i []):=id_units _ (by rw[at_getD (show i < unitsP.length from hi)];exact List.getElem_mem _)
 have f1:funE ⟨sf,true,[sp,sq],bodyP [sp,sq] many l1⟩=0:=fun_form id_f (by simp) (px2 hm).ids (body_form (px2 hm) l1)
 have f2:funE ⟨sg,false,[sp],bodyP [sp] many l2⟩=0:=fun_form id_g (by simp) (px1 hm).ids (body_form (px1 hm) l2)
 have f3:funE ⟨sh,true,[],bodyP [] many l3⟩=0:=fun_form id_h (by simp) (px0 hm).ids (body_form (px0 hm) l3)
 have m1:=body_many [sp,sq] many l1
 have m2:=body_many [sp] many l2
 have m3:=body_many [] many l3
 have n1:=many_pos 12 (bodyP [sp,sq] many l1)
 have n2:=many_pos 12 (bodyP [sp] many l2)
 have n3:=many_pos 12 (bodyP [] many l3)
 have hN:manyN [⟨sf,true,[sp,sq],bodyP [sp,sq] many l1⟩,⟨sg,false,[sp],bodyP [sp] many l2⟩,⟨sh,true,[],bodyP [] many l3⟩]=stmtsN 12 (bodyP [sp,sq] many l1)+(stmtsN 12 (bodyP [sp] many l2)+stmtsN 12 (bodyP [] many l3)):=by
  simp[manyN]
 unfold unitE
 simp only
 rw[if_neg (fun h=>h hu),if_neg (by simp),if_neg,if_neg,if_neg,if_neg]
 ·rw[hN,I64.wrap (by unfold I64;omega)];omega
 ·simp[firstE,f1,f2,f3]
 ·have:arrE ⟨sarr,2+i⟩=0:=by unfold arrE;rw[if_neg (fun h=>h id_arr),if_neg (by show ¬¬(1≤(2+(i:Int))∧2+(i:Int)≤10);omega)]
  simp[firstE,this]
 ·have hx:nameE sx=0:=by unfold nameE;rw[if_pos id_x]
  have hy:nameE sy=0:=by unfold nameE;rw[if_pos id_y]
  simp[firstE,hx,hy]
structure Sees2 (params:List Str) (many:Int) (p:List Unit) (u:Unit) (f:Fun):Prop where
 vars:∀ s∈varsP params,varP u f s
 arr:arrP u sarr
 g:calledE p u [] sg 1=0
 f:∀ s∈unitsP.take many.toNat,calledE p u s sf 2=0
 h:∀ s∈unitsP.take many.toNat,calledE p u s sh 0=0
 lo:1≤many
 hi:many≤3
section
variable {params:List Str} {many:Int} {p:List Unit} {u:Unit} {fn:Fun}
theorem exprS_nil {k n:Int} {of s:Str} (h:exprS1 p u fn k of s 0=0):exprS p u fn (.mk k n of s [])=0:=by
 simp only[exprS,List.length_nil,h,exprsS];rfl
theorem exprS_one {k n:Int} {of s:Str} {a:Expr} (h:exprS1 p u fn k of s 1=0) (ha:exprS p u fn a=0):exprS p u fn (.mk k n of s [a])=0:=by
 simp only[exprS,List.length_cons,List.length_nil,Nat.zero_add,h,exprsS,ha];rfl
theorem exprS_two {k n:Int} {of s:Str} {a b:Expr} (h:exprS1 p u fn k of s 2=0) (ha:exprS p u fn a=0) (hb:exprS p u fn b=0):exprS p u fn (.mk k n of s [a,b])=0:=by
 simp only[exprS,List.length_cons,List.length_nil,Nat.zero_add,Nat.reduceAdd,h,exprsS,ha,hb];rfl
theorem s1_no {k:Int} {of s:Str} {m:Nat} (h2:k≠2) (h3:k≠3) (h4:k≠4):exprS1 p u fn k of s m=0:=by
 unfold exprS1;rw[if_neg (by omega),if_neg h4]
theorem s1_var {of s:Str} {m:Nat} (h:varP u fn s):exprS1 p u fn 2 of s m=0:=by
 unfold exprS1
 rw[if_neg (fun h'=>by rcases h' with h' | h';exact h'.2 h;exact absurd h'.1 (by omega)),if_neg (by omega)]
theorem s1_arr {of s:Str} {m:Nat} (h:arrP u s):exprS1 p u fn 3 of s m=0:=by
 unfold exprS1
 rw[if_neg (fun h'=>by rcases h' with h' | h';exact absurd h'.1 (by omega);exact h'.2 h),if_neg (by omega)]
theorem s1_ask {of s:Str} {m:Nat} (h:calledE p u of s m=0):exprS1 p u fn 4 of s m=0:=by
 unfold exprS1
 rw[if_neg (by omega),if_pos rfl];exact h
theorem numS (n:Int):exprS p u fn (numX n)=0:=exprS_nil (s1_no (by omega) (by omega) (by omega))
theorem varS {s:Str} (h:varP u fn s):exprS p u fn (varX s)=0:=exprS_nil (s1_var h)
theorem exprP_sense (hs:Sees2 params many p u fn):∀ (f:Nat) (l:List Raw) (depth:Int),exprS p u fn (exprP params many f l depth)=0
 | 0,_,_=>numS 3
 | _+1,[],_=>numS 3
 | f+1,r :: rest,depth=>by
  have ia:=exprP_sense hs f (rest.take (rest.length / 2)) (depth+1)
  have ib:=exprP_sense hs f (rest.drop (rest.length / 2)) (depth+1)
  unfold exprP
  simp only
  generalize (if depth > 4 then pickN r.kind 9 else pickN r.kind 20)=k
  split
  ·exact numS _
  ·split
   ·exact varS (hs.vars _ (pick_mem (by simp[varsP]) _))
   ·split
    ·exact exprS_two (s1_no (by omega) (by omega) (by omega)) ia ib
    ·split
     ·exact exprS_one (s1_arr hs.arr) ia
     ·split
      ·exact exprS_one (s1_ask hs.g) ia
      ·split
       ·exact exprS_two (s1_ask (hs.f _ (unit_mem hs.lo hs.hi _))) ia ib
       ·exact exprS_nil (s1_ask (hs.h _ (unit_mem hs.lo hs.hi _)))
theorem stS {k:Int} {s:Str} {xs:List Expr} {b e:List Stmt} (h1:k=1→varP u fn s) (h2:k=2→arrP u s) (hx:firstE (exprS p u fn) xs=0) (hb:firstE (stmtS p u fn) b=0) (he:firstE (stmtS p u fn) e=0):stmtS p u fn (.mk k s xs b e)=0:=by
 simp only[stmtS]
 rw[if_neg (fun h=>by rcases h with h | h;exact h.2 (h1 h.1);exact h.2 (h2 h.1)),exprsS_first,stmtsS_first,stmtsS_first,if_neg (fun h=>h hx),if_neg (fun h=>h hb)]
 exact he
theorem stmtP_sense (hs:Sees2 params many p u fn) {depth:Int} {rec:List Raw→Int→List Stmt} (hr:∀ l d,firstE (stmtS p u fn) (rec l d)=0) (r:Raw) (part:List Raw):firstE (stmtS p u fn) (stmtP params many depth rec r part)=0:=by
 have hx:=exprP_sense hs part.length part 1
 have hy:varP u fn sy:=hs.vars _ (by simp[varsP])
 have n0:firstE (stmtS p u fn) []=0:=rfl
 unfold stmtP
 simp only
 generalize pickN r.kind 12=k
 split
 ·exact first1 (stS (fun h=>absurd h (by omega)) (fun _=>hs.arr) (first2 (numS _) hx) n0 n0)
 ·split
  ·exact first1 (stS (fun h=>absurd h (by omega)) (fun h=>absurd h (by omega)) (first1 hx) n0 n0)
  ·split
   ·exact first1 (stS (fun h=>absurd h (by omega)) (fun h=>absurd h (by omega)) (first1 hx) n0 n0)
   ·split
    ·exact first1 (stS (fun h=>absurd h (by omega)) (fun h=>absurd h (by omega)) (first1 hx) (hr _ _) (hr _ _))
    ·split
     ·refine first2 (stS (fun _=>hy) (fun h=>absurd h (by omega)) (first1 (numS 0)) n0 n0) (stS (fun h=>absurd h (by omega)) (fun h=>absurd h (by omega)) (first1 ?_) ?_ n0)
      ·exact exprS_two (s1_no (by omega) (by omega) (by omega)) (varS hy) (numS _)
      ·exact firstE_app (hr _ _) (first1 (stS (fun _=>hy) (fun h=>absurd h (by omega)) (first1 (exprS_two (s1_no (by omega) (by omega) (by omega)) (varS hy) (numS _))) n0 n0))
     ·exact first1 (stS (fun _=>hs.vars _ (pick_mem (by simp[varsP]) _)) (fun h=>absurd h (by omega)) (first1 hx) n0 n0)
theorem rows_sense {depth:Int} {rec:List Raw→Int→List Stmt} {g:Stmt→Int} (h:∀ r part,firstE g (stmtP params many depth rec r part)=0):∀ (k:Nat) (l:List Raw),firstE g (rowsP params many depth rec k l)=0:=rows_form h
theorem stmtsP_sense (hs:Sees2 params many p u fn):∀ (f:Nat) (l:List Raw) (depth:Int),firstE (stmtS p u fn) (stmtsP params many f l depth)=0
 | 0,_,_=>rfl
 | f+1,l,depth=>by
  unfold stmtsP
  exact rows_sense (fun r part=>stmtP_sense hs (fun l d=>stmtsP_sense hs f l d) r part) 4 l
end
structure Prog (many:Nat) (p:List Unit):Prop where
 m:1≤many∧many≤3
 shape:∀ u∈p,Shape many u
 names:p.map Unit.name=unitsP.take many
theorem shape_arr {many:Nat} {u:Unit} (h:Shape many u):arrP u sarr:=by
 obtain ⟨i,l1,l2,l3,hi,rfl⟩:=h.ex
 exact ⟨_,List.mem_singleton.2 rfl,rfl⟩
theorem shape_vars {many:Nat} {u:Unit} (h:Shape many u):u.vars=[sx,sy]:=by
 obtain ⟨i,l1,l2,l3,hi,rfl⟩:=h.ex
 rfl
theorem shape_g {many:Nat} {u:Unit} (h:Shape many u) (p:List Unit):calledE p u [] sg 1=0:=by
 obtain ⟨i,l1,l2,l3,hi,rfl⟩:=h.ex
 unfold calledE
 rw[if_pos rfl]
 rfl
theorem shape_f {many:Nat} {u:Unit} (h:Shape many u) (of:Str):calledIn u of sf 2=0:=by
 obtain ⟨i,l1,l2,l3,hi,rfl⟩:=h.ex
 unfold calledIn
 show (if of≠[]∧true=false then (5:Int) else if (2:Nat)≠2 then 7 else 0)=0
 rw[if_neg (by simp),if_neg (by simp)]
theorem shape_h {many:Nat} {u:Unit} (h:Shape many u) (of:Str):calledIn u of sh 0=0:=by
 obtain ⟨i,l1,l2,l3,hi,rfl⟩:=h.ex
 unfold calledIn
 show (if of≠[]∧true=false then (5:Int) else if (0:Nat)≠0 then 7 else 0)=0
 rw[if_neg (by simp),if_neg (by simp)]
theorem prog_called {many:Nat} {p:List Unit} (hp:Prog many p) {s:Str} (hs:s∈unitsP.take many) (u:Unit) (x:Str) (m:Nat) (h:∀ v,Shape many v→calledIn v s x m=0):calledE p u s x m=0:=by
 have hne:s≠[]:=fun e=>by
  have:=id_units s (List.mem_of_mem_take hs)
  rw[e] at this
  exact absurd this.1.1.1 (by decide)
 unfold calledE
 rw[if_neg hne]
 split
 ·rename_i hn
  rw[← hp.names] at hs
  obtain ⟨v,hv,e⟩:=List.mem_map.1 hs
  have:=List.find?_eq_none.1 hn v hv
  exact absurd (decide_eq_true e) this
 ·rename_i v hv
  exact h v (hp.shape v (List.mem_of_find?_eq_some hv))
theorem prog_sees {many:Nat} {p:List Unit} (hp:Prog many p) {u:Unit} (hu:u∈p) {f:Fun}:Sees2 f.params many p u f:=by
 have h:=hp.shape u hu
 refine ⟨fun s hs=>?_,shape_arr h,shape_g h p,fun s hs=>prog_called hp hs u _ _ (fun v hv=>shape_f hv s),fun s hs=>prog_called hp hs u _ _ (fun v hv=>shape_h hv s),by have:=hp.m;omega,by have:=hp.m;omega⟩
 unfold varP
 rw[shape_vars h]
 simp only[varsP,List.cons_append,List.nil_append,List.mem_cons] at hs ⊢
 rcases hs with hs | hs | hs
 ·exact .inr (.inl hs)
 ·exact .inr (.inr (.inl hs))
 ·exact .inl hs
theorem dup_no {l:List Str} (h:l.Nodup):¬dupP l:=by
 rintro ⟨j,hj,hm⟩
 obtain ⟨i,hi,e⟩:=List.getElem_of_mem hm
 rw[List.length_take] at hi
 rw[List.getElem_take] at e
 have:=(List.getElem_inj h).1 e
 omega
theorem prog_unitS {many:Nat} {p:List Unit} (hp:Prog many p) {u:Unit} (hu:u∈p):unitS p u=0:=by
 have hfun:∀ f∈u.funcs,funS p u f=0:=by
  intro f hf
  have hs:=prog_sees hp hu (f:=f)
  have key:∀ (params:List Str) (l:List Raw),f.params=params→f.body=bodyP params many l→params.Nodup→funS p u f=0:=fun params l e1 e2 hd=>by
   unfold funS
   rw[e1,if_neg (dup_no hd),stmtsS_first,e2]
   rw[e1] at hs
   exact stmtsP_sense hs _ l 1
  obtain ⟨i,l1,l2,l3,hi,rfl⟩:=(hp.shape u hu).ex
  simp only[List.mem_cons,List.not_mem_nil,or_false] at hf
  rcases hf with rfl | rfl | rfl
  ·exact key [sp,sq] l1 rfl rfl (by decide)
  ·exact key [sp] l2 rfl rfl (by decide)
  ·exact key [] l3 rfl rfl (by decide)
 unfold unitS
 rw[if_neg,firstE_zero hfun]
 obtain ⟨i,l1,l2,l3,hi,rfl⟩:=(hp.shape u hu).ex
 rintro (h | h)
 ·exact dup_no (l:=[sx,sy,sarr]) (by decide) h
 ·exact dup_no (l:=[sf,sg,sh]) (by decide) h
theorem shape_words {many:Nat} {u:Unit} (h:Shape many u):0≤unitWords u∧unitWords u≤6:=by
 obtain ⟨i,l1,l2,l3,hi,rfl⟩:=h.ex
 simp only[unitWords,sizes,List.map_cons,List.map_nil,List.sum_cons,List.sum_nil,List.length_cons,List.length_nil]
 omega
theorem words_sum {many:Nat}:∀ {p:List Unit},(∀ u∈p,Shape many u)→0≤progWords p∧progWords p≤6*p.length
 | [],_=>by simp[progWords]
 | u :: p,h=>by
  have h1:=shape_words (h u List.mem_cons_self)
  have h2:=words_sum (p:=p) (fun v hv=>h v (List.mem_cons_of_mem _ hv))
  simp only[progWords,List.map_cons,List.sum_cons,List.length_cons] at h2 ⊢
  omega
theorem prog_len {many:Nat} {p:List Unit} (hp:Prog many p):p.length=many:=by
 have:=congrArg List.length hp.names
 rw[List.length_map,List.length_take] at this
 have h3:=hp.m
 have h:unitsP.length=3:=rfl
 omega
theorem prog_good {many:Nat} {p:List Unit} (hp:Prog many p):progE p=0:=by
 have hl:=prog_len hp
 have hm:=hp.m
 have hw:=words_sum hp.shape
 have hu:firstE unitE p=0:=firstE_zero (fun u hu=>shape_form hm (hp.shape u hu))
 unfold progE
 rw[if_neg (by omega),if_neg (fun h=>h hu),if_neg,if_neg (by omega)]
 ·exact firstE_zero (fun u hu=>prog_unitS hp hu)
 ·rw[hp.names]
  refine dup_no ?_
  obtain ⟨h1,h3⟩:=hm
  have:many=1∨many=2∨many=3:=by omega
  rcases this with rfl | rfl | rfl<;>decide
theorem programP_prog (l:List Raw):Prog (manyP l) (programP l):=by
 obtain ⟨k,hk,hl⟩:=pickN_nat l.length (many:=3) (by decide)
 have hm:manyP l=1+k:=by unfold manyP;rw[show (3:Int)=((3:Nat):Int) from rfl,hk];omega
 refine ⟨by omega,fun u hu=>?_,?_⟩
 ·unfold programP at hu
  obtain ⟨i,hi,rfl⟩:=List.mem_map.1 hu
  rw[List.mem_range] at hi
  exact ⟨i,_,_,_,by omega,rfl⟩
 ·unfold programP
  rw[hm]
  have:k=0∨k=1∨k=2:=by omega
  rcases this with rfl | rfl | rfl<;>rfl
theorem shape_few {many:Nat} {u:Unit} (h:Shape many u):manyN u.funcs≤300:=by
 obtain ⟨i,l1,l2,l3,_,rfl⟩:=h.ex
 have m1:=body_many [sp,sq] many l1
 have m2:=body_many [sp] many l2
 have m3:=body_many [] many l3
 simp only[manyN,List.map_cons,List.map_nil,List.sum_cons,List.sum_nil]
 omega
theorem prog_few {many:Nat} {p:List Unit} (h:Prog many p):fewP p:=fun u hu=>shape_few (h.shape u hu)
end Barb
