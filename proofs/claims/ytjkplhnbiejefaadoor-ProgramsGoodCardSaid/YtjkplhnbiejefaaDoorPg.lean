/-
  Programs of raw things with an odd statement ahead of all others, and with a name that is there already: plain.
-/
import Derived.Test.YtjkplhnbiejefaaDoorGq
import Derived.Test.YtjkplhnbiejefaaDoorNq
namespace Barb
open Go Go.Dm Go.Eng
abbrev sone:Str:=[111,110,101]
abbrev sgone:Str:=[103,111,110,101]
def oddL:List Expr:=[.mk 2 0 [] sgone [],.mk 3 0 [] sx [numX 0],.mk 4 0 [] sgone [],.mk 4 0 sgone sf [],.mk 4 0 sone sg [numX 0],.mk 4 0 [] sg []]
def oddE:List Int:=[5,5,5,5,5,7]
def sayX (x:Expr):Stmt:=.mk 6 [] [x] [] []
def unit1 (vars:List Str) (b1 b2 b3:List Stmt):Unit:=⟨sone,vars,[⟨sarr,2⟩],[⟨sf,true,[sp,sq],b1⟩,⟨sg,false,[sp],b2⟩,⟨sh,true,[],b3⟩]⟩
theorem prog_head (l:List Raw):∃ b1 b2 b3 us,programP l=unit1 [sx,sy] b1 b2 b3 :: us:=by
 have hm:=(programP_prog l).m
 obtain ⟨m,hm'⟩:∃ m,manyP l=m+1:=⟨manyP l - 1,by omega⟩
 unfold programP
 generalize hM:manyP l=M at *
 rw[hm',List.range_succ_eq_map,List.map_cons]
 exact ⟨_,_,_,_,rfl⟩
theorem id_gone:identP sgone:=ident_of (by decide) (by decide) (by decide) (by decide)
theorem id_one:identP sone:=ident_of (by decide) (by decide) (by decide) (by decide)
theorem exprE_of {f:Nat} {k n:Int} {of s:Str} {args:List Expr} (h1:1≤k∧k≤5) (h2:args.length≤4) (h3:exprOk k n of s args.length) (h4:¬exprBad k n) (h5:firstE (exprE f) args=0):exprE (f+1) (.mk k n of s args)=0:=by
 unfold exprE
 rw[if_neg (fun h=>h h1),if_neg (by omega),if_neg (fun h=>h h3),if_neg h4]
 exact h5
theorem odd_form:∀ x∈oddL,exprE 12 x=0:=by
 have hn:firstE (exprE 11) [numX 0]=0:=firstE_zero (fun y hy=>by rw[List.mem_singleton.1 hy];exact leaf_num (by decide) (by decide) 10)
 intro x hx
 simp only[oddL,List.mem_cons,List.not_mem_nil,or_false] at hx
 rcases hx with rfl | rfl | rfl | rfl | rfl | rfl
 ·exact exprE_of (by decide) (by decide) (.inr (.inl ⟨rfl,rfl,id_gone,rfl,rfl⟩)) (by unfold exprBad;omega) rfl
 ·exact exprE_of (by decide) (by decide) (.inr (.inr (.inl ⟨rfl,rfl,id_x,rfl,rfl⟩))) (by unfold exprBad;omega) hn
 ·exact exprE_of (by decide) (by decide) (.inr (.inr (.inr (.inl ⟨rfl,.inl rfl,id_gone,rfl⟩)))) (by unfold exprBad;omega) rfl
 ·exact exprE_of (by decide) (by decide) (.inr (.inr (.inr (.inl ⟨rfl,.inr id_gone,id_f,rfl⟩)))) (by unfold exprBad;omega) rfl
 ·exact exprE_of (by decide) (by decide) (.inr (.inr (.inr (.inl ⟨rfl,.inr id_one,id_g,rfl⟩)))) (by unfold exprBad;omega) hn
 ·exact exprE_of (by decide) (by decide) (.inr (.inr (.inr (.inl ⟨rfl,.inl rfl,id_g,rfl⟩)))) (by unfold exprBad;omega) rfl
theorem say_form {x:Expr} (hx:exprE 12 x=0):stmtE1 (stmtsE 11) (sayX x)=0:=by
 have h0:stmtsE 11 []=0:=rfl
 have h1:firstE (exprE 12) [x]=0:=firstE_zero (fun y hy=>by rw[List.mem_singleton.1 hy];exact hx)
 unfold sayX stmtE1
 dsimp only
 rw[if_neg (by decide),if_neg (fun h=>h ⟨⟨fun h=>absurd h (by decide),fun _=>rfl,fun h=>absurd h (by decide),fun _=>rfl⟩,.inl rfl,.inl rfl⟩),if_neg (fun h=>h h1),if_neg (fun h=>h h0)]
 exact h0
theorem find_no {α:Type} (q:α→Bool) {l:List α} (h:∀ x∈l,q x=false):l.find? q=none:=List.find?_eq_none.2 (fun x hx=>by rw[h x hx];decide)
theorem calledIn_no {to:Unit} {of s:Str} {m:Nat} (h:∀ f∈to.funcs,f.name≠s):calledIn to of s m=5:=by
 unfold calledIn
 rw[find_no _ (fun f hf=>decide_eq_false (h f hf))]
theorem odd_sense {us:List Unit} {b1 b2 b3:List Stmt} (hu:∀ v∈us,v.name≠sgone) (i:Nat) (hi:i < 6) :
  exprS (unit1 [sx,sy] b1 b2 b3 :: us) (unit1 [sx,sy] b1 b2 b3) ⟨sf,true,[sp,sq],b1⟩ (oddL[i]'hi)=oddE[i]'hi:=by
 have nv:¬varP (unit1 [sx,sy] b1 b2 b3) ⟨sf,true,[sp,sq],b1⟩ sgone:=by
  show ¬(sgone∈[sp,sq]∨sgone∈[sx,sy])
  decide
 have na:¬arrP (unit1 [sx,sy] b1 b2 b3) sx:=by
  rintro ⟨a,ha,h⟩
  simp only[unit1,List.mem_singleton] at ha
  subst ha
  exact absurd h (by decide)
 have nf:∀ f∈(unit1 [sx,sy] b1 b2 b3).funcs,f.name≠sgone:=by
  intro f hf
  simp only[unit1,List.mem_cons,List.not_mem_nil,or_false] at hf
  rcases hf with rfl | rfl | rfl
  ·show sf≠sgone;decide
  ·show sg≠sgone;decide
  ·show sh≠sgone;decide
 have key:∀ x:Expr,∀ e:Int,e≠0→exprS1 (unit1 [sx,sy] b1 b2 b3 :: us) (unit1 [sx,sy] b1 b2 b3) ⟨sf,true,[sp,sq],b1⟩ x.k x.of x.s x.args.length=e→exprS (unit1 [sx,sy] b1 b2 b3 :: us) (unit1 [sx,sy] b1 b2 b3) ⟨sf,true,[sp,sq],b1⟩ x=e:=fun x e he h=>by
  rw[exprS_eq,if_pos (by rw[h];exact he),h]
 match i,hi with
 | 0,_=>exact key _ 5 (by decide) (exprS1_bad (.inl ⟨rfl,nv⟩))
 | 1,_=>exact key _ 5 (by decide) (exprS1_bad (.inr ⟨rfl,na⟩))
 | 2,_ =>
  refine key _ 5 (by decide) ((exprS1_4 rfl).trans ?_)
  unfold calledE
  exact (if_pos rfl).trans (calledIn_no nf)
 | 3,_ =>
  refine key _ 5 (by decide) ((exprS1_4 rfl).trans ?_)
  unfold calledE
  refine (if_neg (by show ¬sgone=[];decide)).trans ?_
  rw[find_no]
  intro v hv
  refine decide_eq_false ?_
  rcases List.mem_cons.1 hv with rfl | hv
  ·show sone≠sgone;decide
  ·exact hu v hv
 | 4,_ =>
  refine key _ 5 (by decide) ((exprS1_4 rfl).trans ?_)
  unfold calledE
  refine (if_neg (by show ¬sone=[];decide)).trans ?_
  have e1:(unit1 [sx,sy] b1 b2 b3 :: us).find? (fun v=>decide (v.name=sone))=some (unit1 [sx,sy] b1 b2 b3):=List.find?_cons_of_pos (by exact decide_eq_true rfl)
  refine Eq.trans (b:=calledIn (unit1 [sx,sy] b1 b2 b3) sone sg 1) ?_ ?_
  ·show (match (unit1 [sx,sy] b1 b2 b3 :: us).find? (fun v=>decide (v.name=sone)) with | none=>(5:Int) | some v=>calledIn v sone sg 1)=_
   rw[e1]
  ·unfold calledIn
   have e2:(unit1 [sx,sy] b1 b2 b3).funcs.find? (fun f=>decide (f.name=sg))=some ⟨sg,false,[sp],b2⟩:=rfl
   rw[e2]
   exact if_pos ⟨by decide,rfl⟩
 | 5,_ =>
  refine key _ 7 (by decide) ((exprS1_4 rfl).trans ?_)
  unfold calledE
  refine (if_pos rfl).trans ?_
  unfold calledIn
  have e2:(unit1 [sx,sy] b1 b2 b3).funcs.find? (fun f=>decide (f.name=sg))=some ⟨sg,false,[sp],b2⟩:=rfl
  show (match (unit1 [sx,sy] b1 b2 b3).funcs.find? (fun f=>decide (f.name=sg)) with | none=>(5:Int) | some g=>if ([]:Str)≠[]∧g.isOpen=false then 5 else if g.params.length≠0 then 7 else 0)=7
  rw[e2]
  exact (if_neg (by simp)).trans (if_pos (by show (1:Nat)≠0;decide))
theorem odd_ne (i:Nat) (hi:i < 6):oddE[i]'hi≠0:=by
 have h:∀ e∈oddE,e≠0:=by decide
 exact h _ (List.getElem_mem hi)
theorem firstE_cons {α:Type} (g:α→Int) (a:α) (l:List α):firstE g (a :: l)=if g a=0 then firstE g l else g a:=rfl
theorem manyN_pos (l:List Fun):0≤manyN l:=by
 have h:∀ (f:Nat) (b:List Stmt),0≤stmtsN f b:=by
  intro f
  induction f with
  | zero=>intro b;exact Int.le_refl 0
  | succ f ih =>
   intro b
   have h1:∀ b:List Stmt,0≤(b.map (stmtN1 (stmtsN f))).sum:=by
    intro b
    induction b with
    | nil=>simp
    | cons x b ihb =>
     obtain ⟨k,s,xs,b1,b2⟩:=x
     have:=ih b1
     have:=ih b2
     simp only[List.map_cons,List.sum_cons,stmtN1]
     omega
   have:=h1 b
   simp only[stmtsN]
   omega
 induction l with
 | nil=>simp[manyN]
 | cons x l ih =>
  have:=h 12 x.body
  simp only[manyN,List.map_cons,List.sum_cons] at ih ⊢
  omega
section
variable {many:Nat} {us:List Unit} {b1 b2 b3:List Stmt} (hp:Prog many (unit1 [sx,sy] b1 b2 b3 :: us))
include hp
theorem rest_names:∀ v∈us,v.name≠sgone:=fun v hv=>by
 have h1:v.name∈unitsP.take many:=by rw[← hp.names];exact List.mem_map.2 ⟨v,List.mem_cons_of_mem _ hv,rfl⟩
 have h2:=List.mem_of_mem_take h1
 simp only[unitsP,List.mem_cons,List.not_mem_nil,or_false] at h2
 rcases h2 with h | h | h<;>rw[h]<;>decide
theorem head_form:unitE (unit1 [sx,sy] b1 b2 b3)=0∧∀ u∈us,unitE u=0:=by
 have h:=(progE_inv (prog_good hp)).2.1
 exact ⟨h _ List.mem_cons_self,fun u hu=>h u (List.mem_cons_of_mem _ hu)⟩
theorem names_no:¬dupP (sone :: us.map Unit.name):=by
 have e:sone :: us.map Unit.name=unitsP.take many:=hp.names
 rw[e]
 refine dup_no ?_
 obtain ⟨h1,h3⟩:=hp.m
 have:many=1∨many=2∨many=3:=by omega
 rcases this with rfl | rfl | rfl<;>decide
theorem few_len:us.length≤2:=by
 have h1:=prog_len hp
 have h2:=hp.m
 rw[List.length_cons] at h1
 omega
theorem words_few:progWords us≤12:=by
 have:=(words_sum (p:=us) (fun u hu=>hp.shape u (List.mem_cons_of_mem _ hu))).2
 have:=few_len hp
 omega
theorem head_body {b:List Stmt} {vars:List Str} (hb:stmtsE 12 b=0) (hv:∀ s∈vars,identP s) (hl:vars.length≤8):unitE (unit1 vars b b2 b3)=if 300 < IntKind.i64.wrap (manyN (unit1 vars b b2 b3).funcs) then 1 else 0:=by
 obtain ⟨a0,a1,a2,a3,a6,a4,a5⟩:=unitE_inv (head_form hp).1
 have f1:=a5 ⟨sf,true,[sp,sq],b1⟩ (by simp[unit1])
 have f2:=a5 ⟨sg,false,[sp],b2⟩ (by simp[unit1])
 have f3:=a5 ⟨sh,true,[],b3⟩ (by simp[unit1])
 obtain ⟨g1,g2,g3,_⟩:=funE_inv f1
 have f1':funE ⟨sf,true,[sp,sq],b⟩=0:=by
  unfold funE
  rw[if_neg (fun h=>h g1),if_neg (by show ¬4 < 2;decide),if_neg (fun h=>h (firstE_zero (fun s hs=>by unfold nameE;rw[if_pos (g3 s hs)])))]
  exact hb
 unfold unitE
 have ff:firstE funE (unit1 vars b b2 b3).funcs=0:=firstE_zero (fun f hf=>by
  simp only[unit1,List.mem_cons,List.not_mem_nil,or_false] at hf
  rcases hf with rfl | rfl | rfl
  ·exact f1'
  ·exact f2
  ·exact f3)
 rw[if_neg (fun h=>h a0),if_neg,if_neg (fun h=>h (firstE_zero (fun s hs=>by unfold nameE;rw[if_pos (hv s hs)]))),if_neg (fun h=>h (firstE_zero a4)),if_neg (fun h=>h ff)]
 rintro (h | h | h)
 ·exact absurd (show 8 < vars.length from h) (by omega)
 ·exact absurd (show 3 < 1 from h) (by decide)
 ·exact absurd (show 8 < 3 from h) (by decide)
theorem b1_form:stmtsE 12 b1=0:=by
 obtain ⟨_,_,_,_,_,_,a5⟩:=unitE_inv (head_form hp).1
 exact (funE_inv (a5 ⟨sf,true,[sp,sq],b1⟩ (by simp[unit1]))).2.2.2
theorem prog_odd (i:Nat) (hi:i < 6):progE (unit1 [sx,sy] (sayX (oddL[i]'hi) :: b1) b2 b3 :: us)=oddE[i]'hi∨progE (unit1 [sx,sy] (sayX (oddL[i]'hi) :: b1) b2 b3 :: us)=1:=by
 have hx:=odd_form _ (List.getElem_mem (l:=oddL) hi)
 have hb:stmtsE 12 (sayX (oddL[i]'hi) :: b1)=0:=by
  show firstE (stmtE1 (stmtsE 11)) (sayX (oddL[i]'hi) :: b1)=0
  rw[firstE_cons,if_pos (say_form hx)]
  exact b1_form hp
 have hs:=odd_sense (b1:=sayX (oddL[i]'hi) :: b1) (b2:=b2) (b3:=b3) (rest_names hp) i hi
 have hne:=odd_ne i hi
 generalize oddE[i]'hi=e at hs hne ⊢
 generalize oddL[i]'hi=x at hb hs ⊢
 have hu:=head_body hp (b:=sayX x :: b1) (vars:=[sx,sy]) hb (fun s hs=>by
  simp only[List.mem_cons,List.not_mem_nil,or_false] at hs
  rcases hs with rfl | rfl
  ·exact id_x
  ·exact id_y) (by decide)
 have hlen:=few_len hp
 have hw:=words_few hp
 have hnd:¬dupP ((unit1 [sx,sy] (sayX x :: b1) b2 b3 :: us).map Unit.name):=names_no hp
 unfold progE
 rw[if_neg (by simp only[List.length_cons];omega)]
 by_cases hc:300 < IntKind.i64.wrap (manyN (unit1 [sx,sy] (sayX x :: b1) b2 b3).funcs)
 ·rw[if_pos hc] at hu
  right
  have h1:firstE unitE (unit1 [sx,sy] (sayX x :: b1) b2 b3 :: us)=1:=by rw[firstE_cons,if_neg (by rw[hu];decide),hu]
  rw[if_pos (by rw[h1];decide),h1]
 ·rw[if_neg hc] at hu
  left
  have h1:firstE unitE (unit1 [sx,sy] (sayX x :: b1) b2 b3 :: us)=0:=by rw[firstE_cons,if_pos hu];exact firstE_zero (head_form hp).2
  rw[if_neg (fun h=>h h1),if_neg hnd,if_neg]
  ·have hst:stmtS (unit1 [sx,sy] (sayX x :: b1) b2 b3 :: us) (unit1 [sx,sy] (sayX x :: b1) b2 b3) ⟨sf,true,[sp,sq],sayX x :: b1⟩ (sayX x)=e:=by
    have hxs:exprsS (unit1 [sx,sy] (sayX x :: b1) b2 b3 :: us) (unit1 [sx,sy] (sayX x :: b1) b2 b3) ⟨sf,true,[sp,sq],sayX x :: b1⟩ [x]=e:=by
     rw[exprsS_first,firstE_cons,hs,if_neg hne]
    rw[stmtS_eq]
    rw[if_neg (fun hk=>hk.elim (fun h=>absurd (show (6:Int)=1 from h.1) (by decide)) (fun h=>absurd (show (6:Int)=2 from h.1) (by decide))),if_pos (by rw[show (sayX x).xs=[x] from rfl,hxs];exact hne)]
    exact hxs
   have hf:funS (unit1 [sx,sy] (sayX x :: b1) b2 b3 :: us) (unit1 [sx,sy] (sayX x :: b1) b2 b3) ⟨sf,true,[sp,sq],sayX x :: b1⟩=e:=by
    unfold funS
    rw[if_neg (dup_no (l:=[sp,sq]) (by decide)),stmtsS_first,firstE_cons,hst,if_neg hne]
   have hUS:unitS (unit1 [sx,sy] (sayX x :: b1) b2 b3 :: us) (unit1 [sx,sy] (sayX x :: b1) b2 b3)=e:=by
    unfold unitS
    rw[if_neg]
    ·show firstE _ (_ :: _)=e
     rw[firstE_cons,hf,if_neg hne]
    ·rintro (h | h)
     ·exact dup_no (l:=[sx,sy,sarr]) (by decide) h
     ·exact dup_no (l:=[sf,sg,sh]) (by decide) h
   rw[firstE_cons,hUS,if_neg hne]
  ·show ¬250 < (unitWords (unit1 [sx,sy] (sayX x :: b1) b2 b3) :: us.map unitWords).sum
   rw[List.sum_cons]
   have:unitWords (unit1 [sx,sy] (sayX x :: b1) b2 b3)=4:=rfl
   have h2:progWords us=(us.map unitWords).sum:=rfl
   omega
theorem prog_twice:progE (unit1 [sx,sy,sarr] [] b2 b3 :: us)=6:=by
 have hfew:manyN (unit1 [sx,sy] b1 b2 b3).funcs≤300:=prog_few hp _ List.mem_cons_self
 have hu:=head_body hp (b:=[]) (vars:=[sx,sy,sarr]) rfl (fun s hs=>by
  simp only[List.mem_cons,List.not_mem_nil,or_false] at hs
  rcases hs with rfl | rfl | rfl
  ·exact id_x
  ·exact id_y
  ·exact id_arr) (by decide)
 have h0:=manyN_pos (unit1 [sx,sy,sarr] [] b2 b3).funcs
 have h3:manyN (unit1 [sx,sy,sarr] [] b2 b3).funcs≤manyN (unit1 [sx,sy] b1 b2 b3).funcs:=by
  have hb:=manyN_pos [⟨sf,true,[sp,sq],b1⟩]
  have e0:stmtsN 12 []=0:=rfl
  simp only[manyN,unit1,List.map_cons,List.map_nil,List.sum_cons,List.sum_nil] at hb ⊢
  omega
 rw[I64.wrap (by unfold I64;omega),if_neg (by omega)] at hu
 have hlen:=few_len hp
 have hw:=words_few hp
 have hnd:¬dupP ((unit1 [sx,sy,sarr] [] b2 b3 :: us).map Unit.name):=names_no hp
 have h1:firstE unitE (unit1 [sx,sy,sarr] [] b2 b3 :: us)=0:=by rw[firstE_cons,if_pos hu];exact firstE_zero (head_form hp).2
 unfold progE
 rw[if_neg (by simp only[List.length_cons];omega),if_neg (fun h=>h h1),if_neg hnd,if_neg]
 ·have hUS:unitS (unit1 [sx,sy,sarr] [] b2 b3 :: us) (unit1 [sx,sy,sarr] [] b2 b3)=6:=by
   unfold unitS
   rw[if_pos (.inl (show dupP [sx,sy,sarr,sarr] from ⟨3,by decide,by decide⟩))]
  rw[firstE_cons,hUS,if_neg (by decide)]
 ·show ¬250 < (unitWords (unit1 [sx,sy,sarr] [] b2 b3) :: us.map unitWords).sum
  rw[List.sum_cons]
  have:unitWords (unit1 [sx,sy,sarr] [] b2 b3)=5:=rfl
  have h2:progWords us=(us.map unitWords).sum:=rfl
  omega
theorem b1_I:b1.length≤300∧∀ x∈b1,x.I:=by
 have h3:=(manyN_ge (unit1 [sx,sy] b1 b2 b3).funcs).1 ⟨sf,true,[sp,sq],b1⟩ (by simp[unit1])
 have h4:manyN (unit1 [sx,sy] b1 b2 b3).funcs≤300:=prog_few hp _ List.mem_cons_self
 exact stmtsE_I 12 b1 (b1_form hp) (Int.le_trans h3 h4)
theorem head_I {vars:List Str} {b:List Stmt} (hv:∀ s∈vars,s.length≤maxLen) (hl:vars.length≤8) (hbl:b.length≤301) (hb:∀ x∈b,x.I):progI (unit1 vars b b2 b3 :: us):=by
 obtain ⟨h1,h2⟩:=progE_I (prog_good hp) (prog_few hp)
 obtain ⟨a0,_,a2,a3,a4,a5⟩:=h1 _ List.mem_cons_self
 refine ⟨fun u hu=>?_,h2⟩
 rcases List.mem_cons.1 hu with rfl | hu
 ·refine ⟨a0,⟨hv,by show vars.length*16≤_;omega⟩,a2,a3,fun f hf=>?_,a5⟩
  simp only[unit1,List.mem_cons,List.not_mem_nil,or_false] at hf
  rcases hf with rfl | rfl | rfl
  ·obtain ⟨c0,c1,_⟩:=a4 ⟨sf,true,[sp,sq],b1⟩ (by simp[unit1])
   exact ⟨c0,c1,by show b.length*96≤_;omega,hb⟩
  ·exact a4 _ (by simp[unit1])
  ·exact a4 _ (by simp[unit1])
 ·exact h1 u (List.mem_cons_of_mem _ hu)
theorem odd_I (i:Nat) (hi:i < 6):progI (unit1 [sx,sy] (sayX (oddL[i]'hi) :: b1) b2 b3 :: us):=by
 obtain ⟨h1,h2⟩:=b1_I hp
 have hx:=exprE_I 12 _ (odd_form _ (List.getElem_mem (l:=oddL) hi))
 refine head_I hp (fun s hs=>by
  simp only[List.mem_cons,List.not_mem_nil,or_false] at hs
  rcases hs with rfl | rfl<;>decide) (by decide) (by simp only[List.length_cons];omega) (fun x h=>?_)
 rcases List.mem_cons.1 h with rfl | h
 ·exact Stmt.I.mk (by unfold I64;omega) (by decide) (by show 1*72≤_;decide) (by decide) (by decide) (fun y hy=>by rw[List.mem_singleton.1 hy];exact hx) (fun _ h=>by cases h) (fun _ h=>by cases h)
 ·exact h2 x h
theorem twice_I:progI (unit1 [sx,sy,sarr] [] b2 b3 :: us) :=
 head_I hp (fun s hs=>by
  simp only[List.mem_cons,List.not_mem_nil,or_false] at hs
  rcases hs with rfl | rfl | rfl<;>decide) (by decide) (by decide) (fun _ h=>by cases h)
end
end Barb
