/-
  The eye: expressions: the contracts.
-/
import Derived.Test.YtabjelabdojpkaaGreatDoorYa
import Derived.Test.YtabjelabdojpkaaGreatDoorRy
namespace Go.Proofs.YtabjelabdojpkaaGreatDoor
open Go Go.Dm Go.Eng Go.RowKit Barb
def opsE:List Str:=[] :: opsT
theorem opOf_any {L:Lv} (s:Str):CT Tryz.prog (gl L) 79 [.g (.str s)] (Is (.g (.int (opP s)))):=by
 refine enter hT hF hM Tryz.func79 rfl 19 rfl (by kernel_rfl) [.tmp 2] rfl [.g (.str s)] rfl _ ?_
 refine ⟨opsE.map strG,rfl,rfl,⟨rfl,rfl,rfl,rfl,rfl,rfl,rfl,rfl,rfl,rfl,rfl,trivial⟩,?_⟩
 refine loopR (ι:=Nat) (fun i=>[(0,.g (.str s)),(3,.g (.sl 1 (opsE.map strG))),(4,.g (.int (i:Int)))]) (fun _=>[]) (fun i=>(1≤i∧i≤11)∧∀ j (hj:j < opsT.length),j+1 < i→¬s=opsT[j]) (fun i=>11 - i)
  ⟨1,[],⟨rfl,.inl rfl,.inr ⟨lk rfl,lk rfl,lk rfl,trivial⟩,rfl⟩,⟨Nat.le_refl _,by decide⟩,fun j _ h=>by omega⟩ ?_
 intro Rd hRd i ⟨⟨h1,h2⟩,ha⟩
 have l11:(opsE.map strG).length=11:=rfl
 refine ⟨fun hl=>?_,fun hl=>?_⟩
 ·have hl':i < 11:=by omega
  have hj:i - 1 < opsT.length:=by show i - 1 < 10;omega
  have hg:(opsE.map strG)[i]?=some (strG opsT[i - 1]):=by
   obtain ⟨m,rfl⟩:∃ m,i=m+1:=⟨i - 1,by omega⟩
   rw[List.getElem?_map]
   show (opsT[m]?).map strG=some (strG opsT[m])
   rw[List.getElem?_eq_getElem (show m < opsT.length from hj)];rfl
  refine ⟨i,_,rfl,hg,?_⟩
  refine ⟨fun h=>?_,fun h=>?_⟩
  ·have h:opsT[i - 1]=s:=h
   have e:opP s=(i:Int):=by
    unfold opP idx
    rw[idxFrom_at (q:=fun x=>s=x) (i0:=0) hj (fun j hj' hlt=>ha j hj' (by omega)) h.symm]
    omega
   exact ⟨rfl,retI e.symm⟩
  ·have h:¬opsT[i - 1]=s:=h
   refine ⟨_,I64.wrap (by unfold I64;omega),?_⟩
   refine hRd _ _ _ ⟨i+1,[],⟨rfl,.inl rfl,.inr ⟨lk rfl,lk rfl,lkI (by omega),trivial⟩,rfl⟩,⟨⟨by omega,by omega⟩,fun j hj' hlt=>?_⟩,by omega⟩
   by_cases hji:j+1 < i
   ·exact ha j hj' hji
   ·have:j=i - 1:=by omega
    subst this
    exact fun e=>h e.symm
 ·have e:opP s=0:=by
   unfold opP idx
   rw[idxFrom_no (q:=fun x=>s=x) (fun x hx=>by
    obtain ⟨j,hj,rfl⟩:=List.mem_iff_getElem.1 hx
    have:j < 10:=hj
    exact ha j hj (by omega))]
   rfl
  exact ⟨rfl,retI e.symm⟩
def EyE (L:Lv) (T:List Tok) (f:Nat) (k:Int):Prop:=EyC Tryz.prog (gl L) 56 [] exD T k (exprP f)
theorem ex_fn:fnOk Tryz.prog 56=true:=by kernel_rfl
theorem args_fn:fnOk Tryz.prog 80=true:=by kernel_rfl
theorem term_fn:fnOk Tryz.prog 67=true:=by kernel_rfl
theorem drop_ok {T:List Tok} (h:RdOk T) (i:Nat):RdOk (T.drop i):=h.step (by rw[List.length_drop];omega) (fun _ ht=>List.mem_of_mem_drop ht)
theorem hr_next {α β:Type} {T:List Tok} {p:List Tok→PR α} {K:α→List Tok→PR β} {i i1 i0:Nat} {e e1:Int} {a:α} {r:PR β} (hr:go T (fun l=>(p l).then K) i e=r) (h:EyR T i0 (go T p i e) a i1 e1):go T (K a) i1 e1=r:=by
 rw[← hr,go_then,h.then]
theorem end_ok {α:Type} {T:List Tok} {i0 i:Nat} {e:Int} {v:α} {r:PR α} (hr:go T (fun l=>.ok v l) i e=r) (h1:i0≤i) (h2:i≤T.length):EyR T i0 r v i e:=hr▸EyR.ok h1 h2
theorem more_go {ex:List Tok→PR Barb.Expr} (hs:Shr ex) {T:List Tok} {i i2:Nat} {e:Int} (acc:List Barb.Expr) (h1:i < i2) (h2:i2≤T.length):go T (moreP ex (T.drop i).length acc) i2 e=go T (fun l=>moreP ex (l.length+1) acc l) i2 e :=
 go_congr fun _=>more_far hs _ _ _ _ (by rw[List.length_drop,List.length_drop];omega) (by omega)
set_option maxRecDepth 20000 in
theorem args_any {L:Lv} {T:List Tok} (hTl:RdOk T) {f:Nat} {k:Int} (hE:EyE L T f k):EyC Tryz.prog (gl L) 80 [] exsD T k (listP (exprP f)):=by
 intro i e hi
 suffices H:∀ r,go T (listP (exprP f)) i e=r→CTH Tryz.prog (gl L) 80 1 (EH T i e k) [.ptr 0 0] (eyQ exsD T k i r) from H _ rfl
 intro r hr
 have hl3:T.length≤3000:=hTl.1
 have hS:=sees_any (L:=L) T hTl.1 i hi e k [41]
 cases hb:seesB T i e [41] with
 | true =>
  obtain ⟨rfl,hl,ht⟩:=sees_yes hb
  rw[hb,if_pos rfl] at hS
  have hr:go T (fun l=>.ok ([]:List Barb.Expr) l) (i+1) 0=r:=by rw[← hr,go0,go0];unfold listP;rw[ht]
  refine enterH [] hT hF hM Tryz.func80 rfl 19 rfl (by kernel_rfl) [.tmp 2] rfl [.ptr 0 0] rfl (EH T i 0 k) [0] rfl rfl rfl 1 [] trivial _ ?_
  refine callO [0] sees_fn rfl rfl ⟨rfl,.inl rfl,.inl rfl,rfl⟩ hS (fun d' h' hq=>?_) (fun d' h' hq=>by cases hq)
  injection hq with e1 e2;subst e1;subst e2
  exact ⟨rfl,endEH (exsD []) T (i+1) 0 k [.old 0] rfl rfl rfl (.inr lkNil) rfl rfl rfl rfl rfl ⟨[],i+1,0,end_ok hr (by omega) hl,rfl⟩⟩
 | false =>
  rw[hb,if_neg (by decide)] at hS
  have hr:go T (fun l=>(exprP f l).then fun a l1=>moreP (exprP f) (l1.length+1) [a] l1) i e=r:=by
   rw[← hr]
   refine go_congr fun he=>?_
   unfold listP
   rw[sees_no hb he]
  have hEi:=hE i e hi
  refine enterH [] hT hF hM Tryz.func80 rfl 19 rfl (by kernel_rfl) [.tmp 2] rfl [.ptr 0 0] rfl (EH T i e k) [0] rfl rfl rfl 1 [] trivial _ ?_
  refine callO [0] sees_fn rfl rfl ⟨rfl,.inl rfl,.inl rfl,rfl⟩ hS (fun d' h' hq=>?_) (fun d' h' hq=>by cases hq)
  injection hq with e1 e2;subst e1;subst e2
  refine callO [0] ex_fn rfl rfl ⟨rfl,.inl rfl,.inl rfl,rfl⟩ hEi (fun d' h' hq=>?_) (fun d' h' hq=>(ey_pan hq).elim)
  obtain ⟨x,i1,e1,h1,rfl,rfl⟩:=ey_ret hq
  have hr:=hr_next hr h1
  have hi1:=h1.1
  refine ⟨[[.int x.k,.int x.n,.str x.of,.str x.s,.sl 5 (x.args.map Expr.g)]],rfl,rfl,⟨rfl,rfl,rfl,rfl,rfl,trivial⟩,?_⟩
  refine loopR (ι:=List Barb.Expr × Nat × Int) (fun i=>[(0,.ptr 0 0),(3,.row 1)]) (fun i=>[.blk (EB T i.2.1 i.2.2 k) 39,.row (i.1.map Expr.g) 94 5]) (fun j=>(i≤j.2.1∧j.2.1≤T.length)∧j.1.length≤j.2.1+1∧go T (fun l=>moreP (exprP f) (l.length+1) j.1 l) j.2.1 j.2.2=r) (fun j=>T.length - j.2.1)
   ⟨([x],i1,e1),[.old 0,.old 1],⟨rfl,.inr ⟨⟨rfl,.inl rfl⟩,⟨by rw[List.map_cons,List.map_nil,Expr.g_eq],rfl,rfl⟩,trivial⟩,.inr ⟨lk rfl,lk rfl,trivial⟩,rfl⟩,hi1,by simp,hr⟩ ?_
  rintro Rd hRd ⟨acc,m,em⟩ ⟨⟨hm1,hm2⟩,hn,hr⟩
  have hm1:i≤m:=hm1
  have hm2:m≤T.length:=hm2
  have hn:acc.length≤m+1:=hn
  have hr:go T (fun l=>moreP (exprP f) (l.length+1) acc l) m em=r:=hr
  have hS2:=sees_any (L:=L) T hTl.1 m hm2 em k [44]
  cases hb2:seesB T m em [44] with
  | true =>
   obtain ⟨rfl,hl2,ht2⟩:=sees_yes hb2
   rw[hb2,if_pos rfl] at hS2
   have hr:go T (fun l=>(exprP f l).then fun b l2=>moreP (exprP f) (T.drop m).length (acc++[b]) l2) (m+1) 0=r:=by
    rw[← hr,go0,go0]
    simp only[moreP]
    rw[ht2]
   have hEm:=hE (m+1) 0 hl2
   refine callO [0] sees_fn rfl rfl ⟨rfl,.inl rfl,.inl rfl,rfl⟩ hS2 (fun d' h' hq=>?_) (fun d' h' hq=>by cases hq)
   injection hq with e1 e2;subst e1;subst e2
   refine callO [0] ex_fn rfl rfl ⟨rfl,.inl rfl,.inl rfl,rfl⟩ hEm (fun d' h' hq=>?_) (fun d' h' hq=>(ey_pan hq).elim)
   obtain ⟨y,i2,e2,h2,rfl,rfl⟩:=ey_ret hq
   have hr:=hr_next hr h2
   have hi2:=h2.1
   rw[more_go (expr_shr f) (acc++[y]) (by omega) hi2.2] at hr
   refine ⟨[[.int y.k,.int y.n,.str y.of,.str y.s,.sl 5 (y.args.map Expr.g)]],rfl,rfl,⟨rfl,rfl,rfl,rfl,rfl,trivial⟩,?_⟩
   refine ⟨⟨by simp only[maxLen,List.length_cons,List.length_nil,List.length_map];omega,by simp only[List.length_cons,List.length_nil,List.length_map];omega⟩,?_⟩
   exact hRd _ _ _ ⟨(acc++[y],i2,e2),[.old 0,.old 3],⟨rfl,.inr ⟨⟨rfl,.inl rfl⟩,⟨by rw[List.map_append,List.map_cons,List.map_nil,Expr.g_eq],rfl,rfl⟩,trivial⟩,.inr ⟨lk rfl,lk rfl,trivial⟩,rfl⟩,⟨⟨by show i≤i2;omega,hi2.2⟩,by simp;omega,hr⟩,by show T.length - i2 < T.length - m;omega⟩
  | false =>
   rw[hb2,if_neg (by decide)] at hS2
   have hr:go T (fun l=>(mustP [41] l).then fun _ l1=>.ok acc l1) m em=r:=by
    rw[← hr]
    refine go_congr fun he=>?_
    simp only[moreP]
    rw[sees_no hb2 he]
   have hW:=wants_any (L:=L) T hTl.1 k [41] m em hm2
   refine callO [0] sees_fn rfl rfl ⟨rfl,.inl rfl,.inl rfl,rfl⟩ hS2 (fun d' h' hq=>?_) (fun d' h' hq=>by cases hq)
   injection hq with e1 e2;subst e1;subst e2
   refine callO [0] wants_fn rfl rfl ⟨rfl,.inl rfl,.inl rfl,rfl⟩ hW (fun d' h' hq=>?_) (fun d' h' hq=>(ey_pan hq).elim)
   obtain ⟨_,i2,e2,h2,rfl,rfl⟩:=ey_ret hq
   have hr:=hr_next hr h2
   have hi2:=h2.1
   exact ⟨rfl,endEH (exsD acc) T i2 e2 k [.old 0] rfl rfl rfl (.inl rfl) rfl rfl rfl rfl rfl ⟨acc,i2,e2,end_ok hr (by omega) hi2.2,rfl⟩⟩
theorem op_step {α:Type} {T:List Tok} {i:Nat} {e:Int} {r:PR α} {K:Int→List Tok→PR α} (hr:go T (fun l=>if opP (textP l)=0 then .bad 4 else K (opP (textP l)) l.tail) i e=r) :
  (opP (oneT T i e).text=0→∀ K':List Tok→PR α,go T K' (oneN T i e) (badN e 4)=r)∧(¬opP (oneT T i e).text=0→go T (K (opP (oneT T i e).text)) (oneN T i e) e=r):=by
 by_cases he:e=0
 ·subst he
  have e1:(oneT T i 0).text=textP (T.drop i):=by unfold oneT;rw[if_pos rfl];rfl
  rw[go0] at hr
  rw[e1]
  refine ⟨fun h K'=>?_,fun h=>?_⟩
  ·rw[if_pos h] at hr
   rw[goE _ _ (badN_ne (by decide)),badN_0,hr]
  ·rw[if_neg h] at hr
   rw[go0,← oneN_drop,hr]
 ·rw[goE _ _ he] at hr
  exact ⟨fun _ K'=>by rw[badN_e he,goE _ _ he,hr],fun _=>by rw[goE _ _ he,hr]⟩
theorem lkX {N:Nat→Bool} (k n:Int) (of s:Str):Like N 4 (.agg [.g (.int k),.g (.int n),.g (.str of),.g (.str s),.nils]) (exD (.mk k n of s [])):=.inr ⟨lk rfl,lk rfl,lk rfl,lk rfl,lkNil,trivial⟩
theorem sees_ne {T:List Tok} {i:Nat} {e:Int} {s:Str} (h:e≠0):seesB T i e s=false:=by unfold seesB;simp[h]
set_option maxRecDepth 20000 in
set_option maxHeartbeats 4000000 in
theorem term_any {L:Lv} {T:List Tok} (hTl:RdOk T) {f:Nat} {k:Int} (hE:EyE L T f k):EyC Tryz.prog (gl L) 67 [] exD T k (termP (exprP f)):=by
 intro i e hi
 suffices H:∀ r,go T (termP (exprP f)) i e=r→CTH Tryz.prog (gl L) 67 1 (EH T i e k) [.ptr 0 0] (eyQ exD T k i r) from H _ rfl
 intro r hr
 have hl3:T.length≤3000:=hTl.1
 have lT:(T.map Tok.g).length=T.length:=by simp
 have hS:=sees_any (L:=L) T hTl.1 i hi e k [40]
 cases hb:seesB T i e [40] with
 | true =>
  obtain ⟨rfl,hl,ht⟩:=sees_yes hb
  rw[hb,if_pos rfl] at hS
  have hr:go T (fun l=>(exprP f l).then fun a l2=>if opP (textP l2)=0 then .bad 4 else (exprP f l2.tail).then fun b l3=>(mustP [41] l3).then fun _ l4=>.ok (.mk 5 (opP (textP l2)) [] [] [a,b]) l4) (i+1) 0=r:=by
   rw[← hr,go0,go0]
   unfold termP
   rw[ht]
  have hE1:=hE (i+1) 0 hl
  refine enterH [] hT hF hM Tryz.func67 rfl 88 rfl (by kernel_rfl) [.cell 2 94] rfl [.ptr 0 0] rfl (EH T i 0 k) [0] rfl rfl rfl 1 [] trivial _ ?_
  refine callO [0] sees_fn rfl rfl ⟨rfl,.inl rfl,.inl rfl,rfl⟩ hS (fun d' h' hq=>?_) (fun d' h' hq=>by cases hq)
  injection hq with q1 q2;subst q1;subst q2
  refine callO [0] ex_fn rfl rfl ⟨rfl,.inl rfl,.inl rfl,rfl⟩ hE1 (fun d' h' hq=>?_) (fun d' h' hq=>(ey_pan hq).elim)
  obtain ⟨x,i1,e1,h1,rfl,rfl⟩:=ey_ret hq
  have hr:=hr_next hr h1
  have hi1:=h1.1
  have hO:=one_any (L:=L) T hTl.1 i1 hi1.2 e1 k
  have hn:=oneN_le (e:=e1) hi1.2
  obtain ⟨p1,p2⟩:=op_step (K:=fun op l=>(exprP f l).then fun b l3=>(mustP [41] l3).then fun _ l4=>.ok (Barb.Expr.mk 5 op [] [] [x,b]) l4) hr
  refine callO [0] one_fn rfl rfl ⟨rfl,.inl rfl,.inl rfl,rfl⟩ hO (fun d' h' hq=>?_) (fun d' h' hq=>by cases hq)
  injection hq with q1 q2
  obtain ⟨t,ht'⟩:∃ t,oneT T i1 e1=t:=⟨_,rfl⟩
  obtain ⟨n,hn'⟩:∃ n,oneN T i1 e1=n:=⟨_,rfl⟩
  rw[ht'] at q1 p1 p2
  rw[hn'] at q2 p1 p2 hn
  subst q1;subst q2
  refine ⟨1,.g (.str t.text),fieldTok,rfl,?_⟩
  refine callIs (.inl rfl) (opOf_any t.text) ?_
  refine ⟨fun hz=>?_,fun hz=>?_⟩
  ·have hB:=bad_any (L:=L) T n e1 k 4
   refine callO [0] bad_fn rfl rfl ⟨rfl,.inl rfl,.inl rfl,rfl⟩ hB (fun d' h' hq=>?_) (fun d' h' hq=>by cases hq)
   injection hq with q1 q2;subst q1;subst q2
   have hr:go T (fun l=>(exprP f l).then fun b l3=>(mustP [41] l3).then fun _ l4=>.ok (.mk 5 (opP t.text) [] [] [x,b]) l4) n (badN e1 4)=r:=p1 hz _
   have hE2:=hE n (badN e1 4) (by omega)
   refine callO [0] ex_fn rfl rfl ⟨rfl,.inl rfl,.inl rfl,rfl⟩ hE2 (fun d' h' hq=>?_) (fun d' h' hq=>(ey_pan hq).elim)
   obtain ⟨y,i3,e3,h3,rfl,rfl⟩:=ey_ret hq
   have hr:=hr_next hr h3
   have hi3:=h3.1
   have hW:=wants_any (L:=L) T hTl.1 k [41] i3 e3 hi3.2
   refine callO [0] wants_fn rfl rfl ⟨rfl,.inl rfl,.inl rfl,rfl⟩ hW (fun d' h' hq=>?_) (fun d' h' hq=>(ey_pan hq).elim)
   obtain ⟨_,i4,e4,h4,rfl,rfl⟩:=ey_ret hq
   have hr:=hr_next hr h4
   have hi4:=h4.1
   refine ⟨[gx x,gx y],rfl,rfl,⟨rfl,rfl,rfl,rfl,rfl,rfl,rfl,rfl,rfl,rfl,trivial⟩,?_⟩
   exact ⟨rfl,endEH (exD (.mk 5 (opP t.text) [] [] [x,y])) T i4 e4 k [.old 0] rfl rfl rfl (.inl (congrArg D.agg (args2 _ _ _ _ _ _))) rfl rfl rfl rfl rfl ⟨(.mk 5 (opP t.text) [] [] [x,y]),i4,e4,end_ok hr (by omega) (by omega),rfl⟩⟩
  ·have hr:go T (fun l=>(exprP f l).then fun b l3=>(mustP [41] l3).then fun _ l4=>.ok (.mk 5 (opP t.text) [] [] [x,b]) l4) n e1=r:=p2 hz
   have hE2:=hE n e1 (by omega)
   refine callO [0] ex_fn rfl rfl ⟨rfl,.inl rfl,.inl rfl,rfl⟩ hE2 (fun d' h' hq=>?_) (fun d' h' hq=>(ey_pan hq).elim)
   obtain ⟨y,i3,e3,h3,rfl,rfl⟩:=ey_ret hq
   have hr:=hr_next hr h3
   have hi3:=h3.1
   have hW:=wants_any (L:=L) T hTl.1 k [41] i3 e3 hi3.2
   refine callO [0] wants_fn rfl rfl ⟨rfl,.inl rfl,.inl rfl,rfl⟩ hW (fun d' h' hq=>?_) (fun d' h' hq=>(ey_pan hq).elim)
   obtain ⟨_,i4,e4,h4,rfl,rfl⟩:=ey_ret hq
   have hr:=hr_next hr h4
   have hi4:=h4.1
   refine ⟨[gx x,gx y],rfl,rfl,⟨rfl,rfl,rfl,rfl,rfl,rfl,rfl,rfl,rfl,rfl,trivial⟩,?_⟩
   exact ⟨rfl,endEH (exD (.mk 5 (opP t.text) [] [] [x,y])) T i4 e4 k [.old 0] rfl rfl rfl (.inl (congrArg D.agg (args2 _ _ _ _ _ _))) rfl rfl rfl rfl rfl ⟨(.mk 5 (opP t.text) [] [] [x,y]),i4,e4,end_ok hr (by omega) (by omega),rfl⟩⟩
 | false =>
  rw[hb,if_neg (by decide)] at hS
  have hr:go T (fun l=>if kindP l=2 then (numP l).then fun n l1=>.ok (.mk 1 n [] [] []) l1 else
     (nameP l).then fun s l1=>(match takeP [91] l1 with
    | some l2=>(exprP f l2).then fun a l3=>(mustP [93] l3).then fun _ l4=>.ok (.mk 3 0 [] s [a]) l4
    | none=>(match takeP [40] l1 with
    | some l2=>(listP (exprP f) l2).then fun xs l3=>.ok (.mk 4 0 [] s xs) l3
    | none=>(match takeP [46] l1 with
    | some l2=>(nameP l2).then fun g l3=>(mustP [40] l3).then fun _ l4=>(listP (exprP f) l4).then fun xs l5=>.ok (.mk 4 0 s g xs) l5
    | none=>.ok (.mk 2 0 [] s []) l1)))) i e=r:=by
   rw[← hr]
   refine go_congr fun he=>?_
   unfold termP
   rw[sees_no hb he]
   rfl
  by_cases hlt:i < T.length
  ·have hd:T.drop i=T[i] :: T.drop (i+1):=List.drop_eq_getElem_cons hlt
   have hg:(T.map Tok.g)[i]?=some T[i].g:=by rw[List.getElem?_map,List.getElem?_eq_getElem hlt];rfl
   by_cases hk:T[i].kind=2
   ·have hr:go T (fun l=>(numP l).then fun n l1=>.ok (.mk 1 n [] [] []) l1) i e=r:=by
     rw[← hr]
     refine go_congr fun _=>?_
     rw[if_pos (show kindP (T.drop i)=2 by rw[hd];exact hk)]
    have hN:=num_any (L:=L) T hTl k i e hi
    refine enterH [] hT hF hM Tryz.func67 rfl 88 rfl (by kernel_rfl) [.cell 2 94] rfl [.ptr 0 0] rfl (EH T i e k) [0] rfl rfl rfl 1 [] trivial _ ?_
    refine callO [0] sees_fn rfl rfl ⟨rfl,.inl rfl,.inl rfl,rfl⟩ hS (fun d' h' hq=>?_) (fun d' h' hq=>by cases hq)
    injection hq with q1 q2;subst q1;subst q2
    refine ⟨none,rfl,?_⟩
    refine ⟨fun _=>⟨i,_,rfl,hg,?_⟩,fun h=>absurd (show (i:Int) < ((T.map Tok.g).length:Int) by omega) h⟩
    refine ⟨fun _=>?_,fun h=>absurd hk h⟩
    refine callO [0] num_fn rfl rfl ⟨rfl,.inl rfl,.inl rfl,rfl⟩ hN (fun d' h' hq=>?_) (fun d' h' hq=>(ey_pan hq).elim)
    obtain ⟨n,i1,e1,h1,rfl,rfl⟩:=ey_ret hq
    have hr:=hr_next hr h1
    have hi1:=h1.1
    exact ⟨rfl,endEH (exD (.mk 1 n [] [] [])) T i1 e1 k [.old 0] rfl rfl rfl (.inr (lkX _ _ _ _)) rfl rfl rfl rfl rfl ⟨(.mk 1 n [] [] []),i1,e1,end_ok hr (by omega) (by omega),rfl⟩⟩
   ·have hr:go T (fun l=>(nameP l).then fun s l1=>(match takeP [91] l1 with
      | some l2=>(exprP f l2).then fun a l3=>(mustP [93] l3).then fun _ l4=>.ok (.mk 3 0 [] s [a]) l4
      | none=>(match takeP [40] l1 with
      | some l2=>(listP (exprP f) l2).then fun xs l3=>.ok (.mk 4 0 [] s xs) l3
      | none=>(match takeP [46] l1 with
      | some l2=>(nameP l2).then fun g l3=>(mustP [40] l3).then fun _ l4=>(listP (exprP f) l4).then fun xs l5=>.ok (.mk 4 0 s g xs) l5
      | none=>.ok (.mk 2 0 [] s []) l1)))) i e=r:=by
     rw[← hr]
     refine go_congr fun _=>?_
     rw[if_neg (show ¬kindP (T.drop i)=2 by rw[hd];exact hk)]
    have hN:=ident_any (L:=L) T hTl k i e hi
    refine enterH [] hT hF hM Tryz.func67 rfl 88 rfl (by kernel_rfl) [.cell 2 94] rfl [.ptr 0 0] rfl (EH T i e k) [0] rfl rfl rfl 1 [] trivial _ ?_
    refine callO [0] sees_fn rfl rfl ⟨rfl,.inl rfl,.inl rfl,rfl⟩ hS (fun d' h' hq=>?_) (fun d' h' hq=>by cases hq)
    injection hq with q1 q2;subst q1;subst q2
    refine ⟨none,rfl,?_⟩
    refine ⟨fun _=>⟨i,_,rfl,hg,?_⟩,fun h=>absurd (show (i:Int) < ((T.map Tok.g).length:Int) by omega) h⟩
    refine ⟨fun h=>absurd h hk,fun _=>?_⟩
    refine callO [0] ident_fn rfl rfl ⟨rfl,.inl rfl,.inl rfl,rfl⟩ hN (fun d' h' hq=>?_) (fun d' h' hq=>(ey_pan hq).elim)
    obtain ⟨s,i1,e1,h1,rfl,rfl⟩:=ey_ret hq
    have hr:=hr_next hr h1
    have hi1:=h1.1
    have hr:go T (fun l1=>(match takeP [91] l1 with
      | some l2=>(exprP f l2).then fun a l3=>(mustP [93] l3).then fun _ l4=>.ok (.mk 3 0 [] s [a]) l4
      | none=>(match takeP [40] l1 with
      | some l2=>(listP (exprP f) l2).then fun xs l3=>.ok (.mk 4 0 [] s xs) l3
      | none=>(match takeP [46] l1 with
      | some l2=>(nameP l2).then fun g l3=>(mustP [40] l3).then fun _ l4=>(listP (exprP f) l4).then fun xs l5=>.ok (.mk 4 0 s g xs) l5
      | none=>.ok (.mk 2 0 [] s []) l1)))) i1 e1=r:=hr
    have hS1:=sees_any (L:=L) T hTl.1 i1 (by omega) e1 k [91]
    cases hb1:seesB T i1 e1 [91] with
    | true =>
     obtain ⟨z1,hl1,ht1⟩:=sees_yes hb1
     rw[hb1,if_pos rfl] at hS1
     refine callO [0] sees_fn rfl rfl ⟨rfl,.inl rfl,.inl rfl,rfl⟩ hS1 (fun d' h' hq=>?_) (fun d' h' hq=>by cases hq)
     injection hq with q1 q2;subst q1;subst q2
     subst z1
     have hr:go T (fun l2=>(exprP f l2).then fun a l3=>(mustP [93] l3).then fun _ l4=>.ok (.mk 3 0 [] s [a]) l4) (i1+1) 0=r:=by
      rw[← hr,go0,go0]
      simp only[ht1]
     have hE2:=hE (i1+1) 0 hl1
     refine callO [0] ex_fn rfl rfl ⟨rfl,.inl rfl,.inl rfl,rfl⟩ hE2 (fun d' h' hq=>?_) (fun d' h' hq=>(ey_pan hq).elim)
     obtain ⟨x,i2,e2,h2,rfl,rfl⟩:=ey_ret hq
     have hr:=hr_next hr h2
     have hi2:=h2.1
     have hW:=wants_any (L:=L) T hTl.1 k [93] i2 e2 hi2.2
     refine callO [0] wants_fn rfl rfl ⟨rfl,.inl rfl,.inl rfl,rfl⟩ hW (fun d' h' hq=>?_) (fun d' h' hq=>(ey_pan hq).elim)
     obtain ⟨_,i3,e3,h3,rfl,rfl⟩:=ey_ret hq
     have hr:=hr_next hr h3
     have hi3:=h3.1
     refine ⟨[gx x],rfl,rfl,⟨rfl,rfl,rfl,rfl,rfl,trivial⟩,?_⟩
     exact ⟨rfl,endEH (exD (.mk 3 0 [] s [x])) T i3 e3 k [.old 0] rfl rfl rfl (.inl (congrArg D.agg (args1 _ _ _ _ _))) rfl rfl rfl rfl rfl ⟨(.mk 3 0 [] s [x]),i3,e3,end_ok hr (by omega) (by omega),rfl⟩⟩
    | false =>
     rw[hb1,if_neg (by decide)] at hS1
     refine callO [0] sees_fn rfl rfl ⟨rfl,.inl rfl,.inl rfl,rfl⟩ hS1 (fun d' h' hq=>?_) (fun d' h' hq=>by cases hq)
     injection hq with q1 q2;subst q1;subst q2
     have hr:go T (fun l1=>(match takeP [40] l1 with
       | some l2=>(listP (exprP f) l2).then fun xs l3=>.ok (.mk 4 0 [] s xs) l3
       | none=>(match takeP [46] l1 with
       | some l2=>(nameP l2).then fun g l3=>(mustP [40] l3).then fun _ l4=>(listP (exprP f) l4).then fun xs l5=>.ok (.mk 4 0 s g xs) l5
       | none=>.ok (.mk 2 0 [] s []) l1))) i1 e1=r:=by
      rw[← hr]
      refine go_congr fun he=>?_
      simp only[sees_no hb1 he]
     have hS2:=sees_any (L:=L) T hTl.1 i1 (by omega) e1 k [40]
     cases hb2:seesB T i1 e1 [40] with
     | true =>
      obtain ⟨z2,hl2,ht2⟩:=sees_yes hb2
      rw[hb2,if_pos rfl] at hS2
      refine callO [0] sees_fn rfl rfl ⟨rfl,.inl rfl,.inl rfl,rfl⟩ hS2 (fun d' h' hq=>?_) (fun d' h' hq=>by cases hq)
      injection hq with q1 q2;subst q1;subst q2
      subst z2
      have hr:go T (fun l2=>(listP (exprP f) l2).then fun xs l3=>.ok (.mk 4 0 [] s xs) l3) (i1+1) 0=r:=by
       rw[← hr,go0,go0]
       simp only[ht2]
      have hA:=args_any (L:=L) hTl hE (i1+1) 0 hl2
      refine callO [0] args_fn rfl rfl ⟨rfl,.inl rfl,.inl rfl,rfl⟩ hA (fun d' h' hq=>?_) (fun d' h' hq=>(ey_pan hq).elim)
      obtain ⟨xs,i2,e2,h2,rfl,rfl⟩:=ey_ret hq
      have hr:=hr_next hr h2
      have hi2:=h2.1
      exact ⟨rfl,endEH (exD (.mk 4 0 [] s xs)) T i2 e2 k [.old 0] rfl rfl rfl (.inl rfl) rfl rfl rfl rfl rfl ⟨(.mk 4 0 [] s xs),i2,e2,end_ok hr (by omega) (by omega),rfl⟩⟩
     | false =>
      rw[hb2,if_neg (by decide)] at hS2
      refine callO [0] sees_fn rfl rfl ⟨rfl,.inl rfl,.inl rfl,rfl⟩ hS2 (fun d' h' hq=>?_) (fun d' h' hq=>by cases hq)
      injection hq with q1 q2;subst q1;subst q2
      have hr:go T (fun l1=>(match takeP [46] l1 with
        | some l2=>(nameP l2).then fun g l3=>(mustP [40] l3).then fun _ l4=>(listP (exprP f) l4).then fun xs l5=>.ok (.mk 4 0 s g xs) l5
        | none=>.ok (.mk 2 0 [] s []) l1)) i1 e1=r:=by
       rw[← hr]
       refine go_congr fun he=>?_
       simp only[sees_no hb2 he]
      have hS5:=sees_any (L:=L) T hTl.1 i1 (by omega) e1 k [46]
      cases hb5:seesB T i1 e1 [46] with
      | true =>
       obtain ⟨z5,hl5,ht5⟩:=sees_yes hb5
       rw[hb5,if_pos rfl] at hS5
       refine callO [0] sees_fn rfl rfl ⟨rfl,.inl rfl,.inl rfl,rfl⟩ hS5 (fun d' h' hq=>?_) (fun d' h' hq=>by cases hq)
       injection hq with q1 q2;subst q1;subst q2
       subst z5
       have hr:go T (fun l2=>(nameP l2).then fun g l3=>(mustP [40] l3).then fun _ l4=>(listP (exprP f) l4).then fun xs l5=>.ok (.mk 4 0 s g xs) l5) (i1+1) 0=r:=by
        rw[← hr,go0,go0]
        simp only[ht5]
       have hN2:=ident_any (L:=L) T hTl k (i1+1) 0 hl5
       refine callO [0] ident_fn rfl rfl ⟨rfl,.inl rfl,.inl rfl,rfl⟩ hN2 (fun d' h' hq=>?_) (fun d' h' hq=>(ey_pan hq).elim)
       obtain ⟨g,i2,e2,h2,rfl,rfl⟩:=ey_ret hq
       have hr:=hr_next hr h2
       have hi2:=h2.1
       have hW:=wants_any (L:=L) T hTl.1 k [40] i2 e2 hi2.2
       refine callO [0] wants_fn rfl rfl ⟨rfl,.inl rfl,.inl rfl,rfl⟩ hW (fun d' h' hq=>?_) (fun d' h' hq=>(ey_pan hq).elim)
       obtain ⟨_,i3,e3,h3,rfl,rfl⟩:=ey_ret hq
       have hr:=hr_next hr h3
       have hi3:=h3.1
       have hA:=args_any (L:=L) hTl hE i3 e3 hi3.2
       refine callO [0] args_fn rfl rfl ⟨rfl,.inl rfl,.inl rfl,rfl⟩ hA (fun d' h' hq=>?_) (fun d' h' hq=>(ey_pan hq).elim)
       obtain ⟨xs,i4,e4,h4,rfl,rfl⟩:=ey_ret hq
       have hr:=hr_next hr h4
       have hi4:=h4.1
       exact ⟨rfl,endEH (exD (.mk 4 0 s g xs)) T i4 e4 k [.old 0] rfl rfl rfl (.inl rfl) rfl rfl rfl rfl rfl ⟨(.mk 4 0 s g xs),i4,e4,end_ok hr (by omega) (by omega),rfl⟩⟩
      | false =>
       rw[hb5,if_neg (by decide)] at hS5
       refine callO [0] sees_fn rfl rfl ⟨rfl,.inl rfl,.inl rfl,rfl⟩ hS5 (fun d' h' hq=>?_) (fun d' h' hq=>by cases hq)
       injection hq with q1 q2;subst q1;subst q2
       have hr:go T (fun l1=>.ok (.mk 2 0 [] s []) l1) i1 e1=r:=by
        rw[← hr]
        refine go_congr fun he=>?_
        simp only[sees_no hb5 he]
       exact ⟨rfl,endEH (exD (.mk 2 0 [] s [])) T i1 e1 k [.old 0] rfl rfl rfl (.inr (lkX _ _ _ _)) rfl rfl rfl rfl rfl ⟨(.mk 2 0 [] s []),i1,e1,end_ok hr (by omega) (by omega),rfl⟩⟩
  ·have hd:T.drop i=[]:=List.drop_eq_nil_of_le (by omega)
   have hr:go T nameP i e=(.bad (badN e 4):PR Str)∧r=.bad (badN e 4):=by
    by_cases he:e=0
    ·subst he
     rw[go0,hd] at hr ⊢
     exact ⟨by unfold nameP;rw[if_neg (show ¬identP (textP []) from ident_nil)];rfl,by rw[← hr,if_neg (show ¬kindP []=2 by decide)];unfold nameP;rw[if_neg (show ¬identP (textP []) from ident_nil)];rfl⟩
    ·rw[goE _ _ he] at hr ⊢
     rw[badN_e he]
     exact ⟨rfl,hr.symm⟩
   obtain ⟨hr1,hr2⟩:=hr
   have hN:=ident_any (L:=L) T hTl k i e hi
   rw[hr1] at hN
   refine enterH [] hT hF hM Tryz.func67 rfl 88 rfl (by kernel_rfl) [.cell 2 94] rfl [.ptr 0 0] rfl (EH T i e k) [0] rfl rfl rfl 1 [] trivial _ ?_
   refine callO [0] sees_fn rfl rfl ⟨rfl,.inl rfl,.inl rfl,rfl⟩ hS (fun d' h' hq=>?_) (fun d' h' hq=>by cases hq)
   injection hq with q1 q2;subst q1;subst q2
   refine ⟨none,rfl,?_⟩
   refine ⟨fun h=>absurd (show (i:Int) < ((T.map Tok.g).length:Int) from h) (by omega),fun _=>?_⟩
   refine callO [0] ident_fn rfl rfl ⟨rfl,.inl rfl,.inl rfl,rfl⟩ hN (fun d' h' hq=>?_) (fun d' h' hq=>(ey_pan hq).elim)
   obtain ⟨s,i1,e1,h1,rfl,rfl⟩:=ey_ret hq
   obtain ⟨hi1,⟨_,h1⟩ | ⟨hne,h1⟩⟩:=h1
   ·cases h1
   have he1:badN e 4=e1:=by injection h1
   rw[he1] at hr2
   have hS1:=sees_any (L:=L) T hTl.1 i1 hi1.2 e1 k [91]
   rw[sees_ne hne,if_neg (by decide)] at hS1
   refine callO [0] sees_fn rfl rfl ⟨rfl,.inl rfl,.inl rfl,rfl⟩ hS1 (fun d' h' hq=>?_) (fun d' h' hq=>by cases hq)
   injection hq with q1 q2;subst q1;subst q2
   have hS2:=sees_any (L:=L) T hTl.1 i1 hi1.2 e1 k [40]
   rw[sees_ne hne,if_neg (by decide)] at hS2
   refine callO [0] sees_fn rfl rfl ⟨rfl,.inl rfl,.inl rfl,rfl⟩ hS2 (fun d' h' hq=>?_) (fun d' h' hq=>by cases hq)
   injection hq with q1 q2;subst q1;subst q2
   have hS5:=sees_any (L:=L) T hTl.1 i1 hi1.2 e1 k [46]
   rw[sees_ne hne,if_neg (by decide)] at hS5
   refine callO [0] sees_fn rfl rfl ⟨rfl,.inl rfl,.inl rfl,rfl⟩ hS5 (fun d' h' hq=>?_) (fun d' h' hq=>by cases hq)
   injection hq with q1 q2;subst q1;subst q2
   exact ⟨rfl,endEH (exD (.mk 2 0 [] s [])) T i1 e1 k [.old 0] rfl rfl rfl (.inr (lkX _ _ _ _)) rfl rfl rfl rfl rfl ⟨.mk 2 0 [] s [],i1,e1,hr2▸EyR.bad hi1.1 hi1.2 hne,rfl⟩⟩
end Go.Proofs.YtabjelabdojpkaaGreatDoor
