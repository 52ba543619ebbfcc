/-
  The eye: expressions, blocks and statements: the contracts.
-/
import Derived.Test.YtabjelabdojpkaaGreatDoorYb
import Derived.Test.YtabjelabdojpkaaGreatDoorRs
namespace Go.Proofs.YtabjelabdojpkaaGreatDoor
open Go Go.Dm Go.Eng Go.RowKit Barb
theorem badN_go {α:Type} {T:List Tok} {i:Nat} {e:Int} {c:Int}:go T (fun _=>(.bad c:PR α)) i e=.bad (badN e c):=by
 unfold go badN
 split<;>rfl
set_option maxRecDepth 20000 in
theorem eexpr_any {L:Lv} {T:List Tok} (hTl:RdOk T):∀ (f:Nat) (k:Int),k+f=48→0≤k→EyE L T f k:=by
 intro f
 induction f with
 | zero =>
  intro k hk h0 i e hi
  have hD:=down_any (L:=L) T i e k (by omega)
  rw[if_pos (by omega)] at hD
  have hne:badN e 1≠0:=badN_ne (by decide)
  refine enterH [] hT hF hM Tryz.func56 rfl 22 rfl (by kernel_rfl) [.cell 2 94] rfl [.ptr 0 0] rfl (EH T i e k) [0] rfl rfl rfl 1 [] trivial _ ?_
  refine callO [0] down_fn rfl rfl ⟨rfl,.inl rfl,.inl rfl,rfl⟩ hD (fun d' h' hq=>?_) (fun d' h' hq=>by cases hq)
  injection hq with q1 q2;subst q1;subst q2
  refine ⟨fun h=>absurd h hne,fun _=>?_⟩
  refine ⟨by unfold I64;omega,?_⟩
  exact ⟨rfl,endEH (exD (.mk 0 0 [] [] [])) T i (badN e 1) k [.old 0] rfl rfl rfl (.inr (lkX _ _ _ _)) rfl rfl rfl rfl (by omega) ⟨.mk 0 0 [] [] [],i,badN e 1,⟨⟨Nat.le_refl _,hi⟩,.inr ⟨hne,badN_go⟩⟩,rfl⟩⟩
 | succ f ih =>
  intro k hk h0 i e hi
  have hE:EyE L T f (k+1):=ih (k+1) (by omega) (by omega)
  have hD:=down_any (L:=L) T i e k (by omega)
  rw[if_neg (by omega)] at hD
  by_cases he:e=0
  ·subst he
   have hT2:=term_any (L:=L) hTl hE i 0 hi
   suffices H:∀ r,go T (exprP (f+1)) i 0=r→CTH Tryz.prog (gl L) 56 1 (EH T i 0 k) [.ptr 0 0] (eyQ exD T k i r) from H _ rfl
   intro r hr
   have hr:go T (termP (exprP f)) i 0=r:=hr
   rw[hr] at hT2
   refine enterH [] hT hF hM Tryz.func56 rfl 22 rfl (by kernel_rfl) [.cell 2 94] rfl [.ptr 0 0] rfl (EH T i 0 k) [0] rfl rfl rfl 1 [] trivial _ ?_
   refine callO [0] down_fn rfl rfl ⟨rfl,.inl rfl,.inl rfl,rfl⟩ hD (fun d' h' hq=>?_) (fun d' h' hq=>by cases hq)
   injection hq with q1 q2;subst q1;subst q2
   refine ⟨fun _=>?_,fun h=>absurd rfl h⟩
   refine callO [0] term_fn rfl rfl ⟨rfl,.inl rfl,.inl rfl,rfl⟩ hT2 (fun d' h' hq=>?_) (fun d' h' hq=>(ey_pan hq).elim)
   obtain ⟨x,i1,e1,h1,rfl,rfl⟩:=ey_ret hq
   refine ⟨by unfold I64;omega,?_⟩
   exact ⟨rfl,endEH (exD x) T i1 e1 k [.old 0] rfl rfl rfl (.inl rfl) rfl rfl rfl rfl (by omega) ⟨x,i1,e1,h1,rfl⟩⟩
  ·rw[goE _ _ he]
   refine enterH [] hT hF hM Tryz.func56 rfl 22 rfl (by kernel_rfl) [.cell 2 94] rfl [.ptr 0 0] rfl (EH T i e k) [0] rfl rfl rfl 1 [] trivial _ ?_
   refine callO [0] down_fn rfl rfl ⟨rfl,.inl rfl,.inl rfl,rfl⟩ hD (fun d' h' hq=>?_) (fun d' h' hq=>by cases hq)
   injection hq with q1 q2;subst q1;subst q2
   refine ⟨fun h=>absurd h he,fun _=>?_⟩
   refine ⟨by unfold I64;omega,?_⟩
   exact ⟨rfl,endEH (exD (.mk 0 0 [] [] [])) T i e k [.old 0] rfl rfl rfl (.inr (lkX _ _ _ _)) rfl rfl rfl rfl (by omega) ⟨.mk 0 0 [] [] [],i,e,EyR.bad (Nat.le_refl _) hi he,rfl⟩⟩
theorem lkSt {N:Nat→Bool} {k:Int} {s:Str} {xs:List (List GV)} {l:List Barb.Expr} {b c:D} {bb cc:List Barb.Stmt} (e:xs=l.map Expr.g) (hb:Like N 3 b (stsD bb)) (hc:Like N 3 c (stsD cc)):Like N 4 (.agg [.g (.int k),.g (.str s),.g (.sl 5 xs),b,c]) (stD (.mk k s l bb cc)):=.inr ⟨lk rfl,lk rfl,lkL e,hb,hc,trivial⟩
theorem lkS0 {N:Nat→Bool} (k:Int) (s:Str):Like N 4 (.agg [.g (.int k),.g (.str s),.nils,.nils,.nils]) (stD (.mk k s [] [] [])):=.inr ⟨lk rfl,lk rfl,lkNil,lkNil,lkNil,trivial⟩
def EyS (L:Lv) (T:List Tok) (f:Nat) (k:Int):Prop:=EyC Tryz.prog (gl L) 36 [] stD T k (stmtP f)
theorem est_fn:fnOk Tryz.prog 36=true:=by kernel_rfl
theorem ebl_fn:fnOk Tryz.prog 15=true:=by kernel_rfl
theorem stmts_go {st:List Tok→PR Barb.Stmt} (hs:Shr st) {T:List Tok} {i i2:Nat} {e:Int} (acc:List Barb.Stmt) (h1:e=0→i < i2) (hi:i≤T.length) (h2:i2≤T.length):go T (stmtsP st (T.drop i).length acc) i2 e=go T (fun l=>stmtsP st (l.length+1) acc l) i2 e :=
 go_congr fun he=>stmts_far hs _ _ _ _ (by have:=h1 he;rw[List.length_drop,List.length_drop];omega) (by omega)
theorem EyR.shr {α:Type} {T:List Tok} {p:List Tok→PR α} (hs:Shr p) {i0 i i1:Nat} {a:α} {e:Int} (hi:i≤T.length) (h:EyR T i0 (go T p i 0) a i1 e):e=0→i < i1:=fun he=>by
 rcases h.2 with ⟨_,h2⟩ | ⟨h1,_⟩
 ·rw[go0] at h2
  have:=hs _ _ _ h2
  rw[List.length_drop,List.length_drop] at this
  have:=h.1.2
  omega
 ·exact absurd he h1
set_option maxRecDepth 20000 in
theorem eblock_any {L:Lv} {T:List Tok} (hTl:RdOk T) {f:Nat} {k:Int} (hS:EyS L T f k):EyC Tryz.prog (gl L) 15 [] stsD T k (blockP (stmtP f)):=by
 intro i e hi
 suffices H:∀ r,go T (blockP (stmtP f)) i e=r→CTH Tryz.prog (gl L) 15 1 (EH T i e k) [.ptr 0 0] (eyQ stsD T k i r) from H _ rfl
 intro r hr
 have hl3:T.length≤3000:=hTl.1
 have hr:go T (fun l=>(mustP [123] l).then fun _ l1=>stmtsP (stmtP f) (l1.length+1) [] l1) i e=r:=hr
 have hW:=wants_any (L:=L) T hTl.1 k [123] i e hi
 refine enterH [] hT hF hM Tryz.func15 rfl 22 rfl (by kernel_rfl) [.tmp 2] rfl [.ptr 0 0] rfl (EH T i e k) [0] rfl rfl rfl 1 [] trivial _ ?_
 refine callO [0] wants_fn rfl rfl ⟨rfl,.inl rfl,.inl rfl,rfl⟩ hW (fun d' h' hq=>?_) (fun d' h' hq=>(ey_pan hq).elim)
 obtain ⟨_,i1,e1,h1,rfl,rfl⟩:=ey_ret hq
 have hr:=hr_next hr h1
 have hi1:=h1.1
 refine loopR (ι:=List Barb.Stmt × Nat × Int) (fun i=>[(0,.ptr 0 0),(3,.row 1)]) (fun i=>[.blk (EB T i.2.1 i.2.2 k) 39,.row (i.1.map Stmt.g) 70 5]) (fun j=>(i≤j.2.1∧j.2.1≤T.length)∧(j.1.length≤j.2.1+1∧(j.2.2=0→j.1.length≤j.2.1))∧go T (fun l=>stmtsP (stmtP f) (l.length+1) j.1 l) j.2.1 j.2.2=r) (fun j=>2*(T.length - j.2.1)+(if j.2.2=0 then 1 else 0))
  ⟨([],i1,e1),[.old 0,.nil 70 5],⟨rfl,.inl rfl,.inr ⟨lk rfl,.inr rfl,trivial⟩,rfl⟩,hi1,⟨by simp,fun _=>by simp⟩,hr⟩ ?_
 rintro Rd hRd ⟨acc,m,em⟩ ⟨⟨hm1,hm2⟩,⟨hn,hn0⟩,hr⟩
 have hm1:i≤m:=hm1
 have hm2:m≤T.length:=hm2
 have hn:acc.length≤m+1:=hn
 have hn0:em=0→acc.length≤m:=hn0
 have hr:go T (fun l=>stmtsP (stmtP f) (l.length+1) acc l) m em=r:=hr
 have hS2:=sees_any (L:=L) T hTl.1 m hm2 em k [125]
 by_cases he:em=0
 ·cases hb2:seesB T m em [125] with
  | true =>
   obtain ⟨_,hl2,ht2⟩:=sees_yes hb2
   rw[hb2,if_pos rfl] at hS2
   have hr:EyR T i r acc (m+1) em:=⟨⟨by omega,hl2⟩,.inl ⟨he,by
    rw[← hr,he,go0]
    simp only[stmtsP,ht2]⟩⟩
   refine ⟨fun _=>?_,fun h=>absurd he h⟩
   refine callO [0] sees_fn rfl rfl ⟨rfl,.inl rfl,.inl rfl,rfl⟩ hS2 (fun d' h' hq=>?_) (fun d' h' hq=>by cases hq)
   injection hq with q1 q2;subst q1;subst q2
   exact ⟨rfl,endEH (stsD acc) T (m+1) em k [.old 0] rfl rfl rfl (.inl rfl) rfl rfl rfl rfl rfl ⟨acc,m+1,em,hr,rfl⟩⟩
  | false =>
   rw[hb2,if_neg (by decide)] at hS2
   have hr:go T (fun l=>(stmtP f l).then fun x l1=>stmtsP (stmtP f) (T.drop m).length (acc++[x]) l1) m em=r:=by
    rw[← hr]
    refine go_congr fun he=>?_
    simp only[stmtsP]
    rw[sees_no hb2 he]
   have hSm:=hS m em hm2
   refine ⟨fun _=>?_,fun h=>absurd he h⟩
   refine callO [0] sees_fn rfl rfl ⟨rfl,.inl rfl,.inl rfl,rfl⟩ hS2 (fun d' h' hq=>?_) (fun d' h' hq=>by cases hq)
   injection hq with q1 q2;subst q1;subst q2
   refine callO [0] est_fn rfl rfl ⟨rfl,.inl rfl,.inl rfl,rfl⟩ hSm (fun d' h' hq=>?_) (fun d' h' hq=>(ey_pan hq).elim)
   obtain ⟨y,i2,e2,h2,rfl,rfl⟩:=ey_ret hq
   have hr:=hr_next hr h2
   have hi2:=h2.1
   have hlt:e2=0→m < i2:=EyR.shr (stmt_shr f) hm2 (he▸h2)
   have hac:=hn0 he
   rw[stmts_go (stmt_shr f) (acc++[y]) hlt hm2 hi2.2] at hr
   refine ⟨[gs y],rfl,rfl,⟨rfl,rfl,rfl,rfl,rfl,trivial⟩,?_⟩
   refine ⟨⟨by simp only[maxLen,List.length_cons,List.length_nil,List.length_map];omega,by simp only[List.length_cons,List.length_nil,List.length_map];omega⟩,?_⟩
   exact hRd _ _ _ ⟨(acc++[y],i2,e2),[.old 0,.old 3],⟨rfl,.inr ⟨⟨rfl,.inl rfl⟩,⟨by rw[List.map_append,List.map_cons,List.map_nil,Stmt.g_eq],rfl,rfl⟩,trivial⟩,.inr ⟨lk rfl,lk rfl,trivial⟩,rfl⟩,⟨⟨by show i≤i2;omega,hi2.2⟩,⟨by show (acc++[y]).length≤i2+1;simp;omega,fun h=>by have:=hlt h;show (acc++[y]).length≤i2;simp;omega⟩,hr⟩,by
    show 2*(T.length - i2)+(if e2=0 then 1 else 0) < 2*(T.length - m)+(if em=0 then 1 else 0)
    rw[if_pos he]
    by_cases h:e2=0
    ·have:=hlt h;rw[if_pos h];omega
    ·rw[if_neg h];omega⟩
 ·have hr:EyR T i r acc m em:=⟨⟨hm1,hm2⟩,.inr ⟨he,by rw[← hr,goE _ _ he]⟩⟩
  refine ⟨fun h=>absurd h he,fun _=>?_⟩
  exact ⟨rfl,endEH (stsD acc) T m em k [.old 0] rfl rfl rfl (.inl rfl) rfl rfl rfl rfl rfl ⟨acc,m,em,hr,rfl⟩⟩
abbrev preC (kd:Int) (s:Str):Option Barb.Expr→List D
 | none=>[.g (.int kd),.g (.str s),.nils,.nils,.nils]
 | some _=>[.g (.int kd),.g (.str s),.row 3,.nils,.nils]
abbrev preE (T:List Tok) (i:Nat) (e k kd:Int) (s:Str):Option Barb.Expr→Heap
 | none=>EH T i e k++[.blk zs 70,.blk (preC kd s none) 70]
 | some x=>EH T i e k++[.blk zs 70,.blk (preC kd s (some x)) 70,.row [gx x] 94 5]
set_option maxRecDepth 20000 in
set_option maxHeartbeats 12000000 in
theorem estmt_any {L:Lv} {T:List Tok} (hTl:RdOk T):∀ (f:Nat) (k:Int),k+f=48→0≤k→EyS L T f k:=by
 intro f
 induction f with
 | zero =>
  intro k hk h0 i e hi
  have hD:=down_any (L:=L) T i e k (by omega)
  rw[if_pos (by omega)] at hD
  have hne:badN e 1≠0:=badN_ne (by decide)
  refine enterH [] hT hF hM Tryz.func36 rfl 75 rfl (by kernel_rfl) [.cell 2 70] rfl [.ptr 0 0] rfl (EH T i e k) [0] rfl rfl rfl 1 [] trivial _ ?_
  refine callO [0] down_fn rfl rfl ⟨rfl,.inl rfl,.inl rfl,rfl⟩ hD (fun d' h' hq=>?_) (fun d' h' hq=>by cases hq)
  injection hq with q1 q2;subst q1;subst q2
  refine ⟨fun h=>absurd h hne,fun _=>?_⟩
  refine ⟨by unfold I64;omega,?_⟩
  exact ⟨rfl,endEH (stD (.mk 0 [] [] [] [])) T i (badN e 1) k [.old 0] rfl rfl rfl (.inr (lkS0 _ _)) rfl rfl rfl rfl (by omega) ⟨.mk 0 [] [] [] [],i,badN e 1,⟨⟨Nat.le_refl _,hi⟩,.inr ⟨hne,badN_go⟩⟩,rfl⟩⟩
 | succ f ih =>
  intro k hk h0 i e hi
  have hS:EyS L T f (k+1):=ih (k+1) (by omega) (by omega)
  have hE:EyE L T f (k+1):=eexpr_any hTl f (k+1) (by omega) (by omega)
  have hD:=down_any (L:=L) T i e k (by omega)
  rw[if_neg (by omega)] at hD
  have hl3:T.length≤3000:=hTl.1
  by_cases he:e=0
  ·subst he
   suffices H:∀ r,go T (stmtP (f+1)) i 0=r→CTH Tryz.prog (gl L) 36 1 (EH T i 0 k) [.ptr 0 0] (eyQ stD T k i r) from H _ rfl
   intro r hr
   have hr:go T (fun l=>match takeP [105,102] l with | some l1=>((exprP f l1).then fun x l2=>(blockP (stmtP f) l2).then fun b l3=>(match takeP [101,108,115,101] l3 with | some l4=>(blockP (stmtP f) l4).then fun c l5=>.ok (.mk 3 [] [x] b c) l5 | none=>.ok (.mk 3 [] [x] b []) l3)) | none=>(match takeP [119,104,105,108,101] l with | some l1=>((exprP f l1).then fun x l2=>(blockP (stmtP f) l2).then fun b l3=>.ok (.mk 4 [] [x] b []) l3) | none=>(match takeP [114,101,116,117,114,110] l with | some l1=>finP (exprP f) 5 [] [] l1 | none=>(match takeP [115,97,121] l with | some l1=>finP (exprP f) 6 [] [] l1 | none=>((nameP l).then fun s l1=>(match takeP [91] l1 with | some l2=>(exprP f l2).then fun x l3=>(mustP [93] l3).then fun _ l4=>(mustP [61] l4).then fun _ l5=>finP (exprP f) 2 s [x] l5 | none=>(mustP [61] l1).then fun _ l2=>finP (exprP f) 1 s [] l2)))))) i 0=r:=hr
   refine enterHJ [3,27,1000014,25,26,19,22,23,24] hT hF hM Tryz.func36 rfl 75 rfl (by kernel_rfl) [.cell 2 70] rfl [.ptr 0 0] rfl (EH T i 0 k) [0] rfl rfl rfl 1 [] trivial _ ?_
   refine callO [0] down_fn rfl rfl ⟨rfl,.inl rfl,.inl rfl,rfl⟩ hD (fun d' h' hq=>?_) (fun d' h' hq=>by cases hq)
   injection hq with q1 q2;subst q1;subst q2
   refine turnTo [.old 0,.old 1,.old 2] [(0,.ptr 0 0),(2,.ptr 1 0),(3,.ptr 2 0)] (preE T i 0 (k+1) 0 [] none) ⟨rfl,.inl rfl,.inl rfl,rfl⟩ ?_
   refine joinTJ (ι:=Barb.Stmt × Nat × Int) rfl (fun _=>[(0,.ptr 0 0),(2,.ptr 1 0),(3,.ptr 2 0)]) (fun j=>EH T j.2.1 j.2.2 (k+1)++[.blk zs 70,.blk j.1.d 70]) (fun j=>EyR T i r j.1 j.2.1 j.2.2) (fun e0 j hj=>?_) (fun Rd hRd=>?_)
   rotate_left
   ·refine ⟨fun _=>?_,fun h=>absurd rfl h⟩
    have hS1:=sees_any (L:=L) T hTl.1 i (by omega) 0 (k+1) [105,102]
    cases hb1:seesB T i 0 [105,102] with
    | true =>
     obtain ⟨z1,hl1,ht1⟩:=sees_yes hb1
     rw[hb1,if_pos rfl] at hS1
     have hr:go T (fun l1=>((exprP f l1).then fun x l2=>(blockP (stmtP f) l2).then fun b l3=>(match takeP [101,108,115,101] l3 with | some l4=>(blockP (stmtP f) l4).then fun c l5=>.ok (.mk 3 [] [x] b c) l5 | none=>.ok (.mk 3 [] [x] b []) l3))) (i+1) 0=r:=by
      rw[← hr,go0,go0]
      simp only[ht1]
     refine callO [0] sees_fn rfl rfl ⟨rfl,.inl rfl,.inl rfl,rfl⟩ hS1 (fun d' h' hq=>?_) (fun d' h' hq=>by cases hq)
     injection hq with q1 q2;subst q1;subst q2
     have hE1:=hE (i+1) 0 hl1
     refine callO [0] ex_fn rfl rfl ⟨rfl,.inl rfl,.inl rfl,rfl⟩ hE1 (fun d' h' hq=>?_) (fun d' h' hq=>(ey_pan hq).elim)
     obtain ⟨x,i1,e1,h1,rfl,rfl⟩:=ey_ret hq
     have hr:=hr_next hr h1
     refine ⟨[gx x],rfl,rfl,⟨rfl,rfl,rfl,rfl,rfl,trivial⟩,?_⟩
     have hi1:=h1.1
     have hB1:=eblock_any (L:=L) hTl hS i1 e1 hi1.2
     refine callO [0] ebl_fn rfl rfl ⟨rfl,.inl rfl,.inl rfl,rfl⟩ hB1 (fun d' h' hq=>?_) (fun d' h' hq=>(ey_pan hq).elim)
     obtain ⟨bb,i2,e2,h2,rfl,rfl⟩:=ey_ret hq
     have hr:=hr_next hr h2
     have hi2:=h2.1
     have hr:go T (fun l3=>match takeP [101,108,115,101] l3 with | some l4=>(blockP (stmtP f) l4).then fun c l5=>.ok (.mk 3 [] [x] bb c) l5 | none=>.ok (.mk 3 [] [x] bb []) l3) i2 e2=r:=hr
     have hS7:=sees_any (L:=L) T hTl.1 i2 (by omega) e2 (k+1) [101,108,115,101]
     cases hb7:seesB T i2 e2 [101,108,115,101] with
     | true =>
      obtain ⟨z7,hl7,ht7⟩:=sees_yes hb7
      rw[hb7,if_pos rfl] at hS7
      subst z7
      have hr:go T (fun l1=>(blockP (stmtP f) l1).then fun c l5=>.ok (.mk 3 [] [x] bb c) l5) (i2+1) 0=r:=by
       rw[← hr,go0,go0]
       simp only[ht7]
      refine callO [0] sees_fn rfl rfl ⟨rfl,.inl rfl,.inl rfl,rfl⟩ hS7 (fun d' h' hq=>?_) (fun d' h' hq=>by cases hq)
      injection hq with q1 q2;subst q1;subst q2
      have hB2:=eblock_any (L:=L) hTl hS (i2+1) 0 hl7
      refine callO [0] ebl_fn rfl rfl ⟨rfl,.inl rfl,.inl rfl,rfl⟩ hB2 (fun d' h' hq=>?_) (fun d' h' hq=>(ey_pan hq).elim)
      obtain ⟨cc,i3,e3,h3,rfl,rfl⟩:=ey_ret hq
      have hr:=hr_next hr h3
      have hi3:=h3.1
      exact hRd ((.mk 3 [] [x] bb cc),i3,e3) _ _ [.old 0,.old 1,.old 2] ⟨rfl,.inr ⟨⟨rfl,.inl rfl⟩,⟨rfl,.inl rfl⟩,⟨rfl,.inr ⟨lk rfl,lk rfl,lkL (one_x x),lk rfl,lk rfl,trivial⟩⟩,trivial⟩,.inl rfl,rfl⟩ (show EyR T i r (.mk 3 [] [x] bb cc) i3 e3 from end_ok hr (by omega) (by omega))
     | false =>
      rw[hb7,if_neg (by decide)] at hS7
      have hr:go T (fun l=>.ok (.mk 3 [] [x] bb []) l) i2 e2=r:=by
       rw[← hr]
       refine go_congr fun he=>?_
       simp only[sees_no hb7 he]
      refine callO [0] sees_fn rfl rfl ⟨rfl,.inl rfl,.inl rfl,rfl⟩ hS7 (fun d' h' hq=>?_) (fun d' h' hq=>by cases hq)
      injection hq with q1 q2;subst q1;subst q2
      exact hRd ((.mk 3 [] [x] bb []),i2,e2) _ _ [.old 0,.old 1,.old 2] ⟨rfl,.inr ⟨⟨rfl,.inl rfl⟩,⟨rfl,.inl rfl⟩,⟨rfl,.inr ⟨lk rfl,lk rfl,lkL (one_x x),lk rfl,lkNil,trivial⟩⟩,trivial⟩,.inl rfl,rfl⟩ (show EyR T i r (.mk 3 [] [x] bb []) i2 e2 from end_ok hr (by omega) (by omega))
    | false =>
     rw[hb1,if_neg (by decide)] at hS1
     have hr:go T (fun l=>(match takeP [119,104,105,108,101] l with | some l1=>((exprP f l1).then fun x l2=>(blockP (stmtP f) l2).then fun b l3=>.ok (.mk 4 [] [x] b []) l3) | none=>(match takeP [114,101,116,117,114,110] l with | some l1=>finP (exprP f) 5 [] [] l1 | none=>(match takeP [115,97,121] l with | some l1=>finP (exprP f) 6 [] [] l1 | none=>((nameP l).then fun s l1=>(match takeP [91] l1 with | some l2=>(exprP f l2).then fun x l3=>(mustP [93] l3).then fun _ l4=>(mustP [61] l4).then fun _ l5=>finP (exprP f) 2 s [x] l5 | none=>(mustP [61] l1).then fun _ l2=>finP (exprP f) 1 s [] l2)))))) i 0=r:=by
      rw[← hr]
      refine go_congr fun he=>?_
      simp only[sees_no hb1 he]
     refine callO [0] sees_fn rfl rfl ⟨rfl,.inl rfl,.inl rfl,rfl⟩ hS1 (fun d' h' hq=>?_) (fun d' h' hq=>by cases hq)
     injection hq with q1 q2;subst q1;subst q2
     have hS2:=sees_any (L:=L) T hTl.1 i (by omega) 0 (k+1) [119,104,105,108,101]
     cases hb2:seesB T i 0 [119,104,105,108,101] with
     | true =>
      obtain ⟨z2,hl2,ht2⟩:=sees_yes hb2
      rw[hb2,if_pos rfl] at hS2
      have hr:go T (fun l1=>((exprP f l1).then fun x l2=>(blockP (stmtP f) l2).then fun b l3=>.ok (.mk 4 [] [x] b []) l3)) (i+1) 0=r:=by
       rw[← hr,go0,go0]
       simp only[ht2]
      refine callO [0] sees_fn rfl rfl ⟨rfl,.inl rfl,.inl rfl,rfl⟩ hS2 (fun d' h' hq=>?_) (fun d' h' hq=>by cases hq)
      injection hq with q1 q2;subst q1;subst q2
      have hE1:=hE (i+1) 0 hl2
      refine callO [0] ex_fn rfl rfl ⟨rfl,.inl rfl,.inl rfl,rfl⟩ hE1 (fun d' h' hq=>?_) (fun d' h' hq=>(ey_pan hq).elim)
      obtain ⟨x,i1,e1,h1,rfl,rfl⟩:=ey_ret hq
      have hr:=hr_next hr h1
      refine ⟨[gx x],rfl,rfl,⟨rfl,rfl,rfl,rfl,rfl,trivial⟩,?_⟩
      have hi1:=h1.1
      have hB1:=eblock_any (L:=L) hTl hS i1 e1 hi1.2
      refine callO [0] ebl_fn rfl rfl ⟨rfl,.inl rfl,.inl rfl,rfl⟩ hB1 (fun d' h' hq=>?_) (fun d' h' hq=>(ey_pan hq).elim)
      obtain ⟨bb,i2,e2,h2,rfl,rfl⟩:=ey_ret hq
      have hr:=hr_next hr h2
      have hi2:=h2.1
      exact hRd ((.mk 4 [] [x] bb []),i2,e2) _ _ [.old 0,.old 1,.old 2] ⟨rfl,.inr ⟨⟨rfl,.inl rfl⟩,⟨rfl,.inl rfl⟩,⟨rfl,.inr ⟨lk rfl,lk rfl,lkL (one_x x),lk rfl,lkNil,trivial⟩⟩,trivial⟩,.inl rfl,rfl⟩ (show EyR T i r (.mk 4 [] [x] bb []) i2 e2 from end_ok hr (by omega) (by omega))
     | false =>
      rw[hb2,if_neg (by decide)] at hS2
      have hr:go T (fun l=>(match takeP [114,101,116,117,114,110] l with | some l1=>finP (exprP f) 5 [] [] l1 | none=>(match takeP [115,97,121] l with | some l1=>finP (exprP f) 6 [] [] l1 | none=>((nameP l).then fun s l1=>(match takeP [91] l1 with | some l2=>(exprP f l2).then fun x l3=>(mustP [93] l3).then fun _ l4=>(mustP [61] l4).then fun _ l5=>finP (exprP f) 2 s [x] l5 | none=>(mustP [61] l1).then fun _ l2=>finP (exprP f) 1 s [] l2))))) i 0=r:=by
       rw[← hr]
       refine go_congr fun he=>?_
       simp only[sees_no hb2 he]
      refine callO [0] sees_fn rfl rfl ⟨rfl,.inl rfl,.inl rfl,rfl⟩ hS2 (fun d' h' hq=>?_) (fun d' h' hq=>by cases hq)
      injection hq with q1 q2;subst q1;subst q2
      refine turnTo [.old 0,.old 1,.old 2] [(0,.ptr 0 0),(2,.ptr 1 0),(3,.ptr 2 0)] (preE T i 0 (k+1) 0 [] none) ⟨rfl,.inl rfl,.inl rfl,rfl⟩ ?_
      refine joinTJ (ι:=Int × Str × Option Barb.Expr × Nat × Int) rfl (fun _=>[(0,.ptr 0 0),(2,.ptr 1 0),(3,.ptr 2 0)]) (fun j=>preE T j.2.2.2.1 j.2.2.2.2 (k+1) j.1 j.2.1 j.2.2.1) (fun j=>(i≤j.2.2.2.1∧j.2.2.2.1≤T.length)∧go T (finP (exprP f) j.1 j.2.1 j.2.2.1.toList) j.2.2.2.1 j.2.2.2.2=r) (fun e0 j hj=>?_) (fun Rq hRq=>?_)
      rotate_left
      ·have hS3:=sees_any (L:=L) T hTl.1 i (by omega) 0 (k+1) [114,101,116,117,114,110]
       cases hb3:seesB T i 0 [114,101,116,117,114,110] with
       | true =>
        obtain ⟨z3,hl3,ht3⟩:=sees_yes hb3
        rw[hb3,if_pos rfl] at hS3
        have hr:go T (fun l1=>finP (exprP f) 5 [] [] l1) (i+1) 0=r:=by
         rw[← hr,go0,go0]
         simp only[ht3]
        refine callO [0] sees_fn rfl rfl ⟨rfl,.inl rfl,.inl rfl,rfl⟩ hS3 (fun d' h' hq=>?_) (fun d' h' hq=>by cases hq)
        injection hq with q1 q2;subst q1;subst q2
        exact hRq (5,[],none,i+1,0) _ _ [.old 0,.old 1,.old 2] ⟨rfl,.inl rfl,.inl rfl,rfl⟩ ⟨show i≤i+1∧i+1≤T.length from by omega,hr⟩
       | false =>
        rw[hb3,if_neg (by decide)] at hS3
        have hr:go T (fun l=>(match takeP [115,97,121] l with | some l1=>finP (exprP f) 6 [] [] l1 | none=>((nameP l).then fun s l1=>(match takeP [91] l1 with | some l2=>(exprP f l2).then fun x l3=>(mustP [93] l3).then fun _ l4=>(mustP [61] l4).then fun _ l5=>finP (exprP f) 2 s [x] l5 | none=>(mustP [61] l1).then fun _ l2=>finP (exprP f) 1 s [] l2)))) i 0=r:=by
         rw[← hr]
         refine go_congr fun he=>?_
         simp only[sees_no hb3 he]
        refine callO [0] sees_fn rfl rfl ⟨rfl,.inl rfl,.inl rfl,rfl⟩ hS3 (fun d' h' hq=>?_) (fun d' h' hq=>by cases hq)
        injection hq with q1 q2;subst q1;subst q2
        have hS4:=sees_any (L:=L) T hTl.1 i (by omega) 0 (k+1) [115,97,121]
        cases hb4:seesB T i 0 [115,97,121] with
        | true =>
         obtain ⟨z4,hl4,ht4⟩:=sees_yes hb4
         rw[hb4,if_pos rfl] at hS4
         have hr:go T (fun l1=>finP (exprP f) 6 [] [] l1) (i+1) 0=r:=by
          rw[← hr,go0,go0]
          simp only[ht4]
         refine callO [0] sees_fn rfl rfl ⟨rfl,.inl rfl,.inl rfl,rfl⟩ hS4 (fun d' h' hq=>?_) (fun d' h' hq=>by cases hq)
         injection hq with q1 q2;subst q1;subst q2
         exact hRq (6,[],none,i+1,0) _ _ [.old 0,.old 1,.old 2] ⟨rfl,.inl rfl,.inl rfl,rfl⟩ ⟨show i≤i+1∧i+1≤T.length from by omega,hr⟩
        | false =>
         rw[hb4,if_neg (by decide)] at hS4
         have hr:go T (fun l=>((nameP l).then fun s l1=>(match takeP [91] l1 with | some l2=>(exprP f l2).then fun x l3=>(mustP [93] l3).then fun _ l4=>(mustP [61] l4).then fun _ l5=>finP (exprP f) 2 s [x] l5 | none=>(mustP [61] l1).then fun _ l2=>finP (exprP f) 1 s [] l2))) i 0=r:=by
          rw[← hr]
          refine go_congr fun he=>?_
          simp only[sees_no hb4 he]
         have hN:=ident_any (L:=L) T hTl (k+1) i 0 hi
         refine callO [0] sees_fn rfl rfl ⟨rfl,.inl rfl,.inl rfl,rfl⟩ hS4 (fun d' h' hq=>?_) (fun d' h' hq=>by cases hq)
         injection hq with q1 q2;subst q1;subst q2
         refine turnTo [.old 0,.old 1,.old 2] [(0,.ptr 0 0),(2,.ptr 1 0),(3,.ptr 2 0)] (preE T i 0 (k+1) 1 [] none) ⟨rfl,.inl rfl,.inl rfl,rfl⟩ ?_
         refine callO [0] ident_fn rfl rfl ⟨rfl,.inl rfl,.inl rfl,rfl⟩ hN (fun d' h' hq=>?_) (fun d' h' hq=>(ey_pan hq).elim)
         obtain ⟨s,i1,e1,h1,rfl,rfl⟩:=ey_ret hq
         have hr:=hr_next hr h1
         have hi1:=h1.1
         have hr:go T (fun l1=>(match takeP [91] l1 with | some l2=>(exprP f l2).then fun x l3=>(mustP [93] l3).then fun _ l4=>(mustP [61] l4).then fun _ l5=>finP (exprP f) 2 s [x] l5 | none=>(mustP [61] l1).then fun _ l2=>finP (exprP f) 1 s [] l2)) i1 e1=r:=hr
         have hS5:=sees_any (L:=L) T hTl.1 i1 (by omega) e1 (k+1) [91]
         cases hb5:seesB T i1 e1 [91] with
         | true =>
          obtain ⟨z5,hl5,ht5⟩:=sees_yes hb5
          rw[hb5,if_pos rfl] at hS5
          subst z5
          have hr:go T (fun l1=>(exprP f l1).then fun x l3=>(mustP [93] l3).then fun _ l4=>(mustP [61] l4).then fun _ l5=>finP (exprP f) 2 s [x] l5) (i1+1) 0=r:=by
           rw[← hr,go0,go0]
           simp only[ht5]
          refine callO [0] sees_fn rfl rfl ⟨rfl,.inl rfl,.inl rfl,rfl⟩ hS5 (fun d' h' hq=>?_) (fun d' h' hq=>by cases hq)
          injection hq with q1 q2;subst q1;subst q2
          have hE1:=hE (i1+1) 0 hl5
          refine turnTo [.old 0,.old 1,.old 2] [(0,.ptr 0 0),(2,.ptr 1 0),(3,.ptr 2 0)] (preE T (i1+1) 0 (k+1) 2 s none) ⟨rfl,.inl rfl,.inl rfl,rfl⟩ ?_
          refine callO [0] ex_fn rfl rfl ⟨rfl,.inl rfl,.inl rfl,rfl⟩ hE1 (fun d' h' hq=>?_) (fun d' h' hq=>(ey_pan hq).elim)
          obtain ⟨x,i2,e2,h2,rfl,rfl⟩:=ey_ret hq
          have hr:=hr_next hr h2
          refine ⟨[gx x],rfl,rfl,⟨rfl,rfl,rfl,rfl,rfl,trivial⟩,?_⟩
          have hi2:=h2.1
          have hW1:=wants_any (L:=L) T hTl.1 (k+1) [93] i2 e2 hi2.2
          refine turnTo [.old 0,.old 1,.old 2,.old 3] [(0,.ptr 0 0),(2,.ptr 1 0),(3,.ptr 2 0)] (preE T i2 e2 (k+1) 2 s (some x)) ⟨rfl,.inl rfl,.inl rfl,rfl⟩ ?_
          refine callO [0] wants_fn rfl rfl ⟨rfl,.inl rfl,.inl rfl,rfl⟩ hW1 (fun d' h' hq=>?_) (fun d' h' hq=>(ey_pan hq).elim)
          obtain ⟨_,i3,e3,h3,rfl,rfl⟩:=ey_ret hq
          have hr:=hr_next hr h3
          have hi3:=h3.1
          have hW2:=wants_any (L:=L) T hTl.1 (k+1) [61] i3 e3 hi3.2
          refine turnTo [.old 0,.old 1,.old 2,.old 3] [(0,.ptr 0 0),(2,.ptr 1 0),(3,.ptr 2 0)] (preE T i3 e3 (k+1) 2 s (some x)) ⟨rfl,.inl rfl,.inl rfl,rfl⟩ ?_
          refine callO [0] wants_fn rfl rfl ⟨rfl,.inl rfl,.inl rfl,rfl⟩ hW2 (fun d' h' hq=>?_) (fun d' h' hq=>(ey_pan hq).elim)
          obtain ⟨_,i4,e4,h4,rfl,rfl⟩:=ey_ret hq
          have hr:=hr_next hr h4
          have hi4:=h4.1
          exact hRq (2,s,some x,i4,e4) _ _ [.old 0,.old 1,.old 2,.old 3] ⟨rfl,.inl rfl,.inl rfl,rfl⟩ ⟨show i≤i4∧i4≤T.length from by omega,hr⟩
         | false =>
          rw[hb5,if_neg (by decide)] at hS5
          have hr:go T (fun l=>(mustP [61] l).then fun _ l2=>finP (exprP f) 1 s [] l2) i1 e1=r:=by
           rw[← hr]
           refine go_congr fun he=>?_
           simp only[sees_no hb5 he]
          refine callO [0] sees_fn rfl rfl ⟨rfl,.inl rfl,.inl rfl,rfl⟩ hS5 (fun d' h' hq=>?_) (fun d' h' hq=>by cases hq)
          injection hq with q1 q2;subst q1;subst q2
          have hW2:=wants_any (L:=L) T hTl.1 (k+1) [61] i1 e1 hi1.2
          refine turnTo [.old 0,.old 1,.old 2] [(0,.ptr 0 0),(2,.ptr 1 0),(3,.ptr 2 0)] (preE T i1 e1 (k+1) 1 s none) ⟨rfl,.inl rfl,.inl rfl,rfl⟩ ?_
          refine callO [0] wants_fn rfl rfl ⟨rfl,.inl rfl,.inl rfl,rfl⟩ hW2 (fun d' h' hq=>?_) (fun d' h' hq=>(ey_pan hq).elim)
          obtain ⟨_,i4,e4,h4,rfl,rfl⟩:=ey_ret hq
          have hr:=hr_next hr h4
          have hi4:=h4.1
          exact hRq (1,s,none,i4,e4) _ _ [.old 0,.old 1,.old 2] ⟨rfl,.inl rfl,.inl rfl,rfl⟩ ⟨show i≤i4∧i4≤T.length from by omega,hr⟩
      obtain ⟨kd,s,o,i7,e7⟩:=j
      obtain ⟨hi7,hr⟩:=hj
      have hi7:i≤i7∧i7≤T.length:=hi7
      have hr:go T (fun l=>(exprP f l).then fun x l1=>(mustP [59] l1).then fun _ l2=>.ok (.mk kd s (o.toList++[x]) [] []) l2) i7 e7=r:=hr
      have hEt:=hE i7 e7 hi7.2
      refine joinTJ (ι:=Barb.Expr × Nat × Int) rfl (fun _=>[(0,.ptr 0 0),(2,.ptr 1 0),(3,.ptr 2 0)]) (fun j=>EH T j.2.1 j.2.2 (k+1)++[.blk zs 70,.blk [.g (.int kd),.g (.str s),.g (.sl 5 (o.toList.map gx++[gx j.1])),.nils,.nils] 70]) (fun j=>EyR T i7 (go T (exprP f) i7 e7) j.1 j.2.1 j.2.2) (fun e1 j hj=>?_) (fun Rt hRt=>?_)
      rotate_left
      ·cases o with
       | none =>
        refine ⟨some 60002,(.lead 0 (.lead 2 (.two (.run 1 (.run 3 (.run 4 (.run 5 (.run 6 (.run 7 .done)))))) (.run 3 (.two (.run 1 (.run 4 (.run 5 (.run 6 (.run 7 .done))))) (.run 4 (.run 1 (.run 5 (.run 6 (.run 7 .done)))))))))),rfl,?_⟩
        refine ⟨?_,?_⟩
        ·refine callO [0] ex_fn rfl rfl ⟨rfl,.inl rfl,.inl rfl,rfl⟩ hEt (fun d' h' hq=>?_) (fun d' h' hq=>(ey_pan hq).elim)
         obtain ⟨y,i8,e8,h8,rfl,rfl⟩:=ey_ret hq
         refine ⟨[gx y],rfl,rfl,⟨rfl,rfl,rfl,rfl,rfl,trivial⟩,?_⟩
         refine ⟨⟨by simp only[maxLen,List.length_cons,List.length_nil];omega,by simp only[List.length_cons,List.length_nil];omega⟩,?_⟩
         exact hRt (y,i8,e8) _ _ [.old 0,.old 1,.old 2] ⟨rfl,.inl rfl,.inl rfl,rfl⟩ h8
        ·refine callO [0] ex_fn rfl rfl ⟨rfl,.inl rfl,.inl rfl,rfl⟩ hEt (fun d' h' hq=>?_) (fun d' h' hq=>(ey_pan hq).elim)
         obtain ⟨y,i8,e8,h8,rfl,rfl⟩:=ey_ret hq
         refine ⟨?_,?_⟩
         ·refine ⟨[gx y],rfl,rfl,⟨rfl,rfl,rfl,rfl,rfl,trivial⟩,?_⟩
          refine ⟨⟨by simp only[maxLen,List.length_cons,List.length_nil];omega,by simp only[List.length_cons,List.length_nil];omega⟩,?_⟩
          exact hRt (y,i8,e8) _ _ [.old 0,.old 1,.old 2] ⟨rfl,.inl rfl,.inl rfl,rfl⟩ h8
         ·refine ⟨[gx y],rfl,rfl,⟨rfl,rfl,rfl,rfl,rfl,trivial⟩,?_⟩
          refine ⟨⟨by simp only[maxLen,List.length_cons,List.length_nil];omega,by simp only[List.length_cons,List.length_nil];omega⟩,?_⟩
          exact hRt (y,i8,e8) _ _ [.old 0,.old 1,.old 2] ⟨rfl,.inl rfl,.inl rfl,rfl⟩ h8
       | some x0 =>
        refine ⟨some 60002,(.lead 0 (.lead 2 (.two (.run 1 (.run 3 (.run 4 (.run 5 (.run 6 (.run 7 .done)))))) (.run 3 (.two (.run 1 (.run 4 (.run 5 (.run 6 (.run 7 .done))))) (.run 4 (.run 1 (.run 5 (.run 6 (.run 7 .done)))))))))),rfl,?_⟩
        refine ⟨?_,?_⟩
        ·refine callO [0] ex_fn rfl rfl ⟨rfl,.inl rfl,.inl rfl,rfl⟩ hEt (fun d' h' hq=>?_) (fun d' h' hq=>(ey_pan hq).elim)
         obtain ⟨y,i8,e8,h8,rfl,rfl⟩:=ey_ret hq
         refine ⟨[gx y],rfl,rfl,⟨rfl,rfl,rfl,rfl,rfl,trivial⟩,?_⟩
         refine ⟨⟨by simp only[maxLen,List.length_cons,List.length_nil];omega,by simp only[List.length_cons,List.length_nil];omega⟩,?_⟩
         exact hRt (y,i8,e8) _ _ [.old 0,.old 1,.old 2] ⟨rfl,.inl rfl,.inl rfl,rfl⟩ h8
        ·refine callO [0] ex_fn rfl rfl ⟨rfl,.inl rfl,.inl rfl,rfl⟩ hEt (fun d' h' hq=>?_) (fun d' h' hq=>(ey_pan hq).elim)
         obtain ⟨y,i8,e8,h8,rfl,rfl⟩:=ey_ret hq
         refine ⟨?_,?_⟩
         ·refine ⟨[gx y],rfl,rfl,⟨rfl,rfl,rfl,rfl,rfl,trivial⟩,?_⟩
          refine ⟨⟨by simp only[maxLen,List.length_cons,List.length_nil];omega,by simp only[List.length_cons,List.length_nil];omega⟩,?_⟩
          exact hRt (y,i8,e8) _ _ [.old 0,.old 1,.old 2] ⟨rfl,.inl rfl,.inl rfl,rfl⟩ h8
         ·refine ⟨[gx y],rfl,rfl,⟨rfl,rfl,rfl,rfl,rfl,trivial⟩,?_⟩
          refine ⟨⟨by simp only[maxLen,List.length_cons,List.length_nil];omega,by simp only[List.length_cons,List.length_nil];omega⟩,?_⟩
          exact hRt (y,i8,e8) _ _ [.old 0,.old 1,.old 2] ⟨rfl,.inl rfl,.inl rfl,rfl⟩ h8
      obtain ⟨y,i8,e8⟩:=j
      have h8:EyR T i7 (go T (exprP f) i7 e7) y i8 e8:=hj
      have hr:=hr_next hr h8
      have hi8:=h8.1
      have hWt:=wants_any (L:=L) T hTl.1 (k+1) [59] i8 e8 hi8.2
      refine callO [0] wants_fn rfl rfl ⟨rfl,.inl rfl,.inl rfl,rfl⟩ hWt (fun d' h' hq=>?_) (fun d' h' hq=>(ey_pan hq).elim)
      obtain ⟨_,i9,e9,h9,rfl,rfl⟩:=ey_ret hq
      have hr:=hr_next hr h9
      have hi9:=h9.1
      exact hRd ((.mk kd s (o.toList++[y]) [] []),i9,e9) _ _ [.old 0,.old 1,.old 2] ⟨rfl,.inr ⟨⟨rfl,.inl rfl⟩,⟨rfl,.inl rfl⟩,⟨rfl,.inr ⟨lk rfl,lk rfl,lkL (rows_x o y),lkNil,lkNil,trivial⟩⟩,trivial⟩,.inl rfl,rfl⟩ (show EyR T i r (.mk kd s (o.toList++[y]) [] []) i9 e9 from end_ok hr (by omega) (by omega))
   obtain ⟨x,i1,e1⟩:=j
   have h1:EyR T i r x i1 e1:=hj
   refine ⟨by unfold I64;omega,?_⟩
   exact ⟨rfl,endEH (stD x) T i1 e1 k [.old 0] rfl rfl rfl (.inl rfl) rfl rfl rfl rfl (by omega) ⟨x,i1,e1,h1,rfl⟩⟩
  ·rw[goE _ _ he]
   refine enterH [] hT hF hM Tryz.func36 rfl 75 rfl (by kernel_rfl) [.cell 2 70] rfl [.ptr 0 0] rfl (EH T i e k) [0] rfl rfl rfl 1 [] trivial _ ?_
   refine callO [0] down_fn rfl rfl ⟨rfl,.inl rfl,.inl rfl,rfl⟩ hD (fun d' h' hq=>?_) (fun d' h' hq=>by cases hq)
   injection hq with q1 q2;subst q1;subst q2
   refine ⟨fun h=>absurd h he,fun _=>?_⟩
   refine ⟨by unfold I64;omega,?_⟩
   exact ⟨rfl,endEH (stD (.mk 0 [] [] [] [])) T i e k [.old 0] rfl rfl rfl (.inr (lkS0 _ _)) rfl rfl rfl rfl (by omega) ⟨.mk 0 [] [] [] [],i,e,EyR.bad (Nat.le_refl _) hi he,rfl⟩⟩
end Go.Proofs.YtabjelabdojpkaaGreatDoor
