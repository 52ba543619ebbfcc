/-
  The reference's reading of a text: the contract.
-/
import Derived.Test.YtabjelabdojpkaaGreatDoorYc
import Derived.Test.YtabjelabdojpkaaGreatDoorRi
import Derived.Test.YtabjelabdojpkaaGreatDoorTl
namespace Go.Proofs.YtabjelabdojpkaaGreatDoor
open Go Go.Dm Go.Eng Go.RowKit Barb
theorem then_then {α β γ:Type} (r:PR α) (f:α→List Tok→PR β) (g:β→List Tok→PR γ):(r.then f).then g=r.then fun a l=>(f a l).then g:=by cases r<;>rfl
theorem far_go {α β:Type} {p:Nat→List Tok→PR α} {K:α→List Tok→PR β} (hf:∀ (n:Nat) (l:List Tok) (m:Nat),l.length < n→l.length < m→p n l=p m l) {T:List Tok} {i i2:Nat} {e:Int} (h1:e=0→i < i2) (hi:i≤T.length) (h2:i2≤T.length):go T (fun l=>(p (T.drop i).length l).then K) i2 e=go T (fun l=>(p (l.length+1) l).then K) i2 e :=
 go_congr fun he=>by rw[hf _ _ _ (by have:=h1 he;rw[List.length_drop,List.length_drop];omega) (Nat.lt_succ_self _)]
theorem go_at {α:Type} {T:List Tok} {p q:List Tok→PR α} {i j:Nat} {e:Int} (he:e=0) (h:p (T.drop i)=q (T.drop j)):go T p i e=go T q j e:=by
 subst he;rw[go0,go0,h]
set_option maxRecDepth 20000 in
set_option maxHeartbeats 8000000 in
theorem UnitOf_any {L:Lv} (s:Str) (hs:s.length≤9223372036854775807):CT Tryz.prog (gl L) 5 [.g (.str s)] (Is (.tuple [.agg (readR s).1.d,.g (.int (readR s).2)])):=by
 by_cases hc:cutE s=0
 rotate_left
 ·have hTo:=TokensOf_any (L:=L) s hs
  rw[readR_cut hc]
  generalize cutE s=ce at *
  generalize cutL s=T at *
  refine enter hT hF hM Tryz.func5 rfl 132 rfl (by kernel_rfl) [.cell 2 26,.tmp 3] rfl [.g (.str s)] rfl _ ?_
  refine callIs (.inl rfl) hTo ?_
  refine ⟨fun _=>?_,fun h=>absurd h hc⟩
  exact ⟨rfl,retIs (.inr (likeZ ce))⟩
 have hTo:=TokensOf_any (L:=L) s hs
 rw[hc] at hTo
 have hK:RdOk (cutL s):=cut_ok s
 have hRb:=fun e=>readR_bad (s:=s) (e:=e) hc
 have hRc:=fun u l=>readR_check (s:=s) (u:=u) (l:=l) hc
 have hRo:=fun u l=>readR_ok (s:=s) (u:=u) (l:=l) hc
 have hGd:=unit_gd (cutL s) hK
 generalize readR s=R at *
 generalize cutL s=T at *
 have hTl:T.length≤3000:=hK.1
 have lT:(T.map Tok.g).length=T.length:=by simp
 have hSt:EyS L T 48 0:=estmt_any hK 48 0 (by omega) (by omega)
 obtain ⟨r,hr⟩:∃ r,unitP T=r:=⟨_,rfl⟩
 rw[hr] at hRb hRc hRo hGd
 have hr:go T (fun l=>(mustP [117,110,105,116] l).then fun _ l1=>(nameP l1).then fun s l2=>(varsP (l2.length+1) [] l2).then (kV s)) 0 0=r:=by rw[go0];exact hr
 refine enterJ [17,19,25] hT hF hM Tryz.func5 rfl 132 rfl (by kernel_rfl) [.cell 2 26,.tmp 3] rfl [.g (.str s)] rfl _ ?_
 refine callIs (.inl rfl) hTo ?_
 refine ⟨fun h=>absurd rfl h,fun _=>?_⟩
 have hW1:=wants_any (L:=L) T hK.1 0 [117,110,105,116] 0 0 (by omega)
 refine callO [1] wants_fn rfl rfl ⟨rfl,.inl rfl,.inl rfl,rfl⟩ hW1 (fun d' h' hq=>?_) (fun d' h' hq=>(ey_pan hq).elim)
 obtain ⟨_,i1,e1,h1,rfl,rfl⟩:=ey_ret hq
 have hr:=hr_next hr h1
 have hi1:=h1.1
 have hN1:=ident_any (L:=L) T hK 0 i1 e1 (by omega)
 refine callO [1] ident_fn rfl rfl ⟨rfl,.inl rfl,.inl rfl,rfl⟩ hN1 (fun d' h' hq=>?_) (fun d' h' hq=>(ey_pan hq).elim)
 obtain ⟨nm,i2,e2,h2,rfl,rfl⟩:=ey_ret hq
 have hr:=hr_next hr h2
 have hi2:=h2.1
 refine loopR (ι:=List Str × Nat × Int) (fun _=>[(2,.ptr 0 0),(4,.g (.sl 2 (T.map Tok.g))),(6,.ptr 1 0),(7,.ptr 2 0)]) (fun j=>[.blk zU 26,.blk (EB T j.2.1 j.2.2 0) 39,.blk [.g (.str nm),.row 3,.nils,.nils] 26,.row (j.1.map strG) 9 1]) (fun j=>j.2.1≤T.length∧j.1.length≤j.2.1∧go T (fun l=>(varsP (l.length+1) j.1 l).then (kV nm)) j.2.1 j.2.2=r) (fun j=>T.length - j.2.1)
  ⟨([],i2,e2),[.old 0,.old 1,.old 2,.nil 9 1],⟨rfl,.inr ⟨⟨rfl,.inl rfl⟩,⟨rfl,.inl rfl⟩,⟨rfl,.inr ⟨lk rfl,.inr rfl,lk rfl,lk rfl,trivial⟩⟩,⟨rfl,rfl,rfl⟩,trivial⟩,.inr ⟨lk rfl,lk rfl,lk rfl,lk rfl,trivial⟩,rfl⟩,hi2.2,Nat.zero_le _,hr⟩ ?_
 rintro Rdvs hRdvs ⟨vs,a,ea⟩ ⟨hma,hna,hr⟩
 have hma:a≤T.length:=hma
 have hna:vs.length≤a:=hna
 have hr:go T (fun l=>(varsP (l.length+1) vs l).then (kV nm)) a ea=r:=hr
 have hS1:=sees_any (L:=L) T hTl a (by omega) ea 0 [118,97,114]
 cases hb1:seesB T a ea [118,97,114] with
 | true =>
  obtain ⟨z1,hl1,ht1⟩:=sees_yes hb1
  rw[hb1,if_pos rfl] at hS1
  have hr:go T (fun l1=>(nameP l1).then fun x l2=>(varsP (T.drop a).length (vs++[x]) l2).then (kV nm)) (a+1) ea=r:=by
   rw[← hr]
   refine (go_at z1 ?_).symm
   simp only[varsP,ht1,then_then]
  refine callO [1] sees_fn rfl rfl ⟨rfl,.inl rfl,.inl rfl,rfl⟩ hS1 (fun d' h' hq=>?_) (fun d' h' hq=>by cases hq)
  injection hq with q1 q2;subst q1;subst q2
  have hN2:=ident_any (L:=L) T hK 0 (a+1) ea (by omega)
  refine ⟨some 60002,(.lead 0 (.lead 2 (.two (.run 1 (.run 3 (.run 4 (.run 5 (.run 6 (.run 7 .done)))))) (.run 3 (.two (.run 1 (.run 4 (.run 5 (.run 6 (.run 7 .done))))) (.run 4 (.run 1 (.run 5 (.run 6 (.run 7 .done)))))))))),rfl,?_⟩
  refine ⟨?_,?_⟩
  ·refine callO [1] ident_fn rfl rfl ⟨rfl,.inl rfl,.inl rfl,rfl⟩ hN2 (fun d' h' hq=>?_) (fun d' h' hq=>(ey_pan hq).elim)
   obtain ⟨x,i3,e3,h3,rfl,rfl⟩:=ey_ret hq
   have hr:=hr_next hr h3
   have hi3:=h3.1
   rw[far_go (p:=fun n l=>varsP n (vs++[x]) l) (fun n l m=>vars_far n _ l m) (fun _=>by omega) (by omega) hi3.2] at hr
   refine ⟨[[.str x]],rfl,rfl,⟨rfl,trivial⟩,?_⟩
   refine ⟨⟨by simp only[maxLen,List.length_cons,List.length_nil,List.length_map];omega,by simp only[List.length_cons,List.length_nil,List.length_map];omega⟩,?_⟩
   exact hRdvs _ _ _ ⟨(vs++[x],i3,e3),[.old 0,.old 1,.old 2,.old 5],⟨rfl,.inr ⟨⟨rfl,.inl rfl⟩,⟨rfl,.inl rfl⟩,⟨rfl,.inl rfl⟩,⟨by rw[List.map_append];rfl,rfl,rfl⟩,trivial⟩,.inr ⟨lk rfl,lk rfl,lk rfl,lk rfl,trivial⟩,rfl⟩,⟨hi3.2,by show (vs++[x]).length≤i3;simp;omega,hr⟩,by show T.length - i3 < T.length - a;omega⟩
  ·refine callO [1] ident_fn rfl rfl ⟨rfl,.inl rfl,.inl rfl,rfl⟩ hN2 (fun d' h' hq=>?_) (fun d' h' hq=>(ey_pan hq).elim)
   obtain ⟨x,i3,e3,h3,rfl,rfl⟩:=ey_ret hq
   have hr:=hr_next hr h3
   have hi3:=h3.1
   rw[far_go (p:=fun n l=>varsP n (vs++[x]) l) (fun n l m=>vars_far n _ l m) (fun _=>by omega) (by omega) hi3.2] at hr
   refine ⟨?_,?_⟩
   ·refine ⟨[[.str x]],rfl,rfl,⟨rfl,trivial⟩,?_⟩
    refine ⟨⟨by simp only[maxLen,List.length_cons,List.length_nil,List.length_map];omega,by simp only[List.length_cons,List.length_nil,List.length_map];omega⟩,?_⟩
    exact hRdvs _ _ _ ⟨(vs++[x],i3,e3),[.old 0,.old 1,.old 2,.old 5],⟨rfl,.inr ⟨⟨rfl,.inl rfl⟩,⟨rfl,.inl rfl⟩,⟨rfl,.inl rfl⟩,⟨by rw[List.map_append];rfl,rfl,rfl⟩,trivial⟩,.inr ⟨lk rfl,lk rfl,lk rfl,lk rfl,trivial⟩,rfl⟩,⟨hi3.2,by show (vs++[x]).length≤i3;simp;omega,hr⟩,by show T.length - i3 < T.length - a;omega⟩
   ·refine ⟨[[.str x]],rfl,rfl,⟨rfl,trivial⟩,?_⟩
    refine ⟨⟨by simp only[maxLen,List.length_cons,List.length_nil,List.length_map];omega,by simp only[List.length_cons,List.length_nil,List.length_map];omega⟩,?_⟩
    exact hRdvs _ _ _ ⟨(vs++[x],i3,e3),[.old 0,.old 1,.old 2,.old 5],⟨rfl,.inr ⟨⟨rfl,.inl rfl⟩,⟨rfl,.inl rfl⟩,⟨rfl,.inl rfl⟩,⟨by rw[List.map_append];rfl,rfl,rfl⟩,trivial⟩,.inr ⟨lk rfl,lk rfl,lk rfl,lk rfl,trivial⟩,rfl⟩,⟨hi3.2,by show (vs++[x]).length≤i3;simp;omega,hr⟩,by show T.length - i3 < T.length - a;omega⟩
 | false =>
  rw[hb1,if_neg (by decide)] at hS1
  have hr:go T (fun l=>(arrsP (l.length+1) [] l).then (kA nm vs)) a ea=r:=by
   rw[← hr]
   refine go_congr fun he=>?_
   simp only[varsP,sees_no hb1 he]
   rfl
  refine callO [1] sees_fn rfl rfl ⟨rfl,.inl rfl,.inl rfl,rfl⟩ hS1 (fun d' h' hq=>?_) (fun d' h' hq=>by cases hq)
  injection hq with q1 q2;subst q1;subst q2
  refine loopR (ι:=List Arr × Nat × Int) (fun _=>[(2,.ptr 0 0),(4,.g (.sl 2 (T.map Tok.g))),(6,.ptr 1 0),(7,.ptr 2 0)]) (fun j=>[.blk zU 26,.blk (EB T j.2.1 j.2.2 0) 39,.blk [.g (.str nm),.g (.sl 1 (vs.map strG)),.row 3,.nils] 26,.row (j.1.map Arr.g) 43 2]) (fun j=>j.2.1≤T.length∧j.1.length≤j.2.1∧go T (fun l=>(arrsP (l.length+1) j.1 l).then (kA nm vs)) j.2.1 j.2.2=r) (fun j=>T.length - j.2.1)
   ⟨([],a,ea),[.old 0,.old 1,.old 2,.nil 43 2],⟨rfl,.inr ⟨⟨rfl,.inl rfl⟩,⟨rfl,.inl rfl⟩,⟨rfl,.inr ⟨lk rfl,lk rfl,.inr rfl,lk rfl,trivial⟩⟩,⟨rfl,rfl,rfl⟩,trivial⟩,.inr ⟨lk rfl,lk rfl,lk rfl,lk rfl,trivial⟩,rfl⟩,hma,Nat.zero_le _,hr⟩ ?_
  rintro Rdaz hRdaz ⟨az,b,eb⟩ ⟨hmb,hnb,hr⟩
  have hmb:b≤T.length:=hmb
  have hnb:az.length≤b:=hnb
  have hr:go T (fun l=>(arrsP (l.length+1) az l).then (kA nm vs)) b eb=r:=hr
  have hS2:=sees_any (L:=L) T hTl b (by omega) eb 0 [97,114,114,97,121]
  cases hb2:seesB T b eb [97,114,114,97,121] with
  | true =>
   obtain ⟨z2,hl2,ht2⟩:=sees_yes hb2
   rw[hb2,if_pos rfl] at hS2
   have hr:go T (fun l1=>(nameP l1).then fun x l2=>(numP l2).then fun k l3=>(arrsP (T.drop b).length (az++[Arr.mk x k]) l3).then (kA nm vs)) (b+1) eb=r:=by
    rw[← hr]
    refine (go_at z2 ?_).symm
    simp only[arrsP,ht2,then_then]
   refine callO [1] sees_fn rfl rfl ⟨rfl,.inl rfl,.inl rfl,rfl⟩ hS2 (fun d' h' hq=>?_) (fun d' h' hq=>by cases hq)
   injection hq with q1 q2;subst q1;subst q2
   have hN3:=ident_any (L:=L) T hK 0 (b+1) eb (by omega)
   refine callO [1] ident_fn rfl rfl ⟨rfl,.inl rfl,.inl rfl,rfl⟩ hN3 (fun d' h' hq=>?_) (fun d' h' hq=>(ey_pan hq).elim)
   obtain ⟨x,i3,e3,h3,rfl,rfl⟩:=ey_ret hq
   have hr:=hr_next hr h3
   have hi3:=h3.1
   have hN4:=num_any (L:=L) T hK 0 i3 e3 (by omega)
   refine callO [1] num_fn rfl rfl ⟨rfl,.inl rfl,.inl rfl,rfl⟩ hN4 (fun d' h' hq=>?_) (fun d' h' hq=>(ey_pan hq).elim)
   obtain ⟨n,i4,e4,h4,rfl,rfl⟩:=ey_ret hq
   have hr:=hr_next hr h4
   have hi4:=h4.1
   rw[far_go (p:=fun n' l=>arrsP n' (az++[Arr.mk x n]) l) (fun n' l m=>arrs_far n' _ l m) (fun _=>by omega) (by omega) hi4.2] at hr
   refine ⟨[[.str x,.int n]],rfl,rfl,⟨rfl,rfl,trivial⟩,?_⟩
   refine ⟨⟨by simp only[maxLen,List.length_cons,List.length_nil,List.length_map];omega,by simp only[List.length_cons,List.length_nil,List.length_map];omega⟩,?_⟩
   exact hRdaz _ _ _ ⟨(az++[Arr.mk x n],i4,e4),[.old 0,.old 1,.old 2,.old 6],⟨rfl,.inr ⟨⟨rfl,.inl rfl⟩,⟨rfl,.inl rfl⟩,⟨rfl,.inl rfl⟩,⟨by rw[List.map_append];rfl,rfl,rfl⟩,trivial⟩,.inr ⟨lk rfl,lk rfl,lk rfl,lk rfl,trivial⟩,rfl⟩,⟨hi4.2,by show (az++[Arr.mk x n]).length≤i4;simp;omega,hr⟩,by show T.length - i4 < T.length - b;omega⟩
  | false =>
   rw[hb2,if_neg (by decide)] at hS2
   have hr:go T (fun l=>(funsP (l.length+1) [] l).then (kF nm vs az)) b eb=r:=by
    rw[← hr]
    refine go_congr fun he=>?_
    simp only[arrsP,sees_no hb2 he]
    rfl
   refine callO [1] sees_fn rfl rfl ⟨rfl,.inl rfl,.inl rfl,rfl⟩ hS2 (fun d' h' hq=>?_) (fun d' h' hq=>by cases hq)
   injection hq with q1 q2;subst q1;subst q2
   refine loopR (ι:=List Fun × Nat × Int) (fun _=>[(2,.ptr 0 0),(4,.g (.sl 2 (T.map Tok.g))),(6,.ptr 1 0),(7,.ptr 2 0)]) (fun j=>[.blk zU 26,.blk (EB T j.2.1 j.2.2 0) 39,.blk [.g (.str nm),.g (.sl 1 (vs.map strG)),.g (.sl 2 (az.map Arr.g)),.row 3] 26,.row (j.1.map Fun.g) 47 4]) (fun j=>j.2.1≤T.length∧(j.1.length≤j.2.1+1∧(j.2.2=0→j.1.length≤j.2.1))∧go T (fun l=>(funsP (l.length+1) j.1 l).then (kF nm vs az)) j.2.1 j.2.2=r) (fun j=>2*(T.length - j.2.1)+(if j.2.2=0 then 1 else 0))
    ⟨([],b,eb),[.old 0,.old 1,.old 2,.nil 47 4],⟨rfl,.inr ⟨⟨rfl,.inl rfl⟩,⟨rfl,.inl rfl⟩,⟨rfl,.inr ⟨lk rfl,lk rfl,lk rfl,.inr rfl,trivial⟩⟩,⟨rfl,rfl,rfl⟩,trivial⟩,.inr ⟨lk rfl,lk rfl,lk rfl,lk rfl,trivial⟩,rfl⟩,hmb,⟨by simp,fun _=>by simp⟩,hr⟩ ?_
   rintro Rdfs hRdfs ⟨fs,c,ec⟩ ⟨hmc,⟨hnc,hnc0⟩,hr⟩
   have hmc:c≤T.length:=hmc
   have hnc:fs.length≤c+1:=hnc
   have hnc0:ec=0→fs.length≤c:=hnc0
   have hr:go T (fun l=>(funsP (l.length+1) fs l).then (kF nm vs az)) c ec=r:=hr
   by_cases hec:ec=0
   rotate_left
   ·have hR:=hRb ec (by rw[← hr,goE _ _ hec])
    subst hR
    refine ⟨fun h=>absurd h hec,fun _=>?_⟩
    refine ⟨fun h=>absurd h hec,fun _=>?_⟩
    refine ⟨fun _=>?_,fun h=>absurd h hec⟩
    refine ⟨some 60002,(.lead 1 (.lead 2 (.lead 3 (.two (.run 0 (.two (.run 4 (.run 5 (.run 6 .done))) (.run 5 (.run 4 (.run 6 .done))))) (.run 4 (.run 0 (.run 5 (.run 6 .done)))))))),rfl,?_⟩
    refine ⟨?_,?_⟩
    ·refine ⟨?_,?_⟩
     ·exact ⟨rfl,retIs (.inr (likeZ ec))⟩
     ·exact ⟨rfl,retIs (.inr (likeZ ec))⟩
    ·exact ⟨rfl,retIs (.inr (likeZ ec))⟩
   by_cases hlt:c < T.length
   rotate_left
   ·have hd:T.drop c=[]:=List.drop_eq_nil_of_le (by omega)
    have hr:r=.ok ⟨nm,vs,az,fs⟩ []:=by
     rw[← hr,hec,go0,hd]
     rfl
    have hU:Barb.Unit.I ⟨nm,vs,az,fs⟩:=by rw[hr] at hGd;exact hGd
    have hFa:=UnitFault_any (L:=L) ⟨nm,vs,az,fs⟩ hU
    refine ⟨fun _=>?_,fun h=>absurd hec h⟩
    refine ⟨fun h=>absurd (show (c:Int) < ((T.map Tok.g).length:Int) from h) (by omega),fun _=>?_⟩
    refine ⟨fun _=>?_,fun h=>absurd hec h⟩
    obtain ⟨ue,hue⟩:∃ ue,unitE ⟨nm,vs,az,fs⟩=ue:=⟨_,rfl⟩
    rw[hue] at hFa
    refine callIs (.inl rfl) hFa ?_
    by_cases h0:ue=0
    ·have hR:=hRo _ _ hr (hue.trans h0)
     subst hR
     refine ⟨fun h=>absurd h0 h,fun _=>?_⟩
     exact ⟨rfl,retIs (.inl rfl)⟩
    ·have hR:=hRc _ _ hr (fun h=>h0 (hue.symm.trans h))
     rw[hue] at hR
     subst hR
     refine ⟨fun _=>?_,fun h=>absurd h h0⟩
     refine ⟨some 60002,(.lead 1 (.lead 2 (.lead 3 (.two (.run 0 (.two (.run 4 (.run 5 (.run 6 .done))) (.run 5 (.run 4 (.run 6 .done))))) (.run 4 (.run 0 (.run 5 (.run 6 .done)))))))),rfl,?_⟩
     refine ⟨?_,?_⟩
     ·refine ⟨?_,?_⟩
      ·exact ⟨rfl,retIs (.inr (likeZ ue))⟩
      ·exact ⟨rfl,retIs (.inr (likeZ ue))⟩
     ·exact ⟨rfl,retIs (.inr (likeZ ue))⟩
   refine ⟨fun _=>?_,fun h=>absurd hec h⟩
   refine ⟨fun _=>?_,fun h=>absurd (show (c:Int) < ((T.map Tok.g).length:Int) by omega) h⟩
   have hne:T.drop c≠[]:=fun h=>by have:=congrArg List.length h;rw[List.length_drop] at this;simp at this;omega
   have hS3:=sees_any (L:=L) T hTl c (by omega) ec 0 [111,112,101,110]
   obtain ⟨op,hop⟩:∃ op,seesB T c ec [111,112,101,110]=op:=⟨_,rfl⟩
   rw[hop] at hS3
   refine callO [1] sees_fn rfl rfl ⟨rfl,.inl rfl,.inl rfl,rfl⟩ hS3 (fun d' h' hq=>?_) (fun d' h' hq=>by cases hq)
   injection hq with q1 q2;subst q1;subst q2
   refine turnTo [.old 0,.old 1,.old 2,.old 3,.old 4] [(2,.ptr 0 0),(4,.g (.sl 2 (T.map Tok.g))),(6,.ptr 1 0),(7,.ptr 2 0),(9,.ptr 4 0)] ([.blk zU 26,.blk (EB T (if op=true then c+1 else c) ec 0) 39,.blk [.g (.str nm),.g (.sl 1 (vs.map strG)),.g (.sl 2 (az.map Arr.g)),.row 3] 26,.row (fs.map Fun.g) 47 4,.blk [.g (.str []),.g (.bool op),.nils,.nils] 47]) ⟨rfl,.inl rfl,.inl rfl,rfl⟩ ?_
   refine joinTJ (ι:=Nat × Int) rfl (fun _=>[(2,.ptr 0 0),(4,.g (.sl 2 (T.map Tok.g))),(6,.ptr 1 0),(7,.ptr 2 0),(9,.ptr 4 0)]) (fun j=>[.blk zU 26,.blk (EB T j.1 j.2 0) 39,.blk [.g (.str nm),.g (.sl 1 (vs.map strG)),.g (.sl 2 (az.map Arr.g)),.row 3] 26,.row (fs.map Fun.g) 47 4,.blk [.g (.str []),.g (.bool op),.nils,.nils] 47]) (fun j=>(c≤j.1∧j.1≤T.length)∧(j.2=0→c < j.1)∧go T (fun l1=>(funP op l1).then fun f l2=>(funsP (T.drop c).length (fs++[f]) l2).then (kF nm vs az)) j.1 j.2=r) (fun e0 j hj=>?_) (fun Rq hRq=>?_)
   rotate_left
   ·cases op with
    | true =>
     obtain ⟨_,hl3,ht3⟩:=sees_yes hop
     have hr:go T (fun l1=>(funP true l1).then fun f l2=>(funsP (T.drop c).length (fs++[f]) l2).then (kF nm vs az)) (c+1) ec=r:=by
      rw[← hr]
      refine (go_at hec ?_).symm
      simp only[funsP,if_neg hne,ht3,then_then]
     exact hRq (c+1,ec) _ _ [.old 0,.old 1,.old 2,.old 3,.old 4] ⟨rfl,.inl rfl,.inl rfl,rfl⟩ ⟨show c≤c+1∧c+1≤T.length from by omega,fun _=>Nat.lt_succ_self _,hr⟩
    | false =>
     have hr:go T (fun l=>(mustP [102,117,110,99] l).then fun _ l1=>(funP false l1).then fun f l2=>(funsP (T.drop c).length (fs++[f]) l2).then (kF nm vs az)) c ec=r:=by
      rw[← hr]
      refine go_congr fun he=>?_
      simp only[funsP,if_neg hne,sees_no hop he,then_then]
     have hW2:=wants_any (L:=L) T hTl 0 [102,117,110,99] c ec (by omega)
     refine callO [1] wants_fn rfl rfl ⟨rfl,.inl rfl,.inl rfl,rfl⟩ hW2 (fun d' h' hq=>?_) (fun d' h' hq=>(ey_pan hq).elim)
     obtain ⟨_,i3,e3,h3,rfl,rfl⟩:=ey_ret hq
     have hr:=hr_next hr h3
     have hi3:=h3.1
     have hlt3:e3=0→c < i3:=EyR.shr (must_shr _) hmc (hec▸h3)
     exact hRq (i3,e3) _ _ [.old 0,.old 1,.old 2,.old 3,.old 4] ⟨rfl,.inl rfl,.inl rfl,rfl⟩ ⟨show c≤i3∧i3≤T.length from by omega,hlt3,hr⟩
   obtain ⟨i3,e3⟩:=j
   obtain ⟨⟨hc3,hi3⟩,hlt3,hr⟩:=hj
   have hc3:c≤i3:=hc3
   have hi3:i3≤T.length:=hi3
   have hlt3:e3=0→c < i3:=hlt3
   have hr:go T (fun l1=>(nameP l1).then fun fn l2=>(mustP [40] l2).then fun _ l3=>(parsP (l3.length+1) [] l3).then fun ps l4=>(blockP (stmtP 48) l4).then fun bd l5=>(funsP (T.drop c).length (fs++[Fun.mk fn op ps bd]) l5).then (kF nm vs az)) i3 e3=r:=by
    rw[← hr]
    refine go_congr fun _=>?_
    show _=(funP op (T.drop i3)).then _
    unfold funP
    simp only[then_then]
    rfl
   have hN5:=ident_any (L:=L) T hK 0 i3 e3 (by omega)
   refine callO [1] ident_fn rfl rfl ⟨rfl,.inl rfl,.inl rfl,rfl⟩ hN5 (fun d' h' hq=>?_) (fun d' h' hq=>(ey_pan hq).elim)
   obtain ⟨fn,i4,e4,h4,rfl,rfl⟩:=ey_ret hq
   have hr:=hr_next hr h4
   have hi4:=h4.1
   have hW3:=wants_any (L:=L) T hK.1 0 [40] i4 e4 (by omega)
   refine callO [1] wants_fn rfl rfl ⟨rfl,.inl rfl,.inl rfl,rfl⟩ hW3 (fun d' h' hq=>?_) (fun d' h' hq=>(ey_pan hq).elim)
   obtain ⟨_,i5,e5,h5,rfl,rfl⟩:=ey_ret hq
   have hr:=hr_next hr h5
   have hi5:=h5.1
   have hmono:e5=0→c < i5:=fun h=>by
    have:e4=0:=Classical.byContradiction fun hc=>by rcases h5.2 with ⟨_,h6⟩ | ⟨h6,_⟩<;>first | exact h6 h | (rw[goE _ _ hc] at h6;cases h6)
    have:e3=0:=Classical.byContradiction fun hc=>by rcases h4.2 with ⟨_,h6⟩ | ⟨h6,_⟩<;>first | exact h6 this | (rw[goE _ _ hc] at h6;cases h6)
    have:=hlt3 this
    omega
   refine loopR (ι:=List Str × Nat × Int) (fun _=>[(2,.ptr 0 0),(4,.g (.sl 2 (T.map Tok.g))),(6,.ptr 1 0),(7,.ptr 2 0),(9,.ptr 4 0)]) (fun j=>[.blk zU 26,.blk (EB T j.2.1 j.2.2 0) 39,.blk [.g (.str nm),.g (.sl 1 (vs.map strG)),.g (.sl 2 (az.map Arr.g)),.row 3] 26,.row (fs.map Fun.g) 47 4,.blk [.g (.str fn),.g (.bool op),.row 5,.nils] 47,.row (j.1.map strG) 9 1]) (fun j=>(i5≤j.2.1∧j.2.1≤T.length)∧(j.1.length≤j.2.1+1∧(j.2.2=0→j.1.length≤j.2.1)∧(j.2.2=0→c < j.2.1))∧go T (fun l=>(parsP (l.length+1) j.1 l).then (fun ps l4=>(blockP (stmtP 48) l4).then fun bd l5=>(funsP (T.drop c).length (fs++[Fun.mk fn op ps bd]) l5).then (kF nm vs az))) j.2.1 j.2.2=r) (fun j=>2*(T.length - j.2.1)+(if j.2.2=0 then 1 else 0))
    ⟨([],i5,e5),[.old 0,.old 1,.old 2,.old 3,.old 4,.nil 9 1],⟨rfl,.inr ⟨⟨rfl,.inl rfl⟩,⟨rfl,.inl rfl⟩,⟨rfl,.inl rfl⟩,⟨rfl,rfl,rfl⟩,⟨rfl,.inr ⟨lk rfl,lk rfl,.inr rfl,lk rfl,trivial⟩⟩,⟨rfl,rfl,rfl⟩,trivial⟩,.inr ⟨lk rfl,lk rfl,lk rfl,lk rfl,lk rfl,trivial⟩,rfl⟩,⟨Nat.le_refl _,hi5.2⟩,⟨by simp,fun _=>by simp,hmono⟩,hr⟩ ?_
   rintro Rdp hRdp ⟨ps,p,ep⟩ ⟨⟨hp5,hmp⟩,⟨hnp,hnp0,hcp⟩,hr⟩
   have hp5:i5≤p:=hp5
   have hmp:p≤T.length:=hmp
   have hnp:ps.length≤p+1:=hnp
   have hnp0:ep=0→ps.length≤p:=hnp0
   have hcp:ep=0→c < p:=hcp
   have hr:go T (fun l=>(parsP (l.length+1) ps l).then (fun ps l4=>(blockP (stmtP 48) l4).then fun bd l5=>(funsP (T.drop c).length (fs++[Fun.mk fn op ps bd]) l5).then (kF nm vs az))) p ep=r:=hr
   have hfs:fs.length≤c:=hnc0 hec
   by_cases hep:ep=0
   rotate_left
   ·have hr:go T ((fun ps l4=>(blockP (stmtP 48) l4).then fun bd l5=>(funsP (T.drop c).length (fs++[Fun.mk fn op ps bd]) l5).then (kF nm vs az)) ps) p ep=r:=by rw[← hr,goE _ _ hep,goE _ _ hep]
    refine ⟨fun h=>absurd h hep,fun _=>?_⟩
    have hr:go T (fun l4=>(blockP (stmtP 48) l4).then fun bd l5=>(funsP (T.drop c).length (fs++[Fun.mk fn op ps bd]) l5).then (kF nm vs az)) p ep=r:=hr
    have hB:=eblock_any (L:=L) hK hSt p ep (by omega)
    refine turnTo [.old 0,.old 1,.old 2,.old 3,.old 4] [(2,.ptr 0 0),(4,.g (.sl 2 (T.map Tok.g))),(6,.ptr 1 0),(7,.ptr 2 0),(9,.ptr 4 0)] ([.blk zU 26,.blk (EB T p ep 0) 39,.blk [.g (.str nm),.g (.sl 1 (vs.map strG)),.g (.sl 2 (az.map Arr.g)),.row 3] 26,.row (fs.map Fun.g) 47 4,.blk [.g (.str fn),.g (.bool op),.g (.sl 1 (ps.map strG)),.nils] 47]) ⟨rfl,.inl rfl,.inl rfl,rfl⟩ ?_
    refine callO [1] ebl_fn rfl rfl ⟨rfl,.inl rfl,.inl rfl,rfl⟩ hB (fun d' h' hq=>?_) (fun d' h' hq=>(ey_pan hq).elim)
    obtain ⟨bd,i8,e8,h8,rfl,rfl⟩:=ey_ret hq
    have hr:=hr_next hr h8
    have hi8:=h8.1
    have hlt8:e8=0→c < i8:=fun h=>by
     have:ep=0:=Classical.byContradiction fun hc=>by rcases h8.2 with ⟨_,h6⟩ | ⟨h6,_⟩<;>first | exact h6 h | (rw[goE _ _ hc] at h6;cases h6)
     have:=hcp this
     omega
    rw[far_go (p:=fun n' l=>funsP n' (fs++[Fun.mk fn op ps bd]) l) (fun n' l m=>funs_far n' _ l m) hlt8 (by omega) hi8.2] at hr
    refine ⟨[[.str fn,.bool op,.sl 1 (ps.map strG),.sl 5 (bd.map Stmt.g)]],rfl,rfl,⟨rfl,rfl,rfl,rfl,trivial⟩,?_⟩
    refine ⟨⟨by simp only[maxLen,List.length_cons,List.length_nil,List.length_map];omega,by simp only[List.length_cons,List.length_nil,List.length_map];omega⟩,?_⟩
    exact hRdfs _ _ _ ⟨(fs++[Fun.mk fn op ps bd],i8,e8),[.old 0,.old 1,.old 2,.old 6],⟨rfl,.inr ⟨⟨rfl,.inl rfl⟩,⟨rfl,.inl rfl⟩,⟨rfl,.inl rfl⟩,⟨by rw[List.map_append,List.map_cons,List.map_nil,Fun.g,Stmt.gs_map],rfl,rfl⟩,trivial⟩,.inr ⟨lk rfl,lk rfl,lk rfl,lk rfl,trivial⟩,rfl⟩,⟨hi8.2,⟨by show (fs++[(Fun.mk fn op ps bd:Fun)]).length≤i8+1;simp;omega,fun h=>by have:=hlt8 h;show (fs++[(Fun.mk fn op ps bd:Fun)]).length≤i8;simp;omega⟩,hr⟩,by
     show 2*(T.length - i8)+(if e8=0 then 1 else 0) < 2*(T.length - c)+(if ec=0 then 1 else 0)
     rw[if_pos hec]
     by_cases h:e8=0
     ·have:=hlt8 h;rw[if_pos h];omega
     ·rw[if_neg h];omega⟩
   have hS4:=sees_any (L:=L) T hTl p (by omega) ep 0 [41]
   refine ⟨fun _=>?_,fun h=>absurd hep h⟩
   cases hb4:seesB T p ep [41] with
   | true =>
    obtain ⟨_,hl4,ht4⟩:=sees_yes hb4
    rw[hb4,if_pos rfl] at hS4
    have hr:go T ((fun ps l4=>(blockP (stmtP 48) l4).then fun bd l5=>(funsP (T.drop c).length (fs++[Fun.mk fn op ps bd]) l5).then (kF nm vs az)) ps) (p+1) ep=r:=by
     rw[← hr]
     refine (go_at hep ?_).symm
     simp only[parsP,ht4]
     rfl
    have hcq:ep=0→c < p+1:=fun h=>by have:=hcp h;omega
    refine callO [1] sees_fn rfl rfl ⟨rfl,.inl rfl,.inl rfl,rfl⟩ hS4 (fun d' h' hq=>?_) (fun d' h' hq=>by cases hq)
    injection hq with q1 q2;subst q1;subst q2
    have hr:go T (fun l4=>(blockP (stmtP 48) l4).then fun bd l5=>(funsP (T.drop c).length (fs++[Fun.mk fn op ps bd]) l5).then (kF nm vs az)) (p+1) ep=r:=hr
    have hB:=eblock_any (L:=L) hK hSt (p+1) ep (by omega)
    refine turnTo [.old 0,.old 1,.old 2,.old 3,.old 4] [(2,.ptr 0 0),(4,.g (.sl 2 (T.map Tok.g))),(6,.ptr 1 0),(7,.ptr 2 0),(9,.ptr 4 0)] ([.blk zU 26,.blk (EB T (p+1) ep 0) 39,.blk [.g (.str nm),.g (.sl 1 (vs.map strG)),.g (.sl 2 (az.map Arr.g)),.row 3] 26,.row (fs.map Fun.g) 47 4,.blk [.g (.str fn),.g (.bool op),.g (.sl 1 (ps.map strG)),.nils] 47]) ⟨rfl,.inl rfl,.inl rfl,rfl⟩ ?_
    refine callO [1] ebl_fn rfl rfl ⟨rfl,.inl rfl,.inl rfl,rfl⟩ hB (fun d' h' hq=>?_) (fun d' h' hq=>(ey_pan hq).elim)
    obtain ⟨bd,i8,e8,h8,rfl,rfl⟩:=ey_ret hq
    have hr:=hr_next hr h8
    have hi8:=h8.1
    have hlt8:e8=0→c < i8:=fun h=>by
     have:ep=0:=Classical.byContradiction fun hc=>by rcases h8.2 with ⟨_,h6⟩ | ⟨h6,_⟩<;>first | exact h6 h | (rw[goE _ _ hc] at h6;cases h6)
     have:=hcq this
     omega
    rw[far_go (p:=fun n' l=>funsP n' (fs++[Fun.mk fn op ps bd]) l) (fun n' l m=>funs_far n' _ l m) hlt8 (by omega) hi8.2] at hr
    refine ⟨[[.str fn,.bool op,.sl 1 (ps.map strG),.sl 5 (bd.map Stmt.g)]],rfl,rfl,⟨rfl,rfl,rfl,rfl,trivial⟩,?_⟩
    refine ⟨⟨by simp only[maxLen,List.length_cons,List.length_nil,List.length_map];omega,by simp only[List.length_cons,List.length_nil,List.length_map];omega⟩,?_⟩
    exact hRdfs _ _ _ ⟨(fs++[Fun.mk fn op ps bd],i8,e8),[.old 0,.old 1,.old 2,.old 6],⟨rfl,.inr ⟨⟨rfl,.inl rfl⟩,⟨rfl,.inl rfl⟩,⟨rfl,.inl rfl⟩,⟨by rw[List.map_append,List.map_cons,List.map_nil,Fun.g,Stmt.gs_map],rfl,rfl⟩,trivial⟩,.inr ⟨lk rfl,lk rfl,lk rfl,lk rfl,trivial⟩,rfl⟩,⟨hi8.2,⟨by show (fs++[(Fun.mk fn op ps bd:Fun)]).length≤i8+1;simp;omega,fun h=>by have:=hlt8 h;show (fs++[(Fun.mk fn op ps bd:Fun)]).length≤i8;simp;omega⟩,hr⟩,by
     show 2*(T.length - i8)+(if e8=0 then 1 else 0) < 2*(T.length - c)+(if ec=0 then 1 else 0)
     rw[if_pos hec]
     by_cases h:e8=0
     ·have:=hlt8 h;rw[if_pos h];omega
     ·rw[if_neg h];omega⟩
   | false =>
    rw[hb4,if_neg (by decide)] at hS4
    refine callO [1] sees_fn rfl rfl ⟨rfl,.inl rfl,.inl rfl,rfl⟩ hS4 (fun d' h' hq=>?_) (fun d' h' hq=>by cases hq)
    injection hq with q1 q2;subst q1;subst q2
    have hr:go T (fun l=>((if ps=[] then .ok ⟨⟩ l else mustP [44] l:PR PUnit)).then fun _ l1=>(nameP l1).then fun y l2=>(parsP (T.drop p).length (ps++[y]) l2).then (fun ps l4=>(blockP (stmtP 48) l4).then fun bd l5=>(funsP (T.drop c).length (fs++[Fun.mk fn op ps bd]) l5).then (kF nm vs az))) p ep=r:=by
     rw[← hr]
     refine go_congr fun he=>?_
     simp only[parsP,sees_no hb4 he,then_then]
    cases ps with
    | nil =>
     have hr:go T (fun l1=>(nameP l1).then fun y l2=>(parsP (T.drop p).length ([]++[y]) l2).then (fun ps l4=>(blockP (stmtP 48) l4).then fun bd l5=>(funsP (T.drop c).length (fs++[Fun.mk fn op ps bd]) l5).then (kF nm vs az))) p ep=r:=hr
     have hN6:=ident_any (L:=L) T hK 0 p ep (by omega)
     refine ⟨fun h=>absurd (show (0:Int) > 0 from h) (by decide),fun _=>?_⟩
     refine ⟨some 60002,(.lead 0 (.lead 2 (.two (.run 1 (.run 3 (.run 4 (.run 5 (.run 6 (.run 7 .done)))))) (.run 3 (.two (.run 1 (.run 4 (.run 5 (.run 6 (.run 7 .done))))) (.run 4 (.run 1 (.run 5 (.run 6 (.run 7 .done)))))))))),rfl,?_⟩
     refine ⟨?_,?_⟩
     ·refine callO [1] ident_fn rfl rfl ⟨rfl,.inl rfl,.inl rfl,rfl⟩ hN6 (fun d' h' hq=>?_) (fun d' h' hq=>(ey_pan hq).elim)
      obtain ⟨y,i9,e9,h9,rfl,rfl⟩:=ey_ret hq
      have hr:=hr_next hr h9
      have hi9:=h9.1
      have hlt9:e9=0→p < i9:=EyR.shr name_shr hmp (hep▸h9)
      rw[far_go (p:=fun n' l=>parsP n' ([]++[y]) l) (fun n' l m=>pars_far n' _ l m) hlt9 hmp hi9.2] at hr
      refine ⟨[[.str y]],rfl,rfl,⟨rfl,trivial⟩,?_⟩
      refine ⟨⟨by simp only[maxLen,List.length_cons,List.length_nil,List.length_map];omega,by simp only[List.length_cons,List.length_nil,List.length_map];omega⟩,?_⟩
      exact hRdp _ _ _ ⟨([]++[y],i9,e9),[.old 0,.old 1,.old 2,.old 3,.old 4,.old 7],⟨rfl,.inr ⟨⟨rfl,.inl rfl⟩,⟨rfl,.inl rfl⟩,⟨rfl,.inl rfl⟩,⟨rfl,rfl,rfl⟩,⟨rfl,.inl rfl⟩,⟨by rw[List.map_append];rfl,rfl,rfl⟩,trivial⟩,.inr ⟨lk rfl,lk rfl,lk rfl,lk rfl,lk rfl,trivial⟩,rfl⟩,⟨⟨by show i5≤i9;omega,hi9.2⟩,⟨by show ([]++[y]).length≤i9+1;rw[List.length_append];show ([]).length+1≤i9+1;omega,fun h=>by have:=hlt9 h;show ([]++[y]).length≤i9;simp;omega,fun h=>by have:=hlt9 h;have:=hcp hep;show c < i9;omega⟩,hr⟩,by
       show 2*(T.length - i9)+(if e9=0 then 1 else 0) < 2*(T.length - p)+(if ep=0 then 1 else 0)
       rw[if_pos hep]
       by_cases h:e9=0
       ·have:=hlt9 h;rw[if_pos h];omega
       ·rw[if_neg h];omega⟩
     ·refine callO [1] ident_fn rfl rfl ⟨rfl,.inl rfl,.inl rfl,rfl⟩ hN6 (fun d' h' hq=>?_) (fun d' h' hq=>(ey_pan hq).elim)
      obtain ⟨y,i9,e9,h9,rfl,rfl⟩:=ey_ret hq
      have hr:=hr_next hr h9
      have hi9:=h9.1
      have hlt9:e9=0→p < i9:=EyR.shr name_shr hmp (hep▸h9)
      rw[far_go (p:=fun n' l=>parsP n' ([]++[y]) l) (fun n' l m=>pars_far n' _ l m) hlt9 hmp hi9.2] at hr
      refine ⟨?_,?_⟩
      ·refine ⟨[[.str y]],rfl,rfl,⟨rfl,trivial⟩,?_⟩
       refine ⟨⟨by simp only[maxLen,List.length_cons,List.length_nil,List.length_map];omega,by simp only[List.length_cons,List.length_nil,List.length_map];omega⟩,?_⟩
       exact hRdp _ _ _ ⟨([]++[y],i9,e9),[.old 0,.old 1,.old 2,.old 3,.old 4,.old 7],⟨rfl,.inr ⟨⟨rfl,.inl rfl⟩,⟨rfl,.inl rfl⟩,⟨rfl,.inl rfl⟩,⟨rfl,rfl,rfl⟩,⟨rfl,.inl rfl⟩,⟨by rw[List.map_append];rfl,rfl,rfl⟩,trivial⟩,.inr ⟨lk rfl,lk rfl,lk rfl,lk rfl,lk rfl,trivial⟩,rfl⟩,⟨⟨by show i5≤i9;omega,hi9.2⟩,⟨by show ([]++[y]).length≤i9+1;rw[List.length_append];show ([]).length+1≤i9+1;omega,fun h=>by have:=hlt9 h;show ([]++[y]).length≤i9;simp;omega,fun h=>by have:=hlt9 h;have:=hcp hep;show c < i9;omega⟩,hr⟩,by
        show 2*(T.length - i9)+(if e9=0 then 1 else 0) < 2*(T.length - p)+(if ep=0 then 1 else 0)
        rw[if_pos hep]
        by_cases h:e9=0
        ·have:=hlt9 h;rw[if_pos h];omega
        ·rw[if_neg h];omega⟩
      ·refine ⟨[[.str y]],rfl,rfl,⟨rfl,trivial⟩,?_⟩
       refine ⟨⟨by simp only[maxLen,List.length_cons,List.length_nil,List.length_map];omega,by simp only[List.length_cons,List.length_nil,List.length_map];omega⟩,?_⟩
       exact hRdp _ _ _ ⟨([]++[y],i9,e9),[.old 0,.old 1,.old 2,.old 3,.old 4,.old 7],⟨rfl,.inr ⟨⟨rfl,.inl rfl⟩,⟨rfl,.inl rfl⟩,⟨rfl,.inl rfl⟩,⟨rfl,rfl,rfl⟩,⟨rfl,.inl rfl⟩,⟨by rw[List.map_append];rfl,rfl,rfl⟩,trivial⟩,.inr ⟨lk rfl,lk rfl,lk rfl,lk rfl,lk rfl,trivial⟩,rfl⟩,⟨⟨by show i5≤i9;omega,hi9.2⟩,⟨by show ([]++[y]).length≤i9+1;rw[List.length_append];show ([]).length+1≤i9+1;omega,fun h=>by have:=hlt9 h;show ([]++[y]).length≤i9;simp;omega,fun h=>by have:=hlt9 h;have:=hcp hep;show c < i9;omega⟩,hr⟩,by
        show 2*(T.length - i9)+(if e9=0 then 1 else 0) < 2*(T.length - p)+(if ep=0 then 1 else 0)
        rw[if_pos hep]
        by_cases h:e9=0
        ·have:=hlt9 h;rw[if_pos h];omega
        ·rw[if_neg h];omega⟩
    | cons p0 pt =>
     have hr:go T (fun l=>(mustP [44] l).then fun _ l1=>(nameP l1).then fun y l2=>(parsP (T.drop p).length (p0 :: pt++[y]) l2).then (fun ps l4=>(blockP (stmtP 48) l4).then fun bd l5=>(funsP (T.drop c).length (fs++[Fun.mk fn op ps bd]) l5).then (kF nm vs az))) p ep=r:=by
      rw[← hr]
      refine go_congr fun _=>?_
      rw[if_neg (by simp)]
     have lpp:((p0 :: pt).map strG).length=pt.length+1:=by simp
     have hnp0':pt.length+1≤p:=hnp0 hep
     refine ⟨fun _=>?_,fun h=>absurd (show (((p0 :: pt).map strG).length:Int) > 0 by omega) h⟩
     have hW5:=wants_any (L:=L) T hK.1 0 [44] p ep (by omega)
     refine callO [1] wants_fn rfl rfl ⟨rfl,.inl rfl,.inl rfl,rfl⟩ hW5 (fun d' h' hq=>?_) (fun d' h' hq=>(ey_pan hq).elim)
     obtain ⟨_,i7,e7,h7,rfl,rfl⟩:=ey_ret hq
     have hr:=hr_next hr h7
     have hi7:=h7.1
     have hlt7:e7=0→p < i7:=EyR.shr (must_shr _) hmp (hep▸h7)
     have hN6:=ident_any (L:=L) T hK 0 i7 e7 hi7.2
     refine ⟨some 60002,(.lead 0 (.lead 2 (.two (.run 1 (.run 3 (.run 4 (.run 5 (.run 6 (.run 7 .done)))))) (.run 3 (.two (.run 1 (.run 4 (.run 5 (.run 6 (.run 7 .done))))) (.run 4 (.run 1 (.run 5 (.run 6 (.run 7 .done)))))))))),rfl,?_⟩
     refine ⟨?_,?_⟩
     ·refine callO [1] ident_fn rfl rfl ⟨rfl,.inl rfl,.inl rfl,rfl⟩ hN6 (fun d' h' hq=>?_) (fun d' h' hq=>(ey_pan hq).elim)
      obtain ⟨y,i9,e9,h9,rfl,rfl⟩:=ey_ret hq
      have hr:=hr_next hr h9
      have hi9:=h9.1
      have hlt9:e9=0→p < i9:=fun h=>by
       have:e7=0:=Classical.byContradiction fun hc=>by rcases h9.2 with ⟨_,h6⟩ | ⟨h6,_⟩<;>first | exact h6 h | (rw[goE _ _ hc] at h6;cases h6)
       have:=hlt7 this
       omega
      rw[far_go (p:=fun n' l=>parsP n' (p0 :: pt++[y]) l) (fun n' l m=>pars_far n' _ l m) hlt9 hmp hi9.2] at hr
      refine ⟨[[.str y]],rfl,rfl,⟨rfl,trivial⟩,?_⟩
      refine ⟨⟨by simp only[maxLen,List.length_cons,List.length_nil,List.length_map];omega,by simp only[List.length_cons,List.length_nil,List.length_map];omega⟩,?_⟩
      exact hRdp _ _ _ ⟨(p0 :: pt++[y],i9,e9),[.old 0,.old 1,.old 2,.old 3,.old 4,.old 7],⟨rfl,.inr ⟨⟨rfl,.inl rfl⟩,⟨rfl,.inl rfl⟩,⟨rfl,.inl rfl⟩,⟨rfl,rfl,rfl⟩,⟨rfl,.inl rfl⟩,⟨by rw[List.map_append];rfl,rfl,rfl⟩,trivial⟩,.inr ⟨lk rfl,lk rfl,lk rfl,lk rfl,lk rfl,trivial⟩,rfl⟩,⟨⟨by show i5≤i9;omega,hi9.2⟩,⟨by show (p0 :: pt++[y]).length≤i9+1;rw[List.length_append];show (p0 :: pt).length+1≤i9+1;omega,fun h=>by have:=hlt9 h;show (p0 :: pt++[y]).length≤i9;simp;omega,fun h=>by have:=hlt9 h;have:=hcp hep;show c < i9;omega⟩,hr⟩,by
       show 2*(T.length - i9)+(if e9=0 then 1 else 0) < 2*(T.length - p)+(if ep=0 then 1 else 0)
       rw[if_pos hep]
       by_cases h:e9=0
       ·have:=hlt9 h;rw[if_pos h];omega
       ·rw[if_neg h];omega⟩
     ·refine callO [1] ident_fn rfl rfl ⟨rfl,.inl rfl,.inl rfl,rfl⟩ hN6 (fun d' h' hq=>?_) (fun d' h' hq=>(ey_pan hq).elim)
      obtain ⟨y,i9,e9,h9,rfl,rfl⟩:=ey_ret hq
      have hr:=hr_next hr h9
      have hi9:=h9.1
      have hlt9:e9=0→p < i9:=fun h=>by
       have:e7=0:=Classical.byContradiction fun hc=>by rcases h9.2 with ⟨_,h6⟩ | ⟨h6,_⟩<;>first | exact h6 h | (rw[goE _ _ hc] at h6;cases h6)
       have:=hlt7 this
       omega
      rw[far_go (p:=fun n' l=>parsP n' (p0 :: pt++[y]) l) (fun n' l m=>pars_far n' _ l m) hlt9 hmp hi9.2] at hr
      refine ⟨?_,?_⟩
      ·refine ⟨[[.str y]],rfl,rfl,⟨rfl,trivial⟩,?_⟩
       refine ⟨⟨by simp only[maxLen,List.length_cons,List.length_nil,List.length_map];omega,by simp only[List.length_cons,List.length_nil,List.length_map];omega⟩,?_⟩
       exact hRdp _ _ _ ⟨(p0 :: pt++[y],i9,e9),[.old 0,.old 1,.old 2,.old 3,.old 4,.old 7],⟨rfl,.inr ⟨⟨rfl,.inl rfl⟩,⟨rfl,.inl rfl⟩,⟨rfl,.inl rfl⟩,⟨rfl,rfl,rfl⟩,⟨rfl,.inl rfl⟩,⟨by rw[List.map_append];rfl,rfl,rfl⟩,trivial⟩,.inr ⟨lk rfl,lk rfl,lk rfl,lk rfl,lk rfl,trivial⟩,rfl⟩,⟨⟨by show i5≤i9;omega,hi9.2⟩,⟨by show (p0 :: pt++[y]).length≤i9+1;rw[List.length_append];show (p0 :: pt).length+1≤i9+1;omega,fun h=>by have:=hlt9 h;show (p0 :: pt++[y]).length≤i9;simp;omega,fun h=>by have:=hlt9 h;have:=hcp hep;show c < i9;omega⟩,hr⟩,by
        show 2*(T.length - i9)+(if e9=0 then 1 else 0) < 2*(T.length - p)+(if ep=0 then 1 else 0)
        rw[if_pos hep]
        by_cases h:e9=0
        ·have:=hlt9 h;rw[if_pos h];omega
        ·rw[if_neg h];omega⟩
      ·refine ⟨[[.str y]],rfl,rfl,⟨rfl,trivial⟩,?_⟩
       refine ⟨⟨by simp only[maxLen,List.length_cons,List.length_nil,List.length_map];omega,by simp only[List.length_cons,List.length_nil,List.length_map];omega⟩,?_⟩
       exact hRdp _ _ _ ⟨(p0 :: pt++[y],i9,e9),[.old 0,.old 1,.old 2,.old 3,.old 4,.old 7],⟨rfl,.inr ⟨⟨rfl,.inl rfl⟩,⟨rfl,.inl rfl⟩,⟨rfl,.inl rfl⟩,⟨rfl,rfl,rfl⟩,⟨rfl,.inl rfl⟩,⟨by rw[List.map_append];rfl,rfl,rfl⟩,trivial⟩,.inr ⟨lk rfl,lk rfl,lk rfl,lk rfl,lk rfl,trivial⟩,rfl⟩,⟨⟨by show i5≤i9;omega,hi9.2⟩,⟨by show (p0 :: pt++[y]).length≤i9+1;rw[List.length_append];show (p0 :: pt).length+1≤i9+1;omega,fun h=>by have:=hlt9 h;show (p0 :: pt++[y]).length≤i9;simp;omega,fun h=>by have:=hlt9 h;have:=hcp hep;show c < i9;omega⟩,hr⟩,by
        show 2*(T.length - i9)+(if e9=0 then 1 else 0) < 2*(T.length - p)+(if ep=0 then 1 else 0)
        rw[if_pos hep]
        by_cases h:e9=0
        ·have:=hlt9 h;rw[if_pos h];omega
        ·rw[if_neg h];omega⟩
end Go.Proofs.YtabjelabdojpkaaGreatDoor
