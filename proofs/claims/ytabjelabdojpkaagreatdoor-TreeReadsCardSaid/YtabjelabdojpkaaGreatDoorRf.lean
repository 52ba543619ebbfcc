/-
  tree's reader: functions and units: the contracts.
-/
import Derived.Test.YtabjelabdojpkaaGreatDoorRs
namespace Go.Proofs.YtabjelabdojpkaaGreatDoor
open Go Go.Dm Go.Eng Go.RowKit Barb
abbrev fuD:Fun→D:=fun f=>.agg f.d
theorem fun_fn:fnOk Tryz.prog 51=true:=by kernel_rfl
theorem unit_fn:fnOk Tryz.prog 25=true:=by kernel_rfl
theorem st48 {L:Lv}:StC L 48 0:=stmt_any 48 0 (by omega) (by omega)
abbrev zf:List D:=[.g (.str []),.g (.bool false),.nils,.nils]
set_option maxRecDepth 20000 in
set_option maxHeartbeats 4000000 in
theorem fun_any {L:Lv} (o:Bool) (l:List Tok) (hl:RdOk l):CTH Tryz.prog (gl L) 51 1 (RH l 0) [.ptr 0 0,.g (.bool o)] (rdQ fuD 0 (funP o l)):=by
 suffices H:∀ r,funP o l=r→CTH Tryz.prog (gl L) 51 1 (RH l 0) [.ptr 0 0,.g (.bool o)] (rdQ fuD 0 r) from H _ rfl
 intro r hr
 have hl1:=hl.1
 have hNm:=name_any (L:=L) l 0 (by omega) (by have:=hl.text;omega)
 have hr:(nameP l).then (fun s l1=>(mustP [40] l1).then fun _ l2=>(parsP (l2.length+1) [] l2).then fun ps l3=>(blockP (stmtP 48) l3).then fun b l4=>.ok ⟨s,o,ps,b⟩ l4)=r:=hr
 refine enterH [] hT hF hM Tryz.func51 rfl 32 rfl (by kernel_rfl) [.cell 4 47] rfl [.ptr 0 0,.g (.bool o)] rfl (RH l 0) [0] rfl rfl rfl 1 [] trivial _ ?_
 refine callO [0] name_fn rfl rfl ⟨rfl,.inl rfl,.inl rfl,rfl⟩ hNm (fun d' h' hq=>?_) (fun d' h' hq=>?_)
 rotate_left
 ·obtain ⟨e,l',k',he,hk',rfl,rfl⟩:=rdQ_pan hq
  have hr:r=.bad e:=by rw[← hr];show (nameP l).then _=_;rw[he];rfl
  exact ⟨rfl,endRH (panV e) l' k' [.old 0] rfl rfl rfl (.inl rfl) rfl rfl rfl (by rw[hr];exact ⟨l',k',hk',rfl⟩)⟩
 obtain ⟨s,l1,he1,rfl,rfl⟩:=rdQ_ret hq
 rw[he1] at hr
 have hr:(mustP [40] l1).then (fun _ l2=>(parsP (l2.length+1) [] l2).then fun ps l3=>(blockP (stmtP 48) l3).then fun b l4=>.ok ⟨s,o,ps,b⟩ l4)=r:=hr
 have ho1:=hl.next name_shr name_mem he1
 have hMu1:=must_any (L:=L) l1 0 [40] (by have:=ho1.1;omega)
 refine callO [0] must_fn rfl rfl ⟨rfl,.inl rfl,.inl rfl,rfl⟩ hMu1 (fun d' h' hq=>?_) (fun d' h' hq=>?_)
 rotate_left
 ·obtain ⟨e,l',k',he,hk',rfl,rfl⟩:=rdQ_pan hq
  have hr:r=.bad e:=by rw[← hr];show (mustP [40] l1).then _=_;rw[he];rfl
  exact ⟨rfl,endRH (panV e) l' k' [.old 0] rfl rfl rfl (.inl rfl) rfl rfl rfl (by rw[hr];exact ⟨l',k',hk',rfl⟩)⟩
 obtain ⟨_,l2,he2,rfl,rfl⟩:=rdQ_ret hq
 rw[he2] at hr
 have hr:(parsP (l2.length+1) [] l2).then (fun ps l3=>(blockP (stmtP 48) l3).then fun b l4=>.ok ⟨s,o,ps,b⟩ l4)=r:=hr
 have ho2:=ho1.next (must_shr _) (must_mem _) he2
 refine loopR (ι:=List Str × List Tok) (fun i=>[(0,.ptr 0 0),(4,.ptr 1 0),(5,.ptr 2 0)]) (fun i=>[.blk (RB i.2 0) 60,.blk zf 47,.blk [.g (.str s),.g (.bool o),.row 3,.nils] 47,.row (i.1.map strG) 9 1]) (fun i=>RdOk i.2∧i.1.length+i.2.length≤3001∧(parsP (i.2.length+1) i.1 i.2).then (fun ps l3=>(blockP (stmtP 48) l3).then fun b l4=>.ok ⟨s,o,ps,b⟩ l4)=r) (fun i=>i.2.length)
  ⟨([],l2),[.old 0,.old 1,.old 2,.nil 9 1],⟨rfl,.inr ⟨⟨rfl,.inl rfl⟩,⟨rfl,.inl rfl⟩,⟨rfl,.inr ⟨lk rfl,lk rfl,.inr rfl,lk rfl,trivial⟩⟩,⟨rfl,rfl,rfl⟩,trivial⟩,.inr ⟨lk rfl,lk rfl,lk rfl,trivial⟩,rfl⟩,ho2,by have:=ho2.1;simp;omega,hr⟩ ?_
 rintro Rd hRd ⟨acc,m⟩ ⟨hm,hn,hr⟩
 have hm:RdOk m:=hm
 have htx:(textP m).length≤3000:=hm.text
 have hn:acc.length+m.length≤3001:=hn
 have hm1:=hm.1
 have hr:(parsP (m.length+1) acc m).then (fun ps l3=>(blockP (stmtP 48) l3).then fun b l4=>.ok ⟨s,o,ps,b⟩ l4)=r:=hr
 have hTk2:=take_any (L:=L) m 0 [41] (by omega)
 simp only[parsP] at hr
 cases ht2:takeP [41] m with
 | some m1 =>
  rw[ht2] at hTk2 hr
  have hr:(blockP (stmtP 48) m1).then (fun b l4=>.ok ⟨s,o,acc,b⟩ l4)=r:=hr
  have hom:=hm.take ht2
  have hB:=block_any (L:=L) st48 m1 hom
  refine callO [0] take_fn rfl rfl ⟨rfl,.inl rfl,.inl rfl,rfl⟩ hTk2 (fun d' h' hq=>?_) (fun d' h' hq=>by cases hq)
  injection hq with e1 e2;subst e1;subst e2
  refine callO [0] block_fn rfl rfl ⟨rfl,.inl rfl,.inl rfl,rfl⟩ hB (fun d' h' hq=>?_) (fun d' h' hq=>?_)
  rotate_left
  ·obtain ⟨e,l',k',he,hk',rfl,rfl⟩:=rdQ_pan hq
   have hr:r=.bad e:=by rw[← hr];show (blockP (stmtP 48) m1).then _=_;rw[he];rfl
   exact ⟨rfl,endRH (panV e) l' k' [.old 0] rfl rfl rfl (.inl rfl) rfl rfl rfl (by rw[hr];exact ⟨l',k',hk',rfl⟩)⟩
  obtain ⟨bb,l4,he4,rfl,rfl⟩:=rdQ_ret hq
  rw[he4] at hr
  have hr:.ok ⟨s,o,acc,bb⟩ l4=r:=hr
  exact ⟨rfl,endRH (fuD ⟨s,o,acc,bb⟩) l4 0 [.old 0] rfl rfl rfl (.inl rfl) rfl rfl rfl (by rw[← hr];rfl)⟩
 | none =>
  rw[ht2] at hTk2 hr
  have hr:((if acc=[] then .ok ⟨⟩ m else mustP [44] m:PR PUnit).then fun _ l1=>(nameP l1).then fun s l2=>parsP m.length (acc++[s]) l2).then (fun ps l3=>(blockP (stmtP 48) l3).then fun b l4=>.ok ⟨s,o,ps,b⟩ l4)=r:=hr
  have step:∀ (m1:List Tok),m1.length≤m.length→RdOk m1→((nameP m1).then fun x l2=>parsP m.length (acc++[x]) l2).then (fun ps l3=>(blockP (stmtP 48) l3).then fun b l4=>.ok ⟨s,o,ps,b⟩ l4)=r→∀ x m2,nameP m1=.ok x m2→RdOk m2∧(acc++[x]).length+m2.length≤3001∧(parsP (m2.length+1) (acc++[x]) m2).then (fun ps l3=>(blockP (stmtP 48) l3).then fun b l4=>.ok ⟨s,o,ps,b⟩ l4)=r:=fun m1 hle hom hr x m2 he=>by
   have hs:=name_shr _ _ _ he
   rw[he] at hr
   refine ⟨hom.next name_shr name_mem he,by simp;omega,?_⟩
   rw[← hr,pars_far (m2.length+1) (acc++[x]) m2 m.length (by omega) (by omega)]
   rfl
  have badN:∀ (m1:List Tok),((nameP m1).then fun x l2=>parsP m.length (acc++[x]) l2).then (fun ps l3=>(blockP (stmtP 48) l3).then fun b l4=>.ok ⟨s,o,ps,b⟩ l4)=r→∀ {d:D} {h:Heap},rdQ (fun s=>.g (.str s)) 0 (nameP m1) (.panH d h)→∃ e l' k',r=.bad e∧(0≤k'∧k'≤0+1)∧d=panV e∧h=RH l' k':=fun m1 hr d h hq=>by
   obtain ⟨e,l',k',he,hk',h1,h2⟩:=rdQ_pan hq
   exact ⟨e,l',k',by rw[← hr,he];rfl,hk',h1,h2⟩
  cases acc with
  | nil =>
   have hr:((nameP m).then fun x l2=>parsP m.length ([]++[x]) l2).then (fun ps l3=>(blockP (stmtP 48) l3).then fun b l4=>.ok ⟨s,o,ps,b⟩ l4)=r:=hr
   have hom:=hm
   have hNm2:=name_any (L:=L) m 0 (by omega) (by have:=hm.text;omega)
   refine callO [0] take_fn rfl rfl ⟨rfl,.inl rfl,.inl rfl,rfl⟩ hTk2 (fun d' h' hq=>?_) (fun d' h' hq=>by cases hq)
   injection hq with e1 e2;subst e1;subst e2
   refine ⟨fun h=>absurd (show (0:Int) > 0 from h) (by decide),fun _=>?_⟩
   refine ⟨some 60002,(.lead 0 (.lead 2 (.two (.run 1 (.run 3 (.run 4 (.run 5 (.run 6 (.run 7 .done)))))) (.run 3 (.two (.run 1 (.run 4 (.run 5 (.run 6 (.run 7 .done))))) (.run 4 (.run 1 (.run 5 (.run 6 (.run 7 .done)))))))))),rfl,?_⟩
   refine ⟨?_,?_⟩
   ·refine callO [0] name_fn rfl rfl ⟨rfl,.inl rfl,.inl rfl,rfl⟩ hNm2 (fun d' h' hq=>?_) (fun d' h' hq=>by obtain ⟨e,l',k',hr,hk',rfl,rfl⟩:=badN m hr hq;exact ⟨rfl,endRH (panV e) l' k' [.old 0] rfl rfl rfl (.inl rfl) rfl rfl rfl (by rw[hr];exact ⟨l',k',hk',rfl⟩)⟩)
    obtain ⟨x,m2,he3,rfl,rfl⟩:=rdQ_ret hq
    refine ⟨[[.str x]],rfl,rfl,⟨rfl,trivial⟩,?_⟩
    refine ⟨⟨by simp only[maxLen,List.length_cons,List.length_nil,List.length_map];omega,by simp only[List.length_cons,List.length_nil,List.length_map];omega⟩,?_⟩
    exact hRd _ _ _ ⟨([]++[x],m2),[.old 0,.old 1,.old 2,.old 5],⟨rfl,.inr ⟨⟨rfl,.inl rfl⟩,⟨rfl,.inl rfl⟩,⟨rfl,.inl rfl⟩,⟨by rw[List.map_append];rfl,rfl,rfl⟩,trivial⟩,.inr ⟨lk rfl,lk rfl,lk rfl,trivial⟩,rfl⟩,step m (by omega) hom hr x m2 he3,by have:=name_shr _ _ _ he3;show m2.length < m.length;omega⟩
   ·refine callO [0] name_fn rfl rfl ⟨rfl,.inl rfl,.inl rfl,rfl⟩ hNm2 (fun d' h' hq=>?_) (fun d' h' hq=>by obtain ⟨e,l',k',hr,hk',rfl,rfl⟩:=badN m hr hq;exact ⟨rfl,endRH (panV e) l' k' [.old 0] rfl rfl rfl (.inl rfl) rfl rfl rfl (by rw[hr];exact ⟨l',k',hk',rfl⟩)⟩)
    obtain ⟨x,m2,he3,rfl,rfl⟩:=rdQ_ret hq
    refine ⟨?_,?_⟩
    ·refine ⟨[[.str x]],rfl,rfl,⟨rfl,trivial⟩,?_⟩
     refine ⟨⟨by simp only[maxLen,List.length_cons,List.length_nil,List.length_map];omega,by simp only[List.length_cons,List.length_nil,List.length_map];omega⟩,?_⟩
     exact hRd _ _ _ ⟨([]++[x],m2),[.old 0,.old 1,.old 2,.old 5],⟨rfl,.inr ⟨⟨rfl,.inl rfl⟩,⟨rfl,.inl rfl⟩,⟨rfl,.inl rfl⟩,⟨by rw[List.map_append];rfl,rfl,rfl⟩,trivial⟩,.inr ⟨lk rfl,lk rfl,lk rfl,trivial⟩,rfl⟩,step m (by omega) hom hr x m2 he3,by have:=name_shr _ _ _ he3;show m2.length < m.length;omega⟩
    ·refine ⟨[[.str x]],rfl,rfl,⟨rfl,trivial⟩,?_⟩
     refine ⟨⟨by simp only[maxLen,List.length_cons,List.length_nil,List.length_map];omega,by simp only[List.length_cons,List.length_nil,List.length_map];omega⟩,?_⟩
     exact hRd _ _ _ ⟨([]++[x],m2),[.old 0,.old 1,.old 2,.old 5],⟨rfl,.inr ⟨⟨rfl,.inl rfl⟩,⟨rfl,.inl rfl⟩,⟨rfl,.inl rfl⟩,⟨by rw[List.map_append];rfl,rfl,rfl⟩,trivial⟩,.inr ⟨lk rfl,lk rfl,lk rfl,trivial⟩,rfl⟩,step m (by omega) hom hr x m2 he3,by have:=name_shr _ _ _ he3;show m2.length < m.length;omega⟩
  | cons a0 acc0 =>
   have hMu2:=must_any (L:=L) m 0 [44] (by have:=hm.1;omega)
   refine callO [0] take_fn rfl rfl ⟨rfl,.inl rfl,.inl rfl,rfl⟩ hTk2 (fun d' h' hq=>?_) (fun d' h' hq=>by cases hq)
   injection hq with e1 e2;subst e1;subst e2
   have hr:((mustP [44] m).then fun _ l1=>(nameP l1).then fun x l2=>parsP m.length (a0 :: acc0++[x]) l2).then (fun ps l3=>(blockP (stmtP 48) l3).then fun b l4=>.ok ⟨s,o,ps,b⟩ l4)=r:=hr
   have hn':acc0.length+1+m.length≤3001:=hn
   have lac:((a0 :: acc0).map strG).length=acc0.length+1:=by simp
   refine ⟨fun _=>?_,fun h=>absurd (show (((a0 :: acc0).map strG).length:Int) > 0 by omega) h⟩
   refine callO [0] must_fn rfl rfl ⟨rfl,.inl rfl,.inl rfl,rfl⟩ hMu2 (fun d' h' hq=>?_) (fun d' h' hq=>?_)
   rotate_left
   ·obtain ⟨e,l',k',he,hk',rfl,rfl⟩:=rdQ_pan hq
    have hr:r=.bad e:=by rw[← hr,he];rfl
    exact ⟨rfl,endRH (panV e) l' k' [.old 0] rfl rfl rfl (.inl rfl) rfl rfl rfl (by rw[hr];exact ⟨l',k',hk',rfl⟩)⟩
   obtain ⟨_,m1,he2',rfl,rfl⟩:=rdQ_ret hq
   have hsm:=must_shr _ _ _ _ he2'
   rw[he2'] at hr
   have hr:((nameP m1).then fun x l2=>parsP m.length (a0 :: acc0++[x]) l2).then (fun ps l3=>(blockP (stmtP 48) l3).then fun b l4=>.ok ⟨s,o,ps,b⟩ l4)=r:=hr
   have hom:=hm.next (must_shr _) (must_mem _) he2'
   have hNm2:=name_any (L:=L) m1 0 (by omega) (by have:=hom.text;omega)
   refine ⟨some 60002,(.lead 0 (.lead 2 (.two (.run 1 (.run 3 (.run 4 (.run 5 (.run 6 (.run 7 .done)))))) (.run 3 (.two (.run 1 (.run 4 (.run 5 (.run 6 (.run 7 .done))))) (.run 4 (.run 1 (.run 5 (.run 6 (.run 7 .done)))))))))),rfl,?_⟩
   refine ⟨?_,?_⟩
   ·refine callO [0] name_fn rfl rfl ⟨rfl,.inl rfl,.inl rfl,rfl⟩ hNm2 (fun d' h' hq=>?_) (fun d' h' hq=>by obtain ⟨e,l',k',hr,hk',rfl,rfl⟩:=badN m1 hr hq;exact ⟨rfl,endRH (panV e) l' k' [.old 0] rfl rfl rfl (.inl rfl) rfl rfl rfl (by rw[hr];exact ⟨l',k',hk',rfl⟩)⟩)
    obtain ⟨x,m2,he3,rfl,rfl⟩:=rdQ_ret hq
    refine ⟨[[.str x]],rfl,rfl,⟨rfl,trivial⟩,?_⟩
    refine ⟨⟨by simp only[maxLen,List.length_cons,List.length_nil,List.length_map];omega,by simp only[List.length_cons,List.length_nil,List.length_map];omega⟩,?_⟩
    exact hRd _ _ _ ⟨(a0 :: acc0++[x],m2),[.old 0,.old 1,.old 2,.old 5],⟨rfl,.inr ⟨⟨rfl,.inl rfl⟩,⟨rfl,.inl rfl⟩,⟨rfl,.inl rfl⟩,⟨by rw[List.map_append];rfl,rfl,rfl⟩,trivial⟩,.inr ⟨lk rfl,lk rfl,lk rfl,trivial⟩,rfl⟩,step m1 (by omega) hom hr x m2 he3,by have:=name_shr _ _ _ he3;show m2.length < m.length;omega⟩
   ·refine callO [0] name_fn rfl rfl ⟨rfl,.inl rfl,.inl rfl,rfl⟩ hNm2 (fun d' h' hq=>?_) (fun d' h' hq=>by obtain ⟨e,l',k',hr,hk',rfl,rfl⟩:=badN m1 hr hq;exact ⟨rfl,endRH (panV e) l' k' [.old 0] rfl rfl rfl (.inl rfl) rfl rfl rfl (by rw[hr];exact ⟨l',k',hk',rfl⟩)⟩)
    obtain ⟨x,m2,he3,rfl,rfl⟩:=rdQ_ret hq
    refine ⟨?_,?_⟩
    ·refine ⟨[[.str x]],rfl,rfl,⟨rfl,trivial⟩,?_⟩
     refine ⟨⟨by simp only[maxLen,List.length_cons,List.length_nil,List.length_map];omega,by simp only[List.length_cons,List.length_nil,List.length_map];omega⟩,?_⟩
     exact hRd _ _ _ ⟨(a0 :: acc0++[x],m2),[.old 0,.old 1,.old 2,.old 5],⟨rfl,.inr ⟨⟨rfl,.inl rfl⟩,⟨rfl,.inl rfl⟩,⟨rfl,.inl rfl⟩,⟨by rw[List.map_append];rfl,rfl,rfl⟩,trivial⟩,.inr ⟨lk rfl,lk rfl,lk rfl,trivial⟩,rfl⟩,step m1 (by omega) hom hr x m2 he3,by have:=name_shr _ _ _ he3;show m2.length < m.length;omega⟩
    ·refine ⟨[[.str x]],rfl,rfl,⟨rfl,trivial⟩,?_⟩
     refine ⟨⟨by simp only[maxLen,List.length_cons,List.length_nil,List.length_map];omega,by simp only[List.length_cons,List.length_nil,List.length_map];omega⟩,?_⟩
     exact hRd _ _ _ ⟨(a0 :: acc0++[x],m2),[.old 0,.old 1,.old 2,.old 5],⟨rfl,.inr ⟨⟨rfl,.inl rfl⟩,⟨rfl,.inl rfl⟩,⟨rfl,.inl rfl⟩,⟨by rw[List.map_append];rfl,rfl,rfl⟩,trivial⟩,.inr ⟨lk rfl,lk rfl,lk rfl,trivial⟩,rfl⟩,step m1 (by omega) hom hr x m2 he3,by have:=name_shr _ _ _ he3;show m2.length < m.length;omega⟩
end Go.Proofs.YtabjelabdojpkaaGreatDoor
