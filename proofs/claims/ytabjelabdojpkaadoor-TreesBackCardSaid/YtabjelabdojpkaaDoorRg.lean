/-
  tree's reader: functions and units: the contracts.
-/
import Derived.Test.YtabjelabdojpkaaDoorRs
namespace Go.Proofs.YtabjelabdojpkaaDoor
open Go Go.Dm Go.Eng Go.RowKit Barb
abbrev fuD:Fun→D:=fun f=>.agg f.d
theorem fun_fn:fnOk Tryd.prog 69=true:=by kernel_rfl
theorem unit_fn:fnOk Tryd.prog 44=true:=by kernel_rfl
theorem st48 {L:Lv}:StC L 48 0:=stmt_any 48 0 (by omega) (by omega)
abbrev zf:List D:=[.g (.str []),.g (.bool false),.nils,.nils]
set_option maxRecDepth 20000 in
set_option maxHeartbeats 4000000 in
theorem fun_any {L:Lv} (o:Bool) (l:List Tok) (hl:RdOk l):CTH Tryd.prog (gl L) 69 1 (RH l 0) [.ptr 0 0,.g (.bool o)] (rdQ fuD 0 (funP o l)):=by
 suffices H:∀ r,funP o l=r→CTH Tryd.prog (gl L) 69 1 (RH l 0) [.ptr 0 0,.g (.bool o)] (rdQ fuD 0 r) from H _ rfl
 intro r hr
 have hl1:=hl.1
 have hNm:=name_any (L:=L) l 0 (by omega) (by have:=hl.text;omega)
 have hr:(nameP l).then (fun s l1=>(mustP [40] l1).then fun _ l2=>(parsP (l2.length+1) [] l2).then fun ps l3=>(blockP (stmtP 48) l3).then fun b l4=>.ok ⟨s,o,ps,b⟩ l4)=r:=hr
 refine enterH [] hT hF hM Tryd.func69 rfl 32 rfl (by kernel_rfl) [.cell 4 54] rfl [.ptr 0 0,.g (.bool o)] rfl (RH l 0) [0] rfl rfl rfl 1 [] trivial _ ?_
 refine callO [0] name_fn rfl rfl ⟨rfl,.inl rfl,.inl rfl,rfl⟩ hNm (fun d' h' hq=>?_) (fun d' h' hq=>?_)
 rotate_left
 ·obtain ⟨e,l',k',he,hk',rfl,rfl⟩:=rdQ_pan hq
  have hr:r=.bad e:=by rw[← hr];show (nameP l).then _=_;rw[he];rfl
  exact ⟨rfl,endRH (panV e) l' k' [.old 0] rfl rfl rfl (.inl rfl) rfl rfl rfl (by rw[hr];exact ⟨l',k',hk',rfl⟩)⟩
 obtain ⟨s,l1,he1,rfl,rfl⟩:=rdQ_ret hq
 rw[he1] at hr
 have hr:(mustP [40] l1).then (fun _ l2=>(parsP (l2.length+1) [] l2).then fun ps l3=>(blockP (stmtP 48) l3).then fun b l4=>.ok ⟨s,o,ps,b⟩ l4)=r:=hr
 have ho1:=hl.next name_shr name_mem he1
 have hMu1:=must_any (L:=L) l1 0 [40] (by have:=ho1.1;omega)
 refine callO [0] must_fn rfl rfl ⟨rfl,.inl rfl,.inl rfl,rfl⟩ hMu1 (fun d' h' hq=>?_) (fun d' h' hq=>?_)
 rotate_left
 ·obtain ⟨e,l',k',he,hk',rfl,rfl⟩:=rdQ_pan hq
  have hr:r=.bad e:=by rw[← hr];show (mustP [40] l1).then _=_;rw[he];rfl
  exact ⟨rfl,endRH (panV e) l' k' [.old 0] rfl rfl rfl (.inl rfl) rfl rfl rfl (by rw[hr];exact ⟨l',k',hk',rfl⟩)⟩
 obtain ⟨_,l2,he2,rfl,rfl⟩:=rdQ_ret hq
 rw[he2] at hr
 have hr:(parsP (l2.length+1) [] l2).then (fun ps l3=>(blockP (stmtP 48) l3).then fun b l4=>.ok ⟨s,o,ps,b⟩ l4)=r:=hr
 have ho2:=ho1.next (must_shr _) (must_mem _) he2
 refine loopR (ι:=List Str × List Tok) (fun i=>[(0,.ptr 0 0),(4,.ptr 1 0),(5,.ptr 2 0)]) (fun i=>[.blk (RB i.2 0) 93,.blk zf 54,.blk [.g (.str s),.g (.bool o),.row 3,.nils] 54,.row (i.1.map strG) 9 1]) (fun i=>RdOk i.2∧i.1.length+i.2.length≤3001∧(parsP (i.2.length+1) i.1 i.2).then (fun ps l3=>(blockP (stmtP 48) l3).then fun b l4=>.ok ⟨s,o,ps,b⟩ l4)=r) (fun i=>i.2.length)
  ⟨([],l2),[.old 0,.old 1,.old 2,.nil 9 1],⟨rfl,.inr ⟨⟨rfl,.inl rfl⟩,⟨rfl,.inl rfl⟩,⟨rfl,.inr ⟨lk rfl,lk rfl,.inr rfl,lk rfl,trivial⟩⟩,⟨rfl,rfl,rfl⟩,trivial⟩,.inr ⟨lk rfl,lk rfl,lk rfl,trivial⟩,rfl⟩,ho2,by have:=ho2.1;simp;omega,hr⟩ ?_
 rintro Rd hRd ⟨acc,m⟩ ⟨hm,hn,hr⟩
 have hm:RdOk m:=hm
 have htx:(textP m).length≤3000:=hm.text
 have hn:acc.length+m.length≤3001:=hn
 have hm1:=hm.1
 have hr:(parsP (m.length+1) acc m).then (fun ps l3=>(blockP (stmtP 48) l3).then fun b l4=>.ok ⟨s,o,ps,b⟩ l4)=r:=hr
 have hTk2:=take_any (L:=L) m 0 [41] (by omega)
 simp only[parsP] at hr
 cases ht2:takeP [41] m with
 | some m1 =>
  rw[ht2] at hTk2 hr
  have hr:(blockP (stmtP 48) m1).then (fun b l4=>.ok ⟨s,o,acc,b⟩ l4)=r:=hr
  have hom:=hm.take ht2
  have hB:=block_any (L:=L) st48 m1 hom
  refine callO [0] take_fn rfl rfl ⟨rfl,.inl rfl,.inl rfl,rfl⟩ hTk2 (fun d' h' hq=>?_) (fun d' h' hq=>by cases hq)
  injection hq with e1 e2;subst e1;subst e2
  refine callO [0] block_fn rfl rfl ⟨rfl,.inl rfl,.inl rfl,rfl⟩ hB (fun d' h' hq=>?_) (fun d' h' hq=>?_)
  rotate_left
  ·obtain ⟨e,l',k',he,hk',rfl,rfl⟩:=rdQ_pan hq
   have hr:r=.bad e:=by rw[← hr];show (blockP (stmtP 48) m1).then _=_;rw[he];rfl
   exact ⟨rfl,endRH (panV e) l' k' [.old 0] rfl rfl rfl (.inl rfl) rfl rfl rfl (by rw[hr];exact ⟨l',k',hk',rfl⟩)⟩
  obtain ⟨bb,l4,he4,rfl,rfl⟩:=rdQ_ret hq
  rw[he4] at hr
  have hr:.ok ⟨s,o,acc,bb⟩ l4=r:=hr
  exact ⟨rfl,endRH (fuD ⟨s,o,acc,bb⟩) l4 0 [.old 0] rfl rfl rfl (.inl rfl) rfl rfl rfl (by rw[← hr];rfl)⟩
 | none =>
  rw[ht2] at hTk2 hr
  have hr:((if acc=[] then .ok ⟨⟩ m else mustP [44] m:PR PUnit).then fun _ l1=>(nameP l1).then fun s l2=>parsP m.length (acc++[s]) l2).then (fun ps l3=>(blockP (stmtP 48) l3).then fun b l4=>.ok ⟨s,o,ps,b⟩ l4)=r:=hr
  have step:∀ (m1:List Tok),m1.length≤m.length→RdOk m1→((nameP m1).then fun x l2=>parsP m.length (acc++[x]) l2).then (fun ps l3=>(blockP (stmtP 48) l3).then fun b l4=>.ok ⟨s,o,ps,b⟩ l4)=r→∀ x m2,nameP m1=.ok x m2→RdOk m2∧(acc++[x]).length+m2.length≤3001∧(parsP (m2.length+1) (acc++[x]) m2).then (fun ps l3=>(blockP (stmtP 48) l3).then fun b l4=>.ok ⟨s,o,ps,b⟩ l4)=r:=fun m1 hle hom hr x m2 he=>by
   have hs:=name_shr _ _ _ he
   rw[he] at hr
   refine ⟨hom.next name_shr name_mem he,by simp;omega,?_⟩
   rw[← hr,pars_far (m2.length+1) (acc++[x]) m2 m.length (by omega) (by omega)]
   rfl
  have badN:∀ (m1:List Tok),((nameP m1).then fun x l2=>parsP m.length (acc++[x]) l2).then (fun ps l3=>(blockP (stmtP 48) l3).then fun b l4=>.ok ⟨s,o,ps,b⟩ l4)=r→∀ {d:D} {h:Heap},rdQ (fun s=>.g (.str s)) 0 (nameP m1) (.panH d h)→∃ e l' k',r=.bad e∧(0≤k'∧k'≤0+1)∧d=panV e∧h=RH l' k':=fun m1 hr d h hq=>by
   obtain ⟨e,l',k',he,hk',h1,h2⟩:=rdQ_pan hq
   exact ⟨e,l',k',by rw[← hr,he];rfl,hk',h1,h2⟩
  cases acc with
  | nil =>
   have hr:((nameP m).then fun x l2=>parsP m.length ([]++[x]) l2).then (fun ps l3=>(blockP (stmtP 48) l3).then fun b l4=>.ok ⟨s,o,ps,b⟩ l4)=r:=hr
   have hom:=hm
   have hNm2:=name_any (L:=L) m 0 (by omega) (by have:=hm.text;omega)
   refine callO [0] take_fn rfl rfl ⟨rfl,.inl rfl,.inl rfl,rfl⟩ hTk2 (fun d' h' hq=>?_) (fun d' h' hq=>by cases hq)
   injection hq with e1 e2;subst e1;subst e2
   refine ⟨fun h=>absurd (show (0:Int) > 0 from h) (by decide),fun _=>?_⟩
   refine ⟨some 60002,(.lead 0 (.lead 2 (.two (.run 1 (.run 3 (.run 4 (.run 5 (.run 6 (.run 7 .done)))))) (.run 3 (.two (.run 1 (.run 4 (.run 5 (.run 6 (.run 7 .done))))) (.run 4 (.run 1 (.run 5 (.run 6 (.run 7 .done)))))))))),rfl,?_⟩
   refine ⟨?_,?_⟩
   ·refine callO [0] name_fn rfl rfl ⟨rfl,.inl rfl,.inl rfl,rfl⟩ hNm2 (fun d' h' hq=>?_) (fun d' h' hq=>by obtain ⟨e,l',k',hr,hk',rfl,rfl⟩:=badN m hr hq;exact ⟨rfl,endRH (panV e) l' k' [.old 0] rfl rfl rfl (.inl rfl) rfl rfl rfl (by rw[hr];exact ⟨l',k',hk',rfl⟩)⟩)
    obtain ⟨x,m2,he3,rfl,rfl⟩:=rdQ_ret hq
    refine ⟨[[.str x]],rfl,rfl,⟨rfl,trivial⟩,?_⟩
    refine ⟨⟨by simp only[maxLen,List.length_cons,List.length_nil,List.length_map];omega,by simp only[List.length_cons,List.length_nil,List.length_map];omega⟩,?_⟩
    exact hRd _ _ _ ⟨([]++[x],m2),[.old 0,.old 1,.old 2,.old 5],⟨rfl,.inr ⟨⟨rfl,.inl rfl⟩,⟨rfl,.inl rfl⟩,⟨rfl,.inl rfl⟩,⟨by rw[List.map_append];rfl,rfl,rfl⟩,trivial⟩,.inr ⟨lk rfl,lk rfl,lk rfl,trivial⟩,rfl⟩,step m (by omega) hom hr x m2 he3,by have:=name_shr _ _ _ he3;show m2.length < m.length;omega⟩
   ·refine callO [0] name_fn rfl rfl ⟨rfl,.inl rfl,.inl rfl,rfl⟩ hNm2 (fun d' h' hq=>?_) (fun d' h' hq=>by obtain ⟨e,l',k',hr,hk',rfl,rfl⟩:=badN m hr hq;exact ⟨rfl,endRH (panV e) l' k' [.old 0] rfl rfl rfl (.inl rfl) rfl rfl rfl (by rw[hr];exact ⟨l',k',hk',rfl⟩)⟩)
    obtain ⟨x,m2,he3,rfl,rfl⟩:=rdQ_ret hq
    refine ⟨?_,?_⟩
    ·refine ⟨[[.str x]],rfl,rfl,⟨rfl,trivial⟩,?_⟩
     refine ⟨⟨by simp only[maxLen,List.length_cons,List.length_nil,List.length_map];omega,by simp only[List.length_cons,List.length_nil,List.length_map];omega⟩,?_⟩
     exact hRd _ _ _ ⟨([]++[x],m2),[.old 0,.old 1,.old 2,.old 5],⟨rfl,.inr ⟨⟨rfl,.inl rfl⟩,⟨rfl,.inl rfl⟩,⟨rfl,.inl rfl⟩,⟨by rw[List.map_append];rfl,rfl,rfl⟩,trivial⟩,.inr ⟨lk rfl,lk rfl,lk rfl,trivial⟩,rfl⟩,step m (by omega) hom hr x m2 he3,by have:=name_shr _ _ _ he3;show m2.length < m.length;omega⟩
    ·refine ⟨[[.str x]],rfl,rfl,⟨rfl,trivial⟩,?_⟩
     refine ⟨⟨by simp only[maxLen,List.length_cons,List.length_nil,List.length_map];omega,by simp only[List.length_cons,List.length_nil,List.length_map];omega⟩,?_⟩
     exact hRd _ _ _ ⟨([]++[x],m2),[.old 0,.old 1,.old 2,.old 5],⟨rfl,.inr ⟨⟨rfl,.inl rfl⟩,⟨rfl,.inl rfl⟩,⟨rfl,.inl rfl⟩,⟨by rw[List.map_append];rfl,rfl,rfl⟩,trivial⟩,.inr ⟨lk rfl,lk rfl,lk rfl,trivial⟩,rfl⟩,step m (by omega) hom hr x m2 he3,by have:=name_shr _ _ _ he3;show m2.length < m.length;omega⟩
  | cons a0 acc0 =>
   have hMu2:=must_any (L:=L) m 0 [44] (by have:=hm.1;omega)
   refine callO [0] take_fn rfl rfl ⟨rfl,.inl rfl,.inl rfl,rfl⟩ hTk2 (fun d' h' hq=>?_) (fun d' h' hq=>by cases hq)
   injection hq with e1 e2;subst e1;subst e2
   have hr:((mustP [44] m).then fun _ l1=>(nameP l1).then fun x l2=>parsP m.length (a0 :: acc0++[x]) l2).then (fun ps l3=>(blockP (stmtP 48) l3).then fun b l4=>.ok ⟨s,o,ps,b⟩ l4)=r:=hr
   have hn':acc0.length+1+m.length≤3001:=hn
   have lac:((a0 :: acc0).map strG).length=acc0.length+1:=by simp
   refine ⟨fun _=>?_,fun h=>absurd (show (((a0 :: acc0).map strG).length:Int) > 0 by omega) h⟩
   refine callO [0] must_fn rfl rfl ⟨rfl,.inl rfl,.inl rfl,rfl⟩ hMu2 (fun d' h' hq=>?_) (fun d' h' hq=>?_)
   rotate_left
   ·obtain ⟨e,l',k',he,hk',rfl,rfl⟩:=rdQ_pan hq
    have hr:r=.bad e:=by rw[← hr,he];rfl
    exact ⟨rfl,endRH (panV e) l' k' [.old 0] rfl rfl rfl (.inl rfl) rfl rfl rfl (by rw[hr];exact ⟨l',k',hk',rfl⟩)⟩
   obtain ⟨_,m1,he2',rfl,rfl⟩:=rdQ_ret hq
   have hsm:=must_shr _ _ _ _ he2'
   rw[he2'] at hr
   have hr:((nameP m1).then fun x l2=>parsP m.length (a0 :: acc0++[x]) l2).then (fun ps l3=>(blockP (stmtP 48) l3).then fun b l4=>.ok ⟨s,o,ps,b⟩ l4)=r:=hr
   have hom:=hm.next (must_shr _) (must_mem _) he2'
   have hNm2:=name_any (L:=L) m1 0 (by omega) (by have:=hom.text;omega)
   refine ⟨some 60002,(.lead 0 (.lead 2 (.two (.run 1 (.run 3 (.run 4 (.run 5 (.run 6 (.run 7 .done)))))) (.run 3 (.two (.run 1 (.run 4 (.run 5 (.run 6 (.run 7 .done))))) (.run 4 (.run 1 (.run 5 (.run 6 (.run 7 .done)))))))))),rfl,?_⟩
   refine ⟨?_,?_⟩
   ·refine callO [0] name_fn rfl rfl ⟨rfl,.inl rfl,.inl rfl,rfl⟩ hNm2 (fun d' h' hq=>?_) (fun d' h' hq=>by obtain ⟨e,l',k',hr,hk',rfl,rfl⟩:=badN m1 hr hq;exact ⟨rfl,endRH (panV e) l' k' [.old 0] rfl rfl rfl (.inl rfl) rfl rfl rfl (by rw[hr];exact ⟨l',k',hk',rfl⟩)⟩)
    obtain ⟨x,m2,he3,rfl,rfl⟩:=rdQ_ret hq
    refine ⟨[[.str x]],rfl,rfl,⟨rfl,trivial⟩,?_⟩
    refine ⟨⟨by simp only[maxLen,List.length_cons,List.length_nil,List.length_map];omega,by simp only[List.length_cons,List.length_nil,List.length_map];omega⟩,?_⟩
    exact hRd _ _ _ ⟨(a0 :: acc0++[x],m2),[.old 0,.old 1,.old 2,.old 5],⟨rfl,.inr ⟨⟨rfl,.inl rfl⟩,⟨rfl,.inl rfl⟩,⟨rfl,.inl rfl⟩,⟨by rw[List.map_append];rfl,rfl,rfl⟩,trivial⟩,.inr ⟨lk rfl,lk rfl,lk rfl,trivial⟩,rfl⟩,step m1 (by omega) hom hr x m2 he3,by have:=name_shr _ _ _ he3;show m2.length < m.length;omega⟩
   ·refine callO [0] name_fn rfl rfl ⟨rfl,.inl rfl,.inl rfl,rfl⟩ hNm2 (fun d' h' hq=>?_) (fun d' h' hq=>by obtain ⟨e,l',k',hr,hk',rfl,rfl⟩:=badN m1 hr hq;exact ⟨rfl,endRH (panV e) l' k' [.old 0] rfl rfl rfl (.inl rfl) rfl rfl rfl (by rw[hr];exact ⟨l',k',hk',rfl⟩)⟩)
    obtain ⟨x,m2,he3,rfl,rfl⟩:=rdQ_ret hq
    refine ⟨?_,?_⟩
    ·refine ⟨[[.str x]],rfl,rfl,⟨rfl,trivial⟩,?_⟩
     refine ⟨⟨by simp only[maxLen,List.length_cons,List.length_nil,List.length_map];omega,by simp only[List.length_cons,List.length_nil,List.length_map];omega⟩,?_⟩
     exact hRd _ _ _ ⟨(a0 :: acc0++[x],m2),[.old 0,.old 1,.old 2,.old 5],⟨rfl,.inr ⟨⟨rfl,.inl rfl⟩,⟨rfl,.inl rfl⟩,⟨rfl,.inl rfl⟩,⟨by rw[List.map_append];rfl,rfl,rfl⟩,trivial⟩,.inr ⟨lk rfl,lk rfl,lk rfl,trivial⟩,rfl⟩,step m1 (by omega) hom hr x m2 he3,by have:=name_shr _ _ _ he3;show m2.length < m.length;omega⟩
    ·refine ⟨[[.str x]],rfl,rfl,⟨rfl,trivial⟩,?_⟩
     refine ⟨⟨by simp only[maxLen,List.length_cons,List.length_nil,List.length_map];omega,by simp only[List.length_cons,List.length_nil,List.length_map];omega⟩,?_⟩
     exact hRd _ _ _ ⟨(a0 :: acc0++[x],m2),[.old 0,.old 1,.old 2,.old 5],⟨rfl,.inr ⟨⟨rfl,.inl rfl⟩,⟨rfl,.inl rfl⟩,⟨rfl,.inl rfl⟩,⟨by rw[List.map_append];rfl,rfl,rfl⟩,trivial⟩,.inr ⟨lk rfl,lk rfl,lk rfl,trivial⟩,rfl⟩,step m1 (by omega) hom hr x m2 he3,by have:=name_shr _ _ _ he3;show m2.length < m.length;omega⟩
end Go.Proofs.YtabjelabdojpkaaDoor
namespace Go.Proofs.YtabjelabdojpkaaDoor
open Go Go.Dm Go.Eng Go.RowKit Barb
abbrev uD:Barb.Unit→D:=fun u=>.agg u.d
abbrev zU:List D:=[.g (.str []),.nils,.nils,.nils]
theorem badR {α β:Type} {enc:α→D} {p:PR α} {r:PR β} (hb:∀ e,p=.bad e→r=.bad e) {d:D} {h:Heap} (hq:rdQ enc 0 p (.panH d h)):∃ e l' k',r=.bad e∧(0≤k'∧k'≤0+1)∧d=panV e∧h=RH l' k':=by
 obtain ⟨e,l',k',he,hk',h1,h2⟩:=rdQ_pan hq
 exact ⟨e,l',k',hb e he,hk',h1,h2⟩
noncomputable def kF (s:Str) (vs:List Str) (as_:List Arr):List Fun→List Tok→PR Barb.Unit:=fun fs l5=>.ok ⟨s,vs,as_,fs⟩ l5
noncomputable def kA (s:Str) (vs:List Str):List Arr→List Tok→PR Barb.Unit:=fun as_ l4=>(funsP (l4.length+1) [] l4).then (kF s vs as_)
noncomputable def kV (s:Str):List Str→List Tok→PR Barb.Unit:=fun vs l3=>(arrsP (l3.length+1) [] l3).then (kA s vs)
set_option maxRecDepth 20000 in
set_option maxHeartbeats 4000000 in
theorem unit_any {L:Lv} (l:List Tok) (hl:RdOk l):CTH Tryd.prog (gl L) 44 1 (RH l 0) [.ptr 0 0] (rdQ uD 0 (unitP l)):=by
 suffices H:∀ r,unitP l=r→CTH Tryd.prog (gl L) 44 1 (RH l 0) [.ptr 0 0] (rdQ uD 0 r) from H _ rfl
 intro r hr
 have hl1:=hl.1
 have hMu:=must_any (L:=L) l 0 [117,110,105,116] (by omega)
 have hr:(mustP [117,110,105,116] l).then (fun _ l1=>(nameP l1).then fun s l2=>(varsP (l2.length+1) [] l2).then (kV s))=r:=hr
 refine enterH [] hT hF hM Tryd.func44 rfl 52 rfl (by kernel_rfl) [.cell 2 26] rfl [.ptr 0 0] rfl (RH l 0) [0] rfl rfl rfl 1 [] trivial _ ?_
 refine callO [0] must_fn rfl rfl ⟨rfl,.inl rfl,.inl rfl,rfl⟩ hMu (fun d' h' hq=>?_) (fun d' h' hq=>by obtain ⟨e,l',k',hr,hk',rfl,rfl⟩:=badR (fun e he=>show r=.bad e by rw[← hr];show (mustP [117,110,105,116] l).then _=_;rw[he];rfl) hq;exact ⟨rfl,endRH (panV e) l' k' [.old 0] rfl rfl rfl (.inl rfl) rfl rfl rfl (by rw[hr];exact ⟨l',k',hk',rfl⟩)⟩)
 obtain ⟨_,l1,he1,rfl,rfl⟩:=rdQ_ret hq
 rw[he1] at hr
 have hr:(nameP l1).then (fun s l2=>(varsP (l2.length+1) [] l2).then (kV s))=r:=hr
 have ho1:=hl.next (must_shr _) (must_mem _) he1
 have hNm:=name_any (L:=L) l1 0 (by have:=ho1.1;omega) (by have:=ho1.text;omega)
 refine callO [0] name_fn rfl rfl ⟨rfl,.inl rfl,.inl rfl,rfl⟩ hNm (fun d' h' hq=>?_) (fun d' h' hq=>by obtain ⟨e,l',k',hr,hk',rfl,rfl⟩:=badR (fun e he=>show r=.bad e by rw[← hr];show (nameP l1).then _=_;rw[he];rfl) hq;exact ⟨rfl,endRH (panV e) l' k' [.old 0] rfl rfl rfl (.inl rfl) rfl rfl rfl (by rw[hr];exact ⟨l',k',hk',rfl⟩)⟩)
 obtain ⟨s,l2,he2,rfl,rfl⟩:=rdQ_ret hq
 rw[he2] at hr
 have hr:(varsP (l2.length+1) [] l2).then (kV s)=r:=hr
 have ho2:=ho1.next name_shr name_mem he2
 refine loopR (ι:=List Str × List Tok) (fun i=>[(0,.ptr 0 0),(2,.ptr 1 0),(3,.ptr 2 0)]) (fun i=>[.blk (RB i.2 0) 93,.blk zU 26,.blk [.g (.str s),.row 3,.nils,.nils] 26,.row (i.1.map strG) 9 1]) (fun i=>RdOk i.2∧i.1.length+i.2.length≤3001∧(varsP (i.2.length+1) i.1 i.2).then (kV s)=r) (fun i=>i.2.length)
  ⟨([],l2),[.old 0,.old 1,.old 2,.nil 9 1],⟨rfl,.inr ⟨⟨rfl,.inl rfl⟩,⟨rfl,.inl rfl⟩,⟨rfl,.inr ⟨lk rfl,.inr rfl,lk rfl,lk rfl,trivial⟩⟩,⟨rfl,rfl,rfl⟩,trivial⟩,.inr ⟨lk rfl,lk rfl,lk rfl,trivial⟩,rfl⟩,ho2,by have:=ho2.1;simp;omega,hr⟩ ?_
 rintro Rd hRd ⟨vs,l3⟩ ⟨ho3,hn,hr⟩
 have ho3:RdOk l3:=ho3
 have htx:(textP l3).length≤3000:=ho3.text
 have hn:vs.length+l3.length≤3001:=hn
 have hm1:=ho3.1
 have hr:(varsP (l3.length+1) vs l3).then (kV s)=r:=hr
 simp only[varsP] at hr
 have hTk:=take_any (L:=L) l3 0 [118,97,114] (by omega)
 cases ht:takeP [118,97,114] l3 with
 | some m1 =>
  rw[ht] at hTk hr
  have hr:((nameP m1).then fun x l2=>varsP l3.length (vs++[x]) l2).then (kV s)=r:=hr
  have hom:=ho3.take ht
  have hlt:=(take_some ht).2
  have hNm2:=name_any (L:=L) m1 0 (by omega) (by have:=hom.text;omega)
  refine callO [0] take_fn rfl rfl ⟨rfl,.inl rfl,.inl rfl,rfl⟩ hTk (fun d' h' hq=>?_) (fun d' h' hq=>by cases hq)
  injection hq with e1 e2;subst e1;subst e2
  have step:∀ x m2,nameP m1=.ok x m2→(RdOk m2∧(vs++[x]).length+m2.length≤3001∧(varsP (m2.length+1) (vs++[x]) m2).then (kV s)=r)∧m2.length < l3.length:=fun x m2 he=>by
   have hs:=name_shr _ _ _ he
   rw[he] at hr
   refine ⟨⟨hom.next name_shr name_mem he,by simp;omega,?_⟩,by omega⟩
   rw[← hr,vars_far (m2.length+1) (vs++[x]) m2 l3.length (by omega) (by omega)]
   rfl
  refine ⟨some 60002,(.lead 0 (.lead 2 (.two (.run 1 (.run 3 (.run 4 (.run 5 (.run 6 (.run 7 .done)))))) (.run 3 (.two (.run 1 (.run 4 (.run 5 (.run 6 (.run 7 .done))))) (.run 4 (.run 1 (.run 5 (.run 6 (.run 7 .done)))))))))),rfl,?_⟩
  refine ⟨?_,?_⟩
  ·refine callO [0] name_fn rfl rfl ⟨rfl,.inl rfl,.inl rfl,rfl⟩ hNm2 (fun d' h' hq=>?_) (fun d' h' hq=>by obtain ⟨e,l',k',hr,hk',rfl,rfl⟩:=badR (fun e he=>show r=.bad e by rw[← hr];show ((nameP m1).then _).then _=_;rw[he];rfl) hq;exact ⟨rfl,endRH (panV e) l' k' [.old 0] rfl rfl rfl (.inl rfl) rfl rfl rfl (by rw[hr];exact ⟨l',k',hk',rfl⟩)⟩)
   obtain ⟨x,m2,he3,rfl,rfl⟩:=rdQ_ret hq
   refine ⟨[[.str x]],rfl,rfl,⟨rfl,trivial⟩,?_⟩
   refine ⟨⟨by simp only[maxLen,List.length_cons,List.length_nil,List.length_map];omega,by simp only[List.length_cons,List.length_nil,List.length_map];omega⟩,?_⟩
   exact hRd _ _ _ ⟨(vs++[x],m2),[.old 0,.old 1,.old 2,.old 5],⟨rfl,.inr ⟨⟨rfl,.inl rfl⟩,⟨rfl,.inl rfl⟩,⟨rfl,.inl rfl⟩,⟨by rw[List.map_append];rfl,rfl,rfl⟩,trivial⟩,.inr ⟨lk rfl,lk rfl,lk rfl,trivial⟩,rfl⟩,(step x m2 he3).1,(step x m2 he3).2⟩
  ·refine callO [0] name_fn rfl rfl ⟨rfl,.inl rfl,.inl rfl,rfl⟩ hNm2 (fun d' h' hq=>?_) (fun d' h' hq=>by obtain ⟨e,l',k',hr,hk',rfl,rfl⟩:=badR (fun e he=>show r=.bad e by rw[← hr];show ((nameP m1).then _).then _=_;rw[he];rfl) hq;exact ⟨rfl,endRH (panV e) l' k' [.old 0] rfl rfl rfl (.inl rfl) rfl rfl rfl (by rw[hr];exact ⟨l',k',hk',rfl⟩)⟩)
   obtain ⟨x,m2,he3,rfl,rfl⟩:=rdQ_ret hq
   refine ⟨?_,?_⟩
   ·refine ⟨[[.str x]],rfl,rfl,⟨rfl,trivial⟩,?_⟩
    refine ⟨⟨by simp only[maxLen,List.length_cons,List.length_nil,List.length_map];omega,by simp only[List.length_cons,List.length_nil,List.length_map];omega⟩,?_⟩
    exact hRd _ _ _ ⟨(vs++[x],m2),[.old 0,.old 1,.old 2,.old 5],⟨rfl,.inr ⟨⟨rfl,.inl rfl⟩,⟨rfl,.inl rfl⟩,⟨rfl,.inl rfl⟩,⟨by rw[List.map_append];rfl,rfl,rfl⟩,trivial⟩,.inr ⟨lk rfl,lk rfl,lk rfl,trivial⟩,rfl⟩,(step x m2 he3).1,(step x m2 he3).2⟩
   ·refine ⟨[[.str x]],rfl,rfl,⟨rfl,trivial⟩,?_⟩
    refine ⟨⟨by simp only[maxLen,List.length_cons,List.length_nil,List.length_map];omega,by simp only[List.length_cons,List.length_nil,List.length_map];omega⟩,?_⟩
    exact hRd _ _ _ ⟨(vs++[x],m2),[.old 0,.old 1,.old 2,.old 5],⟨rfl,.inr ⟨⟨rfl,.inl rfl⟩,⟨rfl,.inl rfl⟩,⟨rfl,.inl rfl⟩,⟨by rw[List.map_append];rfl,rfl,rfl⟩,trivial⟩,.inr ⟨lk rfl,lk rfl,lk rfl,trivial⟩,rfl⟩,(step x m2 he3).1,(step x m2 he3).2⟩
 | none =>
  rw[ht] at hTk hr
  have hr:kV s vs l3=r:=hr
  refine callO [0] take_fn rfl rfl ⟨rfl,.inl rfl,.inl rfl,rfl⟩ hTk (fun d' h' hq=>?_) (fun d' h' hq=>by cases hq)
  injection hq with e1 e2;subst e1;subst e2
  have hr:(arrsP (l3.length+1) [] l3).then (kA s vs)=r:=hr
  clear hRd hn htx hm1 ht
  refine loopR (ι:=List Arr × List Tok) (fun i=>[(0,.ptr 0 0),(2,.ptr 1 0),(3,.ptr 2 0)]) (fun i=>[.blk (RB i.2 0) 93,.blk zU 26,.blk [.g (.str s),.g (.sl 1 (vs.map strG)),.row 3,.nils] 26,.row (i.1.map Arr.g) 50 2]) (fun i=>RdOk i.2∧i.1.length+i.2.length≤3001∧(arrsP (i.2.length+1) i.1 i.2).then (kA s vs)=r) (fun i=>i.2.length)
   ⟨([],l3),[.old 0,.old 1,.old 2,.nil 50 2],⟨rfl,.inr ⟨⟨rfl,.inl rfl⟩,⟨rfl,.inl rfl⟩,⟨rfl,.inr ⟨lk rfl,lk rfl,.inr rfl,lk rfl,trivial⟩⟩,⟨rfl,rfl,rfl⟩,trivial⟩,.inr ⟨lk rfl,lk rfl,lk rfl,trivial⟩,rfl⟩,ho3,by have:=ho3.1;simp;omega,hr⟩ ?_
  rintro Rd hRd ⟨as_,l4⟩ ⟨ho4,hn,hr⟩
  have ho4:RdOk l4:=ho4
  have htx:(textP l4).length≤3000:=ho4.text
  have hn:as_.length+l4.length≤3001:=hn
  have hm1:=ho4.1
  have hr:(arrsP (l4.length+1) as_ l4).then (kA s vs)=r:=hr
  simp only[arrsP] at hr
  have hTk:=take_any (L:=L) l4 0 [97,114,114,97,121] (by omega)
  cases ht:takeP [97,114,114,97,121] l4 with
  | some m1 =>
   rw[ht] at hTk hr
   have hr:((nameP m1).then fun x l2=>(numP l2).then fun k l3=>arrsP l4.length (as_++[Arr.mk x k]) l3).then (kA s vs)=r:=hr
   have hom:=ho4.take ht
   have hlt:=(take_some ht).2
   have hNm2:=name_any (L:=L) m1 0 (by omega) (by have:=hom.text;omega)
   have mid:∀ x m2,nameP m1=.ok x m2→RdOk m2∧m2.length < l4.length∧((numP m2).then fun k l3=>arrsP l4.length (as_++[Arr.mk x k]) l3).then (kA s vs)=r:=fun x m2 he=>by
    have hs:=name_shr _ _ _ he
    rw[he] at hr
    exact ⟨hom.next name_shr name_mem he,by omega,hr⟩
   have step:∀ x m2,nameP m1=.ok x m2→∀ k m3,numP m2=.ok k m3→(RdOk m3∧(as_++[Arr.mk x k]).length+m3.length≤3001∧(arrsP (m3.length+1) (as_++[Arr.mk x k]) m3).then (kA s vs)=r)∧m3.length < l4.length:=fun x m2 he k m3 he'=>by
    obtain ⟨ho,hlt2,hr⟩:=mid x m2 he
    have hs:=num_shr _ _ _ he'
    rw[he'] at hr
    refine ⟨⟨ho.next num_shr num_mem he',by simp;omega,?_⟩,by omega⟩
    rw[← hr,arrs_far (m3.length+1) (as_++[Arr.mk x k]) m3 l4.length (by omega) (by omega)]
    rfl
   refine callO [0] take_fn rfl rfl ⟨rfl,.inl rfl,.inl rfl,rfl⟩ hTk (fun d' h' hq=>?_) (fun d' h' hq=>by cases hq)
   injection hq with e1 e2;subst e1;subst e2
   refine ⟨some 60002,(.lead 0 (.lead 2 (.lead 4 (.two (.run 1 (.run 3 (.run 5 (.run 6 (.run 7 (.run 8 (.run 9 (.run 10 .done)))))))) (.run 3 (.two (.run 1 (.run 5 (.run 6 (.run 7 (.run 8 (.run 9 (.run 10 .done))))))) (.run 5 (.two (.run 1 (.run 6 (.run 7 (.run 8 (.run 9 (.run 10 .done)))))) (.run 6 (.two (.run 1 (.run 7 (.run 8 (.run 9 (.run 10 .done))))) (.run 7 (.run 1 (.run 8 (.run 9 (.run 10 .done))))))))))))))),rfl,?_⟩
   refine ⟨?_,?_⟩
   ·refine callO [0] name_fn rfl rfl ⟨rfl,.inl rfl,.inl rfl,rfl⟩ hNm2 (fun d' h' hq=>?_) (fun d' h' hq=>by obtain ⟨e,l',k',hr,hk',rfl,rfl⟩:=badR (fun e he=>show r=.bad e by rw[← hr];show ((nameP m1).then _).then _=_;rw[he];rfl) hq;exact ⟨rfl,endRH (panV e) l' k' [.old 0] rfl rfl rfl (.inl rfl) rfl rfl rfl (by rw[hr];exact ⟨l',k',hk',rfl⟩)⟩)
    obtain ⟨x,m2,he3,rfl,rfl⟩:=rdQ_ret hq
    obtain ⟨ho3',hlt3,hr3⟩:=mid x m2 he3
    have hNu:=number_any (L:=L) m2 0 (by omega) (by have:=ho3'.text;omega)
    refine callO [0] number_fn rfl rfl ⟨rfl,.inl rfl,.inl rfl,rfl⟩ hNu (fun d' h' hq=>?_) (fun d' h' hq=>by obtain ⟨e,l',k',hr,hk',rfl,rfl⟩:=badR (fun e he=>show r=.bad e by rw[← hr3];show ((numP m2).then _).then _=_;rw[he];rfl) hq;exact ⟨rfl,endRH (panV e) l' k' [.old 0] rfl rfl rfl (.inl rfl) rfl rfl rfl (by rw[hr];exact ⟨l',k',hk',rfl⟩)⟩)
    obtain ⟨k,m3,he5,rfl,rfl⟩:=rdQ_ret hq
    refine ⟨[[.str x,.int k]],rfl,rfl,⟨rfl,rfl,trivial⟩,?_⟩
    refine ⟨⟨by simp only[maxLen,List.length_cons,List.length_nil,List.length_map];omega,by simp only[List.length_cons,List.length_nil,List.length_map];omega⟩,?_⟩
    exact hRd _ _ _ ⟨(as_++[Arr.mk x k],m3),[.old 0,.old 1,.old 2,.old 5],⟨rfl,.inr ⟨⟨rfl,.inl rfl⟩,⟨rfl,.inl rfl⟩,⟨rfl,.inl rfl⟩,⟨by rw[List.map_append];rfl,rfl,rfl⟩,trivial⟩,.inr ⟨lk rfl,lk rfl,lk rfl,trivial⟩,rfl⟩,(step x m2 he3 k m3 he5).1,(step x m2 he3 k m3 he5).2⟩
   ·refine callO [0] name_fn rfl rfl ⟨rfl,.inl rfl,.inl rfl,rfl⟩ hNm2 (fun d' h' hq=>?_) (fun d' h' hq=>by obtain ⟨e,l',k',hr,hk',rfl,rfl⟩:=badR (fun e he=>show r=.bad e by rw[← hr];show ((nameP m1).then _).then _=_;rw[he];rfl) hq;exact ⟨rfl,endRH (panV e) l' k' [.old 0] rfl rfl rfl (.inl rfl) rfl rfl rfl (by rw[hr];exact ⟨l',k',hk',rfl⟩)⟩)
    obtain ⟨x,m2,he3,rfl,rfl⟩:=rdQ_ret hq
    obtain ⟨ho3',hlt3,hr3⟩:=mid x m2 he3
    have hNu:=number_any (L:=L) m2 0 (by omega) (by have:=ho3'.text;omega)
    refine ⟨?_,?_⟩
    ·refine callO [0] number_fn rfl rfl ⟨rfl,.inl rfl,.inl rfl,rfl⟩ hNu (fun d' h' hq=>?_) (fun d' h' hq=>by obtain ⟨e,l',k',hr,hk',rfl,rfl⟩:=badR (fun e he=>show r=.bad e by rw[← hr3];show ((numP m2).then _).then _=_;rw[he];rfl) hq;exact ⟨rfl,endRH (panV e) l' k' [.old 0] rfl rfl rfl (.inl rfl) rfl rfl rfl (by rw[hr];exact ⟨l',k',hk',rfl⟩)⟩)
     obtain ⟨k,m3,he5,rfl,rfl⟩:=rdQ_ret hq
     refine ⟨[[.str x,.int k]],rfl,rfl,⟨rfl,rfl,trivial⟩,?_⟩
     refine ⟨⟨by simp only[maxLen,List.length_cons,List.length_nil,List.length_map];omega,by simp only[List.length_cons,List.length_nil,List.length_map];omega⟩,?_⟩
     exact hRd _ _ _ ⟨(as_++[Arr.mk x k],m3),[.old 0,.old 1,.old 2,.old 5],⟨rfl,.inr ⟨⟨rfl,.inl rfl⟩,⟨rfl,.inl rfl⟩,⟨rfl,.inl rfl⟩,⟨by rw[List.map_append];rfl,rfl,rfl⟩,trivial⟩,.inr ⟨lk rfl,lk rfl,lk rfl,trivial⟩,rfl⟩,(step x m2 he3 k m3 he5).1,(step x m2 he3 k m3 he5).2⟩
    ·refine callO [0] number_fn rfl rfl ⟨rfl,.inl rfl,.inl rfl,rfl⟩ hNu (fun d' h' hq=>?_) (fun d' h' hq=>by obtain ⟨e,l',k',hr,hk',rfl,rfl⟩:=badR (fun e he=>show r=.bad e by rw[← hr3];show ((numP m2).then _).then _=_;rw[he];rfl) hq;exact ⟨rfl,endRH (panV e) l' k' [.old 0] rfl rfl rfl (.inl rfl) rfl rfl rfl (by rw[hr];exact ⟨l',k',hk',rfl⟩)⟩)
     obtain ⟨k,m3,he5,rfl,rfl⟩:=rdQ_ret hq
     refine ⟨?_,?_⟩
     ·refine ⟨[[.str x,.int k]],rfl,rfl,⟨rfl,rfl,trivial⟩,?_⟩
      refine ⟨⟨by simp only[maxLen,List.length_cons,List.length_nil,List.length_map];omega,by simp only[List.length_cons,List.length_nil,List.length_map];omega⟩,?_⟩
      exact hRd _ _ _ ⟨(as_++[Arr.mk x k],m3),[.old 0,.old 1,.old 2,.old 5],⟨rfl,.inr ⟨⟨rfl,.inl rfl⟩,⟨rfl,.inl rfl⟩,⟨rfl,.inl rfl⟩,⟨by rw[List.map_append];rfl,rfl,rfl⟩,trivial⟩,.inr ⟨lk rfl,lk rfl,lk rfl,trivial⟩,rfl⟩,(step x m2 he3 k m3 he5).1,(step x m2 he3 k m3 he5).2⟩
     ·refine ⟨?_,?_⟩
      ·refine ⟨[[.str x,.int k]],rfl,rfl,⟨rfl,rfl,trivial⟩,?_⟩
       refine ⟨⟨by simp only[maxLen,List.length_cons,List.length_nil,List.length_map];omega,by simp only[List.length_cons,List.length_nil,List.length_map];omega⟩,?_⟩
       exact hRd _ _ _ ⟨(as_++[Arr.mk x k],m3),[.old 0,.old 1,.old 2,.old 5],⟨rfl,.inr ⟨⟨rfl,.inl rfl⟩,⟨rfl,.inl rfl⟩,⟨rfl,.inl rfl⟩,⟨by rw[List.map_append];rfl,rfl,rfl⟩,trivial⟩,.inr ⟨lk rfl,lk rfl,lk rfl,trivial⟩,rfl⟩,(step x m2 he3 k m3 he5).1,(step x m2 he3 k m3 he5).2⟩
      ·refine ⟨[[.str x,.int k]],rfl,rfl,⟨rfl,rfl,trivial⟩,?_⟩
       refine ⟨⟨by simp only[maxLen,List.length_cons,List.length_nil,List.length_map];omega,by simp only[List.length_cons,List.length_nil,List.length_map];omega⟩,?_⟩
       exact hRd _ _ _ ⟨(as_++[Arr.mk x k],m3),[.old 0,.old 1,.old 2,.old 5],⟨rfl,.inr ⟨⟨rfl,.inl rfl⟩,⟨rfl,.inl rfl⟩,⟨rfl,.inl rfl⟩,⟨by rw[List.map_append];rfl,rfl,rfl⟩,trivial⟩,.inr ⟨lk rfl,lk rfl,lk rfl,trivial⟩,rfl⟩,(step x m2 he3 k m3 he5).1,(step x m2 he3 k m3 he5).2⟩
  | none =>
   rw[ht] at hTk hr
   have hr:kA s vs as_ l4=r:=hr
   refine callO [0] take_fn rfl rfl ⟨rfl,.inl rfl,.inl rfl,rfl⟩ hTk (fun d' h' hq=>?_) (fun d' h' hq=>by cases hq)
   injection hq with e1 e2;subst e1;subst e2
   have hr:(funsP (l4.length+1) [] l4).then (kF s vs as_)=r:=hr
   clear hRd hn htx hm1 ht
   refine loopR (ι:=List Fun × List Tok) (fun i=>[(0,.ptr 0 0),(2,.ptr 1 0),(3,.ptr 2 0)]) (fun i=>[.blk (RB i.2 0) 93,.blk zU 26,.blk [.g (.str s),.g (.sl 1 (vs.map strG)),.g (.sl 2 (as_.map Arr.g)),.row 3] 26,.row (i.1.map Fun.g) 54 4]) (fun i=>RdOk i.2∧i.1.length+i.2.length≤3001∧(funsP (i.2.length+1) i.1 i.2).then (kF s vs as_)=r) (fun i=>i.2.length)
    ⟨([],l4),[.old 0,.old 1,.old 2,.nil 54 4],⟨rfl,.inr ⟨⟨rfl,.inl rfl⟩,⟨rfl,.inl rfl⟩,⟨rfl,.inr ⟨lk rfl,lk rfl,lk rfl,.inr rfl,trivial⟩⟩,⟨rfl,rfl,rfl⟩,trivial⟩,.inr ⟨lk rfl,lk rfl,lk rfl,trivial⟩,rfl⟩,ho4,by have:=ho4.1;simp;omega,hr⟩ ?_
   rintro Rd hRd ⟨acc,m⟩ ⟨hm,hn,hr⟩
   have hm:RdOk m:=hm
   have htx:(textP m).length≤3000:=hm.text
   have hn:acc.length+m.length≤3001:=hn
   have hm1:=hm.1
   have hr:(funsP (m.length+1) acc m).then (kF s vs as_)=r:=hr
   simp only[funsP] at hr
   cases m with
   | nil =>
    refine ⟨fun h=>absurd (show (0:Int) > 0 from h) (by decide),fun _=>?_⟩
    rw[if_pos rfl] at hr
    have hr:.ok ⟨s,vs,as_,acc⟩ []=r:=hr
    exact ⟨rfl,endRH (uD ⟨s,vs,as_,acc⟩) [] 0 [.old 0] rfl rfl rfl (.inl rfl) rfl rfl rfl (by rw[← hr];rfl)⟩
   | cons t0 m0 =>
    have hr:(match takeP [111,112,101,110] (t0 :: m0) with | some l1=>(funP true l1).then fun f l2=>funsP (t0 :: m0).length (acc++[f]) l2 | none=>(mustP [102,117,110,99] (t0 :: m0)).then fun _ l1=>(funP false l1).then fun f l2=>funsP (t0 :: m0).length (acc++[f]) l2:PR (List Fun)).then (kF s vs as_)=r:=hr
    have hlm:(t0 :: m0).length=m0.length+1:=rfl
    rw[hlm] at hn hm1
    have hTk:=take_any (L:=L) (t0 :: m0) 0 [111,112,101,110] (by omega)
    have step:∀ (o:Bool) m1,m1.length≤m0.length→RdOk m1→((funP o m1).then fun f l2=>funsP (t0 :: m0).length (acc++[f]) l2).then (kF s vs as_)=r→∀ x m2,funP o m1=.ok x m2→(RdOk m2∧(acc++[x]).length+m2.length≤3001∧(funsP (m2.length+1) (acc++[x]) m2).then (kF s vs as_)=r)∧m2.length < (t0 :: m0).length:=fun o m1 hle hom hr x m2 he=>by
     have hs:=fun_shr _ _ _ _ he
     rw[he] at hr
     refine ⟨⟨hom.next (fun_shr o) (fun_mem o) he,by simp;omega,?_⟩,by omega⟩
     rw[← hr,funs_far (m2.length+1) (acc++[x]) m2 (t0 :: m0).length (by omega) (by omega)]
     rfl
    refine ⟨fun _=>?_,fun h=>absurd (show (((t0 :: m0).map Tok.g).length:Int) > 0 by rw[List.length_map,hlm];omega) h⟩
    cases ht:takeP [111,112,101,110] (t0 :: m0) with
    | some m1 =>
     rw[ht] at hTk hr
     have hr:((funP true m1).then fun f l2=>funsP (t0 :: m0).length (acc++[f]) l2).then (kF s vs as_)=r:=hr
     have hom:=hm.take ht
     have hle:m1.length≤m0.length:=by have:=(take_some ht).2;omega
     have hFu:=fun_any (L:=L) true m1 hom
     refine callO [0] take_fn rfl rfl ⟨rfl,.inl rfl,.inl rfl,rfl⟩ hTk (fun d' h' hq=>?_) (fun d' h' hq=>by cases hq)
     injection hq with e1 e2;subst e1;subst e2
     refine ⟨some 60002,(.lead 0 (.lead 2 (.lead 3 (.two (.run 1 (.run 4 (.run 5 (.run 6 (.run 7 (.run 8 .done)))))) (.run 4 (.two (.run 1 (.run 5 (.run 6 (.run 7 (.run 8 .done))))) (.run 5 (.run 1 (.run 6 (.run 7 (.run 8 .done))))))))))),rfl,?_⟩
     refine ⟨?_,?_⟩
     ·refine callO [0] fun_fn rfl rfl ⟨rfl,.inl rfl,.inl rfl,rfl⟩ hFu (fun d' h' hq=>?_) (fun d' h' hq=>by obtain ⟨e,l',k',hr,hk',rfl,rfl⟩:=badR (fun e he=>show r=.bad e by rw[← hr];show ((funP true m1).then _).then _=_;rw[he];rfl) hq;exact ⟨rfl,endRH (panV e) l' k' [.old 0] rfl rfl rfl (.inl rfl) rfl rfl rfl (by rw[hr];exact ⟨l',k',hk',rfl⟩)⟩)
      obtain ⟨x,m2,he3,rfl,rfl⟩:=rdQ_ret hq
      refine ⟨[[.str x.name,.bool x.isOpen,.sl 1 (x.params.map strG),.sl 5 (x.body.map Stmt.g)]],rfl,rfl,⟨rfl,rfl,rfl,rfl,trivial⟩,?_⟩
      refine ⟨⟨by simp only[maxLen,List.length_cons,List.length_nil,List.length_map];omega,by simp only[List.length_cons,List.length_nil,List.length_map];omega⟩,?_⟩
      exact hRd _ _ _ ⟨(acc++[x],m2),[.old 0,.old 1,.old 2,.old 5],⟨rfl,.inr ⟨⟨rfl,.inl rfl⟩,⟨rfl,.inl rfl⟩,⟨rfl,.inl rfl⟩,⟨by rw[List.map_append,List.map_cons,List.map_nil,Fun.g,Stmt.gs_map],rfl,rfl⟩,trivial⟩,.inr ⟨lk rfl,lk rfl,lk rfl,trivial⟩,rfl⟩,(step true m1 hle hom hr x m2 he3).1,(step true m1 hle hom hr x m2 he3).2⟩
     ·refine callO [0] fun_fn rfl rfl ⟨rfl,.inl rfl,.inl rfl,rfl⟩ hFu (fun d' h' hq=>?_) (fun d' h' hq=>by obtain ⟨e,l',k',hr,hk',rfl,rfl⟩:=badR (fun e he=>show r=.bad e by rw[← hr];show ((funP true m1).then _).then _=_;rw[he];rfl) hq;exact ⟨rfl,endRH (panV e) l' k' [.old 0] rfl rfl rfl (.inl rfl) rfl rfl rfl (by rw[hr];exact ⟨l',k',hk',rfl⟩)⟩)
      obtain ⟨x,m2,he3,rfl,rfl⟩:=rdQ_ret hq
      refine ⟨?_,?_⟩
      ·refine ⟨[[.str x.name,.bool x.isOpen,.sl 1 (x.params.map strG),.sl 5 (x.body.map Stmt.g)]],rfl,rfl,⟨rfl,rfl,rfl,rfl,trivial⟩,?_⟩
       refine ⟨⟨by simp only[maxLen,List.length_cons,List.length_nil,List.length_map];omega,by simp only[List.length_cons,List.length_nil,List.length_map];omega⟩,?_⟩
       exact hRd _ _ _ ⟨(acc++[x],m2),[.old 0,.old 1,.old 2,.old 5],⟨rfl,.inr ⟨⟨rfl,.inl rfl⟩,⟨rfl,.inl rfl⟩,⟨rfl,.inl rfl⟩,⟨by rw[List.map_append,List.map_cons,List.map_nil,Fun.g,Stmt.gs_map],rfl,rfl⟩,trivial⟩,.inr ⟨lk rfl,lk rfl,lk rfl,trivial⟩,rfl⟩,(step true m1 hle hom hr x m2 he3).1,(step true m1 hle hom hr x m2 he3).2⟩
      ·refine ⟨[[.str x.name,.bool x.isOpen,.sl 1 (x.params.map strG),.sl 5 (x.body.map Stmt.g)]],rfl,rfl,⟨rfl,rfl,rfl,rfl,trivial⟩,?_⟩
       refine ⟨⟨by simp only[maxLen,List.length_cons,List.length_nil,List.length_map];omega,by simp only[List.length_cons,List.length_nil,List.length_map];omega⟩,?_⟩
       exact hRd _ _ _ ⟨(acc++[x],m2),[.old 0,.old 1,.old 2,.old 5],⟨rfl,.inr ⟨⟨rfl,.inl rfl⟩,⟨rfl,.inl rfl⟩,⟨rfl,.inl rfl⟩,⟨by rw[List.map_append,List.map_cons,List.map_nil,Fun.g,Stmt.gs_map],rfl,rfl⟩,trivial⟩,.inr ⟨lk rfl,lk rfl,lk rfl,trivial⟩,rfl⟩,(step true m1 hle hom hr x m2 he3).1,(step true m1 hle hom hr x m2 he3).2⟩
    | none =>
     rw[ht] at hTk hr
     have hr:((mustP [102,117,110,99] (t0 :: m0)).then fun _ l1=>(funP false l1).then fun f l2=>funsP (t0 :: m0).length (acc++[f]) l2).then (kF s vs as_)=r:=hr
     have hMu2:=must_any (L:=L) (t0 :: m0) 0 [102,117,110,99] (by omega)
     refine callO [0] take_fn rfl rfl ⟨rfl,.inl rfl,.inl rfl,rfl⟩ hTk (fun d' h' hq=>?_) (fun d' h' hq=>by cases hq)
     injection hq with e1 e2;subst e1;subst e2
     refine callO [0] must_fn rfl rfl ⟨rfl,.inl rfl,.inl rfl,rfl⟩ hMu2 (fun d' h' hq=>?_) (fun d' h' hq=>by obtain ⟨e,l',k',hr,hk',rfl,rfl⟩:=badR (fun e he=>show r=.bad e by rw[← hr];show ((mustP [102,117,110,99] (t0 :: m0)).then _).then _=_;rw[he];rfl) hq;exact ⟨rfl,endRH (panV e) l' k' [.old 0] rfl rfl rfl (.inl rfl) rfl rfl rfl (by rw[hr];exact ⟨l',k',hk',rfl⟩)⟩)
     obtain ⟨_,m1,he2',rfl,rfl⟩:=rdQ_ret hq
     have hle:m1.length≤m0.length:=by have:=must_shr _ _ _ _ he2';omega
     rw[he2'] at hr
     have hr:((funP false m1).then fun f l2=>funsP (t0 :: m0).length (acc++[f]) l2).then (kF s vs as_)=r:=hr
     have hom:=hm.next (must_shr _) (must_mem _) he2'
     have hFu:=fun_any (L:=L) false m1 hom
     refine ⟨some 60002,(.lead 0 (.lead 2 (.lead 3 (.two (.run 1 (.run 4 (.run 5 (.run 6 (.run 7 (.run 8 .done)))))) (.run 4 (.two (.run 1 (.run 5 (.run 6 (.run 7 (.run 8 .done))))) (.run 5 (.run 1 (.run 6 (.run 7 (.run 8 .done))))))))))),rfl,?_⟩
     refine ⟨?_,?_⟩
     ·refine callO [0] fun_fn rfl rfl ⟨rfl,.inl rfl,.inl rfl,rfl⟩ hFu (fun d' h' hq=>?_) (fun d' h' hq=>by obtain ⟨e,l',k',hr,hk',rfl,rfl⟩:=badR (fun e he=>show r=.bad e by rw[← hr];show ((funP false m1).then _).then _=_;rw[he];rfl) hq;exact ⟨rfl,endRH (panV e) l' k' [.old 0] rfl rfl rfl (.inl rfl) rfl rfl rfl (by rw[hr];exact ⟨l',k',hk',rfl⟩)⟩)
      obtain ⟨x,m2,he3,rfl,rfl⟩:=rdQ_ret hq
      refine ⟨[[.str x.name,.bool x.isOpen,.sl 1 (x.params.map strG),.sl 5 (x.body.map Stmt.g)]],rfl,rfl,⟨rfl,rfl,rfl,rfl,trivial⟩,?_⟩
      refine ⟨⟨by simp only[maxLen,List.length_cons,List.length_nil,List.length_map];omega,by simp only[List.length_cons,List.length_nil,List.length_map];omega⟩,?_⟩
      exact hRd _ _ _ ⟨(acc++[x],m2),[.old 0,.old 1,.old 2,.old 5],⟨rfl,.inr ⟨⟨rfl,.inl rfl⟩,⟨rfl,.inl rfl⟩,⟨rfl,.inl rfl⟩,⟨by rw[List.map_append,List.map_cons,List.map_nil,Fun.g,Stmt.gs_map],rfl,rfl⟩,trivial⟩,.inr ⟨lk rfl,lk rfl,lk rfl,trivial⟩,rfl⟩,(step false m1 hle hom hr x m2 he3).1,(step false m1 hle hom hr x m2 he3).2⟩
     ·refine callO [0] fun_fn rfl rfl ⟨rfl,.inl rfl,.inl rfl,rfl⟩ hFu (fun d' h' hq=>?_) (fun d' h' hq=>by obtain ⟨e,l',k',hr,hk',rfl,rfl⟩:=badR (fun e he=>show r=.bad e by rw[← hr];show ((funP false m1).then _).then _=_;rw[he];rfl) hq;exact ⟨rfl,endRH (panV e) l' k' [.old 0] rfl rfl rfl (.inl rfl) rfl rfl rfl (by rw[hr];exact ⟨l',k',hk',rfl⟩)⟩)
      obtain ⟨x,m2,he3,rfl,rfl⟩:=rdQ_ret hq
      refine ⟨?_,?_⟩
      ·refine ⟨[[.str x.name,.bool x.isOpen,.sl 1 (x.params.map strG),.sl 5 (x.body.map Stmt.g)]],rfl,rfl,⟨rfl,rfl,rfl,rfl,trivial⟩,?_⟩
       refine ⟨⟨by simp only[maxLen,List.length_cons,List.length_nil,List.length_map];omega,by simp only[List.length_cons,List.length_nil,List.length_map];omega⟩,?_⟩
       exact hRd _ _ _ ⟨(acc++[x],m2),[.old 0,.old 1,.old 2,.old 5],⟨rfl,.inr ⟨⟨rfl,.inl rfl⟩,⟨rfl,.inl rfl⟩,⟨rfl,.inl rfl⟩,⟨by rw[List.map_append,List.map_cons,List.map_nil,Fun.g,Stmt.gs_map],rfl,rfl⟩,trivial⟩,.inr ⟨lk rfl,lk rfl,lk rfl,trivial⟩,rfl⟩,(step false m1 hle hom hr x m2 he3).1,(step false m1 hle hom hr x m2 he3).2⟩
      ·refine ⟨[[.str x.name,.bool x.isOpen,.sl 1 (x.params.map strG),.sl 5 (x.body.map Stmt.g)]],rfl,rfl,⟨rfl,rfl,rfl,rfl,trivial⟩,?_⟩
       refine ⟨⟨by simp only[maxLen,List.length_cons,List.length_nil,List.length_map];omega,by simp only[List.length_cons,List.length_nil,List.length_map];omega⟩,?_⟩
       exact hRd _ _ _ ⟨(acc++[x],m2),[.old 0,.old 1,.old 2,.old 5],⟨rfl,.inr ⟨⟨rfl,.inl rfl⟩,⟨rfl,.inl rfl⟩,⟨rfl,.inl rfl⟩,⟨by rw[List.map_append,List.map_cons,List.map_nil,Fun.g,Stmt.gs_map],rfl,rfl⟩,trivial⟩,.inr ⟨lk rfl,lk rfl,lk rfl,trivial⟩,rfl⟩,(step false m1 hle hom hr x m2 he3).1,(step false m1 hle hom hr x m2 he3).2⟩
end Go.Proofs.YtabjelabdojpkaaDoor
