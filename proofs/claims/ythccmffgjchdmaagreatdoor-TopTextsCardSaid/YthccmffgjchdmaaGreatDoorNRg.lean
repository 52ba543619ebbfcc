import Derived.Test.YthccmffgjchdmaaGreatDoorNRs
open Go Go.Proofs Go.Proofs.YthccmffgjchdmaaGreatDoor
namespace ZN
open Go Go.Dm Go.Eng Go.RowKit Barb
abbrev uD:Barb.Unit->D:=λu=>.agg u.d
abbrev zU:List D:=[.g (.str []),.nils,.nils,.nils]
theorem Zri {α β:Type} {enc:α->D} {p:PR α} {r:PR β} (hb:∀e,p=.bad e->r=.bad e) {d:D} {h:Zae} (hq:rdQ enc 0 p (.panH d h)):∃e l' k',r=.bad e/\(0<=k'/\k'<=0+1)/\d=Zcu e/\h=RH l' k':=by obtain ⟨e,l',k',he,ae,h1,h2⟩:=ZaM hq;exact ⟨e,l',k',hb e he,ae,h1,h2⟩
noncomputable def kF (s:Str) (vs:List Str) (as_:List Arr):List Fun->List Tok->PR Barb.Unit:=λfs l5=>.ok ⟨s,vs,as_,fs⟩ l5
noncomputable def kA (s:Str) (vs:List Str):List Arr->List Tok->PR Barb.Unit:=λas_ l4=>(Zdx (l4.length+1) [] l4).then (kF s vs as_)
noncomputable def kV (s:Str):List Str->List Tok->PR Barb.Unit:=λvs l3=>(Zeq (l3.length+1) [] l3).then (kA s vs)
set_option maxRecDepth 20000 in
set_option maxHeartbeats 4000000 in
theorem ZvG {L:Lv} (l:List Tok) (hl:Zcb l):CTH Tryz.prog (gl L) 48 1 (RH l 0) [.ptr 0 0] (rdQ uD 0 (Zex l)):=by
 suffices H:∀r,Zex l=r->CTH Tryz.prog (gl L) 48 1 (RH l 0) [.ptr 0 0] (rdQ uD 0 r) from H _ rfl
 intro r hr;have dZ:=hl.1;have jq:=Zck (L:=L) l 0 [117,110,105,116] (by omega);have hr:(ZaH [117,110,105,116] l).then (λ_ l1=>(Zbc l1).then λs l2=>(Zbh (l2.length+1) [] l2).then (kV s))=r:=hr;refine Za4 [] hT hF hM Tryz.func48 rfl 52 rfl (by kernel_rfl) [.cell 2 37] rfl [.ptr 0 0] rfl (RH l 0) [0] rfl rfl rfl 1 [] trivial _ ?_;refine Zag [0] Zdb rfl rfl ⟨rfl,.inl rfl,.inl rfl,rfl⟩ jq (λd' h' hq=>?_) (λd' h' hq=>by obtain ⟨e,l',k',hr,ae,rfl,rfl⟩:=Zri (λe he=>show r=.bad e by rw[<- hr];show (ZaH [117,110,105,116] l).then _=_;rw[he];rfl) hq;exact ⟨rfl,ZbE (Zcu e) l' k' [.old 0] rfl rfl rfl (.inl rfl) rfl rfl rfl (by rw[hr];exact ⟨l',k',ae,rfl⟩)⟩);obtain ⟨_,l1,ir,rfl,rfl⟩:=Zaq hq;rw[ir] at hr;have hr:(Zbc l1).then (λs l2=>(Zbh (l2.length+1) [] l2).then (kV s))=r:=hr;have bZ:=hl.next (ZaA _) (ZaK _) ir;have gv:=ZdE (L:=L) l1 0 (by have:=bZ.1;omega) (by have:=bZ.text;omega);refine Zag [0] Zb3 rfl rfl ⟨rfl,.inl rfl,.inl rfl,rfl⟩ gv (λd' h' hq=>?_) (λd' h' hq=>by obtain ⟨e,l',k',hr,ae,rfl,rfl⟩:=Zri (λe he=>show r=.bad e by rw[<- hr];show (Zbc l1).then _=_;rw[he];rfl) hq;exact ⟨rfl,ZbE (Zcu e) l' k' [.old 0] rfl rfl rfl (.inl rfl) rfl rfl rfl (by rw[hr];exact ⟨l',k',ae,rfl⟩)⟩);obtain ⟨s,l2,cz,rfl,rfl⟩:=Zaq hq;rw[cz] at hr;have hr:(Zbh (l2.length+1) [] l2).then (kV s)=r:=hr;have bY:=bZ.next Zau Za8 cz;refine ZaO (ι:=List Str × List Tok) (λi=>[(0,.ptr 0 0),(2,.ptr 1 0),(3,.ptr 2 0)]) (λi=>[.blk (RB i.2 0) 125,.blk zU 37,.blk [.g (.str s),.row 3,.nils,.nils] 37,.row (i.1.map ZaT) 9 1]) (λi=>Zcb i.2/\i.1.length+i.2.length<=3001/\(Zbh (i.2.length+1) i.1 i.2).then (kV s)=r) (λi=>i.2.length)
  ⟨([],l2),[.old 0,.old 1,.old 2,.nil 9 1],⟨rfl,.inr ⟨⟨rfl,.inl rfl⟩,⟨rfl,.inl rfl⟩,⟨rfl,.inr ⟨lk rfl,.inr rfl,lk rfl,lk rfl,trivial⟩⟩,⟨rfl,rfl,rfl⟩,trivial⟩,.inr ⟨lk rfl,lk rfl,lk rfl,trivial⟩,rfl⟩,bY,by have:=bY.1;simp;omega,hr⟩ ?_
 rintro Rd aj ⟨vs,l3⟩ ⟨di,hn,hr⟩;have di:Zcb l3:=di;have nM:(Zbi l3).length<=3000:=di.text;have hn:vs.length+l3.length<=3001:=hn;have j5:=di.1;have hr:(Zbh (l3.length+1) vs l3).then (kV s)=r:=hr;simp only[Zbh] at hr;have bo:=Zbv (L:=L) l3 0 [118,97,114] (by omega);cases ht:ZaE [118,97,114] l3 with
 | some m1 =>
  rw[ht] at bo hr;have hr:((Zbc m1).then λx l2=>Zbh l3.length (vs++[x]) l2).then (kV s)=r:=hr;have bz:=di.take ht;have aG:=(Zay ht).2;have cM:=ZdE (L:=L) m1 0 (by omega) (by have:=bz.text;omega);refine Zag [0] Zas rfl rfl ⟨rfl,.inl rfl,.inl rfl,rfl⟩ bo (λd' h' hq=>?_) (λd' h' hq=>by cases hq);injection hq with e1 e2;subst e1;subst e2;have step:∀x m2,Zbc m1=.ok x m2->(Zcb m2/\(vs++[x]).length+m2.length<=3001/\(Zbh (m2.length+1) (vs++[x]) m2).then (kV s)=r)/\m2.length < l3.length:=λx m2 he=>by have hs:=Zau _ _ _ he;rw[he] at hr;refine ⟨⟨bz.next Zau Za8 he,by simp;omega,?_⟩,by omega⟩;rw[<- hr,ZpS (m2.length+1) (vs++[x]) m2 l3.length (by omega) (by omega)];rfl
  refine ⟨some 60002,(.lead 0 (.lead 2 (.two (.run 1 (.run 3 (.run 4 (.run 5 (.run 6 (.run 7 .done)))))) (.run 3 (.two (.run 1 (.run 4 (.run 5 (.run 6 (.run 7 .done))))) (.run 4 (.run 1 (.run 5 (.run 6 (.run 7 .done)))))))))),rfl,?_⟩;refine ⟨?_,?_⟩
  ·refine Zag [0] Zb3 rfl rfl ⟨rfl,.inl rfl,.inl rfl,rfl⟩ cM (λd' h' hq=>?_) (λd' h' hq=>by obtain ⟨e,l',k',hr,ae,rfl,rfl⟩:=Zri (λe he=>show r=.bad e by rw[<- hr];show ((Zbc m1).then _).then _=_;rw[he];rfl) hq;exact ⟨rfl,ZbE (Zcu e) l' k' [.old 0] rfl rfl rfl (.inl rfl) rfl rfl rfl (by rw[hr];exact ⟨l',k',ae,rfl⟩)⟩);obtain ⟨x,m2,ay,rfl,rfl⟩:=Zaq hq;refine ⟨[[.str x]],rfl,rfl,⟨rfl,trivial⟩,?_⟩;refine ⟨⟨by simp only[maxLen,List.length_cons,List.length_nil,Yaa];omega,by simp only[List.length_cons,List.length_nil,Yaa];omega⟩,?_⟩;exact aj _ _ _ ⟨(vs++[x],m2),[.old 0,.old 1,.old 2,.old 5],⟨rfl,.inr ⟨⟨rfl,.inl rfl⟩,⟨rfl,.inl rfl⟩,⟨rfl,.inl rfl⟩,⟨by rw[Yaf];rfl,rfl,rfl⟩,trivial⟩,.inr ⟨lk rfl,lk rfl,lk rfl,trivial⟩,rfl⟩,(step x m2 ay).1,(step x m2 ay).2⟩
  ·refine Zag [0] Zb3 rfl rfl ⟨rfl,.inl rfl,.inl rfl,rfl⟩ cM (λd' h' hq=>?_) (λd' h' hq=>by obtain ⟨e,l',k',hr,ae,rfl,rfl⟩:=Zri (λe he=>show r=.bad e by rw[<- hr];show ((Zbc m1).then _).then _=_;rw[he];rfl) hq;exact ⟨rfl,ZbE (Zcu e) l' k' [.old 0] rfl rfl rfl (.inl rfl) rfl rfl rfl (by rw[hr];exact ⟨l',k',ae,rfl⟩)⟩);obtain ⟨x,m2,ay,rfl,rfl⟩:=Zaq hq;refine ⟨?_,?_⟩
   ·refine ⟨[[.str x]],rfl,rfl,⟨rfl,trivial⟩,?_⟩;refine ⟨⟨by simp only[maxLen,List.length_cons,List.length_nil,Yaa];omega,by simp only[List.length_cons,List.length_nil,Yaa];omega⟩,?_⟩;exact aj _ _ _ ⟨(vs++[x],m2),[.old 0,.old 1,.old 2,.old 5],⟨rfl,.inr ⟨⟨rfl,.inl rfl⟩,⟨rfl,.inl rfl⟩,⟨rfl,.inl rfl⟩,⟨by rw[Yaf];rfl,rfl,rfl⟩,trivial⟩,.inr ⟨lk rfl,lk rfl,lk rfl,trivial⟩,rfl⟩,(step x m2 ay).1,(step x m2 ay).2⟩
   ·refine ⟨[[.str x]],rfl,rfl,⟨rfl,trivial⟩,?_⟩;refine ⟨⟨by simp only[maxLen,List.length_cons,List.length_nil,Yaa];omega,by simp only[List.length_cons,List.length_nil,Yaa];omega⟩,?_⟩;exact aj _ _ _ ⟨(vs++[x],m2),[.old 0,.old 1,.old 2,.old 5],⟨rfl,.inr ⟨⟨rfl,.inl rfl⟩,⟨rfl,.inl rfl⟩,⟨rfl,.inl rfl⟩,⟨by rw[Yaf];rfl,rfl,rfl⟩,trivial⟩,.inr ⟨lk rfl,lk rfl,lk rfl,trivial⟩,rfl⟩,(step x m2 ay).1,(step x m2 ay).2⟩
 | none =>
  rw[ht] at bo hr;have hr:kV s vs l3=r:=hr;refine Zag [0] Zas rfl rfl ⟨rfl,.inl rfl,.inl rfl,rfl⟩ bo (λd' h' hq=>?_) (λd' h' hq=>by cases hq);injection hq with e1 e2;subst e1;subst e2;have hr:(Zeq (l3.length+1) [] l3).then (kA s vs)=r:=hr;clear aj hn nM j5 ht;refine ZaO (ι:=List Arr × List Tok) (λi=>[(0,.ptr 0 0),(2,.ptr 1 0),(3,.ptr 2 0)]) (λi=>[.blk (RB i.2 0) 125,.blk zU 37,.blk [.g (.str s),.g (.sl 1 (vs.map ZaT)),.row 3,.nils] 37,.row (i.1.map Arr.g) 67 2]) (λi=>Zcb i.2/\i.1.length+i.2.length<=3001/\(Zeq (i.2.length+1) i.1 i.2).then (kA s vs)=r) (λi=>i.2.length)
   ⟨([],l3),[.old 0,.old 1,.old 2,.nil 67 2],⟨rfl,.inr ⟨⟨rfl,.inl rfl⟩,⟨rfl,.inl rfl⟩,⟨rfl,.inr ⟨lk rfl,lk rfl,.inr rfl,lk rfl,trivial⟩⟩,⟨rfl,rfl,rfl⟩,trivial⟩,.inr ⟨lk rfl,lk rfl,lk rfl,trivial⟩,rfl⟩,di,by have:=di.1;simp;omega,hr⟩ ?_
  rintro Rd aj ⟨as_,l4⟩ ⟨gh,hn,hr⟩;have gh:Zcb l4:=gh;have nM:(Zbi l4).length<=3000:=gh.text;have hn:as_.length+l4.length<=3001:=hn;have j5:=gh.1;have hr:(Zeq (l4.length+1) as_ l4).then (kA s vs)=r:=hr;simp only[Zeq] at hr;have bo:=Zbv (L:=L) l4 0 [97,114,114,97,121] (by omega);cases ht:ZaE [97,114,114,97,121] l4 with
  | some m1 =>
   rw[ht] at bo hr;have hr:((Zbc m1).then λx l2=>(Zff l2).then λk l3=>Zeq l4.length (as_++[Arr.mk x k]) l3).then (kA s vs)=r:=hr;have bz:=gh.take ht;have aG:=(Zay ht).2;have cM:=ZdE (L:=L) m1 0 (by omega) (by have:=bz.text;omega);have nB:∀x m2,Zbc m1=.ok x m2->Zcb m2/\m2.length < l4.length/\((Zff m2).then λk l3=>Zeq l4.length (as_++[Arr.mk x k]) l3).then (kA s vs)=r:=λx m2 he=>by have hs:=Zau _ _ _ he;rw[he] at hr;exact ⟨bz.next Zau Za8 he,by omega,hr⟩
   have step:∀x m2,Zbc m1=.ok x m2->∀k m3,Zff m2=.ok k m3->(Zcb m3/\(as_++[Arr.mk x k]).length+m3.length<=3001/\(Zeq (m3.length+1) (as_++[Arr.mk x k]) m3).then (kA s vs)=r)/\m3.length < l4.length:=λx m2 he k m3 bp=>by obtain ⟨ho,v7,hr⟩:=nB x m2 he;have hs:=Zgy _ _ _ bp;rw[bp] at hr;refine ⟨⟨ho.next Zgy ZlQ bp,by simp;omega,?_⟩,by omega⟩;rw[<- hr,Zrm (m3.length+1) (as_++[Arr.mk x k]) m3 l4.length (by omega) (by omega)];rfl
   refine Zag [0] Zas rfl rfl ⟨rfl,.inl rfl,.inl rfl,rfl⟩ bo (λd' h' hq=>?_) (λd' h' hq=>by cases hq);injection hq with e1 e2;subst e1;subst e2;refine ⟨some 60002,(.lead 0 (.lead 2 (.lead 4 (.two (.run 1 (.run 3 (.run 5 (.run 6 (.run 7 (.run 8 (.run 9 (.run 10 .done)))))))) (.run 3 (.two (.run 1 (.run 5 (.run 6 (.run 7 (.run 8 (.run 9 (.run 10 .done))))))) (.run 5 (.two (.run 1 (.run 6 (.run 7 (.run 8 (.run 9 (.run 10 .done)))))) (.run 6 (.two (.run 1 (.run 7 (.run 8 (.run 9 (.run 10 .done))))) (.run 7 (.run 1 (.run 8 (.run 9 (.run 10 .done))))))))))))))),rfl,?_⟩;refine ⟨?_,?_⟩
   ·refine Zag [0] Zb3 rfl rfl ⟨rfl,.inl rfl,.inl rfl,rfl⟩ cM (λd' h' hq=>?_) (λd' h' hq=>by obtain ⟨e,l',k',hr,ae,rfl,rfl⟩:=Zri (λe he=>show r=.bad e by rw[<- hr];show ((Zbc m1).then _).then _=_;rw[he];rfl) hq;exact ⟨rfl,ZbE (Zcu e) l' k' [.old 0] rfl rfl rfl (.inl rfl) rfl rfl rfl (by rw[hr];exact ⟨l',k',ae,rfl⟩)⟩);obtain ⟨x,m2,ay,rfl,rfl⟩:=Zaq hq;obtain ⟨lM,rj,eF⟩:=nB x m2 ay;have ng:=ZhN (L:=L) m2 0 (by omega) (by have:=lM.text;omega);refine Zag [0] Zg9 rfl rfl ⟨rfl,.inl rfl,.inl rfl,rfl⟩ ng (λd' h' hq=>?_) (λd' h' hq=>by obtain ⟨e,l',k',hr,ae,rfl,rfl⟩:=Zri (λe he=>show r=.bad e by rw[<- eF];show ((Zff m2).then _).then _=_;rw[he];rfl) hq;exact ⟨rfl,ZbE (Zcu e) l' k' [.old 0] rfl rfl rfl (.inl rfl) rfl rfl rfl (by rw[hr];exact ⟨l',k',ae,rfl⟩)⟩);obtain ⟨k,m3,dL,rfl,rfl⟩:=Zaq hq;refine ⟨[[.str x,.int k]],rfl,rfl,⟨rfl,rfl,trivial⟩,?_⟩;refine ⟨⟨by simp only[maxLen,List.length_cons,List.length_nil,Yaa];omega,by simp only[List.length_cons,List.length_nil,Yaa];omega⟩,?_⟩;exact aj _ _ _ ⟨(as_++[Arr.mk x k],m3),[.old 0,.old 1,.old 2,.old 5],⟨rfl,.inr ⟨⟨rfl,.inl rfl⟩,⟨rfl,.inl rfl⟩,⟨rfl,.inl rfl⟩,⟨by rw[Yaf];rfl,rfl,rfl⟩,trivial⟩,.inr ⟨lk rfl,lk rfl,lk rfl,trivial⟩,rfl⟩,(step x m2 ay k m3 dL).1,(step x m2 ay k m3 dL).2⟩
   ·refine Zag [0] Zb3 rfl rfl ⟨rfl,.inl rfl,.inl rfl,rfl⟩ cM (λd' h' hq=>?_) (λd' h' hq=>by obtain ⟨e,l',k',hr,ae,rfl,rfl⟩:=Zri (λe he=>show r=.bad e by rw[<- hr];show ((Zbc m1).then _).then _=_;rw[he];rfl) hq;exact ⟨rfl,ZbE (Zcu e) l' k' [.old 0] rfl rfl rfl (.inl rfl) rfl rfl rfl (by rw[hr];exact ⟨l',k',ae,rfl⟩)⟩);obtain ⟨x,m2,ay,rfl,rfl⟩:=Zaq hq;obtain ⟨lM,rj,eF⟩:=nB x m2 ay;have ng:=ZhN (L:=L) m2 0 (by omega) (by have:=lM.text;omega);refine ⟨?_,?_⟩
    ·refine Zag [0] Zg9 rfl rfl ⟨rfl,.inl rfl,.inl rfl,rfl⟩ ng (λd' h' hq=>?_) (λd' h' hq=>by obtain ⟨e,l',k',hr,ae,rfl,rfl⟩:=Zri (λe he=>show r=.bad e by rw[<- eF];show ((Zff m2).then _).then _=_;rw[he];rfl) hq;exact ⟨rfl,ZbE (Zcu e) l' k' [.old 0] rfl rfl rfl (.inl rfl) rfl rfl rfl (by rw[hr];exact ⟨l',k',ae,rfl⟩)⟩);obtain ⟨k,m3,dL,rfl,rfl⟩:=Zaq hq;refine ⟨[[.str x,.int k]],rfl,rfl,⟨rfl,rfl,trivial⟩,?_⟩;refine ⟨⟨by simp only[maxLen,List.length_cons,List.length_nil,Yaa];omega,by simp only[List.length_cons,List.length_nil,Yaa];omega⟩,?_⟩;exact aj _ _ _ ⟨(as_++[Arr.mk x k],m3),[.old 0,.old 1,.old 2,.old 5],⟨rfl,.inr ⟨⟨rfl,.inl rfl⟩,⟨rfl,.inl rfl⟩,⟨rfl,.inl rfl⟩,⟨by rw[Yaf];rfl,rfl,rfl⟩,trivial⟩,.inr ⟨lk rfl,lk rfl,lk rfl,trivial⟩,rfl⟩,(step x m2 ay k m3 dL).1,(step x m2 ay k m3 dL).2⟩
    ·refine Zag [0] Zg9 rfl rfl ⟨rfl,.inl rfl,.inl rfl,rfl⟩ ng (λd' h' hq=>?_) (λd' h' hq=>by obtain ⟨e,l',k',hr,ae,rfl,rfl⟩:=Zri (λe he=>show r=.bad e by rw[<- eF];show ((Zff m2).then _).then _=_;rw[he];rfl) hq;exact ⟨rfl,ZbE (Zcu e) l' k' [.old 0] rfl rfl rfl (.inl rfl) rfl rfl rfl (by rw[hr];exact ⟨l',k',ae,rfl⟩)⟩);obtain ⟨k,m3,dL,rfl,rfl⟩:=Zaq hq;refine ⟨?_,?_⟩
     ·refine ⟨[[.str x,.int k]],rfl,rfl,⟨rfl,rfl,trivial⟩,?_⟩;refine ⟨⟨by simp only[maxLen,List.length_cons,List.length_nil,Yaa];omega,by simp only[List.length_cons,List.length_nil,Yaa];omega⟩,?_⟩;exact aj _ _ _ ⟨(as_++[Arr.mk x k],m3),[.old 0,.old 1,.old 2,.old 5],⟨rfl,.inr ⟨⟨rfl,.inl rfl⟩,⟨rfl,.inl rfl⟩,⟨rfl,.inl rfl⟩,⟨by rw[Yaf];rfl,rfl,rfl⟩,trivial⟩,.inr ⟨lk rfl,lk rfl,lk rfl,trivial⟩,rfl⟩,(step x m2 ay k m3 dL).1,(step x m2 ay k m3 dL).2⟩
     ·refine ⟨?_,?_⟩
      ·refine ⟨[[.str x,.int k]],rfl,rfl,⟨rfl,rfl,trivial⟩,?_⟩;refine ⟨⟨by simp only[maxLen,List.length_cons,List.length_nil,Yaa];omega,by simp only[List.length_cons,List.length_nil,Yaa];omega⟩,?_⟩;exact aj _ _ _ ⟨(as_++[Arr.mk x k],m3),[.old 0,.old 1,.old 2,.old 5],⟨rfl,.inr ⟨⟨rfl,.inl rfl⟩,⟨rfl,.inl rfl⟩,⟨rfl,.inl rfl⟩,⟨by rw[Yaf];rfl,rfl,rfl⟩,trivial⟩,.inr ⟨lk rfl,lk rfl,lk rfl,trivial⟩,rfl⟩,(step x m2 ay k m3 dL).1,(step x m2 ay k m3 dL).2⟩
      ·refine ⟨[[.str x,.int k]],rfl,rfl,⟨rfl,rfl,trivial⟩,?_⟩;refine ⟨⟨by simp only[maxLen,List.length_cons,List.length_nil,Yaa];omega,by simp only[List.length_cons,List.length_nil,Yaa];omega⟩,?_⟩;exact aj _ _ _ ⟨(as_++[Arr.mk x k],m3),[.old 0,.old 1,.old 2,.old 5],⟨rfl,.inr ⟨⟨rfl,.inl rfl⟩,⟨rfl,.inl rfl⟩,⟨rfl,.inl rfl⟩,⟨by rw[Yaf];rfl,rfl,rfl⟩,trivial⟩,.inr ⟨lk rfl,lk rfl,lk rfl,trivial⟩,rfl⟩,(step x m2 ay k m3 dL).1,(step x m2 ay k m3 dL).2⟩
  | none =>
   rw[ht] at bo hr;have hr:kA s vs as_ l4=r:=hr;refine Zag [0] Zas rfl rfl ⟨rfl,.inl rfl,.inl rfl,rfl⟩ bo (λd' h' hq=>?_) (λd' h' hq=>by cases hq);injection hq with e1 e2;subst e1;subst e2;have hr:(Zdx (l4.length+1) [] l4).then (kF s vs as_)=r:=hr;clear aj hn nM j5 ht;refine ZaO (ι:=List Fun × List Tok) (λi=>[(0,.ptr 0 0),(2,.ptr 1 0),(3,.ptr 2 0)]) (λi=>[.blk (RB i.2 0) 125,.blk zU 37,.blk [.g (.str s),.g (.sl 1 (vs.map ZaT)),.g (.sl 2 (as_.map Arr.g)),.row 3] 37,.row (i.1.map Fun.g) 71 4]) (λi=>Zcb i.2/\i.1.length+i.2.length<=3001/\(Zdx (i.2.length+1) i.1 i.2).then (kF s vs as_)=r) (λi=>i.2.length)
    ⟨([],l4),[.old 0,.old 1,.old 2,.nil 71 4],⟨rfl,.inr ⟨⟨rfl,.inl rfl⟩,⟨rfl,.inl rfl⟩,⟨rfl,.inr ⟨lk rfl,lk rfl,lk rfl,.inr rfl,trivial⟩⟩,⟨rfl,rfl,rfl⟩,trivial⟩,.inr ⟨lk rfl,lk rfl,lk rfl,trivial⟩,rfl⟩,gh,by have:=gh.1;simp;omega,hr⟩ ?_
   rintro Rd aj ⟨acc,m⟩ ⟨hm,hn,hr⟩;have hm:Zcb m:=hm;have nM:(Zbi m).length<=3000:=hm.text;have hn:acc.length+m.length<=3001:=hn;have j5:=hm.1;have hr:(Zdx (m.length+1) acc m).then (kF s vs as_)=r:=hr;simp only[Zdx] at hr;cases m with
   | nil =>refine ⟨λh=>absurd (show (0:Int) > 0 from h) (by decide),λ_=>?_⟩;rw[if_pos rfl] at hr;have hr:.ok ⟨s,vs,as_,acc⟩ []=r:=hr;exact ⟨rfl,ZbE (uD ⟨s,vs,as_,acc⟩) [] 0 [.old 0] rfl rfl rfl (.inl rfl) rfl rfl rfl (by rw[<- hr];rfl)⟩
   | cons t0 m0 =>
    have hr:(match ZaE [111,112,101,110] (t0 :: m0) with | some l1=>(Zip true l1).then λf l2=>Zdx (t0 :: m0).length (acc++[f]) l2 | none=>(ZaH [102,117,110,99] (t0 :: m0)).then λ_ l1=>(Zip false l1).then λf l2=>Zdx (t0 :: m0).length (acc++[f]) l2:PR (List Fun)).then (kF s vs as_)=r:=hr;have lV:(t0 :: m0).length=m0.length+1:=rfl;rw[lV] at hn j5;have bo:=Zbv (L:=L) (t0 :: m0) 0 [111,112,101,110] (by omega);have step:∀(o:Bool) m1,m1.length<=m0.length->Zcb m1->((Zip o m1).then λf l2=>Zdx (t0 :: m0).length (acc++[f]) l2).then (kF s vs as_)=r->∀x m2,Zip o m1=.ok x m2->(Zcb m2/\(acc++[x]).length+m2.length<=3001/\(Zdx (m2.length+1) (acc++[x]) m2).then (kF s vs as_)=r)/\m2.length < (t0 :: m0).length:=λo m1 hle bz hr x m2 he=>by have hs:=ZhV _ _ _ _ he;rw[he] at hr;refine ⟨⟨bz.next (ZhV o) (ZuE o) he,by simp;omega,?_⟩,by omega⟩;rw[<- hr,Zml (m2.length+1) (acc++[x]) m2 (t0 :: m0).length (by omega) (by omega)];rfl
    refine ⟨λ_=>?_,λh=>absurd (show (((t0 :: m0).map Tok.g).length:Int) > 0 by rw[Yaa,lV];omega) h⟩;cases ht:ZaE [111,112,101,110] (t0 :: m0) with
    | some m1 =>
     rw[ht] at bo hr;have hr:((Zip true m1).then λf l2=>Zdx (t0 :: m0).length (acc++[f]) l2).then (kF s vs as_)=r:=hr;have bz:=hm.take ht;have hle:m1.length<=m0.length:=by have:=(Zay ht).2;omega
     have po:=ZuF (L:=L) true m1 bz;refine Zag [0] Zas rfl rfl ⟨rfl,.inl rfl,.inl rfl,rfl⟩ bo (λd' h' hq=>?_) (λd' h' hq=>by cases hq);injection hq with e1 e2;subst e1;subst e2;refine ⟨some 60002,(.lead 0 (.lead 2 (.lead 3 (.two (.run 1 (.run 4 (.run 5 (.run 6 (.run 7 (.run 8 .done)))))) (.run 4 (.two (.run 1 (.run 5 (.run 6 (.run 7 (.run 8 .done))))) (.run 5 (.run 1 (.run 6 (.run 7 (.run 8 .done))))))))))),rfl,?_⟩;refine ⟨?_,?_⟩
     ·refine Zag [0] ZqN rfl rfl ⟨rfl,.inl rfl,.inl rfl,rfl⟩ po (λd' h' hq=>?_) (λd' h' hq=>by obtain ⟨e,l',k',hr,ae,rfl,rfl⟩:=Zri (λe he=>show r=.bad e by rw[<- hr];show ((Zip true m1).then _).then _=_;rw[he];rfl) hq;exact ⟨rfl,ZbE (Zcu e) l' k' [.old 0] rfl rfl rfl (.inl rfl) rfl rfl rfl (by rw[hr];exact ⟨l',k',ae,rfl⟩)⟩);obtain ⟨x,m2,ay,rfl,rfl⟩:=Zaq hq;refine ⟨[[.str x.name,.bool x.isOpen,.sl 1 (x.params.map ZaT),.sl 5 (x.body.map Stmt.g)]],rfl,rfl,⟨rfl,rfl,rfl,rfl,trivial⟩,?_⟩;refine ⟨⟨by simp only[maxLen,List.length_cons,List.length_nil,Yaa];omega,by simp only[List.length_cons,List.length_nil,Yaa];omega⟩,?_⟩;exact aj _ _ _ ⟨(acc++[x],m2),[.old 0,.old 1,.old 2,.old 5],⟨rfl,.inr ⟨⟨rfl,.inl rfl⟩,⟨rfl,.inl rfl⟩,⟨rfl,.inl rfl⟩,⟨by rw[Yaf,Yan,YaI,Fun.g,Stmt.gs_map],rfl,rfl⟩,trivial⟩,.inr ⟨lk rfl,lk rfl,lk rfl,trivial⟩,rfl⟩,(step true m1 hle bz hr x m2 ay).1,(step true m1 hle bz hr x m2 ay).2⟩
     ·refine Zag [0] ZqN rfl rfl ⟨rfl,.inl rfl,.inl rfl,rfl⟩ po (λd' h' hq=>?_) (λd' h' hq=>by obtain ⟨e,l',k',hr,ae,rfl,rfl⟩:=Zri (λe he=>show r=.bad e by rw[<- hr];show ((Zip true m1).then _).then _=_;rw[he];rfl) hq;exact ⟨rfl,ZbE (Zcu e) l' k' [.old 0] rfl rfl rfl (.inl rfl) rfl rfl rfl (by rw[hr];exact ⟨l',k',ae,rfl⟩)⟩);obtain ⟨x,m2,ay,rfl,rfl⟩:=Zaq hq;refine ⟨?_,?_⟩
      ·refine ⟨[[.str x.name,.bool x.isOpen,.sl 1 (x.params.map ZaT),.sl 5 (x.body.map Stmt.g)]],rfl,rfl,⟨rfl,rfl,rfl,rfl,trivial⟩,?_⟩;refine ⟨⟨by simp only[maxLen,List.length_cons,List.length_nil,Yaa];omega,by simp only[List.length_cons,List.length_nil,Yaa];omega⟩,?_⟩;exact aj _ _ _ ⟨(acc++[x],m2),[.old 0,.old 1,.old 2,.old 5],⟨rfl,.inr ⟨⟨rfl,.inl rfl⟩,⟨rfl,.inl rfl⟩,⟨rfl,.inl rfl⟩,⟨by rw[Yaf,Yan,YaI,Fun.g,Stmt.gs_map],rfl,rfl⟩,trivial⟩,.inr ⟨lk rfl,lk rfl,lk rfl,trivial⟩,rfl⟩,(step true m1 hle bz hr x m2 ay).1,(step true m1 hle bz hr x m2 ay).2⟩
      ·refine ⟨[[.str x.name,.bool x.isOpen,.sl 1 (x.params.map ZaT),.sl 5 (x.body.map Stmt.g)]],rfl,rfl,⟨rfl,rfl,rfl,rfl,trivial⟩,?_⟩;refine ⟨⟨by simp only[maxLen,List.length_cons,List.length_nil,Yaa];omega,by simp only[List.length_cons,List.length_nil,Yaa];omega⟩,?_⟩;exact aj _ _ _ ⟨(acc++[x],m2),[.old 0,.old 1,.old 2,.old 5],⟨rfl,.inr ⟨⟨rfl,.inl rfl⟩,⟨rfl,.inl rfl⟩,⟨rfl,.inl rfl⟩,⟨by rw[Yaf,Yan,YaI,Fun.g,Stmt.gs_map],rfl,rfl⟩,trivial⟩,.inr ⟨lk rfl,lk rfl,lk rfl,trivial⟩,rfl⟩,(step true m1 hle bz hr x m2 ay).1,(step true m1 hle bz hr x m2 ay).2⟩
    | none =>
     rw[ht] at bo hr;have hr:((ZaH [102,117,110,99] (t0 :: m0)).then λ_ l1=>(Zip false l1).then λf l2=>Zdx (t0 :: m0).length (acc++[f]) l2).then (kF s vs as_)=r:=hr;have fS:=Zck (L:=L) (t0 :: m0) 0 [102,117,110,99] (by omega);refine Zag [0] Zas rfl rfl ⟨rfl,.inl rfl,.inl rfl,rfl⟩ bo (λd' h' hq=>?_) (λd' h' hq=>by cases hq);injection hq with e1 e2;subst e1;subst e2;refine Zag [0] Zdb rfl rfl ⟨rfl,.inl rfl,.inl rfl,rfl⟩ fS (λd' h' hq=>?_) (λd' h' hq=>by obtain ⟨e,l',k',hr,ae,rfl,rfl⟩:=Zri (λe he=>show r=.bad e by rw[<- hr];show ((ZaH [102,117,110,99] (t0 :: m0)).then _).then _=_;rw[he];rfl) hq;exact ⟨rfl,ZbE (Zcu e) l' k' [.old 0] rfl rfl rfl (.inl rfl) rfl rfl rfl (by rw[hr];exact ⟨l',k',ae,rfl⟩)⟩);obtain ⟨_,m1,fK,rfl,rfl⟩:=Zaq hq;have hle:m1.length<=m0.length:=by have:=ZaA _ _ _ _ fK;omega
     rw[fK] at hr;have hr:((Zip false m1).then λf l2=>Zdx (t0 :: m0).length (acc++[f]) l2).then (kF s vs as_)=r:=hr;have bz:=hm.next (ZaA _) (ZaK _) fK;have po:=ZuF (L:=L) false m1 bz;refine ⟨some 60002,(.lead 0 (.lead 2 (.lead 3 (.two (.run 1 (.run 4 (.run 5 (.run 6 (.run 7 (.run 8 .done)))))) (.run 4 (.two (.run 1 (.run 5 (.run 6 (.run 7 (.run 8 .done))))) (.run 5 (.run 1 (.run 6 (.run 7 (.run 8 .done))))))))))),rfl,?_⟩;refine ⟨?_,?_⟩
     ·refine Zag [0] ZqN rfl rfl ⟨rfl,.inl rfl,.inl rfl,rfl⟩ po (λd' h' hq=>?_) (λd' h' hq=>by obtain ⟨e,l',k',hr,ae,rfl,rfl⟩:=Zri (λe he=>show r=.bad e by rw[<- hr];show ((Zip false m1).then _).then _=_;rw[he];rfl) hq;exact ⟨rfl,ZbE (Zcu e) l' k' [.old 0] rfl rfl rfl (.inl rfl) rfl rfl rfl (by rw[hr];exact ⟨l',k',ae,rfl⟩)⟩);obtain ⟨x,m2,ay,rfl,rfl⟩:=Zaq hq;refine ⟨[[.str x.name,.bool x.isOpen,.sl 1 (x.params.map ZaT),.sl 5 (x.body.map Stmt.g)]],rfl,rfl,⟨rfl,rfl,rfl,rfl,trivial⟩,?_⟩;refine ⟨⟨by simp only[maxLen,List.length_cons,List.length_nil,Yaa];omega,by simp only[List.length_cons,List.length_nil,Yaa];omega⟩,?_⟩;exact aj _ _ _ ⟨(acc++[x],m2),[.old 0,.old 1,.old 2,.old 5],⟨rfl,.inr ⟨⟨rfl,.inl rfl⟩,⟨rfl,.inl rfl⟩,⟨rfl,.inl rfl⟩,⟨by rw[Yaf,Yan,YaI,Fun.g,Stmt.gs_map],rfl,rfl⟩,trivial⟩,.inr ⟨lk rfl,lk rfl,lk rfl,trivial⟩,rfl⟩,(step false m1 hle bz hr x m2 ay).1,(step false m1 hle bz hr x m2 ay).2⟩
     ·refine Zag [0] ZqN rfl rfl ⟨rfl,.inl rfl,.inl rfl,rfl⟩ po (λd' h' hq=>?_) (λd' h' hq=>by obtain ⟨e,l',k',hr,ae,rfl,rfl⟩:=Zri (λe he=>show r=.bad e by rw[<- hr];show ((Zip false m1).then _).then _=_;rw[he];rfl) hq;exact ⟨rfl,ZbE (Zcu e) l' k' [.old 0] rfl rfl rfl (.inl rfl) rfl rfl rfl (by rw[hr];exact ⟨l',k',ae,rfl⟩)⟩);obtain ⟨x,m2,ay,rfl,rfl⟩:=Zaq hq;refine ⟨?_,?_⟩
      ·refine ⟨[[.str x.name,.bool x.isOpen,.sl 1 (x.params.map ZaT),.sl 5 (x.body.map Stmt.g)]],rfl,rfl,⟨rfl,rfl,rfl,rfl,trivial⟩,?_⟩;refine ⟨⟨by simp only[maxLen,List.length_cons,List.length_nil,Yaa];omega,by simp only[List.length_cons,List.length_nil,Yaa];omega⟩,?_⟩;exact aj _ _ _ ⟨(acc++[x],m2),[.old 0,.old 1,.old 2,.old 5],⟨rfl,.inr ⟨⟨rfl,.inl rfl⟩,⟨rfl,.inl rfl⟩,⟨rfl,.inl rfl⟩,⟨by rw[Yaf,Yan,YaI,Fun.g,Stmt.gs_map],rfl,rfl⟩,trivial⟩,.inr ⟨lk rfl,lk rfl,lk rfl,trivial⟩,rfl⟩,(step false m1 hle bz hr x m2 ay).1,(step false m1 hle bz hr x m2 ay).2⟩
      ·refine ⟨[[.str x.name,.bool x.isOpen,.sl 1 (x.params.map ZaT),.sl 5 (x.body.map Stmt.g)]],rfl,rfl,⟨rfl,rfl,rfl,rfl,trivial⟩,?_⟩;refine ⟨⟨by simp only[maxLen,List.length_cons,List.length_nil,Yaa];omega,by simp only[List.length_cons,List.length_nil,Yaa];omega⟩,?_⟩;exact aj _ _ _ ⟨(acc++[x],m2),[.old 0,.old 1,.old 2,.old 5],⟨rfl,.inr ⟨⟨rfl,.inl rfl⟩,⟨rfl,.inl rfl⟩,⟨rfl,.inl rfl⟩,⟨by rw[Yaf,Yan,YaI,Fun.g,Stmt.gs_map],rfl,rfl⟩,trivial⟩,.inr ⟨lk rfl,lk rfl,lk rfl,trivial⟩,rfl⟩,(step false m1 hle bz hr x m2 ay).1,(step false m1 hle bz hr x m2 ay).2⟩
end ZN
namespace Go.Dm
open Go Go.Eng Go.RowKit
def ZDc (T:Tab) (rs:List ResultVar) (Q:Out->Prop) (c:Nat) (tF:TypeId) (d:Deferred):Post
 | .normal,⟨env,h,df⟩ | .ret,⟨env,h,df⟩=>df=[d]/\(∃j y t,env c=.ptr j 0/\h[j]?=some (.blk [.g (.int y)] t))/\match ZiU T ⟨env,h,[]⟩ rs with | some ds=>Zby Q h (Zd6 ds) | none=>False
 | .pan x,⟨env,h,df⟩=>df=[d]/\∃v,x=.iface tF (.agg [.g (.int v)])/\∃j y t,env c=.ptr j 0/\h[j]?=some (.blk [.g (.int y)] t)/\match ZiU T ⟨env,h.set j (.blk [.g (.int v)] t),[]⟩ rs with | some ds=>Zby Q (h.set j (.blk [.g (.int v)] t)) (Zd6 ds) | none=>False
 | .exit _,_=>False
section
variable {P:Program} {T:Tab} {F:FuncId->Bool} {G:Gl}
theorem Zzv (w:World) (o:Go.Obj):Fr (λ_=>False) w (w.alloc o):=by
 refine ⟨rfl,rfl,rfl,?_,λk hk _=>?_⟩
 ·rw[World.size_alloc];omega
 ·simp only[World.alloc,Array.getElem?_push];rw[if_neg (by omega)]
theorem ZuJ (w:World) (g:Nat) (x:Value):Fr (λk=>k=g) w (w.setCell ⟨g,0,none⟩ x):=by
 refine ⟨rfl,rfl,rfl,?_,λk hk hn=>?_⟩
 ·rw[World.size_setCell];omega
 ·exact Below.heap_setCell _ _ _ _ hn
theorem RelD.set_int {C:Ctx} {h:Zae} {β:Nat->Value} {V:Nat->Prop} {w:World} (hr:RelD C h β V w) {i:Nat} {y:Int} {t:TypeId} (hi:h[i]?=some (.blk [.g (.int y)] t)) {g:Nat} (hg:β i=.pointer (some ⟨g,0,none⟩)) (v:Int) :
  RelD C (h.set i (.blk [.g (.int v)] t)) β V (w.setCell ⟨g,0,none⟩ (.int .i64 v))/\ZaI V w V (w.setCell ⟨g,0,none⟩ (.int .i64 v)):=by
 obtain ⟨g',us,hb,l8,aU⟩:=hr.obj i _ hi;have e:g'=g:=by rw[hb] at hg;simpa using hg
 subst e;simp only[Zaa,Zab,ZaS] at aU;obtain ⟨v',kt,rfl,rfl,rfl⟩:=aU;have pK:¬V g':=hr.vout i _ g' hi rfl (by rw[hb];rfl);have hm:ZaI V w V (w.setCell ⟨g',0,none⟩ (.int .i64 v)):=λk hk=>⟨hk,(ZuJ w g' _).block k (hr.vlt k hk) (λe=>pK (e▸hk))⟩;refine ⟨hr.upd (G:=λk=>k=g') (ZuJ w g' _) i (.blk [.g (.int v)] t) (by simp[(List.getElem?_eq_some_iff.1 hi).1]) (ZoV (λj o k hj ho hl hk lY=>?_)) (Zc4 hi trivial) (λk hk=>⟨i,_,hi,rfl,by subst hk;rw[hb];rfl⟩) (λhm=>?_) (λk hk=>.inr ⟨i,_,hi,rfl,hk,.inl rfl⟩),hm⟩
 ·subst lY;exact hj (hr.sep j i o _ k ho hl hi rfl hk (by rw[hb];rfl))
 ·exact ⟨g',[.int .i64 v],hb,one_setCell l8,by simp only[Zaa,Zab,ZaS];exact ⟨_,_,rfl,rfl,rfl⟩⟩
theorem ZBk (hT:TabOk P T) (hF:∀g,F g=true->fnOk P g=true) (hM:Mix P) {f:FuncId} {fn:Func} {r0 rd rest:Code} (hf:P.funcs[f]?=some fn) (hb:fn.body=some (.seq r0 (.seq rd rest))) (N:Nat) (hN:fn.ntmps=N) (cJ:Zhx N (ZbK r0)=true) (bM:Zhx N (ZbK rest)=true)
  (c:Nat) (rs:List ResultVar) (ca:fn.results.toList=rs) (hc:inL (ZbK rest) c=false) (Q:Out->Prop) (args:List D) (bn:Nat.ble args.length N=true) (tF:TypeId) (g:FuncId)
  (dQ:∀(Q:Exit->Act->World->Prop) (a:Act) (w:World),Q .normal { a with defers:={ target:=.fn (.func g) #[],args:=#[a.tmps.getD c undef] } :: a.defers } w->rd.wp P Q a w)
  (hinv:∀x w,(invoke (.fn (.func g) #[]) #[x]).run P w=.ok (.enter g #[x]) w)
  (idle:∀p w,CallsD P g #[.pointer (some p)] .returning w λe u' w'=>e=.returned (.tuple #[])/\u'=.returning/\w'=w)
  (fU:∀(p:Addr) (x e:Int) (w:World),(∀o,(w.alloc o).cell? p=some (.int .i64 x))->(∀o,(w.alloc o).frozen? p=false)->CallsD P g #[.pointer (some p)] (.panicking [{ v:=.iface tF (.agg #[.int .i64 e]),recovered:=false }]) w λen u' w'=>en=.returned (.tuple #[])/\u'=.panicking [{ v:=.iface tF (.agg #[.int .i64 e]),recovered:=true }]/\∃o,w'=(w.alloc o).setCell p (.int .i64 e))
  (h:vc P T F G N r0 ⟨Zdz args,[],[]⟩ (ZAl P T F G N rest (ZDc T rs Q c tF))):CT P G f args Q:=by
 subst hN;intro w V aa hV hG an;have hlen:=an.len;have bn:=Yau bn;refine calls_of_wp_defers hf hb ?_;have dS:∀(ds:List D) (vs:List Value),Zaa [] (λ_=>undef) V w ds vs->∀i,Zab [] (λ_=>undef) V w (nth .any ds i) (vs.getD i undef):=by
  intro ds
  induction ds with
  | nil=>intro vs _ i;simp only[nth,Zab]
  | cons d ds ih =>
   intro vs h i;simp only[Zaa] at h;obtain ⟨v,us,rfl,h1,h2⟩:=h;cases i with
   | zero=>simpa [nth] using h1
   | succ i=>simpa [nth] using ih us h2 i
 have hr:Rel ⟨w,λ_=>False,V,G⟩ fn.ntmps ⟨Zdz args,[],[]⟩ { tmps:=(⟨aa⟩:Array Value)++Array.replicate (fn.ntmps - (⟨aa⟩:Array Value).size) undef,defers:=[] } w:=by
  refine ⟨by simp;omega,rfl,λ_=>undef,V,Zhq hV hG,λi=>?_⟩;have h1:=dS args aa an i;have h2:((⟨aa⟩:Array Value)++Array.replicate (fn.ntmps - (⟨aa⟩:Array Value).size) undef).getD i undef=aa.getD i undef:=by
   rw[Yao,YaG];by_cases hi:i < aa.length
   ·rw[Yba (by simpa using hi)];simp
   ·rw[Ybk (by simp;omega),Ya9 (by omega)];rw[Ya0];split<;>rfl
  rw[h2];exact h1
 have lT:=ZcA cJ;have lS:=ZcA bM;refine wp_seq (Code.wp_mono ?_ (ZfT hT hF hM.ok r0 (ZbK r0) lT (λk hk=>ZbO.2 hk) ⟨w,λ_=>False,V,G⟩ _ _ w _ h hr));rintro e a1 w1 ⟨_,x,aw,hq,hx⟩;cases x with
 | exit _=>exact hq.elim
 | ret=>exact hq.elim
 | pan _=>exact hq.elim
 | normal =>
 cases e<;>try exact hx.elim
 obtain ⟨ah,bf,β1,V1,dE,ir⟩:=hx;obtain ⟨mC,h1,xX⟩:=aw;obtain ⟨rfl,hq⟩:=hq;refine wp_seq (dQ _ a1 w1 ?_);have cS:Rel ⟨w,λ_=>False,V,G⟩ fn.ntmps ⟨mC,h1,[{ target:=.fn (.func g) #[],args:=#[a1.tmps.getD c undef] }]⟩ { a1 with defers:={ target:=.fn (.func g) #[],args:=#[a1.tmps.getD c undef] } :: a1.defers } w1 :=
  ⟨ah,by rw[bf],β1,V1,dE,ir⟩
 refine Code.wp_mono ?_ (ZfT hT hF hM.ok rest (ZbK rest) lS (λk hk=>ZbO.2 hk) ⟨w,λ_=>False,V,G⟩ _ _ w1 _ (hq _) cS);rintro e a2 w2 ⟨bS,x,⟨b8,h2,gN⟩,jU,fq⟩;have gM:a2.tmps.getD c undef=a1.tmps.getD c undef:=bS c hc;have ptr:∀{β2:Nat->Value} {V2:Nat->Prop} {j:Nat} {y:Int} {t:TypeId},RelD ⟨w,λ_=>False,V,G⟩ h2 β2 V2 w2->ZbS ⟨b8,h2,gN⟩ β2 V2 w2 a2->b8 c=.ptr j 0->h2[j]?=some (.blk [.g (.int y)] t)->∃g',β2 j=.pointer (some ⟨g',0,none⟩)/\a1.tmps.getD c undef=.pointer (some ⟨g',0,none⟩):=by intro β2 V2 j y t ab he hj hh;have hp:=he c;rw[show (⟨b8,h2,gN⟩:St).env c=b8 c from rfl,hj,gM] at hp;simp only[Zab,hh] at hp;obtain ⟨g',au,hv⟩:=hp;exact ⟨g',au,hv⟩
 have fin:∀{w3:World} {β3:Nat->Value} {V3:Nat->Prop} {h3:Zae} {env3:Env} {df3:List Deferred},RelD ⟨w,λ_=>False,V,G⟩ h3 β3 V3 w3->ZbS ⟨env3,h3,df3⟩ β3 V3 w3 a2->(match ZiU T ⟨env3,h3,[]⟩ rs with | some ds=>Zby Q h3 (Zd6 ds) | none=>False) ->
   Leaves P fn a2.tmps (ZpO G Q V w) [] .returning w3:=by
  intro w3 β3 V3 h3 env3 df3 ab he hq;cases bN:ZiU T ⟨env3,h3,[]⟩ rs with
  | none=>rw[bN] at hq;exact hq.elim
  | some ds =>rw[bN] at hq;rw[<- ca] at bN;obtain ⟨v',cF,cu⟩:=Zcg (st:=⟨env3,h3,[]⟩) hT ab he bN;obtain ⟨src,d',h',ht,hQ⟩:=hq;obtain ⟨r1,r2⟩:=ht.use ab cu;simp only[Zaa] at r2;obtain ⟨uE,us,e,r3,_⟩:=r2;injection e with e1 e2;subst e1;exact ⟨v',cF,d',h',_,_,hQ,r1,r3⟩
 have ret:∀{bR:St},bR=⟨b8,h2,gN⟩->Rel ⟨w,λ_=>False,V,G⟩ fn.ntmps bR a2 w2->(gN=[{ target:=.fn (.func g) #[],args:=#[a1.tmps.getD c undef] }]/\(∃j y t,b8 c=.ptr j 0/\h2[j]?=some (.blk [.g (.int y)] t))/\match ZiU T ⟨b8,h2,[]⟩ rs with | some ds=>Zby Q h2 (Zd6 ds) | none=>False)->Leaves P fn a2.tmps (ZpO G Q V w) a2.defers .returning w2:=by rintro _ rfl ⟨_,fO,β2,V2,br,cz⟩ ⟨fe,⟨j,y,t,hj,hh⟩,hr⟩;obtain ⟨g',au,hp⟩:=ptr br cz hj hh;rw[fO];show Leaves P fn a2.tmps _ gN .returning w2;rw[fe,hp];refine leaves_cons (by simp) (hinv _ _) ((idle _ w2).mono ?_);rintro e u' w' ⟨rfl,rfl,rfl⟩;exact fin (env3:=b8) br cz hr
 cases x with
 | exit _=>exact jU.elim
 | normal=>cases e<;>first | exact fq.elim | exact ret rfl fq jU
 | ret=>cases e<;>first | exact fq.elim | exact ret rfl fq jU
 | pan d =>
  cases e<;>try exact fq.elim
  obtain ⟨t,u,rfl,_,fO,β2,V2,br,cz,hd⟩:=fq;obtain ⟨fe,v,rfl,j,y,t',hj,hh,hr⟩:=jU;obtain ⟨g',au,hp⟩:=ptr br cz hj hh;simp only[Zab] at hd;obtain ⟨u',e1,us,rfl,ft⟩:=hd;injection e1 with e1 e2;subst e1;subst e2;simp only[Zaa,Zab,ZaS] at ft;obtain ⟨v',kt,rfl,rfl,rfl⟩:=ft;show Leaves P fn a2.tmps _ a2.defers (.panicking _) w2;rw[fO];show Leaves P fn a2.tmps _ gN (.panicking _) w2;rw[fe,hp];obtain ⟨c1,c2,_⟩:=ZmA br hh au (Go.Obj.cells #[] 0 (0,0)) v;refine leaves_cons (by simp) (hinv _ _) ((fU _ y v w2 c1 c2).mono ?_);rintro e u' w' ⟨rfl,rfl,o,rfl⟩;have k1:=(Zng br (Zzv w2 o));obtain ⟨k2,k3⟩:=k1.1.set_int hh au v;exact fin (env3:=b8) (df3:=[]) k2 (λk=>Zab.mono (Zc4 hh (o':=.blk [.g (.int v)] t') trivial) k3 _ _ (Zab.mono (LeH.refl _ _) k1.2 _ _ (cz k))) hr
end
end Go.Dm
namespace ZN
open Go Go.Dm Go.Eng Barb
abbrev u0:Barb.Unit:=⟨[],[],[],[]⟩
def ZxH:PR Barb.Unit->D
 | .ok u _=>.tuple [.agg u.d,.g (.int 0)]
 | .bad e=>.tuple [.agg u0.d,.g (.int e)]
theorem ZwC {N:Nat->Bool} (e:Int):ZiI N 4 (.tuple [.agg [.g (.str []),.nils,.nils,.nils],.g (.int e)]) (ZxH (.bad e)):=.inr ⟨.inr ⟨lk rfl,Zel,Zel,Zel,trivial⟩,lk rfl,trivial⟩
set_option maxRecDepth 20000 in
set_option maxHeartbeats 1000000 in
theorem ZtZ {L:Lv} (l:List Tok) (hl:Zcb l):CT Tryz.prog (gl L) 21 [.g (.sl 2 (l.map Tok.g))] (Is (ZxH (Zex l))):=by
 have hU:=ZvG (L:=L) l hl;refine ZBk hT hF hM Tryz.func21 rfl 8 rfl (by kernel_rfl) (by kernel_rfl) 3 [.cell 2 37,.cell 3 38] rfl (by kernel_rfl) _ [.g (.sl 2 (l.map Tok.g))] rfl 151 35 (λQ a w hq=>?_) (λx w=>?_) Zke Zfl ?_
 ·apply wp_region;simp[wpOps,go_sem];exact .inl (by simpa using hq)
 ·simp[go_sem]
 refine ⟨rfl,λd=>?_⟩;refine Zag [2] Zyi rfl rfl ⟨rfl,.inl rfl,.inl rfl,rfl⟩ hU (λd' h' hq=>?_) (λd' h' hq=>?_)
 ·obtain ⟨u,l',he,rfl,rfl⟩:=Zaq hq;rw[he];exact ⟨rfl,⟨_,_,_,rfl,rfl⟩,ZbN (.inl rfl)⟩
 ·obtain ⟨e,l',k',he,ae,rfl,rfl⟩:=ZaM hq;rw[he];exact ⟨rfl,e,rfl,_,_,_,rfl,rfl,ZbN (.inr (ZwC e))⟩
def Gd {α:Type} (I:α->Prop):PR α->Prop
 | .ok a _=>I a
 | .bad e=>e=4\/e=1
theorem Gd.then {α β:Type} {J:α->Prop} {I:β->Prop} {r:PR α} {k:α->List Tok->PR β} (h:Gd J r) (hk:∀a l,r=.ok a l->J a->Gd I (k a l)):Gd I (r.then k):=by
 cases r with
 | ok a l=>exact hk a l rfl h
 | bad e=>exact h
theorem Zda (s:Str) (l:List Tok):Gd (λ_=>True) (ZaH s l):=by
 unfold ZaH;split
 ·trivial
 ·exact .inl rfl
theorem Zfx {l:List Tok} (h:Zcb l):Gd (λs:Str=>s.length<=3000) (Zbc l):=by
 unfold Zbc;split
 ·exact h.text
 ·exact .inl rfl
theorem ZAU (s:Str):I64 (Zt9 s):=by
 unfold I64;by_cases h:ZnG s
 ·have h':=h;obtain ⟨n,hn,e⟩:=h;rw[e,(Zha hn).1];omega
 ·rw[(ZlR h).1];omega
theorem ZxM (l:List Tok):Gd I64 (Zff l):=by
 unfold Zff;split
 ·exact ZAU _
 ·exact .inl rfl
theorem ZCa (s:Str):I64 (opP s):=by
 unfold opP I64;rcases Zb0 (λx=>s=x) ZlP with ⟨h,_⟩ | ⟨i,hi,h,_⟩
 ·omega
 ·have:ZlP.length=10:=rfl;omega
theorem Zuc {ex:List Tok->PR Barb.Expr} (hx:∀l,Zcb l->Gd Expr.I (ex l)) (hs:Shr ex) (hm:Cl ex):∀(n:Nat) (acc:List Barb.Expr) (l:List Tok),Zcb l->(∀x∈acc,Expr.I x)->acc.length+l.length<=3001->Gd (λr=>(∀x∈r,Expr.I x)/\r.length<=3001) (ZdR ex n acc l)
 | 0,_,_,_,_,_=>.inl rfl
 | n+1,acc,l,hl,ha,hn=>by
  simp only[ZdR];split
  ·rename_i l1 h1;have ep:=(Zay h1).2;refine (hx l1 (hl.take h1)).then (λb l2 e hb=>?_);have:=hs _ _ _ e;refine Zuc hx hs hm n _ _ ((hl.take h1).next hs hm e) (λx de=>?_) (by simp;omega);rcases Yar.1 de with h | h
   ·exact ha x h
   ·rw[Yaz.1 h];exact hb
  ·refine (Zda _ _).then (λ_ l1 _ _=>⟨ha,by omega⟩)
theorem Zui {ex:List Tok->PR Barb.Expr} (hx:∀l,Zcb l->Gd Expr.I (ex l)) (hs:Shr ex) (hm:Cl ex) (l:List Tok) (hl:Zcb l):Gd (λr=>(∀x∈r,Expr.I x)/\r.length<=3001) (ZcZ ex l):=by
 unfold ZcZ;split
 ·exact ⟨by simp,by simp⟩
 ·refine (hx l hl).then (λa l1 e ha=>?_);have h1:=hs _ _ _ e;have h2:=hl.1;exact Zuc hx hs hm _ _ _ (hl.next hs hm e) (by simpa using ha) (by simp;omega)
theorem ZAa {k n:Int} {of s:Str} {args:List Barb.Expr} (hk:I64 k) (hn:I64 n) (ho:of.length<=3000) (hs:s.length<=3000) (ha:(∀x∈args,Expr.I x)/\args.length<=3001):Expr.I (.mk k n of s args) :=
 .mk hk hn (by unfold maxLen;omega) (by unfold maxLen;omega) (by have:=ha.2;omega) ha.1
theorem Zyo {ex:List Tok->PR Barb.Expr} (hx:∀l,Zcb l->Gd Expr.I (ex l)) (hs:Shr ex) (hm:Cl ex) (l:List Tok) (hl:Zcb l):Gd Expr.I (Zfn ex l):=by
 have no:(∀x∈([]:List Barb.Expr),Expr.I x)/\([]:List Barb.Expr).length<=3001:=⟨by simp,by simp⟩;unfold Zfn;split
 ·rename_i l1 h1;have o1:=hl.take h1;refine (hx l1 o1).then (λa l2 e2 ha=>?_);have o2:=o1.next hs hm e2;split
  ·exact .inl rfl
  ·refine (hx _ o2.tail).then (λb l3 e3 hb=>?_);refine (Zda _ _).then (λ_ l4 _ _=>?_);exact ZAa (by unfold I64;omega) (ZCa _) (by simp) (by simp) ⟨by simp[ha,hb],by simp⟩
 ·split
  ·exact (ZxM l).then (λn l1 _ hn=>ZAa (by unfold I64;omega) hn (by simp) (by simp) no)
  ·refine (Zfx hl).then (λs l1 e1 bM=>?_);have o1:=hl.next Zau Za8 e1;split
   ·rename_i l2 h2;refine (hx l2 (o1.take h2)).then (λa l3 e3 ha=>?_);exact (Zda _ _).then (λ_ l4 _ _=>ZAa (by unfold I64;omega) (by unfold I64;omega) (by simp) bM ⟨by simpa using ha,by simp⟩)
   ·split
    ·rename_i l2 h2;exact (Zui hx hs hm l2 (o1.take h2)).then (λxs l3 e3 ha=>ZAa (by unfold I64;omega) (by unfold I64;omega) (by simp) bM ha)
    ·split
     ·rename_i l2 h2;have o2:=o1.take h2;refine (Zfx o2).then (λg l3 e3 hg=>?_);have o3:=o2.next Zau Za8 e3;refine (Zda _ _).then (λ_ l4 e4 _=>?_);exact (Zui hx hs hm l4 (o3.next (ZaA _) (ZaK _) e4)).then (λxs l5 e5 ha=>ZAa (by unfold I64;omega) (by unfold I64;omega) bM hg ha)
     ·exact ZAa (by unfold I64;omega) (by unfold I64;omega) (by simp) bM no
theorem ZuT:∀(f:Nat) (l:List Tok),Zcb l->Gd Expr.I (Zat f l)
 | 0,_,_=>.inr rfl
 | f+1,l,h=>Zyo (ZuT f) (ZbY f) (Zcn f) l h
theorem ZpW {st:List Tok->PR Barb.Stmt} (hx:∀l,Zcb l->Gd Stmt.I (st l)) (hs:Shr st) (hm:Cl st):∀(n:Nat) (acc:List Barb.Stmt) (l:List Tok),Zcb l->(∀x∈acc,Stmt.I x)->acc.length+l.length<=3001->Gd (λr=>(∀x∈r,Stmt.I x)/\r.length<=3001) (Zaz st n acc l)
 | 0,_,_,_,_,_=>.inl rfl
 | n+1,acc,l,hl,ha,hn=>by
  simp only[Zaz];split
  ·exact ⟨ha,by omega⟩
  ·refine (hx l hl).then (λb l2 e hb=>?_);have:=hs _ _ _ e;refine ZpW hx hs hm n _ _ (hl.next hs hm e) (λx de=>?_) (by simp;omega);rcases Yar.1 de with h | h
   ·exact ha x h
   ·rw[Yaz.1 h];exact hb
theorem Zi8 {st:List Tok->PR Barb.Stmt} (hx:∀l,Zcb l->Gd Stmt.I (st l)) (hs:Shr st) (hm:Cl st) (l:List Tok) (hl:Zcb l):Gd (λr=>(∀x∈r,Stmt.I x)/\r.length<=3001) (Za5 st l):=by unfold Za5;refine (Zda _ _).then (λ_ l1 e1 _=>?_);have o1:=hl.next (ZaA _) (ZaK _) e1;exact ZpW hx hs hm _ _ _ o1 (by simp) (by have:=o1.1;simp;omega)
theorem ZBC {k:Int} {s:Str} {xs:List Barb.Expr} {b e:List Barb.Stmt} (hk:I64 k) (hs:s.length<=3000) (hx:(∀x∈xs,Expr.I x)/\xs.length<=3001) (hb:(∀x∈b,Stmt.I x)/\b.length<=3001) (he:(∀x∈e,Stmt.I x)/\e.length<=3001):Stmt.I (.mk k s xs b e) :=
 .mk hk (by unfold maxLen;omega) (by have:=hx.2;omega) (by have:=hb.2;omega) (by have:=he.2;omega) hx.1 hb.1 he.1
theorem ZCp {st:List Tok->PR Barb.Stmt} {ex:List Tok->PR Barb.Expr} (hx:∀l,Zcb l->Gd Expr.I (ex l)) (qJ:Shr ex) (re:Cl ex) (ht:∀l,Zcb l->Gd Stmt.I (st l)) (hs:Shr st) (hm:Cl st) (l:List Tok) (hl:Zcb l):Gd Stmt.I (doP st ex l):=by
 have no:(∀x∈([]:List Barb.Stmt),Stmt.I x)/\([]:List Barb.Stmt).length<=3001:=⟨by simp,by simp⟩;have fin:∀(k:Int) (s:Str) (xs:List Barb.Expr) (l:List Tok),Zcb l->I64 k->s.length<=3000->(∀x∈xs,Expr.I x)->xs.length<=3000->Gd Stmt.I ((ex l).then λx l1=>(ZaH [59] l1).then λ_ l2=>.ok (.mk k s (xs++[x]) [] []) l2):=λk s xs l ho hk hs eu hn=>by
  refine (hx l ho).then (λx l1 e1 h1=>?_);refine (Zda _ _).then (λ_ l2 _ _=>?_);refine ZBC hk hs ⟨λy hy=>?_,by simp;omega⟩ no no;rcases Yar.1 hy with h | h
  ·exact eu y h
  ·rw[Yaz.1 h];exact h1
 unfold doP;split
 ·rename_i l1 h1;have o1:=hl.take h1;refine (hx l1 o1).then (λx l2 e2 h2=>?_);have o2:=o1.next qJ re e2;refine (Zi8 ht hs hm l2 o2).then (λb l3 e3 h3=>?_);have o3:=o2.next (ZeO hs) (ZeP hm) e3;split
  ·rename_i l4 h4;exact (Zi8 ht hs hm l4 (o3.take h4)).then (λc l5 e5 h5=>ZBC (by unfold I64;omega) (by simp) ⟨by simpa using h2,by simp⟩ h3 h5)
  ·exact ZBC (by unfold I64;omega) (by simp) ⟨by simpa using h2,by simp⟩ h3 no
 ·split
  ·rename_i l1 h1;have o1:=hl.take h1;refine (hx l1 o1).then (λx l2 e2 h2=>?_);have o2:=o1.next qJ re e2;exact (Zi8 ht hs hm l2 o2).then (λb l3 e3 h3=>ZBC (by unfold I64;omega) (by simp) ⟨by simpa using h2,by simp⟩ h3 no)
  ·dsimp only;split
   ·rename_i l1 h1;exact fin 5 [] [] l1 (hl.take h1) (by unfold I64;omega) (by simp) (by simp) (by simp)
   ·split
    ·rename_i l1 h1;exact fin 6 [] [] l1 (hl.take h1) (by unfold I64;omega) (by simp) (by simp) (by simp)
    ·refine (Zfx hl).then (λs l1 e1 bM=>?_);have o1:=hl.next Zau Za8 e1;split
     ·rename_i l2 h2;have o2:=o1.take h2;refine (hx l2 o2).then (λx l3 e3 h3=>?_);have o3:=o2.next qJ re e3;refine (Zda _ _).then (λ_ l4 e4 _=>?_);have o4:=o3.next (ZaA _) (ZaK _) e4;refine (Zda _ _).then (λ_ l5 e5 _=>?_);exact fin 2 s [x] l5 (o4.next (ZaA _) (ZaK _) e5) (by unfold I64;omega) bM (by simpa using h3) (by simp)
     ·refine (Zda _ _).then (λ_ l2 e2 _=>?_);exact fin 1 s [] l2 (o1.next (ZaA _) (ZaK _) e2) (by unfold I64;omega) bM (by simp) (by simp)
theorem Ztk:∀(f:Nat) (l:List Tok),Zcb l->Gd Stmt.I (ZaX f l)
 | 0,_,_=>.inr rfl
 | f+1,l,h=>ZCp (ZuT f) (ZbY f) (Zcn f) (Ztk f) (Zd4 f) (ZfW f) l h
theorem Zt0:∀(n:Nat) (acc:List Str) (l:List Tok),Zcb l->(∀x∈acc,x.length<=3000)->acc.length+l.length<=3001->Gd (λr:List Str=>(∀x∈r,x.length<=3000)/\r.length<=3001) (Zch n acc l)
 | 0,_,_,_,_,_=>.inl rfl
 | n+1,acc,l,hl,ha,hn=>by
  simp only[Zch];split
  ·exact ⟨ha,by omega⟩
  ·have h0:Gd (λ_=>True) (if acc=[] then .ok ⟨⟩ l else ZaH [44] l:PR PUnit):=by
    split
    ·trivial
    ·exact Zda _ _
   refine h0.then (λ_ l1 e1 _=>?_);have o1:Zcb l1/\l1.length<=l.length:=by
    split at e1
    ·injection e1 with _ e1;subst e1;exact ⟨hl,Yas _⟩
    ·exact ⟨hl.next (ZaA _) (ZaK _) e1,Nat.le_of_lt (ZaA _ _ _ _ e1)⟩
   refine (Zfx o1.1).then (λs l2 e2 hs=>?_);have:=Zau _ _ _ e2;refine Zt0 n _ _ (o1.1.next Zau Za8 e2) (λx hx=>?_) (by simp;omega);rcases Yar.1 hx with h | h
   ·exact ha x h
   ·rw[Yaz.1 h];exact hs
theorem ZxA {l:List Str} (h:(∀x∈l,x.length<=3000)/\l.length<=3001):Zyv l:=⟨λs hs=>by have:=h.1 s hs;unfold maxLen;omega,by have:=h.2;omega⟩
theorem ZBb (o:Bool) (l:List Tok) (hl:Zcb l):Gd Fun.I (Zip o l):=by unfold Zip;refine (Zfx hl).then (λs l1 e1 h1=>?_);have o1:=hl.next Zau Za8 e1;refine (Zda _ _).then (λ_ l2 e2 _=>?_);have o2:=o1.next (ZaA _) (ZaK _) e2;refine (Zt0 _ [] l2 o2 (by simp) (by have:=o2.1;simp;omega)).then (λps l3 e3 h3=>?_);have o3:Zcb l3:=o2.next (ZlM _ _) (ZlN _ _) e3;refine (Zi8 (Ztk 48) (Zd4 48) (ZfW 48) l3 o3).then (λb l4 e4 h4=>?_);exact ⟨by unfold maxLen;dsimp only;omega,ZxA h3,by have:=h4.2;dsimp only;omega,h4.1⟩
theorem Zs6:∀(n:Nat) (acc:List Str) (l:List Tok),Zcb l->(∀x∈acc,x.length<=3000)->acc.length+l.length<=3001->Gd (λr:List Str=>(∀x∈r,x.length<=3000)/\r.length<=3001) (Zbh n acc l)
 | 0,_,_,_,_,_=>.inl rfl
 | n+1,acc,l,hl,ha,hn=>by
  simp only[Zbh];split
  ·rename_i l1 h1;have:=(Zay h1).2;have o1:=hl.take h1;refine (Zfx o1).then (λs l2 e2 hs=>?_);have:=Zau _ _ _ e2;refine Zs6 n _ _ (o1.next Zau Za8 e2) (λx hx=>?_) (by simp;omega);rcases Yar.1 hx with h | h
   ·exact ha x h
   ·rw[Yaz.1 h];exact hs
  ·exact ⟨ha,by omega⟩
theorem Zvi:∀(n:Nat) (acc:List Arr) (l:List Tok),Zcb l->(∀x∈acc,x.I)->acc.length+l.length<=3001->Gd (λr:List Arr=>(∀x∈r,x.I)/\r.length<=3001) (Zeq n acc l)
 | 0,_,_,_,_,_=>.inl rfl
 | n+1,acc,l,hl,ha,hn=>by
  simp only[Zeq];split
  ·rename_i l1 h1;have:=(Zay h1).2;have o1:=hl.take h1;refine (Zfx o1).then (λs l2 e2 hs=>?_);have:=Zau _ _ _ e2;refine (ZxM l2).then (λk l3 e3 hk=>?_);have:=Zgy _ _ _ e3;refine Zvi n _ _ ((o1.next Zau Za8 e2).next Zgy ZlQ e3) (λx hx=>?_) (by simp;omega);rcases Yar.1 hx with h | h
   ·exact ha x h
   ·rw[Yaz.1 h];exact ⟨by unfold maxLen;dsimp only;omega,hk⟩
  ·exact ⟨ha,by omega⟩
theorem ZuC:∀(n:Nat) (acc:List Fun) (l:List Tok),Zcb l->(∀x∈acc,x.I)->acc.length+l.length<=3001->Gd (λr:List Fun=>(∀x∈r,x.I)/\r.length<=3001) (Zdx n acc l)
 | 0,_,_,_,_,_=>.inl rfl
 | n+1,acc,l,hl,ha,hn=>by
  have step:∀(o:Bool) (l1:List Tok),Zcb l1->l1.length<=l.length->Gd (λr:List Fun=>(∀x∈r,x.I)/\r.length<=3001) ((Zip o l1).then λf l2=>Zdx n (acc++[f]) l2):=λo l1 o1 hle=>by
   refine (ZBb o l1 o1).then (λf l2 e2 hf=>?_);have:=ZhV _ _ _ _ e2;refine ZuC n _ _ (o1.next (ZhV o) (ZuE o) e2) (λx hx=>?_) (by simp;omega);rcases Yar.1 hx with h | h
   ·exact ha x h
   ·rw[Yaz.1 h];exact hf
  simp only[Zdx];split
  ·exact ⟨ha,by omega⟩
  ·split
   ·rename_i l1 h1;exact step true l1 (hl.take h1) (by have:=(Zay h1).2;omega)
   ·refine (Zda _ _).then (λ_ l1 e1 _=>?_);exact step false l1 (hl.next (ZaA _) (ZaK _) e1) (Nat.le_of_lt (ZaA _ _ _ _ e1))
theorem Zs4:∀(n:Nat) (acc:List Str) (l:List Tok) (r:List Str) (l':List Tok),Zcb l->Zbh n acc l=.ok r l'->Zcb l'
 | 0,_,_,_,_,_,h=>by cases h
 | n+1,acc,l,r,l',hl,h=>by
  simp only[Zbh] at h;split at h
  ·rename_i l1 h1;obtain ⟨s,l2,h2,h⟩:=Zak h;exact Zs4 n _ _ _ _ ((hl.take h1).next Zau Za8 h2) h
  ·injection h with _ h;subst h;exact hl
theorem Zvh:∀(n:Nat) (acc:List Arr) (l:List Tok) (r:List Arr) (l':List Tok),Zcb l->Zeq n acc l=.ok r l'->Zcb l'
 | 0,_,_,_,_,_,h=>by cases h
 | n+1,acc,l,r,l',hl,h=>by
  simp only[Zeq] at h;split at h
  ·rename_i l1 h1;obtain ⟨s,l2,h2,h⟩:=Zak h;obtain ⟨k,l3,h3,h⟩:=Zak h;exact Zvh n _ _ _ _ (((hl.take h1).next Zau Za8 h2).next Zgy ZlQ h3) h
  ·injection h with _ h;subst h;exact hl
theorem Zyh (l:List Tok) (hl:Zcb l):Gd Barb.Unit.I (Zex l):=by unfold Zex;refine (Zda _ _).then (λ_ l1 e1 _=>?_);have o1:=hl.next (ZaA _) (ZaK _) e1;refine (Zfx o1).then (λs l2 e2 hs=>?_);have o2:=o1.next Zau Za8 e2;refine (Zs6 _ [] l2 o2 (by simp) (by have:=o2.1;simp;omega)).then (λvs l3 e3 h3=>?_);have o3:=Zs4 _ _ _ _ _ o2 e3;refine (Zvi _ [] l3 o3 (by simp) (by have:=o3.1;simp;omega)).then (λas_ l4 e4 h4=>?_);have o4:=Zvh _ _ _ _ _ o3 e4;refine (ZuC _ [] l4 o4 (by simp) (by have:=o4.1;simp;omega)).then (λfs l5 e5 h5=>?_);exact ⟨by unfold maxLen;dsimp only;omega,ZxA h3,h4.1,by have:=h4.2;dsimp only;omega,h5.1,by have:=h5.2;dsimp only;omega⟩
theorem Zh5:∀(f:Nat) (s:Str) (l:List Tok),Zld f s=some l->∀t∈l,t.text.length<=s.length
 | _,[],l,h=>by unfold Zld at h;injection h with h;subst h;simp
 | 0,c :: s,l,h=>by simp[Zld] at h
 | f+1,c :: s,l,h=>by
  unfold Zld at h;split at h
  ·intro t ht;have:=Zh5 f s l h t ht;simp;omega
  ·split at h
   ·cases h
   ·rename_i t0 h0;cases h1:Zld f ((c :: s).drop t0.text.length) with
    | none=>rw[h1] at h;cases h
    | some l1 =>
     rw[h1] at h;injection h with h;subst h;intro t ht;rcases Yav.1 ht with rfl | ht
     ·exact (Zlx h0).2.1
     ·have:=Zh5 f _ l1 h1 t ht;have h2:((c :: s).drop t0.text.length).length<=(c :: s).length:=by simp
      omega
theorem Zx4 (s:Str):Zcb (ZmM s):=by
 unfold ZmM;split
 ·exact ⟨by simp,by simp⟩
 ·rename_i hs;cases h:Ze7 s with
  | none=>exact ⟨by simp,by simp⟩
  | some l =>have h1:=Zmw _ _ _ h;have h2:=Zh5 _ _ _ h;refine ⟨by show l.length<=3000;omega,λt ht=>?_⟩;have:=h2 t ht;omega
noncomputable def Zix (s:Str):Barb.Unit × Int :=
 if Zle s≠0 then (u0,Zle s) else match Zex (ZmM s) with
  | .bad e=>(u0,e)
  | .ok u _=>if Zbm u≠0 then (u0,Zbm u) else (u,0)
theorem Znj {s:Str} (h:Zle s≠0):Zix s=(u0,Zle s):=by unfold Zix;rw[if_pos h]
theorem ZtP {s:Str} {e:Int} (h:Zle s=0) (h2:Zex (ZmM s)=.bad e):Zix s=(u0,e):=by unfold Zix;rw[if_neg (Yah.2 h),h2]
theorem Zo7 {s:Str} {u:Barb.Unit} {l:List Tok} (h:Zle s=0) (h2:Zex (ZmM s)=.ok u l) (h3:Zbm u≠0):Zix s=(u0,Zbm u):=by unfold Zix;rw[if_neg (Yah.2 h),h2];dsimp only;rw[if_pos h3]
theorem Zqa {s:Str} {u:Barb.Unit} {l:List Tok} (h:Zle s=0) (h2:Zex (ZmM s)=.ok u l) (h3:Zbm u=0):Zix s=(u,0):=by unfold Zix;rw[if_neg (Yah.2 h),h2];dsimp only;rw[if_neg (Yah.2 h3)]
theorem Zrr {L:Lv} (s:Str) (hs:s.length<=9223372036854775807):CT Tryz.prog (gl L) 6 [.g (.str s)] (Is (.tuple [.agg (Zix s).1.d,.g (.int (Zix s).2)])):=by
 suffices H:∀r,Zix s=r->CT Tryz.prog (gl L) 6 [.g (.str s)] (Is (.tuple [.agg r.1.d,.g (.int r.2)])) from H _ rfl
 intro r hr;have hC:=Zz4 (L:=L) s hs;have hP:=ZtZ (L:=L) (ZmM s) (Zx4 s);have hG:=Zyh (ZmM s) (Zx4 s);by_cases h0:Zle s=0
 ·cases h1:Zex (ZmM s) with
  | bad e =>
   rw[h1] at hP hG;have he:e≠0:=by have hG:e=4\/e=1:=hG;omega
   rw[ZtP h0 h1] at hr;subst hr;refine enter hT hF hM Tryz.func6 rfl 30 rfl (by kernel_rfl) [.cell 2 37,.tmp 3] rfl [.g (.str s)] rfl _ ?_;refine Zad (.inl rfl) hC ?_;refine ⟨λh=>absurd h0 h,λ_=>?_⟩;refine Zad (.inl rfl) hP ?_;refine ⟨λh=>absurd h he,λ_=>?_⟩;refine ⟨λ_=>?_,λh=>absurd h he⟩;exact ⟨rfl,ZbN (.inr (ZwC e))⟩
  | ok u l' =>
   rw[h1] at hP hG;have hI:u.I:=hG;have hK:=Zfb (L:=L) u hI;by_cases h2:Zbm u=0
   ·rw[Zqa h0 h1 h2] at hr;subst hr;refine enter hT hF hM Tryz.func6 rfl 30 rfl (by kernel_rfl) [.cell 2 37,.tmp 3] rfl [.g (.str s)] rfl _ ?_;refine Zad (.inl rfl) hC ?_;refine ⟨λh=>absurd h0 h,λ_=>?_⟩;refine Zad (.inl rfl) hP ?_;refine ⟨λ_=>?_,λh=>absurd rfl h⟩;refine Zad (.inl rfl) hK ?_;refine ⟨λh=>absurd h2 h,λ_=>?_⟩;exact ⟨rfl,ZbN (.inl rfl)⟩
   ·rw[Zo7 h0 h1 h2] at hr;subst hr;refine enter hT hF hM Tryz.func6 rfl 30 rfl (by kernel_rfl) [.cell 2 37,.tmp 3] rfl [.g (.str s)] rfl _ ?_;refine Zad (.inl rfl) hC ?_;refine ⟨λh=>absurd h0 h,λ_=>?_⟩;refine Zad (.inl rfl) hP ?_;refine ⟨λ_=>?_,λh=>absurd rfl h⟩;refine Zad (.inl rfl) hK ?_;refine ⟨λ_=>?_,λh=>absurd h h2⟩;exact ⟨rfl,ZbN (.inr (ZwC (Zbm u)))⟩
 ·rw[Znj h0] at hr;subst hr;refine enter hT hF hM Tryz.func6 rfl 30 rfl (by kernel_rfl) [.cell 2 37,.tmp 3] rfl [.g (.str s)] rfl _ ?_;refine Zad (.inl rfl) hC ?_;refine ⟨λ_=>?_,λh=>absurd h h0⟩;exact ⟨rfl,ZbN (.inr (ZwC (Zle s)))⟩
end ZN
