import Derived.Test.YthccmffgjchdmaaGreatDoorNRt
open Go Go.Proofs Go.Proofs.YthccmffgjchdmaaGreatDoor
namespace ZN
open Go Go.Dm Go.Eng Go.RowKit Barb
abbrev stD:Barb.Stmt->D:=λx=>.agg x.d
abbrev ZBU:List Barb.Stmt->D:=λxs=>.g (.sl 5 (xs.map Stmt.g))
abbrev gs (x:Barb.Stmt):List GV:=[.int x.k,.str x.s,.sl 5 (x.xs.map Expr.g),.sl 5 (x.b.map Stmt.g),.sl 5 (x.e.map Stmt.g)]
def StC (L:Lv) (f:Nat) (k:Int):Prop:=∀l,Zcb l->CTH Tryz.prog (gl L) 128 1 (RH l k) [.ptr 0 0] (rdQ stD k (ZaX f l))
theorem Zyx:fnOk Tryz.prog 128=true:=by kernel_rfl
theorem Zi9:fnOk Tryz.prog 107=true:=by kernel_rfl
set_option maxRecDepth 20000 in
theorem Zhu {L:Lv} {f:Nat} {k:Int} (hS:StC L f k) (l:List Tok) (hl:Zcb l):CTH Tryz.prog (gl L) 107 1 (RH l k) [.ptr 0 0] (rdQ ZBU k (Za5 (ZaX f) l)):=by
 suffices H:∀r,Za5 (ZaX f) l=r->CTH Tryz.prog (gl L) 107 1 (RH l k) [.ptr 0 0] (rdQ ZBU k r) from H _ rfl
 intro r hr;have dZ:=hl.1;have jq:=Zck (L:=L) l k [123] (by omega);have hr:(ZaH [123] l).then (λ_ l1=>Zaz (ZaX f) (l1.length+1) [] l1)=r:=hr;refine Za4 [] hT hF hM Tryz.func107 rfl 15 rfl (by kernel_rfl) [.tmp 2] rfl [.ptr 0 0] rfl (RH l k) [0] rfl rfl rfl 1 [] trivial _ ?_;refine Zag [0] Zdb rfl rfl ⟨rfl,.inl rfl,.inl rfl,rfl⟩ jq (λd' h' hq=>?_) (λd' h' hq=>?_)
 rotate_left
 ·obtain ⟨e,l',k',he,ae,rfl,rfl⟩:=ZaM hq;have hr:r=.bad e:=by rw[<- hr,he];rfl
  exact ⟨rfl,ZbE (Zcu e) l' k' [.old 0] rfl rfl rfl (.inl rfl) rfl rfl rfl (by rw[hr];exact ⟨l',k',ae,rfl⟩)⟩
 obtain ⟨_,l1,he,rfl,rfl⟩:=Zaq hq;rw[he] at hr;have hr:Zaz (ZaX f) (l1.length+1) [] l1=r:=hr;have bZ:=hl.next (ZaA _) (ZaK _) he;refine ZaO (ι:=List Barb.Stmt × List Tok) (λi=>[(0,.ptr 0 0),(3,.row 1)]) (λi=>[.blk (RB i.2 k) 125,.row (i.1.map Stmt.g) 114 5]) (λi=>Zcb i.2/\i.1.length+i.2.length<=3001/\Zaz (ZaX f) (i.2.length+1) i.1 i.2=r) (λi=>i.2.length)
  ⟨([],l1),[.old 0,.nil 114 5],⟨rfl,.inl rfl,.inr ⟨lk rfl,.inr rfl,trivial⟩,rfl⟩,bZ,by have:=bZ.1;simp;omega,hr⟩ ?_
 rintro Rd aj ⟨acc,m⟩ ⟨hm,hn,hr⟩;have hm:Zcb m:=hm;have hn:acc.length+m.length<=3001:=hn;have j5:=hm.1;have hr:Zaz (ZaX f) (m.length+1) acc m=r:=hr;have cr:=Zbv (L:=L) m k [125] (by omega);simp only[Zaz] at hr;cases eZ:ZaE [125] m with
 | some m1 =>rw[eZ] at cr hr;have hr:r=.ok acc m1:=hr.symm;refine Zag [0] Zas rfl rfl ⟨rfl,.inl rfl,.inl rfl,rfl⟩ cr (λd' h' hq=>?_) (λd' h' hq=>by cases hq);injection hq with e1 e2;subst e1;subst e2;exact ⟨rfl,ZbE (ZBU acc) m1 k [.old 0] rfl rfl rfl (.inl rfl) rfl rfl rfl (by rw[hr];rfl)⟩
 | none =>
  rw[eZ] at cr hr;have hr:(ZaX f m).then (λx l1=>Zaz (ZaX f) m.length (acc++[x]) l1)=r:=hr;have xg:=hS m hm;refine Zag [0] Zas rfl rfl ⟨rfl,.inl rfl,.inl rfl,rfl⟩ cr (λd' h' hq=>?_) (λd' h' hq=>by cases hq);injection hq with e1 e2;subst e1;subst e2;refine Zag [0] Zyx rfl rfl ⟨rfl,.inl rfl,.inl rfl,rfl⟩ xg (λd' h' hq=>?_) (λd' h' hq=>?_)
  rotate_left
  ·obtain ⟨e,l',k',he,ae,rfl,rfl⟩:=ZaM hq;have hr:r=.bad e:=by rw[<- hr,he];rfl
   exact ⟨rfl,ZbE (Zcu e) l' k' [.old 0] rfl rfl rfl (.inl rfl) rfl rfl rfl (by rw[hr];exact ⟨l',k',ae,rfl⟩)⟩
  obtain ⟨y,m2,he,rfl,rfl⟩:=Zaq hq;have lC:=Zd4 f _ _ _ he;rw[he] at hr;have hr:Zaz (ZaX f) (m2.length+1) (acc++[y]) m2=r:=by rw[<- hr];exact Zm0 (Zd4 f) _ _ _ _ (by omega) (by omega)
  have bY:=hm.next (Zd4 f) (ZfW f) he;refine ⟨[gs y],rfl,rfl,⟨rfl,rfl,rfl,rfl,rfl,trivial⟩,?_⟩;refine ⟨⟨by simp only[maxLen,List.length_cons,List.length_nil,Yaa];omega,by simp only[List.length_cons,List.length_nil,Yaa];omega⟩,?_⟩;exact aj _ _ _ ⟨(acc++[y],m2),[.old 0,.old 3],⟨rfl,.inr ⟨⟨rfl,.inl rfl⟩,⟨by rw[Yaf,Yan,YaI,Stmt.g_eq],rfl,rfl⟩,trivial⟩,.inr ⟨lk rfl,lk rfl,trivial⟩,rfl⟩,⟨bY,by simp;omega,hr⟩,by show m2.length < m.length;omega⟩
abbrev zs:List D:=[.g (.int 0),.g (.str []),.nils,.nils,.nils]
abbrev SHd (l:List Tok) (k:Int) (cs:List D):Zae:=DH l k cs 114
abbrev sS:List Nat:=[3]++(List.range 63).map (·+6)
theorem Zy9 (x:Barb.Expr):[gx x]=([x].map Expr.g):=by rw[Yan,YaI,Expr.g_eq]
theorem ZxB (Q:Exit->Act->World->Prop) (a:Act) (w:World) (ah:a.tmps.size=69) (bf:a.defers=[])
  (h:Calls Tryz.prog 142 #[a.tmps.getD 0 undef] w (λe w'=>match e with
    | .returned v=>∃b,v=.func (.func 157) #[] #[b]/\Q .normal { tmps:=(a.tmps.setIfInBounds 4 (a.tmps.getD 0 undef)).setIfInBounds 5 v,defers:=[{ target:=.fn (.func 157) #[b],args:=#[] }] } w'
    | .panicked ch=>Q (.panic ch) { tmps:=a.tmps.setIfInBounds 4 (a.tmps.getD 0 undef),defers:=[] } w'
    | .outgrown=>False)):(match Tryz.f128.body with | some (.seq _ (.seq y _))=>y | _=>.skip).wp Tryz.prog Q a w:=by
 have e0:a.tmps.getD 0 undef=a.tmps[0]'(by omega):=by simp[ah]
 rw[e0] at h;apply wp_region;simp[wpOps,go_sem,ah,bf];refine .inl (.inl (h.mono ?_));rintro e w' he;cases e with
 | returned v =>obtain ⟨b,rfl,hq⟩:=he;simp[go_sem];exact .inl (by simpa [ah] using hq)
 | panicked ch=>exact he
 | outgrown=>exact he.elim
noncomputable def Zsp (ex:List Tok->PR Barb.Expr) (k:Int) (s:Str) (xs:List Barb.Expr) (l:List Tok):PR Barb.Stmt:=(ex l).then λx l1=>(ZaH [59] l1).then λ_ l2=>.ok (.mk k s (xs++[x]) [] []) l2
theorem ZAD (o:Option Barb.Expr) (y:Barb.Expr):o.toList.map gx++[gx y]=(o.toList++[y]).map Expr.g:=by
 have e:∀x:Barb.Expr,gx x=Expr.g x:=λx=>(Expr.g_eq x).symm;cases o<;>simp[e]
abbrev ZCH (kd:Int) (s:Str):Option Barb.Expr->List D
 | none=>[.g (.int kd),.g (.str s),.nils,.nils,.nils]
 | some _=>[.g (.int kd),.g (.str s),.row 4,.nils,.nils]
abbrev ZBH (l:List Tok) (k kd:Int) (s:Str):Option Barb.Expr->Zae
 | none=>SHd l k zs++[.blk (ZCH kd s none) 114]
 | some x=>SHd l k zs++[.blk (ZCH kd s (some x)) 114,.row [gx x] 146 5]
set_option maxRecDepth 20000 in
set_option maxHeartbeats 12000000 in
theorem ZvU {L:Lv}:∀(f:Nat) (k:Int),k+f=48->0<=k->StC L f k:=by
 intro f
 induction f with
 | zero =>intro k hk h0 l hl;refine Zi7 (nt:=69) (jA:=4) (jC:=5) (S0:=[2]) (S2:=sS) (tR:=114) (zero:=zs) (enc:=λx:Barb.Stmt=>x.d) Tryz.func128 rfl rfl (by decide) (by omega) (by decide) rfl ⟨rfl,rfl,rfl⟩ ?_ ZxB (λd C a w dk=>absurd dk (by omega)) (λ_=>rfl) (λl' k' a=>rfl) (λh src a=>rfl);intro C a w hG hr;refine ZbA [] hT hF hM.ok _ [2] (by decide) (by decide) C _ a w _ ?_ hr;exact ⟨rfl,rfl⟩
 | succ f ih =>
  intro k hk h0 l hl;have hS:StC L f (k+1):=ih (k+1) (by omega) (by omega);have hE:ExC L f (k+1):=Zw1 f (k+1) (by omega) (by omega)
  suffices H:∀r,doP (ZaX f) (Zat f) l=r->CTH Tryz.prog (gl L) 128 1 (RH l k) [.ptr 0 0] (rdQ stD k r) from H _ rfl
  intro r hr;have dZ:=hl.1;refine Zi7 (nt:=69) (jA:=4) (jC:=5) (S0:=[2]) (S2:=sS) (tR:=114) (zero:=zs) (enc:=λx:Barb.Stmt=>x.d) Tryz.func128 rfl rfl (by decide) (by omega) (by decide) rfl ⟨rfl,rfl,rfl⟩ ?_ ZxB (λd C a w dk hG dR=>?_) (λh=>absurd (by omega) h) (λl' k' a=>rfl) (λh src a=>rfl)
  ·intro C a w hG hr;refine ZbA [] hT hF hM.ok _ [2] (by decide) (by decide) C _ a w _ ?_ hr;exact ⟨rfl,rfl⟩
  have bo:=Zbv (L:=L) l (k+1) [105,102] (by omega);unfold doP at hr;refine ZbA [8,22,23,1000003,6,7] hT hF hM.ok _ sS (by decide) (by decide) C _ a w _ ?_ dR;rw[hG];refine ZdM [.old 0,.old 1,.old 2,.old 3] [(0,.ptr 0 0),(2,.ptr 1 0),(5,Zd3 2),(3,.ptr 3 0)] (SHd l (k+1) zs++[.blk zs 114]) ⟨rfl,.inl rfl,.inl rfl,rfl⟩ ?_;refine ZqB (ι:=Int × Str × Option Barb.Expr × List Tok) rfl (λ_=>[(0,.ptr 0 0),(2,.ptr 1 0),(5,Zd3 2),(3,.ptr 3 0)]) (λi=>ZBH i.2.2.2 (k+1) i.1 i.2.1 i.2.2.1) (λi=>Zcb i.2.2.2/\Zsp (Zat f) i.1 i.2.1 i.2.2.1.toList i.2.2.2=r) (λe0 i hi=>?_) (λRd aj=>?_)
  rotate_left
  ·cases ht:ZaE [105,102] l with
   | some l1 =>
    rw[ht] at bo hr;have hr:(Zat f l1).then (λx l2=>(Za5 (ZaX f) l2).then λb l3=>match ZaE [101,108,115,101] l3 with
     | some l4=>(Za5 (ZaX f) l4).then λc l5=>.ok (.mk 3 [] [x] b c) l5
     | none=>.ok (.mk 3 [] [x] b []) l3)=r:=hr
    have bZ:=hl.take ht;have pq:=hE l1 bZ;refine Zag [0] Zas rfl rfl ⟨rfl,.inl rfl,.inl rfl,rfl⟩ bo (λd' h' hq=>?_) (λd' h' hq=>by cases hq);injection hq with e1 e2;subst e1;subst e2;refine Zag [0] Zcq rfl rfl ⟨rfl,.inl rfl,.inl rfl,rfl⟩ pq (λd' h' hq=>?_) (λd' h' hq=>?_)
    rotate_left
    ·obtain ⟨e,l',k',he,ae,rfl,rfl⟩:=ZaM hq;have hr:r=.bad e:=by rw[<- hr];show (Zat f l1).then _=_;rw[he];rfl
     exact ⟨rfl,e,l',k',hr,rfl,by omega,[.old 0,.old 2],⟨rfl,.inl rfl,.inl rfl,rfl⟩⟩
    obtain ⟨x,l2,cz,rfl,rfl⟩:=Zaq hq;rw[cz] at hr;have hr:(Za5 (ZaX f) l2).then (λb l3=>match ZaE [101,108,115,101] l3 with | some l4=>(Za5 (ZaX f) l4).then λc l5=>.ok (.mk 3 [] [x] b c) l5 | none=>.ok (.mk 3 [] [x] b []) l3)=r:=hr;refine ⟨[gx x],rfl,rfl,⟨rfl,rfl,rfl,rfl,rfl,trivial⟩,?_⟩;have bY:=bZ.next (ZbY f) (Zcn f) cz;have sH:=Zhu hS l2 bY;refine Zag [0] Zi9 rfl rfl ⟨rfl,.inl rfl,.inl rfl,rfl⟩ sH (λd' h' hq=>?_) (λd' h' hq=>?_)
    rotate_left
    ·obtain ⟨e,l',k',he,ae,rfl,rfl⟩:=ZaM hq;have hr:r=.bad e:=by rw[<- hr];show (Za5 (ZaX f) l2).then _=_;rw[he];rfl
     exact ⟨rfl,e,l',k',hr,rfl,by omega,[.old 0,.old 2],⟨rfl,.inl rfl,.inl rfl,rfl⟩⟩
    obtain ⟨bb,l3,ay,rfl,rfl⟩:=Zaq hq;rw[ay] at hr;have hr:(match ZaE [101,108,115,101] l3 with | some l4=>(Za5 (ZaX f) l4).then λc l5=>.ok (.mk 3 [] [x] bb c) l5 | none=>.ok (.mk 3 [] [x] bb []) l3)=r:=hr;have di:=bY.next (ZeO (Zd4 f)) (ZeP (ZfW f)) ay;have kn:=Zbv (L:=L) l3 (k+1) [101,108,115,101] (by have:=di.1;omega);cases h3:ZaE [101,108,115,101] l3 with
    | some l4 =>
     rw[h3] at kn hr;have hr:(Za5 (ZaX f) l4).then (λc l5=>.ok (.mk 3 [] [x] bb c) l5)=r:=hr;have gh:=di.take h3;have xB:=Zhu hS l4 gh;refine Zag [0] Zas rfl rfl ⟨rfl,.inl rfl,.inl rfl,rfl⟩ kn (λd' h' hq=>?_) (λd' h' hq=>by cases hq);injection hq with e1 e2;subst e1;subst e2;refine Zag [0] Zi9 rfl rfl ⟨rfl,.inl rfl,.inl rfl,rfl⟩ xB (λd' h' hq=>?_) (λd' h' hq=>?_)
     rotate_left
     ·obtain ⟨e,l',k',he,ae,rfl,rfl⟩:=ZaM hq;have hr:r=.bad e:=by rw[<- hr];show (Za5 (ZaX f) l4).then _=_;rw[he];rfl
      exact ⟨rfl,e,l',k',hr,rfl,by omega,[.old 0,.old 2],⟨rfl,.inl rfl,.inl rfl,rfl⟩⟩
     obtain ⟨cc,l5,dL,rfl,rfl⟩:=Zaq hq;rw[dL] at hr;have hr:.ok (.mk 3 [] [x] bb cc) l5=r:=hr;have hr:r=.ok (.mk 3 [] [x] bb cc) l5:=by rw[<- hr]
     exact ⟨rfl,_,l5,hr,[.old 0,.old 1,.old 2],⟨rfl,.inr ⟨⟨rfl,.inl rfl⟩,⟨rfl,.inr ⟨lk rfl,lk rfl,lkL (Zy9 x),lk rfl,lk rfl,trivial⟩⟩,⟨rfl,.inl rfl⟩,trivial⟩,.inl rfl,rfl⟩⟩
    | none =>
     rw[h3] at kn hr;have hr:.ok (.mk 3 [] [x] bb []) l3=r:=hr;refine Zag [0] Zas rfl rfl ⟨rfl,.inl rfl,.inl rfl,rfl⟩ kn (λd' h' hq=>?_) (λd' h' hq=>by cases hq);injection hq with e1 e2;subst e1;subst e2;have hr:r=.ok (.mk 3 [] [x] bb []) l3:=by rw[<- hr]
     exact ⟨rfl,_,l3,hr,[.old 0,.old 1,.old 2],⟨rfl,.inr ⟨⟨rfl,.inl rfl⟩,⟨rfl,.inr ⟨lk rfl,lk rfl,lkL (Zy9 x),lk rfl,Zel,trivial⟩⟩,⟨rfl,.inl rfl⟩,trivial⟩,.inl rfl,rfl⟩⟩
   | none =>
    rw[ht] at bo hr;have mZ:=Zbv (L:=L) l (k+1) [119,104,105,108,101] (by omega);cases hw:ZaE [119,104,105,108,101] l with
    | some l1 =>
     rw[hw] at mZ hr;have hr:(Zat f l1).then (λx l2=>(Za5 (ZaX f) l2).then λb l3=>.ok (.mk 4 [] [x] b []) l3)=r:=hr;have bZ:=hl.take hw;have pq:=hE l1 bZ;refine Zag [0] Zas rfl rfl ⟨rfl,.inl rfl,.inl rfl,rfl⟩ bo (λd' h' hq=>?_) (λd' h' hq=>by cases hq);injection hq with e1 e2;subst e1;subst e2;refine Zag [0] Zas rfl rfl ⟨rfl,.inl rfl,.inl rfl,rfl⟩ mZ (λd' h' hq=>?_) (λd' h' hq=>by cases hq);injection hq with e1 e2;subst e1;subst e2;refine Zag [0] Zcq rfl rfl ⟨rfl,.inl rfl,.inl rfl,rfl⟩ pq (λd' h' hq=>?_) (λd' h' hq=>?_)
     rotate_left
     ·obtain ⟨e,l',k',he,ae,rfl,rfl⟩:=ZaM hq;have hr:r=.bad e:=by rw[<- hr];show (Zat f l1).then _=_;rw[he];rfl
      exact ⟨rfl,e,l',k',hr,rfl,by omega,[.old 0,.old 2],⟨rfl,.inl rfl,.inl rfl,rfl⟩⟩
     obtain ⟨x,l2,cz,rfl,rfl⟩:=Zaq hq;rw[cz] at hr;have hr:(Za5 (ZaX f) l2).then (λb l3=>.ok (.mk 4 [] [x] b []) l3)=r:=hr;refine ⟨[gx x],rfl,rfl,⟨rfl,rfl,rfl,rfl,rfl,trivial⟩,?_⟩;have bY:=bZ.next (ZbY f) (Zcn f) cz;have sH:=Zhu hS l2 bY;refine Zag [0] Zi9 rfl rfl ⟨rfl,.inl rfl,.inl rfl,rfl⟩ sH (λd' h' hq=>?_) (λd' h' hq=>?_)
     rotate_left
     ·obtain ⟨e,l',k',he,ae,rfl,rfl⟩:=ZaM hq;have hr:r=.bad e:=by rw[<- hr];show (Za5 (ZaX f) l2).then _=_;rw[he];rfl
      exact ⟨rfl,e,l',k',hr,rfl,by omega,[.old 0,.old 2],⟨rfl,.inl rfl,.inl rfl,rfl⟩⟩
     obtain ⟨bb,l3,ay,rfl,rfl⟩:=Zaq hq;rw[ay] at hr;have hr:.ok (.mk 4 [] [x] bb []) l3=r:=hr;have hr:r=.ok (.mk 4 [] [x] bb []) l3:=by rw[<- hr]
     exact ⟨rfl,_,l3,hr,[.old 0,.old 1,.old 2],⟨rfl,.inr ⟨⟨rfl,.inl rfl⟩,⟨rfl,.inr ⟨lk rfl,lk rfl,lkL (Zy9 x),lk rfl,Zel,trivial⟩⟩,⟨rfl,.inl rfl⟩,trivial⟩,.inl rfl,rfl⟩⟩
    | none =>
     rw[hw] at mZ hr;have pg:=Zbv (L:=L) l (k+1) [114,101,116,117,114,110] (by omega);cases h5:ZaE [114,101,116,117,114,110] l with
     | some l1 =>rw[h5] at pg hr;have hr:Zsp (Zat f) 5 [] [] l1=r:=hr;have bZ:=hl.take h5;refine Zag [0] Zas rfl rfl ⟨rfl,.inl rfl,.inl rfl,rfl⟩ bo (λd' h' hq=>?_) (λd' h' hq=>by cases hq);injection hq with e1 e2;subst e1;subst e2;refine Zag [0] Zas rfl rfl ⟨rfl,.inl rfl,.inl rfl,rfl⟩ mZ (λd' h' hq=>?_) (λd' h' hq=>by cases hq);injection hq with e1 e2;subst e1;subst e2;refine Zag [0] Zas rfl rfl ⟨rfl,.inl rfl,.inl rfl,rfl⟩ pg (λd' h' hq=>?_) (λd' h' hq=>by cases hq);injection hq with e1 e2;subst e1;subst e2;exact aj (5,[],none,l1) _ _ [.old 0,.old 1,.old 2,.old 3] ⟨rfl,.inl rfl,.inl rfl,rfl⟩ ⟨bZ,hr⟩
     | none =>
      rw[h5] at pg hr;have qb:=Zbv (L:=L) l (k+1) [115,97,121] (by omega);cases h6:ZaE [115,97,121] l with
      | some l1 =>rw[h6] at qb hr;have hr:Zsp (Zat f) 6 [] [] l1=r:=hr;have bZ:=hl.take h6;refine Zag [0] Zas rfl rfl ⟨rfl,.inl rfl,.inl rfl,rfl⟩ bo (λd' h' hq=>?_) (λd' h' hq=>by cases hq);injection hq with e1 e2;subst e1;subst e2;refine Zag [0] Zas rfl rfl ⟨rfl,.inl rfl,.inl rfl,rfl⟩ mZ (λd' h' hq=>?_) (λd' h' hq=>by cases hq);injection hq with e1 e2;subst e1;subst e2;refine Zag [0] Zas rfl rfl ⟨rfl,.inl rfl,.inl rfl,rfl⟩ pg (λd' h' hq=>?_) (λd' h' hq=>by cases hq);injection hq with e1 e2;subst e1;subst e2;refine Zag [0] Zas rfl rfl ⟨rfl,.inl rfl,.inl rfl,rfl⟩ qb (λd' h' hq=>?_) (λd' h' hq=>by cases hq);injection hq with e1 e2;subst e1;subst e2;exact aj (6,[],none,l1) _ _ [.old 0,.old 1,.old 2,.old 3] ⟨rfl,.inl rfl,.inl rfl,rfl⟩ ⟨bZ,hr⟩
      | none =>
       rw[h6] at qb hr;have hr:(Zbc l).then (λs l1=>(match ZaE [91] l1 with | some l2=>(Zat f l2).then λx l3=>(ZaH [93] l3).then λ_ l4=>(ZaH [61] l4).then λ_ l5=>Zsp (Zat f) 2 s [x] l5 | none=>(ZaH [61] l1).then λ_ l2=>Zsp (Zat f) 1 s [] l2))=r:=hr;have gv:=ZdE (L:=L) l (k+1) (by omega) (by have:=hl.text;omega);refine Zag [0] Zas rfl rfl ⟨rfl,.inl rfl,.inl rfl,rfl⟩ bo (λd' h' hq=>?_) (λd' h' hq=>by cases hq);injection hq with e1 e2;subst e1;subst e2;refine Zag [0] Zas rfl rfl ⟨rfl,.inl rfl,.inl rfl,rfl⟩ mZ (λd' h' hq=>?_) (λd' h' hq=>by cases hq);injection hq with e1 e2;subst e1;subst e2;refine Zag [0] Zas rfl rfl ⟨rfl,.inl rfl,.inl rfl,rfl⟩ pg (λd' h' hq=>?_) (λd' h' hq=>by cases hq);injection hq with e1 e2;subst e1;subst e2;refine Zag [0] Zas rfl rfl ⟨rfl,.inl rfl,.inl rfl,rfl⟩ qb (λd' h' hq=>?_) (λd' h' hq=>by cases hq);injection hq with e1 e2;subst e1;subst e2;refine ZdM [.old 0,.old 1,.old 2,.old 3] [(0,.ptr 0 0),(2,.ptr 1 0),(5,Zd3 2),(3,.ptr 3 0)] (SHd l (k+1) zs++[.blk zs 114]) ⟨rfl,.inl rfl,.inl rfl,rfl⟩ ?_;refine Zag [0] Zb3 rfl rfl ⟨rfl,.inl rfl,.inl rfl,rfl⟩ gv (λd' h' hq=>?_) (λd' h' hq=>?_)
       rotate_left
       ·obtain ⟨e,l',k',he,ae,rfl,rfl⟩:=ZaM hq;have hr:r=.bad e:=by rw[<- hr];show (Zbc l).then _=_;rw[he];rfl
        exact ⟨rfl,e,l',k',hr,rfl,by omega,[.old 0,.old 2],⟨rfl,.inl rfl,.inl rfl,rfl⟩⟩
       obtain ⟨s,l1,ir,rfl,rfl⟩:=Zaq hq;rw[ir] at hr;have hr:(match ZaE [91] l1 with | some l2=>(Zat f l2).then λx l3=>(ZaH [93] l3).then λ_ l4=>(ZaH [61] l4).then λ_ l5=>Zsp (Zat f) 2 s [x] l5 | none=>(ZaH [61] l1).then λ_ l2=>Zsp (Zat f) 1 s [] l2)=r:=hr;have bZ:=hl.next Zau Za8 ir;have qc:=Zbv (L:=L) l1 (k+1) [91] (by have:=bZ.1;omega);cases h7:ZaE [91] l1 with
       | some l2 =>
        rw[h7] at qc hr;have hr:(Zat f l2).then (λx l3=>(ZaH [93] l3).then λ_ l4=>(ZaH [61] l4).then λ_ l5=>Zsp (Zat f) 2 s [x] l5)=r:=hr;have bY:=bZ.take h7;have fg:=hE l2 bY;refine Zag [0] Zas rfl rfl ⟨rfl,.inl rfl,.inl rfl,rfl⟩ qc (λd' h' hq=>?_) (λd' h' hq=>by cases hq);injection hq with e1 e2;subst e1;subst e2;refine Zag [0] Zcq rfl rfl ⟨rfl,.inl rfl,.inl rfl,rfl⟩ fg (λd' h' hq=>?_) (λd' h' hq=>?_)
        rotate_left
        ·obtain ⟨e,l',k',he,ae,rfl,rfl⟩:=ZaM hq;have hr:r=.bad e:=by rw[<- hr];show (Zat f l2).then _=_;rw[he];rfl
         exact ⟨rfl,e,l',k',hr,rfl,by omega,[.old 0,.old 2],⟨rfl,.inl rfl,.inl rfl,rfl⟩⟩
        obtain ⟨x,l3,ay,rfl,rfl⟩:=Zaq hq;rw[ay] at hr;have hr:(ZaH [93] l3).then (λ_ l4=>(ZaH [61] l4).then λ_ l5=>Zsp (Zat f) 2 s [x] l5)=r:=hr;refine ⟨[gx x],rfl,rfl,⟨rfl,rfl,rfl,rfl,rfl,trivial⟩,?_⟩;have di:=bY.next (ZbY f) (Zcn f) ay;have jo:=Zck (L:=L) l3 (k+1) [93] (by have:=di.1;omega);refine ZdM [.old 0,.old 1,.old 2,.old 3,.old 4] [(0,.ptr 0 0),(2,.ptr 1 0),(5,Zd3 2),(3,.ptr 3 0)] (ZBH l3 (k+1) 2 s (some x)) ⟨rfl,.inl rfl,.inl rfl,rfl⟩ ?_;refine Zag [0] Zdb rfl rfl ⟨rfl,.inl rfl,.inl rfl,rfl⟩ jo (λd' h' hq=>?_) (λd' h' hq=>?_)
        rotate_left
        ·obtain ⟨e,l',k',he,ae,rfl,rfl⟩:=ZaM hq;have hr:r=.bad e:=by rw[<- hr];show (ZaH [93] l3).then _=_;rw[he];rfl
         exact ⟨rfl,e,l',k',hr,rfl,by omega,[.old 0,.old 2],⟨rfl,.inl rfl,.inl rfl,rfl⟩⟩
        obtain ⟨_,l4,eh,rfl,rfl⟩:=Zaq hq;rw[eh] at hr;have hr:(ZaH [61] l4).then (λ_ l5=>Zsp (Zat f) 2 s [x] l5)=r:=hr;have gh:=di.next (ZaA _) (ZaK _) eh;have fS:=Zck (L:=L) l4 (k+1) [61] (by have:=gh.1;omega);refine ZdM [.old 0,.old 1,.old 2,.old 3,.old 4] [(0,.ptr 0 0),(2,.ptr 1 0),(5,Zd3 2),(3,.ptr 3 0)] (ZBH l4 (k+1) 2 s (some x)) ⟨rfl,.inl rfl,.inl rfl,rfl⟩ ?_;refine Zag [0] Zdb rfl rfl ⟨rfl,.inl rfl,.inl rfl,rfl⟩ fS (λd' h' hq=>?_) (λd' h' hq=>?_)
        rotate_left
        ·obtain ⟨e,l',k',he,ae,rfl,rfl⟩:=ZaM hq;have hr:r=.bad e:=by rw[<- hr];show (ZaH [61] l4).then _=_;rw[he];rfl
         exact ⟨rfl,e,l',k',hr,rfl,by omega,[.old 0,.old 2],⟨rfl,.inl rfl,.inl rfl,rfl⟩⟩
        obtain ⟨_,l5,dL,rfl,rfl⟩:=Zaq hq;rw[dL] at hr;have hr:Zsp (Zat f) 2 s [x] l5=r:=hr;have qX:=gh.next (ZaA _) (ZaK _) dL;exact aj (2,s,some x,l5) _ _ [.old 0,.old 1,.old 2,.old 3,.old 4] ⟨rfl,.inl rfl,.inl rfl,rfl⟩ ⟨qX,hr⟩
       | none =>
        rw[h7] at qc hr;have hr:(ZaH [61] l1).then (λ_ l2=>Zsp (Zat f) 1 s [] l2)=r:=hr;refine Zag [0] Zas rfl rfl ⟨rfl,.inl rfl,.inl rfl,rfl⟩ qc (λd' h' hq=>?_) (λd' h' hq=>by cases hq);injection hq with e1 e2;subst e1;subst e2;have fS:=Zck (L:=L) l1 (k+1) [61] (by have:=bZ.1;omega);refine ZdM [.old 0,.old 1,.old 2,.old 3] [(0,.ptr 0 0),(2,.ptr 1 0),(5,Zd3 2),(3,.ptr 3 0)] (ZBH l1 (k+1) 1 s none) ⟨rfl,.inl rfl,.inl rfl,rfl⟩ ?_;refine Zag [0] Zdb rfl rfl ⟨rfl,.inl rfl,.inl rfl,rfl⟩ fS (λd' h' hq=>?_) (λd' h' hq=>?_)
        rotate_left
        ·obtain ⟨e,l',k',he,ae,rfl,rfl⟩:=ZaM hq;have hr:r=.bad e:=by rw[<- hr];show (ZaH [61] l1).then _=_;rw[he];rfl
         exact ⟨rfl,e,l',k',hr,rfl,by omega,[.old 0,.old 2],⟨rfl,.inl rfl,.inl rfl,rfl⟩⟩
        obtain ⟨_,l5,dL,rfl,rfl⟩:=Zaq hq;rw[dL] at hr;have hr:Zsp (Zat f) 1 s [] l5=r:=hr;have qX:=bZ.next (ZaA _) (ZaK _) dL;exact aj (1,s,none,l5) _ _ [.old 0,.old 1,.old 2,.old 3] ⟨rfl,.inl rfl,.inl rfl,rfl⟩ ⟨qX,hr⟩
  obtain ⟨kd,s,o,l2⟩:=i;obtain ⟨bY,hr⟩:=hi;have bY:Zcb l2:=bY;have hr:(Zat f l2).then (λx l1=>(ZaH [59] l1).then λ_ l2=>.ok (.mk kd s (o.toList++[x]) [] []) l2)=r:=hr;have fg:=hE l2 bY;have dA:∀{d:D} {h:Zae},rdQ exD (k+1) (Zat f l2) (.panH d h)->∃e l' k',r=.bad e/\(k+1<=k'/\k'<=k+2)/\d=Zcu e/\h=RH l' k':=λhq=>by obtain ⟨e,l',k',he,ae,h1,h2⟩:=ZaM hq;exact ⟨e,l',k',by rw[<- hr,he];rfl,by omega,h1,h2⟩
  refine ZqB (ι:=Barb.Expr × List Tok) rfl (λ_=>[(0,.ptr 0 0),(2,.ptr 1 0),(5,Zd3 2),(3,.ptr 3 0)]) (λi=>SHd i.2 (k+1) zs++[.blk [.g (.int kd),.g (.str s),.g (.sl 5 (o.toList.map gx++[gx i.1])),.nils,.nils] 114]) (λi=>Zat f l2=.ok i.1 i.2) (λe1 i hi=>?_) (λRd aj=>?_)
  rotate_left
  ·cases o with
   | none =>
    refine ⟨some 60002,(.lead 0 (.lead 2 (.two (.run 1 (.run 3 (.run 4 (.run 5 (.run 6 (.run 7 .done)))))) (.run 3 (.two (.run 1 (.run 4 (.run 5 (.run 6 (.run 7 .done))))) (.run 4 (.run 1 (.run 5 (.run 6 (.run 7 .done)))))))))),rfl,?_⟩;refine ⟨?_,?_⟩
    ·refine Zag [0] Zcq rfl rfl ⟨rfl,.inl rfl,.inl rfl,rfl⟩ fg (λd' h' hq=>?_) (λd' h' hq=>by obtain ⟨e,l',k',hr,ae,rfl,rfl⟩:=dA hq;exact ⟨rfl,e,l',k',hr,rfl,ae,[.old 0,.old 2],⟨rfl,.inl rfl,.inl rfl,rfl⟩⟩);obtain ⟨y,l3,ay,rfl,rfl⟩:=Zaq hq;refine ⟨[gx y],rfl,rfl,⟨rfl,rfl,rfl,rfl,rfl,trivial⟩,?_⟩;refine ⟨⟨by simp only[maxLen,List.length_cons,List.length_nil];omega,by simp only[List.length_cons,List.length_nil];omega⟩,?_⟩;exact aj ⟨y,l3⟩ _ _ [.old 0,.old 1,.old 2,.old 3] ⟨rfl,.inl rfl,.inl rfl,rfl⟩ ay
    ·refine Zag [0] Zcq rfl rfl ⟨rfl,.inl rfl,.inl rfl,rfl⟩ fg (λd' h' hq=>?_) (λd' h' hq=>by obtain ⟨e,l',k',hr,ae,rfl,rfl⟩:=dA hq;exact ⟨rfl,e,l',k',hr,rfl,ae,[.old 0,.old 2],⟨rfl,.inl rfl,.inl rfl,rfl⟩⟩);obtain ⟨y,l3,ay,rfl,rfl⟩:=Zaq hq;refine ⟨?_,?_⟩
     ·refine ⟨[gx y],rfl,rfl,⟨rfl,rfl,rfl,rfl,rfl,trivial⟩,?_⟩;refine ⟨⟨by simp only[maxLen,List.length_cons,List.length_nil];omega,by simp only[List.length_cons,List.length_nil];omega⟩,?_⟩;exact aj ⟨y,l3⟩ _ _ [.old 0,.old 1,.old 2,.old 3] ⟨rfl,.inl rfl,.inl rfl,rfl⟩ ay
     ·refine ⟨[gx y],rfl,rfl,⟨rfl,rfl,rfl,rfl,rfl,trivial⟩,?_⟩;refine ⟨⟨by simp only[maxLen,List.length_cons,List.length_nil];omega,by simp only[List.length_cons,List.length_nil];omega⟩,?_⟩;exact aj ⟨y,l3⟩ _ _ [.old 0,.old 1,.old 2,.old 3] ⟨rfl,.inl rfl,.inl rfl,rfl⟩ ay
   | some x0 =>
    refine ⟨some 60002,(.lead 0 (.lead 2 (.two (.run 1 (.run 3 (.run 4 (.run 5 (.run 6 (.run 7 .done)))))) (.run 3 (.two (.run 1 (.run 4 (.run 5 (.run 6 (.run 7 .done))))) (.run 4 (.run 1 (.run 5 (.run 6 (.run 7 .done)))))))))),rfl,?_⟩;refine ⟨?_,?_⟩
    ·refine Zag [0] Zcq rfl rfl ⟨rfl,.inl rfl,.inl rfl,rfl⟩ fg (λd' h' hq=>?_) (λd' h' hq=>by obtain ⟨e,l',k',hr,ae,rfl,rfl⟩:=dA hq;exact ⟨rfl,e,l',k',hr,rfl,ae,[.old 0,.old 2],⟨rfl,.inl rfl,.inl rfl,rfl⟩⟩);obtain ⟨y,l3,ay,rfl,rfl⟩:=Zaq hq;refine ⟨[gx y],rfl,rfl,⟨rfl,rfl,rfl,rfl,rfl,trivial⟩,?_⟩;refine ⟨⟨by simp only[maxLen,List.length_cons,List.length_nil];omega,by simp only[List.length_cons,List.length_nil];omega⟩,?_⟩;exact aj ⟨y,l3⟩ _ _ [.old 0,.old 1,.old 2,.old 3] ⟨rfl,.inl rfl,.inl rfl,rfl⟩ ay
    ·refine Zag [0] Zcq rfl rfl ⟨rfl,.inl rfl,.inl rfl,rfl⟩ fg (λd' h' hq=>?_) (λd' h' hq=>by obtain ⟨e,l',k',hr,ae,rfl,rfl⟩:=dA hq;exact ⟨rfl,e,l',k',hr,rfl,ae,[.old 0,.old 2],⟨rfl,.inl rfl,.inl rfl,rfl⟩⟩);obtain ⟨y,l3,ay,rfl,rfl⟩:=Zaq hq;refine ⟨?_,?_⟩
     ·refine ⟨[gx y],rfl,rfl,⟨rfl,rfl,rfl,rfl,rfl,trivial⟩,?_⟩;refine ⟨⟨by simp only[maxLen,List.length_cons,List.length_nil];omega,by simp only[List.length_cons,List.length_nil];omega⟩,?_⟩;exact aj ⟨y,l3⟩ _ _ [.old 0,.old 1,.old 2,.old 3] ⟨rfl,.inl rfl,.inl rfl,rfl⟩ ay
     ·refine ⟨[gx y],rfl,rfl,⟨rfl,rfl,rfl,rfl,rfl,trivial⟩,?_⟩;refine ⟨⟨by simp only[maxLen,List.length_cons,List.length_nil];omega,by simp only[List.length_cons,List.length_nil];omega⟩,?_⟩;exact aj ⟨y,l3⟩ _ _ [.old 0,.old 1,.old 2,.old 3] ⟨rfl,.inl rfl,.inl rfl,rfl⟩ ay
  obtain ⟨y,l3⟩:=i;have hi:Zat f l2=.ok y l3:=hi;rw[hi] at hr;have hr:(ZaH [59] l3).then (λ_ l2=>.ok (.mk kd s (o.toList++[y]) [] []) l2)=r:=hr;have di:=bY.next (ZbY f) (Zcn f) hi;have jo:=Zck (L:=L) l3 (k+1) [59] (by have:=di.1;omega);refine Zag [0] Zdb rfl rfl ⟨rfl,.inl rfl,.inl rfl,rfl⟩ jo (λd' h' hq=>?_) (λd' h' hq=>?_)
  rotate_left
  ·obtain ⟨e,l',k',he,ae,rfl,rfl⟩:=ZaM hq;have hr:r=.bad e:=by rw[<- hr];show (ZaH [59] l3).then _=_;rw[he];rfl
   exact ⟨rfl,e,l',k',hr,rfl,by omega,[.old 0,.old 2],⟨rfl,.inl rfl,.inl rfl,rfl⟩⟩
  obtain ⟨_,l4,eh,rfl,rfl⟩:=Zaq hq;rw[eh] at hr;have hr:.ok (.mk kd s (o.toList++[y]) [] []) l4=r:=hr;have hr:r=.ok (.mk kd s (o.toList++[y]) [] []) l4:=by rw[<- hr]
  exact ⟨rfl,_,l4,hr,[.old 0,.old 1,.old 2],⟨rfl,.inr ⟨⟨rfl,.inl rfl⟩,⟨rfl,.inr ⟨lk rfl,lk rfl,lkL (ZAD o y),Zel,Zel,trivial⟩⟩,⟨rfl,.inl rfl⟩,trivial⟩,.inl rfl,rfl⟩⟩
abbrev fuD:Fun->D:=λf=>.agg f.d
theorem ZqN:fnOk Tryz.prog 79=true:=by kernel_rfl
theorem Zyi:fnOk Tryz.prog 48=true:=by kernel_rfl
theorem ZCZ {L:Lv}:StC L 48 0:=ZvU 48 0 (by omega) (by omega)
abbrev zf:List D:=[.g (.str []),.g (.bool false),.nils,.nils]
set_option maxRecDepth 20000 in
set_option maxHeartbeats 4000000 in
theorem ZuF {L:Lv} (o:Bool) (l:List Tok) (hl:Zcb l):CTH Tryz.prog (gl L) 79 1 (RH l 0) [.ptr 0 0,.g (.bool o)] (rdQ fuD 0 (Zip o l)):=by
 suffices H:∀r,Zip o l=r->CTH Tryz.prog (gl L) 79 1 (RH l 0) [.ptr 0 0,.g (.bool o)] (rdQ fuD 0 r) from H _ rfl
 intro r hr;have dZ:=hl.1;have gv:=ZdE (L:=L) l 0 (by omega) (by have:=hl.text;omega);have hr:(Zbc l).then (λs l1=>(ZaH [40] l1).then λ_ l2=>(Zch (l2.length+1) [] l2).then λps l3=>(Za5 (ZaX 48) l3).then λb l4=>.ok ⟨s,o,ps,b⟩ l4)=r:=hr;refine Za4 [] hT hF hM Tryz.func79 rfl 32 rfl (by kernel_rfl) [.cell 4 71] rfl [.ptr 0 0,.g (.bool o)] rfl (RH l 0) [0] rfl rfl rfl 1 [] trivial _ ?_;refine Zag [0] Zb3 rfl rfl ⟨rfl,.inl rfl,.inl rfl,rfl⟩ gv (λd' h' hq=>?_) (λd' h' hq=>?_)
 rotate_left
 ·obtain ⟨e,l',k',he,ae,rfl,rfl⟩:=ZaM hq;have hr:r=.bad e:=by rw[<- hr];show (Zbc l).then _=_;rw[he];rfl
  exact ⟨rfl,ZbE (Zcu e) l' k' [.old 0] rfl rfl rfl (.inl rfl) rfl rfl rfl (by rw[hr];exact ⟨l',k',ae,rfl⟩)⟩
 obtain ⟨s,l1,ir,rfl,rfl⟩:=Zaq hq;rw[ir] at hr;have hr:(ZaH [40] l1).then (λ_ l2=>(Zch (l2.length+1) [] l2).then λps l3=>(Za5 (ZaX 48) l3).then λb l4=>.ok ⟨s,o,ps,b⟩ l4)=r:=hr;have bZ:=hl.next Zau Za8 ir;have jo:=Zck (L:=L) l1 0 [40] (by have:=bZ.1;omega);refine Zag [0] Zdb rfl rfl ⟨rfl,.inl rfl,.inl rfl,rfl⟩ jo (λd' h' hq=>?_) (λd' h' hq=>?_)
 rotate_left
 ·obtain ⟨e,l',k',he,ae,rfl,rfl⟩:=ZaM hq;have hr:r=.bad e:=by rw[<- hr];show (ZaH [40] l1).then _=_;rw[he];rfl
  exact ⟨rfl,ZbE (Zcu e) l' k' [.old 0] rfl rfl rfl (.inl rfl) rfl rfl rfl (by rw[hr];exact ⟨l',k',ae,rfl⟩)⟩
 obtain ⟨_,l2,cz,rfl,rfl⟩:=Zaq hq;rw[cz] at hr;have hr:(Zch (l2.length+1) [] l2).then (λps l3=>(Za5 (ZaX 48) l3).then λb l4=>.ok ⟨s,o,ps,b⟩ l4)=r:=hr;have bY:=bZ.next (ZaA _) (ZaK _) cz;refine ZaO (ι:=List Str × List Tok) (λi=>[(0,.ptr 0 0),(4,.ptr 1 0),(5,.ptr 2 0)]) (λi=>[.blk (RB i.2 0) 125,.blk zf 71,.blk [.g (.str s),.g (.bool o),.row 3,.nils] 71,.row (i.1.map ZaT) 9 1]) (λi=>Zcb i.2/\i.1.length+i.2.length<=3001/\(Zch (i.2.length+1) i.1 i.2).then (λps l3=>(Za5 (ZaX 48) l3).then λb l4=>.ok ⟨s,o,ps,b⟩ l4)=r) (λi=>i.2.length)
  ⟨([],l2),[.old 0,.old 1,.old 2,.nil 9 1],⟨rfl,.inr ⟨⟨rfl,.inl rfl⟩,⟨rfl,.inl rfl⟩,⟨rfl,.inr ⟨lk rfl,lk rfl,.inr rfl,lk rfl,trivial⟩⟩,⟨rfl,rfl,rfl⟩,trivial⟩,.inr ⟨lk rfl,lk rfl,lk rfl,trivial⟩,rfl⟩,bY,by have:=bY.1;simp;omega,hr⟩ ?_
 rintro Rd aj ⟨acc,m⟩ ⟨hm,hn,hr⟩;have hm:Zcb m:=hm;have nM:(Zbi m).length<=3000:=hm.text;have hn:acc.length+m.length<=3001:=hn;have j5:=hm.1;have hr:(Zch (m.length+1) acc m).then (λps l3=>(Za5 (ZaX 48) l3).then λb l4=>.ok ⟨s,o,ps,b⟩ l4)=r:=hr;have cr:=Zbv (L:=L) m 0 [41] (by omega);simp only[Zch] at hr;cases eZ:ZaE [41] m with
 | some m1 =>
  rw[eZ] at cr hr;have hr:(Za5 (ZaX 48) m1).then (λb l4=>.ok ⟨s,o,acc,b⟩ l4)=r:=hr;have bz:=hm.take eZ;have hB:=Zhu (L:=L) ZCZ m1 bz;refine Zag [0] Zas rfl rfl ⟨rfl,.inl rfl,.inl rfl,rfl⟩ cr (λd' h' hq=>?_) (λd' h' hq=>by cases hq);injection hq with e1 e2;subst e1;subst e2;refine Zag [0] Zi9 rfl rfl ⟨rfl,.inl rfl,.inl rfl,rfl⟩ hB (λd' h' hq=>?_) (λd' h' hq=>?_)
  rotate_left
  ·obtain ⟨e,l',k',he,ae,rfl,rfl⟩:=ZaM hq;have hr:r=.bad e:=by rw[<- hr];show (Za5 (ZaX 48) m1).then _=_;rw[he];rfl
   exact ⟨rfl,ZbE (Zcu e) l' k' [.old 0] rfl rfl rfl (.inl rfl) rfl rfl rfl (by rw[hr];exact ⟨l',k',ae,rfl⟩)⟩
  obtain ⟨bb,l4,eh,rfl,rfl⟩:=Zaq hq;rw[eh] at hr;have hr:.ok ⟨s,o,acc,bb⟩ l4=r:=hr;exact ⟨rfl,ZbE (fuD ⟨s,o,acc,bb⟩) l4 0 [.old 0] rfl rfl rfl (.inl rfl) rfl rfl rfl (by rw[<- hr];rfl)⟩
 | none =>
  rw[eZ] at cr hr;have hr:((if acc=[] then .ok ⟨⟩ m else ZaH [44] m:PR PUnit).then λ_ l1=>(Zbc l1).then λs l2=>Zch m.length (acc++[s]) l2).then (λps l3=>(Za5 (ZaX 48) l3).then λb l4=>.ok ⟨s,o,ps,b⟩ l4)=r:=hr;have step:∀(m1:List Tok),m1.length<=m.length->Zcb m1->((Zbc m1).then λx l2=>Zch m.length (acc++[x]) l2).then (λps l3=>(Za5 (ZaX 48) l3).then λb l4=>.ok ⟨s,o,ps,b⟩ l4)=r->∀x m2,Zbc m1=.ok x m2->Zcb m2/\(acc++[x]).length+m2.length<=3001/\(Zch (m2.length+1) (acc++[x]) m2).then (λps l3=>(Za5 (ZaX 48) l3).then λb l4=>.ok ⟨s,o,ps,b⟩ l4)=r:=λm1 hle bz hr x m2 he=>by have hs:=Zau _ _ _ he;rw[he] at hr;refine ⟨bz.next Zau Za8 he,by simp;omega,?_⟩;rw[<- hr,Zqf (m2.length+1) (acc++[x]) m2 m.length (by omega) (by omega)];rfl
  have kr:∀(m1:List Tok),((Zbc m1).then λx l2=>Zch m.length (acc++[x]) l2).then (λps l3=>(Za5 (ZaX 48) l3).then λb l4=>.ok ⟨s,o,ps,b⟩ l4)=r->∀{d:D} {h:Zae},rdQ (λs=>.g (.str s)) 0 (Zbc m1) (.panH d h)->∃e l' k',r=.bad e/\(0<=k'/\k'<=0+1)/\d=Zcu e/\h=RH l' k':=λm1 hr d h hq=>by obtain ⟨e,l',k',he,ae,h1,h2⟩:=ZaM hq;exact ⟨e,l',k',by rw[<- hr,he];rfl,ae,h1,h2⟩
  cases acc with
  | nil =>
   have hr:((Zbc m).then λx l2=>Zch m.length ([]++[x]) l2).then (λps l3=>(Za5 (ZaX 48) l3).then λb l4=>.ok ⟨s,o,ps,b⟩ l4)=r:=hr;have bz:=hm;have cM:=ZdE (L:=L) m 0 (by omega) (by have:=hm.text;omega);refine Zag [0] Zas rfl rfl ⟨rfl,.inl rfl,.inl rfl,rfl⟩ cr (λd' h' hq=>?_) (λd' h' hq=>by cases hq);injection hq with e1 e2;subst e1;subst e2;refine ⟨λh=>absurd (show (0:Int) > 0 from h) (by decide),λ_=>?_⟩;refine ⟨some 60002,(.lead 0 (.lead 2 (.two (.run 1 (.run 3 (.run 4 (.run 5 (.run 6 (.run 7 .done)))))) (.run 3 (.two (.run 1 (.run 4 (.run 5 (.run 6 (.run 7 .done))))) (.run 4 (.run 1 (.run 5 (.run 6 (.run 7 .done)))))))))),rfl,?_⟩;refine ⟨?_,?_⟩
   ·refine Zag [0] Zb3 rfl rfl ⟨rfl,.inl rfl,.inl rfl,rfl⟩ cM (λd' h' hq=>?_) (λd' h' hq=>by obtain ⟨e,l',k',hr,ae,rfl,rfl⟩:=kr m hr hq;exact ⟨rfl,ZbE (Zcu e) l' k' [.old 0] rfl rfl rfl (.inl rfl) rfl rfl rfl (by rw[hr];exact ⟨l',k',ae,rfl⟩)⟩);obtain ⟨x,m2,ay,rfl,rfl⟩:=Zaq hq;refine ⟨[[.str x]],rfl,rfl,⟨rfl,trivial⟩,?_⟩;refine ⟨⟨by simp only[maxLen,List.length_cons,List.length_nil,Yaa];omega,by simp only[List.length_cons,List.length_nil,Yaa];omega⟩,?_⟩;exact aj _ _ _ ⟨([]++[x],m2),[.old 0,.old 1,.old 2,.old 5],⟨rfl,.inr ⟨⟨rfl,.inl rfl⟩,⟨rfl,.inl rfl⟩,⟨rfl,.inl rfl⟩,⟨by rw[Yaf];rfl,rfl,rfl⟩,trivial⟩,.inr ⟨lk rfl,lk rfl,lk rfl,trivial⟩,rfl⟩,step m (by omega) bz hr x m2 ay,by have:=Zau _ _ _ ay;show m2.length < m.length;omega⟩
   ·refine Zag [0] Zb3 rfl rfl ⟨rfl,.inl rfl,.inl rfl,rfl⟩ cM (λd' h' hq=>?_) (λd' h' hq=>by obtain ⟨e,l',k',hr,ae,rfl,rfl⟩:=kr m hr hq;exact ⟨rfl,ZbE (Zcu e) l' k' [.old 0] rfl rfl rfl (.inl rfl) rfl rfl rfl (by rw[hr];exact ⟨l',k',ae,rfl⟩)⟩);obtain ⟨x,m2,ay,rfl,rfl⟩:=Zaq hq;refine ⟨?_,?_⟩
    ·refine ⟨[[.str x]],rfl,rfl,⟨rfl,trivial⟩,?_⟩;refine ⟨⟨by simp only[maxLen,List.length_cons,List.length_nil,Yaa];omega,by simp only[List.length_cons,List.length_nil,Yaa];omega⟩,?_⟩;exact aj _ _ _ ⟨([]++[x],m2),[.old 0,.old 1,.old 2,.old 5],⟨rfl,.inr ⟨⟨rfl,.inl rfl⟩,⟨rfl,.inl rfl⟩,⟨rfl,.inl rfl⟩,⟨by rw[Yaf];rfl,rfl,rfl⟩,trivial⟩,.inr ⟨lk rfl,lk rfl,lk rfl,trivial⟩,rfl⟩,step m (by omega) bz hr x m2 ay,by have:=Zau _ _ _ ay;show m2.length < m.length;omega⟩
    ·refine ⟨[[.str x]],rfl,rfl,⟨rfl,trivial⟩,?_⟩;refine ⟨⟨by simp only[maxLen,List.length_cons,List.length_nil,Yaa];omega,by simp only[List.length_cons,List.length_nil,Yaa];omega⟩,?_⟩;exact aj _ _ _ ⟨([]++[x],m2),[.old 0,.old 1,.old 2,.old 5],⟨rfl,.inr ⟨⟨rfl,.inl rfl⟩,⟨rfl,.inl rfl⟩,⟨rfl,.inl rfl⟩,⟨by rw[Yaf];rfl,rfl,rfl⟩,trivial⟩,.inr ⟨lk rfl,lk rfl,lk rfl,trivial⟩,rfl⟩,step m (by omega) bz hr x m2 ay,by have:=Zau _ _ _ ay;show m2.length < m.length;omega⟩
  | cons a0 dW =>
   have fS:=Zck (L:=L) m 0 [44] (by have:=hm.1;omega);refine Zag [0] Zas rfl rfl ⟨rfl,.inl rfl,.inl rfl,rfl⟩ cr (λd' h' hq=>?_) (λd' h' hq=>by cases hq);injection hq with e1 e2;subst e1;subst e2;have hr:((ZaH [44] m).then λ_ l1=>(Zbc l1).then λx l2=>Zch m.length (a0 :: dW++[x]) l2).then (λps l3=>(Za5 (ZaX 48) l3).then λb l4=>.ok ⟨s,o,ps,b⟩ l4)=r:=hr;have q9:dW.length+1+m.length<=3001:=hn;have yg:((a0 :: dW).map ZaT).length=dW.length+1:=by simp
   refine ⟨λ_=>?_,λh=>absurd (show (((a0 :: dW).map ZaT).length:Int) > 0 by omega) h⟩;refine Zag [0] Zdb rfl rfl ⟨rfl,.inl rfl,.inl rfl,rfl⟩ fS (λd' h' hq=>?_) (λd' h' hq=>?_)
   rotate_left
   ·obtain ⟨e,l',k',he,ae,rfl,rfl⟩:=ZaM hq;have hr:r=.bad e:=by rw[<- hr,he];rfl
    exact ⟨rfl,ZbE (Zcu e) l' k' [.old 0] rfl rfl rfl (.inl rfl) rfl rfl rfl (by rw[hr];exact ⟨l',k',ae,rfl⟩)⟩
   obtain ⟨_,m1,fK,rfl,rfl⟩:=Zaq hq;have qL:=ZaA _ _ _ _ fK;rw[fK] at hr;have hr:((Zbc m1).then λx l2=>Zch m.length (a0 :: dW++[x]) l2).then (λps l3=>(Za5 (ZaX 48) l3).then λb l4=>.ok ⟨s,o,ps,b⟩ l4)=r:=hr;have bz:=hm.next (ZaA _) (ZaK _) fK;have cM:=ZdE (L:=L) m1 0 (by omega) (by have:=bz.text;omega);refine ⟨some 60002,(.lead 0 (.lead 2 (.two (.run 1 (.run 3 (.run 4 (.run 5 (.run 6 (.run 7 .done)))))) (.run 3 (.two (.run 1 (.run 4 (.run 5 (.run 6 (.run 7 .done))))) (.run 4 (.run 1 (.run 5 (.run 6 (.run 7 .done)))))))))),rfl,?_⟩;refine ⟨?_,?_⟩
   ·refine Zag [0] Zb3 rfl rfl ⟨rfl,.inl rfl,.inl rfl,rfl⟩ cM (λd' h' hq=>?_) (λd' h' hq=>by obtain ⟨e,l',k',hr,ae,rfl,rfl⟩:=kr m1 hr hq;exact ⟨rfl,ZbE (Zcu e) l' k' [.old 0] rfl rfl rfl (.inl rfl) rfl rfl rfl (by rw[hr];exact ⟨l',k',ae,rfl⟩)⟩);obtain ⟨x,m2,ay,rfl,rfl⟩:=Zaq hq;refine ⟨[[.str x]],rfl,rfl,⟨rfl,trivial⟩,?_⟩;refine ⟨⟨by simp only[maxLen,List.length_cons,List.length_nil,Yaa];omega,by simp only[List.length_cons,List.length_nil,Yaa];omega⟩,?_⟩;exact aj _ _ _ ⟨(a0 :: dW++[x],m2),[.old 0,.old 1,.old 2,.old 5],⟨rfl,.inr ⟨⟨rfl,.inl rfl⟩,⟨rfl,.inl rfl⟩,⟨rfl,.inl rfl⟩,⟨by rw[Yaf];rfl,rfl,rfl⟩,trivial⟩,.inr ⟨lk rfl,lk rfl,lk rfl,trivial⟩,rfl⟩,step m1 (by omega) bz hr x m2 ay,by have:=Zau _ _ _ ay;show m2.length < m.length;omega⟩
   ·refine Zag [0] Zb3 rfl rfl ⟨rfl,.inl rfl,.inl rfl,rfl⟩ cM (λd' h' hq=>?_) (λd' h' hq=>by obtain ⟨e,l',k',hr,ae,rfl,rfl⟩:=kr m1 hr hq;exact ⟨rfl,ZbE (Zcu e) l' k' [.old 0] rfl rfl rfl (.inl rfl) rfl rfl rfl (by rw[hr];exact ⟨l',k',ae,rfl⟩)⟩);obtain ⟨x,m2,ay,rfl,rfl⟩:=Zaq hq;refine ⟨?_,?_⟩
    ·refine ⟨[[.str x]],rfl,rfl,⟨rfl,trivial⟩,?_⟩;refine ⟨⟨by simp only[maxLen,List.length_cons,List.length_nil,Yaa];omega,by simp only[List.length_cons,List.length_nil,Yaa];omega⟩,?_⟩;exact aj _ _ _ ⟨(a0 :: dW++[x],m2),[.old 0,.old 1,.old 2,.old 5],⟨rfl,.inr ⟨⟨rfl,.inl rfl⟩,⟨rfl,.inl rfl⟩,⟨rfl,.inl rfl⟩,⟨by rw[Yaf];rfl,rfl,rfl⟩,trivial⟩,.inr ⟨lk rfl,lk rfl,lk rfl,trivial⟩,rfl⟩,step m1 (by omega) bz hr x m2 ay,by have:=Zau _ _ _ ay;show m2.length < m.length;omega⟩
    ·refine ⟨[[.str x]],rfl,rfl,⟨rfl,trivial⟩,?_⟩;refine ⟨⟨by simp only[maxLen,List.length_cons,List.length_nil,Yaa];omega,by simp only[List.length_cons,List.length_nil,Yaa];omega⟩,?_⟩;exact aj _ _ _ ⟨(a0 :: dW++[x],m2),[.old 0,.old 1,.old 2,.old 5],⟨rfl,.inr ⟨⟨rfl,.inl rfl⟩,⟨rfl,.inl rfl⟩,⟨rfl,.inl rfl⟩,⟨by rw[Yaf];rfl,rfl,rfl⟩,trivial⟩,.inr ⟨lk rfl,lk rfl,lk rfl,trivial⟩,rfl⟩,step m1 (by omega) bz hr x m2 ay,by have:=Zau _ _ _ ay;show m2.length < m.length;omega⟩
end ZN
