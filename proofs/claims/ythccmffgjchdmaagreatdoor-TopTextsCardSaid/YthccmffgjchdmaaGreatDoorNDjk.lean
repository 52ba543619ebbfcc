import Derived.Test.YthccmffgjchdmaaGreatDoorNB1
namespace Go.Dm
open Go Go.Eng Go.RowKit
def ZlL:Op->Bool
 | .alloc _ | .load _ _ | .store _ _ _ | .fieldAddr _ _ _ | .indexAddr _ _ _ | .move _ | .assign _=>true
 | _=>false
def ZAV (o:Oper):Bool:=match o.guard with
 | none=>true
 | some _=>false
def ZjL (i:Nat) (o:Oper):Oper:={ o with after:=⟨{ on:=i,ground:=.data } :: o.after.toList⟩ }
def Zfr (k:Nat):Nat->List Oper->List Oper
 | 0,x :: y :: l=>x :: ZjL k y :: l
 | n+1,x :: l=>x :: Zfr k n l
 | _,l=>l
def ZeQ (k:Nat):Nat->List Oper->List Oper
 | 0,x :: y :: l=>y :: ZjL k x :: l
 | n+1,x :: l=>x :: ZeQ k n l
 | _,l=>l
def ZAm (i:Nat):Nat->List Oper->Bool
 | _,[]=>true
 | j,o :: l=>ZAV o && ZlL o.op && (bif Nat.beq j i || Nat.beq j (i+1) then !(inL (Zac o) i) && !(inL (Zac o) (i+1)) else inL (Zac o) i == inL (Zac o) (i+1)) && ZAm i (j+1) l
theorem ZdX (i:Nat) (o:Oper):Zac (ZjL i o)=i :: Zac o:=rfl
theorem Zfq (k:Nat):∀(n:Nat) (l:List Oper),n+1 < l.length->∀j,(Zfr k n l)[j]?=if j=n+1 then (l[j]?).map (ZjL k) else l[j]?
 | 0,[],h,_=>by simp at h
 | 0,[_],h,_=>by simp at h
 | 0,x :: y :: l,_,j=>by
  match j with
  | 0=>simp[Zfr]
  | 1=>simp[Zfr]
  | j+2=>simp[Zfr]
 | n+1,[],h,_=>by simp at h
 | n+1,x :: l,h,j=>by
  match j with
  | 0=>simp[Zfr]
  | j+1 =>
   have:=Zfq k n l (by simpa using h) j;simp only[Zfr,List.getElem?_cons_succ,this];by_cases hj:j=n+1
   ·rw[if_pos hj,if_pos (by omega)]
   ·rw[if_neg hj,if_neg (by omega)]
theorem ZoL (k:Nat):∀(n:Nat) (l:List Oper),n+1 < l.length->(ZeQ k n l)[n]?=l[n+1]?/\(ZeQ k n l)[n+1]?=(l[n]?).map (ZjL k)/\∀j,j≠n->j≠n+1->(ZeQ k n l)[j]?=l[j]?
 | 0,[],h=>by simp at h
 | 0,[_],h=>by simp at h
 | 0,x :: y :: l,_=>⟨by simp[ZeQ],by simp[ZeQ],λj h0 h1=>by
  match j,h0,h1 with
  | j+2,_,_=>simp[ZeQ]⟩
 | n+1,[],h=>by simp at h
 | n+1,x :: l,h=>by
  obtain ⟨h1,h2,h3⟩:=ZoL k n l (by simpa using h);refine ⟨by simp only[ZeQ,List.getElem?_cons_succ];exact h1,by simp only[ZeQ,List.getElem?_cons_succ];exact h2,λj j9 pR=>?_⟩
  match j with
  | 0=>simp[ZeQ]
  | j+1=>simp only[ZeQ,List.getElem?_cons_succ];exact h3 j (by omega) (by omega)
theorem ZiM (k:Nat):∀(n:Nat) (l:List Oper),(Zfr k n l).length=l.length
 | 0,[]=>rfl
 | 0,[_]=>rfl
 | 0,_ :: _ :: _=>rfl
 | _+1,[]=>rfl
 | n+1,_ :: l=>by simp only[Zfr,List.length_cons,ZiM k n l]
theorem ZiL (k:Nat):∀(n:Nat) (l:List Oper),(ZeQ k n l).length=l.length
 | 0,[]=>rfl
 | 0,[_]=>rfl
 | 0,_ :: _ :: _=>rfl
 | _+1,[]=>rfl
 | n+1,_ :: l=>by simp only[ZeQ,List.length_cons,ZiL k n l]
theorem ZpU (k:Nat):∀(n:Nat) (l:List Oper),(Zfr k n l).filterMap (·.dst)=l.filterMap (·.dst)
 | 0,[]=>rfl
 | 0,[_]=>rfl
 | 0,x :: y :: l=>rfl
 | _+1,[]=>rfl
 | n+1,x :: l=>by simp only[Zfr,List.filterMap_cons,ZpU k n l]
theorem Zlw (k:Nat):∀(n:Nat) (l:List Oper) (d:Nat),d∈(ZeQ k n l).filterMap (·.dst)->d∈l.filterMap (·.dst)
 | 0,[],_,h=>h
 | 0,[_],_,h=>h
 | 0,x :: y :: l,d,h=>by
  simp only[ZeQ,YaO,Yav] at h ⊢;obtain ⟨o,ho,hd⟩:=h;rcases ho with rfl | rfl | ho
  ·exact ⟨o,.inr (.inl rfl),hd⟩
  ·exact ⟨x,.inl rfl,hd⟩
  ·exact ⟨o,.inr (.inr ho),hd⟩
 | _+1,[],_,h=>h
 | n+1,x :: l,d,h=>by
  simp only[ZeQ,YaO,Yav] at h ⊢;obtain ⟨o,ho,hd⟩:=h;rcases ho with rfl | ho
  ·exact ⟨o,.inl rfl,hd⟩
  ·obtain ⟨o',h1,h2⟩:=YaO.1 (Zlw k n l d (YaO.2 ⟨o,ho,hd⟩));exact ⟨o',.inr h1,h2⟩
theorem Zjn (i:Nat):∀(l:List Oper) (j:Nat),ZAm i j l=true->∀(k:Nat) (o:Oper),l[k]?=some o->o.guard=none/\ZlL o.op=true/\(if j+k=i\/j+k=i+1 then i ∉ Zac o/\i+1 ∉ Zac o else (i∈Zac o↔i+1∈Zac o))
 | [],_,_,k,o,h=>by simp at h
 | x :: l,j,hs,k,o,h=>by
  have inL_mem:∀(m:List Nat) (z:Nat),inL m z=true↔z∈m:=by
   intro m z
   induction m with
   | nil=>simp[inL]
   | cons y m ih =>
    rw[Yav,<- ih,show inL (y :: m) z=(bif Nat.beq y z then true else inL m z) from rfl];cases hb:Nat.beq y z with
    | true=>simp[Nat.eq_of_beq_eq_true hb]
    | false =>
     have:z≠y:=λh=>by rw[h,YaY] at hb;cases hb
     simp[this]
  simp only[ZAm,Yag] at hs;obtain ⟨⟨⟨h1,h2⟩,h3⟩,h4⟩:=hs
  match k with
  | 0 =>
   simp at h;subst h;refine ⟨?_,h2,?_⟩
   ·unfold ZAV at h1;split at h1
    ·assumption
    ·cases h1
   ·rw[Nat.add_zero];by_cases hj:j=i\/j=i+1
    ·rw[if_pos hj];have hb:(Nat.beq j i || Nat.beq j (i+1))=true:=by
      simp only[YaZ];rcases hj with hj | hj
      ·exact .inl (by rw[hj];exact YaY i)
      ·exact .inr (by rw[hj];exact YaY (i+1))
     rw[hb] at h3;simp only[cond_true,Yag,YaS] at h3;refine ⟨λhm=>?_,λhm=>?_⟩
     ·rw[(inL_mem _ _).2 hm] at h3;cases h3.1
     ·rw[(inL_mem _ _).2 hm] at h3;cases h3.2
    ·rw[if_neg hj];have hb:(Nat.beq j i || Nat.beq j (i+1))=false:=by simp only[YbQ];exact ⟨Zc5 (by omega),Zc5 (by omega)⟩
     rw[hb] at h3;simp only[cond_false,beq_iff_eq] at h3;rw[<- inL_mem,<- inL_mem,h3]
  | k+1 =>have:=Zjn i l (j+1) h4 k o (by simpa using h);rw[show j+1+k=j+(k+1) by omega] at this;exact this
section
variable {P:Program}
theorem Zyg (s:Sem Value) (w:World):(∃x w',(Sem.bind s λy=>Sem.pure (Next.value y)).run P w=.ok (.value x) w')\/∃h w',(Sem.bind s λy=>Sem.pure (Next.value y)).run P w=.halt h w':=by
 rw[Sem.run_bind'];cases s.run P w with
 | ok x w'=>exact .inl ⟨x,w',rfl⟩
 | halt h w'=>exact .inr ⟨h,w',rfl⟩
theorem Zyk (s:Sem Unit) (w:World):(∃w',(Sem.bind s λ_=>Sem.pure Next.skip).run P w=.ok .skip w')\/∃h w',(Sem.bind s λ_=>Sem.pure Next.skip).run P w=.halt h w':=by
 rw[Sem.run_bind'];cases s.run P w with
 | ok x w'=>exact .inl ⟨w',rfl⟩
 | halt h w'=>exact .inr ⟨h,w',rfl⟩
theorem ZtW {o:Oper} (h:ZlL o.op=true) (ρ:Operand->Value) (w:World):(∃x w',(execOp ρ o).run P w=.ok (.value x) w')\/(∃w',(execOp ρ o).run P w=.ok .skip w')\/∃e w',(execOp ρ o).run P w=.halt e w':=by
 obtain ⟨dst,op,ty,pos,af,gd⟩:=o;have hv:∀s:Sem Value,execOp ρ ⟨dst,op,ty,pos,af,gd⟩=Sem.bind s (λy=>Sem.pure (Next.value y))->((∃x w',(execOp ρ ⟨dst,op,ty,pos,af,gd⟩).run P w=.ok (.value x) w')\/(∃w',(execOp ρ ⟨dst,op,ty,pos,af,gd⟩).run P w=.ok .skip w')\/∃e w',(execOp ρ ⟨dst,op,ty,pos,af,gd⟩).run P w=.halt e w'):=λs e=>by
  rcases Zyg (P:=P) s w with h | h
  ·exact .inl (by rw[e];exact h)
  ·exact .inr (.inr (by rw[e];exact h))
 cases op<;>first | (have hb:false=true:=h;exact absurd hb (by decide)) | skip
 case alloc e=>exact hv (Instr.alloc e true (.tuple #[])) rfl
 case load t x=>exact hv (Instr.loadAt t (ρ x)) rfl
 case store t a x =>
  rcases Zyk (P:=P) (Instr.storeAt t (ρ a) (ρ x)) w with h | h
  ·exact .inr (.inl h)
  ·exact .inr (.inr h)
 case fieldAddr t x f=>exact hv (Instr.fieldAt t (ρ x) f) rfl
 case indexAddr t x y=>exact hv (Instr.indexAt t (ρ x) (ρ y)) rfl
 case move x=>exact .inl ⟨_,w,rfl⟩
 case assign x=>exact .inl ⟨_,w,rfl⟩
theorem Zya {o:Oper} (hp:ZlL o.op=true) {a:Act} {w:World} {K K':Act->World->Prop} {Q:Exit->Act->World->Prop} (h:o.wp P a w K Q) (h':o.wp P a w K' Q):o.wp P a w (λa w=>K a w/\K' a w) Q:=by
 unfold Oper.wp at *;rcases ZtW (P:=P) hp a.eval w with ⟨x,w',e⟩ | ⟨w',e⟩ | ⟨x,w',e⟩
 ·rw[e] at h h' ⊢;exact ⟨h,h'⟩
 ·rw[e] at h h' ⊢;exact ⟨h,h'⟩
 ·rw[e] at h h' ⊢;cases x<;>exact h
theorem Zev {ops ops':Array Oper} {Q:Exit->Act->World->Prop} {k k':Nat} {o:Oper} {j:Nat} (h:ops[k]?=some o) (h':ops'[k']?=some (ZjL j o)\/ops'[k']?=some o) (hg:o.guard=none) {K:Act->World->Prop} {a:Act} {w:World} :
  wpOp P ops' Q k' K a w↔wpOp P ops Q k K a w:=by
 have hw:∀y,Region.wanted o y=true:=λy=>by unfold Region.wanted;rw[hg]
 have qz:∀y,Region.wanted (ZjL j o) y=true:=λy=>by unfold Region.wanted;rw[show (ZjL j o).guard=none from hg]
 rcases h' with h' | h'
 ·unfold wpOp;rw[h,h'];simp only[hw,qz,if_true];exact Ya3
 ·unfold wpOp;rw[h,h'];simp only[hw,if_true]
variable {L:List Oper} {i:Nat} (hi:i+1 < L.length) (hs:ZAm i 0 L=true) {Q:Exit->Act->World->Prop}
include hi hs
theorem ZAi:∀(fuel:Nat) (listed:Array Bool) (a:Act) (w:World),listed.size=L.length->listed.getD i false=true->wpAny P .any ⟨Zfr i i L⟩ Q fuel listed a w->wpAny P .any ⟨L⟩ Q fuel listed a w:=by
 have hlen:(Zfr i i L).length=L.length:=ZiM _ _ _;have rd:∀(listed:Array Bool),listed.size=L.length->listed.getD i false=true->∀k,(k∈Region.ready .any ⟨Zfr i i L⟩ listed↔k∈Region.ready .any ⟨L⟩ listed):=by
  intro listed ah hl k;rw[Za9 (by simpa [hlen] using ah),Za9 (by simpa using ah)];have e1:(⟨Zfr i i L⟩:Array Oper)[k]?=(Zfr i i L)[k]?:=by simp
  have e2:(⟨L⟩:Array Oper)[k]?=L[k]?:=by simp
  rw[e1,e2,Zfq i i L hi k];have e3:(⟨Zfr i i L⟩:Array Oper).size=(⟨L⟩:Array Oper).size:=hlen;rw[e3];refine and_congr_right λhk=>and_congr_right λ_=>?_;by_cases bJ:k=i+1
  ·rw[if_pos bJ];constructor
   ·intro h o ho e he;exact h (ZjL i o) (by rw[ho];rfl) e (by rw[ZdX];exact Yad _ he)
   ·intro h o' aP e he;obtain ⟨o,ho,rfl⟩:=YaB.1 aP;rw[ZdX,Yav] at he;rcases he with rfl | he
    ·exact hl
    ·exact h o ho e he
  ·rw[if_neg bJ]
 intro fuel
 induction fuel with
 | zero =>intro listed a w ah hl h;refine ⟨?_,h.2⟩;rw[Ya8];intro k hk;have:=(rd listed ah hl k).2 hk;rw[h.1] at this;simp at this
 | succ fuel ih =>
  intro listed a w ah hl h;refine ⟨λh0=>h.1 ?_,λk hk=>?_⟩
  ·rw[Ya8];intro k hk;have:=(rd listed ah hl k).1 hk;rw[h0] at this;simp at this
  ·have wh:=(rd listed ah hl k).2 hk;have aB:k < L.length:=((Za9 (by simpa using ah)).1 hk).1;have hw:=wpOp_mono (K':=wpAny P .any ⟨L⟩ Q fuel (listed.setIfInBounds k true)) (λa w hx=>ih _ a w (by simpa using ah) (by rw[ZbM (by omega)];split<;>simp_all) hx) (h.2 k wh);have ho:(⟨L⟩:Array Oper)[k]?=some L[k]:=by simp[aB]
   have hg:=(Zjn i L 0 hs k L[k] (by simp[aB])).1;refine (Zev (j:=i) ho ?_ hg).1 hw;have e1:(⟨Zfr i i L⟩:Array Oper)[k]?=(Zfr i i L)[k]?:=by simp
   rw[e1,Zfq i i L hi k];by_cases bJ:k=i+1
   ·rw[if_pos bJ];left;simp[aB]
   ·rw[if_neg bJ];right;simp[aB]
def sw (i k:Nat):Nat:=if k=i then i+1 else if k=i+1 then i else k
omit hi hs in
theorem ZvT (i k:Nat):sw i (sw i k)=k:=by unfold sw;(repeat' split)<;>omega
theorem ZAh:∀(fuel:Nat) (lB lL:Array Bool) (a:Act) (w:World),lB.size=L.length->lL.size=L.length->(∀k,lB.getD k false=lL.getD (sw i k) false)->lL.getD (i+1) false=true->wpAny P .any ⟨ZeQ i i L⟩ Q fuel lB a w->wpAny P .any ⟨L⟩ Q fuel lL a w:=by
 have hlen:(ZeQ i i L).length=L.length:=ZiL _ _ _;obtain ⟨b1,b2,b3⟩:=ZoL i i L hi;have nz:∀k o,L[k]?=some o->(⟨ZeQ i i L⟩:Array Oper)[sw i k]?=some (ZjL i o)/\k=i\/(⟨ZeQ i i L⟩:Array Oper)[sw i k]?=some o/\k≠i:=by
  intro k o ho;have e1:(⟨ZeQ i i L⟩:Array Oper)[sw i k]?=(ZeQ i i L)[sw i k]?:=by simp
  rw[e1];unfold sw;by_cases h1:k=i
  ·rw[if_pos h1];subst h1;exact .inl ⟨by rw[b2,ho];rfl,rfl⟩
  ·rw[if_neg h1];by_cases h2:k=i+1
   ·rw[if_pos h2];exact .inr ⟨by rw[b1,<- h2,ho],h1⟩
   ·rw[if_neg h2];exact .inr ⟨by rw[b3 k h1 h2,ho],h1⟩
 have sT:∀k,sw i k < L.length↔k < L.length:=by
  intro k;unfold sw
  (repeat' split)<;>omega
 have rd:∀(lB lL:Array Bool),lB.size=L.length->lL.size=L.length->(∀k,lB.getD k false=lL.getD (sw i k) false)->lL.getD (i+1) false=true->∀k,(sw i k∈Region.ready .any ⟨ZeQ i i L⟩ lB↔k∈Region.ready .any ⟨L⟩ lL):=by
  intro lB lL hB hL hr hl k;have ca:∀k,lB.getD (sw i k) false=lL.getD k false:=λk=>by rw[hr,ZvT]
  have xA:lB.getD i false=true:=by rw[hr];unfold sw;rw[if_pos rfl];exact hl
  rw[Za9 (by simpa [hlen] using hB),Za9 (by simpa using hL),ca];have e3:(⟨ZeQ i i L⟩:Array Oper).size=L.length:=hlen;have e4:(⟨L⟩:Array Oper).size=L.length:=rfl;rw[e3,e4,sT];refine and_congr_right λhk=>and_congr_right λ_=>?_;have ho:L[k]?=some L[k]:=by simp[hk]
  have e2:(⟨L⟩:Array Oper)[k]?=L[k]?:=by simp
  obtain ⟨_,_,lz⟩:=Zjn i L 0 hs k L[k] ho;rw[YaA] at lz;have key:(∀e∈Zac L[k],lB.getD e false=true)↔∀e∈Zac L[k],lL.getD e false=true:=by
   by_cases hc:k=i\/k=i+1
   ·rw[if_pos hc] at lz;have aC:∀e∈Zac L[k],e≠i/\e≠i+1:=λe he=>⟨λh=>lz.1 (h▸he),λh=>lz.2 (h▸he)⟩;have dC:∀e∈Zac L[k],lB.getD e false=lL.getD e false:=λe he=>by rw[hr];unfold sw;rw[if_neg (aC e he).1,if_neg (aC e he).2]
    exact ⟨λh e he=>by rw[<- dC e he];exact h e he,λh e he=>by rw[dC e he];exact h e he⟩
   ·rw[if_neg hc] at lz;have qL:∀e,e∈Zac L[k]↔sw i e∈Zac L[k]:=by
     intro e;unfold sw;by_cases h1:e=i
     ·rw[if_pos h1,h1];exact lz
     ·rw[if_neg h1];by_cases h2:e=i+1
      ·rw[if_pos h2,h2];exact lz.symm
      ·rw[if_neg h2]
    exact ⟨λh e he=>by rw[<- ca];exact h _ ((qL e).1 he),λh e he=>by rw[hr];exact h _ ((qL e).1 he)⟩
  rw[e2];rcases nz k L[k] ho with ⟨h1,h2⟩ | ⟨h1,h2⟩
  ·rw[h1,ho];constructor
   ·intro h o aP e he;have:=Ya2 aP;subst this;exact key.1 (λe he=>h _ rfl e (by rw[ZdX];exact Yad _ he)) e he
   ·intro h o aP e he;have:=Ya2 aP;subst this;rw[ZdX,Yav] at he;rcases he with rfl | he
    ·exact xA
    ·exact key.2 (h _ rfl) e he
  ·rw[h1,ho];constructor
   ·intro h o aP e he;have:=Ya2 aP;subst this;exact key.1 (h _ rfl) e he
   ·intro h o aP e he;have:=Ya2 aP;subst this;exact key.2 (h _ rfl) e he
 intro fuel
 induction fuel with
 | zero =>intro lB lL a w hB hL hr hl h;refine ⟨?_,h.2⟩;rw[Ya8];intro k hk;have:=(rd lB lL hB hL hr hl k).2 hk;rw[h.1] at this;simp at this
 | succ fuel ih =>
  intro lB lL a w hB hL hr hl h;refine ⟨λh0=>h.1 ?_,λk hk=>?_⟩
  ·rw[Ya8];intro k hk;have:=(rd lB lL hB hL hr hl (sw i k)).1 (by rw[ZvT];exact hk);rw[h0] at this;simp at this
  ·have wg:=(rd lB lL hB hL hr hl k).2 hk;have aB:k < L.length:=((Za9 (by simpa using hL)).1 hk).1;have hw:=wpOp_mono (K':=wpAny P .any ⟨L⟩ Q fuel (lL.setIfInBounds k true)) (λa w hx=>ih (lB.setIfInBounds (sw i k) true) (lL.setIfInBounds k true) a w (by simpa using hB) (by simpa using hL) (λq=>by
    rw[ZbM (by rw[hB];exact (sT k).2 aB),ZbM (by omega),hr];by_cases hq:q=sw i k
    ·rw[if_pos hq,if_pos (by rw[hq,ZvT])]
    ·rw[if_neg hq,if_neg (λh=>hq (by rw[<- h,ZvT]))]) (by rw[ZbM (by omega)];split<;>simp_all) hx) (h.2 (sw i k) wg)
   have ho:(⟨L⟩:Array Oper)[k]?=some L[k]:=by simp[aB]
   have hg:=(Zjn i L 0 hs k L[k] (by simp[aB])).1;refine (Zev (j:=i) ho ?_ hg).1 hw;rcases nz k L[k] (by simp[aB]) with ⟨h1,_⟩ | ⟨h1,_⟩
   ·exact .inl h1
   ·exact .inr h1
theorem ZAj:∀(fuel:Nat) (listed:Array Bool) (a:Act) (w:World),listed.size=L.length->listed.getD i false=false->listed.getD (i+1) false=false ->
  wpAny P .any ⟨Zfr i i L⟩ Q fuel listed a w->wpAny P .any ⟨ZeQ i i L⟩ Q fuel listed a w->wpAny P .any ⟨L⟩ Q fuel listed a w:=by
 have mR:(Zfr i i L).length=L.length:=ZiM _ _ _;have oh:(ZeQ i i L).length=L.length:=ZiL _ _ _;obtain ⟨b1,b2,b3⟩:=ZoL i i L hi;have eL:∀k:Nat,(⟨L⟩:Array Oper)[k]?=L[k]?:=λk=>by simp
 have eA:∀k:Nat,(⟨Zfr i i L⟩:Array Oper)[k]?=(Zfr i i L)[k]?:=λk=>by simp
 have eB:∀k:Nat,(⟨ZeQ i i L⟩:Array Oper)[k]?=(ZeQ i i L)[k]?:=λk=>by simp
 have rA:∀(listed:Array Bool),listed.size=L.length->∀k,k≠i+1->k∈Region.ready .any ⟨L⟩ listed->k∈Region.ready .any ⟨Zfr i i L⟩ listed:=by intro listed ah k hk h;rw[Za9 (by show listed.size=L.length;exact ah)] at h;rw[Za9 (by show listed.size=(Zfr i i L).length;rw[mR];exact ah)];refine ⟨by show k < (Zfr i i L).length;rw[mR];exact h.1,h.2.1,λo ho=>h.2.2 o ?_⟩;rw[eA,Zfq i i L hi k,if_neg hk] at ho;rw[eL];exact ho
 have uS:∀(listed:Array Bool),listed.size=L.length->∀k,k∈Region.ready .any ⟨Zfr i i L⟩ listed->k∈Region.ready .any ⟨L⟩ listed:=by
  intro listed ah k h;rw[Za9 (by show listed.size=(Zfr i i L).length;rw[mR];exact ah)] at h;rw[Za9 (by show listed.size=L.length;exact ah)];refine ⟨by have:=h.1;show k < L.length;rw[<- mR];exact this,h.2.1,λo ho e he=>?_⟩;rw[eL] at ho;by_cases hk:k=i+1
  ·exact h.2.2 (ZjL i o) (by rw[eA,Zfq i i L hi k,if_pos hk,ho];rfl) e (by rw[ZdX];exact Yad _ he)
  ·exact h.2.2 o (by rw[eA,Zfq i i L hi k,if_neg hk,ho]) e he
 have rB:∀(listed:Array Bool),listed.size=L.length->∀k,k≠i->k≠i+1->k∈Region.ready .any ⟨L⟩ listed->k∈Region.ready .any ⟨ZeQ i i L⟩ listed:=by intro listed ah k hk bJ h;rw[Za9 (by show listed.size=L.length;exact ah)] at h;rw[Za9 (by show listed.size=(ZeQ i i L).length;rw[oh];exact ah)];refine ⟨by show k < (ZeQ i i L).length;rw[oh];exact h.1,h.2.1,λo ho=>h.2.2 o ?_⟩;rw[eB,b3 k hk bJ] at ho;rw[eL];exact ho
 have sU:∀(listed:Array Bool),listed.size=L.length->listed.getD i false=false->i+1∈Region.ready .any ⟨L⟩ listed->i∈Region.ready .any ⟨ZeQ i i L⟩ listed:=by intro listed ah hl h;rw[Za9 (by show listed.size=L.length;exact ah)] at h;rw[Za9 (by show listed.size=(ZeQ i i L).length;rw[oh];exact ah)];refine ⟨by show i < (ZeQ i i L).length;omega,hl,λo ho=>h.2.2 o ?_⟩;rw[eB,b1] at ho;rw[eL];exact ho
 intro fuel
 induction fuel with
 | zero =>
  intro listed a w ah h0 h1 hA hB;refine ⟨?_,hA.2⟩;rw[Ya8];intro k hk;by_cases bJ:k=i+1
  ·have:=sU listed ah h0 (bJ▸hk);rw[hB.1] at this;simp at this
  ·have:=rA listed ah k bJ hk;rw[hA.1] at this;simp at this
 | succ fuel ih =>
  intro listed a w ah h0 h1 hA hB;refine ⟨λhn=>hA.1 ?_,λk hk=>?_⟩
  ·rw[Ya8];intro k hk;have:=uS listed ah k hk;rw[hn] at this;simp at this
  have aB:k < L.length:=((Za9 (by simpa using ah)).1 hk).1;have ho:(⟨L⟩:Array Oper)[k]?=some L[k]:=by simp[aB]
  obtain ⟨hg,hpl,_⟩:=Zjn i L 0 hs k L[k] (by simp[aB]);by_cases pQ:k=i
  ·have hw:=wpOp_mono (K':=wpAny P .any ⟨L⟩ Q fuel (listed.setIfInBounds k true)) (λa w hx=>ZAi hi hs fuel _ a w (by simpa using ah) (by rw[ZbM (by omega),if_pos pQ.symm]) hx) (hA.2 k (rA listed ah k (by omega) hk));refine (Zev (j:=i) ho (.inr ?_) hg).1 hw;rw[eA,Zfq i i L hi k,if_neg (by omega)];simp[aB]
  by_cases bJ:k=i+1
  ·have hw:=wpOp_mono (K':=wpAny P .any ⟨L⟩ Q fuel (listed.setIfInBounds k true)) (λa w hx=>ZAh hi hs fuel (listed.setIfInBounds i true) (listed.setIfInBounds k true) a w (by simpa using ah) (by simpa using ah) (λq=>by
    rw[ZbM (by omega),ZbM (by omega)];unfold sw;by_cases hq:q=i
    ·rw[if_pos hq,if_pos hq,if_pos bJ.symm]
    ·rw[if_neg hq,if_neg hq];by_cases lG:q=i+1
     ·rw[if_pos lG,if_neg (by omega),lG,h1,h0]
     ·rw[if_neg lG,if_neg (by omega)]) (by rw[ZbM (by omega),if_pos bJ.symm]) hx) (hB.2 i (sU listed ah h0 (bJ▸hk)))
   refine (Zev (k':=i) (j:=i) ho (.inr ?_) hg).1 hw;rw[eB,b1,<- bJ];simp[aB]
  ·have vp:=hA.2 k (rA listed ah k bJ hk);have vo:=hB.2 k (rB listed ah k pQ bJ hk);have iE:=(Zev (P:=P) (ops':=⟨Zfr i i L⟩) (k':=k) (Q:=Q) (j:=i) (K:=wpAny P .any ⟨Zfr i i L⟩ Q fuel (listed.setIfInBounds k true)) (a:=a) (w:=w) ho (.inr (by rw[eA,Zfq i i L hi k,if_neg bJ];simp[aB])) hg).1 vp;have iD:=(Zev (P:=P) (ops':=⟨ZeQ i i L⟩) (k':=k) (Q:=Q) (j:=i) (K:=wpAny P .any ⟨ZeQ i i L⟩ Q fuel (listed.setIfInBounds k true)) (a:=a) (w:=w) ho (.inr (by rw[eB,b3 k pQ bJ];simp[aB])) hg).1 vo;have both:wpOp P ⟨L⟩ Q k (λa w=>wpAny P .any ⟨Zfr i i L⟩ Q fuel (listed.setIfInBounds k true) a w/\wpAny P .any ⟨ZeQ i i L⟩ Q fuel (listed.setIfInBounds k true) a w) a w:=by
    unfold wpOp at iE iD ⊢;rw[ho] at iE iD ⊢;have fY:∀y,Region.wanted L[k] y=true:=λy=>by unfold Region.wanted;rw[hg]
    simp only[fY] at iE iD ⊢;rw[if_pos trivial] at iE iD ⊢;rcases iE with hA | hA
    ·rcases iD with hB | hB
     ·exact .inl (Zya hpl hA hB)
     ·exact .inr hB
    ·exact .inr hA
   exact wpOp_mono (λa w hx=>ih _ a w (by simpa using ah) (by rw[ZbM (by omega),if_neg (λh=>pQ h.symm)];exact h0) (by rw[ZbM (by omega),if_neg (λh=>bJ h.symm)];exact h1) hx.1 hx.2) both
end
section
variable {P:Program} {T:Tab} {F:FuncId->Bool} {C:Ctx} {n:Nat}
theorem ZuY [CA] (hT:TabOk P T) (hF:∀g,F g=true->fnOk P g=true) {id:Nat} {ops:Array Oper} (S:List Nat) (hs:∀k∈ZbK (.region id ops true),k < n) (hm:∀k∈ZbK (.region id ops true),inL S k=true)
  {env:Env} {hh:Zae} {df:List Deferred} {Q:Post} {pp:Option Nat} (h:ZsV P T F C.G ops Q pp env hh df) {a:Act} {w:World} (hr:Rel C n ⟨env,hh,df⟩ a w) :
  wpAny P .any ops (λe a' w'=>ZaL S a a'/\∃x st',Q x st'/\XOk e x st' a' w' C n) ops.size (Array.replicate ops.size false) a { w with drawn:=w.drawn+1 }:=by
 have jl:∀pp,ZfN pp ops ops.toList [] []=true->∀(i:Nat) (o:Oper),ops.toList[i]?=some o->(∀e∈Zac o,e < i)/\∀(k:Nat) (p:Oper),(ops.toList.take i)[k]?=some p->Zdp pp ops o p=true->Nat.testBit (ZaP (ZaF (ops.toList.take i)) (Zac o)) k=true:=λpp cp i o hi=>by have:=Zh4 ops.toList [] (by simpa [ZaF] using cp) i o hi;simpa using this
 have dQ:Rel C n ⟨env,hh,df⟩ a { w with drawn:=w.drawn+1 }:=by obtain ⟨h1,h2,β,V,h3,h4⟩:=hr;exact ⟨h1,h2,β,V,h3.drew _,λs=>Zab.mono (w:=w) (w':={ w with drawn:=w.drawn+1 }) (V:=V) (LeH.refl hh β) (λk hk=>⟨hk,rfl⟩) _ _ (h4 s)⟩
 have ba:∀i,(Array.replicate ops.size false).getD i false=decide (i < ([]:List Oper).length):=λi=>by rw[Yao,Ya0];split<;>simp
 unfold ZsV at h;cases nP:Zzm pp with
 | false =>
  rw[nP] at h;obtain ⟨cp,hv⟩:=h;refine Zju hT hF S hs hm (Qp:=λdp=>∀(e:Env) (h:Zae),Q (.pan dp) ⟨e,h,df⟩) (jl pp cp) [] ops.toList [] (by simp) (by simpa [ZaF,Za6] using hv) (λo ho=>?_) (λi o hi aG=>?_) (λdp e h' ch a' w' hq hx hk=>⟨hk,.pan dp,_,hq e h',hx⟩) (λfuel listed a' w' st hK hr hk ah hl _=>?_) ops.size (Array.replicate ops.size false) a _ (by simp) (YaC YbD (by simp)) ba dQ (ZaL.refl _ _)
  ·simp at ho
  ·have:=(Yac.1 hi).1;simp at aG;simp at this;omega
  ·have lE:Region.ready .any ops listed=[]:=by
    simp only[Region.ready,Yb0,Ya1];intro i hi;have:=hl i;rw[decide_eq_true (by simpa using hi)] at this;have aG:listed.getD i true=true:=by rw[Yao] at this ⊢;rw[YaD (by omega)] at this ⊢;exact this
    rw[aG];simp
   obtain ⟨aw,dG,jH⟩:=ZcF ops.toList 0 (by simp) st hr hK;exact wpAny_done lE ⟨hk,.normal,aw,jH,dG⟩ fuel
 | true =>rw[nP] at h;obtain ⟨ms,cp,hv⟩:=h;simp only[Yag] at cp;have qO:=Zjv (ks:=Zhw 0 ms) ops.toList [] 0 (by simpa [ZaF] using cp.2) rfl;refine ZkT hT hF S hs hm (Q:=Q) (K:=Q .normal) (a:=a) (Zhw 0 ms) (jl (Zv6 pp) cp.1) (λi o hi=>by have:=qO i o hi;simpa using this) (λx st e a' w' hq hx hk=>⟨hk,x,st,by cases x<;>exact hq,hx⟩) ms ops.toList [] env hh df (by simp) (λk hk=>hk) hv ops.size (Array.replicate ops.size false) a _ (by simp) (YaC YbD (by simp)) ba dQ (ZaL.refl _ _)
theorem Zq9 (hT:TabOk P T) (hF:∀g,F g=true->fnOk P g=true) {id:Nat} {ops:Array Oper} (S:List Nat) (hs:∀k∈ZbK (.region id ops true),k < n) (hm:∀k∈ZbK (.region id ops true),inL S k=true)
  {env:Env} {hh:Zae} {df:List Deferred} {Q:Post} {pp:Option Nat} (h:Zxt P T F C.G ops Q pp env hh df) {a:Act} {w:World} (hr:Rel C n ⟨env,hh,df⟩ a w) :
  wpAny P .any ops (λe a' w'=>ZaL S a a'/\∃x st',Q x st'/\XOk e x st' a' w' C n) ops.size (Array.replicate ops.size false) a { w with drawn:=w.drawn+1 }:=by
 unfold Zxt at h;cases ha:Zzn pp with
 | true =>rw[ha] at h;obtain ⟨t,hc,h⟩:=h;simp only[Yag] at hc;exact Zqg hT hF (id:=id) S hs hm hc.1 (.inl ⟨rfl,hc.2⟩) h hr
 | false =>rw[ha] at h;exact @ZuY P T F C n (CA.mk (caB pp) (caF pp) (caM pp) (caS pp)) hT hF id ops S hs hm env hh df Q pp h a w hr
def ZA0:Option Nat->Bool
 | some p=>Nat.ble 100000 p
 | none=>false
def ZAk:Option Nat->Option Nat
 | some p=>some (p - 100000)
 | none=>none
def ZBQ (P:Program) (T:Tab) (F:FuncId->Bool) (G:Gl) (ops:Array Oper) (Q:Post) (pp:Option Nat) (env:Env) (h:Zae) (df:List Deferred):Prop :=
 bif ZA0 pp then ∃i:Nat,(Nat.ble (i+2) ops.toList.length && ZAm i 0 ops.toList)=true/\Zxt P T F G ⟨Zfr i i ops.toList⟩ Q (ZAk pp) env h df/\Zxt P T F G ⟨ZeQ i i ops.toList⟩ Q (ZAk pp) env h df
 else ZBz P T F G ops Q pp env h df
theorem ZpA (hT:TabOk P T) (hF:∀g,F g=true->fnOk P g=true) (hM:P.follows .mixedOrders=true) {id:Nat} {ops:Array Oper} (S:List Nat) (hs:∀k∈ZbK (.region id ops true),k < n) (hm:∀k∈ZbK (.region id ops true),inL S k=true)
  {env:Env} {hh:Zae} {df:List Deferred} {Q:Post} (h:∃pp:Option Nat,ZBQ P T F C.G ops Q pp env hh df) {a:Act} {w:World} (hr:Rel C n ⟨env,hh,df⟩ a w) :
  (Code.region id ops true).wp P (λe a' w'=>ZaL S a a'/\∃x st',Q x st'/\XOk e x st' a' w' C n) a w:=by
 obtain ⟨pp,h⟩:=h;unfold ZBQ at h;cases hb:ZA0 pp with
 | false=>rw[hb] at h;exact Zlb hT hF hM S hs hm ⟨pp,h⟩ hr
 | true =>
  rw[hb] at h;obtain ⟨i,hc,h1,h2⟩:=h;simp only[Yag] at hc;have hi:i+1 < ops.toList.length:=by have:=Yau hc.1;omega
  refine wp_region_any hM ?_;have mR:(Zfr i i ops.toList).length=ops.size:=by rw[ZiM];simp
  have oh:(ZeQ i i ops.toList).length=ops.size:=by rw[ZiL];simp
  have mA:ZbK (.region id ⟨Zfr i i ops.toList⟩ true)=ZbK (.region id ops true):=ZpU _ _ _;have a1:=Zq9 hT hF (id:=id) S (by rw[mA];exact hs) (by rw[mA];exact hm) h1 hr;have a2:=Zq9 hT hF (id:=id) S (λk hk=>hs k (Zlw _ _ _ k hk)) (λk hk=>hm k (Zlw _ _ _ k hk)) h2 hr;rw[show (⟨Zfr i i ops.toList⟩:Array Oper).size=ops.size from mR] at a1;rw[show (⟨ZeQ i i ops.toList⟩:Array Oper).size=ops.size from oh] at a2;have hz:∀k,(Array.replicate ops.size false).getD k false=false:=λk=>by rw[Yao,Ya0];split<;>simp
  exact ZAj hi hc.2 ops.size _ a _ (by simp) (hz i) (hz (i+1)) a1 a2
end
def Zdn:Code->Nat
 | .region id _ _=>id
 | .seq x _=>Zdn x
 | .block _ x=>Zdn x
 | .loop x=>Zdn x
 | _=>1000000
def brJ (J:List Nat) (G:Gl) (n:Nat) (x:Code) (v:St->Prop) (st:St):Prop :=
 match x with
 | .seq y _=>bif inL J (1000000+Zdn y) then Zer G n v st else v st
 | .region id _ _=>bif inL J (1000000+id) then Zer G n v st else v st
 | _=>v st
def vcS (J:List Nat) (P:Program) (T:Tab) (F:FuncId->Bool) (G:Gl) (n:Nat):Code->St->Post->Prop
 | .skip,st,Q=>Q .normal st
 | .region _ ops false,st,Q=>Zye P T F G ops (Q .normal) Q ops.toList st
 | .region _ ops true,⟨env,h,df⟩,Q=>∃pp:Option Nat,ZBQ P T F G ops Q pp env h df
 | .seq x y,st,Q=>vcS J P T F G n x st (λe st'=>match e with | .normal=>bif inL J (Zdn y) then Zer G n (λaw=>vcS J P T F G n y aw Q) st' else vcS J P T F G n y st' Q | e=>Q e st')
 | .cond c x y,st,Q=>ZfP (sv G st c) (brJ J G n x (vcS J P T F G n x · Q) st) (brJ J G n y (vcS J P T F G n y · Q) st)
 | .block id x,st,Q=>vcS J P T F G n x st (λe st'=>match e with | .exit i=>bif Nat.beq i id then Q .normal st' else Q (.exit i) st' | e=>Q e st')
 | .loop x,st,Q=>Zz3 G n (vcS J P T F G n x) (ZbK x) st Q
 | .exit id,st,Q=>Q (.exit id) st
 | .ret,st,Q=>Q .ret st
 | _,_,_=>False
section
variable {P:Program} {T:Tab} {F:FuncId->Bool} {C:Ctx} {n:Nat}
theorem ZbA (J:List Nat) (hT:TabOk P T) (hF:∀g,F g=true->fnOk P g=true) (hM:P.follows .mixedOrders=true):∀(c:Code) (S:List Nat),(∀k∈ZbK c,k < n)->(∀k∈ZbK c,inL S k=true)->∀(C:Ctx) (st:St) (a:Act) (w:World) (Q:Post),vcS J P T F C.G n c st Q->Rel C n st a w ->
  c.wp P (λe a' w'=>ZaL S a a'/\∃x st',Q x st'/\XOk e x st' a' w' C n) a w:=by
 intro c
 induction c with
 | skip=>intro S _ _ C st a w Q h hr;exact wp_skip ⟨ZaL.refl _ _,.normal,st,h,hr⟩
 | region id ops draw =>
  intro S hs hm C st a w Q h hr;cases draw with
  | true =>obtain ⟨env,hp,df⟩:=st;exact ZpA hT hF hM S hs hm h hr
  | false =>
   refine wp_region_list (Znu hT hF (K:=Q .normal) (Q:=Q) (a0:=a) (S:=S) (λst a w hq hr hk=>⟨hk,.normal,st,hq,hr⟩) (λd st ch a w hq hx hk=>⟨hk,.pan d,st,hq,hx⟩) ops.toList (λo ho d hd=>?_) st a w h hr (ZaL.refl _ _));have:d∈ZbK (.region id ops false):=by simp only[ZbK,YaO];exact ⟨o,ho,hd⟩
   exact ⟨hs d this,hm d this⟩
 | seq x y kZ kY =>
  intro S hs hm C st a w Q h hr;simp only[ZbK,Yar] at hs hm;refine wp_seq (Code.wp_mono ?_ (kZ S (λk hk=>hs k (.inl hk)) (λk hk=>hm k (.inl hk)) C st a w _ h hr));rintro e a' w' ⟨hk,x,st',hq,hx⟩;cases e with
  | normal =>
   cases x<;>try exact hx.elim
   have lH:∃aw,vcS J P T F C.G n y aw Q/\Rel C n aw a' w':=by
    have hq:(bif inL J (Zdn y) then Zer C.G n (λaw=>vcS J P T F C.G n y aw Q) st' else vcS J P T F C.G n y st' Q):=hq;cases hb:inL J (Zdn y) with
    | true=>rw[hb] at hq;obtain ⟨aw,ht,bJ⟩:=hq;exact ⟨aw,bJ,ht C a' w' rfl hx⟩
    | false=>rw[hb] at hq;exact ⟨st',hq,hx⟩
   obtain ⟨aw,lG,cS⟩:=lH;refine Code.wp_mono ?_ (kY S (λk hk=>hs k (.inr hk)) (λk hk=>hm k (.inr hk)) C aw a' w' Q lG cS);rintro e uB bH ⟨ae,rest⟩;exact ⟨hk.trans ae,rest⟩
  | exit i=>cases x<;>first | exact hx.elim | exact ⟨hk,_,st',hq,hx⟩
  | ret=>cases x<;>first | exact hx.elim | exact ⟨hk,_,st',hq,hx⟩
  | panic ch=>cases x<;>first | exact hx.elim | exact ⟨hk,_,st',hq,hx⟩
  | goto l=>cases x<;>exact hx.elim
  | outgrown=>cases x<;>exact hx.elim
 | cond c x y kZ kY =>
  intro S hs hm C st a w Q h hr;simp only[ZbK,Yar] at hs hm;obtain ⟨ah,bf,β,V,ab,he⟩:=hr;obtain ⟨b,hv,ht,hf⟩:=ZfP.use h (he.eval ab.gl c);refine wp_cond hv ?_;have iy:∀{z:Code},brJ J C.G n z (vcS J P T F C.G n z · Q) st->∃aw,vcS J P T F C.G n z aw Q/\Rel C n aw a w:=fun {z} h=>by
   have stay:vcS J P T F C.G n z st Q->∃aw,vcS J P T F C.G n z aw Q/\Rel C n aw a w:=λh=>⟨st,h,ah,bf,β,V,ab,he⟩;have qk:∀b:Bool,(bif b then Zer C.G n (vcS J P T F C.G n z · Q) st else vcS J P T F C.G n z st Q)->∃aw,vcS J P T F C.G n z aw Q/\Rel C n aw a w:=λb h=>by
    cases b with
    | true=>obtain ⟨aw,ht,bJ⟩:=h;exact ⟨aw,bJ,ht C a w rfl ⟨ah,bf,β,V,ab,he⟩⟩
    | false=>exact stay h
   cases z<;>first | exact stay h | exact qk _ h
  cases b with
  | true=>obtain ⟨aw,k1,k2⟩:=iy (ht rfl);exact kZ S (λk hk=>hs k (.inl hk)) (λk hk=>hm k (.inl hk)) C aw a w Q k1 k2
  | false=>obtain ⟨aw,k1,k2⟩:=iy (hf rfl);exact kY S (λk hk=>hs k (.inr hk)) (λk hk=>hm k (.inr hk)) C aw a w Q k1 k2
 | block id x ih =>
  intro S hs hm C st a w Q h hr;refine wp_block (Code.wp_mono ?_ (ih S hs hm C st a w _ h hr));rintro e a' w' ⟨hk,x,st',hq,hx⟩;cases e with
  | exit i =>
   cases x<;>try exact hx.elim
   obtain ⟨rfl,hx⟩:=hx;simp only[Exit.inBlock];by_cases hi:i=id
   ·subst hi;rw[if_pos rfl];simp only[YaY,cond_true] at hq;exact ⟨hk,_,st',hq,hx⟩
   ·rw[if_neg hi];have:Nat.beq i id=false:=Zc5 hi;simp only[this,cond_false] at hq;exact ⟨hk,_,st',hq,rfl,hx⟩
  | normal=>cases x<;>first | exact hx.elim | exact ⟨hk,_,st',hq,hx⟩
  | ret=>cases x<;>first | exact hx.elim | exact ⟨hk,_,st',hq,hx⟩
  | panic ch=>cases x<;>first | exact hx.elim | exact ⟨hk,_,st',hq,hx⟩
  | goto l=>cases x<;>exact hx.elim
  | outgrown=>cases x<;>exact hx.elim
 | loop x ih =>
  intro S hs hm C st a w Q h hr;obtain ⟨ι,I,μ,fv,cZ⟩:=h;obtain ⟨ah,bf,β,V,ab,he⟩:=hr
  let C':Ctx:=⟨w,λk=>∃i o,st.h[i]?=some o/\o.live=true/\Bk o (β i) k,V,C.G⟩
  have bO:RelD C' st.h β V w:=Zgf ab;have aL:Rel C' n st a w:=⟨ah,bf,β,V,bO,he⟩;have back:∀e y bR a2 w2,XOk e y bR a2 w2 C' n->XOk e y bR a2 w2 C n:=by
   intro e y bR a2 w2 hx;have key:∀bR a2 w2,Rel C' n bR a2 w2->Rel C n bR a2 w2:=λbR a2 w2 ⟨h1,h2,β2,V2,h3,h4⟩=>⟨h1,h2,β2,V2,Znh ab h3,h4⟩;cases e<;>cases y<;>try exact hx.elim
   ·exact key _ _ _ hx
   ·exact ⟨hx.1,key _ _ _ hx.2⟩
   ·exact key _ _ _ hx
   ·obtain ⟨t,u,h0,h1,h2,β2,V2,h3,h4,h5⟩:=hx;exact ⟨t,u,h0,h1,h2,β2,V2,Znh ab h3,h4,h5⟩
  have eX:∀a',ZaL (ZbK x) a a'->ZBN C' st (ZbK x) a':=λa' hk=>⟨λk hv ⟨i,o,h1,h2,h3⟩=>ab.vout i o k h1 h2 h3 hv,ab.vlt,a,β,he,hk⟩
  let J:ι->Act->World->Prop:=λi a' w'=>∃aw,I i aw/\Rel C' n aw a' w'/\ZaL (ZbK x) a a'/\ZaL S a a'
  obtain ⟨i0,eY,dR,sE⟩:=fv C' a w rfl aL
  classical
  have least:∀(a':Act) (w':World),(∃i,J i a' w')->∃i,J i a' w'/\∀j,J j a' w'->μ i<=μ j:=by
   intro a' w' hex;have wf:∀m,∀i,μ i=m->J i a' w'->∃i,J i a' w'/\∀j,J j a' w'->μ i<=μ j:=by
    intro m
    induction m using Nat.strongRecOn with
    | _ m jP =>
     intro i hi hJ;by_cases av:∀j,J j a' w'->μ i<=μ j
     ·exact ⟨i,hJ,av⟩
     ·have ⟨j,hj⟩:=Classical.not_forall.1 av;have ⟨sB,aG⟩:=Classical.not_imp.1 hj;exact jP (μ j) (by omega) j rfl sB
   obtain ⟨i,hi⟩:=hex;exact wf _ i rfl hi
  let ν:Act->World->Nat:=λa' w'=>if hex:∃i,J i a' w' then μ (Classical.choose (least a' w' hex)) else 0
  have hν:∀a' w',(∃i,J i a' w')->∃i,J i a' w'/\ν a' w'=μ i:=by intro a' w' hex;refine ⟨Classical.choose (least a' w' hex),(YbP (least a' w' hex)).1,?_⟩;simp only[ν,dif_pos hex]
  have hνle:∀a' w' j,J j a' w'->ν a' w'<=μ j:=by intro a' w' j hj;have hex:∃i,J i a' w':=⟨j,hj⟩;simp only[ν,dif_pos hex];exact (YbP (least a' w' hex)).2 j hj
  refine wp_loop (λa' w'=>∃i,J i a' w') ν ⟨i0,eY,sE,dR,ZaL.refl _ _,ZaL.refl _ _⟩ ?_;intro a1 w1 hex;obtain ⟨i,⟨aw,hI,dG,bJ,bS⟩,hνi⟩:=hν a1 w1 hex;have hb:=ih (ZbK x) hs (λk hk=>ZbO.2 hk) C' aw a1 w1 _ (cZ i aw hI) dG;refine Code.wp_mono ?_ hb;rintro e a2 w2 ⟨hk,y,bR,hq,hx⟩;have j7:ZaL S a1 a2:=λk ae=>hk k (by
   cases h:inL (ZbK x) k with
   | false=>rfl
   | true=>rw[hm k (ZbO.1 h)] at ae;cases ae)
  cases e with
  | normal =>
   cases y<;>try exact hx.elim
   obtain ⟨i',qm,eF,sD,aG⟩:=hq C' a2 w2 rfl hx (eX a2 (bJ.trans hk));have hJ:J i' a2 w2:=⟨qm,sD,eF,bJ.trans hk,bS.trans j7⟩;refine ⟨⟨i',hJ⟩,?_⟩;have:=hνle a2 w2 i' hJ;rw[hνi];omega
  | exit j=>cases y<;>first | exact hx.elim | exact ⟨bS.trans j7,_,bR,hq,back _ _ _ _ _ hx⟩
  | ret=>cases y<;>first | exact hx.elim | exact ⟨bS.trans j7,_,bR,hq,back _ _ _ _ _ hx⟩
  | panic ch=>cases y<;>first | exact hx.elim | exact ⟨bS.trans j7,_,bR,hq,back _ _ _ _ _ hx⟩
  | goto l=>cases y<;>exact hx.elim
  | outgrown=>cases y<;>exact hx.elim
 | exit id=>intro S _ _ C st a w Q h hr;exact wp_exit ⟨ZaL.refl _ _,.exit id,st,h,rfl,hr⟩
 | ret=>intro S _ _ C st a w Q h hr;exact wp_ret ⟨ZaL.refl _ _,.ret,st,h,hr⟩
 | _=>intro S _ _ C st a w Q h hr;exact h.elim
end
section
variable {P:Program} {T:Tab} {F:FuncId->Bool} {G:Gl}
theorem Zq5 (J:List Nat) (hT:TabOk P T) (hF:∀g,F g=true->fnOk P g=true) (hM:Mix P) {f:FuncId} {fn:Func} {c:Code} (hf:P.funcs[f]?=some fn) (hb:fn.body=some c) (N:Nat) (hN:fn.ntmps=N) (hs:Zhx N (ZbK c)=true) (rs:List ResultVar) (ca:fn.results.toList=rs)
  (args:List D) (bn:Nat.ble args.length N=true) (Q:Out->Prop) (h:vcS J P T F G N c ⟨Zdz args,[],[]⟩ (Fin T rs Q)):CT P G f args Q:=by
 subst hN;subst ca;intro w V aa hV hG an;have hlen:=an.len;have bn:=Yau bn;refine calls_of_wp hf hb ?_;have dS:∀(ds:List D) (vs:List Value),Zaa [] (λ_=>undef) V w ds vs->∀i,Zab [] (λ_=>undef) V w (nth .any ds i) (vs.getD i undef):=by
  intro ds
  induction ds with
  | nil=>intro vs _ i;simp only[nth,Zab]
  | cons d ds ih =>
   intro vs h i;simp only[Zaa] at h;obtain ⟨v,us,rfl,h1,h2⟩:=h;cases i with
   | zero=>simpa [nth] using h1
   | succ i=>simpa [nth] using ih us h2 i
 have hr:Rel ⟨w,λ_=>False,V,G⟩ fn.ntmps ⟨Zdz args,[],[]⟩ { tmps:=(⟨aa⟩:Array Value)++Array.replicate (fn.ntmps - (⟨aa⟩:Array Value).size) undef,defers:=[] } w:=by
  refine ⟨by simp;omega,rfl,λ_=>undef,V,Zhq hV hG,λi=>?_⟩;have h1:=dS args aa an i;have h2:((⟨aa⟩:Array Value)++Array.replicate (fn.ntmps - (⟨aa⟩:Array Value).size) undef).getD i undef=aa.getD i undef:=by
   rw[Yao,YaG];by_cases hi:i < aa.length
   ·rw[Yba (by simpa using hi)];simp
   ·rw[Ybk (by simp;omega),Ya9 (by omega)];rw[Ya0];split<;>rfl
  rw[h2];exact h1
 have aG:=ZcA hs;refine Code.wp_mono ?_ (ZbA J hT hF hM.ok c (ZbK c) aG (λk hk=>ZbO.2 hk) ⟨w,λ_=>False,V,G⟩ _ _ w _ h hr);rintro e a' w' ⟨_,x,st',hq,hx⟩;have ret:∀{st':St},Rel ⟨w,λ_=>False,V,G⟩ fn.ntmps st' a' w'->(match ZiU T st' fn.results.toList with | some ds=>Zcd ds λds=>st'.df=[]/\Zby Q st'.h (Zd6 ds) | none=>False) ->
   a'.defers=[]/\∃v,(results fn a'.tmps).run P w'=.ok v w'/\ZpO G Q V w (.returned v) w':=by
  rintro st' ⟨_,bf,β,V',ab,he⟩ hq;cases bN:ZiU T st' fn.results.toList with
  | none=>rw[bN] at hq;exact hq.elim
  | some ds =>rw[bN] at hq;simp only[Zba] at hq;obtain ⟨gK,src,d',h',ht,hQ⟩:=hq;obtain ⟨v,cF,cu⟩:=Zcg hT ab he bN;obtain ⟨h1,h2⟩:=ht.use ab cu;simp only[Zaa] at h2;obtain ⟨v',us,e,h3,_⟩:=h2;injection e with e1 e2;subst e1;exact ⟨bf.trans gK,v,cF,d',h',_,_,hQ,h1,h3⟩
 cases e with
 | normal =>
  cases x<;>try exact hx.elim
  exact ret hx hq
 | ret =>
  cases x<;>try exact hx.elim
  exact ret hx hq
 | panic ch =>
  cases x<;>try exact hx.elim
  obtain ⟨t,u,oV,ah,bf,β,V',ab,he,hd⟩:=hx;obtain ⟨gK,d',ht,hQ⟩:=hq;obtain ⟨h1,h2⟩:=ht.use ab (vs:=[.iface t u]) (by simp only[Zaa];exact ⟨_,_,rfl,hd,rfl⟩);simp only[Zaa] at h2;obtain ⟨v',us,e,h3,_⟩:=h2;injection e with e1 e2;subst e1;exact ⟨bf.trans gK,d',t,u,_,_,oV,hQ,h1,h3⟩
 | exit i=>cases x<;>first | exact hx.elim | exact hq.elim
 | goto l=>cases x<;>exact hx.elim
 | outgrown=>cases x<;>exact hx.elim
def ZnL (J:List Nat) (P:Program) (T:Tab) (F:FuncId->Bool) (G:Gl) (n:Nat) (y:Code) (Q:Post):Post
 | .normal,st'=>Hold (vcS J P T F G n y st' Q)
 | e,st'=>Q e st'
theorem ZBr {J:List Nat} {n:Nat} {v:St->Prop} {st:St} (h:v st):brJ J G n .skip v st:=h
theorem ZoR {J:List Nat} {n:Nat} {x y:Code} {st:St} {Q:Post} (hJ:inL J (Zdn y)=false) (h:vcS J P T F G n x st (ZnL J P T F G n y Q)):vcS J P T F G n (.seq x y) st Q:=by
 have e:ZnL J P T F G n y Q=(λe st'=>match e with | .normal=>bif inL J (Zdn y) then Zer G n (λaw=>vcS J P T F G n y aw Q) st' else vcS J P T F G n y st' Q | e=>Q e st'):=by
  funext e st';cases e with
  | normal=>rw[hJ];exact propext ⟨Hold.out,Hold.mk⟩
  | _=>rfl
 rw[e] at h;exact h
theorem ZAZ {J:List Nat} {n:Nat} {x y:Code} {env:Env} {h:Zae} {df:List Deferred} {Q:Post} {ι:Type} (hJ:inL J (Zdn y)=false) (val:ι->List (Nat × D)) (cK:ι->Zae) (Inv:ι->Prop)
  (tail:∀(e0:Env) (i:ι),Inv i->vcS J P T F G n y ⟨Env.many e0 (val i),cK i,df⟩ Q)
  (head:∀Rd:St->Prop,(∀(i:ι) (e:Env),ZsG e (val i)->Inv i->Rd ⟨e,cK i,df⟩)->vcS J P T F G n x ⟨env,h,df⟩ (Zeh Rd Q)) :
  vcS J P T F G n (.seq x y) ⟨env,h,df⟩ Q:=by
 have hh:=head (λst'=>vcS J P T F G n y st' Q) (λi e ha hi=>by
  have:=tail e i hi;rw[ZfA ha] at this;exact this)
 have e:Zeh (λst'=>vcS J P T F G n y st' Q) Q=(λe st'=>match e with | .normal=>bif inL J (Zdn y) then Zer G n (λaw=>vcS J P T F G n y aw Q) st' else vcS J P T F G n y st' Q | e=>Q e st'):=by
  funext e st';cases e with
  | normal=>rw[hJ];rfl
  | _=>rfl
 rw[e] at hh;exact hh
end
end Go.Dm
